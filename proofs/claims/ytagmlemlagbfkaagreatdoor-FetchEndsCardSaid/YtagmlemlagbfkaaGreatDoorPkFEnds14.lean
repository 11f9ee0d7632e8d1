/- FetchEnds: the loop that says which mirrors have which chunks. -/
import Derived.Test.YtagmlemlagbfkaaGreatDoorPkFEnds2
import Derived.Test.YtagmlemlagbfkaaGreatDoorPkFEnds13
namespace Go.Proofs.YtagmlemlagbfkaaGreatDoor
open Go.RowKit
set_option linter.unusedVariables false
set_option linter.unusedSimpArgs false
attribute [local irreducible] Calls

abbrev tIIE : TypeId := 80
abbrev tI1E : TypeId := 22
theorem infoIIE : (Tryz.prog.info? tI1E).map (fun i => (i.zero, i.size, i.bytes)) = some (some (.slice none 0 0), 1, 24) := by kernel_rfl
/-- Own slices of numbers, beside an own slice of them. -/
structure RowsO (B : Nat) (w : World) (v : Value) (C : List (Value × List Int)) : Prop where
  own : w.ownsRow B tI1E 1 v C.length (C.map (·.1))
  each : ∀ c ∈ C, w.ownsRow B 3 1 c.1 c.2.length (c.2.map intD)
theorem RowsO.rows {B : Nat} {w : World} {v : Value} {C : List (Value × List Int)} (h : RowsO B w v C) : RowsI w v C :=
  ⟨⟨_, _, Sl.of_owns h.own⟩, fun c hc => ⟨_, _, Sl.of_owns (h.each c hc)⟩⟩
theorem RowsO.nw {B : Nat} {w w' : World} {v : Value} {C : List (Value × List Int)} (h : RowsO B w v C) (u : Nw w w') : RowsO B w' v C :=
  ⟨owns_upd' h.own u (fun _ _ e => e), fun c hc => owns_upd' (h.each c hc) u (fun _ _ e => e)⟩
theorem RowsO.nil (B : Nat) (w : World) : RowsO B w (.slice none 0 0) [] := ⟨World.ownsRow_nil _ _ _ _, fun c hc => by cases hc⟩
theorem RowsO.snoc {B : Nat} {w w' : World} {v v' x : Value} {C : List (Value × List Int)} {l : List Int} (h : RowsO B w v C) (hx : w.ownsRow B 3 1 x l.length (l.map intD)) (u : Upd (fun k => v.ownBlock = some k) w w') (o : w'.ownsRow B tI1E 1 v' (C.length + 1) (C.map (·.1) ++ [x])) : RowsO B w' v' (C ++ [(x, l)]) := by
  refine ⟨by rw [List.length_append, List.map_append]; exact o, fun c hc => ?_⟩
  rcases List.mem_append.1 hc with hc | hc
  · exact owns_upd' (h.each c hc) u (fun k e e2 => own_ne2 (h.each c hc) h.own (by decide) e e2)
  · rw [List.mem_singleton.1 hc]
    exact owns_upd' hx u (fun k e e2 => own_ne2 hx h.own (by decide) e e2)
/-- After i rounds. -/
def EndI (z : World) (mc : List Int) (C : List (Value × List Int)) (i : Nat) (v : Value) (w : World) : Prop :=
  Nw z w ∧ ∃ C' : List (Value × List Int), RowsO z.heap.size w v C' ∧ C'.map (·.2) = (C.take i).map fun c => Ft.ownN mc c.2 40
theorem EndI.len {z : World} {mc : List Int} {C : List (Value × List Int)} {i : Nat} {v : Value} {w : World} (h : EndI z mc C i v w) (hi : i ≤ C.length) : ∃ a c, v = .slice a i c := by
  obtain ⟨_, C', h1, h2⟩ := h
  have e : C'.length = i := by
    have := congrArg List.length h2
    rw [List.length_map, List.length_map, List.length_take] at this
    omega
  have := own_slG h1.own
  rw [e] at this
  exact this
theorem own_all {mc h : List Int} {k : Nat} (hk : h.length ≤ k) : Ft.ownN mc h k = Ft.ownN mc h h.length := by
  unfold Ft.ownN; rw [List.take_of_length_le hk, List.take_of_length_le (Nat.le_refl _)]
set_option maxHeartbeats 8000000 in
set_option maxRecDepth 100000 in
theorem fe_have {W z : World} (hWz : Nw W z) (hg : nG ≤ z.heap.size) (ah : Option Addr) (ch : Nat) (C : List (Value × List Int)) (hC : RowsI W (.slice ah C.length ch) C) (hC6 : C.length ≤ 6) (mb : Nat) (am : Option Addr) (cm : Nat) (mc : List Int) (hm : mc.length ≤ 60) (lo hi : Nat) (hmc : Sl lo hi z (.slice am mc.length cm) (mc.map intD))
    (hmb : z.cell? ⟨mb, 2, none⟩ = some (.slice am mc.length cm))
    (K0 : Act → World → Prop) { c0 c1 c3 c4 c5 c6 c7 c8 c9 c10 c11 c13 c14 c20 c21 c22 c23 c24 c25 c26 c27 c28 c29 c30 c31 c32 c33 c34 c35 c36 c37 c38 c39 c40 c41 c42 c43 c44 c45 c46 c47 c48 c49 c50 c51 c52 c53 c54 c55 c56 c57 c58 c59 c60 c61 c62 c63 c64 c65 c66 c67 c68 c69 c70 c71 c72 c73 c121 c122 c123 c124 c125 c126 c127 c128 c129 c130 c131 c132 c133 c134 c135 c136 c137 c138 c139 c140 c141 c142 c143 c144 c145 c146 c147 c148 c149 c150 c151 c152 c153 c154 c155 c156 c157 c158 c159 c160 c161 c162 c163 c164 c165 c166 c167 c168 c169 c170 c171 c172 c173 c174 c175 c176 c177 c178 c179 c180 c181 c182 c183 c184 c185 c186 c187 c188 c189 c190 c191 c192 c193 c194 c195 c196 c197 c198 c199 c200 c201 c202 c203 c204 c205 c206 c207 c208 c209 c210 c211 c212 c213 c214 c215 c216 c217 c218 c219 c220 c221 c222 c223 c224 c225 c226 c227 c228 c229 c230 c231 c232 c233 c234 c235 c236 c237 c238 c239 c240 c241 c242 c243 c244 c245 c246 c247 c248 c249 c250 c251 c252 c253 c254 c255 c256 c257 c258 c259 c260 c261 c262 c263 c264 c265 c266 c267 c268 c269 c270 c271 c272 c273 c274 c275 c276 c277 c278 c279 c280 c281 c282 c283 c284 c285 c286 c287 c288 c289 c290 c291 c292 c293 c294 c295 c296 c297 c298 c299 c300 c301 c302 c303 c304 c305 c306 c307 c308 c309 c310 c311 c312 c313 c314 c315 c316 c317 c318 c319 c320 c321 c322 c323 c324 c325 c326 c327 c328 c329 c330 c331 c332 c333 c334 c335 c336 c337 c338 c339 c340 c341 c342 c343 c344 c345 c346 c347 c348 c349 c350 c351 c352 c353 c354 c355 c356 : Value} { u17 u18 u19 u74 u75 u76 u77 u78 u79 u80 u81 u82 u83 u84 u85 u86 u87 u88 u89 u90 u91 u92 u93 u94 u95 u96 u97 u98 u99 u100 u101 u102 u103 u104 u105 u106 u107 u108 u109 u110 u111 u112 u113 u114 u115 u116 u117 u118 u119 u120 : Value} {c : Code} (hc : loopAt Tryz.f5 0 = c)
    (hexit : ∀ (u17 u18 u19 u74 u75 u76 u77 u78 u79 u80 u81 u82 u83 u84 u85 u86 u87 u88 u89 u90 u91 u92 u93 u94 u95 u96 u97 u98 u99 u100 u101 u102 u103 u104 u105 u106 u107 u108 u109 u110 u111 u112 u113 u114 u115 u116 u117 u118 u119 u120 v : Value) (w' : World), EndI z mc C C.length v w' → K0 ⟨(List.toArray (c0 :: c1 :: (.slice ah C.length ch) :: c3 :: c4 :: c5 :: c6 :: c7 :: c8 :: c9 :: c10 :: c11 :: (.pointer (some ⟨mb, 0, none⟩)) :: c13 :: c14 :: (v) :: (.int .i64 (C.length : Int)) :: u17 :: u18 :: u19 :: c20 :: c21 :: c22 :: c23 :: c24 :: c25 :: c26 :: c27 :: c28 :: c29 :: c30 :: c31 :: c32 :: c33 :: c34 :: c35 :: c36 :: c37 :: c38 :: c39 :: c40 :: c41 :: c42 :: c43 :: c44 :: c45 :: c46 :: c47 :: c48 :: c49 :: c50 :: c51 :: c52 :: c53 :: c54 :: c55 :: c56 :: c57 :: c58 :: c59 :: c60 :: c61 :: c62 :: c63 :: c64 :: c65 :: c66 :: c67 :: c68 :: c69 :: c70 :: c71 :: c72 :: c73 :: u74 :: u75 :: u76 :: u77 :: u78 :: u79 :: u80 :: u81 :: u82 :: u83 :: u84 :: u85 :: u86 :: u87 :: u88 :: u89 :: u90 :: u91 :: u92 :: u93 :: u94 :: u95 :: u96 :: u97 :: u98 :: u99 :: u100 :: u101 :: u102 :: u103 :: u104 :: u105 :: u106 :: u107 :: u108 :: u109 :: u110 :: u111 :: u112 :: u113 :: u114 :: u115 :: u116 :: u117 :: u118 :: u119 :: u120 :: c121 :: c122 :: c123 :: c124 :: c125 :: c126 :: c127 :: c128 :: c129 :: c130 :: c131 :: c132 :: c133 :: c134 :: c135 :: c136 :: c137 :: c138 :: c139 :: c140 :: c141 :: c142 :: c143 :: c144 :: c145 :: c146 :: c147 :: c148 :: c149 :: c150 :: c151 :: c152 :: c153 :: c154 :: c155 :: c156 :: c157 :: c158 :: c159 :: c160 :: c161 :: c162 :: c163 :: c164 :: c165 :: c166 :: c167 :: c168 :: c169 :: c170 :: c171 :: c172 :: c173 :: c174 :: c175 :: c176 :: c177 :: c178 :: c179 :: c180 :: c181 :: c182 :: c183 :: c184 :: c185 :: c186 :: c187 :: c188 :: c189 :: c190 :: c191 :: c192 :: c193 :: c194 :: c195 :: c196 :: c197 :: c198 :: c199 :: c200 :: c201 :: c202 :: c203 :: c204 :: c205 :: c206 :: c207 :: c208 :: c209 :: c210 :: c211 :: c212 :: c213 :: c214 :: c215 :: c216 :: c217 :: c218 :: c219 :: c220 :: c221 :: c222 :: c223 :: c224 :: c225 :: c226 :: c227 :: c228 :: c229 :: c230 :: c231 :: c232 :: c233 :: c234 :: c235 :: c236 :: c237 :: c238 :: c239 :: c240 :: c241 :: c242 :: c243 :: c244 :: c245 :: c246 :: c247 :: c248 :: c249 :: c250 :: c251 :: c252 :: c253 :: c254 :: c255 :: c256 :: c257 :: c258 :: c259 :: c260 :: c261 :: c262 :: c263 :: c264 :: c265 :: c266 :: c267 :: c268 :: c269 :: c270 :: c271 :: c272 :: c273 :: c274 :: c275 :: c276 :: c277 :: c278 :: c279 :: c280 :: c281 :: c282 :: c283 :: c284 :: c285 :: c286 :: c287 :: c288 :: c289 :: c290 :: c291 :: c292 :: c293 :: c294 :: c295 :: c296 :: c297 :: c298 :: c299 :: c300 :: c301 :: c302 :: c303 :: c304 :: c305 :: c306 :: c307 :: c308 :: c309 :: c310 :: c311 :: c312 :: c313 :: c314 :: c315 :: c316 :: c317 :: c318 :: c319 :: c320 :: c321 :: c322 :: c323 :: c324 :: c325 :: c326 :: c327 :: c328 :: c329 :: c330 :: c331 :: c332 :: c333 :: c334 :: c335 :: c336 :: c337 :: c338 :: c339 :: c340 :: c341 :: c342 :: c343 :: c344 :: c345 :: c346 :: c347 :: c348 :: c349 :: c350 :: c351 :: c352 :: c353 :: c354 :: c355 :: c356 :: [])), []⟩ w') :
    Code.wp Tryz.prog c (Exit.then K0 (fun _ _ _ => False)) ⟨(List.toArray (c0 :: c1 :: (.slice ah C.length ch) :: c3 :: c4 :: c5 :: c6 :: c7 :: c8 :: c9 :: c10 :: c11 :: (.pointer (some ⟨mb, 0, none⟩)) :: c13 :: c14 :: (.slice none 0 0) :: (.int .i64 0) :: u17 :: u18 :: u19 :: c20 :: c21 :: c22 :: c23 :: c24 :: c25 :: c26 :: c27 :: c28 :: c29 :: c30 :: c31 :: c32 :: c33 :: c34 :: c35 :: c36 :: c37 :: c38 :: c39 :: c40 :: c41 :: c42 :: c43 :: c44 :: c45 :: c46 :: c47 :: c48 :: c49 :: c50 :: c51 :: c52 :: c53 :: c54 :: c55 :: c56 :: c57 :: c58 :: c59 :: c60 :: c61 :: c62 :: c63 :: c64 :: c65 :: c66 :: c67 :: c68 :: c69 :: c70 :: c71 :: c72 :: c73 :: u74 :: u75 :: u76 :: u77 :: u78 :: u79 :: u80 :: u81 :: u82 :: u83 :: u84 :: u85 :: u86 :: u87 :: u88 :: u89 :: u90 :: u91 :: u92 :: u93 :: u94 :: u95 :: u96 :: u97 :: u98 :: u99 :: u100 :: u101 :: u102 :: u103 :: u104 :: u105 :: u106 :: u107 :: u108 :: u109 :: u110 :: u111 :: u112 :: u113 :: u114 :: u115 :: u116 :: u117 :: u118 :: u119 :: u120 :: c121 :: c122 :: c123 :: c124 :: c125 :: c126 :: c127 :: c128 :: c129 :: c130 :: c131 :: c132 :: c133 :: c134 :: c135 :: c136 :: c137 :: c138 :: c139 :: c140 :: c141 :: c142 :: c143 :: c144 :: c145 :: c146 :: c147 :: c148 :: c149 :: c150 :: c151 :: c152 :: c153 :: c154 :: c155 :: c156 :: c157 :: c158 :: c159 :: c160 :: c161 :: c162 :: c163 :: c164 :: c165 :: c166 :: c167 :: c168 :: c169 :: c170 :: c171 :: c172 :: c173 :: c174 :: c175 :: c176 :: c177 :: c178 :: c179 :: c180 :: c181 :: c182 :: c183 :: c184 :: c185 :: c186 :: c187 :: c188 :: c189 :: c190 :: c191 :: c192 :: c193 :: c194 :: c195 :: c196 :: c197 :: c198 :: c199 :: c200 :: c201 :: c202 :: c203 :: c204 :: c205 :: c206 :: c207 :: c208 :: c209 :: c210 :: c211 :: c212 :: c213 :: c214 :: c215 :: c216 :: c217 :: c218 :: c219 :: c220 :: c221 :: c222 :: c223 :: c224 :: c225 :: c226 :: c227 :: c228 :: c229 :: c230 :: c231 :: c232 :: c233 :: c234 :: c235 :: c236 :: c237 :: c238 :: c239 :: c240 :: c241 :: c242 :: c243 :: c244 :: c245 :: c246 :: c247 :: c248 :: c249 :: c250 :: c251 :: c252 :: c253 :: c254 :: c255 :: c256 :: c257 :: c258 :: c259 :: c260 :: c261 :: c262 :: c263 :: c264 :: c265 :: c266 :: c267 :: c268 :: c269 :: c270 :: c271 :: c272 :: c273 :: c274 :: c275 :: c276 :: c277 :: c278 :: c279 :: c280 :: c281 :: c282 :: c283 :: c284 :: c285 :: c286 :: c287 :: c288 :: c289 :: c290 :: c291 :: c292 :: c293 :: c294 :: c295 :: c296 :: c297 :: c298 :: c299 :: c300 :: c301 :: c302 :: c303 :: c304 :: c305 :: c306 :: c307 :: c308 :: c309 :: c310 :: c311 :: c312 :: c313 :: c314 :: c315 :: c316 :: c317 :: c318 :: c319 :: c320 :: c321 :: c322 :: c323 :: c324 :: c325 :: c326 :: c327 :: c328 :: c329 :: c330 :: c331 :: c332 :: c333 :: c334 :: c335 :: c336 :: c337 :: c338 :: c339 :: c340 :: c341 :: c342 :: c343 :: c344 :: c345 :: c346 :: c347 :: c348 :: c349 :: c350 :: c351 :: c352 :: c353 :: c354 :: c355 :: c356 :: [])), []⟩ z := by
  subst hc
  have HWZ := Lib.hid hWz
  have HG := Lib.hid hg
  have HCE := Lib.hid hC.each
  have HCC := Lib.hid hC.cells
  have HMC := Lib.hid (int_cells hmc)
  have HMB := Lib.hid hmb
  have HEX := Lib.hid hexit
  have hC1 : (C.length : Int) ≤ 6 := by omega
  have hm1 : (mc.length : Int) ≤ 60 := by omega
  clear hWz hg hC hmc hexit hmb
  conv => arg 2; whnf
  go_wp2_with fail
  go_loopw [15, 16] (fun vo iv wr => ∃ i : Nat, i ≤ C.length ∧ iv = .int .i64 (i : Int) ∧ Hid (EndI z mc C i vo wr)) (fun _ iv _ => C.length - (intOf iv).toNat)
  case atStart => exact ⟨0, Nat.zero_le _, rfl, Upd.refl _ _, [], RowsO.nil _ _, rfl⟩
  case round =>
    obtain ⟨i, hi, rfl, HJ⟩ := hrel
    obtain ⟨ao, co, rfl⟩ := HJ.out.len hi
    by_cases hlt : i < C.length
    · have hlt1 : (i : Int) < C.length := by omega
      obtain ⟨wo, hwo⟩ : ∃ y, y = wr := ⟨_, rfl⟩
      subst hwo
      rcases HCC.out with ⟨_, _, e, _, hnil | ⟨bh, oh, e2, _, hcell⟩⟩
      · simp [hnil] at hlt
      injection e with e3 e4 e5
      subst e3 e5
      subst e2
      have HNW := Lib.hid (HWZ.out.trans HJ.out.1)
      have HH0 := Lib.hid (hcell i hlt)
      obtain ⟨lo2, hi2, hs2⟩ := HCE.out C[i] (List.getElem_mem hlt)
      obtain ⟨ai, ci, hvi, hlm, hci⟩ := int_cells hs2
      have HVI := Lib.hid hvi
      have HCI := Lib.hid hci
      have hli : (C[i].2.length : Int) ≤ 9223372036854775807 := by unfold maxLen at hlm; omega
      clear hcell hs2 hvi hci hlm
      go_wp2_with fail
      go_loopw [17, 18] (fun ov kv wr => ∃ k : Nat, k ≤ 40 ∧ k ≤ C[i].2.length ∧ kv = .int .i64 (k : Int) ∧ Hid (wr.ownsRow wo.heap.size 3 1 ov (Ft.ownN mc C[i].2 k).length ((Ft.ownN mc C[i].2 k).map intD)) ∧ Hid (Nw wo wr)) (fun _ kv _ => 40 - (intOf kv).toNat)
      case atStart => exact ⟨0, by omega, by omega, rfl, World.ownsRow_nil _ _ _ _, Upd.refl _ _⟩
      case round =>
        obtain ⟨k, hk40, hkl, rfl, HO, U⟩ := hrel
        obtain ⟨aw, cw, rfl⟩ := own_slG HO.out
        have h0 := nw_cell (HNW.out.trans U.out) HH0.out
        rw [HVI.out] at h0
        have hk1 : (k : Int) ≤ 40 := by omega
        have hol := Ft.own_len mc C[i].2 k
        have hz1 : wo.heap.size ≤ wr.heap.size := U.out.size
        have hgz : nG ≤ wo.heap.size := Nat.le_trans HG.out HJ.out.1.size
        by_cases hend : k < C[i].2.length ∧ k < 40
        · obtain ⟨he1, he2⟩ := hend
          have he3 : (k : Int) < C[i].2.length := by omega
          have he4 : (k : Int) < 40 := by omega
          rcases HCI.out with hnil | ⟨bi, oi, hai, _, _, hcell⟩
          · simp [hnil] at he1
          subst hai
          have c0 := nw_cell (HNW.out.trans U.out) (hcell k he1)
          have HS := Lib.hid (Ft.own_succ (mc := mc) he1)
          have m0 := nw_cell (HJ.out.1.trans U.out) HMB.out
          clear hcell
          generalize C[i].2[k] = n at *
          by_cases hn0 : 0 ≤ n
          · have d0 : decide (0 ≤ n) = true := decide_eq_true hn0
            by_cases hn1 : n < mc.length
            · have d1 : decide (n < (mc.length : Int)) = true := decide_eq_true hn1
              obtain ⟨nn, rfl⟩ : ∃ k : Nat, n = k := ⟨n.toNat, by omega⟩
              have hnn : nn < mc.length := by omega
              rcases HMC.out with ⟨_, _, e, _, hnil | ⟨bm, om, e2, _, _, hcm⟩⟩
              · simp [hnil] at hnn
              injection e with e3 e4 e5
              subst e3 e5
              subst e2
              have c1 := nw_cell (HJ.out.1.trans U.out) (hcm nn hnn)
              have HS2 : Hid (Ft.ownN mc C[i].2 (k + 1) = Ft.ownN mc C[i].2 k ++ [mc[nn]]) := by
                show _ = _
                rw [HS.out, if_pos ⟨hn0, hn1⟩]
                simp [hnn]
              clear HS hcm
              generalize mc[nn] = q at *
              go_wp2_with (at_builtin; refine wpList_appL rfl _ _ 22 rfl wo.heap.size 3 _ 1 8 Tryz.underlying22 infoIntU rfl (by decide) _ _ _ rfl HO.out [.int .i64 q] rfl rfl ?c1 ?c2 ?c3 hz1 hgz ?_)
              case c1 => first | rfl | (intro u hu; rw [List.mem_singleton.1 hu]; rfl)
              case c2 => unfold maxLen; omega
              case c3 => omega
              intro v' w9 o9 u9 hob
              obtain ⟨a9, c9, rfl⟩ := own_slG o9
              have hfin : Hid (w9.ownsRow wo.heap.size 3 1 (.slice a9 ((Ft.ownN mc C[i].2 k).length + 1) c9) (Ft.ownN mc C[i].2 (k + 1)).length ((Ft.ownN mc C[i].2 (k + 1)).map intD)) := by
                show w9.ownsRow _ _ _ _ _ _
                rw [HS2.out, List.length_append, List.map_append]
                exact o9
              have hU : Hid (Nw wo w9) := U.out.trans' u9 (fun j hj e => by have := (HO.out.lt j e).1; omega)
              clear o9 u9 hob
              go_wp2_with fail
              go_roundw
              case rel => exact ⟨k + 1, by omega, by omega, by go_num, hfin, hU⟩
              case measure => simp [intOf]; omega
            · have d1 : decide (n < (mc.length : Int)) = false := decide_eq_false hn1
              have hfin : Hid (wr.ownsRow wo.heap.size 3 1 (.slice aw (Ft.ownN mc C[i].2 k).length cw) (Ft.ownN mc C[i].2 (k + 1)).length ((Ft.ownN mc C[i].2 (k + 1)).map intD)) := by
                show wr.ownsRow _ _ _ _ _ _
                rw [HS.out, if_neg (fun h => hn1 h.2), List.append_nil]
                exact HO.out
              clear HS hn1 hn0
              go_wp2_with fail
              go_roundw
              case rel => exact ⟨k + 1, by omega, by omega, by go_num, hfin, U⟩
              case measure => simp [intOf]; omega
          · have d0 : decide (0 ≤ n) = false := decide_eq_false hn0
            have hfin : Hid (wr.ownsRow wo.heap.size 3 1 (.slice aw (Ft.ownN mc C[i].2 k).length cw) (Ft.ownN mc C[i].2 (k + 1)).length ((Ft.ownN mc C[i].2 (k + 1)).map intD)) := by
              show wr.ownsRow _ _ _ _ _ _
              rw [HS.out, if_neg (fun h => hn0 h.1), List.append_nil]
              exact HO.out
            clear HS hn0
            go_wp2_with fail
            go_roundw
            case rel => exact ⟨k + 1, by omega, by omega, by go_num, hfin, U⟩
            case measure => simp [intOf]; omega
        · have hend2 : Ft.ownN mc C[i].2 k = Ft.ownN mc C[i].2 40 := by
            by_cases h1 : k = 40
            · rw [h1]
            · have : C[i].2.length ≤ k := by omega
              obtain rfl : k = C[i].2.length := by omega
              exact (own_all (by omega)).symm
          obtain ⟨C', hR, hCm⟩ := HJ.out.2
          have hR2 := hR.nw U.out
          have hCl : C'.length = i := by
            have := congrArg List.length hCm
            rw [List.length_map, List.length_map, List.length_take] at this
            omega
          have HE2 := Lib.hid hend2
          have hoR := hR2.own
          rw [hCl] at hoR
          have HoR := Lib.hid hoR
          have HR2 := Lib.hid hR2
          have HCm := Lib.hid hCm
          have HCl := Lib.hid hCl
          have hzz : z.heap.size ≤ wr.heap.size := by have := HJ.out.1.size; omega
          have hgzz := HG.out
          have HO2 : Hid (wr.ownsRow z.heap.size 3 1 (.slice aw (Ft.ownN mc C[i].2 k).length cw) (Ft.ownN mc C[i].2 k).length ((Ft.ownN mc C[i].2 k).map intD)) := owns_base HO.out HJ.out.1.size
          have HU := Lib.hid (HJ.out.1.trans U.out)
          have HF : Hid (∀ v' w9, w9.ownsRow z.heap.size tI1E 1 v' (i + 1) (C'.map (·.1) ++ [.slice aw (Ft.ownN mc C[i].2 k).length cw]) → Upd (fun j => (Value.slice ao i co).ownBlock = some j) wr w9 → EndI z mc C (i + 1) v' w9) := fun v' w9 o9 u9 => by
            refine ⟨HU.out.trans' u9 (fun j hj e => by have := (HoR.out.lt j e).1; omega), C' ++ [(.slice aw (Ft.ownN mc C[i].2 k).length cw, Ft.ownN mc C[i].2 k)], HR2.out.snoc HO2.out u9 (by rw [HCl.out]; exact o9), ?_⟩
            rw [List.map_append, HCm.out, List.take_succ_eq_append_getElem hlt, List.map_append]
            simp [HE2.out]
          clear hend2 hR hR2 hoR hCm hCl
          generalize C'.map (·.1) = RR at *
          by_cases hk2 : k < C[i].2.length
          · have hk3 : (k : Int) < C[i].2.length := by omega
            have hk4 : ¬ ((k : Int) < 40) := by omega
            go_wp2_with (at_builtin; refine wpList_appL rfl _ _ tIIE rfl z.heap.size tI1E _ 1 24 Tryz.underlying80 infoIIE rfl (by decide) _ _ _ rfl HoR.out [.slice aw (Ft.ownN mc C[i].2 k).length cw] rfl rfl ?c1 ?c2 ?c3 hzz hgzz ?_)
            case c1 => first | rfl | (intro u hu; rw [List.mem_singleton.1 hu]; rfl)
            case c2 => unfold maxLen; omega
            case c3 => omega
            intro v' w9 o9 u9 hob
            have hfin := Lib.hid (HF.out v' w9 o9 u9)
            clear o9 u9 hob
            go_wp2_with fail
            go_roundw
            case rel => exact ⟨i + 1, by omega, by go_num, hfin.out⟩
            case measure => simp [intOf]; omega
          · have hk3 : ¬ ((k : Int) < C[i].2.length) := by omega
            go_wp2_with (at_builtin; refine wpList_appL rfl _ _ tIIE rfl z.heap.size tI1E _ 1 24 Tryz.underlying80 infoIIE rfl (by decide) _ _ _ rfl HoR.out [.slice aw (Ft.ownN mc C[i].2 k).length cw] rfl rfl ?d1 ?d2 ?d3 hzz hgzz ?_)
            case d1 => first | rfl | (intro u hu; rw [List.mem_singleton.1 hu]; rfl)
            case d2 => unfold maxLen; omega
            case d3 => omega
            intro v' w9 o9 u9 hob
            have hfin := Lib.hid (HF.out v' w9 o9 u9)
            clear o9 u9 hob
            go_wp2_with fail
            go_roundw
            case rel => exact ⟨i + 1, by omega, by go_num, hfin.out⟩
            case measure => simp [intOf]; omega
    · obtain rfl : i = C.length := by omega
      have hJ := Lib.hid HJ.out
      go_wp2_with fail
      exact HEX.out _ _ _ _ _ _ _ _ _ _ _ _ _ _ _ _ _ _ _ _ _ _ _ _ _ _ _ _ _ _ _ _ _ _ _ _ _ _ _ _ _ _ _ _ _ _ _ _ _ _ _ _ hJ.out
end Go.Proofs.YtagmlemlagbfkaaGreatDoor
