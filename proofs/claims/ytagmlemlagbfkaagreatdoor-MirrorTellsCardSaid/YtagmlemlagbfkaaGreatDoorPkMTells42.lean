/- MirrorTells (chapter 37): the loop in which the acts happen with the reference's things. -/
import Derived.Test.YtagmlemlagbfkaaGreatDoorPkMTells39
import Derived.Test.YtagmlemlagbfkaaGreatDoorPkMTells40
namespace Go.Proofs.YtagmlemlagbfkaaGreatDoor
open Go.RowKit
set_option linter.unusedVariables false
set_option linter.unusedSimpArgs false
attribute [local irreducible] Calls

theorem append_cases (b : Bk.Book) (t : List UInt8) : ((Bk.append b t).1.2 = 0 ∧ (Bk.append b t).2.es.length = b.es.length + 1) ∨ ((Bk.append b t).1.2 ≠ 0 ∧ (Bk.append b t).2 = b) := by
  unfold Bk.append
  split
  · exact Or.inr ⟨by show (2 : Int) ≠ 0; decide, rfl⟩
  split
  · exact Or.inr ⟨by show (3 : Int) ≠ 0; decide, rfl⟩
  split
  · exact Or.inr ⟨by show (6 : Int) ≠ 0; decide, rfl⟩
  · exact Or.inl ⟨rfl, by simp⟩
theorem ptrs_atQ {w : World} {B n : Nat} {f : Nat → Nat} {a : Option Addr} {cap : Nat} (h : w.ownsRow B tQM 1 (.slice a n cap) n (ptrsM f n)) (hn : 0 < n) : ∃ b off, a = some ⟨b, off, none⟩ ∧ ∀ j, j < n → w.cell? ⟨b, off + j, none⟩ = some (.pointer (some ⟨f j, 0, none⟩)) := by
  obtain ⟨a', cap', ev, -, hc⟩ := (Sl.of_owns h).open_
  rw [ptrsM_len] at ev
  simp only [Value.slice.injEq, true_and] at ev
  obtain ⟨rfl, rfl⟩ := ev
  rcases hc with ⟨-, -, hnil⟩ | ⟨b, off, rfl, -, -, -, hc⟩
  · have := congrArg List.length hnil
    rw [ptrsM_len] at this
    simp at this
    omega
  · refine ⟨b, off, rfl, fun j hj => ?_⟩
    rw [hc j (by rw [ptrsM_len]; exact hj)]
    unfold ptrsM
    rw [List.getElem?_map, List.getElem?_range hj]
    rfl
theorem QlI.qs {W : World} {n0 : Nat} {cP : Nat → Res} {F : Nat → Prop} {z0 z : World} {p : PlR} {s : Mi.PS} {v : QlV} (h : QlI W n0 cP F z0 p s v z) (x : List Mi.Ques) : QlI W n0 cP F z0 p { s with qs := x } v z :=
  ⟨h.fam.same (fun i _ => by rw [cQl_ms (s := s) (s' := { s with qs := x }) _ rfl rfl rfl]), h.rows.as rfl rfl rfl, h.mv⟩
set_option maxHeartbeats 8000000 in
set_option maxRecDepth 100000 in
theorem mt_acts {W : World} {n0 : Nat} {cP : Nat → Res} {F : Nat → Prop} {z0 : World} {p : PlR} {s0 : Mi.PS} {key : Int} {w : World} (g : Gl W) (hF : ∀ j, F j → j < z0.heap.size) (hW : W.heap.size ≤ z0.heap.size)
    (l : List Mi.PAct) (al : Option Addr) (cl : Nat) (hl : SlS 6 0 W.heap.size W (.slice al l.length cl) (l.map actL)) (hwf : ∀ a ∈ l, ActWf a) (hok : ∀ a ∈ l, Mi.ActOk a) (hll : l.length ≤ 30)
    {n1 : Nat} (hn1 : 0 < n1) (hn15 : n1 ≤ 5) (hinv0 : Mi.PInv key 0 s0 []) (hms0 : s0.ms.length = n1) (hL0 : s0.L = []) (hnow0 : s0.now = 0) (hes0 : s0.b.es = [])
    {ab ao ca : Nat} (h0 : QlI W n0 cP F z0 p s0 ⟨.slice (some ⟨ab, ao, none⟩) n1 ca, .slice none 0 0, .slice none 0 0, []⟩ w)
    (K0 : Act → World → Prop) { c0 c1 c3 c4 c5 c6 c7 c8 c9 c10 c11 c12 c13 c14 c15 c16 c17 c18 c19 c21 c23 c24 c36 c37 c38 c39 c40 c41 c42 c43 c44 c45 c46 c47 c48 c49 c50 c51 c52 c53 c54 c55 c56 c57 c58 c59 c60 c61 c62 c63 c64 c65 c66 c67 c68 c69 c70 c71 c72 c73 c74 c75 c76 c77 c78 c79 c80 c81 c82 c83 c84 c85 c86 c87 c88 c89 c90 c91 c92 c93 c94 c95 c96 c97 c98 c99 c100 c101 c102 c103 c104 c105 c106 c107 c108 c109 c110 c111 c112 c113 c114 c115 c214 c215 c216 c217 c218 c219 c220 c221 c222 c223 c224 c225 c226 c227 c228 c229 c230 c231 c232 c233 c234 c235 c236 c237 c238 c239 c240 c241 c242 c243 c244 c245 c246 c247 c248 c249 c250 c251 c252 c253 c254 c255 c256 c257 c258 c259 c260 c261 c262 c263 c264 c265 c266 c267 c268 c269 c270 c271 c272 c273 c274 c275 c276 c277 c278 c279 c280 c281 c282 c283 c284 c285 c286 c287 c288 c289 c290 c291 c292 c293 c294 c295 c296 c297 c298 c299 c300 c301 c302 c303 c304 c305 c306 c307 c308 c309 c310 c311 c312 c313 c314 c315 c316 c317 c318 c319 c320 c321 c322 c323 c324 c325 c326 c327 c328 c329 c330 c331 c332 c333 c334 c335 c336 c337 c338 c339 c340 c341 c342 c343 c344 c345 c346 c347 c348 c349 c350 c351 : Value} { u30 u31 u32 u33 u34 u35 u116 u117 u118 u119 u120 u121 u122 u123 u124 u125 u126 u127 u128 u129 u130 u131 u132 u133 u134 u135 u136 u137 u138 u139 u140 u141 u142 u143 u144 u145 u146 u147 u148 u149 u150 u151 u152 u153 u154 u155 u156 u157 u158 u159 u160 u161 u162 u163 u164 u165 u166 u167 u168 u169 u170 u171 u172 u173 u174 u175 u176 u177 u178 u179 u180 u181 u182 u183 u184 u185 u186 u187 u188 u189 u190 u191 u192 u193 u194 u195 u196 u197 u198 u199 u200 u201 u202 u203 u204 u205 u206 u207 u208 u209 u210 u211 u212 u213 : Value} {c : Code} (hc : loopAt Tryz.f4 1 = c)
    (hexit : ∀ (u30 u31 u32 u33 u34 u35 u116 u117 u118 u119 u120 u121 u122 u123 u124 u125 u126 u127 u128 u129 u130 u131 u132 u133 u134 u135 u136 u137 u138 u139 u140 u141 u142 u143 u144 u145 u146 u147 u148 u149 u150 u151 u152 u153 u154 u155 u156 u157 u158 u159 u160 u161 u162 u163 u164 u165 u166 u167 u168 u169 u170 u171 u172 u173 u174 u175 u176 u177 u178 u179 u180 u181 u182 u183 u184 u185 u186 u187 u188 u189 u190 u191 u192 u193 u194 u195 u196 u197 u198 u199 u200 u201 u202 u203 u204 u205 u206 u207 u208 u209 u210 u211 u212 u213 nv lv : Value) (L : AL) (w' : World), QlI W n0 cP F z0 p (Mi.play s0 l) ⟨.slice (some ⟨ab, ao, none⟩) n1 ca, lv, nv, L⟩ w' → K0 ⟨(List.toArray (c0 :: c1 :: (.slice al l.length cl) :: c3 :: c4 :: c5 :: c6 :: c7 :: c8 :: c9 :: c10 :: c11 :: c12 :: c13 :: c14 :: c15 :: c16 :: c17 :: c18 :: c19 :: (.pointer (some ⟨p.bb, 0, none⟩)) :: c21 :: (.slice (some ⟨ab, ao, none⟩) n1 ca) :: c23 :: c24 :: (nv) :: (.int .i64 ((Mi.play s0 l).b.es.length : Int)) :: (.int .i64 (Mi.play s0 l).now) :: (lv) :: (.int .i64 (l.length : Int)) :: u30 :: u31 :: u32 :: u33 :: u34 :: u35 :: c36 :: c37 :: c38 :: c39 :: c40 :: c41 :: c42 :: c43 :: c44 :: c45 :: c46 :: c47 :: c48 :: c49 :: c50 :: c51 :: c52 :: c53 :: c54 :: c55 :: c56 :: c57 :: c58 :: c59 :: c60 :: c61 :: c62 :: c63 :: c64 :: c65 :: c66 :: c67 :: c68 :: c69 :: c70 :: c71 :: c72 :: c73 :: c74 :: c75 :: c76 :: c77 :: c78 :: c79 :: c80 :: c81 :: c82 :: c83 :: c84 :: c85 :: c86 :: c87 :: c88 :: c89 :: c90 :: c91 :: c92 :: c93 :: c94 :: c95 :: c96 :: c97 :: c98 :: c99 :: c100 :: c101 :: c102 :: c103 :: c104 :: c105 :: c106 :: c107 :: c108 :: c109 :: c110 :: c111 :: c112 :: c113 :: c114 :: c115 :: u116 :: u117 :: u118 :: u119 :: u120 :: u121 :: u122 :: u123 :: u124 :: u125 :: u126 :: u127 :: u128 :: u129 :: u130 :: u131 :: u132 :: u133 :: u134 :: u135 :: u136 :: u137 :: u138 :: u139 :: u140 :: u141 :: u142 :: u143 :: u144 :: u145 :: u146 :: u147 :: u148 :: u149 :: u150 :: u151 :: u152 :: u153 :: u154 :: u155 :: u156 :: u157 :: u158 :: u159 :: u160 :: u161 :: u162 :: u163 :: u164 :: u165 :: u166 :: u167 :: u168 :: u169 :: u170 :: u171 :: u172 :: u173 :: u174 :: u175 :: u176 :: u177 :: u178 :: u179 :: u180 :: u181 :: u182 :: u183 :: u184 :: u185 :: u186 :: u187 :: u188 :: u189 :: u190 :: u191 :: u192 :: u193 :: u194 :: u195 :: u196 :: u197 :: u198 :: u199 :: u200 :: u201 :: u202 :: u203 :: u204 :: u205 :: u206 :: u207 :: u208 :: u209 :: u210 :: u211 :: u212 :: u213 :: c214 :: c215 :: c216 :: c217 :: c218 :: c219 :: c220 :: c221 :: c222 :: c223 :: c224 :: c225 :: c226 :: c227 :: c228 :: c229 :: c230 :: c231 :: c232 :: c233 :: c234 :: c235 :: c236 :: c237 :: c238 :: c239 :: c240 :: c241 :: c242 :: c243 :: c244 :: c245 :: c246 :: c247 :: c248 :: c249 :: c250 :: c251 :: c252 :: c253 :: c254 :: c255 :: c256 :: c257 :: c258 :: c259 :: c260 :: c261 :: c262 :: c263 :: c264 :: c265 :: c266 :: c267 :: c268 :: c269 :: c270 :: c271 :: c272 :: c273 :: c274 :: c275 :: c276 :: c277 :: c278 :: c279 :: c280 :: c281 :: c282 :: c283 :: c284 :: c285 :: c286 :: c287 :: c288 :: c289 :: c290 :: c291 :: c292 :: c293 :: c294 :: c295 :: c296 :: c297 :: c298 :: c299 :: c300 :: c301 :: c302 :: c303 :: c304 :: c305 :: c306 :: c307 :: c308 :: c309 :: c310 :: c311 :: c312 :: c313 :: c314 :: c315 :: c316 :: c317 :: c318 :: c319 :: c320 :: c321 :: c322 :: c323 :: c324 :: c325 :: c326 :: c327 :: c328 :: c329 :: c330 :: c331 :: c332 :: c333 :: c334 :: c335 :: c336 :: c337 :: c338 :: c339 :: c340 :: c341 :: c342 :: c343 :: c344 :: c345 :: c346 :: c347 :: c348 :: c349 :: c350 :: c351 :: [])), []⟩ w') :
    Code.wp Tryz.prog c (Exit.then K0 (fun _ _ _ => False)) ⟨(List.toArray (c0 :: c1 :: (.slice al l.length cl) :: c3 :: c4 :: c5 :: c6 :: c7 :: c8 :: c9 :: c10 :: c11 :: c12 :: c13 :: c14 :: c15 :: c16 :: c17 :: c18 :: c19 :: (.pointer (some ⟨p.bb, 0, none⟩)) :: c21 :: (.slice (some ⟨ab, ao, none⟩) n1 ca) :: c23 :: c24 :: (.slice none 0 0) :: (.int .i64 0) :: (.int .i64 0) :: (.slice none 0 0) :: (.int .i64 0) :: u30 :: u31 :: u32 :: u33 :: u34 :: u35 :: c36 :: c37 :: c38 :: c39 :: c40 :: c41 :: c42 :: c43 :: c44 :: c45 :: c46 :: c47 :: c48 :: c49 :: c50 :: c51 :: c52 :: c53 :: c54 :: c55 :: c56 :: c57 :: c58 :: c59 :: c60 :: c61 :: c62 :: c63 :: c64 :: c65 :: c66 :: c67 :: c68 :: c69 :: c70 :: c71 :: c72 :: c73 :: c74 :: c75 :: c76 :: c77 :: c78 :: c79 :: c80 :: c81 :: c82 :: c83 :: c84 :: c85 :: c86 :: c87 :: c88 :: c89 :: c90 :: c91 :: c92 :: c93 :: c94 :: c95 :: c96 :: c97 :: c98 :: c99 :: c100 :: c101 :: c102 :: c103 :: c104 :: c105 :: c106 :: c107 :: c108 :: c109 :: c110 :: c111 :: c112 :: c113 :: c114 :: c115 :: u116 :: u117 :: u118 :: u119 :: u120 :: u121 :: u122 :: u123 :: u124 :: u125 :: u126 :: u127 :: u128 :: u129 :: u130 :: u131 :: u132 :: u133 :: u134 :: u135 :: u136 :: u137 :: u138 :: u139 :: u140 :: u141 :: u142 :: u143 :: u144 :: u145 :: u146 :: u147 :: u148 :: u149 :: u150 :: u151 :: u152 :: u153 :: u154 :: u155 :: u156 :: u157 :: u158 :: u159 :: u160 :: u161 :: u162 :: u163 :: u164 :: u165 :: u166 :: u167 :: u168 :: u169 :: u170 :: u171 :: u172 :: u173 :: u174 :: u175 :: u176 :: u177 :: u178 :: u179 :: u180 :: u181 :: u182 :: u183 :: u184 :: u185 :: u186 :: u187 :: u188 :: u189 :: u190 :: u191 :: u192 :: u193 :: u194 :: u195 :: u196 :: u197 :: u198 :: u199 :: u200 :: u201 :: u202 :: u203 :: u204 :: u205 :: u206 :: u207 :: u208 :: u209 :: u210 :: u211 :: u212 :: u213 :: c214 :: c215 :: c216 :: c217 :: c218 :: c219 :: c220 :: c221 :: c222 :: c223 :: c224 :: c225 :: c226 :: c227 :: c228 :: c229 :: c230 :: c231 :: c232 :: c233 :: c234 :: c235 :: c236 :: c237 :: c238 :: c239 :: c240 :: c241 :: c242 :: c243 :: c244 :: c245 :: c246 :: c247 :: c248 :: c249 :: c250 :: c251 :: c252 :: c253 :: c254 :: c255 :: c256 :: c257 :: c258 :: c259 :: c260 :: c261 :: c262 :: c263 :: c264 :: c265 :: c266 :: c267 :: c268 :: c269 :: c270 :: c271 :: c272 :: c273 :: c274 :: c275 :: c276 :: c277 :: c278 :: c279 :: c280 :: c281 :: c282 :: c283 :: c284 :: c285 :: c286 :: c287 :: c288 :: c289 :: c290 :: c291 :: c292 :: c293 :: c294 :: c295 :: c296 :: c297 :: c298 :: c299 :: c300 :: c301 :: c302 :: c303 :: c304 :: c305 :: c306 :: c307 :: c308 :: c309 :: c310 :: c311 :: c312 :: c313 :: c314 :: c315 :: c316 :: c317 :: c318 :: c319 :: c320 :: c321 :: c322 :: c323 :: c324 :: c325 :: c326 :: c327 :: c328 :: c329 :: c330 :: c331 :: c332 :: c333 :: c334 :: c335 :: c336 :: c337 :: c338 :: c339 :: c340 :: c341 :: c342 :: c343 :: c344 :: c345 :: c346 :: c347 :: c348 :: c349 :: c350 :: c351 :: [])), []⟩ w := by
  subst hc
  have hgb := g.big
  have HFW : Hid ((∀ j, F j → j < z0.heap.size) ∧ W.heap.size ≤ z0.heap.size ∧ nG ≤ z0.heap.size) := ⟨hF, hW, by omega⟩
  have HWF := Lib.hid (And.intro hwf hok)
  obtain ⟨al', cl', ev, -, hlc⟩ := act_cells hl
  simp only [Value.slice.injEq, true_and] at ev
  obtain ⟨rfl, rfl⟩ := ev
  have HLC := Lib.hid hlc
  have hll1 : (l.length : Int) ≤ 30 := by omega
  have HPI : Hid (Mi.PInv key 0 s0 [] ∧ s0.ms.length = n1 ∧ s0.L = []) := ⟨hinv0, hms0, hL0⟩
  have hK0 : Hid (QlI W n0 cP F z0 p (Mi.play s0 (l.take 0)) ⟨.slice (some ⟨ab, ao, none⟩) n1 ca, .slice none 0 0, .slice none 0 0, []⟩ w) := h0
  have hn01 : (n1 : Int) ≤ 5 := by omega
  have hN0 : Hid ((Mi.play s0 (l.take 0)).now = 0 ∧ (Mi.play s0 (l.take 0)).b.es.length = 0) := ⟨hnow0, by show s0.b.es.length = 0; rw [hes0]; rfl⟩
  have HEX := Lib.hid hexit
  clear hl hwf hok hlc hF hW h0 hexit hinv0 hms0 hL0 hnow0 hes0
  conv => arg 2; whnf
  go_wp2_with fail
  go_loopw [25, 26, 27, 28, 29] (fun nv my mo lv iv wr => ∃ i : Nat, i ≤ l.length ∧ iv = .int .i64 (i : Int) ∧ my = .int .i64 ((Mi.play s0 (l.take i)).b.es.length : Int) ∧ mo = .int .i64 (Mi.play s0 (l.take i)).now ∧ ∃ L, Hid (QlI W n0 cP F z0 p (Mi.play s0 (l.take i)) ⟨.slice (some ⟨ab, ao, none⟩) n1 ca, lv, nv, L⟩ wr)) (fun _ _ _ _ iv _ => l.length - (intOf iv).toNat)
  case atStart => exact ⟨0, Nat.zero_le _, rfl, by rw [hN0.out.2]; rfl, by rw [hN0.out.1], [], hK0.out⟩
  case round =>
    obtain ⟨i, hi, rfl, rfl, rfl, L, HI⟩ := hrel
    by_cases hlt : i < l.length
    · have hlt1 : (i : Int) < l.length := by omega
      rcases HLC.out with hnil | ⟨b, off, rfl, hcell⟩
      · simp [hnil] at hlt
      obtain ⟨⟨M, hinv⟩, hmap⟩ := Mi.play_inv HPI.out.1 (by rw [HPI.out.2.1]; exact hn1) l HWF.out.2 i (by omega)
      have hlnL := play_ln HPI.out.1 (by rw [HPI.out.2.1]; exact hn1) l HWF.out.2 (by omega) HPI.out.2.2 i (by omega)
      have hSL : (Mi.play s0 (l.take i)).ms.length = n1 := by have := congrArg List.length hmap; rw [List.length_map, List.length_map, HPI.out.2.1] at this; exact this
      have HSU : Hid (Mi.play s0 (l.take (i + 1)) = Mi.stepP (Mi.play s0 (l.take i)) l[i]) := Mi.play_take s0 l i hlt
      have HAO := Lib.hid (HWF.out.2 _ (List.getElem_mem hlt))
      have HAW := Lib.hid (HWF.out.1 _ (List.getElem_mem hlt))
      have HACT : Hid (∀ z, Nw W z → ActCells z b off i l[i]) := fun z u => (hcell i hlt).nw u
      obtain ⟨S, hS⟩ : ∃ S, Mi.play s0 (l.take i) = S := ⟨_, rfl⟩
      rw [hS] at HI hinv hlnL hSL HSU
      rw [hS]
      have HINV := Lib.hid hinv
      have HLN : Hid (S.L.length ≤ 3000 ∧ S.ms.length = n1) := ⟨by omega, hSL⟩
      have hnw1 := hinv.now
      have hnow1 : 0 ≤ S.now := hnw1.1
      have hnow2 : S.now ≤ 30000000 := by omega
      have hes := hinv.len.1
      have hes1 : (S.b.es.length : Int) ≤ 30 := by omega
      have HRD : Hid (∀ (j : Nat) (h : j < S.ms.length), ∀ c ∈ S.ms[j].l 2, (Cl.read c.text).2 = true) := fun j h c hc =>
        (Vw.log_spec (hinv.made.each c ((hinv.ms _ (List.getElem_mem h)).1.mem 2 (by decide) c hc)).2.2).2.2.1
      clear hcell hinv hmap hlnL hS hnw1 hes
      generalize l[i] = a at *
      obtain ⟨wX, rfl⟩ : ∃ w, w = wr := ⟨_, rfl⟩
      obtain ⟨la, lc, e1⟩ := own_slG HI.out.rows.ol
      obtain ⟨na, nc, e2⟩ := own_slG HI.out.rows.on
      dsimp only at e1 e2
      subst e1 e2
      have HNWX := Lib.hid (HI.out.fam.nw0)
      obtain ⟨k0, k1', k2, k3', k4, k5⟩ := HACT.out wX HNWX.out
      have hpk := Lib.hid (pick_w a.mirror HAW.out.m n1 ⟨hn1, hn15⟩ wX)
      have HKLT : Hid (Mi.pick a.mirror n1 < n1) := Mi.pick_lt _ hn1
      have HMO : Hid (Mi.mirOf S a = S.ms.getD (Mi.pick a.mirror n1) (Mi.fresh 0)) := by show _ = _; unfold Mi.mirOf; rw [hSL]
      have HPM : Hid (Mi.pick a.mirror S.ms.length = Mi.pick a.mirror n1) := by show _ = _; rw [hSL]
      have hoa := HI.out.rows.oa
      dsimp only at hoa
      rw [hSL] at hoa
      obtain ⟨ab', ao', ea, hac⟩ := ptrs_atQ hoa hn1
      simp only [Option.some.injEq, Addr.mk.injEq, and_true] at ea
      obtain ⟨rfl, rfl⟩ := ea
      have HAC := Lib.hid hac
      generalize Mi.pick a.mirror n1 = k at *
      have hk1 : (k : Int) < n1 := by have := HKLT.out; omega
      have hk0 : (0 : Int) ≤ k := by omega
      clear hoa hac hSL
      go_wp2_with fail
      (with_reducible refine (hpk.out).mono ?_)
      rintro _ w2 ⟨rfl, u2⟩
      have ck : w2.cell? ⟨ab, ao + k, none⟩ = some (.pointer (some ⟨p.mbs k, 0, none⟩)) := later_cell ⟨w2, u2⟩ (HAC.out k HKLT.out)
      have HI2 := Lib.hid (HI.out.nw u2)
      obtain ⟨d0, d1', d2, d3', d4, d5⟩ := HACT.out w2 HI2.out.fam.nw0
      clear hpk u2 k0 k1' k2 k3' k4 k5
      by_cases hd0 : a.do_ = 0
      · have hb0 : (a.do_ == 0) = true := by simp [hd0]
        have HS2 : Hid (Mi.play s0 (l.take (i + 1)) = { S with b := (Bk.append S.b (Mi.line a)).2 }) := by
          show _ = _; rw [HSU.out]; unfold Mi.stepP; rw [if_pos hd0]
        have hln := Lib.hid (line_w a HAO.out w2 (HI2.out.gl g))
        clear hd0 HSU
        go_wp2_with fail
        (with_reducible refine (hln.out).mono ?_)
        rintro _ w3 ⟨rfl, hl300, u3⟩
        have hap := ql_append (HI2.out.nw u3) g (Mi.line a) (by omega)
        have hac := append_cases S.b (Mi.line a)
        obtain ⟨xi, xe, xb, hX⟩ : ∃ xi xe xb, Bk.append S.b (Mi.line a) = ((xi, xe), xb) := ⟨_, _, _, rfl⟩
        rw [hX] at hap hac HS2
        dsimp only at hap hac HS2
        have HAP := Lib.hid hap
        clear hln u3 hl300 d0 d1' d2 d3' d4 d5 hap hX
        go_wp2_with fail
        (with_reducible refine (HAP.out).mono ?_)
        rintro _ w4 ⟨rfl, h4⟩
        have hz := Lib.hid h4
        clear h4 HAP
        rcases hac with ⟨hxe, hxb⟩ | ⟨hxe, hxb⟩
        · have hbe : (xe == 0) = true := by simp [hxe]
          have HXB := Lib.hid hxb
          clear hxe hxb
          -- the round's end: the list of answers L
          go_wp2_with fail
          go_roundw
          case rel => exact ⟨i + 1, by omega, by go_num, by rw [HS2.out] <;> (dsimp only; rw [HXB.out]; go_num), by rw [HS2.out], L, by rw [HS2.out]; exact hz.out⟩
          case measure => simp [intOf]; omega
        · have hbe : (xe == 0) = false := by simp [hxe]
          subst hxb
          clear hxe
          -- the round's end: the list of answers L
          go_wp2_with fail
          go_roundw
          case rel => exact ⟨i + 1, by omega, by go_num, by rw [HS2.out] <;> (try rfl), by rw [HS2.out], L, by rw [HS2.out]; exact hz.out⟩
          case measure => simp [intOf]; omega
      have hb0 : (a.do_ == 0) = false := by simp [hd0]
      by_cases hd1 : a.do_ = 1
      · have hb1 : (a.do_ == 1) = true := by simp [hd1]
        have HS2 : Hid (Mi.play s0 (l.take (i + 1)) = { S with cs := Mi.addC S.cs a.text }) := by
          show _ = _; rw [HSU.out]; unfold Mi.stepP; rw [if_neg hd0, if_pos hd1]
        have hcs := HINV.out.cs
        have hadd := Lib.hid (cadd_w z0.heap.size _ S.cs a.text w2 (HI2.out.gl g) HI2.out.rows.ol ⟨by omega, hcs.2⟩ (by omega) HINV.out.nd HAO.out.text)
        clear hd0 hd1 HSU hcs
        go_wp2_with fail
        (with_reducible refine (hadd.out).mono ?_)
        rintro _ w3 ⟨v3, n3, rfl, o3, u3⟩
        have hz := Lib.hid (HI2.out.list u3 o3)
        obtain ⟨a3, c3, e3⟩ := own_slG o3
        subst e3
        clear o3 u3 hadd d0 d1' d2 d3' d4 d5
        -- the round's end: the list of answers L
        go_wp2_with fail
        go_roundw
        case rel => exact ⟨i + 1, by omega, by go_num, by rw [HS2.out] <;> (try rfl), by rw [HS2.out], L, by rw [HS2.out]; exact hz.out⟩
        case measure => simp [intOf]; omega
      have hb1 : (a.do_ == 1) = false := by simp [hd1]
      by_cases hd2 : a.do_ = 2
      · have hb2 : (a.do_ == 2) = true := by simp [hd2]
        have hkS : k < S.ms.length := by rw [HLN.out.2]; exact HKLT.out
        have hm2 : Mi.mirOf S a = S.ms[k] := by rw [HMO.out, List.getD_eq_getElem?_getD, List.getElem?_eq_getElem hkS]; rfl
        have HS2 : Hid (Mi.play s0 (l.take (i + 1)) = { S with L := (Mi.feed S.L S.b S.ms[k] [a.name] S.cs (S.now + a.n)).2.1, b := (Mi.feed S.L S.b S.ms[k] [a.name] S.cs (S.now + a.n)).2.2.1, ms := S.ms.set k (Mi.feed S.L S.b S.ms[k] [a.name] S.cs (S.now + a.n)).2.2.2, now := S.now + a.n }) := by
          show _ = _; rw [HSU.out]; unfold Mi.stepP Mi.fedR; rw [if_neg hd0, if_neg hd1, if_pos hd2, hm2, HPM.out]
        have HES : Hid ((Mi.feed S.L S.b S.ms[k] [a.name] S.cs (S.now + a.n)).2.2.1.es.length = S.b.es.length) := by
          show _ = _
          unfold Mi.feed
          split
          · rfl
          split
          · dsimp only; rw [(head_ln S.L S.b (S.now + a.n)).2]
          · dsimp only; rw [(head_ln S.L S.b (S.now + a.n)).2]
        have hn := HAO.out.n hd2
        have hn1 : 0 ≤ a.n := hn.1
        have hn2 : a.n ≤ 1000000 := hn.2
        have hcs := HINV.out.cs
        have hms := (HINV.out.ms _ (List.getElem_mem hkS)).2
        have hfd : Hid (Calls Tryz.prog 24 #[.pointer (some ⟨p.mbs k, 0, none⟩), .pointer (some ⟨p.bb, 0, none⟩), .int .i64 (S.b.es.length : Int), .slice (some ⟨w2.heap.size, 0, none⟩) 1 1, .slice la S.cs.length lc, .int .i64 (S.now + a.n)] (w2.alloc (.cells #[.string ⟨a.name.toArray⟩] tStrM)) fun e z' =>
            ∃ x, e = .returned x ∧ QlI W n0 cP F z0 p { S with L := (Mi.feed S.L S.b S.ms[k] [a.name] S.cs (S.now + a.n)).2.1, b := (Mi.feed S.L S.b S.ms[k] [a.name] S.cs (S.now + a.n)).2.2.1, ms := S.ms.set k (Mi.feed S.L S.b S.ms[k] [a.name] S.cs (S.now + a.n)).2.2.2, now := S.now + a.n } ⟨.slice (some ⟨ab, ao, none⟩) n1 ca, .slice la S.cs.length lc, .slice na L.length nc, L⟩ z') :=
          ql_feed HI2.out g hkS a.name (by have := HAO.out.name; omega) (S.now + a.n) (by unfold I64; omega) (by have := HLN.out.1; omega) (by omega) (by omega) ⟨by omega, fun t ht => by have := hcs.2 t ht; omega⟩ rfl rfl
        clear hd0 hd1 hd2 HSU hcs hms hn hm2
        go_wp2_with fail
        (with_reducible refine (hfd.out).mono ?_)
        rintro _ w3 ⟨x3, rfl, h3⟩
        have hz := Lib.hid h3
        clear h3 hfd d0 d1' d2 d3' d4 d5
        -- the round's end: the list of answers L
        go_wp2_with fail
        go_roundw
        case rel => exact ⟨i + 1, by omega, by go_num, by rw [HS2.out] <;> (try (dsimp only; rw [HES.out])), by rw [HS2.out], L, by rw [HS2.out]; exact hz.out⟩
        case measure => simp [intOf]; omega
      have hb2 : (a.do_ == 2) = false := by simp [hd2]
      by_cases hd3 : a.do_ = 3
      · have hb3 : (a.do_ == 3) = true := by simp [hd3]
        have hkS : k < S.ms.length := by rw [HLN.out.2]; exact HKLT.out
        have hm2 : Mi.mirOf S a = S.ms[k] := by rw [HMO.out, List.getD_eq_getElem?_getD, List.getElem?_eq_getElem hkS]; rfl
        obtain ⟨A, hA⟩ : ∃ A, Mi.answer S.ms[k] (Mi.quesOf a) = A := ⟨_, rfl⟩
        have HS2 : Hid (Mi.play s0 (l.take (i + 1)) = { S with an := S.an ++ [A], qs := S.qs ++ [Mi.quesOf a] }) := by
          show _ = _; rw [HSU.out]; unfold Mi.stepP; rw [if_neg hd0, if_neg hd1, if_neg hd2, if_pos hd3, hm2, hA]
        have hpa := fun (z : World) (h : QlI W n0 cP F z0 p S ⟨.slice (some ⟨ab, ao, none⟩) n1 ca, .slice la S.cs.length lc, .slice na L.length nc, L⟩ z) => ql_answer h g hkS (HRD.out k hkS) (Mi.quesOf a) ⟨HAW.out.k, HAW.out.n, by show a.name.length ≤ _; have := HAO.out.name; omega⟩
        rw [hA] at hpa
        have HPA : Hid (∀ z, Nw w2 z → Calls Tryz.prog 25 #[.pointer (some ⟨p.mbs k, 0, none⟩), .agg #[.int .i64 a.kind, .int .i64 a.n, .string ⟨a.name.toArray⟩]] z fun e w' => ∃ vi, e = .returned (.agg #[vi, .string ⟨A.text.toArray⟩, .bool A.has]) ∧ w'.ownsRow z.heap.size tSigned 3 vi A.claims.length (flatS A.claims) ∧ Nw z w') := fun z u => hpa z (HI2.out.nw u)
        have HSS : Hid (∀ z, Nw w2 z → z.cell? ⟨b, off + i * 6 + 2, none⟩ = some (.int .i64 a.kind) ∧ z.cell? ⟨b, off + i * 6 + 3, none⟩ = some (.int .i64 a.n) ∧ z.cell? ⟨b, off + i * 6 + 4, none⟩ = some (.string ⟨a.name.toArray⟩)) := fun z u => by
          obtain ⟨-, -, x2, x3, x4, -⟩ := HACT.out z (HI2.out.fam.nw0.trans u)
          exact ⟨x2, x3, x4⟩
        have hS := HSS.out w2.drew (Upd.refl _ _).drew
        have HQL : Hid (L.length ≤ 30) := by
          have h1 := HINV.out.len
          have h2 := congrArg List.length HI2.out.rows.eL
          rw [List.length_map] at h2
          dsimp only at h2
          show _ ≤ _
          omega
        clear hd0 hd1 hd2 hd3 HSU hm2 hA hpa
        go_upto_region 40 with fail
        clear d0 d1' d2 d3' d4 d5
        refine wp_region_H 20 (fun _ => True) (fun z => z.cell? ⟨b, off + i * 6 + 2, none⟩ = some (.int .i64 a.kind) ∧ z.cell? ⟨b, off + i * 6 + 3, none⟩ = some (.int .i64 a.n) ∧ z.cell? ⟨b, off + i * 6 + 4, none⟩ = some (.string ⟨a.name.toArray⟩)) (by kernel_rfl) ?_
        refine wpAnyH_pure (i := 0) (v := ?_) rfl (by kernel_rfl) (by kernel_rfl) (by kernel_rfl) (by kernel_rfl) (by kernel_rfl) (fun _ _ _ h => h) (by rfl) ?_ (⟨fun _ => trivial, hS⟩) ?_
        rotate_left 1
        · (intro zz; go_simp; first | done | with_reducible rfl)
        (try simp only [Act.put, List.setIfInBounds_toArray, List.set_cons_zero, List.set_cons_succ])
        refine wpAnyH_pure (i := 1) (v := ?_) rfl (by kernel_rfl) (by kernel_rfl) (by kernel_rfl) (by kernel_rfl) (by kernel_rfl) (fun _ _ _ h => h) (by rfl) ?_ (⟨fun _ => trivial, hS⟩) ?_
        rotate_left 1
        · (intro zz; go_simp; first | done | with_reducible rfl)
        (try simp only [Act.put, List.setIfInBounds_toArray, List.set_cons_zero, List.set_cons_succ])
        refine wpAnyH_pure (i := 2) (v := ?_) rfl (by kernel_rfl) (by kernel_rfl) (by kernel_rfl) (by kernel_rfl) (by kernel_rfl) (fun _ _ _ h => h) (by rfl) ?_ (⟨fun _ => trivial, hS⟩) ?_
        rotate_left 1
        · (intro zz; go_simp; first | done | with_reducible rfl)
        (try simp only [Act.put, List.setIfInBounds_toArray, List.set_cons_zero, List.set_cons_succ])
        refine wpAnyH_pure (i := 3) (v := ?_) rfl (by kernel_rfl) (by kernel_rfl) (by kernel_rfl) (by kernel_rfl) (by kernel_rfl) (fun _ _ _ h => h) (by rfl) ?_ (⟨fun _ => trivial, hS⟩) ?_
        rotate_left 1
        · (intro zz; go_simp; first | done | with_reducible rfl)
        (try simp only [Act.put, List.setIfInBounds_toArray, List.set_cons_zero, List.set_cons_succ])
        refine wpAnyH_pure (i := 4) (v := ?_) rfl (by kernel_rfl) (by kernel_rfl) (by kernel_rfl) (by kernel_rfl) (by kernel_rfl) (fun _ _ _ h => h) (by rfl) ?_ (⟨fun _ => trivial, hS⟩) ?_
        rotate_left 1
        · (intro zz; go_simp; first | done | with_reducible rfl)
        (try simp only [Act.put, List.setIfInBounds_toArray, List.set_cons_zero, List.set_cons_succ])
        refine wpAnyH_pure (i := 5) (v := ?_) rfl (by kernel_rfl) (by kernel_rfl) (by kernel_rfl) (by kernel_rfl) (by kernel_rfl) (fun _ _ _ h => h) (by rfl) ?_ (⟨fun _ => trivial, hS⟩) ?_
        rotate_left 1
        · (intro zz; go_simp; first | done | with_reducible rfl)
        (try simp only [Act.put, List.setIfInBounds_toArray, List.set_cons_zero, List.set_cons_succ])
        refine wpAnyH_load2 (i := 6) (v := ?_) rfl (by kernel_rfl) (by kernel_rfl) (by kernel_rfl) (by kernel_rfl) (by kernel_rfl) (fun _ _ _ h => h) (by rfl) ?_ (⟨fun _ => trivial, hS⟩) ?_
        rotate_left 1
        · (intro zz hS2; obtain ⟨_, _, _⟩ := hS2; go_simp; first | done | with_reducible rfl)
        (try simp only [Act.put, List.setIfInBounds_toArray, List.set_cons_zero, List.set_cons_succ])
        refine wpAnyH_pure (i := 7) (v := ?_) rfl (by kernel_rfl) (by kernel_rfl) (by kernel_rfl) (by kernel_rfl) (by kernel_rfl) (fun _ _ _ h => h) (by rfl) ?_ (⟨fun _ => trivial, hS⟩) ?_
        rotate_left 1
        · (intro zz; go_simp; first | done | with_reducible rfl)
        (try simp only [Act.put, List.setIfInBounds_toArray, List.set_cons_zero, List.set_cons_succ])
        refine wpAnyH_pure (i := 8) (v := ?_) rfl (by kernel_rfl) (by kernel_rfl) (by kernel_rfl) (by kernel_rfl) (by kernel_rfl) (fun _ _ _ h => h) (by rfl) ?_ (⟨fun _ => trivial, hS⟩) ?_
        rotate_left 1
        · (intro zz; go_simp; first | done | with_reducible rfl)
        (try simp only [Act.put, List.setIfInBounds_toArray, List.set_cons_zero, List.set_cons_succ])
        refine wpAnyH_pure (i := 9) (v := ?_) rfl (by kernel_rfl) (by kernel_rfl) (by kernel_rfl) (by kernel_rfl) (by kernel_rfl) (fun _ _ _ h => h) (by rfl) ?_ (⟨fun _ => trivial, hS⟩) ?_
        rotate_left 1
        · (intro zz; go_simp; first | done | with_reducible rfl)
        (try simp only [Act.put, List.setIfInBounds_toArray, List.set_cons_zero, List.set_cons_succ])
        refine wpAnyH_pure (i := 10) (v := ?_) rfl (by kernel_rfl) (by kernel_rfl) (by kernel_rfl) (by kernel_rfl) (by kernel_rfl) (fun _ _ _ h => h) (by rfl) ?_ (⟨fun _ => trivial, hS⟩) ?_
        rotate_left 1
        · (intro zz; go_simp; first | done | with_reducible rfl)
        (try simp only [Act.put, List.setIfInBounds_toArray, List.set_cons_zero, List.set_cons_succ])
        refine wpAnyH_load2 (i := 11) (v := ?_) rfl (by kernel_rfl) (by kernel_rfl) (by kernel_rfl) (by kernel_rfl) (by kernel_rfl) (fun _ _ _ h => h) (by rfl) ?_ (⟨fun _ => trivial, hS⟩) ?_
        rotate_left 1
        · (intro zz hS2; obtain ⟨_, _, _⟩ := hS2; go_simp; first | done | with_reducible rfl)
        (try simp only [Act.put, List.setIfInBounds_toArray, List.set_cons_zero, List.set_cons_succ])
        refine wpAnyH_pure (i := 12) (v := ?_) rfl (by kernel_rfl) (by kernel_rfl) (by kernel_rfl) (by kernel_rfl) (by kernel_rfl) (fun _ _ _ h => h) (by rfl) ?_ (⟨fun _ => trivial, hS⟩) ?_
        rotate_left 1
        · (intro zz; go_simp; first | done | with_reducible rfl)
        (try simp only [Act.put, List.setIfInBounds_toArray, List.set_cons_zero, List.set_cons_succ])
        refine wpAnyH_pure (i := 13) (v := ?_) rfl (by kernel_rfl) (by kernel_rfl) (by kernel_rfl) (by kernel_rfl) (by kernel_rfl) (fun _ _ _ h => h) (by rfl) ?_ (⟨fun _ => trivial, hS⟩) ?_
        rotate_left 1
        · (intro zz; go_simp; first | done | with_reducible rfl)
        (try simp only [Act.put, List.setIfInBounds_toArray, List.set_cons_zero, List.set_cons_succ])
        refine wpAnyH_pure (i := 14) (v := ?_) rfl (by kernel_rfl) (by kernel_rfl) (by kernel_rfl) (by kernel_rfl) (by kernel_rfl) (fun _ _ _ h => h) (by rfl) ?_ (⟨fun _ => trivial, hS⟩) ?_
        rotate_left 1
        · (intro zz; go_simp; first | done | with_reducible rfl)
        (try simp only [Act.put, List.setIfInBounds_toArray, List.set_cons_zero, List.set_cons_succ])
        refine wpAnyH_pure (i := 15) (v := ?_) rfl (by kernel_rfl) (by kernel_rfl) (by kernel_rfl) (by kernel_rfl) (by kernel_rfl) (fun _ _ _ h => h) (by rfl) ?_ (⟨fun _ => trivial, hS⟩) ?_
        rotate_left 1
        · (intro zz; go_simp; first | done | with_reducible rfl)
        (try simp only [Act.put, List.setIfInBounds_toArray, List.set_cons_zero, List.set_cons_succ])
        refine wpAnyH_load2 (i := 16) (v := ?_) rfl (by kernel_rfl) (by kernel_rfl) (by kernel_rfl) (by kernel_rfl) (by kernel_rfl) (fun _ _ _ h => h) (by rfl) ?_ (⟨fun _ => trivial, hS⟩) ?_
        rotate_left 1
        · (intro zz hS2; obtain ⟨_, _, _⟩ := hS2; go_simp; first | done | with_reducible rfl)
        (try simp only [Act.put, List.setIfInBounds_toArray, List.set_cons_zero, List.set_cons_succ])
        refine wpAnyH_pure (i := 17) (v := ?_) rfl (by kernel_rfl) (by kernel_rfl) (by kernel_rfl) (by kernel_rfl) (by kernel_rfl) (fun _ _ _ h => h) (by rfl) ?_ (⟨fun _ => trivial, hS⟩) ?_
        rotate_left 1
        · (intro zz; go_simp; first | done | with_reducible rfl)
        (try simp only [Act.put, List.setIfInBounds_toArray, List.set_cons_zero, List.set_cons_succ])
        refine wpAnyH_one (i := 18) (by kernel_rfl) rfl (fun K hK => ?_)
        have hCC := HPA.out w2.drew (Upd.refl _ _).drew
        go_simp
        (with_reducible refine (hCC).mono ?_)
        rintro _ w4 ⟨vi, rfl, oi, u4⟩
        have n4 : Nw w2 w4 := Nw.drew' u4
        have hS4 := HSS.out w4 n4
        refine hK.out _ _ ⟨fun _ => trivial, hS4⟩ ?_
        clear hK K
        (try simp only [Act.put, List.setIfInBounds_toArray, List.set_cons_zero, List.set_cons_succ])
        obtain ⟨via, vic, evi⟩ := own_slG oi
        subst evi
        have HI4 := Lib.hid (HI2.out.nw n4)
        have HN4 := Lib.hid n4
        have HOI : Hid (w4.ownsRow w2.heap.size tSigned 3 (.slice via A.claims.length vic) A.claims.length (flatS A.claims)) := oi
        obtain ⟨wa, hwa⟩ : ∃ wa, w4.alloc (.cells (ansC (.slice via A.claims.length vic, A)).toArray tAns) = wa := ⟨_, rfl⟩
        have n5 : Nw w4 wa := hwa ▸ nw_alloc _ _
        have k5 := heap_new w4 (.cells (ansC (.slice via A.claims.length vic, A)).toArray tAns)
        rw [hwa] at k5
        have K5 := Lib.hid k5
        have HWA : Hid (w4.alloc (.cells #[.slice via A.claims.length vic, .string ⟨A.text.toArray⟩, .bool A.has] tAns) = wa) := hwa
        have HI5 := Lib.hid (HI4.out.nw n5)
        have HON := Lib.hid HI5.out.rows.on
        have HN5 := Lib.hid (n4.trans n5)
        have HOI5 := Lib.hid (owns_upd' (owns_base HOI.out HI2.out.mv.size) n5 (fun _ _ e => e))
        have HSB : Hid (z0.heap.size ≤ wa.heap.size ∧ nG ≤ z0.heap.size ∧ L.length + 1 ≤ maxLen ∧ (L.length + 1) * 48 ≤ 140737488355328) := ⟨HI5.out.mv.size, HFW.out.2.2, by have := HQL.out; unfold maxLen; omega, by have := HQL.out; omega⟩
        clear oi u4 n4 hCC hS n5 k5 hwa hS4
        refine wpAnyH_one (i := 19) (by kernel_rfl) rfl (fun K hK => ?_)
        go_simp
        (try rw [HWA.out])
        refine hK.out _ _ ⟨fun _ => trivial, HSS.out _ HN5.out⟩ ?_
        clear hK K
        (try simp only [Act.put, List.setIfInBounds_toArray, List.set_cons_zero, List.set_cons_succ])
        refine wpAnyH_one (i := 20) (by kernel_rfl) rfl (fun K hK => ?_)
        refine step_appU rfl _ _ 31 rfl z0.heap.size tAns _ 3 48 Tryz.underlying31 infoAns rfl (by decide) (.slice na L.length nc) L.length (flatA L) rfl wa (fun _ => False) HON.out (Upd.refl _ _) (fun _ _ e => e) _ (ansC (.slice via A.claims.length vic, A)) rfl K5.out rfl (by intro u hu; simp only [ansC, List.mem_cons, List.not_mem_nil, or_false] at hu; rcases hu with rfl | rfl | rfl <;> rfl) HSB.out.2.2.1 HSB.out.2.2.2 HSB.out.1 HSB.out.2.1 ?_
        intro gs kn ws hownS uS oS
        have h5 := HI2.out.ans HFW.out.1 HFW.out.2.1 (a := A) (zb := wa) HN5.out HOI5.out (fun j hj => (HOI.out.lt j hj).1) hownS uS (fun j hj => by
          obtain rfl : gs = j := by simpa [Value.ownBlock] using hj
          exact oS)
        have hz := Lib.hid (h5.qs (S.qs ++ [Mi.quesOf a]))
        have hS6 : ws.cell? ⟨b, off + i * 6 + 2, none⟩ = some (.int .i64 a.kind) ∧ ws.cell? ⟨b, off + i * 6 + 3, none⟩ = some (.int .i64 a.n) ∧ ws.cell? ⟨b, off + i * 6 + 4, none⟩ = some (.string ⟨a.name.toArray⟩) := by
          obtain ⟨-, -, x2, x3, x4, -⟩ := HACT.out ws hz.out.fam.nw0
          exact ⟨x2, x3, x4⟩
        refine hK.out _ _ ⟨fun _ => trivial, hS6⟩ ?_
        clear hK K
        (try simp only [Act.put, List.setIfInBounds_toArray, List.set_cons_zero, List.set_cons_succ])
        clear h5 hownS uS oS
        refine wpAnyH_pure (i := 21) (v := ?_) rfl (by kernel_rfl) (by kernel_rfl) (by kernel_rfl) (by kernel_rfl) (by kernel_rfl) (fun _ _ _ h => h) (by rfl) ?_ (⟨fun _ => trivial, hS6⟩) ?_
        rotate_left 1
        · (intro zz; go_simp; first | done | with_reducible rfl)
        (try simp only [Act.put, List.setIfInBounds_toArray, List.set_cons_zero, List.set_cons_succ])
        clear hS6
        refine wpAnyH_done (by kernel_rfl) ?_ _
        -- the round's end: the list of answers _
        go_wp2_with fail
        go_roundw
        case rel => exact ⟨i + 1, by omega, by go_num, by rw [HS2.out] <;> (try rfl), by rw [HS2.out], _, by rw [HS2.out]; exact hz.out⟩
        case measure => simp [intOf]; omega
      have hb3 : (a.do_ == 3) = false := by simp [hd3]
      have HS2 : Hid (Mi.play s0 (l.take (i + 1)) = S) := by
        show _ = _; rw [HSU.out]; unfold Mi.stepP; rw [if_neg hd0, if_neg hd1, if_neg hd2, if_neg hd3]
      have hz := HI2
      clear hd0 hd1 hd2 hd3 HSU
      -- the round's end: the list of answers L
      go_wp2_with fail
      go_roundw
      case rel => exact ⟨i + 1, by omega, by go_num, by rw [HS2.out] <;> (try rfl), by rw [HS2.out], L, by rw [HS2.out]; exact hz.out⟩
      case measure => simp [intOf]; omega
    · obtain rfl : i = l.length := by omega
      have h := HI.out
      rw [List.take_length] at h
      rw [List.take_length]
      have HE := Lib.hid h
      clear h HI
      go_wp2_with fail
      exact HEX.out _ _ _ _ _ _ _ _ _ _ _ _ _ _ _ _ _ _ _ _ _ _ _ _ _ _ _ _ _ _ _ _ _ _ _ _ _ _ _ _ _ _ _ _ _ _ _ _ _ _ _ _ _ _ _ _ _ _ _ _ _ _ _ _ _ _ _ _ _ _ _ _ _ _ _ _ _ _ _ _ _ _ _ _ _ _ _ _ _ _ _ _ _ _ _ _ _ _ _ _ _ _ _ _ _ _ _ _ HE.out
end Go.Proofs.YtagmlemlagbfkaaGreatDoor
