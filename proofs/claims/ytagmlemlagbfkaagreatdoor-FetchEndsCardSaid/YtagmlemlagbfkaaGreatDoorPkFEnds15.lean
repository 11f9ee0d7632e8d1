/- FetchEnds: the loop over what is short; the loop over the plan. -/
import Derived.Test.YtagmlemlagbfkaaGreatDoorPkFEnds14
namespace Go.Proofs.YtagmlemlagbfkaaGreatDoor
open Go.RowKit
set_option linter.unusedVariables false
set_option linter.unusedSimpArgs false
attribute [local irreducible] Calls

set_option maxHeartbeats 8000000 in
set_option maxRecDepth 100000 in
theorem fe_short {z : World} (al : Option Addr) (cl : Nat) (C : List (Value × List Int)) (hC : RowsI z (.slice al C.length cl) C) (hC6 : C.length ≤ 6) (hC40 : ∀ c ∈ C, c.2.length ≤ 40) (mb : Nat) (am : Option Addr) (cm : Nat) (mc : List Int) (hm : mc.length ≤ 60) (lo hi : Nat) (hmc : Sl lo hi z (.slice am mc.length cm) (mc.map intD))
    (hmb : z.cell? ⟨mb, 2, none⟩ = some (.slice am mc.length cm)) (sa : Option Addr) (sc : Nat) (S : List Int) (lo2 hi2 : Nat) (hs : Sl lo2 hi2 z (.slice sa S.length sc) (S.map intD)) (hS60 : S.length ≤ 60) (hS : ∀ x ∈ S, ∃ k : Nat, ∃ hk : k < mc.length, x = k ∧ ∀ c ∈ C, mc[k] ∉ c.2)
    (K0 : Act → World → Prop) { c0 c1 c2 c3 c4 c5 c6 c7 c9 c10 c11 c13 c14 c16 c17 c18 c19 c20 c21 c22 c23 c28 c29 c30 c31 c32 c33 c34 c35 c36 c37 c38 c39 c40 c41 c42 c43 c44 c45 c46 c47 c48 c49 c50 c51 c52 c53 c54 c55 c56 c57 c58 c59 c60 c61 c62 c63 c64 c65 c66 c67 c68 c69 c70 c71 c72 c73 c74 c75 c76 c77 c78 c79 c80 c81 c82 c83 c84 c85 c86 c87 c88 c89 c90 c91 c92 c93 c94 c95 c96 c97 c98 c99 c100 c101 c102 c103 c104 c105 c106 c107 c108 c109 c110 c111 c112 c113 c114 c115 c116 c117 c118 c119 c120 c121 c122 c123 c124 c125 c126 c127 c128 c129 c130 c131 c132 c133 c134 c135 c136 c137 c138 c139 c140 c141 c142 c143 c144 c197 c198 c199 c200 c201 c202 c203 c204 c205 c206 c207 c208 c209 c210 c211 c212 c213 c214 c215 c216 c217 c218 c219 c220 c221 c222 c223 c224 c225 c226 c227 c228 c229 c230 c231 c232 c233 c234 c235 c236 c237 c238 c239 c240 c241 c242 c243 c244 c245 c246 c247 c248 c249 c250 c251 c252 c253 c254 c255 c256 c257 c258 c259 c260 c261 c262 c263 c264 c265 c266 c267 c268 c269 c270 c271 c272 c273 c274 c275 c276 c277 c278 c279 c280 c281 c282 c283 c284 c285 c286 c287 c288 c289 c290 c291 c292 c293 c294 c295 c296 c297 c298 c299 c300 c301 c302 c303 c304 c305 c306 c307 c308 c309 c310 c311 c312 c313 c314 c315 c316 c317 c318 c319 c320 c321 c322 c323 c324 c325 c326 c327 c328 c329 c330 c331 c332 c333 c334 c335 c336 c337 c338 c339 c340 c341 c342 c343 c344 c345 c346 c347 c348 c349 c350 c351 c352 c353 c354 c355 c356 : Value} { u8 u26 u27 u145 u146 u147 u148 u149 u150 u151 u152 u153 u154 u155 u156 u157 u158 u159 u160 u161 u162 u163 u164 u165 u166 u167 u168 u169 u170 u171 u172 u173 u174 u175 u176 u177 u178 u179 u180 u181 u182 u183 u184 u185 u186 u187 u188 u189 u190 u191 u192 u193 u194 u195 u196 : Value} {c : Code} (hc : loopAt Tryz.f5 2 = c)
    (hexit : ∀ (u8 u26 u27 u145 u146 u147 u148 u149 u150 u151 u152 u153 u154 u155 u156 u157 u158 u159 u160 u161 u162 u163 u164 u165 u166 u167 u168 u169 u170 u171 u172 u173 u174 u175 u176 u177 u178 u179 u180 u181 u182 u183 u184 u185 u186 u187 u188 u189 u190 u191 u192 u193 u194 u195 u196 : Value) (w' : World), Nw z w' → K0 ⟨(List.toArray (c0 :: c1 :: c2 :: c3 :: c4 :: c5 :: c6 :: c7 :: u8 :: c9 :: c10 :: c11 :: (.pointer (some ⟨mb, 0, none⟩)) :: c13 :: c14 :: (.slice al C.length cl) :: c16 :: c17 :: c18 :: c19 :: c20 :: c21 :: c22 :: c23 :: (.slice sa S.length sc) :: (.int .i64 (C.length : Int)) :: u26 :: u27 :: c28 :: c29 :: c30 :: c31 :: c32 :: c33 :: c34 :: c35 :: c36 :: c37 :: c38 :: c39 :: c40 :: c41 :: c42 :: c43 :: c44 :: c45 :: c46 :: c47 :: c48 :: c49 :: c50 :: c51 :: c52 :: c53 :: c54 :: c55 :: c56 :: c57 :: c58 :: c59 :: c60 :: c61 :: c62 :: c63 :: c64 :: c65 :: c66 :: c67 :: c68 :: c69 :: c70 :: c71 :: c72 :: c73 :: c74 :: c75 :: c76 :: c77 :: c78 :: c79 :: c80 :: c81 :: c82 :: c83 :: c84 :: c85 :: c86 :: c87 :: c88 :: c89 :: c90 :: c91 :: c92 :: c93 :: c94 :: c95 :: c96 :: c97 :: c98 :: c99 :: c100 :: c101 :: c102 :: c103 :: c104 :: c105 :: c106 :: c107 :: c108 :: c109 :: c110 :: c111 :: c112 :: c113 :: c114 :: c115 :: c116 :: c117 :: c118 :: c119 :: c120 :: c121 :: c122 :: c123 :: c124 :: c125 :: c126 :: c127 :: c128 :: c129 :: c130 :: c131 :: c132 :: c133 :: c134 :: c135 :: c136 :: c137 :: c138 :: c139 :: c140 :: c141 :: c142 :: c143 :: c144 :: u145 :: u146 :: u147 :: u148 :: u149 :: u150 :: u151 :: u152 :: u153 :: u154 :: u155 :: u156 :: u157 :: u158 :: u159 :: u160 :: u161 :: u162 :: u163 :: u164 :: u165 :: u166 :: u167 :: u168 :: u169 :: u170 :: u171 :: u172 :: u173 :: u174 :: u175 :: u176 :: u177 :: u178 :: u179 :: u180 :: u181 :: u182 :: u183 :: u184 :: u185 :: u186 :: u187 :: u188 :: u189 :: u190 :: u191 :: u192 :: u193 :: u194 :: u195 :: u196 :: c197 :: c198 :: c199 :: c200 :: c201 :: c202 :: c203 :: c204 :: c205 :: c206 :: c207 :: c208 :: c209 :: c210 :: c211 :: c212 :: c213 :: c214 :: c215 :: c216 :: c217 :: c218 :: c219 :: c220 :: c221 :: c222 :: c223 :: c224 :: c225 :: c226 :: c227 :: c228 :: c229 :: c230 :: c231 :: c232 :: c233 :: c234 :: c235 :: c236 :: c237 :: c238 :: c239 :: c240 :: c241 :: c242 :: c243 :: c244 :: c245 :: c246 :: c247 :: c248 :: c249 :: c250 :: c251 :: c252 :: c253 :: c254 :: c255 :: c256 :: c257 :: c258 :: c259 :: c260 :: c261 :: c262 :: c263 :: c264 :: c265 :: c266 :: c267 :: c268 :: c269 :: c270 :: c271 :: c272 :: c273 :: c274 :: c275 :: c276 :: c277 :: c278 :: c279 :: c280 :: c281 :: c282 :: c283 :: c284 :: c285 :: c286 :: c287 :: c288 :: c289 :: c290 :: c291 :: c292 :: c293 :: c294 :: c295 :: c296 :: c297 :: c298 :: c299 :: c300 :: c301 :: c302 :: c303 :: c304 :: c305 :: c306 :: c307 :: c308 :: c309 :: c310 :: c311 :: c312 :: c313 :: c314 :: c315 :: c316 :: c317 :: c318 :: c319 :: c320 :: c321 :: c322 :: c323 :: c324 :: c325 :: c326 :: c327 :: c328 :: c329 :: c330 :: c331 :: c332 :: c333 :: c334 :: c335 :: c336 :: c337 :: c338 :: c339 :: c340 :: c341 :: c342 :: c343 :: c344 :: c345 :: c346 :: c347 :: c348 :: c349 :: c350 :: c351 :: c352 :: c353 :: c354 :: c355 :: c356 :: [])), []⟩ w') :
    Code.wp Tryz.prog c (Exit.then K0 (fun _ _ _ => False)) ⟨(List.toArray (c0 :: c1 :: c2 :: c3 :: c4 :: c5 :: c6 :: c7 :: u8 :: c9 :: c10 :: c11 :: (.pointer (some ⟨mb, 0, none⟩)) :: c13 :: c14 :: (.slice al C.length cl) :: c16 :: c17 :: c18 :: c19 :: c20 :: c21 :: c22 :: c23 :: (.slice sa S.length sc) :: (.int .i64 0) :: u26 :: u27 :: c28 :: c29 :: c30 :: c31 :: c32 :: c33 :: c34 :: c35 :: c36 :: c37 :: c38 :: c39 :: c40 :: c41 :: c42 :: c43 :: c44 :: c45 :: c46 :: c47 :: c48 :: c49 :: c50 :: c51 :: c52 :: c53 :: c54 :: c55 :: c56 :: c57 :: c58 :: c59 :: c60 :: c61 :: c62 :: c63 :: c64 :: c65 :: c66 :: c67 :: c68 :: c69 :: c70 :: c71 :: c72 :: c73 :: c74 :: c75 :: c76 :: c77 :: c78 :: c79 :: c80 :: c81 :: c82 :: c83 :: c84 :: c85 :: c86 :: c87 :: c88 :: c89 :: c90 :: c91 :: c92 :: c93 :: c94 :: c95 :: c96 :: c97 :: c98 :: c99 :: c100 :: c101 :: c102 :: c103 :: c104 :: c105 :: c106 :: c107 :: c108 :: c109 :: c110 :: c111 :: c112 :: c113 :: c114 :: c115 :: c116 :: c117 :: c118 :: c119 :: c120 :: c121 :: c122 :: c123 :: c124 :: c125 :: c126 :: c127 :: c128 :: c129 :: c130 :: c131 :: c132 :: c133 :: c134 :: c135 :: c136 :: c137 :: c138 :: c139 :: c140 :: c141 :: c142 :: c143 :: c144 :: u145 :: u146 :: u147 :: u148 :: u149 :: u150 :: u151 :: u152 :: u153 :: u154 :: u155 :: u156 :: u157 :: u158 :: u159 :: u160 :: u161 :: u162 :: u163 :: u164 :: u165 :: u166 :: u167 :: u168 :: u169 :: u170 :: u171 :: u172 :: u173 :: u174 :: u175 :: u176 :: u177 :: u178 :: u179 :: u180 :: u181 :: u182 :: u183 :: u184 :: u185 :: u186 :: u187 :: u188 :: u189 :: u190 :: u191 :: u192 :: u193 :: u194 :: u195 :: u196 :: c197 :: c198 :: c199 :: c200 :: c201 :: c202 :: c203 :: c204 :: c205 :: c206 :: c207 :: c208 :: c209 :: c210 :: c211 :: c212 :: c213 :: c214 :: c215 :: c216 :: c217 :: c218 :: c219 :: c220 :: c221 :: c222 :: c223 :: c224 :: c225 :: c226 :: c227 :: c228 :: c229 :: c230 :: c231 :: c232 :: c233 :: c234 :: c235 :: c236 :: c237 :: c238 :: c239 :: c240 :: c241 :: c242 :: c243 :: c244 :: c245 :: c246 :: c247 :: c248 :: c249 :: c250 :: c251 :: c252 :: c253 :: c254 :: c255 :: c256 :: c257 :: c258 :: c259 :: c260 :: c261 :: c262 :: c263 :: c264 :: c265 :: c266 :: c267 :: c268 :: c269 :: c270 :: c271 :: c272 :: c273 :: c274 :: c275 :: c276 :: c277 :: c278 :: c279 :: c280 :: c281 :: c282 :: c283 :: c284 :: c285 :: c286 :: c287 :: c288 :: c289 :: c290 :: c291 :: c292 :: c293 :: c294 :: c295 :: c296 :: c297 :: c298 :: c299 :: c300 :: c301 :: c302 :: c303 :: c304 :: c305 :: c306 :: c307 :: c308 :: c309 :: c310 :: c311 :: c312 :: c313 :: c314 :: c315 :: c316 :: c317 :: c318 :: c319 :: c320 :: c321 :: c322 :: c323 :: c324 :: c325 :: c326 :: c327 :: c328 :: c329 :: c330 :: c331 :: c332 :: c333 :: c334 :: c335 :: c336 :: c337 :: c338 :: c339 :: c340 :: c341 :: c342 :: c343 :: c344 :: c345 :: c346 :: c347 :: c348 :: c349 :: c350 :: c351 :: c352 :: c353 :: c354 :: c355 :: c356 :: [])), []⟩ z := by
  subst hc
  have HCE := Lib.hid (fun c hc => And.intro (hC.each c hc) (hC40 c hc))
  have HCC := Lib.hid hC.cells
  have HMC := Lib.hid (int_cells hmc)
  have HMB := Lib.hid hmb
  have HSC := Lib.hid (int_cells hs)
  have HS := Lib.hid hS
  have HEX := Lib.hid hexit
  have hC1 : (C.length : Int) ≤ 6 := by omega
  have hm1 : (mc.length : Int) ≤ 60 := by omega
  have hS1 : (S.length : Int) ≤ 60 := by omega
  clear hC hC40 hmc hmb hs hS hexit
  conv => arg 2; whnf
  go_wp2_with fail
  go_loopw [25] (fun iv wr => ∃ i : Nat, i ≤ C.length ∧ iv = .int .i64 (i : Int) ∧ Hid (Nw z wr)) (fun iv _ => C.length - (intOf iv).toNat)
  case atStart => exact ⟨0, Nat.zero_le _, rfl, Upd.refl _ _⟩
  case round =>
    obtain ⟨i, hi, rfl, U⟩ := hrel
    by_cases hlt : i < C.length
    · have hlt1 : (i : Int) < C.length := by omega
      obtain ⟨wo, hwo⟩ : ∃ y, y = wr := ⟨_, rfl⟩
      subst hwo
      rcases HCC.out with ⟨_, _, e, _, hnil | ⟨bh, oh, e2, _, hcell⟩⟩
      · simp [hnil] at hlt
      injection e with e3 e4 e5
      subst e3 e5
      subst e2
      have HH0 := Lib.hid (hcell i hlt)
      obtain ⟨⟨lo3, hi3, hs3⟩, hl40⟩ := HCE.out C[i] (List.getElem_mem hlt)
      obtain ⟨ai, ci, hvi, -, hci⟩ := int_cells hs3
      have HVI := Lib.hid hvi
      have HCI := Lib.hid hci
      have hli : (C[i].2.length : Int) ≤ 40 := by omega
      have Hmem := Lib.hid (List.getElem_mem hlt)
      clear hcell hs3 hvi hci hl40
      go_wp2_with fail
      go_loopw [26] (fun kv wr => ∃ k : Nat, k ≤ C[i].2.length ∧ kv = .int .i64 (k : Int) ∧ Hid (Nw z wr)) (fun kv _ => C[i].2.length - (intOf kv).toNat)
      case atStart => exact ⟨0, Nat.zero_le _, rfl, U⟩
      case round =>
        obtain ⟨k, hk, rfl, U2⟩ := hrel
        have h0 := nw_cell U2.out HH0.out
        rw [HVI.out] at h0
        by_cases hkl : k < C[i].2.length
        · have hkl1 : (k : Int) < C[i].2.length := by omega
          obtain ⟨w2, hw2⟩ : ∃ y, y = wr := ⟨_, rfl⟩
          subst hw2
          rcases HCI.out with hnil | ⟨bi, oi, hai, _, _, hcell⟩
          · simp [hnil] at hkl
          subst hai
          have HK0 := Lib.hid (hcell k hkl)
          have Hmem2 := Lib.hid (List.getElem_mem hkl)
          clear hcell
          go_wp2_with fail
          go_loopw [27] (fun nv wr => ∃ n : Nat, n ≤ S.length ∧ nv = .int .i64 (n : Int) ∧ Hid (Nw z wr)) (fun nv _ => S.length - (intOf nv).toNat)
          case atStart => exact ⟨0, Nat.zero_le _, rfl, U2⟩
          case round =>
            obtain ⟨n, hn, rfl, U3⟩ := hrel
            by_cases hnl : n < S.length
            · have hnl1 : (n : Int) < S.length := by omega
              rcases HSC.out with ⟨_, _, e, _, hnil | ⟨bs, os, e2, _, _, hcs⟩⟩
              · simp [hnil] at hnl
              injection e with e3 e4 e5
              subst e3 e5
              subst e2
              have s0 : ∀ j : Later wr, j.1.cell? ⟨bs, os + n, none⟩ = some (.int .i64 S[n]) := fun j => later_cell j (nw_cell U3.out (hcs n hnl))
              obtain ⟨q, hq, hqe, hqn⟩ := HS.out S[n] (List.getElem_mem hnl)
              rw [hqe] at s0
              have m0 : ∀ j : Later wr, j.1.cell? ⟨mb, 2, none⟩ = some (.slice am mc.length cm) := fun j => later_cell j (nw_cell U3.out HMB.out)
              rcases HMC.out with ⟨_, _, e, _, hnil | ⟨bm, om, e2, _, _, hcm⟩⟩
              · simp [hnil] at hq
              injection e with e3 e4 e5
              subst e3 e5
              subst e2
              have m1 : ∀ j : Later wr, j.1.cell? ⟨bm, om + q, none⟩ = some (.int .i64 mc[q]) := fun j => later_cell j (nw_cell U3.out (hcm q hq))
              have h1 : ∀ j : Later wr, j.1.cell? ⟨bh, oh + i, none⟩ = some (.slice (some ⟨bi, oi, none⟩) C[i].2.length ci) := fun j => later_cell j (nw_cell U3.out (by rw [← HVI.out]; exact HH0.out))
              have h2 : ∀ j : Later wr, j.1.cell? ⟨bi, oi + k, none⟩ = some (.int .i64 C[i].2[k]) := fun j => later_cell j (nw_cell U3.out HK0.out)
              have hne : mc[q] ≠ C[i].2[k] := fun e => hqn _ Hmem.out (e ▸ Hmem2.out)
              have hne2 : (mc[q] == C[i].2[k]) = false := by simp [hne]
              have hq1 : (q : Int) < mc.length := by omega
              have hq2 : decide ((q : Int) < 0) = false := decide_eq_false (by omega)
              have hq3 : decide ((mc.length : Int) ≤ (q : Int)) = false := decide_eq_false (by omega)
              clear hcs hqe hqn hcm hne
              generalize mc[q] = x at *
              generalize C[i].2[k] = y at *
              go_wp2_with fail
              refine wp_region_nw (by kernel_rfl) (by kernel_rfl) ?_
              repeat (go_big_quiet_step ((fail)))
              refine wpQuiet_nil ?_
              intro w5 u5
              replace u5 := later_out u5
              have s0' : ∀ j : Later w5, j.1.cell? ⟨bs, os + n, none⟩ = some (.int .i64 (q : Int)) := fun j => s0 ⟨j.1, u5.trans j.2⟩
              have m0' : ∀ j : Later w5, j.1.cell? ⟨mb, 2, none⟩ = some (.slice (some ⟨bm, om, none⟩) mc.length cm) := fun j => m0 ⟨j.1, u5.trans j.2⟩
              have m1' : ∀ j : Later w5, j.1.cell? ⟨bm, om + q, none⟩ = some (.int .i64 x) := fun j => m1 ⟨j.1, u5.trans j.2⟩
              have h1' : ∀ j : Later w5, j.1.cell? ⟨bh, oh + i, none⟩ = some (.slice (some ⟨bi, oi, none⟩) C[i].2.length ci) := fun j => h1 ⟨j.1, u5.trans j.2⟩
              have h2' : ∀ j : Later w5, j.1.cell? ⟨bi, oi + k, none⟩ = some (.int .i64 y) := fun j => h2 ⟨j.1, u5.trans j.2⟩
              have U5 := Lib.hid (U3.out.trans u5)
              clear s0 m0 m1 h1 h2 u5
              go_wp2_with fail
              refine wp_region_nw (by kernel_rfl) (by kernel_rfl) ?_
              repeat (go_big_quiet_step ((fail)))
              refine wpQuiet_nil ?_
              intro w6 u6
              replace u6 := later_out u6
              go_wp2_with fail
              go_roundw
              case rel => exact ⟨n + 1, by omega, by go_num, U5.out.trans u6⟩
              case measure => simp [intOf]; omega
            · obtain rfl : n = S.length := by omega
              go_wp2_with fail
              go_roundw
              case rel => exact ⟨k + 1, by omega, by go_num, U3⟩
              case measure => simp [intOf]; omega
        · obtain rfl : k = C[i].2.length := by omega
          go_wp2_with fail
          go_roundw
          case rel => exact ⟨i + 1, by omega, by go_num, U2⟩
          case measure => simp [intOf]; omega
    · obtain rfl : i = C.length := by omega
      go_wp2_with fail
      exact HEX.out _ _ _ _ _ _ _ _ _ _ _ _ _ _ _ _ _ _ _ _ _ _ _ _ _ _ _ _ _ _ _ _ _ _ _ _ _ _ _ _ _ _ _ _ _ _ _ _ _ _ _ _ _ _ _ _ U.out
set_option maxHeartbeats 8000000 in
set_option maxRecDepth 100000 in
theorem fe_plan {z : World} (al : Option Addr) (cl : Nat) (C : List (Value × List Int)) (hC : RowsI z (.slice al C.length cl) C) (hC6 : C.length ≤ 6) (hC40 : ∀ c ∈ C, c.2.length ≤ 40) (mb : Nat) (am : Option Addr) (cm : Nat) (mc : List Int) (hm : mc.length ≤ 60) (lo hi : Nat) (hmc : Sl lo hi z (.slice am mc.length cm) (mc.map intD))
    (hmb : z.cell? ⟨mb, 2, none⟩ = some (.slice am mc.length cm)) (pa : Option Addr) (pc : Nat) (P : List Int) (hPl : P.length = mc.length) (lo2 hi2 : Nat) (hp : Sl lo2 hi2 z (.slice pa mc.length pc) (P.map intD)) (hP : ∀ i (h : i < mc.length), ∃ b : Nat, ∃ hb : b < C.length, P.getD i 0 = b ∧ mc[i] ∈ C[b].2)
    (K0 : Act → World → Prop) { c0 c1 c2 c3 c4 c5 c6 c7 c9 c10 c11 c13 c14 c16 c17 c18 c19 c21 c22 c23 c24 c25 c26 c27 c29 c30 c31 c32 c33 c34 c35 c36 c37 c38 c39 c40 c41 c42 c43 c44 c45 c46 c47 c48 c49 c50 c51 c52 c53 c54 c55 c56 c57 c58 c59 c60 c61 c62 c63 c64 c65 c66 c67 c68 c69 c70 c71 c72 c73 c74 c75 c76 c77 c78 c79 c80 c81 c82 c83 c84 c85 c86 c87 c88 c89 c90 c91 c92 c93 c94 c95 c96 c97 c98 c99 c100 c101 c102 c103 c104 c105 c106 c107 c108 c109 c110 c111 c112 c113 c114 c115 c116 c117 c118 c119 c120 c121 c122 c123 c124 c125 c126 c127 c128 c129 c130 c131 c132 c133 c134 c135 c136 c137 c138 c139 c140 c141 c142 c143 c144 c145 c146 c147 c148 c149 c150 c151 c152 c153 c154 c155 c156 c157 c158 c159 c160 c161 c162 c163 c164 c165 c166 c167 c168 c169 c170 c171 c172 c173 c174 c175 c176 c177 c178 c179 c180 c181 c182 c183 c184 c185 c186 c187 c188 c189 c190 c191 c192 c193 c194 c195 c196 c197 c198 c199 c200 c201 c202 c203 c204 c205 c206 c207 c208 c209 c210 c211 c212 c213 c214 c215 c216 c217 c218 c219 c220 c221 c222 c223 c224 c260 c261 c262 c263 c264 c265 c266 c267 c268 c269 c270 c271 c272 c273 c274 c275 c276 c277 c278 c279 c280 c281 c282 c283 c284 c285 c286 c287 c288 c289 c290 c291 c292 c293 c294 c295 c296 c297 c298 c299 c300 c301 c302 c303 c304 c305 c306 c307 c308 c309 c310 c311 c312 c313 c314 c315 c316 c317 c318 c319 c320 c321 c322 c323 c324 c325 c326 c327 c328 c329 c330 c331 c332 c333 c334 c335 c336 c337 c338 c339 c340 c341 c342 c343 c344 c345 c346 c347 c348 c349 c350 c351 c352 c353 c354 c355 c356 : Value} { u8 u225 u226 u227 u228 u229 u230 u231 u232 u233 u234 u235 u236 u237 u238 u239 u240 u241 u242 u243 u244 u245 u246 u247 u248 u249 u250 u251 u252 u253 u254 u255 u256 u257 u258 u259 : Value} {c : Code} (hc : loopAt Tryz.f5 5 = c)
    (hexit : ∀ (u8 u225 u226 u227 u228 u229 u230 u231 u232 u233 u234 u235 u236 u237 u238 u239 u240 u241 u242 u243 u244 u245 u246 u247 u248 u249 u250 u251 u252 u253 u254 u255 u256 u257 u258 u259 : Value) (w' : World), Nw z w' → K0 ⟨(List.toArray (c0 :: c1 :: c2 :: c3 :: c4 :: c5 :: c6 :: c7 :: u8 :: c9 :: c10 :: c11 :: (.pointer (some ⟨mb, 0, none⟩)) :: c13 :: c14 :: (.slice al C.length cl) :: c16 :: c17 :: c18 :: c19 :: (.slice pa mc.length pc) :: c21 :: c22 :: c23 :: c24 :: c25 :: c26 :: c27 :: (.int .i64 (mc.length : Int)) :: c29 :: c30 :: c31 :: c32 :: c33 :: c34 :: c35 :: c36 :: c37 :: c38 :: c39 :: c40 :: c41 :: c42 :: c43 :: c44 :: c45 :: c46 :: c47 :: c48 :: c49 :: c50 :: c51 :: c52 :: c53 :: c54 :: c55 :: c56 :: c57 :: c58 :: c59 :: c60 :: c61 :: c62 :: c63 :: c64 :: c65 :: c66 :: c67 :: c68 :: c69 :: c70 :: c71 :: c72 :: c73 :: c74 :: c75 :: c76 :: c77 :: c78 :: c79 :: c80 :: c81 :: c82 :: c83 :: c84 :: c85 :: c86 :: c87 :: c88 :: c89 :: c90 :: c91 :: c92 :: c93 :: c94 :: c95 :: c96 :: c97 :: c98 :: c99 :: c100 :: c101 :: c102 :: c103 :: c104 :: c105 :: c106 :: c107 :: c108 :: c109 :: c110 :: c111 :: c112 :: c113 :: c114 :: c115 :: c116 :: c117 :: c118 :: c119 :: c120 :: c121 :: c122 :: c123 :: c124 :: c125 :: c126 :: c127 :: c128 :: c129 :: c130 :: c131 :: c132 :: c133 :: c134 :: c135 :: c136 :: c137 :: c138 :: c139 :: c140 :: c141 :: c142 :: c143 :: c144 :: c145 :: c146 :: c147 :: c148 :: c149 :: c150 :: c151 :: c152 :: c153 :: c154 :: c155 :: c156 :: c157 :: c158 :: c159 :: c160 :: c161 :: c162 :: c163 :: c164 :: c165 :: c166 :: c167 :: c168 :: c169 :: c170 :: c171 :: c172 :: c173 :: c174 :: c175 :: c176 :: c177 :: c178 :: c179 :: c180 :: c181 :: c182 :: c183 :: c184 :: c185 :: c186 :: c187 :: c188 :: c189 :: c190 :: c191 :: c192 :: c193 :: c194 :: c195 :: c196 :: c197 :: c198 :: c199 :: c200 :: c201 :: c202 :: c203 :: c204 :: c205 :: c206 :: c207 :: c208 :: c209 :: c210 :: c211 :: c212 :: c213 :: c214 :: c215 :: c216 :: c217 :: c218 :: c219 :: c220 :: c221 :: c222 :: c223 :: c224 :: u225 :: u226 :: u227 :: u228 :: u229 :: u230 :: u231 :: u232 :: u233 :: u234 :: u235 :: u236 :: u237 :: u238 :: u239 :: u240 :: u241 :: u242 :: u243 :: u244 :: u245 :: u246 :: u247 :: u248 :: u249 :: u250 :: u251 :: u252 :: u253 :: u254 :: u255 :: u256 :: u257 :: u258 :: u259 :: c260 :: c261 :: c262 :: c263 :: c264 :: c265 :: c266 :: c267 :: c268 :: c269 :: c270 :: c271 :: c272 :: c273 :: c274 :: c275 :: c276 :: c277 :: c278 :: c279 :: c280 :: c281 :: c282 :: c283 :: c284 :: c285 :: c286 :: c287 :: c288 :: c289 :: c290 :: c291 :: c292 :: c293 :: c294 :: c295 :: c296 :: c297 :: c298 :: c299 :: c300 :: c301 :: c302 :: c303 :: c304 :: c305 :: c306 :: c307 :: c308 :: c309 :: c310 :: c311 :: c312 :: c313 :: c314 :: c315 :: c316 :: c317 :: c318 :: c319 :: c320 :: c321 :: c322 :: c323 :: c324 :: c325 :: c326 :: c327 :: c328 :: c329 :: c330 :: c331 :: c332 :: c333 :: c334 :: c335 :: c336 :: c337 :: c338 :: c339 :: c340 :: c341 :: c342 :: c343 :: c344 :: c345 :: c346 :: c347 :: c348 :: c349 :: c350 :: c351 :: c352 :: c353 :: c354 :: c355 :: c356 :: [])), []⟩ w') :
    Code.wp Tryz.prog c (Exit.then K0 (fun _ _ _ => False)) ⟨(List.toArray (c0 :: c1 :: c2 :: c3 :: c4 :: c5 :: c6 :: c7 :: u8 :: c9 :: c10 :: c11 :: (.pointer (some ⟨mb, 0, none⟩)) :: c13 :: c14 :: (.slice al C.length cl) :: c16 :: c17 :: c18 :: c19 :: (.slice pa mc.length pc) :: c21 :: c22 :: c23 :: c24 :: c25 :: c26 :: c27 :: (.int .i64 0) :: c29 :: c30 :: c31 :: c32 :: c33 :: c34 :: c35 :: c36 :: c37 :: c38 :: c39 :: c40 :: c41 :: c42 :: c43 :: c44 :: c45 :: c46 :: c47 :: c48 :: c49 :: c50 :: c51 :: c52 :: c53 :: c54 :: c55 :: c56 :: c57 :: c58 :: c59 :: c60 :: c61 :: c62 :: c63 :: c64 :: c65 :: c66 :: c67 :: c68 :: c69 :: c70 :: c71 :: c72 :: c73 :: c74 :: c75 :: c76 :: c77 :: c78 :: c79 :: c80 :: c81 :: c82 :: c83 :: c84 :: c85 :: c86 :: c87 :: c88 :: c89 :: c90 :: c91 :: c92 :: c93 :: c94 :: c95 :: c96 :: c97 :: c98 :: c99 :: c100 :: c101 :: c102 :: c103 :: c104 :: c105 :: c106 :: c107 :: c108 :: c109 :: c110 :: c111 :: c112 :: c113 :: c114 :: c115 :: c116 :: c117 :: c118 :: c119 :: c120 :: c121 :: c122 :: c123 :: c124 :: c125 :: c126 :: c127 :: c128 :: c129 :: c130 :: c131 :: c132 :: c133 :: c134 :: c135 :: c136 :: c137 :: c138 :: c139 :: c140 :: c141 :: c142 :: c143 :: c144 :: c145 :: c146 :: c147 :: c148 :: c149 :: c150 :: c151 :: c152 :: c153 :: c154 :: c155 :: c156 :: c157 :: c158 :: c159 :: c160 :: c161 :: c162 :: c163 :: c164 :: c165 :: c166 :: c167 :: c168 :: c169 :: c170 :: c171 :: c172 :: c173 :: c174 :: c175 :: c176 :: c177 :: c178 :: c179 :: c180 :: c181 :: c182 :: c183 :: c184 :: c185 :: c186 :: c187 :: c188 :: c189 :: c190 :: c191 :: c192 :: c193 :: c194 :: c195 :: c196 :: c197 :: c198 :: c199 :: c200 :: c201 :: c202 :: c203 :: c204 :: c205 :: c206 :: c207 :: c208 :: c209 :: c210 :: c211 :: c212 :: c213 :: c214 :: c215 :: c216 :: c217 :: c218 :: c219 :: c220 :: c221 :: c222 :: c223 :: c224 :: u225 :: u226 :: u227 :: u228 :: u229 :: u230 :: u231 :: u232 :: u233 :: u234 :: u235 :: u236 :: u237 :: u238 :: u239 :: u240 :: u241 :: u242 :: u243 :: u244 :: u245 :: u246 :: u247 :: u248 :: u249 :: u250 :: u251 :: u252 :: u253 :: u254 :: u255 :: u256 :: u257 :: u258 :: u259 :: c260 :: c261 :: c262 :: c263 :: c264 :: c265 :: c266 :: c267 :: c268 :: c269 :: c270 :: c271 :: c272 :: c273 :: c274 :: c275 :: c276 :: c277 :: c278 :: c279 :: c280 :: c281 :: c282 :: c283 :: c284 :: c285 :: c286 :: c287 :: c288 :: c289 :: c290 :: c291 :: c292 :: c293 :: c294 :: c295 :: c296 :: c297 :: c298 :: c299 :: c300 :: c301 :: c302 :: c303 :: c304 :: c305 :: c306 :: c307 :: c308 :: c309 :: c310 :: c311 :: c312 :: c313 :: c314 :: c315 :: c316 :: c317 :: c318 :: c319 :: c320 :: c321 :: c322 :: c323 :: c324 :: c325 :: c326 :: c327 :: c328 :: c329 :: c330 :: c331 :: c332 :: c333 :: c334 :: c335 :: c336 :: c337 :: c338 :: c339 :: c340 :: c341 :: c342 :: c343 :: c344 :: c345 :: c346 :: c347 :: c348 :: c349 :: c350 :: c351 :: c352 :: c353 :: c354 :: c355 :: c356 :: [])), []⟩ z := by
  subst hc
  have HCE := Lib.hid (fun c hc => And.intro (hC.each c hc) (hC40 c hc))
  have HCC := Lib.hid hC.cells
  have HMC := Lib.hid (int_cells hmc)
  have HMB := Lib.hid hmb
  have HPC := Lib.hid (int_cells hp)
  have HP := Lib.hid hP
  have HPl := Lib.hid hPl
  have HEX := Lib.hid hexit
  have hC1 : (C.length : Int) ≤ 6 := by omega
  have hm1 : (mc.length : Int) ≤ 60 := by omega
  clear hC hC40 hmc hmb hp hP hPl hexit
  conv => arg 2; whnf
  go_wp2_with fail
  go_loopw [28] (fun iv wr => ∃ i : Nat, i ≤ mc.length ∧ iv = .int .i64 (i : Int) ∧ Hid (Nw z wr)) (fun iv _ => mc.length - (intOf iv).toNat)
  case atStart => exact ⟨0, Nat.zero_le _, rfl, Upd.refl _ _⟩
  case round =>
    obtain ⟨i, hi, rfl, U⟩ := hrel
    by_cases hlt : i < mc.length
    · have hlt1 : (i : Int) < mc.length := by omega
      obtain ⟨b, hb, hpb, hin⟩ := HP.out i hlt
      rcases HCC.out with ⟨_, _, e, _, hnil | ⟨bh, oh, e2, _, hcell⟩⟩
      · simp [hnil] at hb
      injection e with e3 e4 e5
      subst e3 e5
      subst e2
      rcases HMC.out with ⟨_, _, e, _, hnil | ⟨bm, om, e2, _, _, hcm⟩⟩
      · simp [hnil] at hlt
      injection e with e3 e4 e5
      subst e3 e5
      subst e2
      rcases HPC.out with ⟨_, _, e, _, hnil | ⟨bp, op, e2, _, _, hcp⟩⟩
      · have := HPl.out; rw [hnil] at this; simp at this; omega
      injection e with e3 e4 e5
      subst e3 e5
      subst e2
      clear e4
      have hiP : i < P.length := by rw [HPl.out]; exact hlt
      have p0 := nw_cell U.out (hcp i hiP)
      have epb : P[i] = b := by rw [← hpb]; simp [hiP]
      rw [epb] at p0
      obtain ⟨⟨lo3, hi3, hs3⟩, hl40⟩ := HCE.out C[b] (List.getElem_mem hb)
      obtain ⟨ai, ci, hvi, -, -⟩ := int_cells hs3
      have h0 := nw_cell U.out (hcell b hb)
      have m0 := nw_cell U.out HMB.out
      have m1 := nw_cell U.out (hcm i hlt)
      have hb1 : (b : Int) < C.length := by omega
      have hb2 : decide ((b : Int) < 0) = false := decide_eq_false (by omega)
      have hb3 : decide ((C.length : Int) ≤ (b : Int)) = false := decide_eq_false (by omega)
      have na := (nw_alloc wr (.cells #[.int .i64 mc[i]] 3)).drew
      have hsl1 := sl_lit (Nw.keep ((Upd.refl (fun _ => False) _).drew) (heap_new wr (.cells ([mc[i]].map intD).toArray 3))) (by simp)
      have hwi := within_c _ _ _ _ _ _ [mc[i]] C[b].2 _ hsl1 (hs3.nw (U.out.trans na)) (by simp) (by omega)
      have hwd : wdB [mc[i]] C[b].2 = true := by unfold wdB; rw [List.all_cons, decide_eq_true hin]; rfl
      rw [hwd] at hwi
      have HWi : Hid (Calls Tryz.prog 40 #[.slice (some ⟨wr.heap.size, 0, none⟩) 1 1, C[b].1] (wr.alloc (.cells #[.int .i64 mc[i]] 3)).drew fun e w' => e = .returned (.bool true) ∧ Nw (wr.alloc (.cells #[.int .i64 mc[i]] 3)).drew w') := hwi
      rw [hvi] at HWi h0
      have HKc := Lib.hid (fun (y : World) (u : Nw wr y) => (show y.cell? ⟨mb, 2, none⟩ = some (.slice (some ⟨bm, om, none⟩) mc.length cm) ∧ y.cell? ⟨bm, om + i, none⟩ = some (.int .i64 mc[i]) ∧ y.cell? ⟨bp, op + i, none⟩ = some (.int .i64 (b : Int)) ∧ y.cell? ⟨bh, oh + b, none⟩ = some (.slice ai C[b].2.length ci) from ⟨nw_cell u m0, nw_cell u m1, nw_cell u p0, nw_cell u h0⟩))
      have NA := Lib.hid na
      clear hcell hcm hcp hpb hin hs3 hvi na hsl1 hwi hwd epb
      go_wp2_with fail
      go_region_held3 (fun y => y.cell? ⟨mb, 2, none⟩ = some (.slice (some ⟨bm, om, none⟩) mc.length cm) ∧ y.cell? ⟨bm, om + i, none⟩ = some (.int .i64 mc[i]) ∧ y.cell? ⟨bp, op + i, none⟩ = some (.int .i64 (b : Int)) ∧ y.cell? ⟨bh, oh + b, none⟩ = some (.slice ai C[b].2.length ci)) (with_reducible first | exact HKc.out _ (Upd.refl _ _).drew | exact HKc.out _ NA.out | exact HKc.out _ (NA.out.trans uwi) | go_keep) (first | (go_at_call 40; (with_reducible refine HWi.out.mono ?_); rintro _ w14 ⟨rfl, uwi⟩))
      have U14 := Lib.hid (U.out.trans (NA.out.trans uwi))
      clear HWi HKc m0 m1 p0 h0 uwi
      go_wp2_with fail
      go_roundw
      case rel => exact ⟨i + 1, by omega, by go_num, U14⟩
      case measure => simp [intOf]; omega
    · obtain rfl : i = mc.length := by omega
      go_wp2_with fail
      exact HEX.out _ _ _ _ _ _ _ _ _ _ _ _ _ _ _ _ _ _ _ _ _ _ _ _ _ _ _ _ _ _ _ _ _ _ _ _ _ U.out
end Go.Proofs.YtagmlemlagbfkaaGreatDoor
