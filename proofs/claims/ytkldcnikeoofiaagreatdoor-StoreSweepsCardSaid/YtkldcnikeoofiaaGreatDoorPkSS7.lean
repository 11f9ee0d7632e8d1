/- StoreSweeps: its loop over the operations. -/
import Derived.Test.YtkldcnikeoofiaaGreatDoorPkSS5
import Derived.Test.YtkldcnikeoofiaaGreatDoorPkSS6
namespace Go.Proofs.YtkldcnikeoofiaaGreatDoor
open Go.RowKit
set_option linter.unusedVariables false
set_option linter.unusedSimpArgs false
attribute [local irreducible] Calls CallsIn

theorem swept_swept (S : Sg.Sta) : Sg.swept (Sg.swept S) = Sg.swept S := by
  conv => lhs; unfold Sg.swept
  rw [if_pos]
  · rfl
  · exact Sg.swept_spare S
/-- While the operations are done: the greatest number that a text had. -/
def SwI (w : World) (db sb : Nat) (m : Int) (k : Nat) (z : World) : Prop := ∃ S, -1 ≤ m ∧ m < (S.th.length : Nat) ∧ CS w db 15 (fun _ => False) sb S k z
set_option maxHeartbeats 8000000 in
set_option maxRecDepth 100000 in
theorem ss_loop {w : World} (g : GmS w) {db sb : Nat} {C : List GC} {v0 : Value} {w0 : World} (h0 : GopS w0.heap.size w0 v0 C) (hw0 : Nw w0 w) (hF : fewSB C = true) (hC : C.length ≤ 12) {z : World} (h : CS w db 15 (fun _ => False) sb Sg.nil 0 z)
    (K0 : Act → World → Prop) { c1 c2 c3 c5 c6 c8 c15 c16 c17 c18 c19 c20 c21 c22 c23 c24 c25 c26 c27 c28 c29 c30 c31 c32 c33 c34 c35 c36 c37 c38 c39 c40 c41 c42 c43 c44 c45 c46 c47 c48 c49 c50 c51 c52 c53 c54 c55 c56 c57 c58 c59 c60 c61 c62 c63 c64 c65 c66 c67 c68 c69 c70 c71 c72 c73 c74 c75 c76 c150 c151 c152 c153 c154 c155 c156 c157 c158 c159 c160 c161 c162 c163 c164 c165 c166 c167 c168 c169 c170 c171 c172 c173 c174 c175 c176 c177 c178 c179 c180 c181 c182 c183 c184 c185 c186 c187 c188 c189 c190 c191 c192 c193 c194 c195 c196 c197 c198 c199 c200 c201 c202 c203 c204 c205 c206 c207 c208 c209 c210 c211 c212 c213 c214 c215 c216 c217 c218 c219 c220 c221 c222 c223 c224 c225 c226 c227 c228 c229 c230 c231 c232 c233 c234 c235 c236 c237 c238 c239 c240 c241 c242 c243 c244 c245 c246 c247 c248 c249 c250 c251 c252 c253 c254 c255 c256 c257 c258 c259 c260 c261 c262 c263 c264 c265 c266 c267 c268 c269 c270 c271 c272 c273 c274 c275 c276 c277 c278 c279 c280 c281 c282 c283 c284 c285 c286 c287 c288 c289 c290 c291 c292 c293 c294 c295 c296 c297 c298 c299 c300 c301 c302 c303 c304 c305 c306 c307 c308 c309 c310 c311 c312 c313 c314 c315 c316 c317 c318 c319 c320 c321 c322 c323 c324 c325 c326 c327 c328 c329 c330 c331 c332 c333 c334 c335 c336 c337 c338 c339 c340 c341 c342 c343 c344 c345 c346 c347 c348 c349 c350 c351 c352 c353 c354 c355 c356 c357 c358 c359 c360 c361 c362 c363 c364 c365 c366 c367 c368 c369 c370 c371 c372 : Value} { u4 u11 u12 u13 u14 u77 u78 u79 u80 u81 u82 u83 u84 u85 u86 u87 u88 u89 u90 u91 u92 u93 u94 u95 u96 u97 u98 u99 u100 u101 u102 u103 u104 u105 u106 u107 u108 u109 u110 u111 u112 u113 u114 u115 u116 u117 u118 u119 u120 u121 u122 u123 u124 u125 u126 u127 u128 u129 u130 u131 u132 u133 u134 u135 u136 u137 u138 u139 u140 u141 u142 u143 u144 u145 u146 u147 u148 u149 : Value} {c : Code} (hc : loopAt Tryz.f4 0 = c)
    (hexit : ∀ (u4 u11 u12 u13 u14 u77 u78 u79 u80 u81 u82 u83 u84 u85 u86 u87 u88 u89 u90 u91 u92 u93 u94 u95 u96 u97 u98 u99 u100 u101 u102 u103 u104 u105 u106 u107 u108 u109 u110 u111 u112 u113 u114 u115 u116 u117 u118 u119 u120 u121 u122 u123 u124 u125 u126 u127 u128 u129 u130 u131 u132 u133 u134 u135 u136 u137 u138 u139 u140 u141 u142 u143 u144 u145 u146 u147 u148 u149 : Value) (m : Int) (w' : World), SwI w db sb m C.length w' → K0 ⟨(List.toArray ((v0) :: c1 :: c2 :: c3 :: u4 :: c5 :: c6 :: (.pointer (some ⟨sb, 0, none⟩)) :: c8 :: (.int .i64 m) :: (.int .i64 (C.length : Int)) :: u11 :: u12 :: u13 :: u14 :: c15 :: c16 :: c17 :: c18 :: c19 :: c20 :: c21 :: c22 :: c23 :: c24 :: c25 :: c26 :: c27 :: c28 :: c29 :: c30 :: c31 :: c32 :: c33 :: c34 :: c35 :: c36 :: c37 :: c38 :: c39 :: c40 :: c41 :: c42 :: c43 :: c44 :: c45 :: c46 :: c47 :: c48 :: c49 :: c50 :: c51 :: c52 :: c53 :: c54 :: c55 :: c56 :: c57 :: c58 :: c59 :: c60 :: c61 :: c62 :: c63 :: c64 :: c65 :: c66 :: c67 :: c68 :: c69 :: c70 :: c71 :: c72 :: c73 :: c74 :: c75 :: c76 :: u77 :: u78 :: u79 :: u80 :: u81 :: u82 :: u83 :: u84 :: u85 :: u86 :: u87 :: u88 :: u89 :: u90 :: u91 :: u92 :: u93 :: u94 :: u95 :: u96 :: u97 :: u98 :: u99 :: u100 :: u101 :: u102 :: u103 :: u104 :: u105 :: u106 :: u107 :: u108 :: u109 :: u110 :: u111 :: u112 :: u113 :: u114 :: u115 :: u116 :: u117 :: u118 :: u119 :: u120 :: u121 :: u122 :: u123 :: u124 :: u125 :: u126 :: u127 :: u128 :: u129 :: u130 :: u131 :: u132 :: u133 :: u134 :: u135 :: u136 :: u137 :: u138 :: u139 :: u140 :: u141 :: u142 :: u143 :: u144 :: u145 :: u146 :: u147 :: u148 :: u149 :: c150 :: c151 :: c152 :: c153 :: c154 :: c155 :: c156 :: c157 :: c158 :: c159 :: c160 :: c161 :: c162 :: c163 :: c164 :: c165 :: c166 :: c167 :: c168 :: c169 :: c170 :: c171 :: c172 :: c173 :: c174 :: c175 :: c176 :: c177 :: c178 :: c179 :: c180 :: c181 :: c182 :: c183 :: c184 :: c185 :: c186 :: c187 :: c188 :: c189 :: c190 :: c191 :: c192 :: c193 :: c194 :: c195 :: c196 :: c197 :: c198 :: c199 :: c200 :: c201 :: c202 :: c203 :: c204 :: c205 :: c206 :: c207 :: c208 :: c209 :: c210 :: c211 :: c212 :: c213 :: c214 :: c215 :: c216 :: c217 :: c218 :: c219 :: c220 :: c221 :: c222 :: c223 :: c224 :: c225 :: c226 :: c227 :: c228 :: c229 :: c230 :: c231 :: c232 :: c233 :: c234 :: c235 :: c236 :: c237 :: c238 :: c239 :: c240 :: c241 :: c242 :: c243 :: c244 :: c245 :: c246 :: c247 :: c248 :: c249 :: c250 :: c251 :: c252 :: c253 :: c254 :: c255 :: c256 :: c257 :: c258 :: c259 :: c260 :: c261 :: c262 :: c263 :: c264 :: c265 :: c266 :: c267 :: c268 :: c269 :: c270 :: c271 :: c272 :: c273 :: c274 :: c275 :: c276 :: c277 :: c278 :: c279 :: c280 :: c281 :: c282 :: c283 :: c284 :: c285 :: c286 :: c287 :: c288 :: c289 :: c290 :: c291 :: c292 :: c293 :: c294 :: c295 :: c296 :: c297 :: c298 :: c299 :: c300 :: c301 :: c302 :: c303 :: c304 :: c305 :: c306 :: c307 :: c308 :: c309 :: c310 :: c311 :: c312 :: c313 :: c314 :: c315 :: c316 :: c317 :: c318 :: c319 :: c320 :: c321 :: c322 :: c323 :: c324 :: c325 :: c326 :: c327 :: c328 :: c329 :: c330 :: c331 :: c332 :: c333 :: c334 :: c335 :: c336 :: c337 :: c338 :: c339 :: c340 :: c341 :: c342 :: c343 :: c344 :: c345 :: c346 :: c347 :: c348 :: c349 :: c350 :: c351 :: c352 :: c353 :: c354 :: c355 :: c356 :: c357 :: c358 :: c359 :: c360 :: c361 :: c362 :: c363 :: c364 :: c365 :: c366 :: c367 :: c368 :: c369 :: c370 :: c371 :: c372 :: [])), []⟩ w') :
    Code.wp Tryz.prog c (Exit.then K0 (fun _ _ _ => False)) ⟨(List.toArray ((v0) :: c1 :: c2 :: c3 :: u4 :: c5 :: c6 :: (.pointer (some ⟨sb, 0, none⟩)) :: c8 :: (.int .i64 (-1)) :: (.int .i64 0) :: u11 :: u12 :: u13 :: u14 :: c15 :: c16 :: c17 :: c18 :: c19 :: c20 :: c21 :: c22 :: c23 :: c24 :: c25 :: c26 :: c27 :: c28 :: c29 :: c30 :: c31 :: c32 :: c33 :: c34 :: c35 :: c36 :: c37 :: c38 :: c39 :: c40 :: c41 :: c42 :: c43 :: c44 :: c45 :: c46 :: c47 :: c48 :: c49 :: c50 :: c51 :: c52 :: c53 :: c54 :: c55 :: c56 :: c57 :: c58 :: c59 :: c60 :: c61 :: c62 :: c63 :: c64 :: c65 :: c66 :: c67 :: c68 :: c69 :: c70 :: c71 :: c72 :: c73 :: c74 :: c75 :: c76 :: u77 :: u78 :: u79 :: u80 :: u81 :: u82 :: u83 :: u84 :: u85 :: u86 :: u87 :: u88 :: u89 :: u90 :: u91 :: u92 :: u93 :: u94 :: u95 :: u96 :: u97 :: u98 :: u99 :: u100 :: u101 :: u102 :: u103 :: u104 :: u105 :: u106 :: u107 :: u108 :: u109 :: u110 :: u111 :: u112 :: u113 :: u114 :: u115 :: u116 :: u117 :: u118 :: u119 :: u120 :: u121 :: u122 :: u123 :: u124 :: u125 :: u126 :: u127 :: u128 :: u129 :: u130 :: u131 :: u132 :: u133 :: u134 :: u135 :: u136 :: u137 :: u138 :: u139 :: u140 :: u141 :: u142 :: u143 :: u144 :: u145 :: u146 :: u147 :: u148 :: u149 :: c150 :: c151 :: c152 :: c153 :: c154 :: c155 :: c156 :: c157 :: c158 :: c159 :: c160 :: c161 :: c162 :: c163 :: c164 :: c165 :: c166 :: c167 :: c168 :: c169 :: c170 :: c171 :: c172 :: c173 :: c174 :: c175 :: c176 :: c177 :: c178 :: c179 :: c180 :: c181 :: c182 :: c183 :: c184 :: c185 :: c186 :: c187 :: c188 :: c189 :: c190 :: c191 :: c192 :: c193 :: c194 :: c195 :: c196 :: c197 :: c198 :: c199 :: c200 :: c201 :: c202 :: c203 :: c204 :: c205 :: c206 :: c207 :: c208 :: c209 :: c210 :: c211 :: c212 :: c213 :: c214 :: c215 :: c216 :: c217 :: c218 :: c219 :: c220 :: c221 :: c222 :: c223 :: c224 :: c225 :: c226 :: c227 :: c228 :: c229 :: c230 :: c231 :: c232 :: c233 :: c234 :: c235 :: c236 :: c237 :: c238 :: c239 :: c240 :: c241 :: c242 :: c243 :: c244 :: c245 :: c246 :: c247 :: c248 :: c249 :: c250 :: c251 :: c252 :: c253 :: c254 :: c255 :: c256 :: c257 :: c258 :: c259 :: c260 :: c261 :: c262 :: c263 :: c264 :: c265 :: c266 :: c267 :: c268 :: c269 :: c270 :: c271 :: c272 :: c273 :: c274 :: c275 :: c276 :: c277 :: c278 :: c279 :: c280 :: c281 :: c282 :: c283 :: c284 :: c285 :: c286 :: c287 :: c288 :: c289 :: c290 :: c291 :: c292 :: c293 :: c294 :: c295 :: c296 :: c297 :: c298 :: c299 :: c300 :: c301 :: c302 :: c303 :: c304 :: c305 :: c306 :: c307 :: c308 :: c309 :: c310 :: c311 :: c312 :: c313 :: c314 :: c315 :: c316 :: c317 :: c318 :: c319 :: c320 :: c321 :: c322 :: c323 :: c324 :: c325 :: c326 :: c327 :: c328 :: c329 :: c330 :: c331 :: c332 :: c333 :: c334 :: c335 :: c336 :: c337 :: c338 :: c339 :: c340 :: c341 :: c342 :: c343 :: c344 :: c345 :: c346 :: c347 :: c348 :: c349 :: c350 :: c351 :: c352 :: c353 :: c354 :: c355 :: c356 :: c357 :: c358 :: c359 :: c360 :: c361 :: c362 :: c363 :: c364 :: c365 :: c366 :: c367 :: c368 :: c369 :: c370 :: c371 :: c372 :: [])), []⟩ z := by
  subst hc
  obtain ⟨a0, c0, rfl, m0, _⟩ := gop_cells h0
  have HA := Lib.hid h0
  have HW := Lib.hid hw0
  have HFw := Lib.hid hF
  have HEX := Lib.hid hexit
  have H := Lib.hid h
  have hl1 : (C.length : Int) ≤ 12 := by omega
  clear h0 hw0 hF hexit m0 h hC
  conv => arg 2; whnf
  go_wp2_with fail
  go_loopw [9, 10] (fun mv iv wr => ∃ (k : Nat) (m : Int), k ≤ C.length ∧ iv = .int .i64 (k : Int) ∧ mv = .int .i64 m ∧ Hid (SwI w db sb m k wr)) (fun _ iv _ => C.length - (intOf iv).toNat)
  case atStart => exact ⟨0, -1, Nat.zero_le _, rfl, rfl, Sg.nil, by omega, by simp [Sg.nil], H.out⟩
  case round =>
    obtain ⟨k, m, hk, rfl, rfl, hr⟩ := hrel
    by_cases hlt : k < C.length
    · obtain ⟨S, hm1, hm2, hcs⟩ := hr.out
      clear hr
      have HC := Lib.hid hcs
      have HM := Lib.hid (And.intro hm1 hm2)
      have uw := HW.out.trans hcs.nw0
      have hA2 := HA.out.nw uw
      obtain ⟨a', cap', ev, _, hcells⟩ := gop_cells hA2
      simp only [Value.slice.injEq, true_and] at ev
      obtain ⟨rfl, rfl⟩ := ev
      rcases hcells with h | ⟨cb, co, rfl, hcb1, hcb2, hcl⟩
      · omega
      obtain ⟨d0, d1, d2, d3, d4, d5⟩ := hcl k hlt
      obtain ⟨q1, q2, q3, q4, q5, _⟩ := hA2.each _ (List.getElem_mem hlt)
      have hfe := fewSB_at HFw.out hlt
      have hkeep : ∀ y, Nw wr y ∨ Moves w (fun _ => False) wr y → y.cell? ⟨cb, co + k * 6, none⟩ = wr.cell? ⟨cb, co + k * 6, none⟩ ∧ y.cell? ⟨cb, co + k * 6 + 1, none⟩ = wr.cell? ⟨cb, co + k * 6 + 1, none⟩ := fun y hy => by
        have hz := HW.out.size
        rcases hy with hy | hy
        · exact ⟨World.cell?_of_block (hy.block _ hcb2 (Or.inr id)), World.cell?_of_block (hy.block _ hcb2 (Or.inr id))⟩
        · exact ⟨World.cell?_of_block (hy.block _ hcb2 (Or.inr (fun e => by have h5 : w.heap.size ≤ cb := e.2; omega))), World.cell?_of_block (hy.block _ hcb2 (Or.inr (fun e => by have h5 : w.heap.size ≤ cb := e.2; omega)))⟩
      have HKp := Lib.hid hkeep
      have HLt := Lib.hid hlt
      clear hcl hA2 uw hkeep hcs hm1 hm2
      generalize C[k] = c at *
      obtain ⟨⟨iv, kv⟩, ⟨kd, s, n, ⟨nm, its⟩, keep⟩⟩ := c
      dsimp only at *
      obtain ⟨ia, ic, rfl, _, _⟩ := items_open q1
      obtain ⟨ka, kc, rfl, _, _⟩ := q3.open_
      rw [List.length_map] at *
      clear q3
      rw [show fewOp ((.slice ia its.length ic, .slice ka keep.length kc), ⟨kd, s, n, ⟨nm, its⟩, keep⟩) = (decide (s.length ≤ 300) && (decide (its.length ≤ 6) && (decide (keep.length ≤ 40) && (decide (nm.length ≤ 60) && its.all fun x => decide (x.nm.length ≤ 60))))) from rfl] at hfe
      simp only [Bool.and_eq_true, decide_eq_true_eq, List.all_eq_true] at hfe
      obtain ⟨f1, f2, _, f4, f5⟩ := hfe
      have HX := Lib.hid (fun x hx => (⟨by have := (f5 x hx); omega, (q2 x hx).2.1, (q2 x hx).2.2.1, (q2 x hx).2.2.2.1, (q2 x hx).2.2.2.2⟩ : ItArg x))
      have HLn := Lib.hid (pfE_few (p := ⟨nm, its⟩) f2 f4 HX.out f5)
      have HB := Lib.hid (And.intro f1 (And.intro f2 f4))
      have HQ1 := Lib.hid q1
      have HK := Lib.hid (And.intro q4 q5)
      have D0 := Lib.hid d0
      have D1 := Lib.hid d1
      clear q1 q2 q4 q5 f1 f2 f4 f5 hcb1 hcb2
      by_cases h3 : 0 ≤ kd ∧ kd ≤ 3
      rotate_left
      · have hnx : Hid (SwI w db sb m (k + 1) wr) := ⟨S, HM.out.1, HM.out.2, HC.out.mono (by omega)⟩
        clear d1 d2 d3 d4 d5
        rcases (by omega : kd < 0 ∨ (0 ≤ kd ∧ 3 < kd)) with h7 | ⟨h7, h8⟩
        · go_wp2_with fail
          go_roundw
          case rel => exact ⟨k + 1, m, HLt.out, by simp, rfl, hnx⟩
          case measure =>
            have := HLt.out
            simp only [intOf]
            omega
        · go_wp2_with fail
          go_roundw
          case rel => exact ⟨k + 1, m, HLt.out, by simp, rfl, hnx⟩
          case measure =>
            have := HLt.out
            simp only [intOf]
            omega
      obtain ⟨h4, h5⟩ := h3
      have HD := Lib.hid (doT g HC.out (by omega) (by omega) (k := kd) (m := n) HK.out.1 (s := s) (by have := HB.out.1; omega) (p := ⟨nm, its⟩) (kv := .slice ka keep.length kc) HQ1.out HLn.out (by have := HB.out.2.2; dsimp only; omega) (by have := HB.out.2.1; dsimp only; omega) HX.out)
      go_wp2_with fail
      (with_reducible refine (HD.out).mono ?_)
      rintro _ w6 ⟨ra, rb, rfl, S6, c6, le6, t0, t2, t3, m6⟩
      have HC6 := Lib.hid c6
      obtain ⟨x6, rfl, g6⟩ := c6.st
      have e0 := (HKp.out w6 (Or.inr m6)).1.trans D0.out
      have e1 := (HKp.out w6 (Or.inr m6)).2.trans D1.out
      have hP6 := sProfile_c g6 (nm := s) (by have := HB.out.1; omega)
      have HM6 := Lib.hid m6
      have HT := Lib.hid (And.intro le6 t0)
      clear d0 d1 d2 d3 d4 d5 HD c6 m6 g6 le6 t0
      generalize ((Sg.prof S6 s).elim [] fun p => p.nm) = pnm at *
      generalize ((Sg.prof S6 s).elim [] fun p => p.its) = pits at *
      by_cases k0 : kd = 0
      · subst k0
        have HP6 := Lib.hid hP6
        clear hP6
        unfold bsV at HP6
        generalize (Sg.prof S6 s).isSome = pis at *
        by_cases hb0 : rb = 0
        · subst hb0
          have ht0 := Lib.hid (HT.out.2 rfl rfl)
          -- the round's end: (max m ra) the greatest number, (have := ht0.out; have := HM.out; have := HT.out.1; omega) that it is below
          go_wp2_with fail
          (with_reducible refine (HP6.out).mono ?_)
          rintro _ w7 ⟨v7, rfl, hv7, u7⟩
          obtain ⟨va7, vc7, rfl⟩ := own_slS hv7.1
          have n8 := nw_alloc w7 (.cells #[bsV pnm, .slice va7 pits.length vc7] tPf)
          have HN8 := Lib.hid (u7.trans n8)
          have hnx : Hid (SwI w db x6.sb (max m ra) (k + 1) (w7.alloc (.cells #[bsV pnm, .slice va7 pits.length vc7] tPf))) := ⟨S6, by (have := ht0.out; have := HM.out; have := HT.out.1; omega), by (have := ht0.out; have := HM.out; have := HT.out.1; omega), HC6.out.nw HN8.out⟩
          have k0 := (nw_cellS HN8.out e0)
          clear hv7 u7 n8
          unfold bsV at *
          go_wp2_with fail
          go_roundw
          case rel => exact ⟨k + 1, _, HLt.out, by simp, rfl, hnx⟩
          case measure =>
            have := HLt.out
            simp only [intOf]
            omega
        · -- the round's end: m the greatest number, (have := HM.out; have := HT.out.1; omega) that it is below
          go_wp2_with fail
          (with_reducible refine (HP6.out).mono ?_)
          rintro _ w7 ⟨v7, rfl, hv7, u7⟩
          obtain ⟨va7, vc7, rfl⟩ := own_slS hv7.1
          have n8 := nw_alloc w7 (.cells #[bsV pnm, .slice va7 pits.length vc7] tPf)
          have HN8 := Lib.hid (u7.trans n8)
          have hnx : Hid (SwI w db x6.sb m (k + 1) (w7.alloc (.cells #[bsV pnm, .slice va7 pits.length vc7] tPf))) := ⟨S6, by (have := HM.out; have := HT.out.1; omega), by (have := HM.out; have := HT.out.1; omega), HC6.out.nw HN8.out⟩
          have k0 := (nw_cellS HN8.out e0)
          clear hv7 u7 n8
          unfold bsV at *
          go_wp2_with fail
          go_roundw
          case rel => exact ⟨k + 1, _, HLt.out, by simp, rfl, hnx⟩
          case measure =>
            have := HLt.out
            simp only [intOf]
            omega
      · by_cases k2 : kd = 2
        · subst k2
          rw [t2 rfl] at hP6
          have HP6 := Lib.hid hP6
          clear hP6
          unfold bsV at HP6
          dsimp only [Option.isSome_none] at HP6
          -- the round's end: m the greatest number, (have := HM.out; have := HT.out.1; omega) that it is below
          go_wp2_with fail
          (with_reducible refine (HP6.out).mono ?_)
          rintro _ w7 ⟨v7, rfl, hv7, u7⟩
          obtain ⟨va7, vc7, rfl⟩ := own_slS hv7.1
          have n8 := nw_alloc w7 (.cells #[bsV pnm, .slice va7 pits.length vc7] tPf)
          have HN8 := Lib.hid (u7.trans n8)
          have hnx : Hid (SwI w db x6.sb m (k + 1) (w7.alloc (.cells #[bsV pnm, .slice va7 pits.length vc7] tPf))) := ⟨S6, by (have := HM.out; have := HT.out.1; omega), by (have := HM.out; have := HT.out.1; omega), HC6.out.nw HN8.out⟩
          have k0 := (nw_cellS HN8.out e0)
          clear hv7 u7 n8
          unfold bsV at *
          go_wp2_with fail
          go_roundw
          case rel => exact ⟨k + 1, _, HLt.out, by simp, rfl, hnx⟩
          case measure =>
            have := HLt.out
            simp only [intOf]
            omega
        · have HP6 := Lib.hid hP6
          clear hP6
          unfold bsV at HP6
          generalize (Sg.prof S6 s).isSome = pis at *
          by_cases k3 : kd = 3
          · subst k3
            obtain rfl := t3 rfl
            -- the round's end: m the greatest number, (have := HM.out; have := HT.out.1; omega) that it is below
            go_wp2_with fail
            (with_reducible refine (HP6.out).mono ?_)
            rintro _ w7 ⟨v7, rfl, hv7, u7⟩
            obtain ⟨va7, vc7, rfl⟩ := own_slS hv7.1
            have n8 := nw_alloc w7 (.cells #[bsV pnm, .slice va7 pits.length vc7] tPf)
            have HN8 := Lib.hid (u7.trans n8)
            have hnx : Hid (SwI w db x6.sb m (k + 1) (w7.alloc (.cells #[bsV pnm, .slice va7 pits.length vc7] tPf))) := ⟨S6, by (have := HM.out; have := HT.out.1; omega), by (have := HM.out; have := HT.out.1; omega), HC6.out.nw HN8.out⟩
            have k0 := (nw_cellS HN8.out e0)
            clear hv7 u7 n8
            unfold bsV at *
            go_wp2_with fail
            go_roundw
            case rel => exact ⟨k + 1, _, HLt.out, by simp, rfl, hnx⟩
            case measure =>
              have := HLt.out
              simp only [intOf]
              omega
          · have k1 : kd = 1 := by omega
            subst k1
            -- the round's end: m the greatest number, (have := HM.out; have := HT.out.1; omega) that it is below
            go_wp2_with fail
            (with_reducible refine (HP6.out).mono ?_)
            rintro _ w7 ⟨v7, rfl, hv7, u7⟩
            obtain ⟨va7, vc7, rfl⟩ := own_slS hv7.1
            have n8 := nw_alloc w7 (.cells #[bsV pnm, .slice va7 pits.length vc7] tPf)
            have HN8 := Lib.hid (u7.trans n8)
            have hnx : Hid (SwI w db x6.sb m (k + 1) (w7.alloc (.cells #[bsV pnm, .slice va7 pits.length vc7] tPf))) := ⟨S6, by (have := HM.out; have := HT.out.1; omega), by (have := HM.out; have := HT.out.1; omega), HC6.out.nw HN8.out⟩
            have k0 := (nw_cellS HN8.out e0)
            clear hv7 u7 n8
            unfold bsV at *
            go_wp2_with fail
            go_roundw
            case rel => exact ⟨k + 1, _, HLt.out, by simp, rfl, hnx⟩
            case measure =>
              have := HLt.out
              simp only [intOf]
              omega
    · obtain hke : k = C.length := by omega
      rw [hke]
      have hr2 := hr.out
      rw [hke] at hr2
      have HR := Lib.hid hr2
      clear hr hr2 hke hlt hk
      go_wp2_with fail
      exact HEX.out _ _ _ _ _ _ _ _ _ _ _ _ _ _ _ _ _ _ _ _ _ _ _ _ _ _ _ _ _ _ _ _ _ _ _ _ _ _ _ _ _ _ _ _ _ _ _ _ _ _ _ _ _ _ _ _ _ _ _ _ _ _ _ _ _ _ _ _ _ _ _ _ _ _ _ _ _ _ _ _ HR.out
end Go.Proofs.YtkldcnikeoofiaaGreatDoor
