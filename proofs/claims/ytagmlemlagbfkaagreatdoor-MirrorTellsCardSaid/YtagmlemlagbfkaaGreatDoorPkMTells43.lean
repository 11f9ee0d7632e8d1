/- MirrorTells (chapter 37): the loops that compare answers and sizes. -/
import Derived.Test.YtagmlemlagbfkaaGreatDoorPkMTells39
import Derived.Test.YtagmlemlagbfkaaGreatDoorPkMTells40
namespace Go.Proofs.YtagmlemlagbfkaaGreatDoor
open Go.RowKit
set_option linter.unusedVariables false
set_option linter.unusedSimpArgs false
attribute [local irreducible] Calls

/-- An answer of a row, in later worlds. -/
theorem ansrow_at {w : World} {B : Nat} {a : Option Addr} {n k : Nat} {L : AL} (h : w.ownsRow B tAns 3 (.slice a n k) n (flatA L)) (hn : L.length = n) {i : Nat} (hi : i < n) :
    ∃ b off, a = some ⟨b, off, none⟩ ∧ ∀ z, Nw w z → z.cell? ⟨b, off + i * 3, none⟩ = some (L[i]'(by omega)).1 ∧ z.cell? ⟨b, off + i * 3 + 1, none⟩ = some (.string ⟨(L[i]'(by omega)).2.text.toArray⟩) ∧ z.cell? ⟨b, off + i * 3 + 2, none⟩ = some (.bool (L[i]'(by omega)).2.has) := by
  subst hn
  have hs : SlS 3 B w.heap.size w (.slice a L.length k) (L.map ansC) := SlS.of_owns h (by simp) (by omega) (fun y hy => by
    obtain ⟨z, _, rfl⟩ := List.mem_map.1 hy
    rfl)
  obtain ⟨a', cap', ev, -, hc⟩ := hs.open_
  rw [List.length_map] at ev
  simp only [Value.slice.injEq, true_and] at ev
  obtain ⟨rfl, rfl⟩ := ev
  rcases hc with hnil | ⟨b, off, rfl, -, -, -, hc⟩
  · rw [List.map_eq_nil_iff] at hnil
    rw [hnil] at hi; simp at hi
  · refine ⟨b, off, rfl, fun z u => ?_⟩
    have h2 := (hc i (by rw [List.length_map]; exact hi)).2
    simp only [List.getElem_map] at h2
    exact ⟨later_cell ⟨z, u⟩ (by rw [← Nat.add_zero (off + i * 3), h2 0 (by omega)]; rfl), later_cell ⟨z, u⟩ (by rw [h2 1 (by omega)]; rfl), later_cell ⟨z, u⟩ (by rw [h2 2 (by omega)]; rfl)⟩
theorem querow_at {w : World} {B : Nat} {a : Option Addr} {n k : Nat} {L : List Mi.Ques} (h : w.ownsRow B tQue 3 (.slice a n k) n (flatQ L)) (hn : L.length = n) {i : Nat} (hi : i < n) :
    ∃ b off, a = some ⟨b, off, none⟩ ∧ ∀ z, Nw w z → z.cell? ⟨b, off + i * 3, none⟩ = some (.int .i64 (L[i]'(by omega)).kind) ∧ z.cell? ⟨b, off + i * 3 + 1, none⟩ = some (.int .i64 (L[i]'(by omega)).n) ∧ z.cell? ⟨b, off + i * 3 + 2, none⟩ = some (.string ⟨(L[i]'(by omega)).text.toArray⟩) := by
  subst hn
  have hs : SlS 3 B w.heap.size w (.slice a L.length k) (L.map queC) := SlS.of_owns h (by simp) (by omega) (fun y hy => by
    obtain ⟨z, _, rfl⟩ := List.mem_map.1 hy
    rfl)
  obtain ⟨a', cap', ev, -, hc⟩ := hs.open_
  rw [List.length_map] at ev
  simp only [Value.slice.injEq, true_and] at ev
  obtain ⟨rfl, rfl⟩ := ev
  rcases hc with hnil | ⟨b, off, rfl, -, -, -, hc⟩
  · rw [List.map_eq_nil_iff] at hnil
    rw [hnil] at hi; simp at hi
  · refine ⟨b, off, rfl, fun z u => ?_⟩
    have h2 := (hc i (by rw [List.length_map]; exact hi)).2
    simp only [List.getElem_map] at h2
    exact ⟨later_cell ⟨z, u⟩ (by rw [← Nat.add_zero (off + i * 3), h2 0 (by omega)]; rfl), later_cell ⟨z, u⟩ (by rw [h2 1 (by omega)]; rfl), later_cell ⟨z, u⟩ (by rw [h2 2 (by omega)]; rfl)⟩
set_option maxHeartbeats 4000000 in
set_option maxRecDepth 100000 in
theorem mt_same {W w : World} (g : Gl W) (hWw : Nw W w) {B1 B2 : Nat} (cs : List (List UInt8)) (an : List Mi.Ans) (qs : List Mi.Ques) (L1 L2 : AL) {n : Nat} {la a1 a2 qa : Option Addr} {lc k1 k2 qk : Nat}
    (h1 : L1.map (·.2) = an) (h2 : L2.map (·.2) = an) (hn : an.length = n) (hqn : qs.length = n) (hn30 : n ≤ 30) (hq : ∀ q ∈ qs, QOk q) (hcl : ∀ a ∈ an, a.claims.length ≤ 900000)
    (ol : w.ownsRow B1 tStrM 1 (.slice la cs.length lc) cs.length (cs.map bsM))
    (on1 : w.ownsRow B1 tAns 3 (.slice a1 n k1) n (flatA L1)) (oi1 : ∀ q ∈ L1, w.ownsRow B1 tSigned 3 q.1 q.2.claims.length (flatS q.2.claims))
    (on2 : w.ownsRow B2 tAns 3 (.slice a2 n k2) n (flatA L2)) (oi2 : ∀ q ∈ L2, w.ownsRow B2 tSigned 3 q.1 q.2.claims.length (flatS q.2.claims))
    (oq : w.ownsRow B1 tQue 3 (.slice qa n qk) n (flatQ qs))
    (K0 : Act → World → Prop) { c0 c1 c2 c3 c4 c5 c6 c7 c8 c9 c11 c12 c13 c14 c15 c19 c20 c21 c22 c23 c24 c26 c27 c28 c29 c30 c31 c32 c33 c34 c35 c37 c38 c39 c40 c41 c42 c43 c44 c45 c46 c47 c48 c49 c50 c51 c52 c53 c54 c55 c56 c57 c58 c59 c60 c61 c62 c63 c64 c65 c66 c67 c68 c69 c70 c71 c72 c73 c74 c75 c76 c77 c78 c79 c80 c81 c82 c83 c84 c85 c86 c87 c88 c89 c90 c91 c92 c93 c94 c95 c96 c97 c98 c99 c100 c101 c102 c103 c104 c105 c106 c107 c108 c109 c110 c111 c112 c113 c114 c115 c116 c117 c118 c119 c120 c121 c122 c123 c124 c125 c126 c127 c128 c129 c130 c131 c132 c133 c134 c135 c136 c137 c138 c139 c140 c141 c142 c143 c144 c145 c146 c147 c148 c149 c150 c151 c152 c153 c154 c155 c156 c157 c158 c159 c160 c161 c162 c163 c164 c165 c166 c167 c168 c169 c170 c171 c172 c173 c174 c175 c176 c177 c178 c179 c180 c181 c182 c183 c184 c185 c186 c187 c188 c189 c190 c191 c192 c193 c194 c195 c196 c197 c198 c199 c200 c201 c202 c203 c204 c205 c206 c207 c208 c209 c210 c211 c212 c213 c214 c215 c216 c217 c218 c258 c259 c260 c261 c262 c263 c264 c265 c266 c267 c268 c269 c270 c271 c272 c273 c274 c275 c276 c277 c278 c279 c280 c281 c282 c283 c284 c285 c286 c287 c288 c289 c290 c291 c292 c293 c294 c295 c296 c297 c298 c299 c300 c301 c302 c303 c304 c305 c306 c307 c308 c309 c310 c311 c312 c313 c314 c315 c316 c317 c318 c319 c320 c321 c322 c323 c324 c325 c326 c327 c328 c329 c330 c331 c332 c333 c334 c335 c336 c337 c338 c339 c340 c341 c342 c343 c344 c345 c346 c347 c348 c349 c350 c351 : Value} { u10 u219 u220 u221 u222 u223 u224 u225 u226 u227 u228 u229 u230 u231 u232 u233 u234 u235 u236 u237 u238 u239 u240 u241 u242 u243 u244 u245 u246 u247 u248 u249 u250 u251 u252 u253 u254 u255 u256 u257 : Value} {c : Code} (hc : loopAt Tryz.f4 2 = c)
    (hexit : ∀ (u10 u219 u220 u221 u222 u223 u224 u225 u226 u227 u228 u229 u230 u231 u232 u233 u234 u235 u236 u237 u238 u239 u240 u241 u242 u243 u244 u245 u246 u247 u248 u249 u250 u251 u252 u253 u254 u255 u256 u257 : Value) (w' : World), Nw w w' → K0 ⟨(List.toArray (c0 :: c1 :: c2 :: c3 :: c4 :: c5 :: c6 :: c7 :: c8 :: c9 :: u10 :: c11 :: c12 :: c13 :: c14 :: c15 :: (.slice la cs.length lc) :: (.slice a1 n k1) :: (.slice qa n qk) :: c19 :: c20 :: c21 :: c22 :: c23 :: c24 :: (.slice a2 n k2) :: c26 :: c27 :: c28 :: c29 :: c30 :: c31 :: c32 :: c33 :: c34 :: c35 :: (.int .i64 (n : Int)) :: c37 :: c38 :: c39 :: c40 :: c41 :: c42 :: c43 :: c44 :: c45 :: c46 :: c47 :: c48 :: c49 :: c50 :: c51 :: c52 :: c53 :: c54 :: c55 :: c56 :: c57 :: c58 :: c59 :: c60 :: c61 :: c62 :: c63 :: c64 :: c65 :: c66 :: c67 :: c68 :: c69 :: c70 :: c71 :: c72 :: c73 :: c74 :: c75 :: c76 :: c77 :: c78 :: c79 :: c80 :: c81 :: c82 :: c83 :: c84 :: c85 :: c86 :: c87 :: c88 :: c89 :: c90 :: c91 :: c92 :: c93 :: c94 :: c95 :: c96 :: c97 :: c98 :: c99 :: c100 :: c101 :: c102 :: c103 :: c104 :: c105 :: c106 :: c107 :: c108 :: c109 :: c110 :: c111 :: c112 :: c113 :: c114 :: c115 :: c116 :: c117 :: c118 :: c119 :: c120 :: c121 :: c122 :: c123 :: c124 :: c125 :: c126 :: c127 :: c128 :: c129 :: c130 :: c131 :: c132 :: c133 :: c134 :: c135 :: c136 :: c137 :: c138 :: c139 :: c140 :: c141 :: c142 :: c143 :: c144 :: c145 :: c146 :: c147 :: c148 :: c149 :: c150 :: c151 :: c152 :: c153 :: c154 :: c155 :: c156 :: c157 :: c158 :: c159 :: c160 :: c161 :: c162 :: c163 :: c164 :: c165 :: c166 :: c167 :: c168 :: c169 :: c170 :: c171 :: c172 :: c173 :: c174 :: c175 :: c176 :: c177 :: c178 :: c179 :: c180 :: c181 :: c182 :: c183 :: c184 :: c185 :: c186 :: c187 :: c188 :: c189 :: c190 :: c191 :: c192 :: c193 :: c194 :: c195 :: c196 :: c197 :: c198 :: c199 :: c200 :: c201 :: c202 :: c203 :: c204 :: c205 :: c206 :: c207 :: c208 :: c209 :: c210 :: c211 :: c212 :: c213 :: c214 :: c215 :: c216 :: c217 :: c218 :: u219 :: u220 :: u221 :: u222 :: u223 :: u224 :: u225 :: u226 :: u227 :: u228 :: u229 :: u230 :: u231 :: u232 :: u233 :: u234 :: u235 :: u236 :: u237 :: u238 :: u239 :: u240 :: u241 :: u242 :: u243 :: u244 :: u245 :: u246 :: u247 :: u248 :: u249 :: u250 :: u251 :: u252 :: u253 :: u254 :: u255 :: u256 :: u257 :: c258 :: c259 :: c260 :: c261 :: c262 :: c263 :: c264 :: c265 :: c266 :: c267 :: c268 :: c269 :: c270 :: c271 :: c272 :: c273 :: c274 :: c275 :: c276 :: c277 :: c278 :: c279 :: c280 :: c281 :: c282 :: c283 :: c284 :: c285 :: c286 :: c287 :: c288 :: c289 :: c290 :: c291 :: c292 :: c293 :: c294 :: c295 :: c296 :: c297 :: c298 :: c299 :: c300 :: c301 :: c302 :: c303 :: c304 :: c305 :: c306 :: c307 :: c308 :: c309 :: c310 :: c311 :: c312 :: c313 :: c314 :: c315 :: c316 :: c317 :: c318 :: c319 :: c320 :: c321 :: c322 :: c323 :: c324 :: c325 :: c326 :: c327 :: c328 :: c329 :: c330 :: c331 :: c332 :: c333 :: c334 :: c335 :: c336 :: c337 :: c338 :: c339 :: c340 :: c341 :: c342 :: c343 :: c344 :: c345 :: c346 :: c347 :: c348 :: c349 :: c350 :: c351 :: [])), []⟩ w') :
    Code.wp Tryz.prog c (Exit.then K0 (fun _ _ _ => False)) ⟨(List.toArray (c0 :: c1 :: c2 :: c3 :: c4 :: c5 :: c6 :: c7 :: c8 :: c9 :: u10 :: c11 :: c12 :: c13 :: c14 :: c15 :: (.slice la cs.length lc) :: (.slice a1 n k1) :: (.slice qa n qk) :: c19 :: c20 :: c21 :: c22 :: c23 :: c24 :: (.slice a2 n k2) :: c26 :: c27 :: c28 :: c29 :: c30 :: c31 :: c32 :: c33 :: c34 :: c35 :: (.int .i64 0) :: c37 :: c38 :: c39 :: c40 :: c41 :: c42 :: c43 :: c44 :: c45 :: c46 :: c47 :: c48 :: c49 :: c50 :: c51 :: c52 :: c53 :: c54 :: c55 :: c56 :: c57 :: c58 :: c59 :: c60 :: c61 :: c62 :: c63 :: c64 :: c65 :: c66 :: c67 :: c68 :: c69 :: c70 :: c71 :: c72 :: c73 :: c74 :: c75 :: c76 :: c77 :: c78 :: c79 :: c80 :: c81 :: c82 :: c83 :: c84 :: c85 :: c86 :: c87 :: c88 :: c89 :: c90 :: c91 :: c92 :: c93 :: c94 :: c95 :: c96 :: c97 :: c98 :: c99 :: c100 :: c101 :: c102 :: c103 :: c104 :: c105 :: c106 :: c107 :: c108 :: c109 :: c110 :: c111 :: c112 :: c113 :: c114 :: c115 :: c116 :: c117 :: c118 :: c119 :: c120 :: c121 :: c122 :: c123 :: c124 :: c125 :: c126 :: c127 :: c128 :: c129 :: c130 :: c131 :: c132 :: c133 :: c134 :: c135 :: c136 :: c137 :: c138 :: c139 :: c140 :: c141 :: c142 :: c143 :: c144 :: c145 :: c146 :: c147 :: c148 :: c149 :: c150 :: c151 :: c152 :: c153 :: c154 :: c155 :: c156 :: c157 :: c158 :: c159 :: c160 :: c161 :: c162 :: c163 :: c164 :: c165 :: c166 :: c167 :: c168 :: c169 :: c170 :: c171 :: c172 :: c173 :: c174 :: c175 :: c176 :: c177 :: c178 :: c179 :: c180 :: c181 :: c182 :: c183 :: c184 :: c185 :: c186 :: c187 :: c188 :: c189 :: c190 :: c191 :: c192 :: c193 :: c194 :: c195 :: c196 :: c197 :: c198 :: c199 :: c200 :: c201 :: c202 :: c203 :: c204 :: c205 :: c206 :: c207 :: c208 :: c209 :: c210 :: c211 :: c212 :: c213 :: c214 :: c215 :: c216 :: c217 :: c218 :: u219 :: u220 :: u221 :: u222 :: u223 :: u224 :: u225 :: u226 :: u227 :: u228 :: u229 :: u230 :: u231 :: u232 :: u233 :: u234 :: u235 :: u236 :: u237 :: u238 :: u239 :: u240 :: u241 :: u242 :: u243 :: u244 :: u245 :: u246 :: u247 :: u248 :: u249 :: u250 :: u251 :: u252 :: u253 :: u254 :: u255 :: u256 :: u257 :: c258 :: c259 :: c260 :: c261 :: c262 :: c263 :: c264 :: c265 :: c266 :: c267 :: c268 :: c269 :: c270 :: c271 :: c272 :: c273 :: c274 :: c275 :: c276 :: c277 :: c278 :: c279 :: c280 :: c281 :: c282 :: c283 :: c284 :: c285 :: c286 :: c287 :: c288 :: c289 :: c290 :: c291 :: c292 :: c293 :: c294 :: c295 :: c296 :: c297 :: c298 :: c299 :: c300 :: c301 :: c302 :: c303 :: c304 :: c305 :: c306 :: c307 :: c308 :: c309 :: c310 :: c311 :: c312 :: c313 :: c314 :: c315 :: c316 :: c317 :: c318 :: c319 :: c320 :: c321 :: c322 :: c323 :: c324 :: c325 :: c326 :: c327 :: c328 :: c329 :: c330 :: c331 :: c332 :: c333 :: c334 :: c335 :: c336 :: c337 :: c338 :: c339 :: c340 :: c341 :: c342 :: c343 :: c344 :: c345 :: c346 :: c347 :: c348 :: c349 :: c350 :: c351 :: [])), []⟩ w := by
  subst hc
  have hl1 : L1.length = n := by have := congrArg List.length h1; rw [List.length_map] at this; omega
  have hl2 : L2.length = n := by have := congrArg List.length h2; rw [List.length_map] at this; omega
  have HALL := Lib.hid (And.intro hq (And.intro hcl (And.intro oi1 oi2)))
  have H12 := Lib.hid (And.intro h1 h2)
  have HON1 := Lib.hid on1
  have HON2 := Lib.hid on2
  have HOQ := Lib.hid oq
  have HOL := Lib.hid ol
  have HW := Lib.hid hWw
  have HEX := Lib.hid hexit
  have hn1 : (n : Int) ≤ 30 := by omega
  have hz0 : Hid (Nw w w) := Upd.refl _ _
  clear hexit hq hcl oi1 oi2 h1 h2 on1 on2 oq ol hWw
  conv => arg 2; whnf
  go_wp2_with fail
  go_loopw [36] (fun iv wr => ∃ i : Nat, i ≤ n ∧ iv = .int .i64 (i : Int) ∧ Hid (Nw w wr)) (fun iv _ => n - (intOf iv).toNat)
  case atStart => exact ⟨0, Nat.zero_le _, rfl, hz0.out⟩
  case round =>
    obtain ⟨i, hi, rfl, HN⟩ := hrel
    by_cases hlt : i < n
    · have hlt1 : (i : Int) < n := by omega
      obtain ⟨b1, o1, rfl, c1⟩ := ansrow_at HON1.out hl1 hlt
      obtain ⟨b2, o2, rfl, c2⟩ := ansrow_at HON2.out hl2 hlt
      obtain ⟨b3, o3, rfl, c3⟩ := querow_at HOQ.out hqn hlt
      have e1 : (L1[i]'(by omega)).2 = an[i]'(by omega) := by
        have := List.getElem_of_eq H12.out.1 (i := i) (by rw [List.length_map]; omega)
        rw [List.getElem_map] at this; exact this
      have e2 : (L2[i]'(by omega)).2 = an[i]'(by omega) := by
        have := List.getElem_of_eq H12.out.2 (i := i) (by rw [List.length_map]; omega)
        rw [List.getElem_map] at this; exact this
      have r1 := HALL.out.2.2.1 _ (List.getElem_mem (l := L1) (n := i) (by omega))
      have r2 := HALL.out.2.2.2 _ (List.getElem_mem (l := L2) (n := i) (by omega))
      have hQ := HALL.out.1 _ (List.getElem_mem (l := qs) (n := i) (by omega))
      have hC := HALL.out.2.1 _ (List.getElem_mem (l := an) (n := i) (by omega))
      rw [e1] at c1 r1
      rw [e2] at c2 r2
      generalize (L1[i]'(by omega)).1 = v1 at *
      generalize (L2[i]'(by omega)).1 = v2 at *
      generalize an[i]'(by omega) = A at *
      generalize qs[i]'(by omega) = q at *
      obtain ⟨va1, vc1, rfl⟩ := own_slG r1
      obtain ⟨va2, vc2, rfl⟩ := own_slG r2
      have HSM := Lib.hid (fun t : Later wr => same37_q _ _ A t.1 (owns_upd' r2 (HN.out.trans t.nw) (fun _ _ e => e)) (owns_upd' r1 (HN.out.trans t.nw) (fun _ _ e => e)) hC)
      have HG1 := Lib.hid (fun t : Later wr => genuine_w _ _ _ cs q hQ (.slice va1 A.claims.length vc1) A.text A.has A.claims t.1 (g.upd (HW.out.trans (HN.out.trans t.nw))) (Sl.of_owns (owns_upd' HOL.out (HN.out.trans t.nw) (fun _ _ e => e))) ⟨_, _, _, rfl⟩)
      have HG2 := Lib.hid (fun t : Later wr => genuine_q _ _ _ cs q hQ (.slice va2 A.claims.length vc2) A.text A.has A.claims t.1 (g.upd (HW.out.trans (HN.out.trans t.nw))) (Sl.of_owns (owns_upd' HOL.out (HN.out.trans t.nw) (fun _ _ e => e))) ⟨_, _, _, rfl⟩)
      generalize Mi.genuine cs q ⟨A.claims, A.text, A.has⟩ = GB at *
      have x1 := fun t : Later wr => (c1 t.1 (HN.out.trans t.nw)).1
      have x2 := fun t : Later wr => (c1 t.1 (HN.out.trans t.nw)).2.1
      have x3 := fun t : Later wr => (c1 t.1 (HN.out.trans t.nw)).2.2
      have y1 := fun t : Later wr => (c2 t.1 (HN.out.trans t.nw)).1
      have y2 := fun t : Later wr => (c2 t.1 (HN.out.trans t.nw)).2.1
      have y3 := fun t : Later wr => (c2 t.1 (HN.out.trans t.nw)).2.2
      have z1 := fun t : Later wr => (c3 t.1 (HN.out.trans t.nw)).1
      have z2 := fun t : Later wr => (c3 t.1 (HN.out.trans t.nw)).2.1
      have z3 := fun t : Later wr => (c3 t.1 (HN.out.trans t.nw)).2.2
      have hgg : (GB != GB) = false := by simp
      clear c1 c2 c3 r1 r2 hQ hC e1 e2
      go_wp2_with fail
      refine wp_region_nw (by kernel_rfl) (by kernel_rfl) ?_
      repeat (go_big_quiet_step ((first | (go_at_call 26; exact later_call (HSM.out _)) | (go_at_call 16; exact later_call (HG1.out _)) | (go_at_call 27; exact later_call (HG2.out _)))))
      refine wpQuiet_nil ?_
      intro w9 u9
      replace u9 := later_out u9
      have hz : Hid (Nw w w9) := HN.out.trans u9
      clear x1 x2 x3 y1 y2 y3 z1 z2 z3 HSM HG1 HG2 u9
      go_wp2_with fail
      go_roundw
      case rel => exact ⟨i + 1, by omega, by go_num, hz.out⟩
      case measure => simp [intOf]; omega
    · obtain rfl : i = n := by omega
      go_wp2_with fail
      exact HEX.out _ _ _ _ _ _ _ _ _ _ _ _ _ _ _ _ _ _ _ _ _ _ _ _ _ _ _ _ _ _ _ _ _ _ _ _ _ _ _ _ _ HN.out
set_option maxHeartbeats 4000000 in
set_option maxRecDepth 100000 in
theorem mt_sizes {w : World} {B1 B2 : Nat} {ms : List Mi.Mir} {n : Nat} (hn : ms.length = n) (hn5 : n ≤ 5) {pm qm : Nat → Nat} {ab ao ca cb co cc : Nat} (hl : ∀ m ∈ ms, (∀ i, i < 3 → (m.l i).length ≤ 1000000) ∧ m.cs.length ≤ 1000000)
    (hp : ∀ z, Nw w z → ∀ i, i < n → z.cell? ⟨ab, ao + i, none⟩ = some (.pointer (some ⟨pm i, 0, none⟩)) ∧ z.cell? ⟨cb, co + i, none⟩ = some (.pointer (some ⟨qm i, 0, none⟩)))
    (hm : ∀ z, Nw w z → ∀ i (h : i < ms.length), (∃ x, x.mb = pm i ∧ MirAt B1 z x ms[i]) ∧ (∃ y, y.mb = qm i ∧ QMirAt B2 z y ms[i]))
    (K0 : Act → World → Prop) { c0 c1 c2 c3 c4 c5 c6 c7 c8 c9 c11 c12 c13 c14 c16 c17 c18 c19 c20 c21 c23 c24 c25 c26 c27 c28 c29 c30 c31 c32 c33 c34 c35 c36 c39 c40 c41 c42 c43 c44 c45 c46 c47 c48 c49 c50 c51 c52 c53 c54 c55 c56 c57 c58 c59 c60 c61 c62 c63 c64 c65 c66 c67 c68 c69 c70 c71 c72 c73 c74 c75 c76 c77 c78 c79 c80 c81 c82 c83 c84 c85 c86 c87 c88 c89 c90 c91 c92 c93 c94 c95 c96 c97 c98 c99 c100 c101 c102 c103 c104 c105 c106 c107 c108 c109 c110 c111 c112 c113 c114 c115 c116 c117 c118 c119 c120 c121 c122 c123 c124 c125 c126 c127 c128 c129 c130 c131 c132 c133 c134 c135 c136 c137 c138 c139 c140 c141 c142 c143 c144 c145 c146 c147 c148 c149 c150 c151 c152 c153 c154 c155 c156 c157 c158 c159 c160 c161 c162 c163 c164 c165 c166 c167 c168 c169 c170 c171 c172 c173 c174 c175 c176 c177 c178 c179 c180 c181 c182 c183 c184 c185 c186 c187 c188 c189 c190 c191 c192 c193 c194 c195 c196 c197 c198 c199 c200 c201 c202 c203 c204 c205 c206 c207 c208 c209 c210 c211 c212 c213 c214 c215 c216 c217 c218 c219 c220 c221 c222 c223 c224 c225 c226 c227 c228 c229 c230 c231 c232 c233 c234 c235 c236 c237 c238 c239 c240 c241 c242 c243 c244 c245 c246 c247 c248 c249 c250 c251 c252 c253 c254 c255 c256 c257 c294 c295 c296 c297 c298 c299 c300 c301 c302 c303 c304 c305 c306 c307 c308 c309 c310 c311 c312 c313 c314 c315 c316 c317 c318 c319 c320 c321 c322 c323 c324 c325 c326 c327 c328 c329 c330 c331 c332 c333 c334 c335 c336 c337 c338 c339 c340 c341 c342 c343 c344 c345 c346 c347 c348 c349 c350 c351 : Value} { u10 u38 u258 u259 u260 u261 u262 u263 u264 u265 u266 u267 u268 u269 u270 u271 u272 u273 u274 u275 u276 u277 u278 u279 u280 u281 u282 u283 u284 u285 u286 u287 u288 u289 u290 u291 u292 u293 : Value} {c : Code} (hc : loopAt Tryz.f4 3 = c)
    (hexit : ∀ (u10 u38 u258 u259 u260 u261 u262 u263 u264 u265 u266 u267 u268 u269 u270 u271 u272 u273 u274 u275 u276 u277 u278 u279 u280 u281 u282 u283 u284 u285 u286 u287 u288 u289 u290 u291 u292 u293 : Value) (w' : World), Nw w w' → K0 ⟨(List.toArray (c0 :: c1 :: c2 :: c3 :: c4 :: c5 :: c6 :: c7 :: c8 :: c9 :: u10 :: c11 :: c12 :: c13 :: c14 :: (.slice (some ⟨ab, ao, none⟩) n ca) :: c16 :: c17 :: c18 :: c19 :: c20 :: c21 :: (.slice (some ⟨cb, co, none⟩) n cc) :: c23 :: c24 :: c25 :: c26 :: c27 :: c28 :: c29 :: c30 :: c31 :: c32 :: c33 :: c34 :: c35 :: c36 :: (.int .i64 (n : Int)) :: u38 :: c39 :: c40 :: c41 :: c42 :: c43 :: c44 :: c45 :: c46 :: c47 :: c48 :: c49 :: c50 :: c51 :: c52 :: c53 :: c54 :: c55 :: c56 :: c57 :: c58 :: c59 :: c60 :: c61 :: c62 :: c63 :: c64 :: c65 :: c66 :: c67 :: c68 :: c69 :: c70 :: c71 :: c72 :: c73 :: c74 :: c75 :: c76 :: c77 :: c78 :: c79 :: c80 :: c81 :: c82 :: c83 :: c84 :: c85 :: c86 :: c87 :: c88 :: c89 :: c90 :: c91 :: c92 :: c93 :: c94 :: c95 :: c96 :: c97 :: c98 :: c99 :: c100 :: c101 :: c102 :: c103 :: c104 :: c105 :: c106 :: c107 :: c108 :: c109 :: c110 :: c111 :: c112 :: c113 :: c114 :: c115 :: c116 :: c117 :: c118 :: c119 :: c120 :: c121 :: c122 :: c123 :: c124 :: c125 :: c126 :: c127 :: c128 :: c129 :: c130 :: c131 :: c132 :: c133 :: c134 :: c135 :: c136 :: c137 :: c138 :: c139 :: c140 :: c141 :: c142 :: c143 :: c144 :: c145 :: c146 :: c147 :: c148 :: c149 :: c150 :: c151 :: c152 :: c153 :: c154 :: c155 :: c156 :: c157 :: c158 :: c159 :: c160 :: c161 :: c162 :: c163 :: c164 :: c165 :: c166 :: c167 :: c168 :: c169 :: c170 :: c171 :: c172 :: c173 :: c174 :: c175 :: c176 :: c177 :: c178 :: c179 :: c180 :: c181 :: c182 :: c183 :: c184 :: c185 :: c186 :: c187 :: c188 :: c189 :: c190 :: c191 :: c192 :: c193 :: c194 :: c195 :: c196 :: c197 :: c198 :: c199 :: c200 :: c201 :: c202 :: c203 :: c204 :: c205 :: c206 :: c207 :: c208 :: c209 :: c210 :: c211 :: c212 :: c213 :: c214 :: c215 :: c216 :: c217 :: c218 :: c219 :: c220 :: c221 :: c222 :: c223 :: c224 :: c225 :: c226 :: c227 :: c228 :: c229 :: c230 :: c231 :: c232 :: c233 :: c234 :: c235 :: c236 :: c237 :: c238 :: c239 :: c240 :: c241 :: c242 :: c243 :: c244 :: c245 :: c246 :: c247 :: c248 :: c249 :: c250 :: c251 :: c252 :: c253 :: c254 :: c255 :: c256 :: c257 :: u258 :: u259 :: u260 :: u261 :: u262 :: u263 :: u264 :: u265 :: u266 :: u267 :: u268 :: u269 :: u270 :: u271 :: u272 :: u273 :: u274 :: u275 :: u276 :: u277 :: u278 :: u279 :: u280 :: u281 :: u282 :: u283 :: u284 :: u285 :: u286 :: u287 :: u288 :: u289 :: u290 :: u291 :: u292 :: u293 :: c294 :: c295 :: c296 :: c297 :: c298 :: c299 :: c300 :: c301 :: c302 :: c303 :: c304 :: c305 :: c306 :: c307 :: c308 :: c309 :: c310 :: c311 :: c312 :: c313 :: c314 :: c315 :: c316 :: c317 :: c318 :: c319 :: c320 :: c321 :: c322 :: c323 :: c324 :: c325 :: c326 :: c327 :: c328 :: c329 :: c330 :: c331 :: c332 :: c333 :: c334 :: c335 :: c336 :: c337 :: c338 :: c339 :: c340 :: c341 :: c342 :: c343 :: c344 :: c345 :: c346 :: c347 :: c348 :: c349 :: c350 :: c351 :: [])), []⟩ w') :
    Code.wp Tryz.prog c (Exit.then K0 (fun _ _ _ => False)) ⟨(List.toArray (c0 :: c1 :: c2 :: c3 :: c4 :: c5 :: c6 :: c7 :: c8 :: c9 :: u10 :: c11 :: c12 :: c13 :: c14 :: (.slice (some ⟨ab, ao, none⟩) n ca) :: c16 :: c17 :: c18 :: c19 :: c20 :: c21 :: (.slice (some ⟨cb, co, none⟩) n cc) :: c23 :: c24 :: c25 :: c26 :: c27 :: c28 :: c29 :: c30 :: c31 :: c32 :: c33 :: c34 :: c35 :: c36 :: (.int .i64 0) :: u38 :: c39 :: c40 :: c41 :: c42 :: c43 :: c44 :: c45 :: c46 :: c47 :: c48 :: c49 :: c50 :: c51 :: c52 :: c53 :: c54 :: c55 :: c56 :: c57 :: c58 :: c59 :: c60 :: c61 :: c62 :: c63 :: c64 :: c65 :: c66 :: c67 :: c68 :: c69 :: c70 :: c71 :: c72 :: c73 :: c74 :: c75 :: c76 :: c77 :: c78 :: c79 :: c80 :: c81 :: c82 :: c83 :: c84 :: c85 :: c86 :: c87 :: c88 :: c89 :: c90 :: c91 :: c92 :: c93 :: c94 :: c95 :: c96 :: c97 :: c98 :: c99 :: c100 :: c101 :: c102 :: c103 :: c104 :: c105 :: c106 :: c107 :: c108 :: c109 :: c110 :: c111 :: c112 :: c113 :: c114 :: c115 :: c116 :: c117 :: c118 :: c119 :: c120 :: c121 :: c122 :: c123 :: c124 :: c125 :: c126 :: c127 :: c128 :: c129 :: c130 :: c131 :: c132 :: c133 :: c134 :: c135 :: c136 :: c137 :: c138 :: c139 :: c140 :: c141 :: c142 :: c143 :: c144 :: c145 :: c146 :: c147 :: c148 :: c149 :: c150 :: c151 :: c152 :: c153 :: c154 :: c155 :: c156 :: c157 :: c158 :: c159 :: c160 :: c161 :: c162 :: c163 :: c164 :: c165 :: c166 :: c167 :: c168 :: c169 :: c170 :: c171 :: c172 :: c173 :: c174 :: c175 :: c176 :: c177 :: c178 :: c179 :: c180 :: c181 :: c182 :: c183 :: c184 :: c185 :: c186 :: c187 :: c188 :: c189 :: c190 :: c191 :: c192 :: c193 :: c194 :: c195 :: c196 :: c197 :: c198 :: c199 :: c200 :: c201 :: c202 :: c203 :: c204 :: c205 :: c206 :: c207 :: c208 :: c209 :: c210 :: c211 :: c212 :: c213 :: c214 :: c215 :: c216 :: c217 :: c218 :: c219 :: c220 :: c221 :: c222 :: c223 :: c224 :: c225 :: c226 :: c227 :: c228 :: c229 :: c230 :: c231 :: c232 :: c233 :: c234 :: c235 :: c236 :: c237 :: c238 :: c239 :: c240 :: c241 :: c242 :: c243 :: c244 :: c245 :: c246 :: c247 :: c248 :: c249 :: c250 :: c251 :: c252 :: c253 :: c254 :: c255 :: c256 :: c257 :: u258 :: u259 :: u260 :: u261 :: u262 :: u263 :: u264 :: u265 :: u266 :: u267 :: u268 :: u269 :: u270 :: u271 :: u272 :: u273 :: u274 :: u275 :: u276 :: u277 :: u278 :: u279 :: u280 :: u281 :: u282 :: u283 :: u284 :: u285 :: u286 :: u287 :: u288 :: u289 :: u290 :: u291 :: u292 :: u293 :: c294 :: c295 :: c296 :: c297 :: c298 :: c299 :: c300 :: c301 :: c302 :: c303 :: c304 :: c305 :: c306 :: c307 :: c308 :: c309 :: c310 :: c311 :: c312 :: c313 :: c314 :: c315 :: c316 :: c317 :: c318 :: c319 :: c320 :: c321 :: c322 :: c323 :: c324 :: c325 :: c326 :: c327 :: c328 :: c329 :: c330 :: c331 :: c332 :: c333 :: c334 :: c335 :: c336 :: c337 :: c338 :: c339 :: c340 :: c341 :: c342 :: c343 :: c344 :: c345 :: c346 :: c347 :: c348 :: c349 :: c350 :: c351 :: [])), []⟩ w := by
  subst hc
  have HP := Lib.hid hp
  have HM := Lib.hid hm
  have HL := Lib.hid hl
  have HEX := Lib.hid hexit
  have hn1 : (n : Int) ≤ 5 := by omega
  have hz0 : Hid (Nw w w) := Upd.refl _ _
  clear hexit hp hm hl
  conv => arg 2; whnf
  go_wp2_with fail
  go_loopw [37] (fun iv wr => ∃ i : Nat, i ≤ n ∧ iv = .int .i64 (i : Int) ∧ Hid (Nw w wr)) (fun iv _ => n - (intOf iv).toNat)
  case atStart => exact ⟨0, Nat.zero_le _, rfl, hz0.out⟩
  case round =>
    obtain ⟨i, hi, rfl, HN⟩ := hrel
    by_cases hlt : i < n
    · have hlt1 : (i : Int) < n := by omega
      have c2 := (HP.out wr HN.out i hlt).2
      have c1 := fun t : Later wr => (HP.out t.1 (HN.out.trans t.nw) i hlt).1
      obtain ⟨⟨x, ex, hx⟩, ⟨y, ey, hy⟩⟩ := HM.out wr HN.out i (by omega)
      have hl' := HL.out _ (List.getElem_mem (l := ms) (n := i) (by omega))
      generalize ms[i]'(by omega) = m at *
      have hsz := Lib.hid (fun t : Later wr => size37_w (hx.nw t.nw) (m.l 0).length (m.l 1).length (m.l 2).length m.cs.length (by have := hl'.1 0 (by decide); unfold I64; omega) (by have := hl'.1 1 (by decide); unfold I64; omega) (by have := hl'.1 2 (by decide); unfold I64; omega) (by have := hl'.2; unfold I64; omega))
      obtain ⟨q0, q1, q2, q3, q4⟩ := hy.cells
      obtain ⟨s0a, s0c, e0⟩ := own_slG (hy.sown 0 (by decide))
      obtain ⟨s1a, s1c, e1⟩ := own_slG (hy.sown 1 (by decide))
      obtain ⟨s2a, s2c, e2⟩ := own_slG (hy.sown 2 (by decide))
      obtain ⟨s3a, s3c, e3⟩ := own_slG hy.cown
      rw [e0] at q1
      rw [e1] at q2
      rw [e2] at q3
      rw [e3] at q4
      rw [ey] at q1 q2 q3 q4
      rw [ex] at hsz
      have p1 := fun t : Later wr => later_cell t q1
      have p2 := fun t : Later wr => later_cell t q2
      have p3 := fun t : Later wr => later_cell t q3
      have p4 := fun t : Later wr => later_cell t q4
      clear q0 q1 q2 q3 q4 hx hy ex ey e0 e1 e2 e3 hl'
      go_wp2_with fail
      refine wp_region_nw (by kernel_rfl) (by kernel_rfl) ?_
      repeat (go_big_quiet_step (((go_at_call 28; exact later_call (hsz.out _)))))
      refine wpQuiet_nil ?_
      intro w9 u9
      replace u9 := later_out u9
      have hz : Hid (Nw w w9) := HN.out.trans u9
      clear c1 c2 p1 p2 p3 p4 hsz u9
      go_wp2_with fail
      go_roundw
      case rel => exact ⟨i + 1, by omega, by go_num, hz.out⟩
      case measure => simp [intOf]; omega
    · obtain rfl : i = n := by omega
      go_wp2_with fail
      exact HEX.out _ _ _ _ _ _ _ _ _ _ _ _ _ _ _ _ _ _ _ _ _ _ _ _ _ _ _ _ _ _ _ _ _ _ _ _ _ _ _ HN.out
end Go.Proofs.YtagmlemlagbfkaaGreatDoor
