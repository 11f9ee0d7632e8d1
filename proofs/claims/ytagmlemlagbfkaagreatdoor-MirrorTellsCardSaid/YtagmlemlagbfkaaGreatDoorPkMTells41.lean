/- MirrorTells (chapter 37): the loop that makes the reference's mirrors. -/
import Derived.Test.YtagmlemlagbfkaaGreatDoorPkMTells39
import Derived.Test.YtagmlemlagbfkaaGreatDoorPkMTells40
namespace Go.Proofs.YtagmlemlagbfkaaGreatDoor
open Go.RowKit
set_option linter.unusedVariables false
set_option linter.unusedSimpArgs false
attribute [local irreducible] Calls

def cQj (B n0 : Nat) (cP : Nat → Res) (rb : Nat) (L : List Bk.Seal) (c1 : Res) (mbs : Nat → Nat) (ks : List Int) (i : Nat) : Res :=
  if i < n0 then cP i else match i - n0 with
  | 0 => QRingC B rb L
  | 1 => c1
  | k + 2 => QMirC B (mbs k) (Mi.fresh (ks.getD k 0))
structure QlJ (W : World) (n0 : Nat) (cP : Nat → Res) (F : Nat → Prop) (z0 : World) (rb : Nat) (L : List Bk.Seal) (c1 : Res) (mbs : Nat → Nat) (ks : List Int) (av : Value) (z : World) : Prop where
  fam : At W (n0 + (ks.length + 2)) (cQj W.heap.size n0 cP rb L c1 mbs ks) (fun j => F j ∨ av.ownBlock = some j) z
  oa : z.ownsRow z0.heap.size tQM 1 av ks.length (ptrsM mbs ks.length)
  mv : MovesN W F z0 z
section
variable {W : World} {n0 : Nat} {cP : Nat → Res} {F : Nat → Prop} {z0 z z' : World} {rb : Nat} {L : List Bk.Seal} {c1 : Res} {mbs : Nat → Nat} {ks : List Int} {av : Value}
theorem QlJ.nw (h : QlJ W n0 cP F z0 rb L c1 mbs ks av z) (u : Nw z z') : QlJ W n0 cP F z0 rb L c1 mbs ks av z' := ⟨h.fam.nw u, owns_upd' h.oa u (fun _ _ e => e), h.mv.trans (Nw.upd _ u)⟩
/-- A mirror more. -/
theorem QlJ.more (h : QlJ W n0 cP F z0 rb L c1 mbs ks av z) (g : Gl W) (hF : ∀ j, F j → j < z0.heap.size) (hW : W.heap.size ≤ z0.heap.size) {k : Int} {x : MirR} {z1 zb : World} (u1 : Nw z z1) (hx : QMirAt z.heap.size z1 x (Mi.fresh k)) (ub : Nw z1 zb) {av' : Value}
    (o : z'.ownsRow z0.heap.size tQM 1 av' (ks.length + 1) (ptrsM mbs ks.length ++ [.pointer (some ⟨x.mb, 0, none⟩)])) (u : Upd (fun j => av.ownBlock = some j) zb z') (hb : ∀ j, av'.ownBlock = some j → av.ownBlock = some j ∨ zb.heap.size ≤ j) :
    QlJ W n0 cP F z0 rb L c1 (fun j => if j = ks.length then x.mb else mbs j) (ks ++ [k]) av' z' := by
  have hoa := owns_upd' (owns_upd' h.oa u1 (fun _ _ e => e)) ub (fun _ _ e => e)
  have e1 : ptrsM (fun j => if j = ks.length then x.mb else mbs j) (ks.length + 1) = ptrsM mbs ks.length ++ [.pointer (some ⟨x.mb, 0, none⟩)] := by
    rw [ptrsM_succ, if_pos rfl]
    congr 1
    exact ptrsM_congr (fun i hi => if_neg (by omega))
  refine ⟨?_, by rw [List.length_append, List.length_singleton, e1]; exact o, ((h.mv.trans (Nw.upd _ u1)).trans (Nw.upd _ ub)).trans (u.mono fun j hj e => ⟨fun f => ?_, by have := (hoa.lt j e).1; omega⟩)⟩
  · rw [List.length_append, List.length_singleton, show n0 + (ks.length + 1 + 2) = (n0 + (ks.length + 2)) + 1 by omega]
    refine At.upd_keep (((h.fam.oneQMir g.big u1 hx).nw ub).same (fun i hi => ?_)) u (fun j hj => Or.inl ⟨Or.inr hj, by have := (hoa.lt j hj).1; omega⟩) (fun j hj => ?_)
    · by_cases hin : i < n0
      · rw [setC_ne _ _ (by omega)]
        unfold cQj
        rw [if_pos hin, if_pos hin]
      · obtain ⟨j, rfl⟩ : ∃ j, i = n0 + j := ⟨i - n0, by omega⟩
        have ej : n0 + j - n0 = j := by omega
        by_cases hjk : j = ks.length + 2
        · subst hjk
          rw [setC_self]
          unfold cQj
          rw [if_neg (by omega), ej]
          show QMirC W.heap.size _ (Mi.fresh ((ks ++ [k]).getD ks.length 0)) = _
          simp
        · rw [setC_ne _ _ (by omega)]
          unfold cQj
          rw [if_neg (by omega), if_neg (by omega), ej]
          match j, hi, hjk with
          | 0, _, _ => rfl
          | 1, _, _ => rfl
          | j + 2, hi, hjk =>
            have hlt : j < ks.length := by omega
            show QMirC W.heap.size (if j = ks.length then x.mb else mbs j) (Mi.fresh ((ks ++ [k]).getD j 0)) = QMirC W.heap.size (mbs j) (Mi.fresh (ks.getD j 0))
            rw [if_neg (by omega), List.getD_eq_getElem?_getD, List.getD_eq_getElem?_getD, List.getElem?_append_left hlt]
    · rcases hj with hj | hj
      · exact Or.inl (Or.inl hj)
      · rcases hb j hj with e | e
        · exact Or.inl (Or.inr e)
        · exact Or.inr ⟨e, (o.lt j hj).2⟩
  · have := (hoa.lt j e).1
    have := hF j f
    omega
end
/-- The state where the reference's acts begin. -/
theorem QlJ.start {W : World} {n0 : Nat} {cP : Nat → Res} {F : Nat → Prop} {z0 z : World} {rb bb : Nat} {key : Int} {mbs : Nat → Nat} {ks : List Int} {av : Value} (h : QlJ W n0 cP F z0 rb [] (QBookC W.heap.size bb rb (Bk.new key)) mbs ks av z) :
    QlI W n0 cP F z0 ⟨rb, bb, mbs⟩ (Mi.start key (ks.map Mi.fresh)) ⟨av, .slice none 0 0, .slice none 0 0, []⟩ z := by
  have hl : (Mi.start key (ks.map Mi.fresh)).ms.length = ks.length := by show (ks.map Mi.fresh).length = _; simp
  refine ⟨?_, ⟨by rw [hl]; exact h.oa, World.ownsRow_nil _ _ _ _, World.ownsRow_nil _ _ _ _, fun q hq => (by cases hq), rfl⟩, h.mv⟩
  rw [hl]
  refine (h.fam.same (fun i hi => ?_)).less (fun j hj => ?_)
  · unfold cQl cQj
    by_cases hin : i < n0
    · rw [if_pos hin, if_pos hin]
    · rw [if_neg hin, if_neg hin]
      obtain ⟨j, hj⟩ : ∃ j, i - n0 = j := ⟨_, rfl⟩
      rw [hj]
      match j, hj with
      | 0, _ => rfl
      | 1, _ => rfl
      | j + 2, hj =>
        have : j < ks.length := by omega
        show QMirC _ _ ((ks.map Mi.fresh).getD j (Mi.fresh 0)) = QMirC _ _ (Mi.fresh (ks.getD j 0))
        rw [List.getD_eq_getElem?_getD, List.getD_eq_getElem?_getD, List.getElem?_map, List.getElem?_eq_getElem this]
        rfl
  · rcases hj with hj | hj | hj | hj | ⟨q, hq, hj⟩
    · exact Or.inl hj
    · exact Or.inr hj
    · cases hj
    · cases hj
    · cases hq
set_option maxHeartbeats 2000000 in
set_option maxRecDepth 100000 in
theorem mt_copies {W : World} {n0 : Nat} {cP : Nat → Res} {F : Nat → Prop} {z0 : World} {rb : Nat} {L : List Bk.Seal} {c1 : Res} {w : World} (g : Gl W) (hF : ∀ j, F j → j < z0.heap.size) (hW : W.heap.size ≤ z0.heap.size)
    (modes : List Int) (am : Option Addr) (cm : Nat) (hm : Sl 0 W.heap.size W (.slice am modes.length cm) (modes.map (Value.int .i64))) (hmi : ∀ k ∈ modes, I64 k) (hml : modes.length ≤ 5)
    (h0 : QlJ W n0 cP F z0 rb L c1 (fun _ => 0) [] (.slice none 0 0) w)
    (Q0 : Exit → Act → World → Prop) { c0 c2 c3 c4 c5 c6 c7 c8 c9 c10 c11 c12 c13 c14 c15 c16 c17 c18 c19 c20 c21 c25 c26 c27 c28 c29 c30 c31 c32 c33 c34 c35 c36 c37 c38 c39 c40 c41 c42 c43 c44 c45 c46 c47 c48 c49 c50 c51 c52 c53 c54 c55 c56 c57 c58 c59 c60 c61 c62 c63 c64 c65 c66 c67 c68 c69 c70 c71 c72 c73 c74 c75 c76 c77 c78 c79 c80 c81 c99 c100 c101 c102 c103 c104 c105 c106 c107 c108 c109 c110 c111 c112 c113 c114 c115 c116 c117 c118 c119 c120 c121 c122 c123 c124 c125 c126 c127 c128 c129 c130 c131 c132 c133 c134 c135 c136 c137 c138 c139 c140 c141 c142 c143 c144 c145 c146 c147 c148 c149 c150 c151 c152 c153 c154 c155 c156 c157 c158 c159 c160 c161 c162 c163 c164 c165 c166 c167 c168 c169 c170 c171 c172 c173 c174 c175 c176 c177 c178 c179 c180 c181 c182 c183 c184 c185 c186 c187 c188 c189 c190 c191 c192 c193 c194 c195 c196 c197 c198 c199 c200 c201 c202 c203 c204 c205 c206 c207 c208 c209 c210 c211 c212 c213 c214 c215 c216 c217 c218 c219 c220 c221 c222 c223 c224 c225 c226 c227 c228 c229 c230 c231 c232 c233 c234 c235 c236 c237 c238 c239 c240 c241 c242 c243 c244 c245 c246 c247 c248 c249 c250 c251 c252 c253 c254 c255 c256 c257 c258 c259 c260 c261 c262 c263 c264 c265 c266 c267 c268 c269 c270 c271 c272 c273 c274 c275 c276 c277 c278 c279 c280 c281 c282 c283 c284 c285 c286 c287 c288 c289 c290 c291 c292 c293 c294 c295 c296 c297 c298 c299 c300 c301 c302 c303 c304 c305 c306 c307 c308 c309 c310 c311 c312 c313 c314 c315 c316 c317 c318 c319 c320 c321 c322 c323 c324 c325 c326 c327 c328 c329 c330 c331 c332 c333 c334 c335 c336 c337 c338 c339 c340 c341 c342 c343 c344 c345 c346 c347 c348 c349 c350 c351 : Value} { u24 u82 u83 u84 u85 u86 u87 u88 u89 u90 u91 u92 u93 u94 u95 u96 u97 u98 : Value} {c : Code} (hc : loopAt Tryz.f4 0 = c)
    (hexit : ∀ (u24 u82 u83 u84 u85 u86 u87 u88 u89 u90 u91 u92 u93 u94 u95 u96 u97 u98 av : Value) (mbs : Nat → Nat) (w' : World), QlJ W n0 cP F z0 rb L c1 mbs (keptM modes) av w' → Q0 .normal ⟨(List.toArray (c0 :: (.slice am modes.length cm) :: c2 :: c3 :: c4 :: c5 :: c6 :: c7 :: c8 :: c9 :: c10 :: c11 :: c12 :: c13 :: c14 :: c15 :: c16 :: c17 :: c18 :: c19 :: c20 :: c21 :: (av) :: (.int .i64 (modes.length : Int)) :: u24 :: c25 :: c26 :: c27 :: c28 :: c29 :: c30 :: c31 :: c32 :: c33 :: c34 :: c35 :: c36 :: c37 :: c38 :: c39 :: c40 :: c41 :: c42 :: c43 :: c44 :: c45 :: c46 :: c47 :: c48 :: c49 :: c50 :: c51 :: c52 :: c53 :: c54 :: c55 :: c56 :: c57 :: c58 :: c59 :: c60 :: c61 :: c62 :: c63 :: c64 :: c65 :: c66 :: c67 :: c68 :: c69 :: c70 :: c71 :: c72 :: c73 :: c74 :: c75 :: c76 :: c77 :: c78 :: c79 :: c80 :: c81 :: u82 :: u83 :: u84 :: u85 :: u86 :: u87 :: u88 :: u89 :: u90 :: u91 :: u92 :: u93 :: u94 :: u95 :: u96 :: u97 :: u98 :: c99 :: c100 :: c101 :: c102 :: c103 :: c104 :: c105 :: c106 :: c107 :: c108 :: c109 :: c110 :: c111 :: c112 :: c113 :: c114 :: c115 :: c116 :: c117 :: c118 :: c119 :: c120 :: c121 :: c122 :: c123 :: c124 :: c125 :: c126 :: c127 :: c128 :: c129 :: c130 :: c131 :: c132 :: c133 :: c134 :: c135 :: c136 :: c137 :: c138 :: c139 :: c140 :: c141 :: c142 :: c143 :: c144 :: c145 :: c146 :: c147 :: c148 :: c149 :: c150 :: c151 :: c152 :: c153 :: c154 :: c155 :: c156 :: c157 :: c158 :: c159 :: c160 :: c161 :: c162 :: c163 :: c164 :: c165 :: c166 :: c167 :: c168 :: c169 :: c170 :: c171 :: c172 :: c173 :: c174 :: c175 :: c176 :: c177 :: c178 :: c179 :: c180 :: c181 :: c182 :: c183 :: c184 :: c185 :: c186 :: c187 :: c188 :: c189 :: c190 :: c191 :: c192 :: c193 :: c194 :: c195 :: c196 :: c197 :: c198 :: c199 :: c200 :: c201 :: c202 :: c203 :: c204 :: c205 :: c206 :: c207 :: c208 :: c209 :: c210 :: c211 :: c212 :: c213 :: c214 :: c215 :: c216 :: c217 :: c218 :: c219 :: c220 :: c221 :: c222 :: c223 :: c224 :: c225 :: c226 :: c227 :: c228 :: c229 :: c230 :: c231 :: c232 :: c233 :: c234 :: c235 :: c236 :: c237 :: c238 :: c239 :: c240 :: c241 :: c242 :: c243 :: c244 :: c245 :: c246 :: c247 :: c248 :: c249 :: c250 :: c251 :: c252 :: c253 :: c254 :: c255 :: c256 :: c257 :: c258 :: c259 :: c260 :: c261 :: c262 :: c263 :: c264 :: c265 :: c266 :: c267 :: c268 :: c269 :: c270 :: c271 :: c272 :: c273 :: c274 :: c275 :: c276 :: c277 :: c278 :: c279 :: c280 :: c281 :: c282 :: c283 :: c284 :: c285 :: c286 :: c287 :: c288 :: c289 :: c290 :: c291 :: c292 :: c293 :: c294 :: c295 :: c296 :: c297 :: c298 :: c299 :: c300 :: c301 :: c302 :: c303 :: c304 :: c305 :: c306 :: c307 :: c308 :: c309 :: c310 :: c311 :: c312 :: c313 :: c314 :: c315 :: c316 :: c317 :: c318 :: c319 :: c320 :: c321 :: c322 :: c323 :: c324 :: c325 :: c326 :: c327 :: c328 :: c329 :: c330 :: c331 :: c332 :: c333 :: c334 :: c335 :: c336 :: c337 :: c338 :: c339 :: c340 :: c341 :: c342 :: c343 :: c344 :: c345 :: c346 :: c347 :: c348 :: c349 :: c350 :: c351 :: [])), []⟩ w') :
    Code.wp Tryz.prog c Q0 ⟨(List.toArray (c0 :: (.slice am modes.length cm) :: c2 :: c3 :: c4 :: c5 :: c6 :: c7 :: c8 :: c9 :: c10 :: c11 :: c12 :: c13 :: c14 :: c15 :: c16 :: c17 :: c18 :: c19 :: c20 :: c21 :: (.slice none 0 0) :: (.int .i64 0) :: u24 :: c25 :: c26 :: c27 :: c28 :: c29 :: c30 :: c31 :: c32 :: c33 :: c34 :: c35 :: c36 :: c37 :: c38 :: c39 :: c40 :: c41 :: c42 :: c43 :: c44 :: c45 :: c46 :: c47 :: c48 :: c49 :: c50 :: c51 :: c52 :: c53 :: c54 :: c55 :: c56 :: c57 :: c58 :: c59 :: c60 :: c61 :: c62 :: c63 :: c64 :: c65 :: c66 :: c67 :: c68 :: c69 :: c70 :: c71 :: c72 :: c73 :: c74 :: c75 :: c76 :: c77 :: c78 :: c79 :: c80 :: c81 :: u82 :: u83 :: u84 :: u85 :: u86 :: u87 :: u88 :: u89 :: u90 :: u91 :: u92 :: u93 :: u94 :: u95 :: u96 :: u97 :: u98 :: c99 :: c100 :: c101 :: c102 :: c103 :: c104 :: c105 :: c106 :: c107 :: c108 :: c109 :: c110 :: c111 :: c112 :: c113 :: c114 :: c115 :: c116 :: c117 :: c118 :: c119 :: c120 :: c121 :: c122 :: c123 :: c124 :: c125 :: c126 :: c127 :: c128 :: c129 :: c130 :: c131 :: c132 :: c133 :: c134 :: c135 :: c136 :: c137 :: c138 :: c139 :: c140 :: c141 :: c142 :: c143 :: c144 :: c145 :: c146 :: c147 :: c148 :: c149 :: c150 :: c151 :: c152 :: c153 :: c154 :: c155 :: c156 :: c157 :: c158 :: c159 :: c160 :: c161 :: c162 :: c163 :: c164 :: c165 :: c166 :: c167 :: c168 :: c169 :: c170 :: c171 :: c172 :: c173 :: c174 :: c175 :: c176 :: c177 :: c178 :: c179 :: c180 :: c181 :: c182 :: c183 :: c184 :: c185 :: c186 :: c187 :: c188 :: c189 :: c190 :: c191 :: c192 :: c193 :: c194 :: c195 :: c196 :: c197 :: c198 :: c199 :: c200 :: c201 :: c202 :: c203 :: c204 :: c205 :: c206 :: c207 :: c208 :: c209 :: c210 :: c211 :: c212 :: c213 :: c214 :: c215 :: c216 :: c217 :: c218 :: c219 :: c220 :: c221 :: c222 :: c223 :: c224 :: c225 :: c226 :: c227 :: c228 :: c229 :: c230 :: c231 :: c232 :: c233 :: c234 :: c235 :: c236 :: c237 :: c238 :: c239 :: c240 :: c241 :: c242 :: c243 :: c244 :: c245 :: c246 :: c247 :: c248 :: c249 :: c250 :: c251 :: c252 :: c253 :: c254 :: c255 :: c256 :: c257 :: c258 :: c259 :: c260 :: c261 :: c262 :: c263 :: c264 :: c265 :: c266 :: c267 :: c268 :: c269 :: c270 :: c271 :: c272 :: c273 :: c274 :: c275 :: c276 :: c277 :: c278 :: c279 :: c280 :: c281 :: c282 :: c283 :: c284 :: c285 :: c286 :: c287 :: c288 :: c289 :: c290 :: c291 :: c292 :: c293 :: c294 :: c295 :: c296 :: c297 :: c298 :: c299 :: c300 :: c301 :: c302 :: c303 :: c304 :: c305 :: c306 :: c307 :: c308 :: c309 :: c310 :: c311 :: c312 :: c313 :: c314 :: c315 :: c316 :: c317 :: c318 :: c319 :: c320 :: c321 :: c322 :: c323 :: c324 :: c325 :: c326 :: c327 :: c328 :: c329 :: c330 :: c331 :: c332 :: c333 :: c334 :: c335 :: c336 :: c337 :: c338 :: c339 :: c340 :: c341 :: c342 :: c343 :: c344 :: c345 :: c346 :: c347 :: c348 :: c349 :: c350 :: c351 :: [])), []⟩ w := by
  subst hc
  have hgb := g.big
  have HFW : Hid ((∀ j, F j → j < z0.heap.size) ∧ W.heap.size ≤ z0.heap.size ∧ nG ≤ z0.heap.size) := ⟨hF, hW, by omega⟩
  have HMI := Lib.hid hmi
  obtain ⟨am', cm', ev, hcm, hmc⟩ := hm.open_
  rw [List.length_map] at hcm ev
  simp only [Value.slice.injEq, true_and] at ev
  obtain ⟨rfl, rfl⟩ := ev
  have HMC := Lib.hid hmc
  have hml1 : (modes.length : Int) ≤ 5 := by omega
  have hJ0 : Hid (∃ mbs, QlJ W n0 cP F z0 rb L c1 mbs (keptM (modes.take 0)) (.slice none 0 0) w) := ⟨_, h0⟩
  have HEX := Lib.hid hexit
  clear hm hmi hcm hmc hF hW h0 hexit
  conv => arg 2; whnf
  go_wp2_with fail
  go_loopw [22, 23] (fun av iv wr => ∃ i : Nat, i ≤ modes.length ∧ iv = .int .i64 (i : Int) ∧ Hid (∃ mbs, QlJ W n0 cP F z0 rb L c1 mbs (keptM (modes.take i)) av wr)) (fun _ iv _ => modes.length - (intOf iv).toNat)
  case atStart => exact ⟨0, Nat.zero_le _, rfl, hJ0.out⟩
  case round =>
    obtain ⟨i, hi, rfl, HJ⟩ := hrel
    by_cases hlt : i < modes.length
    · have hlt1 : (i : Int) < modes.length := by omega
      rcases HMC.out with ⟨-, -, hnil⟩ | ⟨b, off, rfl, -, -, -, hcell⟩
      · rw [List.map_eq_nil_iff] at hnil
        simp [hnil] at hlt
      obtain ⟨mbs, hj⟩ := HJ.out
      have hnw : Nw W wr := hj.fam.nw0
      have d0 := hcell i (by rw [List.length_map]; exact hlt)
      rw [List.getElem?_map, List.getElem?_eq_getElem hlt] at d0
      have c0 : wr.cell? ⟨b, off + i, none⟩ = some (.int .i64 modes[i]) := later_cell ⟨wr, hnw⟩ d0
      have hkm := HMI.out _ (List.getElem_mem hlt)
      have hmn := Lib.hid (mnew_q modes[i] hkm wr (g.upd hnw))
      have HTk : Hid (modes.take (i + 1) = modes.take i ++ [modes[i]]) := List.take_succ_eq_append_getElem hlt
      have HKL : Hid ((keptM (modes.take i)).length ≤ 5) := Nat.le_trans (keptM_len _) (by rw [List.length_take]; omega)
      have HJJ := Lib.hid hj
      obtain ⟨aa, ca, hav⟩ := own_slG hj.oa
      subst hav
      clear hcell d0 hnw hj
      generalize modes[i] = k at *
      obtain ⟨wJ, rfl⟩ : ∃ w, w = wr := ⟨_, rfl⟩
      go_wp2_with fail
      (with_reducible refine (hmn.out).mono ?_)
      rintro _ w2 hd
      rcases hd with ⟨h0, h5, x, rfl, hx, u2⟩ | ⟨hno, rfl, u2⟩
      · have HX := Lib.hid hx
        have HO2 := Lib.hid (owns_upd' HJJ.out.oa u2 (fun _ _ e => e))
        have hs02 : z0.heap.size ≤ w2.heap.size := (HJJ.out.mv.trans (Nw.upd _ u2)).size
        have hg0 := HFW.out.2.2
        have HU2 := Lib.hid u2
        have HK5 := HKL.out
        have HKS : Hid (keptM (modes.take (i + 1)) = keptM (modes.take i) ++ [k]) := by show _ = _; rw [HTk.out, keptM_snoc, if_pos ⟨h0, h5⟩]
        clear hx u2 hmn h0 h5
        go_wp2_with (at_builtin; (refine wpList_appL rfl _ _ 59 rfl z0.heap.size tQM _ 1 8 Tryz.underlying59 infoQM rfl (by decide) _ _ _ rfl HO2.out [Value.pointer (some ⟨x.mb, 0, none⟩)] rfl rfl ?c1 ?c2 ?c3 hs02 hg0 ?_))
        case c1 => intro u hu; rw [List.mem_singleton.1 hu]; rfl
        case c2 => unfold maxLen; omega
        case c3 => omega
        intro v' w5 o5 u5 hob
        have hz : Hid (∃ mbs, QlJ W n0 cP F z0 rb L c1 mbs (keptM (modes.take (i + 1))) v' w5) := by
          rw [HKS.out]
          exact ⟨_, HJJ.out.more g HFW.out.1 HFW.out.2.1 HU2.out HX.out (Upd.refl _ _) o5 u5 hob⟩
        clear o5 u5 hob hs02 hg0 HK5
        go_wp2_with fail
        go_roundw
        case rel => exact ⟨i + 1, by omega, by go_num, hz.out⟩
        case measure => simp [intOf]; omega
      · have hz : Hid (∃ mbs, QlJ W n0 cP F z0 rb L c1 mbs (keptM (modes.take (i + 1))) (.slice aa (keptM (modes.take i)).length ca) w2) := by
          refine ⟨mbs, ?_⟩
          have e : keptM (modes.take (i + 1)) = keptM (modes.take i) := by rw [HTk.out, keptM_snoc, if_neg hno]
          rw [e]
          exact HJJ.out.nw u2
        clear hno u2 hmn
        go_wp2_with fail
        go_roundw
        case rel => exact ⟨i + 1, by omega, by go_num, hz.out⟩
        case measure => simp [intOf]; omega
    · obtain rfl : i = modes.length := by omega
      have hj := HJ.out
      rw [List.take_length] at hj
      obtain ⟨mbs, hj⟩ := hj
      have HJE := Lib.hid hj
      clear hj HJ
      go_wp2_with fail
      exact HEX.out _ _ _ _ _ _ _ _ _ _ _ _ _ _ _ _ _ _ _ _ _ HJE.out
end Go.Proofs.YtagmlemlagbfkaaGreatDoor
