/- MirrorModes (chapter 37): the loops that keep the modes, and that ask a mirror. -/
import Derived.Test.YtagmlemlagbfkaaGreatDoorPk23
import Derived.Test.YtagmlemlagbfkaaGreatDoorPk24
namespace Go.Proofs.YtagmlemlagbfkaaGreatDoor
open Go.RowKit
set_option linter.unusedVariables false
set_option linter.unusedSimpArgs false
attribute [local irreducible] Calls

/-- A view made anew, and one claim that it is asked to accept. -/
theorem view_once {Br : Nat} {q : RingR} {Lr : List Bk.Seal} {key : Int} {z : World} (hq : RingAt Br z q Lr) (g : Gl z) (hk : Bk.isKey key = true) :
    Calls Tryz.prog 14 #[.pointer (some ⟨q.rb, 0, none⟩), .int .i64 key] z fun e z1 => ∃ vb, e = .returned (.pointer (some ⟨vb, 0, none⟩)) ∧ Nw z z1 ∧ ∀ z2, Nw z1 z2 → ∀ s, SgnOk s →
      Calls Tryz.prog 15 #[.pointer (some ⟨vb, 0, none⟩), .agg #[.int .i64 s.key, .string ⟨s.text.toArray⟩, .int .i64 s.mark]] z2 fun e w' => e = .returned (.int .i64 (Vw.accept Lr key [] s).1) ∧ Nw z2 z2 ∧ Nw z w' := by
  refine (new_v q.rb key z g).mono ?_
  rintro e z1 (⟨_, r, rfl, hr, u⟩ | ⟨h0, _⟩)
  · refine ⟨r.vb, rfl, u, fun z2 u2 s hs => ?_⟩
    have hr2 := hr.nw u2
    refine (accept_v z.heap.size Br r q key Lr [] s z2 (g.upd (u.trans u2)) (hq.nw (u.trans u2)) hr2 (Vw.VOk.nil _ _) hs (u.trans u2).size (Nat.zero_le _)).mono ?_
    rintro _ w' ⟨r', rfl, c1, c2, u3, hf⟩
    refine ⟨rfl, Upd.refl _ _, (u.trans u2).trans' u3 (fun k hk e => ?_)⟩
    have := (hr2.foot_lt e).1
    omega
  · rw [hk] at h0; cases h0
/-- Two operations are ready. -/
theorem wpAnyH_two {P : Program} {ops : Array Oper} {Q : Exit → Act → World → Prop} {md : Region.Mode} {S1 S2 : World → Prop} {k : Nat} {fuel : Nat} {listed : Array Bool} {a : Act} {w : World} {i j : Nat} {o o' : Oper} (hr : Region.ready md ops listed = [i, j]) (ho : ops[i]? = some o) (ho' : ops[j]? = some o')
    (h : ∀ K' : Act → World → Prop, Hid (∀ a w, SH k S1 S2 (listed.setIfInBounds i true) w → wpAnyH P md ops Q k S1 S2 fuel (listed.setIfInBounds i true) a w → K' a w) → if Region.wanted o (yielded ops a.tmps) = true then Oper.wp P o a w K' Q else K' (a.put o.dst undef) w)
    (h' : ∀ K' : Act → World → Prop, Hid (∀ a w, SH k S1 S2 (listed.setIfInBounds j true) w → wpAnyH P md ops Q k S1 S2 fuel (listed.setIfInBounds j true) a w → K' a w) → if Region.wanted o' (yielded ops a.tmps) = true then Oper.wp P o' a w K' Q else K' (a.put o'.dst undef) w) :
    wpAnyH P md ops Q k S1 S2 (fuel + 1) listed a w :=
  ⟨(fun h0 => by rw [hr] at h0; cases h0), fun x hx => by
    rw [hr] at hx
    rcases List.mem_cons.1 hx with rfl | hx
    · exact wpOp_step ho (fun K' hK => h K' (fun a w hS hW => hK a w ⟨hS, hW⟩))
    · obtain rfl := List.mem_singleton.1 hx
      exact wpOp_step ho' (fun K' hK => h' K' (fun a w hS hW => hK a w ⟨hS, hW⟩))⟩
def ZeroNw (k : Nat) (w w' : World) : Prop := k = 0 → Nw w w'
/-- An answer in a box. -/
structure AnB (wA w : World) (bA : Nat) (va : Value) (A : Mi.Ans) : Prop where
  nw : Nw wA w
  blk : w.heap[bA]? = some (.cells #[va, .string ⟨A.text.toArray⟩, .bool A.has] tAns)
  row : w.ownsRow wA.heap.size tSigned 3 va A.claims.length (flatS A.claims)
theorem AnB.next {wA w w' : World} {bA : Nat} {va : Value} {A : Mi.Ans} (h : AnB wA w bA va A) (u : Nw w w') : AnB wA w' bA va A := ⟨h.nw.trans u, Nw.keep u h.blk, owns_upd' h.row u (fun _ _ e => e)⟩
theorem infoInt : (Tryz.prog.info? 3).map (fun i => (i.zero, i.size, i.bytes)) = some (some (.int .i64 0), 1, 8) := by kernel_rfl
def intsV (l : List Int) : List Value := l.map (Value.int .i64)
/-- The kept modes. -/
structure KpI (z0 : World) (kv : Value) (ks : List Int) (z : World) : Prop where
  nw : Nw z0 z
  row : z.ownsRow z0.heap.size 3 1 kv ks.length (intsV ks)
theorem KpI.at {z0 z : World} {ka : Option Addr} {kc : Nat} {ks : List Int} (h : KpI z0 (.slice ka ks.length kc) ks z) (hn : 0 < ks.length) : ∃ b off, ka = some ⟨b, off, none⟩ ∧ ∀ j (hj : j < ks.length), z.cell? ⟨b, off + j, none⟩ = some (.int .i64 ks[j]) := by
  obtain ⟨a', cap', ev, -, hc⟩ := (Sl.of_owns h.row).open_
  simp only [intsV, List.length_map, Value.slice.injEq, true_and] at ev
  obtain ⟨rfl, rfl⟩ := ev
  rcases hc with ⟨-, -, hnil⟩ | ⟨b, off, rfl, -, -, -, hc⟩
  · unfold intsV at hnil
    rw [List.map_eq_nil_iff] at hnil
    rw [hnil] at hn; simp at hn
  · refine ⟨b, off, rfl, fun j hj => ?_⟩
    rw [hc j (by unfold intsV; rw [List.length_map]; exact hj)]
    unfold intsV
    rw [List.getElem?_map, List.getElem?_eq_getElem hj]
    rfl
set_option maxHeartbeats 4000000 in
set_option maxRecDepth 100000 in
theorem mm_keep {W z : World} (hz : Nw W z) (hg : nG ≤ z.heap.size) (modes : List Int) (am : Option Addr) (cm : Nat) (hm : Sl 0 W.heap.size W (.slice am modes.length cm) (modes.map (Value.int .i64))) (hmi : ∀ k ∈ modes, I64 k) (hml : modes.length ≤ 5)
    (K0 : Act → World → Prop) { c0 c2 c3 c4 c5 c6 c7 c8 c9 c10 c11 c12 c13 c14 c17 c18 c19 c20 c21 c22 c23 c24 c25 c26 c27 c28 c29 c30 c31 c32 c33 c34 c35 c36 c37 c38 c39 c40 c41 c42 c43 c44 c45 c46 c47 c48 c49 c50 c51 c52 c53 c54 c55 c56 c57 c58 c84 c85 c86 c87 c88 c89 c90 c91 c92 c93 c94 c95 c96 c97 c98 c99 c100 c101 c102 c103 c104 c105 c106 c107 c108 c109 c110 c111 c112 c113 c114 c115 c116 c117 c118 c119 c120 c121 c122 c123 c124 c125 c126 c127 c128 c129 c130 c131 c132 c133 c134 c135 c136 c137 c138 c139 c140 c141 c142 c143 c144 c145 c146 c147 c148 c149 c150 c151 c152 c153 c154 c155 c156 c157 c158 c159 c160 c161 c162 c163 c164 c165 c166 c167 c168 c169 c170 c171 c172 c173 c174 c175 c176 c177 c178 c179 c180 c181 c182 c183 c184 c185 c186 c187 c188 c189 c190 c191 c192 c193 c194 c195 c196 c197 c198 c199 c200 c201 c202 c203 c204 c205 c206 c207 c208 c209 c210 c211 c212 c213 c214 c215 c216 c217 c218 c219 c220 c221 c222 c223 c224 c225 c226 c227 c228 c229 c230 c231 c232 c233 c234 c235 c236 c237 c238 c239 c240 c241 c242 c243 c244 c245 c246 c247 c248 c249 c250 c251 c252 c253 c254 c255 c256 c257 c258 c259 c260 c261 c262 c263 c264 c265 c266 c267 c268 c269 c270 c271 c272 c273 c274 c275 c276 c277 c278 c279 c280 c281 c282 c283 c284 c285 c286 c287 c288 c289 c290 c291 c292 c293 c294 c295 c296 c297 : Value} { u59 u60 u61 u62 u63 u64 u65 u66 u67 u68 u69 u70 u71 u72 u73 u74 u75 u76 u77 u78 u79 u80 u81 u82 u83 : Value} {c : Code} (hc : loopAt Tryz.f3 0 = c)
    (hexit : ∀ (u59 u60 u61 u62 u63 u64 u65 u66 u67 u68 u69 u70 u71 u72 u73 u74 u75 u76 u77 u78 u79 u80 u81 u82 u83 kv : Value) (w' : World), KpI z kv (keptM modes) w' → K0 ⟨(List.toArray (c0 :: (.slice am modes.length cm) :: c2 :: c3 :: c4 :: c5 :: c6 :: c7 :: c8 :: c9 :: c10 :: c11 :: c12 :: c13 :: c14 :: (kv) :: (.int .i64 (modes.length : Int)) :: c17 :: c18 :: c19 :: c20 :: c21 :: c22 :: c23 :: c24 :: c25 :: c26 :: c27 :: c28 :: c29 :: c30 :: c31 :: c32 :: c33 :: c34 :: c35 :: c36 :: c37 :: c38 :: c39 :: c40 :: c41 :: c42 :: c43 :: c44 :: c45 :: c46 :: c47 :: c48 :: c49 :: c50 :: c51 :: c52 :: c53 :: c54 :: c55 :: c56 :: c57 :: c58 :: u59 :: u60 :: u61 :: u62 :: u63 :: u64 :: u65 :: u66 :: u67 :: u68 :: u69 :: u70 :: u71 :: u72 :: u73 :: u74 :: u75 :: u76 :: u77 :: u78 :: u79 :: u80 :: u81 :: u82 :: u83 :: c84 :: c85 :: c86 :: c87 :: c88 :: c89 :: c90 :: c91 :: c92 :: c93 :: c94 :: c95 :: c96 :: c97 :: c98 :: c99 :: c100 :: c101 :: c102 :: c103 :: c104 :: c105 :: c106 :: c107 :: c108 :: c109 :: c110 :: c111 :: c112 :: c113 :: c114 :: c115 :: c116 :: c117 :: c118 :: c119 :: c120 :: c121 :: c122 :: c123 :: c124 :: c125 :: c126 :: c127 :: c128 :: c129 :: c130 :: c131 :: c132 :: c133 :: c134 :: c135 :: c136 :: c137 :: c138 :: c139 :: c140 :: c141 :: c142 :: c143 :: c144 :: c145 :: c146 :: c147 :: c148 :: c149 :: c150 :: c151 :: c152 :: c153 :: c154 :: c155 :: c156 :: c157 :: c158 :: c159 :: c160 :: c161 :: c162 :: c163 :: c164 :: c165 :: c166 :: c167 :: c168 :: c169 :: c170 :: c171 :: c172 :: c173 :: c174 :: c175 :: c176 :: c177 :: c178 :: c179 :: c180 :: c181 :: c182 :: c183 :: c184 :: c185 :: c186 :: c187 :: c188 :: c189 :: c190 :: c191 :: c192 :: c193 :: c194 :: c195 :: c196 :: c197 :: c198 :: c199 :: c200 :: c201 :: c202 :: c203 :: c204 :: c205 :: c206 :: c207 :: c208 :: c209 :: c210 :: c211 :: c212 :: c213 :: c214 :: c215 :: c216 :: c217 :: c218 :: c219 :: c220 :: c221 :: c222 :: c223 :: c224 :: c225 :: c226 :: c227 :: c228 :: c229 :: c230 :: c231 :: c232 :: c233 :: c234 :: c235 :: c236 :: c237 :: c238 :: c239 :: c240 :: c241 :: c242 :: c243 :: c244 :: c245 :: c246 :: c247 :: c248 :: c249 :: c250 :: c251 :: c252 :: c253 :: c254 :: c255 :: c256 :: c257 :: c258 :: c259 :: c260 :: c261 :: c262 :: c263 :: c264 :: c265 :: c266 :: c267 :: c268 :: c269 :: c270 :: c271 :: c272 :: c273 :: c274 :: c275 :: c276 :: c277 :: c278 :: c279 :: c280 :: c281 :: c282 :: c283 :: c284 :: c285 :: c286 :: c287 :: c288 :: c289 :: c290 :: c291 :: c292 :: c293 :: c294 :: c295 :: c296 :: c297 :: [])), []⟩ w') :
    Code.wp Tryz.prog c (Exit.then K0 (fun _ _ _ => False)) ⟨(List.toArray (c0 :: (.slice am modes.length cm) :: c2 :: c3 :: c4 :: c5 :: c6 :: c7 :: c8 :: c9 :: c10 :: c11 :: c12 :: c13 :: c14 :: (.slice none 0 0) :: (.int .i64 0) :: c17 :: c18 :: c19 :: c20 :: c21 :: c22 :: c23 :: c24 :: c25 :: c26 :: c27 :: c28 :: c29 :: c30 :: c31 :: c32 :: c33 :: c34 :: c35 :: c36 :: c37 :: c38 :: c39 :: c40 :: c41 :: c42 :: c43 :: c44 :: c45 :: c46 :: c47 :: c48 :: c49 :: c50 :: c51 :: c52 :: c53 :: c54 :: c55 :: c56 :: c57 :: c58 :: u59 :: u60 :: u61 :: u62 :: u63 :: u64 :: u65 :: u66 :: u67 :: u68 :: u69 :: u70 :: u71 :: u72 :: u73 :: u74 :: u75 :: u76 :: u77 :: u78 :: u79 :: u80 :: u81 :: u82 :: u83 :: c84 :: c85 :: c86 :: c87 :: c88 :: c89 :: c90 :: c91 :: c92 :: c93 :: c94 :: c95 :: c96 :: c97 :: c98 :: c99 :: c100 :: c101 :: c102 :: c103 :: c104 :: c105 :: c106 :: c107 :: c108 :: c109 :: c110 :: c111 :: c112 :: c113 :: c114 :: c115 :: c116 :: c117 :: c118 :: c119 :: c120 :: c121 :: c122 :: c123 :: c124 :: c125 :: c126 :: c127 :: c128 :: c129 :: c130 :: c131 :: c132 :: c133 :: c134 :: c135 :: c136 :: c137 :: c138 :: c139 :: c140 :: c141 :: c142 :: c143 :: c144 :: c145 :: c146 :: c147 :: c148 :: c149 :: c150 :: c151 :: c152 :: c153 :: c154 :: c155 :: c156 :: c157 :: c158 :: c159 :: c160 :: c161 :: c162 :: c163 :: c164 :: c165 :: c166 :: c167 :: c168 :: c169 :: c170 :: c171 :: c172 :: c173 :: c174 :: c175 :: c176 :: c177 :: c178 :: c179 :: c180 :: c181 :: c182 :: c183 :: c184 :: c185 :: c186 :: c187 :: c188 :: c189 :: c190 :: c191 :: c192 :: c193 :: c194 :: c195 :: c196 :: c197 :: c198 :: c199 :: c200 :: c201 :: c202 :: c203 :: c204 :: c205 :: c206 :: c207 :: c208 :: c209 :: c210 :: c211 :: c212 :: c213 :: c214 :: c215 :: c216 :: c217 :: c218 :: c219 :: c220 :: c221 :: c222 :: c223 :: c224 :: c225 :: c226 :: c227 :: c228 :: c229 :: c230 :: c231 :: c232 :: c233 :: c234 :: c235 :: c236 :: c237 :: c238 :: c239 :: c240 :: c241 :: c242 :: c243 :: c244 :: c245 :: c246 :: c247 :: c248 :: c249 :: c250 :: c251 :: c252 :: c253 :: c254 :: c255 :: c256 :: c257 :: c258 :: c259 :: c260 :: c261 :: c262 :: c263 :: c264 :: c265 :: c266 :: c267 :: c268 :: c269 :: c270 :: c271 :: c272 :: c273 :: c274 :: c275 :: c276 :: c277 :: c278 :: c279 :: c280 :: c281 :: c282 :: c283 :: c284 :: c285 :: c286 :: c287 :: c288 :: c289 :: c290 :: c291 :: c292 :: c293 :: c294 :: c295 :: c296 :: c297 :: [])), []⟩ z := by
  subst hc
  have HZ := Lib.hid hz
  have HG4 := Lib.hid hg
  have HM := Lib.hid (And.intro hm hmi)
  have HEX := Lib.hid hexit
  have hml1 : (modes.length : Int) ≤ 5 := by omega
  clear hz hg hm hmi hexit
  conv => arg 2; whnf
  go_wp2_with fail
  go_loopw [15, 16] (fun kv iv wr => ∃ i : Nat, i ≤ modes.length ∧ iv = .int .i64 (i : Int) ∧ Hid (KpI z kv (keptM (modes.take i)) wr)) (fun _ iv _ => modes.length - (intOf iv).toNat)
  case atStart => exact ⟨0, Nat.zero_le _, rfl, ⟨Upd.refl _ _, World.ownsRow_nil _ _ _ _⟩⟩
  case round =>
    obtain ⟨i, hi, rfl, HJ⟩ := hrel
    by_cases hlt : i < modes.length
    · have hlt1 : (i : Int) < modes.length := by omega
      obtain ⟨a', cap', ev, -, hcells⟩ := HM.out.1.open_
      rw [List.length_map] at ev
      simp only [Value.slice.injEq, true_and] at ev
      obtain ⟨rfl, rfl⟩ := ev
      rcases hcells with ⟨-, -, hnil⟩ | ⟨b, off, rfl, -, -, -, hcell⟩
      · rw [List.map_eq_nil_iff] at hnil
        simp [hnil] at hlt
      have d0 := hcell i (by rw [List.length_map]; exact hlt)
      rw [List.getElem?_map, List.getElem?_eq_getElem hlt] at d0
      have c0 : wr.cell? ⟨b, off + i, none⟩ = some (.int .i64 modes[i]) := later_cell ⟨wr, HZ.out.trans HJ.out.nw⟩ d0
      have HTk : Hid (modes.take (i + 1) = modes.take i ++ [modes[i]]) := List.take_succ_eq_append_getElem hlt
      have HKL : Hid ((keptM (modes.take i)).length ≤ 5) := Nat.le_trans (keptM_len _) (by rw [List.length_take]; omega)
      obtain ⟨ka, kc, ek⟩ := own_slG HJ.out.row
      subst ek
      clear hcell d0
      generalize modes[i] = k at *
      obtain ⟨wJ, rfl⟩ : ∃ w, w = wr := ⟨_, rfl⟩
      by_cases h0 : 0 ≤ k
      rotate_left
      · have d0 : decide (0 ≤ k) = false := decide_eq_false h0
        have hz : Hid (KpI z (.slice ka (keptM (modes.take i)).length kc) (keptM (modes.take (i + 1))) wJ) := by
          rw [HTk.out, keptM_snoc, if_neg (fun e => h0 e.1)]; exact HJ.out
        clear h0
        go_wp2_with fail
        go_roundw
        case rel => exact ⟨i + 1, by omega, by go_num, hz.out⟩
        case measure => simp [intOf]; omega
      have d0 : decide (0 ≤ k) = true := decide_eq_true h0
      by_cases h5 : k < 5
      rotate_left
      · have d5 : decide (k < 5) = false := decide_eq_false h5
        have hz : Hid (KpI z (.slice ka (keptM (modes.take i)).length kc) (keptM (modes.take (i + 1))) wJ) := by
          rw [HTk.out, keptM_snoc, if_neg (fun e => h5 e.2)]; exact HJ.out
        clear h0 h5
        go_wp2_with fail
        go_roundw
        case rel => exact ⟨i + 1, by omega, by go_num, hz.out⟩
        case measure => simp [intOf]; omega
      have d5 : decide (k < 5) = true := decide_eq_true h5
      have HKS : Hid (keptM (modes.take (i + 1)) = keptM (modes.take i) ++ [k]) := by show _ = _; rw [HTk.out, keptM_snoc, if_pos ⟨h0, h5⟩]
      have HO := Lib.hid HJ.out.row
      have hsz : z.heap.size ≤ wJ.heap.size := HJ.out.nw.size
      have hg4 : nG ≤ z.heap.size := HG4.out
      have hkl := HKL.out
      clear h0 h5
      go_wp2_with (at_builtin; (refine wpList_appL rfl _ _ 22 rfl z.heap.size 3 _ 1 8 Tryz.underlying22 infoInt rfl (by decide) _ _ _ rfl HO.out [Value.int .i64 k] rfl rfl ?c1 ?c2 ?c3 hsz hg4 ?_))
      case c1 => intro u hu; rw [List.mem_singleton.1 hu]; rfl
      case c2 => unfold maxLen; omega
      case c3 => omega
      intro v' w5 o5 u5 hob
      have hz : Hid (KpI z v' (keptM (modes.take (i + 1))) w5) := by
        rw [HKS.out]
        refine ⟨HJ.out.nw.trans' u5 (fun j hj e => by have := (HO.out.lt j e).1; omega), ?_⟩
        unfold intsV
        rw [List.length_append, List.map_append]
        exact o5
      clear o5 u5 hob hsz hg4 hkl
      go_wp2_with fail
      go_roundw
      case rel => exact ⟨i + 1, by omega, by go_num, hz.out⟩
      case measure => simp [intOf]; omega
    · obtain rfl : i = modes.length := by omega
      have hJ := HJ.out
      rw [List.take_length] at hJ
      have HJ2 := Lib.hid hJ
      clear HJ hJ
      go_wp2_with fail
      exact HEX.out _ _ _ _ _ _ _ _ _ _ _ _ _ _ _ _ _ _ _ _ _ _ _ _ _ _ _ HJ2.out
set_option maxHeartbeats 20000000 in
set_option maxRecDepth 100000 in
theorem mm_asked {wA : World} {B Br : Nat} {key : Int} {Lr : List Bk.Seal} {rb mb ab ao ca kb ko kc xb xo xc n1 i : Nat} {la : Option Addr} {lc : Nat} {cs : List (List UInt8)} {m : Mi.Mir} (Q : List Mi.Ques) (hQ95 : Q.length ≤ 96) (hi1 : i < n1) (hn15 : n1 ≤ 5)
    (hGK : ∀ z, Nw wA z → Gl z) (hK2 : Bk.isKey key = true)
    (hQC : ∀ z, Nw wA z → ∀ n (h : n < Q.length), z.cell? ⟨xb, xo + n * 3, none⟩ = some (.int .i64 Q[n].kind) ∧ z.cell? ⟨xb, xo + n * 3 + 1, none⟩ = some (.int .i64 Q[n].n) ∧ z.cell? ⟨xb, xo + n * 3 + 2, none⟩ = some (.string ⟨Q[n].text.toArray⟩))
    (hQok : ∀ q ∈ Q, QOk q)
    (hPA : ∀ z, Nw wA z → z.cell? ⟨ab, ao + i, none⟩ = some (.pointer (some ⟨mb, 0, none⟩)))
    (hPM : ∀ z, Nw wA z → z.cell? ⟨kb, ko + i, none⟩ = some (.int .i64 m.mode))
    (hANS : ∀ z, Nw wA z → ∀ q, QOk q → Calls Tryz.prog 13 #[.pointer (some ⟨mb, 0, none⟩), qV q] z (AnsTo z (Mi.answer m q)))
    (hRING : ∀ z, Nw wA z → ∃ rq : RingR, rq.rb = rb ∧ RingAt Br z rq Lr)
    (hOL : ∀ z, Nw wA z → z.ownsRow B tStrM 1 (.slice la cs.length lc) cs.length (cs.map bsM))
    (hTOLD : ∀ q c, c ∈ (Mi.answer m q).claims → SgnOk c ∧ decide ((Vw.accept Lr key [] c).1 = 0) = decide (m.mode ≠ 4))
    (hGEN : ∀ q, (Mi.answer m q).has = true → Mi.genuine cs q (Mi.answer m q) = decide (m.mode ≠ 4))
    (K0 : Act → World → Prop) { c1 c2 c3 c4 c5 c7 c9 c12 c13 c14 c16 c18 c19 c20 c21 c23 c24 c31 c32 c33 c34 c35 c36 c37 c38 c39 c40 c41 c42 c43 c44 c45 c46 c47 c48 c49 c50 c51 c52 c53 c54 c55 c56 c57 c58 c59 c60 c61 c62 c63 c64 c65 c66 c67 c68 c69 c70 c71 c72 c73 c74 c75 c76 c77 c78 c79 c80 c81 c82 c83 c84 c85 c86 c87 c88 c89 c90 c91 c92 c93 c94 c95 c96 c97 c98 c99 c100 c101 c102 c103 c104 c105 c106 c107 c108 c109 c110 c111 c112 c113 c114 c115 c116 c117 c118 c119 c120 c121 c122 c123 c124 c125 c126 c127 c128 c129 c130 c131 c132 c133 c134 c135 c136 c137 c138 c139 c140 c141 c142 c238 c239 c240 c241 c242 c243 c244 c245 c246 c247 c248 c249 c250 c251 c252 c253 c254 c255 c256 c257 c258 c259 c260 c261 c262 c263 c264 c265 c266 c267 c268 c269 c270 c271 c272 c273 c274 c275 c276 c277 c278 c279 c280 c281 c282 c283 c284 c285 c286 c287 c288 c289 c290 c291 c292 c293 c294 c295 c296 c297 : Value} { u6 u28 u29 u30 u143 u144 u145 u146 u147 u148 u149 u150 u151 u152 u153 u154 u155 u156 u157 u158 u159 u160 u161 u162 u163 u164 u165 u166 u167 u168 u169 u170 u171 u172 u173 u174 u175 u176 u177 u178 u179 u180 u181 u182 u183 u184 u185 u186 u187 u188 u189 u190 u191 u192 u193 u194 u195 u196 u197 u198 u199 u200 u201 u202 u203 u204 u205 u206 u207 u208 u209 u210 u211 u212 u213 u214 u215 u216 u217 u218 u219 u220 u221 u222 u223 u224 u225 u226 u227 u228 u229 u230 u231 u232 u233 u234 u235 u236 u237 : Value} {c : Code} (hc : loopAt Tryz.f3 4 = c)
    (hexit : ∀ (u6 u28 u29 u30 u143 u144 u145 u146 u147 u148 u149 u150 u151 u152 u153 u154 u155 u156 u157 u158 u159 u160 u161 u162 u163 u164 u165 u166 u167 u168 u169 u170 u171 u172 u173 u174 u175 u176 u177 u178 u179 u180 u181 u182 u183 u184 u185 u186 u187 u188 u189 u190 u191 u192 u193 u194 u195 u196 u197 u198 u199 u200 u201 u202 u203 u204 u205 u206 u207 u208 u209 u210 u211 u212 u213 u214 u215 u216 u217 u218 u219 u220 u221 u222 u223 u224 u225 u226 u227 u228 u229 u230 u231 u232 u233 u234 u235 u236 u237 : Value) (w' : World), Nw wA w' → Mi.claimsN m Q ≤ Q.length → Mi.textsN m Q ≤ Q.length → K0 ⟨(List.toArray ((.int .i64 key) :: c1 :: c2 :: c3 :: c4 :: c5 :: u6 :: c7 :: (.pointer (some ⟨rb, 0, none⟩)) :: c9 :: (.slice (some ⟨ab, ao, none⟩) n1 ca) :: (.slice la cs.length lc) :: c12 :: c13 :: c14 :: (.slice (some ⟨kb, ko, none⟩) n1 kc) :: c16 :: (.int .i64 (i : Int)) :: c18 :: c19 :: c20 :: c21 :: (.slice (some ⟨xb, xo, none⟩) Q.length xc) :: c23 :: c24 :: (.int .i64 (Mi.claimsN m Q : Nat)) :: (.int .i64 (Mi.textsN m Q : Nat)) :: (.int .i64 (Q.length : Int)) :: u28 :: u29 :: u30 :: c31 :: c32 :: c33 :: c34 :: c35 :: c36 :: c37 :: c38 :: c39 :: c40 :: c41 :: c42 :: c43 :: c44 :: c45 :: c46 :: c47 :: c48 :: c49 :: c50 :: c51 :: c52 :: c53 :: c54 :: c55 :: c56 :: c57 :: c58 :: c59 :: c60 :: c61 :: c62 :: c63 :: c64 :: c65 :: c66 :: c67 :: c68 :: c69 :: c70 :: c71 :: c72 :: c73 :: c74 :: c75 :: c76 :: c77 :: c78 :: c79 :: c80 :: c81 :: c82 :: c83 :: c84 :: c85 :: c86 :: c87 :: c88 :: c89 :: c90 :: c91 :: c92 :: c93 :: c94 :: c95 :: c96 :: c97 :: c98 :: c99 :: c100 :: c101 :: c102 :: c103 :: c104 :: c105 :: c106 :: c107 :: c108 :: c109 :: c110 :: c111 :: c112 :: c113 :: c114 :: c115 :: c116 :: c117 :: c118 :: c119 :: c120 :: c121 :: c122 :: c123 :: c124 :: c125 :: c126 :: c127 :: c128 :: c129 :: c130 :: c131 :: c132 :: c133 :: c134 :: c135 :: c136 :: c137 :: c138 :: c139 :: c140 :: c141 :: c142 :: u143 :: u144 :: u145 :: u146 :: u147 :: u148 :: u149 :: u150 :: u151 :: u152 :: u153 :: u154 :: u155 :: u156 :: u157 :: u158 :: u159 :: u160 :: u161 :: u162 :: u163 :: u164 :: u165 :: u166 :: u167 :: u168 :: u169 :: u170 :: u171 :: u172 :: u173 :: u174 :: u175 :: u176 :: u177 :: u178 :: u179 :: u180 :: u181 :: u182 :: u183 :: u184 :: u185 :: u186 :: u187 :: u188 :: u189 :: u190 :: u191 :: u192 :: u193 :: u194 :: u195 :: u196 :: u197 :: u198 :: u199 :: u200 :: u201 :: u202 :: u203 :: u204 :: u205 :: u206 :: u207 :: u208 :: u209 :: u210 :: u211 :: u212 :: u213 :: u214 :: u215 :: u216 :: u217 :: u218 :: u219 :: u220 :: u221 :: u222 :: u223 :: u224 :: u225 :: u226 :: u227 :: u228 :: u229 :: u230 :: u231 :: u232 :: u233 :: u234 :: u235 :: u236 :: u237 :: c238 :: c239 :: c240 :: c241 :: c242 :: c243 :: c244 :: c245 :: c246 :: c247 :: c248 :: c249 :: c250 :: c251 :: c252 :: c253 :: c254 :: c255 :: c256 :: c257 :: c258 :: c259 :: c260 :: c261 :: c262 :: c263 :: c264 :: c265 :: c266 :: c267 :: c268 :: c269 :: c270 :: c271 :: c272 :: c273 :: c274 :: c275 :: c276 :: c277 :: c278 :: c279 :: c280 :: c281 :: c282 :: c283 :: c284 :: c285 :: c286 :: c287 :: c288 :: c289 :: c290 :: c291 :: c292 :: c293 :: c294 :: c295 :: c296 :: c297 :: [])), []⟩ w') :
    Code.wp Tryz.prog c (Exit.then K0 (fun _ _ _ => False)) ⟨(List.toArray ((.int .i64 key) :: c1 :: c2 :: c3 :: c4 :: c5 :: u6 :: c7 :: (.pointer (some ⟨rb, 0, none⟩)) :: c9 :: (.slice (some ⟨ab, ao, none⟩) n1 ca) :: (.slice la cs.length lc) :: c12 :: c13 :: c14 :: (.slice (some ⟨kb, ko, none⟩) n1 kc) :: c16 :: (.int .i64 (i : Int)) :: c18 :: c19 :: c20 :: c21 :: (.slice (some ⟨xb, xo, none⟩) Q.length xc) :: c23 :: c24 :: (.int .i64 0) :: (.int .i64 0) :: (.int .i64 0) :: u28 :: u29 :: u30 :: c31 :: c32 :: c33 :: c34 :: c35 :: c36 :: c37 :: c38 :: c39 :: c40 :: c41 :: c42 :: c43 :: c44 :: c45 :: c46 :: c47 :: c48 :: c49 :: c50 :: c51 :: c52 :: c53 :: c54 :: c55 :: c56 :: c57 :: c58 :: c59 :: c60 :: c61 :: c62 :: c63 :: c64 :: c65 :: c66 :: c67 :: c68 :: c69 :: c70 :: c71 :: c72 :: c73 :: c74 :: c75 :: c76 :: c77 :: c78 :: c79 :: c80 :: c81 :: c82 :: c83 :: c84 :: c85 :: c86 :: c87 :: c88 :: c89 :: c90 :: c91 :: c92 :: c93 :: c94 :: c95 :: c96 :: c97 :: c98 :: c99 :: c100 :: c101 :: c102 :: c103 :: c104 :: c105 :: c106 :: c107 :: c108 :: c109 :: c110 :: c111 :: c112 :: c113 :: c114 :: c115 :: c116 :: c117 :: c118 :: c119 :: c120 :: c121 :: c122 :: c123 :: c124 :: c125 :: c126 :: c127 :: c128 :: c129 :: c130 :: c131 :: c132 :: c133 :: c134 :: c135 :: c136 :: c137 :: c138 :: c139 :: c140 :: c141 :: c142 :: u143 :: u144 :: u145 :: u146 :: u147 :: u148 :: u149 :: u150 :: u151 :: u152 :: u153 :: u154 :: u155 :: u156 :: u157 :: u158 :: u159 :: u160 :: u161 :: u162 :: u163 :: u164 :: u165 :: u166 :: u167 :: u168 :: u169 :: u170 :: u171 :: u172 :: u173 :: u174 :: u175 :: u176 :: u177 :: u178 :: u179 :: u180 :: u181 :: u182 :: u183 :: u184 :: u185 :: u186 :: u187 :: u188 :: u189 :: u190 :: u191 :: u192 :: u193 :: u194 :: u195 :: u196 :: u197 :: u198 :: u199 :: u200 :: u201 :: u202 :: u203 :: u204 :: u205 :: u206 :: u207 :: u208 :: u209 :: u210 :: u211 :: u212 :: u213 :: u214 :: u215 :: u216 :: u217 :: u218 :: u219 :: u220 :: u221 :: u222 :: u223 :: u224 :: u225 :: u226 :: u227 :: u228 :: u229 :: u230 :: u231 :: u232 :: u233 :: u234 :: u235 :: u236 :: u237 :: c238 :: c239 :: c240 :: c241 :: c242 :: c243 :: c244 :: c245 :: c246 :: c247 :: c248 :: c249 :: c250 :: c251 :: c252 :: c253 :: c254 :: c255 :: c256 :: c257 :: c258 :: c259 :: c260 :: c261 :: c262 :: c263 :: c264 :: c265 :: c266 :: c267 :: c268 :: c269 :: c270 :: c271 :: c272 :: c273 :: c274 :: c275 :: c276 :: c277 :: c278 :: c279 :: c280 :: c281 :: c282 :: c283 :: c284 :: c285 :: c286 :: c287 :: c288 :: c289 :: c290 :: c291 :: c292 :: c293 :: c294 :: c295 :: c296 :: c297 :: [])), []⟩ wA := by
  subst hc
  have HGK := Lib.hid hGK
  have HK2 := Lib.hid hK2
  have HQC := Lib.hid hQC
  have HQok := Lib.hid hQok
  have HPA := Lib.hid hPA
  have HPM := Lib.hid hPM
  have HANS := Lib.hid hANS
  have HRING := Lib.hid hRING
  have HOL := Lib.hid hOL
  have HTOLDq := Lib.hid hTOLD
  have HGENq := Lib.hid hGEN
  have HEX := Lib.hid hexit
  have hL0 : Hid (Nw wA wA) := Upd.refl _ _
  have hlt1 : (i : Int) < (n1 : Int) := by omega
  have hn15' : (n1 : Int) ≤ 5 := by omega
  clear hGK hK2 hQC hQok hPA hPM hANS hRING hOL hTOLD hGEN hexit
  conv => arg 2; whnf
  go_wp2_with fail
  go_loopw [25, 26, 27] (fun cv tv iv wr => ∃ n : Nat, n ≤ Q.length ∧ iv = .int .i64 (n : Int) ∧ cv = .int .i64 (Mi.claimsN m (Q.take n) : Nat) ∧ tv = .int .i64 (Mi.textsN m (Q.take n) : Nat) ∧ Mi.claimsN m (Q.take n) ≤ n ∧ Mi.textsN m (Q.take n) ≤ n ∧ Hid (Nw wA wr)) (fun _ _ iv _ => Q.length - (intOf iv).toNat)
  case atStart => exact ⟨0, Nat.zero_le _, rfl, rfl, rfl, Nat.zero_le _, Nat.zero_le _, hL0.out⟩
  case round =>
    obtain ⟨nn, hnn, rfl, rfl, rfl, hcn, htn, HN⟩ := hrel
    by_cases hlt6 : nn < Q.length
    · have hlt7 : (nn : Int) < Q.length := by omega
      have HQn := Lib.hid (HQok.out _ (List.getElem_mem hlt6))
      have hcn1 := Mi.claimsN_take m Q nn hlt6
      have htn1 := Mi.textsN_take m Q nn hlt6
      have hcl1 := Mi.answer_len m Q[nn]
      have HSS : Hid (∀ z, Nw wA z → z.cell? ⟨ab, ao + i, none⟩ = some (.pointer (some ⟨mb, 0, none⟩)) ∧ z.cell? ⟨xb, xo + nn * 3, none⟩ = some (.int .i64 Q[nn].kind) ∧ z.cell? ⟨xb, xo + nn * 3 + 1, none⟩ = some (.int .i64 Q[nn].n) ∧ z.cell? ⟨xb, xo + nn * 3 + 2, none⟩ = some (.string ⟨Q[nn].text.toArray⟩)) := fun z u => ⟨HPA.out z u, HQC.out z u nn hlt6⟩
      generalize Q[nn] = q at *
      obtain ⟨A, hA⟩ : ∃ A, Mi.answer m q = A := ⟨_, rfl⟩
      rw [hA] at hcn1 htn1 hcl1
      have HAE := Lib.hid hA
      have HCA : Hid (∀ z, Nw wA z → Calls Tryz.prog 13 #[.pointer (some ⟨mb, 0, none⟩), .agg #[.int .i64 q.kind, .int .i64 q.n, .string ⟨q.text.toArray⟩]] z (AnsTo z A)) := fun z u => by
        have := HANS.out z u q HQn.out
        rw [hA] at this
        exact this
      obtain ⟨wS, rfl⟩ : ∃ w, w = wr := ⟨_, rfl⟩
      have hS := HSS.out wS.drew (HN.out.trans (Upd.refl _ wS).drew)
      clear hA
      have hgA : nG ≤ wA.heap.size := (HGK.out wA (Upd.refl _ _)).big
      have HGA := Lib.hid hgA
      go_upto_region 33 with fail
      go_cut [28] from 147 to 157 (fun bv wx => ∃ bA va, bv = .pointer (some ⟨bA, 0, none⟩) ∧ Hid (AnB wA wx bA va A))
      case first =>
        --DONE{
        refine wp_region_H 10 (fun _ => True) (fun z => z.cell? ⟨ab, ao + i, none⟩ = some (.pointer (some ⟨mb, 0, none⟩)) ∧ z.cell? ⟨xb, xo + nn * 3, none⟩ = some (.int .i64 q.kind) ∧ z.cell? ⟨xb, xo + nn * 3 + 1, none⟩ = some (.int .i64 q.n) ∧ z.cell? ⟨xb, xo + nn * 3 + 2, none⟩ = some (.string ⟨q.text.toArray⟩)) (by kernel_rfl) ?_
        refine wpAnyH_pure (i := 0) (v := ?_) rfl (by kernel_rfl) (by kernel_rfl) (by kernel_rfl) (by kernel_rfl) (by kernel_rfl) (fun _ _ _ h => h) (by rfl) ?_ (⟨fun _ => trivial, hS⟩) ?_
        rotate_left 1
        · (intro zz; go_simp; first | done | with_reducible rfl)
        (try simp only [Act.put, List.setIfInBounds_toArray, List.set_cons_zero, List.set_cons_succ])
        refine wpAnyH_pure (i := 1) (v := ?_) rfl (by kernel_rfl) (by kernel_rfl) (by kernel_rfl) (by kernel_rfl) (by kernel_rfl) (fun _ _ _ h => h) (by rfl) ?_ (⟨fun _ => trivial, hS⟩) ?_
        rotate_left 1
        · (intro zz; go_simp; first | done | with_reducible rfl)
        (try simp only [Act.put, List.setIfInBounds_toArray, List.set_cons_zero, List.set_cons_succ])
        refine wpAnyH_pure (i := 2) (v := ?_) rfl (by kernel_rfl) (by kernel_rfl) (by kernel_rfl) (by kernel_rfl) (by kernel_rfl) (fun _ _ _ h => h) (by rfl) ?_ (⟨fun _ => trivial, hS⟩) ?_
        rotate_left 1
        · (intro zz; go_simp; first | done | with_reducible rfl)
        (try simp only [Act.put, List.setIfInBounds_toArray, List.set_cons_zero, List.set_cons_succ])
        refine wpAnyH_load2 (i := 3) (v := ?_) rfl (by kernel_rfl) (by kernel_rfl) (by kernel_rfl) (by kernel_rfl) (by kernel_rfl) (fun _ _ _ h => h) (by rfl) ?_ (⟨fun _ => trivial, hS⟩) ?_
        rotate_left 1
        · (intro zz hS2; obtain ⟨_, _, _, _⟩ := hS2; go_simp; first | done | with_reducible rfl)
        (try simp only [Act.put, List.setIfInBounds_toArray, List.set_cons_zero, List.set_cons_succ])
        refine wpAnyH_pure (i := 4) (v := ?_) rfl (by kernel_rfl) (by kernel_rfl) (by kernel_rfl) (by kernel_rfl) (by kernel_rfl) (fun _ _ _ h => h) (by rfl) ?_ (⟨fun _ => trivial, hS⟩) ?_
        rotate_left 1
        · (intro zz; go_simp; first | done | with_reducible rfl)
        (try simp only [Act.put, List.setIfInBounds_toArray, List.set_cons_zero, List.set_cons_succ])
        refine wpAnyH_pure (i := 5) (v := ?_) rfl (by kernel_rfl) (by kernel_rfl) (by kernel_rfl) (by kernel_rfl) (by kernel_rfl) (fun _ _ _ h => h) (by rfl) ?_ (⟨fun _ => trivial, hS⟩) ?_
        rotate_left 1
        · (intro zz; go_simp; first | done | with_reducible rfl)
        (try simp only [Act.put, List.setIfInBounds_toArray, List.set_cons_zero, List.set_cons_succ])
        refine wpAnyH_pure (i := 6) (v := ?_) rfl (by kernel_rfl) (by kernel_rfl) (by kernel_rfl) (by kernel_rfl) (by kernel_rfl) (fun _ _ _ h => h) (by rfl) ?_ (⟨fun _ => trivial, hS⟩) ?_
        rotate_left 1
        · (intro zz; go_simp; first | done | with_reducible rfl)
        (try simp only [Act.put, List.setIfInBounds_toArray, List.set_cons_zero, List.set_cons_succ])
        refine wpAnyH_load2 (i := 7) (v := ?_) rfl (by kernel_rfl) (by kernel_rfl) (by kernel_rfl) (by kernel_rfl) (by kernel_rfl) (fun _ _ _ h => h) (by rfl) ?_ (⟨fun _ => trivial, hS⟩) ?_
        rotate_left 1
        · (intro zz hS2; obtain ⟨_, _, _, _⟩ := hS2; go_simp; first | done | with_reducible rfl)
        (try simp only [Act.put, List.setIfInBounds_toArray, List.set_cons_zero, List.set_cons_succ])
        have hd0 : Nw wS wS.drew := (Upd.refl _ wS).drew
        have hsA : wA.heap.size ≤ wS.heap.size := HN.out.size
        refine wpAnyH_two (i := 8) (j := 9) (by kernel_rfl) rfl rfl (fun K hK => ?_) (fun K hK => ?_)
        · have hCC := HCA.out wS.drew (HN.out.trans hd0)
          go_simp
          (with_reducible refine (hCC).mono ?_)
          rintro _ w6 ⟨va, rfl, oa, u6⟩
          have hS6 := HSS.out w6 (HN.out.trans (hd0.trans u6))
          refine hK.out _ _ ⟨fun _ => trivial, hS6⟩ ?_
          clear hK K
          (try simp only [Act.put, List.setIfInBounds_toArray, List.set_cons_zero, List.set_cons_succ])
          have HO := Lib.hid (owns_base oa hsA)
          have HU6 := Lib.hid (HN.out.trans (hd0.trans u6))
          obtain ⟨va1, va2, eva⟩ := own_slG oa
          subst eva
          have hba := heap_new w6 (.cells #[.slice va1 A.claims.length va2, .string ⟨A.text.toArray⟩, .bool A.has] tAns)
          have HZ : Hid (AnB wA (w6.alloc (.cells #[.slice va1 A.claims.length va2, .string ⟨A.text.toArray⟩, .bool A.has] tAns)) w6.heap.size (.slice va1 A.claims.length va2) A) :=
            ⟨HU6.out.trans (nw_alloc _ _), hba, owns_upd' HO.out (nw_alloc _ _) (fun _ _ e => e)⟩
          have HS7 := Lib.hid (fun o => HSS.out (w6.alloc o) (HU6.out.trans (nw_alloc _ _)))
          clear hCC oa u6 hS6 hba hS
          refine wpAnyH_one (i := 9) (by kernel_rfl) rfl (fun K hK => ?_)
          go_simp
          refine hK.out _ _ ⟨fun _ => trivial, HS7.out _⟩ ?_
          clear hK K
          (try simp only [Act.put, List.setIfInBounds_toArray, List.set_cons_zero, List.set_cons_succ])
          refine wpAnyH_one (i := 10) (by kernel_rfl) rfl (fun K hK => ?_)
          go_simp
          refine hK.out _ _ ⟨fun _ => trivial, HS7.out _⟩ ?_
          clear hK K
          (try simp only [Act.put, List.setIfInBounds_toArray, List.set_cons_zero, List.set_cons_succ])
          refine wpAnyH_done (by kernel_rfl) ?_ _
          go_wp2_with fail
          go_meet
          exact ⟨_, _, rfl, HZ.out⟩
        · have hba := heap_new wS.drew (.cells #[.slice none 0 0, .string ⟨#[]⟩, .bool false] tAns)
          have hna := nw_alloc wS.drew (.cells #[.slice none 0 0, .string ⟨#[]⟩, .bool false] tAns)
          obtain ⟨wT, hwT⟩ : ∃ wT, wS.drew.alloc (.cells #[.slice none 0 0, .string ⟨#[]⟩, .bool false] tAns) = wT := ⟨_, rfl⟩
          have HWT := Lib.hid hwT
          rw [hwT] at hba hna
          have hUT : Nw wA wT := HN.out.trans (hd0.trans hna)
          have HUT := Lib.hid hUT
          have hS7 := HSS.out wT hUT
          go_simp
          (try rw [HWT.out])
          refine hK.out _ _ ⟨fun _ => trivial, hS7⟩ ?_
          clear hK K
          (try simp only [Act.put, List.setIfInBounds_toArray, List.set_cons_zero, List.set_cons_succ])
          refine wpAnyH_one (i := 8) (by kernel_rfl) rfl (fun K hK => ?_)
          have hCC := HCA.out wT hUT
          go_simp
          (with_reducible refine (hCC).mono ?_)
          rintro _ w6 ⟨va, rfl, oa, u6⟩
          have hS6 := HSS.out w6 (HUT.out.trans u6)
          refine hK.out _ _ ⟨fun _ => trivial, hS6⟩ ?_
          clear hK K
          (try simp only [Act.put, List.setIfInBounds_toArray, List.set_cons_zero, List.set_cons_succ])
          have hb6 : w6.heap[wS.heap.size]? = some (.cells #[.slice none 0 0, .string ⟨#[]⟩, .bool false] tAns) := Nw.keep u6 hba
          have hsT : wA.heap.size ≤ wT.heap.size := HUT.out.size
          have HO := Lib.hid (owns_base oa hsT)
          obtain ⟨va1, va2, eva⟩ := own_slG oa
          subst eva
          have q1 : Upd (fun k => k = wS.heap.size) w6 (((w6.setCell ⟨wS.heap.size, 0, none⟩ (.slice va1 A.claims.length va2)).setCell ⟨wS.heap.size, 1, none⟩ (.string ⟨A.text.toArray⟩)).setCell ⟨wS.heap.size, 2, none⟩ (.bool A.has)) := Upd.set1 (Upd.set1 (Upd.set1 (Upd.refl _ _) (by omega) 0 _) (by omega) 1 _) (by omega) 2 _
          have HZ : Hid (AnB wA (((w6.setCell ⟨wS.heap.size, 0, none⟩ (.slice va1 A.claims.length va2)).setCell ⟨wS.heap.size, 1, none⟩ (.string ⟨A.text.toArray⟩)).setCell ⟨wS.heap.size, 2, none⟩ (.bool A.has)) wS.heap.size (.slice va1 A.claims.length va2) A) := by
            refine ⟨(HUT.out.trans u6).trans' q1 (fun k hk e => by omega), set3 hb6, owns_upd' HO.out q1 (fun k hk e => ?_)⟩
            obtain ⟨_, cs, x1⟩ := own_block HO.out hk
            subst e
            rw [hb6] at x1
            injection x1 with x1
            injection x1 with _ x1
            exact absurd x1 (by decide)
          have hS8 := HSS.out _ HZ.out.nw
          have b0 := cells_frozen hb6 0
          have b1 := cells_frozen hb6 1
          have b2 := cells_frozen hb6 2
          obtain ⟨_, _, _⟩ := cell3 hb6
          clear hCC oa u6 hS6 q1 hb6 hba hna hwT hUT hS7 hS
          refine wpAnyH_one (i := 10) (by kernel_rfl) rfl (fun K hK => ?_)
          go_simp
          refine hK.out _ _ ⟨fun _ => trivial, hS8⟩ ?_
          clear hK K
          (try simp only [Act.put, List.setIfInBounds_toArray, List.set_cons_zero, List.set_cons_succ])
          refine wpAnyH_done (by kernel_rfl) ?_ _
          go_wp2_with fail
          go_meet
          exact ⟨_, _, rfl, HZ.out⟩
        --}DONE
      case rest =>
      obtain ⟨bA, va, rfl, HAB⟩ := hcut
      obtain ⟨wX, rfl⟩ : ∃ w, w = wc := ⟨_, rfl⟩
      obtain ⟨va1, va2, eva⟩ := own_slG HAB.out.row
      subst eva
      have HKX : Hid (Nw wA wX) := HAB.out.nw
      obtain ⟨rq, erq, hrq⟩ := HRING.out wX HKX.out
      have hvw := view_once (key := key) hrq (HGK.out wX HKX.out) HK2.out
      rw [erq] at hvw
      have HVW := Lib.hid hvw
      have HBC : Hid (∀ z, Nw wX z → z.cell? ⟨bA, 0, none⟩ = some (.slice va1 A.claims.length va2) ∧ z.cell? ⟨bA, 1, none⟩ = some (.string ⟨A.text.toArray⟩) ∧ z.cell? ⟨bA, 2, none⟩ = some (.bool A.has)) := fun z u => cell3 (Nw.keep u HAB.out.blk)
      have HTOLD : Hid (∀ c ∈ A.claims, SgnOk c ∧ decide ((Vw.accept Lr key [] c).1 = 0) = decide (m.mode ≠ 4)) := fun c hc => HTOLDq.out q c (by rw [HAE.out]; exact hc)
      obtain ⟨S, hS'⟩ : ∃ S, Mi.claimsN m (Q.take nn) = S := ⟨_, rfl⟩
      obtain ⟨T, hT'⟩ : ∃ T, Mi.textsN m (Q.take nn) = T := ⟨_, rfl⟩
      rw [hS'] at hcn1 hcn
      rw [hT'] at htn1 htn
      rw [hS', hT']
      have HCN := Lib.hid hcn1
      have HTN := Lib.hid htn1
      have hST : (S : Int) ≤ 96 ∧ (T : Int) ≤ 96 := by omega
      obtain ⟨hS96, hT96⟩ := hST
      have hb0 := (HBC.out wX (Upd.refl _ _)).1
      have hclI : ¬ ((1 : Int) < (A.claims.length : Int)) := by omega
      clear hvw hrq erq hcn1 htn1 hS' hT' hS
      go_wp2_with fail
      (with_reducible refine (HVW.out).mono ?_)
      rintro _ w7 ⟨vb, rfl, u7, hacc⟩
      have HACC := Lib.hid hacc
      have HU7 := Lib.hid u7
      have hb7 := (HBC.out w7 u7).1
      have hL6 : Hid (ZeroNw 0 w7 w7 ∧ Nw wX w7) := ⟨fun _ => Upd.refl _ _, u7⟩
      clear HVW hacc u7 hb0
      go_wp2_with fail
      go_loopw [25, 30] (fun cv kv wr => ∃ k : Nat, k ≤ A.claims.length ∧ kv = .int .i64 (k : Int) ∧ cv = .int .i64 ((S : Int) + (k : Int)) ∧ Hid (ZeroNw k w7 wr ∧ Nw wX wr)) (fun _ kv _ => 2 - (intOf kv).toNat)
      case atStart => exact ⟨0, Nat.zero_le _, rfl, by simp, hL6.out⟩
      case round =>
        obtain ⟨k, hk, rfl, rfl, HK6⟩ := hrel
        have hbr := (HBC.out wr HK6.out.2).1
        obtain ⟨wY, rfl⟩ : ∃ w, w = wr := ⟨_, rfl⟩
        by_cases hk6 : k < A.claims.length
        · have hk7 : (k : Int) < (A.claims.length : Int) := by omega
          obtain rfl : k = 0 := by omega
          have hl1 : A.claims.length = 1 := by omega
          obtain ⟨c, hc⟩ := List.length_eq_one_iff.1 hl1
          have hrow := HAB.out.row
          rw [hl1, hc] at hrow
          obtain ⟨cg, eg, -, -, ⟨d0, d1, d2⟩, -, -⟩ := own_forge hrow HGA.out
          subst eg
          obtain ⟨hso, hac0⟩ := HTOLD.out c (by rw [hc]; exact List.mem_singleton.2 rfl)
          have hacw := HACC.out wY.drew ((HK6.out.1 rfl).trans (Upd.refl _ wY).drew) c hso
          obtain ⟨E, hE⟩ : ∃ E, (Vw.accept Lr key [] c).1 = E := ⟨_, rfl⟩
          rw [hE] at hacw hac0
          have HAW := Lib.hid hacw
          have HSS6 : Hid (∀ z, Nw wX z → z.cell? ⟨bA, 0, none⟩ = some (.slice (some ⟨cg, 0, none⟩) 1 va2) ∧ (z.cell? ⟨cg, 0, none⟩ = some (.int .i64 c.key) ∧ z.cell? ⟨cg, 1, none⟩ = some (.string ⟨c.text.toArray⟩) ∧ z.cell? ⟨cg, 2, none⟩ = some (.int .i64 c.mark)) ∧ z.cell? ⟨kb, ko + i, none⟩ = some (.int .i64 m.mode)) := fun z u => by
            refine ⟨?_, ⟨later_cell ⟨z, u⟩ d0, later_cell ⟨z, u⟩ d1, later_cell ⟨z, u⟩ d2⟩, HPM.out z (HAB.out.nw.trans u)⟩
            have := (HBC.out z u).1
            rw [hl1] at this
            exact this
          have hS6 := HSS6.out wY.drew (HK6.out.2.trans (Upd.refl _ wY).drew)
          rw [hl1] at hbr hk7
          have hbrc := hbr
          have HL1 := Lib.hid hl1
          clear hrow d0 d1 d2 hso hacw hE hk6 hl1 hc
          by_cases hm4 : m.mode = 4
          · have hx1 : (m.mode != 4) = false := by simp [hm4]
            have hx2 : (E == 0) = false := by
              rw [show decide (m.mode ≠ 4) = false by simp [hm4]] at hac0
              simpa using hac0
            clear hm4 hac0
            go_upto_region 40 with fail
            refine wp_region_H 6 (fun _ => True) (fun z => z.cell? ⟨bA, 0, none⟩ = some (.slice (some ⟨cg, 0, none⟩) 1 va2) ∧ (z.cell? ⟨cg, 0, none⟩ = some (.int .i64 c.key) ∧ z.cell? ⟨cg, 1, none⟩ = some (.string ⟨c.text.toArray⟩) ∧ z.cell? ⟨cg, 2, none⟩ = some (.int .i64 c.mark)) ∧ z.cell? ⟨kb, ko + i, none⟩ = some (.int .i64 m.mode)) (by kernel_rfl) ?_
            refine wpAnyH_pure (i := 0) (v := ?_) rfl (by kernel_rfl) (by kernel_rfl) (by kernel_rfl) (by kernel_rfl) (by kernel_rfl) (fun _ _ _ h => h) (by rfl) ?_ (⟨fun _ => trivial, hS6⟩) ?_
            rotate_left 1
            · (intro zz; go_simp; first | done | with_reducible rfl)
            (try simp only [Act.put, List.setIfInBounds_toArray, List.set_cons_zero, List.set_cons_succ])
            refine wpAnyH_pure (i := 1) (v := ?_) rfl (by kernel_rfl) (by kernel_rfl) (by kernel_rfl) (by kernel_rfl) (by kernel_rfl) (fun _ _ _ h => h) (by rfl) ?_ (⟨fun _ => trivial, hS6⟩) ?_
            rotate_left 1
            · (intro zz; go_simp; first | done | with_reducible rfl)
            (try simp only [Act.put, List.setIfInBounds_toArray, List.set_cons_zero, List.set_cons_succ])
            refine wpAnyH_load2 (i := 2) (v := ?_) rfl (by kernel_rfl) (by kernel_rfl) (by kernel_rfl) (by kernel_rfl) (by kernel_rfl) (fun _ _ _ h => h) (by rfl) ?_ (⟨fun _ => trivial, hS6⟩) ?_
            rotate_left 1
            · (intro zz hS2; obtain ⟨_, ⟨_, _, _⟩, _⟩ := hS2; go_simp; first | done | with_reducible rfl)
            (try simp only [Act.put, List.setIfInBounds_toArray, List.set_cons_zero, List.set_cons_succ])
            refine wpAnyH_pure (i := 3) (v := ?_) rfl (by kernel_rfl) (by kernel_rfl) (by kernel_rfl) (by kernel_rfl) (by kernel_rfl) (fun _ _ _ h => h) (by rfl) ?_ (⟨fun _ => trivial, hS6⟩) ?_
            rotate_left 1
            · (intro zz; go_simp; first | done | with_reducible rfl)
            (try simp only [Act.put, List.setIfInBounds_toArray, List.set_cons_zero, List.set_cons_succ])
            refine wpAnyH_pure (i := 4) (v := ?_) rfl (by kernel_rfl) (by kernel_rfl) (by kernel_rfl) (by kernel_rfl) (by kernel_rfl) (fun _ _ _ h => h) (by rfl) ?_ (⟨fun _ => trivial, hS6⟩) ?_
            rotate_left 1
            · (intro zz; go_simp; first | done | with_reducible rfl)
            (try simp only [Act.put, List.setIfInBounds_toArray, List.set_cons_zero, List.set_cons_succ])
            refine wpAnyH_load2 (i := 5) (v := ?_) rfl (by kernel_rfl) (by kernel_rfl) (by kernel_rfl) (by kernel_rfl) (by kernel_rfl) (fun _ _ _ h => h) (by rfl) ?_ (⟨fun _ => trivial, hS6⟩) ?_
            rotate_left 1
            · (intro zz hS2; obtain ⟨_, ⟨_, _, _⟩, _⟩ := hS2; go_simp; first | done | with_reducible rfl)
            (try simp only [Act.put, List.setIfInBounds_toArray, List.set_cons_zero, List.set_cons_succ])
            refine wpAnyH_pure (i := 8) (v := ?_) rfl (by kernel_rfl) (by kernel_rfl) (by kernel_rfl) (by kernel_rfl) (by kernel_rfl) (fun _ _ _ h => h) (by rfl) ?_ (⟨fun _ => trivial, hS6⟩) ?_
            rotate_left 1
            · (intro zz; go_simp; first | done | with_reducible rfl)
            (try simp only [Act.put, List.setIfInBounds_toArray, List.set_cons_zero, List.set_cons_succ])
            refine wpAnyH_pure (i := 9) (v := ?_) rfl (by kernel_rfl) (by kernel_rfl) (by kernel_rfl) (by kernel_rfl) (by kernel_rfl) (fun _ _ _ h => h) (by rfl) ?_ (⟨fun _ => trivial, hS6⟩) ?_
            rotate_left 1
            · (intro zz; go_simp; first | done | with_reducible rfl)
            (try simp only [Act.put, List.setIfInBounds_toArray, List.set_cons_zero, List.set_cons_succ])
            refine wpAnyH_pure (i := 10) (v := ?_) rfl (by kernel_rfl) (by kernel_rfl) (by kernel_rfl) (by kernel_rfl) (by kernel_rfl) (fun _ _ _ h => h) (by rfl) ?_ (⟨fun _ => trivial, hS6⟩) ?_
            rotate_left 1
            · (intro zz; go_simp; first | done | with_reducible rfl)
            (try simp only [Act.put, List.setIfInBounds_toArray, List.set_cons_zero, List.set_cons_succ])
            refine wpAnyH_load2 (i := 11) (v := ?_) rfl (by kernel_rfl) (by kernel_rfl) (by kernel_rfl) (by kernel_rfl) (by kernel_rfl) (fun _ _ _ h => h) (by rfl) ?_ (⟨fun _ => trivial, hS6⟩) ?_
            rotate_left 1
            · (intro zz hS2; obtain ⟨_, ⟨_, _, _⟩, _⟩ := hS2; go_simp; first | done | with_reducible rfl)
            (try simp only [Act.put, List.setIfInBounds_toArray, List.set_cons_zero, List.set_cons_succ])
            refine wpAnyH_pure (i := 12) (v := ?_) rfl (by kernel_rfl) (by kernel_rfl) (by kernel_rfl) (by kernel_rfl) (by kernel_rfl) (fun _ _ _ h => h) (by rfl) ?_ (⟨fun _ => trivial, hS6⟩) ?_
            rotate_left 1
            · (intro zz; go_simp; first | done | with_reducible rfl)
            (try simp only [Act.put, List.setIfInBounds_toArray, List.set_cons_zero, List.set_cons_succ])
            refine wpAnyH_one (i := 6) (by kernel_rfl) rfl (fun K hK => ?_)
            have hAW := HAW.out
            go_simp
            (with_reducible refine (hAW).mono ?_)
            rintro _ w8 ⟨rfl, -, u8⟩
            have hS8 := HSS6.out w8 u8
            refine hK.out _ _ ⟨fun _ => trivial, hS8⟩ ?_
            clear hK K
            (try simp only [Act.put, List.setIfInBounds_toArray, List.set_cons_zero, List.set_cons_succ])
            clear hAW
            have hz : Hid (ZeroNw 1 w7 w8 ∧ Nw wX w8) := ⟨fun e => absurd e (by decide), u8⟩
            refine wpAnyH_pure (i := 7) (v := ?_) rfl (by kernel_rfl) (by kernel_rfl) (by kernel_rfl) (by kernel_rfl) (by kernel_rfl) (fun _ _ _ h => h) (by rfl) ?_ (⟨fun _ => trivial, hS8⟩) ?_
            rotate_left 1
            · (intro zz; go_simp; first | done | with_reducible rfl)
            (try simp only [Act.put, List.setIfInBounds_toArray, List.set_cons_zero, List.set_cons_succ])
            refine wpAnyH_pure (i := 13) (v := ?_) rfl (by kernel_rfl) (by kernel_rfl) (by kernel_rfl) (by kernel_rfl) (by kernel_rfl) (fun _ _ _ h => h) (by rfl) ?_ (⟨fun _ => trivial, hS8⟩) ?_
            rotate_left 1
            · (intro zz; go_simp; first | done | with_reducible rfl)
            (try simp only [Act.put, List.setIfInBounds_toArray, List.set_cons_zero, List.set_cons_succ])
            refine wpAnyH_done (by kernel_rfl) ?_ _
            clear hS8 hS6 u8
            go_wp2_with fail
            go_roundw
            case rel => exact ⟨1, by have := HL1.out; omega, by go_num, by go_num, hz.out⟩
            case measure => simp [intOf]
          · have hx1 : (m.mode != 4) = true := by simp [hm4]
            have hx2 : (E == 0) = true := by
              rw [show decide (m.mode ≠ 4) = true by simp [hm4]] at hac0
              simpa using hac0
            clear hm4 hac0
            go_upto_region 40 with fail
            refine wp_region_H 6 (fun _ => True) (fun z => z.cell? ⟨bA, 0, none⟩ = some (.slice (some ⟨cg, 0, none⟩) 1 va2) ∧ (z.cell? ⟨cg, 0, none⟩ = some (.int .i64 c.key) ∧ z.cell? ⟨cg, 1, none⟩ = some (.string ⟨c.text.toArray⟩) ∧ z.cell? ⟨cg, 2, none⟩ = some (.int .i64 c.mark)) ∧ z.cell? ⟨kb, ko + i, none⟩ = some (.int .i64 m.mode)) (by kernel_rfl) ?_
            refine wpAnyH_pure (i := 0) (v := ?_) rfl (by kernel_rfl) (by kernel_rfl) (by kernel_rfl) (by kernel_rfl) (by kernel_rfl) (fun _ _ _ h => h) (by rfl) ?_ (⟨fun _ => trivial, hS6⟩) ?_
            rotate_left 1
            · (intro zz; go_simp; first | done | with_reducible rfl)
            (try simp only [Act.put, List.setIfInBounds_toArray, List.set_cons_zero, List.set_cons_succ])
            refine wpAnyH_pure (i := 1) (v := ?_) rfl (by kernel_rfl) (by kernel_rfl) (by kernel_rfl) (by kernel_rfl) (by kernel_rfl) (fun _ _ _ h => h) (by rfl) ?_ (⟨fun _ => trivial, hS6⟩) ?_
            rotate_left 1
            · (intro zz; go_simp; first | done | with_reducible rfl)
            (try simp only [Act.put, List.setIfInBounds_toArray, List.set_cons_zero, List.set_cons_succ])
            refine wpAnyH_load2 (i := 2) (v := ?_) rfl (by kernel_rfl) (by kernel_rfl) (by kernel_rfl) (by kernel_rfl) (by kernel_rfl) (fun _ _ _ h => h) (by rfl) ?_ (⟨fun _ => trivial, hS6⟩) ?_
            rotate_left 1
            · (intro zz hS2; obtain ⟨_, ⟨_, _, _⟩, _⟩ := hS2; go_simp; first | done | with_reducible rfl)
            (try simp only [Act.put, List.setIfInBounds_toArray, List.set_cons_zero, List.set_cons_succ])
            refine wpAnyH_pure (i := 3) (v := ?_) rfl (by kernel_rfl) (by kernel_rfl) (by kernel_rfl) (by kernel_rfl) (by kernel_rfl) (fun _ _ _ h => h) (by rfl) ?_ (⟨fun _ => trivial, hS6⟩) ?_
            rotate_left 1
            · (intro zz; go_simp; first | done | with_reducible rfl)
            (try simp only [Act.put, List.setIfInBounds_toArray, List.set_cons_zero, List.set_cons_succ])
            refine wpAnyH_pure (i := 4) (v := ?_) rfl (by kernel_rfl) (by kernel_rfl) (by kernel_rfl) (by kernel_rfl) (by kernel_rfl) (fun _ _ _ h => h) (by rfl) ?_ (⟨fun _ => trivial, hS6⟩) ?_
            rotate_left 1
            · (intro zz; go_simp; first | done | with_reducible rfl)
            (try simp only [Act.put, List.setIfInBounds_toArray, List.set_cons_zero, List.set_cons_succ])
            refine wpAnyH_load2 (i := 5) (v := ?_) rfl (by kernel_rfl) (by kernel_rfl) (by kernel_rfl) (by kernel_rfl) (by kernel_rfl) (fun _ _ _ h => h) (by rfl) ?_ (⟨fun _ => trivial, hS6⟩) ?_
            rotate_left 1
            · (intro zz hS2; obtain ⟨_, ⟨_, _, _⟩, _⟩ := hS2; go_simp; first | done | with_reducible rfl)
            (try simp only [Act.put, List.setIfInBounds_toArray, List.set_cons_zero, List.set_cons_succ])
            refine wpAnyH_pure (i := 8) (v := ?_) rfl (by kernel_rfl) (by kernel_rfl) (by kernel_rfl) (by kernel_rfl) (by kernel_rfl) (fun _ _ _ h => h) (by rfl) ?_ (⟨fun _ => trivial, hS6⟩) ?_
            rotate_left 1
            · (intro zz; go_simp; first | done | with_reducible rfl)
            (try simp only [Act.put, List.setIfInBounds_toArray, List.set_cons_zero, List.set_cons_succ])
            refine wpAnyH_pure (i := 9) (v := ?_) rfl (by kernel_rfl) (by kernel_rfl) (by kernel_rfl) (by kernel_rfl) (by kernel_rfl) (fun _ _ _ h => h) (by rfl) ?_ (⟨fun _ => trivial, hS6⟩) ?_
            rotate_left 1
            · (intro zz; go_simp; first | done | with_reducible rfl)
            (try simp only [Act.put, List.setIfInBounds_toArray, List.set_cons_zero, List.set_cons_succ])
            refine wpAnyH_pure (i := 10) (v := ?_) rfl (by kernel_rfl) (by kernel_rfl) (by kernel_rfl) (by kernel_rfl) (by kernel_rfl) (fun _ _ _ h => h) (by rfl) ?_ (⟨fun _ => trivial, hS6⟩) ?_
            rotate_left 1
            · (intro zz; go_simp; first | done | with_reducible rfl)
            (try simp only [Act.put, List.setIfInBounds_toArray, List.set_cons_zero, List.set_cons_succ])
            refine wpAnyH_load2 (i := 11) (v := ?_) rfl (by kernel_rfl) (by kernel_rfl) (by kernel_rfl) (by kernel_rfl) (by kernel_rfl) (fun _ _ _ h => h) (by rfl) ?_ (⟨fun _ => trivial, hS6⟩) ?_
            rotate_left 1
            · (intro zz hS2; obtain ⟨_, ⟨_, _, _⟩, _⟩ := hS2; go_simp; first | done | with_reducible rfl)
            (try simp only [Act.put, List.setIfInBounds_toArray, List.set_cons_zero, List.set_cons_succ])
            refine wpAnyH_pure (i := 12) (v := ?_) rfl (by kernel_rfl) (by kernel_rfl) (by kernel_rfl) (by kernel_rfl) (by kernel_rfl) (fun _ _ _ h => h) (by rfl) ?_ (⟨fun _ => trivial, hS6⟩) ?_
            rotate_left 1
            · (intro zz; go_simp; first | done | with_reducible rfl)
            (try simp only [Act.put, List.setIfInBounds_toArray, List.set_cons_zero, List.set_cons_succ])
            refine wpAnyH_one (i := 6) (by kernel_rfl) rfl (fun K hK => ?_)
            have hAW := HAW.out
            go_simp
            (with_reducible refine (hAW).mono ?_)
            rintro _ w8 ⟨rfl, -, u8⟩
            have hS8 := HSS6.out w8 u8
            refine hK.out _ _ ⟨fun _ => trivial, hS8⟩ ?_
            clear hK K
            (try simp only [Act.put, List.setIfInBounds_toArray, List.set_cons_zero, List.set_cons_succ])
            clear hAW
            have hz : Hid (ZeroNw 1 w7 w8 ∧ Nw wX w8) := ⟨fun e => absurd e (by decide), u8⟩
            refine wpAnyH_pure (i := 7) (v := ?_) rfl (by kernel_rfl) (by kernel_rfl) (by kernel_rfl) (by kernel_rfl) (by kernel_rfl) (fun _ _ _ h => h) (by rfl) ?_ (⟨fun _ => trivial, hS8⟩) ?_
            rotate_left 1
            · (intro zz; go_simp; first | done | with_reducible rfl)
            (try simp only [Act.put, List.setIfInBounds_toArray, List.set_cons_zero, List.set_cons_succ])
            refine wpAnyH_pure (i := 13) (v := ?_) rfl (by kernel_rfl) (by kernel_rfl) (by kernel_rfl) (by kernel_rfl) (by kernel_rfl) (fun _ _ _ h => h) (by rfl) ?_ (⟨fun _ => trivial, hS8⟩) ?_
            rotate_left 1
            · (intro zz; go_simp; first | done | with_reducible rfl)
            (try simp only [Act.put, List.setIfInBounds_toArray, List.set_cons_zero, List.set_cons_succ])
            refine wpAnyH_done (by kernel_rfl) ?_ _
            clear hS8 hS6 u8
            go_wp2_with fail
            go_roundw
            case rel => exact ⟨1, by have := HL1.out; omega, by go_num, by go_num, hz.out⟩
            case measure => simp [intOf]
        · obtain rfl : k = A.claims.length := by omega
          have HUY := Lib.hid HK6.out.2
          have HNY : Hid (Nw wA wY) := HAB.out.nw.trans HK6.out.2
          have e0 : ∀ t : Later wY, t.1.cell? ⟨bA, 0, none⟩ = some (.slice va1 A.claims.length va2) := fun t => (HBC.out t.1 (HUY.out.trans t.nw)).1
          have e1 : ∀ t : Later wY, t.1.cell? ⟨bA, 1, none⟩ = some (.string ⟨A.text.toArray⟩) := fun t => (HBC.out t.1 (HUY.out.trans t.nw)).2.1
          have e2 : ∀ t : Later wY, t.1.cell? ⟨bA, 2, none⟩ = some (.bool A.has) := fun t => (HBC.out t.1 (HUY.out.trans t.nw)).2.2
          have e3 : ∀ t : Later wY, t.1.cell? ⟨xb, xo + nn * 3, none⟩ = some (.int .i64 q.kind) := fun t => (HSS.out t.1 (HNY.out.trans t.nw)).2.1
          have e4 : ∀ t : Later wY, t.1.cell? ⟨xb, xo + nn * 3 + 1, none⟩ = some (.int .i64 q.n) := fun t => (HSS.out t.1 (HNY.out.trans t.nw)).2.2.1
          have e5 : ∀ t : Later wY, t.1.cell? ⟨xb, xo + nn * 3 + 2, none⟩ = some (.string ⟨q.text.toArray⟩) := fun t => (HSS.out t.1 (HNY.out.trans t.nw)).2.2.2
          have e6 : ∀ t : Later wY, t.1.cell? ⟨kb, ko + i, none⟩ = some (.int .i64 m.mode) := fun t => HPM.out t.1 (HNY.out.trans t.nw)
          have hAh := Mi.answer_has m q
          have hAt := Mi.answer_text m q
          rw [HAE.out] at hAh hAt
          have HCL : Hid (Mi.claimsN m (Q.take (nn + 1)) = S + A.claims.length ∧ A.claims.length ≤ 1) := ⟨HCN.out, by omega⟩
          have HNE : Hid (Nw wA wY) := HNY.out
          clear HK6
          cases hh : A.has with
          | false =>
            rw [hh] at hAt e2
            have hAt2 : A.text = [] := by simpa using hAt
            rw [hAt2] at e1
            have HT1 : Hid (Mi.textsN m (Q.take (nn + 1)) = T) := by show _ = _; rw [HTN.out, hh]; rfl
            clear hAt hAh hAt2
            go_wp2_with fail
            refine wp_region_nw (by kernel_rfl) (by kernel_rfl) ?_
            repeat (go_big_quiet_step ((fail)))
            refine wpQuiet_nil ?_
            intro w9 u9
            replace u9 := later_out u9
            have hz : Hid (Nw wA w9) := HNE.out.trans u9
            have c2 : w9.cell? ⟨bA, 2, none⟩ = some (.bool false) := e2 ⟨w9, u9⟩
            clear hbr u9 e0 e1 e2 e3 e4 e5 e6
            go_wp2_with fail
            go_roundw
            case rel => exact ⟨nn + 1, by omega, by go_num, by rw [HCL.out.1]; go_num, by rw [HT1.out], by rw [HCL.out.1]; have := HCL.out.2; omega, by rw [HT1.out]; omega, hz.out⟩
            case measure => simp [intOf]; omega
          | true =>
            rw [hh] at e2 hAh
            have hk3 : (q.kind == 3) = true := by
              have := hAh.symm
              rw [Bool.and_eq_true, decide_eq_true_eq] at this
              simp [this.1]
            have HT1 : Hid (Mi.textsN m (Q.take (nn + 1)) = T + 1) := by show _ = _; rw [HTN.out, hh]; rfl
            have hgen := HGENq.out q (by rw [HAE.out]; exact hh)
            rw [HAE.out] at hgen
            have hgen2 : Mi.genuine cs q ⟨A.claims, A.text, true⟩ = decide (m.mode ≠ 4) := by rw [← hh]; exact hgen
            have HGN := Lib.hid (fun t : Later wY => genuine_w _ _ (.slice la cs.length lc) cs q HQn.out (.slice va1 A.claims.length va2) A.text true A.claims t.1 (HGK.out t.1 (HNY.out.trans t.nw)) (Sl.of_owns (HOL.out t.1 (HNY.out.trans t.nw))) ⟨_, _, _, rfl⟩)
            rw [hgen2] at HGN
            clear hAt hAh hgen hgen2
            by_cases hm4 : m.mode = 4
            · have hx1 : (m.mode == 4) = true := by simp [hm4]
              rw [show decide (m.mode ≠ 4) = false by simp [hm4]] at HGN
              clear hm4
              go_wp2_with fail
              refine wp_region_nw (by kernel_rfl) (by kernel_rfl) ?_
              repeat (go_big_quiet_step (((go_at_call 16; exact later_call (HGN.out _)))))
              refine wpQuiet_nil ?_
              intro w9 u9
              replace u9 := later_out u9
              have hz : Hid (Nw wA w9) := HNE.out.trans u9
              have c2 : w9.cell? ⟨bA, 2, none⟩ = some (.bool true) := e2 ⟨w9, u9⟩
              clear hbr u9 e0 e1 e2 e3 e4 e5 e6 HGN
              go_wp2_with fail
              go_roundw
              case rel => exact ⟨nn + 1, by omega, by go_num, by rw [HCL.out.1]; go_num, by rw [HT1.out]; go_num, by rw [HCL.out.1]; have := HCL.out.2; omega, by rw [HT1.out]; omega, hz.out⟩
              case measure => simp [intOf]; omega
            · have hx1 : (m.mode == 4) = false := by simp [hm4]
              rw [show decide (m.mode ≠ 4) = true by simp [hm4]] at HGN
              clear hm4
              go_wp2_with fail
              refine wp_region_nw (by kernel_rfl) (by kernel_rfl) ?_
              repeat (go_big_quiet_step (((go_at_call 16; exact later_call (HGN.out _)))))
              refine wpQuiet_nil ?_
              intro w9 u9
              replace u9 := later_out u9
              have hz : Hid (Nw wA w9) := HNE.out.trans u9
              have c2 : w9.cell? ⟨bA, 2, none⟩ = some (.bool true) := e2 ⟨w9, u9⟩
              clear hbr u9 e0 e1 e2 e3 e4 e5 e6 HGN
              go_wp2_with fail
              go_roundw
              case rel => exact ⟨nn + 1, by omega, by go_num, by rw [HCL.out.1]; go_num, by rw [HT1.out]; go_num, by rw [HCL.out.1]; have := HCL.out.2; omega, by rw [HT1.out]; omega, hz.out⟩
              case measure => simp [intOf]; omega
    · obtain rfl : nn = Q.length := by omega
      rw [List.take_length] at hcn htn
      rw [List.take_length]
      have HCN2 := Lib.hid (And.intro hcn htn)
      clear hcn htn
      go_wp2_with fail
      exact HEX.out _ _ _ _ _ _ _ _ _ _ _ _ _ _ _ _ _ _ _ _ _ _ _ _ _ _ _ _ _ _ _ _ _ _ _ _ _ _ _ _ _ _ _ _ _ _ _ _ _ _ _ _ _ _ _ _ _ _ _ _ _ _ _ _ _ _ _ _ _ _ _ _ _ _ _ _ _ _ _ _ _ _ _ _ _ _ _ _ _ _ _ _ _ _ _ _ _ _ _ _ HN.out HCN2.out.1 HCN2.out.2
end Go.Proofs.YtagmlemlagbfkaaGreatDoor
