/- Chapter 37: acts that happen with the reference's ring, book and mirrors, beside other things that are kept. -/
import Derived.Test.YtagmlemlagbfkaaGreatDoorPkMTells23
import Derived.Test.YtagmlemlagbfkaaGreatDoorPkMTells35
import Derived.Test.YtagmlemlagbfkaaGreatDoorPkMTells37
import Derived.Test.YtagmlemlagbfkaaGreatDoorPkMTells38
namespace Go.Proofs.YtagmlemlagbfkaaGreatDoor
open Go.RowKit
set_option linter.unusedVariables false
set_option linter.unusedSimpArgs false
attribute [local irreducible] Calls

abbrev tQM : TypeId := 60
theorem infoQM : (Tryz.prog.info? tQM).map (fun i => (i.zero, i.size, i.bytes)) = some (some (.pointer none), 1, 8) := by kernel_rfl
/-- The reference's things behind others. -/
def cQ0 (B : Nat) (p : PlR) (s : Mi.PS) : Nat → Res
  | 0 => QRingC B p.rb s.L
  | 1 => QBookC B p.bb p.rb s.b
  | k + 2 => QMirC B (p.mbs k) (s.ms.getD k (Mi.fresh 0))
def cQl (B n0 : Nat) (cP : Nat → Res) (p : PlR) (s : Mi.PS) (i : Nat) : Res := if i < n0 then cP i else cQ0 B p s (i - n0)
structure QlV where
  av : Value
  lv : Value
  nv : Value
  L : AL
def FQl (F : Nat → Prop) (v : QlV) (j : Nat) : Prop := F j ∨ v.av.ownBlock = some j ∨ v.lv.ownBlock = some j ∨ v.nv.ownBlock = some j ∨ ∃ q ∈ v.L, q.1.ownBlock = some j
structure QlRows (B : Nat) (p : PlR) (s : Mi.PS) (v : QlV) (z : World) : Prop where
  oa : z.ownsRow B tQM 1 v.av s.ms.length (ptrsM p.mbs s.ms.length)
  ol : z.ownsRow B tStrM 1 v.lv s.cs.length (s.cs.map bsM)
  on : z.ownsRow B tAns 3 v.nv v.L.length (flatA v.L)
  oi : ∀ q ∈ v.L, z.ownsRow B tSigned 3 q.1 q.2.claims.length (flatS q.2.claims)
  eL : v.L.map (·.2) = s.an
/-- The reference's state of acts, behind the world z0 where they began. -/
structure QlI (W : World) (n0 : Nat) (cP : Nat → Res) (F : Nat → Prop) (z0 : World) (p : PlR) (s : Mi.PS) (v : QlV) (z : World) : Prop where
  fam : At W (n0 + (s.ms.length + 2)) (cQl W.heap.size n0 cP p s) (FQl F v) z
  rows : QlRows z0.heap.size p s v z
  mv : MovesN W F z0 z
section
variable {W : World} {n0 : Nat} {cP : Nat → Res} {F : Nat → Prop} {z0 z z' : World} {p : PlR} {s s' : Mi.PS} {v : QlV}
theorem cQl_lt (B : Nat) {i : Nat} (h : i < n0) : cQl B n0 cP p s i = cP i := if_pos h
theorem cQl_ge (B : Nat) (k : Nat) : cQl B n0 cP p s (n0 + k) = cQ0 B p s k := by
  unfold cQl
  rw [if_neg (by omega), show n0 + k - n0 = k by omega]
theorem QlRows.upd {B : Nat} {S : Nat → Prop} (h : QlRows B p s v z) (u : Upd S z z') (ha : ∀ k, v.av.ownBlock = some k → ¬ S k) (hl : ∀ k, v.lv.ownBlock = some k → ¬ S k) (hn : ∀ k, v.nv.ownBlock = some k → ¬ S k) (hi : ∀ q ∈ v.L, ∀ k, q.1.ownBlock = some k → ¬ S k) : QlRows B p s v z' :=
  ⟨owns_upd' h.oa u ha, owns_upd' h.ol u hl, owns_upd' h.on u hn, fun q hqm => owns_upd' (h.oi q hqm) u (hi q hqm), h.eL⟩
theorem QlRows.nw {B : Nat} (h : QlRows B p s v z) (u : Nw z z') : QlRows B p s v z' := h.upd u (fun _ _ e => e) (fun _ _ e => e) (fun _ _ e => e) (fun _ _ _ _ e => e)
theorem QlRows.moves {B : Nat} (h : QlRows B p s v z) (mv : MovesN W (FQl F v) z z') : QlRows B p s v z' :=
  h.upd mv (fun k hk e => e.1 (Or.inr (Or.inl hk))) (fun k hk e => e.1 (Or.inr (Or.inr (Or.inl hk)))) (fun k hk e => e.1 (Or.inr (Or.inr (Or.inr (Or.inl hk))))) (fun q hq k hk e => e.1 (Or.inr (Or.inr (Or.inr (Or.inr ⟨q, hq, hk⟩)))))
theorem QlRows.as {B : Nat} (h : QlRows B p s v z) (h1 : s'.ms.length = s.ms.length) (h2 : s'.cs = s.cs) (h3 : s'.an = s.an) : QlRows B p s' v z :=
  ⟨by rw [h1]; exact h.oa, by rw [h2]; exact h.ol, h.on, h.oi, h.eL.trans h3.symm⟩
theorem QlI.nw (h : QlI W n0 cP F z0 p s v z) (u : Nw z z') : QlI W n0 cP F z0 p s v z' := ⟨h.fam.nw u, h.rows.nw u, h.mv.trans (Nw.upd _ u)⟩
theorem QlI.gl (h : QlI W n0 cP F z0 p s v z) (g : Gl W) : Gl z := h.fam.gl g
/-- A call that turned the things. -/
theorem QlI.turn (h : QlI W n0 cP F z0 p s v z) (hs : s'.ms.length = s.ms.length) (hc : s'.cs = s.cs) (ha : s'.an = s.an) (fam : At W (n0 + (s.ms.length + 2)) (cQl W.heap.size n0 cP p s') (FQl F v) z') (mv : MovesN W (FQl F v) z z') : QlI W n0 cP F z0 p s' v z' :=
  ⟨by rw [hs]; exact fam, (h.rows.moves mv).as hs hc ha, h.mv.trans (mv.mono fun k _ e => ⟨fun f => e.1 (Or.inl f), e.2⟩)⟩
theorem cQl_ms (B : Nat) (h1 : s'.L = s.L) (h2 : s'.b = s.b) (h3 : s'.ms = s.ms) : cQl B n0 cP p s' = cQl B n0 cP p s := by
  funext i
  unfold cQl
  split
  · rfl
  · match i - n0 with
    | 0 => show QRingC B p.rb s'.L = _; rw [h1]; rfl
    | 1 => show QBookC B p.bb p.rb s'.b = _; rw [h2]; rfl
    | k + 2 => show QMirC B (p.mbs k) (s'.ms.getD k (Mi.fresh 0)) = _; rw [h3]; rfl
theorem QlI.old (h : QlI W n0 cP F z0 p s v z) (hF : ∀ j, F j → j < z0.heap.size) {k : Nat} {e : TypeId} {sz n : Nat} {x : Value} {xs : List Value} (o : z.ownsRow z0.heap.size e sz x n xs) (hk : x.ownBlock = some k) : ¬ F k := fun f => by
  have := (o.lt k hk).1
  have := hF k f
  omega
/-- Another list of contents, in new blocks. -/
theorem QlI.list (h : QlI W n0 cP F z0 p s v z) {lv' : Value} {cs' : List (List UInt8)} (u : Nw z z') (o : z'.ownsRow z.heap.size tStrM 1 lv' cs'.length (cs'.map bsM)) : QlI W n0 cP F z0 p { s with cs := cs' } { v with lv := lv' } z' := by
  have hz : z0.heap.size ≤ z.heap.size := h.mv.size
  refine ⟨?_, ⟨(h.rows.nw u).oa, owns_base o hz, (h.rows.nw u).on, (h.rows.nw u).oi, (h.rows.nw u).eL⟩, h.mv.trans (Nw.upd _ u)⟩
  refine At.keep (h.fam.same (fun i _ => by rw [cQl_ms (s := s) (s' := { s with cs := cs' }) _ rfl rfl rfl])) u (fun j hj => ?_)
  rcases hj with hj | hj | hj | hj | hj
  · exact Or.inl (Or.inl hj)
  · exact Or.inl (Or.inr (Or.inl hj))
  · exact Or.inr (o.lt j hj)
  · exact Or.inl (Or.inr (Or.inr (Or.inr (Or.inl hj))))
  · exact Or.inl (Or.inr (Or.inr (Or.inr (Or.inr hj))))
/-- An answer more. -/
theorem QlI.ans (h : QlI W n0 cP F z0 p s v z) (hF : ∀ j, F j → j < z0.heap.size) (hW : W.heap.size ≤ z0.heap.size) {zb : World} {nv' vi : Value} {a : Mi.Ans} (ub : Nw z zb) (oi : zb.ownsRow z0.heap.size tSigned 3 vi a.claims.length (flatS a.claims)) (hvi : ∀ k, vi.ownBlock = some k → z.heap.size ≤ k)
    (o : z'.ownsRow z0.heap.size tAns 3 nv' (v.L.length + 1) (flatA v.L ++ ansC (vi, a))) (u : Upd (fun k => v.nv.ownBlock = some k) zb z') (hb : ∀ k, nv'.ownBlock = some k → v.nv.ownBlock = some k ∨ zb.heap.size ≤ k) : QlI W n0 cP F z0 p { s with an := s.an ++ [a] } { v with nv := nv', L := v.L ++ [(vi, a)] } z' := by
  have hr := h.rows.nw ub
  have hz : z0.heap.size ≤ zb.heap.size := (h.mv.trans (Nw.upd _ ub)).size
  have hzb := ub.size
  have hzz := u.size
  refine ⟨?_, ⟨owns_upd' hr.oa u (fun k hk => own_ne hr.oa hr.on (by decide) hk), owns_upd' hr.ol u (fun k hk => own_ne hr.ol hr.on (by decide) hk), ?_, fun q hq => ?_, ?_⟩, ?_⟩
  · have hA : At W (n0 + (s.ms.length + 2)) (cQl W.heap.size n0 cP p { s with an := s.an ++ [a] }) (FQl F { v with L := v.L ++ [(vi, a)] }) zb := by
      refine At.keep (h.fam.same (fun i _ => by rw [cQl_ms (s := s) (s' := { s with an := s.an ++ [a] }) _ rfl rfl rfl])) ub (fun j hj => ?_)
      rcases hj with hj | hj | hj | hj | ⟨q, hq, hj⟩
      · exact Or.inl (Or.inl hj)
      · exact Or.inl (Or.inr (Or.inl hj))
      · exact Or.inl (Or.inr (Or.inr (Or.inl hj)))
      · exact Or.inl (Or.inr (Or.inr (Or.inr (Or.inl hj))))
      · rcases List.mem_append.1 hq with hq | hq
        · exact Or.inl (Or.inr (Or.inr (Or.inr (Or.inr ⟨q, hq, hj⟩))))
        · rw [List.mem_singleton.1 hq] at hj
          exact Or.inr ⟨hvi j hj, (oi.lt j hj).2⟩
    refine At.upd_keep hA u (fun k hk => Or.inl ⟨Or.inr (Or.inr (Or.inr (Or.inl hk))), by have := (hr.on.lt k hk).1; omega⟩) (fun j hj => ?_)
    rcases hj with hj | hj | hj | hj | hj
    · exact Or.inl (Or.inl hj)
    · exact Or.inl (Or.inr (Or.inl hj))
    · exact Or.inl (Or.inr (Or.inr (Or.inl hj)))
    · rcases hb j hj with e | e
      · exact Or.inl (Or.inr (Or.inr (Or.inr (Or.inl e))))
      · exact Or.inr ⟨e, (o.lt j hj).2⟩
    · exact Or.inl (Or.inr (Or.inr (Or.inr (Or.inr hj))))
  · rw [List.length_append, flatA_snoc]; exact o
  · rcases List.mem_append.1 hq with hq | hq
    · exact owns_upd' (hr.oi q hq) u (fun k hk => own_ne (hr.oi q hq) hr.on (by decide) hk)
    · rw [List.mem_singleton.1 hq]
      exact owns_upd' oi u (fun k hk => own_ne oi hr.on (by decide) hk)
  · show (v.L ++ [(vi, a)]).map (·.2) = s.an ++ [a]
    rw [List.map_append, h.rows.eL]; rfl
  · exact (h.mv.trans (Nw.upd _ ub)).trans (u.mono fun k hk e => ⟨QlI.old (h.nw ub) hF hr.on e, by have := (hr.on.lt k e).1; omega⟩)
/-! ### The calls that acts make -/
theorem cQl_set0 {B : Nat} {L' : List Bk.Seal} {b' : Bk.Book} (h1 : s'.L = L') (h2 : s'.b = b') (h3 : s'.ms = s.ms) : cQl B n0 cP p s' = setC (setC (cQl B n0 cP p s) (n0 + 0) (QRingC B p.rb L')) (n0 + 1) (QBookC B p.bb p.rb b') := by
  funext i
  by_cases hi : i < n0
  · rw [setC_ne _ _ (by omega), setC_ne _ _ (by omega), cQl_lt _ hi, cQl_lt _ hi]
  · obtain ⟨k, rfl⟩ : ∃ k, i = n0 + k := ⟨i - n0, by omega⟩
    rw [cQl_ge]
    match k with
    | 0 => rw [setC_ne _ _ (by omega), setC_self, ← h1]; rfl
    | 1 => rw [setC_self, ← h2]; rfl
    | k + 2 => rw [setC_ne _ _ (by omega), setC_ne _ _ (by omega), cQl_ge]; show QMirC B (p.mbs k) (s'.ms.getD k (Mi.fresh 0)) = _; rw [h3]; rfl
theorem ql_append (h : QlI W n0 cP F z0 p s v z) (g : Gl W) (t : List UInt8) (ht : t.length ≤ 1000000) :
    Calls Tryz.prog 21 #[.pointer (some ⟨p.bb, 0, none⟩), .string ⟨t.toArray⟩] z fun e w' => e = .returned (.tuple #[.int .i64 (Bk.append s.b t).1.1, .int .i64 (Bk.append s.b t).1.2]) ∧ QlI W n0 cP F z0 p { s with b := (Bk.append s.b t).2 } v w' := by
  refine (at_qappend (r := n0 + 0) (i := n0 + 1) (qb := p.rb) (cb := p.bb) (Lr := s.L) (b := s.b) h.fam g (by omega) (by omega) (by omega) (cQl_ge _ 0) (cQl_ge _ 1) t ht).mono ?_
  rintro e w' ⟨he, ha, mv⟩
  refine ⟨he, h.turn rfl rfl rfl (ha.same fun i hi => ?_) mv⟩
  rw [cQl_set0 (s := s) (s' := { s with b := (Bk.append s.b t).2 }) (L' := s.L) rfl rfl rfl]
theorem cQl_get (B : Nat) {k : Nat} (hk : k < s.ms.length) : cQl B n0 cP p s (n0 + (k + 2)) = QMirC B (p.mbs k) s.ms[k] := by
  rw [cQl_ge]
  show QMirC B (p.mbs k) (s.ms.getD k (Mi.fresh 0)) = _
  rw [List.getD_eq_getElem?_getD, List.getElem?_eq_getElem hk]; rfl
theorem ql_mir (h : QlI W n0 cP F z0 p s v z) {k : Nat} (hk : k < s.ms.length) : ∃ x, x.mb = p.mbs k ∧ QMirAt W.heap.size z x s.ms[k] := at_qmirAt h.fam (by omega) (cQl_get _ hk)
theorem ql_feed (h : QlI W n0 cP F z0 p s v z) (g : Gl W) {k : Nat} (hk : k < s.ms.length) (name : List UInt8) (hnm : name.length ≤ 1000) (now : Int) (hn : I64 now) (hL : s.L.length ≤ 600000) (hl1 : (s.ms[k].l 1).length ≤ 1000) (hl2 : (s.ms[k].l 2).length ≤ 1000) (hcl : s.cs.length ≤ 1000 ∧ ∀ t ∈ s.cs, t.length ≤ 1000) {zs many : Nat} (hzs : z.heap.size = zs) (hmany : many = s.b.es.length) :
    Calls Tryz.prog 24 #[.pointer (some ⟨p.mbs k, 0, none⟩), .pointer (some ⟨p.bb, 0, none⟩), .int .i64 (many : Int), .slice (some ⟨zs, 0, none⟩) 1 1, v.lv, .int .i64 now] (z.alloc (.cells #[.string ⟨name.toArray⟩] tStrM)) fun e z' =>
      ∃ x, e = .returned x ∧ QlI W n0 cP F z0 p { s with L := (Mi.feed s.L s.b s.ms[k] [name] s.cs now).2.1, b := (Mi.feed s.L s.b s.ms[k] [name] s.cs now).2.2.1, ms := s.ms.set k (Mi.feed s.L s.b s.ms[k] [name] s.cs now).2.2.2, now := now } v z' := by
  subst hzs hmany
  have n1 := nw_alloc z (.cells #[.string ⟨name.toArray⟩] tStrM)
  have k1 := heap_new z (.cells #[.string ⟨name.toArray⟩] tStrM)
  have hi := h.nw n1
  generalize z.alloc (.cells #[.string ⟨name.toArray⟩] tStrM) = z1 at *
  have hk1 := lt_of_block k1
  have hW := h.fam.nw0.size
  have hA := At.keep h.fam (F' := fun j => FQl F v j ∨ j = z.heap.size) n1 (fun j hj => by
    rcases hj with hj | rfl
    · exact Or.inl hj
    · exact Or.inr ⟨Nat.le_refl _, hk1⟩)
  have hp : FdI.Ok ⟨n0 + (s.ms.length + 2), n0 + 0, n0 + 1, n0 + (k + 2), p.rb, p.bb, p.mbs k⟩ := ⟨by show n0 + 0 < n0 + (s.ms.length + 2); omega, by show n0 + 1 < n0 + (s.ms.length + 2); omega, by show n0 + (k + 2) < n0 + (s.ms.length + 2); omega, by show n0 + 0 ≠ n0 + 1; omega, by show n0 + 0 ≠ n0 + (k + 2); omega, by show n0 + 1 ≠ n0 + (k + 2); omega⟩
  have e3 : c3q W.heap.size ⟨n0 + (s.ms.length + 2), n0 + 0, n0 + 1, n0 + (k + 2), p.rb, p.bb, p.mbs k⟩ (cQl W.heap.size n0 cP p s) s.L s.b s.ms[k] = cQl W.heap.size n0 cP p s := c3q_self (cQl_ge _ 0) (cQl_ge _ 1) (cQl_get _ hk)
  refine (feed_q hp (F := fun j => FQl F v j ∨ j = z.heap.size) (c := cQl W.heap.size n0 cP p s) (by rw [e3]; exact hA) g [name] s.cs now hn (by simp; omega) (by omega) (by simp; omega) ⟨by omega, fun t ht => by have := hcl.2 t ht; omega⟩ (fun t ht => by rw [List.mem_singleton.1 ht]; omega) (.slice (some ⟨z.heap.size, 0, none⟩) 1 1) v.lv z0.heap.size
    (fun z' mv => ⟨_, _, Sl.of_owns (own_lit1 (B := z.heap.size) (t := name) (mv.keep k1 (fun e => e.1 (Or.inr rfl))) (Nat.le_refl _))⟩)
    (fun z' mv => owns_upd' hi.rows.ol mv (fun j hj e => e.1 (Or.inl (Or.inr (Or.inr (Or.inl hj))))))).mono ?_
  rintro e z' ⟨he, ha, mv⟩
  have mv2 : MovesN W (FQl F v) z1 z' := mv.mono (fun j _ e => ⟨fun f => e.1 (Or.inl f), e.2⟩)
  refine ⟨_, he, hi.turn (by simp) rfl rfl ((ha.less (fun j hj => Or.inl hj)).same fun i hi => ?_) mv2⟩
  by_cases hin : i < n0
  · rw [cQl_lt _ hin]
    unfold c3q
    rw [setC_ne _ _ (by show i ≠ n0 + (k + 2); omega), setC_ne _ _ (by show i ≠ n0 + 1; omega), setC_ne _ _ (by show i ≠ n0 + 0; omega), cQl_lt _ hin]
  · obtain ⟨j, rfl⟩ : ∃ j, i = n0 + j := ⟨i - n0, by omega⟩
    rw [cQl_ge]
    match j, hi with
    | 0, _ =>
      unfold c3q
      rw [setC_ne _ _ (by show n0 + 0 ≠ n0 + (k + 2); omega), setC_ne _ _ (by show n0 + 0 ≠ n0 + 1; omega), setC_self]
      rfl
    | 1, _ =>
      unfold c3q
      rw [setC_ne _ _ (by show n0 + 1 ≠ n0 + (k + 2); omega), setC_self]
      rfl
    | j + 2, hj =>
      by_cases hjk : j = k
      · subst hjk
        have : j < (s.ms.set j (Mi.feed s.L s.b s.ms[j] [name] s.cs now).2.2.2).length := by rw [List.length_set]; exact hk
        show QMirC W.heap.size (p.mbs j) ((s.ms.set j (Mi.feed s.L s.b s.ms[j] [name] s.cs now).2.2.2).getD j (Mi.fresh 0)) = _
        rw [List.getD_eq_getElem?_getD, List.getElem?_eq_getElem this, List.getElem_set_self]
        unfold c3q
        rw [setC_self]
        rfl
      · show QMirC W.heap.size (p.mbs j) ((s.ms.set k (Mi.feed s.L s.b s.ms[k] [name] s.cs now).2.2.2).getD j (Mi.fresh 0)) = _
        rw [List.getD_eq_getElem?_getD, List.getElem?_set_ne (fun e => hjk e.symm)]
        unfold c3q
        rw [setC_ne _ _ (by show n0 + (j + 2) ≠ n0 + (k + 2); omega), setC_ne _ _ (by show n0 + (j + 2) ≠ n0 + 1; omega), setC_ne _ _ (by show n0 + (j + 2) ≠ n0 + 0; omega), cQl_ge]
        rfl
theorem ql_answer (h : QlI W n0 cP F z0 p s v z) (g : Gl W) {k : Nat} (hk : k < s.ms.length) (hrd : ∀ c ∈ s.ms[k].l 2, (Cl.read c.text).2 = true) (q : Mi.Ques) (hq : QOk q) : Calls Tryz.prog 25 #[.pointer (some ⟨p.mbs k, 0, none⟩), qV q] z fun e w' =>
    ∃ vi, e = .returned (.agg #[vi, .string ⟨(Mi.answer s.ms[k] q).text.toArray⟩, .bool (Mi.answer s.ms[k] q).has]) ∧ w'.ownsRow z.heap.size tSigned 3 vi (Mi.answer s.ms[k] q).claims.length (flatS (Mi.answer s.ms[k] q).claims) ∧ Nw z w' := by
  obtain ⟨x, e1, hx⟩ := ql_mir h hk
  rw [← e1]
  exact answer_q hx (h.gl g) q hq hrd
/-- A thing that lies in blocks that are kept is taken up. -/
theorem At.adopt {N : Nat} {c : Nat → Res} (h : At W N c F z) {P : Res} {f' : Nat → Prop} (hP : Stab W.heap.size P) (hp : P f' z) (hf : ∀ j, f' j → F j) : At W (N + 1) (setC c N P) (fun j => F j ∧ ¬ f' j) z := by
  obtain ⟨f, a, b, d, e, k⟩ := h
  refine ⟨setP f N f', a, fun i hi => ?_, fun i hi => ?_, fun i l hi hl hil j hj => ?_, fun j hj => ⟨(k j hj.1).1, fun i hi => ?_⟩⟩
  · by_cases hN : i = N
    · rw [hN, setC_self]; exact hP
    · rw [setC_ne _ _ hN]; exact b i (by omega)
  · by_cases hN : i = N
    · rw [hN, setC_self, setP_pos rfl]; exact hp
    · rw [setC_ne _ _ hN, setP_neg hN]; exact d i (by omega)
  · by_cases hN : i = N
    · rw [setP_pos hN] at hj
      rw [setP_neg (fun e => hil (hN.trans e.symm))]
      exact (k j (hf j hj)).2 l (by omega)
    · rw [setP_neg hN] at hj
      by_cases hN2 : l = N
      · rw [setP_pos hN2]
        exact fun s => (k j (hf j s)).2 i (by omega) hj
      · rw [setP_neg hN2]
        exact e i l (by omega) (by omega) hil j hj
  · by_cases hN : i = N
    · rw [setP_pos hN]; exact hj.2
    · rw [setP_neg hN]; exact (k j hj.1).2 i (by omega)
end
end Go.Proofs.YtagmlemlagbfkaaGreatDoor
