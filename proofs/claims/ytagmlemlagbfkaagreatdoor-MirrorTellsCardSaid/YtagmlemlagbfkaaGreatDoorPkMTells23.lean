/- Chapter 37: acts that happen with a ring, a book and mirrors in memory: the state, and what turns it. Chapter 37: the calls that acts make. The contract of played (chapter 37). The contract of played (chapter 37): the walk. Chapter 37: a view beside what acts left; what it is asked; one mirror more. -/
import Derived.Test.YtagmlemlagbfkaaGreatDoorPkMTells20
import Derived.Test.YtagmlemlagbfkaaGreatDoorPkMTells14
import Derived.Test.YtagmlemlagbfkaaGreatDoorPkMTells21
import Derived.Test.YtagmlemlagbfkaaGreatDoorPkMTells22
namespace Go.Proofs.YtagmlemlagbfkaaGreatDoor
open Go.RowKit
set_option linter.unusedVariables false
set_option linter.unusedSimpArgs false
attribute [local irreducible] Calls

abbrev tPM : TypeId := 36
theorem infoPM : (Tryz.prog.info? tPM).map (fun i => (i.zero, i.size, i.bytes)) = some (some (.pointer none), 1, 8) := by kernel_rfl
theorem infoAns : (Tryz.prog.info? tAns).map (fun i => (i.zero, i.size, i.bytes)) = some (some (.agg #[.slice none 0 0, .string ⟨#[]⟩, .bool false]), 3, 48) := by kernel_rfl
theorem infoQue : (Tryz.prog.info? tQue).map (fun i => (i.zero, i.size, i.bytes)) = some (some (.agg #[.int .i64 0, .int .i64 0, .string ⟨#[]⟩]), 3, 32) := by kernel_rfl
def ptrsM (f : Nat → Nat) (n : Nat) : List Value := (List.range n).map fun i => Value.pointer (some ⟨f i, 0, none⟩)
theorem ptrsM_succ (f : Nat → Nat) (n : Nat) : ptrsM f (n + 1) = ptrsM f n ++ [.pointer (some ⟨f n, 0, none⟩)] := by unfold ptrsM; rw [List.range_succ, List.map_append]; rfl
theorem ptrsM_len (f : Nat → Nat) (n : Nat) : (ptrsM f n).length = n := by unfold ptrsM; simp
theorem ptrsM_congr {f f' : Nat → Nat} {n : Nat} (h : ∀ i, i < n → f' i = f i) : ptrsM f' n = ptrsM f n := by
  unfold ptrsM
  refine List.map_congr_left fun i hi => ?_
  rw [h i (List.mem_range.1 hi)]
abbrev AL := List (Value × Mi.Ans)
def ansC (p : Value × Mi.Ans) : List Value := [p.1, .string ⟨p.2.text.toArray⟩, .bool p.2.has]
def flatA (L : AL) : List Value := (L.map ansC).flatten
theorem flatA_snoc (L : AL) (p : Value × Mi.Ans) : flatA (L ++ [p]) = flatA L ++ ansC p := by simp [flatA]
def queC (q : Mi.Ques) : List Value := [.int .i64 q.kind, .int .i64 q.n, .string ⟨q.text.toArray⟩]
def flatQ (L : List Mi.Ques) : List Value := (L.map queC).flatten
theorem flatQ_snoc (L : List Mi.Ques) (q : Mi.Ques) : flatQ (L ++ [q]) = flatQ L ++ queC q := by simp [flatQ]
structure PlR where
  rb : Nat
  bb : Nat
  mbs : Nat → Nat
def cPl (B : Nat) (p : PlR) (s : Mi.PS) : Nat → Res
  | 0 => RingC B p.rb s.L
  | 1 => BookC B p.bb p.rb s.b
  | k + 2 => MirC B (p.mbs k) (s.ms.getD k (Mi.fresh 0))
structure PlV where
  av : Value
  lv : Value
  nv : Value
  qv : Value
  L : AL
def FPl (F : Nat → Prop) (v : PlV) (j : Nat) : Prop := F j ∨ v.av.ownBlock = some j ∨ v.lv.ownBlock = some j ∨ v.nv.ownBlock = some j ∨ v.qv.ownBlock = some j ∨ ∃ q ∈ v.L, q.1.ownBlock = some j
structure PlRows (B : Nat) (p : PlR) (s : Mi.PS) (v : PlV) (z : World) : Prop where
  oa : z.ownsRow B tPM 1 v.av s.ms.length (ptrsM p.mbs s.ms.length)
  ol : z.ownsRow B tStrM 1 v.lv s.cs.length (s.cs.map bsM)
  on : z.ownsRow B tAns 3 v.nv v.L.length (flatA v.L)
  oi : ∀ q ∈ v.L, z.ownsRow B tSigned 3 q.1 q.2.claims.length (flatS q.2.claims)
  oq : z.ownsRow B tQue 3 v.qv s.qs.length (flatQ s.qs)
  eL : v.L.map (·.2) = s.an
/-- The state of acts, behind the world z0 where they began. -/
structure PlI (W : World) (F : Nat → Prop) (z0 : World) (p : PlR) (s : Mi.PS) (v : PlV) (z : World) : Prop where
  fam : At W (s.ms.length + 2) (cPl W.heap.size p s) (FPl F v) z
  rows : PlRows z0.heap.size p s v z
  mv : MovesN W F z0 z
section
variable {W : World} {F : Nat → Prop} {z0 z z' : World} {p : PlR} {s s' : Mi.PS} {v : PlV}
theorem own_ne {B B' sz sz' : Nat} {e e' : TypeId} {w : World} {v v' : Value} {n n' : Nat} {xs xs' : List Value} (h : w.ownsRow B e sz v n xs) (h' : w.ownsRow B' e' sz' v' n' xs') (hne : e ≠ e') {k : Nat} (hk : v.ownBlock = some k) : v'.ownBlock ≠ some k := fun e2 => by
  obtain ⟨_, cs, q1⟩ := own_block h hk
  obtain ⟨_, cs2, q2⟩ := own_block h' e2
  rw [q1] at q2
  injection q2 with q2
  injection q2 with _ q2
  exact hne q2
theorem PlRows.upd {B : Nat} {S : Nat → Prop} (h : PlRows B p s v z) (u : Upd S z z') (ha : ∀ k, v.av.ownBlock = some k → ¬ S k) (hl : ∀ k, v.lv.ownBlock = some k → ¬ S k) (hn : ∀ k, v.nv.ownBlock = some k → ¬ S k) (hq : ∀ k, v.qv.ownBlock = some k → ¬ S k) (hi : ∀ q ∈ v.L, ∀ k, q.1.ownBlock = some k → ¬ S k) : PlRows B p s v z' :=
  ⟨owns_upd' h.oa u ha, owns_upd' h.ol u hl, owns_upd' h.on u hn, fun q hqm => owns_upd' (h.oi q hqm) u (hi q hqm), owns_upd' h.oq u hq, h.eL⟩
theorem PlRows.nw {B : Nat} (h : PlRows B p s v z) (u : Nw z z') : PlRows B p s v z' := h.upd u (fun _ _ e => e) (fun _ _ e => e) (fun _ _ e => e) (fun _ _ e => e) (fun _ _ _ _ e => e)
theorem PlRows.moves {B : Nat} (h : PlRows B p s v z) (mv : MovesN W (FPl F v) z z') : PlRows B p s v z' :=
  h.upd mv (fun k hk e => e.1 (Or.inr (Or.inl hk))) (fun k hk e => e.1 (Or.inr (Or.inr (Or.inl hk)))) (fun k hk e => e.1 (Or.inr (Or.inr (Or.inr (Or.inl hk))))) (fun k hk e => e.1 (Or.inr (Or.inr (Or.inr (Or.inr (Or.inl hk)))))) (fun q hq k hk e => e.1 (Or.inr (Or.inr (Or.inr (Or.inr (Or.inr ⟨q, hq, hk⟩))))))
theorem PlRows.as {B : Nat} (h : PlRows B p s v z) (h1 : s'.ms.length = s.ms.length) (h2 : s'.cs = s.cs) (h3 : s'.an = s.an) (h4 : s'.qs = s.qs) : PlRows B p s' v z :=
  ⟨by rw [h1]; exact h.oa, by rw [h2]; exact h.ol, h.on, h.oi, by rw [h4]; exact h.oq, h.eL.trans h3.symm⟩
theorem PlI.nw (h : PlI W F z0 p s v z) (u : Nw z z') : PlI W F z0 p s v z' := ⟨h.fam.nw u, h.rows.nw u, h.mv.trans (Nw.upd _ u)⟩
theorem PlI.gl (h : PlI W F z0 p s v z) (g : Gl W) : Gl z := h.fam.gl g
/-- A call that turned the things. -/
theorem PlI.turn (h : PlI W F z0 p s v z) (hs : s'.ms.length = s.ms.length) (hc : s'.cs = s.cs) (ha : s'.an = s.an) (hq : s'.qs = s.qs) (fam : At W (s.ms.length + 2) (cPl W.heap.size p s') (FPl F v) z') (mv : MovesN W (FPl F v) z z') : PlI W F z0 p s' v z' :=
  ⟨by rw [hs]; exact fam, (h.rows.moves mv).as hs hc ha hq, h.mv.trans (mv.mono fun k _ e => ⟨fun f => e.1 (Or.inl f), e.2⟩)⟩
theorem cPl_ms (B : Nat) (p : PlR) (h1 : s'.L = s.L) (h2 : s'.b = s.b) (h3 : s'.ms = s.ms) : cPl B p s' = cPl B p s := by
  funext i
  match i with
  | 0 => show RingC B p.rb s'.L = _; rw [h1]; rfl
  | 1 => show BookC B p.bb p.rb s'.b = _; rw [h2]; rfl
  | k + 2 => show MirC B (p.mbs k) (s'.ms.getD k (Mi.fresh 0)) = _; rw [h3]; rfl
theorem PlI.old (h : PlI W F z0 p s v z) (hF : ∀ j, F j → j < z0.heap.size) {k B : Nat} {e : TypeId} {sz n : Nat} {x : Value} {xs : List Value} (o : z.ownsRow z0.heap.size e sz x n xs) (hk : x.ownBlock = some k) : ¬ F k := fun f => by
  have := (o.lt k hk).1
  have := hF k f
  omega
/-- Another list of contents, in new blocks. -/
theorem PlI.list (h : PlI W F z0 p s v z) {lv' : Value} {cs' : List (List UInt8)} (u : Nw z z') (o : z'.ownsRow z.heap.size tStrM 1 lv' cs'.length (cs'.map bsM)) : PlI W F z0 p { s with cs := cs' } { v with lv := lv' } z' := by
  have hz : z0.heap.size ≤ z.heap.size := h.mv.size
  refine ⟨?_, ⟨(h.rows.nw u).oa, owns_base o hz, (h.rows.nw u).on, (h.rows.nw u).oi, (h.rows.nw u).oq, (h.rows.nw u).eL⟩, h.mv.trans (Nw.upd _ u)⟩
  refine At.keep (h.fam.same (fun i _ => by rw [cPl_ms (s := s) (s' := { s with cs := cs' }) _ _ rfl rfl rfl])) u (fun j hj => ?_)
  rcases hj with hj | hj | hj | hj | hj | hj
  · exact Or.inl (Or.inl hj)
  · exact Or.inl (Or.inr (Or.inl hj))
  · exact Or.inr (o.lt j hj)
  · exact Or.inl (Or.inr (Or.inr (Or.inr (Or.inl hj))))
  · exact Or.inl (Or.inr (Or.inr (Or.inr (Or.inr (Or.inl hj)))))
  · exact Or.inl (Or.inr (Or.inr (Or.inr (Or.inr (Or.inr hj)))))
/-- An answer more. -/
theorem PlI.ans (h : PlI W F z0 p s v z) (hF : ∀ j, F j → j < z0.heap.size) (hW : W.heap.size ≤ z0.heap.size) {zb : World} {nv' vi : Value} {a : Mi.Ans} (ub : Nw z zb) (oi : zb.ownsRow z0.heap.size tSigned 3 vi a.claims.length (flatS a.claims)) (hvi : ∀ k, vi.ownBlock = some k → z.heap.size ≤ k)
    (o : z'.ownsRow z0.heap.size tAns 3 nv' (v.L.length + 1) (flatA v.L ++ ansC (vi, a))) (u : Upd (fun k => v.nv.ownBlock = some k) zb z') (hb : ∀ k, nv'.ownBlock = some k → v.nv.ownBlock = some k ∨ zb.heap.size ≤ k) : PlI W F z0 p { s with an := s.an ++ [a] } { v with nv := nv', L := v.L ++ [(vi, a)] } z' := by
  have hr := h.rows.nw ub
  have hz : z0.heap.size ≤ zb.heap.size := (h.mv.trans (Nw.upd _ ub)).size
  have hzb := ub.size
  have hzz := u.size
  refine ⟨?_, ⟨owns_upd' hr.oa u (fun k hk => own_ne hr.oa hr.on (by decide) hk), owns_upd' hr.ol u (fun k hk => own_ne hr.ol hr.on (by decide) hk), ?_, fun q hq => ?_, owns_upd' hr.oq u (fun k hk => own_ne hr.oq hr.on (by decide) hk), ?_⟩, ?_⟩
  · have hA : At W (s.ms.length + 2) (cPl W.heap.size p { s with an := s.an ++ [a] }) (FPl F { v with L := v.L ++ [(vi, a)] }) zb := by
      refine At.keep (h.fam.same (fun i _ => by rw [cPl_ms (s := s) (s' := { s with an := s.an ++ [a] }) _ _ rfl rfl rfl])) ub (fun j hj => ?_)
      rcases hj with hj | hj | hj | hj | hj | ⟨q, hq, hj⟩
      · exact Or.inl (Or.inl hj)
      · exact Or.inl (Or.inr (Or.inl hj))
      · exact Or.inl (Or.inr (Or.inr (Or.inl hj)))
      · exact Or.inl (Or.inr (Or.inr (Or.inr (Or.inl hj))))
      · exact Or.inl (Or.inr (Or.inr (Or.inr (Or.inr (Or.inl hj)))))
      · rcases List.mem_append.1 hq with hq | hq
        · exact Or.inl (Or.inr (Or.inr (Or.inr (Or.inr (Or.inr ⟨q, hq, hj⟩)))))
        · rw [List.mem_singleton.1 hq] at hj
          exact Or.inr ⟨hvi j hj, (oi.lt j hj).2⟩
    refine At.upd_keep hA u (fun k hk => Or.inl ⟨Or.inr (Or.inr (Or.inr (Or.inl hk))), by have := (hr.on.lt k hk).1; omega⟩) (fun j hj => ?_)
    rcases hj with hj | hj | hj | hj | hj | hj
    · exact Or.inl (Or.inl hj)
    · exact Or.inl (Or.inr (Or.inl hj))
    · exact Or.inl (Or.inr (Or.inr (Or.inl hj)))
    · rcases hb j hj with e | e
      · exact Or.inl (Or.inr (Or.inr (Or.inr (Or.inl e))))
      · exact Or.inr ⟨e, (o.lt j hj).2⟩
    · exact Or.inl (Or.inr (Or.inr (Or.inr (Or.inr (Or.inl hj)))))
    · exact Or.inl (Or.inr (Or.inr (Or.inr (Or.inr (Or.inr hj)))))
  · rw [List.length_append, flatA_snoc]; exact o
  · rcases List.mem_append.1 hq with hq | hq
    · exact owns_upd' (hr.oi q hq) u (fun k hk => own_ne (hr.oi q hq) hr.on (by decide) hk)
    · rw [List.mem_singleton.1 hq]
      exact owns_upd' oi u (fun k hk => own_ne oi hr.on (by decide) hk)
  · show (v.L ++ [(vi, a)]).map (·.2) = s.an ++ [a]
    rw [List.map_append, h.rows.eL]; rfl
  · exact (h.mv.trans (Nw.upd _ ub)).trans (u.mono fun k hk e => ⟨PlI.old (B := 0) (h.nw ub) hF hr.on e, by have := (hr.on.lt k e).1; omega⟩)
/-- A question more. -/
theorem PlI.ask (h : PlI W F z0 p s v z) (hF : ∀ j, F j → j < z0.heap.size) (hW : W.heap.size ≤ z0.heap.size) {qv' : Value} {q : Mi.Ques}
    (o : z'.ownsRow z0.heap.size tQue 3 qv' (s.qs.length + 1) (flatQ s.qs ++ queC q)) (u : Upd (fun k => v.qv.ownBlock = some k) z z') (hb : ∀ k, qv'.ownBlock = some k → v.qv.ownBlock = some k ∨ z.heap.size ≤ k) : PlI W F z0 p { s with qs := s.qs ++ [q] } { v with qv := qv' } z' := by
  have hr := h.rows
  refine ⟨?_, ⟨owns_upd' hr.oa u (fun k hk => own_ne hr.oa hr.oq (by decide) hk), owns_upd' hr.ol u (fun k hk => own_ne hr.ol hr.oq (by decide) hk), owns_upd' hr.on u (fun k hk => own_ne hr.on hr.oq (by decide) hk), fun q hq => owns_upd' (hr.oi q hq) u (fun k hk => own_ne (hr.oi q hq) hr.oq (by decide) hk), ?_, hr.eL⟩, ?_⟩
  · refine At.upd_keep (h.fam.same (fun i _ => by rw [cPl_ms (s := s) (s' := { s with qs := s.qs ++ [q] }) _ _ rfl rfl rfl])) u (fun k hk => Or.inl ⟨Or.inr (Or.inr (Or.inr (Or.inr (Or.inl hk)))), by have := (hr.oq.lt k hk).1; omega⟩) (fun j hj => ?_)
    rcases hj with hj | hj | hj | hj | hj | hj
    · exact Or.inl (Or.inl hj)
    · exact Or.inl (Or.inr (Or.inl hj))
    · exact Or.inl (Or.inr (Or.inr (Or.inl hj)))
    · exact Or.inl (Or.inr (Or.inr (Or.inr (Or.inl hj))))
    · rcases hb j hj with e | e
      · exact Or.inl (Or.inr (Or.inr (Or.inr (Or.inr (Or.inl e)))))
      · exact Or.inr ⟨e, (o.lt j hj).2⟩
    · exact Or.inl (Or.inr (Or.inr (Or.inr (Or.inr (Or.inr hj)))))
  · rw [List.length_append, flatQ_snoc]; exact o
  · exact h.mv.trans (u.mono fun k hk e => ⟨PlI.old (B := 0) h hF hr.oq e, by have := (hr.oq.lt k e).1; omega⟩)
end
end Go.Proofs.YtagmlemlagbfkaaGreatDoor
namespace Go.Proofs.YtagmlemlagbfkaaGreatDoor
open Go.RowKit
set_option linter.unusedVariables false
set_option linter.unusedSimpArgs false
attribute [local irreducible] Calls

section
variable {W : World} {F : Nat → Prop} {z0 z z' : World} {p : PlR} {s s' : Mi.PS} {v : PlV}
theorem pl_append (h : PlI W F z0 p s v z) (g : Gl W) (t : List UInt8) (ht : t.length ≤ 1000000) :
    Calls Tryz.prog 68 #[.pointer (some ⟨p.bb, 0, none⟩), .string ⟨t.toArray⟩] z fun e w' => ∃ x, e = .returned x ∧ PlI W F z0 p { s with b := (Bk.append s.b t).2 } v w' := by
  refine (at_append (r := 0) (i := 1) (rb := p.rb) (bb := p.bb) (Lr := s.L) (b := s.b) h.fam g (by omega) (by omega) (by decide) rfl rfl ⟨t.toArray⟩ t (bs_list t) ht).mono ?_
  rintro e w' ⟨he, ha, mv⟩
  refine ⟨_, he, h.turn rfl rfl rfl rfl (ha.same fun i hi => ?_) mv⟩
  match i, hi with
  | 0, _ => simp [setC, cPl]
  | 1, _ => simp [setC, cPl]
  | k + 2, _ => simp [setC, cPl]
theorem cPl_get (B : Nat) (p : PlR) {k : Nat} (hk : k < s.ms.length) : cPl B p s (k + 2) = MirC B (p.mbs k) s.ms[k] := by
  show MirC B (p.mbs k) (s.ms.getD k (Mi.fresh 0)) = _
  rw [List.getD_eq_getElem?_getD, List.getElem?_eq_getElem hk]; rfl
theorem pl_mir (h : PlI W F z0 p s v z) {k : Nat} (hk : k < s.ms.length) : ∃ x, x.mb = p.mbs k ∧ MirAt W.heap.size z x s.ms[k] := at_mirAt h.fam (by omega) (cPl_get _ _ hk)
theorem pl_feed (h : PlI W F z0 p s v z) (g : Gl W) {k : Nat} (hk : k < s.ms.length) (name : List UInt8) (hnm : name.length ≤ 1000) (now : Int) (hn : I64 now) (hL : s.L.length ≤ 600000) (hl1 : (s.ms[k].l 1).length ≤ 1000) (hl2 : (s.ms[k].l 2).length ≤ 1000) (hcl : s.cs.length ≤ 1000 ∧ ∀ t ∈ s.cs, t.length ≤ 1000) {zs : Nat} (hzs : z.heap.size = zs) :
    Calls Tryz.prog 69 #[.pointer (some ⟨p.mbs k, 0, none⟩), .pointer (some ⟨p.bb, 0, none⟩), .slice (some ⟨zs, 0, none⟩) 1 1, v.lv, .int .i64 now] (z.alloc (.cells #[.string ⟨name.toArray⟩] tStrM)) fun e z' =>
      ∃ x, e = .returned x ∧ PlI W F z0 p { s with L := (Mi.feed s.L s.b s.ms[k] [name] s.cs now).2.1, b := (Mi.feed s.L s.b s.ms[k] [name] s.cs now).2.2.1, ms := s.ms.set k (Mi.feed s.L s.b s.ms[k] [name] s.cs now).2.2.2, now := now } v z' := by
  subst hzs
  have n1 := nw_alloc z (.cells #[.string ⟨name.toArray⟩] tStrM)
  have k1 := heap_new z (.cells #[.string ⟨name.toArray⟩] tStrM)
  have hi := h.nw n1
  generalize z.alloc (.cells #[.string ⟨name.toArray⟩] tStrM) = z1 at *
  have hk1 := lt_of_block k1
  have hW := h.fam.nw0.size
  have hA := At.keep h.fam (F' := fun j => FPl F v j ∨ j = z.heap.size) n1 (fun j hj => by
    rcases hj with hj | rfl
    · exact Or.inl hj
    · exact Or.inr ⟨Nat.le_refl _, hk1⟩)
  have hp : FdI.Ok ⟨s.ms.length + 2, 0, 1, k + 2, p.rb, p.bb, p.mbs k⟩ := ⟨by show 0 < s.ms.length + 2; omega, by show 1 < s.ms.length + 2; omega, by show k + 2 < s.ms.length + 2; omega, by show (0 : Nat) ≠ 1; decide, by show 0 ≠ k + 2; omega, by show 1 ≠ k + 2; omega⟩
  have e3 : c3 W.heap.size ⟨s.ms.length + 2, 0, 1, k + 2, p.rb, p.bb, p.mbs k⟩ (cPl W.heap.size p s) s.L s.b s.ms[k] = cPl W.heap.size p s := c3_self rfl rfl (cPl_get _ _ hk)
  refine (feed_w hp (F := fun j => FPl F v j ∨ j = z.heap.size) (c := cPl W.heap.size p s) (by rw [e3]; exact hA) g [name] s.cs now hn (by simp; omega) (by omega) (by simp; omega) ⟨by omega, fun t ht => by have := hcl.2 t ht; omega⟩ (fun t ht => by rw [List.mem_singleton.1 ht]; omega) (.slice (some ⟨z.heap.size, 0, none⟩) 1 1) v.lv z0.heap.size
    (fun z' mv => ⟨_, _, Sl.of_owns (own_lit1 (B := z.heap.size) (t := name) (mv.keep k1 (fun e => e.1 (Or.inr rfl))) (Nat.le_refl _))⟩)
    (fun z' mv => owns_upd' hi.rows.ol mv (fun j hj e => e.1 (Or.inl (Or.inr (Or.inr (Or.inl hj))))))).mono ?_
  rintro e z' ⟨he, ha, mv⟩
  have mv2 : MovesN W (FPl F v) z1 z' := mv.mono (fun j _ e => ⟨fun f => e.1 (Or.inl f), e.2⟩)
  refine ⟨_, he, hi.turn (by simp) rfl rfl rfl ((ha.less (fun j hj => Or.inl hj)).same fun i hi => ?_) mv2⟩
  match i, hi with
  | 0, _ => simp [c3, setC, cPl]
  | 1, _ => simp [c3, setC, cPl]
  | j + 2, hj =>
    by_cases hjk : j = k
    · subst hjk
      have : j < (s.ms.set j (Mi.feed s.L s.b s.ms[j] [name] s.cs now).2.2.2).length := by rw [List.length_set]; exact hk
      show MirC W.heap.size (p.mbs j) ((s.ms.set j (Mi.feed s.L s.b s.ms[j] [name] s.cs now).2.2.2).getD j (Mi.fresh 0)) = _
      rw [List.getD_eq_getElem?_getD, List.getElem?_eq_getElem this, List.getElem_set_self]
      simp [c3, setC]
    · show MirC W.heap.size (p.mbs j) ((s.ms.set k (Mi.feed s.L s.b s.ms[k] [name] s.cs now).2.2.2).getD j (Mi.fresh 0)) = _
      rw [List.getD_eq_getElem?_getD, List.getElem?_set_ne (fun e => hjk e.symm)]
      simp [c3, setC, cPl, hjk]
theorem pl_answer (h : PlI W F z0 p s v z) (g : Gl W) {k : Nat} (hk : k < s.ms.length) (q : Mi.Ques) (hq : QOk q) : Calls Tryz.prog 13 #[.pointer (some ⟨p.mbs k, 0, none⟩), qV q] z fun e w' =>
    ∃ vi, e = .returned (.agg #[vi, .string ⟨(Mi.answer s.ms[k] q).text.toArray⟩, .bool (Mi.answer s.ms[k] q).has]) ∧ w'.ownsRow z.heap.size tSigned 3 vi (Mi.answer s.ms[k] q).claims.length (flatS (Mi.answer s.ms[k] q).claims) ∧ Nw z w' := by
  obtain ⟨x, e1, hx⟩ := pl_mir h hk
  rw [← e1]
  exact answer_w hx (h.gl g) q hq
end
end Go.Proofs.YtagmlemlagbfkaaGreatDoor
namespace Go.Proofs.YtagmlemlagbfkaaGreatDoor
open Go.RowKit
set_option linter.unusedVariables false
set_option linter.unusedSimpArgs false
attribute [local irreducible] Calls

theorem feed_ln (L : List Bk.Seal) (b : Bk.Book) (m : Mi.Mir) (ks cs : List (List UInt8)) (now : Int) : (Mi.feed L b m ks cs now).2.1.length ≤ L.length + 1 + b.es.length + ks.length := by
  obtain ⟨h1, h2⟩ := head_ln L b now
  unfold Mi.feed
  split
  · dsimp only; omega
  split
  · dsimp only; omega
  · unfold Mi.fed
    dsimp only
    have h3 := entL_ln (Bk.head L b now).2.1 (Bk.head L b now).2.2 (Mi.push m 1 (Bk.head L b now).1.1) ((Mi.push m 1 (Bk.head L b now).1.1).l 0).length ((Bk.head L b now).2.2.es.length - ((Mi.push m 1 (Bk.head L b now).1.1).l 0).length)
    have h4 := (absL_ln (Bk.head L b now).2.2 (Mi.entL (Bk.head L b now).2.1 (Bk.head L b now).2.2 (Mi.push m 1 (Bk.head L b now).1.1) ((Mi.push m 1 (Bk.head L b now).1.1).l 0).length ((Bk.head L b now).2.2.es.length - ((Mi.push m 1 (Bk.head L b now).1.1).l 0).length)) ks).1
    rw [h2] at h3 h4 ⊢
    omega
theorem play_ln {key : Int} {s : Mi.PS} (h0 : Mi.PInv key 0 s []) (hms : 0 < s.ms.length) (l : List Mi.PAct) (hl : ∀ a ∈ l, Mi.ActOk a) (hn : l.length ≤ 30) (hL : s.L = []) (j : Nat) (hj : j ≤ l.length) : (Mi.play s (l.take j)).L.length ≤ j * 100 := by
  induction j with
  | zero => show s.L.length ≤ _; rw [hL]; simp
  | succ j ih =>
    have i1 := ih (by omega)
    obtain ⟨⟨M, hi⟩, -⟩ := Mi.play_inv h0 hms l hl j (by omega)
    have hes := hi.len.1
    rw [Mi.play_take s l j (by omega)]
    unfold Mi.stepP
    split
    · dsimp only; omega
    split
    · dsimp only; omega
    split
    · unfold Mi.fedR
      have := feed_ln (Mi.play s (l.take j)).L (Mi.play s (l.take j)).b (Mi.mirOf (Mi.play s (l.take j)) l[j]) [l[j].name] (Mi.play s (l.take j)).cs ((Mi.play s (l.take j)).now + l[j].n)
      simp only [List.length_cons, List.length_nil] at this
      refine Nat.le_trans this ?_
      omega
    split
    · dsimp only; omega
    · omega
def keptM (modes : List Int) : List Int := modes.filter fun k => decide (0 ≤ k) && decide (k < 5)
theorem keptM_snoc (l : List Int) (k : Int) : keptM (l ++ [k]) = if 0 ≤ k ∧ k < 5 then keptM l ++ [k] else keptM l := by
  unfold keptM
  rw [List.filter_append]
  by_cases h : 0 ≤ k ∧ k < 5
  · rw [if_pos h, List.filter_cons]; simp [h]
  · rw [if_neg h, List.filter_cons]
    rw [if_neg (by simp; omega)]
    simp
theorem keptM_len (l : List Int) : (keptM l).length ≤ l.length := List.length_filter_le _ _
def cJ (B rb : Nat) (L : List Bk.Seal) (c1 : Res) (mbs : Nat → Nat) (ks : List Int) : Nat → Res
  | 0 => RingC B rb L
  | 1 => c1
  | k + 2 => MirC B (mbs k) (Mi.fresh (ks.getD k 0))
/-- Nothing. -/
def NoC : Res := fun f _ => f = fun _ => False
theorem NoC.stab (B : Nat) : Stab B NoC := ⟨fun h _ _ => h, fun h hk => by rw [h] at hk; exact hk.elim⟩
theorem At.pop {W : World} {N M : Nat} {c : Nat → Res} {F : Nat → Prop} {z : World} (h : At W N c F z) (hM : M ≤ N) : At W M c F z := by
  obtain ⟨f, a, b, d, e, k⟩ := h
  exact ⟨f, a, fun i hi => b i (by omega), fun i hi => d i (by omega), fun i k hi hk => e i k (by omega) (by omega), fun j hj => ⟨(k j hj).1, fun i hi => (k j hj).2 i (by omega)⟩⟩
structure PlJ (W : World) (F : Nat → Prop) (z0 : World) (rb : Nat) (L : List Bk.Seal) (c1 : Res) (mbs : Nat → Nat) (ks : List Int) (av : Value) (z : World) : Prop where
  fam : At W (ks.length + 2) (cJ W.heap.size rb L c1 mbs ks) (fun j => F j ∨ av.ownBlock = some j) z
  oa : z.ownsRow z0.heap.size tPM 1 av ks.length (ptrsM mbs ks.length)
  mv : MovesN W F z0 z
section
variable {W : World} {F : Nat → Prop} {z0 z z' : World} {rb : Nat} {L : List Bk.Seal} {c1 : Res} {mbs : Nat → Nat} {ks : List Int} {av : Value}
theorem PlJ.nw (h : PlJ W F z0 rb L c1 mbs ks av z) (u : Nw z z') : PlJ W F z0 rb L c1 mbs ks av z' := ⟨h.fam.nw u, owns_upd' h.oa u (fun _ _ e => e), h.mv.trans (Nw.upd _ u)⟩
/-- A mirror more. -/
theorem PlJ.more (h : PlJ W F z0 rb L c1 mbs ks av z) (g : Gl W) (hF : ∀ j, F j → j < z0.heap.size) (hW : W.heap.size ≤ z0.heap.size) {k : Int} {x : MirR} {z1 zb : World} (u1 : Nw z z1) (hx : MirAt z.heap.size z1 x (Mi.fresh k)) (ub : Nw z1 zb) {av' : Value}
    (o : z'.ownsRow z0.heap.size tPM 1 av' (ks.length + 1) (ptrsM mbs ks.length ++ [.pointer (some ⟨x.mb, 0, none⟩)])) (u : Upd (fun j => av.ownBlock = some j) zb z') (hb : ∀ j, av'.ownBlock = some j → av.ownBlock = some j ∨ zb.heap.size ≤ j) :
    PlJ W F z0 rb L c1 (fun j => if j = ks.length then x.mb else mbs j) (ks ++ [k]) av' z' := by
  have hoa := owns_upd' (owns_upd' h.oa u1 (fun _ _ e => e)) ub (fun _ _ e => e)
  have e1 : ptrsM (fun j => if j = ks.length then x.mb else mbs j) (ks.length + 1) = ptrsM mbs ks.length ++ [.pointer (some ⟨x.mb, 0, none⟩)] := by
    rw [ptrsM_succ, if_pos rfl]
    congr 1
    exact ptrsM_congr (fun i hi => if_neg (by omega))
  refine ⟨?_, by rw [List.length_append, List.length_singleton, e1]; exact o, ((h.mv.trans (Nw.upd _ u1)).trans (Nw.upd _ ub)).trans (u.mono fun j hj e => ⟨fun f => ?_, by have := (hoa.lt j e).1; omega⟩)⟩
  · rw [List.length_append, List.length_singleton, show ks.length + 1 + 2 = (ks.length + 2) + 1 by omega]
    refine At.upd_keep (((h.fam.oneMir g.big u1 hx).nw ub).same (fun i hi => ?_)) u (fun j hj => Or.inl ⟨Or.inr hj, by have := (hoa.lt j hj).1; omega⟩) (fun j hj => ?_)
    · match i, hi with
      | 0, _ => simp [setC, cJ]
      | 1, _ => simp [setC, cJ]
      | i + 2, hi =>
        by_cases hik : i = ks.length
        · subst hik
          simp [setC, cJ]
        · have : i < ks.length := by omega
          simp [setC, cJ, hik, List.getElem?_append_left this]
    · rcases hj with hj | hj
      · exact Or.inl (Or.inl hj)
      · rcases hb j hj with e | e
        · exact Or.inl (Or.inr e)
        · exact Or.inr ⟨e, (o.lt j hj).2⟩
  · have := (hoa.lt j e).1
    have := hF j f
    omega
end
theorem played_results (tmps : Array Value) (w : World) : (results Tryz.f11 tmps).run Tryz.prog w = .ok (.tuple #[tmps.getD 8 undef, tmps.getD 9 undef, tmps.getD 10 undef, tmps.getD 11 undef, tmps.getD 12 undef, tmps.getD 13 undef]) w := by
  simp [results, Tryz.results11, go_sem]
end Go.Proofs.YtagmlemlagbfkaaGreatDoor
namespace Go.Proofs.YtagmlemlagbfkaaGreatDoor
open Go.RowKit
set_option linter.unusedVariables false
set_option linter.unusedSimpArgs false
attribute [local irreducible] Calls

/-- What played leaves. -/
def PlayedTo (W : World) (F : Nat → Prop) (z0 : World) (rb : Nat) (key : Int) (modes : List Int) (l : List Mi.PAct) (e : Ending) (z' : World) : Prop :=
  ((Bk.isKey key = true ∧ keptM modes ≠ []) ∧ ∃ p v, p.rb = rb ∧ e = .returned (.tuple #[.pointer (some ⟨p.bb, 0, none⟩), v.av, v.lv, v.nv, v.qv, .int .i64 (Mi.play (Mi.start key ((keptM modes).map Mi.fresh)) l).now]) ∧ PlI W F z0 p (Mi.play (Mi.start key ((keptM modes).map Mi.fresh)) l) v z') ∨
  (¬ (Bk.isKey key = true ∧ keptM modes ≠ []) ∧ e = .returned (.tuple #[.pointer none, .slice none 0 0, .slice none 0 0, .slice none 0 0, .slice none 0 0, .int .i64 0]) ∧ At W 1 (fun _ => RingC W.heap.size rb []) F z' ∧ MovesN W F z0 z')
def mEnd (W : World) (F : Nat → Prop) (z0 : World) (rb : Nat) (key : Int) (bv : Value) (ev : Int) (c1 : Res) : Prop :=
  (Bk.isKey key = true ∧ ∃ bb, bv = .pointer (some ⟨bb, 0, none⟩) ∧ ev = 0 ∧ c1 = BookC W.heap.size bb rb (Bk.new key)) ∨ (Bk.isKey key = false ∧ bv = .pointer none ∧ ev = 22 ∧ c1 = NoC)
theorem book_any {W : World} {F : Nat → Prop} {z0 : World} {rb : Nat} {key : Int} (h : At W 1 (fun _ => RingC W.heap.size rb []) F z0) (g : Gl W) :
    Calls Tryz.prog 67 #[.pointer (some ⟨rb, 0, none⟩), .int .i64 key] z0 fun e z' => ∃ bv ev c1, e = .returned (.tuple #[bv, .int .i64 ev]) ∧ mEnd W F z0 rb key bv ev c1 ∧ PlJ W F z0 rb [] c1 (fun _ => 0) [] (.slice none 0 0) z' := by
  have nil : ∀ (z : World), z.ownsRow z0.heap.size tPM 1 (.slice none 0 0) 0 (ptrsM (fun _ => 0) 0) := fun z => World.ownsRow_nil _ _ _ _
  refine (new_b rb key z0 (h.gl g)).mono ?_
  rintro e w' (⟨hk, r, rfl, hr, u⟩ | ⟨hk, rfl, u⟩)
  · refine ⟨_, _, _, rfl, Or.inl ⟨hk, r.bb, rfl, rfl, rfl⟩, ⟨?_, nil w', Nw.upd _ u⟩⟩
    refine ((h.oneBook g.big u hr).same (fun i hi => ?_)).less (fun j hj => ?_)
    · match i, hi with
      | 0, _ => simp [setC, cJ]
      | 1, _ => simp [setC, cJ]
    · rcases hj with hj | hj
      · exact hj
      · cases hj
  · refine ⟨_, _, _, rfl, Or.inr ⟨hk, rfl, rfl, rfl⟩, ⟨?_, nil w', Nw.upd _ u⟩⟩
    refine ((h.push u (NoC.stab _) (f' := fun _ => False) rfl (fun j hj => hj.elim)).same (fun i hi => ?_)).less (fun j hj => ?_)
    · match i, hi with
      | 0, _ => simp [setC, cJ]
      | 1, _ => simp [setC, cJ]
    · rcases hj with hj | hj
      · exact hj
      · cases hj
/-- The state where acts begin. -/
theorem PlJ.start {W : World} {F : Nat → Prop} {z0 z : World} {rb bb : Nat} {key : Int} {mbs : Nat → Nat} {ks : List Int} {av : Value} (h : PlJ W F z0 rb [] (BookC W.heap.size bb rb (Bk.new key)) mbs ks av z) :
    PlI W F z0 ⟨rb, bb, mbs⟩ (Mi.start key (ks.map Mi.fresh)) ⟨av, .slice none 0 0, .slice none 0 0, .slice none 0 0, []⟩ z := by
  have hl : (Mi.start key (ks.map Mi.fresh)).ms.length = ks.length := by show (ks.map Mi.fresh).length = _; simp
  refine ⟨?_, ⟨by rw [hl]; exact h.oa, World.ownsRow_nil _ _ _ _, World.ownsRow_nil _ _ _ _, fun q hq => (by cases hq), World.ownsRow_nil _ _ _ _, rfl⟩, h.mv⟩
  rw [hl]
  refine (h.fam.same (fun i hi => ?_)).less (fun j hj => ?_)
  · match i, hi with
    | 0, _ => rfl
    | 1, _ => rfl
    | i + 2, hi =>
      have : i < ks.length := by omega
      show MirC _ _ ((ks.map Mi.fresh).getD i (Mi.fresh 0)) = MirC _ _ (Mi.fresh (ks.getD i 0))
      rw [List.getD_eq_getElem?_getD, List.getD_eq_getElem?_getD, List.getElem?_map, List.getElem?_eq_getElem this]
      rfl
  · rcases hj with hj | hj | hj | hj | hj | ⟨q, hq, hj⟩
    · exact Or.inl hj
    · exact Or.inr hj
    · cases hj
    · cases hj
    · cases hj
    · cases hq
theorem ptrs_at {w : World} {B n : Nat} {f : Nat → Nat} {a : Option Addr} {cap : Nat} (h : w.ownsRow B tPM 1 (.slice a n cap) n (ptrsM f n)) (hn : 0 < n) : ∃ b off, a = some ⟨b, off, none⟩ ∧ ∀ j, j < n → w.cell? ⟨b, off + j, none⟩ = some (.pointer (some ⟨f j, 0, none⟩)) := by
  obtain ⟨a', cap', ev, -, hc⟩ := (Sl.of_owns h).open_
  rw [ptrsM_len] at ev
  simp only [Value.slice.injEq, true_and] at ev
  obtain ⟨rfl, rfl⟩ := ev
  rcases hc with ⟨-, -, hnil⟩ | ⟨b, off, rfl, -, -, -, hc⟩
  · have := congrArg List.length hnil
    rw [ptrsM_len] at this
    simp at this
    omega
  · refine ⟨b, off, rfl, fun j hj => ?_⟩
    rw [hc j (by rw [ptrsM_len]; exact hj)]
    unfold ptrsM
    rw [List.getElem?_map, List.getElem?_range hj]
    rfl
set_option maxHeartbeats 8000000 in
set_option maxRecDepth 100000 in
theorem played_w {W : World} {F : Nat → Prop} {z0 : World} {rb : Nat} (h : At W 1 (fun _ => RingC W.heap.size rb []) F z0) (g : Gl W) (key : Int) (hkey : I64 key) (modes : List Int) (mv : Value) (hm : Sl 0 W.heap.size W mv (modes.map (Value.int .i64))) (hmi : ∀ k ∈ modes, I64 k) (hml : modes.length ≤ 5)
    (l : List Mi.PAct) (lv : Value) (hl : SlS 6 0 W.heap.size W lv (l.map actL)) (hwf : ∀ a ∈ l, ActWf a) (hok : ∀ a ∈ l, Mi.ActOk a) (hll : l.length ≤ 30) :
    Calls Tryz.prog 11 #[.pointer (some ⟨rb, 0, none⟩), .int .i64 key, mv, lv] z0 (PlayedTo W F z0 rb key modes l) := by
  have hF : ∀ j, F j → j < z0.heap.size := fun j hj => by obtain ⟨f, a, b, d, e, k⟩ := h; exact (k j hj).1
  have hW := h.nw0.size
  have hgb := g.big
  have HB := Lib.hid (book_any (key := key) h g)
  have HFW : Hid ((∀ j, F j → j < z0.heap.size) ∧ W.heap.size ≤ z0.heap.size ∧ nG ≤ z0.heap.size) := ⟨hF, hW, by omega⟩
  have HNW := Lib.hid h.nw0
  have HMI := Lib.hid hmi
  have HWF := Lib.hid (And.intro hwf hok)
  obtain ⟨am, cm, rfl, hcm, hmc⟩ := hm.open_
  rw [List.length_map] at hcm
  simp only [List.length_map]
  have HMC := Lib.hid hmc
  obtain ⟨al, cl, rfl, -, hlc⟩ := act_cells hl
  have HLC := Lib.hid hlc
  have hml1 : (modes.length : Int) ≤ 5 := by omega
  have hll1 : (l.length : Int) ≤ 30 := by omega
  have hR : Hid (∀ e z', PlayedTo W F z0 rb key modes l e z' → PlayedTo W F z0 rb key modes l e z') := fun _ _ h => h
  clear hm hmi hwf hok hl hcm hmc hlc hF hW h
  go_enter Tryz.func11, Tryz.ntmps11
  go_wp2_with fail
  (with_reducible refine (HB.out).mono ?_)
  rintro _ w1 ⟨bv, ev, c1, rfl, hme, hj⟩
  have HME := Lib.hid hme
  have hJ0 : Hid (∃ mbs, PlJ W F z0 rb [] c1 mbs (keptM (modes.take 0)) (.slice none 0 0) w1) := ⟨_, hj⟩
  clear HB hme hj
  go_wp2_with fail
  go_loopw [16, 17] (fun av iv wr => ∃ i : Nat, i ≤ modes.length ∧ iv = .int .i64 (i : Int) ∧ Hid (∃ mbs, PlJ W F z0 rb [] c1 mbs (keptM (modes.take i)) av wr)) (fun _ iv _ => modes.length - (intOf iv).toNat)
  case atStart => exact ⟨0, Nat.zero_le _, rfl, hJ0.out⟩
  case round =>
    obtain ⟨i, hi, rfl, HJ⟩ := hrel
    by_cases hlt : i < modes.length
    · have hlt1 : (i : Int) < modes.length := by omega
      rcases HMC.out with ⟨-, -, hnil⟩ | ⟨b, off, rfl, -, -, -, hcell⟩
      · rw [List.map_eq_nil_iff] at hnil
        simp [hnil] at hlt
      obtain ⟨mbs, hj⟩ := HJ.out
      have hnw : Nw W wr := hj.fam.nw0
      have d0 := hcell i (by rw [List.length_map]; exact hlt)
      rw [List.getElem?_map, List.getElem?_eq_getElem hlt] at d0
      have c0 : wr.cell? ⟨b, off + i, none⟩ = some (.int .i64 modes[i]) := later_cell ⟨wr, hnw⟩ d0
      have hkm := HMI.out _ (List.getElem_mem hlt)
      have hmn := Lib.hid (mnew_w modes[i] hkm wr (g.upd hnw))
      have HTk : Hid (modes.take (i + 1) = modes.take i ++ [modes[i]]) := List.take_succ_eq_append_getElem hlt
      have HKL : Hid ((keptM (modes.take i)).length ≤ 5) := Nat.le_trans (keptM_len _) (by rw [List.length_take]; omega)
      have HJJ := Lib.hid hj
      obtain ⟨aa, ca, hav⟩ := own_slG hj.oa
      subst hav
      clear hcell d0 hnw hj
      generalize modes[i] = k at *
      obtain ⟨wJ, rfl⟩ : ∃ w, w = wr := ⟨_, rfl⟩
      go_wp2_with fail
      (with_reducible refine (hmn.out).mono ?_)
      rintro _ w2 hd
      rcases hd with ⟨h0, h5, x, rfl, hx, u2⟩ | ⟨hno, rfl, u2⟩
      · have HX := Lib.hid hx
        have HO2 := Lib.hid (owns_upd' HJJ.out.oa u2 (fun _ _ e => e))
        have hs02 : z0.heap.size ≤ w2.heap.size := (HJJ.out.mv.trans (Nw.upd _ u2)).size
        have hg0 := HFW.out.2.2
        have HU2 := Lib.hid u2
        have HK5 := HKL.out
        have HKS : Hid (keptM (modes.take (i + 1)) = keptM (modes.take i) ++ [k]) := by show _ = _; rw [HTk.out, keptM_snoc, if_pos ⟨h0, h5⟩]
        clear hx u2 hmn h0 h5
        go_wp2_with (at_builtin; (refine wpList_appL rfl _ _ 29 rfl z0.heap.size tPM _ 1 8 Tryz.underlying29 infoPM rfl (by decide) _ _ _ rfl HO2.out [Value.pointer (some ⟨x.mb, 0, none⟩)] rfl rfl ?c1 ?c2 ?c3 hs02 hg0 ?_))
        case c1 => intro u hu; rw [List.mem_singleton.1 hu]; rfl
        case c2 => unfold maxLen; omega
        case c3 => omega
        intro v' w5 o5 u5 hob
        have hz : Hid (∃ mbs, PlJ W F z0 rb [] c1 mbs (keptM (modes.take (i + 1))) v' w5) := by
          rw [HKS.out]
          exact ⟨_, HJJ.out.more g HFW.out.1 HFW.out.2.1 HU2.out HX.out (Upd.refl _ _) o5 u5 hob⟩
        clear o5 u5 hob hs02 hg0 HK5
        go_wp2_with fail
        go_roundw
        case rel => exact ⟨i + 1, by omega, by go_num, hz.out⟩
        case measure => simp [intOf]; omega
      · have hz : Hid (∃ mbs, PlJ W F z0 rb [] c1 mbs (keptM (modes.take (i + 1))) (.slice aa (keptM (modes.take i)).length ca) w2) := by
          refine ⟨mbs, ?_⟩
          have e : keptM (modes.take (i + 1)) = keptM (modes.take i) := by rw [HTk.out, keptM_snoc, if_neg hno]
          rw [e]
          exact HJJ.out.nw u2
        clear hno u2 hmn
        go_wp2_with fail
        go_roundw
        case rel => exact ⟨i + 1, by omega, by go_num, hz.out⟩
        case measure => simp [intOf]; omega
    · obtain rfl : i = modes.length := by omega
      have hj := HJ.out
      rw [List.take_length] at hj
      obtain ⟨mbs, hj⟩ := hj
      have hks5 : (keptM modes).length ≤ 5 := Nat.le_trans (keptM_len _) (by omega)
      have HE : Hid (∀ w', Nw wr w' → ¬ (Bk.isKey key = true ∧ keptM modes ≠ []) → PlayedTo W F z0 rb key modes l (.returned (.tuple #[.pointer none, .slice none 0 0, .slice none 0 0, .slice none 0 0, .slice none 0 0, .int .i64 0])) w') := fun w' u hno => by
        have hj' := hj.nw u
        refine Or.inr ⟨hno, rfl, ((hj'.fam.pop (M := 1) (by omega)).same (fun i hi => ?_)).less (fun j hj => Or.inl hj), hj'.mv⟩
        obtain rfl : i = 0 := by omega
        rfl
      have HJJ := Lib.hid hj
      obtain ⟨aa, ca, hav⟩ := own_slG hj.oa
      subst hav
      obtain ⟨wJ, rfl⟩ : ∃ w, w = wr := ⟨_, rfl⟩
      clear HJ hj HMC
      rcases HME.out with ⟨hkey1, bb, rfl, rfl, rfl⟩ | ⟨hkey0, rfl, rfl, rfl⟩
      rotate_left
      · have hfin := Lib.hid (HE.out wJ (Upd.refl _ _) (fun e => by rw [hkey0] at e; cases e.1))
        clear HE HJJ
        go_wp2_with fail
        (try simp only [Exit.inBlock, Exit.then])
        refine bodyPost_ret (played_results _ _) rfl ?_
        exact hfin.out
      by_cases hks : keptM modes = []
      · have hfin := Lib.hid (HE.out wJ (Upd.refl _ _) (fun e => e.2 hks))
        have hl0 : (keptM modes).length = 0 := by rw [hks]; rfl
        clear HE HJJ
        rw [hl0]
        go_wp2_with fail
        (try simp only [Exit.inBlock, Exit.then])
        refine bodyPost_ret (played_results _ _) rfl ?_
        exact hfin.out
      obtain ⟨n0, hn0⟩ : ∃ n0, (keptM modes).length = n0 := ⟨_, rfl⟩
      have hn1 : 0 < n0 := by rw [← hn0]; exact List.length_pos_iff.2 hks
      have hi0 := HJJ.out.start
      obtain ⟨s0, hs0⟩ : ∃ s0, Mi.start key ((keptM modes).map Mi.fresh) = s0 := ⟨_, rfl⟩
      have HPI : Hid (Mi.PInv key 0 s0 [] ∧ s0.ms.length = n0 ∧ s0.L = []) := by
        rw [← hs0]
        refine ⟨Mi.pinv_start hkey1 (fun m hm => ?_), by show ((keptM modes).map Mi.fresh).length = n0; rw [List.length_map, hn0], rfl⟩
        obtain ⟨k, -, rfl⟩ := List.mem_map.1 hm
        exact ⟨k, rfl⟩
      have HEND : Hid (∀ p v z' , p.rb = rb → p.bb = bb → PlI W F z0 p (Mi.play s0 l) v z' → PlayedTo W F z0 rb key modes l (.returned (.tuple #[.pointer (some ⟨bb, 0, none⟩), v.av, v.lv, v.nv, v.qv, .int .i64 (Mi.play s0 l).now])) z') := fun p v z' e1 e2 hp => by
        rw [← hs0] at hp ⊢
        exact Or.inl ⟨⟨hkey1, hks⟩, p, v, e1, by rw [e2], hp⟩
      rw [hs0] at hi0
      rw [hn0] at hi0 HJJ
      rw [hn0]
      obtain ⟨p, hp1, hp2, hi1⟩ : ∃ p : PlR, p.rb = rb ∧ p.bb = bb ∧ PlI W F z0 p s0 ⟨.slice aa n0 ca, .slice none 0 0, .slice none 0 0, .slice none 0 0, []⟩ wJ := ⟨_, rfl, rfl, hi0⟩
      have hnow0 : Hid ((Mi.play s0 (l.take 0)).now = 0) := by show s0.now = 0; rw [← hs0]; rfl
      have hK0 : Hid (PlI W F z0 p (Mi.play s0 (l.take 0)) ⟨.slice aa n0 ca, .slice none 0 0, .slice none 0 0, .slice none 0 0, []⟩ wJ) := hi1
      have hn05 : n0 ≤ 5 := by omega
      have hn01 : (n0 : Int) ≤ 5 := by omega
      have hn02 : ¬ ((n0 : Int) = 0) := by omega
      have hn03 : ((n0 : Int) == 0) = false := by simp; omega
      clear HE hi0 hi1 HJJ hs0 hn0 hks hks5 hkey1
      subst hp1 hp2
      go_wp2_with fail
      go_loopw [19, 20, 21, 22, 23] (fun lv nv qv now iv wr => ∃ i : Nat, i ≤ l.length ∧ iv = .int .i64 (i : Int) ∧ ∃ L, now = .int .i64 (Mi.play s0 (l.take i)).now ∧ Hid (PlI W F z0 p (Mi.play s0 (l.take i)) ⟨.slice aa n0 ca, lv, nv, qv, L⟩ wr)) (fun _ _ _ _ iv _ => l.length - (intOf iv).toNat)
      case atStart => exact ⟨0, Nat.zero_le _, rfl, [], by rw [hnow0.out], hK0.out⟩
      case round =>
        obtain ⟨i, hi, rfl, L, rfl, HI⟩ := hrel
        by_cases hlt : i < l.length
        · have hlt1 : (i : Int) < l.length := by omega
          rcases HLC.out with hnil | ⟨b, off, rfl, hcell⟩
          · simp [hnil] at hlt
          obtain ⟨⟨M, hinv⟩, hmap⟩ := Mi.play_inv HPI.out.1 (by rw [HPI.out.2.1]; exact hn1) l HWF.out.2 i (by omega)
          have hlnL := play_ln HPI.out.1 (by rw [HPI.out.2.1]; exact hn1) l HWF.out.2 (by omega) HPI.out.2.2 i (by omega)
          have hSL : (Mi.play s0 (l.take i)).ms.length = n0 := by have := congrArg List.length hmap; rw [List.length_map, List.length_map, HPI.out.2.1] at this; exact this
          have HSU : Hid (Mi.play s0 (l.take (i + 1)) = Mi.stepP (Mi.play s0 (l.take i)) l[i]) := Mi.play_take s0 l i hlt
          have HAO := Lib.hid (HWF.out.2 _ (List.getElem_mem hlt))
          have HAW := Lib.hid (HWF.out.1 _ (List.getElem_mem hlt))
          have HACT : Hid (∀ z, Nw W z → ActCells z b off i l[i]) := fun z u => (hcell i hlt).nw u
          obtain ⟨S, hS⟩ : ∃ S, Mi.play s0 (l.take i) = S := ⟨_, rfl⟩
          rw [hS] at HI hinv hlnL hSL HSU
          rw [hS]
          have HINV := Lib.hid hinv
          have HLN : Hid (S.L.length ≤ 3000 ∧ S.ms.length = n0) := ⟨by omega, hSL⟩
          have hnw1 := hinv.now
          have hnow1 : 0 ≤ S.now := hnw1.1
          have hnow2 : S.now ≤ 30000000 := by omega
          clear hcell hinv hmap hlnL hS hnw1
          generalize l[i] = a at *
          obtain ⟨wX, rfl⟩ : ∃ w, w = wr := ⟨_, rfl⟩
          obtain ⟨la, lc, e1⟩ := own_slG HI.out.rows.ol
          obtain ⟨na, nc, e2⟩ := own_slG HI.out.rows.on
          obtain ⟨qa, qc, e3⟩ := own_slG HI.out.rows.oq
          dsimp only at e1 e2 e3
          subst e1 e2 e3
          have HNWX := Lib.hid (HI.out.fam.nw0)
          obtain ⟨c0, c1', c2, c3', c4, c5⟩ := HACT.out wX HNWX.out
          have hpk := Lib.hid (pick_w a.mirror HAW.out.m n0 ⟨hn1, hn05⟩ wX)
          have HKLT : Hid (Mi.pick a.mirror n0 < n0) := Mi.pick_lt _ hn1
          have HMO : Hid (Mi.mirOf S a = S.ms.getD (Mi.pick a.mirror n0) (Mi.fresh 0)) := by show _ = _; unfold Mi.mirOf; rw [hSL]
          have HPM : Hid (Mi.pick a.mirror S.ms.length = Mi.pick a.mirror n0) := by show _ = _; rw [hSL]
          have hoa := HI.out.rows.oa
          dsimp only at hoa
          rw [hSL] at hoa
          obtain ⟨ab, ao, ea, hac⟩ := ptrs_at hoa hn1
          have HAC := Lib.hid hac
          generalize Mi.pick a.mirror n0 = k at *
          have hk1 : (k : Int) < n0 := by have := HKLT.out; omega
          have hk0 : (0 : Int) ≤ k := by omega
          subst ea
          clear hoa hac hSL
          go_wp2_with fail
          (with_reducible refine (hpk.out).mono ?_)
          rintro _ w2 ⟨rfl, u2⟩
          have ck : w2.cell? ⟨ab, ao + k, none⟩ = some (.pointer (some ⟨p.mbs k, 0, none⟩)) := later_cell ⟨w2, u2⟩ (HAC.out k HKLT.out)
          have HI2 := Lib.hid (HI.out.nw u2)
          obtain ⟨d0, d1', d2, d3', d4, d5⟩ := HACT.out w2 HI2.out.fam.nw0
          clear hpk u2 c0 c1' c2 c3' c4 c5
          by_cases hd0 : a.do_ = 0
          · have hb0 : (a.do_ == 0) = true := by simp [hd0]
            have HS2 : Hid (Mi.play s0 (l.take (i + 1)) = { S with b := (Bk.append S.b (Mi.line a)).2 }) := by
              show _ = _; rw [HSU.out]; unfold Mi.stepP; rw [if_pos hd0]
            have hln := Lib.hid (line_w a HAO.out w2 (HI2.out.gl g))
            clear hd0 HSU
            go_wp2_with fail
            (with_reducible refine (hln.out).mono ?_)
            rintro _ w3 ⟨rfl, hl300, u3⟩
            have hap := Lib.hid (pl_append (HI2.out.nw u3) g (Mi.line a) (by omega))
            clear hln u3 hl300 d0 d1' d2 d3' d4 d5
            go_wp2_with fail
            (with_reducible refine (hap.out).mono ?_)
            rintro _ w4 ⟨x4, rfl, h4⟩
            have hz := Lib.hid h4
            clear h4 hap
            -- the round's end: the list of answers L
            go_wp2_with fail
            go_roundw
            case rel => exact ⟨i + 1, by omega, by go_num, L, by rw [HS2.out], by rw [HS2.out]; exact hz.out⟩
            case measure => simp [intOf]; omega
          have hb0 : (a.do_ == 0) = false := by simp [hd0]
          by_cases hd1 : a.do_ = 1
          · have hb1 : (a.do_ == 1) = true := by simp [hd1]
            have HS2 : Hid (Mi.play s0 (l.take (i + 1)) = { S with cs := Mi.addC S.cs a.text }) := by
              show _ = _; rw [HSU.out]; unfold Mi.stepP; rw [if_neg hd0, if_pos hd1]
            have hcs := HINV.out.cs
            have hadd := Lib.hid (cadd_w z0.heap.size _ S.cs a.text w2 (HI2.out.gl g) HI2.out.rows.ol ⟨by omega, hcs.2⟩ (by omega) HINV.out.nd HAO.out.text)
            clear hd0 hd1 HSU hcs
            go_wp2_with fail
            (with_reducible refine (hadd.out).mono ?_)
            rintro _ w3 ⟨v3, n3, rfl, o3, u3⟩
            have hz := Lib.hid (HI2.out.list u3 o3)
            obtain ⟨a3, c3, e3⟩ := own_slG o3
            subst e3
            clear o3 u3 hadd d0 d1' d2 d3' d4 d5
            -- the round's end: the list of answers L
            go_wp2_with fail
            go_roundw
            case rel => exact ⟨i + 1, by omega, by go_num, L, by rw [HS2.out], by rw [HS2.out]; exact hz.out⟩
            case measure => simp [intOf]; omega
          have hb1 : (a.do_ == 1) = false := by simp [hd1]
          by_cases hd2 : a.do_ = 2
          · have hb2 : (a.do_ == 2) = true := by simp [hd2]
            have hkS : k < S.ms.length := by rw [HLN.out.2]; exact HKLT.out
            have hm2 : Mi.mirOf S a = S.ms[k] := by rw [HMO.out, List.getD_eq_getElem?_getD, List.getElem?_eq_getElem hkS]; rfl
            have HS2 : Hid (Mi.play s0 (l.take (i + 1)) = { S with L := (Mi.feed S.L S.b S.ms[k] [a.name] S.cs (S.now + a.n)).2.1, b := (Mi.feed S.L S.b S.ms[k] [a.name] S.cs (S.now + a.n)).2.2.1, ms := S.ms.set k (Mi.feed S.L S.b S.ms[k] [a.name] S.cs (S.now + a.n)).2.2.2, now := S.now + a.n }) := by
              show _ = _; rw [HSU.out]; unfold Mi.stepP Mi.fedR; rw [if_neg hd0, if_neg hd1, if_pos hd2, hm2, HPM.out]
            have hn := HAO.out.n hd2
            have hn1 : 0 ≤ a.n := hn.1
            have hn2 : a.n ≤ 1000000 := hn.2
            have hcs := HINV.out.cs
            have hms := (HINV.out.ms _ (List.getElem_mem hkS)).2
            have hfd : Hid (Calls Tryz.prog 69 #[.pointer (some ⟨p.mbs k, 0, none⟩), .pointer (some ⟨p.bb, 0, none⟩), .slice (some ⟨w2.heap.size, 0, none⟩) 1 1, .slice la S.cs.length lc, .int .i64 (S.now + a.n)] (w2.alloc (.cells #[.string ⟨a.name.toArray⟩] tStrM)) fun e z' =>
                ∃ x, e = .returned x ∧ PlI W F z0 p { S with L := (Mi.feed S.L S.b S.ms[k] [a.name] S.cs (S.now + a.n)).2.1, b := (Mi.feed S.L S.b S.ms[k] [a.name] S.cs (S.now + a.n)).2.2.1, ms := S.ms.set k (Mi.feed S.L S.b S.ms[k] [a.name] S.cs (S.now + a.n)).2.2.2, now := S.now + a.n } ⟨.slice (some ⟨ab, ao, none⟩) n0 ca, .slice la S.cs.length lc, .slice na L.length nc, .slice qa S.qs.length qc, L⟩ z') :=
              pl_feed HI2.out g hkS a.name (by have := HAO.out.name; omega) (S.now + a.n) (by unfold I64; omega) (by have := HLN.out.1; omega) (by omega) (by omega) ⟨by omega, fun t ht => by have := hcs.2 t ht; omega⟩ rfl
            clear hd0 hd1 hd2 HSU hcs hms hn hm2
            go_wp2_with fail
            (with_reducible refine (hfd.out).mono ?_)
            rintro _ w3 ⟨x3, rfl, h3⟩
            have hz := Lib.hid h3
            clear h3 hfd d0 d1' d2 d3' d4 d5
            -- the round's end: the list of answers L
            go_wp2_with fail
            go_roundw
            case rel => exact ⟨i + 1, by omega, by go_num, L, by rw [HS2.out], by rw [HS2.out]; exact hz.out⟩
            case measure => simp [intOf]; omega
          have hb2 : (a.do_ == 2) = false := by simp [hd2]
          by_cases hd3 : a.do_ = 3
          · have hb3 : (a.do_ == 3) = true := by simp [hd3]
            have hkS : k < S.ms.length := by rw [HLN.out.2]; exact HKLT.out
            have hm2 : Mi.mirOf S a = S.ms[k] := by rw [HMO.out, List.getD_eq_getElem?_getD, List.getElem?_eq_getElem hkS]; rfl
            obtain ⟨A, hA⟩ : ∃ A, Mi.answer S.ms[k] (Mi.quesOf a) = A := ⟨_, rfl⟩
            have HS2 : Hid (Mi.play s0 (l.take (i + 1)) = { S with an := S.an ++ [A], qs := S.qs ++ [Mi.quesOf a] }) := by
              show _ = _; rw [HSU.out]; unfold Mi.stepP; rw [if_neg hd0, if_neg hd1, if_neg hd2, if_pos hd3, hm2, hA]
            have hpa := fun (z : World) (h : PlI W F z0 p S ⟨.slice (some ⟨ab, ao, none⟩) n0 ca, .slice la S.cs.length lc, .slice na L.length nc, .slice qa S.qs.length qc, L⟩ z) => pl_answer h g hkS (Mi.quesOf a) ⟨HAW.out.k, HAW.out.n, by show a.name.length ≤ _; have := HAO.out.name; omega⟩
            rw [hA] at hpa
            have HPA := Lib.hid hpa
            have HSS : Hid (∀ z, Nw w2 z → z.cell? ⟨b, off + i * 6 + 2, none⟩ = some (.int .i64 a.kind) ∧ z.cell? ⟨b, off + i * 6 + 3, none⟩ = some (.int .i64 a.n) ∧ z.cell? ⟨b, off + i * 6 + 4, none⟩ = some (.string ⟨a.name.toArray⟩)) := fun z u => by
              obtain ⟨-, -, x2, x3, x4, -⟩ := HACT.out z (HI2.out.fam.nw0.trans u)
              exact ⟨x2, x3, x4⟩
            have hS := HSS.out w2.drew (Upd.refl _ _).drew
            have HQL : Hid (S.qs.length ≤ 30 ∧ L.length ≤ 30) := by
              have h1 := HINV.out.len
              have h2 := congrArg List.length HI2.out.rows.eL
              rw [List.length_map] at h2
              dsimp only at h2
              exact ⟨by omega, by omega⟩
            have nq : Nw w2 (w2.alloc (qObj (Mi.quesOf a))).drew := (nw_alloc w2 (qObj (Mi.quesOf a))).drew
            have kq : (w2.alloc (qObj (Mi.quesOf a))).drew.heap[w2.heap.size]? = some (qObj (Mi.quesOf a)) := Nw.keep (Upd.refl _ _).drew (heap_new w2 (qObj (Mi.quesOf a)))
            obtain ⟨wq, hwq⟩ : ∃ wq, (w2.alloc (qObj (Mi.quesOf a))).drew = wq := ⟨_, rfl⟩
            have HWQ : Hid ((w2.alloc (.cells #[.int .i64 a.kind, .int .i64 a.n, .string ⟨a.name.toArray⟩] tQue)).drew = wq) := hwq
            rw [hwq] at nq kq
            obtain ⟨bq, hbq⟩ : ∃ bq, w2.heap.size = bq := ⟨_, rfl⟩
            have Hbq := Lib.hid hbq
            rw [hbq] at kq
            have HIq := Lib.hid (HI2.out.nw nq)
            have HKQ := Lib.hid kq
            have HNQ := Lib.hid nq
            have HPQ : Hid (Calls Tryz.prog 13 #[.pointer (some ⟨p.mbs k, 0, none⟩), .agg #[.int .i64 a.kind, .int .i64 a.n, .string ⟨a.name.toArray⟩]] wq fun e w' => ∃ vi, e = .returned (.agg #[vi, .string ⟨A.text.toArray⟩, .bool A.has]) ∧ w'.ownsRow wq.heap.size tSigned 3 vi A.claims.length (flatS A.claims) ∧ Nw wq w') := HPA.out wq HIq.out
            clear hd0 hd1 hd2 hd3 HSU hm2 hA hpa nq kq hwq hbq HPA
            go_upto_region 30 with fail
            clear d1' d2 d3' d4 d5 d0
            refine wp_region_H 16 (fun _ => True) (fun z => z.cell? ⟨b, off + i * 6 + 2, none⟩ = some (.int .i64 a.kind) ∧ z.cell? ⟨b, off + i * 6 + 3, none⟩ = some (.int .i64 a.n) ∧ z.cell? ⟨b, off + i * 6 + 4, none⟩ = some (.string ⟨a.name.toArray⟩)) (by kernel_rfl) ?_
            refine wpAnyH_pure (i := 0) (v := ?_) rfl (by kernel_rfl) (by kernel_rfl) (by kernel_rfl) (by kernel_rfl) (by kernel_rfl) (fun _ _ _ h => h) (by rfl) ?_ (⟨fun _ => trivial, hS⟩) ?_
            rotate_left 1
            · (intro zz; go_simp; first | done | with_reducible rfl)
            (try simp only [Act.put, List.setIfInBounds_toArray, List.set_cons_zero, List.set_cons_succ])
            refine wpAnyH_pure (i := 1) (v := ?_) rfl (by kernel_rfl) (by kernel_rfl) (by kernel_rfl) (by kernel_rfl) (by kernel_rfl) (fun _ _ _ h => h) (by rfl) ?_ (⟨fun _ => trivial, hS⟩) ?_
            rotate_left 1
            · (intro zz; go_simp; first | done | with_reducible rfl)
            (try simp only [Act.put, List.setIfInBounds_toArray, List.set_cons_zero, List.set_cons_succ])
            refine wpAnyH_pure (i := 2) (v := ?_) rfl (by kernel_rfl) (by kernel_rfl) (by kernel_rfl) (by kernel_rfl) (by kernel_rfl) (fun _ _ _ h => h) (by rfl) ?_ (⟨fun _ => trivial, hS⟩) ?_
            rotate_left 1
            · (intro zz; go_simp; first | done | with_reducible rfl)
            (try simp only [Act.put, List.setIfInBounds_toArray, List.set_cons_zero, List.set_cons_succ])
            refine wpAnyH_pure (i := 3) (v := ?_) rfl (by kernel_rfl) (by kernel_rfl) (by kernel_rfl) (by kernel_rfl) (by kernel_rfl) (fun _ _ _ h => h) (by rfl) ?_ (⟨fun _ => trivial, hS⟩) ?_
            rotate_left 1
            · (intro zz; go_simp; first | done | with_reducible rfl)
            (try simp only [Act.put, List.setIfInBounds_toArray, List.set_cons_zero, List.set_cons_succ])
            refine wpAnyH_load2 (i := 4) (v := ?_) rfl (by kernel_rfl) (by kernel_rfl) (by kernel_rfl) (by kernel_rfl) (by kernel_rfl) (fun _ _ _ h => h) (by rfl) ?_ (⟨fun _ => trivial, hS⟩) ?_
            rotate_left 1
            · (intro zz hS2; obtain ⟨_, _, _⟩ := hS2; go_simp; first | done | with_reducible rfl)
            (try simp only [Act.put, List.setIfInBounds_toArray, List.set_cons_zero, List.set_cons_succ])
            refine wpAnyH_pure (i := 5) (v := ?_) rfl (by kernel_rfl) (by kernel_rfl) (by kernel_rfl) (by kernel_rfl) (by kernel_rfl) (fun _ _ _ h => h) (by rfl) ?_ (⟨fun _ => trivial, hS⟩) ?_
            rotate_left 1
            · (intro zz; go_simp; first | done | with_reducible rfl)
            (try simp only [Act.put, List.setIfInBounds_toArray, List.set_cons_zero, List.set_cons_succ])
            refine wpAnyH_pure (i := 6) (v := ?_) rfl (by kernel_rfl) (by kernel_rfl) (by kernel_rfl) (by kernel_rfl) (by kernel_rfl) (fun _ _ _ h => h) (by rfl) ?_ (⟨fun _ => trivial, hS⟩) ?_
            rotate_left 1
            · (intro zz; go_simp; first | done | with_reducible rfl)
            (try simp only [Act.put, List.setIfInBounds_toArray, List.set_cons_zero, List.set_cons_succ])
            refine wpAnyH_pure (i := 7) (v := ?_) rfl (by kernel_rfl) (by kernel_rfl) (by kernel_rfl) (by kernel_rfl) (by kernel_rfl) (fun _ _ _ h => h) (by rfl) ?_ (⟨fun _ => trivial, hS⟩) ?_
            rotate_left 1
            · (intro zz; go_simp; first | done | with_reducible rfl)
            (try simp only [Act.put, List.setIfInBounds_toArray, List.set_cons_zero, List.set_cons_succ])
            refine wpAnyH_pure (i := 8) (v := ?_) rfl (by kernel_rfl) (by kernel_rfl) (by kernel_rfl) (by kernel_rfl) (by kernel_rfl) (fun _ _ _ h => h) (by rfl) ?_ (⟨fun _ => trivial, hS⟩) ?_
            rotate_left 1
            · (intro zz; go_simp; first | done | with_reducible rfl)
            (try simp only [Act.put, List.setIfInBounds_toArray, List.set_cons_zero, List.set_cons_succ])
            refine wpAnyH_load2 (i := 9) (v := ?_) rfl (by kernel_rfl) (by kernel_rfl) (by kernel_rfl) (by kernel_rfl) (by kernel_rfl) (fun _ _ _ h => h) (by rfl) ?_ (⟨fun _ => trivial, hS⟩) ?_
            rotate_left 1
            · (intro zz hS2; obtain ⟨_, _, _⟩ := hS2; go_simp; first | done | with_reducible rfl)
            (try simp only [Act.put, List.setIfInBounds_toArray, List.set_cons_zero, List.set_cons_succ])
            refine wpAnyH_pure (i := 10) (v := ?_) rfl (by kernel_rfl) (by kernel_rfl) (by kernel_rfl) (by kernel_rfl) (by kernel_rfl) (fun _ _ _ h => h) (by rfl) ?_ (⟨fun _ => trivial, hS⟩) ?_
            rotate_left 1
            · (intro zz; go_simp; first | done | with_reducible rfl)
            (try simp only [Act.put, List.setIfInBounds_toArray, List.set_cons_zero, List.set_cons_succ])
            refine wpAnyH_pure (i := 11) (v := ?_) rfl (by kernel_rfl) (by kernel_rfl) (by kernel_rfl) (by kernel_rfl) (by kernel_rfl) (fun _ _ _ h => h) (by rfl) ?_ (⟨fun _ => trivial, hS⟩) ?_
            rotate_left 1
            · (intro zz; go_simp; first | done | with_reducible rfl)
            (try simp only [Act.put, List.setIfInBounds_toArray, List.set_cons_zero, List.set_cons_succ])
            refine wpAnyH_pure (i := 12) (v := ?_) rfl (by kernel_rfl) (by kernel_rfl) (by kernel_rfl) (by kernel_rfl) (by kernel_rfl) (fun _ _ _ h => h) (by rfl) ?_ (⟨fun _ => trivial, hS⟩) ?_
            rotate_left 1
            · (intro zz; go_simp; first | done | with_reducible rfl)
            (try simp only [Act.put, List.setIfInBounds_toArray, List.set_cons_zero, List.set_cons_succ])
            refine wpAnyH_pure (i := 13) (v := ?_) rfl (by kernel_rfl) (by kernel_rfl) (by kernel_rfl) (by kernel_rfl) (by kernel_rfl) (fun _ _ _ h => h) (by rfl) ?_ (⟨fun _ => trivial, hS⟩) ?_
            rotate_left 1
            · (intro zz; go_simp; first | done | with_reducible rfl)
            (try simp only [Act.put, List.setIfInBounds_toArray, List.set_cons_zero, List.set_cons_succ])
            refine wpAnyH_load2 (i := 14) (v := ?_) rfl (by kernel_rfl) (by kernel_rfl) (by kernel_rfl) (by kernel_rfl) (by kernel_rfl) (fun _ _ _ h => h) (by rfl) ?_ (⟨fun _ => trivial, hS⟩) ?_
            rotate_left 1
            · (intro zz hS2; obtain ⟨_, _, _⟩ := hS2; go_simp; first | done | with_reducible rfl)
            (try simp only [Act.put, List.setIfInBounds_toArray, List.set_cons_zero, List.set_cons_succ])
            refine wpAnyH_pure (i := 15) (v := ?_) rfl (by kernel_rfl) (by kernel_rfl) (by kernel_rfl) (by kernel_rfl) (by kernel_rfl) (fun _ _ _ h => h) (by rfl) ?_ (⟨fun _ => trivial, hS⟩) ?_
            rotate_left 1
            · (intro zz; go_simp; first | done | with_reducible rfl)
            (try simp only [Act.put, List.setIfInBounds_toArray, List.set_cons_zero, List.set_cons_succ])
            refine wpAnyH_one (i := 16) (by kernel_rfl) rfl (fun K hK => ?_)
            go_simp
            refine hK.out _ _ ⟨fun _ => trivial, HSS.out _ ((Upd.refl _ w2).drew.trans (nw_alloc _ _))⟩ ?_
            clear hK K
            (try simp only [Act.put, List.setIfInBounds_toArray, List.set_cons_zero, List.set_cons_succ])
            refine wpAnyH_one (i := 17) (by kernel_rfl) rfl (fun K hK => ?_)
            go_simp
            rw [HWQ.out]
            (try rw [Hbq.out])
            refine hK.out _ _ ⟨fun _ => trivial, HSS.out _ HNQ.out⟩ ?_
            clear hK K
            (try simp only [Act.put, List.setIfInBounds_toArray, List.set_cons_zero, List.set_cons_succ])
            refine wpAnyH_done (by kernel_rfl) ?_ _
            obtain ⟨f0, f1, f2⟩ := cell3 HKQ.out
            (try dsimp only [Mi.quesOf] at f0 f1 f2)
            clear HSS hS
            go_wp2_with fail
            (with_reducible refine (HPQ.out).mono ?_)
            rintro _ w4 ⟨vi, rfl, oi, u4⟩
            obtain ⟨via, vic, evi⟩ := own_slG oi
            subst evi
            have HU4 := Lib.hid u4
            have HI4 := Lib.hid (HIq.out.nw u4)
            have HON := Lib.hid HI4.out.rows.on
            have HOI := Lib.hid oi
            have hs04 : z0.heap.size ≤ w4.heap.size := HI4.out.mv.size
            have hg0 := HFW.out.2.2
            have hql := HQL.out.2
            clear oi u4 HPQ f0 f1 f2
            go_wp2_with (at_builtin; (refine wpList_appL rfl _ _ 31 rfl z0.heap.size tAns _ 3 48 Tryz.underlying31 infoAns rfl (by decide) _ _ _ rfl HON.out (ansC (.slice via A.claims.length vic, A)) (by show Value.slice _ _ _ = Value.slice _ _ _; simp) rfl ?c1 ?c2 ?c3 hs04 hg0 ?_))
            case c1 =>
              intro u hu
              simp only [ansC, List.mem_cons, List.not_mem_nil, or_false] at hu
              rcases hu with rfl | rfl | rfl <;> rfl
            case c2 => unfold maxLen; omega
            case c3 => omega
            intro v' w5 o5 u5 hob
            have h5 := HIq.out.ans HFW.out.1 HFW.out.2.1 (a := A) HU4.out (owns_base HOI.out HIq.out.mv.size) (fun j hj => (HOI.out.lt j hj).1) o5 u5 hob
            obtain ⟨na', nc', e5⟩ := own_slG o5
            subst e5
            have HI5 := Lib.hid h5
            have HKQ5 : Hid (w5.heap[bq]? = some (qObj (Mi.quesOf a))) := by
              refine u5.keep (Nw.keep HU4.out HKQ.out) (fun e => ?_)
              have h1 := (HI2.out.rows.on.lt bq e).2
              have := Hbq.out
              omega
            obtain ⟨f0, f1, f2⟩ := cell3 HKQ5.out
            (try dsimp only [Mi.quesOf] at f0 f1 f2)
            have HOQ := Lib.hid h5.rows.oq
            have hs05 : z0.heap.size ≤ w5.heap.size := h5.mv.size
            have hql2 := HQL.out.1
            clear h5 o5 u5 hob hs04 hql
            go_wp2_with (at_builtin; (refine wpList_appL rfl _ _ 32 rfl z0.heap.size tQue _ 3 32 Tryz.underlying32 infoQue rfl (by decide) _ _ _ rfl HOQ.out (queC (Mi.quesOf a)) (by show Value.slice _ _ _ = Value.slice _ _ _; simp) rfl ?c1 ?c2 ?c3 hs05 hg0 ?_))
            case c1 =>
              intro u hu
              simp only [queC, List.mem_cons, List.not_mem_nil, or_false] at hu
              rcases hu with rfl | rfl | rfl <;> rfl
            case c2 => unfold maxLen; omega
            case c3 => omega
            intro v' w6 o6 u6 hob
            have h6 := HI5.out.ask HFW.out.1 HFW.out.2.1 (q := Mi.quesOf a) o6 u6 hob
            have hz := Lib.hid h6
            clear h6 o6 u6 hob f0 f1 f2 hs05 hql2 hg0
            -- the round's end: the list of answers _
            go_wp2_with fail
            go_roundw
            case rel => exact ⟨i + 1, by omega, by go_num, _, by rw [HS2.out], by rw [HS2.out]; exact hz.out⟩
            case measure => simp [intOf]; omega
          have hb3 : (a.do_ == 3) = false := by simp [hd3]
          have HS2 : Hid (Mi.play s0 (l.take (i + 1)) = S) := by
            show _ = _; rw [HSU.out]; unfold Mi.stepP; rw [if_neg hd0, if_neg hd1, if_neg hd2, if_neg hd3]
          have hz := HI2
          clear hd0 hd1 hd2 hd3 HSU
          -- the round's end: the list of answers L
          go_wp2_with fail
          go_roundw
          case rel => exact ⟨i + 1, by omega, by go_num, L, by rw [HS2.out], by rw [HS2.out]; exact hz.out⟩
          case measure => simp [intOf]; omega
        · obtain rfl : i = l.length := by omega
          have h := HI.out
          rw [List.take_length] at h
          have hfin := Lib.hid (HEND.out p _ wr rfl rfl h)
          rw [List.take_length]
          clear h HI
          go_wp2_with fail
          (try simp only [Exit.inBlock, Exit.then])
          refine bodyPost_ret (played_results _ _) rfl ?_
          exact hfin.out
end Go.Proofs.YtagmlemlagbfkaaGreatDoor
namespace Go.Proofs.YtagmlemlagbfkaaGreatDoor
open Go.RowKit
set_option linter.unusedVariables false
set_option linter.unusedSimpArgs false
attribute [local irreducible] Calls

/-! ### Plain -/
namespace Mi
open Bk (Seal Sgn noSgn isKey Book)
open Vw (Made VOk accept)
theorem askS_vok {Lr : List Seal} {key : Int} {r : AskR} (h : VOk Lr key r.L) (s : Sgn) : VOk Lr key (askS Lr key r s).L := by
  unfold askS
  split <;> exact Vw.accept_ok h s
theorem ask_vok {Lr : List Seal} {key : Int} {L : List Sgn} (h : VOk Lr key L) (an : List Ans) : VOk Lr key (ask Lr key L an).L := by
  have hl : ∀ (l : List Sgn) (r : AskR), VOk Lr key r.L → VOk Lr key (askL Lr key r l).L := by
    intro l
    induction l with
    | nil => exact fun r h => h
    | cons s l ih => exact fun r h => ih _ (askS_vok h s)
  have ha : ∀ (l : List Ans) (r : AskR), VOk Lr key r.L → VOk Lr key (askA Lr key r l).L := by
    intro l
    induction l with
    | nil => exact fun r h => h
    | cons a l ih => exact fun r h => ih _ (hl a.claims r h)
  exact ha an _ h
structure BInv (key : Int) (L : List Seal) (b : Book) (M : List Sgn) (an : List Ans) (Lv : List Sgn) (now : Int) : Prop where
  made : Made key ⟨L, b⟩ M
  sub : ∀ s ∈ Lv, s ∈ M
  nd : Lv.Nodup
  told : ∀ a ∈ an, ∀ c ∈ a.claims, Told M c
  last : b.last ≤ now
  now : 0 ≤ now
/-- What is asked first. -/
theorem BInv.ask {key : Int} {L : List Seal} {b : Book} {M : List Sgn} {an : List Ans} {now : Int} (h : BInv key L b M an [] now) (bound : Int) :
    BInv key L b M an (ask L key [] an).L now ∧ (ask L key [] an).old = noSgn ∧ (ask L key [] an).odd = noSgn ∧ askE (ask L key [] an) now bound ≠ 21 ∧ (askE (ask L key [] an) now bound = 0 ↔ 0 ≤ Vw.age (ask L key [] an).L now ∧ Vw.age (ask L key [] an).L now ≤ bound) ∧
      (Vw.sizeOf (ask L key [] an).L).1 ≤ b.es.length ∧ (Vw.sizeOf (ask L key [] an).L).2 ≤ now := by
  obtain ⟨hc, -⟩ := ask_calm h.made an (L := []) (fun s hs => by cases hs) h.told
  obtain ⟨e1, e2⟩ := askE_calm hc now bound
  have hs : ∀ s ∈ (Mi.ask L key [] an).L, s ∈ M := hc.mem
  exact ⟨⟨h.made, hs, (ask_vok (VOk.nil _ _) an).nodup, h.told, h.last, h.now⟩, hc.old, hc.odd, e2, e1, h.made.size hs, time_le h.made hs h.last h.now⟩
theorem told_ok {key : Int} {x : Bk.St} {M : List Sgn} (h : Made key x M) (hl : x.L.length ≤ 1000000) {c : Sgn} (hc : Told M c) : SgnOk c := by
  rcases hc with hc | ⟨t, ht, rfl⟩
  · exact made_ok h hl hc
  · have h1 := made_ok h hl ht
    obtain ⟨r1, r2, -⟩ := Vw.log_spec (h.each t ht).2.2
    have h3 := text_len8 (Vw.claimOf t) (log_bounds (h.each t ht).2.2).1
    rw [r2] at h3
    refine ⟨h1.k, ?_, h1.m⟩
    show (t.text ++ [120]).length ≤ _
    rw [List.length_append]
    simp
    omega
end Mi
/-! ### The answers as a slice -/
theorem ansl_own {w : World} {B B' : Nat} {xv : Value} {L : AL} (h : w.ownsRow B tAns 3 xv L.length (flatA L)) (hi : ∀ q ∈ L, w.ownsRow B' tSigned 3 q.1 q.2.claims.length (flatS q.2.claims)) : AnsSl (fun i => (L.map (·.1)).getD i undef) w xv (L.map (·.2)) := by
  have hs : SlS 3 B w.heap.size w xv (L.map ansC) := SlS.of_owns h (by simp) (by omega) (fun y hy => by
    obtain ⟨z, _, rfl⟩ := List.mem_map.1 hy
    rfl)
  obtain ⟨a, cap, rfl, hm, hc⟩ := hs.open_
  rw [List.length_map] at hm
  refine ⟨a, cap, by rw [List.length_map, List.length_map], by rw [List.length_map]; exact hm, ?_⟩
  rcases hc with hc | ⟨b, off, rfl, -, -, -, hc⟩
  · exact Or.inl (by rw [List.map_eq_nil_iff] at hc ⊢; exact hc)
  · refine Or.inr ⟨b, off, rfl, fun i hii => ?_⟩
    have hil : i < L.length := by rw [List.length_map] at hii; exact hii
    have h2 := (hc i (by rw [List.length_map]; exact hil)).2
    simp only [List.getElem_map] at h2 ⊢
    have hv : (L.map (·.1)).getD i undef = L[i].1 := by rw [List.getD_eq_getElem?_getD, List.getElem?_map, List.getElem?_eq_getElem hil]; rfl
    rw [hv]
    exact ⟨by rw [← Nat.add_zero (off + i * 3), h2 0 (by omega)]; rfl, by rw [h2 1 (by omega)]; rfl, by rw [h2 2 (by omega)]; rfl, SgnSl.of_own (hi _ (List.getElem_mem hil))⟩
/-! ### A view beside -/
def cV (B : Nat) (p : PlR) (s : Mi.PS) (vb : Nat) (key : Int) (Lv : List Bk.Sgn) : Nat → Res := setC (cPl B p s) (s.ms.length + 2) (ViewC B vb p.rb key Lv)
structure MbI (W : World) (F : Nat → Prop) (z0 : World) (p : PlR) (s : Mi.PS) (v : PlV) (vb : Nat) (key : Int) (Lv : List Bk.Sgn) (z : World) : Prop where
  fam : At W (s.ms.length + 3) (cV W.heap.size p s vb key Lv) (FPl F v) z
  rows : PlRows z0.heap.size p s v z
  mv : MovesN W F z0 z
section
variable {W : World} {F : Nat → Prop} {z0 z z' : World} {p : PlR} {s s' : Mi.PS} {v : PlV} {vb : Nat} {key : Int} {Lv : List Bk.Sgn}
theorem MbI.nw (h : MbI W F z0 p s v vb key Lv z) (u : Nw z z') : MbI W F z0 p s v vb key Lv z' := ⟨h.fam.nw u, h.rows.nw u, h.mv.trans (Nw.upd _ u)⟩
theorem MbI.gl (h : MbI W F z0 p s v vb key Lv z) (g : Gl W) : Gl z := h.fam.gl g
/-! ### A mirror more -/
structure MbJ (W : World) (F : Nat → Prop) (z0 : World) (p : PlR) (s : Mi.PS) (v : PlV) (vb : Nat) (key : Int) (Lv : List Bk.Sgn) (mb : Nat) (m : Mi.Mir) (z : World) : Prop where
  fam : At W (s.ms.length + 4) (setC (cV W.heap.size p s vb key Lv) (s.ms.length + 3) (MirC W.heap.size mb m)) (FPl F v) z
  rows : PlRows z0.heap.size p s v z
  mv : MovesN W F z0 z
variable {mb : Nat} {m : Mi.Mir}
theorem MbJ.nw (h : MbJ W F z0 p s v vb key Lv mb m z) (u : Nw z z') : MbJ W F z0 p s v vb key Lv mb m z' := ⟨h.fam.nw u, h.rows.nw u, h.mv.trans (Nw.upd _ u)⟩
theorem MbJ.gl (h : MbJ W F z0 p s v vb key Lv mb m z) (g : Gl W) : Gl z := h.fam.gl g
end
end Go.Proofs.YtagmlemlagbfkaaGreatDoor
