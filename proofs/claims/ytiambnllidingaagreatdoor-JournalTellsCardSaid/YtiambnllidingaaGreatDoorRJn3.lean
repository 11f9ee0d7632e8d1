/- The program's disk and journal, and the reference's, side by side: what each call leaves of them. -/
import Derived.Test.YtiambnllidingaaGreatDoorRJn2
import Derived.Test.YtiambnllidingaaGreatDoorLawJS
namespace Go.Proofs.YtiambnllidingaaGreatDoor
open Go.RowKit
set_option linter.unusedVariables false
set_option linter.unusedSimpArgs false
attribute [local irreducible] Calls

/-- The reference's disk and perhaps its journal, made since w, in the blocks R. -/
def RX (w : World) (rb : Nat) (kq : Option (Nat × Jr.Jn)) (D : Dk.Disk) (R : Nat → Prop) (z : World) : Prop :=
  ∃ r, r.rb = rb ∧ RDAt w.heap.size z r D ∧ Nw w z ∧ (∀ k, r.foot k → R k) ∧ ∀ p, kq = some p → ∃ x, x.kb = p.1 ∧ RJAt w.heap.size z rb x p.2 ∧ ∀ k, x.foot k → R k
/-- Both sides: the program's disk is in the state D, the reference's in the state E; the blocks F are none of theirs. -/
def TS (w : World) (db : Nat) (jp : Option (Nat × Jr.Jn)) (D : Dk.Disk) (rb : Nat) (kq : Option (Nat × Jr.Jn)) (E : Dk.Disk) (F : Nat → Prop) (z : World) : Prop :=
  ∃ R, GS w db jp D (fun k => R k ∨ F k) z ∧ RX w rb kq E R z ∧ ∀ k, F k → ¬ R k
section
variable {w : World} {db rb : Nat} {jp jp' kq kq' : Option (Nat × Jr.Jn)} {D D' E E' : Dk.Disk} {R F F' : Nat → Prop} {z z' : World}
theorem RX.upd {S : Nat → Prop} (h : RX w rb kq E R z) (u : Upd S z z') (hs : ∀ k, R k → ¬ S k) (hw : ∀ k, S k → w.heap.size ≤ k) : RX w rb kq E R z' := by
  obtain ⟨r, e, h1, h2, h3, h4⟩ := h
  refine ⟨r, e, h1.upd u (fun k hk => hs k (h3 k hk)), h2.trans' u (fun k hk s => by have := hw k s; omega), h3, fun p hp => ?_⟩
  obtain ⟨x, e2, h5, h6⟩ := h4 p hp
  exact ⟨x, e2, h5.upd u (fun k hk => hs k (h6 k hk)), h6⟩
theorem TS.gl (h : TS w db jp D rb kq E F z) (g : Gl w) : Gl z := by obtain ⟨R, h, _⟩ := h; exact h.gl g
theorem TS.nw0 (h : TS w db jp D rb kq E F z) : Nw w z := by obtain ⟨R, h, _⟩ := h; exact h.nw0
theorem TS.nw (h : TS w db jp D rb kq E F z) (u : Nw z z') : TS w db jp D rb kq E F z' := by
  obtain ⟨R, h1, h2, h3⟩ := h
  exact ⟨R, h1.nw u, h2.upd u (fun k _ s => s) (fun k s => s.elim), h3⟩
theorem TS.keep (h : TS w db jp D rb kq E F z) (u : Nw z z') (hF : ∀ k, F' k → F k ∨ (z.heap.size ≤ k ∧ k < z'.heap.size)) : TS w db jp D rb kq E F' z' := by
  obtain ⟨R, h1, h2, h3⟩ := h
  have hR : ∀ k, R k → k < z.heap.size := fun k hk => by
    obtain ⟨d, _, _, _, h, _⟩ := h1
    exact (h k (Or.inl hk)).1
  refine ⟨R, h1.keep u (fun k hk => ?_), h2.upd u (fun k _ s => s) (fun k s => s.elim), fun k hk hr => ?_⟩
  · rcases hk with hk | hk
    · exact Or.inl (Or.inl hk)
    · exact (hF k hk).imp Or.inr id
  · rcases hF k hk with s | s
    · exact h3 k s hr
    · have := hR k hr; omega
theorem TS.forget (h : TS w db jp D rb kq E F z) : TS w db none D rb none E F z := by
  obtain ⟨R, h1, ⟨r, e, k1, k2, k3, k4⟩, h3⟩ := h
  exact ⟨R, h1.forget, ⟨r, e, k1, k2, k3, fun p hp => by cases hp⟩, h3⟩
/-- A call of the program's side. -/
theorem TS.prog (h : TS w db jp D rb kq E F z) {Q : Ending → Prop} {P : Program} {f : FuncId} {args : Array Value}
    (c : ∀ R, GS w db jp D R z → Calls P f args z fun e z' => Q e ∧ GS w db jp' D' R z' ∧ Moves w R z z') : Calls P f args z fun e z' => Q e ∧ TS w db jp' D' rb kq E F z' ∧ Moves w F z z' := by
  obtain ⟨R, h1, h2, h3⟩ := h
  exact (c _ h1).mono fun e z' ⟨q, k1, k2⟩ => ⟨q, ⟨R, k1, h2.upd k2 (fun k hk s => s.1 (Or.inl hk)) (fun k s => s.2), h3⟩, k2.mono (fun k _ s => ⟨fun f => s.1 (Or.inr f), s.2⟩)⟩
/-- A call of the reference's disk alone. -/
theorem TS.rdisk {r : RdR} {R : Nat → Prop} (h1 : GS w db jp D (fun k => R k ∨ F k) z) (hF : ∀ k, F k → ¬ R k) (e : r.rb = rb) (k1 : RDAt w.heap.size z r E) (k2 : Nw w z) (k3 : ∀ k, r.foot k → R k) (k4 : ∀ p, kq = some p → ∃ x, x.kb = p.1 ∧ RJAt w.heap.size z rb x p.2 ∧ ∀ k, x.foot k → R k)
    (t : RDTo w.heap.size r E' z z') : TS w db jp D rb kq E' F z' ∧ Moves w F z z' := by
  obtain ⟨r', a, b, c, d⟩ := t
  have hlo : ∀ k, r.foot k → w.heap.size ≤ k := fun k hk => (k1.foot_lt hk).1
  have hFz : ∀ k, F k → k < z.heap.size := fun k hk => by
    obtain ⟨d, _, _, _, h, _⟩ := h1
    exact (h k (Or.inr hk)).1
  have hnew : ∀ p, kq = some p → ∃ x, x.kb = p.1 ∧ RJAt w.heap.size z' rb x p.2 ∧ ∀ k, x.foot k → R k := fun p hp => by
    obtain ⟨x, e2, h5, h6⟩ := k4 p hp
    exact ⟨x, e2, h5.upd c (fun k hk s => rj_apart k1 h5 s hk), h6⟩
  refine ⟨⟨fun k => R k ∨ r'.foot k, h1.upd_keep c (fun k s => Or.inl ⟨Or.inl (k3 k s), hlo k s⟩) (fun k hk => ?_), ⟨r', b.trans e, a, k2.trans' c (fun k hk s => by have := hlo k s; omega), fun k hk => Or.inr hk, fun p hp => ?_⟩, fun k hk hr => ?_⟩, c.mono (fun k _ s => ⟨fun f => hF k f (k3 k s), hlo k s⟩)⟩
  · rcases hk with (hk | hk) | hk
    · exact Or.inl (Or.inl hk)
    · rcases d k hk with s | s
      · exact Or.inl (Or.inl (k3 k s))
      · exact Or.inr ⟨s, (a.foot_lt hk).2⟩
    · exact Or.inl (Or.inr hk)
  · obtain ⟨x, e2, h5, h6⟩ := hnew p hp
    exact ⟨x, e2, h5, fun k hk => Or.inl (h6 k hk)⟩
  · rcases hr with hr | hr
    · exact hF k hk hr
    · rcases d k hr with s | s
      · exact hF k hk (k3 k s)
      · have := hFz k hk; omega
/-- A call of the reference's journal. -/
theorem TS.rjrn {p : Nat × Jr.Jn} {j' : Jr.Jn} {r : RdR} {x : RjR} {R : Nat → Prop} (h1 : GS w db jp D (fun k => R k ∨ F k) z) (hF : ∀ k, F k → ¬ R k) (e : r.rb = rb) (e2 : x.kb = p.1) (k1 : RDAt w.heap.size z r E) (k2 : Nw w z) (k3 : ∀ k, r.foot k → R k) (k4 : RJAt w.heap.size z rb x p.2) (k5 : ∀ k, x.foot k → R k)
    (t : RSTo w.heap.size r x E' j' z z') : TS w db jp D rb (some (p.1, j')) E' F z' ∧ Moves w F z z' := by
  obtain ⟨r', x', a, b, c, d, f⟩ := t
  have hlo : ∀ k, r.foot k ∨ x.foot k → w.heap.size ≤ k := fun k hk => hk.elim (fun s => (k1.foot_lt s).1) (fun s => (k4.foot_lt s).1)
  have hR : ∀ k, r.foot k ∨ x.foot k → R k := fun k hk => hk.elim (k3 k) (k5 k)
  have hFz : ∀ k, F k → k < z.heap.size := fun k hk => by
    obtain ⟨d, _, _, _, h, _⟩ := h1
    exact (h k (Or.inr hk)).1
  have hlt : ∀ k, r'.foot k ∨ x'.foot k → k < z'.heap.size := fun k hk => hk.elim (fun s => (a.disk.foot_lt s).2) (fun s => (a.jrn.foot_lt s).2)
  refine ⟨⟨fun k => r'.foot k ∨ x'.foot k, h1.upd_keep d (fun k s => Or.inl ⟨Or.inl (hR k s), hlo k s⟩) (fun k hk => ?_), ⟨r', b.trans e, a.disk, k2.trans' d (fun k hk s => by have := hlo k s; omega), fun k hk => Or.inl hk, fun q hq => ?_⟩, fun k hk hr => ?_⟩, d.mono (fun k _ s => ⟨fun f => hF k f (hR k s), hlo k s⟩)⟩
  · rcases hk with hk | hk
    · rcases f k hk with s | s
      · exact Or.inl (Or.inl (hR k s))
      · exact Or.inr ⟨s, hlt k hk⟩
    · exact Or.inl (Or.inr hk)
  · obtain rfl := Option.some.inj hq
    exact ⟨x', c.trans e2, by have := a.jrn; rw [b, e] at this; exact this, fun k hk => Or.inr hk⟩
  · rcases f k hr with s | s
    · exact hF k hk (hR k s)
    · have := hFz k hk; omega
theorem rstart_t (h : TS w db jp D rb kq E F z) : Calls Tryz.prog 26 #[.pointer (some ⟨rb, 0, none⟩)] z fun e z' => e = .returned (.tuple #[]) ∧ TS w db jp D rb kq (Dk.start E) F z' ∧ Moves w F z z' := by
  obtain ⟨R, h1, ⟨r, e, k1, k2, k3, k4⟩, hF⟩ := h
  subst e
  exact (start_rd k1).mono fun e z' ⟨he, t⟩ => ⟨he, TS.rdisk h1 hF rfl k1 k2 k3 k4 t⟩
theorem rlose_t (h : TS w db jp D rb kq E F z) {n : Int} (hn : I64 n) : Calls Tryz.prog 20 #[.pointer (some ⟨rb, 0, none⟩), .int .i64 n] z fun e z' => e = .returned (.tuple #[]) ∧ TS w db jp D rb kq (Dk.lose E n) F z' ∧ Moves w F z z' := by
  obtain ⟨R, h1, ⟨r, e, k1, k2, k3, k4⟩, hF⟩ := h
  subst e
  exact (lose_rd k1 hn).mono fun e z' ⟨he, t⟩ => ⟨he, TS.rdisk h1 hF rfl k1 k2 k3 k4 t⟩
theorem rarm_t (h : TS w db jp D rb kq E F z) (g : Gl w) {n : Int} (hn : I64 n) (lo hi : Nat) (hhi : hi ≤ w.heap.size) (v : Value) (keep : List Int) (hkI : ∀ x ∈ keep, I64 x) (hs : Sl lo hi z v (keep.map intD)) (hL : keep.length ≤ 1000000000) :
    Calls Tryz.prog 22 #[.pointer (some ⟨rb, 0, none⟩), .int .i64 n, v] z fun e z' => e = .returned (.tuple #[]) ∧ TS w db jp D rb kq (Dk.arm E n keep) F z' ∧ Moves w F z z' := by
  have hg := h.gl g
  obtain ⟨R, h1, ⟨r, e, k1, k2, k3, k4⟩, hF⟩ := h
  subst e
  exact (arm_rd k1 hg hn lo hi hhi v keep hkI hs hL).mono fun e z' ⟨he, t⟩ => ⟨he, TS.rdisk h1 hF rfl k1 k2 k3 k4 t⟩
theorem rcrash_t (h : TS w db jp D rb kq E F z) (g : Gl w) (lo hi : Nat) (hhi : hi ≤ w.heap.size) (v : Value) (keep : List Int) (hkI : ∀ x ∈ keep, I64 x) (hs : Sl lo hi w v (keep.map intD)) :
    Calls Tryz.prog 24 #[.pointer (some ⟨rb, 0, none⟩), v] z fun e z' => e = .returned (.tuple #[]) ∧ TS w db jp D rb kq (Dk.crash E keep) F z' ∧ Moves w F z z' := by
  have hg := h.gl g
  obtain ⟨R, h1, ⟨r, e, k1, k2, k3, k4⟩, hF⟩ := h
  subst e
  refine (crash_r k1 hg k2.size lo hi v keep (fun y u => (hs.nw k2).upd u (fun k _ hk s => ?_)) hkI).mono fun e z' ⟨he, t⟩ => ⟨he, TS.rdisk h1 hF rfl k1 k2 k3 k4 t⟩
  have := (k1.foot_lt (k := k) (Or.inl s)).1
  omega
theorem rread_t (h : TS w db jp D rb kq E F z) {f i n : Int} (hf : I64 f) (hi : I64 i) (hn : I64 n) :
    Calls Tryz.prog 31 #[.pointer (some ⟨rb, 0, none⟩), .int .i64 f, .int .i64 i, .int .i64 n] z fun e z' => e = .returned (.tuple #[.string ⟨(Dk.read E f i n).1.toArray⟩, .int .i64 (Dk.read E f i n).2]) ∧ TS w db jp D rb kq E F z' := by
  have hn0 := fun z' (u : Nw z z') => h.nw u
  obtain ⟨R, h1, ⟨r, e, k1, k2, k3, k4⟩, hF⟩ := h
  subst e
  exact (read_rd k1 hf hi hn).mono fun e z' ⟨he, t⟩ => ⟨he, hn0 _ t⟩
theorem rsize_t (h : TS w db jp D rb kq E F z) (f : Int) :
    Calls Tryz.prog 32 #[.pointer (some ⟨rb, 0, none⟩), .int .i64 f] z fun e z' => e = .returned (.int .i64 (Dk.size E f)) ∧ TS w db jp D rb kq E F z' := by
  have hn0 := fun z' (u : Nw z z') => h.nw u
  obtain ⟨R, h1, ⟨r, e, k1, k2, k3, k4⟩, hF⟩ := h
  subst e
  exact (size_r k1 f).mono fun e z' ⟨he, t⟩ => ⟨he, hn0 _ t⟩
theorem rjsync_t {p : Nat × Jr.Jn} (h : TS w db jp D rb (some p) E F z) (g : Gl w) :
    Calls Tryz.prog 18 #[.pointer (some ⟨p.1, 0, none⟩)] z fun e z' => e = .returned (.int .i64 (Jr.syncJ E p.2).2.2) ∧ TS w db jp D rb (some (p.1, (Jr.syncJ E p.2).2.1)) (Jr.syncJ E p.2).1 F z' ∧ Moves w F z z' := by
  have hg := h.gl g
  obtain ⟨R, h1, ⟨r, e, k1, k2, k3, k4⟩, hF⟩ := h
  obtain ⟨x, e2, k5, k6⟩ := k4 p rfl
  subst e
  rw [← e2]
  refine (JSync_q (x := x) (j := p.2) ⟨k1, k5⟩ hg k2.size).mono fun e' z' ⟨he, t⟩ => ⟨he, ?_⟩
  have := TS.rjrn h1 hF rfl e2 k1 k2 k3 k5 k6 t
  rw [← e2] at this
  exact this
theorem rappend_t {p : Nat × Jr.Jn} (h : TS w db jp D rb (some p) E F z) (g : Gl w) (s : List UInt8) (hs : s.length ≤ 1000000) :
    Calls Tryz.prog 16 #[.pointer (some ⟨p.1, 0, none⟩), .string ⟨s.toArray⟩] z fun e z' => e = .returned (.int .i64 (Jr.append E p.2 s).2.2) ∧ TS w db jp D rb (some (p.1, (Jr.append E p.2 s).2.1)) (Jr.append E p.2 s).1 F z' ∧ Moves w F z z' := by
  have hg := h.gl g
  obtain ⟨R, h1, ⟨r, e, k1, k2, k3, k4⟩, hF⟩ := h
  obtain ⟨x, e2, k5, k6⟩ := k4 p rfl
  subst e
  rw [← e2]
  refine (Append_q (x := x) (j := p.2) ⟨k1, k5⟩ hg k2.size s hs).mono fun e' z' ⟨he, t⟩ => ⟨he, ?_⟩
  have := TS.rjrn h1 hF rfl e2 k1 k2 k3 k5 k6 t
  rw [← e2] at this
  exact this
theorem ropen_t (h : TS w db jp D rb kq E F z) (g : Gl w) {f : Int} (hf : I64 f) :
    Calls Tryz.prog 12 #[.pointer (some ⟨rb, 0, none⟩), .int .i64 f] z fun e z' => ∃ kq' : Option (Nat × Jr.Jn), kq'.map (·.2) = (Jr.openJ E f).2.1 ∧ e = .returned (.tuple #[ptrJ kq', .int .i64 (Jr.openJ E f).2.2]) ∧ TS w db jp D rb kq' (Jr.openJ E f).1 F z' ∧ Moves w F z z' := by
  have hg := h.gl g
  obtain ⟨R, h1, ⟨r, e, k1, k2, k3, k4⟩, hF⟩ := h
  subst e
  refine (Open_q k1 hg k2.size hf).mono fun e z' ⟨pv, he, ht⟩ => ?_
  unfold ROpenTo at ht
  cases hj : (Jr.openJ E f).2.1 with
  | none =>
    rw [hj] at ht
    obtain ⟨hp, ht⟩ := ht
    exact ⟨none, rfl, by rw [he, hp]; rfl, TS.rdisk (kq := none) h1 hF rfl k1 k2 k3 (fun p hp => by cases hp) ht⟩
  | some j =>
    rw [hj] at ht
    obtain ⟨r', x, hp, a, b, c, d, f'⟩ := ht
    have hFz : ∀ k, F k → k < z.heap.size := fun k hk => by
      obtain ⟨d, _, _, _, h, _⟩ := h1
      exact (h k (Or.inr hk)).1
    refine ⟨some (x.kb, j), rfl, by rw [he, hp]; rfl, ⟨fun k => R k ∨ r'.foot k ∨ x.foot k, h1.upd_keep c (fun k s => Or.inl ⟨Or.inl (k3 k s), (k1.foot_lt s).1⟩) (fun k hk => ?_), ⟨r', b, a.disk, k2.trans' c (fun k hk s => by have := (k1.foot_lt s).1; omega), fun k hk => Or.inr (Or.inl hk), fun p hp => ?_⟩, fun k hk hr => ?_⟩, c.mono (fun k _ s => ⟨fun f => hF k f (k3 k s), (k1.foot_lt s).1⟩)⟩
    · rcases hk with (hk | hk | hk) | hk
      · exact Or.inl (Or.inl hk)
      · rcases d k hk with s | s
        · exact Or.inl (Or.inl (k3 k s))
        · exact Or.inr ⟨s, (a.disk.foot_lt hk).2⟩
      · exact Or.inr ⟨f' k hk, (a.jrn.foot_lt hk).2⟩
      · exact Or.inl (Or.inr hk)
    · obtain rfl := Option.some.inj hp
      exact ⟨x, rfl, by have := a.jrn; rw [b] at this; exact this, fun k hk => Or.inr (Or.inr hk)⟩
    · have := hFz k hk
      rcases hr with hr | hr | hr
      · exact hF k hk hr
      · rcases d k hr with s | s
        · exact hF k hk (k3 k s)
        · omega
      · have := f' k hr; omega
/-- The reference's list, as the statement reads it. -/
theorem TS.list {p : Nat × Jr.Jn} (h : TS w db jp D rb (some p) E F z) : ∃ v, z.cell? ⟨p.1, 2, none⟩ = some v ∧ z.ownsRow w.heap.size tStrJ 1 v p.2.recs.length (p.2.recs.map bsV) := by
  obtain ⟨R, h1, ⟨r, e, k1, k2, k3, k4⟩, hF⟩ := h
  obtain ⟨x, e2, k5, k6⟩ := k4 p rfl
  exact ⟨x.lv, by rw [← e2]; exact k5.cells.2.2.1, k5.own⟩
theorem ts_new (h1 : GS w db none D (fun _ => False) z) {r : RdR} (k1 : RDAt z.heap.size z' r E) (u : Nw z z') : TS w db none D r.rb none E (fun _ => False) z' := by
  have hz := h1.nw0.size
  obtain ⟨d, hd⟩ := h1.dpart
  obtain ⟨l, a, b⟩ := k1.files
  exact ⟨r.foot, h1.keep u (fun k hk => Or.inr (k1.foot_lt (hk.resolve_right id))), ⟨r, rfl, ⟨hd.2.hb, Nat.le_trans hz k1.rb, k1.blk, ⟨l, owns_base a hz, b⟩, owns_base k1.queue hz, owns_base k1.keep hz, k1.ok, k1.kI⟩, h1.nw0.trans u, fun k hk => hk, fun p hp => by cases hp⟩, fun k hk => hk.elim⟩
theorem topen_t (h : TS w db jp D rb kq E F z) (g : Gl w) {f : Int} (hf : I64 f) :
    Calls Tryz.prog 11 #[.pointer (some ⟨db, 0, none⟩), .int .i64 f] z fun e z' => ∃ jp' : Option (Nat × Jr.Jn), jp'.map (·.2) = (Jr.openJ D f).2.1 ∧ e = .returned (.tuple #[ptrJ jp', .int .i64 (Jr.openJ D f).2.2]) ∧ TS w db jp' (Jr.openJ D f).1 rb kq E F z' ∧ Moves w F z z' := by
  obtain ⟨R, h1, h2, h3⟩ := h
  exact (open_t h1 g hf).mono fun e z' ⟨pv, he, ⟨jp', a, b, c⟩, m⟩ => ⟨jp', a, by rw [he, b], ⟨R, c, h2.upd m (fun k hk s => s.1 (Or.inl hk)) (fun k s => s.2), h3⟩, m.mono (fun k _ s => ⟨fun f => s.1 (Or.inr f), s.2⟩)⟩
theorem tappend_t {p : Nat × Jr.Jn} (h : TS w db (some p) D rb kq E F z) (g : Gl w) (s : List UInt8) (hs : s.length ≤ 1000000) :
    Calls Tryz.prog 15 #[.pointer (some ⟨p.1, 0, none⟩), .string ⟨s.toArray⟩] z fun e z' => e = .returned (.int .i64 (Jr.append D p.2 s).2.2) ∧ TS w db (some (p.1, (Jr.append D p.2 s).2.1)) (Jr.append D p.2 s).1 rb kq E F z' ∧ Moves w F z z' :=
  h.prog fun R h1 => append_t h1 g s hs
theorem tsync_t {p : Nat × Jr.Jn} (h : TS w db (some p) D rb kq E F z) (g : Gl w) :
    Calls Tryz.prog 17 #[.pointer (some ⟨p.1, 0, none⟩)] z fun e z' => e = .returned (.int .i64 (Jr.syncJ D p.2).2.2) ∧ TS w db (some (p.1, (Jr.syncJ D p.2).2.1)) (Jr.syncJ D p.2).1 rb kq E F z' ∧ Moves w F z z' :=
  h.prog fun R h1 => jsync_t h1 g
theorem tlose_t (h : TS w db jp D rb kq E F z) {n : Int} (hn : I64 n) : Calls Tryz.prog 19 #[.pointer (some ⟨db, 0, none⟩), .int .i64 n] z fun e z' => e = .returned (.tuple #[]) ∧ TS w db jp (Dk.lose D n) rb kq E F z' ∧ Moves w F z z' :=
  h.prog fun R h1 => lose_t h1 hn
theorem tstart_t (h : TS w db jp D rb kq E F z) : Calls Tryz.prog 25 #[.pointer (some ⟨db, 0, none⟩)] z fun e z' => e = .returned (.tuple #[]) ∧ TS w db jp (Dk.start D) rb kq E F z' ∧ Moves w F z z' :=
  h.prog fun R h1 => start_t h1
theorem tarm_t (h : TS w db jp D rb kq E F z) (g : Gl w) {n : Int} (hn : I64 n) (lo hi : Nat) (v : Value) (keep : List Int) (hkI : ∀ x ∈ keep, I64 x) (hs : Sl lo hi z v (keep.map intD)) (hL : keep.length ≤ 1000000000) :
    Calls Tryz.prog 21 #[.pointer (some ⟨db, 0, none⟩), .int .i64 n, v] z fun e z' => e = .returned (.tuple #[]) ∧ TS w db jp (Dk.arm D n keep) rb kq E F z' ∧ Moves w F z z' :=
  h.prog fun R h1 => arm_t h1 g hn lo hi v keep hkI hs hL
theorem tcrash_t (h : TS w db jp D rb kq E F z) (g : Gl w) (lo hi : Nat) (hhi : hi ≤ w.heap.size) (v : Value) (keep : List Int) (hkI : ∀ x ∈ keep, I64 x) (hs : Sl lo hi w v (keep.map intD)) :
    Calls Tryz.prog 23 #[.pointer (some ⟨db, 0, none⟩), v] z fun e z' => e = .returned (.tuple #[]) ∧ TS w db jp (Dk.crash D keep) rb kq E F z' ∧ Moves w F z z' :=
  h.prog fun R h1 => crash_t h1 g lo hi hhi v keep hkI hs
theorem tread_t (h : TS w db jp D rb kq E F z) {f i n : Int} (hf : I64 f) (hi : I64 i) (hn : I64 n) :
    Calls Tryz.prog 29 #[.pointer (some ⟨db, 0, none⟩), .int .i64 f, .int .i64 i, .int .i64 n] z fun e z' => e = .returned (.tuple #[.string ⟨(Dk.read D f i n).1.toArray⟩, .int .i64 (Dk.read D f i n).2]) ∧ z = z' := by
  obtain ⟨R, h1, h2⟩ := h
  exact read_t h1 hf hi hn
theorem tsize_t (h : TS w db jp D rb kq E F z) {f : Int} (hf : I64 f) :
    Calls Tryz.prog 30 #[.pointer (some ⟨db, 0, none⟩), .int .i64 f] z fun e z' => e = .returned (.int .i64 (Dk.size D f)) ∧ z = z' := by
  obtain ⟨R, h1, h2⟩ := h
  exact size_t h1 hf
theorem tsize_i64 (h : TS w db jp D rb kq E F z) (f : Int) : I64 (Dk.size D f) := by
  obtain ⟨R, h1, h2⟩ := h
  have := h1.ok.now f
  unfold Dk.size I64
  omega
/-- 'SameTexts(j.All(), k.L)': the first call, and what the second one will answer. -/
theorem ts_same {a b : Nat} {j : Jr.Jn} (h : TS w db (some (a, j)) D rb (some (b, j)) E F z) (g : Gl w) {aq : Option Addr} {nq capq : Nat} (hc : z.cell? ⟨b, 2, none⟩ = some (.slice aq nq capq)) :
    Calls Tryz.prog 28 #[.pointer (some ⟨a, 0, none⟩)] z fun e w' => ∃ a' n cap, e = .returned (.slice a' n cap) ∧ w'.cell? ⟨b, 2, none⟩ = some (.slice aq nq capq) ∧
      Calls Tryz.prog 27 #[.slice a' n cap, .slice aq nq capq] w' fun e w2 => e = .returned (.bool true) ∧ w2.cell? ⟨b, 2, none⟩ = some (.slice aq nq capq) ∧ TS w db (some (a, j)) D rb (some (b, j)) E F w2 ∧ Nw z w2 := by
  have hn := fun z' (u : Nw z z') => h.nw u
  obtain ⟨v, h2, h3⟩ := h.list
  rw [h2] at hc
  obtain rfl := Option.some.inj hc
  obtain ⟨R, h1, _⟩ := h
  refine (all_t h1 g).mono ?_
  rintro e w' ⟨v', rfl, o, u⟩
  obtain ⟨a', c', rfl⟩ := own_slD o
  refine ⟨a', _, c', rfl, later_cell ⟨w', u⟩ h2, (SameTextsQ _ _ _ _ _ _ j.recs j.recs w' (Sl.of_owns o) (Sl.of_owns (owns_updD h3 u (fun _ _ e => e)))).mono fun e w2 ⟨d1, d2⟩ => ⟨?_, later_cell ⟨w2, u.trans d2⟩ h2, hn _ (u.trans d2), u.trans d2⟩⟩
  rw [d1, decide_eq_true rfl]
end
end Go.Proofs.YtiambnllidingaaGreatDoor
