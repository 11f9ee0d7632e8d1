/- A disk and perhaps a journal on it, apart from blocks that are kept: the calls of the statements of chapter 03; small. -/
import Derived.Test.YtiambnllidingaaGreatDoorJrn5
import Derived.Test.YtiambnllidingaaGreatDoorJrnX
import Derived.Test.YtiambnllidingaaGreatDoorRefT
namespace Go.Proofs.YtiambnllidingaaGreatDoor
open Go.RowKit
set_option linter.unusedVariables false
set_option linter.unusedSimpArgs false
attribute [local irreducible] Calls

/-- A disk, perhaps a journal on it (its block, its state), all of it made since w; the blocks F are none of theirs. -/
def GS (w : World) (db : Nat) (jp : Option (Nat × Jr.Jn)) (D : Dk.Disk) (F : Nat → Prop) (z : World) : Prop :=
  ∃ d, d.db = db ∧ DiskAt w.heap.size z d D ∧ Nw w z ∧ (∀ k, F k → k < z.heap.size ∧ ¬ d.foot k) ∧
    ∀ p, jp = some p → ∃ x, x.jb = p.1 ∧ JrnAt w.heap.size z db x p.2 ∧ (∀ k, d.foot k → ¬ x.foot k) ∧ ∀ k, F k → ¬ x.foot k
def ptrJ : Option (Nat × Jr.Jn) → Value
  | none => .pointer none
  | some p => .pointer (some ⟨p.1, 0, none⟩)
section
variable {w : World} {db : Nat} {jp : Option (Nat × Jr.Jn)} {D D' : Dk.Disk} {F F' S : Nat → Prop} {z z' : World}
theorem GS.nw0 (h : GS w db jp D F z) : Nw w z := by obtain ⟨d, _, _, h, _⟩ := h; exact h
theorem GS.gl (h : GS w db jp D F z) (g : Gl w) : Gl z := g.upd h.nw0
theorem GS.upd (h : GS w db jp D F z) (u : Upd S z z') (hs : ∀ k, S k → (F k ∧ w.heap.size ≤ k) ∨ z.heap.size ≤ k) : GS w db jp D F z' := by
  obtain ⟨d, e, h1, h2, h3, h4⟩ := h
  have hz := u.size
  have hw := h2.size
  refine ⟨d, e, h1.upd u (fun k hk s => ?_), h2.trans' u (fun k hk s => ?_), fun k hk => ⟨by have := (h3 k hk).1; omega, (h3 k hk).2⟩, fun p hp => ?_⟩
  · rcases hs k s with a | a
    · exact (h3 k a.1).2 hk
    · have := (h1.foot_lt hk).2; omega
  · rcases hs k s with a | a <;> omega
  · obtain ⟨x, e2, h5, h6, h7⟩ := h4 p hp
    refine ⟨x, e2, h5.upd u (fun k hk s => ?_), h6, h7⟩
    rcases hs k s with a | a
    · exact h7 k a.1 hk
    · have := (h5.foot_lt hk).2; omega
theorem GS.nw (h : GS w db jp D F z) (u : Nw z z') : GS w db jp D F z' := h.upd u (fun k s => s.elim)
/-- Blocks that have come since are kept from now on. -/
theorem GS.keep (h : GS w db jp D F z) (u : Nw z z') (hF : ∀ k, F' k → F k ∨ (z.heap.size ≤ k ∧ k < z'.heap.size)) : GS w db jp D F' z' := by
  obtain ⟨d, e, h1, h2, h3, h4⟩ := h
  have hz := u.size
  refine ⟨d, e, h1.nw u, h2.trans u, fun k hk => ?_, fun p hp => ?_⟩
  · rcases hF k hk with a | a
    · exact ⟨by have := (h3 k a).1; omega, (h3 k a).2⟩
    · exact ⟨a.2, fun e => by have := (h1.foot_lt e).2; omega⟩
  · obtain ⟨x, e2, h5, h6, h7⟩ := h4 p hp
    refine ⟨x, e2, h5.nw u, h6, fun k hk e3 => ?_⟩
    rcases hF k hk with a | a
    · exact h7 k a e3
    · have := (h5.foot_lt e3).2; omega
/-- A call of the disk alone. -/
theorem gs_disk {d : DiskR} (e : d.db = db) (h1 : DiskAt w.heap.size z d D) (h2 : Nw w z) (h3 : ∀ k, F k → k < z.heap.size ∧ ¬ d.foot k)
    (h4 : ∀ p, jp = some p → ∃ x, x.jb = p.1 ∧ JrnAt w.heap.size z db x p.2 ∧ (∀ k, d.foot k → ¬ x.foot k) ∧ ∀ k, F k → ¬ x.foot k) (t : DiskTo w.heap.size d D' z z') : GS w db jp D' F z' ∧ Upd (fun k => ¬ F k ∧ w.heap.size ≤ k) z z' := by
  obtain ⟨d', k1, k2, k3, k4⟩ := t
  have hz := k3.size
  have hw := h2.size
  refine ⟨⟨d', k2.trans e, k1, h2.trans' k3 (fun k hk s => by have := (h1.foot_lt s).1; omega), fun k hk => ⟨by have := (h3 k hk).1; omega, fun s => ?_⟩, fun p hp => ?_⟩, k3.mono (fun k _ s => ⟨fun f => (h3 k f).2 s, (h1.foot_lt s).1⟩)⟩
  · rcases k4 k s with a | a
    · exact (h3 k hk).2 a
    · have := (h3 k hk).1; omega
  · obtain ⟨x, e2, h5, h6, h7⟩ := h4 p hp
    refine ⟨x, e2, h5.upd k3 (fun k hk s => h6 k s hk), fun k hk s => ?_, h7⟩
    rcases k4 k hk with a | a
    · exact h6 k a s
    · have := (h5.foot_lt s).2; omega
/-- A call of the journal. -/
theorem gs_jrn {p : Nat × Jr.Jn} {j' : Jr.Jn} {d : DiskR} {x : JrnR} (e : d.db = db) (e2 : x.jb = p.1) (h1 : DiskAt w.heap.size z d D) (h2 : Nw w z) (h3 : ∀ k, F k → k < z.heap.size ∧ ¬ d.foot k)
    (h5 : JrnAt w.heap.size z db x p.2) (h7 : ∀ k, F k → ¬ x.foot k) (t : JTo w.heap.size d x D' j' z z') : GS w db (some (p.1, j')) D' F z' ∧ Upd (fun k => ¬ F k ∧ w.heap.size ≤ k) z z' := by
  obtain ⟨d', x', k1, k2, k3, k4, k5⟩ := t
  have hz := k4.size
  have hw := h2.size
  have hlo : ∀ k, d.foot k ∨ x.foot k → w.heap.size ≤ k := fun k s => s.elim (fun s => (h1.foot_lt s).1) (fun s => (h5.foot_lt s).1)
  have hno : ∀ k, F k → ¬ (d'.foot k ∨ x'.foot k) := fun k hk s => by
    rcases k5 k s with (a | a) | a
    · exact (h3 k hk).2 a
    · exact h7 k hk a
    · have := (h3 k hk).1; omega
  refine ⟨⟨d', k2.trans e, k1.disk, h2.trans' k4 (fun k hk s => by have := hlo k s; omega), fun k hk => ⟨by have := (h3 k hk).1; omega, fun s => hno k hk (Or.inl s)⟩, fun q hq => ?_⟩, k4.mono (fun k _ s => ⟨fun f => s.elim (h3 k f).2 (h7 k f), hlo k s⟩)⟩
  obtain rfl := Option.some.inj hq
  exact ⟨x', k3.trans e2, by have := k1.jrn; rw [k2.trans e] at this; exact this, k1.ap, fun k hk s => hno k hk (Or.inr s)⟩
theorem GS.forget (h : GS w db jp D F z) : GS w db none D F z := by
  obtain ⟨d, e, h1, h2, h3, h4⟩ := h
  exact ⟨d, e, h1, h2, h3, fun p hp => by cases hp⟩
theorem GS.parts {p : Nat × Jr.Jn} (h : GS w db (some p) D F z) : ∃ d x, d.db = db ∧ x.jb = p.1 ∧ JSys w.heap.size z d x D p.2 := by
  obtain ⟨d, e, h1, h2, h3, h4⟩ := h
  obtain ⟨x, e2, h5, h6, h7⟩ := h4 p rfl
  exact ⟨d, x, e, e2, ⟨h1, by rw [e]; exact h5, h6⟩⟩
theorem GS.dpart (h : GS w db jp D F z) : ∃ d, d.db = db ∧ DiskAt w.heap.size z d D := by
  obtain ⟨d, e, h1, h2, h3, h4⟩ := h
  exact ⟨d, e, h1⟩
theorem GS.ok (h : GS w db jp D F z) : Dk.Ok D := by obtain ⟨d, _, h⟩ := h.dpart; exact h.ok
/-! ### The calls -/
abbrev Moves (w : World) (F : Nat → Prop) (z z' : World) : Prop := Upd (fun k => ¬ F k ∧ w.heap.size ≤ k) z z'
theorem new_t (w : World) (g : Gl w) : Calls Tryz.prog 9 #[] w fun e z => ∃ db, e = .returned (.pointer (some ⟨db, 0, none⟩)) ∧ GS w db none Dk.new (fun _ => False) z :=
  (dnew_c w g).mono fun e z ⟨r, he, h, u⟩ => ⟨r.db, he, r, rfl, h, u, fun k hk => hk.elim, fun p hp => by cases hp⟩
/-- What Open makes. -/
def OS (w : World) (db : Nat) (D' : Dk.Disk) (jo : Option Jr.Jn) (F : Nat → Prop) (pv : Value) (z : World) : Prop :=
  ∃ jp : Option (Nat × Jr.Jn), jp.map (·.2) = jo ∧ pv = ptrJ jp ∧ GS w db jp D' F z
theorem open_t (h : GS w db jp D F z) (g : Gl w) {f : Int} (hf : I64 f) :
    Calls Tryz.prog 11 #[.pointer (some ⟨db, 0, none⟩), .int .i64 f] z fun e z' => ∃ pv, e = .returned (.tuple #[pv, .int .i64 (Jr.openJ D f).2.2]) ∧ OS w db (Jr.openJ D f).1 (Jr.openJ D f).2.1 F pv z' ∧ Moves w F z z' := by
  have hall := h
  obtain ⟨d, e, h1, h2, h3, h4⟩ := h
  subst e
  refine (Open_c h1 (hall.gl g) h2.size hf).mono fun e z' ⟨pv, he, ht⟩ => ⟨pv, he, ?_⟩
  unfold OpenTo at ht
  cases hj : (Jr.openJ D f).2.1 with
  | none =>
    rw [hj] at ht
    obtain ⟨hp, ht⟩ := ht
    obtain ⟨k1, k2⟩ := gs_disk (jp := none) rfl h1 h2 h3 (fun p hp => by cases hp) ht
    exact ⟨⟨none, rfl, hp, k1⟩, k2⟩
  | some j =>
    rw [hj] at ht
    obtain ⟨d', x, hp, k1, k2, k3, k4, k5⟩ := ht
    have hz := k3.size
    have hw := h2.size
    refine ⟨⟨some (x.jb, j), rfl, hp, d', k2, k1.disk, h2.trans' k3 (fun k hk s => by have := (h1.foot_lt s).1; omega), fun k hk => ⟨by have := (h3 k hk).1; omega, fun s => ?_⟩, fun p hp => ?_⟩, k3.mono (fun k _ s => ⟨fun f => (h3 k f).2 s, (h1.foot_lt s).1⟩)⟩
    · rcases k4 k s with a | a
      · exact (h3 k hk).2 a
      · have := (h3 k hk).1; omega
    · obtain rfl := Option.some.inj hp
      exact ⟨x, rfl, by have := k1.jrn; rw [k2] at this; exact this, k1.ap, fun k hk s => by have := (h3 k hk).1; have := k5 k s; omega⟩
theorem append_t {p : Nat × Jr.Jn} (h : GS w db (some p) D F z) (g : Gl w) (s : List UInt8) (hs : s.length ≤ 1000000) :
    Calls Tryz.prog 15 #[.pointer (some ⟨p.1, 0, none⟩), .string ⟨s.toArray⟩] z fun e z' => e = .returned (.int .i64 (Jr.append D p.2 s).2.2) ∧ GS w db (some (p.1, (Jr.append D p.2 s).2.1)) (Jr.append D p.2 s).1 F z' ∧ Moves w F z z' := by
  have hall := h
  obtain ⟨d, e, h1, h2, h3, h4⟩ := h
  obtain ⟨x, e2, h5, h6, h7⟩ := h4 p rfl
  rw [← e2]
  refine (Append_c (B := w.heap.size) (d := d) (x := x) (j := p.2) ⟨h1, by rw [e]; exact h5, h6⟩ (hall.gl g) h2.size s hs).mono fun e' z' ⟨he, t⟩ => ⟨he, ?_⟩
  have := gs_jrn e e2 h1 h2 h3 h5 h7 t
  rw [← e2] at this
  exact this
theorem jsync_t {p : Nat × Jr.Jn} (h : GS w db (some p) D F z) (g : Gl w) :
    Calls Tryz.prog 17 #[.pointer (some ⟨p.1, 0, none⟩)] z fun e z' => e = .returned (.int .i64 (Jr.syncJ D p.2).2.2) ∧ GS w db (some (p.1, (Jr.syncJ D p.2).2.1)) (Jr.syncJ D p.2).1 F z' ∧ Moves w F z z' := by
  have hall := h
  obtain ⟨d, e, h1, h2, h3, h4⟩ := h
  obtain ⟨x, e2, h5, h6, h7⟩ := h4 p rfl
  rw [← e2]
  refine (JSync_c (B := w.heap.size) (d := d) (x := x) (j := p.2) ⟨h1, by rw [e]; exact h5, h6⟩ (hall.gl g) h2.size).mono fun e' z' ⟨he, t⟩ => ⟨he, ?_⟩
  have := gs_jrn e e2 h1 h2 h3 h5 h7 t
  rw [← e2] at this
  exact this
theorem len_t {p : Nat × Jr.Jn} (h : GS w db (some p) D F z) : Calls Tryz.prog 55 #[.pointer (some ⟨p.1, 0, none⟩)] z fun e z' => e = .returned (.int .i64 p.2.recs.length) ∧ z = z' := by
  obtain ⟨d, x, e, e2, h⟩ := h.parts
  rw [← e2]
  exact Len_c h.jrn
theorem get_t {p : Nat × Jr.Jn} (h : GS w db (some p) D F z) (i : Int) (hi : I64 i) : Calls Tryz.prog 56 #[.pointer (some ⟨p.1, 0, none⟩), .int .i64 i] z fun e z' => e = .returned (.string ⟨(getJ p.2.recs i).toArray⟩) ∧ z = z' := by
  obtain ⟨d, x, e, e2, h⟩ := h.parts
  rw [← e2]
  exact Get_c h.jrn i hi
theorem all_t {p : Nat × Jr.Jn} (h : GS w db (some p) D F z) (g : Gl w) : Calls Tryz.prog 28 #[.pointer (some ⟨p.1, 0, none⟩)] z fun e z' => ∃ v', e = .returned v' ∧ z'.ownsRow z.heap.size tStrJ 1 v' p.2.recs.length (p.2.recs.map bsV) ∧ Nw z z' := by
  have hg := h.gl g
  obtain ⟨d, x, e, e2, h⟩ := h.parts
  rw [← e2]
  exact All_c h.jrn hg
theorem write_t (h : GS w db jp D F z) (g : Gl w) {f i : Int} (hf : I64 f) (hi : I64 i) (s : List UInt8) (hs : s.length ≤ 1000000000) :
    Calls Tryz.prog 54 #[.pointer (some ⟨db, 0, none⟩), .int .i64 f, .int .i64 i, .string ⟨s.toArray⟩] z fun e z' => e = .returned (.int .i64 (Dk.write D f i s).2) ∧ GS w db jp (Dk.write D f i s).1 F z' ∧ Moves w F z z' := by
  have hall := h
  obtain ⟨d, e, h1, h2, h3, h4⟩ := h
  subst e
  exact (write_c h1 (hall.gl g) h2.size hf hi s hs).mono fun e z' ⟨he, t⟩ => ⟨he, gs_disk rfl h1 h2 h3 h4 t⟩
theorem read_t (h : GS w db jp D F z) {f i n : Int} (hf : I64 f) (hi : I64 i) (hn : I64 n) :
    Calls Tryz.prog 29 #[.pointer (some ⟨db, 0, none⟩), .int .i64 f, .int .i64 i, .int .i64 n] z fun e z' => e = .returned (.tuple #[.string ⟨(Dk.read D f i n).1.toArray⟩, .int .i64 (Dk.read D f i n).2]) ∧ z = z' := by
  obtain ⟨d, e, hd⟩ := h.dpart
  subst e
  exact read_c hd hf hi hn
theorem size_t (h : GS w db jp D F z) {f : Int} (hf : I64 f) :
    Calls Tryz.prog 30 #[.pointer (some ⟨db, 0, none⟩), .int .i64 f] z fun e z' => e = .returned (.int .i64 (Dk.size D f)) ∧ z = z' := by
  obtain ⟨d, e, hd⟩ := h.dpart
  subst e
  exact size_c hd hf
theorem start_t (h : GS w db jp D F z) : Calls Tryz.prog 25 #[.pointer (some ⟨db, 0, none⟩)] z fun e z' => e = .returned (.tuple #[]) ∧ GS w db jp (Dk.start D) F z' ∧ Moves w F z z' := by
  obtain ⟨d, e, h1, h2, h3, h4⟩ := h
  subst e
  exact (start_c h1).mono fun e z' ⟨he, t⟩ => ⟨he, gs_disk rfl h1 h2 h3 h4 t⟩
theorem lose_t (h : GS w db jp D F z) {n : Int} (hn : I64 n) : Calls Tryz.prog 19 #[.pointer (some ⟨db, 0, none⟩), .int .i64 n] z fun e z' => e = .returned (.tuple #[]) ∧ GS w db jp (Dk.lose D n) F z' ∧ Moves w F z z' := by
  obtain ⟨d, e, h1, h2, h3, h4⟩ := h
  subst e
  exact (lose_c h1 hn).mono fun e z' ⟨he, t⟩ => ⟨he, gs_disk rfl h1 h2 h3 h4 t⟩
theorem arm_t (h : GS w db jp D F z) (g : Gl w) {n : Int} (hn : I64 n) (lo hi : Nat) (v : Value) (keep : List Int) (hkI : ∀ x ∈ keep, I64 x) (hs : Sl lo hi z v (keep.map intD)) (hL : keep.length ≤ 1000000000) :
    Calls Tryz.prog 21 #[.pointer (some ⟨db, 0, none⟩), .int .i64 n, v] z fun e z' => e = .returned (.tuple #[]) ∧ GS w db jp (Dk.arm D n keep) F z' ∧ Moves w F z z' := by
  have hall := h
  obtain ⟨d, e, h1, h2, h3, h4⟩ := h
  subst e
  exact (arm_c h1 (hall.gl g) hn lo hi v keep hkI hs hL).mono fun e z' ⟨he, t⟩ => ⟨he, gs_disk rfl h1 h2 h3 h4 t⟩
/-- keep lies ahead of w: nothing that a call here does turns it. -/
theorem crash_t (h : GS w db jp D F z) (g : Gl w) (lo hi : Nat) (hhi : hi ≤ w.heap.size) (v : Value) (keep : List Int) (hkI : ∀ x ∈ keep, I64 x) (hs : Sl lo hi w v (keep.map intD)) :
    Calls Tryz.prog 23 #[.pointer (some ⟨db, 0, none⟩), v] z fun e z' => e = .returned (.tuple #[]) ∧ GS w db jp (Dk.crash D keep) F z' ∧ Moves w F z z' := by
  have hall := h
  obtain ⟨d, e, h1, h2, h3, h4⟩ := h
  subst e
  refine (crash_c h1 (hall.gl g) h2.size lo hi v keep (fun y u => (hs.nw h2).upd u (fun k _ hk s => ?_)) hkI).mono fun e z' ⟨he, t⟩ => ⟨he, gs_disk rfl h1 h2 h3 h4 t⟩
  have := (h1.foot_lt (k := k) (by rcases s with s | s; exact Or.inl s; exact Or.inr (Or.inl s))).1
  omega
end
end Go.Proofs.YtiambnllidingaaGreatDoor
