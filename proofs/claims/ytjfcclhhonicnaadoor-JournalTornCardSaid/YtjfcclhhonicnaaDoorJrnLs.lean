/- The law JournalLasts in plain words: what holds of the disk, of the journal in file 3, of the lists `all` and `sure`, whatever fails. No program stands in this text. -/
import Derived.Test.YtjfcclhhonicnaaDoorJrnSt
namespace Go.Proofs.YtjfcclhhonicnaaDoor.Jr
open Dk (Disk)
set_option linter.unusedVariables false
set_option linter.unusedSimpArgs false

structure Ls (D : Disk) (jo : Option Jn) (all sure : List (List UInt8)) (n : Nat) : Prop where
  inv : Inv D 3 all sure
  len : all.length ≤ n
  sm : ∀ a ∈ all, a.length ≤ 200
  jn : ∀ j, jo = some j → j.file = 3 ∧ j.recs.length ≤ n ∧ (∀ a ∈ j.recs, a.length ≤ 200) ∧ (j.broken = false → all = j.recs ∧ (D.fs 3).now = forms all)
variable {D : Disk} {jo : Option Jn} {all sure : List (List UInt8)} {n : Nat}
theorem Ls.mono {m : Nat} (h : Ls D jo all sure n) (hm : n ≤ m) : Ls D jo all sure m :=
  ⟨h.inv, Nat.le_trans h.len hm, h.sm, fun j hj => ⟨(h.jn j hj).1, Nat.le_trans (h.jn j hj).2.1 hm, (h.jn j hj).2.2⟩⟩
theorem Ls.of_fs {D' : Disk} (h : Ls D jo all sure n) (hk : Dk.Ok D') (e : D'.fs = D.fs) : Ls D' jo all sure n :=
  ⟨h.inv.of_fs hk e, h.len, h.sm, fun j hj => by rw [e]; exact h.jn j hj⟩
theorem Ls.lose (h : Ls D jo all sure n) {k : Int} (hk : k ≤ 9223372036854775807) : Ls (Dk.lose D k) jo all sure n := h.of_fs (Dk.lose_ok h.inv.ok hk) rfl
theorem Ls.arm (h : Ls D jo all sure n) {k : Int} (hk : k ≤ 9223372036854775807) (keep : List Int) : Ls (Dk.arm D k keep) jo all sure n := h.of_fs (Dk.arm_ok h.inv.ok hk keep) rfl
theorem Ls.forget (h : Ls D jo all sure n) : Ls D none all sure n := ⟨h.inv, h.len, h.sm, fun j hj => by cases hj⟩
theorem Ls.crash (h : Ls D jo all sure n) (keep : List Int) : Ls (Dk.crash D keep) none all sure n := ⟨h.inv.crash keep, h.len, h.sm, fun j hj => by cases hj⟩
theorem Ls.start (h : Ls D jo all sure n) : Ls (Dk.start D) jo all sure n := h.of_fs (Dk.start_ok h.inv.ok) rfl
/-- A record is appended. -/
theorem Ls.append {j : Jn} (h : Ls D (some j) all sure n) (hn : n ≤ 100) {s : List UInt8} (hs : s.length ≤ 200) :
    (Jr.append D j s = (D, j, 7) ∧ j.broken = true) ∨
    ((Jr.append D j s).2.2 = 0 ∧ (Jr.append D j s).2.1.recs = j.recs ++ [s] ∧ Ls (Jr.append D j s).1 (some (Jr.append D j s).2.1) (all ++ [s]) sure (n + 1)) ∨
    ((Jr.append D j s).2.2 = 8 ∧ (Jr.append D j s).2.1.recs = j.recs ∧ Ls (Jr.append D j s).1 (some (Jr.append D j s).2.1) (all ++ [s]) sure (n + 1)) := by
  obtain ⟨k1, k2, k3, k4⟩ := h.jn j rfl
  cases hb : j.broken with
  | true => exact Or.inl ⟨by unfold Jr.append; rw [if_pos hb], rfl⟩
  | false =>
    obtain ⟨rfl, k5⟩ := k4 hb
    have hfl := forms_small k3 k2
    have hf2 := form_len s (by omega)
    obtain ⟨i1, i2⟩ := h.inv.write k5 (s := s) (by omega)
    have hsm : ∀ a ∈ j.recs ++ [s], a.length ≤ 200 := fun a ha => by
      rcases List.mem_append.1 ha with ha | ha
      · exact k3 a ha
      · rw [List.mem_singleton.1 ha]; exact hs
    have hl : (j.recs ++ [s]).length ≤ n + 1 := by rw [List.length_append]; simp; omega
    have e0 : Jr.append D j s = if (Dk.write D 3 (forms j.recs).length (form s)).2 ≠ 0 then ((Dk.write D 3 (forms j.recs).length (form s)).1, { j with broken := true }, (Dk.write D 3 (forms j.recs).length (form s)).2)
        else ((Dk.write D 3 (forms j.recs).length (form s)).1, { j with recs := j.recs ++ [s] }, 0) := by
      unfold Jr.append
      rw [if_neg (by rw [hb]; decide), if_neg (by omega), if_neg (by omega), k1]
    rcases write_err (D := D) (f := 3) (n := (forms j.recs).length) (s := form s) (by omega) (by omega) with w | w
    · rw [if_neg (by omega)] at e0
      refine Or.inr (Or.inl ?_)
      rw [e0]
      refine ⟨rfl, rfl, i1, hl, hsm, fun j' hj => ?_⟩
      obtain rfl := Option.some.inj hj
      exact ⟨k1, hl, hsm, fun _ => ⟨rfl, i2 w⟩⟩
    · rw [if_pos (by omega)] at e0
      refine Or.inr (Or.inr ?_)
      rw [e0]
      refine ⟨w, rfl, i1, hl, hsm, fun j' hj => ?_⟩
      obtain rfl := Option.some.inj hj
      exact ⟨k1, by dsimp only; omega, k3, fun e => by cases e⟩
theorem Ls.sync {j : Jn} (h : Ls D (some j) all sure n) :
    (syncJ D j).2.1.recs = j.recs ∧ Ls (syncJ D j).1 (some (syncJ D j).2.1) all sure n ∧ ((syncJ D j).2.2 = 0 → Ls (syncJ D j).1 (some (syncJ D j).2.1) all j.recs n) := by
  obtain ⟨k1, k2, k3, k4⟩ := h.jn j rfl
  cases hb : j.broken with
  | true =>
    have e : syncJ D j = (D, j, 7) := by unfold Jr.syncJ; rw [if_pos hb]
    rw [e]
    exact ⟨rfl, h, fun e => by cases e⟩
  | false =>
    obtain ⟨rfl, k5⟩ := k4 hb
    have e : syncJ D j = ((Dk.sync D 3).1, { j with broken := decide ((Dk.sync D 3).2 ≠ 0) }, (Dk.sync D 3).2) := by unfold Jr.syncJ; rw [if_neg (by rw [hb]; decide), k1]
    rw [e]
    have hi := h.inv.sync
    have hj : ∀ j', some ({ j with broken := decide ((Dk.sync D 3).2 ≠ 0) } : Jn) = some j' → j'.file = 3 ∧ j'.recs.length ≤ n ∧ (∀ a ∈ j'.recs, a.length ≤ 200) ∧ (j'.broken = false → j.recs = j'.recs ∧ ((Dk.sync D 3).1.fs 3).now = forms j.recs) := fun j' hj => by
      obtain rfl := Option.some.inj hj
      refine ⟨k1, k2, k3, fun hbr => ⟨rfl, ?_⟩⟩
      have e0 : (Dk.sync D 3).2 = 0 := Decidable.not_not.1 (of_decide_eq_false hbr)
      rw [(sync_done e0).1]; exact k5
    refine ⟨rfl, ⟨hi, h.len, h.sm, hj⟩, fun e0 => ⟨⟨hi.ok, hi.tn, hi.pre, ?_, hi.small, List.prefix_refl _⟩, h.len, h.sm, hj⟩⟩
    obtain ⟨t1, t2, _⟩ := sync_done e0
    dsimp only
    rw [t2, k5]
    exact List.prefix_refl _
/-- Opening: none, with an error of the disk; or a list between the two. -/
theorem Ls.open_ (h : Ls D jo all sure n) :
    ((openJ D 3).2.1 = none ∧ ((openJ D 3).2.2 = 8 ∨ (openJ D 3).2.2 = 9) ∧ Ls (openJ D 3).1 none all sure n) ∨
    ∃ l, (openJ D 3).2.1 = some ⟨3, l, false⟩ ∧ (openJ D 3).2.2 = 0 ∧ l <+: all ∧ sure <+: l ∧ Ls (openJ D 3).1 (some ⟨3, l, false⟩) l l n := by
  rcases h.inv.open_ (by omega) with ⟨e1, e2, e3⟩ | ⟨l, e1, e2, e3, e4, e5, e6, _⟩
  · exact Or.inl ⟨e1, e2, e3, h.len, h.sm, fun j hj => by cases hj⟩
  · have hsm : ∀ a ∈ l, a.length ≤ 200 := fun a ha => h.sm a (e3.subset ha)
    have hl := Nat.le_trans e3.length_le h.len
    refine Or.inr ⟨l, e1, e2, e3, e4, e5, hl, hsm, fun j hj => ?_⟩
    obtain rfl := Option.some.inj hj
    exact ⟨rfl, hl, hsm, fun _ => ⟨rfl, e6⟩⟩
/-- At last, with nothing lost and no crash scheduled, it can be opened. -/
theorem Ls.last (h : Ls D jo all sure n) (keep : List Int) : (openJ (Dk.start (Dk.crash (Dk.arm (Dk.lose D 0) 0 []) keep)) 3).2.2 = 0 := by
  have hl := h.lose (k := 0) (by decide)
  have ha := hl.arm (k := 0) (by decide) []
  have hc := (ha.crash keep).start
  refine (open_up hc.inv (by omega) rfl ?_ ?_).1
  · show (Dk.crash (Dk.arm (Dk.lose D 0) 0 []) keep).armed = 0
    unfold Dk.crash
    split
    · show max (0 : Int) 0 = 0; decide
    · rfl
  · show (Dk.crash (Dk.arm (Dk.lose D 0) 0 []) keep).lost = 0
    unfold Dk.crash
    split
    · show max (0 : Int) 0 = 0; decide
    · show max (0 : Int) 0 = 0; decide
theorem ls_new : Ls Dk.new none [] [] 0 := ⟨⟨Dk.new_ok, tn_refl _, List.prefix_refl _, List.prefix_refl _, (fun a ha => by cases ha), List.prefix_refl _⟩, Nat.le_refl _, (fun a ha => by cases ha), fun j hj => by cases hj⟩
theorem open_new : ∃ D', openJ Dk.new 3 = (D', some ⟨3, [], false⟩, 0) ∧ Ls D' (some ⟨3, [], false⟩) [] [] 0 := by
  rcases ls_new.open_ with ⟨e1, e2, _⟩ | ⟨l, e1, e2, e3, _, e5⟩
  · have := (open_up ls_new.inv (by omega) rfl rfl rfl).1
    omega
  · obtain rfl := List.prefix_nil.1 e3
    exact ⟨_, Prod.ext rfl (Prod.ext e1 e2), e5⟩
end Go.Proofs.YtjfcclhhonicnaaDoor.Jr
