/- The law JournalStays in plain words: what holds of a disk on which no crash is scheduled, and of the journal in file 0. No program stands in this text. -/
import Derived.Test.YtiambnllidingaaGreatDoorJrnRd
namespace Go.Proofs.YtiambnllidingaaGreatDoor.Jr
open Dk (Disk)
set_option linter.unusedVariables false
set_option linter.unusedSimpArgs false

/-- The disk is up, no crash is scheduled; the file is what is left of a list of at most n records of at most 200 bytes, and a journal that is not broken has that list. -/
structure St (D : Disk) (jo : Option Jn) (n : Nat) : Prop where
  down : D.down = false
  armed : D.armed = 0
  inv : ∃ all sure, Inv D 0 all sure ∧ all.length ≤ n ∧ (∀ a ∈ all, a.length ≤ 200) ∧
    ∀ j, jo = some j → j.file = 0 ∧ j.recs.length ≤ n ∧ (∀ a ∈ j.recs, a.length ≤ 200) ∧ (j.broken = false → all = j.recs ∧ (D.fs 0).now = forms all)
theorem St.mono {D : Disk} {jo : Option Jn} {n m : Nat} (h : St D jo n) (hm : n ≤ m) : St D jo m := by
  obtain ⟨h1, h2, all, sure, h3, h4, h5, h6⟩ := h
  exact ⟨h1, h2, all, sure, h3, by omega, h5, fun j hj => ⟨(h6 j hj).1, by have := (h6 j hj).2.1; omega, (h6 j hj).2.2⟩⟩
theorem inv_new : Inv Dk.new 0 [] [] := ⟨Dk.new_ok, tn_refl _, List.prefix_refl _, List.prefix_refl _, (fun a ha => by cases ha), List.prefix_refl _⟩
theorem st_new : St Dk.new none 0 := ⟨rfl, rfl, [], [], inv_new, Nat.le_refl _, (fun a ha => by cases ha), fun j hj => by cases hj⟩
theorem small2 {l : List (List UInt8)} (h : ∀ a ∈ l, a.length ≤ 200) : ∀ a ∈ l, a.length ≤ 2000 := fun a ha => by have := h a ha; omega
theorem forms_small {l : List (List UInt8)} {n : Nat} (h : ∀ a ∈ l, a.length ≤ 200) (hn : l.length ≤ n) : (forms l).length ≤ n * 243 := by
  have := forms_len (n := 200) h (by omega)
  exact Nat.le_trans this (Nat.mul_le_mul_right _ hn)
/-- Opening. -/
theorem St.open_ {D : Disk} {jo : Option Jn} {n : Nat} (h : St D jo n) : St (openJ D 0).1 (openJ D 0).2.1 n := by
  obtain ⟨h1, h2, all, sure, h3, h4, h5, h6⟩ := h
  have hs := sync_up (f := 0) (by omega) h1 h2
  have hD : (openJ D 0).1.down = false ∧ (openJ D 0).1.armed = 0 := by
    unfold openJ
    rw [if_neg (by omega)]
    split
    · exact ⟨hs.2.2.1, hs.2.1⟩
    · rename_i e0
      have e0 : (Dk.sync D 0).2 = 0 := Decidable.not_not.1 e0
      split
      · rename_i hlt
        obtain ⟨q1, q2, q3⟩ := trunc_up (D := (Dk.sync D 0).1) (f := 0) (n := ((forms (recs ((Dk.sync D 0).1.fs 0).now)).length : Nat)) (by omega) hs.2.2.1 hs.2.1 (by omega) (by omega)
        obtain ⟨_, _, r3⟩ := trunc_done (D := (Dk.sync D 0).1) (f := 0) (n := ((forms (recs ((Dk.sync D 0).1.fs 0).now)).length : Nat)) (by omega) q1
        rw [if_neg (by omega)]
        exact ⟨r3, q2⟩
      · exact ⟨hs.2.2.1, hs.2.1⟩
  rcases h3.open_ (by omega) with ⟨e1, _, e3⟩ | ⟨l, e1, _, e3, e4, e5, e6, _⟩
  · rw [e1]
    exact ⟨hD.1, hD.2, all, sure, e3, h4, h5, fun j hj => by cases hj⟩
  · rw [e1]
    have hl := e3.length_le
    have hsm : ∀ a ∈ l, a.length ≤ 200 := fun a ha => h5 a (e3.subset ha)
    refine ⟨hD.1, hD.2, l, l, e5, by omega, hsm, fun j hj => ?_⟩
    obtain rfl := Option.some.inj hj
    exact ⟨rfl, by dsimp only; omega, hsm, fun _ => ⟨rfl, e6⟩⟩
/-- A record is appended. -/
theorem St.append {D : Disk} {j : Jn} {n : Nat} (h : St D (some j) n) (hn : n ≤ 100) {s : List UInt8} (hs : s.length ≤ 200) :
    St (append D j s).1 (some (append D j s).2.1) (n + 1) ∧ ((j.broken = true ∧ append D j s = (D, j, 7)) ∨ (j.broken = false ∧ (append D j s).2 = ({ j with recs := j.recs ++ [s] }, 0))) := by
  have hall := h
  obtain ⟨h1, h2, all, sure, h3, h4, h5, h6⟩ := h
  obtain ⟨k1, k2, k3, k4⟩ := h6 j rfl
  cases hb : j.broken with
  | true =>
    have e : Jr.append D j s = (D, j, 7) := by unfold Jr.append; rw [if_pos hb]
    rw [e]
    exact ⟨hall.mono (by omega), Or.inl ⟨rfl, rfl⟩⟩
  | false =>
    obtain ⟨rfl, k5⟩ := k4 hb
    have hfl := forms_small k3 k2
    have hf2 := form_len s (by omega)
    have e : Jr.append D j s = ((Dk.write D 0 (forms j.recs).length (form s)).1, { j with recs := j.recs ++ [s] }, 0) := by
      obtain ⟨w1, _⟩ := write_up (D := D) (f := 0) (n := (forms j.recs).length) (s := form s) (by omega) (by omega) h1 h2
      unfold Jr.append
      rw [if_neg (by rw [hb]; decide), if_neg (by omega), if_neg (by omega), k1, w1, if_neg (by omega)]
    obtain ⟨w1, w2⟩ := write_up (D := D) (f := 0) (n := (forms j.recs).length) (s := form s) (by omega) (by omega) h1 h2
    obtain ⟨i1, i2⟩ := h3.write k5 (s := s) (by omega)
    rw [e]
    have hsm : ∀ a ∈ j.recs ++ [s], a.length ≤ 200 := fun a ha => by
      rcases List.mem_append.1 ha with ha | ha
      · exact k3 a ha
      · rw [List.mem_singleton.1 ha]; exact hs
    refine ⟨⟨?_, ?_, j.recs ++ [s], sure, i1, by rw [List.length_append]; simp; omega, hsm, fun j' hj => ?_⟩, Or.inr ⟨rfl, by simp [hb]⟩⟩
    · dsimp only; rw [w2]; unfold Dk.add; split <;> exact h1
    · dsimp only; rw [w2]; unfold Dk.add; split <;> exact h2
    · obtain rfl := Option.some.inj hj
      exact ⟨k1, by dsimp only; rw [List.length_append]; simp; omega, hsm, fun _ => ⟨rfl, i2 w1⟩⟩
theorem St.sync {D : Disk} {j : Jn} {n : Nat} (h : St D (some j) n) : St (syncJ D j).1 (some (syncJ D j).2.1) n ∧ (syncJ D j).2.1.recs = j.recs ∧
    ((syncJ D j).2.2 = 0 → (syncJ D j).2.1.broken = false ∧ Inv (syncJ D j).1 0 j.recs j.recs) := by
  have hall := h
  obtain ⟨h1, h2, all, sure, h3, h4, h5, h6⟩ := h
  obtain ⟨k1, k2, k3, k4⟩ := h6 j rfl
  cases hb : j.broken with
  | true =>
    have e : syncJ D j = (D, j, 7) := by unfold Jr.syncJ; rw [if_pos hb]
    rw [e]
    exact ⟨hall, rfl, fun e => by cases e⟩
  | false =>
    obtain ⟨rfl, k5⟩ := k4 hb
    have e : syncJ D j = ((Dk.sync D 0).1, { j with broken := decide ((Dk.sync D 0).2 ≠ 0) }, (Dk.sync D 0).2) := by unfold Jr.syncJ; rw [if_neg (by rw [hb]; decide), k1]
    have hs := sync_up (f := 0) (by omega) h1 h2
    rw [e]
    refine ⟨⟨hs.2.2.1, hs.2.1, j.recs, sure, h3.sync, h4, h5, fun j' hj => ?_⟩, rfl, fun e0 => ?_⟩
    · obtain rfl := Option.some.inj hj
      refine ⟨k1, k2, k3, fun hbr => ⟨rfl, ?_⟩⟩
      have e0 : (Dk.sync D 0).2 = 0 := by
        have := of_decide_eq_false hbr
        exact Decidable.not_not.1 this
      dsimp only
      rw [(sync_done e0).1]; exact k5
    · obtain ⟨t1, t2, _⟩ := sync_done e0
      have hi := h3.sync
      refine ⟨by dsimp only at e0 ⊢; rw [e0]; rfl, ⟨hi.ok, hi.tn, hi.pre, ?_, hi.small, List.prefix_refl _⟩⟩
      dsimp only
      rw [t2, k5]
      exact List.prefix_refl _
theorem St.lose {D : Disk} {jo : Option Jn} {n : Nat} (h : St D jo n) {k : Int} (hk : k ≤ 9223372036854775807) : St (Dk.lose D k) jo n := by
  obtain ⟨h1, h2, all, sure, h3, h4, h5, h6⟩ := h
  exact ⟨h1, h2, all, sure, h3.of_fs (Dk.lose_ok h3.ok hk) rfl, h4, h5, h6⟩
/-- A crash, and the start. -/
theorem St.crash {D : Disk} {jo : Option Jn} {n : Nat} (h : St D jo n) (keep : List Int) : St (Dk.start (Dk.crash D keep)) none n := by
  obtain ⟨h1, h2, all, sure, h3, h4, h5, h6⟩ := h
  have hc := h3.crash keep
  refine ⟨rfl, ?_, all, sure, hc.of_fs (Dk.start_ok hc.ok) rfl, h4, h5, fun j hj => by cases hj⟩
  rw [show (Dk.start (Dk.crash D keep)).armed = (Dk.crash D keep).armed from rfl, Dk.crash_eq h1]
/-- What has been made sure of is there again. -/
theorem sure_open {D : Disk} {R : List (List UInt8)} (hd : D.down = false) (hl : D.lost = 0) (h : Inv D 0 R R) (keep : List Int) :
    ∃ D', openJ (Dk.start (Dk.crash D keep)) 0 = (D', some ⟨0, R, false⟩, 0) ∧ D'.down = false ∧ D'.armed = 0 ∧ D'.lost = 0 ∧ Inv D' 0 R R := by
  have hc := h.crash keep
  have hi : Inv (Dk.start (Dk.crash D keep)) 0 R R := hc.of_fs (Dk.start_ok hc.ok) rfl
  have he := Dk.crash_eq hd keep
  have ha : (Dk.start (Dk.crash D keep)).armed = 0 := by rw [show (Dk.start (Dk.crash D keep)).armed = (Dk.crash D keep).armed from rfl, he]
  have hlo : (Dk.start (Dk.crash D keep)).lost = 0 := by rw [show (Dk.start (Dk.crash D keep)).lost = (Dk.crash D keep).lost from rfl, he]; exact hl
  obtain ⟨o1, o2, o3⟩ := open_up hi (by omega) rfl ha hlo
  rcases hi.open_ (by omega) with ⟨e1, e2, _⟩ | ⟨l, e1, e2, e3, e4, e5, e6, e7⟩
  · rw [o1] at e2; omega
  · obtain rfl : l = R := e3.eq_of_length (Nat.le_antisymm e3.length_le e4.length_le)
    exact ⟨_, Prod.ext rfl (Prod.ext e1 e2), e7, o2, o3, e5⟩
end Go.Proofs.YtiambnllidingaaGreatDoor.Jr
