/- Plain: what FetchSurvives says: a fetch in file 1, whatever crashes. No program stands in this text. -/
import Derived.Test.YtagmlemlagbfkaaGreatDoorPkFSurv2
namespace Go.Proofs.YtagmlemlagbfkaaGreatDoor
set_option linter.unusedVariables false
set_option linter.unusedSimpArgs false

namespace Ft
open Dk (Disk)
open Jr (Jn forms form)
theorem write_lost (D : Disk) (f i : Int) (s : List UInt8) : (Dk.write D f i s).1.lost = D.lost := by
  have h0 : ∀ D : Disk, (Dk.write0 D f i s).1.lost = D.lost := fun D => by
    unfold Dk.write0 Dk.add
    split
    · rfl
    · split
      · rfl
      · dsimp only; split <;> rfl
  unfold Dk.write
  split
  · unfold Dk.crash
    split
    · rw [h0, Jr.counted_lost]
    · dsimp only; rw [h0, Jr.counted_lost]
  · rw [h0, Jr.counted_lost]
theorem come_lost (D : Disk) : (Dk.come D).lost = D.lost := by
  unfold Dk.come
  split
  · unfold Dk.crash
    split
    · exact Jr.counted_lost D
    · exact Jr.counted_lost D
  · exact Jr.counted_lost D
theorem sync_lost {D : Disk} (h : D.lost = 0) (f : Int) : (Dk.sync D f).1.lost = 0 := by
  unfold Dk.sync
  split
  · rw [come_lost, h]
  · split
    · next h2 => rw [come_lost, h] at h2; exact absurd h2 (by decide)
    · show (Dk.come D).lost = 0; rw [come_lost, h]
theorem crash_lost (D : Disk) (keep : List Int) : (Dk.crash D keep).lost = D.lost := by
  unfold Dk.crash
  split <;> rfl
structure Sv (cs : List (List UInt8)) (m : Ck.Man) (D : Disk) (j : Jn) (all sure : List (List UInt8)) (n : Nat) : Prop where
  inv : Jr.Inv D 1 all sure
  len : all.length ≤ n
  sm : ∀ a ∈ all, a.length ≤ 200
  file : j.file = 1
  jl : j.recs.length ≤ n
  js : ∀ a ∈ j.recs, a.length ≤ 200
  ok : j.broken = false → all = j.recs ∧ (D.fs 1).now = forms all
  one : all = j.recs ∨ ∃ s, all = j.recs ++ [s]
  fit : ∀ a ∈ all, prOf cs a ∈ m.chunks
  lost : D.lost = 0
  sub : sure <+: j.recs
section
variable {cs : List (List UInt8)} {m : Ck.Man} {D : Disk} {j : Jn} {all sure : List (List UInt8)} {n : Nat}
theorem Sv.mono {k : Nat} (h : Sv cs m D j all sure n) (hm : n ≤ k) : Sv cs m D j all sure k := { h with len := Nat.le_trans h.len hm, jl := Nat.le_trans h.jl hm }
theorem Sv.arm (h : Sv cs m D j all sure n) {k : Int} (hk : k ≤ 9223372036854775807) (keep : List Int) : Sv cs m (Dk.arm D k keep) j all sure n :=
  { h with inv := h.inv.of_fs (Dk.arm_ok h.inv.ok hk keep) rfl, ok := h.ok, lost := h.lost }
/-- A chunk is taken: what comes, comes at the end. -/
theorem Sv.append (h : Sv cs m D j all sure n) (hn : n ≤ 100) {s : List UInt8} (hs : s.length ≤ 200) (hf : prOf cs s ∈ m.chunks) :
    ∃ all', Sv cs m (Jr.append D j s).1 (Jr.append D j s).2.1 all' sure (n + 1) := by
  cases hb : j.broken with
  | true =>
    have e : Jr.append D j s = (D, j, 7) := by unfold Jr.append; rw [if_pos hb]
    rw [e]
    exact ⟨all, h.mono (by omega)⟩
  | false =>
    obtain ⟨rfl, k5⟩ := h.ok hb
    have hfl := Jr.forms_small h.js h.jl
    have hf2 := Jr.form_len s (by omega)
    obtain ⟨i1, i2⟩ := h.inv.write k5 (s := s) (by omega)
    have hsm : ∀ a ∈ j.recs ++ [s], a.length ≤ 200 := fun a ha => by
      rcases List.mem_append.1 ha with ha | ha
      · exact h.js a ha
      · rw [List.mem_singleton.1 ha]; exact hs
    have hft : ∀ a ∈ j.recs ++ [s], prOf cs a ∈ m.chunks := fun a ha => by
      rcases List.mem_append.1 ha with ha | ha
      · exact h.fit a ha
      · rw [List.mem_singleton.1 ha]; exact hf
    have hl : (j.recs ++ [s]).length ≤ n + 1 := by rw [List.length_append]; have := h.jl; simp; omega
    have hlo : (Dk.write D 1 (forms j.recs).length (form s)).1.lost = 0 := by rw [write_lost]; exact h.lost
    have e0 : Jr.append D j s = if (Dk.write D 1 (forms j.recs).length (form s)).2 ≠ 0 then ((Dk.write D 1 (forms j.recs).length (form s)).1, { j with broken := true }, (Dk.write D 1 (forms j.recs).length (form s)).2)
        else ((Dk.write D 1 (forms j.recs).length (form s)).1, { j with recs := j.recs ++ [s] }, 0) := by
      unfold Jr.append
      rw [if_neg (by rw [hb]; decide), if_neg (by omega), if_neg (by omega), h.file]
    refine ⟨j.recs ++ [s], ?_⟩
    rcases Jr.write_err (D := D) (f := 1) (n := (forms j.recs).length) (s := form s) (by omega) (by omega) with w | w
    · rw [if_neg (by omega)] at e0
      rw [e0]
      exact ⟨i1, hl, hsm, h.file, hl, hsm, fun _ => ⟨rfl, i2 w⟩, Or.inl rfl, hft, hlo, h.sub.trans (List.prefix_append _ _)⟩
    · rw [if_pos (by omega)] at e0
      rw [e0]
      exact ⟨i1, hl, hsm, h.file, by have := h.jl; dsimp only; omega, h.js, (fun e => by cases e), Or.inr ⟨s, rfl⟩, hft, hlo, h.sub⟩
theorem Sv.take (h : Sv cs m D j all sure n) (hn : n ≤ 100) (hnd : cs.Nodup) (hc : ∀ x ∈ m.chunks, (textAtU cs x).length ≤ 200) (i : Int) (t : List UInt8) :
    ∃ all', Sv cs m (take D cs m j i t).1 (take D cs m j i t).2.1 all' sure (n + 1) := by
  unfold Ft.take
  split
  · exact ⟨all, h.mono (by omega)⟩
  · split
    · exact ⟨all, h.mono (by omega)⟩
    · rename_i hck
      split
      · exact ⟨all, h.mono (by omega)⟩
      · obtain ⟨k, hk, rfl, hh, rfl⟩ := check_in (by simpa using hck)
        refine h.append hn (hc _ (List.getElem_mem hk)) ?_
        rw [show prOf cs (textAtU cs m.chunks[k]) = m.chunks[k] from print_of hnd hh]
        exact List.getElem_mem hk
theorem Sv.sync (h : Sv cs m D j all sure n) : (Jr.syncJ D j).2.1.recs = j.recs ∧ ∃ sure', ((Jr.syncJ D j).2.2 = 0 → sure' = j.recs) ∧ ((Jr.syncJ D j).2.2 ≠ 0 → sure' = sure) ∧ Sv cs m (Jr.syncJ D j).1 (Jr.syncJ D j).2.1 all sure' n := by
  cases hb : j.broken with
  | true =>
    have e : Jr.syncJ D j = (D, j, 7) := by unfold Jr.syncJ; rw [if_pos hb]
    rw [e]
    exact ⟨rfl, sure, (fun e => by cases e), fun _ => rfl, h⟩
  | false =>
    obtain ⟨rfl, k5⟩ := h.ok hb
    have e : Jr.syncJ D j = ((Dk.sync D 1).1, { j with broken := decide ((Dk.sync D 1).2 ≠ 0) }, (Dk.sync D 1).2) := by unfold Jr.syncJ; rw [if_neg (by rw [hb]; decide), h.file]
    rw [e]
    have hi := h.inv.sync
    have hj : decide ((Dk.sync D 1).2 ≠ 0) = false → j.recs = j.recs ∧ ((Dk.sync D 1).1.fs 1).now = forms j.recs := fun hbr => by
      have e0 : (Dk.sync D 1).2 = 0 := Decidable.not_not.1 (of_decide_eq_false hbr)
      exact ⟨rfl, by rw [(Jr.sync_done e0).1]; exact k5⟩
    refine ⟨rfl, if (Dk.sync D 1).2 = 0 then j.recs else sure, fun h0 => if_pos h0, fun h0 => if_neg h0, ?_⟩
    by_cases h0 : (Dk.sync D 1).2 = 0
    · rw [if_pos h0]
      obtain ⟨t1, t2, _⟩ := Jr.sync_done h0
      refine ⟨⟨hi.ok, hi.tn, hi.pre, ?_, hi.small, List.prefix_refl _⟩, h.len, h.sm, h.file, h.jl, h.js, hj, Or.inl rfl, h.fit, sync_lost h.lost 1, List.prefix_refl _⟩
      rw [t2, k5]
      exact List.prefix_refl _
    · rw [if_neg h0]
      exact ⟨hi, h.len, h.sm, h.file, h.jl, h.js, hj, Or.inl rfl, h.fit, sync_lost h.lost 1, h.sub⟩
/-- Opening, with nothing lost and no crash. -/
theorem open_sv (hR : rightM cs m = true) (hi : Jr.Inv D 1 all sure) (hd : D.down = false) (ha : D.armed = 0) (hl : D.lost = 0) (hlen : all.length ≤ n) (hsm : ∀ a ∈ all, a.length ≤ 200) (hft : ∀ a ∈ all, prOf cs a ∈ m.chunks) :
    ∃ D' l, fopen D 1 cs m = (D', some ⟨1, l, false⟩, 0) ∧ sure <+: l ∧ l <+: all ∧ Sv cs m D' ⟨1, l, false⟩ l l n := by
  obtain ⟨u1, u2, u3⟩ := Jr.open_up hi (by omega) hd ha hl
  rcases hi.open_ (by omega) with ⟨e1, e2, e3⟩ | ⟨l, e1, e2, e3, e4, e5, e6, _⟩
  · omega
  · have hsm2 : ∀ a ∈ l, a.length ≤ 200 := fun a ha => hsm a (e3.subset ha)
    have hft2 : ∀ a ∈ l, prOf cs a ∈ m.chunks := fun a ha => hft a (e3.subset ha)
    have hl2 := Nat.le_trans e3.length_le hlen
    refine ⟨(Jr.openJ D 1).1, l, ?_, e4, e3, e5, hl2, hsm2, rfl, hl2, hsm2, fun _ => ⟨rfl, e6⟩, Or.inl rfl, hft2, u3, List.prefix_refl _⟩
    unfold fopen
    rw [if_neg (by rw [hR]; decide), if_neg (by omega), e1]
    dsimp only
    rw [if_pos]
    unfold fitsJ come
    rw [List.all_eq_true]
    intro p hp
    obtain ⟨a, ha, rfl⟩ := List.mem_map.1 hp
    exact decide_eq_true (hft2 a ha)
theorem sv_new (hR : rightM cs m = true) : ∃ D', fopen Dk.new 1 cs m = (D', some ⟨1, [], false⟩, 0) ∧ Sv cs m D' ⟨1, [], false⟩ [] [] 0 := by
  obtain ⟨D', l, h1, _, h3, h4⟩ := open_sv (n := 0) hR (all := []) (sure := []) (D := Dk.new) ⟨Dk.new_ok, Jr.tn_refl _, List.prefix_refl _, List.prefix_refl _, (fun a ha => by cases ha), List.prefix_refl _⟩ rfl rfl rfl (Nat.le_refl _) (fun a ha => by cases ha) (fun a ha => by cases ha)
  obtain rfl := List.prefix_nil.1 h3
  exact ⟨D', h1, h4⟩
/-- A crash, a start, and opening again. -/
theorem Sv.again (hR : rightM cs m = true) (h : Sv cs m D j all sure n) (keep : List Int) :
    ∃ D' l, fopen (Dk.arm (Dk.start (Dk.crash D keep)) 0 []) 1 cs m = (D', some ⟨1, l, false⟩, 0) ∧ sure <+: l ∧ l <+: all ∧ Sv cs m D' ⟨1, l, false⟩ l l n := by
  have hc := h.inv.crash keep
  have hs := hc.of_fs (Dk.start_ok hc.ok) rfl
  exact open_sv hR (hs.of_fs (Dk.arm_ok hs.ok (n := 0) (by decide) []) rfl) rfl rfl (by show (Dk.crash D keep).lost = 0; rw [crash_lost]; exact h.lost) h.len h.sm h.fit
/-- What Within and torn say then. -/
theorem within_sure {l : List (List UInt8)} (h : sure <+: l) : ∀ x ∈ miss m.chunks (l.map (prOf cs)), x ∈ miss m.chunks (sure.map (prOf cs)) := by
  intro x hx
  obtain ⟨k, hk, h1, h2⟩ := mem_miss.1 hx
  exact mem_miss.2 ⟨k, hk, h1, fun hm => h2 (by
    obtain ⟨a, ha, e⟩ := List.mem_map.1 hm
    exact List.mem_map.2 ⟨a, h.subset ha, e⟩)⟩
theorem torn_one {l : List (List UInt8)} (h : Sv cs m D j all sure n) (hl : l <+: all) : ∃ p : Int, ∀ x ∈ miss m.chunks (j.recs.map (prOf cs)), x ∉ miss m.chunks (l.map (prOf cs)) → ∃ k : Nat, ∃ hk : k < m.chunks.length, x = k ∧ m.chunks[k] = p := by
  have key : ∀ s, (∀ a ∈ all, a ∈ j.recs ∨ a = s) → ∀ x ∈ miss m.chunks (j.recs.map (prOf cs)), x ∉ miss m.chunks (l.map (prOf cs)) → ∃ k : Nat, ∃ hk : k < m.chunks.length, x = k ∧ m.chunks[k] = prOf cs s := by
    intro s hs x hx hnx
    obtain ⟨k, hk, h1, h2⟩ := mem_miss.1 hx
    refine ⟨k, hk, h1, ?_⟩
    have hin : m.chunks[k] ∈ l.map (prOf cs) := Decidable.not_not.1 fun hno => hnx (mem_miss.2 ⟨k, hk, h1, hno⟩)
    obtain ⟨a, ha, e⟩ := List.mem_map.1 hin
    rcases hs a (hl.subset ha) with hr | rfl
    · exact absurd (List.mem_map.2 ⟨a, hr, e⟩) h2
    · exact e.symm
  rcases h.one with e | ⟨s, e⟩
  · exact ⟨_, key [] (fun a ha => Or.inl (e ▸ ha))⟩
  · exact ⟨_, key s (fun a ha => by
      rw [e] at ha
      rcases List.mem_append.1 ha with ha | ha
      · exact Or.inl ha
      · exact Or.inr (List.mem_singleton.1 ha))⟩
end
end Ft
end Go.Proofs.YtagmlemlagbfkaaGreatDoor
