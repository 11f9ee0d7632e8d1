/- Layer 8 in plain words: what a view knows only grows; the order in which its claims came does not matter. No program stands in this text. -/
import Derived.Test.YtidmehiboceobaaGreatDoorViewPl
namespace Go.Proofs.YtidmehiboceobaaGreatDoor.Vw
open Go.Lib Go.RowKit Wire
open Bk (Seal Sgn noSgn isKey place valid)
open Cl (Clm contra)
set_option linter.unusedVariables false
set_option linter.unusedSimpArgs false

theorem accept_new {Lr : List Seal} {key : Int} {M : List Sgn} {s : Sgn} (h : VOk Lr key (M ++ [s])) : accept Lr key M s = (0, M ++ [s]) := by
  have hno : s ∉ M := by
    have := (List.nodup_append.1 h.nodup).2.2
    intro hs; exact this s hs s (List.mem_cons_self ..) rfl
  obtain ⟨h1, h2, h3⟩ := h.each s (by simp)
  have hc : clashes M (claimOf s) = false := clashes_no.2 fun x hx => h.apart x (by simp [hx]) s (by simp)
  unfold accept
  rw [if_neg (by rw [h1]; simp), if_neg (by rw [h2]; simp), if_neg (by rw [h3]; simp), if_neg (by rw [hc]; simp), if_neg hno]
theorem accept_or {Lr : List Seal} {key : Int} {L : List Sgn} (h : VOk Lr key L) (s : Sgn) : (accept Lr key L s).2 = L ∨ (accept Lr key L s).2 = L ++ [s] ∧ VOk Lr key (L ++ [s]) := by
  have hk := accept_ok h s
  rcases accept_cases Lr key L s with ⟨_, e⟩ | ⟨_, _, e⟩ | ⟨_, _, _, e⟩ | ⟨_, _, _, _, e⟩ | ⟨_, _, _, _, _, e⟩ | ⟨h1, h2, h3, h4, h5, e⟩
  all_goals rw [e] at hk ⊢
  all_goals first | exact Or.inl rfl | exact Or.inr ⟨rfl, hk⟩
/-- What was known stays. -/
structure Grow (L L' : List Sgn) : Prop where
  time : (sizeOf L).2 ≤ (sizeOf L').2
  text : ∀ n, (textAt L n).2 = true → textAt L' n = textAt L n
  absent : ∀ k, (absentOf L k).2 = true → (absentOf L' k).2 = true ∧ (absentOf L k).1 ≤ (absentOf L' k).1
  known : ∀ n, known L n = true → known L' n = true
theorem grow {Lr : List Seal} {key : Int} {L : List Sgn} (h : VOk Lr key L) (s : Sgn) : Grow L (accept Lr key L s).2 := by
  rcases accept_or h s with e | ⟨e, hk⟩
  · rw [e]
    exact ⟨Int.le_refl _, fun _ _ => rfl, fun _ h => ⟨h, Int.le_refl _⟩, fun _ h => h⟩
  · rw [e]
    have ht : ∀ n, (textAt L n).2 = true → textAt (L ++ [s]) n = textAt L n := fun n hn => by
      have hm := text_is hn
      have hm2 : (n, (textAt L n).1) ∈ entA (L ++ [s]) := by rw [entA_snoc]; exact List.mem_append_left _ hm
      rw [text_in hk hm2, ← hn]
    refine ⟨?_, ht, fun k hk2 => ?_, fun n hn => ?_⟩
    · rw [sizeOf_snoc, sizeStep]
      split
      · rename_i h1; dsimp only; omega
      · exact Int.le_refl _
    · rw [absentOf_snoc, absStep]
      split
      · exact ⟨rfl, by dsimp only; omega⟩
      · exact ⟨hk2, Int.le_refl _⟩
    · rw [known_all] at hn ⊢
      intro i hi
      rw [ht i (hn i hi)]
      exact hn i hi
theorem VOk.perm {Lr : List Seal} {key : Int} {L M : List Sgn} (h : VOk Lr key L) (p : L.Perm M) : VOk Lr key M :=
  ⟨fun s hs => h.each s (p.mem_iff.2 hs), fun x hx y hy => h.apart x (p.mem_iff.2 hx) y (p.mem_iff.2 hy), p.nodup_iff.1 h.nodup⟩
theorem text_perm {Lr : List Seal} {key : Int} {L M : List Sgn} (h : VOk Lr key L) (p : L.Perm M) (n : Int) : textAt M n = textAt L n := by
  have hm : ∀ x, x ∈ entA M ↔ x ∈ entA L := fun x => by
    rw [entA_mem, entA_mem]
    exact ⟨fun ⟨s, hs, r⟩ => ⟨s, p.mem_iff.2 hs, r⟩, fun ⟨s, hs, r⟩ => ⟨s, p.mem_iff.1 hs, r⟩⟩
  cases hb : (textAt L n).2 with
  | true => rw [text_in (h.perm p) ((hm _).2 (text_is hb)), ← hb]
  | false =>
    have hno : ∀ x ∈ entA L, x.1 ≠ n := fun x hx e => by
      obtain ⟨i, t⟩ := x
      dsimp only at e
      subst e
      rw [text_in h hx] at hb
      cases hb
    rw [text_out hno, text_out (fun x hx => hno x ((hm x).1 hx))]
theorem known_perm {Lr : List Seal} {key : Int} {L M : List Sgn} (h : VOk Lr key L) (p : L.Perm M) (n : Int) : known M n = known L n := by
  unfold known
  congr 1
  funext i
  rw [text_perm h p]
/-- The last head. -/
theorem size_spec {L : List Sgn} (h : ∀ s ∈ L, isLog s.text = true) : ((∀ s ∈ L, (claimOf s).kind ≠ 1) ∧ sizeOf L = (0, -1)) ∨ ∃ s ∈ L, (claimOf s).kind = 1 ∧ sizeOf L = ((claimOf s).n, (claimOf s).time) ∧ ∀ y ∈ L, (claimOf y).kind = 1 → (claimOf y).time ≤ (claimOf s).time := by
  suffices ∀ (R : List Sgn), (∀ s ∈ R, isLog s.text = true) → ((∀ s ∈ R, (claimOf s).kind ≠ 1) ∧ sizeOf R.reverse = (0, -1)) ∨ ∃ s ∈ R, (claimOf s).kind = 1 ∧ sizeOf R.reverse = ((claimOf s).n, (claimOf s).time) ∧ ∀ y ∈ R, (claimOf y).kind = 1 → (claimOf y).time ≤ (claimOf s).time by
    have := this L.reverse (fun s hs => h s (List.mem_reverse.1 hs))
    simpa using this
  intro R
  induction R with
  | nil => intro _; exact Or.inl ⟨fun s hs => (by cases hs), rfl⟩
  | cons x R ih =>
    intro hR
    have ht := (Cl.right_bounds (log_spec (hR x (List.mem_cons_self ..))).1).2.2.2.2.1
    rw [List.reverse_cons, sizeOf_snoc, sizeStep]
    rcases ih (fun s hs => hR s (List.mem_cons_of_mem _ hs)) with ⟨h1, h2⟩ | ⟨s, hs, h1, h2, h3⟩
    · rw [h2]
      by_cases hk : (claimOf x).kind = 1
      · rw [if_pos ⟨hk, by dsimp only; omega⟩]
        refine Or.inr ⟨x, List.mem_cons_self .., hk, rfl, fun y hy hy1 => ?_⟩
        rcases List.mem_cons.1 hy with rfl | hy
        · exact Int.le_refl _
        · exact absurd hy1 (h1 y hy)
      · rw [if_neg (fun e => hk e.1)]
        refine Or.inl ⟨fun y hy => ?_, rfl⟩
        rcases List.mem_cons.1 hy with rfl | hy
        · exact hk
        · exact h1 y hy
    · rw [h2]
      by_cases hk : (claimOf x).kind = 1 ∧ (claimOf s).time < (claimOf x).time
      · rw [if_pos hk]
        refine Or.inr ⟨x, List.mem_cons_self .., hk.1, rfl, fun y hy hy1 => ?_⟩
        rcases List.mem_cons.1 hy with rfl | hy
        · exact Int.le_refl _
        · have := h3 y hy hy1; omega
      · rw [if_neg hk]
        refine Or.inr ⟨s, List.mem_cons_of_mem _ hs, h1, rfl, fun y hy hy1 => ?_⟩
        rcases List.mem_cons.1 hy with rfl | hy
        · omega
        · exact h3 y hy hy1
theorem heads_one {a b : Clm} (ha : Cl.right a = true) (hb : Cl.right b = true) (ka : a.kind = 1) (kb : b.kind = 1) (ht : a.time = b.time) (hc : contra a b = false) : a.n = b.n := by
  by_cases e : a.n = b.n
  · exact e
  · have : contra a b = true := (Cl.contra_iff a b).2 ⟨ha, hb, Or.inr (Or.inr (Or.inl ⟨ka, kb, Or.inl ⟨ht, e⟩⟩))⟩
    rw [hc] at this; cases this
theorem size_perm {Lr : List Seal} {key : Int} {L M : List Sgn} (h : VOk Lr key L) (p : L.Perm M) : sizeOf M = sizeOf L := by
  rcases size_spec (fun s hs => (h.each s hs).2.2) with ⟨h1, h2⟩ | ⟨s, hs, h1, h2, h3⟩ <;> rcases size_spec (fun s hs => ((h.perm p).each s hs).2.2) with ⟨g1, g2⟩ | ⟨t, ht, g1, g2, g3⟩
  · rw [h2, g2]
  · exact absurd g1 (h1 t (p.mem_iff.2 ht))
  · exact absurd h1 (g1 s (p.mem_iff.1 hs))
  · have e1 := h3 t (p.mem_iff.2 ht) g1
    have e2 := g3 s (p.mem_iff.1 hs) h1
    have e3 : (claimOf s).time = (claimOf t).time := by omega
    rw [h2, g2, e3, heads_one (log_spec (h.each s hs).2.2).1 (log_spec (h.each t (p.mem_iff.2 ht)).2.2).1 h1 g1 e3 (h.apart s hs t (p.mem_iff.2 ht))]
theorem age_perm {Lr : List Seal} {key : Int} {L M : List Sgn} (h : VOk Lr key L) (p : L.Perm M) (now : Int) : age M now = age L now := by unfold age; rw [size_perm h p]
theorem absent_fold (k : List UInt8) : ∀ (L : List Sgn) (x : Int × Bool), (L.foldl (absStep k) x).2 = (x.2 || L.any fun s => decide ((claimOf s).kind = 2 ∧ (claimOf s).text = k)) ∧ ∀ m : Int, (L.foldl (absStep k) x).1 ≤ m ↔ x.1 ≤ m ∧ ∀ s ∈ L, (claimOf s).kind = 2 ∧ (claimOf s).text = k → (claimOf s).n ≤ m
  | [], x => ⟨by simp, fun m => by simp⟩
  | s :: L, x => by
    obtain ⟨i1, i2⟩ := absent_fold k L (absStep k x s)
    rw [List.foldl_cons]
    by_cases hk : (claimOf s).kind = 2 ∧ (claimOf s).text = k
    · refine ⟨by rw [i1, absStep, if_pos hk]; simp [hk], fun m => ?_⟩
      rw [i2 m, absStep, if_pos hk]
      simp only [List.mem_cons]
      constructor
      · rintro ⟨h1, h2⟩
        refine ⟨by omega, ?_⟩
        rintro y (rfl | hy) hy2
        · omega
        · exact h2 y hy hy2
      · rintro ⟨h1, h2⟩
        have := h2 s (Or.inl rfl) hk
        exact ⟨by omega, fun y hy => h2 y (Or.inr hy)⟩
    · refine ⟨by rw [i1, absStep, if_neg hk, List.any_cons, decide_eq_false hk, Bool.false_or], fun m => ?_⟩
      rw [i2 m, absStep, if_neg hk]
      simp only [List.mem_cons]
      constructor
      · rintro ⟨h1, h2⟩
        refine ⟨h1, ?_⟩
        rintro y (rfl | hy) hy2
        · exact absurd hy2 hk
        · exact h2 y hy hy2
      · rintro ⟨h1, h2⟩
        exact ⟨h1, fun y hy => h2 y (Or.inr hy)⟩
theorem absent_perm {L M : List Sgn} (p : L.Perm M) (k : List UInt8) : absentOf M k = absentOf L k := by
  unfold absentOf
  obtain ⟨a1, a2⟩ := absent_fold k L (0, false)
  obtain ⟨b1, b2⟩ := absent_fold k M (0, false)
  have e2 : (M.foldl (absStep k) (0, false)).2 = (L.foldl (absStep k) (0, false)).2 := by
    rw [a1, b1]
    congr 1
    rw [Bool.eq_iff_iff, List.any_eq_true, List.any_eq_true]
    exact ⟨fun ⟨s, hs, r⟩ => ⟨s, p.mem_iff.2 hs, r⟩, fun ⟨s, hs, r⟩ => ⟨s, p.mem_iff.1 hs, r⟩⟩
  have e1 : (M.foldl (absStep k) (0, false)).1 = (L.foldl (absStep k) (0, false)).1 := by
    have h1 := (b2 (L.foldl (absStep k) (0, false)).1).2 (by
      have := (a2 (L.foldl (absStep k) (0, false)).1).1 (Int.le_refl _)
      exact ⟨this.1, fun s hs => this.2 s (p.mem_iff.2 hs)⟩)
    have h2 := (a2 (M.foldl (absStep k) (0, false)).1).2 (by
      have := (b2 (M.foldl (absStep k) (0, false)).1).1 (Int.le_refl _)
      exact ⟨this.1, fun s hs => this.2 s (p.mem_iff.1 hs)⟩)
    omega
  exact Prod.ext e1 e2
end Go.Proofs.YtidmehiboceobaaGreatDoor.Vw
