/- Layer 8 in plain words: what a client keeps of a log, what it accepts, what it answers; its bytes. No program stands in this text. -/
import Derived.Test.YtkhdnfmnnapjlaaGreatDoorBookPl
namespace Go.Proofs.YtkhdnfmnnapjlaaGreatDoor.Vw
open Go.Lib Go.RowKit Wire
open Bk (Seal Sgn noSgn isKey place valid)
open Cl (Clm contra)
set_option linter.unusedVariables false
set_option linter.unusedSimpArgs false

def claimOf (s : Sgn) : Clm := (Cl.read s.text).1
def isLog (t : List UInt8) : Bool := (Cl.read t).2 && decide ((Cl.read t).1.kind ≤ 2)
def clashes (L : List Sgn) (c : Clm) : Bool := L.any fun x => contra (claimOf x) c
/-- The error, and what is kept. -/
def accept (Lr : List Seal) (key : Int) (L : List Sgn) (s : Sgn) : Int × List Sgn :=
  if valid Lr s = false then (18, L)
  else if s.key ≠ key then (22, L)
  else if isLog s.text = false then (2, L)
  else if clashes L (claimOf s) = true then (21, L)
  else if s ∈ L then (0, L)
  else (0, L ++ [s])
def clash (L : List Sgn) (s : Sgn) : Sgn × Bool :=
  if (Cl.read s.text).2 = false then (noSgn, false)
  else match L.find? (fun x => contra (claimOf x) (claimOf s)) with
    | some x => (x, true)
    | none => (noSgn, false)
def entOf (s : Sgn) : Option (Int × List UInt8) := if (claimOf s).kind = 0 then some ((claimOf s).n, (claimOf s).text) else none
def entA (L : List Sgn) : List (Int × List UInt8) := L.filterMap entOf
def textAt (L : List Sgn) (i : Int) : List UInt8 × Bool := match (entA L).find? (fun p => decide (p.1 = i)) with
  | some p => (p.2, true)
  | none => ([], false)
def sizeStep (r : Int × Int) (s : Sgn) : Int × Int := if (claimOf s).kind = 1 ∧ r.2 < (claimOf s).time then ((claimOf s).n, (claimOf s).time) else r
def sizeOf (L : List Sgn) : Int × Int := L.foldl sizeStep (0, -1)
def age (L : List Sgn) (now : Int) : Int := if (sizeOf L).2 < 0 ∨ now < (sizeOf L).2 then -1 else now - (sizeOf L).2
def absStep (k : List UInt8) (r : Int × Bool) (s : Sgn) : Int × Bool := if (claimOf s).kind = 2 ∧ (claimOf s).text = k then (max r.1 (claimOf s).n, true) else r
def absentOf (L : List Sgn) (k : List UInt8) : Int × Bool := L.foldl (absStep k) (0, false)
def known (L : List Sgn) (n : Int) : Bool := (List.range n.toNat).all fun i => (textAt L i).2
def itemE (s : Sgn) : List UInt8 := numE s.mark ++ textE s.text
def bytesOf (key : Int) (L : List Sgn) : List UInt8 := (numE key ++ numE L.length) ++ (L.map itemE).flatten
def addA : List (List UInt8 × Int) → List UInt8 → Int → List (List UInt8 × Int)
  | [], k, n => [(k, n)]
  | (k', m) :: A, k, n => if k' = k then (k', max m n) :: A else (k', m) :: addA A k n
def absAStep (A : List (List UInt8 × Int)) (s : Sgn) : List (List UInt8 × Int) := if (claimOf s).kind = 2 then addA A (claimOf s).text (claimOf s).n else A
def absA (L : List Sgn) : List (List UInt8 × Int) := L.foldl absAStep []
/-- What has been accepted is signed by the key, of a log, not contradictory, and each is there once. -/
structure VOk (Lr : List Seal) (key : Int) (L : List Sgn) : Prop where
  each : ∀ s ∈ L, valid Lr s = true ∧ s.key = key ∧ isLog s.text = true
  apart : ∀ x ∈ L, ∀ y ∈ L, contra (claimOf x) (claimOf y) = false
  nodup : L.Nodup
theorem VOk.nil (Lr : List Seal) (key : Int) : VOk Lr key [] := ⟨fun s h => (by cases h), fun s h => (by cases h), List.nodup_nil⟩
theorem log_spec {s : Sgn} (h : isLog s.text = true) : Cl.right (claimOf s) = true ∧ Cl.text (claimOf s) = s.text ∧ (Cl.read s.text).2 = true ∧ 0 ≤ (claimOf s).kind ∧ (claimOf s).kind ≤ 2 := by
  unfold isLog at h
  rw [Bool.and_eq_true, decide_eq_true_eq] at h
  obtain ⟨h1, h2⟩ := Cl.read_inv (s := s.text) (c := claimOf s) (by rw [← h.1]; rfl)
  exact ⟨h1, h2, h.1, (Cl.right_bounds h1).1, h.2⟩
theorem accept_cases (Lr : List Seal) (key : Int) (L : List Sgn) (s : Sgn) :
    (valid Lr s = false ∧ accept Lr key L s = (18, L)) ∨ (valid Lr s = true ∧ s.key ≠ key ∧ accept Lr key L s = (22, L)) ∨ (valid Lr s = true ∧ s.key = key ∧ isLog s.text = false ∧ accept Lr key L s = (2, L)) ∨
    (valid Lr s = true ∧ s.key = key ∧ isLog s.text = true ∧ clashes L (claimOf s) = true ∧ accept Lr key L s = (21, L)) ∨
    (valid Lr s = true ∧ s.key = key ∧ isLog s.text = true ∧ clashes L (claimOf s) = false ∧ s ∈ L ∧ accept Lr key L s = (0, L)) ∨
    (valid Lr s = true ∧ s.key = key ∧ isLog s.text = true ∧ clashes L (claimOf s) = false ∧ s ∉ L ∧ accept Lr key L s = (0, L ++ [s])) := by
  unfold accept
  by_cases h1 : valid Lr s = false
  · exact Or.inl ⟨h1, if_pos h1⟩
  rw [if_neg h1]
  have h1' : valid Lr s = true := by simpa using h1
  by_cases h2 : s.key ≠ key
  · exact Or.inr (Or.inl ⟨h1', h2, if_pos h2⟩)
  rw [if_neg h2]
  have h2' : s.key = key := by simpa using h2
  by_cases h3 : isLog s.text = false
  · exact Or.inr (Or.inr (Or.inl ⟨h1', h2', h3, if_pos h3⟩))
  rw [if_neg h3]
  have h3' : isLog s.text = true := by simpa using h3
  by_cases h4 : clashes L (claimOf s) = true
  · exact Or.inr (Or.inr (Or.inr (Or.inl ⟨h1', h2', h3', h4, if_pos h4⟩)))
  rw [if_neg h4]
  have h4' : clashes L (claimOf s) = false := by simpa using h4
  by_cases h5 : s ∈ L
  · exact Or.inr (Or.inr (Or.inr (Or.inr (Or.inl ⟨h1', h2', h3', h4', h5, if_pos h5⟩))))
  · exact Or.inr (Or.inr (Or.inr (Or.inr (Or.inr ⟨h1', h2', h3', h4', h5, if_neg h5⟩))))
theorem clashes_no {L : List Sgn} {c : Clm} : clashes L c = false ↔ ∀ x ∈ L, contra (claimOf x) c = false := by
  unfold clashes
  simp [List.any_eq_false]
theorem clashes_yes {L : List Sgn} {c : Clm} : clashes L c = true ↔ ∃ x ∈ L, contra (claimOf x) c = true := by
  unfold clashes
  simp [List.any_eq_true]
theorem VOk.snoc {Lr : List Seal} {key : Int} {L : List Sgn} (h : VOk Lr key L) {s : Sgn} (h1 : valid Lr s = true) (h2 : s.key = key) (h3 : isLog s.text = true) (h4 : clashes L (claimOf s) = false) (h5 : s ∉ L) : VOk Lr key (L ++ [s]) := by
  refine ⟨fun x hx => ?_, fun x hx y hy => ?_, ?_⟩
  · rcases List.mem_append.1 hx with hx | hx
    · exact h.each x hx
    · rw [List.mem_singleton.1 hx]; exact ⟨h1, h2, h3⟩
  · rcases List.mem_append.1 hx with hx | hx <;> rcases List.mem_append.1 hy with hy | hy
    · exact h.apart x hx y hy
    · rw [List.mem_singleton.1 hy]; exact clashes_no.1 h4 x hx
    · rw [List.mem_singleton.1 hx, Cl.contra_symm]; exact clashes_no.1 h4 y hy
    · rw [List.mem_singleton.1 hx, List.mem_singleton.1 hy]; exact Cl.contra_self _
  · rw [List.nodup_append]
    exact ⟨h.nodup, by simp, fun a ha b hb e => by rw [List.mem_singleton.1 hb] at e; subst e; exact h5 ha⟩
theorem VOk.pre {Lr : List Seal} {key : Int} {L M : List Sgn} (h : VOk Lr key (L ++ M)) : VOk Lr key L :=
  ⟨fun s hs => h.each s (List.mem_append_left _ hs), fun x hx y hy => h.apart x (List.mem_append_left _ hx) y (List.mem_append_left _ hy), (List.nodup_append.1 h.nodup).1⟩
theorem accept_ok {Lr : List Seal} {key : Int} {L : List Sgn} (h : VOk Lr key L) (s : Sgn) : VOk Lr key (accept Lr key L s).2 := by
  rcases accept_cases Lr key L s with ⟨_, e⟩ | ⟨_, _, e⟩ | ⟨_, _, _, e⟩ | ⟨_, _, _, _, e⟩ | ⟨_, _, _, _, _, e⟩ | ⟨h1, h2, h3, h4, h5, e⟩
  all_goals rw [e]
  all_goals try exact h
  exact h.snoc h1 h2 h3 h4 h5
theorem accept_len (Lr : List Seal) (key : Int) (L : List Sgn) (s : Sgn) : (accept Lr key L s).2.length ≤ L.length + 1 := by
  rcases accept_cases Lr key L s with ⟨_, e⟩ | ⟨_, _, e⟩ | ⟨_, _, _, e⟩ | ⟨_, _, _, _, e⟩ | ⟨_, _, _, _, _, e⟩ | ⟨h1, h2, h3, h4, h5, e⟩
  all_goals rw [e]
  all_goals simp
/-- A longer ring holds what the shorter one holds. -/
theorem place_more {L M : List Seal} {e : Seal} {i : Nat} (h : place L e = some i) : place (L ++ M) e = some i := by
  induction L generalizing i with
  | nil => cases h
  | cons x l ih =>
    rw [List.cons_append]
    unfold place at h ⊢
    split at h
    · rename_i hx; rw [if_pos hx]; exact h
    · rename_i hx
      rw [if_neg hx]
      cases hp : place l e with
      | none => rw [hp] at h; cases h
      | some j => rw [hp] at h; rw [ih hp]; exact h
theorem valid_more {L : List Seal} (M : List Seal) {s : Sgn} (h : valid L s = true) : valid (L ++ M) s = true := by
  unfold valid at h ⊢
  split at h
  · rename_i i hi; rw [place_more hi]; exact h
  · cases h
theorem VOk.more {Lr : List Seal} {key : Int} {L : List Sgn} (h : VOk Lr key L) (M : List Seal) : VOk (Lr ++ M) key L :=
  ⟨fun s hs => ⟨valid_more M (h.each s hs).1, (h.each s hs).2⟩, h.apart, h.nodup⟩
theorem valid_mark {Lr : List Seal} {x y : Sgn} (hx : valid Lr x = true) (hy : valid Lr y = true) (hk : x.key = y.key) (ht : x.text = y.text) : x = y := by
  unfold valid at hx hy
  rw [hk, ht] at hx
  split at hy
  · rename_i i hi
    rw [hi] at hx
    simp only [decide_eq_true_eq] at hx hy
    cases x; cases y; simp_all
  · cases hy
theorem valid_lt {Lr : List Seal} {x : Sgn} (h : valid Lr x = true) : 0 ≤ x.mark ∧ x.mark < Lr.length := by
  unfold valid at h
  split at h
  · rename_i i hi
    have := Bk.place_lt hi
    simp only [decide_eq_true_eq] at h
    omega
  · cases h
theorem same_claim {Lr : List Seal} {x y : Sgn} (hx : valid Lr x = true) (hy : valid Lr y = true) (hk : x.key = y.key) (lx : isLog x.text = true) (ly : isLog y.text = true) (hc : claimOf x = claimOf y) : x = y :=
  valid_mark hx hy hk (by rw [← (log_spec lx).2.1, ← (log_spec ly).2.1, hc])
/-- Two entries of one number, not contradictory, are one claim. -/
theorem entry_same {a b : Clm} (ha : Cl.right a = true) (hb : Cl.right b = true) (ka : a.kind = 0) (kb : b.kind = 0) (hn : a.n = b.n) (hc : contra a b = false) : a = b := by
  have ta := Cl.right_time0 ha ka
  have tb := Cl.right_time0 hb kb
  have ht : a.text = b.text := by
    by_cases e : a.text = b.text
    · exact e
    · have : contra a b = true := (Cl.contra_iff a b).2 ⟨ha, hb, Or.inr (Or.inr (Or.inr (Or.inr ⟨by omega, Or.inl ka, hn, by omega, e⟩)))⟩
      rw [hc] at this; cases this
  cases a; cases b
  simp only [] at ka kb hn ta tb ht
  subst ka; subst hn; subst ta; subst ht
  simp only [Cl.Clm.mk.injEq]
  exact ⟨kb.symm, trivial, tb.symm, trivial⟩
theorem entA_snoc (L : List Sgn) (s : Sgn) : entA (L ++ [s]) = entA L ++ (match entOf s with | some p => [p] | none => []) := by
  unfold entA
  rw [List.filterMap_append]
  congr 1
  cases h : entOf s <;> simp [List.filterMap_cons, h]
theorem entA_mem {L : List Sgn} {p : Int × List UInt8} : p ∈ entA L ↔ ∃ s ∈ L, (claimOf s).kind = 0 ∧ p = ((claimOf s).n, (claimOf s).text) := by
  unfold entA entOf
  rw [List.mem_filterMap]
  constructor
  · rintro ⟨s, hs, h⟩
    split at h
    · rename_i hk; exact ⟨s, hs, hk, by injection h with h; exact h.symm⟩
    · cases h
  · rintro ⟨s, hs, hk, rfl⟩
    exact ⟨s, hs, if_pos hk⟩
theorem ent_new {Lr : List Seal} {key : Int} {L : List Sgn} (h : VOk Lr key L) {s : Sgn} (h1 : valid Lr s = true) (h2 : s.key = key) (h3 : isLog s.text = true) (h4 : clashes L (claimOf s) = false) (h5 : s ∉ L) (hk : (claimOf s).kind = 0) :
    ∀ p ∈ entA L, p.1 ≠ (claimOf s).n := by
  intro p hp e
  obtain ⟨x, hx, kx, rfl⟩ := entA_mem.1 hp
  obtain ⟨v, k, l⟩ := h.each x hx
  have := entry_same (log_spec l).1 (log_spec h3).1 kx hk e (clashes_no.1 h4 x hx)
  have := same_claim v h1 (by rw [k, h2]) l h3 this
  subst this
  exact h5 hx
theorem ent_nodup {Lr : List Seal} {key : Int} {L : List Sgn} (h : VOk Lr key L) : ((entA L).map (·.1)).Nodup := by
  unfold entA List.Nodup
  rw [List.pairwise_map, List.pairwise_filterMap]
  refine h.nodup.imp_of_mem ?_
  intro x y hx hy hne p hp q hq e
  unfold entOf at hp hq
  split at hp
  · rename_i kx
    split at hq
    · rename_i ky
      injection hp with hp
      injection hq with hq
      subst hp; subst hq
      obtain ⟨v, k, l⟩ := h.each x hx
      obtain ⟨v', k', l'⟩ := h.each y hy
      exact hne (same_claim v v' (by rw [k, k']) l l' (entry_same (log_spec l).1 (log_spec l').1 kx ky e (h.apart x hx y hy)))
    · cases hq
  · cases hp
theorem nodup_fst {α β : Type} {l : List (α × β)} (h : (l.map (·.1)).Nodup) {a : α} {b c : β} (h1 : (a, b) ∈ l) (h2 : (a, c) ∈ l) : b = c := by
  induction l with
  | nil => cases h1
  | cons x l ih =>
    rw [List.map_cons, List.nodup_cons] at h
    rcases List.mem_cons.1 h1 with e1 | h1' <;> rcases List.mem_cons.1 h2 with e2 | h2'
    · rw [← e1] at e2; injection e2 with _ e; exact e.symm
    · subst e1; exact absurd (List.mem_map.2 ⟨_, h2', rfl⟩) h.1
    · subst e2; exact absurd (List.mem_map.2 ⟨_, h1', rfl⟩) h.1
    · exact ih h.2 h1' h2'
theorem text_in {Lr : List Seal} {key : Int} {L : List Sgn} (h : VOk Lr key L) {i : Int} {t : List UInt8} (hm : (i, t) ∈ entA L) : textAt L i = (t, true) := by
  unfold textAt
  cases hf : (entA L).find? (fun p => decide (p.1 = i)) with
  | none =>
    have := List.find?_eq_none.1 hf _ hm
    simp at this
  | some p =>
    have h1 := List.mem_of_find?_eq_some hf
    have h2 := List.find?_some hf
    simp only [decide_eq_true_eq] at h2
    obtain ⟨j, u⟩ := p
    simp only at h2
    subst h2
    rw [nodup_fst (ent_nodup h) h1 hm]
theorem text_out {L : List Sgn} {i : Int} (hm : ∀ p ∈ entA L, p.1 ≠ i) : textAt L i = ([], false) := by
  unfold textAt
  cases hf : (entA L).find? (fun p => decide (p.1 = i)) with
  | none => rfl
  | some p =>
    have h1 := List.mem_of_find?_eq_some hf
    have h2 := List.find?_some hf
    simp only [decide_eq_true_eq] at h2
    exact absurd h2 (hm p h1)
theorem text_is {L : List Sgn} {i : Int} (h : (textAt L i).2 = true) : (i, (textAt L i).1) ∈ entA L := by
  unfold textAt at h ⊢
  cases hf : (entA L).find? (fun p => decide (p.1 = i)) with
  | none => rw [hf] at h; cases h
  | some p =>
    have h1 := List.mem_of_find?_eq_some hf
    have h2 := List.find?_some hf
    simp only [decide_eq_true_eq] at h2
    obtain ⟨j, u⟩ := p
    simp only at h2
    subst h2
    exact h1
/-- As many numbers as are below n: at least n entries. -/
theorem many {n : Nat} : ∀ (l : List Int), (∀ i, i < n → (i : Int) ∈ l) → n ≤ l.length := by
  induction n with
  | zero => intro l _; exact Nat.zero_le _
  | succ n ih =>
    intro l h
    have h0 := h n (by omega)
    have := ih (l.erase n) (fun i hi => (List.mem_erase_of_ne (by omega)).2 (h i (by omega)))
    rw [List.length_erase_of_mem h0] at this
    have := List.length_pos_of_mem h0
    omega
theorem known_le {L : List Sgn} {n : Int} (h : known L n = true) : n ≤ (entA L).length := by
  unfold known at h
  rw [List.all_eq_true] at h
  have := many (n := n.toNat) ((entA L).map (·.1)) (fun i hi => List.mem_map.2 ⟨_, text_is (h i (List.mem_range.2 hi)), rfl⟩)
  rw [List.length_map] at this
  omega
theorem entA_le (L : List Sgn) : (entA L).length ≤ L.length := List.length_filterMap_le _ _
theorem known_all {L : List Sgn} {n : Int} : known L n = true ↔ ∀ i : Nat, (i : Int) < n → (textAt L i).2 = true := by
  unfold known
  rw [List.all_eq_true]
  constructor
  · intro h i hi; exact h i (List.mem_range.2 (by omega))
  · intro h i hi; exact h i (by have := List.mem_range.1 hi; omega)
/-! ### absent keys -/
theorem addA_keys (A : List (List UInt8 × Int)) (k : List UInt8) (n : Int) (h : (A.map (·.1)).Nodup) :
    ((∀ p ∈ A, p.1 ≠ k) ∧ addA A k n = A ++ [(k, n)]) ∨ ∃ l1 l2 m, A = l1 ++ (k, m) :: l2 ∧ addA A k n = l1 ++ (k, max m n) :: l2 := by
  induction A with
  | nil => exact Or.inl ⟨fun p hp => (by cases hp), rfl⟩
  | cons x A ih =>
    obtain ⟨k', m⟩ := x
    unfold addA
    by_cases e : k' = k
    · subst e
      rw [if_pos rfl]
      exact Or.inr ⟨[], A, m, rfl, rfl⟩
    · rw [if_neg e]
      rw [List.map_cons, List.nodup_cons] at h
      rcases ih h.2 with ⟨h1, h2⟩ | ⟨l1, l2, m2, h1, h2⟩
      · exact Or.inl ⟨fun p hp => by rcases List.mem_cons.1 hp with rfl | hp; exact e; exact h1 p hp, by rw [h2]; rfl⟩
      · exact Or.inr ⟨(k', m) :: l1, l2, m2, by rw [h1]; rfl, by rw [h2]; rfl⟩
theorem addA_nodup {A : List (List UInt8 × Int)} {k : List UInt8} {n : Int} (h : (A.map (·.1)).Nodup) : ((addA A k n).map (·.1)).Nodup := by
  rcases addA_keys A k n h with ⟨h1, h2⟩ | ⟨l1, l2, m, h1, h2⟩
  · rw [h2, List.map_append, List.nodup_append]
    refine ⟨h, by simp, fun a ha b hb e => ?_⟩
    obtain ⟨p, hp, rfl⟩ := List.mem_map.1 ha
    simp only [List.map_cons, List.map_nil, List.mem_singleton] at hb
    exact h1 p hp (e.trans hb)
  · rw [h2]
    rw [h1] at h
    simpa using h
theorem absA_snoc (L : List Sgn) (s : Sgn) : absA (L ++ [s]) = absAStep (absA L) s := by unfold absA; rw [List.foldl_append]; rfl
theorem absA_nodup (L : List Sgn) : ((absA L).map (·.1)).Nodup := by
  unfold absA
  suffices ∀ (M : List Sgn) (A : List (List UInt8 × Int)), (A.map (·.1)).Nodup → ((M.foldl absAStep A).map (·.1)).Nodup from this L [] (by simp)
  intro M
  induction M with
  | nil => intro A h; exact h
  | cons s M ih =>
    intro A h
    refine ih _ ?_
    unfold absAStep
    split
    · exact addA_nodup h
    · exact h
theorem absentOf_snoc (L : List Sgn) (s : Sgn) (k : List UInt8) : absentOf (L ++ [s]) k = absStep k (absentOf L k) s := by unfold absentOf; rw [List.foldl_append]; rfl
theorem sizeOf_snoc (L : List Sgn) (s : Sgn) : sizeOf (L ++ [s]) = sizeStep (sizeOf L) s := by unfold sizeOf; rw [List.foldl_append]; rfl
/-- The map's entries are what the fold over the claims says. -/
theorem abs_spec_rev : ∀ (R : List Sgn), (∀ s ∈ R, isLog s.text = true) → ∀ k, (∀ n, (k, n) ∈ absA R.reverse ↔ absentOf R.reverse k = (n, true)) ∧ ((absentOf R.reverse k).2 = false → (absentOf R.reverse k).1 = 0) ∧ 0 ≤ (absentOf R.reverse k).1
  | [] => fun _ k => ⟨fun n => by simp [absA, absentOf], fun _ => rfl, by simp [absentOf]⟩
  | s :: R => by
    intro hl k
    have ih := abs_spec_rev R (fun s hs => hl s (List.mem_cons_of_mem _ hs))
    have hn0 := (Cl.right_bounds (log_spec (hl s (List.mem_cons_self ..))).1).2.2.1
    rw [List.reverse_cons, absA_snoc, absentOf_snoc]
    generalize hA : absA R.reverse = A at ih ⊢
    have hnd : (A.map (·.1)).Nodup := by rw [← hA]; exact absA_nodup _
    obtain ⟨ih1, ih2, ih3⟩ := ih k
    unfold absAStep absStep
    by_cases hk : (claimOf s).kind = 2
    · rw [if_pos hk]
      by_cases ht : (claimOf s).text = k
      · rw [if_pos ⟨hk, ht⟩]
        refine ⟨fun n => ?_, fun h => (by cases h), by omega⟩
        rcases addA_keys A (claimOf s).text (claimOf s).n hnd with ⟨h1, h2⟩ | ⟨l1, l2, m, h1, h2⟩
        · rw [h2, ht]
          have h0 : (absentOf R.reverse k).1 = 0 := ih2 (by
            cases hb : (absentOf R.reverse k).2 with
            | false => rfl
            | true => exact absurd ht.symm (h1 _ ((ih1 (absentOf R.reverse k).1).2 (by rw [← hb]))))
          rw [h0, List.mem_append, List.mem_singleton]
          constructor
          · rintro (h | h)
            · exact absurd ht.symm (h1 _ h)
            · injection h with _ h; rw [h]; congr 1; omega
          · intro h; injection h with h _; right; rw [← h]; congr 1; omega
        · have hm : (k, m) ∈ A := by rw [h1, ht]; simp
          have e := (ih1 m).1 hm
          rw [e]
          have hnd2 := addA_nodup (k := (claimOf s).text) (n := (claimOf s).n) hnd
          have hin : (k, max m (claimOf s).n) ∈ addA A (claimOf s).text (claimOf s).n := by rw [h2, ht]; simp
          constructor
          · intro h; rw [nodup_fst hnd2 h hin]
          · intro h; injection h with h _; rw [← h]; exact hin
      · rw [if_neg (fun e => ht e.2)]
        refine ⟨fun n => ?_, ih2, ih3⟩
        rw [← ih1 n]
        rcases addA_keys A (claimOf s).text (claimOf s).n hnd with ⟨h1, h2⟩ | ⟨l1, l2, m, h1, h2⟩
        · rw [h2, List.mem_append, List.mem_singleton]
          constructor
          · rintro (h | h)
            · exact h
            · injection h with h _; exact absurd h.symm ht
          · exact Or.inl
        · rw [h2, h1]
          simp only [List.mem_append, List.mem_cons, Prod.mk.injEq]
          constructor
          · rintro (h | ⟨h, _⟩ | h)
            · exact Or.inl h
            · exact absurd h.symm ht
            · exact Or.inr (Or.inr h)
          · rintro (h | ⟨h, _⟩ | h)
            · exact Or.inl h
            · exact absurd h.symm ht
            · exact Or.inr (Or.inr h)
    · rw [if_neg hk, if_neg (fun e => hk e.1)]
      exact ⟨ih1, ih2, ih3⟩
theorem abs_spec {L : List Sgn} (h : ∀ s ∈ L, isLog s.text = true) (k : List UInt8) : (∀ n, (k, n) ∈ absA L ↔ absentOf L k = (n, true)) ∧ ((absentOf L k).2 = false → (absentOf L k).1 = 0) ∧ 0 ≤ (absentOf L k).1 := by
  have := abs_spec_rev L.reverse (fun s hs => h s (List.mem_reverse.1 hs)) k
  rwa [List.reverse_reverse] at this
theorem abs_in {L : List Sgn} (h : ∀ s ∈ L, isLog s.text = true) {k : List UInt8} {n : Int} (hm : (k, n) ∈ absA L) : absentOf L k = (n, true) := ((abs_spec h k).1 n).1 hm
theorem abs_out {L : List Sgn} (h : ∀ s ∈ L, isLog s.text = true) {k : List UInt8} (hm : ∀ p ∈ absA L, p.1 ≠ k) : absentOf L k = (0, false) := by
  obtain ⟨h1, h2, _⟩ := abs_spec h k
  cases hb : (absentOf L k).2 with
  | true => exact absurd rfl (hm _ ((h1 (absentOf L k).1).2 (by rw [← hb])))
  | false => rw [← h2 hb, ← hb]
/-! ### Reading -/
def items (key n : Int) : Nat → List Sgn → St → List Sgn × St
  | 0, l, st => (l, st)
  | f + 1, l, st => if (l.length : Int) < n ∧ 0 < (st.getD []).length then items key n f (l ++ [⟨key, (rText (rNum st).2).1, (rNum st).1⟩]) (rText (rNum st).2).2 else (l, st)
def takeAll (Lr : List Seal) (key : Int) : List Sgn → List Sgn → Option (List Sgn) × Int
  | L, [] => (some L, 0)
  | L, x :: l => if x ∈ L then (none, 5) else if (accept Lr key L x).1 ≠ 0 then (none, (accept Lr key L x).1) else takeAll Lr key (accept Lr key L x).2 l
def itemsOf (s : List UInt8) : List Sgn × St := items (rNum (some s)).1 (rNum (rNum (some s)).2).1 (s.length + 1) [] (rNum (rNum (some s)).2).2
def goodForm (s : List UInt8) : Bool := decide ((itemsOf s).2 = some []) && decide (((itemsOf s).1.length : Int) = (rNum (rNum (some s)).2).1) && isKey (rNum (some s)).1
def readV (Lr : List Seal) (s : List UInt8) : Option (List Sgn) × Int :=
  if goodForm s then takeAll Lr (rNum (some s)).1 [] (itemsOf s).1 else (none, 2)
theorem left_less {st : St} (h : 0 < (st.getD []).length) : ((rText (rNum st).2).2.getD []).length < (st.getD []).length := by
  have h1 := rText_le (rNum st).2
  cases hs : (rNum st).2 with
  | none => rw [hs] at h1; have : (none : St).getD [] = [] := rfl; rw [this] at h1; simp only [List.length_nil] at h1; omega
  | some r =>
    have := rNumber_cost (st := st) (e := 59) (least := 0) (n := (rNum st).1) (s := some r) (by rw [← hs]; rfl) rfl
    rw [hs] at h1
    simp only [Option.getD_some] at h1 this ⊢
    omega
theorem items_back {key n : Int} : ∀ (M : List Sgn) (f : Nat) (l : List Sgn) (r : List UInt8), (∀ s ∈ M, s.key = key ∧ 0 ≤ s.mark ∧ s.mark ≤ 9223372036854775807 ∧ s.text.length ≤ 9223372036854775807) → (l.length + M.length : Int) = n → M.length < f →
    items key n f l (some ((M.map itemE).flatten ++ r)) = (l ++ M, some r)
  | [], f, l, r => by
    intro _ hn hf
    obtain ⟨f, rfl⟩ : ∃ g, f = g + 1 := ⟨f - 1, by simp at hf; omega⟩
    unfold items
    rw [if_neg (by simp only [List.length_nil] at hn; omega)]
    simp
  | s :: M, f, l, r => by
    intro hM hn hf
    obtain ⟨f, rfl⟩ : ∃ g, f = g + 1 := ⟨f - 1, by simp at hf; omega⟩
    obtain ⟨h1, h2, h3, h4⟩ := hM s (List.mem_cons_self ..)
    have hN : rNum (some ((((s :: M).map itemE).flatten) ++ r)) = (s.mark, some (textE s.text ++ ((M.map itemE).flatten ++ r))) := by
      rw [List.map_cons, List.flatten_cons]
      unfold itemE
      rw [List.append_assoc, List.append_assoc, rNum_back ⟨by omega, by omega⟩ h2]
    have hT : rText (some (textE s.text ++ ((M.map itemE).flatten ++ r))) = (s.text, some ((M.map itemE).flatten ++ r)) := rText_back h4
    have hne : 0 < ((some ((((s :: M).map itemE).flatten) ++ r) : St).getD []).length := by
      rw [List.map_cons, List.flatten_cons]
      simp only [Option.getD_some, List.length_append, itemE, textE, List.length_cons]
      omega
    unfold items
    simp only [List.length_cons] at hn hf
    rw [if_pos ⟨by omega, hne⟩, hN, hT]
    have e : (⟨key, s.text, s.mark⟩ : Sgn) = s := by rw [← h1]
    simp only []
    rw [e, items_back M f (l ++ [s]) r (fun x hx => hM x (List.mem_cons_of_mem _ hx)) (by simp only [List.length_append, List.length_cons, List.length_nil]; omega) (by omega)]
    simp
theorem items_len (M : List Sgn) : M.length ≤ ((M.map itemE).flatten).length := by
  induction M with
  | nil => simp
  | cons s M ih =>
    rw [List.map_cons, List.flatten_cons, List.length_append, List.length_cons]
    simp only [itemE, textE, List.length_append, List.length_cons]
    omega
/-- What bytes say. -/
theorem form_back {key : Int} {M : List Sgn} (hk : isKey key = true) (hM : ∀ s ∈ M, s.key = key ∧ 0 ≤ s.mark ∧ s.mark ≤ 9223372036854775807 ∧ s.text.length ≤ 9223372036854775807) (hl : M.length ≤ 9223372036854775807) (r : List UInt8) :
    (rNum (some (bytesOf key M ++ r))).1 = key ∧ (rNum (rNum (some (bytesOf key M ++ r))).2).1 = M.length ∧ itemsOf (bytesOf key M ++ r) = (M, some r) := by
  have hk2 : 0 ≤ key ∧ key < 200 := by unfold isKey at hk; simpa using hk
  have h1 : rNum (some (bytesOf key M ++ r)) = (key, some (numE M.length ++ ((M.map itemE).flatten ++ r))) := by
    unfold bytesOf
    rw [List.append_assoc, List.append_assoc, rNum_back ⟨by omega, by omega⟩ hk2.1]
  have h2 : rNum (some (numE M.length ++ ((M.map itemE).flatten ++ r))) = ((M.length : Int), some ((M.map itemE).flatten ++ r)) := rNum_back ⟨by omega, by omega⟩ (by omega)
  refine ⟨by rw [h1], by rw [h1]; simp only []; rw [h2], ?_⟩
  unfold itemsOf
  rw [h1]
  simp only []
  rw [h2]
  simp only []
  rw [items_back M _ [] r hM (by simp) ?_]
  · simp
  · have := items_len M
    unfold bytesOf
    simp only [List.length_append]
    omega
theorem takeAll_ok {Lr : List Seal} {key : Int} : ∀ (M L : List Sgn), VOk Lr key (L ++ M) → takeAll Lr key L M = (some (L ++ M), 0)
  | [], L => by intro _; unfold takeAll; simp
  | s :: M, L => by
    intro h
    have h' : VOk Lr key ((L ++ [s]) ++ M) := by simpa using h
    have hno : s ∉ L := by
      have := (List.nodup_append.1 h.nodup).2.2
      intro hs; exact this s hs s (List.mem_cons_self ..) rfl
    obtain ⟨h1, h2, h3⟩ := h.each s (by simp)
    have hc : clashes L (claimOf s) = false := clashes_no.2 fun x hx => h.apart x (by simp [hx]) s (by simp)
    have ha : accept Lr key L s = (0, L ++ [s]) := by
      unfold accept
      rw [if_neg (by rw [h1]; simp), if_neg (by rw [h2]; simp), if_neg (by rw [h3]; simp), if_neg (by rw [hc]; simp), if_neg hno]
    unfold takeAll
    rw [if_neg hno, ha]
    simp only [ne_eq, not_true, if_false, ite_false]
    rw [takeAll_ok M (L ++ [s]) h']
    simp
end Go.Proofs.YtkhdnfmnnapjlaaGreatDoor.Vw
