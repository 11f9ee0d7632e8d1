/- Lists of operations among a statement's arguments; the contract of ladinglaw07's few. The operations on a ring and a book as contracts with given answers; the contract of ladinglaw07's small. Layer 8 in plain words: what a client keeps of a log, what it accepts, what it answers; its bytes. No program stands in this text. The view (layer 8) in memory: where it lies, what is kept when other memory changes, what its maps answer, how they take a further claim. The contracts of the view's New, Key, Text, Size, Age, Absent, Known, and of about. -/
import Derived.Test.YtagmlemlagbfkaaGreatDoorPkMTells6
import Derived.Test.YtagmlemlagbfkaaGreatDoorPkMTells0
import Derived.Test.YtagmlemlagbfkaaGreatDoorPkMTells4
import Derived.Test.YtagmlemlagbfkaaGreatDoorPkMTells2
import Derived.Test.YtagmlemlagbfkaaGreatDoorPkMTells1
namespace Go.Proofs.YtagmlemlagbfkaaGreatDoor
open Go.ChangeShapes Go.WideShapes Go.ChangeAt Go.RowKit Go.Joins
set_option linter.unusedVariables false
set_option linter.unusedSimpArgs false
attribute [local irreducible] Calls

section
variable {H : Type} {enc : TypeId × Value → H} {w : World} {base : Nat} {sp : Nat → Bool} {held : Bool} {n : Nat} {x : DataW H × List MemPlace}
end
end Go.Proofs.YtagmlemlagbfkaaGreatDoor
namespace Go.Proofs.YtagmlemlagbfkaaGreatDoor
open Go.RowKit
set_option linter.unusedVariables false
set_option linter.unusedSimpArgs false
attribute [local irreducible] Calls

theorem BookAt.base {B B' : Nat} {w : World} {r : BookR} {rb : Nat} {b : Bk.Book} (h : BookAt B w r rb b) (hB : B' ≤ B) (hg : nG ≤ B') : BookAt B' w r rb b :=
  ⟨hg, Nat.le_trans hB h.bb, Nat.le_trans hB h.fb, h.blk, owns_base h.own hB, h.map, h.keys, h.len, h.last, h.told, h.key⟩
theorem RingAt.base {B B' : Nat} {w : World} {r : RingR} {L : List Bk.Seal} (h : RingAt B w r L) (hB : B' ≤ B) (hg : nG ≤ B') : RingAt B' w r L :=
  ⟨hg, Nat.le_trans hB h.rb, Nat.le_trans hB h.mb, h.blk, owns_base h.own hB, h.map, h.nd, h.key⟩
theorem new_b' (rb : Nat) (key : Int) (hk : Bk.isKey key = true) (w : World) (g : Gl w) : Calls Tryz.prog 67 #[.pointer (some ⟨rb, 0, none⟩), .int .i64 key] w fun e w' =>
    ∃ r, e = .returned (.tuple #[.pointer (some ⟨r.bb, 0, none⟩), .int .i64 0]) ∧ BookAt w.heap.size w' r rb (Bk.new key) ∧ Nw w w' := by
  refine (new_b rb key w g).mono ?_
  rintro e w' (⟨_, h⟩ | ⟨h, _⟩)
  · exact h
  · rw [hk] at h; cases h
end Go.Proofs.YtagmlemlagbfkaaGreatDoor
namespace Go.Proofs.YtagmlemlagbfkaaGreatDoor.Vw
open Go.Lib Go.RowKit Wire
open Bk (Seal Sgn noSgn isKey place valid)
open Cl (Clm contra)
set_option linter.unusedVariables false
set_option linter.unusedSimpArgs false

def claimOf (s : Sgn) : Clm := (Cl.read s.text).1
def isLog (t : List UInt8) : Bool := (Cl.read t).2 && decide ((Cl.read t).1.kind ≤ 2)
def clashes (L : List Sgn) (c : Clm) : Bool := L.any fun x => contra (claimOf x) c
/-- The error, and what is kept. -/
def accept (Lr : List Seal) (key : Int) (L : List Sgn) (s : Sgn) : Int × List Sgn :=
  if valid Lr s = false then (18, L)
  else if s.key ≠ key then (22, L)
  else if isLog s.text = false then (2, L)
  else if clashes L (claimOf s) = true then (21, L)
  else if s ∈ L then (0, L)
  else (0, L ++ [s])
def clash (L : List Sgn) (s : Sgn) : Sgn × Bool :=
  if (Cl.read s.text).2 = false then (noSgn, false)
  else match L.find? (fun x => contra (claimOf x) (claimOf s)) with
    | some x => (x, true)
    | none => (noSgn, false)
def entOf (s : Sgn) : Option (Int × List UInt8) := if (claimOf s).kind = 0 then some ((claimOf s).n, (claimOf s).text) else none
def entA (L : List Sgn) : List (Int × List UInt8) := L.filterMap entOf
def textAt (L : List Sgn) (i : Int) : List UInt8 × Bool := match (entA L).find? (fun p => decide (p.1 = i)) with
  | some p => (p.2, true)
  | none => ([], false)
def sizeStep (r : Int × Int) (s : Sgn) : Int × Int := if (claimOf s).kind = 1 ∧ r.2 < (claimOf s).time then ((claimOf s).n, (claimOf s).time) else r
def sizeOf (L : List Sgn) : Int × Int := L.foldl sizeStep (0, -1)
def age (L : List Sgn) (now : Int) : Int := if (sizeOf L).2 < 0 ∨ now < (sizeOf L).2 then -1 else now - (sizeOf L).2
def absStep (k : List UInt8) (r : Int × Bool) (s : Sgn) : Int × Bool := if (claimOf s).kind = 2 ∧ (claimOf s).text = k then (max r.1 (claimOf s).n, true) else r
def absentOf (L : List Sgn) (k : List UInt8) : Int × Bool := L.foldl (absStep k) (0, false)
def known (L : List Sgn) (n : Int) : Bool := (List.range n.toNat).all fun i => (textAt L i).2
def itemE (s : Sgn) : List UInt8 := numE s.mark ++ textE s.text
def bytesOf (key : Int) (L : List Sgn) : List UInt8 := (numE key ++ numE L.length) ++ (L.map itemE).flatten
def addA : List (List UInt8 × Int) → List UInt8 → Int → List (List UInt8 × Int)
  | [], k, n => [(k, n)]
  | (k', m) :: A, k, n => if k' = k then (k', max m n) :: A else (k', m) :: addA A k n
def absAStep (A : List (List UInt8 × Int)) (s : Sgn) : List (List UInt8 × Int) := if (claimOf s).kind = 2 then addA A (claimOf s).text (claimOf s).n else A
def absA (L : List Sgn) : List (List UInt8 × Int) := L.foldl absAStep []
/-- What has been accepted is signed by the key, of a log, not contradictory, and each is there once. -/
structure VOk (Lr : List Seal) (key : Int) (L : List Sgn) : Prop where
  each : ∀ s ∈ L, valid Lr s = true ∧ s.key = key ∧ isLog s.text = true
  apart : ∀ x ∈ L, ∀ y ∈ L, contra (claimOf x) (claimOf y) = false
  nodup : L.Nodup
theorem VOk.nil (Lr : List Seal) (key : Int) : VOk Lr key [] := ⟨fun s h => (by cases h), fun s h => (by cases h), List.nodup_nil⟩
theorem log_spec {s : Sgn} (h : isLog s.text = true) : Cl.right (claimOf s) = true ∧ Cl.text (claimOf s) = s.text ∧ (Cl.read s.text).2 = true ∧ 0 ≤ (claimOf s).kind ∧ (claimOf s).kind ≤ 2 := by
  unfold isLog at h
  rw [Bool.and_eq_true, decide_eq_true_eq] at h
  obtain ⟨h1, h2⟩ := Cl.read_inv (s := s.text) (c := claimOf s) (by rw [← h.1]; rfl)
  exact ⟨h1, h2, h.1, (Cl.right_bounds h1).1, h.2⟩
theorem accept_cases (Lr : List Seal) (key : Int) (L : List Sgn) (s : Sgn) :
    (valid Lr s = false ∧ accept Lr key L s = (18, L)) ∨ (valid Lr s = true ∧ s.key ≠ key ∧ accept Lr key L s = (22, L)) ∨ (valid Lr s = true ∧ s.key = key ∧ isLog s.text = false ∧ accept Lr key L s = (2, L)) ∨
    (valid Lr s = true ∧ s.key = key ∧ isLog s.text = true ∧ clashes L (claimOf s) = true ∧ accept Lr key L s = (21, L)) ∨
    (valid Lr s = true ∧ s.key = key ∧ isLog s.text = true ∧ clashes L (claimOf s) = false ∧ s ∈ L ∧ accept Lr key L s = (0, L)) ∨
    (valid Lr s = true ∧ s.key = key ∧ isLog s.text = true ∧ clashes L (claimOf s) = false ∧ s ∉ L ∧ accept Lr key L s = (0, L ++ [s])) := by
  unfold accept
  by_cases h1 : valid Lr s = false
  · exact Or.inl ⟨h1, if_pos h1⟩
  rw [if_neg h1]
  have h1' : valid Lr s = true := by simpa using h1
  by_cases h2 : s.key ≠ key
  · exact Or.inr (Or.inl ⟨h1', h2, if_pos h2⟩)
  rw [if_neg h2]
  have h2' : s.key = key := by simpa using h2
  by_cases h3 : isLog s.text = false
  · exact Or.inr (Or.inr (Or.inl ⟨h1', h2', h3, if_pos h3⟩))
  rw [if_neg h3]
  have h3' : isLog s.text = true := by simpa using h3
  by_cases h4 : clashes L (claimOf s) = true
  · exact Or.inr (Or.inr (Or.inr (Or.inl ⟨h1', h2', h3', h4, if_pos h4⟩)))
  rw [if_neg h4]
  have h4' : clashes L (claimOf s) = false := by simpa using h4
  by_cases h5 : s ∈ L
  · exact Or.inr (Or.inr (Or.inr (Or.inr (Or.inl ⟨h1', h2', h3', h4', h5, if_pos h5⟩))))
  · exact Or.inr (Or.inr (Or.inr (Or.inr (Or.inr ⟨h1', h2', h3', h4', h5, if_neg h5⟩))))
theorem clashes_no {L : List Sgn} {c : Clm} : clashes L c = false ↔ ∀ x ∈ L, contra (claimOf x) c = false := by
  unfold clashes
  simp [List.any_eq_false]
theorem VOk.snoc {Lr : List Seal} {key : Int} {L : List Sgn} (h : VOk Lr key L) {s : Sgn} (h1 : valid Lr s = true) (h2 : s.key = key) (h3 : isLog s.text = true) (h4 : clashes L (claimOf s) = false) (h5 : s ∉ L) : VOk Lr key (L ++ [s]) := by
  refine ⟨fun x hx => ?_, fun x hx y hy => ?_, ?_⟩
  · rcases List.mem_append.1 hx with hx | hx
    · exact h.each x hx
    · rw [List.mem_singleton.1 hx]; exact ⟨h1, h2, h3⟩
  · rcases List.mem_append.1 hx with hx | hx <;> rcases List.mem_append.1 hy with hy | hy
    · exact h.apart x hx y hy
    · rw [List.mem_singleton.1 hy]; exact clashes_no.1 h4 x hx
    · rw [List.mem_singleton.1 hx, Cl.contra_symm]; exact clashes_no.1 h4 y hy
    · rw [List.mem_singleton.1 hx, List.mem_singleton.1 hy]; exact Cl.contra_self _
  · rw [List.nodup_append]
    exact ⟨h.nodup, by simp, fun a ha b hb e => by rw [List.mem_singleton.1 hb] at e; subst e; exact h5 ha⟩
theorem VOk.pre {Lr : List Seal} {key : Int} {L M : List Sgn} (h : VOk Lr key (L ++ M)) : VOk Lr key L :=
  ⟨fun s hs => h.each s (List.mem_append_left _ hs), fun x hx y hy => h.apart x (List.mem_append_left _ hx) y (List.mem_append_left _ hy), (List.nodup_append.1 h.nodup).1⟩
theorem accept_ok {Lr : List Seal} {key : Int} {L : List Sgn} (h : VOk Lr key L) (s : Sgn) : VOk Lr key (accept Lr key L s).2 := by
  rcases accept_cases Lr key L s with ⟨_, e⟩ | ⟨_, _, e⟩ | ⟨_, _, _, e⟩ | ⟨_, _, _, _, e⟩ | ⟨_, _, _, _, _, e⟩ | ⟨h1, h2, h3, h4, h5, e⟩
  all_goals rw [e]
  all_goals try exact h
  exact h.snoc h1 h2 h3 h4 h5
/-- A longer ring holds what the shorter one holds. -/
theorem place_more {L M : List Seal} {e : Seal} {i : Nat} (h : place L e = some i) : place (L ++ M) e = some i := by
  induction L generalizing i with
  | nil => cases h
  | cons x l ih =>
    rw [List.cons_append]
    unfold place at h ⊢
    split at h
    · rename_i hx; rw [if_pos hx]; exact h
    · rename_i hx
      rw [if_neg hx]
      cases hp : place l e with
      | none => rw [hp] at h; cases h
      | some j => rw [hp] at h; rw [ih hp]; exact h
theorem valid_more {L : List Seal} (M : List Seal) {s : Sgn} (h : valid L s = true) : valid (L ++ M) s = true := by
  unfold valid at h ⊢
  split at h
  · rename_i i hi; rw [place_more hi]; exact h
  · cases h
theorem VOk.more {Lr : List Seal} {key : Int} {L : List Sgn} (h : VOk Lr key L) (M : List Seal) : VOk (Lr ++ M) key L :=
  ⟨fun s hs => ⟨valid_more M (h.each s hs).1, (h.each s hs).2⟩, h.apart, h.nodup⟩
theorem valid_mark {Lr : List Seal} {x y : Sgn} (hx : valid Lr x = true) (hy : valid Lr y = true) (hk : x.key = y.key) (ht : x.text = y.text) : x = y := by
  unfold valid at hx hy
  rw [hk, ht] at hx
  split at hy
  · rename_i i hi
    rw [hi] at hx
    simp only [decide_eq_true_eq] at hx hy
    cases x; cases y; simp_all
  · cases hy
theorem valid_lt {Lr : List Seal} {x : Sgn} (h : valid Lr x = true) : 0 ≤ x.mark ∧ x.mark < Lr.length := by
  unfold valid at h
  split at h
  · rename_i i hi
    have := Bk.place_lt hi
    simp only [decide_eq_true_eq] at h
    omega
  · cases h
theorem same_claim {Lr : List Seal} {x y : Sgn} (hx : valid Lr x = true) (hy : valid Lr y = true) (hk : x.key = y.key) (lx : isLog x.text = true) (ly : isLog y.text = true) (hc : claimOf x = claimOf y) : x = y :=
  valid_mark hx hy hk (by rw [← (log_spec lx).2.1, ← (log_spec ly).2.1, hc])
/-- Two entries of one number, not contradictory, are one claim. -/
theorem entry_same {a b : Clm} (ha : Cl.right a = true) (hb : Cl.right b = true) (ka : a.kind = 0) (kb : b.kind = 0) (hn : a.n = b.n) (hc : contra a b = false) : a = b := by
  have ta := Cl.right_time0 ha ka
  have tb := Cl.right_time0 hb kb
  have ht : a.text = b.text := by
    by_cases e : a.text = b.text
    · exact e
    · have : contra a b = true := (Cl.contra_iff a b).2 ⟨ha, hb, Or.inr (Or.inr (Or.inr (Or.inr ⟨by omega, Or.inl ka, hn, by omega, e⟩)))⟩
      rw [hc] at this; cases this
  cases a; cases b
  simp only [] at ka kb hn ta tb ht
  subst ka; subst hn; subst ta; subst ht
  simp only [Cl.Clm.mk.injEq]
  exact ⟨kb.symm, trivial, tb.symm, trivial⟩
theorem entA_snoc (L : List Sgn) (s : Sgn) : entA (L ++ [s]) = entA L ++ (match entOf s with | some p => [p] | none => []) := by
  unfold entA
  rw [List.filterMap_append]
  congr 1
  cases h : entOf s <;> simp [List.filterMap_cons, h]
theorem entA_mem {L : List Sgn} {p : Int × List UInt8} : p ∈ entA L ↔ ∃ s ∈ L, (claimOf s).kind = 0 ∧ p = ((claimOf s).n, (claimOf s).text) := by
  unfold entA entOf
  rw [List.mem_filterMap]
  constructor
  · rintro ⟨s, hs, h⟩
    split at h
    · rename_i hk; exact ⟨s, hs, hk, by injection h with h; exact h.symm⟩
    · cases h
  · rintro ⟨s, hs, hk, rfl⟩
    exact ⟨s, hs, if_pos hk⟩
theorem ent_new {Lr : List Seal} {key : Int} {L : List Sgn} (h : VOk Lr key L) {s : Sgn} (h1 : valid Lr s = true) (h2 : s.key = key) (h3 : isLog s.text = true) (h4 : clashes L (claimOf s) = false) (h5 : s ∉ L) (hk : (claimOf s).kind = 0) :
    ∀ p ∈ entA L, p.1 ≠ (claimOf s).n := by
  intro p hp e
  obtain ⟨x, hx, kx, rfl⟩ := entA_mem.1 hp
  obtain ⟨v, k, l⟩ := h.each x hx
  have := entry_same (log_spec l).1 (log_spec h3).1 kx hk e (clashes_no.1 h4 x hx)
  have := same_claim v h1 (by rw [k, h2]) l h3 this
  subst this
  exact h5 hx
theorem ent_nodup {Lr : List Seal} {key : Int} {L : List Sgn} (h : VOk Lr key L) : ((entA L).map (·.1)).Nodup := by
  unfold entA List.Nodup
  rw [List.pairwise_map, List.pairwise_filterMap]
  refine h.nodup.imp_of_mem ?_
  intro x y hx hy hne p hp q hq e
  unfold entOf at hp hq
  split at hp
  · rename_i kx
    split at hq
    · rename_i ky
      injection hp with hp
      injection hq with hq
      subst hp; subst hq
      obtain ⟨v, k, l⟩ := h.each x hx
      obtain ⟨v', k', l'⟩ := h.each y hy
      exact hne (same_claim v v' (by rw [k, k']) l l' (entry_same (log_spec l).1 (log_spec l').1 kx ky e (h.apart x hx y hy)))
    · cases hq
  · cases hp
theorem nodup_fst {α β : Type} {l : List (α × β)} (h : (l.map (·.1)).Nodup) {a : α} {b c : β} (h1 : (a, b) ∈ l) (h2 : (a, c) ∈ l) : b = c := by
  induction l with
  | nil => cases h1
  | cons x l ih =>
    rw [List.map_cons, List.nodup_cons] at h
    rcases List.mem_cons.1 h1 with e1 | h1' <;> rcases List.mem_cons.1 h2 with e2 | h2'
    · rw [← e1] at e2; injection e2 with _ e; exact e.symm
    · subst e1; exact absurd (List.mem_map.2 ⟨_, h2', rfl⟩) h.1
    · subst e2; exact absurd (List.mem_map.2 ⟨_, h1', rfl⟩) h.1
    · exact ih h.2 h1' h2'
theorem text_in {Lr : List Seal} {key : Int} {L : List Sgn} (h : VOk Lr key L) {i : Int} {t : List UInt8} (hm : (i, t) ∈ entA L) : textAt L i = (t, true) := by
  unfold textAt
  cases hf : (entA L).find? (fun p => decide (p.1 = i)) with
  | none =>
    have := List.find?_eq_none.1 hf _ hm
    simp at this
  | some p =>
    have h1 := List.mem_of_find?_eq_some hf
    have h2 := List.find?_some hf
    simp only [decide_eq_true_eq] at h2
    obtain ⟨j, u⟩ := p
    simp only at h2
    subst h2
    rw [nodup_fst (ent_nodup h) h1 hm]
theorem text_is {L : List Sgn} {i : Int} (h : (textAt L i).2 = true) : (i, (textAt L i).1) ∈ entA L := by
  unfold textAt at h ⊢
  cases hf : (entA L).find? (fun p => decide (p.1 = i)) with
  | none => rw [hf] at h; cases h
  | some p =>
    have h1 := List.mem_of_find?_eq_some hf
    have h2 := List.find?_some hf
    simp only [decide_eq_true_eq] at h2
    obtain ⟨j, u⟩ := p
    simp only at h2
    subst h2
    exact h1
/-- As many numbers as are below n: at least n entries. -/
theorem many {n : Nat} : ∀ (l : List Int), (∀ i, i < n → (i : Int) ∈ l) → n ≤ l.length := by
  induction n with
  | zero => intro l _; exact Nat.zero_le _
  | succ n ih =>
    intro l h
    have h0 := h n (by omega)
    have := ih (l.erase n) (fun i hi => (List.mem_erase_of_ne (by omega)).2 (h i (by omega)))
    rw [List.length_erase_of_mem h0] at this
    have := List.length_pos_of_mem h0
    omega
theorem known_all {L : List Sgn} {n : Int} : known L n = true ↔ ∀ i : Nat, (i : Int) < n → (textAt L i).2 = true := by
  unfold known
  rw [List.all_eq_true]
  constructor
  · intro h i hi; exact h i (List.mem_range.2 (by omega))
  · intro h i hi; exact h i (by have := List.mem_range.1 hi; omega)
/-! ### absent keys -/
theorem addA_keys (A : List (List UInt8 × Int)) (k : List UInt8) (n : Int) (h : (A.map (·.1)).Nodup) :
    ((∀ p ∈ A, p.1 ≠ k) ∧ addA A k n = A ++ [(k, n)]) ∨ ∃ l1 l2 m, A = l1 ++ (k, m) :: l2 ∧ addA A k n = l1 ++ (k, max m n) :: l2 := by
  induction A with
  | nil => exact Or.inl ⟨fun p hp => (by cases hp), rfl⟩
  | cons x A ih =>
    obtain ⟨k', m⟩ := x
    unfold addA
    by_cases e : k' = k
    · subst e
      rw [if_pos rfl]
      exact Or.inr ⟨[], A, m, rfl, rfl⟩
    · rw [if_neg e]
      rw [List.map_cons, List.nodup_cons] at h
      rcases ih h.2 with ⟨h1, h2⟩ | ⟨l1, l2, m2, h1, h2⟩
      · exact Or.inl ⟨fun p hp => by rcases List.mem_cons.1 hp with rfl | hp; exact e; exact h1 p hp, by rw [h2]; rfl⟩
      · exact Or.inr ⟨(k', m) :: l1, l2, m2, by rw [h1]; rfl, by rw [h2]; rfl⟩
theorem addA_nodup {A : List (List UInt8 × Int)} {k : List UInt8} {n : Int} (h : (A.map (·.1)).Nodup) : ((addA A k n).map (·.1)).Nodup := by
  rcases addA_keys A k n h with ⟨h1, h2⟩ | ⟨l1, l2, m, h1, h2⟩
  · rw [h2, List.map_append, List.nodup_append]
    refine ⟨h, by simp, fun a ha b hb e => ?_⟩
    obtain ⟨p, hp, rfl⟩ := List.mem_map.1 ha
    simp only [List.map_cons, List.map_nil, List.mem_singleton] at hb
    exact h1 p hp (e.trans hb)
  · rw [h2]
    rw [h1] at h
    simpa using h
theorem absA_snoc (L : List Sgn) (s : Sgn) : absA (L ++ [s]) = absAStep (absA L) s := by unfold absA; rw [List.foldl_append]; rfl
theorem absA_nodup (L : List Sgn) : ((absA L).map (·.1)).Nodup := by
  unfold absA
  suffices ∀ (M : List Sgn) (A : List (List UInt8 × Int)), (A.map (·.1)).Nodup → ((M.foldl absAStep A).map (·.1)).Nodup from this L [] (by simp)
  intro M
  induction M with
  | nil => intro A h; exact h
  | cons s M ih =>
    intro A h
    refine ih _ ?_
    unfold absAStep
    split
    · exact addA_nodup h
    · exact h
theorem absentOf_snoc (L : List Sgn) (s : Sgn) (k : List UInt8) : absentOf (L ++ [s]) k = absStep k (absentOf L k) s := by unfold absentOf; rw [List.foldl_append]; rfl
theorem sizeOf_snoc (L : List Sgn) (s : Sgn) : sizeOf (L ++ [s]) = sizeStep (sizeOf L) s := by unfold sizeOf; rw [List.foldl_append]; rfl
/-- The map's entries are what the fold over the claims says. -/
theorem abs_spec_rev : ∀ (R : List Sgn), (∀ s ∈ R, isLog s.text = true) → ∀ k, (∀ n, (k, n) ∈ absA R.reverse ↔ absentOf R.reverse k = (n, true)) ∧ ((absentOf R.reverse k).2 = false → (absentOf R.reverse k).1 = 0) ∧ 0 ≤ (absentOf R.reverse k).1
  | [] => fun _ k => ⟨fun n => by simp [absA, absentOf], fun _ => rfl, by simp [absentOf]⟩
  | s :: R => by
    intro hl k
    have ih := abs_spec_rev R (fun s hs => hl s (List.mem_cons_of_mem _ hs))
    have hn0 := (Cl.right_bounds (log_spec (hl s (List.mem_cons_self ..))).1).2.2.1
    rw [List.reverse_cons, absA_snoc, absentOf_snoc]
    generalize hA : absA R.reverse = A at ih ⊢
    have hnd : (A.map (·.1)).Nodup := by rw [← hA]; exact absA_nodup _
    obtain ⟨ih1, ih2, ih3⟩ := ih k
    unfold absAStep absStep
    by_cases hk : (claimOf s).kind = 2
    · rw [if_pos hk]
      by_cases ht : (claimOf s).text = k
      · rw [if_pos ⟨hk, ht⟩]
        refine ⟨fun n => ?_, fun h => (by cases h), by omega⟩
        rcases addA_keys A (claimOf s).text (claimOf s).n hnd with ⟨h1, h2⟩ | ⟨l1, l2, m, h1, h2⟩
        · rw [h2, ht]
          have h0 : (absentOf R.reverse k).1 = 0 := ih2 (by
            cases hb : (absentOf R.reverse k).2 with
            | false => rfl
            | true => exact absurd ht.symm (h1 _ ((ih1 (absentOf R.reverse k).1).2 (by rw [← hb]))))
          rw [h0, List.mem_append, List.mem_singleton]
          constructor
          · rintro (h | h)
            · exact absurd ht.symm (h1 _ h)
            · injection h with _ h; rw [h]; congr 1; omega
          · intro h; injection h with h _; right; rw [← h]; congr 1; omega
        · have hm : (k, m) ∈ A := by rw [h1, ht]; simp
          have e := (ih1 m).1 hm
          rw [e]
          have hnd2 := addA_nodup (k := (claimOf s).text) (n := (claimOf s).n) hnd
          have hin : (k, max m (claimOf s).n) ∈ addA A (claimOf s).text (claimOf s).n := by rw [h2, ht]; simp
          constructor
          · intro h; rw [nodup_fst hnd2 h hin]
          · intro h; injection h with h _; rw [← h]; exact hin
      · rw [if_neg (fun e => ht e.2)]
        refine ⟨fun n => ?_, ih2, ih3⟩
        rw [← ih1 n]
        rcases addA_keys A (claimOf s).text (claimOf s).n hnd with ⟨h1, h2⟩ | ⟨l1, l2, m, h1, h2⟩
        · rw [h2, List.mem_append, List.mem_singleton]
          constructor
          · rintro (h | h)
            · exact h
            · injection h with h _; exact absurd h.symm ht
          · exact Or.inl
        · rw [h2, h1]
          simp only [List.mem_append, List.mem_cons, Prod.mk.injEq]
          constructor
          · rintro (h | ⟨h, _⟩ | h)
            · exact Or.inl h
            · exact absurd h.symm ht
            · exact Or.inr (Or.inr h)
          · rintro (h | ⟨h, _⟩ | h)
            · exact Or.inl h
            · exact absurd h.symm ht
            · exact Or.inr (Or.inr h)
    · rw [if_neg hk, if_neg (fun e => hk e.1)]
      exact ⟨ih1, ih2, ih3⟩
theorem abs_spec {L : List Sgn} (h : ∀ s ∈ L, isLog s.text = true) (k : List UInt8) : (∀ n, (k, n) ∈ absA L ↔ absentOf L k = (n, true)) ∧ ((absentOf L k).2 = false → (absentOf L k).1 = 0) ∧ 0 ≤ (absentOf L k).1 := by
  have := abs_spec_rev L.reverse (fun s hs => h s (List.mem_reverse.1 hs)) k
  rwa [List.reverse_reverse] at this
theorem abs_in {L : List Sgn} (h : ∀ s ∈ L, isLog s.text = true) {k : List UInt8} {n : Int} (hm : (k, n) ∈ absA L) : absentOf L k = (n, true) := ((abs_spec h k).1 n).1 hm
theorem abs_out {L : List Sgn} (h : ∀ s ∈ L, isLog s.text = true) {k : List UInt8} (hm : ∀ p ∈ absA L, p.1 ≠ k) : absentOf L k = (0, false) := by
  obtain ⟨h1, h2, _⟩ := abs_spec h k
  cases hb : (absentOf L k).2 with
  | true => exact absurd rfl (hm _ ((h1 (absentOf L k).1).2 (by rw [← hb])))
  | false => rw [← h2 hb, ← hb]
/-! ### Reading -/
end Go.Proofs.YtagmlemlagbfkaaGreatDoor.Vw
namespace Go.Proofs.YtagmlemlagbfkaaGreatDoor
open Go.RowKit Go.MapKept
open Go.Maps (Keyed)
set_option linter.unusedVariables false
set_option linter.unusedSimpArgs false

abbrev tView : TypeId := 136
abbrev tInt : TypeId := 3
abbrev tStr8 : TypeId := 9
def str8 (s : List UInt8) : Value := .string ⟨s.toArray⟩
theorem str8_inj {a b : List UInt8} (h : str8 a = str8 b) : a = b := by
  simp [str8] at h
  exact h
theorem str8Keyed : Keyed Tryz.prog tStr8 := Maps.string_keyed Tryz.underlying9
theorem intKeyed : Keyed Tryz.prog tInt := Maps.int_keyed Tryz.underlying3
theorem int_key {n : Int} (h : I64 n) : keyOf Tryz.prog tInt (.int .i64 n) = some (.int .i64 n) := by
  unfold keyOf
  rw [Tryz.underlying3]
  unfold I64 at h
  simp [mapKey, Tryz.underlying3, i64_wf' h]
/-- 'm[k] = v', the key there already. -/
theorem MapL.store_old {P : Program} {t k e : TypeId} {w : World} {b : Nat} {l1 l2 : List (Value × Value)} {key v : Value} (h : MapL P k w b (l1 ++ (key, v) :: l2)) (K : Keyed P k) (ht : P.underlying t = some (.map k e)) (hg : nG ≤ b) {kl : Lit} (hkey : keyOf P k key = some kl) (val : Value) :
    ∃ w', (Instr.mapUpdate t (.map (some b)) key val).run P w = .ok () w' ∧ MapL P k w' b (l1 ++ (key, val) :: l2) ∧ Upd (· = b) w w' := by
  obtain ⟨es, clock, hb, hpm, hk, hs⟩ := h
  have hke : ∀ x ∈ es.toList, ∃ l, keyOf P k x.key = some l := fun x hx => hk (x.key, x.val) (hpm.mem_iff.1 (List.mem_map.2 ⟨x, hx, rfl⟩))
  have hlt := lt_of_block hb
  rcases K.find w hkey es.toList hke with ⟨h1, h2⟩ | ⟨j, e0, h1, h2, h3⟩
  · obtain ⟨x, hx, e⟩ := List.mem_map.1 (hpm.mem_iff.2 (show (key, v) ∈ l1 ++ (key, v) :: l2 by simp))
    injection e with e _
    exact absurd e (h2 x hx)
  · have hjl : j < es.toList.length := (List.getElem?_eq_some_iff.1 h2).1
    have hje : es.toList[j] = e0 := (List.getElem?_eq_some_iff.1 h2).2
    have hlist : (es.modify j (fun e' => { e' with key := key, val := val })).toList = es.toList.set j { e0 with key := key, val := val } := by rw [Array.toList_modify, Go.ChangeMaps.modify_eq_set _ _ _ _ h2]
    have hst := (stamped_iff es clock).1 hs
    have hsp : es.toList = es.toList.take j ++ e0 :: es.toList.drop (j + 1) := by rw [← hje, ← List.drop_eq_getElem_cons hjl, List.take_append_drop]
    have hset : es.toList.set j { e0 with key := key, val := val } = es.toList.take j ++ { e0 with key := key, val := val } :: es.toList.drop (j + 1) := by rw [List.set_eq_take_append_cons_drop, if_pos hjl]
    have hnd : ((es.toList.map (fun e => (e.key, e.val))).map (·.1)).Nodup := by rw [List.map_map]; exact List.pairwise_map.2 (hst.2.2.imp (fun h => h))
    have hv : e0.val = v := by
      have m1 : (key, e0.val) ∈ es.toList.map (fun e => (e.key, e.val)) := List.mem_map.2 ⟨e0, List.mem_of_getElem? h2, by rw [h3]⟩
      have m2 : (key, v) ∈ es.toList.map (fun e => (e.key, e.val)) := hpm.mem_iff.2 (by simp)
      exact Vw.nodup_fst hnd m1 m2
    have hp2 : ((es.toList.take j).map (fun e => (e.key, e.val)) ++ (es.toList.drop (j + 1)).map (fun e => (e.key, e.val))).Perm (l1 ++ l2) := by
      have q := hpm
      rw [hsp, List.map_append, List.map_cons, h3, hv] at q
      exact (List.Perm.cons_inv ((List.perm_middle.symm.trans q).trans List.perm_middle))
    refine ⟨{ w with heap := w.heap.setIfInBounds b (.map (es.modify j (fun e' => { e' with key := key, val := val })) clock) }, ?_, ⟨es.modify j (fun e' => { e' with key := key, val := val }), clock, ?_, ?_, ?_, stamped_modify hs j _ (fun _ _ => rfl) (fun e he he' => ?_)⟩, Upd.setBlock hg _⟩
    · have hj : es[j]? = some e0 := by simpa using h2
      simp [Instr.mapUpdate, run_underlying ht, MapKept.run_getObj_map hb, K.check w false hkey, h1, hj, h3, K.stays w hkey, MapKept.run_setObj_map _ hb, Result.andThen]
    · simp [Array.getElem?_setIfInBounds, hlt]
    · rw [hlist, hset, List.map_append, List.map_cons]
      exact List.perm_middle.trans ((List.Perm.cons _ hp2).trans List.perm_middle.symm)
    · intro p hp
      rcases List.mem_append.1 hp with hp | hp
      · exact hk p (List.mem_append_left _ hp)
      · rcases List.mem_cons.1 hp with rfl | hp
        · exact ⟨kl, hkey⟩
        · exact hk p (List.mem_append_right _ (List.mem_cons_of_mem _ hp))
    · have : es[j]? = some e0 := by simpa using h2
      rw [this] at he'
      cases he'
      exact h3.symm
def sgl (s : Bk.Sgn) : List Value := [.int .i64 s.key, .string ⟨s.text.toArray⟩, .int .i64 s.mark]
def cml (c : Cl.Clm) : List Value := [.int .i64 c.kind, .int .i64 c.n, .int .i64 c.time, .string ⟨c.text.toArray⟩]
def flatS (L : List Bk.Sgn) : List Value := (L.map sgl).flatten
def flatM (L : List Bk.Sgn) : List Value := (L.map fun s => cml (Vw.claimOf s)).flatten
theorem flatS_snoc (L : List Bk.Sgn) (s : Bk.Sgn) : flatS (L ++ [s]) = flatS L ++ sgl s := by simp [flatS]
theorem flatM_snoc (L : List Bk.Sgn) (s : Bk.Sgn) : flatM (L ++ [s]) = flatM L ++ cml (Vw.claimOf s) := by simp [flatM]
theorem infoSgn : (Tryz.prog.info? tSigned).map (fun i => (i.zero, i.size, i.bytes)) = some (some (.agg #[.int .i64 0, .string ⟨#[]⟩, .int .i64 0]), 3, 32) := by kernel_rfl
theorem infoClm : (Tryz.prog.info? tC).map (fun i => (i.zero, i.size, i.bytes)) = some (some (.agg #[.int .i64 0, .int .i64 0, .int .i64 0, .string ⟨#[]⟩]), 4, 40) := by kernel_rfl
theorem sgl_one (s : Bk.Sgn) : ∀ u ∈ sgl s, u.oneCell' = true := by
  intro u hu
  simp only [sgl, List.mem_cons, List.not_mem_nil, or_false] at hu
  rcases hu with rfl | rfl | rfl <;> rfl
theorem cml_one (c : Cl.Clm) : ∀ u ∈ cml c, u.oneCell' = true := by
  intro u hu
  simp only [cml, List.mem_cons, List.not_mem_nil, or_false] at hu
  rcases hu with rfl | rfl | rfl | rfl <;> rfl
def entV (L : List Bk.Sgn) : List (Value × Value) := (Vw.entA L).map fun p => (.int .i64 p.1, str8 p.2)
def absV (L : List Bk.Sgn) : List (Value × Value) := (Vw.absA L).map fun p => (str8 p.1, .int .i64 p.2)
theorem entV_mem {L : List Bk.Sgn} {p : Value × Value} : p ∈ entV L ↔ ∃ i t, (i, t) ∈ Vw.entA L ∧ p = (.int .i64 i, str8 t) := by
  constructor
  · intro h
    obtain ⟨⟨i, t⟩, hq, rfl⟩ := List.mem_map.1 h
    exact ⟨i, t, hq, rfl⟩
  · rintro ⟨i, t, h, rfl⟩
    exact List.mem_map.2 ⟨(i, t), h, rfl⟩
theorem absV_mem {L : List Bk.Sgn} {p : Value × Value} : p ∈ absV L ↔ ∃ k n, (k, n) ∈ Vw.absA L ∧ p = (str8 k, .int .i64 n) := by
  constructor
  · intro h
    obtain ⟨⟨i, t⟩, hq, rfl⟩ := List.mem_map.1 h
    exact ⟨i, t, hq, rfl⟩
  · rintro ⟨i, t, h, rfl⟩
    exact List.mem_map.2 ⟨(i, t), h, rfl⟩
/-- Where a view lies: its block, its two maps', the values of its two slices. -/
structure ViewR where
  vb : Nat
  eb : Nat
  ab : Nat
  sv : Value
  cv : Value
def ViewR.foot (r : ViewR) (k : Nat) : Prop := k = r.vb ∨ k = r.eb ∨ k = r.ab ∨ r.sv.ownBlock = some k ∨ r.cv.ownBlock = some k
def viewC (r : ViewR) (rb : Nat) (key : Int) (L : List Bk.Sgn) : Array Value :=
  #[.pointer (some ⟨rb, 0, none⟩), .int .i64 key, r.sv, r.cv, .map (some r.eb), .map (some r.ab), .int .i64 (Vw.sizeOf L).1, .int .i64 (Vw.sizeOf L).2]
/-- In the blocks from B on lies the view r, asking the ring at rb, with the key and what has been accepted. -/
structure ViewAt (B : Nat) (w : World) (r : ViewR) (rb : Nat) (key : Int) (L : List Bk.Sgn) : Prop where
  hb : nG ≤ B
  vb : B ≤ r.vb
  eb : B ≤ r.eb
  ab : B ≤ r.ab
  ne : r.eb ≠ r.ab
  blk : w.heap[r.vb]? = some (.cells (viewC r rb key L) tView (0, 0))
  sown : w.ownsRow B tSigned 3 r.sv L.length (flatS L)
  cown : w.ownsRow B tC 4 r.cv L.length (flatM L)
  emap : MapL Tryz.prog tInt w r.eb (entV L)
  amap : MapL Tryz.prog tStr8 w r.ab (absV L)
  key : Bk.isKey key = true
section
variable {B : Nat} {w : World} {r : ViewR} {rb : Nat} {key : Int} {L : List Bk.Sgn}
theorem ViewAt.foot_lt (h : ViewAt B w r rb key L) {k : Nat} (hk : r.foot k) : B ≤ k ∧ k < w.heap.size := by
  rcases hk with rfl | rfl | rfl | hk | hk
  · exact ⟨h.vb, lt_of_block h.blk⟩
  · exact ⟨h.eb, h.emap.lt⟩
  · exact ⟨h.ab, h.amap.lt⟩
  · obtain ⟨h1, cs, h2⟩ := own_block h.sown hk
    exact ⟨h1, lt_of_block h2⟩
  · obtain ⟨h1, cs, h2⟩ := own_block h.cown hk
    exact ⟨h1, lt_of_block h2⟩
theorem ViewAt.upd {S : Nat → Prop} {w' : World} (h : ViewAt B w r rb key L) (u : Upd S w w') (hs : ∀ k, r.foot k → ¬ S k) : ViewAt B w' r rb key L :=
  ⟨h.hb, h.vb, h.eb, h.ab, h.ne, u.keep h.blk (hs _ (Or.inl rfl)), owns_upd' h.sown u (fun k hk => hs k (Or.inr (Or.inr (Or.inr (Or.inl hk))))), owns_upd' h.cown u (fun k hk => hs k (Or.inr (Or.inr (Or.inr (Or.inr hk))))),
    h.emap.upd u (hs _ (Or.inr (Or.inl rfl))), h.amap.upd u (hs _ (Or.inr (Or.inr (Or.inl rfl)))), h.key⟩
theorem ViewAt.nw {w' : World} (h : ViewAt B w r rb key L) (u : Nw w w') : ViewAt B w' r rb key L := h.upd u (fun _ _ s => s)
theorem ViewAt.sslice (h : ViewAt B w r rb key L) : ∃ a cap, r.sv = .slice a L.length cap := by
  rcases h.sown.2 with ⟨h1, h2⟩ | ⟨g, cap, cur, h1, _⟩
  · exact ⟨none, 0, by rw [h1, h2]⟩
  · exact ⟨_, _, h1⟩
theorem ViewAt.cslice (h : ViewAt B w r rb key L) : ∃ a cap, r.cv = .slice a L.length cap := by
  rcases h.cown.2 with ⟨h1, h2⟩ | ⟨g, cap, cur, h1, _⟩
  · exact ⟨none, 0, by rw [h1, h2]⟩
  · exact ⟨_, _, h1⟩
theorem ViewAt.cells (h : ViewAt B w r rb key L) :
    w.cell? ⟨r.vb, 0, none⟩ = some (.pointer (some ⟨rb, 0, none⟩)) ∧ w.cell? ⟨r.vb, 1, none⟩ = some (.int .i64 key) ∧ w.cell? ⟨r.vb, 2, none⟩ = some r.sv ∧ w.cell? ⟨r.vb, 3, none⟩ = some r.cv ∧
    w.cell? ⟨r.vb, 4, none⟩ = some (.map (some r.eb)) ∧ w.cell? ⟨r.vb, 5, none⟩ = some (.map (some r.ab)) ∧ w.cell? ⟨r.vb, 6, none⟩ = some (.int .i64 (Vw.sizeOf L).1) ∧ w.cell? ⟨r.vb, 7, none⟩ = some (.int .i64 (Vw.sizeOf L).2) := by
  refine ⟨?_, ?_, ?_, ?_, ?_, ?_, ?_, ?_⟩ <;> (rw [cells_cell h.blk]; rfl)
theorem ViewAt.ring (h : ViewAt B w r rb key L) {rb' : Nat} (e : rb' = rb) : ViewAt B w r rb' key L := by subst e; exact h
theorem log_bounds {s : Bk.Sgn} (h : Vw.isLog s.text = true) : I64C (Vw.claimOf s) ∧ (Vw.claimOf s).text.length ≤ 20000 := by
  obtain ⟨h1, h2, _⟩ := Vw.log_spec h
  obtain ⟨b1, b2, b3, b4, b5, b6, b7⟩ := Cl.right_bounds h1
  exact ⟨⟨by unfold I64; omega, by unfold I64; omega, by unfold I64; omega, by omega⟩, b7⟩
end
end Go.Proofs.YtagmlemlagbfkaaGreatDoor
namespace Go.Proofs.YtagmlemlagbfkaaGreatDoor
open Go.RowKit
open Go.Maps (Keyed)
set_option linter.unusedVariables false
set_option linter.unusedSimpArgs false
attribute [local irreducible] Calls

theorem new_v (rb : Nat) (key : Int) (w : World) (g : Gl w) : Calls Tryz.prog 14 #[.pointer (some ⟨rb, 0, none⟩), .int .i64 key] w fun e w' =>
    (Bk.isKey key = true ∧ ∃ r, e = .returned (.pointer (some ⟨r.vb, 0, none⟩)) ∧ ViewAt w.heap.size w' r rb key [] ∧ Nw w w') ∨
    (Bk.isKey key = false ∧ e = .returned (.pointer none) ∧ Nw w w') := by
  by_cases hk : 0 ≤ key ∧ key < 200
  · have hkk : Bk.isKey key = true := by unfold Bk.isKey; simp [hk]
    obtain ⟨hk1, hk2⟩ := hk
    have Hkk := Lib.hid hkk; clear hkk
    have hmm := @run_makeMap Tryz.prog
    have s1 : (w.alloc (.map #[] 0)).heap.size = w.heap.size + 1 := by simp
    have m1 := MapL.made Tryz.prog tInt w
    have m2 := MapL.made Tryz.prog tStr8 (w.alloc (.map #[] 0))
    have u2 := (nw_alloc w (.map #[] 0)).trans (nw_alloc (w.alloc (.map #[] 0)) (.map #[] 0))
    replace m1 := m1.nw (nw_alloc (w.alloc (.map #[] 0)) (.map #[] 0))
    rw [s1] at m2
    generalize hW : (w.alloc (.map #[] 0)).alloc (.map #[] 0) = W at m1 m2 u2
    have sW : W.heap.size = w.heap.size + 1 + 1 := by rw [← hW]; simp
    have b3 := heap_new W (.cells #[.pointer (some ⟨rb, 0, none⟩), .int .i64 key, .slice none 0 0, .slice none 0 0, .map (some w.heap.size), .map (some (w.heap.size + 1)), .int .i64 0, .int .i64 (-1)] tView)
    have n3 := nw_alloc W (.cells #[.pointer (some ⟨rb, 0, none⟩), .int .i64 key, .slice none 0 0, .slice none 0 0, .map (some w.heap.size), .map (some (w.heap.size + 1)), .int .i64 0, .int .i64 (-1)] tView)
    have M1 := Lib.hid (m1.nw n3)
    have M2 := Lib.hid (m2.nw n3)
    have u3 := u2.trans n3
    rw [sW] at b3
    have B3 := Lib.hid b3
    have HW := Lib.hid hW
    clear m1 m2 b3 hW n3 u2
    go_enter Tryz.func14, Tryz.ntmps14
    go_wp2_with fail
    go_ret
    rw [HW.out]
    exact Or.inl ⟨Hkk.out, ⟨w.heap.size + 1 + 1, w.heap.size, w.heap.size + 1, .slice none 0 0, .slice none 0 0⟩, rfl, ⟨g.big, by show _ ≤ w.heap.size + 1 + 1; omega, Nat.le_refl _, by show _ ≤ w.heap.size + 1; omega, by show w.heap.size ≠ w.heap.size + 1; omega, B3.out, World.ownsRow_nil _ _ _ _, World.ownsRow_nil _ _ _ _, M1.out, M2.out, Hkk.out⟩, u3⟩
  · have hkk : Bk.isKey key = false := by unfold Bk.isKey; rw [← Bool.not_eq_true]; simp; omega
    have Hkk := Lib.hid hkk; clear hkk
    have hk2 : key < 0 ∨ 200 ≤ key := by omega
    clear hk
    rcases hk2 with hk | hk
    all_goals go_enter Tryz.func14, Tryz.ntmps14
    all_goals go_wp2_with fail
    all_goals go_ret
    all_goals exact Or.inr ⟨Hkk.out, rfl, Upd.refl _ _⟩
section
variable (B : Nat) (r : ViewR) (rb : Nat) (key : Int) (L : List Bk.Sgn) (w : World)
theorem age_v (now : Int) (hn : I64 now) (h : ViewAt B w r rb key L) (ht : (Vw.sizeOf L).2 ≤ 1073741824) : Calls Tryz.prog 93 #[.pointer (some ⟨r.vb, 0, none⟩), .int .i64 now] w fun e w' => e = .returned (.int .i64 (Vw.age L now)) ∧ Nw w w' := by
  obtain ⟨_, _, _, _, _, _, _, _⟩ := h.cells
  clear h
  have ha : Vw.age L now = if (Vw.sizeOf L).2 < 0 ∨ now < (Vw.sizeOf L).2 then -1 else now - (Vw.sizeOf L).2 := rfl
  rw [ha]; clear ha
  generalize (Vw.sizeOf L).2 = t at *
  unfold I64 at hn
  by_cases h1 : t < 0
  · rw [if_pos (Or.inl h1)]
    go_enter Tryz.func93, Tryz.ntmps93
    go_wp2_with fail
    go_ret
    exact ⟨rfl, Upd.refl _ _⟩
  by_cases h2 : now < t
  · rw [if_pos (Or.inr h2)]
    go_enter Tryz.func93, Tryz.ntmps93
    go_wp2_with fail
    go_ret
    exact ⟨rfl, Upd.refl _ _⟩
  · rw [if_neg (fun e => e.elim h1 h2)]
    have hw : wrap64 (now - t) = now - t := by unfold wrap64; omega
    go_enter Tryz.func93, Tryz.ntmps93
    go_wp2_with fail
    go_ret
    exact ⟨rfl, Upd.refl _ _⟩
/-- 'len(m)'. -/
theorem MapL.len {P : Program} {k : TypeId} {b : Nat} {l : List (Value × Value)} (h : MapL P k w b l) : ∃ es clock, w.heap[b]? = some (.map es clock) ∧ es.size = l.length := by
  obtain ⟨es, clock, hb, hp, _⟩ := h
  exact ⟨es, clock, hb, by rw [← hp.length_eq, List.length_map, Array.length_toList]⟩
theorem wpList_lenL {P : Program} {ops : Array Oper} {rest : List Oper} {o : Oper} {a : Act} {Q : Exit → Act → World → Prop} (hg : o.guard = none) (m : Operand) (t k e : TypeId) (hop : o.op = Op.call { callee := Callee.builtin Builtin.len, args := #[m], argTypes := #[t] })
    (ht : P.underlying t = some (.map k e)) (b : Nat) (l : List (Value × Value)) (hm : a.eval m = .map (some b)) (h : MapL P k w b l) (hK : wpList P ops Q rest (a.put o.dst (.int .i64 l.length)) w) : wpList P ops Q (o :: rest) a w := by
  refine wpList_plain hg fun K' hK' => ?_
  obtain ⟨es, clock, hb, hes⟩ := h.len
  unfold Oper.wp
  simp [execOp, hop, resolve, invoke, builtin, hm, Result.andThen, Builtin.len_, run_underlying ht, MapKept.run_getObj_map hb, goInt, hes]
  exact hK' _ _ hK
end
end Go.Proofs.YtagmlemlagbfkaaGreatDoor
