/- Meetings (gossip's Meet and Spread) in plain words. -/
import Derived.Test.YtkhdnfmnnapjlaaDoorGosH
namespace Go.Proofs.YtkhdnfmnnapjlaaDoor
open Go.RowKit
set_option linter.unusedVariables false
set_option linter.unusedSimpArgs false
attribute [local irreducible] Calls

def accAll (Lr : List Bk.Seal) (key : Int) (V l : List Bk.Sgn) : List Bk.Sgn := l.foldl (fun V s => (Vw.accept Lr key V s).2) V
theorem accAll_nil (Lr : List Bk.Seal) (key : Int) (V : List Bk.Sgn) : accAll Lr key V [] = V := rfl
theorem accAll_snoc (Lr : List Bk.Seal) (key : Int) (V l : List Bk.Sgn) (s : Bk.Sgn) : accAll Lr key V (l ++ [s]) = (Vw.accept Lr key (accAll Lr key V l) s).2 := by simp [accAll]
theorem accAll_len (Lr : List Bk.Seal) (key : Int) : ∀ (l V : List Bk.Sgn), (accAll Lr key V l).length ≤ V.length + l.length := by
  intro l
  induction l with
  | nil => intro V; exact Nat.le_refl _
  | cons s l ih =>
    intro V
    have h1 := ih (Vw.accept Lr key V s).2
    have h2 := Vw.accept_len Lr key V s
    show (accAll Lr key (Vw.accept Lr key V s).2 l).length ≤ _
    rw [List.length_cons]; omega
/-- The first of the one's claims that the other one contradicts. -/
def firstOdd (L : VL) (i k : Nat) : Option Bk.Sgn := (L i).find? (fun s => (Vw.clash (L k) s).2)
def meetL (Lr : List Bk.Seal) (key : Int) (L : VL) (i k : Nat) : (Bk.Sgn × Bk.Sgn × Bool) × VL :=
  match firstOdd L i k with
  | some s => ((s, (Vw.clash (L k) s).1, true), L)
  | none => ((Bk.noSgn, Bk.noSgn, false), setL (setL L i (accAll Lr key (L i) (L k))) k (accAll Lr key (setL L i (accAll Lr key (L i) (L k)) k) (L i)))
def spreadL (Lr : List Bk.Seal) (key : Int) (n : Nat) : List (Int × Int) → Nat → VL → (Nat × Bk.Sgn × Bk.Sgn × Bool) × VL
  | [], c, L => ((c, Bk.noSgn, Bk.noSgn, false), L)
  | p :: P, c, L =>
    if min p.1 p.2 < 0 ∨ (n : Int) ≤ max p.1 p.2 then spreadL Lr key n P (c + 1) L
    else if (meetL Lr key L p.1.toNat p.2.toNat).1.2.2 = true then ((c, (meetL Lr key L p.1.toNat p.2.toNat).1.1, (meetL Lr key L p.1.toNat p.2.toNat).1.2.1, true), (meetL Lr key L p.1.toNat p.2.toNat).2)
    else spreadL Lr key n P (c + 1) (meetL Lr key L p.1.toNat p.2.toNat).2
theorem setL_set (L : VL) (i : Nat) (a b : List Bk.Sgn) : setL (setL L i a) i b = setL L i b := by
  funext k
  unfold setL
  split <;> rfl
theorem setL_same (L : VL) (i : Nat) : setL L i (L i) = L := by
  funext k
  unfold setL
  split
  · rename_i h; rw [h]
  · rfl
/-- Among honest views no meeting has a clash. -/
theorem made_all {key : Int} {x : Bk.St} {M : List Bk.Sgn} (h : Vw.Made key x M) : ∀ (l V : List Bk.Sgn), (∀ s ∈ l, s ∈ M) → (∀ s ∈ V, s ∈ M) → ∀ s ∈ accAll x.L key V l, s ∈ M := by
  intro l
  induction l with
  | nil => intro V _ hV; exact hV
  | cons s l ih =>
    intro V hl hV
    exact ih _ (fun t ht => hl t (List.mem_cons_of_mem _ ht)) (Vw.made_accept h hV (hl s (List.mem_cons_self ..))).2
theorem made_meet {key : Int} {x : Bk.St} {M : List Bk.Sgn} (h : Vw.Made key x M) {n : Nat} {L : VL} (hL : ∀ i, i < n → ∀ s ∈ L i, s ∈ M) {i k : Nat} (hi : i < n) (hk : k < n) :
    (meetL x.L key L i k).1 = (Bk.noSgn, Bk.noSgn, false) ∧ ∀ j, j < n → ∀ s ∈ (meetL x.L key L i k).2 j, s ∈ M := by
  have hf : firstOdd L i k = none := by
    unfold firstOdd
    rw [List.find?_eq_none]
    intro s hs
    rw [made_clash h (hL k hk) (hL i hi s hs)]
    simp
  unfold meetL
  rw [hf]
  refine ⟨rfl, fun j hj s hs => ?_⟩
  have h1 : ∀ j, j < n → ∀ s ∈ setL L i (accAll x.L key (L i) (L k)) j, s ∈ M := fun j hj s hs => by
    by_cases hji : j = i
    · subst hji; rw [setL_self] at hs; exact made_all h _ _ (hL k hk) (hL j hj) s hs
    · rw [setL_ne _ _ hji] at hs; exact hL j hj s hs
  by_cases hjk : j = k
  · subst hjk
    dsimp only at hs
    rw [setL_self] at hs
    exact made_all h _ _ (hL i hi) (h1 j hj) s hs
  · dsimp only at hs
    rw [setL_ne _ _ hjk] at hs
    exact h1 j hj s hs
theorem made_spread {key : Int} {x : Bk.St} {M : List Bk.Sgn} (h : Vw.Made key x M) {n : Nat} : ∀ (P : List (Int × Int)) (c : Nat) (L : VL), (∀ i, i < n → ∀ s ∈ L i, s ∈ M) → (spreadL x.L key n P c L).1 = (c + P.length, Bk.noSgn, Bk.noSgn, false) := by
  intro P
  induction P with
  | nil => intro c L _; rfl
  | cons p P ih =>
    intro c L hL
    unfold spreadL
    split
    · rw [ih _ _ hL, List.length_cons]; congr 1; omega
    · rename_i hp
      obtain ⟨m1, m2⟩ := made_meet h hL (i := p.1.toNat) (k := p.2.toNat) (by omega) (by omega)
      rw [m1]
      dsimp only
      rw [if_neg (by simp), ih _ _ m2, List.length_cons]; congr 1; omega
theorem Fam.keyOk {W : World} {p : VNR} {m n : Nat} {key : Int} {Lr : List Bk.Seal} {bs : Nat → Bk.Book} {L : VL} {F : Nat → Prop} {z : World} (h : Fam W p m n key Lr bs L F z) {i : Nat} (hi : i < n) : Bk.isKey key = true := by
  obtain ⟨r, _, b⟩ := h.viewAt hi
  exact b.key
end Go.Proofs.YtkhdnfmnnapjlaaDoor
