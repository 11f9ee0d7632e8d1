/- Layer 34 (attest) in plain words: votes, prints, members, quorums, liars; and what the statements say of them. No program stands in this text. Layer 34 (attest) in plain words: more claims (AttestMore), two prints of one key and liars (AttestConvicts). No program stands in this text. Layer 34's reference in plain words: what it computes is what attest computes. No program stands in this text. Layer 34 in plain words: the documentation's example. No program stands in this text. -/
import Derived.Test.YtpceoogmkbcfmaaGreatDoorViewPl
namespace Go.Proofs.YtpceoogmkbcfmaaGreatDoor.At
open Go.Lib Go.RowKit
open Bk (Seal Sgn noSgn isKey place valid)
open Cl (Clm contra)
open Vw (claimOf)
set_option linter.unusedVariables false
set_option linter.unusedSimpArgs false

structure Grp where
  members : List Int
  bad : Int
/-- What a signature says about a text: the print. -/
def saysOf (Lr : List Seal) (text : List UInt8) (s : Sgn) : Option Int :=
  if valid Lr s = true ∧ (Cl.read s.text).2 = true ∧ (claimOf s).kind = 3 ∧ (claimOf s).text = text then some (claimOf s).n else none
def voteOf (Lr : List Seal) (text : List UInt8) (s : Sgn) : Option (Sgn × Int) := (saysOf Lr text s).map fun n => (s, n)
def votes (Lr : List Seal) (C : List Sgn) (text : List UInt8) : List (Sgn × Int) := C.filterMap (voteOf Lr text)
/-- Into an ascending list, if it is not there. -/
def insU : List Int → Int → List Int
  | [], n => [n]
  | x :: l, n => if x < n then x :: insU l n else if x = n then x :: l else n :: x :: l
def sortU (l : List Int) : List Int := l.foldl insU []
def prints (V : List (Sgn × Int)) : List Int := sortU (V.map (·.2))
def says (V : List (Sgn × Int)) (p k : Int) : Bool := V.any fun v => decide (v.2 = p) && decide (v.1.key = k)
def members (V : List (Sgn × Int)) (g : Grp) (p : Int) : List Int := g.members.filter fun k => says V p k
def weak (V : List (Sgn × Int)) (p : Int) (g : Grp) : Bool := decide (((members V g p).length : Int) ≤ g.bad)
def found (V : List (Sgn × Int)) (G : List Grp) : List Int := (prints V).filter fun p => !G.any (weak V p)
def acceptF : List Int → Int × Int
  | [] => (0, 23)
  | [p] => (p, 0)
  | _ => (0, 21)
def lies (V : List (Sgn × Int)) (truth k : Int) : Bool := V.any fun v => decide (v.2 ≠ truth) && decide (v.1.key = k)
def liarsOf (V : List (Sgn × Int)) (G : List Grp) (truth : Int) : List Int := (G.map fun g => g.members.filter fun k => lies V truth k).flatten
def liars (V : List (Sgn × Int)) (G : List Grp) (truth : Int) : List Int := sortU (liarsOf V G truth)
/-- The first two votes that name two prints. -/
def bothOf : List (Sgn × Int) → Option (Sgn × Sgn)
  | [] => none
  | a :: l => match l.find? (fun b => decide (a.2 ≠ b.2)) with
    | some b => some (a.1, b.1)
    | none => bothOf l
def both (V : List (Sgn × Int)) (key : Int) : Option (Sgn × Sgn) := bothOf (V.filter fun v => decide (v.1.key = key))
/-- A member's key at its place, where `seen` have been met in groups before. -/
def keyOk (seen : List Int) (ms : List Int) (i : Nat) : Bool :=
  decide (0 ≤ ms.getD i 0) && decide (ms.getD i 0 < 200) && (decide (i = 0) || decide (ms.getD (i - 1) 0 < ms.getD i 0)) && !seen.contains (ms.getD i 0)
def grpOk (seen : List Int) (g : Grp) : Bool :=
  decide (0 < g.members.length) && decide (g.members.length ≤ 12) && decide (0 ≤ g.bad) && decide (g.bad < g.members.length) && (List.range g.members.length).all (keyOk seen g.members)
def rightGo : List Int → List Grp → Bool
  | _, [] => true
  | seen, g :: G => grpOk seen g && rightGo (seen ++ g.members) G
def right (G : List Grp) : Bool := rightGo [] G && (decide (0 < G.length) && decide (G.length ≤ 8))
def accept (V : List (Sgn × Int)) (G : List Grp) : Int × Int := if right G = true then acceptF (found V G) else (0, 1)

/-! ### Ascending lists -/
theorem insU_mem {l : List Int} {n x : Int} : x ∈ insU l n ↔ x = n ∨ x ∈ l := by
  induction l with
  | nil => simp [insU]
  | cons y l ih =>
    unfold insU
    split
    · simp only [List.mem_cons, ih]
      constructor
      · rintro (h | h | h) <;> simp [h]
      · rintro (h | h | h) <;> simp [h]
    · split
      · rename_i e; subst e; simp
      · simp
theorem insU_asc {l : List Int} {n : Int} (h : l.Pairwise (· < ·)) : (insU l n).Pairwise (· < ·) := by
  induction l with
  | nil => simp [insU]
  | cons y l ih =>
    obtain ⟨h1, h2⟩ := List.pairwise_cons.1 h
    unfold insU
    split
    · rename_i hy
      refine List.pairwise_cons.2 ⟨fun x hx => ?_, ih h2⟩
      rcases insU_mem.1 hx with rfl | hx
      · exact hy
      · exact h1 x hx
    · split
      · exact h
      · rename_i h3 h4
        refine List.pairwise_cons.2 ⟨fun x hx => ?_, h⟩
        rcases List.mem_cons.1 hx with rfl | hx
        · omega
        · have := h1 x hx; omega
theorem foldl_insU_mem (l : List Int) : ∀ (a : List Int) (x : Int), x ∈ l.foldl insU a ↔ x ∈ a ∨ x ∈ l := by
  induction l with
  | nil => intro a x; simp
  | cons y l ih =>
    intro a x
    rw [List.foldl_cons, ih, insU_mem, List.mem_cons]
    constructor
    · rintro ((h | h) | h) <;> simp [h]
    · rintro (h | h | h) <;> simp [h]
theorem foldl_insU_asc (l : List Int) : ∀ (a : List Int), a.Pairwise (· < ·) → (l.foldl insU a).Pairwise (· < ·) := by
  induction l with
  | nil => intro a h; exact h
  | cons y l ih => intro a h; exact ih _ (insU_asc h)
theorem sortU_mem {l : List Int} {x : Int} : x ∈ sortU l ↔ x ∈ l := by unfold sortU; rw [foldl_insU_mem]; simp
theorem sortU_asc (l : List Int) : (sortU l).Pairwise (· < ·) := foldl_insU_asc l [] List.Pairwise.nil
theorem sortU_snoc (l : List Int) (x : Int) : sortU (l ++ [x]) = insU (sortU l) x := by unfold sortU; rw [List.foldl_append]; rfl
/-- Two ascending lists with the same elements are equal. -/
theorem asc_ext : ∀ {a b : List Int}, a.Pairwise (· < ·) → b.Pairwise (· < ·) → (∀ x, x ∈ a ↔ x ∈ b) → a = b := by
  intro a
  induction a with
  | nil =>
    intro b _ _ h
    cases b with
    | nil => rfl
    | cons y b => exact absurd ((h y).2 (List.mem_cons_self ..)) (by simp)
  | cons x a ih =>
    intro b ha hb h
    cases b with
    | nil => exact absurd ((h x).1 (List.mem_cons_self ..)) (by simp)
    | cons y b =>
      obtain ⟨a1, a2⟩ := List.pairwise_cons.1 ha
      obtain ⟨b1, b2⟩ := List.pairwise_cons.1 hb
      have hxy : x = y := by
        have h1 := (h x).1 (List.mem_cons_self ..)
        have h2 := (h y).2 (List.mem_cons_self ..)
        rcases List.mem_cons.1 h1 with e | h1
        · exact e
        · rcases List.mem_cons.1 h2 with e | h2
          · exact e.symm
          · have := a1 y h2; have := b1 x h1; omega
      subst hxy
      congr 1
      refine ih a2 b2 (fun z => ?_)
      constructor
      · intro hz
        rcases List.mem_cons.1 ((h z).1 (List.mem_cons_of_mem _ hz)) with rfl | h1
        · exact absurd (a1 z hz) (by omega)
        · exact h1
      · intro hz
        rcases List.mem_cons.1 ((h z).2 (List.mem_cons_of_mem _ hz)) with rfl | h1
        · exact absurd (b1 z hz) (by omega)
        · exact h1
theorem asc_sortU {a l : List Int} (ha : a.Pairwise (· < ·)) (h : ∀ x, x ∈ a ↔ x ∈ l) : a = sortU l :=
  asc_ext ha (sortU_asc l) (fun x => (h x).trans sortU_mem.symm)
theorem asc_nodup {l : List Int} (h : l.Pairwise (· < ·)) : l.Nodup := h.imp (fun h => by omega)
theorem sub_len {l m : List Int} (hn : l.Nodup) (hs : ∀ x ∈ l, x ∈ m) : l.length ≤ m.length := by
  induction l generalizing m with
  | nil => exact Nat.zero_le _
  | cons a t ih =>
    have ha := hs a (List.mem_cons_self ..)
    have hn2 := List.nodup_cons.1 hn
    have h := ih hn2.2 (m := m.erase a) (fun x hx => (List.mem_erase_of_ne (fun e : x = a => hn2.1 (by subst e; exact hx))).2 (hs x (List.mem_cons_of_mem _ hx)))
    rw [List.length_erase_of_mem ha] at h
    have := List.length_pos_of_mem ha
    simp only [List.length_cons]; omega

/-! ### Right groups -/
theorem keys_asc {seen ms : List Int} (h : (List.range ms.length).all (keyOk seen ms) = true) : ms.Pairwise (· < ·) := by
  rw [List.all_eq_true] at h
  have h1 : ∀ i, i + 1 < ms.length → ms.getD i 0 < ms.getD (i + 1) 0 := fun i hi => by
    have := h (i + 1) (List.mem_range.2 hi)
    unfold keyOk at this
    simp only [Bool.and_eq_true, Bool.or_eq_true, decide_eq_true_eq, Nat.add_sub_cancel] at this
    rcases this.1.2 with h | h
    · omega
    · exact h
  have h2 : ∀ d i, i + d + 1 < ms.length → ms.getD i 0 < ms.getD (i + d + 1) 0 := fun d => by
    induction d with
    | zero => intro i hi; exact h1 i hi
    | succ d ih => intro i hi; have a := ih i (by omega); have b := h1 (i + d + 1) (by omega); exact Int.lt_trans a b
  rw [List.pairwise_iff_getElem]
  intro i j hi hj hij
  have := h2 (j - i - 1) i (by omega)
  rw [show i + (j - i - 1) + 1 = j by omega] at this
  simpa [List.getD_eq_getElem?_getD, hi, hj] using this
theorem rightGo_grp : ∀ {G : List Grp} {seen : List Int}, rightGo seen G = true → ∀ g ∈ G, 0 < g.members.length ∧ g.members.length ≤ 12 ∧ 0 ≤ g.bad ∧ g.bad < g.members.length ∧ g.members.Pairwise (· < ·) := by
  intro G
  induction G with
  | nil => intro seen _ g hg; cases hg
  | cons g0 G ih =>
    intro seen h g hg
    unfold rightGo at h
    rw [Bool.and_eq_true] at h
    rcases List.mem_cons.1 hg with rfl | hg
    · have h1 := h.1
      unfold grpOk at h1
      simp only [Bool.and_eq_true, decide_eq_true_eq] at h1
      exact ⟨h1.1.1.1.1, h1.1.1.1.2, h1.1.1.2, h1.1.2, keys_asc h1.2⟩
    · exact ih h.2 g hg
theorem right_grp {G : List Grp} (h : right G = true) : (∀ g ∈ G, 0 < g.members.length ∧ g.members.length ≤ 12 ∧ 0 ≤ g.bad ∧ g.bad < g.members.length ∧ g.members.Pairwise (· < ·)) ∧ 0 < G.length := by
  unfold right at h
  simp only [Bool.and_eq_true, decide_eq_true_eq] at h
  exact ⟨rightGo_grp h.1, h.2.1⟩

/-! ### Votes -/
theorem members_mem {V : List (Sgn × Int)} {g : Grp} {p k : Int} : k ∈ members V g p ↔ k ∈ g.members ∧ ∃ v ∈ V, v.2 = p ∧ v.1.key = k := by
  unfold members says
  rw [List.mem_filter, List.any_eq_true]
  simp only [Bool.and_eq_true, decide_eq_true_eq]
theorem prints_mem {V : List (Sgn × Int)} {p : Int} : p ∈ prints V ↔ ∃ v ∈ V, v.2 = p := by
  unfold prints
  rw [sortU_mem, List.mem_map]
theorem found_mem {V : List (Sgn × Int)} {G : List Grp} {p : Int} : p ∈ found V G ↔ p ∈ prints V ∧ ∀ g ∈ G, g.bad < (members V g p).length := by
  unfold found
  rw [List.mem_filter, Bool.not_eq_true', List.any_eq_false]
  unfold weak
  simp only [decide_eq_true_eq, Int.not_le]
theorem found_nodup (V : List (Sgn × Int)) (G : List Grp) : (found V G).Nodup := (asc_nodup (sortU_asc _)).sublist List.filter_sublist
theorem liars_mem {V : List (Sgn × Int)} {G : List Grp} {truth k : Int} : k ∈ liars V G truth ↔ ∃ g ∈ G, k ∈ g.members ∧ ∃ v ∈ V, v.2 ≠ truth ∧ v.1.key = k := by
  unfold liars liarsOf lies
  rw [sortU_mem, List.mem_flatten]
  constructor
  · rintro ⟨l, hl, hk⟩
    obtain ⟨g, hg, rfl⟩ := List.mem_map.1 hl
    obtain ⟨h1, h2⟩ := List.mem_filter.1 hk
    obtain ⟨v, hv, h3⟩ := List.any_eq_true.1 h2
    simp only [Bool.and_eq_true, decide_eq_true_eq] at h3
    exact ⟨g, hg, h1, v, hv, h3⟩
  · rintro ⟨g, hg, hk, v, hv, h3⟩
    refine ⟨_, List.mem_map.2 ⟨g, hg, rfl⟩, List.mem_filter.2 ⟨hk, List.any_eq_true.2 ⟨v, hv, ?_⟩⟩⟩
    simp only [Bool.and_eq_true, decide_eq_true_eq]
    exact h3
theorem acceptF_cases (l : List Int) : (l = [] ∧ acceptF l = (0, 23)) ∨ (∃ p, l = [p] ∧ acceptF l = (p, 0)) ∨ (1 < l.length ∧ acceptF l = (0, 21)) := by
  match l with
  | [] => exact Or.inl ⟨rfl, rfl⟩
  | [p] => exact Or.inr (Or.inl ⟨p, rfl, rfl⟩)
  | _ :: _ :: _ => exact Or.inr (Or.inr ⟨by simp, rfl⟩)
/-- How many different ones of a list are in another one. -/
def countL (s l : List Int) : Nat := ((List.range s.length).filter fun i => l.contains (s.getD i 0) && !(s.take i).contains (s.getD i 0)).length
theorem countL_nodup {s l : List Int} (hn : s.Nodup) : countL s l = (s.filter fun k => l.contains k).length := by
  have h : ∀ i ∈ List.range s.length, (l.contains (s.getD i 0) && !(s.take i).contains (s.getD i 0)) = l.contains (s.getD i 0) := fun i hi => by
    have hi := List.mem_range.1 hi
    have : (s.take i).contains (s.getD i 0) = false := by
      rw [← Bool.not_eq_true, List.contains_iff_mem]
      intro hm
      obtain ⟨j, hj, e⟩ := List.mem_iff_getElem.1 hm
      rw [List.length_take] at hj
      rw [List.getElem_take] at e
      have e2 : s[j]'(by omega) = s[i] := by rw [e]; simp [List.getD_eq_getElem?_getD, hi]
      have := (List.getElem_inj hn).1 e2
      omega
    rw [this]; simp
  unfold countL
  rw [List.filter_congr h]
  have h2 : s = (List.range s.length).map (fun i => s.getD i 0) := by
    refine List.ext_getElem (by simp) (fun i h1 h2 => ?_)
    simp [List.getD_eq_getElem?_getD, h1]
  conv => rhs; rw [h2]
  rw [List.filter_map, List.length_map]
  rfl
/-- AttestTrue in plain words. -/
theorem true_honest {V : List (Sgn × Int)} {G : List Grp} {truth : Int} (hG : right G = true) {g : Grp} (hg : g ∈ G) (hb : (countL g.members (liars V G truth) : Int) ≤ g.bad) : ∀ p ∈ found V G, p = truth := by
  intro p hp
  by_cases hpt : p = truth
  · exact hpt
  · exfalso
    have h1 := (found_mem.1 hp).2 g hg
    obtain ⟨_, _, _, _, hasc⟩ := (right_grp hG).1 g hg
    rw [countL_nodup (asc_nodup hasc)] at hb
    have h2 : (members V g p).length ≤ (g.members.filter fun k => (liars V G truth).contains k).length := by
      refine sub_len ((asc_nodup hasc).sublist List.filter_sublist) (fun k hk => ?_)
      obtain ⟨hk1, v, hv, hv1, hv2⟩ := members_mem.1 hk
      refine List.mem_filter.2 ⟨hk1, List.contains_iff_mem.2 (liars_mem.2 ⟨g, hg, hk1, v, hv, by rw [hv1]; exact hpt, hv2⟩)⟩
    omega
theorem true_enough {V : List (Sgn × Int)} {G : List Grp} {truth : Int} (hG : right G = true) (he : ∀ g ∈ G, g.bad < ((members V g truth).length : Int)) : truth ∈ found V G := by
  obtain ⟨hgs, h0⟩ := right_grp hG
  refine found_mem.2 ⟨?_, he⟩
  obtain ⟨g, hg⟩ := List.exists_mem_of_length_pos h0
  have h1 := he g hg
  have h2 := (hgs g hg).2.2.1
  have h3 : 0 < (members V g truth).length := by omega
  obtain ⟨k, hk⟩ := List.exists_mem_of_length_pos h3
  obtain ⟨_, v, hv, hv1, _⟩ := members_mem.1 hk
  exact prints_mem.2 ⟨v, hv, hv1⟩
theorem true_law {V : List (Sgn × Int)} {G : List Grp} {truth : Int} (hG : right G = true) :
    (((accept V G).2 ≠ 0 → (accept V G).1 = 0 ∧ ((accept V G).2 = 23 ∨ (accept V G).2 = 21)) ∧
    ((∃ g ∈ G, (countL g.members (liars V G truth) : Int) ≤ g.bad) → (accept V G).2 ≠ 21 ∧ ((accept V G).2 = 0 → (accept V G).1 = truth) ∧ ((∀ g ∈ G, g.bad < ((members V g truth).length : Int)) → (accept V G).2 = 0)) ∧
    ((∀ g ∈ G, g.bad < ((members V g truth).length : Int)) → (accept V G).2 ≠ 23)) := by
  unfold accept
  rw [if_pos hG]
  refine ⟨?_, ?_, ?_⟩
  · rcases acceptF_cases (found V G) with ⟨_, h⟩ | ⟨p, _, h⟩ | ⟨_, h⟩ <;> rw [h] <;> simp
  · rintro ⟨g, hg, hb⟩
    have hf := true_honest hG hg hb
    have hn := found_nodup V G
    rcases acceptF_cases (found V G) with ⟨h0, h⟩ | ⟨p, h0, h⟩ | ⟨h0, h⟩
    · rw [h]
      refine ⟨by simp, by simp, fun he => ?_⟩
      have := true_enough hG he
      rw [h0] at this; cases this
    · rw [h]
      exact ⟨by simp, fun _ => hf p (by rw [h0]; simp), fun _ => rfl⟩
    · exfalso
      have : (found V G).length ≤ [truth].length := sub_len hn (fun x hx => by rw [hf x hx]; simp)
      simp at this; omega
  · intro he
    have := true_enough hG he
    rcases acceptF_cases (found V G) with ⟨h0, h⟩ | ⟨p, h0, h⟩ | ⟨h0, h⟩
    · rw [h0] at this; cases this
    · rw [h]; simp
    · rw [h]; simp
end Go.Proofs.YtpceoogmkbcfmaaGreatDoor.At
namespace Go.Proofs.YtpceoogmkbcfmaaGreatDoor.At
open Go.Lib Go.RowKit
open Bk (Seal Sgn noSgn isKey place valid)
open Cl (Clm contra)
open Vw (claimOf)
set_option linter.unusedVariables false
set_option linter.unusedSimpArgs false

/-! ### More votes -/
section
variable {V U : List (Sgn × Int)} {G : List Grp} {g : Grp} {p : Int}
theorem says_sub (h : ∀ v ∈ V, v ∈ U) {k : Int} (hs : says V p k = true) : says U p k = true := by
  unfold says at hs ⊢
  rw [List.any_eq_true] at hs ⊢
  obtain ⟨v, hv, e⟩ := hs
  exact ⟨v, h v hv, e⟩
theorem says_same (h : ∀ v, v ∈ V ↔ v ∈ U) (k : Int) : says V p k = says U p k := by
  apply Bool.eq_iff_iff.2
  exact ⟨says_sub (fun v hv => (h v).1 hv), says_sub (fun v hv => (h v).2 hv)⟩
theorem members_same (h : ∀ v, v ∈ V ↔ v ∈ U) : members V g p = members U g p := by
  unfold members
  exact List.filter_congr (fun k _ => says_same h k)
theorem prints_same (h : ∀ v, v ∈ V ↔ v ∈ U) : prints V = prints U := by
  refine asc_ext (sortU_asc _) (sortU_asc _) (fun x => ?_)
  unfold prints
  rw [sortU_mem, sortU_mem, List.mem_map, List.mem_map]
  exact ⟨fun ⟨v, hv, e⟩ => ⟨v, (h v).1 hv, e⟩, fun ⟨v, hv, e⟩ => ⟨v, (h v).2 hv, e⟩⟩
theorem found_same (h : ∀ v, v ∈ V ↔ v ∈ U) : found V G = found U G := by
  unfold found
  rw [prints_same h]
  refine List.filter_congr (fun q _ => ?_)
  congr 1
  unfold weak
  congr 1
  funext g
  rw [members_same h]
theorem accept_same (h : ∀ v, v ∈ V ↔ v ∈ U) : accept V G = accept U G := by
  unfold accept
  rw [found_same h]
theorem members_sub (h : ∀ v ∈ V, v ∈ U) : ∀ k ∈ members V g p, k ∈ members U g p := by
  intro k hk
  unfold members at hk ⊢
  obtain ⟨h1, h2⟩ := List.mem_filter.1 hk
  exact List.mem_filter.2 ⟨h1, says_sub h h2⟩
theorem members_len (h : ∀ v ∈ V, v ∈ U) : (members V g p).length ≤ (members U g p).length := by
  unfold members
  induction g.members with
  | nil => simp
  | cons k l ih =>
    rw [List.filter_cons, List.filter_cons]
    cases h1 : says V p k with
    | true => rw [if_pos rfl, if_pos (says_sub h h1)]; simpa using ih
    | false =>
      rw [if_neg (by simp)]
      split
      · rw [List.length_cons]; omega
      · exact ih
theorem found_sub (h : ∀ v ∈ V, v ∈ U) : ∀ q ∈ found V G, q ∈ found U G := by
  intro q hq
  obtain ⟨h1, h2⟩ := found_mem.1 hq
  refine found_mem.2 ⟨?_, fun g hg => ?_⟩
  · obtain ⟨v, hv, e⟩ := prints_mem.1 h1
    exact prints_mem.2 ⟨v, h v hv, e⟩
  · have := h2 g hg
    have := members_len (g := g) (p := q) h
    omega
/-- A quorum stays one; two stay two. -/
theorem more_law (hG : right G = true) (h : ∀ v ∈ V, v ∈ U) : ((accept V G).2 = 0 → (accept U G).2 = 21 ∨ ((accept U G).2 = 0 ∧ (accept U G).1 = (accept V G).1)) ∧ ((accept V G).2 = 21 → (accept U G).2 = 21) := by
  unfold accept
  rw [if_pos hG, if_pos hG]
  have hs := found_sub (G := G) h
  have hn := found_nodup V G
  have hl : (found V G).length ≤ (found U G).length := sub_len hn hs
  rcases acceptF_cases (found V G) with ⟨h0, h1⟩ | ⟨q, h0, h1⟩ | ⟨h0, h1⟩
  · rw [h1]; exact ⟨by simp, by simp⟩
  · rw [h1]
    refine ⟨fun _ => ?_, by simp⟩
    rcases acceptF_cases (found U G) with ⟨k0, k1⟩ | ⟨r, k0, k1⟩ | ⟨k0, k1⟩
    · rw [h0, k0] at hl; simp at hl
    · have := hs q (by rw [h0]; simp)
      rw [k0, List.mem_singleton] at this
      rw [k1]; exact Or.inr ⟨rfl, this.symm⟩
    · rw [k1]; exact Or.inl rfl
  · rw [h1]
    refine ⟨by simp, fun _ => ?_⟩
    rcases acceptF_cases (found U G) with ⟨k0, k1⟩ | ⟨r, k0, k1⟩ | ⟨k0, k1⟩
    · rw [k0] at hl; rw [List.length_nil] at hl; omega
    · rw [k0] at hl; rw [List.length_singleton] at hl; omega
    · rw [k1]
end
theorem votes_mem {Lr : List Seal} {C : List Sgn} {text : List UInt8} {v : Sgn × Int} : v ∈ votes Lr C text ↔ ∃ s ∈ C, saysOf Lr text s = some v.2 ∧ v.1 = s := by
  unfold votes voteOf
  rw [List.mem_filterMap]
  constructor
  · rintro ⟨s, hs, e⟩
    cases h : saysOf Lr text s with
    | none => rw [h] at e; cases e
    | some n =>
      rw [h] at e
      obtain rfl : (s, n) = v := by simpa using e
      exact ⟨s, hs, h, rfl⟩
  · rintro ⟨s, hs, e, rfl⟩
    exact ⟨v.1, hs, by rw [e]; rfl⟩
theorem votes_same {Lr : List Seal} {C D : List Sgn} {text : List UInt8} (h : ∀ s, saysOf Lr text s ≠ none → (s ∈ C ↔ s ∈ D)) : ∀ v, v ∈ votes Lr C text ↔ v ∈ votes Lr D text := by
  intro v
  rw [votes_mem, votes_mem]
  constructor
  · rintro ⟨s, hs, e, rfl⟩
    exact ⟨v.1, (h v.1 (by rw [e]; simp)).1 hs, e, rfl⟩
  · rintro ⟨s, hs, e, rfl⟩
    exact ⟨v.1, (h v.1 (by rw [e]; simp)).2 hs, e, rfl⟩
theorem votes_sub {Lr : List Seal} {C D : List Sgn} {text : List UInt8} (h : ∀ s ∈ C, s ∈ D) : ∀ v ∈ votes Lr C text, v ∈ votes Lr D text := by
  intro v hv
  obtain ⟨s, hs, e, rfl⟩ := votes_mem.1 hv
  exact votes_mem.2 ⟨v.1, h v.1 hs, e, rfl⟩
theorem says_spec {Lr : List Seal} {text : List UInt8} {s : Sgn} {n : Int} (h : saysOf Lr text s = some n) : valid Lr s = true ∧ (Cl.read s.text).2 = true ∧ (claimOf s).kind = 3 ∧ (claimOf s).text = text ∧ (claimOf s).n = n := by
  unfold saysOf at h
  split at h
  · rename_i hc
    exact ⟨hc.1, hc.2.1, hc.2.2.1, hc.2.2.2, by injection h⟩
  · cases h
theorem says_ne_text {Lr : List Seal} {text : List UInt8} {s : Sgn} (h : (Cl.read s.text).2 = false ∨ (claimOf s).text ≠ text) : saysOf Lr text s = none := by
  unfold saysOf
  rw [if_neg]
  rintro ⟨_, h2, _, h4⟩
  rcases h with h | h
  · rw [h2] at h; cases h
  · exact h h4
theorem says_far {Lr : List Seal} {text : List UInt8} {s : Sgn} (h : (Lr.length : Int) ≤ s.mark) : saysOf Lr text s = none := by
  unfold saysOf
  rw [if_neg]
  rintro ⟨h1, _⟩
  have := Vw.valid_lt h1
  omega
/-- What is signed of another text has no vote for this one. -/
theorem built_none {Lr Ls : List Seal} {text : List UInt8} {k n : Int} : saysOf Lr text (Bk.sign Ls k (Cl.text ⟨3, n, 0, text ++ [120]⟩)).1 = none := by
  apply says_ne_text
  unfold Bk.sign
  have hread : ∀ m, ((Cl.read (⟨k, Cl.text ⟨3, n, 0, text ++ [120]⟩, m⟩ : Sgn).text).2 = false ∨ (claimOf ⟨k, Cl.text ⟨3, n, 0, text ++ [120]⟩, m⟩).text ≠ text) := fun m => by
    cases hr : Cl.right ⟨3, n, 0, text ++ [120]⟩ with
    | true =>
      right
      unfold claimOf
      dsimp only
      rw [Cl.read_text hr]
      dsimp only
      intro e
      have := congrArg List.length e
      simp at this
    | false =>
      left
      dsimp only
      rw [Cl.text, hr]
      show (Cl.read []).2 = false
      decide
  split
  · split
    · exact hread _
    · exact hread _
  · left; show (Cl.read []).2 = false; decide

/-! ### Two prints of one key -/
theorem bothOf_some {l : List (Sgn × Int)} {a b : Sgn} (h : bothOf l = some (a, b)) : ∃ v ∈ l, ∃ u ∈ l, v.1 = a ∧ u.1 = b ∧ v.2 ≠ u.2 := by
  induction l with
  | nil => cases h
  | cons x l ih =>
    unfold bothOf at h
    cases hf : l.find? (fun b => decide (x.2 ≠ b.2)) with
    | some y =>
      rw [hf] at h
      injection h with h
      injection h with h1 h2
      have := List.find?_some hf
      simp only [decide_eq_true_eq] at this
      exact ⟨x, List.mem_cons_self .., y, List.mem_cons_of_mem _ (List.mem_of_find?_eq_some hf), h1, h2, this⟩
    | none =>
      rw [hf] at h
      obtain ⟨v, hv, u, hu, e⟩ := ih h
      exact ⟨v, List.mem_cons_of_mem _ hv, u, List.mem_cons_of_mem _ hu, e⟩
theorem bothOf_none {l : List (Sgn × Int)} (h : bothOf l = none) : ∀ v ∈ l, ∀ u ∈ l, v.2 = u.2 := by
  induction l with
  | nil => intro v hv; cases hv
  | cons x l ih =>
    unfold bothOf at h
    cases hf : l.find? (fun b => decide (x.2 ≠ b.2)) with
    | some y => rw [hf] at h; cases h
    | none =>
      rw [hf] at h
      have hx : ∀ y ∈ l, x.2 = y.2 := fun y hy => by
        have := List.find?_eq_none.1 hf y hy
        simpa using this
      intro v hv u hu
      rcases List.mem_cons.1 hv with e1 | hv
      · rcases List.mem_cons.1 hu with e2 | hu
        · rw [e1, e2]
        · rw [e1]; exact hx u hu
      · rcases List.mem_cons.1 hu with e2 | hu
        · rw [e2]; exact (hx v hv).symm
        · exact ih h v hv u hu
theorem both_some {V : List (Sgn × Int)} {key : Int} {a b : Sgn} (h : both V key = some (a, b)) : ∃ v ∈ V, ∃ u ∈ V, v.1 = a ∧ u.1 = b ∧ v.2 ≠ u.2 ∧ a.key = key ∧ b.key = key := by
  obtain ⟨v, hv, u, hu, rfl, rfl, e⟩ := bothOf_some h
  obtain ⟨h1, h2⟩ := List.mem_filter.1 hv
  obtain ⟨h3, h4⟩ := List.mem_filter.1 hu
  exact ⟨v, h1, u, h3, rfl, rfl, e, of_decide_eq_true h2, of_decide_eq_true h4⟩
theorem both_none {V : List (Sgn × Int)} {key : Int} (h : both V key = none) : ∀ v ∈ V, ∀ u ∈ V, v.1.key = key → u.1.key = key → v.2 = u.2 := fun v hv u hu e1 e2 =>
  bothOf_none h v (List.mem_filter.2 ⟨hv, decide_eq_true e1⟩) u (List.mem_filter.2 ⟨hu, decide_eq_true e2⟩)
theorem alone_len (V : List (Sgn × Int)) (key p : Int) : (members V ⟨[key], 0⟩ p).length = if says V p key then 1 else 0 := by
  unfold members
  rw [List.filter_cons]
  split <;> simp
/-- How many prints the key attests. -/
def manyL (V : List (Sgn × Int)) (key : Int) (P : List Int) : Nat := (P.map fun p => (members V ⟨[key], 0⟩ p).length).sum
theorem many_filter (V : List (Sgn × Int)) (key : Int) (P : List Int) : manyL V key P = (P.filter fun p => says V p key).length := by
  unfold manyL
  induction P with
  | nil => rfl
  | cons p P ih =>
    rw [List.map_cons, List.sum_cons, ih, alone_len, List.filter_cons]
    split
    · rw [List.length_cons]; omega
    · omega
theorem many_law (V : List (Sgn × Int)) (key : Int) : (both V key).isSome = decide (1 < manyL V key (prints V)) := by
  rw [many_filter]
  have hn : ((prints V).filter fun p => says V p key).Nodup := (asc_nodup (sortU_asc _)).sublist List.filter_sublist
  have hm : ∀ p, p ∈ ((prints V).filter fun p => says V p key) ↔ ∃ v ∈ V, v.2 = p ∧ v.1.key = key := fun p => by
    rw [List.mem_filter, prints_mem]
    unfold says
    rw [List.any_eq_true]
    simp only [Bool.and_eq_true, decide_eq_true_eq]
    exact ⟨fun h => h.2, fun h => ⟨by obtain ⟨v, hv, e, _⟩ := h; exact ⟨v, hv, e⟩, h⟩⟩
  cases hb : both V key with
  | some ab =>
    obtain ⟨a, b⟩ := ab
    obtain ⟨v, hv, u, hu, rfl, rfl, e, k1, k2⟩ := both_some hb
    symm
    rw [Option.isSome_some, decide_eq_true_eq]
    have : [v.2, u.2].length ≤ ((prints V).filter fun p => says V p key).length := sub_len (by simp [e]) (fun x hx => by
      simp only [List.mem_cons, List.not_mem_nil, or_false] at hx
      rcases hx with rfl | rfl
      · exact (hm _).2 ⟨v, hv, rfl, k1⟩
      · exact (hm _).2 ⟨u, hu, rfl, k2⟩)
    rw [List.length_cons, List.length_singleton] at this
    omega
  | none =>
    symm
    rw [Option.isSome_none, decide_eq_false_iff_not]
    intro h
    generalize hl : (prints V).filter (fun p => says V p key) = l at *
    match l with
    | [] => simp at h
    | [_] => simp at h
    | x :: y :: l =>
      obtain ⟨v, hv, e1, k1⟩ := (hm x).1 (by simp)
      obtain ⟨u, hu, e2, k2⟩ := (hm y).1 (by simp)
      have := both_none hb v hv u hu k1 k2
      rw [e1, e2] at this
      subst this
      simp at hn
theorem both_convict {Lr : List Seal} {C : List Sgn} {text : List UInt8} {key : Int} {a b : Sgn} (h : both (votes Lr C text) key = some (a, b)) :
    a ∈ C ∧ b ∈ C ∧ a.key = key ∧ b.key = key ∧ valid Lr a = true ∧ valid Lr b = true ∧ (Cl.read a.text).2 = true ∧ (Cl.read b.text).2 = true ∧ contra (claimOf a) (claimOf b) = true := by
  obtain ⟨v, hv, u, hu, rfl, rfl, e, k1, k2⟩ := both_some h
  obtain ⟨_, hs1, e1, rfl⟩ := votes_mem.1 hv
  obtain ⟨_, hs2, e2, rfl⟩ := votes_mem.1 hu
  obtain ⟨v1, r1, d1, t1, n1⟩ := says_spec e1
  obtain ⟨v2, r2, d2, t2, n2⟩ := says_spec e2
  refine ⟨hs1, hs2, k1, k2, v1, v2, r1, r2, ?_⟩
  have q1 := (Cl.read_inv (s := v.1.text) (c := claimOf v.1) (by rw [← r1]; rfl)).1
  have q2 := (Cl.read_inv (s := u.1.text) (c := claimOf u.1) (by rw [← r2]; rfl)).1
  unfold contra
  rw [if_neg (by rw [q1, q2]; simp), if_neg (by omega), if_neg (by omega), if_neg (by omega), if_neg (by omega), if_pos d1, t1, t2]
  simp only [decide_true, Bool.true_and, decide_eq_true_eq]
  rw [n1, n2]; exact e
/-- The votes of a liar for what is not the truth. -/
def liesL (V : List (Sgn × Int)) (truth k : Int) (P : List Int) : Nat := (P.map fun p => if p ≠ truth then (members V ⟨[k], 0⟩ p).length else 0).sum
theorem lies_law {V : List (Sgn × Int)} {G : List Grp} {truth k : Int} (h : k ∈ liars V G truth) : (∃ g ∈ G, k ∈ g.members) ∧ liesL V truth k (prints V) ≠ 0 := by
  obtain ⟨g, hg, hk, v, hv, e1, e2⟩ := liars_mem.1 h
  refine ⟨⟨g, hg, hk⟩, ?_⟩
  have hp : v.2 ∈ prints V := prints_mem.2 ⟨v, hv, rfl⟩
  unfold liesL
  generalize prints V = P at *
  induction P with
  | nil => cases hp
  | cons p P ih =>
    rw [List.map_cons, List.sum_cons]
    rcases List.mem_cons.1 hp with rfl | hp
    · rw [if_pos e1, alone_len, if_pos]
      · omega
      · unfold says
        rw [List.any_eq_true]
        exact ⟨v, hv, by simp [e2]⟩
    · have := ih hp
      omega
end Go.Proofs.YtpceoogmkbcfmaaGreatDoor.At
namespace Go.Proofs.YtpceoogmkbcfmaaGreatDoor.At
open Go.Lib Go.RowKit
open Bk (Seal Sgn noSgn isKey place valid)
open Cl (Clm contra)
open Vw (claimOf)
set_option linter.unusedVariables false
set_option linter.unusedSimpArgs false

/-- What a signature attests: the print; -1 none. -/
def saysN (Lr : List Seal) (text : List UInt8) (s : Sgn) : Int := match saysOf Lr text s with
  | some n => n
  | none => -1
theorem says_bounds {Lr : List Seal} {text : List UInt8} {s : Sgn} {n : Int} (h : saysOf Lr text s = some n) : 0 ≤ n ∧ n ≤ 1073741824 := by
  obtain ⟨v1, r1, d1, t1, n1⟩ := says_spec h
  have q1 := (Cl.read_inv (s := s.text) (c := claimOf s) (by rw [← r1]; rfl)).1
  obtain ⟨_, _, b3, b4, _, _, _⟩ := Cl.right_bounds q1
  omega
theorem saysN_some {Lr : List Seal} {text : List UInt8} {s : Sgn} : 0 ≤ saysN Lr text s → saysOf Lr text s = some (saysN Lr text s) := by
  unfold saysN
  cases saysOf Lr text s with
  | none => intro h; exact absurd h (by simp)
  | some n => intro _; rfl
theorem saysN_none {Lr : List Seal} {text : List UInt8} {s : Sgn} : saysN Lr text s < 0 → saysOf Lr text s = none := by
  intro h
  cases e : saysOf Lr text s with
  | none => rfl
  | some n =>
    have := (says_bounds e).1
    unfold saysN at h; rw [e] at h; dsimp only at h; omega
theorem saysN_bounds (Lr : List Seal) (text : List UInt8) (s : Sgn) : -1 ≤ saysN Lr text s ∧ saysN Lr text s ≤ 1073741824 := by
  unfold saysN
  cases e : saysOf Lr text s with
  | none => exact ⟨by simp, by simp⟩
  | some n => have := says_bounds e; exact ⟨by dsimp only; omega, by dsimp only; omega⟩
theorem votes_cons (Lr : List Seal) (C : List Sgn) (s : Sgn) (text : List UInt8) : votes Lr (s :: C) text = (match saysOf Lr text s with | some n => [(s, n)] | none => []) ++ votes Lr C text := by
  unfold votes voteOf
  rw [List.filterMap_cons]
  cases h : saysOf Lr text s <;> simp
theorem votes_mem_bounds {Lr : List Seal} {C : List Sgn} {text : List UInt8} {v : Sgn × Int} (h : v ∈ votes Lr C text) : 0 ≤ v.2 ∧ v.2 ≤ 1073741824 := by
  obtain ⟨_, _, e1, _⟩ := votes_mem.1 h
  exact says_bounds e1
theorem prints_bounds {Lr : List Seal} {C : List Sgn} {text : List UInt8} : ∀ p ∈ prints (votes Lr C text), 0 ≤ p ∧ p ≤ 1073741824 := fun p hp => by
  obtain ⟨v, hv, rfl⟩ := prints_mem.1 hp
  exact votes_mem_bounds hv
/-- The reference's test of one key and one print, claim by claim. -/
def att (Lr : List Seal) (text : List UInt8) (p k : Int) (s : Sgn) : Bool := decide (0 ≤ p) && (decide (s.key = k) && decide (saysN Lr text s = p))
theorem att_any (Lr : List Seal) (C : List Sgn) (text : List UInt8) (p k : Int) : says (votes Lr C text) p k = C.any (att Lr text p k) := by
  unfold says
  induction C with
  | nil => rfl
  | cons s C ih =>
    have h1 : ((match saysOf Lr text s with | some n => [(s, n)] | none => []).any fun v => decide (v.2 = p) && decide (v.1.key = k)) = att Lr text p k s := by
      unfold att saysN
      cases e : saysOf Lr text s with
      | none =>
        dsimp only
        by_cases hp : 0 ≤ p
        · have hp2 : ¬ ((-1 : Int) = p) := by omega
          simp [hp2]
        · simp [hp]
      | some n =>
        have := (says_bounds e).1
        dsimp only
        by_cases hp : n = p
        · subst hp; simp [this]
        · simp [hp]
    rw [votes_cons, List.any_append, ih, List.any_cons, h1]
/-- The members that attest a print, as the reference takes them. -/
theorem vote_ref (Lr : List Seal) (C : List Sgn) (text : List UInt8) (g : Grp) (p : Int) : members (votes Lr C text) g p = g.members.filter fun k => C.any (att Lr text p k) := by
  unfold members
  exact List.filter_congr fun k _ => att_any Lr C text p k
theorem insU_split (l : List Int) (n : Int) (at_ : Nat) (ha : at_ ≤ l.length) (h1 : ∀ j (h : j < l.length), j < at_ → l[j] < n) (h2 : ∀ h : at_ < l.length, n ≤ l[at_]) :
    insU l n = if l[at_]? = some n then l else l.take at_ ++ (n :: l.drop at_) := by
  induction l generalizing at_ with
  | nil => obtain rfl : at_ = 0 := by simpa using ha
           simp [insU]
  | cons x l ih =>
    cases at_ with
    | zero =>
      have := h2 (by simp)
      rw [List.getElem_cons_zero] at this
      unfold insU
      rw [if_neg (by omega)]
      by_cases e : x = n
      · subst e; simp
      · rw [if_neg e]; simp [e]
    | succ k =>
      have := h1 0 (by simp) (by omega)
      rw [List.getElem_cons_zero] at this
      unfold insU
      rw [if_pos this, ih k (by simpa using ha) (fun j h hj => by have := h1 (j + 1) (by simpa using h) (by omega); simpa using this) (fun h => by have := h2 (by simpa using h); simpa using this)]
      rw [List.getElem?_cons_succ, List.take_succ_cons, List.drop_succ_cons]
      split <;> rfl
theorem prints_snoc (Lr : List Seal) (C : List Sgn) (s : Sgn) (text : List UInt8) : prints (votes Lr (C ++ [s]) text) = if 0 ≤ saysN Lr text s then insU (prints (votes Lr C text)) (saysN Lr text s) else prints (votes Lr C text) := by
  have h : votes Lr (C ++ [s]) text = votes Lr C text ++ (match saysOf Lr text s with | some n => [(s, n)] | none => []) := by
    unfold votes voteOf
    rw [List.filterMap_append]
    congr 1
    cases h : saysOf Lr text s <;> simp [List.filterMap_cons, h]
  rw [h]
  unfold prints saysN
  rw [List.map_append]
  cases e : saysOf Lr text s with
  | none => simp
  | some n =>
    have := (says_bounds e).1
    dsimp only
    rw [if_pos this, List.map_singleton, sortU_snoc]
theorem prints_nil (Lr : List Seal) (text : List UInt8) : prints (votes Lr [] text) = [] := rfl
/-- What Accept has found among the first n prints. -/
def foundTo (V : List (Sgn × Int)) (G : List Grp) (n : Nat) : List Int := ((prints V).take n).filter fun p => !G.any (weak V p)
theorem foundTo_step {V : List (Sgn × Int)} {G : List Grp} {n : Nat} (h : n < (prints V).length) : foundTo V G (n + 1) = foundTo V G n ++ (if G.any (weak V (prints V)[n]) = true then [] else [(prints V)[n]]) := by
  unfold foundTo
  rw [List.take_succ_eq_append_getElem h, List.filter_append]
  congr 1
  rw [List.filter_cons]
  cases G.any (weak V (prints V)[n]) <;> simp
theorem foundTo_all (V : List (Sgn × Int)) (G : List Grp) : foundTo V G (prints V).length = found V G := by unfold foundTo found; rw [List.take_length]
theorem foundTo_split {V : List (Sgn × Int)} {G : List Grp} {n : Nat} (h : 1 < (foundTo V G n).length) : acceptF (found V G) = (0, 21) := by
  have h2 : (foundTo V G n).length ≤ (found V G).length := by
    unfold foundTo found
    exact ((List.take_sublist n (prints V)).filter _).length_le
  rcases acceptF_cases (found V G) with ⟨e, _⟩ | ⟨p, e, _⟩ | ⟨_, e⟩
  · rw [e, List.length_nil] at h2; omega
  · rw [e, List.length_singleton] at h2; omega
  · exact e
/-- All votes for what is not the truth, group by group and print by print. -/
def lieL (V : List (Sgn × Int)) (truth : Int) (g : Grp) (p : Int) : List Int := if p = truth then [] else members V g p
def liePs (V : List (Sgn × Int)) (truth : Int) (g : Grp) (P : List Int) : List Int := (P.map (lieL V truth g)).flatten
def lieGs (V : List (Sgn × Int)) (truth : Int) (G : List Grp) (P : List Int) : List Int := (G.map fun g => liePs V truth g P).flatten
theorem liars_ref (V : List (Sgn × Int)) (G : List Grp) (truth : Int) : sortU (lieGs V truth G (prints V)) = liars V G truth := by
  refine asc_ext (sortU_asc _) (sortU_asc _) (fun x => ?_)
  rw [sortU_mem]
  refine Iff.trans ?_ liars_mem.symm
  unfold lieGs liePs lieL
  simp only [List.mem_flatten, List.mem_map]
  constructor
  · rintro ⟨l, ⟨g, hg, rfl⟩, hx⟩
    simp only [List.mem_flatten, List.mem_map] at hx
    obtain ⟨l, ⟨p, hp, rfl⟩, hx⟩ := hx
    split at hx
    · cases hx
    · obtain ⟨hm, v, hv, e1, e2⟩ := members_mem.1 hx
      exact ⟨g, hg, hm, v, hv, by rw [e1]; assumption, e2⟩
  · rintro ⟨g, hg, hk, v, hv, e1, e2⟩
    refine ⟨_, ⟨g, hg, rfl⟩, ?_⟩
    simp only [List.mem_flatten, List.mem_map]
    exact ⟨_, ⟨v.2, prints_mem.2 ⟨v, hv, rfl⟩, rfl⟩, by rw [if_neg e1]; exact members_mem.2 ⟨hk, v, hv, rfl, e2⟩⟩
/-- The reference's search of two, claim by claim. -/
def okB (Lr : List Seal) (text : List UInt8) (key : Int) (s t : Sgn) : Bool := decide (0 ≤ saysN Lr text s) && (decide (0 ≤ saysN Lr text t) && (decide (saysN Lr text s ≠ saysN Lr text t) && (decide (s.key = key) && decide (t.key = key))))
def refBoth (Lr : List Seal) (text : List UInt8) (key : Int) : List Sgn → Option (Sgn × Sgn)
  | [] => none
  | s :: C => match C.find? (okB Lr text key s) with
    | some t => some (s, t)
    | none => refBoth Lr text key C
theorem both_cons (Lr : List Seal) (C : List Sgn) (s : Sgn) (text : List UInt8) (key : Int) : both (votes Lr (s :: C) text) key = match C.find? (okB Lr text key s) with
    | some t => some (s, t)
    | none => both (votes Lr C text) key := by
  unfold both
  rw [votes_cons, List.filter_append]
  by_cases hk : s.key = key
  · cases e : saysOf Lr text s with
    | none =>
      have hn : C.find? (okB Lr text key s) = none := List.find?_eq_none.2 (fun t _ => by unfold okB saysN; rw [e]; simp)
      rw [hn]; simp
    | some n =>
      have hb := (says_bounds e).1
      have hsn : saysN Lr text s = n := by unfold saysN; rw [e]
      dsimp only
      rw [List.filter_cons, if_pos (decide_eq_true hk), List.filter_nil, List.singleton_append]
      rw [bothOf]
      have hf : (((votes Lr C text).filter fun v => decide (v.1.key = key)).find? (fun b => decide (n ≠ b.2))).map (·.1) = C.find? (okB Lr text key s) := by
        clear e
        induction C with
        | nil => rfl
        | cons t C ih =>
          rw [votes_cons, List.filter_append, List.find?_append, List.find?_cons]
          cases et : saysOf Lr text t with
          | none =>
            have ho : okB Lr text key s t = false := by unfold okB; rw [show saysN Lr text t = -1 by unfold saysN; rw [et]]; simp
            rw [ho]; simpa using ih
          | some m =>
            have hbm := (says_bounds et).1
            have htn : saysN Lr text t = m := by unfold saysN; rw [et]
            have ho : okB Lr text key s t = (decide (n ≠ m) && decide (t.key = key)) := by unfold okB; rw [hsn, htn]; simp [hb, hbm, hk]
            rw [ho]
            by_cases h1 : t.key = key
            · by_cases h2 : n = m
              · subst h2; simpa [h1, List.filter_cons] using ih
              · simp [h1, h2, List.filter_cons]
            · simpa [h1, List.filter_cons] using ih
      cases h2 : (((votes Lr C text).filter fun v => decide (v.1.key = key)).find? (fun b => decide (n ≠ b.2))) with
      | some b =>
        rw [h2] at hf
        dsimp only at hf ⊢
        rw [← hf]
        rfl
      | none =>
        rw [h2] at hf
        dsimp only at hf ⊢
        rw [← hf]
        rfl
  · have hn : C.find? (okB Lr text key s) = none := List.find?_eq_none.2 (fun t _ => by unfold okB; simp [hk])
    rw [hn]
    cases e : saysOf Lr text s <;> simp [List.filter_cons, hk]
theorem both_ref (Lr : List Seal) (C : List Sgn) (text : List UInt8) (key : Int) : both (votes Lr C text) key = refBoth Lr text key C := by
  induction C with
  | nil => rfl
  | cons s C ih => rw [both_cons, refBoth, ih]
/-- What members have been met in the first groups. -/
def seenTo (G : List Grp) (i : Nat) : List Int := ((G.take i).map (·.members)).flatten
theorem seenTo_succ {G : List Grp} {i : Nat} (h : i < G.length) : seenTo G (i + 1) = seenTo G i ++ G[i].members := by
  unfold seenTo
  rw [List.take_succ_eq_append_getElem h, List.map_append, List.flatten_append]; simp
theorem seenTo_no {G : List Grp} {i : Nat} (hi : i ≤ G.length) {k : Int} : (seenTo G i).contains k = (List.range i).any fun n => (match G[n]? with | some g => g.members.contains k | none => false) := by
  induction i with
  | zero => rfl
  | succ i ih =>
    rw [seenTo_succ (by omega), List.contains_append, ih (by omega), List.range_succ, List.any_append]
    simp [List.getElem?_eq_getElem (show i < G.length by omega)]
theorem rightGo_at {G : List Grp} {i : Nat} (h : i < G.length) : rightGo (seenTo G i) (G.drop i) = (grpOk (seenTo G i) G[i] && rightGo (seenTo G (i + 1)) (G.drop (i + 1))) := by
  rw [List.drop_eq_getElem_cons h, rightGo, seenTo_succ h]
end Go.Proofs.YtpceoogmkbcfmaaGreatDoor.At
namespace Go.Proofs.YtpceoogmkbcfmaaGreatDoor.At
open Bk (Seal Sgn noSgn)
def geo : List UInt8 := [103, 101, 111]
def t4 : List UInt8 := [51, 59, 52, 59, 48, 59, 51, 58, 103, 101, 111, 44]
def t7 : List UInt8 := [51, 59, 55, 59, 48, 59, 51, 58, 103, 101, 111, 44]
def s0 : Sgn := ⟨1, t4, 0⟩
def s1 : Sgn := ⟨2, t4, 1⟩
def s2 : Sgn := ⟨5, t4, 2⟩
def s3 : Sgn := ⟨3, t7, 3⟩
def s4 : Sgn := ⟨6, t7, 4⟩
def s5 : Sgn := ⟨1, t7, 5⟩
def s6 : Sgn := ⟨2, t7, 6⟩
def R1 : List Seal := [⟨1, t4⟩]
def R2 : List Seal := [⟨1, t4⟩, ⟨2, t4⟩]
def R3 : List Seal := [⟨1, t4⟩, ⟨2, t4⟩, ⟨5, t4⟩]
def R4 : List Seal := [⟨1, t4⟩, ⟨2, t4⟩, ⟨5, t4⟩, ⟨3, t7⟩]
def R5 : List Seal := [⟨1, t4⟩, ⟨2, t4⟩, ⟨5, t4⟩, ⟨3, t7⟩, ⟨6, t7⟩]
def R6 : List Seal := [⟨1, t4⟩, ⟨2, t4⟩, ⟨5, t4⟩, ⟨3, t7⟩, ⟨6, t7⟩, ⟨1, t7⟩]
def R7 : List Seal := [⟨1, t4⟩, ⟨2, t4⟩, ⟨5, t4⟩, ⟨3, t7⟩, ⟨6, t7⟩, ⟨1, t7⟩, ⟨2, t7⟩]
def gs : List Grp := [⟨[1, 2, 3], 1⟩, ⟨[5, 6], 0⟩]
theorem x4 : Cl.text ⟨3, 4, 0, geo⟩ = t4 := by decide +kernel
theorem x7 : Cl.text ⟨3, 7, 0, geo⟩ = t7 := by decide +kernel
theorem e1 : Bk.sign [] 1 t4 = (s0, R1) := by decide +kernel
theorem e2 : Bk.sign R1 2 t4 = (s1, R2) := by decide +kernel
theorem e3 : Bk.sign R2 5 t4 = (s2, R3) := by decide +kernel
theorem e4 : Bk.sign R3 3 t7 = (s3, R4) := by decide +kernel
theorem e5 : Bk.sign R4 6 t7 = (s4, R5) := by decide +kernel
theorem e6 : Bk.sign R5 1 t7 = (s5, R6) := by decide +kernel
theorem e7 : Bk.sign R6 2 t7 = (s6, R7) := by decide +kernel
theorem a1 : accept (votes R5 [s0, s1, s2, s3, s4] geo) gs = (4, 0) := by decide +kernel
theorem a2 : accept (votes R5 [s0, s2, s3, s4] geo) gs = (0, 23) := by decide +kernel
theorem a3 : accept (votes R5 [s0, s1, s3, s4] geo) gs = (0, 23) := by decide +kernel
theorem a4 : accept (votes R7 [s0, s1, s2, s3, s4, s5, s6] geo) gs = (0, 21) := by decide +kernel
theorem g1 : right gs = true := by decide +kernel
theorem g2 : right [] = false := by decide +kernel
theorem p1 : prints (votes R7 [s0, s1, s2, s3, s4] geo) = [4, 7] := by decide +kernel
theorem p2 : members (votes R7 [s0, s1, s2, s3, s4] geo) ⟨[1, 2, 3], 1⟩ 4 = [1, 2] := by decide +kernel
theorem p3 : liars (votes R7 [s0, s1, s2, s3, s4] geo) gs 4 = [3, 6] := by decide +kernel
end Go.Proofs.YtpceoogmkbcfmaaGreatDoor.At
