/- Layer 3 (journal) in plain words: a file of which bytes are missing at the end, or have become 0, has a beginning of the records. No program stands in this text. -/
import Derived.Test.YtiambnllidingaaGreatDoorJrnPl
namespace Go.Proofs.YtiambnllidingaaGreatDoor.Jr
open Go.Lib Go.RowKit
open Wire (textE numE rText rNum rText_inv rNum_inv rText_back rNum_back)
open Dk (Disk)
set_option linter.unusedVariables false
set_option linter.unusedSimpArgs false

/-- x is what is left of N: bytes at the end are missing, others are 0. -/
def Tn : List UInt8 → List UInt8 → Prop
  | [], _ => True
  | _ :: _, [] => False
  | c :: x, d :: N => (c = d ∨ c = 0) ∧ Tn x N
theorem tn_refl : ∀ (x : List UInt8), Tn x x
  | [] => trivial
  | c :: x => ⟨Or.inl rfl, tn_refl x⟩
theorem tn_iff : ∀ {x N : List UInt8}, Tn x N ↔ x.length ≤ N.length ∧ ∀ k, k < x.length → x[k]? = N[k]? ∨ x[k]? = some 0 := by
  intro x
  induction x with
  | nil => intro N; simp [Tn]
  | cons c x ih =>
    intro N
    cases N with
    | nil => simp [Tn]
    | cons d N =>
      unfold Tn
      rw [ih]
      constructor
      · rintro ⟨h1, h2, h3⟩
        refine ⟨by simp; omega, fun k hk => ?_⟩
        cases k with
        | zero => simpa using h1
        | succ k => simpa using h3 k (by simpa using hk)
      · rintro ⟨h2, h3⟩
        refine ⟨by simpa using h3 0 (by simp), by simpa using h2, fun k hk => ?_⟩
        simpa using h3 (k + 1) (by simpa using hk)
theorem tn_split : ∀ {p x N : List UInt8}, Tn (p ++ x) N → Tn p N ∧ Tn x (N.drop p.length) := by
  intro p
  induction p with
  | nil => intro x N h; exact ⟨trivial, h⟩
  | cons c p ih =>
    intro x N h
    cases N with
    | nil => cases h
    | cons d N => exact ⟨⟨h.1, (ih h.2).1⟩, (ih h.2).2⟩
theorem tn_nz : ∀ {p N : List UInt8}, Tn p N → (∀ c ∈ p, c ≠ 0) → p <+: N := by
  intro p
  induction p with
  | nil => intro N _ _; exact List.nil_prefix
  | cons c p ih =>
    intro N h hz
    cases N with
    | nil => cases h
    | cons d N =>
      rcases h.1 with h1 | h1
      · rw [h1]
        exact List.cons_prefix_cons.2 ⟨rfl, ih h.2 (fun x hx => hz x (List.mem_cons_of_mem _ hx))⟩
      · exact absurd h1 (hz c (List.mem_cons_self ..))
theorem tn_more : ∀ {x N M : List UInt8}, Tn x N → Tn x (N ++ M) := by
  intro x
  induction x with
  | nil => intro N M _; exact trivial
  | cons c x ih =>
    intro N M h
    cases N with
    | nil => cases h
    | cons d N => exact ⟨h.1, ih h.2⟩
theorem tn_trans : ∀ {x y N : List UInt8}, Tn x y → Tn y N → Tn x N := by
  intro x
  induction x with
  | nil => intro y N _ _; exact trivial
  | cons c x ih =>
    intro y N h k
    cases y with
    | nil => cases h
    | cons d y =>
      cases N with
      | nil => cases k
      | cons e N =>
        refine ⟨?_, ih h.2 k.2⟩
        rcases h.1 with h1 | h1
        · rw [h1]; exact k.1
        · exact Or.inr h1
theorem tn_nil {x : List UInt8} (h : Tn x []) : x = [] := by
  cases x with
  | nil => rfl
  | cons c x => cases h
theorem tn_pre {x N : List UInt8} (h : x <+: N) : Tn x N := by
  obtain ⟨r, rfl⟩ := h
  exact tn_more (tn_refl x)
/-- Of two lists as long as one another the one with zeroes has the lesser sum. -/
theorem wt_tn : ∀ {t a : List UInt8} (i : Nat), Tn t a → t.length = a.length → wt i t ≤ wt i a ∧ (wt i t = wt i a → t = a) := by
  intro t
  induction t with
  | nil => intro a i _ hl; obtain rfl : a = [] := List.length_eq_zero_iff.1 hl.symm; exact ⟨Nat.le_refl _, fun _ => rfl⟩
  | cons c t ih =>
    intro a i h hl
    cases a with
    | nil => cases h
    | cons d a =>
      obtain ⟨h1, h2⟩ := ih (i + 1) h.2 (by simpa using hl)
      unfold wt
      rcases h.1 with h3 | h3
      · subst h3
        exact ⟨by omega, fun e => by rw [h2 (by omega)]⟩
      · subst h3
        have hz : (0 : UInt8).toNat = 0 := rfl
        have hp : (0 : UInt8).toNat * (i + 1) = 0 := by rw [hz, Nat.zero_mul]
        have hd : d.toNat * (i + 1) ≥ d.toNat := Nat.le_mul_of_pos_right _ (by omega)
        rw [hp]
        refine ⟨by omega, fun e => ?_⟩
        have h0 : d.toNat = 0 := by omega
        have : d = 0 := UInt8.toNat_inj.1 (by rw [h0]; rfl)
        rw [this, h2 (by rw [this] at e; rw [hp] at e; omega)]
theorem wt_le : ∀ (l : List UInt8) (i n : Nat), i + l.length ≤ n → wt i l ≤ l.length * (255 * n) := by
  intro l
  induction l with
  | nil => intro i n _; simp [wt]
  | cons c l ih =>
    intro i n h
    rw [List.length_cons] at h
    have h1 := ih (i + 1) n (by omega)
    have h2 : c.toNat * (i + 1) ≤ 255 * n := Nat.mul_le_mul (by have := c.toNat_lt; omega) (by omega)
    rw [wt, List.length_cons, Nat.succ_mul]
    omega
theorem wt_small {l : List UInt8} (h : l.length ≤ 2000) : wt 0 l < 2147483647 := by
  have h1 := wt_le l 0 2000 (by omega)
  have h2 : l.length * (255 * 2000) ≤ 2000 * (255 * 2000) := Nat.mul_le_mul_right _ h
  omega
theorem itoa_nz {n : Int} : ∀ c ∈ itoa n, c ≠ 0 := by
  intro c hc e
  have := Wire.itoa_chars hc
  rw [e] at this
  simp at this
theorem form_eq (t : List UInt8) : form t = (itoa (t.length : Int) ++ [58]) ++ (t ++ (44 :: numE (sumN t))) := by
  unfold form textE
  simp
theorem num_pre {n m : Int} {M r : List UInt8} (hn : 0 ≤ n) (hm : 0 ≤ m) (hn2 : n ≤ 9223372036854775807) (hm2 : m ≤ 9223372036854775807) (h : numE n <+: numE m ++ M) : n = m := by
  obtain ⟨r, e⟩ := h
  have h1 := rNum_back (n := n) (r := r) ⟨by omega, by omega⟩ hn
  have h2 := rNum_back (n := m) (r := M) ⟨by omega, by omega⟩ hm
  rw [e, h2] at h1
  exact (Prod.mk.inj h1).1.symm
/-- The first record of what is left is the first record. -/
theorem one_tn {x a M t : List UInt8} (h : Tn x (form a ++ M)) (ha : a.length ≤ 2000) (ho : one x = some t) : t = a := by
  obtain ⟨r, rfl, ht⟩ := one_inv ho
  rw [form_eq t, form_eq a, List.append_assoc (itoa (t.length : Int) ++ [58]), List.append_assoc (itoa (a.length : Int) ++ [58])] at h
  obtain ⟨h1, h2⟩ := tn_split h
  have hp := tn_nz h1 (fun c hc => by
    rcases List.mem_append.1 hc with hc | hc
    · exact itoa_nz c hc
    · rw [List.mem_singleton.1 hc]; decide)
  obtain ⟨r1, e1⟩ := hp
  have q1 := Wire.rNumber_back (n := (t.length : Int)) (least := 0) (e := 58) (r := r1) ⟨by omega, by omega⟩ (by omega) (by decide)
  have q2 := Wire.rNumber_back (n := (a.length : Int)) (least := 0) (e := 58) (r := (a ++ 44 :: numE (sumN a)) ++ M) ⟨by omega, by omega⟩ (by omega) (by decide)
  have e1' : itoa (t.length : Int) ++ 58 :: r1 = itoa (a.length : Int) ++ 58 :: ((a ++ 44 :: numE (sumN a)) ++ M) := by simpa using e1
  rw [e1', q2] at q1
  have hlen : t.length = a.length := by have := (Prod.mk.inj q1).1; omega
  rw [hlen, List.drop_left] at h2
  rw [List.append_assoc t, List.append_assoc a] at h2
  obtain ⟨h3, h4⟩ := tn_split h2
  rw [hlen, List.drop_left] at h4
  have h3' : Tn t a := by
    rw [tn_iff] at h3 ⊢
    refine ⟨by omega, fun k hk => ?_⟩
    have := h3.2 k hk
    rwa [List.getElem?_append_left (by omega)] at this
  have h5 : Tn (numE (sumN t) ++ r) (numE (sumN a) ++ M) := h4.2
  have hbt := sumN_bd t
  have hba := sumN_bd a
  have h6 := tn_nz (tn_split h5).1 (fun c hc => by
    unfold numE at hc
    rw [if_neg (by omega)] at hc
    rcases List.mem_append.1 hc with hc | hc
    · exact itoa_nz c hc
    · rw [List.mem_singleton.1 hc]; decide)
  have hs : sumN t = sumN a := num_pre (r := []) hbt.1 hba.1 (by omega) (by omega) h6
  obtain ⟨hw, heq⟩ := wt_tn 0 h3' hlen
  have hwa := wt_small ha
  refine heq ?_
  unfold sumN at hs
  omega
/-- The records of what is left: the first m, where all bytes of their forms are there, and not all of the next one's. -/
theorem recs_tn : ∀ {A : List (List UInt8)} {x : List UInt8}, Tn x (forms A) → (∀ a ∈ A, a.length ≤ 2000) →
    ∃ m, m ≤ A.length ∧ recs x = A.take m ∧ forms (A.take m) <+: x ∧ ∀ k, k ≤ A.length → forms (A.take k) <+: x → k ≤ m := by
  intro A
  induction A with
  | nil =>
    intro x h _
    rw [tn_nil h]
    exact ⟨0, Nat.le_refl _, rfl, List.prefix_refl _, fun k hk _ => hk⟩
  | cons a A ih =>
    intro x h hs
    rw [forms_cons] at h
    cases ho : one x with
    | none =>
      refine ⟨0, Nat.zero_le _, recs_none ho, List.nil_prefix, fun k hk hp => ?_⟩
      cases k with
      | zero => exact Nat.le_refl _
      | succ k =>
        rw [List.take_succ_cons, forms_cons] at hp
        obtain ⟨r, e⟩ := hp
        rw [← e, List.append_assoc, one_form (by have := hs a (List.mem_cons_self ..); omega)] at ho
        cases ho
    | some t =>
      obtain rfl := one_tn h (hs a (List.mem_cons_self ..)) ho
      obtain ⟨r, rfl, ht⟩ := one_inv ho
      have h2 := (tn_split h).2
      rw [List.drop_left] at h2
      obtain ⟨m, h3, h4, h5, h6⟩ := ih h2 (fun b hb => hs b (List.mem_cons_of_mem _ hb))
      refine ⟨m + 1, by rw [List.length_cons]; omega, by rw [recs_form ht, h4, List.take_succ_cons], ?_, fun k hk hp => ?_⟩
      · rw [List.take_succ_cons, forms_cons]
        exact (List.prefix_append_right_inj _).2 h5
      · cases k with
        | zero => exact Nat.zero_le _
        | succ k =>
          rw [List.take_succ_cons, forms_cons] at hp
          have := h6 k (by rw [List.length_cons] at hk; omega) ((List.prefix_append_right_inj _).1 hp)
          omega
end Go.Proofs.YtiambnllidingaaGreatDoor.Jr
