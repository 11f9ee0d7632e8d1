/- Layer 7 in plain words: what a book signs is true of it, and does not contradict itself. No program stands in this text. Layer 7 in plain words: what a book of given entries answers, for BookSays. No program stands in this text. -/
import Derived.Test.YtkhdnfmnnapjlaaGreatDoorBook2
namespace Go.Proofs.YtkhdnfmnnapjlaaGreatDoor.Bk
open Go.Lib Go.RowKit
open Cl (Clm right text entryC absentB contra)
set_option linter.unusedVariables false
set_option linter.unusedSimpArgs false

inductive Tru (b : Book) : Clm → Prop where
  | entry (i : Nat) (h : i < b.es.length) : Tru b (entryC b.es i)
  | size (n t : Int) (h1 : t ≤ b.last) (h2 : n ≤ b.told) (h3 : t = b.last → n = b.told) : Tru b ⟨1, n, t, []⟩
  | absent (n : Nat) (k : List UInt8) (hn : n ≤ b.es.length) (h : absentB b.es n k = true) : Tru b ⟨2, n, 0, k⟩
structure Hon (key : Int) (x : St) : Prop where
  own : x.b.key = key
  keyed : ∀ t ∈ x.b.es, (Cl.key t).2 = true ∧ t.length ≤ 20000
  len : x.b.es.length ≤ 200000
  told : x.b.told ≤ x.b.es.length
  all : ∀ e ∈ x.L, e.key = key → ∃ c, right c = true ∧ text c = e.text ∧ Tru x.b c
  sizes : ∀ n t n' t', right ⟨1, n, t, []⟩ = true → right ⟨1, n', t', []⟩ = true → (⟨key, text ⟨1, n, t, []⟩⟩ : Seal) ∈ x.L → (⟨key, text ⟨1, n', t', []⟩⟩ : Seal) ∈ x.L → t ≤ t' → n ≤ n'
theorem mem_sign {L : List Seal} {k : Int} {t : List UInt8} {e : Seal} (h : e ∈ (sign L k t).2) : e ∈ L ∨ e = ⟨k, t⟩ := by
  unfold sign at h
  split at h
  · split at h
    · exact Or.inl h
    · simpa using h
  · exact Or.inl h
theorem hon_new (key : Int) : Hon key ⟨[], new key⟩ :=
  ⟨rfl, by simp [new], by simp [new], by simp [new], by simp, by simp⟩
theorem Hon.tru {key : Int} {x : St} (h : Hon key x) {c : Clm} (hr : right c = true) (hm : (⟨key, text c⟩ : Seal) ∈ x.L) : Tru x.b c := by
  obtain ⟨d, h1, h2, h3⟩ := h.all _ hm rfl
  rw [← (Cl.text_inj h1).1 h2]; exact h3
/-- Another key's signature. -/
theorem hon_other {key k : Int} {x : St} {t : List UInt8} (h : Hon key x) (hk : ¬ k = key) : Hon key ⟨(sign x.L k t).2, x.b⟩ := by
  have hm : ∀ e ∈ (sign x.L k t).2, e.key = key → e ∈ x.L := fun e he hek => by
    rcases mem_sign he with h1 | h1
    · exact h1
    · subst h1; exact absurd hek hk
  exact ⟨h.own, h.keyed, h.len, h.told, fun e he hek => h.all e (hm e he hek) hek, fun n t n' t' a b c d => h.sizes n t n' t' a b (hm _ c rfl) (hm _ d rfl)⟩
/-- The book's own signature, that is no size. -/
theorem hon_sign {key : Int} {x : St} {c : Clm} (h : Hon key x) (hr : right c = true) (ht : Tru x.b c) (hk : ¬ c.kind = 1) : Hon key ⟨(signC x.L x.b c).2, x.b⟩ := by
  have hm : ∀ n t, right ⟨1, n, t, []⟩ = true → (⟨key, text ⟨1, n, t, []⟩⟩ : Seal) ∈ (signC x.L x.b c).2 → (⟨key, text ⟨1, n, t, []⟩⟩ : Seal) ∈ x.L := fun n t hrr he => by
    rcases mem_sign he with h1 | h1
    · exact h1
    · injection h1 with _ h2
      have := (Cl.text_inj hrr).1 h2
      subst this
      exact absurd rfl hk
  refine ⟨h.own, h.keyed, h.len, h.told, fun e he hek => ?_, fun n t n' t' a b c d => h.sizes n t n' t' a b (hm _ _ a c) (hm _ _ b d)⟩
  rcases mem_sign he with h1 | h1
  · exact h.all e h1 hek
  · subst h1; exact ⟨c, hr, rfl, ht⟩
theorem hon_head {key : Int} {x : St} (h : Hon key x) (now : Int) : Hon key ⟨(head x.L x.b now).2.1, (head x.L x.b now).2.2⟩ := by
  unfold head
  split
  · exact h
  · rename_i h1
    split
    · exact h
    · rename_i h2
      have hl := h.len
      have htold := h.told
      have hr : right ⟨1, x.b.es.length, now, []⟩ = true := by
        simp [right, Cl.within]; omega
      have up : ∀ c, Tru x.b c → Tru { x.b with last := now, told := x.b.es.length } c := fun c hc => by
        cases hc with
        | entry i hi => exact .entry (b := { x.b with last := now, told := x.b.es.length }) i hi
        | size n t h3 h4 h5 => exact .size (b := { x.b with last := now, told := x.b.es.length }) n t (by show t ≤ now; omega) (by show n ≤ (x.b.es.length : Int); omega) (fun e => by
            have e' : t = now := e
            show n = (x.b.es.length : Int)
            by_cases e2 : x.b.last = now
            · have := h5 (by omega)
              have : x.b.told = (x.b.es.length : Int) := by
                by_cases e3 : x.b.told = (x.b.es.length : Int)
                · exact e3
                · exact absurd (Or.inr ⟨e2, e3⟩) h2
              omega
            · omega)
        | absent n k hn ha => exact .absent (b := { x.b with last := now, told := x.b.es.length }) n k hn ha
      have own : ∀ n t, right ⟨1, n, t, []⟩ = true → (⟨key, text ⟨1, n, t, []⟩⟩ : Seal) ∈ (signC x.L x.b ⟨1, x.b.es.length, now, []⟩).2 → (⟨key, text ⟨1, n, t, []⟩⟩ : Seal) ∈ x.L ∨ (n = x.b.es.length ∧ t = now) := fun n t hrr he => by
        rcases mem_sign he with h3 | h3
        · exact Or.inl h3
        · injection h3 with _ h4
          have := (Cl.text_inj hrr).1 h4
          injection this with _ h5 h6 _
          exact Or.inr ⟨h5, h6⟩
      have siz : ∀ n t, right ⟨1, n, t, []⟩ = true → (⟨key, text ⟨1, n, t, []⟩⟩ : Seal) ∈ x.L → t ≤ x.b.last ∧ n ≤ x.b.told ∧ (t = x.b.last → n = x.b.told) := fun n t hrr he => by
        have := h.tru hrr he
        generalize hc : (⟨1, n, t, []⟩ : Clm) = c at this
        cases this with
        | entry i hi => cases hc
        | size n' t' h3 h4 h5 => injection hc with _ e1 e2 _; subst e1; subst e2; exact ⟨h3, h4, h5⟩
        | absent n' k hn ha => cases hc
      refine ⟨h.own, h.keyed, h.len, Int.le_refl _, fun e he hek => ?_, fun n t n' t' a b c d hle => ?_⟩
      · rcases mem_sign he with h3 | h3
        · obtain ⟨d, hd1, hd2, hd3⟩ := h.all e h3 hek
          exact ⟨d, hd1, hd2, up d hd3⟩
        · subst h3
          exact ⟨_, hr, rfl, .size (b := { x.b with last := now, told := x.b.es.length }) _ _ (Int.le_refl _) (Int.le_refl _) (fun _ => rfl)⟩
      · rcases own n t a c with c1 | ⟨c1, c2⟩
        · rcases own n' t' b d with d1 | ⟨d1, d2⟩
          · exact h.sizes n t n' t' a b c1 d1 hle
          · have := (siz n t a c1).2.1; omega
        · rcases own n' t' b d with d1 | ⟨d1, d2⟩
          · obtain ⟨s1, s2, s3⟩ := siz n' t' b d1
            have e1 : t' = x.b.last := by omega
            have e2 : x.b.last = now := by omega
            have := s3 e1
            have : x.b.told = (x.b.es.length : Int) := by
              by_cases e3 : x.b.told = (x.b.es.length : Int)
              · exact e3
              · exact absurd (Or.inr ⟨e2, e3⟩) h2
            omega
          · omega
theorem hon_append {key : Int} {x : St} (h : Hon key x) (t : List UInt8) : Hon key ⟨x.L, (append x.b t).2⟩ := by
  unfold append
  split
  · exact h
  · rename_i h1
    split
    · exact h
    · rename_i h2
      split
      · exact h
      · rename_i h3
        have hl := h.len
        have htold := h.told
        have h1' : (Cl.key t).2 = true := by simpa using h1
        have up : ∀ c, Tru x.b c → Tru { x.b with es := x.b.es ++ [t] } c := fun c hc => by
          cases hc with
          | entry i hi =>
            have e : entryC x.b.es i = entryC (x.b.es ++ [t]) i := by
              simp [entryC, List.getElem?_append, hi]
            rw [e]
            exact .entry (b := { x.b with es := x.b.es ++ [t] }) i (by simp; omega)
          | size n t' h3 h4 h5 => exact .size (b := { x.b with es := x.b.es ++ [t] }) n t' h3 h4 h5
          | absent n k hn ha => exact .absent (b := { x.b with es := x.b.es ++ [t] }) n k (by simp; omega) (by
              show absentB (x.b.es ++ [t]) n k = true
              unfold absentB at ha ⊢
              rw [List.take_append_of_le_length hn]
              exact ha)
        refine ⟨h.own, fun s hs => ?_, by simp; omega, by simp; omega, fun e he hek => ?_, h.sizes⟩
        · rcases List.mem_append.1 hs with hs | hs
          · exact h.keyed s hs
          · rw [List.mem_singleton] at hs; subst hs; exact ⟨h1', by omega⟩
        · obtain ⟨d, hd1, hd2, hd3⟩ := h.all e he hek
          exact ⟨d, hd1, hd2, up d hd3⟩
theorem hon_entry {key : Int} {x : St} (h : Hon key x) (i : Int) : Hon key ⟨(entry x.L x.b i).2, x.b⟩ := by
  unfold entry
  split
  · exact h
  · rename_i hi
    have hl := h.len
    have hlt : i.toNat < x.b.es.length := by omega
    have e : (⟨0, i, 0, x.b.es.getD i.toNat []⟩ : Clm) = entryC x.b.es i.toNat := by
      unfold entryC
      rw [Int.toNat_of_nonneg (by omega)]
    rw [e]
    refine hon_sign h ?_ (.entry _ hlt) (by simp [entryC])
    obtain ⟨h1, h2⟩ := h.keyed x.b.es[i.toNat] (List.getElem_mem hlt)
    simp [right, entryC, hlt, Cl.within, h1, h2]
    omega
theorem hon_absent {key : Int} {x : St} (h : Hon key x) (k : List UInt8) (n : Int) : Hon key ⟨(absent x.L x.b k n).2, x.b⟩ := by
  unfold absent
  split
  · exact h
  · rename_i hi
    split
    · exact h
    · rename_i ha
      have hl := h.len
      have ha' : absentB x.b.es n.toNat k = true := by simpa using ha
      have hn : ((n.toNat : Nat) : Int) = n := Int.toNat_of_nonneg (by omega)
      have ht : Tru x.b ⟨2, (n.toNat : Int), 0, k⟩ := .absent n.toNat k (by omega) ha'
      rw [hn] at ht
      refine hon_sign h ?_ ht (by simp)
      simp [right, Cl.within]
      omega
theorem hon_do {key : Int} {x : St} (h : Hon key x) (o : Opn) : Hon key (doS key x o).2 := by
  unfold doS
  split
  · exact hon_append h _
  · split
    · exact hon_entry h _
    · split
      · exact hon_head h _
      · split
        · exact hon_absent h _ _
        · split
          · exact h
          · rename_i hk; exact hon_other h hk
/-- Two claims that the book's key signed do not contradict each other. -/
theorem hon_no {key : Int} {x : St} (h : Hon key x) {c d : Clm} (hc : right c = true) (hd : right d = true) (mc : (⟨key, text c⟩ : Seal) ∈ x.L) (md : (⟨key, text d⟩ : Seal) ∈ x.L) : contra c d = false := by
  rw [← Bool.not_eq_true, Cl.contra_iff]
  rintro ⟨_, _, hb⟩
  have tc := h.tru hc mc
  have td := h.tru hd md
  cases tc with
  | entry i hi =>
    cases td with
    | entry k hk =>
      rcases hb with ⟨h1, h2, h3⟩ | ⟨h1, h2, h3⟩ | ⟨h1, h2, h3⟩ | ⟨h1, h2, h3, h4⟩ | ⟨h1, h2, h3, h4, h5⟩
      · cases h2
      · cases h1
      · cases h1
      · cases h1
      · have h6 : (i : Int) = (k : Int) := h3
        have h7 : i = k := by omega
        rw [h7] at h5
        exact h5 rfl
    | size n t _ _ _ => rcases hb with ⟨h1, h2, h3⟩ | ⟨h1, h2, h3⟩ | ⟨h1, h2, h3⟩ | ⟨h1, h2, h3, h4⟩ | ⟨h1, h2, h3, h4, h5⟩ <;> first | (cases h1; done) | cases h2
    | absent n k hn hk =>
      rcases hb with ⟨h1, h2, h3⟩ | ⟨h1, h2, h3⟩ | ⟨h1, h2, h3⟩ | ⟨h1, h2, h3, h4⟩ | ⟨h1, h2, h3, h4, h5⟩
      · rw [Cl.refutes_false hi hk] at h3; cases h3
      · cases h1
      · cases h1
      · cases h1
      · cases h1
  | size n t a1 a2 a3 =>
    cases td with
    | entry k hk => rcases hb with ⟨h1, h2, h3⟩ | ⟨h1, h2, h3⟩ | ⟨h1, h2, h3⟩ | ⟨h1, h2, h3, h4⟩ | ⟨h1, h2, h3, h4, h5⟩ <;> first | (cases h1; done) | cases h2
    | size n' t' b1 b2 b3 =>
      rcases hb with ⟨h1, h2, h3⟩ | ⟨h1, h2, h3⟩ | ⟨h1, h2, h3⟩ | ⟨h1, h2, h3, h4⟩ | ⟨h1, h2, h3, h4, h5⟩
      · cases h1
      · cases h1
      · have h3' : (t = t' ∧ ¬ n = n') ∨ (t < t' ∧ n' < n) ∨ (t' < t ∧ n < n') := h3
        have s1 := h.sizes n t n' t' hc hd mc md
        have s2 := h.sizes n' t' n t hd hc md mc
        omega
      · cases h1
      · rcases h2 with h2 | h2 <;> cases h2
    | absent n k hn hk => rcases hb with ⟨h1, h2, h3⟩ | ⟨h1, h2, h3⟩ | ⟨h1, h2, h3⟩ | ⟨h1, h2, h3, h4⟩ | ⟨h1, h2, h3, h4, h5⟩ <;> first | (cases h1; done) | cases h2
  | absent n k hn hk =>
    cases td with
    | entry i hi =>
      rcases hb with ⟨h1, h2, h3⟩ | ⟨h1, h2, h3⟩ | ⟨h1, h2, h3⟩ | ⟨h1, h2, h3, h4⟩ | ⟨h1, h2, h3, h4, h5⟩
      · cases h1
      · rw [Cl.refutes_false hi hk] at h3; cases h3
      · cases h1
      · cases h1
      · cases h1
    | size n t _ _ _ => rcases hb with ⟨h1, h2, h3⟩ | ⟨h1, h2, h3⟩ | ⟨h1, h2, h3⟩ | ⟨h1, h2, h3, h4⟩ | ⟨h1, h2, h3, h4, h5⟩ <;> first | (cases h1; done) | cases h2
    | absent m j hj hm => rcases hb with ⟨h1, h2, h3⟩ | ⟨h1, h2, h3⟩ | ⟨h1, h2, h3⟩ | ⟨h1, h2, h3, h4⟩ | ⟨h1, h2, h3, h4, h5⟩ <;> first | (cases h1; done) | (cases h2; done) | (rcases h2 with h2 | h2 <;> cases h2)
theorem sign_good {L : List Seal} {k : Int} {t : List UInt8} (hk : isKey k = true) : (sign L k t).1.key = k ∧ (sign L k t).1.text = t ∧ valid (sign L k t).2 (sign L k t).1 = true := by
  unfold sign
  rw [if_pos hk]
  split
  · rename_i i hp
    refine ⟨rfl, rfl, ?_⟩
    simp [valid, hp]
  · rename_i hp
    refine ⟨rfl, rfl, ?_⟩
    simp [valid, place_snoc, hp]
/-- What an operation of the book signs holds, and is the book's. -/
theorem do_good {key : Int} {x : St} (hk : isKey key = true) (ho : x.b.key = key) (o : Opn) (h1 : 1 ≤ o.kind) (h3 : o.kind ≤ 3) (he : (doS key x o).1.2.2 = 0) : (doS key x o).1.1.key = key ∧ valid (doS key x o).2.L (doS key x o).1.1 = true := by
  subst ho
  unfold doS at he ⊢
  rw [if_neg (by omega)] at he ⊢
  by_cases k1 : o.kind = 1
  · rw [if_pos k1] at he ⊢
    dsimp only at he ⊢
    unfold entry at he ⊢
    split at he
    · cases he
    · rename_i hi
      rw [if_neg hi]
      exact ⟨(sign_good hk).1, (sign_good hk).2.2⟩
  · rw [if_neg k1] at he ⊢
    by_cases k2 : o.kind = 2
    · rw [if_pos k2] at he ⊢
      dsimp only at he ⊢
      unfold head at he ⊢
      split at he
      · cases he
      · rename_i hi
        split at he
        · cases he
        · rename_i hj
          rw [if_neg hi, if_neg hj]
          exact ⟨(sign_good hk).1, (sign_good hk).2.2⟩
    · rw [if_neg k2, if_pos (by omega)] at he ⊢
      dsimp only at he ⊢
      unfold absent at he ⊢
      split at he
      · cases he
      · rename_i hi
        split at he
        · cases he
        · rename_i hj
          rw [if_neg hi, if_neg hj]
          exact ⟨(sign_good hk).1, (sign_good hk).2.2⟩
theorem sign_len (L : List Seal) (k : Int) (t : List UInt8) : (sign L k t).2.length ≤ L.length + 1 := by
  unfold sign
  split
  · split <;> simp
  · simp
theorem do_len (key : Int) (x : St) (o : Opn) : (doS key x o).2.L.length ≤ x.L.length + 1 := by
  unfold doS entry head absent
  repeat' split
  all_goals first | exact sign_len _ _ _ | exact Nat.le_succ _
end Go.Proofs.YtkhdnfmnnapjlaaGreatDoor.Bk
namespace Go.Proofs.YtkhdnfmnnapjlaaGreatDoor.Bk
open Go.Lib Go.RowKit Cl
set_option linter.unusedVariables false
set_option linter.unusedSimpArgs false

/-- The book with the entries K, of the key 0. -/
def bk (K : List (List UInt8)) : Book := ⟨0, K, -1, 0⟩
def KeptOk (K : List (List UInt8)) : Prop := K.length ≤ 25 ∧ ∀ t ∈ K, (Cl.key t).2 = true ∧ t.length ≤ 300
theorem KeptOk.nil : KeptOk [] := ⟨by simp, fun t h => by cases h⟩
theorem append_no {K : List (List UInt8)} {t : List UInt8} (h : (Cl.key t).2 = false) : append (bk K) t = ((0, 2), bk K) := by unfold append; rw [if_pos h]
theorem append_yes {K : List (List UInt8)} {t : List UInt8} (h : (Cl.key t).2 = true) (hk : KeptOk K) (ht : t.length ≤ 300) : append (bk K) t = (((K.length : Int), 0), bk (K ++ [t])) := by
  have := hk.1
  unfold append
  rw [if_neg (by simp [h]), if_neg (by omega), if_neg (by show ¬ 200000 ≤ K.length; omega)]
  rfl
theorem sign_again {L : List Seal} {k : Int} {t : List UInt8} : sign (sign L k t).2 k t = sign L k t := by
  unfold sign
  by_cases hk : isKey k = true
  · rw [if_pos hk, if_pos hk]
    cases hp : place L ⟨k, t⟩ with
    | some i => simp only [hp]
    | none => simp [place_snoc, hp]
  · rw [if_neg hk, if_neg hk]
/-- What is answered of an absence. -/
theorem absent_r {K : List (List UInt8)} (hk : KeptOk K) {key : List UInt8} (hkey : key.length ≤ 300) (L : List Seal) {i : Nat} (hi : i ≤ K.length) :
    ∃ s e L', absent L (bk K) key i = ((s, e), L') ∧ L'.length ≤ L.length + 1 ∧ (absentB K i key = true → e = 0 ∧ s.text = text ⟨2, i, 0, key⟩ ∧ Cl.read s.text = (⟨2, i, 0, key⟩, true)) ∧ (absentB K i key = false → e = 5 ∧ s = noSgn) := by
  have h25 := hk.1
  unfold absent
  rw [if_neg (by show ¬ ((i : Int) < 0 ∨ (K.length : Int) < i ∨ 20000 < key.length); omega)]
  show ∃ s e L', (if absentB K (i : Int).toNat key = false then _ else _) = _ ∧ _
  rw [Int.toNat_natCast]
  cases hab : absentB K i key with
  | false => exact ⟨noSgn, 5, L, rfl, Nat.le_succ _, fun h => (by cases h), fun _ => ⟨rfl, rfl⟩⟩
  | true =>
    rw [if_neg (by simp)]
    refine ⟨_, _, _, rfl, sign_len _ _ _, fun _ => ⟨rfl, (sign_good (by rfl)).2.1, ?_⟩, fun h => (by cases h)⟩
    have hr : right ⟨2, i, 0, key⟩ = true := by
      simp [right, Cl.within]
      omega
    show Cl.read (sign L 0 (text ⟨2, i, 0, key⟩)).1.text = _
    rw [(sign_good (by rfl)).2.1]
    exact read_text hr
/-- What is answered of an entry, twice. -/
theorem entry_r {K : List (List UInt8)} (hk : KeptOk K) (L : List Seal) {i : Nat} (hi : i < K.length) :
    ∃ s L', entry L (bk K) i = ((s, 0), L') ∧ entry L' (bk K) i = ((s, 0), L') ∧ L'.length ≤ L.length + 1 ∧ s.text = text ⟨0, i, 0, K[i]⟩ ∧ Cl.read s.text = (⟨0, i, 0, K[i]⟩, true) := by
  have h25 := hk.1
  obtain ⟨h1, h2⟩ := hk.2 K[i] (List.getElem_mem hi)
  have he : ∀ L, entry L (bk K) i = (((sign L 0 (text ⟨0, i, 0, K[i]⟩)).1, 0), (sign L 0 (text ⟨0, i, 0, K[i]⟩)).2) := fun L => by
    unfold entry
    rw [if_neg (by show ¬ ((i : Int) < 0 ∨ (K.length : Int) ≤ i); omega)]
    have hg : K.getD i [] = K[i] := by simp [hi]
    rw [Int.toNat_natCast, show (bk K).es.getD i [] = K[i] from hg]
    rfl
  refine ⟨_, _, he L, ?_, sign_len _ _ _, (sign_good (by rfl)).2.1, ?_⟩
  · rw [he, sign_again]
  · have hr : right ⟨0, i, 0, K[i]⟩ = true := by
      simp [right, Cl.within, h1]
      omega
    rw [(sign_good (by rfl)).2.1]
    exact read_text hr
theorem read_nil : Cl.read [] = (⟨0, 0, 0, []⟩, false) := by decide
theorem entry_out {K : List (List UInt8)} (L : List Seal) : entry L (bk K) K.length = ((noSgn, 4), L) := by
  unfold entry
  rw [if_pos (Or.inr (by show (K.length : Int) ≤ _; omega))]
theorem absent_out {K : List (List UInt8)} (L : List Seal) (key : List UInt8) : absent L (bk K) key ((K.length : Int) + 1) = ((noSgn, 1), L) := by
  unfold absent
  rw [if_pos (Or.inr (Or.inl (by show (K.length : Int) < _; omega)))]
theorem there_succ {K : List (List UInt8)} (hk : KeptOk K) (key : List UInt8) {i : Nat} (hi : i < K.length) : absentB K (i + 1) key = (absentB K i key && !decide ((Cl.key K[i]).1 = key)) := by
  rw [absentB_succ K i key hi, hasKey, (hk.2 K[i] (List.getElem_mem hi)).1, Bool.true_and]
theorem there_zero (K : List (List UInt8)) (key : List UInt8) : absentB K 0 key = true := by simp [absentB]
theorem textAt_r {K : List (List UInt8)} {i : Nat} (hi : i < K.length) : textAt (bk K) i = (K[i], true) := by
  unfold textAt
  rw [if_neg (by show ¬ ((i : Int) < 0 ∨ (K.length : Int) ≤ i); omega), Int.toNat_natCast]
  show (K.getD i [], true) = _
  simp [hi]
end Go.Proofs.YtkhdnfmnnapjlaaGreatDoor.Bk
