/- Honest views: all that they have accepted was signed by one book. What a meeting does with them, in plain words and in memory. -/
import Derived.Test.YtkhdnfmnnapjlaaGreatDoorGosN
import Derived.Test.YtkhdnfmnnapjlaaGreatDoorGosC
import Derived.Test.YtkhdnfmnnapjlaaGreatDoorViewBk
import Derived.Test.YtkhdnfmnnapjlaaGreatDoorView6
namespace Go.Proofs.YtkhdnfmnnapjlaaGreatDoor
open Go.RowKit
set_option linter.unusedVariables false
set_option linter.unusedSimpArgs false
attribute [local irreducible] Calls

theorem nodup_seal {L : List Bk.Seal} : ∀ {M : List Bk.Seal}, L.Nodup → (∀ s ∈ L, s ∈ M) → L.length ≤ M.length := by
  induction L with
  | nil => intro M _ _; exact Nat.zero_le _
  | cons a L ih =>
    intro M hn hs
    rw [List.nodup_cons] at hn
    obtain ⟨A, B, rfl⟩ := List.append_of_mem (hs a (List.mem_cons_self ..))
    have := ih (M := A ++ B) hn.2 (fun s h => by
      have h2 := hs s (List.mem_cons_of_mem _ h)
      rw [List.mem_append, List.mem_cons] at h2
      rw [List.mem_append]
      rcases h2 with h2 | h2 | h2
      · exact Or.inl h2
      · subst h2; exact absurd h hn.1
      · exact Or.inr h2)
    rw [List.length_append] at this
    rw [List.length_cons, List.length_append, List.length_cons]
    omega
/-- A view has at most as many claims as the ring has entries. -/
theorem vok_len {Lr : List Bk.Seal} {key : Int} {L : List Bk.Sgn} (h : Vw.VOk Lr key L) : L.length ≤ Lr.length := by
  have h1 := nodup_seal (L := L.map fun s => (⟨s.key, s.text⟩ : Bk.Seal)) (M := Lr) (by
    have h2 := h.nodup
    rw [List.nodup_iff_pairwise_ne] at h2 ⊢
    rw [List.pairwise_map]
    refine h2.imp_of_mem fun {a b} ha hb hab e => hab ?_
    have va := (h.each a ha).1
    have vb := (h.each b hb).1
    injection e with e1 e2
    unfold Bk.valid at va vb
    rw [e1, e2] at va
    split at va
    · rename_i i hi
      rw [hi] at vb
      have ma := of_decide_eq_true va
      have mb := of_decide_eq_true vb
      obtain ⟨ak, at', am⟩ := a
      obtain ⟨bk, bt, bm⟩ := b
      dsimp only at *
      subst e1 e2
      rw [← ma, ← mb]
    · cases va) (fun s hs => by
      obtain ⟨t, ht, rfl⟩ := List.mem_map.1 hs
      exact Vw.valid_mem (h.each t ht).1)
  rwa [List.length_map] at h1
theorem vok_ok {Lr : List Bk.Seal} {key : Int} {L : List Bk.Sgn} (h : Vw.VOk Lr key L) (hk : Bk.isKey key = true) (hl : Lr.length ≤ 1000000) {s : Bk.Sgn} (hs : s ∈ L) : SgnOk s := by
  obtain ⟨v1, k1, l1⟩ := h.each s hs
  have hk2 : 0 ≤ key ∧ key < 200 := by unfold Bk.isKey at hk; simpa using hk
  have hm := Vw.valid_lt v1
  obtain ⟨r1, r2, _⟩ := Vw.log_spec l1
  have := text_len8 (Vw.claimOf s) (log_bounds l1).1
  rw [r2] at this
  exact ⟨by unfold I64; omega, by omega, by unfold I64; omega⟩
theorem made_convict {key : Int} {x : Bk.St} {M : List Bk.Sgn} (h : Vw.Made key x M) {s t : Bk.Sgn} (hs : s ∈ M) (ht : t ∈ M) : convictE x.L s t = 19 := by
  obtain ⟨v1, k1, l1⟩ := h.each s hs
  obtain ⟨v2, k2, l2⟩ := h.each t ht
  have r1 := (Vw.log_spec l1).2.2.1
  have r2 := (Vw.log_spec l2).2.2.1
  have hc : Cl.contra (Cl.read s.text).1 (Cl.read t.text).1 = false := h.apart hs ht
  unfold convictE
  rw [v1, v2, r1, r2, hc, k1, k2]
  simp
theorem made_clash {key : Int} {x : Bk.St} {M L : List Bk.Sgn} (h : Vw.Made key x M) (hL : ∀ s ∈ L, s ∈ M) {s : Bk.Sgn} (hs : s ∈ M) : Vw.clash L s = (Bk.noSgn, false) := by
  unfold Vw.clash
  split
  · rfl
  · have : L.find? (fun y => Cl.contra (Vw.claimOf y) (Vw.claimOf s)) = none := by
      rw [List.find?_eq_none]
      intro y hy
      rw [h.apart (hL y hy) hs]
      simp
    rw [this]
theorem made_ok {key : Int} {x : Bk.St} {M : List Bk.Sgn} (h : Vw.Made key x M) (hl : x.L.length ≤ 1000000) {s : Bk.Sgn} (hs : s ∈ M) : SgnOk s := by
  obtain ⟨v1, k1, l1⟩ := h.each s hs
  have hk2 : 0 ≤ key ∧ key < 200 := by have := h.kok; unfold Bk.isKey at this; simpa using this
  have hm := Vw.valid_lt v1
  obtain ⟨r1, r2, _⟩ := Vw.log_spec l1
  have := text_len8 (Vw.claimOf s) (log_bounds l1).1
  rw [r2] at this
  exact ⟨by unfold I64; omega, by omega, by unfold I64; omega⟩
/-- The views of Fam, of which nothing is known but that all of it is among M. -/
def HFam (W : World) (p : VNR) (m n : Nat) (key : Int) (Lr : List Bk.Seal) (bs : Nat → Bk.Book) (M : List Bk.Sgn) (F : Nat → Prop) (z : World) : Prop :=
  ∃ L, Fam W p m n key Lr bs L F z ∧ ∀ i, i < n → ∀ s ∈ L i, s ∈ M
section
variable {W : World} {p : VNR} {m n : Nat} {key : Int} {Lr : List Bk.Seal} {bs : Nat → Bk.Book} {M : List Bk.Sgn} {F F' S : Nat → Prop} {z z' : World}
theorem HFam.nw0 (h : HFam W p m n key Lr bs M F z) : Nw W z := by obtain ⟨L, h, _⟩ := h; exact h.nw0
theorem HFam.gl (h : HFam W p m n key Lr bs M F z) (g : Gl W) : Gl z := g.upd h.nw0
theorem HFam.nw (h : HFam W p m n key Lr bs M F z) (u : Nw z z') : HFam W p m n key Lr bs M F z' := by obtain ⟨L, h, a⟩ := h; exact ⟨L, h.nw u, a⟩
theorem HFam.keep (h : HFam W p m n key Lr bs M F z) (u : Nw z z') (hF : ∀ k, F' k → F k ∨ (z.heap.size ≤ k ∧ k < z'.heap.size)) : HFam W p m n key Lr bs M F' z' := by obtain ⟨L, h, a⟩ := h; exact ⟨L, h.keep u hF, a⟩
theorem hn_accept (h : HFam W p m n key Lr bs M F z) (g : Gl W) {b : Bk.Book} (hm : Vw.Made key ⟨Lr, b⟩ M) (hl : Lr.length ≤ 900000) {i : Nat} (hi : i < n) (s : Bk.Sgn) (hs : s ∈ M) :
    Calls Tryz.prog 13 #[.pointer (some ⟨p.vbs i, 0, none⟩), .agg #[.int .i64 s.key, .string ⟨s.text.toArray⟩, .int .i64 s.mark]] z fun e w' => e = .returned (.int .i64 0) ∧ HFam W p m n key Lr bs M F w' ∧ MovesN W F z w' := by
  obtain ⟨L, h, a⟩ := h
  obtain ⟨m1, m2⟩ := Vw.made_accept hm (a i hi) hs
  refine (vn_accept h g hi s (made_ok hm (Nat.le_trans hl (by decide)) hs) (Nat.le_trans (vok_len (h.2 i hi)) hl)).mono ?_
  rintro e w' ⟨rfl, h', mv⟩
  refine ⟨by rw [m1], ⟨_, h', fun k hk t ht => ?_⟩, mv⟩
  by_cases hki : k = i
  · subst hki; rw [setL_self] at ht; exact m2 t ht
  · rw [setL_ne _ _ hki] at ht; exact a k hk t ht
end
end Go.Proofs.YtkhdnfmnnapjlaaGreatDoor
