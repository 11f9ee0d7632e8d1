/- Layer 8 in plain words, for ViewBook: what a book signs is accepted, and what the view then says is true of the book. No program stands in this text. -/
import Derived.Test.YtkhdnfmnnapjlaaGreatDoorViewPl
import Derived.Test.YtkhdnfmnnapjlaaGreatDoorBook4
namespace Go.Proofs.YtkhdnfmnnapjlaaGreatDoor.Vw
open Go.Lib Go.RowKit
open Bk (Seal Sgn noSgn isKey place valid sign Book Hon Tru)
open Cl (Clm contra right text absentB entryC)
set_option linter.unusedVariables false
set_option linter.unusedSimpArgs false

structure Turn where
  kind : Int
  name : List UInt8
  text : List UInt8
  n : Int
/-- A turn: what is signed (and the error, 4 where nothing is asked), the ring and the book behind it. -/
def turnS (x : Bk.St) (o : Turn) : (Sgn × Int) × Bk.St :=
  if o.kind = 0 then ((noSgn, 4), ⟨x.L, (Bk.append x.b (Wire.textE o.name ++ o.text)).2⟩)
  else if o.kind = 1 then ((Bk.entry x.L x.b o.n).1, ⟨(Bk.entry x.L x.b o.n).2, x.b⟩)
  else if o.kind = 2 then ((Bk.head x.L x.b o.n).1, ⟨(Bk.head x.L x.b o.n).2.1, (Bk.head x.L x.b o.n).2.2⟩)
  else if o.kind = 3 then ((Bk.absent x.L x.b o.name o.n).1, ⟨(Bk.absent x.L x.b o.name o.n).2, x.b⟩)
  else ((noSgn, 4), x)
/-- What the book signed holds, is its own, and is of a log; the book is honest. -/
structure Made (key : Int) (x : Bk.St) (M : List Sgn) : Prop where
  hon : Hon key x
  nd : x.L.Nodup
  kok : isKey key = true
  each : ∀ s ∈ M, valid x.L s = true ∧ s.key = key ∧ isLog s.text = true
theorem Made.start {key : Int} (hk : isKey key = true) : Made key ⟨[], Bk.new key⟩ [] := ⟨Bk.hon_new key, List.nodup_nil, hk, fun s h => by cases h⟩
theorem valid_mem {L : List Seal} {s : Sgn} (h : valid L s = true) : (⟨s.key, s.text⟩ : Seal) ∈ L := by
  unfold valid at h
  cases hp : place L ⟨s.key, s.text⟩ with
  | none => rw [hp] at h; cases h
  | some i => exact List.mem_of_getElem? (Bk.place_some hp)
theorem tru_log {key : Int} {x : Bk.St} (h : Hon key x) {e : Seal} (he : e ∈ x.L) (hk : e.key = key) : isLog e.text = true ∧ Tru x.b (Cl.read e.text).1 := by
  obtain ⟨c, h1, h2, h3⟩ := h.all e he hk
  have hr := Cl.read_text h1
  rw [h2] at hr
  unfold isLog
  rw [hr]
  refine ⟨?_, h3⟩
  cases h3 with
  | entry i hi => show (true && decide ((0 : Int) ≤ 2)) = true; decide
  | size n t _ _ _ => show (true && decide ((1 : Int) ≤ 2)) = true; decide
  | absent n k _ _ => show (true && decide ((2 : Int) ≤ 2)) = true; decide
theorem sign_more8 (L : List Seal) (k : Int) (t : List UInt8) : ∃ M, (sign L k t).2 = L ++ M := by
  unfold sign
  split
  · split
    · exact ⟨[], by simp⟩
    · exact ⟨_, rfl⟩
  · exact ⟨[], by simp⟩
theorem turn_more (x : Bk.St) (o : Turn) : ∃ M, (turnS x o).2.L = x.L ++ M := by
  unfold turnS
  split
  · exact ⟨[], by simp⟩
  split
  · unfold Bk.entry
    split
    · exact ⟨[], by simp⟩
    · exact sign_more8 _ _ _
  split
  · unfold Bk.head
    split
    · exact ⟨[], by simp⟩
    split
    · exact ⟨[], by simp⟩
    · exact sign_more8 _ _ _
  split
  · unfold Bk.absent
    split
    · exact ⟨[], by simp⟩
    split
    · exact ⟨[], by simp⟩
    · exact sign_more8 _ _ _
  · exact ⟨[], by simp⟩
theorem turn_hon {key : Int} {x : Bk.St} (h : Hon key x) (o : Turn) : Hon key (turnS x o).2 := by
  unfold turnS
  split
  · exact Bk.hon_append h _
  split
  · exact Bk.hon_entry h _
  split
  · exact Bk.hon_head h _
  split
  · exact Bk.hon_absent h _ _
  · exact h
theorem turn_nd {x : Bk.St} (h : x.L.Nodup) (o : Turn) : (turnS x o).2.L.Nodup := by
  unfold turnS
  split
  · exact h
  split
  · unfold Bk.entry
    split
    · exact h
    · exact Bk.sign_nodup h
  split
  · unfold Bk.head
    split
    · exact h
    split
    · exact h
    · exact Bk.sign_nodup h
  split
  · unfold Bk.absent
    split
    · exact h
    split
    · exact h
    · exact Bk.sign_nodup h
  · exact h
theorem turn_good {key : Int} {x : Bk.St} (hk : isKey key = true) (ho : x.b.key = key) (o : Turn) (he : (turnS x o).1.2 = 0) : (turnS x o).1.1.key = key ∧ valid (turnS x o).2.L (turnS x o).1.1 = true := by
  subst ho
  unfold turnS at he ⊢
  by_cases k0 : o.kind = 0
  · rw [if_pos k0] at he; cases he
  rw [if_neg k0] at he ⊢
  by_cases k1 : o.kind = 1
  · rw [if_pos k1] at he ⊢
    dsimp only at he ⊢
    unfold Bk.entry at he ⊢
    split at he
    · cases he
    · rename_i hi
      rw [if_neg hi]
      exact ⟨(Bk.sign_good hk).1, (Bk.sign_good hk).2.2⟩
  rw [if_neg k1] at he ⊢
  by_cases k2 : o.kind = 2
  · rw [if_pos k2] at he ⊢
    dsimp only at he ⊢
    unfold Bk.head at he ⊢
    split at he
    · cases he
    · rename_i hi
      split at he
      · cases he
      · rename_i hj
        rw [if_neg hi, if_neg hj]
        exact ⟨(Bk.sign_good hk).1, (Bk.sign_good hk).2.2⟩
  rw [if_neg k2] at he ⊢
  by_cases k3 : o.kind = 3
  · rw [if_pos k3] at he ⊢
    dsimp only at he ⊢
    unfold Bk.absent at he ⊢
    split at he
    · cases he
    · rename_i hi
      split at he
      · cases he
      · rename_i hj
        rw [if_neg hi, if_neg hj]
        exact ⟨(Bk.sign_good hk).1, (Bk.sign_good hk).2.2⟩
  · rw [if_neg k3] at he; cases he
theorem Made.step {key : Int} {x : Bk.St} {M : List Sgn} (h : Made key x M) (o : Turn) : Made key (turnS x o).2 (if (turnS x o).1.2 = 0 then M ++ [(turnS x o).1.1] else M) := by
  have hh := turn_hon h.hon o
  have old : ∀ s ∈ M, valid (turnS x o).2.L s = true ∧ s.key = key ∧ isLog s.text = true := fun s hs => by
    obtain ⟨N, e⟩ := turn_more x o
    rw [e]
    exact ⟨valid_more N (h.each s hs).1, (h.each s hs).2⟩
  refine ⟨hh, turn_nd h.nd o, h.kok, ?_⟩
  split
  · rename_i he
    intro s hs
    rcases List.mem_append.1 hs with hs | hs
    · exact old s hs
    · rw [List.mem_singleton.1 hs]
      obtain ⟨g1, g2⟩ := turn_good h.kok h.hon.own o he
      exact ⟨g2, g1, (tru_log hh (valid_mem g2) g1).1⟩
  · exact old
theorem Made.tru {key : Int} {x : Bk.St} {M : List Sgn} (h : Made key x M) {s : Sgn} (hs : s ∈ M) : Tru x.b (claimOf s) :=
  (tru_log h.hon (valid_mem (h.each s hs).1) (h.each s hs).2.1).2
theorem Made.apart {key : Int} {x : Bk.St} {M : List Sgn} (h : Made key x M) {s t : Sgn} (hs : s ∈ M) (ht : t ∈ M) : contra (claimOf s) (claimOf t) = false := by
  obtain ⟨v1, k1, l1⟩ := h.each s hs
  obtain ⟨v2, k2, l2⟩ := h.each t ht
  obtain ⟨r1, e1, _⟩ := log_spec l1
  obtain ⟨r2, e2, _⟩ := log_spec l2
  refine Bk.hon_no h.hon r1 r2 ?_ ?_
  · rw [e1, ← k1]; exact valid_mem v1
  · rw [e2, ← k2]; exact valid_mem v2
/-- What the book signed is accepted. -/
theorem made_accept {key : Int} {x : Bk.St} {M L : List Sgn} (h : Made key x M) (hL : ∀ s ∈ L, s ∈ M) {s : Sgn} (hs : s ∈ M) : (accept x.L key L s).1 = 0 ∧ ∀ t ∈ (accept x.L key L s).2, t ∈ M := by
  obtain ⟨v1, k1, l1⟩ := h.each s hs
  have hc : clashes L (claimOf s) = false := clashes_no.2 (fun t ht => h.apart (hL t ht) hs)
  unfold accept
  rw [if_neg (by rw [v1]; simp), if_neg (by simp [k1]), if_neg (by rw [l1]; simp), if_neg (by rw [hc]; simp)]
  split
  · exact ⟨rfl, hL⟩
  · refine ⟨rfl, fun t ht => ?_⟩
    rcases List.mem_append.1 ht with ht | ht
    · exact hL t ht
    · rw [List.mem_singleton.1 ht]; exact hs
theorem size_in (L : List Sgn) : (sizeOf L).1 = 0 ∨ ∃ s ∈ L, (claimOf s).kind = 1 ∧ (claimOf s).n = (sizeOf L).1 := by
  suffices ∀ (M : List Sgn) (r : Int × Int), (∀ s ∈ M, s ∈ L) → (r.1 = 0 ∨ ∃ s ∈ L, (claimOf s).kind = 1 ∧ (claimOf s).n = r.1) → ((M.foldl sizeStep r).1 = 0 ∨ ∃ s ∈ L, (claimOf s).kind = 1 ∧ (claimOf s).n = (M.foldl sizeStep r).1) from
    this L (0, -1) (fun s hs => hs) (Or.inl rfl)
  intro M
  induction M with
  | nil => intro r _ h; exact h
  | cons s M ih =>
    intro r hM h
    refine ih _ (fun t ht => hM t (List.mem_cons_of_mem _ ht)) ?_
    unfold sizeStep
    split
    · rename_i hk; exact Or.inr ⟨s, hM s (List.mem_cons_self ..), hk.1, rfl⟩
    · exact h
theorem abs_in8 (L : List Sgn) (k : List UInt8) : (absentOf L k).1 = 0 ∨ ∃ s ∈ L, (claimOf s).kind = 2 ∧ (claimOf s).text = k ∧ (claimOf s).n = (absentOf L k).1 := by
  suffices ∀ (M : List Sgn) (r : Int × Bool), (∀ s ∈ M, s ∈ L) → (r.1 = 0 ∨ ∃ s ∈ L, (claimOf s).kind = 2 ∧ (claimOf s).text = k ∧ (claimOf s).n = r.1) → ((M.foldl (absStep k) r).1 = 0 ∨ ∃ s ∈ L, (claimOf s).kind = 2 ∧ (claimOf s).text = k ∧ (claimOf s).n = (M.foldl (absStep k) r).1) from
    this L (0, false) (fun s hs => hs) (Or.inl rfl)
  intro M
  induction M with
  | nil => intro r _ h; exact h
  | cons s M ih =>
    intro r hM h
    refine ih _ (fun t ht => hM t (List.mem_cons_of_mem _ ht)) ?_
    unfold absStep
    split
    · rename_i hk
      by_cases hm : r.1 ≤ (claimOf s).n
      · exact Or.inr ⟨s, hM s (List.mem_cons_self ..), hk.1, hk.2, (Int.max_eq_right hm).symm⟩
      · have e : max r.1 (claimOf s).n = r.1 := Int.max_eq_left (by omega)
        dsimp only
        rw [e]; exact h
    · exact h
theorem Made.size {key : Int} {x : Bk.St} {M L : List Sgn} (h : Made key x M) (hL : ∀ s ∈ L, s ∈ M) : (sizeOf L).1 ≤ x.b.es.length := by
  rcases size_in L with h0 | ⟨s, hs, hk, hn⟩
  · omega
  · have ht := h.tru (hL s hs)
    have htold := h.hon.told
    rw [← hn]
    generalize claimOf s = c at *
    cases ht with
    | entry i hi => cases hk
    | size n t h1 h2 h3 => show n ≤ _; omega
    | absent n k _ _ => cases hk
theorem Made.textAt {key : Int} {x : Bk.St} {M L : List Sgn} (h : Made key x M) (hL : ∀ s ∈ L, s ∈ M) {i : Int} (hi : (textAt L i).2 = true) : Bk.textAt x.b i = ((textAt L i).1, true) := by
  obtain ⟨s, hs, hk, he⟩ := entA_mem.1 (text_is hi)
  have ht := h.tru (hL s hs)
  injection he with e1 e2
  rw [e2, e1]
  generalize claimOf s = c at *
  cases ht with
  | entry j hj =>
    unfold Bk.textAt entryC
    dsimp only
    rw [if_neg (by omega), Int.toNat_natCast]
  | size n t h1 h2 h3 => cases hk
  | absent n k _ _ => cases hk
theorem Made.absent {key : Int} {x : Bk.St} {M L : List Sgn} (h : Made key x M) (hL : ∀ s ∈ L, s ∈ M) {name : List UInt8} {k : Nat} (hk : (k : Int) < (absentOf L name).1) : ∃ h : k < x.b.es.length, Cl.hasKey name x.b.es[k] = false := by
  rcases abs_in8 L name with h0 | ⟨s, hs, hk2, ht2, hn⟩
  · omega
  · have ht := h.tru (hL s hs)
    rw [← hn] at hk
    generalize claimOf s = c at *
    cases ht with
    | entry i hi => cases hk2
    | size n t h1 h2 h3 => cases hk2
    | absent n k' h1 h2 =>
      change (k : Int) < (n : Int) at hk
      have ht2 : k' = name := ht2
      subst ht2
      exact ⟨by omega, Cl.absent_mem h2 (by omega) (by omega)⟩
end Go.Proofs.YtkhdnfmnnapjlaaGreatDoor.Vw
