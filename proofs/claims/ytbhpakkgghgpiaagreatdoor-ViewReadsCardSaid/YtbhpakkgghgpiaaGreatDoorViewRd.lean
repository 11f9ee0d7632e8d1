/- Layer 8 in plain words: a view's bytes are read as it was; what is refused then. No program stands in this text. -/
import Derived.Test.YtbhpakkgghgpiaaGreatDoorViewGr
namespace Go.Proofs.YtbhpakkgghgpiaaGreatDoor.Vw
open Go.Lib Go.RowKit Wire
open Bk (Seal Sgn noSgn isKey place valid)
open Cl (Clm contra)
set_option linter.unusedVariables false
set_option linter.unusedSimpArgs false

structure Item (key : Int) (s : Sgn) : Prop where
  k : s.key = key
  m0 : 0 ≤ s.mark
  m1 : s.mark ≤ 9223372036854775807
  t : s.text.length ≤ 9223372036854775807
theorem vok_item {Lr : List Seal} {key : Int} {L : List Sgn} (h : VOk Lr key L) (hl : Lr.length ≤ 1000000) (ht : ∀ s ∈ L, s.text.length ≤ 9223372036854775807) : ∀ s ∈ L, s.key = key ∧ 0 ≤ s.mark ∧ s.mark ≤ 9223372036854775807 ∧ s.text.length ≤ 9223372036854775807 := fun s hs => by
  have := valid_lt (h.each s hs).1
  exact ⟨(h.each s hs).2.1, this.1, by omega, ht s hs⟩
theorem read_back {Lr : List Seal} {key : Int} {L : List Sgn} (h : VOk Lr key L) (hk : isKey key = true) (hl : Lr.length ≤ 1000000) (ht : ∀ s ∈ L, s.text.length ≤ 9223372036854775807) (hL : L.length ≤ 9223372036854775807) :
    readV Lr (bytesOf key L) = (some L, 0) ∧ (rNum (some (bytesOf key L))).1 = key := by
  obtain ⟨h1, h2, h3⟩ := form_back hk (vok_item h hl ht) hL []
  rw [List.append_nil] at h1 h2 h3
  refine ⟨?_, h1⟩
  unfold readV goodForm
  rw [h1, h2, h3]
  simp only [decide_true, Bool.true_and, hk, if_true]
  have := takeAll_ok (Lr := Lr) (key := key) L [] (by simpa using h)
  simpa using this
theorem read_other {Lr : List Seal} {key : Int} {L : List Sgn} (h : VOk Lr key L) (hk : isKey key = true) (hl : Lr.length ≤ 1000000) (ht : ∀ s ∈ L, s.text.length ≤ 9223372036854775807) (hL : L.length ≤ 9223372036854775807) (hne : L ≠ []) :
    readV [] (bytesOf key L) = (none, 18) := by
  obtain ⟨h1, h2, h3⟩ := form_back hk (vok_item h hl ht) hL []
  rw [List.append_nil] at h1 h2 h3
  unfold readV goodForm
  rw [h1, h2, h3]
  simp only [decide_true, Bool.true_and, hk, if_true]
  cases L with
  | nil => exact absurd rfl hne
  | cons x l =>
    unfold takeAll accept
    have hv : valid [] x = false := rfl
    rw [if_neg (by simp), if_pos hv]
    simp
theorem read_twice {Lr : List Seal} {key : Int} {L : List Sgn} {x : Sgn} (h : VOk Lr key L) (hk : isKey key = true) (hl : Lr.length ≤ 1000000) (ht : ∀ s ∈ L, s.text.length ≤ 9223372036854775807) (hx : x ∈ L) :
    readV Lr (bytesOf key [x, x]) = (none, 5) := by
  have hi := vok_item h hl ht x hx
  obtain ⟨h1, h2, h3⟩ := form_back (M := [x, x]) hk (by intro s hs; simp only [List.mem_cons, List.not_mem_nil, or_false, or_self] at hs; subst hs; exact hi) (by simp) []
  rw [List.append_nil] at h1 h2 h3
  unfold readV goodForm
  rw [h1, h2, h3]
  simp only [decide_true, Bool.true_and, hk, if_true]
  have hok : VOk Lr key ([] ++ [x]) := ⟨fun s hs => by simp only [List.nil_append, List.mem_singleton] at hs; subst hs; exact h.each _ hx, fun a ha b hb => by simp only [List.nil_append, List.mem_singleton] at ha hb; subst ha; subst hb; exact Cl.contra_self _, by simp⟩
  rw [takeAll, if_neg (by simp), accept_new hok]
  simp only [ne_eq, not_true, if_false]
  rw [takeAll, if_pos (by simp)]
theorem read_more {Lr : List Seal} {key : Int} {L : List Sgn} (h : VOk Lr key L) (hk : isKey key = true) (hl : Lr.length ≤ 1000000) (ht : ∀ s ∈ L, s.text.length ≤ 9223372036854775807) (hL : L.length ≤ 9223372036854775807) (c : UInt8) (r : List UInt8) :
    readV Lr (bytesOf key L ++ (c :: r)) = (none, 2) := by
  obtain ⟨h1, h2, h3⟩ := form_back hk (vok_item h hl ht) hL (c :: r)
  unfold readV goodForm
  rw [h1, h2, h3]
  simp
theorem bytes_inj {key : Int} {L M : List Sgn} (hk : isKey key = true) (hL : ∀ s ∈ L, s.key = key ∧ 0 ≤ s.mark ∧ s.mark ≤ 9223372036854775807 ∧ s.text.length ≤ 9223372036854775807) (hM : ∀ s ∈ M, s.key = key ∧ 0 ≤ s.mark ∧ s.mark ≤ 9223372036854775807 ∧ s.text.length ≤ 9223372036854775807) (l1 : L.length ≤ 9223372036854775807) (l2 : M.length ≤ 9223372036854775807) (e : bytesOf key L = bytesOf key M) : L = M := by
  have a := (form_back hk hL l1 []).2.2
  have b := (form_back hk hM l2 []).2.2
  rw [e, b] at a
  exact (Prod.mk.inj a).1.symm
def tx : List UInt8 := [49, 59, 50, 48, 48, 48, 48, 48, 59, 49, 48, 55, 51, 55, 52, 49, 56, 50, 52, 59, 48, 58, 44]
def ty : List UInt8 := [49, 59, 48, 59, 49, 48, 55, 51, 55, 52, 49, 56, 50, 52, 59, 48, 58, 44]
theorem tx_ty : contra (Cl.read tx).1 (Cl.read ty).1 = true := by decide +kernel
theorem acc_mem {Lr : List Seal} {key : Int} {L : List Sgn} {s : Sgn} (h : (accept Lr key L s).1 = 0) : s ∈ (accept Lr key L s).2 := by
  rcases accept_cases Lr key L s with ⟨_, e⟩ | ⟨_, _, e⟩ | ⟨_, _, _, e⟩ | ⟨_, _, _, _, e⟩ | ⟨_, _, _, _, h5, e⟩ | ⟨h1, h2, h3, h4, h5, e⟩
  all_goals rw [e] at h ⊢
  all_goals first | cases h | skip
  · exact h5
  · simp
/-- The two heads of one moment: not both in one view. -/
theorem apart_xy {Lr : List Seal} {key : Int} {L M : List Sgn} {sx sy : Sgn} (hk : isKey key = true) (hl : Lr.length ≤ 1000000) (h1 : VOk Lr key L) (h2 : VOk Lr key M) (t1 : ∀ s ∈ L, s.text.length ≤ 9223372036854775807) (t2 : ∀ s ∈ M, s.text.length ≤ 9223372036854775807) (l1 : L.length ≤ 9223372036854775807) (l2 : M.length ≤ 9223372036854775807)
    (hx : sx ∈ L) (hy : sy ∈ M) (ex : sx.text = tx) (ey : sy.text = ty) : bytesOf key L ≠ bytesOf key M := fun e => by
  have := bytes_inj hk (vok_item h1 hl t1) (vok_item h2 hl t2) l1 l2 e
  subst this
  have hc := h1.apart sx hx sy hy
  unfold claimOf at hc
  rw [ex, ey, tx_ty] at hc
  cases hc
end Go.Proofs.YtbhpakkgghgpiaaGreatDoor.Vw
