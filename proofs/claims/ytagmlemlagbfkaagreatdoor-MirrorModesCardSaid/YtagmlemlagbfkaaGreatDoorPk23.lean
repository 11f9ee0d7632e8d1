/- The contract of MirrorBound (chapter 37). Genuine (chapter 37). -/
import Derived.Test.YtagmlemlagbfkaaGreatDoorPk22
import Derived.Test.YtagmlemlagbfkaaGreatDoorPk21
namespace Go.Proofs.YtagmlemlagbfkaaGreatDoor
open Go.RowKit
set_option linter.unusedVariables false
set_option linter.unusedSimpArgs false
attribute [local irreducible] Calls

/-- What is true behind all acts. -/
structure Played (key : Int) (n : Nat) (s : Mi.PS) (M : List Bk.Sgn) : Prop where
  inv : Mi.PInv key n s M
  n : n ≤ 30
  ln : s.L.length ≤ 3000
  ms : 0 < s.ms.length ∧ s.ms.length ≤ 5
theorem Played.of {key : Int} {modes : List Int} {l : List Mi.PAct} (hk : Bk.isKey key = true ∧ keptM modes ≠ []) (hm : modes.length ≤ 5) (hl : l.length ≤ 30) (hok : ∀ a ∈ l, Mi.ActOk a) :
    ∃ M, Played key l.length (Mi.play (Mi.start key ((keptM modes).map Mi.fresh)) l) M ∧ (Mi.play (Mi.start key ((keptM modes).map Mi.fresh)) l).ms.map (·.mode) = keptM modes := by
  have h0 : Mi.PInv key 0 (Mi.start key ((keptM modes).map Mi.fresh)) [] := Mi.pinv_start hk.1 (fun m hm => by obtain ⟨k, -, rfl⟩ := List.mem_map.1 hm; exact ⟨k, rfl⟩)
  have hms : (Mi.start key ((keptM modes).map Mi.fresh)).ms.length = (keptM modes).length := by show ((keptM modes).map Mi.fresh).length = _; simp
  have hpos : 0 < (keptM modes).length := List.length_pos_iff.2 hk.2
  obtain ⟨⟨M, hi⟩, e⟩ := Mi.play_inv h0 (by omega) l hok l.length (Nat.le_refl _)
  have hln := play_ln h0 (by omega) l hok hl rfl l.length (Nat.le_refl _)
  rw [List.take_length] at hi e hln
  have hlen := congrArg List.length e
  rw [List.length_map, List.length_map, hms] at hlen
  have := keptM_len modes
  refine ⟨M, ⟨hi, hl, by omega, by omega, by omega⟩, e.trans ?_⟩
  show ((keptM modes).map Mi.fresh).map (·.mode) = keptM modes
  rw [List.map_map]
  exact List.map_id' _
theorem Sl.wide {lo hi hi' : Nat} {w : World} {v : Value} {xs : List Value} (h : Sl lo hi w v xs) (hh : hi ≤ hi') : Sl lo hi' w v xs := by
  rcases h with h | ⟨b, off, cap, h1, h2, h3, h4, h5, h6, h7⟩
  · exact Or.inl h
  · exact Or.inr ⟨b, off, cap, h1, h2, h3, h4, by omega, h6, h7⟩
theorem SlS.wide {sz lo hi hi' : Nat} {w : World} {v : Value} {xs : List (List Value)} (h : SlS sz lo hi w v xs) (hh : hi ≤ hi') : SlS sz lo hi' w v xs := by
  rcases h with h | ⟨b, off, cap, h1, h2, h3, h4, h5, h6, h7⟩
  · exact Or.inl h
  · exact Or.inr ⟨b, off, cap, h1, h2, h3, h4, by omega, h6, h7⟩
end Go.Proofs.YtagmlemlagbfkaaGreatDoor
namespace Go.Proofs.YtagmlemlagbfkaaGreatDoor
open Go.RowKit
set_option linter.unusedVariables false
set_option linter.unusedSimpArgs false
attribute [local irreducible] Calls

/-! ### Genuine -/
abbrev tAnsG : TypeId := 44
set_option maxRecDepth 100000 in
theorem genuine_w (lo hi : Nat) (lv : Value) (cs : List (List UInt8)) (q : Mi.Ques) (hq : QOk q) (cv : Value) (t : List UInt8) (has : Bool) (claims : List Bk.Sgn) (w : World) (g : Gl w) (hl : Sl lo hi w lv (cs.map bsM)) (hcv : ∃ a k c, cv = .slice a k c) :
    Calls Tryz.prog 16 #[lv, .agg #[.int .i64 q.kind, .int .i64 q.n, .string ⟨q.text.toArray⟩], .agg #[cv, .string ⟨t.toArray⟩, .bool has]] w fun e w' => e = .returned (.bool (Mi.genuine cs q ⟨claims, t, has⟩)) ∧ Nw w w' := by
  obtain ⟨ca, ck, cc, rfl⟩ := hcv
  obtain ⟨la, lc, rfl, -⟩ := strs_cells hl
  obtain ⟨k, n, nm⟩ := q
  dsimp only
  have n1 := nw_alloc w (.cells #[.int .i64 k, .int .i64 n, .string ⟨nm.toArray⟩] tQue)
  have k1 := heap_new w (.cells #[.int .i64 k, .int .i64 n, .string ⟨nm.toArray⟩] tQue)
  have s1 : (w.alloc (.cells #[.int .i64 k, .int .i64 n, .string ⟨nm.toArray⟩] tQue)).heap.size = w.heap.size + 1 := by simp
  have n2 := nw_alloc (w.alloc (.cells #[.int .i64 k, .int .i64 n, .string ⟨nm.toArray⟩] tQue)) (.cells #[.slice ca ck cc, .string ⟨t.toArray⟩, .bool has] tAnsG)
  have k2 := heap_new (w.alloc (.cells #[.int .i64 k, .int .i64 n, .string ⟨nm.toArray⟩] tQue)) (.cells #[.slice ca ck cc, .string ⟨t.toArray⟩, .bool has] tAnsG)
  rw [s1] at k2
  replace k1 := Nw.keep n2 k1
  have nn := n1.trans n2
  obtain ⟨w2, hw2⟩ : ∃ w2, (w.alloc (.cells #[.int .i64 k, .int .i64 n, .string ⟨nm.toArray⟩] tQue)).alloc (.cells #[.slice ca ck cc, .string ⟨t.toArray⟩, .bool has] tAnsG) = w2 := ⟨_, rfl⟩
  have HW2 := Lib.hid hw2
  rw [hw2] at k1 k2 nn
  obtain ⟨b, hb⟩ : ∃ b, w.heap.size = b := ⟨_, rfl⟩
  have Hb := Lib.hid hb
  rw [hb] at k1 k2
  have HN := Lib.hid nn
  have K1 := Lib.hid k1
  have K2 := Lib.hid k2
  have htx := Lib.hid (ctext_w lo hi _ cs w2 (hl.nw nn) n hq.n)
  obtain ⟨GB, hGB⟩ : ∃ GB, Mi.genuine cs ⟨k, n, nm⟩ ⟨claims, t, has⟩ = GB := ⟨_, rfl⟩
  rw [hGB]
  have hgn : Hid (GB = (decide (k = 3) && (has && ((Mi.textC cs n).2 && decide ((Mi.textC cs n).1 = t))))) := by show _ = _; rw [← hGB]; rfl
  clear hGB
  generalize Mi.textC cs n = X at *
  obtain ⟨T, ok⟩ := X
  dsimp only at *
  obtain ⟨a0, a1, -⟩ := cell3 k1
  clear n1 n2 s1 k1 k2 nn hw2 hb hl
  go_enter Tryz.func16, Tryz.ntmps16
  go_upto_region 1 with fail
  rw [HW2.out]
  (try rw [Hb.out])
  go_wp2_with fail
  (with_reducible refine (htx.out).mono ?_)
  rintro _ w3 ⟨rfl, u3⟩
  obtain ⟨b0, b1, -⟩ := cell3 (Nw.keep u3 K1.out)
  obtain ⟨-, b4, b5⟩ := cell3 (Nw.keep u3 K2.out)
  have HF := Lib.hid (HN.out.trans u3)
  clear htx u3 a0 a1
  by_cases hk : k = 3
  rotate_left
  · have d : (k == 3) = false := by simp [hk]
    have hz : Hid (GB = false) := by show _ = _; rw [hgn.out, decide_eq_false hk, Bool.false_and]
    clear hk
    go_wp2_with fail
    go_ret
    rw [hz.out]
    exact ⟨rfl, HF.out⟩
  have d : (k == 3) = true := by simp [hk]
  have hg2 : Hid (GB = (has && (ok && decide (T = t)))) := by show _ = _; rw [hgn.out, decide_eq_true hk, Bool.true_and]
  clear hk
  cases has with
  | false =>
    have hz : Hid (GB = false) := by show _ = _; rw [hg2.out]; rfl
    go_wp2_with fail
    go_ret
    rw [hz.out]
    exact ⟨rfl, HF.out⟩
  | true =>
    cases ok with
    | false =>
      have hz : Hid (GB = false) := by show _ = _; rw [hg2.out]; rfl
      go_wp2_with fail
      go_ret
      rw [hz.out]
      exact ⟨rfl, HF.out⟩
    | true =>
      by_cases ht : T = t
      · have dt : (T == t) = true := by simp [ht]
        have hz : Hid (GB = true) := by show _ = _; rw [hg2.out, decide_eq_true ht]; rfl
        clear ht
        go_wp2_with fail
        go_ret
        rw [hz.out]
        exact ⟨rfl, HF.out⟩
      · have dt : (T == t) = false := by simp [ht]
        have hz : Hid (GB = false) := by show _ = _; rw [hg2.out, decide_eq_false ht]; rfl
        clear ht
        go_wp2_with fail
        go_ret
        rw [hz.out]
        exact ⟨rfl, HF.out⟩
end Go.Proofs.YtagmlemlagbfkaaGreatDoor
