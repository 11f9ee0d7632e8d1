/- The contracts of the reference's view: Text, Size, Age, Absent, Known. -/
import Derived.Test.YtagmlemlagbfkaaGreatDoorPkMTells29
namespace Go.Proofs.YtagmlemlagbfkaaGreatDoor
open Go.RowKit
set_option linter.unusedVariables false
set_option linter.unusedSimpArgs false
attribute [local irreducible] Calls

namespace Vw
end Vw
section
variable (B : Nat) (c : QView) (qb : Nat) (key : Int) (L : List Bk.Sgn) (w : World)
set_option maxHeartbeats 2000000 in
set_option maxRecDepth 100000 in
theorem sizev_q (g : Gl w) (h : QViewAt B w c qb key L) (hlog : ∀ s ∈ L, Vw.isLog s.text = true) (hL : L.length ≤ 900000) :
    Calls Tryz.prog 149 #[.pointer (some ⟨c.cb, 0, none⟩)] w fun e w' => e = .returned (.tuple #[.int .i64 (Vw.sizeOf L).1, .int .i64 (Vw.sizeOf L).2]) ∧ Nw w w' := by
  have H := Lib.hid h
  have Hlog := Lib.hid hlog
  clear h hlog
  go_enter Tryz.func149, Tryz.ntmps149
  go_wp2_with fail
  go_loopw [4, 5, 6] (fun vn vt i' wr => ∃ (n t : Int) (k : Nat), k ≤ L.length ∧ vn = .int .i64 n ∧ vt = .int .i64 t ∧ i' = .int .i64 k ∧ Hid ((L.drop k).foldl Vw.sizeStep (n, t) = Vw.sizeOf L) ∧ Nw w wr) (fun _ _ i' _ => L.length - (intOf i').toNat)
  case atStart => exact ⟨0, -1, 0, Nat.zero_le _, rfl, rfl, rfl, rfl, Upd.refl _ _⟩
  case round =>
    obtain ⟨n, t, k, hk, rfl, rfl, rfl, HT, u⟩ := hrel
    have h' := H.out.nw u
    obtain ⟨a, cap, c2, _⟩ := h'.row
    by_cases hlt : k < L.length
    · have hrd := readk_q B c qb key L k hlt wr (g.upd u) h' (Hlog.out _ (List.getElem_mem hlt)) hL
      have hT := HT.out
      rw [List.drop_eq_getElem_cons hlt, List.foldl_cons] at hT
      unfold Vw.sizeStep at hT
      rw [show (fun (r : Int × Int) (s : Bk.Sgn) => if (Vw.claimOf s).kind = 1 ∧ r.2 < (Vw.claimOf s).time then ((Vw.claimOf s).n, (Vw.claimOf s).time) else r) = Vw.sizeStep from rfl] at hT
      generalize Vw.claimOf L[k] = y at *
      obtain ⟨y0, y1, y2, y3⟩ := y
      dsimp only at hrd hT
      have Hrd := Lib.hid hrd
      clear hrd h' HT
      by_cases e0 : y0 = 1
      · by_cases e1 : t < y2
        · rw [if_pos ⟨e0, e1⟩] at hT
          have HR := Lib.hid hT
          subst e0
          clear hT
          go_wp2_with fail
          (with_reducible refine (Hrd.out).mono ?_)
          rintro _ w3 ⟨rfl, u3⟩
          go_wp2_with fail
          go_roundw
          case rel => exact ⟨_, _, k + 1, by omega, rfl, rfl, by go_num, HR, (u.trans u3).alloc _⟩
          case measure => simp [intOf]; omega
        · rw [if_neg (fun e => e1 e.2)] at hT
          have HR := Lib.hid hT
          subst e0
          clear hT
          go_wp2_with fail
          (with_reducible refine (Hrd.out).mono ?_)
          rintro _ w3 ⟨rfl, u3⟩
          go_wp2_with fail
          go_roundw
          case rel => exact ⟨_, _, k + 1, by omega, rfl, rfl, by go_num, HR, (u.trans u3).alloc _⟩
          case measure => simp [intOf]; omega
      · rw [if_neg (fun e => e0 e.1)] at hT
        have HR := Lib.hid hT
        have d0 : (y0 == 1) = false := beq_eq_false_iff_ne.2 e0
        clear hT e0
        go_wp2_with fail
        (with_reducible refine (Hrd.out).mono ?_)
        rintro _ w3 ⟨rfl, u3⟩
        go_wp2_with fail
        go_roundw
        case rel => exact ⟨_, _, k + 1, by omega, rfl, rfl, by go_num, HR, (u.trans u3).alloc _⟩
        case measure => simp [intOf]; omega
    · obtain rfl : k = L.length := by omega
      have hT := HT.out
      rw [List.drop_length, List.foldl_nil] at hT
      have HR := Lib.hid hT
      clear hT HT h'
      go_wp2_with fail
      go_ret2
      exact ⟨by rw [← HR.out]; rfl, u⟩
theorem agev_q (g : Gl w) (h : QViewAt B w c qb key L) (hlog : ∀ s ∈ L, Vw.isLog s.text = true) (hL : L.length ≤ 900000) (now : Int) (hn : I64 now) (ht : (Vw.sizeOf L).2 ≤ 1073741824) :
    Calls Tryz.prog 96 #[.pointer (some ⟨c.cb, 0, none⟩), .int .i64 now] w fun e w' => e = .returned (.int .i64 (Vw.age L now)) ∧ Nw w w' := by
  have hs := Lib.hid (sizev_q B c qb key L w g h hlog hL)
  clear h hlog
  have ha : Vw.age L now = if (Vw.sizeOf L).2 < 0 ∨ now < (Vw.sizeOf L).2 then -1 else now - (Vw.sizeOf L).2 := rfl
  rw [ha]; clear ha
  generalize (Vw.sizeOf L).2 = t at *
  generalize (Vw.sizeOf L).1 = n at *
  unfold I64 at hn
  by_cases h1 : t < 0
  · rw [if_pos (Or.inl h1)]
    go_enter Tryz.func96, Tryz.ntmps96
    go_wp2_with fail
    (with_reducible refine (hs.out).mono ?_)
    rintro _ w1 ⟨rfl, u1⟩
    go_wp2_with fail
    go_ret
    exact ⟨rfl, u1⟩
  by_cases h2 : now < t
  · rw [if_pos (Or.inr h2)]
    go_enter Tryz.func96, Tryz.ntmps96
    go_wp2_with fail
    (with_reducible refine (hs.out).mono ?_)
    rintro _ w1 ⟨rfl, u1⟩
    go_wp2_with fail
    go_ret
    exact ⟨rfl, u1⟩
  · rw [if_neg (fun e => e.elim h1 h2)]
    have hw : wrap64 (now - t) = now - t := by unfold wrap64; omega
    go_enter Tryz.func96, Tryz.ntmps96
    go_wp2_with fail
    (with_reducible refine (hs.out).mono ?_)
    rintro _ w1 ⟨rfl, u1⟩
    go_wp2_with fail
    go_ret
    exact ⟨rfl, u1⟩
end
end Go.Proofs.YtagmlemlagbfkaaGreatDoor
