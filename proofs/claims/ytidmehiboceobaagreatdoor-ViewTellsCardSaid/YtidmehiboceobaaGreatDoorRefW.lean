/- The contracts of the reference's view: Text, Size, Age, Absent, Known. -/
import Derived.Test.YtidmehiboceobaaGreatDoorRefV
namespace Go.Proofs.YtidmehiboceobaaGreatDoor
open Go.RowKit
set_option linter.unusedVariables false
set_option linter.unusedSimpArgs false
attribute [local irreducible] Calls

namespace Vw
theorem textAt_cons (x : Bk.Sgn) (L : List Bk.Sgn) (i : Int) : textAt (x :: L) i = if (claimOf x).kind = 0 ∧ (claimOf x).n = i then ((claimOf x).text, true) else textAt L i := by
  unfold textAt entA
  rw [List.filterMap_cons]
  unfold entOf
  by_cases h1 : (claimOf x).kind = 0
  · rw [if_pos h1]
    dsimp only
    rw [List.find?_cons]
    by_cases h2 : (claimOf x).n = i
    · rw [if_pos ⟨h1, h2⟩]; simp [h2]
    · rw [if_neg (fun e => h2 e.2)]; simp [h2]
  · rw [if_neg h1, if_neg (fun e => h1 e.1)]
theorem known_more {L : List Bk.Sgn} {n : Int} (h : (L.length : Int) < n) : known L n = false := by
  cases hk : known L n with
  | false => rfl
  | true => have := known_le hk; have := entA_le L; omega
theorem known_neg {L : List Bk.Sgn} {n : Int} (h : n ≤ 0) : known L n = true := by
  unfold known
  rw [Int.toNat_of_nonpos h]
  rfl
end Vw
section
variable (B : Nat) (c : QView) (qb : Nat) (key : Int) (L : List Bk.Sgn) (w : World)
set_option maxHeartbeats 2000000 in
set_option maxRecDepth 100000 in
theorem textv_q (g : Gl w) (h : QViewAt B w c qb key L) (hlog : ∀ s ∈ L, Vw.isLog s.text = true) (hL : L.length ≤ 900000) (i : Int) :
    Calls Tryz.prog 25 #[.pointer (some ⟨c.cb, 0, none⟩), .int .i64 i] w fun e w' => e = .returned (.tuple #[.string ⟨(Vw.textAt L i).1.toArray⟩, .bool (Vw.textAt L i).2]) ∧ Nw w w' := by
  have H := Lib.hid h
  have Hlog := Lib.hid hlog
  clear h hlog
  go_enter Tryz.func25, Tryz.ntmps25
  go_wp2_with fail
  go_loopw [6] (fun i' wr => ∃ k : Nat, k ≤ L.length ∧ i' = .int .i64 k ∧ Hid (Vw.textAt (L.drop k) i = Vw.textAt L i) ∧ Nw w wr) (fun i' _ => L.length - (intOf i').toNat)
  case atStart => exact ⟨0, Nat.zero_le _, rfl, rfl, Upd.refl _ _⟩
  case round =>
    obtain ⟨k, hk, rfl, HT, u⟩ := hrel
    have h' := H.out.nw u
    obtain ⟨a, cap, c2, _⟩ := h'.row
    by_cases hlt : k < L.length
    · have hrd := readk_q B c qb key L k hlt wr (g.upd u) h' (Hlog.out _ (List.getElem_mem hlt)) hL
      have hT := HT.out
      rw [List.drop_eq_getElem_cons hlt, Vw.textAt_cons] at hT
      generalize Vw.claimOf L[k] = y at *
      obtain ⟨y0, y1, y2, y3⟩ := y
      dsimp only at hrd hT
      have Hrd := Lib.hid hrd
      clear hrd h' HT
      by_cases e0 : y0 = 0
      · by_cases e1 : y1 = i
        · rw [if_pos ⟨e0, e1⟩] at hT
          have HR := Lib.hid hT
          subst e0 e1
          clear hT
          go_wp2_with fail
          (with_reducible refine (Hrd.out).mono ?_)
          rintro _ w3 ⟨rfl, u3⟩
          go_wp2_with fail
          go_ret2
          exact ⟨by rw [← HR.out]; rfl, (u.trans u3).alloc _⟩
        · rw [if_neg (fun e => e1 e.2)] at hT
          have HR := Lib.hid hT
          have d1 : (y1 == i) = false := beq_eq_false_iff_ne.2 e1
          subst e0
          clear hT e1
          go_wp2_with fail
          (with_reducible refine (Hrd.out).mono ?_)
          rintro _ w3 ⟨rfl, u3⟩
          go_wp2_with fail
          go_roundw
          case rel => exact ⟨k + 1, by omega, by go_num, HR, (u.trans u3).alloc _⟩
          case measure => simp [intOf]; omega
      · rw [if_neg (fun e => e0 e.1)] at hT
        have HR := Lib.hid hT
        have d0 : (y0 == 0) = false := beq_eq_false_iff_ne.2 e0
        clear hT e0
        go_wp2_with fail
        (with_reducible refine (Hrd.out).mono ?_)
        rintro _ w3 ⟨rfl, u3⟩
        go_wp2_with fail
        go_roundw
        case rel => exact ⟨k + 1, by omega, by go_num, HR, (u.trans u3).alloc _⟩
        case measure => simp [intOf]; omega
    · obtain rfl : k = L.length := by omega
      have hT := HT.out
      rw [List.drop_length] at hT
      have HR := Lib.hid hT
      clear hT HT h'
      go_wp2_with fail
      go_ret2
      exact ⟨by rw [← HR.out]; rfl, u⟩
set_option maxHeartbeats 2000000 in
set_option maxRecDepth 100000 in
theorem sizev_q (g : Gl w) (h : QViewAt B w c qb key L) (hlog : ∀ s ∈ L, Vw.isLog s.text = true) (hL : L.length ≤ 900000) :
    Calls Tryz.prog 29 #[.pointer (some ⟨c.cb, 0, none⟩)] w fun e w' => e = .returned (.tuple #[.int .i64 (Vw.sizeOf L).1, .int .i64 (Vw.sizeOf L).2]) ∧ Nw w w' := by
  have H := Lib.hid h
  have Hlog := Lib.hid hlog
  clear h hlog
  go_enter Tryz.func29, Tryz.ntmps29
  go_wp2_with fail
  go_loopw [4, 5, 6] (fun vn vt i' wr => ∃ (n t : Int) (k : Nat), k ≤ L.length ∧ vn = .int .i64 n ∧ vt = .int .i64 t ∧ i' = .int .i64 k ∧ Hid ((L.drop k).foldl Vw.sizeStep (n, t) = Vw.sizeOf L) ∧ Nw w wr) (fun _ _ i' _ => L.length - (intOf i').toNat)
  case atStart => exact ⟨0, -1, 0, Nat.zero_le _, rfl, rfl, rfl, rfl, Upd.refl _ _⟩
  case round =>
    obtain ⟨n, t, k, hk, rfl, rfl, rfl, HT, u⟩ := hrel
    have h' := H.out.nw u
    obtain ⟨a, cap, c2, _⟩ := h'.row
    by_cases hlt : k < L.length
    · have hrd := readk_q B c qb key L k hlt wr (g.upd u) h' (Hlog.out _ (List.getElem_mem hlt)) hL
      have hT := HT.out
      rw [List.drop_eq_getElem_cons hlt, List.foldl_cons] at hT
      unfold Vw.sizeStep at hT
      rw [show (fun (r : Int × Int) (s : Bk.Sgn) => if (Vw.claimOf s).kind = 1 ∧ r.2 < (Vw.claimOf s).time then ((Vw.claimOf s).n, (Vw.claimOf s).time) else r) = Vw.sizeStep from rfl] at hT
      generalize Vw.claimOf L[k] = y at *
      obtain ⟨y0, y1, y2, y3⟩ := y
      dsimp only at hrd hT
      have Hrd := Lib.hid hrd
      clear hrd h' HT
      by_cases e0 : y0 = 1
      · by_cases e1 : t < y2
        · rw [if_pos ⟨e0, e1⟩] at hT
          have HR := Lib.hid hT
          subst e0
          clear hT
          go_wp2_with fail
          (with_reducible refine (Hrd.out).mono ?_)
          rintro _ w3 ⟨rfl, u3⟩
          go_wp2_with fail
          go_roundw
          case rel => exact ⟨_, _, k + 1, by omega, rfl, rfl, by go_num, HR, (u.trans u3).alloc _⟩
          case measure => simp [intOf]; omega
        · rw [if_neg (fun e => e1 e.2)] at hT
          have HR := Lib.hid hT
          subst e0
          clear hT
          go_wp2_with fail
          (with_reducible refine (Hrd.out).mono ?_)
          rintro _ w3 ⟨rfl, u3⟩
          go_wp2_with fail
          go_roundw
          case rel => exact ⟨_, _, k + 1, by omega, rfl, rfl, by go_num, HR, (u.trans u3).alloc _⟩
          case measure => simp [intOf]; omega
      · rw [if_neg (fun e => e0 e.1)] at hT
        have HR := Lib.hid hT
        have d0 : (y0 == 1) = false := beq_eq_false_iff_ne.2 e0
        clear hT e0
        go_wp2_with fail
        (with_reducible refine (Hrd.out).mono ?_)
        rintro _ w3 ⟨rfl, u3⟩
        go_wp2_with fail
        go_roundw
        case rel => exact ⟨_, _, k + 1, by omega, rfl, rfl, by go_num, HR, (u.trans u3).alloc _⟩
        case measure => simp [intOf]; omega
    · obtain rfl : k = L.length := by omega
      have hT := HT.out
      rw [List.drop_length, List.foldl_nil] at hT
      have HR := Lib.hid hT
      clear hT HT h'
      go_wp2_with fail
      go_ret2
      exact ⟨by rw [← HR.out]; rfl, u⟩
theorem agev_q (g : Gl w) (h : QViewAt B w c qb key L) (hlog : ∀ s ∈ L, Vw.isLog s.text = true) (hL : L.length ≤ 900000) (now : Int) (hn : I64 now) (ht : (Vw.sizeOf L).2 ≤ 1073741824) :
    Calls Tryz.prog 31 #[.pointer (some ⟨c.cb, 0, none⟩), .int .i64 now] w fun e w' => e = .returned (.int .i64 (Vw.age L now)) ∧ Nw w w' := by
  have hs := Lib.hid (sizev_q B c qb key L w g h hlog hL)
  clear h hlog
  have ha : Vw.age L now = if (Vw.sizeOf L).2 < 0 ∨ now < (Vw.sizeOf L).2 then -1 else now - (Vw.sizeOf L).2 := rfl
  rw [ha]; clear ha
  generalize (Vw.sizeOf L).2 = t at *
  generalize (Vw.sizeOf L).1 = n at *
  unfold I64 at hn
  by_cases h1 : t < 0
  · rw [if_pos (Or.inl h1)]
    go_enter Tryz.func31, Tryz.ntmps31
    go_wp2_with fail
    (with_reducible refine (hs.out).mono ?_)
    rintro _ w1 ⟨rfl, u1⟩
    go_wp2_with fail
    go_ret
    exact ⟨rfl, u1⟩
  by_cases h2 : now < t
  · rw [if_pos (Or.inr h2)]
    go_enter Tryz.func31, Tryz.ntmps31
    go_wp2_with fail
    (with_reducible refine (hs.out).mono ?_)
    rintro _ w1 ⟨rfl, u1⟩
    go_wp2_with fail
    go_ret
    exact ⟨rfl, u1⟩
  · rw [if_neg (fun e => e.elim h1 h2)]
    have hw : wrap64 (now - t) = now - t := by unfold wrap64; omega
    go_enter Tryz.func31, Tryz.ntmps31
    go_wp2_with fail
    (with_reducible refine (hs.out).mono ?_)
    rintro _ w1 ⟨rfl, u1⟩
    go_wp2_with fail
    go_ret
    exact ⟨rfl, u1⟩
set_option maxHeartbeats 2000000 in
set_option maxRecDepth 100000 in
theorem absentv_q (g : Gl w) (h : QViewAt B w c qb key L) (hlog : ∀ s ∈ L, Vw.isLog s.text = true) (hL : L.length ≤ 900000) (name : List UInt8) :
    Calls Tryz.prog 27 #[.pointer (some ⟨c.cb, 0, none⟩), .string ⟨name.toArray⟩] w fun e w' => e = .returned (.tuple #[.int .i64 (Vw.absentOf L name).1, .bool (Vw.absentOf L name).2]) ∧ Nw w w' := by
  have H := Lib.hid h
  have Hlog := Lib.hid hlog
  clear h hlog
  go_enter Tryz.func27, Tryz.ntmps27
  go_wp2_with fail
  go_loopw [6, 7, 8] (fun vn vt i' wr => ∃ (n : Int) (t : Bool) (k : Nat), k ≤ L.length ∧ vn = .int .i64 n ∧ vt = .bool t ∧ i' = .int .i64 k ∧ Hid ((L.drop k).foldl (Vw.absStep name) (n, t) = Vw.absentOf L name) ∧ Nw w wr) (fun _ _ i' _ => L.length - (intOf i').toNat)
  case atStart => exact ⟨0, false, 0, Nat.zero_le _, rfl, rfl, rfl, rfl, Upd.refl _ _⟩
  case round =>
    obtain ⟨n, t, k, hk, rfl, rfl, rfl, HT, u⟩ := hrel
    have h' := H.out.nw u
    obtain ⟨a, cap, c2, _⟩ := h'.row
    by_cases hlt : k < L.length
    · have hrd := readk_q B c qb key L k hlt wr (g.upd u) h' (Hlog.out _ (List.getElem_mem hlt)) hL
      have hT := HT.out
      rw [List.drop_eq_getElem_cons hlt, List.foldl_cons] at hT
      unfold Vw.absStep at hT
      rw [show (fun (r : Int × Bool) (s : Bk.Sgn) => if (Vw.claimOf s).kind = 2 ∧ (Vw.claimOf s).text = name then (max r.1 (Vw.claimOf s).n, true) else r) = Vw.absStep name from rfl] at hT
      generalize Vw.claimOf L[k] = y at *
      obtain ⟨y0, y1, y2, y3⟩ := y
      dsimp only at hrd hT
      have Hrd := Lib.hid hrd
      clear hrd h' HT
      by_cases e0 : y0 = 2
      · by_cases e1 : y3 = name
        · rw [if_pos ⟨e0, e1⟩] at hT
          have HR := Lib.hid hT
          subst e0 e1
          clear hT
          go_wp2_with fail
          (with_reducible refine (Hrd.out).mono ?_)
          rintro _ w3 ⟨rfl, u3⟩
          go_wp2_with fail
          go_roundw
          case rel => exact ⟨_, _, k + 1, by omega, rfl, rfl, by go_num, HR, (u.trans u3).alloc _⟩
          case measure => simp [intOf]; omega
        · rw [if_neg (fun e => e1 e.2)] at hT
          have HR := Lib.hid hT
          have d1 : (y3 == name) = false := beq_eq_false_iff_ne.2 e1
          subst e0
          clear hT e1
          go_wp2_with fail
          (with_reducible refine (Hrd.out).mono ?_)
          rintro _ w3 ⟨rfl, u3⟩
          go_wp2_with fail
          go_roundw
          case rel => exact ⟨_, _, k + 1, by omega, rfl, rfl, by go_num, HR, (u.trans u3).alloc _⟩
          case measure => simp [intOf]; omega
      · rw [if_neg (fun e => e0 e.1)] at hT
        have HR := Lib.hid hT
        have d0 : (y0 == 2) = false := beq_eq_false_iff_ne.2 e0
        clear hT e0
        go_wp2_with fail
        (with_reducible refine (Hrd.out).mono ?_)
        rintro _ w3 ⟨rfl, u3⟩
        go_wp2_with fail
        go_roundw
        case rel => exact ⟨_, _, k + 1, by omega, rfl, rfl, by go_num, HR, (u.trans u3).alloc _⟩
        case measure => simp [intOf]; omega
    · obtain rfl : k = L.length := by omega
      have hT := HT.out
      rw [List.drop_length, List.foldl_nil] at hT
      have HR := Lib.hid hT
      clear hT HT h'
      go_wp2_with fail
      go_ret2
      exact ⟨by rw [← HR.out]; rfl, u⟩
set_option maxHeartbeats 2000000 in
set_option maxRecDepth 100000 in
theorem knownv_q (g : Gl w) (h : QViewAt B w c qb key L) (hlog : ∀ s ∈ L, Vw.isLog s.text = true) (hL : L.length ≤ 900000) (n : Int) (hn : I64 n) :
    Calls Tryz.prog 33 #[.pointer (some ⟨c.cb, 0, none⟩), .int .i64 n] w fun e w' => e = .returned (.bool (Vw.known L n)) ∧ Nw w w' := by
  obtain ⟨a, cap, c2, _⟩ := h.row
  by_cases h1 : (L.length : Int) < n
  · have hr : Hid (Vw.known L n = false) := Vw.known_more h1
    clear h hlog
    go_enter Tryz.func33, Tryz.ntmps33
    go_wp2_with fail
    go_ret
    exact ⟨ret_bool hr.out.symm, Upd.refl _ _⟩
  have H := Lib.hid h
  have Hlog := Lib.hid hlog
  obtain ⟨m, hm⟩ : ∃ m : Nat, (m : Int) = max n 0 := ⟨n.toNat, by omega⟩
  have hm9 : m ≤ 900000 := by omega
  have hmx : Hid (∀ i : Nat, i < m ↔ (i : Int) < n) := fun i => by omega
  unfold I64 at hn
  clear h hlog
  by_cases hpos : n ≤ 0
  · have hr : Hid (Vw.known L n = true) := Vw.known_neg hpos
    clear hm
    go_enter Tryz.func33, Tryz.ntmps33
    go_wp2_with fail
    go_loop [5] (fun i => i = .int .i64 0) (fun i => 0)
    case atStart => exact rfl
    case round =>
      subst hrel
      go_wp2_with fail
      go_ret
      exact ⟨ret_bool hr.out.symm, Upd.refl _ _⟩
  obtain rfl : n = m := by omega
  clear hm hpos
  go_enter Tryz.func33, Tryz.ntmps33
  go_wp2_with fail
  go_loopw [5] (fun i wr => ∃ j : Nat, j ≤ m ∧ i = .int .i64 j ∧ Hid (∀ x : Nat, x < j → (Vw.textAt L x).2 = true) ∧ Nw w wr) (fun i _ => m - (intOf i).toNat)
  case atStart => exact ⟨0, Nat.zero_le _, rfl, fun x h => absurd h (Nat.not_lt_zero _), Upd.refl _ _⟩
  case round =>
    obtain ⟨j, hj, rfl, hall, u⟩ := hrel
    by_cases hlt : j < m
    · have ht := textv_q B c qb key L wr (g.upd u) (H.out.nw u) Hlog.out hL j
      have hnext : (Vw.textAt L j).2 = true → Hid (∀ x : Nat, x < j + 1 → (Vw.textAt L x).2 = true) := fun e x hx => by
        by_cases ex : x = j
        · subst ex; exact e
        · exact hall.out x (by omega)
      have hstop : (Vw.textAt L j).2 = false → Hid (Vw.known L m = false) := fun e => by
        show _ = _
        rw [← Bool.not_eq_true, Vw.known_all]
        intro hk
        rw [hk j ((hmx.out j).1 hlt)] at e
        cases e
      generalize Vw.textAt L j = t at *
      obtain ⟨tt, tb⟩ := t
      have Ht := Lib.hid ht
      clear ht
      cases tb with
      | false =>
        have hr := hstop rfl
        clear hstop hnext
        go_wp2_with fail
        (with_reducible refine (Ht.out).mono ?_)
        rintro _ w2 ⟨rfl, u2⟩
        go_wp2_with fail
        go_ret
        exact ⟨ret_bool hr.out.symm, u.trans u2⟩
      | true =>
        have hr := hnext rfl
        clear hstop hnext
        go_wp2_with fail
        (with_reducible refine (Ht.out).mono ?_)
        rintro _ w2 ⟨rfl, u2⟩
        go_wp2_with fail
        go_roundw
        case rel => exact ⟨j + 1, by omega, by go_num, hr, u.trans u2⟩
        case measure => simp [intOf]; omega
    · have hr : Hid (Vw.known L m = true) := by
        show _ = _
        rw [Vw.known_all]
        intro i hi
        exact hall.out i (by have := (hmx.out i).2 hi; omega)
      go_wp2_with fail
      go_ret
      exact ⟨ret_bool hr.out.symm, u⟩
end
end Go.Proofs.YtidmehiboceobaaGreatDoor
