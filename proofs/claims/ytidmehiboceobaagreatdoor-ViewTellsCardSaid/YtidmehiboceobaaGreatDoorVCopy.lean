/- The contract of the view's Copy. -/
import Derived.Test.YtidmehiboceobaaGreatDoorVRead
namespace Go.Proofs.YtidmehiboceobaaGreatDoor
open Go.RowKit
set_option linter.unusedVariables false
set_option linter.unusedSimpArgs false
attribute [local irreducible] Calls

theorem ViewAt.laterC {B : Nat} {w : World} {r : ViewR} {rb : Nat} {key : Int} {L : List Bk.Sgn} (h : ViewAt B w r rb key L) : (∀ i : Later w, i.1.cell? ⟨r.vb, 0, none⟩ = some (.pointer (some ⟨rb, 0, none⟩))) ∧ (∀ i : Later w, i.1.cell? ⟨r.vb, 1, none⟩ = some (.int .i64 key)) :=
  ⟨fun i => (h.nw i.nw).cells.1, fun i => (h.nw i.nw).cells.2.1⟩
/-- In the copying loop. -/
def CpS (B : Nat) (w : World) (q : RingR) (Lr : List Bk.Seal) (key : Int) (vb : Nat) (L : List Bk.Sgn) (z : World) : Prop :=
  ∃ r, r.vb = vb ∧ ViewAt w.heap.size z r q.rb key L ∧ Nw w z
theorem cp_acc {B : Nat} {w : World} {q : RingR} {Lr : List Bk.Seal} {key : Int} {vb : Nat} {L : List Bk.Sgn} {z : World} (h : CpS B w q Lr key vb L z) (hq : RingAt B w q Lr) (g : Gl z) (s : Bk.Sgn) (hs : SgnOk s) (hL : L.length ≤ 900000) (hok : Vw.VOk Lr key (L ++ [s])) :
    Calls Tryz.prog 14 #[.pointer (some ⟨vb, 0, none⟩), .agg #[.int .i64 s.key, .string ⟨s.text.toArray⟩, .int .i64 s.mark]] z fun e w' => e = .returned (.int .i64 0) ∧ CpS B w q Lr key vb (L ++ [s]) w' := by
  obtain ⟨r, rfl, h3, h7⟩ := h
  refine (accept_v w.heap.size B r q key Lr L s z g (hq.nw h7) h3 hok.pre hs h7.size hL).mono ?_
  rintro e w' ⟨r', rfl, hv, hvb, u, hf⟩
  rw [Vw.accept_new hok] at hv ⊢
  exact ⟨rfl, r', hvb, hv, h7.trans' u (fun j hj e => by have := (h3.foot_lt e).1; omega)⟩
set_option maxHeartbeats 4000000 in
set_option maxRecDepth 100000 in
theorem copy_v (B B' : Nat) (q : RingR) (r : ViewR) (Lr : List Bk.Seal) (key : Int) (L : List Bk.Sgn) (w : World) (g : Gl w) (hq : RingAt B w q Lr) (h : ViewAt B' w r q.rb key L) (hv : Vw.VOk Lr key L) (hs : ∀ s ∈ L, SgnOk s) (hL : L.length ≤ 900000) :
    Calls Tryz.prog 39 #[.pointer (some ⟨r.vb, 0, none⟩)] w fun e w' => ∃ r', e = .returned (.pointer (some ⟨r'.vb, 0, none⟩)) ∧ ViewAt w.heap.size w' r' q.rb key L ∧ Nw w w' := by
  have hgb := g.big
  have hkey := h.key
  obtain ⟨_, _⟩ := h.laterC
  obtain ⟨a, cap, hsv⟩ := h.sslice
  have hsl := sgn_sls h.sown
  rw [hsv] at hsl
  obtain ⟨a', cap', e1, hm, ha⟩ := sgn_cells hsl
  obtain ⟨rfl, rfl⟩ : a = a' ∧ cap = cap' := by simpa using e1
  have Ha := Lib.hid ha
  have H := Lib.hid h
  have Hq := Lib.hid hq
  have Hv := Lib.hid hv
  have Hs := Lib.hid hs
  have Hsv := Lib.hid hsv
  have hL8 := hL
  clear ha e1 hsl h hq hv hs hsv hm
  go_enter Tryz.func39, Tryz.ntmps39
  go_wp2_with fail
  refine wp_region_nw_tail 8 (by kernel_rfl) (by kernel_rfl) ?_
  simp only [List.take_succ_cons, List.take_zero, List.drop_succ_cons, List.drop_zero]
  repeat (go_big_quiet_step ((fail)))
  refine wpQuiet_nil ?_
  intro w1 u1
  replace u1 := later_out u1
  have g1 := g.upd u1
  go_wp2_with fail
  (with_reducible refine (new_v q.rb key w1 g1).mono ?_)
  rintro _ w2 hnv
  rcases hnv with ⟨_, r', rfl, hr', u2⟩ | ⟨hkk, _⟩
  rotate_left
  · rw [hkey] at hkk; cases hkk
  have U2 := u1.trans u2
  have hC0 : CpS B w q Lr key r'.vb [] w2 := ⟨r', rfl, hr'.base u1.size hgb, U2⟩
  have HC0 := Lib.hid hC0
  obtain ⟨_, _, c2, _⟩ := (H.out.nw U2).cells
  rw [Hsv.out] at c2
  clear hC0 hr' u1 g1 u2
  generalize r'.vb = vb at *
  go_wp2_with fail
  go_loopw [20] (fun i wr => ∃ k : Nat, k ≤ L.length ∧ i = .int .i64 k ∧ Hid (CpS B w q Lr key vb (L.take k) wr)) (fun i _ => L.length - (intOf i).toNat)
  case atStart => exact ⟨0, Nat.zero_le _, rfl, HC0.out⟩
  case round =>
    obtain ⟨k, hk, rfl, HK⟩ := hrel
    have uk : Nw w wr := by obtain ⟨_, _, _, u⟩ := HK.out; exact u
    have gk := g.upd uk
    by_cases hlt : k < L.length
    · rcases Ha.out with hnil | ⟨b, o, rfl, _, hb, hc⟩
      · simp [hnil] at hlt
      obtain ⟨p0, p1, p2⟩ := hc k hlt
      have d0 := ((Nw.below uk).cell (p := ⟨b, o + k * 3, none⟩) hb).trans p0
      have d1 := ((Nw.below uk).cell (p := ⟨b, o + k * 3 + 1, none⟩) hb).trans p1
      have d2 := ((Nw.below uk).cell (p := ⟨b, o + k * 3 + 2, none⟩) hb).trans p2
      have htk : L.take (k + 1) = L.take k ++ [L[k]] := List.take_succ_eq_append_getElem hlt
      have hok : Vw.VOk Lr key (L.take k ++ [L[k]]) := by
        rw [← htk]
        exact Vw.VOk.pre (M := L.drop (k + 1)) (by rw [List.take_append_drop]; exact Hv.out)
      have hso := Hs.out L[k] (List.getElem_mem hlt)
      have hM9 : (L.take k).length ≤ 900000 := by rw [List.length_take]; omega
      generalize L[k] = x at *
      have n5 := nw_alloc wr (.cells #[.int .i64 x.key, .string ⟨x.text.toArray⟩, .int .i64 x.mark] tSigned)
      have hC5 : CpS B w q Lr key vb (L.take k) (wr.alloc (.cells #[.int .i64 x.key, .string ⟨x.text.toArray⟩, .int .i64 x.mark] tSigned)) := by
        obtain ⟨r, h1, h2, h3⟩ := HK.out
        exact ⟨r, h1, h2.nw n5, h3.trans n5⟩
      have Hacc := Lib.hid (cp_acc hC5 Hq.out (gk.upd n5) x hso hM9 hok)
      have Htk := Lib.hid htk
      clear hc p0 p1 p2 htk hok hso hM9 hC5 n5
      go_wp2_with fail
      (with_reducible refine (Hacc.out).mono ?_)
      rintro _ w6 ⟨rfl, C6⟩
      have HC6 := Lib.hid C6
      clear C6
      go_wp2_with fail
      go_roundw
      case rel => exact ⟨k + 1, by omega, by go_num, by rw [Htk.out]; exact HC6.out⟩
      case measure => simp [intOf]; omega
    · obtain rfl : k = L.length := by omega
      have hfin := HK.out
      rw [List.take_length] at hfin
      have Hfin := Lib.hid hfin
      clear hfin HK
      go_wp2_with fail
      go_ret
      obtain ⟨r, rfl, h2, h3⟩ := Hfin.out
      exact ⟨r, rfl, h2, h3⟩
/-- ladingref08.Same. -/
theorem same_v (lo1 hi1 lo2 hi2 : Nat) (v1 v2 : Value) (X Y : List Bk.Sgn) (w : World) (h1 : SlS 3 lo1 hi1 w v1 (X.map sgl)) (h2 : SlS 3 lo2 hi2 w v2 (Y.map sgl)) (hX : X.length ≤ 900000) (he : X = Y) :
    Calls Tryz.prog 38 #[v1, v2] w fun e w' => e = .returned (.bool true) ∧ Nw w w' := by
  subst he
  obtain ⟨a1, k1, rfl, hm1, ha1⟩ := sgn_cells h1
  obtain ⟨a2, k2, rfl, hm2, ha2⟩ := sgn_cells h2
  have Ha1 := Lib.hid ha1
  have Ha2 := Lib.hid ha2
  clear ha1 ha2 h1 h2
  unfold maxLen at hm1 hm2
  go_enter Tryz.func38, Tryz.ntmps38
  go_wp2_with fail
  go_loopw [5] (fun i wr => ∃ n : Nat, n ≤ X.length ∧ i = .int .i64 n ∧ Nw w wr) (fun i _ => X.length - (intOf i).toNat)
  case atStart => exact ⟨0, Nat.zero_le _, rfl, Upd.refl _ _⟩
  case round =>
    obtain ⟨n, hn, rfl, u⟩ := hrel
    by_cases hlt : n < X.length
    · rcases Ha1.out with hnil | ⟨b1, o1, rfl, _, hb1, hc1⟩
      · simp [hnil] at hlt
      rcases Ha2.out with hnil | ⟨b2, o2, rfl, _, hb2, hc2⟩
      · simp [hnil] at hlt
      obtain ⟨p0, p1, p2⟩ := hc1 n hlt
      obtain ⟨q0, q1, q2⟩ := hc2 n hlt
      have d0 := ((Nw.below u).cell (p := ⟨b1, o1 + n * 3, none⟩) hb1).trans p0
      have d1 := ((Nw.below u).cell (p := ⟨b1, o1 + n * 3 + 1, none⟩) hb1).trans p1
      have d2 := ((Nw.below u).cell (p := ⟨b1, o1 + n * 3 + 2, none⟩) hb1).trans p2
      have e0 := ((Nw.below u).cell (p := ⟨b2, o2 + n * 3, none⟩) hb2).trans q0
      have e1 := ((Nw.below u).cell (p := ⟨b2, o2 + n * 3 + 1, none⟩) hb2).trans q1
      have e2 := ((Nw.below u).cell (p := ⟨b2, o2 + n * 3 + 2, none⟩) hb2).trans q2
      clear hc1 hc2 p0 p1 p2 q0 q1 q2
      generalize X[n] = x at *
      go_wp2_with fail
      go_quiet (fail)
      obtain ⟨w1, ew, u1⟩ := nw_drewN wr nq
      rw [ew]; clear ew
      go_wp2_with fail
      go_roundw
      case rel => exact ⟨n + 1, by omega, by go_num, u.trans u1⟩
      case measure => simp [intOf]; omega
    · go_wp2_with fail
      go_ret
      exact ⟨rfl, u⟩
end Go.Proofs.YtidmehiboceobaaGreatDoor
