/- The contracts of layer 34's reference: Prints, Vote, Accept, Liars, Both, Right. -/
import Derived.Test.YtpceoogmkbcfmaaGreatDoorAttN
import Derived.Deep.RegionHeld3
namespace Go.Proofs.YtpceoogmkbcfmaaGreatDoor
open Go.RowKit
set_option linter.unusedVariables false
set_option linter.unusedSimpArgs false
attribute [local irreducible] Calls

set_option maxHeartbeats 4000000 in
set_option maxRecDepth 100000 in
theorem prints_q (B : Nat) (q : QRing) (Lr : List Bk.Seal) (lo hi : Nat) (v : Value) (C : List Bk.Sgn) (text : List UInt8) (w : World) (g : Gl w) (hq : QRingAt B w q Lr) (hn : Lr.Nodup) (hL : Lr.length ≤ 1000000) (hv : SlS 3 lo hi w v (C.map sgl)) (hC : C.length ≤ 90000) (hs : ∀ s ∈ C, SgnOk s) :
    Calls Tryz.prog 28 #[.pointer (some ⟨q.qb, 0, none⟩), v, .string ⟨text.toArray⟩] w fun e w' => ∃ v', e = .returned v' ∧ w'.ownsRow w.heap.size tNum 1 v' (At.prints (At.votes Lr C text)).length ((At.prints (At.votes Lr C text)).map intV) ∧ Nw w w' := by
  have hgb := g.big
  obtain ⟨a, cap, rfl, hm, ha⟩ := sgn_cells hv
  unfold maxLen at hm
  have Ha := Lib.hid ha
  have HQ := Lib.hid (fun (z : World) (uz : Nw w z) (s : Bk.Sgn) (h : s ∈ C) => says_q B q Lr s text z (g.upd uz) (hq.nw uz) hn hL (hs s h))
  clear ha hv hq hs
  go_enter Tryz.func28, Tryz.ntmps28
  go_wp2_with fail
  go_loopw [7, 8] (fun vo iv wr => ∃ k : Nat, k ≤ C.length ∧ iv = .int .i64 k ∧ Hid (wr.ownsRow w.heap.size tNum 1 vo (At.prints (At.votes Lr (C.take k) text)).length ((At.prints (At.votes Lr (C.take k) text)).map intV)) ∧ Nw w wr) (fun vo iv _ => C.length - (intOf iv).toNat)
  case atStart => exact ⟨0, Nat.zero_le _, rfl, World.ownsRow_nil _ _ _ _, Upd.refl _ _⟩
  case round =>
    obtain ⟨k, hk, rfl, HO, u⟩ := hrel
    by_cases hlt : k < C.length
    · rcases Ha.out with hnil | ⟨b, o, rfl, _, hb, hc⟩
      · simp [hnil] at hlt
      obtain ⟨p0, p1, p2⟩ := hc k hlt
      have d0 := ((Nw.below u).cell (p := ⟨b, o + k * 3, none⟩) hb).trans p0
      have d1 := ((Nw.below u).cell (p := ⟨b, o + k * 3 + 1, none⟩) hb).trans p1
      have d2 := ((Nw.below u).cell (p := ⟨b, o + k * 3 + 2, none⟩) hb).trans p2
      have hsq := HQ.out wr u C[k] (List.getElem_mem hlt)
      have hpl := At.prints_len (At.votes Lr (C.take k) text)
      have hvl := At.votes_len Lr (C.take k) text
      have hk2 : (C.take k).length ≤ k := by rw [List.length_take]; omega
      have hsn := At.prints_snoc Lr (C.take k) C[k] text
      rw [← List.take_succ_eq_append_getElem hlt] at hsn
      generalize At.saysN Lr text C[k] = sn at *
      clear hc p0 p1 p2
      generalize C[k] = x at *
      obtain ⟨xk, xx, xm⟩ := x
      dsimp only at *
      have HSQ := Lib.hid hsq
      have Hsn := Lib.hid hsn
      clear hsq hsn
      obtain ⟨ao, co, hvo⟩ := own_sl HO.out
      subst hvo
      by_cases hp : 0 ≤ sn
      rotate_left
      · have hp' : sn < 0 := by omega
        have hrr : Hid (At.prints (At.votes Lr (C.take (k + 1)) text) = At.prints (At.votes Lr (C.take k) text)) := by show _ = _; rw [Hsn.out, if_neg hp]
        clear Hsn
        go_wp2_with fail
        (with_reducible refine (HSQ.out).mono ?_)
        rintro _ w3 ⟨rfl, u3⟩
        have hown := owns_upd' HO.out u3 (fun _ _ e => e)
        rw [← hrr.out] at hown
        have hlen : (At.prints (At.votes Lr (C.take k) text)).length = (At.prints (At.votes Lr (C.take (k + 1)) text)).length := by rw [hrr.out]
        rw [hlen]
        have Hown := Lib.hid hown
        clear hown HO hlen
        go_wp2_with fail
        go_roundw
        case rel => exact ⟨k + 1, by omega, by go_num, Hown, u.trans u3⟩
        case measure => simp [intOf]; omega
      · have hrr : Hid (At.prints (At.votes Lr (C.take (k + 1)) text) = At.insU (At.prints (At.votes Lr (C.take k) text)) sn) := by show _ = _; rw [Hsn.out, if_pos hp]
        clear Hsn
        go_wp2_with fail
        (with_reducible refine (HSQ.out).mono ?_)
        rintro _ w3 ⟨rfl, u3⟩
        have u03 := u.trans u3
        have hins := insert_q w.heap.size _ _ sn w3 (Nat.le_trans hgb u03.size) u03.size (owns_upd' HO.out u3 (fun _ _ e => e)) (by omega)
        rw [← hrr.out] at hins
        have HIns := Lib.hid hins
        clear hins HO
        go_wp2_with fail
        (with_reducible refine (HIns.out).mono ?_)
        rintro _ w4 ⟨v4, rfl, o4, u4⟩
        have Ho4 := Lib.hid o4
        obtain ⟨a4, c4, rfl⟩ := own_sl o4
        clear o4
        go_wp2_with fail
        go_roundw
        case rel => exact ⟨k + 1, by omega, by go_num, Ho4, u03.trans u4⟩
        case measure => simp [intOf]; omega
    · obtain rfl : k = C.length := by omega
      rw [List.take_length] at HO
      obtain ⟨ao, co, hvo⟩ := own_sl HO.out
      subst hvo
      go_wp2_with fail
      go_ret
      exact ⟨_, rfl, HO.out, u⟩
set_option maxHeartbeats 4000000 in
set_option maxRecDepth 100000 in
theorem qvote_q (B : Nat) (q : QRing) (Lr : List Bk.Seal) (lo hi lo2 hi2 : Nat) (v ms : Value) (C : List Bk.Sgn) (gr : At.Grp) (text : List UInt8) (p : Int) (w : World) (g : Gl w) (hq : QRingAt B w q Lr) (hn : Lr.Nodup) (hL : Lr.length ≤ 1000000) (hv : SlS 3 lo hi w v (C.map sgl)) (hs : ∀ s ∈ C, SgnOk s) (hms : Sl lo2 hi2 w ms (gr.members.map intV)) (hml : gr.members.length ≤ 100000) :
    Calls Tryz.prog 27 #[.pointer (some ⟨q.qb, 0, none⟩), v, .agg #[ms, .int .i64 gr.bad], .string ⟨text.toArray⟩, .int .i64 p] w fun e w' => ∃ v', e = .returned v' ∧ w'.ownsRow w.heap.size tNum 1 v' (At.members (At.votes Lr C text) gr p).length ((At.members (At.votes Lr C text) gr p).map intV) ∧ Nw w w' := by
  have hgb := g.big
  obtain ⟨gm, gbad⟩ := gr
  have hvr := At.vote_ref Lr C text ⟨gm, gbad⟩ p
  obtain ⟨a, cap, rfl, hm, _⟩ := sgn_cells hv
  dsimp only at hms hml hvr
  obtain ⟨am, capm, rfl, hmm, ha⟩ := num_cells hms
  unfold maxLen at hm hmm
  have n1 := nw_alloc w (.cells #[.slice am gm.length capm, .int .i64 gbad] tGrp)
  have k1 := heap_new w (.cells #[.slice am gm.length capm, .int .i64 gbad] tGrp)
  generalize hW1 : w.alloc (.cells #[.slice am gm.length capm, .int .i64 gbad] tGrp) = W1 at *
  have HW1 := Lib.hid hW1
  have K1 := Lib.hid k1
  have Ha := Lib.hid ha
  have HQ := Lib.hid (fun (z : World) (uz : Nw w z) (k : Int) => attests_q B q Lr lo hi _ C k text p z (g.upd uz) (hq.nw uz) hn hL (hv.nw uz) hs)
  have Hvr := Lib.hid hvr
  have h1b : nG ≤ W1.heap.size := Nat.le_trans hgb n1.size
  clear ha hv hq hs hms hvr k1 hW1
  go_enter Tryz.func27, Tryz.ntmps27
  go_wp2_with fail
  rw [HW1.out]
  go_wp2_with fail
  go_loopw [11, 12] (fun vo iv wr => ∃ k : Nat, k ≤ gm.length ∧ iv = .int .i64 k ∧ Hid (wr.ownsRow W1.heap.size tNum 1 vo ((gm.take k).filter fun k => C.any (At.att Lr text p k)).length (((gm.take k).filter fun k => C.any (At.att Lr text p k)).map intV)) ∧ Nw W1 wr) (fun vo iv _ => gm.length - (intOf iv).toNat)
  case atStart => exact ⟨0, Nat.zero_le _, rfl, World.ownsRow_nil _ _ _ _, Upd.refl _ _⟩
  case round =>
    obtain ⟨k, hk, rfl, HO, u⟩ := hrel
    obtain ⟨ao, co, hvo⟩ := own_sl HO.out
    subst hvo
    obtain ⟨_, _⟩ := cell2 (Nw.keep u K1.out)
    by_cases hlt : k < gm.length
    · rcases Ha.out with hnil | ⟨b, o, rfl, _, hb, hc⟩
      · simp [hnil] at hlt
      have uw := n1.trans u
      have d0 := ((Nw.below uw).cell (p := ⟨b, o + k, none⟩) hb).trans (hc k hlt)
      have hfl : ((gm.take k).filter fun k => C.any (At.att Lr text p k)).length ≤ gm.length := Nat.le_trans (List.length_filter_le _ _) (by rw [List.length_take]; omega)
      have htk : (gm.take (k + 1)).filter (fun k => C.any (At.att Lr text p k)) = (gm.take k).filter (fun k => C.any (At.att Lr text p k)) ++ (if C.any (At.att Lr text p gm[k]) = true then [gm[k]] else []) := by
        rw [List.take_succ_eq_append_getElem hlt, List.filter_append]
        congr 1
        simp only [List.filter_cons, List.filter_nil]
      have hat := HQ.out wr uw gm[k]
      generalize gm[k] = x at *
      clear hc
      generalize hX : (gm.take k).filter (fun k => C.any (At.att Lr text p k)) = X at *
      generalize hY : (gm.take (k + 1)).filter (fun k => C.any (At.att Lr text p k)) = Y at *
      generalize C.any (At.att Lr text p x) = bq at *
      have HX := Lib.hid hX
      have HY := Lib.hid hY
      have Htk := Lib.hid htk
      have HAt := Lib.hid hat
      clear hX hY htk hat
      go_wp2_with fail
      (with_reducible refine (HAt.out).mono ?_)
      rintro _ w3 ⟨rfl, u3⟩
      have d0' := later_cell ⟨w3, u3⟩ d0
      dsimp only at d0'
      obtain ⟨_, _⟩ := cell2 (Nw.keep (u.trans u3) K1.out)
      have hown := owns_upd' HO.out u3 (fun _ _ e => e)
      cases bq with
      | false =>
        have hYX : Y = X := by rw [Htk.out, if_neg (by simp), List.append_nil]
        have Hown : Hid (w3.ownsRow W1.heap.size tNum 1 (.slice ao X.length co) Y.length (Y.map intV)) := by
          show World.ownsRow _ _ _ _ _ _ _
          rw [hYX]; exact hown
        clear hown hYX Htk HO
        go_wp2_with fail
        go_roundw
        case rel => exact ⟨k + 1, by omega, by go_num, by rw [HY.out]; exact Hown, u.trans u3⟩
        case measure => simp [intOf]; omega
      | true =>
        have hYX : Y = X ++ [x] := by rw [Htk.out, if_pos rfl]
        have HYX := Lib.hid hYX
        have hbs : W1.heap.size ≤ (w3.alloc (.cells #[.int .i64 x] tNum)).heap.size := by
          have := (u.trans u3).size
          simp; omega
        have hnn : ∀ u ∈ [intV x], u.oneCell' = true := by intro u hu; rw [List.mem_singleton.1 hu]; rfl
        have HN := Lib.hid hnn
        have HOw := Lib.hid (owns_upd' hown (nw_alloc w3 (.cells #[.int .i64 x] tNum)) (fun _ _ e => e))
        clear hYX Htk hown HO hnn
        go_wp2_with (at_builtin; refine wpList_catM rfl _ _ 31 rfl tNum _ 1 8 Tryz.underlying31 infoNum rfl (by decide) W1.heap.size hbs h1b _ X.length (X.map intV) rfl HOw.out _ 1 1 [intV x] rfl rfl (news_of (heap_new w3 _) rfl) HN.out (by omega) (by unfold maxLen; omega) (by omega) ?_)
        intro gs cs ws hos us _
        have Hos : Hid (ws.ownsRow W1.heap.size tNum 1 (.slice (some ⟨gs, 0, none⟩) (X.length + 1) cs) Y.length (Y.map intV)) := by
          show World.ownsRow _ _ _ _ _ _ _
          rw [HYX.out, List.length_append, List.length_singleton, List.map_append]; exact hos
        have US : Hid (Nw W1 ws) := ((u.trans u3).alloc _).trans' us (fun j hj e => by
          have h1 := (HOw.out.lt j e).1
          omega)
        clear hos us
        go_wp2_with fail
        go_roundw
        case rel => exact ⟨k + 1, by omega, by go_num, by rw [HY.out]; exact Hos, US.out⟩
        case measure => simp [intOf]; omega
    · obtain rfl : k = gm.length := by omega
      rw [List.take_length, ← Hvr.out] at HO ⊢
      go_wp2_with fail
      go_ret
      exact ⟨_, rfl, owns_base HO.out n1.size, n1.trans u⟩
namespace At
/-- All of the first k groups have more than Bad votes. -/
def quoB (V : List (Bk.Sgn × Int)) (p : Int) (GC : List (Value × Grp)) (k : Nat) : Bool := (GC.take k).all fun c => !weak V p c.2
theorem quoB_succ {V : List (Bk.Sgn × Int)} {p : Int} {GC : List (Value × Grp)} {k : Nat} (h : k < GC.length) : quoB V p GC (k + 1) = (quoB V p GC k && decide (GC[k].2.bad < ((members V GC[k].2 p).length : Int))) := by
  unfold quoB weak
  rw [List.take_succ_eq_append_getElem h, List.all_append]
  simp only [List.all_cons, List.all_nil, Bool.and_true]
  congr 1
  rw [← decide_not]
  exact decide_eq_decide.2 (by omega)
theorem quoB_all (V : List (Bk.Sgn × Int)) (p : Int) (GC : List (Value × Grp)) : quoB V p GC GC.length = !((GC.map (·.2)).any (weak V p)) := by
  unfold quoB
  rw [List.take_length, List.any_map]
  simp [Function.comp_def, List.not_any_eq_all_not]
/-- What the reference holds as found. -/
def heldF (l : List Int) : Int := match l with
  | [] => -1
  | p :: _ => p
theorem accept_fin {V : List (Bk.Sgn × Int)} {G : List Grp} (hl : (found V G).length ≤ 1) (hp : ∀ p ∈ found V G, 0 ≤ p) : acceptF (found V G) = if heldF (found V G) < 0 then (0, 23) else (heldF (found V G), 0) := by
  match h : found V G with
  | [] => rfl
  | [p] =>
    have := hp p (by rw [h]; simp)
    unfold heldF
    dsimp only
    rw [if_neg (by omega)]; rfl
  | p :: q :: r => rw [h] at hl; simp at hl
end At
set_option maxHeartbeats 8000000 in
set_option maxRecDepth 100000 in
theorem qaccept_q (B : Nat) (q : QRing) (Lr : List Bk.Seal) (lo hi hi2 : Nat) (v gv : Value) (C : List Bk.Sgn) (G : List At.Grp) (GC : List (Value × At.Grp)) (text : List UInt8) (w : World) (g : Gl w) (hq : QRingAt B w q Lr) (hn : Lr.Nodup) (hL : Lr.length ≤ 1000000) (hv : SlS 3 lo hi w v (C.map sgl)) (hC : C.length ≤ 90000) (hs : ∀ s ∈ C, SgnOk s) (hG : GrpS hi2 w gv G GC)
    (hR : ∀ z, Nw w z → Calls Tryz.prog 26 #[gv] z fun e w' => e = .returned (.bool (At.right G)) ∧ Nw z w') :
    Calls Tryz.prog 23 #[.pointer (some ⟨q.qb, 0, none⟩), v, gv, .string ⟨text.toArray⟩] w fun e w' => e = .returned (.tuple #[.int .i64 (At.accept (At.votes Lr C text) G).1, .int .i64 (At.accept (At.votes Lr C text) G).2]) ∧ Nw w w' := by
  have hgb := g.big
  obtain ⟨a, cap, rfl, hm, _⟩ := sgn_cells hv
  obtain ⟨a1, cap1, rfl, hm1, ha1⟩ := grp_cells hG
  have hGe : G = GC.map (·.2) := hG.fst.symm
  unfold maxLen at hm hm1
  have hqp := fun (z : World) (uz : Nw w z) => prints_q B q Lr lo hi _ C text z (g.upd uz) (hq.nw uz) hn hL (hv.nw uz) hC hs
  have hvt := fun (c : Value × At.Grp) (hc : c ∈ GC) (hml : c.2.members.length ≤ 100000) (p : Int) (z : World) (uz : Nw w z) => qvote_q B q Lr lo hi 0 hi2 _ c.1 C c.2 text p z (g.upd uz) (hq.nw uz) hn hL (hv.nw uz) hs ((hG.each c hc).1.nw uz) hml
  have hms := fun (c : Value × At.Grp) (hc : c ∈ GC) => (hG.each c hc).1
  have hpb := At.prints_bounds (Lr := Lr) (C := C) (text := text)
  have hvl := At.votes_len Lr C text
  generalize At.votes Lr C text = V at *
  have hacc : At.accept V G = if At.right G = true then At.acceptF (At.found V G) else (0, 1) := rfl
  have hr0 := hR w (Upd.refl _ _)
  have HQP := Lib.hid hqp
  have HVT := Lib.hid hvt
  have Hms := Lib.hid hms
  have Ha1 := Lib.hid ha1
  have HGe := Lib.hid hGe
  cases hrg : At.right G with
  | false =>
    rw [hrg] at hr0
    have HR0 := Lib.hid hr0
    have hx : Hid (At.accept V G = (0, 1)) := by show _ = _; rw [hacc, hrg]; rfl
    clear hqp hvt hms ha1 hGe hacc hrg hr0 hR hv hq hs hG
    go_enter Tryz.func23, Tryz.ntmps23
    go_wp2_with fail
    (with_reducible refine (HR0.out).mono ?_)
    rintro _ w1 ⟨rfl, u1⟩
    go_wp2_with fail
    go_ret2
    exact ⟨by rw [hx.out]; rfl, u1⟩
  | true =>
  rw [hrg] at hr0
  have HR0 := Lib.hid hr0
  have hx : Hid (At.accept V G = At.acceptF (At.found V G)) := by show _ = _; rw [hacc, if_pos hrg]
  have hml : ∀ c ∈ GC, c.2.members.length ≤ 12 := fun c hc => ((At.right_grp hrg).1 c.2 (by rw [hGe]; exact List.mem_map.2 ⟨c, hc, rfl⟩)).2.1
  have Hml := Lib.hid hml
  have Hpb := Lib.hid hpb
  clear hqp hvt hms ha1 hGe hacc hrg hr0 hR hv hq hs hG hml hpb
  go_enter Tryz.func23, Tryz.ntmps23
  go_wp2_with fail
  (with_reducible refine (HR0.out).mono ?_)
  rintro _ w1 ⟨rfl, u1⟩
  go_wp2_with fail
  (with_reducible refine (HQP.out _ u1).mono ?_)
  rintro _ w2 ⟨pv, rfl, o2, u2⟩
  have U2 := u1.trans u2
  obtain ⟨ap, cp, rfl⟩ := own_sl o2
  obtain ⟨ap', cp', ep, hmp, hcp⟩ := num_cells (own_num o2)
  obtain ⟨rfl, rfl⟩ : ap = ap' ∧ cp = cp' := by simp at ep; exact ep
  have Hcp := Lib.hid hcp
  have hpl := At.prints_len V
  clear hcp ep hmp o2
  obtain ⟨P, hP⟩ : ∃ P, At.prints V = P := ⟨_, rfl⟩
  rw [hP] at Hcp hpl Hpb ⊢
  have HP := Lib.hid hP
  clear hP
  go_wp2_with fail
  go_loopw [11, 12] (fun fv iv wr => ∃ n : Nat, n ≤ P.length ∧ iv = .int .i64 n ∧ (fv = .int .i64 (At.heldF (At.foundTo V G n)) ∧ Hid ((At.foundTo V G n).length ≤ 1)) ∧ Nw w2 wr) (fun fv iv _ => P.length - (intOf iv).toNat)
  case atStart => exact ⟨0, Nat.zero_le _, rfl, ⟨rfl, by show _ ≤ _; simp [At.foundTo]⟩, Upd.refl _ _⟩
  case round =>
    obtain ⟨n, hnl, rfl, ⟨rfl, hlen⟩, u⟩ := hrel
    obtain ⟨wq, rfl⟩ : ∃ x, x = wr := ⟨_, rfl⟩
    by_cases hlt : n < P.length
    · rcases Hcp.out with hnil | ⟨pb, po, rfl, _, hpb, hpc⟩
      · simp [hnil] at hlt
      have e0 := ((Nw.below u).cell (p := ⟨pb, po + n, none⟩) hpb).trans (hpc n hlt)
      have hst := At.foundTo_step (V := V) (G := G) (n := n) (by rw [HP.out]; exact hlt)
      simp only [HP.out] at hst
      have hp0 := (Hpb.out P[n] (List.getElem_mem hlt)).1
      clear hpc
      generalize P[n] = p at *
      have Hst := Lib.hid hst
      clear hst
      go_wp2_with fail
      go_loopw [13, 14] (fun qv jv wz => ∃ j : Nat, j ≤ GC.length ∧ jv = .int .i64 j ∧ (∃ b : Bool, qv = .bool b ∧ Hid (b = At.quoB V p GC j)) ∧ Nw wq wz) (fun qv jv _ => GC.length - (intOf jv).toNat)
      case atStart => exact ⟨0, Nat.zero_le _, rfl, ⟨true, rfl, rfl⟩, Upd.refl _ _⟩
      case round =>
        obtain ⟨j, hj, rfl, ⟨b, rfl, hb⟩, uj⟩ := hrel
        by_cases hjl : j < GC.length
        · have UU := U2.trans (u.trans uj)
          rcases Ha1.out with hnil | ⟨gb, go, rfl, _, hgb2, hgc⟩
          · simp [hnil] at hjl
          have f0 := ((Nw.below UU).cell (p := ⟨gb, go + j * 2, none⟩) hgb2).trans (hgc j hjl).1
          have f1 := ((Nw.below UU).cell (p := ⟨gb, go + j * 2 + 1, none⟩) hgb2).trans (hgc j hjl).2
          have hqs := At.quoB_succ (V := V) (p := p) hjl
          rw [← hb.out] at hqs
          have hvs := HVT.out GC[j] (List.getElem_mem hjl) (by have := Hml.out GC[j] (List.getElem_mem hjl); omega) p
          have hmm1 := Hms.out GC[j] (List.getElem_mem hjl)
          have h12 := Hml.out GC[j] (List.getElem_mem hjl)
          clear hgc
          generalize GC[j] = x at *
          obtain ⟨ms, gm, gbad⟩ := x
          dsimp only at *
          obtain ⟨am, capm, rfl, hmm2, hxx⟩ := num_cells hmm1
          clear hxx hmm2 hmm1
          have e1 := later_cell ⟨wr, uj⟩ e0
          dsimp only at e1
          have hlm : (At.members V ⟨gm, gbad⟩ p).length ≤ 12 := Nat.le_trans (List.length_filter_le _ _) h12
          have hvs2 : ∀ z, Nw wr z → Calls Tryz.prog 27 #[.pointer (some ⟨q.qb, 0, none⟩), .slice a C.length cap, .agg #[.slice am gm.length capm, .int .i64 gbad], .string ⟨text.toArray⟩, .int .i64 p] z fun e w' => ∃ a c, e = .returned (.slice a (At.members V ⟨gm, gbad⟩ p).length c) ∧ Nw wr w' := fun z uz =>
            (hvs z (UU.trans uz)).mono fun e w' ⟨v', h1, h2, h3⟩ => by
              obtain ⟨a, c, rfl⟩ := own_sl h2
              exact ⟨a, c, h1, uz.trans h3⟩
          generalize (At.members V ⟨gm, gbad⟩ p).length = m at *
          have HVS := Lib.hid hvs2
          have Hqs := Lib.hid hqs
          have HD : Hid (∀ z, Nw wr z → z.cell? ⟨gb, go + j * 2, none⟩ = some (.slice am gm.length capm) ∧ z.cell? ⟨gb, go + j * 2 + 1, none⟩ = some (.int .i64 gbad) ∧ z.cell? ⟨pb, po + n, none⟩ = some (.int .i64 p)) := fun z uz => ⟨later_cell ⟨z, uz⟩ f0, later_cell ⟨z, uz⟩ f1, later_cell ⟨z, uz⟩ e1⟩
          clear hvs hvs2 hqs
          cases b with
          | false =>
            have hb2 : Hid (false = At.quoB V p GC (j + 1)) := by show _ = _; rw [Hqs.out]; rfl
            clear Hqs HVS
            go_wp2_with fail
            refine wp_region_nw (by kernel_rfl) (by kernel_rfl) ?_
            repeat (go_big_quiet_step ((fail)))
            refine wpQuiet_nil ?_
            intro w8 u8
            replace u8 := later_out u8
            go_wp2_with fail
            go_roundw
            case rel => exact ⟨j + 1, by omega, by go_num, ⟨false, rfl, hb2⟩, uj.trans u8⟩
            case measure => simp [intOf]; omega
          | true =>
            have hb2 : Hid (decide (gbad < (m : Int)) = At.quoB V p GC (j + 1)) := by show _ = _; rw [Hqs.out]; simp
            clear Hqs
            go_wp2_with fail
            go_region_held3 (fun z => z.cell? ⟨gb, go + j * 2, none⟩ = some (.slice am gm.length capm) ∧ z.cell? ⟨gb, go + j * 2 + 1, none⟩ = some (.int .i64 gbad) ∧ z.cell? ⟨pb, po + n, none⟩ = some (.int .i64 p)) (first | exact HD.out _ v5 | exact HD.out _ (Upd.refl _ _).drew) (first | (go_at_call 27; (with_reducible refine (HVS.out _ (Upd.refl _ _).drew).mono ?_); rintro _ x5 ⟨a5, c5, rfl, v5⟩))
            clear HVS
            go_wp2_with fail
            go_roundw
            case rel => exact ⟨j + 1, by omega, by go_num, ⟨decide (gbad < (m : Int)), rfl, hb2⟩, uj.trans v5⟩
            case measure => simp [intOf]; omega
        · obtain rfl : j = GC.length := by omega
          have hbq := hb.out
          rw [At.quoB_all, ← HGe.out] at hbq
          have e1 := later_cell ⟨wr, uj⟩ e0
          dsimp only at e1
          have hst := Hst.out
          clear hb
          cases b with
          | false =>
            have hany : G.any (At.weak V p) = true := by simpa using hbq.symm
            rw [if_pos hany, List.append_nil] at hst
            have hf2 : Hid (At.foundTo V G (n + 1) = At.foundTo V G n) := hst
            have hln : Hid ((At.foundTo V G (n + 1)).length ≤ 1) := by show _ ≤ _; rw [hf2.out]; exact hlen.out
            clear hst hany hbq Hst
            go_wp2_with fail
            go_roundw
            case rel => exact ⟨n + 1, by omega, by go_num, ⟨by rw [hf2.out], hln⟩, u.trans uj⟩
            case measure => simp [intOf]; omega
          | true =>
            have hany : ¬ G.any (At.weak V p) = true := by
              intro e
              rw [e] at hbq; cases hbq
            rw [if_neg hany] at hst
            have hpos : ∀ x ∈ At.foundTo V G n, 0 ≤ x := fun x hx => (Hpb.out x (by rw [← HP.out]; exact List.mem_of_mem_take (List.mem_filter.1 hx).1)).1
            have hst' := Lib.hid hst
            clear hst hany hbq Hst
            generalize hFn : At.foundTo V G n = F at *
            cases F with
            | nil =>
              have hf2 : Hid (At.foundTo V G (n + 1) = [p]) := hst'.out
              have hln : Hid ((At.foundTo V G (n + 1)).length ≤ 1) := by show _ ≤ _; rw [hf2.out]; simp
              clear hst' hpos hFn
              simp only [At.heldF]
              go_wp2_with fail
              go_roundw
              case rel => exact ⟨n + 1, by omega, by go_num, ⟨by rw [hf2.out]; rfl, hln⟩, u.trans uj⟩
              case measure => simp [intOf]; omega
            | cons p0 F =>
              have hp00 := hpos p0 (List.mem_cons_self ..)
              have hsp := At.foundTo_split (V := V) (G := G) (n := n + 1) (by rw [hst'.out]; simp)
              have Hsp := Lib.hid hsp
              clear hst' hpos hFn hsp
              simp only [At.heldF]
              go_wp2_with fail
              go_ret2
              exact ⟨by rw [hx.out, Hsp.out]; rfl, U2.trans (u.trans uj)⟩
    · obtain rfl : n = P.length := by omega
      rw [← HP.out, At.foundTo_all] at hlen
      have hfin := At.accept_fin hlen.out (fun x hx => (Hpb.out x (by rw [← HP.out]; exact (List.mem_filter.1 hx).1)).1)
      have Hfin := Lib.hid hfin
      rw [show At.foundTo V G P.length = At.found V G by rw [← HP.out, At.foundTo_all]]
      generalize At.heldF (At.found V G) = hf at *
      clear hfin
      by_cases h0 : hf < 0
      · have hz : Hid (At.accept V G = (0, 23)) := by show _ = _; rw [hx.out, Hfin.out, if_pos h0]
        clear Hfin hx
        go_wp2_with fail
        go_ret2
        exact ⟨by rw [hz.out]; rfl, U2.trans u⟩
      · have hz : Hid (At.accept V G = (hf, 0)) := by show _ = _; rw [hx.out, Hfin.out, if_neg h0]
        clear Hfin hx
        go_wp2_with fail
        go_ret2
        exact ⟨by rw [hz.out]; rfl, U2.trans u⟩
end Go.Proofs.YtpceoogmkbcfmaaGreatDoor
