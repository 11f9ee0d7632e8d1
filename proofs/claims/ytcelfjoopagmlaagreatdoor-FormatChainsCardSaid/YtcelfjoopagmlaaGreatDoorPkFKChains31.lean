/- state.Text of the one value {x=0}; strings.Join of one. -/
import Derived.Test.YtcelfjoopagmlaaGreatDoorPkFKChains30
namespace Go.Proofs.YtcelfjoopagmlaaGreatDoor
open Go.RowKit Go.MapKept
set_option linter.unusedVariables false
set_option linter.unusedSimpArgs false
attribute [local irreducible] Calls
open Fm (Ty Vl Str nameB rightTy rightVl)

theorem Join_one (b o cap : Nat) (s : ByteArray) (w : World) (h : w.cell? ⟨b, o, none⟩ = some (.string s)) :
    Calls Tryz.prog 46 #[.slice (some ⟨b, o, none⟩) 1 cap, .string ⟨#[44]⟩] w fun e w' => e = .returned (.string s) ∧ w = w' := by
  go_enter Tryz.func46, Tryz.ntmps46
  go_wp2_with fail
  go_ret
  exact ⟨rfl, rfl⟩
def vX : Vl := .mk 2 0 [[120]] [Fm.noV]
theorem text_zero (P : Nat → Prop) (nv vv : Value) (w : World) (g : Gm w) (h : VlAt P w nv vv Fm.noV) :
    Calls Tryz.prog 29 #[.agg #[.int .i64 0, .int .i64 0, nv, vv]] w fun e w' => e = .returned (.string ⟨#[48]⟩) ∧ Nw w w' := by
  have hv0 := h
  obtain ⟨na, nc, rfl, -, -⟩ := h.names
  obtain ⟨va, vc, rfl, -, -⟩ := h.vals
  have n1 := nw_alloc w (.cells #[.int .i64 0, .int .i64 0, .slice na 0 nc, .slice va 0 vc] tVl)
  have b1 := heap_new w (.cells #[.int .i64 0, .int .i64 0, .slice na 0 nc, .slice va 0 vc] tVl)
  obtain ⟨W, hW⟩ : ∃ W, W = w.alloc (.cells #[.int .i64 0, .int .i64 0, .slice na 0 nc, .slice va 0 vc] tVl) := ⟨_, rfl⟩
  rw [← hW] at n1 b1
  have HW := Lib.hid hW
  have HN := Lib.hid n1
  have HB := Lib.hid b1
  have HG := Lib.hid (g.upd n1)
  obtain ⟨x0, x1, x2, x3⟩ := cell4F b1
  have hR : rightVl 4 Fm.noV = true := by decide +kernel
  have hr1 : Hid (Calls Tryz.prog 40 #[.agg #[.int .i64 0, .int .i64 0, .slice na 0 nc, .slice va 0 vc]] W fun e w' => e = .returned (.bool true) ∧ Nw W w') := by
    have := evright_c P _ _ Fm.noV W (hv0.nw n1)
    rw [hR] at this
    exact this
  clear n1 b1 hW h hv0 g hR
  change Calls Tryz.prog 29 #[.agg #[.int .i64 0, .int .i64 0, .slice na 0 nc, .slice va 0 vc]] w _
  go_enter Tryz.func29, Tryz.ntmps29
  go_upto_region 1 with fail
  rw [← HW.out]
  clear HW
  go_wp2_with fail
  (with_reducible refine (hr1.out).mono ?_)
  rintro _ w2 ⟨rfl, u2⟩
  have U2 := Lib.hid u2
  have hi := Lib.hid (Itoa_c 0 w2 (HG.out.upd u2).g (by unfold I64; omega))
  clear x0 x1 x2 x3
  obtain ⟨x0, x1, x2, x3⟩ := cell4F (Nw.keep u2 HB.out)
  clear u2 hr1
  go_wp2_with fail
  (with_reducible refine (hi.out).mono ?_)
  rintro _ w3 ⟨rfl, u3⟩
  have U3 := Lib.hid ((HN.out.trans U2.out).trans u3)
  clear u3
  go_wp2_with fail
  go_ret
  have e0 : Lib.itoa 0 = [48] := by decide +kernel
  exact ⟨by rw [e0]; rfl, U3.out⟩
set_option maxHeartbeats 4000000 in
set_option maxRecDepth 100000 in
theorem text_x (P : Nat → Prop) (nv vv : Value) (w : World) (g : Gm w) (h : VlAt P w nv vv vX) :
    Calls Tryz.prog 29 #[.agg #[.int .i64 2, .int .i64 0, nv, vv]] w fun e w' => e = .returned (.string ⟨#[123, 120, 61, 48, 125]⟩) ∧ Nw w w' := by
  have hv0 := h
  obtain ⟨na, nc, rfl, -, hn⟩ := h.names
  obtain ⟨va, vc, rfl, -, hv⟩ := h.vals
  rcases hn with hn | ⟨nb, no, rfl, -, hn⟩
  · cases hn
  rcases hv with hv | ⟨vb, vo, rfl, -, hv⟩
  · cases hv
  obtain ⟨hn0, -⟩ := hn 0 (by decide)
  obtain ⟨nv', vv', q0, q1, q2, q3, q4⟩ := hv 0 (by decide)
  have n1 := nw_alloc w (.cells #[.int .i64 2, .int .i64 0, .slice (some ⟨nb, no, none⟩) 1 nc, .slice (some ⟨vb, vo, none⟩) 1 vc] tVl)
  have b1 := heap_new w (.cells #[.int .i64 2, .int .i64 0, .slice (some ⟨nb, no, none⟩) 1 nc, .slice (some ⟨vb, vo, none⟩) 1 vc] tVl)
  obtain ⟨W, hW⟩ : ∃ W, W = w.alloc (.cells #[.int .i64 2, .int .i64 0, .slice (some ⟨nb, no, none⟩) 1 nc, .slice (some ⟨vb, vo, none⟩) 1 vc] tVl) := ⟨_, rfl⟩
  rw [← hW] at n1 b1
  have HW := Lib.hid hW
  have HN := Lib.hid n1
  have HB := Lib.hid b1
  have HG := Lib.hid (g.upd n1)
  have hR : rightVl 4 vX = true := by decide +kernel
  have hr1 : Hid (Calls Tryz.prog 40 #[.agg #[.int .i64 2, .int .i64 0, .slice (some ⟨nb, no, none⟩) 1 nc, .slice (some ⟨vb, vo, none⟩) 1 vc]] W fun e w' => e = .returned (.bool true) ∧ Nw W w') := by
    have := evright_c P _ _ vX W (hv0.nw n1)
    rw [hR] at this
    exact this
  have HGW : Hid (nG ≤ W.heap.size) := HG.out.g.big
  obtain ⟨xa, xc, rfl, -⟩ := q4.names
  obtain ⟨ya, yc, rfl, -⟩ := q4.vals
  have HC : Hid (∀ y, Nw W y → (y.cell? ⟨w.heap.size, 0, none⟩ = some (.int .i64 2) ∧ y.cell? ⟨w.heap.size, 1, none⟩ = some (.int .i64 0) ∧ y.cell? ⟨w.heap.size, 2, none⟩ = some (.slice (some ⟨nb, no, none⟩) 1 nc) ∧ y.cell? ⟨w.heap.size, 3, none⟩ = some (.slice (some ⟨vb, vo, none⟩) 1 vc)) ∧ y.cell? ⟨nb, no, none⟩ = some (.string ⟨#[120]⟩) ∧ y.cell? ⟨vb, vo, none⟩ = some (.int .i64 0) ∧ y.cell? ⟨vb, vo + 1, none⟩ = some (.int .i64 0) ∧ y.cell? ⟨vb, vo + 2, none⟩ = some (.slice xa 0 xc) ∧ y.cell? ⟨vb, vo + 3, none⟩ = some (.slice ya 0 yc)) := fun y u => ⟨cell4F (Nw.keep u HB.out), nw_cellF (HN.out.trans u) hn0, nw_cellF (HN.out.trans u) q0, nw_cellF (HN.out.trans u) q1, nw_cellF (HN.out.trans u) q2, nw_cellF (HN.out.trans u) q3⟩
  have HT : Hid (∀ y, Nw W y → Calls Tryz.prog 29 #[.agg #[.int .i64 0, .int .i64 0, .slice xa 0 xc, .slice ya 0 yc]] y fun e w' => e = .returned (.string ⟨#[48]⟩) ∧ Nw y w') := fun y u => text_zero P _ _ y (HG.out.upd u) (q4.nw (HN.out.trans u))
  obtain ⟨⟨x0, x1, x2, x3⟩, -⟩ := HC.out W (Upd.refl _ _)
  clear n1 b1 hW h hv0 g hR hn hv hn0 q0 q1 q2 q3 q4
  change Calls Tryz.prog 29 #[.agg #[.int .i64 2, .int .i64 0, .slice (some ⟨nb, no, none⟩) 1 nc, .slice (some ⟨vb, vo, none⟩) 1 vc]] w _
  go_enter Tryz.func29, Tryz.ntmps29
  go_upto_region 1 with fail
  rw [← HW.out]
  clear HW
  go_wp2_with fail
  (with_reducible refine (hr1.out).mono ?_)
  rintro _ w2 ⟨rfl, u2⟩
  have U2 := Lib.hid u2
  clear x0 x1 x2 x3 hr1
  obtain ⟨⟨x0, x1, x2, x3⟩, -⟩ := HC.out w2 u2
  clear u2
  go_wp2_with fail
  go_loopw [3, 25] (fun sv iv wr => ∃ n : Nat, n ≤ 1 ∧ iv = .int .i64 (n : Int) ∧ Hid (Nw W wr) ∧ (n = 0 → sv = .slice none 0 0) ∧ (n = 1 → ∃ bb oo cap, sv = .slice (some ⟨bb, oo, none⟩) 1 cap ∧ wr.cell? ⟨bb, oo, none⟩ = some (.string ⟨#[120, 61, 48]⟩))) (fun _ iv _ => 1 - (intOf iv).toNat)
  case atStart => exact ⟨0, by omega, rfl, U2.out, fun _ => rfl, fun h => by cases h⟩
  case round =>
    obtain ⟨n, hn, rfl, hw, h0, h1⟩ := hrel
    clear x0 x1 x2 x3
    obtain ⟨⟨x0, x1, x2, x3⟩, y0, y1, y2, y3, y4⟩ := HC.out wr hw.out
    have hn2 : n = 0 ∨ n = 1 := by omega
    rcases hn2 with rfl | rfl
    · obtain rfl := h0 rfl
      clear h0 h1
      have ht := Lib.hid (HT.out wr hw.out)
      go_wp2_with fail
      (with_reducible refine (ht.out).mono ?_)
      rintro _ w3 ⟨rfl, u3⟩
      have hw3 := Lib.hid (hw.out.trans u3)
      have hgw : nG ≤ w3.heap.size := Nat.le_trans HGW.out hw3.out.size
      clear u3 ht
      go_wp2_with (at_builtin; refine wpList_appL rfl _ _ 25 rfl w3.heap.size 9 _ 1 16 Tryz.underlying25 infoStrF rfl (by decide) (.slice none 0 0) 0 [] rfl (World.ownsRow_nil _ _ _ _) [.string ⟨#[120, 61, 48]⟩] rfl rfl (by intro u hu; rw [List.mem_singleton.1 hu]; rfl) (by unfold maxLen; omega) (by omega) (Nat.le_refl _) hgw ?_)
      intro v' w4 ho hu hb
      obtain ⟨a, cap, rfl, -, ha⟩ := (Sl.of_owns ho).open_
      rcases ha with ⟨_, _, hnil⟩ | ⟨bb, oo, rfl, _, _, _, hcell⟩
      · cases hnil
      have hc := Lib.hid (hcell 0 (by decide))
      have hw4 := Lib.hid (hw3.out.trans' hu (fun k _ e => by cases e))
      clear hcell ho hu hb
      go_wp2_with fail
      go_roundw
      case rel => exact ⟨1, by omega, by go_num, hw4.out, (fun h => by cases h), fun _ => ⟨bb, oo, cap, rfl, hc.out⟩⟩
      case measure => simp [intOf]
    · obtain ⟨bb, oo, cap, rfl, hc⟩ := h1 rfl
      clear h0 h1
      have hj := Lib.hid (Join_one bb oo cap _ wr hc)
      clear hc
      go_wp2_with fail
      (with_reducible refine (hj.out).mono ?_)
      rintro _ _ ⟨rfl, rfl⟩
      go_wp2_with fail
      go_ret
      exact ⟨rfl, HN.out.trans hw.out⟩
end Go.Proofs.YtcelfjoopagmlaaGreatDoor
