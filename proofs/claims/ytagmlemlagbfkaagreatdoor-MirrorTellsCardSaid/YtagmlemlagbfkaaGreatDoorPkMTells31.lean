/- The contract of the reference's view: Accept. -/
import Derived.Test.YtagmlemlagbfkaaGreatDoorPkMTells30
namespace Go.Proofs.YtagmlemlagbfkaaGreatDoor
open Go.RowKit
set_option linter.unusedVariables false
set_option linter.unusedSimpArgs false
attribute [local irreducible] Calls

def QAccPost (B : Nat) (c : QView) (qb : Nat) (key : Int) (y : Int × List Bk.Sgn) (w : World) (e : Ending) (w' : World) : Prop :=
  ∃ c', e = .returned (.int .i64 y.1) ∧ QViewAt B w' c' qb key y.2 ∧ c'.cb = c.cb ∧ Upd c.foot w w' ∧ ∀ j, c'.foot j → c.foot j ∨ w.heap.size ≤ j
theorem qacc_same {B : Nat} {c : QView} {qb : Nat} {key : Int} {L : List Bk.Sgn} {w w' : World} {y : Int × List Bk.Sgn} {n : Int} (h : QViewAt B w c qb key L) (u : Nw w w') (hy : y = (n, L)) : QAccPost B c qb key y w (.returned (.int .i64 n)) w' := by
  subst hy
  exact ⟨c, rfl, h.nw u, rfl, Nw.upd _ u, fun j hj => Or.inl hj⟩
/-- What 'v.L = append(v.L, s)' leaves. -/
theorem qvapp_done {B : Nat} {c : QView} {qb : Nat} {key : Int} {L : List Bk.Sgn} {s : Bk.Sgn} {v' : Value} {w3 w5 : World} (h : QViewAt B w3 c qb key L) (hown : w5.ownsRow B tSigned 3 v' (L.length + 1) (flatS L ++ sgl s)) (u : Upd (fun k => c.ev.ownBlock = some k) w3 w5)
    (hob : ∀ k, v'.ownBlock = some k → c.ev.ownBlock = some k ∨ w3.heap.size ≤ k) :
    w5.cell? ⟨c.cb, 2, none⟩ = some c.ev ∧ w5.frozen? ⟨c.cb, 2, none⟩ = false ∧ QViewAt B (w5.setCell ⟨c.cb, 2, none⟩ v') ⟨c.cb, v'⟩ qb key (L ++ [s]) ∧ Upd c.foot w3 (w5.setCell ⟨c.cb, 2, none⟩ v') ∧ ∀ j, QView.foot ⟨c.cb, v'⟩ j → c.foot j ∨ w3.heap.size ≤ j := by
  have hlt := lt_of_block h.blk
  have hne1 : c.ev.ownBlock ≠ some c.cb := by
    intro e
    obtain ⟨_, cs, hh⟩ := own_block h.own e
    have := h.blk
    rw [hh] at this
    simp [tQView, tSigned] at this
  have hne2 : v'.ownBlock ≠ some c.cb := by
    intro e
    rcases hob _ e with e | e
    · exact hne1 e
    · omega
  have k5 := u.keep h.blk hne1
  have hqb := h.cb
  have hhb := h.hb
  have z : Upd (fun x => x = c.cb) w5 (w5.setCell ⟨c.cb, 2, none⟩ v') := Upd.set1 (Upd.refl _ _) (by omega) 2 _
  have k6 := setCell_block k5 2 v'
  refine ⟨by rw [cells_cell k5]; rfl, cells_frozen k5 2, ⟨h.hb, h.cb, k6, ?_, h.key⟩, (u.mono (S' := c.foot) (fun k _ e => Or.inr e)).trans' z (fun k _ e => Or.inl e), ?_⟩
  · rw [List.length_append, List.length_singleton, flatS_snoc]
    exact owns_upd' hown z (fun k hk e => by subst e; exact hne2 hk)
  · rintro j (rfl | hj)
    · exact Or.inl (Or.inl rfl)
    · exact (hob j hj).imp (fun e => Or.inr e) id
theorem clash_clashes {L : List Bk.Sgn} {s : Bk.Sgn} (h : (Cl.read s.text).2 = true) : (Vw.clash L s).2 = Vw.clashes L (Vw.claimOf s) := by
  unfold Vw.clash Vw.clashes
  rw [if_neg (by rw [h]; simp)]
  cases hf : L.find? (fun x => Cl.contra (Vw.claimOf x) (Vw.claimOf s)) with
  | none =>
    show false = _
    symm
    rw [List.any_eq_false]
    intro x hx
    exact List.find?_eq_none.1 hf x hx
  | some x =>
    show true = _
    symm
    rw [List.any_eq_true]
    exact ⟨x, List.mem_of_find?_eq_some hf, List.find?_some (p := fun x => Cl.contra (Vw.claimOf x) (Vw.claimOf s)) hf⟩
theorem kind_le {l : List UInt8} (h : (Cl.read l).2 = true) : 0 ≤ (Cl.read l).1.kind ∧ (Cl.read l).1.kind ≤ 4 := by
  obtain ⟨h1, h2⟩ := Cl.read_inv (s := l) (c := (Cl.read l).1) (by rw [← h])
  exact ⟨(Cl.right_bounds h1).1, (Cl.right_bounds h1).2.1⟩
set_option maxHeartbeats 8000000 in
set_option maxRecDepth 100000 in
theorem acceptv_q (B Bq : Nat) (c : QView) (q : QRing) (key : Int) (Lr : List Bk.Seal) (L : List Bk.Sgn) (s : Bk.Sgn) (w : World) (g : Gl w) (hq : QRingAt Bq w q Lr) (hn : Lr.Nodup) (hLr : Lr.length ≤ 1000000) (h : QViewAt B w c q.qb key L) (hlog : ∀ s ∈ L, Vw.isLog s.text = true) (hs : SgnOk s) (hB : B ≤ w.heap.size) (hL : L.length ≤ 900000) :
    Calls Tryz.prog 95 #[.pointer (some ⟨c.cb, 0, none⟩), .agg #[.int .i64 s.key, .string ⟨s.text.toArray⟩, .int .i64 s.mark]] w (QAccPost B c q.qb key (Vw.accept Lr key L s) w) := by
  have hgb := g.big
  have n1 := nw_alloc w (.cells #[.int .i64 s.key, .string ⟨s.text.toArray⟩, .int .i64 s.mark] tSigned)
  have k1 := heap_new w (.cells #[.int .i64 s.key, .string ⟨s.text.toArray⟩, .int .i64 s.mark] tSigned)
  have hA : Vw.accept Lr key L s = (if Bk.valid Lr s = false then ((18 : Int), L) else if s.key ≠ key then (22, L) else if Vw.isLog s.text = false then (2, L) else if Vw.clashes L (Vw.claimOf s) = true then (21, L) else if s ∈ L then (0, L) else (0, L ++ [s])) := rfl
  have HA := Lib.hid hA
  have hlg : Vw.isLog s.text = ((Cl.read s.text).2 && decide ((Cl.read s.text).1.kind ≤ 2)) := rfl
  have Hlg := Lib.hid hlg
  generalize hW : w.alloc (.cells #[.int .i64 s.key, .string ⟨s.text.toArray⟩, .int .i64 s.mark] tSigned) = W at *
  have HW := Lib.hid hW
  have H := Lib.hid h
  have H1 := Lib.hid (h.nw n1)
  have hv := fun i : Later W => valid_q Bq q Lr s i.1 ((g.upd n1).upd i.nw) ((hq.nw n1).nw i.nw) hn hLr hs
  have HV := Lib.hid hv
  have Hlog := Lib.hid hlog
  have Hs := Lib.hid hs
  have hic := Lib.hid (read_i64 s.text)
  have Hcl := Lib.hid (fun (h : (Cl.read s.text).2 = true) => clash_clashes (L := L) h)
  have Hkl := Lib.hid (fun (h : (Cl.read s.text).2 = true) => kind_le h)
  obtain ⟨_, _, _⟩ := later3 k1
  have hc0 := fun i : Later W => ((h.nw n1).nw i.nw).cells.1
  have K1 := Lib.hid k1
  clear hA hlg hW h hq hn hv hlog hs k1
  go_enter Tryz.func95, Tryz.ntmps95
  go_wp2_with fail
  rw [HW.out]
  refine wp_region_nw (by kernel_rfl) (by kernel_rfl) ?_
  repeat (go_big_quiet_step ((go_at_call 147; exact later_call (HV.out _))))
  refine wpQuiet_nil ?_
  intro w2 u2
  replace u2 := later_out u2
  have U2 := n1.trans u2
  clear hc0
  generalize hvv : Bk.valid Lr s = vv at *
  have Hvv := Lib.hid hvv
  clear hvv
  cases vv with
  | false =>
    have hr : Hid (Vw.accept Lr key L s = (18, L)) := by show _ = _; rw [HA.out, if_pos rfl]
    go_wp2_with fail
    go_ret
    exact qacc_same H.out U2 hr.out
  | true =>
  have hA := HA.out
  rw [if_neg (by simp)] at hA
  replace HA := Lib.hid hA
  clear hA
  have k2 := u2.keep K1.out
  obtain ⟨_, _, _⟩ := later3 k2
  have hc1 := fun i : Later w2 => ((H.out.nw U2).nw i.nw).cells.2.1
  have K2 := Lib.hid k2
  clear k2
  by_cases hk : s.key = key
  rotate_left
  · have hr : Hid (Vw.accept Lr key L s = (22, L)) := by show _ = _; rw [HA.out, if_pos hk]
    have dk : (s.key == key) = false := beq_eq_false_iff_ne.2 hk
    have dk2 : (s.key != key) = true := by simp [bne, dk]
    clear hk
    go_wp2_with fail
    refine wp_region_nw (by kernel_rfl) (by kernel_rfl) ?_
    repeat (go_big_quiet_step ((fail)))
    refine wpQuiet_nil ?_
    intro w3 u3
    replace u3 := later_out u3
    go_wp2_with fail
    go_ret
    exact qacc_same H.out (U2.trans u3) hr.out
  have hA := HA.out
  rw [if_neg (by simpa using hk)] at hA
  replace HA := Lib.hid hA
  have dk : (s.key == key) = true := beq_iff_eq.2 hk
  have dk2 : (s.key != key) = false := by simp [bne, dk]
  clear hA hk
  go_wp2_with fail
  refine wp_region_nw (by kernel_rfl) (by kernel_rfl) ?_
  repeat (go_big_quiet_step ((fail)))
  refine wpQuiet_nil ?_
  intro w3 u3
  replace u3 := later_out u3
  have U3 := U2.trans u3
  have g3 := g.upd U3
  have k3 := u3.keep K2.out
  obtain ⟨_, _, _⟩ := cell3 k3
  have K3 := Lib.hid k3
  have hrd := cread_gen ⟨s.text.toArray⟩ s.text (Cl.read s.text).1 (Cl.read s.text).2 (if (Cl.read s.text).2 then 0 else 2) (bs_list _) rfl rfl (Nat.le_trans Hs.out.t (by decide)) w3 g3
  have hclm : Vw.claimOf s = (Cl.read s.text).1 := rfl
  have Hclm := Lib.hid hclm
  clear k3 hc1 dk dk2 hclm
  generalize hry : Cl.read s.text = ry at *
  obtain ⟨⟨y0, y1, y2, y3⟩, ok⟩ := ry
  dsimp only at *
  have Hry := Lib.hid hry
  clear hry
  cases ok with
  | false =>
    have hr : Hid (Vw.accept Lr key L s = (2, L)) := by show _ = _; rw [HA.out, if_pos (by rw [Hlg.out]; rfl)]
    rw [if_neg (by simp)] at hrd
    have Hrd := Lib.hid hrd
    clear hrd
    go_wp2_with fail
    (with_reducible refine (Hrd.out).mono ?_)
    rintro _ w4 ⟨rfl, u4⟩
    have u5 := U3.trans (u4.alloc (.cells #[.int .i64 y0, .int .i64 y1, .int .i64 y2, .string ⟨y3.toArray⟩] tC))
    go_wp2_with fail
    go_ret
    exact qacc_same H.out u5 hr.out
  | true =>
  rw [if_pos rfl] at hrd
  have Hrd := Lib.hid hrd
  have Hcl2 := Lib.hid (Hcl.out rfl)
  have hky := Hkl.out rfl
  have hlg := Hlg.out
  rw [Bool.true_and] at hlg
  clear hrd
  by_cases hk3 : y0 = 3
  · have hr : Hid (Vw.accept Lr key L s = (2, L)) := by show _ = _; rw [HA.out, if_pos (by rw [hlg, decide_eq_false_iff_not]; omega)]
    subst hk3
    clear hlg hky
    go_wp2_with fail
    (with_reducible refine (Hrd.out).mono ?_)
    rintro _ w4 ⟨rfl, u4⟩
    have u5 := U3.trans (u4.alloc (.cells #[.int .i64 3, .int .i64 y1, .int .i64 y2, .string ⟨y3.toArray⟩] tC))
    go_wp2_with fail
    go_ret
    exact qacc_same H.out u5 hr.out
  have d3 : (y0 == 3) = false := beq_eq_false_iff_ne.2 hk3
  by_cases hk4 : y0 = 4
  · have hr : Hid (Vw.accept Lr key L s = (2, L)) := by show _ = _; rw [HA.out, if_pos (by rw [hlg, decide_eq_false_iff_not]; omega)]
    subst hk4
    clear hlg hky hk3
    go_wp2_with fail
    (with_reducible refine (Hrd.out).mono ?_)
    rintro _ w4 ⟨rfl, u4⟩
    have u5 := U3.trans (u4.alloc (.cells #[.int .i64 4, .int .i64 y1, .int .i64 y2, .string ⟨y3.toArray⟩] tC))
    go_wp2_with fail
    go_ret
    exact qacc_same H.out u5 hr.out
  have d4 : (y0 == 4) = false := beq_eq_false_iff_ne.2 hk4
  have hA := HA.out
  rw [if_neg (by rw [hlg, decide_eq_false_iff_not]; omega)] at hA
  replace HA := Lib.hid hA
  clear hA hlg hky hk3 hk4
  go_wp2_with fail
  (with_reducible refine (Hrd.out).mono ?_)
  rintro _ w4 ⟨rfl, u4⟩
  have n5 := u4.alloc (.cells #[.int .i64 y0, .int .i64 y1, .int .i64 y2, .string ⟨y3.toArray⟩] tC)
  have U5 := U3.trans n5
  have k5 := Nw.keep n5 K3.out
  obtain ⟨_, _, _⟩ := cell3 k5
  have K5 := Lib.hid k5
  have hcs := clash_q B c q.qb key L _ (g.upd U5) (H.out.nw U5) Hlog.out s Hs.out hL
  rw [← Hcl2.out] at HA
  obtain ⟨⟨cx, cb⟩, hcc⟩ : ∃ p, Vw.clash L s = p := ⟨_, rfl⟩
  rw [hcc] at hcs HA
  obtain ⟨cxk, cxt, cxm⟩ := cx
  unfold sgnV at hcs
  dsimp only at hcs HA
  have Hcs := Lib.hid hcs
  clear hcs hcc k5
  go_wp2_with fail
  (with_reducible refine (Hcs.out).mono ?_)
  rintro _ w6 ⟨rfl, u6⟩
  have n7 := u6.alloc (.cells #[.int .i64 cxk, .string ⟨cxt.toArray⟩, .int .i64 cxm] tSigned)
  have U7 := U5.trans n7
  cases cb with
  | true =>
    have hr : Hid (Vw.accept Lr key L s = (21, L)) := by show _ = _; rw [HA.out, if_pos rfl]
    go_wp2_with fail
    go_ret
    exact qacc_same H.out U7 hr.out
  | false =>
  have hA := HA.out
  rw [if_neg (by simp)] at hA
  replace HA := Lib.hid hA
  have k7 := Nw.keep n7 K5.out
  obtain ⟨_, _, _⟩ := cell3 k7
  have K7 := Lib.hid k7
  have hhd := had_q B c q.qb key L _ (g.upd U7) (H.out.nw U7) s hL
  have Hhd := Lib.hid hhd
  clear hA k7 hhd
  by_cases hmem : s ∈ L
  · have hr : Hid (Vw.accept Lr key L s = (0, L)) := by show _ = _; rw [HA.out, if_pos hmem]
    have hh := Hhd.out
    rw [decide_eq_true hmem] at hh
    replace Hhd := Lib.hid hh
    clear hh
    go_wp2_with fail
    (with_reducible refine (Hhd.out).mono ?_)
    rintro _ w8 ⟨rfl, u8⟩
    go_wp2_with fail
    go_ret
    exact qacc_same H.out (U7.trans u8) hr.out
  have hr : Hid (Vw.accept Lr key L s = (0, L ++ [s])) := by show _ = _; rw [HA.out, if_neg hmem]
  have hh := Hhd.out
  rw [decide_eq_false hmem] at hh
  replace Hhd := Lib.hid hh
  clear hh hmem
  go_wp2_with fail
  (with_reducible refine (Hhd.out).mono ?_)
  rintro _ w8 ⟨rfl, u8⟩
  have U8 := U7.trans u8
  have k8 := u8.keep K7.out
  obtain ⟨_, _, _⟩ := cell3 k8
  have h8 := H.out.nw U8
  obtain ⟨cb, ev⟩ := c
  obtain ⟨a, cap, hev⟩ := own_slice h8.own
  dsimp only at hev
  subst hev
  have c8 := h8.cells.2.2
  dsimp only at c8
  have hB8 : B ≤ w8.heap.size := Nat.le_trans hB U8.size
  have hhb := h8.hb
  have hown := h8.own
  dsimp only at hown
  have hlc := lt_of_block h8.blk
  dsimp only at hlc
  have hne1 : (Value.slice a L.length cap).ownBlock ≠ some cb := by
    intro e
    obtain ⟨_, cs, hh⟩ := own_block hown e
    have := h8.blk
    dsimp only at this
    rw [hh] at this
    simp [tQView, tSigned] at this
  have hne2 : (Value.slice a L.length cap).ownBlock ≠ some w.heap.size := by
    intro e
    obtain ⟨_, cs, hh⟩ := own_block H.out.own e
    have := lt_of_block hh
    omega
  have hcz : ∀ o, (w8.alloc o).cell? ⟨cb, 2, none⟩ = some (.slice a L.length cap) := fun o => (h8.nw (nw_alloc w8 o)).cells.2.2
  have hfz : ∀ o, (w8.alloc o).frozen? ⟨cb, 2, none⟩ = false := fun o => cells_frozen ((nw_alloc w8 o).keep h8.blk) 2
  obtain ⟨_, _, _⟩ := cell3 k8
  obtain ⟨i0, hi0, hz0, hz1, hz2⟩ := info_parts infoSgn
  have H8 := Lib.hid h8
  have K8 := Lib.hid k8
  have hsz := U8.size
  clear h8 k8
  obtain ⟨sk, st, sm⟩ := s
  dsimp only at *
  go_wp2_with fail
  go_region_law
    ((refine step_append_lies _ (by rfl) _ _ _ (by rfl) B tSigned i0 _ 3 32 Tryz.underlying42 hi0 hz0 hz1 hz2 rfl (by omega) (.slice a L.length cap) L.length (flatS L) (by rfl) ((hown.alloc _).drew)
        ⟨w8.heap.size, 0, none⟩ 1 1 [.int .i64 sk, .string ⟨st.toArray⟩, .int .i64 sm] (by rfl) (by rfl) (World.news_of_block (cs := #[.int .i64 sk, .string ⟨st.toArray⟩, .int .i64 sm]) (t := tSigned) (fr := (0, 0)) (heap_alloc_new w8 _)) (by simp [Value.oneCell'])
        (by omega) (by unfold maxLen; omega) (by omega) (by simp; omega) (w8.heap.size + 1) (by simp) ?_; intro gg cap2 w9 hown9 hgrow hat hlt; have hd4 := (hgrow.cell_far ⟨cb, 2, none⟩ (by simp; omega) (Ne.symm hne1)).trans (hcz _); have hf4 := (hgrow.frozen_far ⟨cb, 2, none⟩ (by simp; omega) (Ne.symm hne1)).trans (hfz _)))
  all_goals
    have u9 : Upd (fun k => (Value.slice a L.length cap).ownBlock = some k) w8 w9 := (Nw.upd _ (nw_alloc w8 (.cells #[.int .i64 sk, .string ⟨st.toArray⟩, .int .i64 sm] tSigned)).drew).grown hgrow (fun k hk => ⟨Or.inl hk, by have := (own_block hown hk).1; omega⟩)
    have hd := qvapp_done (s := ⟨sk, st, sm⟩) H8.out hown9 u9 (fun k hk => by
      have e : gg = k := by simpa [Value.ownBlock] using hk
      subst e
      exact hat.imp id (fun e => by omega))
    have HD := Lib.hid hd
    clear hd hown9 u9 hgrow hat hlt hd4 hf4
  all_goals go_wp2_with fail
  all_goals go_ret
  all_goals
    obtain ⟨d0, d1, d2, d3, d4⟩ := HD.out
    unfold QAccPost
    rw [hr.out]
    exact ⟨⟨cb, .slice (some ⟨gg, 0, none⟩) (L.length + 1) cap2⟩, rfl, d2, rfl, (Nw.upd _ U8).trans d3, fun j hj => (d4 j hj).imp id (fun e => by omega)⟩
end Go.Proofs.YtagmlemlagbfkaaGreatDoor
