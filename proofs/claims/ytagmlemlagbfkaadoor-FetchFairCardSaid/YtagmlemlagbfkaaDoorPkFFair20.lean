/- fetch.Take. -/
import Derived.Test.YtagmlemlagbfkaaDoorPkFFair19
namespace Go.Proofs.YtagmlemlagbfkaaDoor
open Go.RowKit
set_option linter.unusedVariables false
set_option linter.unusedSimpArgs false
attribute [local irreducible] Calls

/-- What Take leaves. -/
def TakeD (w : World) (db : Nat) (x : FtR) (j : Jr.Jn) (cs : List (List UInt8)) (m : Ck.Man) (D : Dk.Disk) (F : Nat → Prop) (i : Int) (t : List UInt8) (z : World) (e : Ending) (z' : World) : Prop :=
  e = .returned (.int .i64 (Ft.take D cs m j i t).2.2) ∧ ∃ x' : FtR, x'.fb = x.fb ∧ FS w db x' (Ft.take D cs m j i t).2.1 cs m (Ft.take D cs m j i t).1 F z' ∧ Moves w F z z'
section
variable {w : World} {db : Nat} {x : FtR} {j j' : Jr.Jn} {cs : List (List UInt8)} {m : Ck.Man} {D D' : Dk.Disk} {F S : Nat → Prop} {z z' : World} {i : Int} {t : List UInt8}
theorem TakeD.no_ {n : Int} (h : FS w db x j cs m D F z) (e : Ft.take D cs m j i t = (D, j, n)) (u : Nw z z') : TakeD w db x j cs m D F i t z (.returned (.int .i64 n)) z' := by
  unfold TakeD
  rw [e]
  exact ⟨rfl, x, rfl, h.nw u, Nw.upd _ u⟩
theorem TakeD.err {n : Int} {x : FtR} (h : FS w db x j cs m D F z) (e : Ft.take D cs m j i t = Jr.append D j t) (e2 : (Jr.append D j t).2.2 = n) (hn : n ≠ 0) (u0 : Nw z z') {z'' : World} (u : Moves w (fun k => F k ∨ x.foot k) z' z'')
    (h' : GS w db (some (x.jb, (Jr.append D j t).2.1)) (Jr.append D j t).1 (fun k => F k ∨ x.foot k) z'') : TakeD w db x j cs m D F i t z (.returned (.int .i64 n)) z'' := by
  unfold TakeD
  rw [e, e2]
  have hr : Ft.come cs (Jr.append D j t).2.1 = Ft.come cs j := by
    rcases Ft.append_recs D j t with ⟨h1, _⟩ | ⟨_, h2⟩
    · rw [e2] at h1; exact absurd h1 hn
    · unfold Ft.come; rw [h2]
  obtain ⟨k1, k2⟩ := (h.nw u0).of_gs u h' hr
  exact ⟨rfl, x, rfl, k1, Nw.trans u0 k2⟩
theorem TakeD.ok {x : FtR} {p : Int} {v' : Value} {z1 z2 z3 : World} (h : FS w db x j cs m D F z) (e : Ft.take D cs m j i t = Jr.append D j t) (e2 : (Jr.append D j t).2.2 = 0) (hp : Ft.prOf cs t = p) (u0 : Nw z z1) (u : Moves w (fun k => F k ∨ x.foot k) z1 z2)
    (h' : GS w db (some (x.jb, (Jr.append D j t).2.1)) (Jr.append D j t).1 (fun k => F k ∨ x.foot k) z2)
    (o2 : z3.ownsRow w.heap.size 3 1 v' ((Ft.come cs j).length + 1) ((Ft.come cs j).map intD ++ [.int .i64 p])) (u2 : Upd (fun k => x.ov.ownBlock = some k) z2 z3)
    (hb : ∀ k, v'.ownBlock = some k → x.ov.ownBlock = some k ∨ z2.heap.size ≤ k) : TakeD w db x j cs m D F i t z (.returned (.int .i64 0)) (z3.setCell ⟨x.fb, 5, none⟩ v') := by
  unfold TakeD
  rw [e, e2]
  have hr : Ft.come cs (Jr.append D j t).2.1 = Ft.come cs j ++ [p] := by
    rcases Ft.append_recs D j t with ⟨_, h2⟩ | ⟨h1, _⟩
    · unfold Ft.come; rw [h2, List.map_append, ← hp]; rfl
    · exact absurd e2 h1
  have hft : FtAt w.heap.size z2 x cs m (Ft.come cs j) := (h.ft.nw u0).upd u (fun k hk s => s.1 (Or.inr hk))
  obtain ⟨k1, k2, k3⟩ := hft.more o2 u2 hb
  have hz := u2.size
  have hov : ∀ k, (k = x.fb ∨ x.ov.ownBlock = some k) → x.foot k := fun k s => s.imp id (fun s => Or.inr (Or.inr s))
  refine ⟨rfl, { x with ov := v' }, rfl, ⟨h'.upd_keep k2 (fun k s => Or.inl ⟨Or.inr (hov k s), (hft.foot_lt (hov k s)).1⟩) (fun k hk => ?_), by rw [hr]; exact k1, fun k hk s => ?_⟩, (Nw.trans u0 (u.mono (S' := fun k => ¬ F k ∧ w.heap.size ≤ k) (fun k _ s => ⟨fun f => s.1 (Or.inl f), s.2⟩))).trans' k2 (fun k hk s => ⟨fun f => h.ap k f (hov k s), (hft.foot_lt (hov k s)).1⟩)⟩
  · rcases hk with hk | hk
    · exact Or.inl (Or.inl hk)
    · exact (k3 k hk).imp Or.inr id
  · rcases k3 k s with a | a
    · exact h.ap k hk a
    · obtain ⟨d, _, hd, _, h3, _⟩ := h'
      have := (h3 k (Or.inl hk)).1; omega
set_option maxHeartbeats 4000000 in
set_option maxRecDepth 100000 in
theorem take_t (h : FS w db x j cs m D F z) (g : Gl w) (hk : m.chunks.length ≤ 1000000) (hr : j.recs.length ≤ 1000000) (hcs : cs.length ≤ 90) (hn : cs.Nodup) (hi : I64 i) (ht : t.length ≤ 1000000) :
    Calls Tryd.prog 10 #[.pointer (some ⟨x.fb, 0, none⟩), .int .i64 i, .string ⟨t.toArray⟩] z (TakeD w db x j cs m D F i t z) := by
  obtain ⟨c0, c1, c2, c3, c4, c5⟩ := h.ft.cells
  have hg := h.gl g
  have HH := Lib.hid h
  have HI := Lib.hid hi
  have HCk := Lib.hid (fun (y : World) (u : Nw z y) => check_c _ _ _ _ x.cv cs m.print m.size x.kv m.chunks i hi t y (Sl.of_owns (h.nw u).ft.oc) hcs (Sl.of_owns (h.nw u).ft.ok) hk)
  have HCo := Lib.hid (fun (y : World) (p : Int) (u : Nw z y) => contains_iN _ _ x.ov (Ft.come cs j) p y (Sl.of_owns (h.nw u).ft.oo) (by rw [come_len]; exact hr))
  have HKc := Lib.hid (int_cells (Sl.of_owns h.ft.ok))
  obtain ⟨ac, cc, hcv⟩ := own_slG h.ft.oc
  obtain ⟨ak, ck, hkv⟩ := own_slG h.ft.ok
  obtain ⟨ao, co, hov⟩ := own_slG h.ft.oo
  rw [hcv] at c1 HCk
  rw [hkv] at c4 HCk HKc
  rw [hov] at c5 HCo
  have hk1 : (m.chunks.length : Int) ≤ 1000000 := by omega
  have HCV := Lib.hid hcv
  have HKV := Lib.hid hkv
  have HOV := Lib.hid hov
  clear h hcv hkv hov
  unfold I64 at hi
  obtain ⟨hi1, hi2⟩ := hi
  by_cases h0 : i < 0
  · have d0 : decide (i < 0) = true := decide_eq_true h0
    have hfin := Lib.hid (fun (y : World) (u : Nw z y) => TakeD.no_ (t := t) HH.out (n := 3) (by unfold Ft.take; rw [if_pos (Or.inl h0)]) u)
    clear h0 HCk HCo HKc
    go_enter Tryd.func10, Tryd.ntmps10
    go_wp2_with fail
    go_ret
    exact hfin.out _ (Upd.refl _ _)
  have d0 : decide (i < 0) = false := decide_eq_false h0
  by_cases h1 : (m.chunks.length : Int) ≤ i
  · have d1 : decide ((m.chunks.length : Int) ≤ i) = true := decide_eq_true h1
    have hfin := Lib.hid (fun (y : World) (u : Nw z y) => TakeD.no_ (t := t) HH.out (n := 3) (by unfold Ft.take; rw [if_pos (Or.inr h1)]) u)
    clear h0 h1 HCk HCo HKc
    go_enter Tryd.func10, Tryd.ntmps10
    go_wp2_with fail
    go_ret
    exact hfin.out _ (Upd.refl _ _)
  have d1 : decide ((m.chunks.length : Int) ≤ i) = false := decide_eq_false h1
  obtain ⟨n, rfl⟩ : ∃ n : Nat, i = n := ⟨i.toNat, by omega⟩
  have hnl : n < m.chunks.length := by omega
  have hnl1 : (n : Int) < m.chunks.length := by omega
  have HT0 : Hid (∀ r, Ft.take D cs m j n t = r ↔ (if Ft.checkM cs m.chunks n t = false then (D, j, 28) else if m.chunks[n] ∈ Ft.come cs j then (D, j, 0) else Jr.append D j t) = r) := fun r => by
    unfold Ft.take
    rw [if_neg (by omega)]
    simp [hnl]
  have m1 : ∀ k : Later z, k.1.cell? ⟨x.fb, 1, none⟩ = some (.slice ac cs.length cc) := fun k => later_cell k c1
  have m2 : ∀ k : Later z, k.1.cell? ⟨x.fb, 2, none⟩ = some (.int .i64 m.print) := fun k => later_cell k c2
  have m3 : ∀ k : Later z, k.1.cell? ⟨x.fb, 3, none⟩ = some (.int .i64 m.size) := fun k => later_cell k c3
  have m4 : ∀ k : Later z, k.1.cell? ⟨x.fb, 4, none⟩ = some (.slice ak m.chunks.length ck) := fun k => later_cell k c4
  have HCh : Hid (Ft.checkM cs m.chunks n t = true → Ft.prOf cs t = m.chunks[n]) := fun h => by
    unfold Ft.checkM at h
    simp only [Bool.and_eq_true, decide_eq_true_eq] at h
    obtain ⟨_, h2, h3⟩ := h
    have e : m.chunks.getD (n : Int).toNat 0 = m.chunks[n] := by simp [hnl]
    rw [e] at h2 h3
    rw [← h3]
    exact Ft.print_of hn h2
  clear h0 h1
  cases hq : Ft.checkM cs m.chunks n t with
  | false =>
    have hfin := Lib.hid (fun (y : World) (u : Nw z y) => TakeD.no_ (t := t) (i := n) HH.out (n := 28) ((HT0.out _).2 (if_pos hq)) u)
    rw [hq] at HCk
    clear HT0 HCh hq HCo HKc
    go_enter Tryd.func10, Tryd.ntmps10
    go_wp2_with fail
    refine wp_region_nw (by kernel_rfl) (by kernel_rfl) ?_
    repeat (go_big_quiet_step ((go_at_call 11; exact later_call (HCk.out _ (Later.nw _)))))
    refine wpQuiet_nil ?_
    intro w2 u2
    replace u2 := later_out u2
    go_wp2_with fail
    go_ret
    exact hfin.out _ u2
  | true =>
    have hp := HCh.out hq
    rcases HKc.out with ⟨_, _, e, _, hnil | ⟨b, off, e2, _, _, hcell⟩⟩
    · simp [hnil] at hnl
    injection e with e3 e4 e5
    subst e3 e5
    subst e2
    have k0 := hcell n hnl
    have HT1 : Hid (∀ r, Ft.take D cs m j n t = r ↔ (if m.chunks[n] ∈ Ft.come cs j then (D, j, 0) else Jr.append D j t) = r) := fun r => by
      rw [HT0.out, if_neg (by rw [hq]; decide)]
    rw [hq] at HCk
    have HP := Lib.hid hp
    clear HT0 HCh hq hcell HKc hp
    generalize m.chunks[n] = p at *
    by_cases hc : p ∈ Ft.come cs j
    · have hfin := Lib.hid (fun (y : World) (u : Nw z y) => TakeD.no_ (t := t) (i := n) HH.out (n := 0) ((HT1.out _).2 (if_pos hc)) u)
      have hy := Lib.hid (fun (y : World) (u : Nw z y) => (show Calls Tryd.prog 19 #[.slice ao (Ft.come cs j).length co, .int .i64 p] y fun e w' => e = .returned (.bool true) ∧ Nw y w' from by have := HCo.out y p u; rw [decide_eq_true hc] at this; exact this))
      clear HT1 hc HCo
      go_enter Tryd.func10, Tryd.ntmps10
      go_wp2_with fail
      refine wp_region_nw (by kernel_rfl) (by kernel_rfl) ?_
      repeat (go_big_quiet_step ((go_at_call 11; exact later_call (HCk.out _ (Later.nw _)))))
      refine wpQuiet_nil ?_
      intro w2 u2
      replace u2 := later_out u2
      have c4' := nw_cell u2 c4
      have c5' := nw_cell u2 c5
      have k0' := nw_cell u2 k0
      have hy2 := Lib.hid (hy.out w2 u2)
      have U2 := Lib.hid u2
      clear hy u2
      go_wp2_with fail
      (with_reducible refine (hy2.out).mono ?_)
      rintro _ w3 ⟨rfl, u3⟩
      have U3 := Lib.hid (U2.out.trans u3)
      clear u3 hy2
      go_wp2_with fail
      go_ret
      exact hfin.out _ U3.out
    · have hy := Lib.hid (fun (y : World) (u : Nw z y) => (show Calls Tryd.prog 19 #[.slice ao (Ft.come cs j).length co, .int .i64 p] y fun e w' => e = .returned (.bool false) ∧ Nw y w' from by have := HCo.out y p u; rw [decide_eq_false hc] at this; exact this))
      have HA : Hid (Ft.take D cs m j n t = Jr.append D j t) := (HT1.out _).2 (if_neg hc)
      have HAp := Lib.hid (fun (y : World) (u : Nw z y) => append_t (HH.out.nw u).gs g t ht)
      have hcl := come_len cs j
      have hcl1 : ((Ft.come cs j).length : Int) ≤ 1000000 := by omega
      clear HT1 hc HCo hcl
      go_enter Tryd.func10, Tryd.ntmps10
      go_wp2_with fail
      refine wp_region_nw (by kernel_rfl) (by kernel_rfl) ?_
      repeat (go_big_quiet_step ((go_at_call 11; exact later_call (HCk.out _ (Later.nw _)))))
      refine wpQuiet_nil ?_
      intro w2 u2
      replace u2 := later_out u2
      have c4' := nw_cell u2 c4
      have c5' := nw_cell u2 c5
      have k0' := nw_cell u2 k0
      have hy2 := Lib.hid (hy.out w2 u2)
      have U2 := Lib.hid u2
      clear hy u2
      go_wp2_with fail
      (with_reducible refine (hy2.out).mono ?_)
      rintro _ w3 ⟨rfl, u3⟩
      have U3 := Lib.hid (U2.out.trans u3)
      have c0' := nw_cell U3.out c0
      have ha := Lib.hid (HAp.out w3 U3.out)
      clear u3 hy2 HAp c4' c5' k0'
      go_wp2_with fail
      (with_reducible refine (ha.out).mono ?_)
      rintro _ w4 ⟨rfl, s4, u4⟩
      have HS4 := Lib.hid s4
      have HU4 := Lib.hid u4
      have h4 : FtAt w.heap.size w4 x cs m (Ft.come cs j) := (HH.out.nw U3.out).ft.upd u4 (fun k hk s => s.1 (Or.inr hk))
      obtain ⟨_, _, _, _, _, c5'⟩ := h4.cells
      rw [HOV.out] at c5'
      have f5' := cells_frozen h4.blk 5
      have H4 := Lib.hid h4
      clear s4 u4 ha h4
      generalize hAp : Jr.append D j t = R at *
      by_cases he : R.2.2 = 0
      · have d2 : (R.2.2 == 0) = true := by simp [he]
        have d3 : (R.2.2 != 0) = false := by simp [he]
        have HO : Hid (w4.ownsRow w.heap.size 3 1 (.slice ao (Ft.come cs j).length co) (Ft.come cs j).length ((Ft.come cs j).map intD)) := by rw [← HOV.out]; exact H4.out.oo
        have hz4 : w.heap.size ≤ w4.heap.size := by have := H4.out.fb; have := lt_of_block H4.out.blk; omega
        have hgw : nG ≤ w.heap.size := H4.out.hb
        have HE := Lib.hid he
        clear he
        go_wp2_with (at_builtin; refine wpList_appL rfl _ _ 24 rfl w.heap.size 3 _ 1 8 Tryd.underlying24 infoIntU rfl (by decide) _ _ _ rfl HO.out [.int .i64 p] rfl rfl ?c1 ?c2 ?c3 hz4 hgw ?_)
        case c1 => intro u hu; rw [List.mem_singleton.1 hu]; rfl
        case c2 => unfold maxLen; omega
        case c3 => omega
        intro v' w9 o9 u9 hob
        obtain ⟨a9, c9, rfl⟩ := own_slG o9
        rw [← HOV.out] at u9 hob
        have hne : x.ov.ownBlock ≠ some x.fb := fun e => by
          obtain ⟨_, c, hc⟩ := own_block H4.out.oo e
          rw [H4.out.blk] at hc
          injection hc with hc
          injection hc with _ hc
          exact absurd hc (by decide)
        have kb := u9.keep H4.out.blk hne
        have q1 := cells_cell kb 5
        have q2 := cells_frozen kb 5
        simp only [List.getElem?_toArray, List.getElem?_cons_succ, List.getElem?_cons_zero] at q1
        subst hAp
        have hfin := Lib.hid (TakeD.ok HH.out HA.out HE.out HP.out U3.out HU4.out HS4.out o9 u9 hob)
        clear o9 u9 hob kb hne
        go_wp2_with fail
        go_ret
        exact hfin.out
      · have d2 : (R.2.2 == 0) = false := by simp [he]
        have d3 : (R.2.2 != 0) = true := by simp [he]
        subst hAp
        have hfin := Lib.hid (TakeD.err HH.out HA.out rfl he U3.out HU4.out HS4.out)
        clear he c5' f5'
        generalize (Jr.append D j t).2.2 = n2 at *
        go_wp2_with fail
        go_ret
        exact hfin.out
end
end Go.Proofs.YtagmlemlagbfkaaDoor
