/- The contract of MirrorBound (chapter 37). -/
import Derived.Test.YtkhdnfmnnapjlaaGreatDoorPlW
import Derived.Test.YtkhdnfmnnapjlaaGreatDoorMirW
namespace Go.Proofs.YtkhdnfmnnapjlaaGreatDoor
open Go.RowKit
set_option linter.unusedVariables false
set_option linter.unusedSimpArgs false
attribute [local irreducible] Calls

/-- What is true behind all acts. -/
structure Played (key : Int) (n : Nat) (s : Mi.PS) (M : List Bk.Sgn) : Prop where
  inv : Mi.PInv key n s M
  n : n ≤ 30
  ln : s.L.length ≤ 3000
  ms : 0 < s.ms.length ∧ s.ms.length ≤ 5
theorem Played.of {key : Int} {modes : List Int} {l : List Mi.PAct} (hk : Bk.isKey key = true ∧ keptM modes ≠ []) (hm : modes.length ≤ 5) (hl : l.length ≤ 30) (hok : ∀ a ∈ l, Mi.ActOk a) :
    ∃ M, Played key l.length (Mi.play (Mi.start key ((keptM modes).map Mi.fresh)) l) M ∧ (Mi.play (Mi.start key ((keptM modes).map Mi.fresh)) l).ms.map (·.mode) = keptM modes := by
  have h0 : Mi.PInv key 0 (Mi.start key ((keptM modes).map Mi.fresh)) [] := Mi.pinv_start hk.1 (fun m hm => by obtain ⟨k, -, rfl⟩ := List.mem_map.1 hm; exact ⟨k, rfl⟩)
  have hms : (Mi.start key ((keptM modes).map Mi.fresh)).ms.length = (keptM modes).length := by show ((keptM modes).map Mi.fresh).length = _; simp
  have hpos : 0 < (keptM modes).length := List.length_pos_iff.2 hk.2
  obtain ⟨⟨M, hi⟩, e⟩ := Mi.play_inv h0 (by omega) l hok l.length (Nat.le_refl _)
  have hln := play_ln h0 (by omega) l hok hl rfl l.length (Nat.le_refl _)
  rw [List.take_length] at hi e hln
  have hlen := congrArg List.length e
  rw [List.length_map, List.length_map, hms] at hlen
  have := keptM_len modes
  refine ⟨M, ⟨hi, hl, by omega, by omega, by omega⟩, e.trans ?_⟩
  show ((keptM modes).map Mi.fresh).map (·.mode) = keptM modes
  rw [List.map_map]
  exact List.map_id' _
theorem Played.binv {key : Int} {n : Nat} {s : Mi.PS} {M : List Bk.Sgn} (h : Played key n s M) : Mi.BInv key s.L s.b M s.an [] s.now :=
  ⟨h.inv.made, fun s hs => (by cases hs), List.nodup_nil, h.inv.ans, h.inv.last, h.inv.now.1⟩
theorem Sl.wide {lo hi hi' : Nat} {w : World} {v : Value} {xs : List Value} (h : Sl lo hi w v xs) (hh : hi ≤ hi') : Sl lo hi' w v xs := by
  rcases h with h | ⟨b, off, cap, h1, h2, h3, h4, h5, h6, h7⟩
  · exact Or.inl h
  · exact Or.inr ⟨b, off, cap, h1, h2, h3, h4, by omega, h6, h7⟩
theorem SlS.wide {sz lo hi hi' : Nat} {w : World} {v : Value} {xs : List (List Value)} (h : SlS sz lo hi w v xs) (hh : hi ≤ hi') : SlS sz lo hi' w v xs := by
  rcases h with h | ⟨b, off, cap, h1, h2, h3, h4, h5, h6, h7⟩
  · exact Or.inl h
  · exact Or.inr ⟨b, off, cap, h1, h2, h3, h4, by omega, h6, h7⟩
theorem new_vany (rb : Nat) (key : Int) (w : World) (g : Gl w) : Calls Tryz.prog 12 #[.pointer (some ⟨rb, 0, none⟩), .int .i64 key] w fun e w' => (∃ vb, e = .returned (.pointer (some ⟨vb, 0, none⟩)) ∧ Nw w w') ∨ (e = .returned (.pointer none) ∧ Nw w w') := by
  refine (new_v rb key w g).mono ?_
  rintro e w' (⟨_, r, rfl, _, u⟩ | ⟨_, rfl, u⟩)
  · exact Or.inl ⟨_, rfl, u⟩
  · exact Or.inr ⟨rfl, u⟩
/-- The loop over the mirrors. -/
def MbL (W : World) (z0 : World) (p : PlR) (s : Mi.PS) (v : PlV) (vb : Nat) (key : Int) (i : Nat) (z : World) : Prop :=
  ∃ L' b' M' Lv', Mi.BInv key L' b' M' s.an Lv' s.now ∧ b'.es.length ≤ 30 ∧ L'.length ≤ 3000 + i * 100 ∧ MbI W (fun _ => False) z0 p { s with L := L', b := b' } v vb key Lv' z
set_option maxHeartbeats 8000000 in
set_option maxRecDepth 100000 in
theorem bound_c (key : Int) (modes : List Int) (mv : Value) (l : List Mi.PAct) (lv : Value) (bound : Int) (W : World) (g : Gl W) (hkey : I64 key) (hm : Sl 0 W.heap.size W mv (modes.map (Value.int .i64))) (hmi : ∀ k ∈ modes, I64 k) (hl : SlS 6 0 W.heap.size W lv (l.map actL)) (hwf : ∀ a ∈ l, ActWf a) (hbd : I64 bound) :
    Calls Tryz.prog 4 #[.int .i64 key, mv, lv, .int .i64 bound] W fun e W' => e = .returned (.bool true) ∧ Nw W W' := by
  obtain ⟨am, cm, emv, hcm, -⟩ := hm.open_
  rw [List.length_map] at hcm emv
  obtain ⟨al, cl, elv, -, -⟩ := act_cells hl
  have hsm := Lib.hid (small37_w W g)
  have HM := Lib.hid (And.intro hm hmi)
  have HL := Lib.hid (And.intro hl hwf)
  have HB := Lib.hid hbd
  have HCM := Lib.hid hcm
  subst emv elv
  clear hm hmi hl hwf hcm
  go_enter Tryz.func4, Tryz.ntmps4
  go_wp2_with fail
  (with_reducible refine (hsm.out).mono ?_)
  rintro _ w1 ⟨rfl, u1⟩
  have U1 := Lib.hid u1
  have g1 := Lib.hid (g.upd u1)
  have hns := Lib.hid (new_s w1 g1.out)
  clear hsm u1
  go_wp2_with fail
  (with_reducible refine (hns.out).mono ?_)
  rintro _ w2 ⟨q, rfl, hq, u2⟩
  have hR : At w1 1 (fun _ => RingC w1.heap.size q.rb []) (fun _ => False) w2 := ((At.start w1 (fun _ _ _ => True)).oneRing g1.out.big u2 hq hq).same fun i hi => by
    obtain rfl : i = 0 := by omega
    simp [setC]
  have HR := Lib.hid hR
  have hmw := HM.out.1.nw (U1.out.trans u2)
  have hlw := HL.out.1.nw (U1.out.trans u2)
  have hfw := Lib.hid (few37_w _ _ _ l am modes.length cm HCM.out w2 hlw HL.out.2)
  have HN2 := Lib.hid (U1.out.trans u2)
  generalize q.rb = rb at *
  clear hns hq u2 hR hmw hlw
  go_wp2_with fail
  (with_reducible refine (hfw.out).mono ?_)
  rintro _ w3 ⟨bb, rfl, hfew, u3⟩
  have HN3 := Lib.hid (HN2.out.trans u3)
  have HR3 := Lib.hid (HR.out.nw u3)
  clear hfw HR
  cases bb with
  | false =>
    clear hfew u3
    go_wp2_with fail
    go_ret
    exact ⟨rfl, HN3.out⟩
  | true =>
    obtain ⟨⟨hl30, hm5⟩, hok⟩ := hfew rfl
    have HOK := Lib.hid hok
    have hpl := Lib.hid (played_w HR3.out g1.out key hkey modes (.slice am modes.length cm) ((HM.out.1.nw U1.out).wide U1.out.size) HM.out.2 hm5 l (.slice al l.length cl) ((HL.out.1.nw U1.out).wide U1.out.size) HL.out.2 hok hl30)
    clear hfew hok
    go_wp2_with fail
    (with_reducible refine (hpl.out).mono ?_)
    rintro _ w4 hp4
    rcases hp4 with ⟨hk2, p, v, hprb, rfl, hpi⟩ | ⟨hno, rfl, hat, hmv⟩
    rotate_left
    · have HN4 := Lib.hid (U1.out.trans hat.nw0)
      have hv := Lib.hid (new_vany rb key w4 (hat.gl g1.out))
      clear hno hat hmv hpl
      go_wp2_with fail
      (with_reducible refine (hv.out).mono ?_)
      rintro _ w5 hd5
      rcases hd5 with ⟨vb, rfl, u5⟩ | ⟨rfl, u5⟩
      · have HF := Lib.hid (HN4.out.trans u5)
        clear u5 hv
        go_wp2_with fail
        go_ret
        exact ⟨rfl, HF.out⟩
      · have HF := Lib.hid (HN4.out.trans u5)
        clear u5 hv
        go_wp2_with fail
        go_ret
        exact ⟨rfl, HF.out⟩
    obtain ⟨M, hpd, -⟩ := Played.of hk2 hm5 hl30 HOK.out
    generalize Mi.play (Mi.start key ((keptM modes).map Mi.fresh)) l = s at *
    subst hprb
    have HPD := Lib.hid hpd
    have HPI := Lib.hid hpi
    have hv := Lib.hid (mb_view hpi g1.out hk2.1)
    obtain ⟨aa, ca, ea⟩ := own_slG hpi.rows.oa
    obtain ⟨la, lc, el⟩ := own_slG hpi.rows.ol
    obtain ⟨na, nc, en⟩ := own_slG hpi.rows.on
    obtain ⟨qa, qc, eq⟩ := own_slG hpi.rows.oq
    obtain ⟨av, lv, nv, qv, L⟩ := v
    dsimp only at ea el en eq
    subst ea el en eq
    clear hpl hpd hpi HR3 HN3 HN2
    go_wp2_with fail
    (with_reducible refine (hv.out).mono ?_)
    rintro _ w5 ⟨vb, rfl, h5⟩
    obtain ⟨k1, k2, k3, k4, k5, k6, k7⟩ := HPD.out.binv.ask bound
    have hnow := HPD.out.inv.now
    have hn30 := HPD.out.n
    have hnowI : I64 s.now := by unfold I64; omega
    have HNI := Lib.hid hnowI
    have hask := mb_ask h5 g1.out (by have := HPD.out.ln; omega) (fun a ha c hc => Mi.told_ok HPD.out.inv.made (by have := HPD.out.ln; show s.L.length ≤ _; omega) (HPD.out.inv.ans a ha c hc)) (by have := HPD.out.inv.len; omega) s.now bound hnowI HB.out
    dsimp only at hask
    rw [k2, k3] at hask
    have HASK : Hid (Calls Tryz.prog 15 #[.pointer (some ⟨vb, 0, none⟩), .slice na (List.length L) nc, .int .i64 s.now, .int .i64 bound] w5 fun e z' => e = .returned (.tuple #[.agg #[.int .i64 0, .string ⟨#[]⟩, .int .i64 0], .agg #[.int .i64 0, .string ⟨#[]⟩, .int .i64 0], .int .i64 (Mi.askE (Mi.ask s.L key [] s.an) s.now bound)]) ∧ MbI w1 (fun _ => False) w3 p s ⟨.slice aa s.ms.length ca, .slice la s.cs.length lc, .slice na L.length nc, .slice qa s.qs.length qc, L⟩ vb key (Mi.ask s.L key [] s.an).L z') := hask
    have K1 := Lib.hid k1
    have K4 := Lib.hid k4
    have K5 := Lib.hid k5
    have K67 := Lib.hid (And.intro k6 k7)
    clear hv h5 hask k1 k2 k3 k4 k5 k6 k7 hnow
    generalize Mi.askE (Mi.ask s.L key [] s.an) s.now bound = E at *
    generalize (Mi.ask s.L key [] s.an).L = Lv at *
    go_wp2_with fail
    (with_reducible refine (HASK.out).mono ?_)
    rintro _ w6 ⟨rfl, h6⟩
    have n1 := nw_alloc w6 zsO
    have q1 := heap_new w6 zsO
    have s1 : (w6.alloc zsO).heap.size = w6.heap.size + 1 := by simp
    have n2 := nw_alloc (w6.alloc zsO) zsO
    have q2 := heap_new (w6.alloc zsO) zsO
    rw [s1] at q2
    replace q1 := Nw.keep n2 q1
    obtain ⟨wB, hwB⟩ : ∃ wB, (w6.alloc zsO).alloc zsO = wB := ⟨_, rfl⟩
    have HWB : Hid ((w6.alloc (.cells #[.int .i64 0, .string ⟨#[]⟩, .int .i64 0] tSigned)).alloc (.cells #[.int .i64 0, .string ⟨#[]⟩, .int .i64 0] tSigned) = wB) := hwB
    have n3 := n1.trans n2
    rw [hwB] at q1 q2 n3
    obtain ⟨bx, hbx⟩ : ∃ bx, w6.heap.size = bx := ⟨_, rfl⟩
    have Hbx := Lib.hid hbx
    rw [hbx] at q1 q2
    have HQ1 := Lib.hid q1
    have HQ2 := Lib.hid q2
    have HI := Lib.hid (h6.nw n3)
    have hsz := Lib.hid (mb_size HI.out)
    have hagI : I64 (Vw.age Lv s.now) := by
      have h1 := HNI.out
      have h2 := K67.out.2
      have h3 : -1 ≤ (Vw.sizeOf Lv).2 := by
        rcases Mi.size_time Lv with e | ⟨s', hs', -, e⟩
        · omega
        · have := (Cl.right_bounds (Vw.log_spec (K1.out.vok.each s' hs').2.2).1).2.2.2.2.1
          unfold Vw.claimOf at e
          have e2 : (Vw.claimOf s').time = (Vw.sizeOf Lv).2 := e
          omega
      unfold I64 at h1 ⊢
      unfold Vw.age
      split <;> omega
    have hag := Lib.hid (fun (z : World) (u : Nw wB z) => mb_age (HI.out.nw u) K1.out.vok s.now HNI.out)
    have hlen := Lib.hid (fun (z : World) (u : Nw wB z) => mb_len (HI.out.nw u))
    have hA : Hid ((E = 0 ∧ 0 ≤ Vw.age Lv s.now ∧ Vw.age Lv s.now ≤ bound) ∨ (E ≠ 0 ∧ Vw.age Lv s.now < 0) ∨ (E ≠ 0 ∧ ¬ Vw.age Lv s.now < 0 ∧ bound < Vw.age Lv s.now)) := by
      have := K5.out
      by_cases e : E = 0
      · exact Or.inl ⟨e, this.1 e⟩
      · have h := fun x => e (this.2 x)
        by_cases h0 : Vw.age Lv s.now < 0
        · exact Or.inr (Or.inl ⟨e, h0⟩)
        · exact Or.inr (Or.inr ⟨e, h0, by
            by_cases h1 : Vw.age Lv s.now ≤ bound
            · exact absurd ⟨by omega, h1⟩ h
            · omega⟩)
    have hE21 : (E == 21) = false := by simp [K4.out]
    have hsz1 : decide ((s.b.es.length : Int) < (Vw.sizeOf Lv).1) = false := decide_eq_false (by have := K67.out.1; omega)
    have hsz2 : decide (s.now < (Vw.sizeOf Lv).2) = false := decide_eq_false (by have := K67.out.2; omega)
    clear h6 n1 n2 n3 s1 q1 q2 hwB hbx HASK K4 K5
    generalize Vw.age Lv s.now = ag at *
    generalize (Vw.sizeOf Lv).1 = sn at *
    generalize (Vw.sizeOf Lv).2 = st at *
    go_upto_region 10 with fail
    rw [HWB.out]
    (try rw [Hbx.out])
    go_wp2_with fail
    (with_reducible refine (hsz.out).mono ?_)
    rintro _ w7 ⟨rfl, u7⟩
    have hag1 := Lib.hid (hag.out w7 u7)
    have HU7 := Lib.hid u7
    clear hsz hag u7
    go_wp2_with fail
    (with_reducible refine (hag1.out).mono ?_)
    rintro _ w8 ⟨rfl, u8⟩
    have HU8 := Lib.hid (HU7.out.trans u8)
    have hlen1 := Lib.hid (hlen.out w8 HU8.out)
    obtain ⟨_, _, _⟩ := cell3 (Nw.keep HU8.out HQ1.out)
    obtain ⟨_, _, _⟩ := cell3 (Nw.keep HU8.out HQ2.out)
    clear hag1 u8
    go_upto_region 12 with fail
    go_cut [131] from 97 to 131 (fun c wx => c = .bool false ∧ Hid (Nw w8 wx))
    case first =>
      rcases hA.out with ⟨e1, e2, e3⟩ | ⟨e1, e2⟩ | ⟨e1, e2, e3⟩
      · have b0 : (E == 0) = true := by simp [e1]
        have d1 : decide (0 ≤ ag) = true := decide_eq_true e2
        have d2 : decide (ag ≤ bound) = true := decide_eq_true e3
        clear e1 e2 e3 hA
        go_wp2_with fail
        (with_reducible refine (hlen1.out).mono ?_)
        rintro _ w9 ⟨rfl, u9⟩
        have hz := Lib.hid u9
        clear u9 hlen1
        go_wp2_with fail
        go_meet
        exact ⟨by first | rfl | (simp [hsz1, hsz2]), hz.out⟩
      · have b0 : (E == 0) = false := by simp [e1]
        have d1 : decide (0 ≤ ag) = false := decide_eq_false (by omega)
        clear e1 e2 hA
        go_wp2_with fail
        (with_reducible refine (hlen1.out).mono ?_)
        rintro _ w9 ⟨rfl, u9⟩
        have hz := Lib.hid u9
        clear u9 hlen1
        go_wp2_with fail
        go_meet
        exact ⟨by first | rfl | (simp [hsz1, hsz2]), hz.out⟩
      · have b0 : (E == 0) = false := by simp [e1]
        have d1 : decide (0 ≤ ag) = true := decide_eq_true (by omega)
        have d2 : decide (ag ≤ bound) = false := decide_eq_false (by omega)
        clear e1 e2 e3 hA
        go_wp2_with fail
        (with_reducible refine (hlen1.out).mono ?_)
        rintro _ w9 ⟨rfl, u9⟩
        have hz := Lib.hid u9
        clear u9 hlen1
        go_wp2_with fail
        go_meet
        exact ⟨by first | rfl | (simp [hsz1, hsz2]), hz.out⟩
    case rest =>
    obtain ⟨rfl, HX⟩ := hcut
    obtain ⟨wA, rfl⟩ : ∃ w, w = wc := ⟨_, rfl⟩
    have HIA := Lib.hid (HI.out.nw (HU8.out.trans HX.out))
    have hes := HPD.out.inv.len.1
    have hesl : s.b.es.length ≤ 30 := by have := HPD.out.n; omega
    have hesl1 : (s.b.es.length : Int) ≤ 30 := by omega
    have HES := Lib.hid hesl
    have hK0 : Hid (Nw wA wA) := Upd.refl _ _
    clear hlen1 hA hE21 HX HU8 HU7 hsz1 hsz2 hes K67 HQ1 HQ2 HI hlen hesl hagI
    go_wp2_with fail
    go_loopw [24] (fun iv wr => ∃ i : Nat, i ≤ s.b.es.length + 2 ∧ iv = .int .i64 (i : Int) ∧ Hid (Nw wA wr)) (fun iv _ => s.b.es.length + 2 - (intOf iv).toNat)
    case atStart => exact ⟨0, Nat.zero_le _, rfl, hK0.out⟩
    case round =>
      obtain ⟨i, hi, rfl, HK⟩ := hrel
      have hlen := Lib.hid (mb_len (HIA.out.nw HK.out))
      obtain ⟨wJ, rfl⟩ : ∃ w, w = wr := ⟨_, rfl⟩
      have hi2 : (i : Int) ≤ s.b.es.length + 2 := by omega
      go_wp2_with fail
      (with_reducible refine (hlen.out).mono ?_)
      rintro _ w2 ⟨rfl, u2⟩
      have HU2 := Lib.hid (HK.out.trans u2)
      clear u2 hlen
      by_cases hlt : i < s.b.es.length + 2
      · have hlt1 : (i : Int) < (s.b.es.length : Int) + 2 := by omega
        have hvt := Lib.hid (mb_vtext (HIA.out.nw HU2.out) K1.out.vok (i : Int) (by unfold I64; omega))
        have hbt := Lib.hid (fun (z : World) (u : Nw w2 z) => mb_btext (HIA.out.nw (HU2.out.trans u)) (i : Int))
        have htx : Hid ((Vw.textAt Lv (i : Int)).2 = true → Bk.textAt s.b (i : Int) = ((Vw.textAt Lv (i : Int)).1, true)) := fun e => K1.out.made.textAt K1.out.sub e
        generalize Vw.textAt Lv (i : Int) = X at *
        generalize Bk.textAt s.b (i : Int) = Y at *
        obtain ⟨T, is⟩ := X
        obtain ⟨T2, was⟩ := Y
        dsimp only at *
        go_wp2_with fail
        (with_reducible refine (hvt.out).mono ?_)
        rintro _ w3 ⟨rfl, u3⟩
        have hbt1 := Lib.hid (hbt.out w3 u3)
        have HU3 := Lib.hid (HU2.out.trans u3)
        clear hvt hbt u3
        go_wp2_with fail
        (with_reducible refine (hbt1.out).mono ?_)
        rintro _ w4 ⟨rfl, u4⟩
        have hz : Hid (Nw wA w4) := HU3.out.trans u4
        clear hbt1 u4
        cases is with
        | false =>
          go_wp2_with fail
          go_roundw
          case rel => exact ⟨i + 1, by omega, by go_num, hz.out⟩
          case measure => simp [intOf]; omega
        | true =>
          have he := htx.out rfl
          injection he with he1 he2
          subst he1 he2
          have hTT : (T2 == T2) = true := beq_self_eq_true _
          go_wp2_with fail
          go_roundw
          case rel => exact ⟨i + 1, by omega, by go_num, hz.out⟩
          case measure => simp [intOf]; omega
      · obtain rfl : i = s.b.es.length + 2 := by omega
        have hK1 : Hid (Nw wA w2) := HU2.out
        have hlt1 : ¬ (((s.b.es.length + 2 : Nat) : Int) < (s.b.es.length : Int) + 2) := by omega
        have hl301 : (l.length : Int) ≤ 30 := by omega
        have HWA : Hid (∀ z, Nw wA z → Nw W z) := fun z u => U1.out.trans (HIA.out.nw u).fam.nw0
        have HGA : Hid (∀ z, Nw wA z → Gl z) := fun z u => (HIA.out.nw u).gl g1.out
        clear HU2
        go_wp2_with fail
        go_loopw [29] (fun iv wr => ∃ j : Nat, j ≤ l.length ∧ iv = .int .i64 (j : Int) ∧ Hid (Nw wA wr)) (fun iv _ => l.length - (intOf iv).toNat)
        case atStart => exact ⟨0, Nat.zero_le _, rfl, hK1.out⟩
        case round =>
          obtain ⟨j, hj, rfl, HJ⟩ := hrel
          by_cases hlt2 : j < l.length
          · have hlt3 : (j : Int) < l.length := by omega
            obtain ⟨a', cap', ev, -, hcells⟩ := act_cells HL.out.1
            simp only [Value.slice.injEq, true_and] at ev
            obtain ⟨rfl, rfl⟩ := ev
            rcases hcells with hnil | ⟨b, off, rfl, hcell⟩
            · simp [hnil] at hlt2
            have HACT : Hid (∀ z, Nw wA z → z.cell? ⟨b, off + j * 6 + 4, none⟩ = some (.string ⟨l[j].name.toArray⟩)) := fun z u => ((hcell j hlt2).nw (HWA.out z u)).2.2.2.2.1
            have hnm := (HOK.out _ (List.getElem_mem hlt2)).name
            have Hab : Hid (∀ k : Nat, (k : Int) < (Vw.absentOf Lv l[j].name).1 → ∃ h : k < s.b.es.length, Cl.hasKey l[j].name s.b.es[k] = false) := fun k hk => K1.out.made.absent K1.out.sub hk
            have habs := Lib.hid (mb_absent (HIA.out.nw HJ.out) K1.out.vok l[j].name (by omega))
            have hnm1 : (l[j].name.length : Int) ≤ 100 := by omega
            clear hcell hnm
            generalize l[j].name = nm at *
            generalize Vw.absentOf Lv nm = X at *
            obtain ⟨m, is⟩ := X
            dsimp only at *
            have hm30 : m ≤ 30 := by
              by_cases h : m ≤ 30
              · exact h
              · obtain ⟨h1, -⟩ := Hab.out 30 (by omega)
                have := HES.out
                omega
            have c4 := HACT.out wr HJ.out
            obtain ⟨wK, rfl⟩ : ∃ w, w = wr := ⟨_, rfl⟩
            go_wp2_with fail
            (with_reducible refine (habs.out).mono ?_)
            rintro _ w3 ⟨rfl, u3⟩
            have hK3 : Hid (Nw wA w3) := HJ.out.trans u3
            clear habs u3 c4
            go_wp2_with fail
            go_loopw [32] (fun iv wr => ∃ k : Nat, k ≤ 31 ∧ iv = .int .i64 (k : Int) ∧ Hid (Nw wA wr)) (fun iv _ => 40 - (intOf iv).toNat)
            case atStart => exact ⟨0, Nat.zero_le _, rfl, hK3.out⟩
            case round =>
              obtain ⟨k, hk, rfl, HKk⟩ := hrel
              cases is with
              | false =>
                have hz := HKk
                go_wp2_with fail
                go_roundw
                case rel => exact ⟨j + 1, by omega, by go_num, hz.out⟩
                case measure => simp [intOf]; omega
              | true =>
                by_cases hkm : (k : Int) < m
                · obtain ⟨hke, hkf⟩ := Hab.out k hkm
                  have hk31 : k ≤ 30 := by omega
                  obtain ⟨hky1, hky2⟩ := K1.out.made.hon.keyed _ (List.getElem_mem hke)
                  have htx : Bk.textAt s.b (k : Int) = (s.b.es[k], true) := by
                    unfold Bk.textAt
                    rw [if_neg (by omega), Int.toNat_natCast, List.getD_eq_getElem?_getD, List.getElem?_eq_getElem hke]; rfl
                  have hbt := mb_btext (HIA.out.nw HKk.out) (k : Int)
                  rw [htx] at hbt
                  have HBT := Lib.hid hbt
                  have hne : (Cl.key s.b.es[k]).1 ≠ nm := fun e => by
                    unfold Cl.hasKey at hkf
                    rw [hky1, decide_eq_true e] at hkf
                    cases hkf
                  have HKY := Lib.hid (fun (z : World) (u : Nw wA z) => key_c ⟨s.b.es[k].toArray⟩ s.b.es[k] (bs_list _) (by omega) z (HGA.out z u))
                  rw [hky1] at HKY
                  have HC4 := HACT
                  clear hbt htx hkf hky1 hky2
                  generalize (Cl.key s.b.es[k]).1 = N at *
                  generalize s.b.es[k] = T at *
                  clear hke
                  have hNn : (N == nm) = false := by simp [hne]
                  obtain ⟨wL, rfl⟩ : ∃ w, w = wr := ⟨_, rfl⟩
                  clear hne
                  go_wp2_with fail
                  (with_reducible refine (HBT.out).mono ?_)
                  rintro _ w4 ⟨rfl, u4⟩
                  have HU4 := Lib.hid (HKk.out.trans u4)
                  have HKY4 := Lib.hid (HKY.out w4 HU4.out)
                  clear HBT HKY u4
                  go_wp2_with fail
                  (with_reducible refine (HKY4.out).mono ?_)
                  rintro _ w5 ⟨rfl, u5⟩
                  have hz : Hid (Nw wA w5) := HU4.out.trans u5
                  have c4 := HACT.out w5 hz.out
                  clear HKY4 u5
                  go_wp2_with fail
                  go_roundw
                  case rel => exact ⟨k + 1, by omega, by go_num, hz.out⟩
                  case measure => simp [intOf]; omega
                · have hz := HKk
                  go_wp2_with fail
                  go_roundw
                  case rel => exact ⟨j + 1, by omega, by go_num, hz.out⟩
                  case measure => simp [intOf]; omega
          · obtain rfl : j = l.length := by omega
            have hL0 : Hid (MbL w1 w3 p s ⟨.slice aa s.ms.length ca, .slice la s.cs.length lc, .slice na L.length nc, .slice qa s.qs.length qc, L⟩ vb key 0 wr) := ⟨s.L, s.b, M, Lv, K1.out, HES.out, by have := HPD.out.ln; omega, HIA.out.nw HJ.out⟩
            have hms5 : (s.ms.length : Int) ≤ 5 := by have := HPD.out.ms; omega
            have HLL : Hid (L.length ≤ 30 ∧ L.map (·.2) = s.an) := by
              have h1 := HPI.out.rows.eL
              have h2 := congrArg List.length h1
              rw [List.length_map] at h2
              have h3 := HPD.out.inv.len
              have h4 := HPD.out.n
              dsimp only at h1 h2
              exact ⟨by omega, h1⟩
            clear HJ HWA HGA hK0 K1
            go_wp2_with fail
            go_loopw [37] (fun iv wr => ∃ i : Nat, i ≤ s.ms.length ∧ iv = .int .i64 (i : Int) ∧ Hid (MbL w1 w3 p s ⟨.slice aa s.ms.length ca, .slice la s.cs.length lc, .slice na L.length nc, .slice qa s.qs.length qc, L⟩ vb key i wr)) (fun iv _ => s.ms.length - (intOf iv).toNat)
            case atStart => exact ⟨0, Nat.zero_le _, rfl, hL0.out⟩
            case round =>
              obtain ⟨i, hi, rfl, HM4⟩ := hrel
              obtain ⟨L', b', M', Lv', hb, hbl, hll, hmi⟩ := HM4.out
              by_cases hlt4 : i < s.ms.length
              · have hlt5 : (i : Int) < s.ms.length := by omega
                have hnew := Lib.hid (mb_new hmi g1.out)
                have HB4 := Lib.hid (And.intro hb (And.intro hbl hll))
                have hi5 : i ≤ 5 := by omega
                obtain ⟨wK, rfl⟩ : ∃ w, w = wr := ⟨_, rfl⟩
                clear hb hbl hll hmi HM4
                go_wp2_with fail
                (with_reducible refine (hnew.out).mono ?_)
                rintro _ w4' ⟨mb, rfl, h4⟩
                have HN4 := Lib.hid (U1.out.trans h4.fam.nw0)
                by_cases hb0 : bound < 0
                · have d0 : decide (bound < 0) = true := decide_eq_true hb0
                  clear h4 hnew hb0
                  go_wp2_with fail
                  go_ret
                  exact ⟨rfl, HN4.out⟩
                have d0 : decide (bound < 0) = false := decide_eq_false hb0
                have hfd := mb_feed h4 g1.out s.now HNI.out (by have := HB4.out.2.2; show L'.length ≤ _; omega) (by show (0 : Nat) ≤ _; omega) (by show (0 : Nat) ≤ _; omega)
                have hln := feed_ln L' b' (Mi.fresh 0) [] [] s.now
                obtain ⟨M2, e1, e2, e3, e4, e5, e6, e7⟩ := Mi.bound_step HB4.out.1 (bound := bound) (by omega)
                dsimp only at hfd
                generalize hX : Mi.feed L' b' (Mi.fresh 0) [] [] s.now = X at *
                obtain ⟨f, L2, b2, m2⟩ := X
                dsimp only at hfd hln e2 e3 e4 e5 e6 e7
                obtain ⟨A, hAe⟩ : ∃ A, Mi.answer m2 ⟨0, 0, []⟩ = A := ⟨_, rfl⟩
                rw [hAe] at e2 e4 e6
                have HFD := Lib.hid hfd
                have HE2 := Lib.hid e2
                have HE4 := Lib.hid e4
                have HE5 := Lib.hid e5
                have HE6 := Lib.hid e6
                have HF3 := Lib.hid e3
                have HLN : Hid (b2.es.length ≤ 30 ∧ L2.length ≤ 3000 + (i + 1) * 100) := by
                  have h1 := HB4.out.2
                  simp only [List.length_nil] at hln
                  rw [e7]
                  exact ⟨h1.1, by omega⟩
                have HAE := Lib.hid hAe
                clear h4 hnew hfd hln e1 e2 e3 e4 e5 e6 e7 hX hb0 hAe HB4
                go_wp2_with fail
                (with_reducible refine (HFD.out).mono ?_)
                rintro _ w5' ⟨rfl, h5⟩
                have n6 := nw_alloc w5' (.cells #[] tAns)
                have o6 := owns_empty w5' tAns 3
                have Hn := Lib.hid (owns_upd' h5.rows.on n6 (fun _ _ e => e))
                have H5 := Lib.hid h5
                have hLl := HLL.out.1
                have hg5 : nG ≤ w5'.heap.size := by have := g1.out.big; have := h5.fam.nw0.size; omega
                have HG5 := Lib.hid hg5
                clear h5 HFD
                go_wp2_with (at_builtin; refine wpList_cat rfl _ _ 31 rfl w5'.heap.size w3.heap.size tAns _ 3 48 Tryz.underlying31 infoAns rfl (by decide) _ _ _ _ _ _ rfl o6 rfl Hn.out ?c1 ?c2 ?c3 ?c4 ?_)
                case c1 =>
                  intro u hu
                  unfold flatA at hu
                  rw [List.mem_flatten] at hu
                  obtain ⟨x, hx, hux⟩ := hu
                  obtain ⟨y, hy, rfl⟩ := List.mem_map.1 hx
                  simp only [ansC, List.mem_cons, List.not_mem_nil, or_false] at hux
                  rcases hux with rfl | rfl | rfl
                  · obtain ⟨ya, yc, ey⟩ := own_slG (H5.out.rows.oi y hy)
                    rw [ey]; rfl
                  · rfl
                  · rfl
                case c2 => unfold maxLen; omega
                case c3 => omega
                case c4 => simp
                intro v6 w6' hown hgrow hob
                have u6 : Nw w5' w6' := n6.grown hgrow (fun k hk => ⟨Or.inr (hob k hk).1, by have := (hob k hk).1; omega⟩)
                have HO6 : Hid (w6'.ownsRow w5'.heap.size tAns 3 v6 L.length (flatA L)) := by
                  first | exact hown | simpa using hown
                have HU6 := Lib.hid u6
                have han := mb_ans (H5.out.nw u6) g1.out ⟨0, 0, []⟩ ⟨by show I64 (0 : Int); unfold I64; omega, by show I64 (0 : Int); unfold I64; omega, Nat.zero_le _⟩
                rw [HAE.out] at han
                have HAN : Hid (Calls Tryz.prog 11 #[.pointer (some ⟨mb, 0, none⟩), .agg #[.int .i64 0, .int .i64 0, .string ⟨#[]⟩]] w6' (AnsTo w6' A)) := han
                clear hown hgrow hob u6 han n6 o6 Hn
                obtain ⟨a6, c6, e6⟩ := own_slG HO6.out
                subst e6
                go_wp2_with fail
                (with_reducible refine (HAN.out).mono ?_)
                rintro _ w7' ⟨vi, rfl, oi, u7⟩
                obtain ⟨via, vic, evi⟩ := own_slG oi
                subst evi
                have HO7 := Lib.hid (owns_upd' HO6.out u7 (fun _ _ e => e))
                have HU7 := Lib.hid u7
                have HOI := Lib.hid oi
                have hs57 : w5'.heap.size ≤ w7'.heap.size := by have := HU6.out.size; have := u7.size; omega
                clear oi u7 HAN HO6
                go_wp2_with (at_builtin; (refine wpList_appL rfl _ _ 31 rfl w5'.heap.size tAns _ 3 48 Tryz.underlying31 infoAns rfl (by decide) _ _ _ rfl HO7.out (ansC (.slice via A.claims.length vic, A)) (by show Value.slice _ _ _ = Value.slice _ _ _; simp) rfl ?c1 ?c2 ?c3 hs57 HG5.out ?_))
                case c1 =>
                  intro u hu
                  simp only [ansC, List.mem_cons, List.not_mem_nil, or_false] at hu
                  rcases hu with rfl | rfl | rfl <;> rfl
                case c2 => unfold maxLen; omega
                case c3 => omega
                intro v8 w8' o8 u8 hob8
                have hu58 : Nw w5' w8' := (HU6.out.trans HU7.out).trans' u8 (fun k hk e => by have := (HO7.out.lt k e).1; omega)
                have oi8 := owns_base (owns_upd' HOI.out u8 (fun k hk => own_ne HOI.out HO7.out (by decide) hk)) HU6.out.size
                have hask := mb_ask2 (vi := .slice via A.claims.length vic) (a := A) H5.out g1.out hu58 o8 oi8 HE5.out (by have := HLN.out.2; show L2.length ≤ _; omega) (fun x hx c hc => Mi.told_ok HE2.out.made (by have := HLN.out.2; show L2.length ≤ _; omega) (HE6.out x hx c hc)) (by have := congrArg List.length HLL.out.2; rw [List.length_map] at this; show s.an.length ≤ _; omega) s.now bound HNI.out HB.out
                dsimp only at hask
                generalize Mi.ask L2 key Lv' (s.an ++ [A]) = R at *
                generalize hE3 : Mi.askE R s.now bound = E3 at *
                obtain ⟨a8, c8, e8⟩ := own_slG o8
                subst e8
                have HAS : Hid (Calls Tryz.prog 15 #[.pointer (some ⟨vb, 0, none⟩), .slice a8 (L.length + 1) c8, .int .i64 s.now, .int .i64 bound] w8' fun e z' => e = .returned (.tuple #[.agg #[.int .i64 R.old.key, .string ⟨R.old.text.toArray⟩, .int .i64 R.old.mark], .agg #[.int .i64 R.odd.key, .string ⟨R.odd.text.toArray⟩, .int .i64 R.odd.mark], .int .i64 E3]) ∧ MbI w1 (fun _ => False) w3 p { s with L := L2, b := b2 } ⟨.slice aa s.ms.length ca, .slice la s.cs.length lc, .slice na L.length nc, .slice qa s.qs.length qc, L⟩ vb key R.L z') := hask
                clear o8 u8 hob8 hu58 oi8 hask HO7 HOI HU6 HU7 hs57 H5 HG5 hg5 hE3
                go_wp2_with fail
                (with_reducible refine (HAS.out).mono ?_)
                rintro _ w9' ⟨rfl, h9⟩
                have hz : Hid (MbL w1 w3 p s ⟨.slice aa s.ms.length ca, .slice la s.cs.length lc, .slice na L.length nc, .slice qa s.qs.length qc, L⟩ vb key (i + 1) ((w9'.alloc (.cells #[.int .i64 R.old.key, .string ⟨R.old.text.toArray⟩, .int .i64 R.old.mark] tSigned)).alloc (.cells #[.int .i64 R.odd.key, .string ⟨R.odd.text.toArray⟩, .int .i64 R.odd.mark] tSigned))) :=
                  ⟨L2, b2, M2, R.L, HE2.out, HLN.out.1, HLN.out.2, h9.nw ((nw_alloc _ _).trans (nw_alloc _ _))⟩
                clear h9 HAS
                rcases HF3.out with rfl | rfl | rfl
                · have hE0 := HE4.out rfl
                  subst hE0
                  clear HE4 HF3
                  go_wp2_with fail
                  go_roundw
                  case rel => exact ⟨i + 1, by omega, by go_num, hz.out⟩
                  case measure => simp [intOf]; omega
                · clear HE4 HF3
                  go_wp2_with fail
                  go_roundw
                  case rel => exact ⟨i + 1, by omega, by go_num, hz.out⟩
                  case measure => simp [intOf]; omega
                · clear HE4 HF3
                  go_wp2_with fail
                  go_roundw
                  case rel => exact ⟨i + 1, by omega, by go_num, hz.out⟩
                  case measure => simp [intOf]; omega
              · obtain rfl : i = s.ms.length := by omega
                have hfin := Lib.hid (U1.out.trans hmi.fam.nw0)
                clear hb hbl hll hmi HM4
                go_wp2_with fail
                go_ret
                exact ⟨rfl, hfin.out⟩
end Go.Proofs.YtkhdnfmnnapjlaaGreatDoor
