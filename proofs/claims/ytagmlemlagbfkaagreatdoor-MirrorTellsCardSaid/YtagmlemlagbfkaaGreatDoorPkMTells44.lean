/- MirrorTells (chapter 37): the contract. -/
import Derived.Test.YtagmlemlagbfkaaGreatDoorPkMTells24
import Derived.Test.YtagmlemlagbfkaaGreatDoorPkMTells41
import Derived.Test.YtagmlemlagbfkaaGreatDoorPkMTells42
import Derived.Test.YtagmlemlagbfkaaGreatDoorPkMTells43
import Derived.Test.YtagmlemlagbfkaaGreatDoorPkMTells32
namespace Go.Proofs.YtagmlemlagbfkaaGreatDoor
open Go.RowKit
set_option linter.unusedVariables false
set_option linter.unusedSimpArgs false
attribute [local irreducible] Calls

def qEnd (W : World) (qb : Nat) (key : Int) (bv : Value) (ev : Int) (c1 : Res) : Prop :=
  (Bk.isKey key = true ∧ ∃ bb, bv = .pointer (some ⟨bb, 0, none⟩) ∧ ev = 0 ∧ c1 = QBookC W.heap.size bb qb (Bk.new key)) ∨ (Bk.isKey key = false ∧ bv = .pointer none ∧ ev = 22 ∧ c1 = NoC)
theorem qbook_any {W : World} {n0 : Nat} {cP : Nat → Res} {F : Nat → Prop} {z0 : World} {qb : Nat} {key : Int} (h : At W (n0 + 1) (setC cP n0 (QRingC W.heap.size qb [])) F z0) (g : Gl W) :
    Calls Tryz.prog 18 #[.pointer (some ⟨qb, 0, none⟩), .int .i64 key] z0 fun e z' => ∃ bv ev c1, e = .returned (.tuple #[bv, .int .i64 ev]) ∧ qEnd W qb key bv ev c1 ∧ QlJ W n0 cP F z0 qb [] c1 (fun _ => 0) [] (.slice none 0 0) z' := by
  have nil : ∀ (z : World), z.ownsRow z0.heap.size tQM 1 (.slice none 0 0) 0 (ptrsM (fun _ => 0) 0) := fun z => World.ownsRow_nil _ _ _ _
  have hsame : ∀ (c1 : Res) (i : Nat), i < n0 + 1 + 1 → cQj W.heap.size n0 cP qb [] c1 (fun _ => 0) [] i = setC (setC cP n0 (QRingC W.heap.size qb [])) (n0 + 1) c1 i := fun c1 i hi => by
    unfold cQj
    by_cases hin : i < n0
    · rw [if_pos hin, setC_ne _ _ (by omega), setC_ne _ _ (by omega)]
    · rw [if_neg hin]
      by_cases h0 : i = n0
      · subst h0
        rw [setC_ne _ _ (by omega), setC_self, Nat.sub_self]
      · obtain rfl : i = n0 + 1 := by omega
        rw [setC_self, show n0 + 1 - n0 = 1 by omega]
  have hless : ∀ j, (F j ∨ (Value.slice none 0 0).ownBlock = some j) → F j := fun j hj => by
    rcases hj with hj | hj
    · exact hj
    · cases hj
  refine (newb_q qb key z0 (h.gl g)).mono ?_
  rintro e w' (⟨hk, r, rfl, hr, u⟩ | ⟨hk, rfl, u⟩)
  · exact ⟨_, _, _, rfl, Or.inl ⟨hk, r.cb, rfl, rfl, rfl⟩, ⟨((h.oneQBook g.big u hr).same (fun i hi => hsame _ i hi)).less hless, nil w', Nw.upd _ u⟩⟩
  · exact ⟨_, _, _, rfl, Or.inr ⟨hk, rfl, rfl, rfl⟩, ⟨((h.push u (NoC.stab _) (f' := fun _ => False) rfl (fun j hj => hj.elim)).same (fun i hi => hsame _ i hi)).less hless, nil w', Nw.upd _ u⟩⟩
namespace Mi
theorem stepP_asked (s : PS) (a : PAct) : ((stepP s a).qs = s.qs ∨ (stepP s a).qs = s.qs ++ [quesOf a]) ∧ ((stepP s a).an = s.an ∨ ∃ m q, (stepP s a).an = s.an ++ [answer m q]) := by
  unfold stepP
  split
  · exact ⟨Or.inl rfl, Or.inl rfl⟩
  split
  · exact ⟨Or.inl rfl, Or.inl rfl⟩
  split
  · exact ⟨Or.inl rfl, Or.inl rfl⟩
  split
  · exact ⟨Or.inr rfl, Or.inr ⟨_, _, rfl⟩⟩
  · exact ⟨Or.inl rfl, Or.inl rfl⟩
theorem play_asked (s : PS) (l : List PAct) : (∀ q ∈ (play s l).qs, q ∈ s.qs ∨ ∃ a ∈ l, q = quesOf a) ∧ ∀ x ∈ (play s l).an, x ∈ s.an ∨ x.claims.length ≤ 1 := by
  induction l generalizing s with
  | nil => exact ⟨fun q h => Or.inl h, fun x h => Or.inl h⟩
  | cons a l ih =>
    obtain ⟨h1, h2⟩ := ih (stepP s a)
    obtain ⟨g1, g2⟩ := stepP_asked s a
    refine ⟨fun q hq => ?_, fun x hx => ?_⟩
    · rcases h1 q hq with h | ⟨b, hb, rfl⟩
      · rcases g1 with e | e
        · exact Or.inl (e ▸ h)
        · rw [e] at h
          rcases List.mem_append.1 h with h | h
          · exact Or.inl h
          · exact Or.inr ⟨a, List.mem_cons_self .., List.mem_singleton.1 h⟩
      · exact Or.inr ⟨b, List.mem_cons_of_mem _ hb, rfl⟩
    · rcases h2 x hx with h | h
      · rcases g2 with e | ⟨m, q, e⟩
        · exact Or.inl (e ▸ h)
        · rw [e] at h
          rcases List.mem_append.1 h with h | h
          · exact Or.inl h
          · rw [List.mem_singleton.1 h]; exact Or.inr (answer_len m q)
      · exact Or.inr h
end Mi
theorem rows_keep {W : World} {F5 : Nat → Prop} {V2 : QlV} {B : Nat} {p : PlR} {s : Mi.PS} {v : PlV} {z z' : World} (h : PlRows B p s v z) (hF : ∀ j, FPl (fun _ => False) v j → F5 j) (mv : MovesN W (FQl F5 V2) z z') : PlRows B p s v z' :=
  h.upd mv (fun k hk e => e.1 (Or.inl (hF k (Or.inr (Or.inl hk))))) (fun k hk e => e.1 (Or.inl (hF k (Or.inr (Or.inr (Or.inl hk)))))) (fun k hk e => e.1 (Or.inl (hF k (Or.inr (Or.inr (Or.inr (Or.inl hk))))))) (fun k hk e => e.1 (Or.inl (hF k (Or.inr (Or.inr (Or.inr (Or.inr (Or.inl hk)))))))) (fun q hq k hk e => e.1 (Or.inl (hF k (Or.inr (Or.inr (Or.inr (Or.inr (Or.inr ⟨q, hq, hk⟩))))))))
theorem valid_ok37 {key : Int} {Lr : List Bk.Seal} {s : Bk.Sgn} (hk : Bk.isKey key = true) (hl : Lr.length ≤ 1000000) (h1 : Bk.valid Lr s = true) (h2 : s.key = key) (h3 : Vw.isLog s.text = true) : SgnOk s ∧ s.text.length ≤ 100000 := by
  have hk2 : 0 ≤ key ∧ key < 200 := by unfold Bk.isKey at hk; simpa using hk
  have hm := Vw.valid_lt h1
  obtain ⟨l1, l2, _⟩ := Vw.log_spec h3
  have ht := text_len8 (Vw.claimOf s) (log_bounds h3).1
  rw [l2] at ht
  exact ⟨⟨by rw [h2]; unfold I64; omega, by omega, by unfold I64; omega⟩, by omega⟩
theorem view_key {key : Int} (h : Bk.isKey key = true) : 0 ≤ key ∧ key < 200 := by unfold Bk.isKey at h; simpa using h
set_option maxHeartbeats 8000000 in
set_option maxRecDepth 100000 in
theorem tells37_c (key : Int) (modes : List Int) (mv : Value) (l : List Mi.PAct) (lv : Value) (other : Bool) (bound : Int) (W : World) (g : Gl W) (hkey : I64 key) (hm : Sl 0 W.heap.size W mv (modes.map (Value.int .i64))) (hmi : ∀ k ∈ modes, I64 k) (hl : SlS 6 0 W.heap.size W lv (l.map actL)) (hwf : ∀ a ∈ l, ActWf a) (hbd : I64 bound) :
    Calls Tryz.prog 4 #[.int .i64 key, mv, lv, .bool other, .int .i64 bound] W fun e W' => e = .returned (.bool true) ∧ Nw W W' := by
  obtain ⟨am, cm, emv, hcm, -⟩ := hm.open_
  rw [List.length_map] at hcm emv
  obtain ⟨al, cl, elv, -, -⟩ := act_cells hl
  have hsm := Lib.hid (small37_w W g)
  have HM := Lib.hid (And.intro hm hmi)
  have HL := Lib.hid (And.intro hl hwf)
  have HB := Lib.hid hbd
  have HCM := Lib.hid hcm
  subst emv elv
  clear hm hmi hl hwf hcm hbd
  go_enter Tryz.func4, Tryz.ntmps4
  go_wp2_with fail
  (with_reducible refine (hsm.out).mono ?_)
  rintro _ w1 ⟨rfl, u1⟩
  have U1 := Lib.hid u1
  have g1 := Lib.hid (g.upd u1)
  have hns := Lib.hid (new_s w1 g1.out)
  clear hsm u1
  go_wp2_with fail
  (with_reducible refine (hns.out).mono ?_)
  rintro _ w2 ⟨q, rfl, hq, u2⟩
  have hR : At w1 1 (fun _ => RingC w1.heap.size q.rb []) (fun _ => False) w2 := ((At.start w1 (fun _ _ _ => True)).oneRing g1.out.big u2 hq hq).same fun i hi => by
    obtain rfl : i = 0 := by omega
    simp [setC]
  have HR := Lib.hid hR
  have HN2 := Lib.hid (U1.out.trans u2)
  have hnq := Lib.hid (new_q w2 (hR.gl g1.out))
  generalize q.rb = rb at *
  clear hns hq u2 hR
  go_wp2_with fail
  (with_reducible refine (hnq.out).mono ?_)
  rintro _ w3 ⟨qq, rfl, hqq, u3⟩
  have HQ3 := Lib.hid hqq
  have HR3 : Hid (At w1 1 (fun _ => RingC w1.heap.size rb []) qq.foot w3) := HR.out.keep u3 (fun j hj => Or.inr (hqq.foot_lt hj))
  have HS2 : Hid (w1.heap.size ≤ w2.heap.size) := HR.out.size
  have hmw := HM.out.1.nw (HN2.out.trans u3)
  have hlw := HL.out.1.nw (HN2.out.trans u3)
  have hfw := Lib.hid (few37_w _ _ _ l am modes.length cm HCM.out w3 hlw HL.out.2)
  have HN3 := Lib.hid (HN2.out.trans u3)
  clear hnq hqq u3 hmw hlw HR HN2
  go_wp2_with fail
  (with_reducible refine (hfw.out).mono ?_)
  rintro _ w4 ⟨bb, rfl, hfew, u4⟩
  have HN4 := Lib.hid (HN3.out.trans u4)
  have HR4 := Lib.hid (HR3.out.nw u4)
  have HQ4 := Lib.hid (HQ3.out.nw u4)
  have HQl : Hid (∀ j, qq.foot j → w1.heap.size ≤ j ∧ j < w4.heap.size) := fun j hj => ⟨by have := (HQ3.out.foot_lt hj).1; have := HS2.out; omega, by have := (HQ4.out.foot_lt hj).2; exact this⟩
  clear hfw HR3
  cases bb with
  | false =>
    clear hfew u4
    go_wp2_with fail
    go_ret
    exact ⟨rfl, HN4.out⟩
  | true =>
    obtain ⟨⟨hl30, hm5⟩, hok⟩ := hfew rfl
    have HOK := Lib.hid hok
    have HMs : Hid (Sl 0 w1.heap.size w1 (.slice am modes.length cm) (modes.map (Value.int .i64))) := (HM.out.1.nw U1.out).wide U1.out.size
    have HLs : Hid (SlS 6 0 w1.heap.size w1 (.slice al l.length cl) (l.map actL)) := (HL.out.1.nw U1.out).wide U1.out.size
    have hpl := Lib.hid (played_w HR4.out g1.out key hkey modes (.slice am modes.length cm) HMs.out HM.out.2 hm5 l (.slice al l.length cl) HLs.out HL.out.2 hok hl30)
    clear hfew hok u4
    go_wp2_with fail
    (with_reducible refine (hpl.out).mono ?_)
    rintro _ w5 hp4
    rcases hp4 with ⟨hk2, p, v, hprb, rfl, hpi⟩ | ⟨hno, rfl, hat, hmv⟩
    rotate_left
    · -- no book, or no mirror
      have hq5 : QRingAt w2.heap.size w5 qq [] := HQ4.out.upd hmv (fun k hk e => e.1 hk)
      have had := hat.adopt (QRingC.stab w1.heap.size qq.qb []) (f' := qq.foot) ⟨qq, rfl, ⟨g1.out.big, by have := hq5.qb; have := HS2.out; omega, hq5.blk, owns_base hq5.own HS2.out, hq5.key⟩, rfl⟩ (fun j hj => hj)
      have HNO := Lib.hid hno
      have hqb := Lib.hid (qbook_any (key := key) had g1.out)
      have HF5 : Hid (∀ j, (qq.foot j ∧ ¬ qq.foot j) → j < w5.heap.size) := fun j hj => absurd hj.1 hj.2
      have HW5 : Hid (w1.heap.size ≤ w5.heap.size) := hat.size
      clear hno hat hmv hpl hq5 had
      go_wp2_with fail
      (with_reducible refine (hqb.out).mono ?_)
      rintro _ w6 ⟨bv, ev, c1, rfl, hqe, hj6⟩
      have HQE := Lib.hid hqe
      have HJ6 := Lib.hid hj6
      clear hqb hqe hj6
      go_upto_block 0 with fail
      refine mt_copies g1.out HF5.out HW5.out modes am cm HMs.out HM.out.2 hm5 HJ6.out _ (by kernel_rfl) ?_
      intro u24 u82 u83 u84 u85 u86 u87 u88 u89 u90 u91 u92 u93 u94 u95 u96 u97 u98 av mbs w7 hj7
      dsimp only [Exit.then]
      have hN7 : Nw W w7 := U1.out.trans hj7.fam.nw0
      have HN7 := Lib.hid hN7
      obtain ⟨aa, ca, hav⟩ := own_slG hj7.oa
      subst hav
      have hkl := keptM_len modes
      have hks5 : ((keptM modes).length : Int) ≤ 5 := by omega
      clear hj7 hN7 HJ6
      rcases HQE.out with ⟨hkey1, bb, rfl, rfl, rfl⟩ | ⟨hkey0, rfl, rfl, rfl⟩
      · have hk0 : keptM modes = [] := Classical.byContradiction fun e => HNO.out ⟨hkey1, e⟩
        have hl0 : (keptM modes).length = 0 := by rw [hk0]; rfl
        rw [hl0]
        clear HNO HQE
        go_wp2_with fail
        go_ret
        exact ⟨rfl, HN7.out⟩
      · have hd : (((keptM modes).length : Int) == 0) = true ∨ (((keptM modes).length : Int) == 0) = false := by cases (((keptM modes).length : Int) == 0) <;> simp
        generalize (keptM modes).length = kl at *
        clear HNO HQE
        by_cases hk : kl = 0
        · subst hk
          go_wp2_with fail
          go_ret
          exact ⟨rfl, HN7.out⟩
        · have hk1 : ((kl : Int) == 0) = false := by simp; omega
          have hk2 : (kl == 0) = false := by simp; omega
          clear hk hd
          go_wp2_with fail
          go_ret
          exact ⟨rfl, HN7.out⟩
    -- the acts
    obtain ⟨M, hpd, hmods⟩ := Played.of hk2 hm5 hl30 HOK.out
    have HK2 := Lib.hid hk2
    have hst := And.intro (Mi.pinv_start hk2.1 (ms := (keptM modes).map Mi.fresh) (fun m hm => by obtain ⟨k, -, rfl⟩ := List.mem_map.1 hm; exact ⟨k, rfl⟩)) (show (Mi.start key ((keptM modes).map Mi.fresh)).ms.length = (keptM modes).length by show ((keptM modes).map Mi.fresh).length = _; rw [List.length_map])
    have hn0 : 0 < (keptM modes).length := List.length_pos_iff.2 hk2.2
    have hn5 : (keptM modes).length ≤ 5 := Nat.le_trans (keptM_len _) hm5
    obtain ⟨s0, hs0⟩ : ∃ s0, Mi.start key ((keptM modes).map Mi.fresh) = s0 := ⟨_, rfl⟩
    have hb0 : s0.L = [] ∧ s0.now = 0 ∧ s0.b.es = [] := by rw [← hs0]; exact ⟨rfl, rfl, rfl⟩
    have hml := congrArg List.length hmods
    rw [List.length_map] at hml
    have hq5 : QRingAt w2.heap.size w5 qq [] := HQ4.out.upd hpi.mv (fun k hk e => e.1 hk)
    rw [hs0] at hpi hpd hst hml
    have HS0 := Lib.hid hs0
    obtain ⟨n1, hn1⟩ : ∃ n1, (keptM modes).length = n1 := ⟨_, rfl⟩
    rw [hn1] at hst hn0 hn5 hml
    have HST := Lib.hid (And.intro hst hb0)
    obtain ⟨s, hs⟩ : ∃ s, Mi.play s0 l = s := ⟨_, rfl⟩
    rw [hs] at hpi hpd hml
    rw [hs0, hs]
    have HSE := Lib.hid hs
    have hNA := congrArg List.length hpi.rows.eL
    rw [List.length_map] at hNA
    obtain ⟨n2, hn2⟩ : ∃ n2, v.L.length = n2 := ⟨_, rfl⟩
    obtain ⟨aa, ca, ea⟩ := own_slG hpi.rows.oa
    obtain ⟨la, lc, el⟩ := own_slG hpi.rows.ol
    obtain ⟨na, nc, en⟩ := own_slG hpi.rows.on
    obtain ⟨qa, qc, eq⟩ := own_slG hpi.rows.oq
    obtain ⟨av, lv, nv, qv, L1⟩ := v
    dsimp only at ea el en eq hn2 hNA
    subst ea el en eq
    have hms : s.ms.length = n1 := by omega
    have hqs : s.qs.length = n2 := by have := hpd.inv.len.2.2; omega
    have hL1 : L1.length = n2 := hn2
    have han : s.an.length = n2 := by omega
    rw [hms, hqs, hL1] at hpi
    rw [hms, hqs, hL1]
    have HPD := Lib.hid hpd
    have HPI := Lib.hid hpi
    have HLEN := Lib.hid (And.intro hms (And.intro hqs (And.intro hL1 han)))
    have hFl : ∀ j, FPl qq.foot ⟨.slice aa n1 ca, .slice la s.cs.length lc, .slice na n2 nc, .slice qa n2 qc, L1⟩ j → j < w5.heap.size := by
      obtain ⟨f, a, b, d, e, k⟩ := hpi.fam
      exact fun j hj => (k j hj).1
    have hq5' : QRingAt w1.heap.size w5 qq [] := ⟨g1.out.big, by have := hq5.qb; have := HS2.out; omega, hq5.blk, owns_base hq5.own HS2.out, hq5.key⟩
    have had := hpi.fam.adopt (QRingC.stab w1.heap.size qq.qb []) (f' := qq.foot) ⟨qq, rfl, hq5', rfl⟩ (fun j hj => Or.inl hj)
    have hqb := Lib.hid (qbook_any (key := key) had g1.out)
    obtain ⟨F5, hF5⟩ : ∃ F5 : Nat → Prop, (fun j => FPl qq.foot ⟨.slice aa n1 ca, .slice la s.cs.length lc, .slice na n2 nc, .slice qa n2 qc, L1⟩ j ∧ ¬ qq.foot j) = F5 := ⟨_, rfl⟩
    obtain ⟨cP, hcP⟩ : ∃ cP : Nat → Res, cPl w1.heap.size p s = cP := ⟨_, rfl⟩
    rw [hF5, hcP, hms] at hqb
    have HF5 : Hid (∀ j, F5 j → j < w5.heap.size) := fun j hj => by rw [← hF5] at hj; exact hFl j hj.1
    have HF5i : Hid (∀ j, FPl qq.foot ⟨.slice aa n1 ca, .slice la s.cs.length lc, .slice na n2 nc, .slice qa n2 qc, L1⟩ j → ¬ qq.foot j → F5 j) := fun j hj hn => by rw [← hF5]; exact ⟨hj, hn⟩
    have HCP := Lib.hid hcP
    have HW5 : Hid (w1.heap.size ≤ w5.heap.size) := hpi.fam.size
    have hn2b : n2 ≤ 30 := by have := hpd.inv.len.2.1; have := hpd.n; omega
    have hn2c : (n2 : Int) ≤ 30 := by omega
    have hn51 : (n1 : Int) ≤ 5 := by omega
    have hn10 : ((n1 : Int) == 0) = false := by simp; omega
    have hn11 : (n1 == 0) = false := by simp; omega
    have hkey1 := hk2.1
    subst hprb
    clear hpl hpd hpi hst hb0 hml hq5 hq5' had hFl hF5 hcP hs hs0 hms hqs hL1 han hNA hn2 hmods hk2
    go_wp2_with fail
    (with_reducible refine (hqb.out).mono ?_)
    rintro _ w6 ⟨bv, ev, c1, rfl, hqe, hj6⟩
    rcases hqe with ⟨-, bb, rfl, rfl, rfl⟩ | ⟨h0, -⟩
    rotate_left
    · rw [hkey1] at h0; cases h0
    have HJ6 := Lib.hid hj6
    clear hqb hj6
    go_upto_block 0 with fail
    refine mt_copies g1.out HF5.out HW5.out modes am cm HMs.out HM.out.2 hm5 HJ6.out _ (by kernel_rfl) ?_
    intro u24 u82 u83 u84 u85 u86 u87 u88 u89 u90 u91 u92 u93 u94 u95 u96 u97 u98 av2 mbs w7 hj7
    dsimp only [Exit.then]
    have hql0 := hj7.start
    obtain ⟨aa2, ca2, hav⟩ := own_slG hj7.oa
    subst hav
    obtain ⟨ab, ao, rfl, -⟩ := ptrs_atQ hj7.oa (by rw [hn1]; exact hn0)
    rw [HS0.out, hn1] at hql0
    rw [hn1]
    have HQL0 := Lib.hid hql0
    clear hj7 hql0 HJ6
    go_upto_block 2 with fail
    refine wp_normal (mt_acts g1.out HF5.out HW5.out l al cl HLs.out HL.out.2 HOK.out hl30 hn0 hn5 HST.out.1.1 HST.out.1.2 HST.out.2.1 HST.out.2.2.1 HST.out.2.2.2 HQL0.out _ (by kernel_rfl) ?_)
    intro u30 u31 u32 u33 u34 u35 u116 u117 u118 u119 u120 u121 u122 u123 u124 u125 u126 u127 u128 u129 u130 u131 u132 u133 u134 u135 u136 u137 u138 u139 u140 u141 u142 u143 u144 u145 u146 u147 u148 u149 u150 u151 u152 u153 u154 u155 u156 u157 u158 u159 u160 u161 u162 u163 u164 u165 u166 u167 u168 u169 u170 u171 u172 u173 u174 u175 u176 u177 u178 u179 u180 u181 u182 u183 u184 u185 u186 u187 u188 u189 u190 u191 u192 u193 u194 u195 u196 u197 u198 u199 u200 u201 u202 u203 u204 u205 u206 u207 u208 u209 u210 u211 u212 u213 nv2 lv2 L2 w8 hql
    dsimp only [Exit.then]
    rw [HSE.out] at hql
    rw [HSE.out]
    have hNA2 := congrArg List.length hql.rows.eL
    rw [List.length_map, HLEN.out.2.2.2] at hNA2
    obtain ⟨la2, lc2, el⟩ := own_slG hql.rows.ol
    obtain ⟨na2, nc2, en⟩ := own_slG hql.rows.on
    dsimp only at el en hNA2
    subst el en
    rw [hNA2] at hql
    rw [hNA2]
    have HQL := Lib.hid hql
    have HNA2 := Lib.hid hNA2
    have hoa := hql.rows.oa
    have hpr := HPI.out.rows.upd hql.mv (fun k hk e => e.1 (HF5i.out k (Or.inr (Or.inl hk)) (fun f => by have := (HPI.out.rows.oa.lt k hk).1; have := (HQl.out k f).2; omega)))
      (fun k hk e => e.1 (HF5i.out k (Or.inr (Or.inr (Or.inl hk))) (fun f => by have := (HPI.out.rows.ol.lt k hk).1; have := (HQl.out k f).2; omega)))
      (fun k hk e => e.1 (HF5i.out k (Or.inr (Or.inr (Or.inr (Or.inl hk)))) (fun f => by have := (HPI.out.rows.on.lt k hk).1; have := (HQl.out k f).2; omega)))
      (fun k hk e => e.1 (HF5i.out k (Or.inr (Or.inr (Or.inr (Or.inr (Or.inl hk))))) (fun f => by have := (HPI.out.rows.oq.lt k hk).1; have := (HQl.out k f).2; omega)))
      (fun q hq k hk e => e.1 (HF5i.out k (Or.inr (Or.inr (Or.inr (Or.inr (Or.inr ⟨q, hq, hk⟩))))) (fun f => by have := ((HPI.out.rows.oi q hq).lt k hk).1; have := (HQl.out k f).2; omega)))
    have HPR := Lib.hid hpr
    have hinv := HPD.out.inv
    have HSm : Hid (∀ a ∈ s.an, ∀ c ∈ a.claims, SgnOk c) := fun a ha c hc => Mi.told_ok hinv.made (by have := HPD.out.ln; show s.L.length ≤ _; omega) (by
      rcases hinv.ans a ha c hc with e | e
      · exact Or.inl e
      · exact Or.inr e)
    have HN8 : Hid (Nw w1 w8) := hql.fam.nw0
    clear hql hNA2 hpr hinv HQL0
    go_upto_block 5 with fail
    refine wp_normal (mt_same g1.out HN8.out s.cs s.an s.qs L1 L2 (n := n2) HPR.out.eL HQL.out.rows.eL HLEN.out.2.2.2 HLEN.out.2.1 hn2b ?hq ?hcl HPR.out.ol (HLEN.out.2.2.1 ▸ HPR.out.on) HPR.out.oi (HNA2.out ▸ HQL.out.rows.on) HQL.out.rows.oi (HLEN.out.2.1 ▸ HPR.out.oq) _ (by kernel_rfl) ?_)
    case hq =>
      intro q hq
      rw [← HSE.out] at hq
      rcases (Mi.play_asked s0 l).1 q hq with h | ⟨a, ha, rfl⟩
      · rw [← HS0.out] at h; cases h
      · have h1 := HL.out.2 a ha
        exact ⟨h1.k, h1.n, by show a.name.length ≤ _; have := (HOK.out a ha).name; omega⟩
    case hcl =>
      intro a ha
      rw [← HSE.out] at ha
      rcases (Mi.play_asked s0 l).2 a ha with h | h
      · rw [← HS0.out] at h; cases h
      · omega
    intro u10 u219 u220 u221 u222 u223 u224 u225 u226 u227 u228 u229 u230 u231 u232 u233 u234 u235 u236 u237 u238 u239 u240 u241 u242 u243 u244 u245 u246 u247 u248 u249 u250 u251 u252 u253 u254 u255 u256 u257 w9 n9
    dsimp only [Exit.then]
    have HN9 := Lib.hid n9
    obtain ⟨pb, po, rfl, hpc⟩ := ptrs_at (HLEN.out.1 ▸ HPR.out.oa) hn0
    have hqc := (ptrs_atQ (HLEN.out.1 ▸ HQL.out.rows.oa) hn0)
    obtain ⟨qb', qo', eqq, hqc⟩ := hqc
    simp only [Option.some.injEq, Addr.mk.injEq, and_true] at eqq
    obtain ⟨rfl, rfl⟩ := eqq
    have HPC := Lib.hid (And.intro hpc hqc)
    clear n9 hpc hqc
    go_upto_block 7 with fail
    refine wp_normal (mt_sizes (B1 := w1.heap.size) (B2 := w1.heap.size) HLEN.out.1 hn5 (pm := p.mbs) (qm := mbs) ?hl (fun z u i hi => ⟨later_cell ⟨z, HN9.out.trans u⟩ (HPC.out.1 i hi), later_cell ⟨z, HN9.out.trans u⟩ (HPC.out.2 i hi)⟩) ?hm _ (by kernel_rfl) ?_)
    case hl =>
      intro m hm
      obtain ⟨hmi, m0, m1, m2⟩ := HPD.out.inv.ms m hm
      have hn := HPD.out.n
      refine ⟨fun i hi => ?_, ?_⟩
      · obtain rfl | rfl | rfl : i = 0 ∨ i = 1 ∨ i = 2 := by omega
        all_goals omega
      · obtain ⟨r, hr⟩ := hmi.pre
        have h1 := congrArg List.length hr
        rw [List.length_append] at h1
        have := HPD.out.inv.cs.1
        omega
    case hm =>
      intro z u i hi
      have hf := HQL.out.nw (HN9.out.trans u)
      refine ⟨?_, ?_⟩
      · refine at_mirAt (i := i + 2) hf.fam (by omega) ?_
        rw [cQl_lt _ (by have := HLEN.out.1; omega), ← HCP.out]
        exact cPl_get _ _ hi
      · exact ql_mir hf hi
    intro u10 u38 u258 u259 u260 u261 u262 u263 u264 u265 u266 u267 u268 u269 u270 u271 u272 u273 u274 u275 u276 u277 u278 u279 u280 u281 u282 u283 u284 u285 u286 u287 u288 u289 u290 u291 u292 u293 w10 n10
    dsimp only [Exit.then]
    have HN10 : Hid (Nw w8 w10) := HN9.out.trans n10
    have HFv : Hid (∀ j, FPl (fun _ => False) ⟨.slice (some ⟨pb, po, none⟩) n1 ca, .slice la s.cs.length lc, .slice na n2 nc, .slice qa n2 qc, L1⟩ j → F5 j) := fun j hj => by
      refine HF5i.out j (hj.imp (fun e => e.elim) id) (fun f => ?_)
      have h2 := (HQl.out j f).2
      rcases hj with hj | hj | hj | hj | hj | ⟨q, hq, hj⟩
      · exact hj
      · have := (HPI.out.rows.oa.lt j hj).1; omega
      · have := (HPI.out.rows.ol.lt j hj).1; omega
      · have := (HPI.out.rows.on.lt j hj).1; omega
      · have := (HPI.out.rows.oq.lt j hj).1; omega
      · have := ((HPI.out.rows.oi q hq).lt j hj).1; omega
    clear n10 HPC
    obtain ⟨hky0, hky1⟩ := view_key hkey1
    have HKY := Lib.hid hkey1
    cases other with
    | false =>
      have HKK : Hid (Bk.isKey key = true) := HKY.out
      obtain ⟨kk, hkk⟩ : ∃ kk, key = kk := ⟨_, rfl⟩
      rw [hkk] at HKK
      go_upto_region 57 with fail
      clear hky0 hky1 hkey1
      (try rw [hkk])
      clear hkk
      have h10 := HQL.out.nw HN10.out
      have hnv := Lib.hid (new_v p.rb kk w10 (h10.gl g1.out))
      have H10 := Lib.hid h10
      clear h10
      go_wp2_with fail
      (with_reducible refine (hnv.out).mono ?_)
      rintro _ w11 hd
      rcases hd with ⟨-, rv, rfl, hrv, u11⟩ | ⟨h0, -⟩
      rotate_left
      · rw [HKK.out] at h0; cases h0
      have h11 := H10.out.fam.oneView g1.out.big u11 hrv
      generalize rv.vb = vb at *
      have H11 := Lib.hid h11
      have HN11 := Lib.hid (HN10.out.trans u11)
      have hnq := Lib.hid (new_qv qq.qb kk w11 (h11.gl g1.out))
      clear hnv hrv u11 h11
      go_wp2_with fail
      (with_reducible refine (hnq.out).mono ?_)
      rintro _ w12 hd
      rcases hd with ⟨-, rc, rfl, hrc, u12⟩ | ⟨h0, -⟩
      rotate_left
      · rw [HKK.out] at h0; cases h0
      have h12 := H11.out.oneQView g1.out.big u12 hrc
      generalize rc.cb = vc at *
      have HN12 := Lib.hid (HN11.out.trans u12)
      obtain ⟨N, hN⟩ : ∃ N, n1 + 2 + (s.ms.length + 2) = N := ⟨_, rfl⟩
      obtain ⟨F, hF⟩ : ∃ F : Nat → Prop, FQl F5 ⟨.slice (some ⟨ab, ao, none⟩) n1 ca2, .slice la2 s.cs.length lc2, .slice na2 n2 nc2, L2⟩ = F := ⟨_, rfl⟩
      obtain ⟨C, hC⟩ : ∃ C : Nat → Res, setC (setC (cQl w1.heap.size (n1 + 2) cP ⟨qq.qb, bb, mbs⟩ s) N (ViewC w1.heap.size vb p.rb kk [])) (N + 1) (QViewC w1.heap.size vc qq.qb kk []) = C := ⟨_, rfl⟩
      rw [hN, hF, hC] at h12
      have HC0 : Hid (C 0 = RingC w1.heap.size p.rb s.L) := by show _ = _; rw [← hC, setC_ne _ _ (by omega), setC_ne _ _ (by omega), cQl_lt _ (by omega), ← HCP.out]; rfl
      have HC1 : Hid (C N = ViewC w1.heap.size vb p.rb kk []) := by show _ = _; rw [← hC, setC_ne _ _ (by omega), setC_self]
      have HC2 : Hid (C (N + 1) = QViewC w1.heap.size vc qq.qb kk []) := by show _ = _; rw [← hC, setC_self]
      have HC3 : Hid (C (n1 + 2 + 0) = QRingC w1.heap.size qq.qb s.L) := by show _ = _; rw [← hC, setC_ne _ _ (by omega), setC_ne _ _ (by omega), cQl_ge]; rfl
      have HNN : Hid (n1 + 2 + 0 < N ∧ 0 < N) := ⟨by omega, by omega⟩
      have HVA : Hid (∀ z, MovesN w1 F w12 z → AnsSl (fun i => (L1.map (·.1)).getD i undef) z (.slice na n2 nc) s.an) := fun z mv => by
        rw [← hF] at mv
        have hr := rows_keep (HPR.out.nw HN12.out) HFv.out mv
        have := ansl_own hr.on hr.oi
        rw [hr.eL] at this
        exact this
      have HVB : Hid (∀ z, MovesN w1 F w12 z → AnsSl (fun i => (L2.map (·.1)).getD i undef) z (.slice na2 n2 nc2) s.an) := fun z mv => by
        rw [← hF] at mv
        have hr := (HQL.out.rows.nw HN12.out).moves mv
        have := ansl_own hr.on hr.oi
        rw [hr.eL] at this
        exact this
      have hinv := HPD.out.inv
      have hnI : I64 s.now := by have := hinv.now; have := HPD.out.n; unfold I64; omega
      have hLL : s.L.length ≤ 900000 := by have := HPD.out.ln; omega
      have hLn := hinv.made.nd
      have HLL := Lib.hid (And.intro hLL hLn)
      have HNI := Lib.hid hnI
      have hal : s.an.length ≤ 1000000 := by have := HLEN.out.2.2.2; omega
      have HAL := Lib.hid hal
      have hask := ask_w (r := 0) (i := N) (rb := p.rb) (vb := vb) (Lr := s.L) (key := kk) (L := []) h12 g1.out (by omega) (by omega) (by omega) HC0.out HC1.out (Vw.VOk.nil _ _) hLL s.an (.slice na n2 nc) _ HVA.out HSm.out hal s.now bound hnI HB.out
      have hvok := Mi.ask_vok (Vw.VOk.nil s.L kk) s.an
      obtain ⟨R, hR⟩ : ∃ R, Mi.ask s.L kk [] s.an = R := ⟨_, rfl⟩
      rw [hR] at hask hvok
      have HR := Lib.hid hR
      have HVOK := Lib.hid hvok
      obtain ⟨E, hE⟩ : ∃ E, Mi.askE R s.now bound = E := ⟨_, rfl⟩
      rw [hE] at hask
      have HE := Lib.hid hE
      have HASK := Lib.hid hask
      clear hnq hrc u12 h12 hN hF hC hinv hnI hLL hLn hal hask hvok hR hE H11 H10
      (try unfold sgnV at HASK)
      go_wp2_with fail
      (with_reducible refine (HASK.out).mono ?_)
      rintro _ w13 ⟨rfl, ha13, mv13⟩
      have n14a := nw_alloc w13 (ssO R.old)
      have n14b := nw_alloc (w13.alloc (ssO R.old)) (ssO R.odd)
      have k14a := Nw.keep n14b (heap_new w13 (ssO R.old))
      have k14b := heap_new (w13.alloc (ssO R.old)) (ssO R.odd)
      have s14 : (w13.alloc (ssO R.old)).heap.size = w13.heap.size + 1 := by simp
      rw [s14] at k14b
      obtain ⟨w14, hw14⟩ : ∃ w14, (w13.alloc (ssO R.old)).alloc (ssO R.odd) = w14 := ⟨_, rfl⟩
      have HW14 : Hid ((w13.alloc (.cells #[.int .i64 R.old.key, .string ⟨R.old.text.toArray⟩, .int .i64 R.old.mark] tSigned)).alloc (.cells #[.int .i64 R.odd.key, .string ⟨R.odd.text.toArray⟩, .int .i64 R.odd.mark] tSigned) = w14) := hw14
      rw [hw14] at n14b k14a k14b
      have n14 := n14a.trans n14b
      obtain ⟨x0, hx0⟩ : ∃ x0, w13.heap.size = x0 := ⟨_, rfl⟩
      have HX0 := Lib.hid hx0
      rw [hx0] at k14a k14b
      have h14 := ha13.keep (F' := fun j => F j ∨ j = x0 ∨ j = x0 + 1) n14 (fun j hj => hj.imp id (fun e => by have := lt_of_block k14b; have := n14.size; omega))
      have hv14 : MovesN w1 F w12 w14 := mv13.trans (Nw.upd _ n14)
      have hask2 := ask_q (r := n1 + 2 + 0) (i := N + 1) (rb := qq.qb) (vb := vc) (Lr := s.L) (key := kk) (L := []) h14 g1.out (by have := HNN.out; omega) (by omega) (by have := HNN.out; omega) (by rw [setC_ne _ _ (by have := HNN.out; omega)]; exact HC3.out) (by rw [setC_ne _ _ (by omega)]; exact HC2.out) (Vw.VOk.nil _ _) HLL.out.1 HLL.out.2 s.an (.slice na2 n2 nc2) _ (fun z mv => HVB.out z (hv14.trans (mv.mono (fun k _ e => ⟨fun f => e.1 (Or.inl f), e.2⟩)))) HSm.out HAL.out s.now bound HNI.out HB.out
      rw [HR.out, HE.out] at hask2
      have HASK2 := Lib.hid hask2
      have K14 := Lib.hid (And.intro k14a k14b)
      clear HASK ha13 mv13 n14a n14b k14a k14b s14 hw14 hx0 h14 hv14 hask2 n14
      (try unfold sgnV at HASK2)
      go_upto_region 62 with fail
      rw [HW14.out]
      (try rw [HX0.out])
      go_wp2_with fail
      (with_reducible refine (HASK2.out).mono ?_)
      rintro _ w15 ⟨rfl, ha15, mv15⟩
      have k15a := mv15.keep K14.out.1 (fun e => e.1 (Or.inr (Or.inl rfl)))
      have k15b := mv15.keep K14.out.2 (fun e => e.1 (Or.inr (Or.inr rfl)))
      have n16a := nw_alloc w15 (ssO R.old)
      have n16b := nw_alloc (w15.alloc (ssO R.old)) (ssO R.odd)
      have k16a := Nw.keep n16b (heap_new w15 (ssO R.old))
      have k16b := heap_new (w15.alloc (ssO R.old)) (ssO R.odd)
      have s16 : (w15.alloc (ssO R.old)).heap.size = w15.heap.size + 1 := by simp
      rw [s16] at k16b
      obtain ⟨w16, hw16⟩ : ∃ w16, (w15.alloc (ssO R.old)).alloc (ssO R.odd) = w16 := ⟨_, rfl⟩
      have HW16 : Hid ((w15.alloc (.cells #[.int .i64 R.old.key, .string ⟨R.old.text.toArray⟩, .int .i64 R.old.mark] tSigned)).alloc (.cells #[.int .i64 R.odd.key, .string ⟨R.odd.text.toArray⟩, .int .i64 R.odd.mark] tSigned) = w16) := hw16
      rw [hw16] at n16b k16a k16b
      have n16 := n16a.trans n16b
      obtain ⟨x1, hx1⟩ : ∃ x1, w15.heap.size = x1 := ⟨_, rfl⟩
      have HX1 := Lib.hid hx1
      rw [hx1] at k16a k16b
      obtain ⟨_, _, _⟩ := cell3 (Nw.keep n16 k15a)
      obtain ⟨_, _, _⟩ := cell3 (Nw.keep n16 k15b)
      obtain ⟨_, _, _⟩ := cell3 k16a
      obtain ⟨_, _, _⟩ := cell3 k16b
      have h16 := ha15.nw n16
      have HN16 : Hid (Nw w1 w16) := h16.nw0
      obtain ⟨rv, erv, hrv⟩ := at_viewAt (i := N) h16 (by omega) (by rw [setC_ne _ _ (by omega), setC_self])
      obtain ⟨rc, erc, hrc⟩ := at_qviewAt (i := N + 1) h16 (by omega) (setC_self _ _ _)
      have hRl : R.L.length ≤ 900000 := Nat.le_trans (vok_len HVOK.out) HLL.out.1
      have hst9 : ∀ x ∈ R.L, SgnOk x ∧ x.text.length ≤ 100000 := fun x hx => valid_ok37 HKK.out (by have := HLL.out.1; omega) (HVOK.out.each x hx).1 (HVOK.out.each x hx).2.1 (HVOK.out.each x hx).2.2
      have hby := bytes_v _ rv p.rb kk R.L w16 (h16.gl g1.out) hrv hst9 hRl
      rw [erv] at hby
      have hbq : ∀ z, Nw w16 z → Calls Tryz.prog 33 #[.pointer (some ⟨vc, 0, none⟩)] z fun e w' => e = .returned (.string ⟨(Vw.bytesOf kk R.L).toArray⟩) ∧ Nw z w' := fun z u => by
        have := bytesv_q _ rc qq.qb kk R.L z ((h16.nw u).gl g1.out) (hrc.nw u) hst9 hRl
        rw [erc] at this
        exact this
      generalize Vw.bytesOf kk R.L = BY at *
      have HBY := Lib.hid hby
      have HBQ := Lib.hid hbq
      clear HASK2 ha15 mv15 k15a k15b n16a n16b k16a k16b s16 hw16 hx1 n16 h16 hrv hrc erv erc hRl hst9 hby hbq
      go_upto_region 63 with fail
      rw [HW16.out]
      (try rw [HX1.out])
      go_wp2_with fail
      (with_reducible refine (HBY.out).mono ?_)
      rintro _ w17 ⟨rfl, u17⟩
      have HN17 := Lib.hid (HN16.out.trans u17)
      have hbq := Lib.hid (HBQ.out w17 u17)
      clear HBY HBQ u17
      go_wp2_with fail
      (with_reducible refine (hbq.out).mono ?_)
      rintro _ w18 ⟨rfl, u18⟩
      have HFIN : Hid (Nw W w18) := U1.out.trans (HN17.out.trans u18)
      clear hbq u18
      go_wp2_with fail
      go_ret
      exact ⟨rfl, HFIN.out⟩
    | true =>
      obtain ⟨kk, hkk⟩ : ∃ kk, (key + 1) % 200 = kk := ⟨_, rfl⟩
      have HKK : Hid (Bk.isKey kk = true) := by show _ = _; unfold Bk.isKey; simp; omega
      go_upto_region 57 with fail
      clear hky0 hky1 hkey1
      (try rw [hkk])
      clear hkk
      have h10 := HQL.out.nw HN10.out
      have hnv := Lib.hid (new_v p.rb kk w10 (h10.gl g1.out))
      have H10 := Lib.hid h10
      clear h10
      go_wp2_with fail
      (with_reducible refine (hnv.out).mono ?_)
      rintro _ w11 hd
      rcases hd with ⟨-, rv, rfl, hrv, u11⟩ | ⟨h0, -⟩
      rotate_left
      · rw [HKK.out] at h0; cases h0
      have h11 := H10.out.fam.oneView g1.out.big u11 hrv
      generalize rv.vb = vb at *
      have H11 := Lib.hid h11
      have HN11 := Lib.hid (HN10.out.trans u11)
      have hnq := Lib.hid (new_qv qq.qb kk w11 (h11.gl g1.out))
      clear hnv hrv u11 h11
      go_wp2_with fail
      (with_reducible refine (hnq.out).mono ?_)
      rintro _ w12 hd
      rcases hd with ⟨-, rc, rfl, hrc, u12⟩ | ⟨h0, -⟩
      rotate_left
      · rw [HKK.out] at h0; cases h0
      have h12 := H11.out.oneQView g1.out.big u12 hrc
      generalize rc.cb = vc at *
      have HN12 := Lib.hid (HN11.out.trans u12)
      obtain ⟨N, hN⟩ : ∃ N, n1 + 2 + (s.ms.length + 2) = N := ⟨_, rfl⟩
      obtain ⟨F, hF⟩ : ∃ F : Nat → Prop, FQl F5 ⟨.slice (some ⟨ab, ao, none⟩) n1 ca2, .slice la2 s.cs.length lc2, .slice na2 n2 nc2, L2⟩ = F := ⟨_, rfl⟩
      obtain ⟨C, hC⟩ : ∃ C : Nat → Res, setC (setC (cQl w1.heap.size (n1 + 2) cP ⟨qq.qb, bb, mbs⟩ s) N (ViewC w1.heap.size vb p.rb kk [])) (N + 1) (QViewC w1.heap.size vc qq.qb kk []) = C := ⟨_, rfl⟩
      rw [hN, hF, hC] at h12
      have HC0 : Hid (C 0 = RingC w1.heap.size p.rb s.L) := by show _ = _; rw [← hC, setC_ne _ _ (by omega), setC_ne _ _ (by omega), cQl_lt _ (by omega), ← HCP.out]; rfl
      have HC1 : Hid (C N = ViewC w1.heap.size vb p.rb kk []) := by show _ = _; rw [← hC, setC_ne _ _ (by omega), setC_self]
      have HC2 : Hid (C (N + 1) = QViewC w1.heap.size vc qq.qb kk []) := by show _ = _; rw [← hC, setC_self]
      have HC3 : Hid (C (n1 + 2 + 0) = QRingC w1.heap.size qq.qb s.L) := by show _ = _; rw [← hC, setC_ne _ _ (by omega), setC_ne _ _ (by omega), cQl_ge]; rfl
      have HNN : Hid (n1 + 2 + 0 < N ∧ 0 < N) := ⟨by omega, by omega⟩
      have HVA : Hid (∀ z, MovesN w1 F w12 z → AnsSl (fun i => (L1.map (·.1)).getD i undef) z (.slice na n2 nc) s.an) := fun z mv => by
        rw [← hF] at mv
        have hr := rows_keep (HPR.out.nw HN12.out) HFv.out mv
        have := ansl_own hr.on hr.oi
        rw [hr.eL] at this
        exact this
      have HVB : Hid (∀ z, MovesN w1 F w12 z → AnsSl (fun i => (L2.map (·.1)).getD i undef) z (.slice na2 n2 nc2) s.an) := fun z mv => by
        rw [← hF] at mv
        have hr := (HQL.out.rows.nw HN12.out).moves mv
        have := ansl_own hr.on hr.oi
        rw [hr.eL] at this
        exact this
      have hinv := HPD.out.inv
      have hnI : I64 s.now := by have := hinv.now; have := HPD.out.n; unfold I64; omega
      have hLL : s.L.length ≤ 900000 := by have := HPD.out.ln; omega
      have hLn := hinv.made.nd
      have HLL := Lib.hid (And.intro hLL hLn)
      have HNI := Lib.hid hnI
      have hal : s.an.length ≤ 1000000 := by have := HLEN.out.2.2.2; omega
      have HAL := Lib.hid hal
      have hask := ask_w (r := 0) (i := N) (rb := p.rb) (vb := vb) (Lr := s.L) (key := kk) (L := []) h12 g1.out (by omega) (by omega) (by omega) HC0.out HC1.out (Vw.VOk.nil _ _) hLL s.an (.slice na n2 nc) _ HVA.out HSm.out hal s.now bound hnI HB.out
      have hvok := Mi.ask_vok (Vw.VOk.nil s.L kk) s.an
      obtain ⟨R, hR⟩ : ∃ R, Mi.ask s.L kk [] s.an = R := ⟨_, rfl⟩
      rw [hR] at hask hvok
      have HR := Lib.hid hR
      have HVOK := Lib.hid hvok
      obtain ⟨E, hE⟩ : ∃ E, Mi.askE R s.now bound = E := ⟨_, rfl⟩
      rw [hE] at hask
      have HE := Lib.hid hE
      have HASK := Lib.hid hask
      clear hnq hrc u12 h12 hN hF hC hinv hnI hLL hLn hal hask hvok hR hE H11 H10
      (try unfold sgnV at HASK)
      go_wp2_with fail
      (with_reducible refine (HASK.out).mono ?_)
      rintro _ w13 ⟨rfl, ha13, mv13⟩
      have n14a := nw_alloc w13 (ssO R.old)
      have n14b := nw_alloc (w13.alloc (ssO R.old)) (ssO R.odd)
      have k14a := Nw.keep n14b (heap_new w13 (ssO R.old))
      have k14b := heap_new (w13.alloc (ssO R.old)) (ssO R.odd)
      have s14 : (w13.alloc (ssO R.old)).heap.size = w13.heap.size + 1 := by simp
      rw [s14] at k14b
      obtain ⟨w14, hw14⟩ : ∃ w14, (w13.alloc (ssO R.old)).alloc (ssO R.odd) = w14 := ⟨_, rfl⟩
      have HW14 : Hid ((w13.alloc (.cells #[.int .i64 R.old.key, .string ⟨R.old.text.toArray⟩, .int .i64 R.old.mark] tSigned)).alloc (.cells #[.int .i64 R.odd.key, .string ⟨R.odd.text.toArray⟩, .int .i64 R.odd.mark] tSigned) = w14) := hw14
      rw [hw14] at n14b k14a k14b
      have n14 := n14a.trans n14b
      obtain ⟨x0, hx0⟩ : ∃ x0, w13.heap.size = x0 := ⟨_, rfl⟩
      have HX0 := Lib.hid hx0
      rw [hx0] at k14a k14b
      have h14 := ha13.keep (F' := fun j => F j ∨ j = x0 ∨ j = x0 + 1) n14 (fun j hj => hj.imp id (fun e => by have := lt_of_block k14b; have := n14.size; omega))
      have hv14 : MovesN w1 F w12 w14 := mv13.trans (Nw.upd _ n14)
      have hask2 := ask_q (r := n1 + 2 + 0) (i := N + 1) (rb := qq.qb) (vb := vc) (Lr := s.L) (key := kk) (L := []) h14 g1.out (by have := HNN.out; omega) (by omega) (by have := HNN.out; omega) (by rw [setC_ne _ _ (by have := HNN.out; omega)]; exact HC3.out) (by rw [setC_ne _ _ (by omega)]; exact HC2.out) (Vw.VOk.nil _ _) HLL.out.1 HLL.out.2 s.an (.slice na2 n2 nc2) _ (fun z mv => HVB.out z (hv14.trans (mv.mono (fun k _ e => ⟨fun f => e.1 (Or.inl f), e.2⟩)))) HSm.out HAL.out s.now bound HNI.out HB.out
      rw [HR.out, HE.out] at hask2
      have HASK2 := Lib.hid hask2
      have K14 := Lib.hid (And.intro k14a k14b)
      clear HASK ha13 mv13 n14a n14b k14a k14b s14 hw14 hx0 h14 hv14 hask2 n14
      (try unfold sgnV at HASK2)
      go_upto_region 62 with fail
      rw [HW14.out]
      (try rw [HX0.out])
      go_wp2_with fail
      (with_reducible refine (HASK2.out).mono ?_)
      rintro _ w15 ⟨rfl, ha15, mv15⟩
      have k15a := mv15.keep K14.out.1 (fun e => e.1 (Or.inr (Or.inl rfl)))
      have k15b := mv15.keep K14.out.2 (fun e => e.1 (Or.inr (Or.inr rfl)))
      have n16a := nw_alloc w15 (ssO R.old)
      have n16b := nw_alloc (w15.alloc (ssO R.old)) (ssO R.odd)
      have k16a := Nw.keep n16b (heap_new w15 (ssO R.old))
      have k16b := heap_new (w15.alloc (ssO R.old)) (ssO R.odd)
      have s16 : (w15.alloc (ssO R.old)).heap.size = w15.heap.size + 1 := by simp
      rw [s16] at k16b
      obtain ⟨w16, hw16⟩ : ∃ w16, (w15.alloc (ssO R.old)).alloc (ssO R.odd) = w16 := ⟨_, rfl⟩
      have HW16 : Hid ((w15.alloc (.cells #[.int .i64 R.old.key, .string ⟨R.old.text.toArray⟩, .int .i64 R.old.mark] tSigned)).alloc (.cells #[.int .i64 R.odd.key, .string ⟨R.odd.text.toArray⟩, .int .i64 R.odd.mark] tSigned) = w16) := hw16
      rw [hw16] at n16b k16a k16b
      have n16 := n16a.trans n16b
      obtain ⟨x1, hx1⟩ : ∃ x1, w15.heap.size = x1 := ⟨_, rfl⟩
      have HX1 := Lib.hid hx1
      rw [hx1] at k16a k16b
      obtain ⟨_, _, _⟩ := cell3 (Nw.keep n16 k15a)
      obtain ⟨_, _, _⟩ := cell3 (Nw.keep n16 k15b)
      obtain ⟨_, _, _⟩ := cell3 k16a
      obtain ⟨_, _, _⟩ := cell3 k16b
      have h16 := ha15.nw n16
      have HN16 : Hid (Nw w1 w16) := h16.nw0
      obtain ⟨rv, erv, hrv⟩ := at_viewAt (i := N) h16 (by omega) (by rw [setC_ne _ _ (by omega), setC_self])
      obtain ⟨rc, erc, hrc⟩ := at_qviewAt (i := N + 1) h16 (by omega) (setC_self _ _ _)
      have hRl : R.L.length ≤ 900000 := Nat.le_trans (vok_len HVOK.out) HLL.out.1
      have hst9 : ∀ x ∈ R.L, SgnOk x ∧ x.text.length ≤ 100000 := fun x hx => valid_ok37 HKK.out (by have := HLL.out.1; omega) (HVOK.out.each x hx).1 (HVOK.out.each x hx).2.1 (HVOK.out.each x hx).2.2
      have hby := bytes_v _ rv p.rb kk R.L w16 (h16.gl g1.out) hrv hst9 hRl
      rw [erv] at hby
      have hbq : ∀ z, Nw w16 z → Calls Tryz.prog 33 #[.pointer (some ⟨vc, 0, none⟩)] z fun e w' => e = .returned (.string ⟨(Vw.bytesOf kk R.L).toArray⟩) ∧ Nw z w' := fun z u => by
        have := bytesv_q _ rc qq.qb kk R.L z ((h16.nw u).gl g1.out) (hrc.nw u) hst9 hRl
        rw [erc] at this
        exact this
      generalize Vw.bytesOf kk R.L = BY at *
      have HBY := Lib.hid hby
      have HBQ := Lib.hid hbq
      clear HASK2 ha15 mv15 k15a k15b n16a n16b k16a k16b s16 hw16 hx1 n16 h16 hrv hrc erv erc hRl hst9 hby hbq
      go_upto_region 63 with fail
      rw [HW16.out]
      (try rw [HX1.out])
      go_wp2_with fail
      (with_reducible refine (HBY.out).mono ?_)
      rintro _ w17 ⟨rfl, u17⟩
      have HN17 := Lib.hid (HN16.out.trans u17)
      have hbq := Lib.hid (HBQ.out w17 u17)
      clear HBY HBQ u17
      go_wp2_with fail
      (with_reducible refine (hbq.out).mono ?_)
      rintro _ w18 ⟨rfl, u18⟩
      have HFIN : Hid (Nw W w18) := U1.out.trans (HN17.out.trans u18)
      clear hbq u18
      go_wp2_with fail
      go_ret
      exact ⟨rfl, HFIN.out⟩
end Go.Proofs.YtagmlemlagbfkaaGreatDoor
