/- The contract of BookHonest. -/
import Derived.Test.YtjjdmmhlcdfplaaDoorBookH
import Derived.Test.YtjjdmmhlcdfplaaDoorBookY
import Derived.Test.YtjjdmmhlcdfplaaDoorClaimE
namespace Go.Proofs.YtjjdmmhlcdfplaaDoor
open Go.RowKit
set_option linter.unusedVariables false
set_option linter.unusedSimpArgs false
attribute [local irreducible] Calls

theorem do_k (key : Int) (B : Nat) (r : RingR) (br : BookR) (x : Bk.St) (hkey : x.b.key = key) (o : Bk.Opn) (w : World) (g : Gl w) (h : Both B w r br x) (hB : B ≤ w.heap.size) (hn : I64 o.n) (hs : o.s.length ≤ 20000000) (hL : x.L.length ≤ 1000000) :
    Calls Tryd.prog 13 #[.pointer (some ⟨br.bb, 0, none⟩), .pointer (some ⟨r.rb, 0, none⟩), .int .i64 key, .agg #[.int .i64 o.kind, .int .i64 o.n, .string ⟨o.s.toArray⟩]] w (DoPost B r br (Bk.doS key x o) w) := by
  subst hkey
  exact do_c B r br x o w g h hB hn hs hL
theorem infoC : (Tryd.prog.info? tC).map (fun i => (i.zero, i.size, i.bytes)) = some (some (.agg #[.int .i64 0, .int .i64 0, .int .i64 0, .string ⟨#[]⟩]), 4, 40) := by kernel_rfl
def cellsL (c : Cl.Clm) : List Value := [.int .i64 c.kind, .int .i64 c.n, .int .i64 c.time, .string ⟨c.text.toArray⟩]
def flatC (l : List Cl.Clm) : List Value := (l.map cellsL).flatten
theorem flatC_snoc (l : List Cl.Clm) (c : Cl.Clm) : flatC (l ++ [c]) = flatC l ++ cellsL c := by simp [flatC]
theorem cl_cells {lo hi : Nat} {w : World} {v : Value} {X : List Cl.Clm} (h : SlS 4 lo hi w v (X.map cellsL)) :
    ∃ a cap, v = .slice a X.length cap ∧ X.length ≤ maxLen ∧ (X = [] ∨ ∃ b off, a = some ⟨b, off, none⟩ ∧ b < w.heap.size ∧ ∀ i (h : i < X.length), w.cell? ⟨b, off + i * 4, none⟩ = some (.int .i64 X[i].kind) ∧
      w.cell? ⟨b, off + i * 4 + 1, none⟩ = some (.int .i64 X[i].n) ∧ w.cell? ⟨b, off + i * 4 + 2, none⟩ = some (.int .i64 X[i].time) ∧ w.cell? ⟨b, off + i * 4 + 3, none⟩ = some (.string ⟨X[i].text.toArray⟩)) := by
  obtain ⟨a, cap, rfl, hm, h⟩ := h.open_
  rw [List.length_map] at hm
  refine ⟨a, cap, by rw [List.length_map], hm, ?_⟩
  rcases h with h | ⟨b, off, rfl, _, _, hb, hc⟩
  · exact Or.inl (List.map_eq_nil_iff.1 h)
  · refine Or.inr ⟨b, off, rfl, hb, fun i hi => ?_⟩
    have h2 := (hc i (by simpa using hi)).2
    simp only [List.getElem_map] at h2
    exact ⟨by rw [← Nat.add_zero (off + i * 4), h2 0 (by omega)]; rfl, by rw [h2 1 (by omega)]; rfl, by rw [h2 2 (by omega)]; rfl, by rw [h2 3 (by omega)]; rfl⟩
/-- The cells of a list of the ring's entries. -/
theorem seal_cells {lo hi : Nat} {w : World} {v : Value} {X : List Bk.Seal} (h : SlS 2 lo hi w v (X.map sealL)) :
    ∃ a cap, v = .slice a X.length cap ∧ X.length ≤ maxLen ∧ (X = [] ∨ ∃ b off, a = some ⟨b, off, none⟩ ∧ b < hi ∧ b < w.heap.size ∧ ∀ i (h : i < X.length),
      w.cell? ⟨b, off + i * 2, none⟩ = some (.int .i64 X[i].key) ∧ w.cell? ⟨b, off + i * 2 + 1, none⟩ = some (.string ⟨X[i].text.toArray⟩)) := by
  obtain ⟨a, cap, rfl, hm, h⟩ := h.open_
  rw [List.length_map] at hm
  refine ⟨a, cap, by rw [List.length_map], hm, ?_⟩
  rcases h with h | ⟨b, off, rfl, _, hb1, hb, hc⟩
  · exact Or.inl (List.map_eq_nil_iff.1 h)
  · refine Or.inr ⟨b, off, rfl, hb1, hb, fun i hi => ?_⟩
    have h2 := (hc i (by simpa using hi)).2
    simp only [List.getElem_map] at h2
    exact ⟨by rw [← Nat.add_zero (off + i * 2), h2 0 (by omega)]; rfl, by rw [h2 1 (by omega)]; rfl⟩
theorem sgn_ok {B : Nat} {w : World} {r : RingR} {L : List Bk.Seal} {s : Bk.Sgn} (h : RingAt B w r L) (hL : L.length ≤ 1000000) (hv : Bk.valid L s = true) : SgnOk s := by
  unfold Bk.valid at hv
  split at hv
  · rename_i i hp
    have hv' : (i : Int) = s.mark := of_decide_eq_true hv
    have hm := Bk.place_some hp
    have hi := Bk.place_lt hp
    obtain ⟨h1, h2⟩ := h.key _ (List.mem_of_getElem? hm)
    exact ⟨h1, h2, by unfold I64; omega⟩
  · cases hv
set_option maxHeartbeats 4000000 in
set_option maxRecDepth 100000 in
theorem honest_c (key : Int) (l : List Bk.Opn) (v : Value) (w : World) (g : Gl w) (hv : SlS 3 0 w.heap.size w v (l.map opL)) (ho : ∀ o ∈ l, OpOk o) (hk : I64 key) :
    Calls Tryd.prog 6 #[.int .i64 key, v] w fun e w' => e = .returned (.bool true) ∧ Nw w w' := by
  have hgb := g.big
  have hB0 : w.heap.size ≤ w.heap.size := Nat.le_refl _
  obtain ⟨a, cap, rfl, hm, ha⟩ := op_cells hv
  have Ha := Lib.hid ha; clear ha
  have Hm := Lib.hid hm; clear hm
  have Hk := Lib.hid hk; clear hk
  go_enter Tryd.func6, Tryd.ntmps6
  go_wp2_with fail
  (with_reducible refine (small_b _ g).mono ?_)
  rintro _ w1 ⟨rfl, u⟩
  go_wp2_with fail
  (with_reducible refine (few_b 0 w.heap.size _ l _ (hv.nw u) ho).mono ?_)
  rintro _ w2 ⟨f, rfl, hf, u2⟩
  replace u := u.trans u2
  clear u2
  cases f with
  | false =>
    go_wp2_with fail
    go_ret
    exact ⟨rfl, u⟩
  | true =>
  obtain ⟨hl25, h300⟩ := hf rfl
  have H25 := Lib.hid hl25
  have H300 := Lib.hid h300
  clear hf hl25 h300
  go_wp2_with fail
  (with_reducible refine (new_s _ (g.upd u)).mono ?_)
  rintro _ w3 ⟨r, rfl, hr, u3⟩
  have g3 := (g.upd u).upd u3
  go_wp2_with fail
  (with_reducible refine (new_b r.rb key _ g3).mono ?_)
  rintro _ w4 hb
  rcases hb with ⟨hkk, br, rfl, hb, u4⟩ | ⟨hkk, rfl, u4⟩
  rotate_left
  · have hkx : Hid (¬ (0 ≤ key ∧ key < 200)) := fun h => by
      unfold Bk.isKey at hkk
      simp [h] at hkk
    replace u := (u.trans u3).trans u4
    clear hkk
    dsimp only
    by_cases h0 : key < 0
    · have h0b : decide (key < 0) = true := decide_eq_true h0
      go_wp2_with fail
      go_ret
      exact ⟨rfl, u⟩
    · have h0b : decide (key < 0) = false := decide_eq_false h0
      have h2 : 200 ≤ key := by have := hkx.out; omega
      have h2b : decide (200 ≤ key) = true := decide_eq_true h2
      go_wp2_with fail
      go_ret
      exact ⟨rfl, u⟩
  dsimp only
  have h := both_new hr hb u4 u3.size
  have hB2 := u.size
  replace u := (u.trans u3).trans u4
  have hon := Bk.hon_new key
  clear hr hb u3 u4 g3
  generalize hBB : w2.heap.size = B at *
  clear hBB
  go_wp2_with fail
  go_loopw [9] (fun i wr => ∃ k : Nat, k ≤ l.length ∧ i = .int .i64 k ∧ (∃ r' br' x, r'.rb = r.rb ∧ br'.bb = br.bb ∧ Both B wr r' br' x ∧ Bk.Hon key x ∧ Hid (x.L.length ≤ k)) ∧ Nw w wr) (fun i _ => l.length - (intOf i).toNat)
  case atStart => exact ⟨0, Nat.zero_le _, rfl, ⟨r, br, _, rfl, rfl, h, hon, (Nat.le_refl _)⟩, u⟩
  case round =>
    clear h hon u
    obtain ⟨k, hk, rfl, ⟨r', br', x, hrb, hbb, h, hon, hxl⟩, u⟩ := hrel
    by_cases hlt : k < l.length
    · rcases Ha.out with hnil | ⟨b, off, rfl, _, hbl, hcell⟩
      · simp [hnil] at hlt
      · have c0 := ((Nw.below u).cell (p := ⟨b, off + k * 3, none⟩) hbl).trans (hcell k hlt).1
        have c1 := ((Nw.below u).cell (p := ⟨b, off + k * 3 + 1, none⟩) hbl).trans (hcell k hlt).2.1
        have c2 := ((Nw.below u).cell (p := ⟨b, off + k * 3 + 2, none⟩) hbl).trans (hcell k hlt).2.2
        have Hok := Lib.hid (ho l[k] (List.getElem_mem hlt))
        have H3 := Lib.hid (H300.out l[k] (List.getElem_mem hlt))
        have K0 := Lib.hid (hcell k hlt)
        clear hcell
        generalize l[k] = o at *
        obtain ⟨oz, on, os⟩ := o
        dsimp only at c0 c1 c2
        have hd := do_k key B r' br' x hon.own ⟨oz, on, os⟩ wr (g.upd u) h (by have h1 := h.ring.rb; have h2 := lt_of_block h.ring.blk; omega) Hok.out.n (Nat.le_trans H3.out (by decide)) (by have h1 := hxl.out; have h2 := H25.out; omega)
        rw [hrb, hbb] at hd
        go_wp2_with fail
        (with_reducible refine (hd).mono ?_)
        rintro _ w5 ⟨r5, br5, rfl, m⟩
        have hon5 := Bk.hon_do hon ⟨oz, on, os⟩
        have hl5 := Bk.do_len key x ⟨oz, on, os⟩
        have hgood := Lib.hid (Bk.do_good (x := x) hkk hon.own ⟨oz, on, os⟩)
        have u5 := moved_nw h hB2 u m
        clear hd
        dsimp only
        generalize Bk.doS key x ⟨oz, on, os⟩ = y at *
        obtain ⟨⟨⟨sk, st, sm⟩, n1, e1⟩, x5⟩ := y
        dsimp only [sgnV] at *
        have n := nw_alloc w5 (.cells #[.int .i64 sk, .string ⟨st.toArray⟩, .int .i64 sm] tSigned)
        obtain ⟨cb0, cb1, cb2⟩ := cell3 (heap_new w5 (.cells #[.int .i64 sk, .string ⟨st.toArray⟩, .int .i64 sm] tSigned))
        have h5 := m.both.nw n
        have u6 := Nw.trans u5 n
        clear c0 c1 c2
        have c0 := ((Nw.below u6).cell (p := ⟨b, off + k * 3, none⟩) hbl).trans K0.out.1
        have hrb5 := m.rb.trans hrb
        have hbb5 := m.bb.trans hbb
        clear m n u5 u h
        have hnext : Hid (x5.L.length ≤ k + 1) := Nat.le_trans hl5 (Nat.succ_le_succ hxl.out)
        clear hl5 hxl
        have hk1 : Hid (k + 1 ≤ l.length) := hlt
        have hkb : k < 25 := Nat.lt_of_lt_of_le hlt H25.out
        by_cases hg : 1 ≤ oz ∧ oz ≤ 3 ∧ e1 = 0
        · obtain ⟨hg1, hg2, hg3⟩ := hg
          subst hg3
          obtain ⟨hs1, hs2⟩ := hgood.out hg1 hg2 rfl
          subst hs1
          have b1 : decide (1 ≤ oz) = true := decide_eq_true hg1
          have b2 : decide (oz ≤ 3) = true := decide_eq_true hg2
          have hsg := sgn_ok h5.ring (by have h1 := hnext.out; have h2 := H25.out; omega) hs2
          go_wp2_with fail
          have hv5 := valid_s B r5 x5.L ⟨sk, st, sm⟩ _ (g.upd u6) h5.ring hsg
          rw [hs2, hrb5] at hv5
          (with_reducible refine (hv5).mono ?_)
          rintro _ w6 ⟨rfl, u7⟩
          go_wp2_with fail
          have hkl : k < l.length := hk1.out
          go_roundw
          case rel => exact ⟨k + 1, hk1.out, by go_num, ⟨r5, br5, x5, hrb5, hbb5, h5.nw u7, hon5, hnext⟩, Nw.trans u6 u7⟩
          case measure => simp [intOf]; omega
        · clear hgood
          by_cases hg1 : 1 ≤ oz
          · have b1 : decide (1 ≤ oz) = true := decide_eq_true hg1
            by_cases hg2 : oz ≤ 3
            · have b2 : decide (oz ≤ 3) = true := decide_eq_true hg2
              have b3 : (e1 == 0) = false := by
                rw [beq_eq_false_iff_ne]
                exact fun e => hg ⟨hg1, hg2, e⟩
              go_wp2_with fail
              have hkl : k < l.length := hk1.out
              go_roundw
              case rel => exact ⟨k + 1, hk1.out, by go_num, ⟨r5, br5, x5, hrb5, hbb5, h5, hon5, hnext⟩, u6⟩
              case measure => simp [intOf]; omega
            · have b2 : decide (oz ≤ 3) = false := decide_eq_false hg2
              go_wp2_with fail
              have hkl : k < l.length := hk1.out
              go_roundw
              case rel => exact ⟨k + 1, hk1.out, by go_num, ⟨r5, br5, x5, hrb5, hbb5, h5, hon5, hnext⟩, u6⟩
              case measure => simp [intOf]; omega
          · have b1 : decide (1 ≤ oz) = false := decide_eq_false hg1
            go_wp2_with fail
            have hkl : k < l.length := hk1.out
            go_roundw
            case rel => exact ⟨k + 1, hk1.out, by go_num, ⟨r5, br5, x5, hrb5, hbb5, h5, hon5, hnext⟩, u6⟩
            case measure => simp [intOf]; omega
    · have hx25 : Hid (x.L.length ≤ 25) := Nat.le_trans hxl.out (Nat.le_trans hk H25.out)
      clear hxl
      have hal := all_s B r' x.L wr (g.upd u) h.ring (Nat.le_trans hx25.out (by decide))
      rw [hrb] at hal
      go_wp2_with fail
      (with_reducible refine (hal).mono ?_)
      rintro _ w5 ⟨va, rfl, hva, u5⟩
      have hsl := SlS.of_owns hva (by simp) (by omega) (fun y hy => by
        obtain ⟨z, _, rfl⟩ := List.mem_map.1 hy
        rfl)
      replace u := Nw.trans u u5
      have Hlen := Lib.hid h.ring.key
      clear hal hva u5 h Ha hv
      obtain ⟨wZ, rfl⟩ : ∃ z, z = wr := ⟨_, rfl⟩
      obtain ⟨aa, capa, rfl, hma, haa⟩ := seal_cells hsl
      have Haa := Lib.hid haa; clear haa hsl
      have Hma := Lib.hid hma; clear hma
      go_wp2_with fail
      go_loopw [14, 15] (fun out i wr => ∃ k : Nat, k ≤ x.L.length ∧ i = .int .i64 k ∧ (∃ C : List Cl.Clm, Hid (C.length ≤ k) ∧ wr.ownsRow w5.heap.size tC 4 out C.length (flatC C) ∧ ∀ c ∈ C, Cl.right c = true ∧ (⟨key, Cl.text c⟩ : Bk.Seal) ∈ x.L) ∧ Nw w5 wr) (fun _ i _ => x.L.length - (intOf i).toNat)
      case atStart => exact ⟨0, Nat.zero_le _, rfl, ⟨[], Nat.le_refl _, World.ownsRow_nil _ _ _ _, fun c hc => by cases hc⟩, Upd.refl _ _⟩
      case round =>
        obtain ⟨k, hk, rfl, ⟨C, hC, hown, hall⟩, u2⟩ := hrel
        have Hall := Lib.hid hall; clear hall
        by_cases hlt : k < x.L.length
        · rcases Haa.out with hnil | ⟨b, off, rfl, _, hbl, hcell⟩
          · simp [hnil] at hlt
          · have c0 := ((Nw.below u2).cell (p := ⟨b, off + k * 2, none⟩) hbl).trans (hcell k hlt).1
            have c1 := ((Nw.below u2).cell (p := ⟨b, off + k * 2 + 1, none⟩) hbl).trans (hcell k hlt).2
            have hmem : x.L[k] ∈ x.L := List.getElem_mem hlt
            have Hmem := Lib.hid hmem; clear hmem
            have hk1 : Hid (k + 1 ≤ x.L.length) := hlt
            have hkb : k < 25 := Nat.lt_of_lt_of_le hlt hx25.out
            clear hcell
            generalize x.L[k] = e at *
            obtain ⟨ek, et⟩ := e
            dsimp only at c0 c1
            by_cases hek : ek = key
            · subst hek
              obtain ⟨c, hr, htx, _⟩ := hon.all _ Hmem.out rfl
              dsimp only at htx
              have hread := Cl.read_text hr
              rw [htx] at hread
              have hlc := (Hlen.out _ Hmem.out).2
              dsimp only at hlc
              have hrc := read_c ⟨et.toArray⟩ et rfl (Nat.le_trans hlc (by decide)) wr ((g.upd u).upd u2)
              rw [hread] at hrc
              dsimp only [clmV, errV] at hrc
              have Hr := Lib.hid hr; clear hr
              have Htx := Lib.hid htx; clear htx hread hlc
              go_wp2_with fail
              (with_reducible refine (hrc).mono ?_)
              rintro _ w6 ⟨rfl, u6⟩
              clear hrc
              dsimp only
              rw [if_pos trivial]
              have n := nw_alloc w6 (.cells #[.int .i64 c.kind, .int .i64 c.n, .int .i64 c.time, .string ⟨c.text.toArray⟩] tC)
              have K := Lib.hid (heap_new w6 (.cells #[.int .i64 c.kind, .int .i64 c.n, .int .i64 c.time, .string ⟨c.text.toArray⟩] tC))
              obtain ⟨_, _, _, _⟩ := one_claim K.out
              replace u2 := Nw.trans (Nw.trans u2 u6) n
              replace hown := owns_upd (owns_upd hown u6 (fun _ _ _ s => s)) n (fun _ _ _ s => s)
              clear u6 n
              have ic : I64C c := by
                have hb := Cl.right_bounds Hr.out
                exact ⟨by unfold I64; omega, by unfold I64; omega, by unfold I64; omega, by omega⟩
              have hrt := right_c c ⟨c.text.toArray⟩ rfl ic _ ((g.upd u).upd u2)
              rw [Hr.out] at hrt
              have Ic := Lib.hid ic; clear ic
              go_wp2_with fail
              (with_reducible refine (hrt).mono ?_)
              rintro _ w7 ⟨rfl, u7⟩
              clear hrt
              have k7 := Nw.keep u7 K.out
              replace K := Lib.hid k7
              clear k7
              replace u2 := Nw.trans u2 u7
              replace hown := owns_upd hown u7 (fun _ _ _ s => s)
              obtain ⟨wY, rfl⟩ : ∃ z, z = wr := ⟨_, rfl⟩
              have hsl : SlS 4 w5.heap.size w7.heap.size w7 _ (C.map cellsL) := SlS.of_owns hown (by rw [List.length_map]) (by omega) (fun y hy => by obtain ⟨d, _, rfl⟩ := List.mem_map.1 hy; rfl)
              obtain ⟨aC, capC, rfl, hmC, hcC⟩ := cl_cells hsl
              have HcC := Lib.hid hcC; clear hcC hsl
              have Hown := Lib.hid hown; clear hown
              have HmC := Lib.hid hmC; clear hmC
              dsimp only
              go_wp2_with fail
              go_loopw [18] (fun i wr => ∃ m : Nat, m ≤ C.length ∧ i = .int .i64 m ∧ Nw w7 wr) (fun i _ => C.length - (intOf i).toNat)
              case atStart => exact ⟨0, Nat.zero_le _, rfl, Upd.refl _ _⟩
              case round =>
                obtain ⟨m, hm, rfl, ui⟩ := hrel
                have kc := Nw.keep ui K.out
                by_cases hlm : m < C.length
                · rcases HcC.out with hnil | ⟨bx, ox, rfl, hbx, hcx⟩
                  · simp [hnil] at hlm
                  obtain ⟨p0, p1, p2, p3⟩ := hcx m hlm
                  have q0 := ((Nw.below ui).cell (p := ⟨bx, ox + m * 4, none⟩) hbx).trans p0
                  have q1 := ((Nw.below ui).cell (p := ⟨bx, ox + m * 4 + 1, none⟩) hbx).trans p1
                  have q2 := ((Nw.below ui).cell (p := ⟨bx, ox + m * 4 + 2, none⟩) hbx).trans p2
                  have q3 := ((Nw.below ui).cell (p := ⟨bx, ox + m * 4 + 3, none⟩) hbx).trans p3
                  clear hcx p0 p1 p2 p3
                  obtain ⟨hrm, htm⟩ := Hall.out C[m] (List.getElem_mem hlm)
                  have hmc : (⟨ek, Cl.text c⟩ : Bk.Seal) ∈ x.L := by rw [Htx.out]; exact Hmem.out
                  have hno1 := Bk.hon_no hon hrm Hr.out htm hmc
                  have hno2 := Bk.hon_no hon Hr.out hrm hmc htm
                  have ixm : I64C C[m] := by
                    have hb := Cl.right_bounds hrm
                    exact ⟨by unfold I64; omega, by unfold I64; omega, by unfold I64; omega, by omega⟩
                  clear hrm htm hmc
                  generalize C[m] = xm at *
                  have t1 := contra_c xm c ⟨xm.text.toArray⟩ ⟨c.text.toArray⟩ (bs_list _) (bs_list _) ixm Ic.out
                  have t2 := contra_c c xm ⟨c.text.toArray⟩ ⟨xm.text.toArray⟩ (bs_list _) (bs_list _) Ic.out ixm
                  rw [hno1] at t1
                  rw [hno2] at t2
                  have T1 := Lib.hid t1
                  have T2 := Lib.hid t2
                  clear t1 t2 hno1 hno2 ixm
                  have gi := ((g.upd u).upd u2).upd ui
                  have l0 := fun i : Later wr => later_cell i q0
                  have l1 := fun i : Later wr => later_cell i q1
                  have l2 := fun i : Later wr => later_cell i q2
                  have l3 := fun i : Later wr => later_cell i q3
                  obtain ⟨_, _, _, _⟩ := later_claim kc
                  clear kc
                  go_wp2_with fail
                  refine wp_region_nw (by kernel_rfl) (by kernel_rfl) ?_
                  repeat (go_big_quiet_step ((go_at_call 30; (first | exact later_call (T1.out _ (gi.upd (Later.nw _))) | exact later_call (T2.out _ (gi.upd (Later.nw _)))))))
                  refine wpQuiet_nil ?_
                  intro w8 u8
                  replace u8 := later_out u8
                  replace ui := ui.trans u8
                  clear l0 l1 l2 l3 gi q0 q1 q2 q3 u8
                  have hmb : m < 25 := by have := hC.out; omega
                  go_wp2_with fail
                  go_roundw
                  case rel => exact ⟨m + 1, by omega, by go_num, ui⟩
                  case measure => simp [intOf]; omega
                · have ic := Ic.out
                  obtain ⟨_, _, _, _⟩ := one_claim kc
                  replace u2 := Nw.trans u2 ui
                  have Hown2 := Lib.hid (owns_upd Hown.out ui (fun _ _ _ s => s))
                  clear kc ui
                  have hz2 : w5.heap.size ≤ wr.heap.size := u2.size
                  go_wp2_with (at_builtin; refine wpList_app rfl _ _ 69 rfl w5.heap.size tC _ 4 40 Tryd.underlying69 infoC rfl (by decide) _ _ _ rfl Hown2.out (cellsL c) rfl rfl ?c1 ?c2 ?c3 hz2 ?_)
                  case c1 => intro u hu; simp only [cellsL, List.mem_cons, List.not_mem_nil, or_false] at hu; rcases hu with rfl | rfl | rfl | rfl <;> rfl
                  case c2 => have := hC.out; unfold maxLen; omega
                  case c3 => have := hC.out; omega
                  intro v' w9 hown9 hnw hgr hob
                  have hsz := u.size
                  have u9 : Nw w5 w9 := (u2.nw hnw).grown hgr (fun k hk => ⟨Or.inr (hob k hk).1, by have := (hob k hk).1; omega⟩)
                  have Hown9 := Lib.hid hown9
                  clear hgr hnw hob u2 Hown Hown2 hown9 hsz hz2
                  go_wp2_with fail
                  have hkl : k < x.L.length := hk1.out
                  go_roundw
                  case rel =>
                    refine ⟨k + 1, hk1.out, by go_num, ⟨C ++ [c], ?_, ?_, ?_⟩, u9⟩
                    · have := hC.out
                      show _ ≤ _
                      rw [List.length_append]; simp; omega
                    · rw [flatC_snoc, List.length_append]; exact Hown9.out
                    · intro d hd
                      rcases List.mem_append.1 hd with hd | hd
                      · exact Hall.out d hd
                      · rw [List.mem_singleton] at hd
                        subst hd
                        exact ⟨Hr.out, by rw [Htx.out]; exact Hmem.out⟩
                  case measure => simp [intOf]; omega
            · have heb : (ek == key) = false := by rw [beq_eq_false_iff_ne]; exact hek
              go_wp2_with fail
              have hkl : k < x.L.length := hk1.out
              go_roundw
              case rel => exact ⟨k + 1, hk1.out, by go_num, ⟨C, Nat.le_succ_of_le hC.out, hown, Hall.out⟩, u2⟩
              case measure => simp [intOf]; omega
        · go_wp2_with fail
          go_ret
          exact ⟨rfl, Nw.trans u u2⟩
end Go.Proofs.YtjjdmmhlcdfplaaDoor
