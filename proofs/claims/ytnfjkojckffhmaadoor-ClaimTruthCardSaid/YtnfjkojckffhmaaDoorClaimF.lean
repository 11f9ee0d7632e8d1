/- The walk of the statement ClaimBack. -/
import Derived.Test.YtnfjkojckffhmaaDoorClaimT
namespace Go.Proofs.YtnfjkojckffhmaaDoor
open Go.RowKit
set_option linter.unusedVariables false
set_option linter.unusedSimpArgs false
attribute [local irreducible] Calls

theorem read_yes (s : ByteArray) (l : List UInt8) (c : Cl.Clm) (hs : s.data.toList = l) (hr : Cl.read l = (c, true)) (hl : l.length ≤ 9223372036854775807) (w : World) (g : Gl w) :
    Calls Tryd.prog 9 #[.string s] w fun e w' => e = .returned (.tuple #[.agg #[.int .i64 c.kind, .int .i64 c.n, .int .i64 c.time, .string ⟨c.text.toArray⟩], .int .i64 0]) ∧ Nw w w' := by
  refine (read_c s l hs hl w g).mono ?_
  rw [hr]
  exact fun _ _ h => h
theorem read_not (s : ByteArray) (l : List UInt8) (hs : s.data.toList = l) (hr : Cl.read l = (Cl.zero, false)) (hl : l.length ≤ 9223372036854775807) (w : World) (g : Gl w) :
    Calls Tryd.prog 9 #[.string s] w fun e w' => e = .returned (.tuple #[.agg #[.int .i64 0, .int .i64 0, .int .i64 0, .string ⟨#[]⟩], .int .i64 2]) ∧ Nw w w' := by
  refine (read_c s l hs hl w g).mono ?_
  rw [hr]
  exact fun _ _ h => h
/-- What ClaimBack asks of the text of a right claim. -/
structure BackT (a b : Cl.Clm) (T : List UInt8) : Prop where
  ne : T ≠ []
  le : T.length ≤ 30000
  yes : Cl.read T = (a, true)
  more : Cl.read (T ++ [48, 59]) = (Cl.zero, false)
  less : Cl.read (T.take (T.length / 2)) = (Cl.zero, false)
  inj : T = Cl.text b ↔ a = b
theorem enc_len {a : Cl.Clm} (h : Cl.right a = true) (hi : I64C a) : (Cl.enc a).length ≤ 30000 := by
  obtain ⟨h1, h2, h3, h4, h5, h6, h7⟩ := Cl.right_bounds h
  have i1 := itoa_le hi.k
  have i2 := itoa_le hi.n
  have i3 := itoa_le hi.t
  have i4 := itoa_le (n := (a.text.length : Int)) (by unfold I64; omega)
  unfold Cl.enc Wire.numE
  rw [if_neg (by omega), if_neg (by omega), if_neg (by omega)]
  simp only [Wire.intE, Wire.textE, List.length_append, List.length_cons, List.length_nil]
  omega
theorem backT {a b : Cl.Clm} (h : Cl.right a = true) (hi : I64C a) : BackT a b (Cl.text a) := by
  have e : Cl.text a = Cl.enc a := by rw [Cl.text, if_pos h]
  have hl := enc_len h hi
  rw [← e] at hl
  have hne : Cl.text a ≠ [] := by rw [e]; exact Cl.enc_ne a
  refine ⟨hne, hl, Cl.read_text h, Cl.read_more h (by simp), ?_, Cl.text_inj h⟩
  refine Cl.read_less h (List.take_append_drop _ _).symm ?_
  intro h2
  have := congrArg List.length h2
  rw [List.length_drop, List.length_nil] at this
  have := List.length_pos_iff.2 hne
  omega
theorem text_no {a : Cl.Clm} (h : Cl.right a = false) : Cl.text a = [] := by rw [Cl.text, h]; rfl
theorem bs_app2 (T : List UInt8) (u : Array UInt8) : ((⟨T.toArray⟩ : ByteArray) ++ ⟨u⟩).data.toList = T ++ u.toList := by rw [bs_append_list]
theorem clm_cases (a b : Cl.Clm) :
    a = b ∨ a ≠ b ∧ (a.kind ≠ b.kind ∨ (a.kind = b.kind ∧ a.n ≠ b.n) ∨ (a.kind = b.kind ∧ a.n = b.n ∧ a.time ≠ b.time) ∨ (a.kind = b.kind ∧ a.n = b.n ∧ a.time = b.time ∧ a.text ≠ b.text)) := by
  obtain ⟨ak, an, am, ax⟩ := a
  obtain ⟨bk, bn, bm, bx⟩ := b
  dsimp only
  by_cases h1 : ak = bk
  · by_cases h2 : an = bn
    · by_cases h3 : am = bm
      · by_cases h4 : ax = bx
        · subst h1 h2 h3 h4
          exact Or.inl rfl
        · refine Or.inr ⟨fun e => ?_, Or.inr (Or.inr (Or.inr ⟨h1, h2, h3, h4⟩))⟩
          injection e with _ _ _ e4
          exact h4 e4
      · refine Or.inr ⟨fun e => ?_, Or.inr (Or.inr (Or.inl ⟨h1, h2, h3⟩))⟩
        injection e with _ _ e3 _
        exact h3 e3
    · refine Or.inr ⟨fun e => ?_, Or.inr (Or.inl ⟨h1, h2⟩)⟩
      injection e with _ e2 _ _
      exact h2 e2
  · refine Or.inr ⟨fun e => ?_, Or.inl h1⟩
    injection e with e1 _ _ _
    exact h1 e1
theorem later_claim {w : World} {b : Nat} {a0 a1 a2 a3 : Value} {T : TypeId} (h : w.heap[b]? = some (.cells #[a0, a1, a2, a3] T (0, 0))) :
    (∀ i : Later w, i.1.cell? ⟨b, 0, none⟩ = some a0) ∧ (∀ i : Later w, i.1.cell? ⟨b, 1, none⟩ = some a1) ∧ (∀ i : Later w, i.1.cell? ⟨b, 2, none⟩ = some a2) ∧ ∀ i : Later w, i.1.cell? ⟨b, 3, none⟩ = some a3 :=
  ⟨fun i => (one_claim (i.nw.keep h)).1, fun i => (one_claim (i.nw.keep h)).2.1, fun i => (one_claim (i.nw.keep h)).2.2.1, fun i => (one_claim (i.nw.keep h)).2.2.2⟩
set_option maxHeartbeats 2000000 in
set_option maxRecDepth 100000 in
theorem back_law (a b : Cl.Clm) (ia : I64C a) (ib : I64C b) (w : World) (g : Gl w) :
    Calls Tryd.prog 4 #[.agg #[.int .i64 a.kind, .int .i64 a.n, .int .i64 a.time, .string ⟨a.text.toArray⟩], .agg #[.int .i64 b.kind, .int .i64 b.n, .int .i64 b.time, .string ⟨b.text.toArray⟩]] w fun e w' => e = .returned (.bool true) ∧ Nw w w' := by
  have nn : Nw w ((w.alloc (.cells (cellsC a ⟨a.text.toArray⟩) tC)).alloc (.cells (cellsC b ⟨b.text.toArray⟩) tC)) := (nw_alloc _ _).trans (nw_alloc _ _)
  have g0 := g.upd nn
  have h1 := Nw.keep (nw_alloc (w.alloc (.cells (cellsC a ⟨a.text.toArray⟩) tC)) (.cells (cellsC b ⟨b.text.toArray⟩) tC)) (heap_new w (.cells (cellsC a ⟨a.text.toArray⟩) tC))
  have h2 := heap_new (w.alloc (.cells (cellsC a ⟨a.text.toArray⟩) tC)) (.cells (cellsC b ⟨b.text.toArray⟩) tC)
  rw [show (w.alloc (.cells (cellsC a ⟨a.text.toArray⟩) tC)).heap.size = w.heap.size + 1 by simp] at h2
  unfold cellsC at *
  have H1 := Lib.hid h1; clear h1
  have H2 := Lib.hid h2; clear h2
  go_enter Tryd.func4, Tryd.ntmps4
  go_wp2_with fail
  (with_reducible refine (small_c _ g0).mono ?_)
  rintro _ w1 ⟨rfl, u1⟩
  have k1 := Nw.keep u1 H1.out
  have k2 := Nw.keep u1 H2.out
  obtain ⟨⟨_, _, _, _⟩, _, _, _, _⟩ := two_claims k1 k2
  replace u1 := nn.trans u1
  have g1 := g.upd u1
  clear H1 H2 g0 nn
  go_wp2_with fail
  (with_reducible refine (text_c a _ (bs_list _) ia _ g1).mono ?_)
  rintro _ w2 ⟨rfl, u2⟩
  replace k1 := Nw.keep u2 k1
  replace k2 := Nw.keep u2 k2
  obtain ⟨⟨_, _, _, _⟩, _, _, _, _⟩ := two_claims k1 k2
  replace u2 := Nw.trans u1 u2
  have g2 := g.upd u2
  clear u1 g1
  go_wp2_with fail
  (with_reducible refine (right_c a _ (bs_list _) ia _ g2).mono ?_)
  rintro _ w3 ⟨rfl, u3⟩
  replace k1 := Nw.keep u3 k1
  replace k2 := Nw.keep u3 k2
  obtain ⟨⟨_, _, _, _⟩, _, _, _, _⟩ := two_claims k1 k2
  replace u3 := Nw.trans u2 u3
  have g3 := g.upd u3
  clear u2 g2
  by_cases hra : Cl.right a = true
  · have HB := Lib.hid (backT (b := b) hra ia)
    rw [hra]
    clear hra
    generalize Cl.text a = T at *
    have hle := HB.out.le
    go_wp2_with fail
    (with_reducible refine (read_yes _ T a (bs_list _) HB.out.yes (by omega) _ g3).mono ?_)
    rintro _ w4 ⟨rfl, u4⟩
    replace k1 := Nw.keep u4 k1
    replace k2 := Nw.keep u4 k2
    replace u4 := Nw.trans u3 u4
    have k3 := heap_new w4 (.cells #[.int .i64 a.kind, .int .i64 a.n, .int .i64 a.time, .string ⟨a.text.toArray⟩] tC)
    have n4 := nw_alloc w4 (.cells #[.int .i64 a.kind, .int .i64 a.n, .int .i64 a.time, .string ⟨a.text.toArray⟩] tC)
    replace k1 := Nw.keep n4 k1
    replace k2 := Nw.keep n4 k2
    have K3 := Lib.hid k3; clear k3
    have g4 := g.upd (Nw.trans u4 n4)
    clear u3 g3
    go_wp2_with fail
    (with_reducible refine (read_not _ (T ++ [48, 59]) (bs_app2 T _) HB.out.more (by simp; omega) _ g4).mono ?_)
    rintro _ w5 ⟨rfl, u5⟩
    replace k1 := Nw.keep u5 k1
    replace k2 := Nw.keep u5 k2
    have k3 := Nw.keep u5 K3.out
    replace u5 := Nw.trans u4 (Nw.trans n4 u5)
    clear u4 g4 n4 K3
    generalize w4.heap.size = p3 at *
    go_wp2_with fail
    (with_reducible refine (read_not _ (T.take (T.length / 2)) ((bs_extract_list _ _ _).trans (by rw [bs_list, List.drop_zero, Nat.sub_zero])) HB.out.less (by simp; omega) _ (g.upd (u5.trans (nw_alloc _ _)))).mono ?_)
    rintro _ w6 ⟨rfl, u6⟩
    replace u6 := Nw.trans (nw_alloc _ _) u6
    replace k1 := Nw.keep u6 k1
    replace k2 := Nw.keep u6 k2
    replace k3 := Nw.keep u6 k3
    replace u6 := Nw.trans u5 u6
    have n6 := nw_alloc w6 (.cells #[.int .i64 0, .int .i64 0, .int .i64 0, .string ⟨#[]⟩] tC)
    replace k1 := Nw.keep n6 k1
    replace k2 := Nw.keep n6 k2
    replace k3 := Nw.keep n6 k3
    replace u6 := Nw.trans u6 n6
    have g6 := g.upd u6
    clear u5 n6
    have hne : T.isEmpty = false := by
      have := HB.out.ne
      cases T with
      | nil => exact absurd rfl this
      | cons _ _ => rfl
    have q := text_c b _ (bs_list _) ib
    have hTU := HB.out.inj
    generalize Cl.text b = U at *
    have Q := Lib.hid q; clear q
    have HTU := Lib.hid hTU; clear hTU
    clear HB
    go_wp2_with fail
    rcases clm_cases a b with rfl | ⟨hab, h⟩
    · obtain rfl := HTU.out.2 rfl
      obtain ⟨_, _, _, _⟩ := later_claim k1
      obtain ⟨_, _, _, _⟩ := later_claim k2
      obtain ⟨_, _, _, _⟩ := later_claim k3
      clear k1 k2 k3
      refine wp_region_nw (by kernel_rfl) (by kernel_rfl) ?_
      repeat (go_big_quiet_step ((go_at_call 15; exact later_call (Q.out _ (g6.upd (Later.nw _))))))
      refine wpQuiet_nil ?_
      intro w7 u7
      replace u7 := later_out u7
      go_wp2_with fail
      go_ret
      exact ⟨rfl, u6.trans u7⟩
    · have hTU : ¬ T = U := fun e => hab (HTU.out.1 e)
      have hTU2 : (T == U) = false := beq_eq_false_iff_ne.2 hTU
      clear HTU
      have Hab := Lib.hid hab; clear hab
      obtain ⟨ak, an, am, ax⟩ := a
      obtain ⟨bk, bn, bm, bx⟩ := b
      dsimp only at h k1 k2 k3
      rcases h with h | ⟨rfl, h⟩ | ⟨rfl, rfl, h⟩ | ⟨rfl, rfl, rfl, h⟩
      · obtain ⟨_, _, _, _⟩ := later_claim k1
        obtain ⟨_, _, _, _⟩ := later_claim k2
        obtain ⟨_, _, _, _⟩ := later_claim k3
        clear k1 k2 k3
        refine wp_region_nw (by kernel_rfl) (by kernel_rfl) ?_
        repeat (go_big_quiet_step ((go_at_call 15; exact later_call (Q.out _ (g6.upd (Later.nw _))))))
        refine wpQuiet_nil ?_
        intro w7 u7
        replace u7 := later_out u7
        go_wp2_with fail
        go_ret
        exact ⟨rfl, u6.trans u7⟩
      · obtain ⟨_, _, _, _⟩ := later_claim k1
        obtain ⟨_, _, _, _⟩ := later_claim k2
        obtain ⟨_, _, _, _⟩ := later_claim k3
        clear k1 k2 k3
        refine wp_region_nw (by kernel_rfl) (by kernel_rfl) ?_
        repeat (go_big_quiet_step ((go_at_call 15; exact later_call (Q.out _ (g6.upd (Later.nw _))))))
        refine wpQuiet_nil ?_
        intro w7 u7
        replace u7 := later_out u7
        go_wp2_with fail
        go_ret
        exact ⟨rfl, u6.trans u7⟩
      · obtain ⟨_, _, _, _⟩ := later_claim k1
        obtain ⟨_, _, _, _⟩ := later_claim k2
        obtain ⟨_, _, _, _⟩ := later_claim k3
        clear k1 k2 k3
        refine wp_region_nw (by kernel_rfl) (by kernel_rfl) ?_
        repeat (go_big_quiet_step ((go_at_call 15; exact later_call (Q.out _ (g6.upd (Later.nw _))))))
        refine wpQuiet_nil ?_
        intro w7 u7
        replace u7 := later_out u7
        go_wp2_with fail
        go_ret
        exact ⟨rfl, u6.trans u7⟩
      · obtain ⟨_, _, _, _⟩ := later_claim k1
        obtain ⟨_, _, _, _⟩ := later_claim k2
        obtain ⟨_, _, _, _⟩ := later_claim k3
        clear k1 k2 k3
        refine wp_region_nw (by kernel_rfl) (by kernel_rfl) ?_
        repeat (go_big_quiet_step ((go_at_call 15; exact later_call (Q.out _ (g6.upd (Later.nw _))))))
        refine wpQuiet_nil ?_
        intro w7 u7
        replace u7 := later_out u7
        go_wp2_with fail
        go_ret
        exact ⟨rfl, u6.trans u7⟩
  · have hra : Cl.right a = false := by cases h : Cl.right a with | true => exact absurd h hra | false => rfl
    rw [hra, text_no hra]
    clear hra
    go_wp2_with fail
    go_ret
    exact ⟨rfl, u3⟩
end Go.Proofs.YtnfjkojckffhmaaDoor
