/- The contract of BookCopies. -/
import Derived.Test.YtjjdmmhlcdfplaaDoorBookM
import Derived.Test.YtjjdmmhlcdfplaaDoorBookN
import Derived.Test.YtjjdmmhlcdfplaaDoorQue1
namespace Go.Proofs.YtjjdmmhlcdfplaaDoor
open Go.RowKit
set_option linter.unusedVariables false
set_option linter.unusedSimpArgs false
attribute [local irreducible] Calls

abbrev tErr : TypeId := 30
def sgnL (s : Bk.Sgn × Int) : List Value := [.int .i64 s.1.key, .string ⟨s.1.text.toArray⟩, .int .i64 s.1.mark]
def errL (s : Bk.Sgn × Int) : Value := .int .i64 s.2
theorem infoSigned : (Tryd.prog.info? tSigned).map (fun i => (i.zero, i.size, i.bytes)) = some (some (.agg #[.int .i64 0, .string ⟨#[]⟩, .int .i64 0]), 3, 32) := by kernel_rfl
theorem infoErr : (Tryd.prog.info? tErr).map (fun i => (i.zero, i.size, i.bytes)) = some (some (.int .i64 0), 1, 8) := by kernel_rfl
theorem do_one {B : Nat} {w0 w : World} {rb bb : Nat} {x : Bk.St} (h : ∃ r br, r.rb = rb ∧ br.bb = bb ∧ Both B w r br x) (u0 : Nw w0 w) (h1 : w0.heap.size ≤ B) (g : Gl w) (key : Int) (hkey : x.b.key = key) (o : Bk.Opn) (hn : I64 o.n) (hs : o.s.length ≤ 20000000) (hL : x.L.length ≤ 1000000) :
    Calls Tryd.prog 13 #[.pointer (some ⟨bb, 0, none⟩), .pointer (some ⟨rb, 0, none⟩), .int .i64 key, .agg #[.int .i64 o.kind, .int .i64 o.n, .string ⟨o.s.toArray⟩]] w fun e w' =>
      e = .returned (.tuple #[sgnV (Bk.doS key x o).1.1, .int .i64 (Bk.doS key x o).1.2.1, .int .i64 (Bk.doS key x o).1.2.2]) ∧ (∃ r br, r.rb = rb ∧ br.bb = bb ∧ Both B w' r br (Bk.doS key x o).2) ∧ Nw w0 w' := by
  obtain ⟨r, br, rfl, rfl, hb⟩ := h
  subst hkey
  refine (do_c B r br x o w g hb (by have h1 := hb.ring.rb; have h2 := lt_of_block hb.ring.blk; omega) hn hs hL).mono ?_
  rintro e w' ⟨r', br', rfl, m⟩
  exact ⟨rfl, ⟨r', br', m.rb, m.bb, m.both⟩, moved_nw hb h1 u0 m⟩
/-- Both copies, at one go. -/
theorem copyr_t {B : Nat} {w0 w : World} {rb bb : Nat} {x : Bk.St} (h : ∃ r br, r.rb = rb ∧ br.bb = bb ∧ Both B w r br x) (u0 : Nw w0 w) (g : Gl w) (hL : x.L.length ≤ 1000000) :
    Calls Tryd.prog 26 #[.pointer (some ⟨rb, 0, none⟩)] w fun e w1 => ∃ q : RingR, e = .returned (.pointer (some ⟨q.rb, 0, none⟩)) ∧ Nw w0 w1 ∧
      Calls Tryd.prog 27 #[.pointer (some ⟨bb, 0, none⟩), .pointer (some ⟨q.rb, 0, none⟩)] w1 fun e w2 => ∃ c : BookR, e = .returned (.pointer (some ⟨c.bb, 0, none⟩)) ∧ TwinAt B w.heap.size rb bb q.rb c.bb (fun _ => False) w2 x x ∧ Nw w0 w2 := by
  obtain ⟨r, br, rfl, rfl, hb⟩ := h
  refine (copy_s B r x.L w g hb.ring hL).mono ?_
  rintro e w1 ⟨q, rfl, hq, u1⟩
  refine ⟨q, rfl, u0.trans u1, ?_⟩
  refine (copy_b B q.rb br r.rb x.b w1 (g.upd u1) (hb.nw u1).book).mono ?_
  rintro e w2 ⟨c, rfl, hc, u2⟩
  exact ⟨c, rfl, twin_new hb hq hc u1 u2, (u0.trans u1).trans u2⟩
/-- The blocks that the call keeps: of three slices. -/
def FF (a b c : Value) (k : Nat) : Prop := a.ownBlock = some k ∨ b.ownBlock = some k ∨ c.ownBlock = some k
theorem TwinAt.appended {B1 B2 rb bb qb cb : Nat} {F F' : Nat → Prop} {w w' : World} {x y : Bk.St} {v v' : Value} (h : TwinAt B1 B2 rb bb qb cb F w x y) (u : Upd (fun k => v.ownBlock = some k) w w') (hob : ∀ k, v'.ownBlock = some k → v.ownBlock = some k ∨ w.heap.size ≤ k) (hv : ∀ k, v.ownBlock = some k → F k) (hF : ∀ k, F' k → F k ∨ v'.ownBlock = some k) : TwinAt B1 B2 rb bb qb cb F' w' x y := by
  have h1 := h.keepoff (F' := fun k => F k ∨ v'.ownBlock = some k) (fun k hk => hk.elim Or.inl (fun e => (hob k e).imp (hv k) id))
  exact (h1.upd u (fun k e => Or.inl (hv k e))).keepoff (fun k hk => Or.inl (hF k hk))
theorem own_ne {B B' sz sz' : Nat} {e e' : TypeId} {w : World} {v v' : Value} {n n' : Nat} {xs xs' : List Value} (h : w.ownsRow B e sz v n xs) (h' : w.ownsRow B' e' sz' v' n' xs') (hne : e ≠ e') : ∀ k, v.ownBlock = some k → ¬ v'.ownBlock = some k := by
  intro k hk hk'
  obtain ⟨_, cs, h1⟩ := own_block h hk
  obtain ⟨_, cs', h2⟩ := own_block h' hk'
  rw [h1] at h2
  injection h2 with h2
  injection h2 with _ h2
  exact hne h2
theorem sgnL_one (s : Bk.Sgn × Int) : ∀ u ∈ sgnL s, u.oneCell' = true := by
  intro u hu
  simp only [sgnL, List.mem_cons, List.not_mem_nil, or_false] at hu
  rcases hu with rfl | rfl | rfl <;> rfl
theorem sgn_at {B : Nat} {w : World} {a : Option Addr} {n cap : Nat} {rs : List (Bk.Sgn × Int)} {k : Nat} (h : w.ownsRow B tSigned 3 (.slice a n cap) n ((rs.map sgnL).flatten)) (hn : n = rs.length) (hk : k < rs.length) :
    ∃ b o, a = some ⟨b, o, none⟩ ∧ w.cell? ⟨b, o + k * 3, none⟩ = some (.int .i64 rs[k].1.key) ∧ w.cell? ⟨b, o + k * 3 + 1, none⟩ = some (.string ⟨rs[k].1.text.toArray⟩) ∧ w.cell? ⟨b, o + k * 3 + 2, none⟩ = some (.int .i64 rs[k].1.mark) := by
  have hs := SlS.of_owns (xs := rs.map sgnL) h (by simpa using hn) (by omega) (fun y hy => by obtain ⟨z, _, rfl⟩ := List.mem_map.1 hy; rfl)
  rcases hs with ⟨_, _, _, hnil⟩ | ⟨b, o, c, e1, _, _, _, _, _, hc⟩
  · rw [List.map_eq_nil_iff] at hnil; simp [hnil] at hk
  · have h2 := (hc k (by simpa using hk)).2
    simp only [List.getElem_map] at h2
    injection e1 with e1
    exact ⟨b, o, e1, by rw [← Nat.add_zero (o + k * 3), h2 0 (by omega)]; rfl, by rw [h2 1 (by omega)]; rfl, by rw [h2 2 (by omega)]; rfl⟩
theorem err_at {B : Nat} {w : World} {a : Option Addr} {n cap : Nat} {rs : List (Bk.Sgn × Int)} {k : Nat} (h : w.ownsRow B tErr 1 (.slice a n cap) n (rs.map errL)) (hn : n = rs.length) (hk : k < rs.length) :
    ∃ b o, a = some ⟨b, o, none⟩ ∧ w.cell? ⟨b, o + k, none⟩ = some (.int .i64 rs[k].2) := by
  rcases Sl.of_owns h with ⟨_, _, _, hnil⟩ | ⟨b, o, c, e1, _, _, _, _, _, hc⟩
  · rw [List.map_eq_nil_iff] at hnil; simp [hnil] at hk
  · injection e1 with e1
    exact ⟨b, o, e1, by rw [hc k (by simpa using hk)]; simp [hk, errL]⟩
set_option maxHeartbeats 4000000 in
set_option maxRecDepth 100000 in
theorem copies_c (l m : List Bk.Opn) (v vm : Value) (w : World) (g : Gl w) (hv : SlS 3 0 w.heap.size w v (l.map opL)) (ho : ∀ o ∈ l, OpOk o) (hvm : SlS 3 0 w.heap.size w vm (m.map opL)) (hom : ∀ o ∈ m, OpOk o) :
    Calls Tryd.prog 5 #[v, vm] w fun e w' => e = .returned (.bool true) ∧ Nw w w' := by
  have hgb := g.big
  obtain ⟨a, cap, rfl, hm1, ha⟩ := op_cells hv
  obtain ⟨am, capm, rfl, hm2, ham⟩ := op_cells hvm
  unfold maxLen at hm1 hm2
  have Ha := Lib.hid ha; clear ha
  have Ham := Lib.hid ham; clear ham
  go_enter Tryd.func5, Tryd.ntmps5
  go_wp2_with fail
  (with_reducible refine (small_b _ g).mono ?_)
  rintro _ w1 ⟨rfl, u⟩
  go_wp2_with fail
  (with_reducible refine (few_b 0 w.heap.size _ l _ (hv.nw u) ho).mono ?_)
  rintro _ w2 ⟨f, rfl, hf, u2⟩
  replace u := u.trans u2
  clear u2
  cases f with
  | false =>
    clear hf
    go_wp2_with fail
    go_ret
    exact ⟨rfl, u⟩
  | true =>
  obtain ⟨hl25, h300⟩ := hf rfl
  have H25 := Lib.hid hl25
  have H300 := Lib.hid h300
  clear hf hl25 h300
  go_wp2_with fail
  (with_reducible refine (few_b 0 w.heap.size _ m _ (hvm.nw u) hom).mono ?_)
  rintro _ w3 ⟨f, rfl, hf, u2⟩
  replace u := Nw.trans u u2
  clear u2
  cases f with
  | false =>
    clear hf
    go_wp2_with fail
    go_ret
    exact ⟨rfl, u⟩
  | true =>
  obtain ⟨_, h300⟩ := hf rfl
  have M300 := Lib.hid h300
  clear hf h300
  by_cases hm10 : m.length ≤ 10
  rotate_left
  · go_wp2_with fail
    go_ret
    exact ⟨rfl, u⟩
  have M10 := Lib.hid hm10
  go_wp2_with fail
  (with_reducible refine (new_s _ (g.upd u)).mono ?_)
  rintro _ w4 ⟨r, rfl, hr, u3⟩
  have g3 := (g.upd u).upd u3
  go_wp2_with fail
  (with_reducible refine (new_b r.rb 7 _ g3).mono ?_)
  rintro _ w5 hb
  rcases hb with ⟨hkk, br, rfl, hb, u4⟩ | ⟨hkk, rfl, u4⟩
  rotate_left
  · cases hkk
  dsimp only
  have h := both_new hr hb u4 u3.size
  have hB1 := u.size
  replace u := (u.trans u3).trans u4
  clear hr hb u3 u4 g3 hkk
  generalize w3.heap.size = B at *
  have h' : Hid (∃ r' br', r'.rb = r.rb ∧ br'.bb = br.bb ∧ Both B w5 r' br' ⟨[], Bk.new 7⟩) := ⟨r, br, rfl, rfl, h⟩
  clear h
  generalize r.rb = rb at *
  generalize br.bb = bb at *
  go_wp2_with fail
  go_loopw [9] (fun i wr => ∃ k : Nat, k ≤ l.length ∧ i = .int .i64 k ∧ (∃ x, Hid (∃ r' br', r'.rb = rb ∧ br'.bb = bb ∧ Both B wr r' br' x) ∧ Hid (x.b.key = 7) ∧ Hid (x.L.length ≤ k)) ∧ Nw w wr) (fun i _ => l.length - (intOf i).toNat)
  case atStart => exact ⟨0, Nat.zero_le _, rfl, ⟨_, h', rfl, Nat.le_refl _⟩, u⟩
  case round =>
    clear h' u
    obtain ⟨k, hk, rfl, ⟨x, h, hkey, hxl⟩, u⟩ := hrel
    by_cases hlt : k < l.length
    · rcases Ha.out with hnil | ⟨b, off, rfl, _, hbl, hcell⟩
      · simp [hnil] at hlt
      · have c0 := ((Nw.below u).cell (p := ⟨b, off + k * 3, none⟩) hbl).trans (hcell k hlt).1
        have c1 := ((Nw.below u).cell (p := ⟨b, off + k * 3 + 1, none⟩) hbl).trans (hcell k hlt).2.1
        have c2 := ((Nw.below u).cell (p := ⟨b, off + k * 3 + 2, none⟩) hbl).trans (hcell k hlt).2.2
        have Hok := Lib.hid (ho l[k] (List.getElem_mem hlt))
        have H3 := Lib.hid (H300.out l[k] (List.getElem_mem hlt))
        clear hcell
        generalize l[k] = o at *
        obtain ⟨oz, on, os⟩ := o
        dsimp only at c0 c1 c2
        have hkb : k < 25 := Nat.lt_of_lt_of_le hlt H25.out
        have hk1 : Hid (k + 1 ≤ l.length) := hlt
        have hd := do_one h.out u hB1 (g.upd u) 7 hkey.out ⟨oz, on, os⟩ Hok.out.n (Nat.le_trans H3.out (by decide)) (by have h1 := hxl.out; omega)
        go_wp2_with fail
        (with_reducible refine (hd).mono ?_)
        rintro _ w7 ⟨rfl, h7, u7⟩
        have H7 := Lib.hid h7
        have hkey2 := Lib.hid ((Bk.do_key' 7 x ⟨oz, on, os⟩).trans hkey.out)
        have hl7 := Lib.hid (Nat.le_trans (Bk.do_len 7 x ⟨oz, on, os⟩) (Nat.succ_le_succ hxl.out))
        clear hd c0 c1 c2 h7
        generalize Bk.doS 7 x ⟨oz, on, os⟩ = y at *
        go_wp2_with fail
        have hkl : k < l.length := hk1.out
        go_roundw
        case rel => exact ⟨k + 1, hk1.out, by go_num, ⟨_, H7, hkey2, hl7⟩, u7⟩
        case measure => simp [intOf]; omega
    · have hx25 : Hid (x.L.length ≤ 25) := Nat.le_trans hxl.out (Nat.le_trans hk H25.out)
      clear hxl
      obtain ⟨wZ, rfl⟩ : ∃ z, z = wr := ⟨_, rfl⟩
      have hc1 := copyr_t h.out u (g.upd u) (Nat.le_trans hx25.out (by decide))
      have hB2 : w.heap.size ≤ wZ.heap.size := u.size
      go_wp2_with fail
      (with_reducible refine (hc1).mono ?_)
      rintro _ w6 ⟨q, rfl, u6, hc2⟩
      clear hc1
      go_wp2_with fail
      (with_reducible refine (hc2).mono ?_)
      rintro _ w7 ⟨c, rfl, ht, u7⟩
      clear hc2 u6 h u
      generalize wZ.heap.size = B2 at *
      generalize q.rb = qb at *
      generalize c.bb = cb at *
      have l1 := len_t ht.swap
      go_wp2_with fail
      (with_reducible refine (l1).mono ?_)
      rintro _ w8 ⟨rfl, u8⟩
      have t8 := ht.nw u8
      have l2 := len_t t8
      replace u8 := Nw.trans u7 u8
      clear l1 ht u7
      go_wp2_with fail
      (with_reducible refine (l2).mono ?_)
      rintro _ w9 ⟨rfl, u9⟩
      have t9 := t8.nw u9
      replace u9 := Nw.trans u8 u9
      clear l2 t8 u8
      have l3 := all_t t9 (g.upd u9) (Nat.le_trans hx25.out (by decide))
      go_wp2_with fail
      (with_reducible refine (l3).mono ?_)
      rintro _ w10 ⟨vb, rfl, hvb, u10⟩
      have t10 := (t9.keepoff (F' := fun k => vb.ownBlock = some k) (fun k hk => Or.inr (own_block hvb hk).1)).nw u10
      have hB9 : B ≤ w9.heap.size := by
        obtain ⟨r9, br9, _, _, _, _, _, _, hb9, _⟩ := t9
        have := (hb9.feet (Or.inl (Or.inl rfl)))
        omega
      have o10 := owns_base hvb hB9
      replace u10 := Nw.trans u9 u10
      have l4 := len_t t10
      clear l3 t9 u9 hvb
      go_wp2_with fail
      (with_reducible refine (l4).mono ?_)
      rintro _ w11 ⟨rfl, u11⟩
      have T11 := Lib.hid (t10.nw u11)
      have O11 := Lib.hid (owns_upd o10 u11 (fun _ _ _ s => s))
      replace u11 := Nw.trans u10 u11
      have hnB : nG ≤ B := by
        obtain ⟨r9, br9, _, _, _, _, _, _, hb9, _⟩ := T11.out
        exact hb9.ring.hb
      clear l4 t10 u10 o10
      obtain ⟨av, cv, rfl⟩ := own_slice O11.out
      go_wp2_with fail
      go_loopw [14, 15, 16] (fun sg er i wr => ∃ k : Nat, k ≤ m.length ∧ i = .int .i64 k ∧ Hid (TwinAt B B2 rb bb qb cb (FF (.slice av x.L.length cv) sg er) wr x (Bk.runTo 7 x m k).1) ∧
        Hid (wr.ownsRow B tSigned 3 sg k (((Bk.runTo 7 x m k).2.map sgnL).flatten)) ∧ Hid (wr.ownsRow B tErr 1 er k ((Bk.runTo 7 x m k).2.map errL)) ∧ Hid (wr.ownsRow B tSealed 2 (.slice av x.L.length cv) x.L.length ((x.L.map sealL).flatten)) ∧ Nw w wr) (fun _ _ i _ => m.length - (intOf i).toNat)
      case atStart => exact ⟨0, Nat.zero_le _, rfl, T11.out.keepoff (fun k hk => hk.elim Or.inl (fun e => e.elim (fun e => by cases e) (fun e => by cases e))), World.ownsRow_nil _ _ _ _, World.ownsRow_nil _ _ _ _, O11, u11⟩
      case round =>
        obtain ⟨k, hk, rfl, T, OS, OE, OB, u⟩ := hrel
        by_cases hlt : k < m.length
        · rcases Ham.out with hnil | ⟨b, off, rfl, _, hbl, hcell⟩
          · simp [hnil] at hlt
          have c0 := ((Nw.below u).cell (p := ⟨b, off + k * 3, none⟩) hbl).trans (hcell k hlt).1
          have c1 := ((Nw.below u).cell (p := ⟨b, off + k * 3 + 1, none⟩) hbl).trans (hcell k hlt).2.1
          have c2 := ((Nw.below u).cell (p := ⟨b, off + k * 3 + 2, none⟩) hbl).trans (hcell k hlt).2.2
          have Hok := Lib.hid (hom m[k] (List.getElem_mem hlt))
          have H3 := Lib.hid (M300.out m[k] (List.getElem_mem hlt))
          have hrt := Bk.runTo_succ 7 x m hlt
          have Hrt := Lib.hid hrt
          have hkr := Lib.hid (Bk.runTo_ring 7 x m k)
          have hky := Lib.hid ((Bk.runTo_key 7 x m k).trans hkey.out)
          clear hcell hrt
          generalize m[k] = o at *
          obtain ⟨oz, on, os⟩ := o
          dsimp only at c0 c1 c2
          have hkb : k < 10 := Nat.lt_of_lt_of_le hlt M10.out
          have hk1 : Hid (k + 1 ≤ m.length) := hlt
          have hFlt : ∀ j, FF (.slice av x.L.length cv) u14 u15 j → j < wr.heap.size := fun j hj => by
            rcases hj with e | e | e
            · obtain ⟨_, _, hh⟩ := own_block OB.out e; exact lt_of_block hh
            · obtain ⟨_, _, hh⟩ := own_block OS.out e; exact lt_of_block hh
            · obtain ⟨_, _, hh⟩ := own_block OE.out e; exact lt_of_block hh
          have hd := do_t2 T.out hFlt u hB2 (g.upd u) 7 hky.out ⟨oz, on, os⟩ Hok.out.n (Nat.le_trans H3.out (by decide)) (by have h1 := hkr.out; have h2 := hx25.out; omega)
          generalize Bk.runTo 7 x m k = st at *
          obtain ⟨y, rs⟩ := st
          dsimp only at hd
          generalize Bk.doS 7 y ⟨oz, on, os⟩ = z at *
          obtain ⟨⟨⟨sk, st, sm⟩, n1, e1⟩, y5⟩ := z
          dsimp only [sgnV] at hd
          clear hFlt
          go_wp2_with fail
          (with_reducible refine (hd).mono ?_)
          rintro _ w12 ⟨rfl, t12, u12, v12⟩
          have os12 := owns_upd' OS.out v12 (fun j hj e => e (Or.inr (Or.inl hj)))
          have oe12 := owns_upd' OE.out v12 (fun j hj e => e (Or.inr (Or.inr hj)))
          have ob12 := owns_upd' OB.out v12 (fun j hj e => e (Or.inl hj))
          have n12 := nw_alloc w12 (.cells #[.int .i64 sk, .string ⟨st.toArray⟩, .int .i64 sm] tSigned)
          obtain ⟨_, _, _⟩ := cell3 (heap_new w12 (.cells #[.int .i64 sk, .string ⟨st.toArray⟩, .int .i64 sm] tSigned))
          replace os12 := owns_upd os12 n12 (fun _ _ _ s => s)
          replace oe12 := owns_upd oe12 n12 (fun _ _ _ s => s)
          replace ob12 := owns_upd ob12 n12 (fun _ _ _ s => s)
          replace t12 := t12.nw n12
          replace u12 := Nw.trans u12 n12
          have T12 := Lib.hid t12
          have Oe12 := Lib.hid oe12
          have Ob12 := Lib.hid ob12
          have hB12 : B ≤ (w12.alloc (.cells #[.int .i64 sk, .string ⟨st.toArray⟩, .int .i64 sm] tSigned)).heap.size := by
            obtain ⟨r9, br9, _, _, _, _, _, _, hb9, _⟩ := t12
            have := (hb9.feet (Or.inl (Or.inl rfl)))
            omega
          clear hd c0 c1 c2 v12 n12 t12 oe12 ob12 T OS OE OB u
          go_wp2_with (at_builtin; refine wpList_appH rfl _ _ 65 rfl B tSigned _ 3 32 Tryd.underlying65 infoSigned rfl (by decide) _ _ _ rfl os12 [.int .i64 sk, .string ⟨st.toArray⟩, .int .i64 sm] (w12.heap.size + 1) (by simp) rfl rfl ?c1 ?c2 ?c3 hB12 hnB ?_)
          case c1 => exact sgnL_one (⟨sk, st, sm⟩, 0)
          case c2 => unfold maxLen; omega
          case c3 => omega
          intro sg' w13 os13 q13 hob
          have T13 : Hid (TwinAt B B2 rb bb qb cb (FF (.slice av x.L.length cv) sg' u15) w13 x y5) := T12.out.appended q13 (fun k e => (hob k e).imp id (fun e => by simpa using e)) (fun k e => Or.inr (Or.inl e)) (fun k hk => by
            rcases hk with e | e | e
            · exact Or.inl (Or.inl e)
            · exact Or.inr e
            · exact Or.inl (Or.inr (Or.inr e)))
          have oe13 := owns_upd' Oe12.out q13 (own_ne Oe12.out os12 (by decide))
          have Ob13 := Lib.hid (owns_upd' Ob12.out q13 (own_ne Ob12.out os12 (by decide)))
          have u13 : Nw w w13 := Upd.trans' u12 q13 (fun j hj e => by have := (own_block os12 e).1; omega)
          have Os13 := Lib.hid os13
          have hB13 : B ≤ w13.heap.size := Nat.le_trans hB12 q13.size
          have hrt2 : Hid (Bk.runTo 7 x m (k + 1) = (y5, rs ++ [(⟨sk, st, sm⟩, e1)])) := Hrt.out
          clear T12 Oe12 Ob12 os12 os13 q13 hob u12 hB12 Hrt
          go_wp2_with (at_builtin; refine wpList_appL rfl _ _ 66 rfl B tErr _ 1 8 Tryd.underlying66 infoErr rfl (by decide) _ _ _ rfl oe13 [.int .i64 e1] rfl rfl ?c1 ?c2 ?c3 hB13 hnB ?_)
          case c1 => intro u hu; rw [List.mem_singleton.1 hu]; rfl
          case c2 => unfold maxLen; omega
          case c3 => omega
          intro er' w14 oe14 q14 hob
          have T14 : Hid (TwinAt B B2 rb bb qb cb (FF (.slice av x.L.length cv) sg' er') w14 x y5) := T13.out.appended q14 hob (fun k e => Or.inr (Or.inr e)) (fun k hk => by
            rcases hk with e | e | e
            · exact Or.inl (Or.inl e)
            · exact Or.inl (Or.inr (Or.inl e))
            · exact Or.inr e)
          have Os14 := Lib.hid (owns_upd' Os13.out q14 (own_ne Os13.out oe13 (by decide)))
          have Ob14 := Lib.hid (owns_upd' Ob13.out q14 (own_ne Ob13.out oe13 (by decide)))
          have u14' : Nw w w14 := Upd.trans' u13 q14 (fun j hj e => by have := (own_block oe13 e).1; omega)
          have Oe14 := Lib.hid oe14
          clear T13 Os13 Ob13 oe13 oe14 q14 hob u13 hB13
          go_wp2_with fail
          have hkl : k < m.length := hk1.out
          go_roundw
          case rel =>
            refine ⟨k + 1, hk1.out, by go_num, ?_, ?_, ?_, Ob14, u14'⟩
            · rw [hrt2.out]; exact T14
            · rw [hrt2.out]
              show World.ownsRow _ _ _ _ _ _ _
              rw [List.map_append, List.flatten_append]
              simpa [sgnL] using Os14.out
            · rw [hrt2.out]
              show World.ownsRow _ _ _ _ _ _ _
              rw [List.map_append]
              exact Oe14.out
          case measure => simp [intOf]; omega
        · have hkm : k = m.length := by omega
          subst hkm
          have hget := fun (j : Nat) (hj : j < m.length) => Bk.runTo_get 7 x m hj (Nat.le_refl _)
          have hlen := Bk.runTo_len 7 x m (Nat.le_refl m.length)
          have hyL := Lib.hid (Nat.le_trans (Bk.runTo_ring 7 x m m.length) (Nat.add_le_add hx25.out M10.out))
          obtain ⟨sf, hsf⟩ : ∃ sf, Bk.runTo 7 x m m.length = sf := ⟨_, rfl⟩
          have Hsf := Lib.hid hsf
          rw [hsf] at T OS OE hget hlen hyL
          have Hget := Lib.hid hget
          have Hlen := Lib.hid hlen
          clear hsf hget hlen
          obtain ⟨y, rs⟩ := sf
          dsimp only at T OS OE hyL
          have l5 := all_t T.out (g.upd u) (Nat.le_trans hx25.out (by decide))
          go_wp2_with fail
          (with_reducible refine (l5).mono ?_)
          rintro _ w15 ⟨va, rfl, hva, u15⟩
          have T15 := Lib.hid (T.out.nw u15)
          have OS15 := Lib.hid (owns_upd OS.out u15 (fun _ _ _ s => s))
          have OE15 := Lib.hid (owns_upd OE.out u15 (fun _ _ _ s => s))
          have OB15 := Lib.hid (owns_upd OB.out u15 (fun _ _ _ s => s))
          have sB := seal_sls (owns_upd OB.out u15 (fun _ _ _ s => s))
          have sA := seal_sls hva
          have l6 := same_q _ _ _ _ _ _ x.L x.L w15 sA sB (Nat.le_trans hx25.out (by decide))
          rw [decide_eq_true rfl] at l6
          replace u15 := Nw.trans u u15
          clear l5 hva OB OS OE T u
          go_wp2_with fail
          (with_reducible refine (l6).mono ?_)
          rintro _ w16 ⟨rfl, u16⟩
          have T16 := Lib.hid (T15.out.nw u16)
          have OS16 := Lib.hid (owns_upd OS15.out u16 (fun _ _ _ s => s))
          have OE16 := Lib.hid (owns_upd OE15.out u16 (fun _ _ _ s => s))
          have OB16 := Lib.hid (owns_upd OB15.out u16 (fun _ _ _ s => s))
          replace u16 := Nw.trans u15 u16
          have l7 := len_t T16.out
          clear l6 sA sB T15 OS15 OE15 OB15 u15
          go_wp2_with fail
          (with_reducible refine (l7).mono ?_)
          rintro _ w17 ⟨rfl, u17⟩
          have T17 := Lib.hid (T16.out.nw u17)
          have OS17 := Lib.hid (owns_upd OS16.out u17 (fun _ _ _ s => s))
          have OE17 := Lib.hid (owns_upd OE16.out u17 (fun _ _ _ s => s))
          have OB17 := Lib.hid (owns_upd OB16.out u17 (fun _ _ _ s => s))
          replace u17 := Nw.trans u16 u17
          clear l7 T16 OS16 OE16 OB16 u16
          obtain ⟨sa, cs, rfl⟩ := own_slice OS17.out
          obtain ⟨ae, ce, rfl⟩ := own_slice OE17.out
          go_wp2_with fail
          go_loopw [20] (fun i wr => ∃ k : Nat, k ≤ m.length ∧ i = .int .i64 k ∧ Hid (TwinAt B B2 rb bb qb cb (FF (.slice av x.L.length cv) (.slice sa m.length cs) (.slice ae m.length ce)) wr (Bk.runTo 7 x m k).1 y) ∧
            Hid (wr.ownsRow B tSigned 3 (.slice sa m.length cs) m.length ((rs.map sgnL).flatten)) ∧ Hid (wr.ownsRow B tErr 1 (.slice ae m.length ce) m.length (rs.map errL)) ∧ Hid (wr.ownsRow B tSealed 2 (.slice av x.L.length cv) x.L.length ((x.L.map sealL).flatten)) ∧ Nw w wr) (fun i _ => m.length - (intOf i).toNat)
          case atStart => exact ⟨0, Nat.zero_le _, rfl, T17, OS17, OE17, OB17, u17⟩
          case round =>
            clear T17 OS17 OE17 OB17 u17
            obtain ⟨k, hk, rfl, T, OS, OE, OB, u⟩ := hrel
            by_cases hlt : k < m.length
            · rcases Ham.out with hnil | ⟨b, off, rfl, _, hbl, hcell⟩
              · simp [hnil] at hlt
              have c0 := ((Nw.below u).cell (p := ⟨b, off + k * 3, none⟩) hbl).trans (hcell k hlt).1
              have c1 := ((Nw.below u).cell (p := ⟨b, off + k * 3 + 1, none⟩) hbl).trans (hcell k hlt).2.1
              have c2 := ((Nw.below u).cell (p := ⟨b, off + k * 3 + 2, none⟩) hbl).trans (hcell k hlt).2.2
              have Hok := Lib.hid (hom m[k] (List.getElem_mem hlt))
              have H3 := Lib.hid (M300.out m[k] (List.getElem_mem hlt))
              have hgk := Hget.out k hlt
              have hrt := Bk.runTo_succ 7 x m hlt
              have Hrt := Lib.hid hrt
              have hkr := Lib.hid (Bk.runTo_ring 7 x m k)
              have hky := Lib.hid ((Bk.runTo_key 7 x m k).trans hkey.out)
              clear hcell hrt
              generalize m[k] = o at *
              obtain ⟨oz, on, os⟩ := o
              dsimp only at c0 c1 c2
              have hkb : k < 10 := Nat.lt_of_lt_of_le hlt M10.out
              have hk1 : Hid (k + 1 ≤ m.length) := hlt
              have hFlt : ∀ j, FF (.slice av x.L.length cv) (.slice sa m.length cs) (.slice ae m.length ce) j → j < wr.heap.size := fun j hj => by
                rcases hj with e | e | e
                · obtain ⟨_, _, hh⟩ := own_block OB.out e; exact lt_of_block hh
                · obtain ⟨_, _, hh⟩ := own_block OS.out e; exact lt_of_block hh
                · obtain ⟨_, _, hh⟩ := own_block OE.out e; exact lt_of_block hh
              have hd := do_t T.out hFlt u hB1 (g.upd u) 7 hky.out ⟨oz, on, os⟩ Hok.out.n (Nat.le_trans H3.out (by decide)) (by have h1 := hkr.out; have h2 := hx25.out; omega)
              generalize Bk.runTo 7 x m k = st at *
              obtain ⟨z0, rs0⟩ := st
              dsimp only at hd hgk
              generalize Bk.doS 7 z0 ⟨oz, on, os⟩ = z at *
              obtain ⟨⟨⟨sk, st, sm⟩, n1, e1⟩, y5⟩ := z
              dsimp only [sgnV] at hd hgk
              have Hgk := Lib.hid hgk
              clear hFlt hgk
              go_wp2_with fail
              (with_reducible refine (hd).mono ?_)
              rintro _ w12 ⟨rfl, t12, u12, v12⟩
              have os12 := owns_upd' OS.out v12 (fun j hj e => e (Or.inr (Or.inl hj)))
              have oe12 := owns_upd' OE.out v12 (fun j hj e => e (Or.inr (Or.inr hj)))
              have ob12 := owns_upd' OB.out v12 (fun j hj e => e (Or.inl hj))
              have n12 := nw_alloc w12 (.cells #[.int .i64 sk, .string ⟨st.toArray⟩, .int .i64 sm] tSigned)
              obtain ⟨_, _, _⟩ := cell3 (heap_new w12 (.cells #[.int .i64 sk, .string ⟨st.toArray⟩, .int .i64 sm] tSigned))
              have Os12 := Lib.hid (owns_upd os12 n12 (fun _ _ _ s => s))
              have Oe12 := Lib.hid (owns_upd oe12 n12 (fun _ _ _ s => s))
              have Ob12 := Lib.hid (owns_upd ob12 n12 (fun _ _ _ s => s))
              have T12 := Lib.hid (t12.nw n12)
              replace u12 := Nw.trans u12 n12
              have hkrs : k < rs.length := by
                have := Hlen.out
                omega
              have hrk : rs[k] = (⟨sk, st, sm⟩, e1) := by
                have := Hgk.out
                rw [List.getElem?_eq_getElem hkrs] at this
                exact Option.some.inj this
              obtain ⟨sb, so, rfl, q0, q1, q2⟩ := sgn_at Os12.out (by have := Hlen.out; exact this.symm) hkrs
              obtain ⟨eb, eo, rfl, r0⟩ := err_at Oe12.out (by have := Hlen.out; exact this.symm) hkrs
              rw [hrk] at q0 q1 q2 r0
              dsimp only at q0 q1 q2 r0
              clear hd c0 c1 c2 v12 n12 t12 oe12 ob12 os12 T OS OE OB u hrk hkrs
              have hrt2 : Hid ((Bk.runTo 7 x m (k + 1)).1 = y5) := by show _ = _; rw [Hrt.out]
              clear Hrt
              go_wp2_with fail
              go_quiet (fail)
              obtain ⟨w13, ew, q13⟩ := nw_drewN (w12.alloc (.cells #[.int .i64 sk, .string ⟨st.toArray⟩, .int .i64 sm] tSigned)) nq
              rw [ew]; clear ew
              have T13 := Lib.hid (T12.out.nw q13)
              have Os13 := Lib.hid (owns_upd Os12.out q13 (fun _ _ _ s => s))
              have Oe13 := Lib.hid (owns_upd Oe12.out q13 (fun _ _ _ s => s))
              have Ob13 := Lib.hid (owns_upd Ob12.out q13 (fun _ _ _ s => s))
              have u13 := Nw.trans u12 q13
              clear T12 Os12 Oe12 Ob12 q13 u12 q0 q1 q2 r0
              go_wp2_with fail
              have hkl : k < m.length := hk1.out
              go_roundw
              case rel => exact ⟨k + 1, hk1.out, by go_num, by rw [hrt2.out]; exact T13, Os13, Oe13, Ob13, u13⟩
              case measure => simp [intOf]; omega
            · have hkm : k = m.length := by omega
              subst hkm
              rw [Hsf.out] at T
              dsimp only at T
              have l8 := all_t T.out (g.upd u) (by have := hyL.out; omega)
              go_wp2_with fail
              (with_reducible refine (l8).mono ?_)
              rintro _ w13 ⟨va, rfl, hva, u13⟩
              have T13 := Lib.hid (T.out.nw u13)
              have l9 := all_t T13.out.swap (g.upd (Nw.trans u u13)) (by have := hyL.out; omega)
              replace u13 := Nw.trans u u13
              clear l8 T OS OE OB u
              go_wp2_with fail
              (with_reducible refine (l9).mono ?_)
              rintro _ w14 ⟨vc, rfl, hvc, u14'⟩
              have T14 := Lib.hid (T13.out.nw u14')
              have l10 := same_q _ _ _ _ _ _ y.L y.L w14 ((seal_sls hva).nw u14') (seal_sls hvc) (by have := hyL.out; omega)
              rw [decide_eq_true rfl] at l10
              replace u14' := Nw.trans u13 u14'
              clear l9 T13 u13 hva hvc
              go_wp2_with fail
              (with_reducible refine (l10).mono ?_)
              rintro _ w15 ⟨rfl, u15⟩
              have T15 := Lib.hid (T14.out.nw u15)
              replace u15 := Nw.trans u14' u15
              have l11 := len_t T15.out
              clear l10 T14 u14'
              go_wp2_with fail
              (with_reducible refine (l11).mono ?_)
              rintro _ w16 ⟨rfl, u16⟩
              have l12 := len_t (T15.out.nw u16).swap
              replace u16 := Nw.trans u15 u16
              clear l11 T15 u15
              go_wp2_with fail
              (with_reducible refine (l12).mono ?_)
              rintro _ w17 ⟨rfl, u17⟩
              go_wp2_with fail
              go_ret
              exact ⟨rfl, Nw.trans u16 u17⟩
end Go.Proofs.YtjjdmmhlcdfplaaDoor
