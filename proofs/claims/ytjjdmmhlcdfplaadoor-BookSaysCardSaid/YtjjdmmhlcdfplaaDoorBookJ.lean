/- The contract of BookSays. -/
import Derived.Test.YtjjdmmhlcdfplaaDoorBookH
import Derived.Test.YtjjdmmhlcdfplaaDoorBookZ
import Derived.Test.YtjjdmmhlcdfplaaDoorApp
namespace Go.Proofs.YtjjdmmhlcdfplaaDoor
open Go.RowKit
set_option linter.unusedVariables false
set_option linter.unusedSimpArgs false
attribute [local irreducible] Calls

theorem own_slice {B sz : Nat} {e : TypeId} {w : World} {v : Value} {n : Nat} {xs : List Value} (h : w.ownsRow B e sz v n xs) : ∃ a cap, v = .slice a n cap := by
  rcases h.2 with ⟨h1, h2⟩ | ⟨g, cap, cur, h1, _⟩
  · exact ⟨none, 0, by rw [h1, h2]⟩
  · exact ⟨_, _, h1⟩
theorem lit_ent (B : Nat) (r : RingR) (br : BookR) (x : Bk.St) (i : Int) (y : Bk.Sgn) (e0 : Int) (L' : List Bk.Seal) (hy : Bk.entry x.L x.b i = ((y, e0), L')) (w : World) (g : Gl w) (h : Both B w r br x) (hB : B ≤ w.heap.size) (hn : I64 i) (hL : x.L.length ≤ 1000000) :
    Calls Tryd.prog 25 #[.pointer (some ⟨br.bb, 0, none⟩), .int .i64 i] w fun e w' => ∃ r', e = .returned (.tuple #[.agg #[.int .i64 y.key, .string ⟨y.text.toArray⟩, .int .i64 y.mark], .int .i64 e0]) ∧ Moved B r br ⟨L', x.b⟩ w w' r' br := by
  refine (entry_b B r br x.L x.b i w g h.ring h.book hB hn hL).mono ?_
  rintro e w' ⟨r', rfl, hr, hrb, u, hf⟩
  rw [hy] at hr ⊢
  exact ⟨r', rfl, moved_sgn h hr hrb u hf⟩
set_option maxHeartbeats 4000000 in
set_option maxRecDepth 100000 in
theorem says_c (v : Value) (l : List (List UInt8)) (key : List UInt8) (w : World) (g : Gl w) (hv : Sl 0 w.heap.size w v (l.map strB)) (hl : ∀ s ∈ l, s.length ≤ maxLen) (hkl : key.length ≤ maxLen) :
    Calls Tryd.prog 4 #[v, .string ⟨key.toArray⟩] w fun e w' => e = .returned (.bool true) ∧ Nw w w' := by
  have hgb := g.big
  obtain ⟨a, cap, rfl, hm, ha⟩ := hv.open_
  rw [List.length_map] at hm ⊢
  unfold maxLen at hm hkl
  have Ha := Lib.hid ha; clear ha
  have Hl := Lib.hid hl; clear hl
  have h0 : Hid (¬ (25 < l.length ∨ 300 < key.length) ∨ (25 < l.length ∨ 300 < key.length)) := (Classical.em _).symm
  go_enter Tryd.func4, Tryd.ntmps4
  go_wp2_with fail
  (with_reducible refine (small_b _ g).mono ?_)
  rintro _ w1 ⟨rfl, u⟩
  by_cases h25 : l.length ≤ 25
  rotate_left
  · go_wp2_with fail
    go_ret
    exact ⟨rfl, u⟩
  by_cases h300 : key.length ≤ 300
  rotate_left
  · go_wp2_with fail
    go_ret
    exact ⟨rfl, u⟩
  clear h0
  go_wp2_with fail
  (with_reducible refine (new_s _ (g.upd u)).mono ?_)
  rintro _ w3 ⟨r, rfl, hr, u3⟩
  have g3 := (g.upd u).upd u3
  go_wp2_with fail
  (with_reducible refine (new_b r.rb 0 _ g3).mono ?_)
  rintro _ w4 hb
  rcases hb with ⟨hkk, br, rfl, hb, u4⟩ | ⟨hkk, rfl, u4⟩
  rotate_left
  · cases hkk
  dsimp only
  have h := both_new hr hb u4 u3.size
  have hB2 := u.size
  replace u := (u.trans u3).trans u4
  clear hr hb u3 u4 g3
  generalize hBB : w1.heap.size = B at *
  clear hBB
  replace h : Both B w4 r br ⟨[], Bk.bk []⟩ := h
  have Hkey := Lib.hid h300
  have Hl25 := Lib.hid h25
  go_wp2_with fail
  go_loopw [9, 10] (fun kp i wr => ∃ k : Nat, k ≤ l.length ∧ i = .int .i64 k ∧ (∃ br' K, br'.bb = br.bb ∧ Both B wr r br' ⟨[], Bk.bk K⟩ ∧ Hid (Bk.KeptOk K) ∧ Hid (K.length ≤ k) ∧ wr.ownsRow B tStr 1 kp K.length (K.map strB) ∧ Hid (∀ j, kp.ownBlock = some j → ¬ r.foot j ∧ ¬ br'.foot j)) ∧ Nw w wr) (fun _ i _ => l.length - (intOf i).toNat)
  case atStart => exact ⟨0, Nat.zero_le _, rfl, ⟨br, [], rfl, h, Bk.KeptOk.nil, Nat.zero_le 0, World.ownsRow_nil _ _ _ _, fun j hj => by cases hj⟩, u⟩
  case round =>
    clear h u
    obtain ⟨k, hk, rfl, ⟨br', K, hbb, h, hK, hKk, hown, hapart⟩, u⟩ := hrel
    by_cases hlt : k < l.length
    · rcases Ha.out with ⟨_, _, hnil⟩ | ⟨b, off, rfl, _, _, hbl, hcell⟩
      · rw [List.map_eq_nil_iff] at hnil; simp [hnil] at hlt
      · have d0 : w.cell? ⟨b, off + k, none⟩ = some (.string ⟨l[k].toArray⟩) := by
          rw [hcell k (by simpa using hlt)]; simp [hlt, strB]
        have c0 := ((Nw.below u).cell (p := ⟨b, off + k, none⟩) hbl).trans d0
        have D0 := Lib.hid d0; clear d0
        have hx := Hl.out l[k] (List.getElem_mem hlt)
        clear hcell
        unfold maxLen at hx
        generalize l[k] = x at *
        have hkb : k < 25 := Nat.lt_of_lt_of_le hlt Hl25.out
        have hk1 : Hid (k + 1 ≤ l.length) := hlt
        by_cases hx3 : x.length ≤ 300
        rotate_left
        · go_wp2_with fail
          go_ret
          exact ⟨rfl, u⟩
        have Hx3 := Lib.hid hx3
        have hB : B ≤ wr.heap.size := by have h1 := h.ring.rb; have h2 := lt_of_block h.ring.blk; omega
        go_wp2_with fail
        (with_reducible refine (key_c ⟨x.toArray⟩ x (bs_list _) (by omega) _ (g.upd u)).mono ?_)
        rintro _ w5 ⟨rfl, u5⟩
        replace u := Nw.trans u u5
        replace h := h.nw u5
        replace hown := owns_upd hown u5 (fun _ _ _ s => s)
        have hB5 : B ≤ w5.heap.size := Nat.le_trans hB u5.size
        clear c0 u5
        have c0 := ((Nw.below u).cell (p := ⟨b, off + k, none⟩) hbl).trans D0.out
        cases hok : (Cl.key x).2 with
        | false =>
          have hap := lit_app B r br' _ ⟨x.toArray⟩ x _ _ (bs_list _) (Bk.append_no (K := K) hok) _ (g.upd u) h hB5 (by omega)
          rw [hbb] at hap
          have Hok := Lib.hid hok; clear hok
          dsimp only at hap ⊢
          go_wp2_with fail
          (with_reducible refine (hap).mono ?_)
          rintro _ w6 ⟨br6, rfl, m⟩
          have u6 := moved_nw h hB2 u m
          have hown6 := owns_upd' hown m.upd (fun j hj e => by
            obtain ⟨q1, q2⟩ := hapart.out j hj
            exact e.elim q1 q2)
          have hap6 : Hid (∀ j, u9.ownBlock = some j → ¬ r.foot j ∧ ¬ br6.foot j) := fun j hj => ⟨(hapart.out j hj).1, fun e => by
            rcases m.f2 j e with e | e
            · exact (hapart.out j hj).2 e
            · have := (hown.lt j hj).2; omega⟩
          have h6 := m.both
          have hbb6 := m.bb.trans hbb
          clear hap m hown h u hapart
          have hs := h6.book.slice
          go_wp2_with fail
          have hkl : k < l.length := hk1.out
          go_roundw
          case rel => exact ⟨k + 1, hk1.out, by go_num, ⟨br6, K, hbb6, h6, hK, Nat.le_succ_of_le hKk.out, hown6, hap6⟩, u6⟩
          case measure => simp [intOf]; omega
        | true =>
          have hap := lit_app B r br' _ ⟨x.toArray⟩ x _ _ (bs_list _) (Bk.append_yes (K := K) hok hK.out hx3) _ (g.upd u) h hB5 (by omega)
          rw [hbb] at hap
          have Hok := Lib.hid hok; clear hok
          dsimp only at hap ⊢
          go_wp2_with fail
          (with_reducible refine (hap).mono ?_)
          rintro _ w6 ⟨br6, rfl, m⟩
          have u6 := moved_nw h hB2 u m
          have hown6 := owns_upd' hown m.upd (fun j hj e => by
            obtain ⟨q1, q2⟩ := hapart.out j hj
            exact e.elim q1 q2)
          have hap6 : Hid (∀ j, u9.ownBlock = some j → ¬ r.foot j ∧ ¬ br6.foot j) := fun j hj => ⟨(hapart.out j hj).1, fun e => by
            rcases m.f2 j e with e | e
            · exact (hapart.out j hj).2 e
            · have := (hown.lt j hj).2; omega⟩
          have h6 := m.both
          have hbb6 := m.bb.trans hbb
          clear hap m hown h u hapart
          obtain ⟨ak, ck, rfl⟩ := own_slice hown6
          clear c0
          have c0 := ((Nw.below u6).cell (p := ⟨b, off + k, none⟩) hbl).trans D0.out
          have hB6 : B ≤ w6.heap.size := by have h1 := h6.ring.rb; have h2 := lt_of_block h6.ring.blk; omega
          have hK25 := hK.out.1
          have hnB : nG ≤ B := h6.ring.hb
          go_wp2_with (at_builtin; refine wpList_appL rfl _ _ 46 rfl B tStr _ 1 16 Tryd.underlying46 infoStr' rfl (by decide) _ _ _ rfl hown6 [strB x] rfl rfl ?c1 ?c2 ?c3 hB6 hnB ?_)
          case c1 => intro u hu; rw [List.mem_singleton.1 hu]; rfl
          case c2 => unfold maxLen; omega
          case c3 => omega
          intro v' w7 hown7 q7 hob
          have h7 := h6.upd q7 (fun j e1 e2 => (hap6.out j e2).1 e1) (fun j e1 e2 => (hap6.out j e2).2 e1)
          have u7 : Nw w w7 := Upd.trans' u6 q7 (fun j hj e => by have := (hown6.lt j e).1; omega)
          have hap7 : Hid (∀ j, v'.ownBlock = some j → ¬ r.foot j ∧ ¬ br6.foot j) := fun j hj => by
            rcases hob j hj with e | e
            · exact hap6.out j e
            · exact ⟨fun e2 => by have := (h6.ring.foot_lt e2).2; omega, fun e2 => by have := (h6.book.foot_lt e2).2; omega⟩
          have hK7 : Hid (Bk.KeptOk (K ++ [x])) := ⟨by have := hKk.out; rw [List.length_append, List.length_singleton]; omega, fun t ht => by
            rcases List.mem_append.1 ht with ht | ht
            · exact hK.out.2 t ht
            · rw [List.mem_singleton] at ht; subst ht; exact ⟨Hok.out, Hx3.out⟩⟩
          have hown8 : Hid (w7.ownsRow B tStr 1 v' (K ++ [x]).length ((K ++ [x]).map strB)) := by
            show World.ownsRow _ _ _ _ _ _ _
            rw [List.length_append, List.map_append]; exact hown7
          have hKk7 : Hid ((K ++ [x]).length ≤ k + 1) := by
            have := hKk.out
            show _ ≤ _
            rw [List.length_append]; simp; omega
          clear q7 hob hown7 hown6 hap6 h6 u6 c0 hK25
          go_wp2_with fail
          have hkl : k < l.length := hk1.out
          go_roundw
          case rel => exact ⟨k + 1, hk1.out, by go_num, ⟨br6, K ++ [x], hbb6, h7, hK7, hKk7, hown8.out, hap7⟩, u7⟩
          case measure => simp [intOf]; omega
    · obtain ⟨wZ, rfl⟩ : ∃ z, z = wr := ⟨_, rfl⟩
      obtain ⟨ak, ck, rfl⟩ := own_slice hown
      have hK25 := hK.out.1
      have HKz := Lib.hid hK.out.2
      have Hown := Lib.hid hown; clear hown
      go_wp2_with fail
      go_loopw [15, 16] (fun th i wr => ∃ n : Nat, n ≤ K.length ∧ i = .int .i64 n ∧ th = .bool (!Cl.absentB K n key) ∧ (∃ r' L', r'.rb = r.rb ∧ Both B wr r' br' ⟨L', Bk.bk K⟩ ∧ Hid (L'.length ≤ 2 * n) ∧ Hid (∀ j, (Value.slice ak K.length ck).ownBlock = some j → ¬ r'.foot j ∧ ¬ br'.foot j)) ∧ Nw w wr ∧ Hid (wr.ownsRow B tStr 1 (.slice ak K.length ck) K.length (K.map strB))) (fun _ i _ => K.length - (intOf i).toNat)
      case atStart => exact ⟨0, Nat.zero_le _, rfl, by rw [Bk.there_zero]; rfl, ⟨r, [], rfl, h, Nat.le_refl 0, hapart⟩, u, Hown⟩
      case round =>
        clear h u Hown hapart
        obtain ⟨n, hn, rfl, rfl, ⟨r', L', hrb, h, hL, hap⟩, u, Hown⟩ := hrel
        have hB : B ≤ wr.heap.size := by have h1 := h.ring.rb; have h2 := lt_of_block h.ring.blk; omega
        obtain ⟨s, e, L2, hab, hL2, hy, hno⟩ := Bk.absent_r hK.out Hkey.out L' hn
        have q := lit_abs B r' br' _ ⟨key.toArray⟩ key n s e L2 (bs_list _) hab _ (g.upd u) h hB (by unfold I64; omega) (by omega) (by have := hL.out; show L'.length ≤ _; omega)
        rw [hbb] at q
        have hL2b : Hid (L2.length ≤ 2 * n + 1) := by have := hL.out; show _ ≤ _; omega
        clear hab hL2 hL
        have hn25 : n ≤ 25 := by omega
        go_wp2_with fail
        (with_reducible refine (q).mono ?_)
        rintro _ w5 ⟨r5, rfl, m⟩
        clear q
        have u5 := moved_nw h hB2 u m
        have hown5 := owns_upd' Hown.out m.upd (fun j hj e => by
          obtain ⟨q1, q2⟩ := hap.out j hj
          exact e.elim q1 q2)
        have hap5 : Hid (∀ j, (Value.slice ak K.length ck).ownBlock = some j → ¬ r5.foot j ∧ ¬ br'.foot j) := fun j hj => ⟨fun e => by
          rcases m.f1 j e with e | e
          · exact (hap.out j hj).1 e
          · have := (Hown.out.lt j hj).2; omega, (hap.out j hj).2⟩
        have hrb5 := m.rb.trans hrb
        have h5 := m.both
        clear m h u Hown hap
        have n1 := nw_alloc w5 (.cells #[.int .i64 s.key, .string ⟨s.text.toArray⟩, .int .i64 s.mark] tSigned)
        obtain ⟨_, _, _⟩ := cell3 (heap_new w5 (.cells #[.int .i64 s.key, .string ⟨s.text.toArray⟩, .int .i64 s.mark] tSigned))
        have u6 := Nw.trans u5 n1
        have h6 := h5.nw n1
        have hown6 := owns_upd hown5 n1 (fun _ _ _ s => s)
        clear u5 h5 hown5 n1
        have hq : ∃ cz ok, Cl.read s.text = (cz, ok) ∧ s.text.length ≤ 30000 ∧ (Cl.absentB K n key = true → e = 0 ∧ ok = true ∧ cz = ⟨2, n, 0, key⟩) ∧ (Cl.absentB K n key = false → e = 5) := by
          cases hb : Cl.absentB K n key with
          | true =>
            obtain ⟨e1, e2, e3⟩ := hy hb
            refine ⟨_, _, e3, ?_, fun _ => ⟨e1, rfl, rfl⟩, fun h => (by cases h)⟩
            rw [e2]
            exact text_len _ ⟨by show I64 2; unfold I64; omega, by show I64 (n : Int); unfold I64; omega, by show I64 0; unfold I64; omega, by show key.length ≤ _; omega⟩
          | false =>
            obtain ⟨e1, e2⟩ := hno hb
            subst e2
            exact ⟨_, _, Bk.read_nil, by decide, fun h => (by cases h), fun _ => e1⟩
        obtain ⟨cz, ok, hread, hlen, hq1, hq2⟩ := hq
        have hrc := read_c ⟨s.text.toArray⟩ s.text rfl (by omega) _ (g.upd u6)
        rw [hread] at hrc
        dsimp only [clmV, errV] at hrc
        obtain ⟨ev, hev⟩ : ∃ ev : Int, (if ok = true then (0 : Int) else 2) = ev := ⟨_, rfl⟩
        rw [hev] at hrc
        have hq1' : Cl.absentB K n key = true → e = 0 ∧ ev = 0 ∧ cz = ⟨2, n, 0, key⟩ := fun h => by
          obtain ⟨e1, e2, e3⟩ := hq1 h
          exact ⟨e1, by rw [← hev, if_pos e2], e3⟩
        clear hev
        have Hq1 := Lib.hid hq1'
        clear hq1'
        have Hq2 := Lib.hid hq2
        clear hread hy hno hq1 hq2
        go_wp2_with fail
        (with_reducible refine (hrc).mono ?_)
        rintro _ w7 ⟨rfl, u7⟩
        clear hrc
        have n2 := nw_alloc w7 (.cells #[.int .i64 cz.kind, .int .i64 cz.n, .int .i64 cz.time, .string ⟨cz.text.toArray⟩] tC)
        obtain ⟨_, _, _, _⟩ := one_claim (heap_new w7 (.cells #[.int .i64 cz.kind, .int .i64 cz.n, .int .i64 cz.time, .string ⟨cz.text.toArray⟩] tC))
        replace n2 := Nw.trans u7 n2
        have u8 := Nw.trans u6 n2
        have h8 := h6.nw n2
        have hown8 := Lib.hid (owns_upd hown6 n2 (fun _ _ _ s => s))
        clear u6 h6 hown6 n2 u7
        have Hts : Hid (∀ h : n < K.length, Cl.absentB K (n + 1) key = (Cl.absentB K n key && !decide ((Cl.key K[n]).1 = key))) := fun h => Bk.there_succ hK.out key h
        dsimp only
        cases hab : Cl.absentB K n key with
        | true =>
          obtain ⟨e1, e2, e3⟩ := Hq1.out hab
          rw [hab] at Hts
          subst e1 e2 e3
          clear Hq1 Hq2 hab
          dsimp only at h8 u8 hown8 ⊢
          have hB8 : B ≤ (w7.alloc (.cells #[.int .i64 2, .int .i64 n, .int .i64 0, .string ⟨key.toArray⟩] tC)).heap.size := by have h1 := h8.ring.rb; have h2 := lt_of_block h8.ring.blk; omega
          by_cases hnk : n = K.length
          · subst hnk
            have q := lit_ent B r5 br' _ _ _ _ _ (Bk.entry_out (K := K) L2) _ (g.upd u8) h8 hB8 (by unfold I64; omega) (by have := hL2b.out; show L2.length ≤ _; omega)
            rw [hbb] at q
            clear Hts
            go_wp2_with fail
            (with_reducible refine (q).mono ?_)
            rintro _ w9 ⟨r9, rfl, m⟩
            have n9 := nw_alloc w9 (.cells #[.int .i64 Bk.noSgn.key, .string ⟨Bk.noSgn.text.toArray⟩, .int .i64 Bk.noSgn.mark] tSigned)
            have u9 := Nw.trans (moved_nw h8 hB2 u8 m) n9
            have h9 := m.both.nw n9
            clear q m u8 h8 n9
            have hB9 : B ≤ (w9.alloc (.cells #[.int .i64 Bk.noSgn.key, .string ⟨Bk.noSgn.text.toArray⟩, .int .i64 Bk.noSgn.mark] tSigned)).heap.size := by have h1 := h9.ring.rb; have h2 := lt_of_block h9.ring.blk; omega
            have q := lit_abs B r9 br' _ ⟨key.toArray⟩ key _ _ _ _ (bs_list _) (Bk.absent_out (K := K) L2 key) _ (g.upd u9) h9 hB9 (by unfold I64; omega) (by omega) (by have := hL2b.out; show L2.length ≤ _; omega)
            rw [hbb] at q
            go_wp2_with fail
            (with_reducible refine (q).mono ?_)
            rintro _ w10 ⟨r10, rfl, m⟩
            have n10 := nw_alloc w10 (.cells #[.int .i64 Bk.noSgn.key, .string ⟨Bk.noSgn.text.toArray⟩, .int .i64 Bk.noSgn.mark] tSigned)
            have u10 := Nw.trans (moved_nw h9 hB2 u9 m) n10
            have h10 := m.both.nw n10
            clear q m u9 h9 n10
            have q := len_b B br' r10.rb _ _ h10.book
            rw [hbb] at q
            dsimp only [Bk.bk] at q
            go_wp2_with fail
            (with_reducible refine (q).mono ?_)
            rintro _ w11 ⟨rfl, u11⟩
            go_wp2_with fail
            go_ret
            exact ⟨rfl, Nw.trans u10 u11⟩
          · have hnl : n < K.length := by omega
            have q := text_b B br' r5.rb _ (n : Int) _ h8.book
            rw [Bk.textAt_r hnl, hbb] at q
            have Hts2 := Lib.hid (Hts.out hnl)
            obtain ⟨s2, L3, he1, he2, hL3, ht3, hr3⟩ := Bk.entry_r hK.out L2 hnl
            have hK3 := (HKz.out K[n] (List.getElem_mem hnl))
            have hlen2 : s2.text.length ≤ 30000 := by
              rw [ht3]
              exact text_len _ ⟨by show I64 0; unfold I64; omega, by show I64 (n : Int); unfold I64; omega, by show I64 0; unfold I64; omega, by have := hK3.2; show K[n].length ≤ _; omega⟩
            have hkc : Hid (∀ wx : World, wx.ownsRow B tStr 1 (.slice ak K.length ck) K.length (K.map strB) → ∃ bk ok, ak = some ⟨bk, ok, none⟩ ∧ wx.cell? ⟨bk, ok + n, none⟩ = some (.string ⟨K[n].toArray⟩)) := fun wx hx => by
              rcases Sl.of_owns hx with ⟨_, _, _, hnil⟩ | ⟨bk, ok, _, e1, _, _, _, _, _, e2⟩
              · rw [List.map_eq_nil_iff] at hnil; simp [hnil] at hnl
              · injection e1 with e1
                exact ⟨bk, ok, e1, by rw [e2 n (by simpa using hnl)]; simp [hnl, strB]⟩
            have hrc := read_c ⟨s2.text.toArray⟩ s2.text rfl (by omega)
            rw [hr3] at hrc
            dsimp only [clmV, errV] at hrc
            rw [if_pos rfl] at hrc
            have Hrc := Lib.hid hrc
            have Hk3 := Lib.hid hK3
            have He1 := Lib.hid he1
            have He2 := Lib.hid he2
            have hL3b : Hid (L3.length ≤ 2 * (n + 1)) := by have := hL2b.out; show _ ≤ _; omega
            clear Hts ht3 hr3 hK3 hrc he1 he2 hL3
            generalize K[n] = kn at *
            go_wp2_with fail
            (with_reducible refine (q).mono ?_)
            rintro _ w9 ⟨rfl, u9⟩
            clear q
            have h9 := h8.nw u9
            have hown9 := owns_upd hown8.out u9 (fun _ _ _ s => s)
            replace u9 := Nw.trans u8 u9
            have hB9 : B ≤ w9.heap.size := by have h1 := h9.ring.rb; have h2 := lt_of_block h9.ring.blk; omega
            have q := lit_ent B r5 br' _ _ _ _ _ He1.out _ (g.upd u9) h9 hB9 (by unfold I64; omega) (by have := hL2b.out; show L2.length ≤ _; omega)
            rw [hbb] at q
            clear u8 h8 hown8
            go_wp2_with fail
            (with_reducible refine (q).mono ?_)
            rintro _ w10 ⟨r10, rfl, m⟩
            have hown' := owns_upd' hown9 m.upd (fun j hj e => by
              obtain ⟨q1, q2⟩ := (hap5).out j hj
              exact e.elim q1 q2)
            have hap' : Hid (∀ j, (Value.slice ak K.length ck).ownBlock = some j → ¬ RingR.foot r10 j ∧ ¬ br'.foot j) := fun j hj => ⟨fun e => by
              rcases m.f1 j e with e | e
              · exact ((hap5).out j hj).1 e
              · have := ((hown9).lt j hj).2; omega, ((hap5).out j hj).2⟩
            have hrb' := m.rb.trans hrb5
            have hft : Hid (∀ j, (RingR.foot r10 j ∨ br'.foot j) → j < (World.heap w10).size) := fun j hj => hj.elim (fun e => (m.both.ring.foot_lt e).2) (fun e => (m.both.book.foot_lt e).2)
            have n' := nw_alloc w10 (.cells #[.int .i64 s2.key, .string ⟨s2.text.toArray⟩, .int .i64 s2.mark] tSigned)
            have h' := m.both.nw n'
            have u' := Nw.trans (moved_nw h9 hB2 u9 m) n'
            replace hown' := owns_upd hown' n' (fun _ _ _ s => s)
            clear m n' h9 u9 hown9 hap5 hrb5
            have kA := Lib.hid (heap_new w10 (.cells #[.int .i64 s2.key, .string ⟨s2.text.toArray⟩, .int .i64 s2.mark] tSigned))
            have hltA := lt_of_block kA.out
            have hB10 : B ≤ (w10.alloc (.cells #[.int .i64 s2.key, .string ⟨s2.text.toArray⟩, .int .i64 s2.mark] tSigned)).heap.size := by have h1 := h'.ring.rb; have h2 := lt_of_block h'.ring.blk; omega
            have q := lit_ent B r10 br' _ _ _ _ _ He2.out _ (g.upd u') h' hB10 (by unfold I64; omega) (by have := hL3b.out; show L3.length ≤ _; omega)
            rw [hbb] at q
            go_wp2_with fail
            (with_reducible refine (q).mono ?_)
            rintro _ w11 ⟨r11, rfl, m⟩
            have kB := Lib.hid (m.upd.keep kA.out (fun e => by have := hft.out _ e; omega))
            have hltB : w10.heap.size < w11.heap.size := lt_of_block kB.out
            clear hft kA q
            obtain ⟨h1, hB10a, u1, hown1, hap1, hrb1⟩ := And.intro h' (And.intro hB10 (And.intro u' (And.intro hown' (And.intro hap' hrb'))))
            clear h' hB10 u' hown' hap' hrb'
            have hown' := owns_upd' hown1 m.upd (fun j hj e => by
              obtain ⟨q1, q2⟩ := (hap1).out j hj
              exact e.elim q1 q2)
            have hap' : Hid (∀ j, (Value.slice ak K.length ck).ownBlock = some j → ¬ RingR.foot r11 j ∧ ¬ br'.foot j) := fun j hj => ⟨fun e => by
              rcases m.f1 j e with e | e
              · exact ((hap1).out j hj).1 e
              · have := ((hown1).lt j hj).2; omega, ((hap1).out j hj).2⟩
            have hrb' := m.rb.trans hrb1
            have hft : Hid (∀ j, (RingR.foot r11 j ∨ br'.foot j) → j < (World.heap w11).size) := fun j hj => hj.elim (fun e => (m.both.ring.foot_lt e).2) (fun e => (m.both.book.foot_lt e).2)
            have n' := nw_alloc w11 (.cells #[.int .i64 s2.key, .string ⟨s2.text.toArray⟩, .int .i64 s2.mark] tSigned)
            have h' := m.both.nw n'
            have u' := Nw.trans (moved_nw h1 hB2 u1 m) n'
            replace hown' := owns_upd hown' n' (fun _ _ _ s => s)
            clear m n' h1 u1 hown1 hap1 hrb1
            have kC := Lib.hid (heap_new w11 (.cells #[.int .i64 s2.key, .string ⟨s2.text.toArray⟩, .int .i64 s2.mark] tSigned))
            have kB2 := Lib.hid (Nw.keep (nw_alloc w11 (.cells #[.int .i64 s2.key, .string ⟨s2.text.toArray⟩, .int .i64 s2.mark] tSigned)) kB.out)
            obtain ⟨_, _, _⟩ := cell3 kB2.out
            have q := Hrc.out _ (g.upd u')
            go_wp2_with fail
            (with_reducible refine (q).mono ?_)
            rintro _ w12 ⟨rfl, u12⟩
            have n12 := nw_alloc w12 (.cells #[.int .i64 0, .int .i64 n, .int .i64 0, .string ⟨kn.toArray⟩] tC)
            obtain ⟨_, _, _, _⟩ := one_claim (heap_new w12 (.cells #[.int .i64 0, .int .i64 n, .int .i64 0, .string ⟨kn.toArray⟩] tC))
            replace n12 := Nw.trans u12 n12
            obtain ⟨_, _, _⟩ := cell3 (Nw.keep n12 kB2.out)
            obtain ⟨_, _, _⟩ := cell3 (Nw.keep n12 kC.out)
            have h13 := h'.nw n12
            have u13 := Nw.trans u' n12
            have hown13 := owns_upd hown' n12 (fun _ _ _ s => s)
            obtain ⟨bk, okk, rfl, ckn⟩ := hkc.out _ hown13
            have Hown13 := Lib.hid hown13
            clear u12 n12 kB kB2 kC h' u' hown' hown13 q hkc
            dsimp only
            go_wp2_with fail
            go_quiet (fail)
            obtain ⟨w13, ew, q13⟩ := nw_drewN (w12.alloc (.cells #[.int .i64 0, .int .i64 n, .int .i64 0, .string ⟨kn.toArray⟩] tC)) nq
            rw [ew]; clear ew
            have h14 := h13.nw q13
            have u14 := Nw.trans u13 q13
            have hown14 := Lib.hid (owns_upd Hown13.out q13 (fun _ _ _ s => s))
            have ckn' := (Nw.below q13).cell (World.block_lt_of_cell? _ _ ckn) |>.trans ckn
            clear ckn
            have hkey := key_c ⟨kn.toArray⟩ kn (bs_list _) (by have := Hk3.out.2; omega) _ (g.upd u14)
            clear h13 u13 Hown13 q13
            go_wp2_with fail
            (with_reducible refine (hkey).mono ?_)
            rintro _ w15 ⟨rfl, q15⟩
            have h15 := h14.nw q15
            have u15 := Nw.trans u14 q15
            have hown15 := Lib.hid (owns_upd hown14.out q15 (fun _ _ _ s => s))
            clear h14 u14 hown14 ckn' q15
            dsimp only
            generalize (Cl.key kn).1 = own at *
            have hdk : Hid (∀ z : Bool, decide (own = key) = z → Cl.absentB K (n + 1) key = (true && !z)) := fun z hz => by rw [← hz]; exact Hts2.out
            clear Hts2
            by_cases hok : own = key
            · have hkb : (own == key) = true := beq_iff_eq.2 hok
              have Hdk := Lib.hid (hdk.out true (decide_eq_true hok))
              clear hdk hok
              go_wp2_with fail
              go_roundw
              case rel => exact ⟨n + 1, by omega, by go_num, by rw [Hdk.out]; rfl, ⟨r11, L3, hrb', h15, hL3b, hap'⟩, u15, hown15⟩
              case measure => simp [intOf]; omega
            · have hkb : (own == key) = false := beq_eq_false_iff_ne.2 hok
              have Hdk := Lib.hid (hdk.out false (decide_eq_false hok))
              clear hdk
              go_wp2_with fail
              go_roundw
              case rel => exact ⟨n + 1, by omega, by go_num, by rw [Hdk.out]; rfl, ⟨r11, L3, hrb', h15, hL3b, hap'⟩, u15, hown15⟩
              case measure => simp [intOf]; omega
        | false =>
          have e1 := Hq2.out hab
          rw [hab] at Hts
          subst e1
          clear Hq1 Hq2 hab
          have hB8 : B ≤ (w7.alloc (.cells #[.int .i64 cz.kind, .int .i64 cz.n, .int .i64 cz.time, .string ⟨cz.text.toArray⟩] tC)).heap.size := by have h1 := h8.ring.rb; have h2 := lt_of_block h8.ring.blk; omega
          by_cases hnk : n = K.length
          · subst hnk
            have q := lit_ent B r5 br' _ _ _ _ _ (Bk.entry_out (K := K) L2) _ (g.upd u8) h8 hB8 (by unfold I64; omega) (by have := hL2b.out; show L2.length ≤ _; omega)
            rw [hbb] at q
            clear Hts
            go_wp2_with fail
            (with_reducible refine (q).mono ?_)
            rintro _ w9 ⟨r9, rfl, m⟩
            have n9 := nw_alloc w9 (.cells #[.int .i64 Bk.noSgn.key, .string ⟨Bk.noSgn.text.toArray⟩, .int .i64 Bk.noSgn.mark] tSigned)
            have u9 := Nw.trans (moved_nw h8 hB2 u8 m) n9
            have h9 := m.both.nw n9
            clear q m u8 h8 n9
            have hB9 : B ≤ (w9.alloc (.cells #[.int .i64 Bk.noSgn.key, .string ⟨Bk.noSgn.text.toArray⟩, .int .i64 Bk.noSgn.mark] tSigned)).heap.size := by have h1 := h9.ring.rb; have h2 := lt_of_block h9.ring.blk; omega
            have q := lit_abs B r9 br' _ ⟨key.toArray⟩ key _ _ _ _ (bs_list _) (Bk.absent_out (K := K) L2 key) _ (g.upd u9) h9 hB9 (by unfold I64; omega) (by omega) (by have := hL2b.out; show L2.length ≤ _; omega)
            rw [hbb] at q
            go_wp2_with fail
            (with_reducible refine (q).mono ?_)
            rintro _ w10 ⟨r10, rfl, m⟩
            have n10 := nw_alloc w10 (.cells #[.int .i64 Bk.noSgn.key, .string ⟨Bk.noSgn.text.toArray⟩, .int .i64 Bk.noSgn.mark] tSigned)
            have u10 := Nw.trans (moved_nw h9 hB2 u9 m) n10
            have h10 := m.both.nw n10
            clear q m u9 h9 n10
            have q := len_b B br' r10.rb _ _ h10.book
            rw [hbb] at q
            dsimp only [Bk.bk] at q
            go_wp2_with fail
            (with_reducible refine (q).mono ?_)
            rintro _ w11 ⟨rfl, u11⟩
            go_wp2_with fail
            go_ret
            exact ⟨rfl, Nw.trans u10 u11⟩
          · have hnl : n < K.length := by omega
            have q := text_b B br' r5.rb _ (n : Int) _ h8.book
            rw [Bk.textAt_r hnl, hbb] at q
            have Hts2 := Lib.hid (Hts.out hnl)
            obtain ⟨s2, L3, he1, he2, hL3, ht3, hr3⟩ := Bk.entry_r hK.out L2 hnl
            have hK3 := (HKz.out K[n] (List.getElem_mem hnl))
            have hlen2 : s2.text.length ≤ 30000 := by
              rw [ht3]
              exact text_len _ ⟨by show I64 0; unfold I64; omega, by show I64 (n : Int); unfold I64; omega, by show I64 0; unfold I64; omega, by have := hK3.2; show K[n].length ≤ _; omega⟩
            have hkc : Hid (∀ wx : World, wx.ownsRow B tStr 1 (.slice ak K.length ck) K.length (K.map strB) → ∃ bk ok, ak = some ⟨bk, ok, none⟩ ∧ wx.cell? ⟨bk, ok + n, none⟩ = some (.string ⟨K[n].toArray⟩)) := fun wx hx => by
              rcases Sl.of_owns hx with ⟨_, _, _, hnil⟩ | ⟨bk, ok, _, e1, _, _, _, _, _, e2⟩
              · rw [List.map_eq_nil_iff] at hnil; simp [hnil] at hnl
              · injection e1 with e1
                exact ⟨bk, ok, e1, by rw [e2 n (by simpa using hnl)]; simp [hnl, strB]⟩
            have hrc := read_c ⟨s2.text.toArray⟩ s2.text rfl (by omega)
            rw [hr3] at hrc
            dsimp only [clmV, errV] at hrc
            rw [if_pos rfl] at hrc
            have Hrc := Lib.hid hrc
            have Hk3 := Lib.hid hK3
            have He1 := Lib.hid he1
            have He2 := Lib.hid he2
            have hL3b : Hid (L3.length ≤ 2 * (n + 1)) := by have := hL2b.out; show _ ≤ _; omega
            clear Hts ht3 hr3 hK3 hrc he1 he2 hL3
            generalize K[n] = kn at *
            go_wp2_with fail
            (with_reducible refine (q).mono ?_)
            rintro _ w9 ⟨rfl, u9⟩
            clear q
            have h9 := h8.nw u9
            have hown9 := owns_upd hown8.out u9 (fun _ _ _ s => s)
            replace u9 := Nw.trans u8 u9
            have hB9 : B ≤ w9.heap.size := by have h1 := h9.ring.rb; have h2 := lt_of_block h9.ring.blk; omega
            have q := lit_ent B r5 br' _ _ _ _ _ He1.out _ (g.upd u9) h9 hB9 (by unfold I64; omega) (by have := hL2b.out; show L2.length ≤ _; omega)
            rw [hbb] at q
            clear u8 h8 hown8
            go_wp2_with fail
            (with_reducible refine (q).mono ?_)
            rintro _ w10 ⟨r10, rfl, m⟩
            have hown' := owns_upd' hown9 m.upd (fun j hj e => by
              obtain ⟨q1, q2⟩ := (hap5).out j hj
              exact e.elim q1 q2)
            have hap' : Hid (∀ j, (Value.slice ak K.length ck).ownBlock = some j → ¬ RingR.foot r10 j ∧ ¬ br'.foot j) := fun j hj => ⟨fun e => by
              rcases m.f1 j e with e | e
              · exact ((hap5).out j hj).1 e
              · have := ((hown9).lt j hj).2; omega, ((hap5).out j hj).2⟩
            have hrb' := m.rb.trans hrb5
            have hft : Hid (∀ j, (RingR.foot r10 j ∨ br'.foot j) → j < (World.heap w10).size) := fun j hj => hj.elim (fun e => (m.both.ring.foot_lt e).2) (fun e => (m.both.book.foot_lt e).2)
            have n' := nw_alloc w10 (.cells #[.int .i64 s2.key, .string ⟨s2.text.toArray⟩, .int .i64 s2.mark] tSigned)
            have h' := m.both.nw n'
            have u' := Nw.trans (moved_nw h9 hB2 u9 m) n'
            replace hown' := owns_upd hown' n' (fun _ _ _ s => s)
            clear m n' h9 u9 hown9 hap5 hrb5
            have kA := Lib.hid (heap_new w10 (.cells #[.int .i64 s2.key, .string ⟨s2.text.toArray⟩, .int .i64 s2.mark] tSigned))
            have hltA := lt_of_block kA.out
            have hB10 : B ≤ (w10.alloc (.cells #[.int .i64 s2.key, .string ⟨s2.text.toArray⟩, .int .i64 s2.mark] tSigned)).heap.size := by have h1 := h'.ring.rb; have h2 := lt_of_block h'.ring.blk; omega
            have q := lit_ent B r10 br' _ _ _ _ _ He2.out _ (g.upd u') h' hB10 (by unfold I64; omega) (by have := hL3b.out; show L3.length ≤ _; omega)
            rw [hbb] at q
            go_wp2_with fail
            (with_reducible refine (q).mono ?_)
            rintro _ w11 ⟨r11, rfl, m⟩
            have kB := Lib.hid (m.upd.keep kA.out (fun e => by have := hft.out _ e; omega))
            have hltB : w10.heap.size < w11.heap.size := lt_of_block kB.out
            clear hft kA q
            obtain ⟨h1, hB10a, u1, hown1, hap1, hrb1⟩ := And.intro h' (And.intro hB10 (And.intro u' (And.intro hown' (And.intro hap' hrb'))))
            clear h' hB10 u' hown' hap' hrb'
            have hown' := owns_upd' hown1 m.upd (fun j hj e => by
              obtain ⟨q1, q2⟩ := (hap1).out j hj
              exact e.elim q1 q2)
            have hap' : Hid (∀ j, (Value.slice ak K.length ck).ownBlock = some j → ¬ RingR.foot r11 j ∧ ¬ br'.foot j) := fun j hj => ⟨fun e => by
              rcases m.f1 j e with e | e
              · exact ((hap1).out j hj).1 e
              · have := ((hown1).lt j hj).2; omega, ((hap1).out j hj).2⟩
            have hrb' := m.rb.trans hrb1
            have hft : Hid (∀ j, (RingR.foot r11 j ∨ br'.foot j) → j < (World.heap w11).size) := fun j hj => hj.elim (fun e => (m.both.ring.foot_lt e).2) (fun e => (m.both.book.foot_lt e).2)
            have n' := nw_alloc w11 (.cells #[.int .i64 s2.key, .string ⟨s2.text.toArray⟩, .int .i64 s2.mark] tSigned)
            have h' := m.both.nw n'
            have u' := Nw.trans (moved_nw h1 hB2 u1 m) n'
            replace hown' := owns_upd hown' n' (fun _ _ _ s => s)
            clear m n' h1 u1 hown1 hap1 hrb1
            have kC := Lib.hid (heap_new w11 (.cells #[.int .i64 s2.key, .string ⟨s2.text.toArray⟩, .int .i64 s2.mark] tSigned))
            have kB2 := Lib.hid (Nw.keep (nw_alloc w11 (.cells #[.int .i64 s2.key, .string ⟨s2.text.toArray⟩, .int .i64 s2.mark] tSigned)) kB.out)
            obtain ⟨_, _, _⟩ := cell3 kB2.out
            have q := Hrc.out _ (g.upd u')
            go_wp2_with fail
            (with_reducible refine (q).mono ?_)
            rintro _ w12 ⟨rfl, u12⟩
            have n12 := nw_alloc w12 (.cells #[.int .i64 0, .int .i64 n, .int .i64 0, .string ⟨kn.toArray⟩] tC)
            obtain ⟨_, _, _, _⟩ := one_claim (heap_new w12 (.cells #[.int .i64 0, .int .i64 n, .int .i64 0, .string ⟨kn.toArray⟩] tC))
            replace n12 := Nw.trans u12 n12
            obtain ⟨_, _, _⟩ := cell3 (Nw.keep n12 kB2.out)
            obtain ⟨_, _, _⟩ := cell3 (Nw.keep n12 kC.out)
            have h13 := h'.nw n12
            have u13 := Nw.trans u' n12
            have hown13 := owns_upd hown' n12 (fun _ _ _ s => s)
            obtain ⟨bk, okk, rfl, ckn⟩ := hkc.out _ hown13
            have Hown13 := Lib.hid hown13
            clear u12 n12 kB kB2 kC h' u' hown' hown13 q hkc
            dsimp only
            go_wp2_with fail
            go_quiet (fail)
            obtain ⟨w13, ew, q13⟩ := nw_drewN (w12.alloc (.cells #[.int .i64 0, .int .i64 n, .int .i64 0, .string ⟨kn.toArray⟩] tC)) nq
            rw [ew]; clear ew
            have h14 := h13.nw q13
            have u14 := Nw.trans u13 q13
            have hown14 := Lib.hid (owns_upd Hown13.out q13 (fun _ _ _ s => s))
            have ckn' := (Nw.below q13).cell (World.block_lt_of_cell? _ _ ckn) |>.trans ckn
            clear ckn
            have hkey := key_c ⟨kn.toArray⟩ kn (bs_list _) (by have := Hk3.out.2; omega) _ (g.upd u14)
            clear h13 u13 Hown13 q13
            go_wp2_with fail
            (with_reducible refine (hkey).mono ?_)
            rintro _ w15 ⟨rfl, q15⟩
            have h15 := h14.nw q15
            have u15 := Nw.trans u14 q15
            have hown15 := Lib.hid (owns_upd hown14.out q15 (fun _ _ _ s => s))
            clear h14 u14 hown14 ckn' q15
            dsimp only
            generalize (Cl.key kn).1 = own at *
            have hdk : Hid (∀ z : Bool, decide (own = key) = z → Cl.absentB K (n + 1) key = (false && !z)) := fun z hz => by rw [← hz]; exact Hts2.out
            clear Hts2
            by_cases hok : own = key
            · have hkb : (own == key) = true := beq_iff_eq.2 hok
              have Hdk := Lib.hid (hdk.out true (decide_eq_true hok))
              clear hdk hok
              go_wp2_with fail
              go_roundw
              case rel => exact ⟨n + 1, by omega, by go_num, by rw [Hdk.out]; rfl, ⟨r11, L3, hrb', h15, hL3b, hap'⟩, u15, hown15⟩
              case measure => simp [intOf]; omega
            · have hkb : (own == key) = false := beq_eq_false_iff_ne.2 hok
              have Hdk := Lib.hid (hdk.out false (decide_eq_false hok))
              clear hdk
              go_wp2_with fail
              go_roundw
              case rel => exact ⟨n + 1, by omega, by go_num, by rw [Hdk.out]; rfl, ⟨r11, L3, hrb', h15, hL3b, hap'⟩, u15, hown15⟩
              case measure => simp [intOf]; omega
theorem says_l (v : Value) (l : List (List UInt8)) (s : ByteArray) (w : World) (g : Gl w) (hv : Sl 0 w.heap.size w v (l.map strB)) (hl : ∀ s ∈ l, s.length ≤ maxLen) (hs : s.size ≤ maxLen) :
    Calls Tryd.prog 4 #[v, .string s] w fun e w' => e = .returned (.bool true) ∧ Nw w w' := by
  have h := says_c v l s.data.toList w g hv hl (by rw [← bs_size]; exact hs)
  rwa [bs_eta] at h
end Go.Proofs.YtjjdmmhlcdfplaaDoor
