/- The walk of FetchFair. -/
import Derived.Test.YtagmlemlagbfkaaDoorPkFFair25
import Derived.Test.YtagmlemlagbfkaaDoorPkFFair26
import Derived.Test.YtagmlemlagbfkaaDoorPkFFair0
namespace Go.Proofs.YtagmlemlagbfkaaDoor
open Go.RowKit
set_option linter.unusedVariables false
set_option linter.unusedSimpArgs false
attribute [local irreducible] Calls

theorem take60 (s : ByteArray) : s.extract 0 (min (s.size : Int) 60).toNat = ⟨(s.data.toList.take 60).toArray⟩ := by
  rw [← bs_eta (s.extract 0 (min (s.size : Int) 60).toNat), bs_extract_list]
  congr 2
  have h := bs_size s
  rw [List.drop_zero, Nat.sub_zero]
  by_cases hc : s.size ≤ 60
  · rw [List.take_of_length_le (by omega), List.take_of_length_le (by omega)]
  · have : (min (s.size : Int) 60).toNat = 60 := by omega
    rw [this]
theorem plan_full_c (p z : Int) (cv : Value) (l : List Int) (a : Option Addr) (n cap lo hi : Nat) (w : World) (hc : Sl lo hi w cv (l.map intD)) (hn : 20 < n) (hn2 : n ≤ 1000000) :
    Calls Tryd.prog 7 #[.agg #[.int .i64 p, .int .i64 z, cv], .slice a n cap] w fun e w' => e = .returned (.tuple #[.slice none 0 0, .int .i64 6]) ∧ Nw w w' := by
  obtain ⟨ac, capc, rfl, -, -⟩ := int_cells hc
  have n1 := nw_alloc w (.cells #[.int .i64 p, .int .i64 z, .slice ac l.length capc] tManU)
  have d1 : decide ((20 : Int) < n) = true := decide_eq_true (by omega)
  have hn3 : (n : Int) ≤ 1000000 := by omega
  clear hc hn
  go_enter Tryd.func7, Tryd.ntmps7
  go_wp2_with fail
  (try simp only [Exit.inBlock, Exit.then])
  refine bodyPost_ret (plan_results _ _) rfl ?_
  exact ⟨rfl, n1⟩
abbrev tII : TypeId := 29
abbrev tI1 : TypeId := 24
theorem infoII : (Tryd.prog.info? tI1).map (fun i => (i.zero, i.size, i.bytes)) = some (some (.slice none 0 0), 1, 24) := by kernel_rfl
theorem rows_rep {w : World} {B k : Nat} {v kv : Value} {l : List Int} (o : w.ownsRow B tI1 1 v k (List.replicate k kv)) (h : ∃ lo hi, Sl lo hi w kv (l.map intD)) : RowsI w v (List.replicate k (kv, l)) := by
  refine ⟨⟨_, _, by rw [List.map_replicate]; exact Sl.of_owns o⟩, fun c hc => ?_⟩
  rw [(List.mem_replicate.1 hc).2]; exact h
theorem tot_rep (k : Nat) (kv : Value) (l : List Int) : totL (List.replicate k (kv, l)) = k * l.length := by
  unfold totL; rw [List.map_replicate]; simp
theorem own_some {w : World} {B n : Nat} {T : TypeId} {ao : Option Addr} {co : Nat} {xs : List Value} (o : w.ownsRow B T 1 (.slice ao n co) n xs) (hn : 0 < n) : ∃ g, ao = some ⟨g, 0, none⟩ := by
  rcases o.2 with ⟨h1, h2⟩ | ⟨g, cap, cur, h1, _⟩
  · omega
  · injection h1 with h1; exact ⟨g, h1⟩
theorem owns_emptyI (w : World) (e : TypeId) (sz : Nat) : (w.alloc (.cells #[] e)).ownsRow w.heap.size e sz (.slice (some ⟨w.heap.size, 0, none⟩) 0 0) 0 [] :=
  ⟨by simp, Or.inr ⟨w.heap.size, 0, #[], rfl, Nat.le_refl _, heap_new w _, Nat.le_refl _, Nat.zero_le _, by simp, by simp⟩⟩
theorem own_cellsD {w w' : World} (u : Nw w w') {B n : Nat} {T : TypeId} {g co : Nat} {xs : List Value} (o : w.ownsRow B T 1 (.slice (some ⟨g, 0, none⟩) n co) n xs) : ∀ j u, xs[j]? = some u → w'.cell? ((⟨g, 0, none⟩ : Addr).add j) = some u :=
  (owns_upd' o u (fun _ _ e => e)).cells (g := g) rfl
theorem count_take {P : List Int} {j : Nat} (h : j < P.length) (x : Int) : (P.take (j + 1)).count x = (P.take j).count x + if P[j] = x then 1 else 0 := by
  rw [List.take_succ_eq_append_getElem h, List.count_append, List.count_singleton]
  by_cases e : P[j] = x
  · rw [if_pos e, e]; simp
  · rw [if_neg e]
    have : (P[j] == x) = false := by simp [e]
    rw [this]; rfl
set_option maxHeartbeats 8000000 in
set_option maxRecDepth 100000 in
theorem fair_w (s : ByteArray) (hs : s.size ≤ 9223372036854775807) (z n : Nat) (hz : z < 256) (hn : n < 256) (w : World) (g : Gl w) :
    Calls Tryd.prog 3 #[.string s, .int .u8 z, .int .u8 n] w fun e w' => e = .returned (.bool true) ∧ Nw w w' := by
  have hgb := g.big
  have HSm := Lib.hid (small38_c w g)
  have hs1 : (s.size : Int) ≤ 9223372036854775807 := by omega
  have htl : (s.data.toList.take 60).length ≤ 60 := List.length_take_le _ _
  have HCut := Lib.hid (fun (y : World) (u : Nw w y) => cut_c (s.data.toList.take 60) htl z hz y (g.upd u))
  rw [← take60 s] at HCut
  have HC := Lib.hid (Ft.cut_ok (cs0 := [otherB]) (by decide) (by decide) (by decide) htl (n := z % 9) (by omega))
  have hz1 : (z : Int) ≤ 255 := by omega
  have hn1 : (n : Int) ≤ 255 := by omega
  clear htl
  go_enter Tryd.func3, Tryd.ntmps3
  go_wp2_with fail
  (with_reducible refine (HSm.out).mono ?_)
  rintro _ w1 ⟨rfl, u1⟩
  have hcut := Lib.hid (HCut.out w1 u1)
  clear HCut HSm
  go_wp2_with fail
  (with_reducible refine (hcut.out).mono ?_)
  rintro _ w2 ⟨v2, kv, rfl, hd⟩
  have hl60 := HC.out.chunks
  generalize (Ck.man [otherB] (s.data.toList.take 60) (z % 9)).print = mp at *
  generalize (Ck.man [otherB] (s.data.toList.take 60) (z % 9)).size = mz at *
  have hrow := hd.row
  have hnw2 := u1.trans hd.nw
  generalize (Ck.man [otherB] (s.data.toList.take 60) (z % 9)).chunks = l at *
  have hvv := own_slG hd.own
  generalize (Ck.conts [otherB] (s.data.toList.take 60) (z % 9)).length = nc at *
  obtain ⟨av, cv, rfl⟩ := hvv
  obtain ⟨ak, ck, rfl⟩ := own_slG hrow
  have N2 := Lib.hid hnw2
  have HRow := Lib.hid hrow
  have nb := nw_alloc w2 (.cells #[.int .i64 mp, .int .i64 mz, .slice ak l.length ck] tManU)
  have bb := heap_new w2 (.cells #[.int .i64 mp, .int .i64 mz, .slice ak l.length ck] tManU)
  have HB := Lib.hid (fun (y : World) (u : Nw (w2.alloc (.cells #[.int .i64 mp, .int .i64 mz, .slice ak l.length ck] tManU)) y) => (show y.cell? ⟨w2.heap.size, 0, none⟩ = some (.int .i64 mp) ∧ y.cell? ⟨w2.heap.size, 1, none⟩ = some (.int .i64 mz) ∧ y.cell? ⟨w2.heap.size, 2, none⟩ = some (.slice ak l.length ck) from ⟨by rw [cells_cell (Nw.keep u bb)]; rfl, by rw [cells_cell (Nw.keep u bb)]; rfl, by rw [cells_cell (Nw.keep u bb)]; rfl⟩))
  have NB := Lib.hid nb
  have hzz : w2.heap.size < (w2.alloc (.cells #[.int .i64 mp, .int .i64 mz, .slice ak l.length ck] tManU)).heap.size := lt_of_block bb
  have HZ := Lib.hid hzz
  obtain ⟨k, hk⟩ : ∃ k : Nat, 1 + (n : Int) % 20 = k := ⟨1 + n % 20, by omega⟩
  have hk0 : 1 ≤ k := by omega
  have hk20 : k ≤ 20 := by omega
  have hk1 : (1 : Int) ≤ k := by omega
  have hk2 : (k : Int) ≤ 20 := by omega
  have hl1 : (l.length : Int) ≤ 60 := by omega
  clear hd hrow hnw2 nb bb hcut HC hzz u1
  go_wp2_with fail
  go_loopw [12, 13] (fun vo iv wr => ∃ i : Nat, i ≤ k ∧ iv = .int .i64 (i : Int) ∧ Hid (wr.ownsRow (w2.heap.size + 1) tI1 1 vo i (List.replicate i (.slice ak l.length ck))) ∧ Hid (Nw (w2.alloc (.cells #[.int .i64 mp, .int .i64 mz, .slice ak l.length ck] tManU)) wr)) (fun vo iv _ => k - (intOf iv).toNat)
  case atStart => exact ⟨0, Nat.zero_le _, rfl, World.ownsRow_nil _ _ _ _, Upd.refl _ _⟩
  case round =>
    obtain ⟨i, hi, rfl, HO, U⟩ := hrel
    obtain ⟨ao, co, rfl⟩ := own_slG HO.out
    by_cases hlt : i < k
    · have hlt1 : (i : Int) < k := by omega
      obtain ⟨c0, c1, c2⟩ := HB.out wr U.out
      have hz1 : w2.heap.size + 1 ≤ wr.heap.size := by have := U.out.size; have := HZ.out; omega
      go_wp2_with (at_builtin; refine wpList_appL rfl _ _ tII rfl (w2.heap.size + 1) tI1 _ 1 24 Tryd.underlying29 infoII rfl (by decide) _ _ _ rfl HO.out [.slice ak l.length ck] rfl rfl ?c1 ?c2 ?c3 hz1 ?c4 ?_)
      case c1 => intro u hu; rw [List.mem_singleton.1 hu]; rfl
      case c2 => unfold maxLen; omega
      case c3 => omega
      case c4 => have := N2.out.size; omega
      intro v' w9 o9 u9 hob
      obtain ⟨a9, c9, rfl⟩ := own_slG o9
      have hfin : Hid (w9.ownsRow (w2.heap.size + 1) tI1 1 (.slice a9 (i + 1) c9) (i + 1) (List.replicate (i + 1) (.slice ak l.length ck))) := by
        show w9.ownsRow _ _ _ _ _ _
        rw [List.replicate_succ']
        exact o9
      have hU := Lib.hid (U.out.trans' u9 (fun j hj e => by have := (HO.out.lt j e).1; simp at hj; omega))
      clear o9 u9 hob c0 c1 c2
      go_wp2_with fail
      go_roundw
      case rel => exact ⟨i + 1, by omega, by go_num, hfin, hU⟩
      case measure => simp [intOf]; omega
    · obtain rfl : i = k := by omega
      obtain ⟨c0, c1, c2⟩ := HB.out wr U.out
      have NR := N2.out.trans (NB.out.trans U.out)
      have hsl := Sl.of_owns (owns_upd' HRow.out (NB.out.trans U.out) (fun _ _ e => e))
      have HP := Lib.hid (plan_c _ _ mp mz _ l _ (List.replicate i (.slice ak l.length ck, l)) wr (g.upd NR) hsl (by omega) (rows_rep HO.out ⟨_, _, hsl⟩) (by simp; omega) (by rw [tot_rep]; have := Nat.mul_le_mul hk20 hl60; omega) (fun c hc => by rw [(List.mem_replicate.1 hc).2]; show l.length ≤ _; omega))
      have HP2 : Hid (Calls Tryd.prog 7 #[.agg #[.int .i64 mp, .int .i64 mz, .slice ak l.length ck], .slice ao i co] wr (PlanD wr l ((List.replicate i (Value.slice ak l.length ck, l)).map (·.2)))) := HP.out
      have HSl := Lib.hid hsl
      have HNR := Lib.hid NR
      clear HP hsl NR
      go_wp2_with fail
      (with_reducible refine (HP2.out).mono ?_)
      rintro _ w5 ⟨v5, rfl, o5, u5⟩
      obtain ⟨e1, e2, q, he⟩ := Ft.even_plan (chunks := l) (k := i) hk0 hk20 (by omega)
      rw [List.map_replicate, e1] at o5 ⊢
      dsimp only at o5 ⊢
      rw [e2] at o5
      have HEv := Lib.hid he
      have HLn := Lib.hid e2
      clear he e1 e2
      generalize Ft.runP (List.replicate i l) l = R at *
      obtain ⟨a5, c5, rfl⟩ := own_slG o5
      have HO5 := Lib.hid o5
      have hz5 : wr.heap.size ≤ w5.heap.size := u5.size
      have U5 := Lib.hid (U.out.trans u5)
      have HO5h := Lib.hid (owns_upd' HO.out u5 (fun _ _ e => e))
      have HPF := Lib.hid (fun (y : World) (a : Option Addr) (cap : Nat) (u : Nw w5 y) => plan_full_c mp mz _ l a (i + (21 - i)) cap _ _ y (HSl.out.nw (u5.trans u)) (by omega) (by omega))
      have HS := Lib.hid (fun (y : World) (u : Nw w5 y) => HB.out y (U5.out.trans u))
      obtain ⟨c0, c1, c2⟩ := HB.out w5 U5.out
      have HN5 := Lib.hid (HNR.out.trans u5)
      have hg5 : nG ≤ w5.heap.size := by have := HN5.out.size; omega
      clear u5 o5 HP2 HO
      go_wp2_with fail
      obtain ⟨gh, rfl⟩ := own_some HO5h.out (by omega)
      have nE := (nw_alloc w5 (.cells #[] tI1)).drew
      have HE : Hid ((w5.alloc (.cells #[] tI1)).drew.ownsRow w5.heap.size tI1 1 (.slice (some ⟨w5.heap.size, 0, none⟩) 0 0) 0 []) := owns_upd' (owns_emptyI w5 tI1 1) (Upd.refl (fun _ => False) _).drew (fun _ _ e => e)
      have HCl := Lib.hid (own_cellsD nE HO5h.out)
      have NE := Lib.hid nE
      have hik : (List.replicate i (Value.slice ak l.length ck)).length = i := List.length_replicate
      have Hik := Lib.hid hik
      have HOne : Hid (∀ u ∈ List.replicate i (Value.slice ak l.length ck), u.oneCell' = true) := fun u hu => by rw [(List.mem_replicate.1 hu).2]; rfl
      have hEz : Hid (w5.heap.size ≤ (w5.alloc (.cells #[] tI1)).drew.heap.size) := nE.size
      have hcov : 0 + i + (21 - i) = 21 := by omega
      have HCov := Lib.hid hcov
      generalize List.replicate i (Value.slice ak l.length ck) = RK at *
      have hwr : IntKind.i64.wrap (21 - (i : Int)) = ((21 - i : Nat) : Int) := by rw [IntKind.wrap_i64]; omega
      have HA1 : Hid (0 < i ∧ 0 + i ≤ maxLen ∧ (0 + i) * 24 ≤ 140737488355328 ∧ 0 < 21 - i ∧ 0 + i + (21 - i) ≤ 1000000 ∧ (0 + i + (21 - i)) * 24 ≤ 140737488355328) := ⟨by omega, by unfold maxLen; omega, by omega, by omega, by omega, by omega⟩
      clear hcov nE hik
      go_region_held_law (fun y => y.cell? ⟨w2.heap.size, 0, none⟩ = some (.int .i64 mp) ∧ y.cell? ⟨w2.heap.size, 1, none⟩ = some (.int .i64 mz) ∧ y.cell? ⟨w2.heap.size, 2, none⟩ = some (.slice ak l.length ck)) (with_reducible first | exact ⟨c0, c1, c2⟩ | exact HS.out _ ub.out | exact HS.out _ ua.out | exact HS.out _ NE.out | exact HS.out _ uc.out | exact HS.out _ (by repeat (first | exact Upd.refl _ _ | assumption | refine Upd.drew ?_ | refine Upd.alloc ?_ _))) (first
        | (refine step_catC rfl _ _ tII rfl tI1 _ 1 24 Tryd.underlying29 infoII rfl (by decide) w5.heap.size hEz.out hg5 _ 0 [] rfl HE.out ⟨gh, 0, none⟩ i co RK rfl (by rw [Hik.out, Nat.mul_one]) HCl.out HOne.out HA1.out.1 HA1.out.2.1 HA1.out.2.2.1 ?_; intro ga ca wa oa ua0 _; have ua : Hid (Nw w5 wa) := NE.out.trans' ua0 (fun j hj e => by have := (HE.out.lt j e).1; omega); have hza := ua.out.size)
        | (refine step_zeros rfl _ _ tII 3 rfl tI1 _ 24 .i64 Tryd.underlying29 Tryd.underlying3 infoII rfl rfl w5.heap.size hza hg5 _ (0 + i) _ rfl oa (21 - i) rfl HA1.out.2.2.2.1 HA1.out.2.2.2.2.1 HA1.out.2.2.2.2.2 ?_; intro gb cb wb ob ub0; have ub : Hid (Nw w5 wb) := ua.out.trans' ub0 (fun j hj e => by have := (oa.lt j e).1; omega))
        | (go_at_call 7; (with_reducible refine (HPF.out wb _ _ ub.out).mono ?_); rintro _ wc ⟨rfl, uc0⟩; have uc : Hid (Nw w5 wc) := ub.out.trans uc0))
      obtain ⟨c0', c1', c2'⟩ := HS.out wc uc.out
      have UC := Lib.hid uc.out
      clear hwr HPF HSl c0 c1 c2 ub ua uc0
      have hl2 : (l.length == l.length) = true := by simp
      have hl3 : (l.length != l.length) = false := by simp
      have HO6 := Lib.hid (owns_upd' HO5.out uc.out (fun _ _ e => e))
      have HP6 := Lib.hid (int_cells (Sl.of_owns HO6.out))
      have HN6 := Lib.hid (HN5.out.trans uc.out)
      clear uc
      go_wp2_with fail
      have hq0 := HEv.out.q0
      have hql := Ft.even_len HEv.out (by omega)
      rw [HLn.out] at hql
      have hP := HP6.out
      obtain ⟨a', cap', hv', -, hcP⟩ := hP
      injection hv' with hv1 hv2 hv3
      subst hv1 hv3
      have HcP := Lib.hid hcP
      have HEnd := Lib.hid (fun (m : Nat) (hm : m < i) => Ft.even_end HEv.out hm)
      clear hcP hv2 HP6 HO5 HO5h HS U5 c0' c1' c2' HB
      go_loopw [18, 19, 20] (fun lv mv iv wr => ∃ (m : Nat) (least most : Int), m ≤ i ∧ iv = .int .i64 (m : Int) ∧ lv = .int .i64 least ∧ mv = .int .i64 most ∧ q ≤ least ∧ least ≤ 60 ∧ 0 ≤ most ∧ most ≤ q + 1 ∧ wc = wr) (fun lv mv iv _ => i - (intOf iv).toNat)
      case atStart => exact ⟨0, l.length, 0, Nat.zero_le _, rfl, rfl, rfl, hql, by omega, by omega, by omega, rfl⟩
      case round =>
        obtain ⟨m, least, most, hm, rfl, rfl, rfl, hb1, hb2, hb3, hb4, rfl⟩ := hrel
        by_cases hmk : m < i
        · have hmk1 : (m : Int) < i := by omega
          go_wp2_with fail
          go_loopw [21, 22] (fun cv jv wr => ∃ j : Nat, j ≤ l.length ∧ jv = .int .i64 (j : Int) ∧ cv = .int .i64 (((R.2.take j).count (m : Int) : Nat) : Int) ∧ (R.2.take j).count (m : Int) ≤ j ∧ wc = wr) (fun cv jv _ => l.length - (intOf jv).toNat)
          case atStart => exact ⟨0, Nat.zero_le _, rfl, by simp, by simp, rfl⟩
          case round =>
            obtain ⟨j, hj, rfl, rfl, hcj, rfl⟩ := hrel
            by_cases hjl : j < l.length
            · have hjl1 : (j : Int) < l.length := by omega
              have hjP : j < R.2.length := by rw [HLn.out]; exact hjl
              rcases HcP.out with hnil | ⟨b, off, rfl, _, _, hcell⟩
              · rw [hnil] at hjP; simp at hjP
              have c0 := hcell j hjP
              have hct := count_take hjP (m : Int)
              have Hct := Lib.hid hct
              have hcj1 : (((R.2.take j).count (m : Int) : Nat) : Int) ≤ 60 := by omega
              clear hcell hct
              generalize (R.2.take j).count (m : Int) = cj at *
              generalize R.2[j] = x at *
              by_cases hx : x = (m : Int)
              · have e1 : (x == (m : Int)) = true := by simp [hx]
                have Hx := Lib.hid hx
                clear hx
                go_wp2_with fail
                go_roundw
                case rel => exact ⟨j + 1, by omega, by go_num, by rw [Hct.out, if_pos Hx.out]; go_num, by rw [Hct.out, if_pos Hx.out]; omega, by first | rfl | trivial⟩
                case measure => simp [intOf]; omega
              · have e1 : (x == (m : Int)) = false := by simp [hx]
                have Hx := Lib.hid hx
                clear hx
                go_wp2_with fail
                go_roundw
                case rel => exact ⟨j + 1, by omega, by go_num, by rw [Hct.out, if_neg Hx.out]; go_num, by rw [Hct.out, if_neg Hx.out]; omega, by first | rfl | trivial⟩
                case measure => simp [intOf]; omega
            · obtain rfl : j = l.length := by omega
              obtain ⟨ev1, ev2⟩ := HEnd.out m hmk
              have ht : R.2.take l.length = R.2 := List.take_of_length_le (by rw [HLn.out]; exact Nat.le_refl _)
              rw [ht] at hcj ⊢
              generalize R.2.count (m : Int) = cj at *
              have hcj1 : ((cj : Nat) : Int) ≤ 60 := by omega
              go_wp2_with fail
              go_roundw
              case rel => exact ⟨m + 1, _, _, by omega, by go_num, rfl, rfl, by omega, by omega, by omega, by omega, by first | rfl | trivial⟩
              case measure => simp [intOf]; omega
        · obtain rfl : m = i := by omega
          have dfin : decide (most - least ≤ 1) = true := decide_eq_true (by omega)
          have hq60 : q ≤ 60 := by omega
          go_wp2_with fail
          go_ret
          exact ⟨rfl, HN6.out⟩
theorem u8_of_wfF {m : Int} (h : (Lit.int .u8 m).wf = true) : 0 ≤ m ∧ m ≤ 255 := by
  have := h
  simp [Lit.wf, IntKind.min, IntKind.max, IntKind.signed, IntKind.bits] at this
  omega
theorem fair_i (s : ByteArray) (hs : s.size ≤ maxLen) (z n : Int) (hz : 0 ≤ z ∧ z ≤ 255) (hn : 0 ≤ n ∧ n ≤ 255) (w : World) (g : Gl w) :
    Calls Tryd.prog 3 #[.string s, .int .u8 z, .int .u8 n] w fun e w' => e = .returned (.bool true) ∧ Nw w w' := by
  obtain ⟨z', rfl⟩ : ∃ k : Nat, z = k := ⟨z.toNat, by omega⟩
  obtain ⟨n', rfl⟩ : ∃ k : Nat, n = k := ⟨n.toNat, by omega⟩
  exact fair_w s hs z' n' (by omega) (by omega) w g
end Go.Proofs.YtagmlemlagbfkaaDoor
