/- The walk of the statement WireNests. -/
import Derived.Test.YtiaakidglmgmpaaDoorLawB
namespace Go.Proofs.YtiaakidglmgmpaaDoor
open Go.RowKit
set_option linter.unusedVariables false
set_option linter.unusedSimpArgs false
attribute [local irreducible] Calls

set_option maxHeartbeats 2000000 in
set_option maxRecDepth 100000 in
theorem wireNests_c (hi : Nat) (v : Value) (l : List Val) (w : World) (g : Gl w) (hh : hi ≤ w.heap.size) (hv : Vals hi w v l) :
    Calls Tryd.prog 6 #[v] w fun e w' => e = .returned (.bool true) ∧ Nw w w' := by
  obtain ⟨a, cap, rfl, hm, hI, ha⟩ := hv.open_
  unfold maxLen at hm
  have Ha := Lib.hid ha; clear ha
  have HI := Lib.hid hI; clear hI
  have g0 := g
  go_enter Tryd.func6, Tryd.ntmps6
  go_wp2_with fail
  (with_reducible refine (small_c _ g).mono ?_)
  rintro _ w1 ⟨rfl, u1⟩
  go_wp2_with fail
  (with_reducible refine (few_c _ _ _ _ (hv.nw u1)).mono ?_)
  rintro _ w2 ⟨bf, rfl, hfew, u2⟩
  replace u2 := u1.trans u2
  clear u1 g
  cases bf with
  | false =>
    clear hfew
    go_wp2_with fail
    go_ret
    exact ⟨rfl, u2⟩
  | true =>
  obtain ⟨h20, htot⟩ := hfew.1 rfl
  clear hfew
  have hok := okV_of_tot htot
  have Hok := Lib.hid hok; clear hok htot
  have hlen : ∀ x ∈ l, (enc1 x).length ≤ 20000 := fun x hx => enc1_len (Hok.out x hx) (HI.out x hx)
  have hts : tsum (l.map enc1) ≤ 400000 := by
    have h1 := flat_len enc1 (fun _ => 20000) l hlen
    rw [sum_const] at h1
    have h2 : tsum (l.map enc1) = (l.map enc1).flatten.length := by rw [List.length_flatten, tsum]
    omega
  have Hts := Lib.hid hts; clear hts hlen
  go_wp2_with fail
  go_loopw [4, 5] (fun ps i wr => ∃ k : Nat, k ≤ l.length ∧ i = .int .i64 k ∧ wr.ownsRow w.heap.size 9 1 ps k ((l.take k).map fun x => .string ⟨(enc1 x).toArray⟩) ∧ Nw w wr) (fun _ i _ => l.length - (intOf i).toNat)
  case atStart => exact ⟨0, Nat.zero_le _, rfl, World.ownsRow_nil _ _ _ _, u2⟩
  case round =>
    clear u2
    obtain ⟨k, hk, rfl, hown, u⟩ := hrel
    have gk := g0.upd u
    by_cases hlt : k < l.length
    · have Hs : Hid ((l.take (k + 1)).map (fun x => Value.string ⟨(enc1 x).toArray⟩) = (l.take k).map (fun x => Value.string ⟨(enc1 x).toArray⟩) ++ [Value.string ⟨(enc1 l[k]).toArray⟩]) := by
        show _ = _
        rw [List.take_succ_eq_append_getElem hlt, List.map_append]; rfl
      rcases Ha.out with hnil | ⟨b, off, rfl, hbh, hbl, hcell⟩
      · simp [hnil] at hlt
      · obtain ⟨vl, vt, hce, hcv⟩ := hcell k hlt
        have hb5 := u.size
        have c0 : wr.cell? ⟨b, off + k * 5, none⟩ = some (.int .i64 l[k].kind) := (u.below.cell hbl).trans (hce 0 (by omega))
        have c1 : wr.cell? ⟨b, off + k * 5 + 1, none⟩ = some (.int .i64 l[k].n) := (u.below.cell hbl).trans (hce 1 (by omega))
        have c2 : wr.cell? ⟨b, off + k * 5 + 2, none⟩ = some (.string ⟨l[k].s.toArray⟩) := (u.below.cell hbl).trans (hce 2 (by omega))
        have c3 : wr.cell? ⟨b, off + k * 5 + 3, none⟩ = some vl := (u.below.cell hbl).trans (hce 3 (by omega))
        have c4 : wr.cell? ⟨b, off + k * 5 + 4, none⟩ = some vt := (u.below.cell hbl).trans (hce 4 (by omega))
        have isv := hcv.nw u
        clear hce hcv hcell
        have hokx := Hok.out l[k] (List.getElem_mem hlt)
        generalize l[k] = x at *
        go_wp2_with fail
        (with_reducible refine (write_c hi _ _ _ vl vt x _ gk (Nat.le_trans hh u.size) hokx isv).mono ?_)
        rintro _ w3 ⟨rfl, u3⟩
        replace hown := owns_upd hown u3 (fun _ _ _ s => s)
        replace u := u.trans u3
        clear c0 c1 c2 c3 c4 u3
        have hz3 := u.size
        go_wp2_with (at_builtin; refine wpList_app rfl _ _ 23 rfl w.heap.size 9 _ 1 16 Tryd.underlying23 infoStr rfl (by decide) _ _ _ rfl hown [Value.string ⟨(enc1 x).toArray⟩] rfl rfl ?c1 ?c2 ?c3 hz3 ?_)
        case c1 => intro u hu; rw [List.mem_singleton.1 hu]; rfl
        case c2 => unfold maxLen; omega
        case c3 => omega
        intro v' w5 hown5 hnw hgr hob
        have u5 : Nw w w5 := (u.nw hnw).grown hgr (fun k hk => ⟨Or.inr (hob k hk).1, by have := (hob k hk).1; have := g0.big; omega⟩)
        clear hgr hnw hob u
        go_wp2_with fail
        go_roundw
        case rel => exact ⟨k + 1, by omega, by go_num, by rw [Hs.out]; first | exact hown5 | (rw [List.map_take]; exact hown5), u5⟩
        case measure => simp [intOf]; omega
    · have hall : l.take k = l := List.take_of_length_le (by omega)
      rw [hall] at hown
      have hsl := Sl.of_owns hown
      rw [show l.map (fun x => Value.string ⟨(enc1 x).toArray⟩) = (l.map enc1).map (fun s => Value.string ⟨s.toArray⟩) by rw [List.map_map]; rfl] at hsl
      clear hown hall
      obtain ⟨ts, htd⟩ : ∃ ts, l.map enc1 = ts := ⟨_, rfl⟩
      have hlts : ts.length = l.length := by rw [← htd, List.length_map]
      have hget : ∀ i (h : i < l.length), ts[i]? = some (enc1 l[i]) := fun i h => by subst htd; simp [h]
      have Hget := Lib.hid hget; clear hget
      rw [htd] at hsl
      have hts := Hts.out
      rw [htd] at hts
      have hT := textsE_len (t := ts) (by omega) (by omega)
      have hback := Wire.rTexts_back (l := ts) (r := []) (fun s hs => by have := mem_tsum hs; omega) (by omega)
      have hback2 := Wire.rText_back (s := Wire.textsE ts) (r := []) (by omega)
      rw [List.append_nil] at hback hback2
      have hTT := textE_len (s := Wire.textsE ts) (by omega)
      have hTs : (Wire.textsE ts).length ≤ 500000 := by omega
      have hTb : (Wire.textsE ts).length ≤ 140737488351232 := by omega
      have hTTb : (Wire.textE (Wire.textsE ts)).length ≤ 140737488351232 := by omega
      have Hback := Lib.hid hback; clear hback
      have Hback2 := Lib.hid hback2; clear hback2
      have Hlts := Lib.hid hlts; clear hlts
      clear hTT
      go_wp2_with fail
      (with_reducible refine (Texts_e _ _ _ ts _ gk hsl hTb).mono ?_)
      rintro _ w3 ⟨rfl, u3⟩
      replace u := u.trans u3
      have g3 := g0.upd u
      go_wp2_with fail
      (with_reducible refine (Text_e _ (Wire.textsE ts) (bs_list _) _ g3 hTb).mono ?_)
      rintro _ w4 ⟨rfl, u4⟩
      replace u := u.trans u4
      have g4 := g0.upd u
      go_wp2_with fail
      (with_reducible refine (Open_r _ (Wire.textE (Wire.textsE ts)) (bs_list _) _ g4).mono ?_)
      rintro _ w5 ⟨b1, rfl, hb1, h1, u5⟩
      have hb1w : w.heap.size ≤ b1 := Nat.le_trans u.size hb1
      replace u := u.trans u5
      have g5 := g0.upd u
      have hln : ((some (Wire.textE (Wire.textsE ts)) : Wire.St).getD []).length ≤ 140737488351232 := hTTb
      clear u3 u4 u5 g3 g4 hsl hb1
      go_wp2_with fail
      (with_reducible refine (Text_r b1 _ _ g5 h1 hln).mono ?_)
      rintro _ w6 ⟨rfl, h6, u6⟩
      rw [Hback2.out] at h6
      rw [Hback2.out]
      replace h6 : Rdr tR w6 b1 (some []) := h6
      replace u : Nw w w6 := u.trans' u6 (fun k hk e => by omega)
      have g6 := g0.upd u
      clear u6 g5 h1
      go_wp2_with fail
      (with_reducible refine (Open_r _ (Wire.textsE ts) (bs_list _) _ g6).mono ?_)
      rintro _ w7 ⟨b2, rfl, hb2, h2, u7⟩
      replace h6 := h6.nw u7
      have hb2w : w.heap.size ≤ b2 := Nat.le_trans u.size hb2
      replace u := u.trans u7
      have g7 := g0.upd u
      clear u7 g6 hb2
      go_wp2_with fail
      (with_reducible refine (Done_r b1 _ _ h6).mono ?_)
      rintro _ _ ⟨rfl, rfl⟩
      have hln2 : ((some (Wire.textsE ts) : Wire.St).getD []).length ≤ 1099511627776 := Nat.le_trans hTs (by decide)
      go_wp2_with fail
      (with_reducible refine (Texts_r b2 _ _ g7 h2 hln2).mono ?_)
      rintro _ w8 ⟨vg, rfl, og, h8, u8⟩
      rw [Hback.out] at og h8
      replace h8 : Rdr tR w8 b2 (some []) := h8
      replace og : w8.ownsRow _ 9 1 vg ts.length (ts.map (fun s => Value.string ⟨s.toArray⟩)) := og
      have sg := Sl.of_owns og
      clear og h6 h2 g7
      replace u : Nw w w8 := u.trans' u8 (fun k hk e => by omega)
      clear u8
      obtain ⟨ag, capg, rfl, hmg, hag⟩ := sg.open_
      rw [List.length_map, Hlts.out] at hmg ⊢
      rw [List.length_map] at hag
      unfold maxLen at hmg
      have Hag := Lib.hid hag; clear hag sg
      go_wp2_with fail
      (with_reducible refine (Done_r b2 _ _ h8).mono ?_)
      rintro _ _ ⟨rfl, rfl⟩
      clear h8
      go_wp2_with fail
      go_loopw [9] (fun i wr => ∃ k : Nat, k ≤ l.length ∧ i = .int .i64 k ∧ Nw w8 wr ∧ Nw w wr) (fun i _ => l.length - (intOf i).toNat)
      case atStart => exact ⟨0, Nat.zero_le _, rfl, Upd.refl _ _, u⟩
      case round =>
        have hu8 := u.size
        clear u
        rename_i i0 k0 wr0 hk0
        obtain ⟨k, hk, rfl, ug, u⟩ := hrel
        have gk := g0.upd u
        by_cases hlt : k < l.length
        · rcases Ha.out with hnil | ⟨b, off, rfl, hbh, hbl, hcell⟩
          · simp [hnil] at hlt
          · obtain ⟨vl, vt, hce, hcv⟩ := hcell k hlt
            have hb5 := u.size
            have c0 : wr.cell? ⟨b, off + k * 5, none⟩ = some (.int .i64 l[k].kind) := (u.below.cell hbl).trans (hce 0 (by omega))
            have c1 : wr.cell? ⟨b, off + k * 5 + 1, none⟩ = some (.int .i64 l[k].n) := (u.below.cell hbl).trans (hce 1 (by omega))
            have c2 : wr.cell? ⟨b, off + k * 5 + 2, none⟩ = some (.string ⟨l[k].s.toArray⟩) := (u.below.cell hbl).trans (hce 2 (by omega))
            have c3 : wr.cell? ⟨b, off + k * 5 + 3, none⟩ = some vl := (u.below.cell hbl).trans (hce 3 (by omega))
            have c4 : wr.cell? ⟨b, off + k * 5 + 4, none⟩ = some vt := (u.below.cell hbl).trans (hce 4 (by omega))
            have isv := hcv.nw u
            clear hce hcv hcell
            have heq := eq1_back (r := []) (Hok.out l[k] (List.getElem_mem hlt)) (HI.out l[k] (List.getElem_mem hlt))
            rw [List.append_nil] at heq
            have hex := enc1_len (Hok.out l[k] (List.getElem_mem hlt)) (HI.out l[k] (List.getElem_mem hlt))
            rcases Hag.out with ⟨_, _, hnil⟩ | ⟨bg, offg, rfl, _, _, hbgl, hcg⟩
            · exfalso
              have : ts.length = 0 := by have := congrArg List.length hnil; simpa using this
              have := Hlts.out; omega
            · have hkt : k < ts.length := by have := Hlts.out; omega
              have cg : wr.cell? ⟨bg, offg + k, none⟩ = some (.string ⟨(enc1 l[k]).toArray⟩) := by
                rw [ug.below.cell hbgl, hcg k hkt, List.getElem?_map, Hget.out k hlt]; rfl
              clear hcg
              generalize l[k] = x at *
              generalize enc1 x = st at *
              have Heq := Lib.hid heq; clear heq
              have hln3 : ((some st : Wire.St).getD []).length ≤ 1099511627776 := Nat.le_trans hex (by decide)
              go_wp2_with fail
              (with_reducible refine (Open_r _ st (bs_list _) _ gk).mono ?_)
              rintro _ w9 ⟨b3, rfl, hb3, h3, u9⟩
              have hb3w : w8.heap.size ≤ b3 := Nat.le_trans ug.size hb3
              have hib : hi ≤ b3 := by omega
              replace c0 := (u9.below.cell (Nat.lt_of_lt_of_le hbl hb5)).trans c0
              replace c1 := (u9.below.cell (Nat.lt_of_lt_of_le hbl hb5)).trans c1
              replace c2 := (u9.below.cell (Nat.lt_of_lt_of_le hbl hb5)).trans c2
              replace c3 := (u9.below.cell (Nat.lt_of_lt_of_le hbl hb5)).trans c3
              replace c4 := (u9.below.cell (Nat.lt_of_lt_of_le hbl hb5)).trans c4
              replace isv := isv.nw u9
              replace ug := ug.trans u9
              replace u := u.trans u9
              replace gk := gk.upd u9
              clear u9 cg
              go_wp2_with fail
              (with_reducible refine (equal_c hi b3 _ _ _ vl vt x (some st) _ gk hib h3 hln3 isv).mono ?_)
              rintro _ w10 ⟨rfl, h10, u10⟩
              rw [Heq.out] at h10
              rw [Heq.out]
              replace h10 : Rdr tR w10 b3 (some []) := h10
              replace ug : Nw w8 w10 := ug.trans' u10 (fun k hk e => by omega)
              replace u : Nw w w10 := u.trans' u10 (fun k hk e => by omega)
              clear c0 c1 c2 c3 c4 u10 h3
              go_wp2_with fail
              (with_reducible refine (Done_r b3 _ _ h10).mono ?_)
              rintro _ _ ⟨rfl, rfl⟩
              go_wp2_with fail
              go_roundw
              case rel => exact ⟨k + 1, by omega, by go_num, ug, u⟩
              case measure => simp [intOf]; omega
        · go_wp2_with fail
          go_ret
          exact ⟨rfl, u⟩
end Go.Proofs.YtiaakidglmgmpaaDoor
