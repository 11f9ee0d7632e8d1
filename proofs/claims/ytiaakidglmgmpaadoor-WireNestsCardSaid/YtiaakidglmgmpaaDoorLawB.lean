/- The walk of the statement WireBack. -/
import Derived.Test.YtiaakidglmgmpaaDoorLawK
namespace Go.Proofs.YtiaakidglmgmpaaDoor
open Go.RowKit
set_option linter.unusedVariables false
set_option linter.unusedSimpArgs false
attribute [local irreducible] Calls

def encs (l : List Val) : List UInt8 := (l.map enc1).flatten
theorem encs_succ (l : List Val) (k : Nat) (h : k < l.length) : encs (l.take (k + 1)) = encs (l.take k) ++ enc1 l[k] := by
  rw [List.take_succ_eq_append_getElem h]; simp only [encs, List.map_append, List.flatten_append, List.map_cons, List.map_nil, List.flatten_cons, List.flatten_nil, List.append_nil]
theorem encs_drop (l : List Val) (k : Nat) (h : k < l.length) : encs (l.drop k) = enc1 l[k] ++ encs (l.drop (k + 1)) := by
  rw [List.drop_eq_getElem_cons h]; simp only [encs, List.map_cons, List.flatten_cons]
theorem encs_len {l : List Val} (h : ∀ x ∈ l, OkV x ∧ I64V x) (hl : l.length ≤ 20) : (encs l).length ≤ 400000 := by
  have h1 := flat_len enc1 (fun _ => 20000) l (fun x hx => enc1_len (h x hx).1 (h x hx).2)
  rw [sum_const] at h1
  unfold encs; omega
theorem mem_tot {l : List Val} {x : Val} (h : x ∈ l) : x.size ≤ tot l := by
  induction l with
  | nil => cases h
  | cons y l ih =>
    simp only [tot, List.map_cons, List.sum_cons] at ih ⊢
    rcases List.mem_cons.1 h with rfl | h
    · omega
    · have := ih h; omega
theorem okV_of_tot {l : List Val} (h : tot l ≤ 400) : ∀ x ∈ l, OkV x := fun x hx => by
  have := mem_tot hx
  unfold Val.size at this
  exact ⟨by omega, by omega, by omega, by omega⟩
/-- The slice of values, opened. -/
theorem Vals.open_ {hi : Nat} {w : World} {v : Value} {l : List Val} (h : Vals hi w v l) :
    ∃ a cap, v = .slice a l.length cap ∧ l.length ≤ maxLen ∧ (∀ x ∈ l, I64V x) ∧ (l = [] ∨ ∃ b off, a = some ⟨b, off, none⟩ ∧ b < hi ∧ b < w.heap.size ∧
      ∀ k (h : k < l.length), ∃ vl vt, (∀ j, j < 5 → w.cell? ⟨b, off + k * 5 + j, none⟩ = [.int .i64 l[k].kind, .int .i64 l[k].n, .string ⟨l[k].s.toArray⟩, vl, vt][j]?) ∧
        IsVal hi w [.int .i64 l[k].kind, .int .i64 l[k].n, .string ⟨l[k].s.toArray⟩, vl, vt] l[k]) := by
  obtain ⟨xs, h1, h2, h3⟩ := h
  obtain ⟨a, cap, rfl, hm, ha⟩ := h1.open_
  have hI : ∀ x ∈ l, I64V x := fun x hx => by
    obtain ⟨i, hi', rfl⟩ := List.mem_iff_getElem.1 hx
    exact (h3 i (by omega) hi').i64
  refine ⟨a, cap, by rw [h2], by rw [h2]; exact hm, hI, ?_⟩
  rcases ha with rfl | ⟨b, off, rfl, _, hb1, hb2, hc⟩
  · left; exact List.eq_nil_of_length_eq_zero (by rw [h2]; rfl)
  · refine Or.inr ⟨b, off, rfl, hb1, hb2, fun k hk => ?_⟩
    have hx := h3 k (by omega) hk
    obtain ⟨hz, hcc⟩ := hc k (by omega)
    obtain ⟨vl, vt, he, hr⟩ := id hx
    refine ⟨vl, vt, fun j hj => by rw [hcc j hj, he], ⟨vl, vt, rfl, hr⟩⟩
set_option maxHeartbeats 2000000 in
set_option maxRecDepth 100000 in
theorem wireBack_c (hi : Nat) (v : Value) (l : List Val) (tail : ByteArray) (w : World) (g : Gl w) (hh : hi ≤ w.heap.size) (hv : Vals hi w v l) :
    Calls Tryd.prog 8 #[v, .string tail] w fun e w' => e = .returned (.bool true) ∧ Nw w w' := by
  obtain ⟨a, cap, rfl, hm, hI, ha⟩ := hv.open_
  obtain ⟨tl, htl⟩ : ∃ tl, tail.data.toList = tl := ⟨_, rfl⟩
  have htz : tail.size = tl.length := by rw [bs_size, htl]
  unfold maxLen at hm
  have Ha := Lib.hid ha; clear ha
  have HI := Lib.hid hI; clear hI
  have Ht := Lib.hid htl; clear htl
  have Hz := Lib.hid htz; clear htz
  have g0 := g
  go_enter Tryd.func8, Tryd.ntmps8
  go_wp2_with fail
  (with_reducible refine (small_c _ g).mono ?_)
  rintro _ w1 ⟨rfl, u1⟩
  go_wp2_with fail
  (with_reducible refine (few_c _ _ _ _ (hv.nw u1)).mono ?_)
  rintro _ w2 ⟨bf, rfl, hfew, u2⟩
  replace u2 := u1.trans u2
  clear u1 g
  cases bf with
  | false =>
    clear hfew
    go_wp2_with fail
    go_ret
    exact ⟨rfl, u2⟩
  | true =>
  obtain ⟨h20, htot⟩ := hfew.1 rfl
  clear hfew
  have hok := okV_of_tot htot
  have Hok := Lib.hid hok; clear hok htot
  have henc : ∀ x ∈ l, OkV x ∧ I64V x := fun x hx => ⟨Hok.out x hx, HI.out x hx⟩
  have hel : ∀ k, (encs (l.take k)).length ≤ 400000 := fun k => encs_len (fun x hx => henc x (List.mem_of_mem_take hx)) (by rw [List.length_take]; omega)
  have hed : ∀ k, (encs (l.drop k)).length ≤ 400000 := fun k => encs_len (fun x hx => henc x (List.mem_of_mem_drop hx)) (by rw [List.length_drop]; omega)
  have Hel := Lib.hid hel; clear hel
  have Hed := Lib.hid hed; clear hed henc
  by_cases hbig : tail.size > 400
  · go_wp2_with fail
    go_ret
    exact ⟨rfl, u2⟩
  go_wp2_with fail
  go_loopw [6, 7] (fun s i wr => ∃ (k : Nat) (sb : ByteArray), k ≤ l.length ∧ i = .int .i64 k ∧ s = .string sb ∧ sb.data.toList = encs (l.take k) ∧ Nw w wr) (fun _ i _ => l.length - (intOf i).toNat)
  case atStart => exact ⟨0, _, Nat.zero_le _, rfl, rfl, rfl, u2⟩
  case round =>
    clear u2
    obtain ⟨k, sb, hk, rfl, rfl, hsb, u⟩ := hrel
    have gk := g0.upd u
    have hk1 := Hel.out k
    rw [← hsb, ← bs_size] at hk1
    have Hsb := Lib.hid hsb; clear hsb
    by_cases hlt : k < l.length
    · have Hs := Lib.hid (encs_succ l k hlt)
      rcases Ha.out with hnil | ⟨b, off, rfl, hbh, hbl, hcell⟩
      · simp [hnil] at hlt
      · obtain ⟨vl, vt, hce, hcv⟩ := hcell k hlt
        have hb5 := u.size
        have c0 : wr.cell? ⟨b, off + k * 5, none⟩ = some (.int .i64 l[k].kind) := (u.below.cell hbl).trans (hce 0 (by omega))
        have c1 : wr.cell? ⟨b, off + k * 5 + 1, none⟩ = some (.int .i64 l[k].n) := (u.below.cell hbl).trans (hce 1 (by omega))
        have c2 : wr.cell? ⟨b, off + k * 5 + 2, none⟩ = some (.string ⟨l[k].s.toArray⟩) := (u.below.cell hbl).trans (hce 2 (by omega))
        have c3 : wr.cell? ⟨b, off + k * 5 + 3, none⟩ = some vl := (u.below.cell hbl).trans (hce 3 (by omega))
        have c4 : wr.cell? ⟨b, off + k * 5 + 4, none⟩ = some vt := (u.below.cell hbl).trans (hce 4 (by omega))
        have isv := hcv.nw u
        clear hce hcv hcell
        have hokx := Hok.out l[k] (List.getElem_mem hlt)
        have hk2 := enc1_len hokx (HI.out l[k] (List.getElem_mem hlt))
        generalize l[k] = x at *
        go_wp2_with fail
        (with_reducible refine (write_c hi _ _ _ vl vt x _ gk (Nat.le_trans hh u.size) hokx isv).mono ?_)
        rintro _ w3 ⟨rfl, u3⟩
        replace u := u.trans u3
        clear c0 c1 c2 c3 c4 u3
        have hze : (ByteArray.mk (enc1 x).toArray).size = (enc1 x).length := by rw [bs_size, bs_list]
        go_wp2_with fail
        go_roundw
        case rel => exact ⟨k + 1, _, by omega, by go_num, rfl, by rw [bs_append_list, bs_list, Hsb.out, Hs.out], u⟩
        case measure => simp [intOf]; omega
    · have hall : l.take k = l := List.take_of_length_le (by omega)
      have Hall := Lib.hid hall; clear hall
      have hst : (encs l ++ tl).length ≤ 500000 := by have := Hed.out 0; rw [List.drop_zero] at this; rw [List.length_append]; have := Hz.out; omega
      go_wp2_with fail
      (with_reducible refine (Open_r _ (encs l ++ tl) (by rw [bs_append_list, Hsb.out, Hall.out, Ht.out]) _ gk).mono ?_)
      rintro _ w3 ⟨b1, rfl, hb1, h1, u3⟩
      have hb1w : w.heap.size ≤ b1 := Nat.le_trans u.size hb1
      have hhb : hi ≤ b1 := Nat.le_trans hh hb1w
      replace u := u.trans u3
      clear u3 gk hb1
      go_wp2_with fail
      go_loopw [9] (fun i wr => ∃ k : Nat, k ≤ l.length ∧ i = .int .i64 k ∧ Rdr tR wr b1 (some (encs (l.drop k) ++ tl)) ∧ Nw w wr) (fun i _ => l.length - (intOf i).toNat)
      case atStart => exact ⟨0, Nat.zero_le _, rfl, by simpa using h1, u⟩
      case round =>
        clear u h1
        rename_i i0 k0 wr0 hk0
        obtain ⟨k, hk, rfl, h1, u⟩ := hrel
        have gk := g0.upd u
        by_cases hlt : k < l.length
        · have Hs := Lib.hid (encs_drop l k hlt)
          rcases Ha.out with hnil | ⟨b, off, rfl, hbh, hbl, hcell⟩
          · simp [hnil] at hlt
          · obtain ⟨vl, vt, hce, hcv⟩ := hcell k hlt
            have hb5 := u.size
            have c0 : wr.cell? ⟨b, off + k * 5, none⟩ = some (.int .i64 l[k].kind) := (u.below.cell hbl).trans (hce 0 (by omega))
            have c1 : wr.cell? ⟨b, off + k * 5 + 1, none⟩ = some (.int .i64 l[k].n) := (u.below.cell hbl).trans (hce 1 (by omega))
            have c2 : wr.cell? ⟨b, off + k * 5 + 2, none⟩ = some (.string ⟨l[k].s.toArray⟩) := (u.below.cell hbl).trans (hce 2 (by omega))
            have c3 : wr.cell? ⟨b, off + k * 5 + 3, none⟩ = some vl := (u.below.cell hbl).trans (hce 3 (by omega))
            have c4 : wr.cell? ⟨b, off + k * 5 + 4, none⟩ = some vt := (u.below.cell hbl).trans (hce 4 (by omega))
            have isv := hcv.nw u
            clear hce hcv hcell
            have heq := eq1_back (r := encs (l.drop (k + 1)) ++ tl) (Hok.out l[k] (List.getElem_mem hlt)) (HI.out l[k] (List.getElem_mem hlt))
            rw [← List.append_assoc, ← Hs.out] at heq
            have hln : (encs (l.drop k) ++ tl).length ≤ 1099511627776 := by have := Hed.out k; rw [List.length_append]; have := Hz.out; omega
            generalize l[k] = x at *
            generalize encs (l.drop k) ++ tl = st at *
            have Heq := Lib.hid heq; clear heq
            replace hln : ((some st : Wire.St).getD []).length ≤ 1099511627776 := hln
            go_wp2_with fail
            (with_reducible refine (equal_c hi b1 _ _ _ vl vt x (some st) _ gk hhb h1 hln isv).mono ?_)
            rintro _ w3 ⟨rfl, h3, u3⟩
            rw [Heq.out] at h3
            rw [Heq.out]
            replace u : Nw w w3 := u.trans' u3 (fun x hx e => by omega)
            clear c0 c1 c2 c3 c4 u3 h1
            go_wp2_with fail
            go_roundw
            case rel => exact ⟨k + 1, by omega, by go_num, h3, u⟩
            case measure => simp [intOf]; omega
        · have hall2 : l.drop k = [] := List.drop_of_length_le (by omega)
          rw [hall2] at h1
          replace h1 : Rdr tR wr b1 (some tl) := h1
          clear hall2
          go_wp2_with fail
          (with_reducible refine (Left_r tR b1 _ _ h1).mono ?_)
          rintro _ _ ⟨rfl, rfl⟩
          rw [show ((some tl : Wire.St).getD []).length = tail.size from Hz.out.symm]
          go_wp2_with fail
          (with_reducible refine (Done_r b1 _ _ h1).mono ?_)
          rintro _ _ ⟨rfl, rfl⟩
          have hdo : decide ((some tl : Wire.St) = some []) = tail.toList.isEmpty := by rw [bs_toList, Ht.out]; cases tl <;> rfl
          rw [hdo]
          clear hdo
          clear Hel Hed Hok Ha HI
          go_wp2_with fail
          (with_reducible refine (Rest_r b1 _ _ h1).mono ?_)
          rintro _ w4 ⟨rfl, h4, u4⟩
          rw [show ByteArray.mk ((some tl : Wire.St).getD []).toArray = tail from by rw [← Ht.out]; exact bs_eta tail]
          replace h4 : Rdr tR w4 b1 (some []) := h4
          replace u : Nw w w4 := u.trans' u4 (fun x hx e => by omega)
          go_wp2_with fail
          (with_reducible refine (Done_r b1 _ _ h4).mono ?_)
          rintro _ _ ⟨rfl, rfl⟩
          go_wp2_with fail
          (with_reducible refine (Left_r tR b1 _ _ h4).mono ?_)
          rintro _ _ ⟨rfl, rfl⟩
          go_wp2_with fail
          go_ret
          exact ⟨rfl, u⟩
end Go.Proofs.YtiaakidglmgmpaaDoor
