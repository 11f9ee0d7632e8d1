/- The contracts of the limits of Says (10, 20, 30), and of signed of layer 34. -/
import Derived.Test.YtpceoogmkbcfmaaGreatDoorView7
namespace Go.Proofs.YtpceoogmkbcfmaaGreatDoor
open Go.RowKit
set_option linter.unusedVariables false
set_option linter.unusedSimpArgs false
attribute [local irreducible] Calls

def FewPn (n : Nat) (l : List Vw.Say) (w : World) (e : Ending) (w' : World) : Prop := ∃ b, e = .returned (.bool b) ∧ (b = true → l.length ≤ n ∧ ∀ x ∈ l, x.raw.length ≤ 300 ∧ x.c.text.length ≤ 300) ∧ Nw w w'
set_option maxHeartbeats 2000000 in
set_option maxRecDepth 100000 in
theorem few10_w (lo hi : Nat) (v : Value) (l : List Vw.Say) (w : World) (hv : SlS 7 lo hi w v (l.map sayL)) (ho : ∀ o ∈ l, SayOk o) :
    Calls Tryz.prog 9 #[v, .int .i64 10] w (FewPn 10 l w) := by
  obtain ⟨a, cap, rfl, hm, ha⟩ := say_cells hv
  unfold maxLen at hm
  have Ha := Lib.hid ha; clear ha
  have Ho := Lib.hid ho; clear ho
  go_enter Tryz.func9, Tryz.ntmps9
  go_wp2_with fail
  go_loopw [5] (fun i wr => ∃ k : Nat, k ≤ l.length ∧ k ≤ 11 ∧ i = .int .i64 k ∧ Hid (∀ j (h : j < l.length), j < k → l[j].raw.length ≤ 300 ∧ l[j].c.text.length ≤ 300) ∧ Nw w wr) (fun i _ => l.length - (intOf i).toNat)
  case atStart => exact ⟨0, Nat.zero_le _, Nat.zero_le _, rfl, (fun j _ h => by omega), Upd.refl _ _⟩
  case round =>
    obtain ⟨k, hk, hk26, rfl, hall, u⟩ := hrel
    by_cases hlt : k < l.length
    · by_cases h26 : k < 11
      · rcases Ha.out with hnil | ⟨b, off, rfl, _, hbl, hcell⟩
        · simp [hnil] at hlt
        · have c4 := ((Nw.below u).cell (p := ⟨b, off + k * 7 + 4, none⟩) hbl).trans (hcell k hlt).2.2.2.2.1
          have c5 := ((Nw.below u).cell (p := ⟨b, off + k * 7 + 5, none⟩) hbl).trans (hcell k hlt).2.2.2.2.2.1
          have hok1 := (Ho.out l[k] (List.getElem_mem hlt)).r
          have hok2 := (Ho.out l[k] (List.getElem_mem hlt)).c.z
          have hnext : (l[k].raw.length ≤ 300 ∧ l[k].c.text.length ≤ 300) → Hid (∀ j (h : j < l.length), j < k + 1 → l[j].raw.length ≤ 300 ∧ l[j].c.text.length ≤ 300) := fun h100 j h hj => by
            by_cases e : j = k
            · subst e; exact h100
            · exact hall.out j h (by omega)
          clear hcell
          generalize l[k] = x at *
          by_cases hx : x.raw.length ≤ 300
          · by_cases hx2 : x.c.text.length ≤ 300
            · have hn := hnext ⟨hx, hx2⟩
              clear hnext
              go_wp2_with fail
              go_roundw
              case rel => exact ⟨k + 1, by omega, by omega, by go_num, hn, u⟩
              case measure => simp [intOf]; omega
            · clear hnext
              go_wp2_with fail
              go_ret
              exact ⟨false, rfl, (fun h => by cases h), u⟩
          · clear hnext
            go_wp2_with fail
            go_ret
            exact ⟨false, rfl, (fun h => by cases h), u⟩
      · have hk2 : k = 11 := by omega
        subst hk2
        have hb : Hid (¬ l.length ≤ 10) := by show ¬ _; omega
        go_wp2_with fail
        go_ret
        refine ⟨_, rfl, fun h => ?_, u⟩
        simp at h
        have := hb.out
        omega
    · have hfin : Hid (∀ o ∈ l, o.raw.length ≤ 300 ∧ o.c.text.length ≤ 300) := fun o hoo => by
        obtain ⟨j, hj, rfl⟩ := List.mem_iff_getElem.1 hoo
        exact hall.out j hj (by omega)
      clear hall
      by_cases h26 : k < 11
      all_goals go_wp2_with fail
      all_goals go_ret
      all_goals exact ⟨_, rfl, fun h => ⟨by simp at h; omega, hfin.out⟩, u⟩
set_option maxHeartbeats 2000000 in
set_option maxRecDepth 100000 in
theorem few20A_w (lo hi : Nat) (v : Value) (l : List Vw.Say) (w : World) (hv : SlS 7 lo hi w v (l.map sayL)) (ho : ∀ o ∈ l, SayOk o) :
    Calls Tryz.prog 9 #[v, .int .i64 20] w (FewPn 20 l w) := by
  obtain ⟨a, cap, rfl, hm, ha⟩ := say_cells hv
  unfold maxLen at hm
  have Ha := Lib.hid ha; clear ha
  have Ho := Lib.hid ho; clear ho
  go_enter Tryz.func9, Tryz.ntmps9
  go_wp2_with fail
  go_loopw [5] (fun i wr => ∃ k : Nat, k ≤ l.length ∧ k ≤ 21 ∧ i = .int .i64 k ∧ Hid (∀ j (h : j < l.length), j < k → l[j].raw.length ≤ 300 ∧ l[j].c.text.length ≤ 300) ∧ Nw w wr) (fun i _ => l.length - (intOf i).toNat)
  case atStart => exact ⟨0, Nat.zero_le _, Nat.zero_le _, rfl, (fun j _ h => by omega), Upd.refl _ _⟩
  case round =>
    obtain ⟨k, hk, hk26, rfl, hall, u⟩ := hrel
    by_cases hlt : k < l.length
    · by_cases h26 : k < 21
      · rcases Ha.out with hnil | ⟨b, off, rfl, _, hbl, hcell⟩
        · simp [hnil] at hlt
        · have c4 := ((Nw.below u).cell (p := ⟨b, off + k * 7 + 4, none⟩) hbl).trans (hcell k hlt).2.2.2.2.1
          have c5 := ((Nw.below u).cell (p := ⟨b, off + k * 7 + 5, none⟩) hbl).trans (hcell k hlt).2.2.2.2.2.1
          have hok1 := (Ho.out l[k] (List.getElem_mem hlt)).r
          have hok2 := (Ho.out l[k] (List.getElem_mem hlt)).c.z
          have hnext : (l[k].raw.length ≤ 300 ∧ l[k].c.text.length ≤ 300) → Hid (∀ j (h : j < l.length), j < k + 1 → l[j].raw.length ≤ 300 ∧ l[j].c.text.length ≤ 300) := fun h100 j h hj => by
            by_cases e : j = k
            · subst e; exact h100
            · exact hall.out j h (by omega)
          clear hcell
          generalize l[k] = x at *
          by_cases hx : x.raw.length ≤ 300
          · by_cases hx2 : x.c.text.length ≤ 300
            · have hn := hnext ⟨hx, hx2⟩
              clear hnext
              go_wp2_with fail
              go_roundw
              case rel => exact ⟨k + 1, by omega, by omega, by go_num, hn, u⟩
              case measure => simp [intOf]; omega
            · clear hnext
              go_wp2_with fail
              go_ret
              exact ⟨false, rfl, (fun h => by cases h), u⟩
          · clear hnext
            go_wp2_with fail
            go_ret
            exact ⟨false, rfl, (fun h => by cases h), u⟩
      · have hk2 : k = 21 := by omega
        subst hk2
        have hb : Hid (¬ l.length ≤ 20) := by show ¬ _; omega
        go_wp2_with fail
        go_ret
        refine ⟨_, rfl, fun h => ?_, u⟩
        simp at h
        have := hb.out
        omega
    · have hfin : Hid (∀ o ∈ l, o.raw.length ≤ 300 ∧ o.c.text.length ≤ 300) := fun o hoo => by
        obtain ⟨j, hj, rfl⟩ := List.mem_iff_getElem.1 hoo
        exact hall.out j hj (by omega)
      clear hall
      by_cases h26 : k < 21
      all_goals go_wp2_with fail
      all_goals go_ret
      all_goals exact ⟨_, rfl, fun h => ⟨by simp at h; omega, hfin.out⟩, u⟩
set_option maxHeartbeats 2000000 in
set_option maxRecDepth 100000 in
theorem few30_w (lo hi : Nat) (v : Value) (l : List Vw.Say) (w : World) (hv : SlS 7 lo hi w v (l.map sayL)) (ho : ∀ o ∈ l, SayOk o) :
    Calls Tryz.prog 9 #[v, .int .i64 30] w (FewPn 30 l w) := by
  obtain ⟨a, cap, rfl, hm, ha⟩ := say_cells hv
  unfold maxLen at hm
  have Ha := Lib.hid ha; clear ha
  have Ho := Lib.hid ho; clear ho
  go_enter Tryz.func9, Tryz.ntmps9
  go_wp2_with fail
  go_loopw [5] (fun i wr => ∃ k : Nat, k ≤ l.length ∧ k ≤ 31 ∧ i = .int .i64 k ∧ Hid (∀ j (h : j < l.length), j < k → l[j].raw.length ≤ 300 ∧ l[j].c.text.length ≤ 300) ∧ Nw w wr) (fun i _ => l.length - (intOf i).toNat)
  case atStart => exact ⟨0, Nat.zero_le _, Nat.zero_le _, rfl, (fun j _ h => by omega), Upd.refl _ _⟩
  case round =>
    obtain ⟨k, hk, hk26, rfl, hall, u⟩ := hrel
    by_cases hlt : k < l.length
    · by_cases h26 : k < 31
      · rcases Ha.out with hnil | ⟨b, off, rfl, _, hbl, hcell⟩
        · simp [hnil] at hlt
        · have c4 := ((Nw.below u).cell (p := ⟨b, off + k * 7 + 4, none⟩) hbl).trans (hcell k hlt).2.2.2.2.1
          have c5 := ((Nw.below u).cell (p := ⟨b, off + k * 7 + 5, none⟩) hbl).trans (hcell k hlt).2.2.2.2.2.1
          have hok1 := (Ho.out l[k] (List.getElem_mem hlt)).r
          have hok2 := (Ho.out l[k] (List.getElem_mem hlt)).c.z
          have hnext : (l[k].raw.length ≤ 300 ∧ l[k].c.text.length ≤ 300) → Hid (∀ j (h : j < l.length), j < k + 1 → l[j].raw.length ≤ 300 ∧ l[j].c.text.length ≤ 300) := fun h100 j h hj => by
            by_cases e : j = k
            · subst e; exact h100
            · exact hall.out j h (by omega)
          clear hcell
          generalize l[k] = x at *
          by_cases hx : x.raw.length ≤ 300
          · by_cases hx2 : x.c.text.length ≤ 300
            · have hn := hnext ⟨hx, hx2⟩
              clear hnext
              go_wp2_with fail
              go_roundw
              case rel => exact ⟨k + 1, by omega, by omega, by go_num, hn, u⟩
              case measure => simp [intOf]; omega
            · clear hnext
              go_wp2_with fail
              go_ret
              exact ⟨false, rfl, (fun h => by cases h), u⟩
          · clear hnext
            go_wp2_with fail
            go_ret
            exact ⟨false, rfl, (fun h => by cases h), u⟩
      · have hk2 : k = 31 := by omega
        subst hk2
        have hb : Hid (¬ l.length ≤ 30) := by show ¬ _; omega
        go_wp2_with fail
        go_ret
        refine ⟨_, rfl, fun h => ?_, u⟩
        simp at h
        have := hb.out
        omega
    · have hfin : Hid (∀ o ∈ l, o.raw.length ≤ 300 ∧ o.c.text.length ≤ 300) := fun o hoo => by
        obtain ⟨j, hj, rfl⟩ := List.mem_iff_getElem.1 hoo
        exact hall.out j hj (by omega)
      clear hall
      by_cases h26 : k < 31
      all_goals go_wp2_with fail
      all_goals go_ret
      all_goals exact ⟨_, rfl, fun h => ⟨by simp at h; omega, hfin.out⟩, u⟩
set_option maxHeartbeats 4000000 in
set_option maxRecDepth 100000 in
theorem signedA_w (B lo hi : Nat) (r : RingR) (Lr : List Bk.Seal) (v : Value) (l : List Vw.Say) (w : World) (g : Gl w) (hr : RingAt B w r Lr) (hv : SlS 7 lo hi w v (l.map sayL)) (hhi : hi ≤ B) (ho : ∀ x ∈ l, SayOk x) (h300 : ∀ x ∈ l, x.raw.length ≤ 300) (hl : l.length ≤ 30) (hLr : Lr.length ≤ 900) :
    Calls Tryz.prog 12 #[.pointer (some ⟨r.rb, 0, none⟩), v] w (SignedPost B r Lr l w) := by
  have hgb := g.big
  have hrl : ∀ j, r.foot j → j < w.heap.size := fun j hj => (hr.foot_lt hj).2
  have hrB : ∀ j, r.foot j → B ≤ j := fun j hj => (hr.foot_lt hj).1
  have hBw : B ≤ w.heap.size := by have h1 := hr.rb; have h2 := lt_of_block hr.blk; omega
  have hnd := hr.nd
  obtain ⟨a, cap, rfl, hm, ha⟩ := say_cells hv
  unfold maxLen at hm
  have Ha := Lib.hid ha; clear ha hv
  have Ho := Lib.hid ho; clear ho
  have H300 := Lib.hid h300; clear h300
  have hst : Sgd B w r Lr l 0 (.slice none 0 0) w := ⟨r, hr, rfl, World.ownsRow_nil _ _ _ _, Upd.refl _ _, fun j hj => Or.inl hj⟩
  have Hst := Lib.hid hst; clear hst hr
  have HF : Hid (∀ k, k ≤ l.length → (Vw.signedL Lr (l.take k)).1.length ≤ 1000 ∧ (Vw.signedL Lr (l.take k)).2.length = k) := fun k hk => by
    have := Vw.signed_facts (Lr := Lr) hnd (l := l.take k) (by rw [List.length_take]; omega) (fun x hx => words_len (Ho.out x (List.mem_of_mem_take hx)) (H300.out x (List.mem_of_mem_take hx)))
    rw [List.length_take] at this
    exact ⟨by omega, by rw [this.2.2.1]; omega⟩
  have HLr := Lib.hid hLr
  clear hLr
  go_enter Tryz.func12, Tryz.ntmps12
  go_wp2_with fail
  go_loopw [5, 6] (fun vo i wr => ∃ k : Nat, k ≤ l.length ∧ i = .int .i64 k ∧ Sgd B w r Lr l k vo wr) (fun vo i _ => l.length - (intOf i).toNat)
  case atStart => exact ⟨0, Nat.zero_le _, rfl, Hst.out⟩
  case round =>
    obtain ⟨k, hk, rfl, r', hr', hrb, hown, u, hf⟩ := hrel
    by_cases hlt : k < l.length
    · rcases Ha.out with hnil | ⟨b, o, rfl, hbhi, hb, hc⟩
      · simp [hnil] at hlt
      have hnb : ¬ r.foot b := fun e => by have := hrB b e; omega
      have hcell : ∀ z j, Upd r.foot w z → z.cell? ⟨b, j, none⟩ = w.cell? ⟨b, j, none⟩ := fun z j u => World.cell?_of_block (u.block b hb (Or.inr hnb))
      obtain ⟨p0, p1, p2, p3, p4, p5, p6⟩ := hc k hlt
      have hs := Vw.signed_take Lr l k hlt
      unfold Vw.signStep at hs
      obtain ⟨hLk, hOk⟩ := HF.out k hk
      have hxo := Ho.out l[k] (List.getElem_mem hlt)
      have hx3 := H300.out l[k] (List.getElem_mem hlt)
      have hwl := words_len hxo hx3
      clear hc
      generalize Vw.signedL Lr (l.take k) = st at *
      obtain ⟨Lk, Ok⟩ := st
      generalize l[k] = x at *
      dsimp only at hr' hown hs hLk hOk
      have hsg := Vw.sign_sgn Lk x.key (Vw.words x)
      have g' := g.upd u
      have hBr : B ≤ wr.heap.size := Nat.le_trans hBw u.size
      have hwf := fun (z : World) (uz : Nw wr z) => words_w x hxo z (g'.upd uz)
      have hsf := fun (z : World) (uz : Nw wr z) => sign_s B r' Lk x.key (Vw.words x) z (g'.upd uz) (hr'.nw uz) hxo.k (by omega) (by omega) (by have := uz.size; omega)
      unfold SignPost at hsf
      generalize hW : Vw.words x = wd at *
      have htf := fun (z : World) (gz : Gl z) => turned_w (Bk.sign Lk x.key wd).1 x.odd z gz ⟨hsg.1, by omega⟩ ⟨hsg.2.2.1, by omega⟩ (by omega)
      generalize Bk.sign Lk x.key wd = sg at *
      obtain ⟨⟨sk, stx, sm⟩, L2⟩ := sg
      dsimp only at htf
      generalize Vw.turned ⟨sk, stx, sm⟩ x.odd = tg at *
      obtain ⟨tk, tt, tm⟩ := tg
      have SF : Hid (∀ z, Nw wr z → Calls Tryz.prog 33 #[.pointer (some ⟨r.rb, 0, none⟩), .int .i64 x.key, .string ⟨wd.toArray⟩] z fun e w2 => ∃ r2, e = .returned (.agg #[.int .i64 sk, .string ⟨stx.toArray⟩, .int .i64 sm]) ∧ RingAt B w2 r2 L2 ∧ r2.rb = r'.rb ∧ Upd r'.foot wr w2 ∧ ∀ j, r2.foot j → r'.foot j ∨ wr.heap.size ≤ j) := fun z uz => by
        rw [← hrb]
        exact (hsf z uz).mono fun e w2 ⟨r2, h1, h2, h3, h4, h5⟩ => ⟨r2, h1, h2, h3, Nw.trans uz h4, fun j hj => (h5 j hj).imp id (fun e => by have := uz.size; omega)⟩
      have TF : Hid (∀ z, Gl z → Calls Tryz.prog 32 #[.agg #[.int .i64 sk, .string ⟨stx.toArray⟩, .int .i64 sm], .int .i64 x.odd] z fun e w' => e = .returned (.agg #[.int .i64 tk, .string ⟨tt.toArray⟩, .int .i64 tm]) ∧ Nw z w') := htf
      have WF : Hid (∀ z, Nw wr z → Calls Tryz.prog 22 #[.agg #[.int .i64 x.key, .int .i64 x.c.kind, .int .i64 x.c.n, .int .i64 x.c.time, .string ⟨x.c.text.toArray⟩, .string ⟨x.raw.toArray⟩, .int .i64 x.odd]] z fun e w' => e = .returned (.string ⟨wd.toArray⟩) ∧ Nw wr w') := fun z uz => (hwf z uz).mono fun e w1 ⟨he, hu⟩ => ⟨he, uz.trans hu⟩
      obtain ⟨av, cv, rfl⟩ := own_sl hown
      have hrow := ring_row hr' hown
      have hT2 : ∀ k', (Value.slice av k cv).ownBlock = some k' → w.heap.size ≤ k' := fun k' e => (own_block hown e).1
      have HT := Lib.hid (fun z (uz : Upd (fun j => r'.foot j ∨ (Value.slice av k cv).ownBlock = some j) wr z) => show Upd r.foot w z from u.trans' uz (fun j hj e => e.elim (fun e => (hf j e).elim id (fun e2 => by omega)) (fun e => by have := hT2 j e; omega)))
      have HS : Hid (∀ z, Upd (fun j => r'.foot j ∨ (Value.slice av k cv).ownBlock = some j) wr z → z.cell? ⟨b, o + k * 7, none⟩ = some (.int .i64 x.key) ∧ z.cell? ⟨b, o + k * 7 + 1, none⟩ = some (.int .i64 x.c.kind) ∧ z.cell? ⟨b, o + k * 7 + 2, none⟩ = some (.int .i64 x.c.n) ∧ z.cell? ⟨b, o + k * 7 + 3, none⟩ = some (.int .i64 x.c.time) ∧ z.cell? ⟨b, o + k * 7 + 4, none⟩ = some (.string ⟨x.c.text.toArray⟩) ∧ z.cell? ⟨b, o + k * 7 + 5, none⟩ = some (.string ⟨x.raw.toArray⟩) ∧ z.cell? ⟨b, o + k * 7 + 6, none⟩ = some (.int .i64 x.odd)) := fun z uz => by
        have uu := HT.out z uz
        exact ⟨(hcell z _ uu).trans p0, (hcell z _ uu).trans p1, (hcell z _ uu).trans p2, (hcell z _ uu).trans p3, (hcell z _ uu).trans p4, (hcell z _ uu).trans p5, (hcell z _ uu).trans p6⟩
      have Hown := Lib.hid hown
      have Hrow := Lib.hid hrow
      have Hr' := Lib.hid hr'
      have Hs := Lib.hid hs
      have Hf := Lib.hid hf
      clear hwf hsf htf hsg hcell p0 p1 p2 p3 p4 p5 p6 hown hrow hr' hs hf hxo hx3 hwl hW hLk hOk
      go_wp2_with fail
      go_region_held_law (fun z => z.cell? ⟨b, o + k * 7, none⟩ = some (.int .i64 x.key) ∧ z.cell? ⟨b, o + k * 7 + 1, none⟩ = some (.int .i64 x.c.kind) ∧ z.cell? ⟨b, o + k * 7 + 2, none⟩ = some (.int .i64 x.c.n) ∧ z.cell? ⟨b, o + k * 7 + 3, none⟩ = some (.int .i64 x.c.time) ∧ z.cell? ⟨b, o + k * 7 + 4, none⟩ = some (.string ⟨x.c.text.toArray⟩) ∧ z.cell? ⟨b, o + k * 7 + 5, none⟩ = some (.string ⟨x.raw.toArray⟩) ∧ z.cell? ⟨b, o + k * 7 + 6, none⟩ = some (.int .i64 x.odd)) (first | exact HS.out _ (by repeat (first | exact Upd.refl _ _ | assumption | refine Upd.drew ?_ | refine Upd.alloc ?_ _))) (first | (go_at_call 22; (with_reducible refine (WF.out _ (by first | exact (Upd.refl _ _).drew)).mono ?_); rintro _ w1 ⟨rfl, u1⟩; have t1 : Upd (fun j => r'.foot j ∨ (Value.slice av k cv).ownBlock = some j) wr w1 := Nw.upd _ u1) | (go_at_call 33; (with_reducible refine (SF.out _ u1).mono ?_); rintro _ w2 ⟨r2, rfl, hr2, hrb2, u2, hf2⟩; have t2 : Upd (fun j => r'.foot j ∨ (Value.slice av k cv).ownBlock = some j) wr w2 := u2.mono (fun _ _ e => Or.inl e)) | (go_at_call 32; (with_reducible refine (TF.out _ (g'.upd u2)).mono ?_); rintro _ w3 ⟨rfl, u3⟩; have t3 : Upd (fun j => r'.foot j ∨ (Value.slice av k cv).ownBlock = some j) wr w3 := t2.nw u3) | (refine step_appU rfl _ _ 29 rfl w.heap.size tSigned _ 3 32 Tryz.underlying29 infoSgn rfl (by decide) (.slice av k cv) k (flatS Ok) rfl wr r'.foot Hown.out (Upd.alloc (Upd.nw u2 u3) _) Hrow.out _ (sgl ⟨tk, tt, tm⟩) rfl (heap_at (by simp)) rfl (sgl_one ⟨tk, tt, tm⟩) (by unfold maxLen; omega) (by omega) u.size hgb ?_; intro gs cs ws hownS uS oS; have tS : Upd (fun j => r'.foot j ∨ (Value.slice av k cv).ownBlock = some j) wr ws := Upd.trans' (Upd.alloc t3 _) uS (fun _ _ e => Or.inr e)))
      go_wp2_with fail
      go_roundw
      case rel =>
        refine ⟨k + 1, by omega, by go_num, r2, ?_, hrb2.trans hrb, ?_, HT.out _ tS, fun j hj => ?_⟩
        · have hs := Hs.out
          rw [hs]
          refine RingAt.upd (((hr2.nw u3).nw (nw_alloc _ _))) uS (fun j hj e => ?_)
          exact ring_row hr2 (owns_upd' Hown.out u2 Hrow.out) j e hj
        · have hs := Hs.out
          rw [hs]
          dsimp only
          rw [flatS_snoc]
          exact hownS
        · have hus := u.size
          rcases hf2 j hj with e | e
          · exact Hf.out j e
          · exact Or.inr (by omega)
      case measure => simp [intOf]; omega
    · obtain rfl : k = l.length := by omega
      have Hfin : Hid (Sgd B w r Lr l l.length u5 wr) := ⟨r', hr', hrb, hown, u, hf⟩
      go_wp2_with fail
      go_ret
      exact ⟨_, rfl, Hfin.out⟩
end Go.Proofs.YtpceoogmkbcfmaaGreatDoor
