/- The contract of signed: what the statements of layer 8 let a ring sign. -/
import Derived.Test.YtidmehiboceobaaDoorView6
namespace Go.Proofs.YtidmehiboceobaaDoor
open Go.RowKit
set_option linter.unusedVariables false
set_option linter.unusedSimpArgs false
attribute [local irreducible] Calls

/-- Behind k of them: the ring, and what has been signed. -/
def Sgd (B : Nat) (w : World) (r : RingR) (Lr : List Bk.Seal) (l : List Vw.Say) (k : Nat) (vo : Value) (z : World) : Prop :=
  ∃ r', RingAt B z r' (Vw.signedL Lr (l.take k)).1 ∧ r'.rb = r.rb ∧ z.ownsRow w.heap.size tSigned 3 vo k (flatS (Vw.signedL Lr (l.take k)).2) ∧ Upd r.foot w z ∧ ∀ j, r'.foot j → r.foot j ∨ w.heap.size ≤ j
def SignedPost (B : Nat) (r : RingR) (Lr : List Bk.Seal) (l : List Vw.Say) (w : World) (e : Ending) (w' : World) : Prop := ∃ vo, e = .returned vo ∧ Sgd B w r Lr l l.length vo w'
theorem ring_row {B B' : Nat} {w : World} {r : RingR} {Lr : List Bk.Seal} {v : Value} {n : Nat} {xs : List Value} (h : RingAt B w r Lr) (ho : w.ownsRow B' tSigned 3 v n xs) : ∀ k, v.ownBlock = some k → ¬ r.foot k := by
  rintro k hk (rfl | rfl | e)
  · obtain ⟨_, cs, e1⟩ := own_block ho hk
    rw [h.blk] at e1
    injection e1 with e1
    injection e1 with _ e1
    exact absurd e1 (by decide)
  · obtain ⟨_, cs, e1⟩ := own_block ho hk
    obtain ⟨es, clock, e2, _⟩ := h.map
    rw [e1] at e2
    cases e2
  · obtain ⟨_, cs, e1⟩ := own_block ho hk
    obtain ⟨_, cs', e2⟩ := own_block h.own e
    rw [e1] at e2
    injection e2 with e2
    injection e2 with _ e2
    exact absurd e2 (by decide)
theorem own_sl {B sz : Nat} {e : TypeId} {w : World} {v : Value} {n : Nat} {xs : List Value} (h : w.ownsRow B e sz v n xs) : ∃ a cap, v = .slice a n cap := by
  rcases h.2 with ⟨h1, h2⟩ | ⟨g, cap, cur, h1, _⟩
  · exact ⟨none, 0, by rw [h1, h2]⟩
  · exact ⟨_, _, h1⟩
set_option maxHeartbeats 4000000 in
set_option maxRecDepth 100000 in
theorem signed_w (B lo hi : Nat) (r : RingR) (Lr : List Bk.Seal) (v : Value) (l : List Vw.Say) (w : World) (g : Gl w) (hr : RingAt B w r Lr) (hv : SlS 7 lo hi w v (l.map sayL)) (hhi : hi ≤ B) (ho : ∀ x ∈ l, SayOk x) (h300 : ∀ x ∈ l, x.raw.length ≤ 300) (hl : l.length ≤ 20) (hLr : Lr.length ≤ 900) :
    Calls Tryd.prog 9 #[.pointer (some ⟨r.rb, 0, none⟩), v] w (SignedPost B r Lr l w) := by
  have hgb := g.big
  have hrl : ∀ j, r.foot j → j < w.heap.size := fun j hj => (hr.foot_lt hj).2
  have hrB : ∀ j, r.foot j → B ≤ j := fun j hj => (hr.foot_lt hj).1
  have hBw : B ≤ w.heap.size := by have h1 := hr.rb; have h2 := lt_of_block hr.blk; omega
  have hnd := hr.nd
  obtain ⟨a, cap, rfl, hm, ha⟩ := say_cells hv
  unfold maxLen at hm
  have Ha := Lib.hid ha; clear ha hv
  have Ho := Lib.hid ho; clear ho
  have H300 := Lib.hid h300; clear h300
  have hst : Sgd B w r Lr l 0 (.slice none 0 0) w := ⟨r, hr, rfl, World.ownsRow_nil _ _ _ _, Upd.refl _ _, fun j hj => Or.inl hj⟩
  have Hst := Lib.hid hst; clear hst hr
  have HF : Hid (∀ k, k ≤ l.length → (Vw.signedL Lr (l.take k)).1.length ≤ 1000 ∧ (Vw.signedL Lr (l.take k)).2.length = k) := fun k hk => by
    have := Vw.signed_facts (Lr := Lr) hnd (l := l.take k) (by rw [List.length_take]; omega) (fun x hx => words_len (Ho.out x (List.mem_of_mem_take hx)) (H300.out x (List.mem_of_mem_take hx)))
    rw [List.length_take] at this
    exact ⟨by omega, by rw [this.2.2.1]; omega⟩
  have HLr := Lib.hid hLr
  clear hLr
  go_enter Tryd.func9, Tryd.ntmps9
  go_wp2_with fail
  go_loopw [5, 6] (fun vo i wr => ∃ k : Nat, k ≤ l.length ∧ i = .int .i64 k ∧ Sgd B w r Lr l k vo wr) (fun vo i _ => l.length - (intOf i).toNat)
  case atStart => exact ⟨0, Nat.zero_le _, rfl, Hst.out⟩
  case round =>
    obtain ⟨k, hk, rfl, r', hr', hrb, hown, u, hf⟩ := hrel
    by_cases hlt : k < l.length
    · rcases Ha.out with hnil | ⟨b, o, rfl, hbhi, hb, hc⟩
      · simp [hnil] at hlt
      have hnb : ¬ r.foot b := fun e => by have := hrB b e; omega
      have hcell : ∀ z j, Upd r.foot w z → z.cell? ⟨b, j, none⟩ = w.cell? ⟨b, j, none⟩ := fun z j u => World.cell?_of_block (u.block b hb (Or.inr hnb))
      obtain ⟨p0, p1, p2, p3, p4, p5, p6⟩ := hc k hlt
      have hs := Vw.signed_take Lr l k hlt
      unfold Vw.signStep at hs
      obtain ⟨hLk, hOk⟩ := HF.out k hk
      have hxo := Ho.out l[k] (List.getElem_mem hlt)
      have hx3 := H300.out l[k] (List.getElem_mem hlt)
      have hwl := words_len hxo hx3
      clear hc
      generalize Vw.signedL Lr (l.take k) = st at *
      obtain ⟨Lk, Ok⟩ := st
      generalize l[k] = x at *
      dsimp only at hr' hown hs hLk hOk
      have hsg := Vw.sign_sgn Lk x.key (Vw.words x)
      have g' := g.upd u
      have hBr : B ≤ wr.heap.size := Nat.le_trans hBw u.size
      have hwf := fun (z : World) (uz : Nw wr z) => words_w x hxo z (g'.upd uz)
      have hsf := fun (z : World) (uz : Nw wr z) => sign_s B r' Lk x.key (Vw.words x) z (g'.upd uz) (hr'.nw uz) hxo.k (by omega) (by omega) (by have := uz.size; omega)
      unfold SignPost at hsf
      generalize hW : Vw.words x = wd at *
      have htf := fun (z : World) (gz : Gl z) => turned_w (Bk.sign Lk x.key wd).1 x.odd z gz ⟨hsg.1, by omega⟩ ⟨hsg.2.2.1, by omega⟩ (by omega)
      generalize Bk.sign Lk x.key wd = sg at *
      obtain ⟨⟨sk, stx, sm⟩, L2⟩ := sg
      dsimp only at htf
      generalize Vw.turned ⟨sk, stx, sm⟩ x.odd = tg at *
      obtain ⟨tk, tt, tm⟩ := tg
      have SF : Hid (∀ z, Nw wr z → Calls Tryd.prog 27 #[.pointer (some ⟨r.rb, 0, none⟩), .int .i64 x.key, .string ⟨wd.toArray⟩] z fun e w2 => ∃ r2, e = .returned (.agg #[.int .i64 sk, .string ⟨stx.toArray⟩, .int .i64 sm]) ∧ RingAt B w2 r2 L2 ∧ r2.rb = r'.rb ∧ Upd r'.foot wr w2 ∧ ∀ j, r2.foot j → r'.foot j ∨ wr.heap.size ≤ j) := fun z uz => by
        rw [← hrb]
        exact (hsf z uz).mono fun e w2 ⟨r2, h1, h2, h3, h4, h5⟩ => ⟨r2, h1, h2, h3, Nw.trans uz h4, fun j hj => (h5 j hj).imp id (fun e => by have := uz.size; omega)⟩
      have TF : Hid (∀ z, Gl z → Calls Tryd.prog 30 #[.agg #[.int .i64 sk, .string ⟨stx.toArray⟩, .int .i64 sm], .int .i64 x.odd] z fun e w' => e = .returned (.agg #[.int .i64 tk, .string ⟨tt.toArray⟩, .int .i64 tm]) ∧ Nw z w') := htf
      have WF : Hid (∀ z, Nw wr z → Calls Tryd.prog 31 #[.agg #[.int .i64 x.key, .int .i64 x.c.kind, .int .i64 x.c.n, .int .i64 x.c.time, .string ⟨x.c.text.toArray⟩, .string ⟨x.raw.toArray⟩, .int .i64 x.odd]] z fun e w' => e = .returned (.string ⟨wd.toArray⟩) ∧ Nw wr w') := fun z uz => (hwf z uz).mono fun e w1 ⟨he, hu⟩ => ⟨he, uz.trans hu⟩
      obtain ⟨av, cv, rfl⟩ := own_sl hown
      have hrow := ring_row hr' hown
      have hT2 : ∀ k', (Value.slice av k cv).ownBlock = some k' → w.heap.size ≤ k' := fun k' e => (own_block hown e).1
      have HT := Lib.hid (fun z (uz : Upd (fun j => r'.foot j ∨ (Value.slice av k cv).ownBlock = some j) wr z) => show Upd r.foot w z from u.trans' uz (fun j hj e => e.elim (fun e => (hf j e).elim id (fun e2 => by omega)) (fun e => by have := hT2 j e; omega)))
      have HS : Hid (∀ z, Upd (fun j => r'.foot j ∨ (Value.slice av k cv).ownBlock = some j) wr z → z.cell? ⟨b, o + k * 7, none⟩ = some (.int .i64 x.key) ∧ z.cell? ⟨b, o + k * 7 + 1, none⟩ = some (.int .i64 x.c.kind) ∧ z.cell? ⟨b, o + k * 7 + 2, none⟩ = some (.int .i64 x.c.n) ∧ z.cell? ⟨b, o + k * 7 + 3, none⟩ = some (.int .i64 x.c.time) ∧ z.cell? ⟨b, o + k * 7 + 4, none⟩ = some (.string ⟨x.c.text.toArray⟩) ∧ z.cell? ⟨b, o + k * 7 + 5, none⟩ = some (.string ⟨x.raw.toArray⟩) ∧ z.cell? ⟨b, o + k * 7 + 6, none⟩ = some (.int .i64 x.odd)) := fun z uz => by
        have uu := HT.out z uz
        exact ⟨(hcell z _ uu).trans p0, (hcell z _ uu).trans p1, (hcell z _ uu).trans p2, (hcell z _ uu).trans p3, (hcell z _ uu).trans p4, (hcell z _ uu).trans p5, (hcell z _ uu).trans p6⟩
      have Hown := Lib.hid hown
      have Hrow := Lib.hid hrow
      have Hr' := Lib.hid hr'
      have Hs := Lib.hid hs
      have Hf := Lib.hid hf
      clear hwf hsf htf hsg hcell p0 p1 p2 p3 p4 p5 p6 hown hrow hr' hs hf hxo hx3 hwl hW hLk hOk
      go_wp2_with fail
      go_region_held_law (fun z => z.cell? ⟨b, o + k * 7, none⟩ = some (.int .i64 x.key) ∧ z.cell? ⟨b, o + k * 7 + 1, none⟩ = some (.int .i64 x.c.kind) ∧ z.cell? ⟨b, o + k * 7 + 2, none⟩ = some (.int .i64 x.c.n) ∧ z.cell? ⟨b, o + k * 7 + 3, none⟩ = some (.int .i64 x.c.time) ∧ z.cell? ⟨b, o + k * 7 + 4, none⟩ = some (.string ⟨x.c.text.toArray⟩) ∧ z.cell? ⟨b, o + k * 7 + 5, none⟩ = some (.string ⟨x.raw.toArray⟩) ∧ z.cell? ⟨b, o + k * 7 + 6, none⟩ = some (.int .i64 x.odd)) (first | exact HS.out _ (by repeat (first | exact Upd.refl _ _ | assumption | refine Upd.drew ?_ | refine Upd.alloc ?_ _))) (first | (go_at_call 31; (with_reducible refine (WF.out _ (by first | exact (Upd.refl _ _).drew)).mono ?_); rintro _ w1 ⟨rfl, u1⟩; have t1 : Upd (fun j => r'.foot j ∨ (Value.slice av k cv).ownBlock = some j) wr w1 := Nw.upd _ u1) | (go_at_call 27; (with_reducible refine (SF.out _ u1).mono ?_); rintro _ w2 ⟨r2, rfl, hr2, hrb2, u2, hf2⟩; have t2 : Upd (fun j => r'.foot j ∨ (Value.slice av k cv).ownBlock = some j) wr w2 := u2.mono (fun _ _ e => Or.inl e)) | (go_at_call 30; (with_reducible refine (TF.out _ (g'.upd u2)).mono ?_); rintro _ w3 ⟨rfl, u3⟩; have t3 : Upd (fun j => r'.foot j ∨ (Value.slice av k cv).ownBlock = some j) wr w3 := t2.nw u3) | (refine step_appU rfl _ _ 29 rfl w.heap.size tSigned _ 3 32 Tryd.underlying29 infoSgn rfl (by decide) (.slice av k cv) k (flatS Ok) rfl wr r'.foot Hown.out (Upd.alloc (Upd.nw u2 u3) _) Hrow.out _ (sgl ⟨tk, tt, tm⟩) rfl (heap_at (by simp)) rfl (sgl_one ⟨tk, tt, tm⟩) (by unfold maxLen; omega) (by omega) u.size hgb ?_; intro gs cs ws hownS uS oS; have tS : Upd (fun j => r'.foot j ∨ (Value.slice av k cv).ownBlock = some j) wr ws := Upd.trans' (Upd.alloc t3 _) uS (fun _ _ e => Or.inr e)))
      go_wp2_with fail
      go_roundw
      case rel =>
        refine ⟨k + 1, by omega, by go_num, r2, ?_, hrb2.trans hrb, ?_, HT.out _ tS, fun j hj => ?_⟩
        · have hs := Hs.out
          rw [hs]
          refine RingAt.upd (((hr2.nw u3).nw (nw_alloc _ _))) uS (fun j hj e => ?_)
          exact ring_row hr2 (owns_upd' Hown.out u2 Hrow.out) j e hj
        · have hs := Hs.out
          rw [hs]
          dsimp only
          rw [flatS_snoc]
          exact hownS
        · have hus := u.size
          rcases hf2 j hj with e | e
          · exact Hf.out j e
          · exact Or.inr (by omega)
      case measure => simp [intOf]; omega
    · obtain rfl : k = l.length := by omega
      have Hfin : Hid (Sgd B w r Lr l l.length u5 wr) := ⟨r', hr', hrb, hown, u, hf⟩
      go_wp2_with fail
      go_ret
      exact ⟨_, rfl, Hfin.out⟩
end Go.Proofs.YtidmehiboceobaaDoor
