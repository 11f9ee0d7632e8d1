/- The reference's disk (layer 2): settle, comes, Write, Sync, Truncate. -/
import Derived.Test.YtiambnllidingaaGreatDoorRDk3
import Derived.Test.YtiambnllidingaaGreatDoorDsk6
namespace Go.Proofs.YtiambnllidingaaGreatDoor
open Go.RowKit
set_option linter.unusedVariables false
set_option linter.unusedSimpArgs false
attribute [local irreducible] Calls

/-- What comes does: a call is counted, and the scheduled crash happens. -/
def comesD (D : Dk.Disk) (f i : Int) (s : List UInt8) : Dk.Disk := if Dk.ends D = true then Dk.crash (Dk.write0 (Dk.counted D) f i s).1 D.keep else Dk.counted D
theorem comesD_come (D : Dk.Disk) : comesD D 0 0 [] = Dk.come D := by
  unfold comesD Dk.come
  split
  · rename_i he
    have hw : (Dk.write0 (Dk.counted D) 0 0 []).1 = Dk.counted D := by
      unfold Dk.write0
      split
      · rfl
      · split
        · rfl
        · rfl
    rw [hw]
  · rfl
/-- What lies before and after a part of a call. -/
structure RCame (B : Nat) (w : World) (r : RdR) (D D1 : Dk.Disk) (w1 : World) (r1 : RdR) : Prop where
  at0 : RDAt B w r D
  at1 : RDAt B w1 r1 D1
  rb : r1.rb = r.rb
  upd : Upd r.foot w w1
  foot : ∀ j, r1.foot j → r.foot j ∨ w.heap.size ≤ j
section
variable {B : Nat} {w w1 w2 : World} {r r1 : RdR} {D D' D1 D2 : Dk.Disk}
theorem RCame.to (h : RCame B w r D D1 w1 r1) : RDTo B r D1 w w1 := ⟨r1, h.at1, h.rb, h.upd, h.foot⟩
theorem RCame.then_ (h : RCame B w r D D1 w1 r1) (h2 : RDTo B r1 D2 w1 w2) : RDTo B r D2 w w2 := RDTo.then_ h.at0 h.at1 h.rb h.upd h.foot h2
theorem RDTo.came (h0 : RDAt B w r D) (h : RDTo B r D1 w w1) : ∃ r1, RCame B w r D D1 w1 r1 := by
  obtain ⟨r1, a, b, c, d⟩ := h
  exact ⟨r1, h0, a, b, c, d⟩
theorem keep_slR (h : RDAt B w r D) : ∀ z, Upd (fun j => j = r.rb) w z → Sl B w.heap.size z r.kv (D.keep.map intD) := fun z u => by
  have ho := owns_updD h.keep u (fun k hk e => by subst e; exact own_blk h.keep h.blk (by decide) hk)
  rcases Sl.of_owns ho with e | ⟨b, off, cap, h1, h2, h3, h4, h5, h6, h7⟩
  · exact Or.inl e
  · refine Or.inr ⟨b, off, cap, h1, h2, h3, h4, ?_, h6, h7⟩
    refine (h.foot_lt (k := b) (Or.inr (Or.inr (Or.inr ?_)))).2
    obtain ⟨hl, ho2⟩ := ho
    rcases ho2 with ⟨e, _⟩ | ⟨gb, cp, cur, e, _⟩
    · rw [e] at h1; simp at h1
    · rw [e] at h1 ⊢
      simp at h1
      simp [Value.ownBlock, h1]
/-- A new list of pending sectors is put into the disk's block. -/
theorem queue_done {v' : Value} {B0 : Nat} (h : RDAt B w r D) (u : Nw w w1) (hB0 : w.heap.size ≤ B0) (hown : w1.ownsRow B0 tRSec 2 v' D'.q.length (flatQ D'.q)) (hB : B ≤ w.heap.size)
    (e1 : D'.fs = D.fs) (e2 : D'.lost = D.lost) (e3 : D'.down = D.down) (e4 : D'.armed = D.armed) (e5 : D'.keep = D.keep) (hk : Dk.Ok D') : RDTo B r D' w (w1.setCell ⟨r.rb, 1, none⟩ v') := by
  have h1 := h.nw u
  have hg : nG ≤ r.rb := Nat.le_trans h.hb h.rb
  have us : Upd (fun k => k = r.rb) w1 (w1.setCell ⟨r.rb, 1, none⟩ v') := Upd.set1 (Upd.refl _ _) hg 1 _
  have hrw := (h.foot_lt (Or.inl rfl)).2
  obtain ⟨l, hl, _⟩ := h1.files
  refine ⟨⟨r.rb, r.fv, v', r.kv⟩, ⟨h.hb, h.rb, ?_, ?_, ?_, ?_, hk, by rw [e5]; exact h.kI⟩, rfl, (Nw.trans u us).mono (fun k _ e => Or.inl e), ?_⟩
  · have := setCell_block h1.blk 1 v'
    unfold rdC at this ⊢
    rw [e2, e3, e4]
    exact this
  · rw [e1]
    exact h1.files.upd us (fun k hk e => own_blk hl h1.blk (by decide) (by rw [← e]; exact hk))
  · exact owns_base (owns_updD hown us (fun k hk e => by have := (hown.lt k hk).1; omega)) (Nat.le_trans hB hB0)
  · rw [e5]
    exact owns_updD h1.keep us (fun k hk e => own_blk h1.keep h1.blk (by decide) (by rw [← e]; exact hk))
  · rintro j (e | e | e | e)
    · exact Or.inl (Or.inl e)
    · exact Or.inl (Or.inr (Or.inl e))
    · exact Or.inr (Nat.le_trans hB0 (hown.lt j e).1)
    · exact Or.inl (Or.inr (Or.inr (Or.inr e)))
/-- While the other sectors are copied. -/
def SetQ (w : World) (q : List (Int × Int)) (f : Int) (k : Nat) (v : Value) (z : World) : Prop :=
  z.ownsRow w.heap.size tRSec 2 v ((q.take k).filter (fun p => !decide (p.1 = f))).length (flatQ ((q.take k).filter (fun p => !decide (p.1 = f)))) ∧ Nw w z
set_option maxHeartbeats 2000000 in
set_option maxRecDepth 100000 in
theorem settle_r (h : RDAt B w r D) (g : Gl w) (hB : B ≤ w.heap.size) {f : Int} (hf : 0 ≤ f ∧ f < 16) (s : List UInt8) (hs : s.length ≤ 16777216) :
    Calls Tryz.prog 96 #[.pointer (some ⟨r.rb, 0, none⟩), .int .i64 f, .string ⟨s.toArray⟩] w fun e w' => e = .returned (.tuple #[]) ∧ RDTo B r (Dk.settle D f s) w w' := by
  have hgb := g.big
  have hok := Dk.settle_ok h.ok f hs
  have hset := Lib.hid (set_r h g hB hf ⟨s, s⟩ ⟨hok.now, hok.last, h.ok.q, h.ok.nd, h.ok.lost, h.ok.armed⟩)
  have hql := h.ok.q_len
  have hql1 : (D.q.length : Int) ≤ 4194304 := by omega
  have H := Lib.hid (And.intro h (And.intro hB hok))
  clear h hB hok hs
  go_enter Tryz.func96, Tryz.ntmps96
  go_wp2_with fail
  (with_reducible refine (hset.out).mono ?_)
  rintro _ w1 ⟨rfl, h1⟩
  obtain ⟨r1, C1⟩ := RDTo.came H.out.1 h1.to
  obtain ⟨aq, cq, hqv, _, hcF⟩ := secD_cells (rs_sls C1.at1.queue)
  have hlq : ({ D with fs := Dk.setF D.fs f ⟨s, s⟩ } : Dk.Disk).q.length = D.q.length := rfl
  have HC := Lib.hid C1
  have Hqv := Lib.hid hqv
  have HcF := Lib.hid hcF
  have hI0 : Hid (SetQ w1 D.q f 0 (.slice none 0 0) w1) := ⟨World.ownsRow_nil _ _ _ _, Upd.refl _ _⟩
  have hg1 : nG ≤ w1.heap.size := (g.upd C1.upd).big
  have hrb : Hid (r1.rb = r.rb) := C1.rb
  clear C1 hqv hcF h1 hset hlq
  go_wp2_with fail
  go_loopw [6, 7] (fun v iv wr => ∃ k : Nat, k ≤ D.q.length ∧ iv = .int .i64 k ∧ Hid (SetQ w1 D.q f k v wr)) (fun _ iv _ => D.q.length - (intOf iv).toNat)
  case atStart => exact ⟨0, Nat.zero_le _, rfl, hI0.out⟩
  case round =>
    obtain ⟨k, hk, rfl, HI⟩ := hrel
    obtain ⟨av, cv, rfl⟩ := own_slD HI.out.1
    have h' := HC.out.at1.nw HI.out.2
    obtain ⟨_, c1, _⟩ := h'.cells
    have f1 := h'.frozen 1
    have q0 : (w1.heap.size ≤ wr.heap.size) := HI.out.2.size
    rw [Hqv.out, hrb.out] at c1
    rw [hrb.out] at f1
    change wr.cell? ⟨r.rb, 1, none⟩ = some (.slice aq D.q.length cq) at c1
    by_cases hlt : k < D.q.length
    · rcases HcF.out with hnil | ⟨b, off, rfl, hbX, _, hc⟩
      · exfalso
        have : D.q = [] := hnil
        rw [this] at hlt; simp at hlt
      obtain ⟨d0, d1⟩ := hc k hlt
      have e0 : ({ D with fs := Dk.setF D.fs f ⟨s, s⟩ } : Dk.Disk).q[k] = D.q[k] := rfl
      rw [e0] at d0 d1
      have d0' := (World.cell?_of_block (a := ⟨b, off + k * 2, none⟩) (HI.out.2.block b hbX (Or.inr id))).trans d0
      have d1' := (World.cell?_of_block (a := ⟨b, off + k * 2 + 1, none⟩) (HI.out.2.block b hbX (Or.inr id))).trans d1
      have htk : D.q.take (k + 1) = D.q.take k ++ [D.q[k]] := List.take_succ_eq_append_getElem hlt
      have Htk := Lib.hid htk
      have hfl : ((D.q.take k).filter (fun p => !decide (p.1 = f))).length ≤ 4194304 := Nat.le_trans (List.length_filter_le _ _) (by rw [List.length_take]; omega)
      have Hfl := Lib.hid hfl
      clear hc htk hfl h' d0 d1 e0
      generalize D.q[k] = y at *
      obtain ⟨yf, yn⟩ := y
      dsimp only at d0' d1'
      by_cases hyf : yf = f
      · have hz : Hid (SetQ w1 D.q f (k + 1) (.slice av ((D.q.take k).filter (fun p => !decide (p.1 = f))).length cv) wr) := by
          unfold SetQ
          show _ ∧ _
          rw [Htk.out, List.filter_append]
          have : List.filter (fun p : Int × Int => !decide (p.1 = f)) [(yf, yn)] = [] := by simp [hyf]
          rw [this, List.append_nil]
          exact HI.out
        have hb : (yf != f) = false := by simp [hyf]
        have hb2 : (yf == f) = true := by simp [hyf]
        clear hyf
        go_wp2_with fail
        go_roundw
        case rel => exact ⟨k + 1, by omega, by go_num, hz.out⟩
        case measure => simp [intOf]; omega
      · have hz : Hid (∀ v' z', z'.ownsRow w1.heap.size tRSec 2 v' (((D.q.take k).filter (fun p => !decide (p.1 = f))).length + 1) (flatQ ((D.q.take k).filter (fun p => !decide (p.1 = f))) ++ secL (yf, yn)) → Nw w1 z' → SetQ w1 D.q f (k + 1) v' z') := fun v' z' h1 h2 => by
          unfold SetQ
          rw [Htk.out, List.filter_append]
          have : List.filter (fun p : Int × Int => !decide (p.1 = f)) [(yf, yn)] = [(yf, yn)] := by simp [hyf]
          rw [this, List.length_append, flatQ_snoc]
          exact ⟨h1, h2⟩
        have hb : (yf != f) = true := by simp [hyf]
        have hb2 : (yf == f) = false := by simp [hyf]
        clear hyf
        go_wp2_with (at_builtin; refine wpList_appL rfl _ _ 89 rfl w1.heap.size tRSec _ 2 16 Tryz.underlying89 infoRSec rfl (by decide) _ _ _ rfl HI.out.1 (secL (yf, yn)) rfl rfl ?c1 ?c2 ?c3 q0 hg1 ?_)
        case c1 =>
          intro u hu
          simp only [secL, List.mem_cons, List.not_mem_nil, or_false] at hu
          rcases hu with rfl | rfl <;> rfl
        case c2 => have := Hfl.out; unfold maxLen; omega
        case c3 => have := Hfl.out; omega
        intro v' w6 o6 u6 hob
        have hz2 := Lib.hid (hz.out v' w6 o6 (HI.out.2.trans' u6 (fun j hj e => by have := (HI.out.1.lt j e).1; omega)))
        clear hz o6 u6 hob
        go_wp2_with fail
        go_roundw
        case rel => exact ⟨k + 1, by omega, by go_num, hz2.out⟩
        case measure => simp [intOf]; omega
    · obtain rfl : k = D.q.length := by omega
      have hI1 := HI.out.1
      rw [List.take_length] at hI1
      have hd := queue_done (D' := Dk.settle D f s) HC.out.at1 HI.out.2 (Nat.le_refl _) hI1 (Nat.le_trans H.out.2.1 HC.out.upd.size) rfl rfl rfl rfl rfl H.out.2.2
      rw [hrb.out] at hd
      (try rw [List.take_length] at hd)
      have hd2 := HC.out.then_ hd
      clear hd hI1 h' HI
      (try rw [List.take_length])
      generalize (D.q.filter (fun p => !decide (p.1 = f))).length = nn at *
      have Hd := Lib.hid hd2
      clear hd2
      go_wp2_with fail
      go_end0
      exact ⟨rfl, Hd.out⟩
set_option maxHeartbeats 2000000 in
set_option maxRecDepth 100000 in
theorem comes_r (h : RDAt B w r D) (g : Gl w) (hB : B ≤ w.heap.size) {f i : Int} (hf : I64 f) (hi : I64 i) (s : List UInt8) (hs : s.length ≤ 1000000000) :
    Calls Tryz.prog 95 #[.pointer (some ⟨r.rb, 0, none⟩), .int .i64 f, .int .i64 i, .string ⟨s.toArray⟩] w fun e w' => e = .returned (.tuple #[]) ∧ RDTo B r (comesD D f i s) w w' := by
  have hgb := g.big
  obtain ⟨_, _, _, c3, c4, _⟩ := h.cells
  have f4 := h.frozen 4
  cases hd : D.down with
  | true =>
    have hr : Hid (RDTo B r (comesD D f i s) w w) := by
      have : comesD D f i s = D := by unfold comesD Dk.ends Dk.counted; rw [hd]; simp
      show RDTo _ _ _ _ _
      rw [this]; exact RDTo.of_nw h (Upd.refl _ _)
    rw [hd] at c3
    clear h hd
    go_enter Tryz.func95, Tryz.ntmps95
    go_wp2_with fail
    (try simp only [Exit.inBlock, Exit.then])
    refine bodyPost_ret (results_none rfl _ _ _) rfl ?_
    exact ⟨rfl, hr.out⟩
  | false =>
  rw [hd] at c3
  by_cases h0 : D.armed = 0
  · have hr : Hid (RDTo B r (comesD D f i s) w w) := by
      have : comesD D f i s = D := by unfold comesD Dk.ends Dk.counted; rw [hd, h0]; simp
      show RDTo _ _ _ _ _
      rw [this]; exact RDTo.of_nw h (Upd.refl _ _)
    rw [h0] at c4
    clear h hd h0
    go_enter Tryz.func95, Tryz.ntmps95
    go_wp2_with fail
    (try simp only [Exit.inBlock, Exit.then])
    refine bodyPost_ret (results_none rfl _ _ _) rfl ?_
    exact ⟨rfl, hr.out⟩
  have harm := h.ok.armed
  have hcd : Dk.counted D = { D with armed := D.armed - 1 } := by unfold Dk.counted; rw [hd]; simp [h0]
  obtain ⟨s1, u1⟩ := h.scal (D' := { D with armed := D.armed - 1 }) 4 (.int .i64 (D.armed - 1)) rfl rfl rfl rfl ⟨h.ok.now, h.ok.last, h.ok.q, h.ok.nd, h.ok.lost, ⟨by dsimp only; omega, by dsimp only; omega⟩⟩
  rw [← hcd] at s1
  by_cases h1 : D.armed = 1
  rotate_left
  · have hr : Hid (RDTo B r (comesD D f i s) w (w.setCell ⟨r.rb, 4, none⟩ (.int .i64 (D.armed - 1)))) := by
      have : comesD D f i s = Dk.counted D := by unfold comesD Dk.ends; rw [hd]; simp [h1]
      show RDTo _ _ _ _ _
      rw [this]; exact ⟨r, s1, rfl, u1.mono (fun k _ e => Or.inl e), fun j e => Or.inl e⟩
    have a0 : (D.armed == 0) = false := beq_eq_false_iff_ne.2 h0
    have a1 : 0 < D.armed - 1 := by omega
    have a2 : D.armed ≤ 9223372036854775807 := harm.2
    clear h hd h0 h1 s1 u1 hcd harm
    go_enter Tryz.func95, Tryz.ntmps95
    go_wp2_with fail
    (try simp only [Exit.inBlock, Exit.then])
    refine bodyPost_ret (results_none rfl _ _ _) rfl ?_
    exact ⟨rfl, hr.out⟩
  rw [h1] at c4
  rw [h1, show ((1 : Int) - 1) = 0 from rfl] at s1 u1
  have hce : Hid (comesD D f i s = Dk.crash (Dk.write0 (Dk.counted D) f i s).1 D.keep) := by
    show _ = _
    unfold comesD Dk.ends
    rw [hd, h1]; simp
  have hmay : Dk.may (Dk.counted D) f = if f < 0 ∨ 16 ≤ f then 1 else 0 := by
    rw [hcd]; unfold Dk.may; dsimp only; rw [hd]; rfl
  have S1 := Lib.hid (And.intro h (And.intro s1 u1))
  have HB := Lib.hid hB
  have Hk : Hid ((Dk.counted D).keep = D.keep) := counted_keep D
  have hfits := Lib.hid (fits_r i hi s hs (w.setCell ⟨r.rb, 4, none⟩ (.int .i64 0)))
  clear h hd h0 h1 s1 u1 hcd harm hB
  generalize hDc : Dk.counted D = Dc at *
  clear hDc
  by_cases hf0 : 0 ≤ f
  rotate_left
  · have hwe : Hid ((Dk.write0 Dc f i s).1 = Dc) := by
      show _ = _
      unfold Dk.write0
      rw [if_pos (by rw [hmay, if_pos (Or.inl (by omega))]; decide)]
    have C2 : Hid (RCame B w r D Dc (w.setCell ⟨r.rb, 4, none⟩ (.int .i64 0)) r) := ⟨S1.out.1, S1.out.2.1, rfl, S1.out.2.2.mono (fun k _ e => Or.inl e), fun j e => Or.inl e⟩
    have Hk2 : Hid (Dc.keep = D.keep) := Hk.out
    have hc := crash_r C2.out.at1 (g.upd C2.out.upd) (Nat.le_trans HB.out C2.out.upd.size) B _ _ _ (keep_slR C2.out.at1) C2.out.at1.kI
    rw [C2.out.rb] at hc
    have c5 := C2.out.at1.cells.2.2.2.2.2
    rw [C2.out.rb] at c5
    obtain ⟨ak, ck, hkv⟩ := own_slD C2.out.at1.keep
    rw [hkv] at hc c5
    have Hc := Lib.hid hc
    clear hc hkv
    clear hmay
    go_enter Tryz.func95, Tryz.ntmps95
    go_wp2_with fail
    (with_reducible refine Hc.out.mono ?_)
    rintro _ w3 ⟨rfl, hT3⟩
    have hfin := C2.out.then_ hT3
    rw [Hk2.out] at hfin
    have Hfin := Lib.hid hfin
    clear hT3 hfin
    go_wp2_with fail
    go_end0
    exact ⟨rfl, by rw [hce.out, hwe.out]; exact Hfin.out⟩
  by_cases hf1 : f ≤ 15
  rotate_left
  · have hwe : Hid ((Dk.write0 Dc f i s).1 = Dc) := by
      show _ = _
      unfold Dk.write0
      rw [if_pos (by rw [hmay, if_pos (Or.inr (by omega))]; decide)]
    have C2 : Hid (RCame B w r D Dc (w.setCell ⟨r.rb, 4, none⟩ (.int .i64 0)) r) := ⟨S1.out.1, S1.out.2.1, rfl, S1.out.2.2.mono (fun k _ e => Or.inl e), fun j e => Or.inl e⟩
    have Hk2 : Hid (Dc.keep = D.keep) := Hk.out
    have hc := crash_r C2.out.at1 (g.upd C2.out.upd) (Nat.le_trans HB.out C2.out.upd.size) B _ _ _ (keep_slR C2.out.at1) C2.out.at1.kI
    rw [C2.out.rb] at hc
    have c5 := C2.out.at1.cells.2.2.2.2.2
    rw [C2.out.rb] at c5
    obtain ⟨ak, ck, hkv⟩ := own_slD C2.out.at1.keep
    rw [hkv] at hc c5
    have Hc := Lib.hid hc
    clear hc hkv
    clear hmay
    go_enter Tryz.func95, Tryz.ntmps95
    go_wp2_with fail
    (with_reducible refine Hc.out.mono ?_)
    rintro _ w3 ⟨rfl, hT3⟩
    have hfin := C2.out.then_ hT3
    rw [Hk2.out] at hfin
    have Hfin := Lib.hid hfin
    clear hT3 hfin
    go_wp2_with fail
    go_end0
    exact ⟨rfl, by rw [hce.out, hwe.out]; exact Hfin.out⟩
  rw [if_neg (by omega)] at hmay
  by_cases hw : Dk.wErr i s.length = 0
  rotate_left
  · rw [decide_eq_false hw] at hfits
    have hwe : Hid ((Dk.write0 Dc f i s).1 = Dc) := by
      show _ = _
      unfold Dk.write0
      rw [if_neg (by rw [hmay]; decide), if_pos hw]
    have C2 : Hid (RCame B w r D Dc (w.setCell ⟨r.rb, 4, none⟩ (.int .i64 0)) r) := ⟨S1.out.1, S1.out.2.1, rfl, S1.out.2.2.mono (fun k _ e => Or.inl e), fun j e => Or.inl e⟩
    have Hk2 : Hid (Dc.keep = D.keep) := Hk.out
    have hc := crash_r C2.out.at1 (g.upd C2.out.upd) (Nat.le_trans HB.out C2.out.upd.size) B _ _ _ (keep_slR C2.out.at1) C2.out.at1.kI
    rw [C2.out.rb] at hc
    have c5 := C2.out.at1.cells.2.2.2.2.2
    rw [C2.out.rb] at c5
    obtain ⟨ak, ck, hkv⟩ := own_slD C2.out.at1.keep
    rw [hkv] at hc c5
    have Hc := Lib.hid hc
    clear hc hkv
    clear hmay hw
    go_enter Tryz.func95, Tryz.ntmps95
    go_wp2_with fail
    (with_reducible refine (hfits.out).mono ?_)
    rintro _ _ ⟨rfl, rfl⟩
    go_wp2_with fail
    (with_reducible refine Hc.out.mono ?_)
    rintro _ w3 ⟨rfl, hT3⟩
    have hfin := C2.out.then_ hT3
    rw [Hk2.out] at hfin
    have Hfin := Lib.hid hfin
    clear hT3 hfin
    go_wp2_with fail
    go_end0
    exact ⟨rfl, by rw [hce.out, hwe.out]; exact Hfin.out⟩
  · rw [decide_eq_true hw] at hfits
    have hwe : Hid ((Dk.write0 Dc f i s).1 = Dk.add Dc f i.toNat s) := by
      show _ = _
      unfold Dk.write0
      rw [if_neg (by rw [hmay]; decide), if_neg (by rw [hw]; decide)]
    have hwo := Dk.wErr_ok hw
    obtain ⟨i, rfl⟩ : ∃ m : Nat, i = m := ⟨i.toNat, by omega⟩
    rw [Int.toNat_natCast] at hwo hwe
    have had := add_r S1.out.2.1 (g.upd S1.out.2.2) (Nat.le_trans HB.out S1.out.2.2.size) (f := f) ⟨hf0, by omega⟩ s hwo.2
    have Had := Lib.hid had
    have Hk2 : Hid ((Dk.add Dc f i s).keep = D.keep) := by
      show _ = _
      rw [← Hk.out]; unfold Dk.add; split <;> rfl
    clear had hmay hw hwo
    go_enter Tryz.func95, Tryz.ntmps95
    go_wp2_with fail
    (with_reducible refine (hfits.out).mono ?_)
    rintro _ _ ⟨rfl, rfl⟩
    go_wp2_with fail
    (with_reducible refine (Had.out).mono ?_)
    rintro _ w2 ⟨rfl, hT2⟩
    obtain ⟨r2, C2⟩ := RDTo.came S1.out.1 (RDTo.then_ S1.out.1 S1.out.2.1 rfl (S1.out.2.2.mono (fun k _ e => Or.inl e)) (fun j e => Or.inl e) hT2)
    replace C2 := Lib.hid C2
    clear hT2 Had
    have hc := crash_r C2.out.at1 (g.upd C2.out.upd) (Nat.le_trans HB.out C2.out.upd.size) B _ _ _ (keep_slR C2.out.at1) C2.out.at1.kI
    rw [C2.out.rb] at hc
    have c5 := C2.out.at1.cells.2.2.2.2.2
    rw [C2.out.rb] at c5
    obtain ⟨ak, ck, hkv⟩ := own_slD C2.out.at1.keep
    rw [hkv] at hc c5
    have Hc := Lib.hid hc
    clear hc hkv
    go_wp2_with fail
    (with_reducible refine Hc.out.mono ?_)
    rintro _ w3 ⟨rfl, hT3⟩
    have hfin := C2.out.then_ hT3
    rw [Hk2.out] at hfin
    have Hfin := Lib.hid hfin
    clear hT3 hfin
    go_wp2_with fail
    go_end0
    exact ⟨rfl, by rw [hce.out, hwe.out]; exact Hfin.out⟩
end
end Go.Proofs.YtiambnllidingaaGreatDoor
