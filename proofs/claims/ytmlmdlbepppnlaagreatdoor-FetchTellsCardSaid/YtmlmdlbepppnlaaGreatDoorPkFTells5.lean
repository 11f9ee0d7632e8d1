/- The reference's disk (layer 2): settle, comes, Write, Sync, Truncate. The reference's disk (layer 2): New, Write, Sync, Truncate, Read, Lose, Start, Arm. The values of the statements of layer 1, in memory: a Value, a slice of Values. Lists of a journal's operations among a statement's arguments; few, texts. The reference's journal (layer 3): Sum, Form, Forms, Records. The reference's journal (layer 3): Open, Append, Sync. The reference's journal (layer 3): Append, Open. The walk of the statement JournalStays. The program's disk and journal, and the reference's, side by side: what each call leaves of them. Appends in a region that draws its order: of cells of an own or a known slice, of zeros. The reference's fetch: come, Missing, Text. The reference's fetch beside the program's system: Sync, Take. The reference's fetch beside the program's system: Open. Both fetches side by side: the program's and the reference's. Both fetches, or none: what the statement carries. A manifest among a statement's arguments. Lists of a fetch's operations among a statement's arguments; Few. A loop of a function, taken out of its code: so that its walk is a theorem of its own. FetchTells: the loop over the operations. -/
import Derived.Test.YtmlmdlbepppnlaaGreatDoorPkFTells4
import Derived.Test.YtmlmdlbepppnlaaGreatDoorPkFTells1
import Derived.Test.YtmlmdlbepppnlaaGreatDoorPkFTells0
import Derived.Test.YtmlmdlbepppnlaaGreatDoorPkFTells2
import Derived.Lib.AppendZerosOnto
import Derived.Deep.RegionHeldLaw
import Derived.Test.YtmlmdlbepppnlaaGreatDoorPkFTells3
import Derived.Deep.CutBlock
namespace Go.Proofs.YtmlmdlbepppnlaaGreatDoor
open Go.RowKit
set_option linter.unusedVariables false
set_option linter.unusedSimpArgs false
attribute [local irreducible] Calls

/-- What comes does: a call is counted, and the scheduled crash happens. -/
def comesD (D : Dk.Disk) (f i : Int) (s : List UInt8) : Dk.Disk := if Dk.ends D = true then Dk.crash (Dk.write0 (Dk.counted D) f i s).1 D.keep else Dk.counted D
theorem comesD_come (D : Dk.Disk) : comesD D 0 0 [] = Dk.come D := by
  unfold comesD Dk.come
  split
  · rename_i he
    have hw : (Dk.write0 (Dk.counted D) 0 0 []).1 = Dk.counted D := by
      unfold Dk.write0
      split
      · rfl
      · split
        · rfl
        · rfl
    rw [hw]
  · rfl
/-- What lies before and after a part of a call. -/
structure RCame (B : Nat) (w : World) (r : RdR) (D D1 : Dk.Disk) (w1 : World) (r1 : RdR) : Prop where
  at0 : RDAt B w r D
  at1 : RDAt B w1 r1 D1
  rb : r1.rb = r.rb
  upd : Upd r.foot w w1
  foot : ∀ j, r1.foot j → r.foot j ∨ w.heap.size ≤ j
section
variable {B : Nat} {w w1 w2 : World} {r r1 : RdR} {D D' D1 D2 : Dk.Disk}
theorem RCame.to (h : RCame B w r D D1 w1 r1) : RDTo B r D1 w w1 := ⟨r1, h.at1, h.rb, h.upd, h.foot⟩
theorem RCame.then_ (h : RCame B w r D D1 w1 r1) (h2 : RDTo B r1 D2 w1 w2) : RDTo B r D2 w w2 := RDTo.then_ h.at0 h.at1 h.rb h.upd h.foot h2
theorem RDTo.came (h0 : RDAt B w r D) (h : RDTo B r D1 w w1) : ∃ r1, RCame B w r D D1 w1 r1 := by
  obtain ⟨r1, a, b, c, d⟩ := h
  exact ⟨r1, h0, a, b, c, d⟩
theorem keep_slR (h : RDAt B w r D) : ∀ z, Upd (fun j => j = r.rb) w z → Sl B w.heap.size z r.kv (D.keep.map intD) := fun z u => by
  have ho := owns_updD h.keep u (fun k hk e => by subst e; exact own_blk h.keep h.blk (by decide) hk)
  rcases Sl.of_owns ho with e | ⟨b, off, cap, h1, h2, h3, h4, h5, h6, h7⟩
  · exact Or.inl e
  · refine Or.inr ⟨b, off, cap, h1, h2, h3, h4, ?_, h6, h7⟩
    refine (h.foot_lt (k := b) (Or.inr (Or.inr (Or.inr ?_)))).2
    obtain ⟨hl, ho2⟩ := ho
    rcases ho2 with ⟨e, _⟩ | ⟨gb, cp, cur, e, _⟩
    · rw [e] at h1; simp at h1
    · rw [e] at h1 ⊢
      simp at h1
      simp [Value.ownBlock, h1]
/-- A new list of pending sectors is put into the disk's block. -/
theorem queue_done {v' : Value} {B0 : Nat} (h : RDAt B w r D) (u : Nw w w1) (hB0 : w.heap.size ≤ B0) (hown : w1.ownsRow B0 tRSec 2 v' D'.q.length (flatQ D'.q)) (hB : B ≤ w.heap.size)
    (e1 : D'.fs = D.fs) (e2 : D'.lost = D.lost) (e3 : D'.down = D.down) (e4 : D'.armed = D.armed) (e5 : D'.keep = D.keep) (hk : Dk.Ok D') : RDTo B r D' w (w1.setCell ⟨r.rb, 1, none⟩ v') := by
  have h1 := h.nw u
  have hg : nG ≤ r.rb := Nat.le_trans h.hb h.rb
  have us : Upd (fun k => k = r.rb) w1 (w1.setCell ⟨r.rb, 1, none⟩ v') := Upd.set1 (Upd.refl _ _) hg 1 _
  have hrw := (h.foot_lt (Or.inl rfl)).2
  obtain ⟨l, hl, _⟩ := h1.files
  refine ⟨⟨r.rb, r.fv, v', r.kv⟩, ⟨h.hb, h.rb, ?_, ?_, ?_, ?_, hk, by rw [e5]; exact h.kI⟩, rfl, (Nw.trans u us).mono (fun k _ e => Or.inl e), ?_⟩
  · have := setCell_block h1.blk 1 v'
    unfold rdC at this ⊢
    rw [e2, e3, e4]
    exact this
  · rw [e1]
    exact h1.files.upd us (fun k hk e => own_blk hl h1.blk (by decide) (by rw [← e]; exact hk))
  · exact owns_base (owns_updD hown us (fun k hk e => by have := (hown.lt k hk).1; omega)) (Nat.le_trans hB hB0)
  · rw [e5]
    exact owns_updD h1.keep us (fun k hk e => own_blk h1.keep h1.blk (by decide) (by rw [← e]; exact hk))
  · rintro j (e | e | e | e)
    · exact Or.inl (Or.inl e)
    · exact Or.inl (Or.inr (Or.inl e))
    · exact Or.inr (Nat.le_trans hB0 (hown.lt j e).1)
    · exact Or.inl (Or.inr (Or.inr (Or.inr e)))
/-- While the other sectors are copied. -/
def SetQ (w : World) (q : List (Int × Int)) (f : Int) (k : Nat) (v : Value) (z : World) : Prop :=
  z.ownsRow w.heap.size tRSec 2 v ((q.take k).filter (fun p => !decide (p.1 = f))).length (flatQ ((q.take k).filter (fun p => !decide (p.1 = f)))) ∧ Nw w z
set_option maxHeartbeats 2000000 in
set_option maxRecDepth 100000 in
theorem settle_r (h : RDAt B w r D) (g : Gl w) (hB : B ≤ w.heap.size) {f : Int} (hf : 0 ≤ f ∧ f < 16) (s : List UInt8) (hs : s.length ≤ 16777216) :
    Calls Tryz.prog 99 #[.pointer (some ⟨r.rb, 0, none⟩), .int .i64 f, .string ⟨s.toArray⟩] w fun e w' => e = .returned (.tuple #[]) ∧ RDTo B r (Dk.settle D f s) w w' := by
  have hgb := g.big
  have hok := Dk.settle_ok h.ok f hs
  have hset := Lib.hid (set_r h g hB hf ⟨s, s⟩ ⟨hok.now, hok.last, h.ok.q, h.ok.nd, h.ok.lost, h.ok.armed⟩)
  have hql := h.ok.q_len
  have hql1 : (D.q.length : Int) ≤ 4194304 := by omega
  have H := Lib.hid (And.intro h (And.intro hB hok))
  clear h hB hok hs
  go_enter Tryz.func99, Tryz.ntmps99
  go_wp2_with fail
  (with_reducible refine (hset.out).mono ?_)
  rintro _ w1 ⟨rfl, h1⟩
  obtain ⟨r1, C1⟩ := RDTo.came H.out.1 h1.to
  obtain ⟨aq, cq, hqv, _, hcF⟩ := secD_cells (rs_sls C1.at1.queue)
  have hlq : ({ D with fs := Dk.setF D.fs f ⟨s, s⟩ } : Dk.Disk).q.length = D.q.length := rfl
  have HC := Lib.hid C1
  have Hqv := Lib.hid hqv
  have HcF := Lib.hid hcF
  have hI0 : Hid (SetQ w1 D.q f 0 (.slice none 0 0) w1) := ⟨World.ownsRow_nil _ _ _ _, Upd.refl _ _⟩
  have hg1 : nG ≤ w1.heap.size := (g.upd C1.upd).big
  have hrb : Hid (r1.rb = r.rb) := C1.rb
  clear C1 hqv hcF h1 hset hlq
  go_wp2_with fail
  go_loopw [6, 7] (fun v iv wr => ∃ k : Nat, k ≤ D.q.length ∧ iv = .int .i64 k ∧ Hid (SetQ w1 D.q f k v wr)) (fun _ iv _ => D.q.length - (intOf iv).toNat)
  case atStart => exact ⟨0, Nat.zero_le _, rfl, hI0.out⟩
  case round =>
    obtain ⟨k, hk, rfl, HI⟩ := hrel
    obtain ⟨av, cv, rfl⟩ := own_slD HI.out.1
    have h' := HC.out.at1.nw HI.out.2
    obtain ⟨_, c1, _⟩ := h'.cells
    have f1 := h'.frozen 1
    have q0 : (w1.heap.size ≤ wr.heap.size) := HI.out.2.size
    rw [Hqv.out, hrb.out] at c1
    rw [hrb.out] at f1
    change wr.cell? ⟨r.rb, 1, none⟩ = some (.slice aq D.q.length cq) at c1
    by_cases hlt : k < D.q.length
    · rcases HcF.out with hnil | ⟨b, off, rfl, hbX, _, hc⟩
      · exfalso
        have : D.q = [] := hnil
        rw [this] at hlt; simp at hlt
      obtain ⟨d0, d1⟩ := hc k hlt
      have e0 : ({ D with fs := Dk.setF D.fs f ⟨s, s⟩ } : Dk.Disk).q[k] = D.q[k] := rfl
      rw [e0] at d0 d1
      have d0' := (World.cell?_of_block (a := ⟨b, off + k * 2, none⟩) (HI.out.2.block b hbX (Or.inr id))).trans d0
      have d1' := (World.cell?_of_block (a := ⟨b, off + k * 2 + 1, none⟩) (HI.out.2.block b hbX (Or.inr id))).trans d1
      have htk : D.q.take (k + 1) = D.q.take k ++ [D.q[k]] := List.take_succ_eq_append_getElem hlt
      have Htk := Lib.hid htk
      have hfl : ((D.q.take k).filter (fun p => !decide (p.1 = f))).length ≤ 4194304 := Nat.le_trans (List.length_filter_le _ _) (by rw [List.length_take]; omega)
      have Hfl := Lib.hid hfl
      clear hc htk hfl h' d0 d1 e0
      generalize D.q[k] = y at *
      obtain ⟨yf, yn⟩ := y
      dsimp only at d0' d1'
      by_cases hyf : yf = f
      · have hz : Hid (SetQ w1 D.q f (k + 1) (.slice av ((D.q.take k).filter (fun p => !decide (p.1 = f))).length cv) wr) := by
          unfold SetQ
          show _ ∧ _
          rw [Htk.out, List.filter_append]
          have : List.filter (fun p : Int × Int => !decide (p.1 = f)) [(yf, yn)] = [] := by simp [hyf]
          rw [this, List.append_nil]
          exact HI.out
        have hb : (yf != f) = false := by simp [hyf]
        have hb2 : (yf == f) = true := by simp [hyf]
        clear hyf
        go_wp2_with fail
        go_roundw
        case rel => exact ⟨k + 1, by omega, by go_num, hz.out⟩
        case measure => simp [intOf]; omega
      · have hz : Hid (∀ v' z', z'.ownsRow w1.heap.size tRSec 2 v' (((D.q.take k).filter (fun p => !decide (p.1 = f))).length + 1) (flatQ ((D.q.take k).filter (fun p => !decide (p.1 = f))) ++ secL (yf, yn)) → Nw w1 z' → SetQ w1 D.q f (k + 1) v' z') := fun v' z' h1 h2 => by
          unfold SetQ
          rw [Htk.out, List.filter_append]
          have : List.filter (fun p : Int × Int => !decide (p.1 = f)) [(yf, yn)] = [(yf, yn)] := by simp [hyf]
          rw [this, List.length_append, flatQ_snoc]
          exact ⟨h1, h2⟩
        have hb : (yf != f) = true := by simp [hyf]
        have hb2 : (yf == f) = false := by simp [hyf]
        clear hyf
        go_wp2_with (at_builtin; refine wpList_appL rfl _ _ 68 rfl w1.heap.size tRSec _ 2 16 Tryz.underlying68 infoRSec rfl (by decide) _ _ _ rfl HI.out.1 (secL (yf, yn)) rfl rfl ?c1 ?c2 ?c3 q0 hg1 ?_)
        case c1 =>
          intro u hu
          simp only [secL, List.mem_cons, List.not_mem_nil, or_false] at hu
          rcases hu with rfl | rfl <;> rfl
        case c2 => have := Hfl.out; unfold maxLen; omega
        case c3 => have := Hfl.out; omega
        intro v' w6 o6 u6 hob
        have hz2 := Lib.hid (hz.out v' w6 o6 (HI.out.2.trans' u6 (fun j hj e => by have := (HI.out.1.lt j e).1; omega)))
        clear hz o6 u6 hob
        go_wp2_with fail
        go_roundw
        case rel => exact ⟨k + 1, by omega, by go_num, hz2.out⟩
        case measure => simp [intOf]; omega
    · obtain rfl : k = D.q.length := by omega
      have hI1 := HI.out.1
      rw [List.take_length] at hI1
      have hd := queue_done (D' := Dk.settle D f s) HC.out.at1 HI.out.2 (Nat.le_refl _) hI1 (Nat.le_trans H.out.2.1 HC.out.upd.size) rfl rfl rfl rfl rfl H.out.2.2
      rw [hrb.out] at hd
      (try rw [List.take_length] at hd)
      have hd2 := HC.out.then_ hd
      clear hd hI1 h' HI
      (try rw [List.take_length])
      generalize (D.q.filter (fun p => !decide (p.1 = f))).length = nn at *
      have Hd := Lib.hid hd2
      clear hd2
      go_wp2_with fail
      go_end0
      exact ⟨rfl, Hd.out⟩
set_option maxHeartbeats 2000000 in
set_option maxRecDepth 100000 in
theorem comes_r (h : RDAt B w r D) (g : Gl w) (hB : B ≤ w.heap.size) {f i : Int} (hf : I64 f) (hi : I64 i) (s : List UInt8) (hs : s.length ≤ 1000000000) :
    Calls Tryz.prog 97 #[.pointer (some ⟨r.rb, 0, none⟩), .int .i64 f, .int .i64 i, .string ⟨s.toArray⟩] w fun e w' => e = .returned (.tuple #[]) ∧ RDTo B r (comesD D f i s) w w' := by
  have hgb := g.big
  obtain ⟨_, _, _, c3, c4, _⟩ := h.cells
  have f4 := h.frozen 4
  cases hd : D.down with
  | true =>
    have hr : Hid (RDTo B r (comesD D f i s) w w) := by
      have : comesD D f i s = D := by unfold comesD Dk.ends Dk.counted; rw [hd]; simp
      show RDTo _ _ _ _ _
      rw [this]; exact RDTo.of_nw h (Upd.refl _ _)
    rw [hd] at c3
    clear h hd
    go_enter Tryz.func97, Tryz.ntmps97
    go_wp2_with fail
    (try simp only [Exit.inBlock, Exit.then])
    refine bodyPost_ret (results_none rfl _ _ _) rfl ?_
    exact ⟨rfl, hr.out⟩
  | false =>
  rw [hd] at c3
  by_cases h0 : D.armed = 0
  · have hr : Hid (RDTo B r (comesD D f i s) w w) := by
      have : comesD D f i s = D := by unfold comesD Dk.ends Dk.counted; rw [hd, h0]; simp
      show RDTo _ _ _ _ _
      rw [this]; exact RDTo.of_nw h (Upd.refl _ _)
    rw [h0] at c4
    clear h hd h0
    go_enter Tryz.func97, Tryz.ntmps97
    go_wp2_with fail
    (try simp only [Exit.inBlock, Exit.then])
    refine bodyPost_ret (results_none rfl _ _ _) rfl ?_
    exact ⟨rfl, hr.out⟩
  have harm := h.ok.armed
  have hcd : Dk.counted D = { D with armed := D.armed - 1 } := by unfold Dk.counted; rw [hd]; simp [h0]
  obtain ⟨s1, u1⟩ := h.scal (D' := { D with armed := D.armed - 1 }) 4 (.int .i64 (D.armed - 1)) rfl rfl rfl rfl ⟨h.ok.now, h.ok.last, h.ok.q, h.ok.nd, h.ok.lost, ⟨by dsimp only; omega, by dsimp only; omega⟩⟩
  rw [← hcd] at s1
  by_cases h1 : D.armed = 1
  rotate_left
  · have hr : Hid (RDTo B r (comesD D f i s) w (w.setCell ⟨r.rb, 4, none⟩ (.int .i64 (D.armed - 1)))) := by
      have : comesD D f i s = Dk.counted D := by unfold comesD Dk.ends; rw [hd]; simp [h1]
      show RDTo _ _ _ _ _
      rw [this]; exact ⟨r, s1, rfl, u1.mono (fun k _ e => Or.inl e), fun j e => Or.inl e⟩
    have a0 : (D.armed == 0) = false := beq_eq_false_iff_ne.2 h0
    have a1 : 0 < D.armed - 1 := by omega
    have a2 : D.armed ≤ 9223372036854775807 := harm.2
    clear h hd h0 h1 s1 u1 hcd harm
    go_enter Tryz.func97, Tryz.ntmps97
    go_wp2_with fail
    (try simp only [Exit.inBlock, Exit.then])
    refine bodyPost_ret (results_none rfl _ _ _) rfl ?_
    exact ⟨rfl, hr.out⟩
  rw [h1] at c4
  rw [h1, show ((1 : Int) - 1) = 0 from rfl] at s1 u1
  have hce : Hid (comesD D f i s = Dk.crash (Dk.write0 (Dk.counted D) f i s).1 D.keep) := by
    show _ = _
    unfold comesD Dk.ends
    rw [hd, h1]; simp
  have hmay : Dk.may (Dk.counted D) f = if f < 0 ∨ 16 ≤ f then 1 else 0 := by
    rw [hcd]; unfold Dk.may; dsimp only; rw [hd]; rfl
  have S1 := Lib.hid (And.intro h (And.intro s1 u1))
  have HB := Lib.hid hB
  have Hk : Hid ((Dk.counted D).keep = D.keep) := counted_keep D
  have hfits := Lib.hid (fits_r i hi s hs (w.setCell ⟨r.rb, 4, none⟩ (.int .i64 0)))
  clear h hd h0 h1 s1 u1 hcd harm hB
  generalize hDc : Dk.counted D = Dc at *
  clear hDc
  by_cases hf0 : 0 ≤ f
  rotate_left
  · have hwe : Hid ((Dk.write0 Dc f i s).1 = Dc) := by
      show _ = _
      unfold Dk.write0
      rw [if_pos (by rw [hmay, if_pos (Or.inl (by omega))]; decide)]
    have C2 : Hid (RCame B w r D Dc (w.setCell ⟨r.rb, 4, none⟩ (.int .i64 0)) r) := ⟨S1.out.1, S1.out.2.1, rfl, S1.out.2.2.mono (fun k _ e => Or.inl e), fun j e => Or.inl e⟩
    have Hk2 : Hid (Dc.keep = D.keep) := Hk.out
    have hc := crash_r C2.out.at1 (g.upd C2.out.upd) (Nat.le_trans HB.out C2.out.upd.size) B _ _ _ (keep_slR C2.out.at1) C2.out.at1.kI
    rw [C2.out.rb] at hc
    have c5 := C2.out.at1.cells.2.2.2.2.2
    rw [C2.out.rb] at c5
    obtain ⟨ak, ck, hkv⟩ := own_slD C2.out.at1.keep
    rw [hkv] at hc c5
    have Hc := Lib.hid hc
    clear hc hkv
    clear hmay
    go_enter Tryz.func97, Tryz.ntmps97
    go_wp2_with fail
    (with_reducible refine Hc.out.mono ?_)
    rintro _ w3 ⟨rfl, hT3⟩
    have hfin := C2.out.then_ hT3
    rw [Hk2.out] at hfin
    have Hfin := Lib.hid hfin
    clear hT3 hfin
    go_wp2_with fail
    go_end0
    exact ⟨rfl, by rw [hce.out, hwe.out]; exact Hfin.out⟩
  by_cases hf1 : f ≤ 15
  rotate_left
  · have hwe : Hid ((Dk.write0 Dc f i s).1 = Dc) := by
      show _ = _
      unfold Dk.write0
      rw [if_pos (by rw [hmay, if_pos (Or.inr (by omega))]; decide)]
    have C2 : Hid (RCame B w r D Dc (w.setCell ⟨r.rb, 4, none⟩ (.int .i64 0)) r) := ⟨S1.out.1, S1.out.2.1, rfl, S1.out.2.2.mono (fun k _ e => Or.inl e), fun j e => Or.inl e⟩
    have Hk2 : Hid (Dc.keep = D.keep) := Hk.out
    have hc := crash_r C2.out.at1 (g.upd C2.out.upd) (Nat.le_trans HB.out C2.out.upd.size) B _ _ _ (keep_slR C2.out.at1) C2.out.at1.kI
    rw [C2.out.rb] at hc
    have c5 := C2.out.at1.cells.2.2.2.2.2
    rw [C2.out.rb] at c5
    obtain ⟨ak, ck, hkv⟩ := own_slD C2.out.at1.keep
    rw [hkv] at hc c5
    have Hc := Lib.hid hc
    clear hc hkv
    clear hmay
    go_enter Tryz.func97, Tryz.ntmps97
    go_wp2_with fail
    (with_reducible refine Hc.out.mono ?_)
    rintro _ w3 ⟨rfl, hT3⟩
    have hfin := C2.out.then_ hT3
    rw [Hk2.out] at hfin
    have Hfin := Lib.hid hfin
    clear hT3 hfin
    go_wp2_with fail
    go_end0
    exact ⟨rfl, by rw [hce.out, hwe.out]; exact Hfin.out⟩
  rw [if_neg (by omega)] at hmay
  by_cases hw : Dk.wErr i s.length = 0
  rotate_left
  · rw [decide_eq_false hw] at hfits
    have hwe : Hid ((Dk.write0 Dc f i s).1 = Dc) := by
      show _ = _
      unfold Dk.write0
      rw [if_neg (by rw [hmay]; decide), if_pos hw]
    have C2 : Hid (RCame B w r D Dc (w.setCell ⟨r.rb, 4, none⟩ (.int .i64 0)) r) := ⟨S1.out.1, S1.out.2.1, rfl, S1.out.2.2.mono (fun k _ e => Or.inl e), fun j e => Or.inl e⟩
    have Hk2 : Hid (Dc.keep = D.keep) := Hk.out
    have hc := crash_r C2.out.at1 (g.upd C2.out.upd) (Nat.le_trans HB.out C2.out.upd.size) B _ _ _ (keep_slR C2.out.at1) C2.out.at1.kI
    rw [C2.out.rb] at hc
    have c5 := C2.out.at1.cells.2.2.2.2.2
    rw [C2.out.rb] at c5
    obtain ⟨ak, ck, hkv⟩ := own_slD C2.out.at1.keep
    rw [hkv] at hc c5
    have Hc := Lib.hid hc
    clear hc hkv
    clear hmay hw
    go_enter Tryz.func97, Tryz.ntmps97
    go_wp2_with fail
    (with_reducible refine (hfits.out).mono ?_)
    rintro _ _ ⟨rfl, rfl⟩
    go_wp2_with fail
    (with_reducible refine Hc.out.mono ?_)
    rintro _ w3 ⟨rfl, hT3⟩
    have hfin := C2.out.then_ hT3
    rw [Hk2.out] at hfin
    have Hfin := Lib.hid hfin
    clear hT3 hfin
    go_wp2_with fail
    go_end0
    exact ⟨rfl, by rw [hce.out, hwe.out]; exact Hfin.out⟩
  · rw [decide_eq_true hw] at hfits
    have hwe : Hid ((Dk.write0 Dc f i s).1 = Dk.add Dc f i.toNat s) := by
      show _ = _
      unfold Dk.write0
      rw [if_neg (by rw [hmay]; decide), if_neg (by rw [hw]; decide)]
    have hwo := Dk.wErr_ok hw
    obtain ⟨i, rfl⟩ : ∃ m : Nat, i = m := ⟨i.toNat, by omega⟩
    rw [Int.toNat_natCast] at hwo hwe
    have had := add_r S1.out.2.1 (g.upd S1.out.2.2) (Nat.le_trans HB.out S1.out.2.2.size) (f := f) ⟨hf0, by omega⟩ s hwo.2
    have Had := Lib.hid had
    have Hk2 : Hid ((Dk.add Dc f i s).keep = D.keep) := by
      show _ = _
      rw [← Hk.out]; unfold Dk.add; split <;> rfl
    clear had hmay hw hwo
    go_enter Tryz.func97, Tryz.ntmps97
    go_wp2_with fail
    (with_reducible refine (hfits.out).mono ?_)
    rintro _ _ ⟨rfl, rfl⟩
    go_wp2_with fail
    (with_reducible refine (Had.out).mono ?_)
    rintro _ w2 ⟨rfl, hT2⟩
    obtain ⟨r2, C2⟩ := RDTo.came S1.out.1 (RDTo.then_ S1.out.1 S1.out.2.1 rfl (S1.out.2.2.mono (fun k _ e => Or.inl e)) (fun j e => Or.inl e) hT2)
    replace C2 := Lib.hid C2
    clear hT2 Had
    have hc := crash_r C2.out.at1 (g.upd C2.out.upd) (Nat.le_trans HB.out C2.out.upd.size) B _ _ _ (keep_slR C2.out.at1) C2.out.at1.kI
    rw [C2.out.rb] at hc
    have c5 := C2.out.at1.cells.2.2.2.2.2
    rw [C2.out.rb] at c5
    obtain ⟨ak, ck, hkv⟩ := own_slD C2.out.at1.keep
    rw [hkv] at hc c5
    have Hc := Lib.hid hc
    clear hc hkv
    go_wp2_with fail
    (with_reducible refine Hc.out.mono ?_)
    rintro _ w3 ⟨rfl, hT3⟩
    have hfin := C2.out.then_ hT3
    rw [Hk2.out] at hfin
    have Hfin := Lib.hid hfin
    clear hT3 hfin
    go_wp2_with fail
    go_end0
    exact ⟨rfl, by rw [hce.out, hwe.out]; exact Hfin.out⟩
end
end Go.Proofs.YtmlmdlbepppnlaaGreatDoor
namespace Go.Proofs.YtmlmdlbepppnlaaGreatDoor
open Go.RowKit
set_option linter.unusedVariables false
set_option linter.unusedSimpArgs false
attribute [local irreducible] Calls

theorem crash_down (D : Dk.Disk) (keep : List Int) : (Dk.crash D keep).down = true := by
  unfold Dk.crash
  split
  · assumption
  · rfl
theorem may_down {D : Dk.Disk} (h : D.down = true) (f : Int) : Dk.may D f = 8 := by unfold Dk.may; rw [if_pos h]
theorem write_comes (D : Dk.Disk) (f i : Int) (s : List UInt8) : Dk.write D f i s = Dk.write0 (comesD D f i s) f i s := by
  unfold Dk.write comesD
  by_cases he : Dk.ends D = true
  · rw [if_pos he, if_pos he, counted_keep]
    have hm := may_down (crash_down (Dk.write0 (Dk.counted D) f i s).1 D.keep) f
    have e0 : ∀ X : Dk.Disk, Dk.may X f ≠ 0 → Dk.write0 X f i s = (X, Dk.may X f) := fun X h => by unfold Dk.write0; rw [if_pos h]
    have e1 := e0 _ (show Dk.may (Dk.crash (Dk.write0 (Dk.counted D) f i s).1 D.keep) f ≠ 0 by rw [hm]; decide)
    rw [hm] at e1
    exact e1.symm
  · rw [if_neg he, if_neg he]
theorem new_rd (w : World) (g : Gl w) : Calls Tryz.prog 10 #[] w fun e w' => ∃ r, e = .returned (.pointer (some ⟨r.rb, 0, none⟩)) ∧ RDAt w.heap.size w' r Dk.new ∧ Nw w w' := by
  have hgb := g.big
  have n1 := nw_alloc w (.cells #[.slice none 0 0, .slice none 0 0, .int .i64 0, .bool false, .int .i64 0, .slice none 0 0] tRDisk)
  have k1 := heap_new w (.cells #[.slice none 0 0, .slice none 0 0, .int .i64 0, .bool false, .int .i64 0, .slice none 0 0] tRDisk)
  have K := Lib.hid (And.intro n1 k1)
  clear n1 k1
  go_enter Tryz.func10, Tryz.ntmps10
  go_wp2_with fail
  go_ret
  exact ⟨⟨w.heap.size, .slice none 0 0, .slice none 0 0, .slice none 0 0⟩, rfl, ⟨hgb, Nat.le_refl _, K.out.2, ⟨[], World.ownsRow_nil _ _ _ _, SaysR.new⟩, World.ownsRow_nil _ _ _ _, World.ownsRow_nil _ _ _ _, Dk.new_ok, fun x hx => by cases hx⟩, K.out.1⟩
section
variable {B : Nat} {w w1 w2 : World} {r r1 : RdR} {D D' D1 D2 : Dk.Disk}
theorem i64_max {n : Int} (h : I64 n) : max n 0 ≤ 9223372036854775807 := by unfold I64 at h; omega
theorem lose_rd (h : RDAt B w r D) {n : Int} (hn : I64 n) : Calls Tryz.prog 26 #[.pointer (some ⟨r.rb, 0, none⟩), .int .i64 n] w fun e w' => e = .returned (.tuple #[]) ∧ RDTo B r (Dk.lose D n) w w' := by
  obtain ⟨_, _, c2, _⟩ := h.cells
  have f2 := h.frozen 2
  obtain ⟨s1, u1⟩ := h.scal (D' := Dk.lose D n) 2 (.int .i64 (max n 0)) rfl rfl rfl rfl (Dk.lose_ok h.ok hn.2)
  have hT : Hid (RDTo B r (Dk.lose D n) w (w.setCell ⟨r.rb, 2, none⟩ (.int .i64 (max n 0)))) := ⟨r, s1, rfl, u1.mono (fun k _ e => Or.inl e), fun j e => Or.inl e⟩
  clear h s1 u1
  go_enter Tryz.func26, Tryz.ntmps26
  go_wp2_with fail
  go_end0
  exact ⟨rfl, hT.out⟩
theorem start_rd (h : RDAt B w r D) : Calls Tryz.prog 32 #[.pointer (some ⟨r.rb, 0, none⟩)] w fun e w' => e = .returned (.tuple #[]) ∧ RDTo B r (Dk.start D) w w' := by
  obtain ⟨_, _, _, c3, _⟩ := h.cells
  have f3 := h.frozen 3
  obtain ⟨s1, u1⟩ := h.scal (D' := Dk.start D) 3 (.bool false) rfl rfl rfl rfl (Dk.start_ok h.ok)
  have hT : Hid (RDTo B r (Dk.start D) w (w.setCell ⟨r.rb, 3, none⟩ (.bool false))) := ⟨r, s1, rfl, u1.mono (fun k _ e => Or.inl e), fun j e => Or.inl e⟩
  clear h s1 u1
  go_enter Tryz.func32, Tryz.ntmps32
  go_wp2_with fail
  go_end0
  exact ⟨rfl, hT.out⟩
theorem keep_done_r {z : World} (h : RDAt B w r D) (u : Nw w z) {keep : List Int} (hkI : ∀ x ∈ keep, I64 x) {v' : Value} {B0 : Nat} (hB0 : w.heap.size ≤ B0) (ho : z.ownsRow B0 tIntD 1 v' keep.length (keep.map intD)) :
    RDTo B r { D with keep := keep } w (z.setCell ⟨r.rb, 5, none⟩ v') := by
  have hz := h.nw u
  have hrw := (h.foot_lt (Or.inl rfl)).2
  have hrB := (h.foot_lt (Or.inl rfl)).1
  have hg : nG ≤ r.rb := Nat.le_trans h.hb h.rb
  have hv : ∀ k, v'.ownBlock = some k → w.heap.size ≤ k := fun k e => Nat.le_trans hB0 (own_blockD ho e).1
  have U : Upd (fun k => k = r.rb) z (z.setCell ⟨r.rb, 5, none⟩ v') := Upd.set1 (Upd.refl _ _) hg 5 _
  obtain ⟨l, hl, _⟩ := hz.files
  refine ⟨⟨r.rb, r.fv, r.qv, v'⟩, ⟨h.hb, h.rb, ?_, ?_, ?_, ?_, ⟨h.ok.now, h.ok.last, h.ok.q, h.ok.nd, h.ok.lost, h.ok.armed⟩, hkI⟩, rfl, (Nw.trans u U).mono (fun k _ e => Or.inl e), ?_⟩
  · have := setCell_block hz.blk 5 v'
    unfold rdC at this ⊢
    exact this
  · exact hz.files.upd U (fun k hk e => own_blk hl hz.blk (by decide) (by rw [← e]; exact hk))
  · exact owns_updD hz.queue U (fun k hk e => own_blk hz.queue hz.blk (by decide) (by rw [← e]; exact hk))
  · exact owns_base (owns_updD ho U (fun k hk e => by subst e; have := hv _ hk; omega)) (by omega)
  · rintro j (e | e | e | e)
    · exact Or.inl (Or.inl e)
    · exact Or.inl (Or.inr (Or.inl e))
    · exact Or.inl (Or.inr (Or.inr (Or.inl e)))
    · exact Or.inr (hv j e)
set_option maxRecDepth 100000 in
theorem arm_rd (h : RDAt B w r D) (g : Gl w) {n : Int} (hn : I64 n) (lo hi : Nat) (hhi : hi ≤ B) (v : Value) (keep : List Int) (hkI : ∀ x ∈ keep, I64 x) (hs : Sl lo hi w v (keep.map intD)) (hL : keep.length ≤ 1000000000) :
    Calls Tryz.prog 28 #[.pointer (some ⟨r.rb, 0, none⟩), .int .i64 n, v] w fun e w' => e = .returned (.tuple #[]) ∧ RDTo B r (Dk.arm D n keep) w w' := by
  have hgb := g.big
  obtain ⟨_, _, _, _, c4, _⟩ := h.cells
  have f4 := h.frozen 4
  have hrB := (h.foot_lt (Or.inl rfl)).1
  obtain ⟨s1, u1⟩ := h.scal (D' := { D with armed := max n 0 }) 4 (.int .i64 (max n 0)) rfl rfl rfl rfl ⟨h.ok.now, h.ok.last, h.ok.q, h.ok.nd, h.ok.lost, ⟨by dsimp only; omega, by dsimp only; exact i64_max hn⟩⟩
  obtain ⟨a, cap, rfl, _, hc⟩ := int_cells hs
  have n1 := nw_alloc (w.setCell ⟨r.rb, 4, none⟩ (.int .i64 (max n 0))) (.cells #[] tIntD)
  have o1 := owns_emptyD (w.setCell ⟨r.rb, 4, none⟩ (.int .i64 (max n 0))) tIntD 1
  have hsz : (w.setCell ⟨r.rb, 4, none⟩ (.int .i64 (max n 0))).heap.size = w.heap.size := by simp
  rw [hsz] at o1
  have Hsz := Lib.hid hsz
  have Hs := Lib.hid ((hs.upd u1 (fun k _ hk s => by have := s; omega)).nw n1)
  have H := Lib.hid (And.intro h (And.intro s1 (And.intro u1 hkI)))
  have N1 := Lib.hid n1
  have HL := Lib.hid hL
  clear h s1 u1 hkI n1 hL hc hsz
  go_enter Tryz.func28, Tryz.ntmps28
  go_wp2_with (at_builtin; go_loud (refine wpList_catA rfl _ _ 26 rfl w.heap.size lo hi tIntD _ 8 Tryz.underlying26 infoIntD rfl _ _ _ _ _ rfl o1 rfl Hs.out ?c1 ?c2 ?c3 ?c4 ?_))
  case c1 =>
    intro u hu
    obtain ⟨x, _, rfl⟩ := List.mem_map.1 hu
    rfl
  case c2 => have := HL.out; unfold maxLen; rw [List.length_map]; omega
  case c3 => have := HL.out; rw [List.length_map]; omega
  case c4 => simp
  intro v' w2 hown hgrow hob
  have u2 : Nw (w.setCell ⟨r.rb, 4, none⟩ (.int .i64 (max n 0))) w2 := N1.out.grown hgrow (fun k hk => ⟨Or.inr (by rw [Hsz.out]; exact (hob k hk).1), by have := (hob k hk).1; have := Hsz.out; omega⟩)
  (try simp only [List.nil_append, List.length_map, Nat.zero_add] at hown)
  have c5 := (H.out.2.1.nw u2).cells.2.2.2.2.2
  have f5 := (H.out.2.1.nw u2).frozen 5
  have hT := keep_done_r H.out.2.1 u2 H.out.2.2.2 (Nat.le_of_eq Hsz.out) hown
  have hz : Hid (RDTo B r (Dk.arm D n keep) w (w2.setCell ⟨r.rb, 5, none⟩ v')) := RDTo.then_ H.out.1 H.out.2.1 rfl (H.out.2.2.1.mono (fun k _ e => Or.inl e)) (fun j e => Or.inl e) hT
  obtain ⟨a2, c2, rfl⟩ := own_slD hown
  clear hT hown hgrow hob u2
  go_wp2_with fail
  go_end0
  exact ⟨rfl, hz.out⟩
set_option maxHeartbeats 1000000 in
set_option maxRecDepth 100000 in
theorem read_rd (h : RDAt B w r D) {f i n : Int} (hf : I64 f) (hi : I64 i) (hn : I64 n) :
    Calls Tryz.prog 74 #[.pointer (some ⟨r.rb, 0, none⟩), .int .i64 f, .int .i64 i, .int .i64 n] w fun e w' => e = .returned (.tuple #[.string ⟨(Dk.read D f i n).1.toArray⟩, .int .i64 (Dk.read D f i n).2]) ∧ Nw w w' := by
  have hm := Lib.hid (may_r h f)
  have hg := Lib.hid (get_r h f)
  have hnow := h.ok.now f
  have hf1 := rfield1 f (D.fs f)
  have Hf := Lib.hid hf1
  clear hf1
  generalize hA : (D.fs f).now = s at *
  generalize (D.fs f).last = s2 at *
  have Hnow := Lib.hid hnow
  clear h hnow
  by_cases hm0 : Dk.may D f = 0
  rotate_left
  · have hr : Hid (Dk.read D f i n = ([], Dk.may D f)) := by show _ = _; unfold Dk.read; rw [if_pos hm0]
    have d0 : (Dk.may D f == 0) = false := beq_eq_false_iff_ne.2 hm0
    have d1 : (Dk.may D f != 0) = true := by simp [hm0]
    clear hm0 hA
    go_enter Tryz.func74, Tryz.ntmps74
    go_wp2_with fail
    (with_reducible refine (hm.out).mono ?_)
    rintro _ _ ⟨rfl, rfl⟩
    go_wp2_with fail
    go_ret2
    exact ⟨by rw [hr.out]; rfl, Upd.refl _ _⟩
  have hr0 : Dk.read D f i n = if i < 0 ∨ n < 0 then ([], 1) else ((s.drop i.toNat).take n.toNat, 0) := by unfold Dk.read; rw [if_neg (by omega), hA]
  rw [hm0] at hm
  clear hA hm0
  by_cases h1 : i < 0
  · have hr : Hid (Dk.read D f i n = ([], 1)) := by show _ = _; rw [hr0, if_pos (Or.inl h1)]
    clear hr0
    go_enter Tryz.func74, Tryz.ntmps74
    go_wp2_with fail
    (with_reducible refine (hm.out).mono ?_)
    rintro _ _ ⟨rfl, rfl⟩
    go_wp2_with fail
    go_ret2
    exact ⟨by rw [hr.out]; rfl, Upd.refl _ _⟩
  by_cases h2 : n < 0
  · have hr : Hid (Dk.read D f i n = ([], 1)) := by show _ = _; rw [hr0, if_pos (Or.inr h2)]
    clear hr0
    go_enter Tryz.func74, Tryz.ntmps74
    go_wp2_with fail
    (with_reducible refine (hm.out).mono ?_)
    rintro _ _ ⟨rfl, rfl⟩
    go_wp2_with fail
    go_ret2
    exact ⟨by rw [hr.out]; rfl, Upd.refl _ _⟩
  have hr : Hid (Dk.read D f i n = ((s.drop i.toNat).take n.toNat, 0)) := by show _ = _; rw [hr0, if_neg (by omega)]
  clear hr0
  obtain ⟨i, rfl⟩ : ∃ m : Nat, i = m := ⟨i.toNat, by omega⟩
  obtain ⟨n, rfl⟩ : ∃ m : Nat, n = m := ⟨n.toNat, by omega⟩
  have hsl : (s.length : Int) ≤ 16777216 := by have := Hnow.out; omega
  by_cases h3 : s.length ≤ i
  · have hr2 : Hid ((s.drop ((i : Int)).toNat).take ((n : Int)).toNat = []) := by
      show _ = _
      rw [List.drop_of_length_le (by omega), List.take_nil]
    have h3' : (s.length : Int) ≤ i := by omega
    clear h1 h2 h3
    go_enter Tryz.func74, Tryz.ntmps74
    go_wp2_with fail
    (with_reducible refine (hm.out).mono ?_)
    rintro _ _ ⟨rfl, rfl⟩
    go_wp2_with fail
    (with_reducible refine (hg.out).mono ?_)
    rintro _ w1 ⟨rfl, u1⟩
    go_wp2_with (with_reducible refine wpList_fieldL (o := ⟨some 27, _, _, _, _, _⟩) rfl _ tRFile 1 rfl _ _ (Hf.out _) (by with_unfolding_all rfl) ?_)
    go_ret2
    exact ⟨by rw [hr.out, hr2.out]; rfl, u1⟩
  · obtain ⟨m, hm1⟩ : ∃ m, m = min n (s.length - i) := ⟨_, rfl⟩
    have hmi : min (n : Int) ((s.length : Int) - i) = m := by omega
    have hb1 : (i : Int) + m ≤ s.length := by omega
    have h3' : ¬ (s.length : Int) ≤ i := by omega
    have hr2 : Hid ((s.drop ((i : Int)).toNat).take ((n : Int)).toNat = (s.drop i).take m) := by
      show _ = _
      rw [Int.toNat_natCast, Int.toNat_natCast]
      rw [hm1, ← List.length_drop, ← List.take_eq_take_min]
    have hsl2 : ∀ z : World, (Instr.slice 9 (.string ⟨s.toArray⟩) (some (.int .i64 i)) (some (.int .i64 ((i : Int) + m))) none).run Tryz.prog z = .ok (.string ⟨((s.drop i).take m).toArray⟩) z := fun z => by
      have := run_slice_string (P := Tryz.prog) z 9 ⟨s.toArray⟩ .i64 .i64 (i : Int) ((i : Int) + m) Tryz.underlying9 (by omega) (by omega) (by rw [bs_size, bs_list]; exact hb1)
      rw [show ((i : Int) + m).toNat = i + m by omega, Int.toNat_natCast, ← bs_eta ((⟨s.toArray⟩ : ByteArray).extract i (i + m)), bs_extract, bs_list, Nat.add_sub_cancel_left] at this
      exact this
    clear h1 h2 h3 hm1
    go_enter Tryz.func74, Tryz.ntmps74
    go_wp2_with fail
    (with_reducible refine (hm.out).mono ?_)
    rintro _ _ ⟨rfl, rfl⟩
    go_wp2_with fail
    (with_reducible refine (hg.out).mono ?_)
    rintro _ w1 ⟨rfl, u1⟩
    go_wp2_with (with_reducible refine wpList_fieldL (o := ⟨some 27, _, _, _, _, _⟩) rfl _ tRFile 1 rfl _ _ (Hf.out _) (by with_unfolding_all rfl) ?_)
    go_ret2
    exact ⟨by rw [hr.out, hr2.out] <;> rfl, u1⟩
set_option maxHeartbeats 1000000 in
set_option maxRecDepth 100000 in
theorem write_rd (h : RDAt B w r D) (g : Gl w) (hB : B ≤ w.heap.size) {f i : Int} (hf : I64 f) (hi : I64 i) (s : List UInt8) (hs : s.length ≤ 1000000000) :
    Calls Tryz.prog 82 #[.pointer (some ⟨r.rb, 0, none⟩), .int .i64 f, .int .i64 i, .string ⟨s.toArray⟩] w fun e w' => e = .returned (.int .i64 (Dk.write D f i s).2) ∧ RDTo B r (Dk.write D f i s).1 w w' := by
  have hgb := g.big
  have hcm := Lib.hid (comes_r h g hB hf hi s hs)
  have hwe : Hid (Dk.write D f i s = Dk.write0 (comesD D f i s) f i s) := write_comes D f i s
  have H := Lib.hid (And.intro h hB)
  generalize comesD D f i s = D1 at *
  clear h hB
  go_enter Tryz.func82, Tryz.ntmps82
  go_wp2_with fail
  (with_reducible refine (hcm.out).mono ?_)
  rintro _ w1 ⟨rfl, hT⟩
  obtain ⟨r1, hC⟩ := RDTo.came H.out.1 hT
  have C1 := Lib.hid hC
  have hm := may_r C1.out.at1 f
  rw [C1.out.rb] at hm
  have Hm := Lib.hid hm
  have hfits := Lib.hid (fits_r i hi s hs w1)
  clear hT hC hm hcm
  by_cases hm0 : Dk.may D1 f = 0
  rotate_left
  · have hr : Hid (Dk.write D f i s = (D1, Dk.may D1 f)) := by show _ = _; rw [hwe.out]; unfold Dk.write0; rw [if_pos hm0]
    have d0 : (Dk.may D1 f == 0) = false := beq_eq_false_iff_ne.2 hm0
    have d1 : (Dk.may D1 f != 0) = true := by simp [hm0]
    clear hm0
    go_wp2_with fail
    (with_reducible refine (Hm.out).mono ?_)
    rintro _ _ ⟨rfl, rfl⟩
    go_wp2_with fail
    go_ret
    exact ⟨by rw [hr.out] <;> rfl, by rw [hr.out]; exact C1.out.to⟩
  have hwr : Dk.write D f i s = if Dk.wErr i s.length ≠ 0 then (D1, Dk.wErr i s.length) else (Dk.add D1 f i.toNat s, 0) := by rw [hwe.out]; unfold Dk.write0; rw [if_neg (by omega)]
  have hfile := Dk.may_file hm0
  rw [hm0] at Hm
  clear hwe hm0
  by_cases hi0 : i < 0
  · have hr : Hid (Dk.write D f i s = (D1, 1)) := by
      have : Dk.wErr i s.length = 1 := by unfold Dk.wErr; rw [if_pos hi0]
      show _ = _; rw [hwr, this, if_pos (by decide)]
    clear hwr
    go_wp2_with fail
    (with_reducible refine (Hm.out).mono ?_)
    rintro _ _ ⟨rfl, rfl⟩
    go_wp2_with fail
    go_ret
    exact ⟨by rw [hr.out] <;> rfl, by rw [hr.out]; exact C1.out.to⟩
  by_cases hw : Dk.wErr i s.length = 0
  rotate_left
  · have hr : Hid (Dk.write D f i s = (D1, 6)) := by
      have : Dk.wErr i s.length = 6 := by
        unfold Dk.wErr at hw ⊢
        rw [if_neg hi0] at hw ⊢
        split at hw
        · rw [if_pos (by assumption)]
        · exact absurd rfl hw
      show _ = _; rw [hwr, this, if_pos (by decide)]
    rw [decide_eq_false hw] at hfits
    clear hwr hw
    go_wp2_with fail
    (with_reducible refine (Hm.out).mono ?_)
    rintro _ _ ⟨rfl, rfl⟩
    go_wp2_with fail
    (with_reducible refine (hfits.out).mono ?_)
    rintro _ _ ⟨rfl, rfl⟩
    go_wp2_with fail
    go_ret
    exact ⟨by rw [hr.out] <;> rfl, by rw [hr.out]; exact C1.out.to⟩
  · rw [decide_eq_true hw] at hfits
    have hwo := Dk.wErr_ok hw
    have hr : Hid (Dk.write D f i s = (Dk.add D1 f i.toNat s, 0)) := by show _ = _; rw [hwr, if_neg (by omega)]
    obtain ⟨i, rfl⟩ : ∃ m : Nat, i = m := ⟨i.toNat, by omega⟩
    rw [Int.toNat_natCast] at hwo hr
    have had := add_r C1.out.at1 (g.upd C1.out.upd) (Nat.le_trans H.out.2 C1.out.upd.size) hfile.2 s hwo.2
    rw [C1.out.rb] at had
    have Had := Lib.hid had
    clear had hwr hw hwo
    go_wp2_with fail
    (with_reducible refine (Hm.out).mono ?_)
    rintro _ _ ⟨rfl, rfl⟩
    go_wp2_with fail
    (with_reducible refine (hfits.out).mono ?_)
    rintro _ _ ⟨rfl, rfl⟩
    go_wp2_with fail
    (with_reducible refine (Had.out).mono ?_)
    rintro _ w2 ⟨rfl, hT2⟩
    have HT2 := Lib.hid (C1.out.then_ hT2)
    clear hT2 Had
    go_wp2_with fail
    go_ret
    exact ⟨by rw [hr.out] <;> rfl, by rw [hr.out]; exact HT2.out⟩
set_option maxHeartbeats 1000000 in
set_option maxRecDepth 100000 in
theorem sync_rd (h : RDAt B w r D) (g : Gl w) (hB : B ≤ w.heap.size) {f : Int} (hf : I64 f) :
    Calls Tryz.prog 73 #[.pointer (some ⟨r.rb, 0, none⟩), .int .i64 f] w fun e w' => e = .returned (.int .i64 (Dk.sync D f).2) ∧ RDTo B r (Dk.sync D f).1 w w' := by
  have hgb := g.big
  have hcm := comes_r h g hB (f := 0) (i := 0) (by unfold I64; omega) (by unfold I64; omega) [] (by simp)
  rw [comesD_come] at hcm
  have Hcm := Lib.hid hcm
  have H := Lib.hid (And.intro h hB)
  clear h hB hcm
  have hr0 : Dk.sync D f = if Dk.may (Dk.come D) f ≠ 0 then (Dk.come D, Dk.may (Dk.come D) f) else if 0 < (Dk.come D).lost then ({ Dk.come D with lost := (Dk.come D).lost - 1 }, 9) else (Dk.settle (Dk.come D) f ((Dk.come D).fs f).now, 0) := rfl
  generalize Dk.come D = D1 at *
  go_enter Tryz.func73, Tryz.ntmps73
  go_wp2_with fail
  (with_reducible refine (Hcm.out).mono ?_)
  rintro _ w1 ⟨rfl, hT⟩
  obtain ⟨r1, hC⟩ := RDTo.came H.out.1 hT
  have C1 := Lib.hid hC
  have hm := may_r C1.out.at1 f
  rw [C1.out.rb] at hm
  have Hm := Lib.hid hm
  clear hT hC hm Hcm
  by_cases hm0 : Dk.may D1 f = 0
  rotate_left
  · have hr : Hid (Dk.sync D f = (D1, Dk.may D1 f)) := by show _ = _; rw [hr0, if_pos hm0]
    have d0 : (Dk.may D1 f == 0) = false := beq_eq_false_iff_ne.2 hm0
    have d1 : (Dk.may D1 f != 0) = true := by simp [hm0]
    clear hm0 hr0
    go_wp2_with fail
    (with_reducible refine (Hm.out).mono ?_)
    rintro _ _ ⟨rfl, rfl⟩
    go_wp2_with fail
    go_ret
    exact ⟨by rw [hr.out] <;> rfl, by rw [hr.out]; exact C1.out.to⟩
  rw [hm0] at Hm
  rw [if_neg (by omega)] at hr0
  have hfile := Dk.may_file hm0
  have c2 := C1.out.at1.cells.2.2.1
  have f2 := C1.out.at1.frozen 2
  rw [C1.out.rb] at c2 f2
  have hlo := C1.out.at1.ok.lost
  clear hm0
  by_cases hl : 0 < D1.lost
  · have hr : Hid (Dk.sync D f = ({ D1 with lost := D1.lost - 1 }, 9)) := by show _ = _; rw [hr0, if_pos hl]
    obtain ⟨s1, u1⟩ := C1.out.at1.scal (D' := { D1 with lost := D1.lost - 1 }) 2 (.int .i64 (D1.lost - 1)) rfl rfl rfl rfl ⟨C1.out.at1.ok.now, C1.out.at1.ok.last, C1.out.at1.ok.q, C1.out.at1.ok.nd, ⟨by dsimp only; omega, by dsimp only; omega⟩, C1.out.at1.ok.armed⟩
    have hTT := C1.out.then_ (D2 := { D1 with lost := D1.lost - 1 }) ⟨r1, s1, rfl, u1.mono (fun k _ e => Or.inl e), fun j e => Or.inl e⟩
    rw [C1.out.rb] at hTT
    have HT := Lib.hid hTT
    have hl1 : 0 ≤ D1.lost - 1 := by omega
    have hl2 : D1.lost ≤ 9223372036854775807 := hlo.2
    clear hTT hr0 hlo s1 u1
    go_wp2_with fail
    (with_reducible refine (Hm.out).mono ?_)
    rintro _ _ ⟨rfl, rfl⟩
    go_wp2_with fail
    go_ret
    exact ⟨by rw [hr.out] <;> rfl, by rw [hr.out]; exact HT.out⟩
  have hr : Hid (Dk.sync D f = (Dk.settle D1 f (D1.fs f).now, 0)) := by show _ = _; rw [hr0, if_neg hl]
  have hg := get_r C1.out.at1 f
  have hf1 := rfield1 f (D1.fs f)
  have hst := fun (z : World) (u : Nw w1 z) => settle_r (C1.out.at1.nw u) (g.upd (C1.out.upd.nw u)) (Nat.le_trans H.out.2 (C1.out.upd.nw u).size) hfile.2 (D1.fs f).now (C1.out.at1.ok.now f)
  rw [C1.out.rb] at hg hst
  have Hst := Lib.hid hst
  have Hg := Lib.hid hg
  have Hf := Lib.hid hf1
  clear hg hst hr0 hf1 hlo
  go_wp2_with fail
  (with_reducible refine (Hm.out).mono ?_)
  rintro _ _ ⟨rfl, rfl⟩
  go_wp2_with fail
  (with_reducible refine (Hg.out).mono ?_)
  rintro _ w2 ⟨rfl, u2⟩
  go_wp2_with (with_reducible refine wpList_fieldL (o := ⟨some 31, _, _, _, _, _⟩) rfl _ tRFile 1 rfl _ _ (Hf.out _) (by with_unfolding_all rfl) ?_)
  (with_reducible refine (Hst.out _ u2).mono ?_)
  rintro _ w3 ⟨rfl, hT3⟩
  have HT3 := Lib.hid (C1.out.then_ (RDTo.after u2 hT3))
  clear hT3
  go_wp2_with fail
  go_ret
  exact ⟨by rw [hr.out] <;> rfl, by rw [hr.out]; exact HT3.out⟩
set_option maxHeartbeats 1000000 in
set_option maxRecDepth 100000 in
theorem truncate_rd (h : RDAt B w r D) (g : Gl w) (hB : B ≤ w.heap.size) {f n : Int} (hf : I64 f) (hn : I64 n) :
    Calls Tryz.prog 78 #[.pointer (some ⟨r.rb, 0, none⟩), .int .i64 f, .int .i64 n] w fun e w' => e = .returned (.int .i64 (Dk.truncate D f n).2) ∧ RDTo B r (Dk.truncate D f n).1 w w' := by
  have hgb := g.big
  have hcm := comes_r h g hB (f := 0) (i := 0) (by unfold I64; omega) (by unfold I64; omega) [] (by simp)
  rw [comesD_come] at hcm
  have Hcm := Lib.hid hcm
  have H := Lib.hid (And.intro h hB)
  clear h hB hcm
  have hr0 : Dk.truncate D f n = if Dk.may (Dk.come D) f ≠ 0 then (Dk.come D, Dk.may (Dk.come D) f) else if n < 0 ∨ ((((Dk.come D).fs f).now.length : Nat) : Int) < n then (Dk.come D, 1) else (Dk.settle (Dk.come D) f (((Dk.come D).fs f).now.take n.toNat), 0) := rfl
  generalize Dk.come D = D1 at *
  go_enter Tryz.func78, Tryz.ntmps78
  go_wp2_with fail
  (with_reducible refine (Hcm.out).mono ?_)
  rintro _ w1 ⟨rfl, hT⟩
  obtain ⟨r1, hC⟩ := RDTo.came H.out.1 hT
  have C1 := Lib.hid hC
  have hm := may_r C1.out.at1 f
  rw [C1.out.rb] at hm
  have Hm := Lib.hid hm
  clear hT hC hm Hcm
  by_cases hm0 : Dk.may D1 f = 0
  rotate_left
  · have hr : Hid (Dk.truncate D f n = (D1, Dk.may D1 f)) := by show _ = _; rw [hr0, if_pos hm0]
    have d0 : (Dk.may D1 f == 0) = false := beq_eq_false_iff_ne.2 hm0
    have d1 : (Dk.may D1 f != 0) = true := by simp [hm0]
    clear hm0 hr0
    go_wp2_with fail
    (with_reducible refine (Hm.out).mono ?_)
    rintro _ _ ⟨rfl, rfl⟩
    go_wp2_with fail
    go_ret
    exact ⟨by rw [hr.out] <;> rfl, by rw [hr.out]; exact C1.out.to⟩
  rw [hm0] at Hm
  rw [if_neg (by omega)] at hr0
  have hfile := Dk.may_file hm0
  clear hm0
  have hg := get_r C1.out.at1 f
  have hf1 := rfield1 f (D1.fs f)
  have hnow := C1.out.at1.ok.now f
  have hst := fun (z : World) (u : Nw w1 z) => settle_r (C1.out.at1.nw u) (g.upd (C1.out.upd.nw u)) (Nat.le_trans H.out.2 (C1.out.upd.nw u).size) hfile.2 ((D1.fs f).now.take n.toNat) (by rw [List.length_take]; omega)
  rw [C1.out.rb] at hg hst
  generalize (D1.fs f).now = s at *
  generalize (D1.fs f).last = s2 at *
  have Hst := Lib.hid hst
  have Hg := Lib.hid hg
  have Hf := Lib.hid hf1
  have hsl : (s.length : Int) ≤ 16777216 := by omega
  clear hg hst hf1 hnow
  by_cases hn0 : n < 0
  · have hr : Hid (Dk.truncate D f n = (D1, 1)) := by show _ = _; rw [hr0, if_pos (Or.inl hn0)]
    have HT := Lib.hid (fun (z : World) (u : Nw w1 z) => C1.out.then_ (RDTo.of_nw C1.out.at1 u))
    clear hr0
    go_wp2_with fail
    (with_reducible refine (Hm.out).mono ?_)
    rintro _ _ ⟨rfl, rfl⟩
    go_wp2_with fail
    (with_reducible refine (Hg.out).mono ?_)
    rintro _ w2 ⟨rfl, u2⟩
    go_wp2_with (with_reducible refine wpList_fieldL (o := ⟨some 20, _, _, _, _, _⟩) rfl _ tRFile 1 rfl _ _ (Hf.out _) (by with_unfolding_all rfl) ?_)
    go_ret
    exact ⟨by rw [hr.out] <;> rfl, by rw [hr.out]; exact HT.out _ u2⟩
  by_cases hn1 : (s.length : Int) < n
  · have hr : Hid (Dk.truncate D f n = (D1, 1)) := by show _ = _; rw [hr0, if_pos (Or.inr hn1)]
    have HT := Lib.hid (fun (z : World) (u : Nw w1 z) => C1.out.then_ (RDTo.of_nw C1.out.at1 u))
    clear hr0
    go_wp2_with fail
    (with_reducible refine (Hm.out).mono ?_)
    rintro _ _ ⟨rfl, rfl⟩
    go_wp2_with fail
    (with_reducible refine (Hg.out).mono ?_)
    rintro _ w2 ⟨rfl, u2⟩
    go_wp2_with (with_reducible refine wpList_fieldL (o := ⟨some 20, _, _, _, _, _⟩) rfl _ tRFile 1 rfl _ _ (Hf.out _) (by with_unfolding_all rfl) ?_)
    go_ret
    exact ⟨by rw [hr.out] <;> rfl, by rw [hr.out]; exact HT.out _ u2⟩
  have hr : Hid (Dk.truncate D f n = (Dk.settle D1 f (s.take n.toNat), 0)) := by show _ = _; rw [hr0, if_neg (by omega)]
  obtain ⟨n, rfl⟩ : ∃ m : Nat, n = m := ⟨n.toNat, by omega⟩
  have hx : (({ data := s.toArray } : ByteArray).extract 0 n) = ⟨(s.take ((n : Int)).toNat).toArray⟩ := by rw [bs_extract]; simp
  rw [← hx] at Hst
  clear hr0 hx
  go_wp2_with fail
  (with_reducible refine (Hm.out).mono ?_)
  rintro _ _ ⟨rfl, rfl⟩
  go_wp2_with fail
  (with_reducible refine (Hg.out).mono ?_)
  rintro _ w2 ⟨rfl, u2⟩
  go_wp2_with (with_reducible refine wpList_fieldL (o := ⟨some 20, _, _, _, _, _⟩) rfl _ tRFile 1 rfl _ _ (Hf.out _) (by with_unfolding_all rfl) ?_)
  (with_reducible refine (Hst.out _ u2).mono ?_)
  rintro _ w3 ⟨rfl, hT3⟩
  have HT3 := Lib.hid (C1.out.then_ (RDTo.after u2 hT3))
  clear hT3
  go_wp2_with fail
  go_ret
  exact ⟨by rw [hr.out] <;> rfl, by rw [hr.out]; exact HT3.out⟩
end
end Go.Proofs.YtmlmdlbepppnlaaGreatDoor
namespace Go.Proofs.YtmlmdlbepppnlaaGreatDoor
open Go.ChangeShapes Go.WideShapes Go.ChangeAt Go.RowKit Go.Joins
set_option linter.unusedVariables false
set_option linter.unusedSimpArgs false

structure Val where
  kind : Int
  n : Int
  s : List UInt8
  l : List Int
  t : List (List UInt8)
/-- The cells cs are those of x. -/
def IsVal (hi : Nat) (w : World) (cs : List Value) (x : Val) : Prop :=
  ∃ vl vt, cs = [.int .i64 x.kind, .int .i64 x.n, .string ⟨x.s.toArray⟩, vl, vt] ∧ Sl 0 hi w vl (x.l.map (Value.int .i64)) ∧ Sl 0 hi w vt (x.t.map fun s => Value.string ⟨s.toArray⟩) ∧ I64 x.kind ∧ I64 x.n ∧ ∀ m ∈ x.l, I64 m
theorem IsVal.nw {hi : Nat} {w w' : World} {cs : List Value} {x : Val} (h : IsVal hi w cs x) (u : Nw w w') : IsVal hi w' cs x := by
  obtain ⟨vl, vt, h1, h2, h3, h4⟩ := h
  exact ⟨vl, vt, h1, h2.nw u, h3.nw u, h4⟩
def Vals (hi : Nat) (w : World) (v : Value) (l : List Val) : Prop :=
  ∃ xs, SlS 5 0 hi w v xs ∧ l.length = xs.length ∧ ∀ i (h1 : i < xs.length) (h2 : i < l.length), IsVal hi w xs[i] l[i]
theorem Vals.nw {hi : Nat} {w w' : World} {v : Value} {l : List Val} (h : Vals hi w v l) (u : Nw w w') : Vals hi w' v l := by
  obtain ⟨xs, h1, h2, h3⟩ := h
  exact ⟨xs, h1.nw u, h2, fun i a b => (h3 i a b).nw u⟩

section
variable {H : Type} {enc : TypeId × Value → H} {w : World} {base : Nat} {sp : Nat → Bool} {held : Bool} {n : Nat} {x : DataW H × List MemPlace}
end
end Go.Proofs.YtmlmdlbepppnlaaGreatDoor
namespace Go.Proofs.YtmlmdlbepppnlaaGreatDoor
open Go.ChangeShapes Go.WideShapes Go.ChangeAt Go.RowKit Go.Joins
set_option linter.unusedVariables false
set_option linter.unusedSimpArgs false
attribute [local irreducible] Calls

structure JOp where
  kind : Int
  s : List UInt8
  n : Int
  keep : List Int
def opL (c : Value × JOp) : List Value := [.int .i64 c.2.kind, .string ⟨c.2.s.toArray⟩, .int .i64 c.2.n, c.1]
/-- The operations C in memory: the keeps' slices beside them. -/
structure OpS (hi : Nat) (w : World) (v : Value) (C : List (Value × JOp)) : Prop where
  sl : SlS 4 0 hi w v (C.map opL)
  each : ∀ c ∈ C, Sl 0 hi w c.1 (c.2.keep.map intD) ∧ I64 c.2.kind ∧ I64 c.2.n ∧ ∀ k ∈ c.2.keep, I64 k
section
variable {H : Type} {enc : TypeId × Value → H} {w : World} {base : Nat} {sp : Nat → Bool} {held : Bool} {n : Nat} {x : DataW H × List MemPlace}
end
theorem OpS.nw {hi : Nat} {w w' : World} {v : Value} {C : List (Value × JOp)} (h : OpS hi w v C) (u : Nw w w') : OpS hi w' v C := ⟨h.sl.nw u, fun c hc => ⟨(h.each c hc).1.nw u, (h.each c hc).2⟩⟩
theorem str_cells {lo hi : Nat} {w : World} {v : Value} {l : List (List UInt8)} (h : Sl lo hi w v (l.map (fun s => Value.string ⟨s.toArray⟩))) :
    ∃ a cap, v = .slice a l.length cap ∧ l.length ≤ maxLen ∧ (l = [] ∨ ∃ b off, a = some ⟨b, off, none⟩ ∧ b < hi ∧ b < w.heap.size ∧ ∀ i (h : i < l.length), w.cell? ⟨b, off + i, none⟩ = some (.string ⟨l[i].toArray⟩)) := by
  obtain ⟨a, cap, rfl, hm, h⟩ := h.open_
  rw [List.length_map] at hm
  refine ⟨a, cap, by rw [List.length_map], hm, ?_⟩
  rcases h with ⟨_, _, h⟩ | ⟨b, off, rfl, _, hb1, hb, hc⟩
  · exact Or.inl (by simpa using h)
  · refine Or.inr ⟨b, off, rfl, hb1, hb, fun i hi => ?_⟩
    have h2 := hc i (by simpa using hi)
    rw [h2, List.getElem?_map, List.getElem?_eq_getElem hi]; rfl
end Go.Proofs.YtmlmdlbepppnlaaGreatDoor
namespace Go.Proofs.YtmlmdlbepppnlaaGreatDoor
open Go.RowKit
set_option linter.unusedVariables false
set_option linter.unusedSimpArgs false
attribute [local irreducible] Calls

set_option maxRecDepth 100000 in
theorem Sum_q (s : List UInt8) (hs : s.length ≤ 1000000000) (w : World) :
    Calls Tryz.prog 104 #[.string ⟨s.toArray⟩] w fun e w' => e = .returned (.int .i64 (Jr.sumN s)) ∧ w = w' := by
  have hs1 : (s.length : Int) ≤ 1000000000 := by omega
  have hs0 : (0 : Int) ≤ s.length := by omega
  clear hs
  go_enter Tryz.func104, Tryz.ntmps104
  go_wp2_with fail
  go_loopw [3, 4] (fun nv iv wr => ∃ k : Nat, k ≤ s.length ∧ iv = .int .i64 k ∧ nv = .int .i64 (Jr.sumN (s.take k)) ∧ w = wr) (fun _ iv _ => s.length - (intOf iv).toNat)
  case atStart => exact ⟨0, Nat.zero_le _, rfl, rfl, rfl⟩
  case round =>
    obtain ⟨k, hk, rfl, rfl, rfl⟩ := hrel
    have hb := Jr.sumN_bd (s.take k)
    by_cases hlt : k < s.length
    · have hn : Jr.sumN (s.take (k + 1)) = (Jr.sumN (s.take k) + s[k].toNat * ((k : Int) + 1)) % 2147483647 := by
        rw [List.take_succ_eq_append_getElem hlt, Jr.sumN_snoc, List.length_take, Nat.min_eq_left (Nat.le_of_lt hlt)]
      have hc : s[k].toNat < 256 := s[k].toNat_lt
      go_wp2_with fail
      go_roundw
      case rel => 
        refine ⟨k + 1, by omega, by go_num, ?_, trivial⟩
        rw [hn]
        exact congrArg (Value.int .i64) (sum_step hb.1 hb.2 s[k].toNat hc k (by omega))
      case measure => simp [intOf]; omega
    · obtain rfl : k = s.length := by omega
      have ht : s.take s.length = s := List.take_length
      rw [ht]
      go_wp2_with fail
      go_ret
      exact ⟨rfl, rfl⟩
set_option maxRecDepth 100000 in
theorem Form_q (s : List UInt8) (hs : s.length ≤ 1000000000) (w : World) :
    Calls Tryz.prog 81 #[.string ⟨s.toArray⟩] w fun e w' => e = .returned (.string ⟨(Jr.form s).toArray⟩) ∧ Nw w w' := by
  have ht := Lib.hid (Text_q ⟨s.toArray⟩ s (bs_list s) w (by omega))
  have hb := Jr.sumN_bd s
  have hf := Jr.form_len s (by omega)
  unfold Jr.form at hf
  rw [List.length_append] at hf
  have hf1 : (Wire.textE s).length ≤ 1000000043 := by omega
  have hf2 : (Wire.numE (Jr.sumN s)).length ≤ 1000000043 := by omega
  have hu := Lib.hid (fun z => Sum_q s hs z)
  have hI : Hid (I64 (Jr.sumN s)) := by show I64 _; unfold I64; omega
  clear hs hb hf
  go_enter Tryz.func81, Tryz.ntmps81
  go_wp2_with fail
  (with_reducible refine (ht.out).mono ?_)
  rintro _ w1 ⟨rfl, u1⟩
  go_wp2_with fail
  (with_reducible refine (hu.out _).mono ?_)
  rintro _ _ ⟨rfl, rfl⟩
  go_wp2_with fail
  (with_reducible refine (Num_q _ _ hI.out).mono ?_)
  rintro _ w2 ⟨rfl, u2⟩
  go_wp2_with fail
  go_ret
  refine ⟨ret_bs ?_, u1.trans u2⟩
  simp only [bs_append_list, bs_list]
  rfl
theorem val_bs {s : ByteArray} {l : List UInt8} (h : s.data.toList = l) : Value.string s = .string ⟨l.toArray⟩ := by rw [← h, bs_eta]
theorem forms_take_le (L : List (List UInt8)) (k : Nat) : (Jr.forms (L.take k)).length ≤ (Jr.forms L).length := by
  conv => rhs; rw [← List.take_append_drop k L, Jr.forms_append, List.length_append]
  omega
set_option maxHeartbeats 1000000 in
set_option maxRecDepth 100000 in
theorem Forms_q (lo hi : Nat) (v : Value) (L : List (List UInt8)) (w : World) (h : Sl lo hi w v (L.map (fun s => Value.string ⟨s.toArray⟩))) (hL : (Jr.forms L).length ≤ 16777216) :
    Calls Tryz.prog 77 #[v] w fun e w' => e = .returned (.string ⟨(Jr.forms L).toArray⟩) ∧ Nw w w' := by
  obtain ⟨a, cap, rfl, hm, hc⟩ := str_cells h
  have hlf := Jr.len_forms L
  have hl1 : (L.length : Int) ≤ 16777216 := by omega
  have hl0 : (0 : Int) ≤ L.length := by omega
  have Hc := Lib.hid hc
  have HL := Lib.hid hL
  clear h hc hlf hL hm
  go_enter Tryz.func77, Tryz.ntmps77
  go_wp2_with fail
  go_loopw [3, 4] (fun sv iv wr => ∃ k : Nat, k ≤ L.length ∧ iv = .int .i64 k ∧ sv = .string ⟨(Jr.forms (L.take k)).toArray⟩ ∧ Hid (Nw w wr)) (fun _ iv _ => L.length - (intOf iv).toNat)
  case atStart => exact ⟨0, Nat.zero_le _, rfl, rfl, Upd.refl _ _⟩
  case round =>
    obtain ⟨k, hk, rfl, rfl, HU⟩ := hrel
    by_cases hlt : k < L.length
    · rcases Hc.out with hnil | ⟨b, off, rfl, hb1, hbw, hcell⟩
      · rw [hnil] at hlt; simp at hlt
      have d0 := (World.cell?_of_block (a := ⟨b, off + k, none⟩) (HU.out.block b hbw (Or.inr id))).trans (hcell k hlt)
      have hfk : (Jr.forms (L.take (k + 1))) = Jr.forms (L.take k) ++ Jr.form L[k] := by rw [List.take_succ_eq_append_getElem hlt, Jr.forms_snoc]
      have hle := forms_take_le L (k + 1)
      have hle2 := congrArg List.length hfk
      rw [List.length_append] at hle2
      have hge := Jr.form_ge L[k]
      have hz := Lib.hid (Form_q L[k] (by have := HL.out; omega) wr)
      have Hfk := Lib.hid hfk
      have q1 : (Jr.forms (L.take k)).length ≤ 16777216 := by have := HL.out; omega
      have q2 : (Jr.form L[k]).length ≤ 16777216 := by have := HL.out; omega
      clear hcell hfk hle hle2 hge
      generalize L[k] = y at *
      go_wp2_with fail
      (with_reducible refine (hz.out).mono ?_)
      rintro _ w1 ⟨rfl, u1⟩
      have hN := Lib.hid (HU.out.trans u1)
      clear u1 hz
      go_wp2_with fail
      go_roundw
      case rel => exact ⟨k + 1, by omega, by go_num, (by rw [Hfk.out]; exact val_bs (by simp only [bs_append_list, bs_list])), hN.out⟩
      case measure => simp [intOf]; omega
    · obtain rfl : k = L.length := by omega
      have ht : L.take L.length = L := List.take_length
      rw [ht]
      go_wp2_with fail
      go_ret
      exact ⟨rfl, HU.out⟩
/-- What has been read so far. -/
def RecI (s : List UInt8) (B0 : Nat) (b : Nat) (w : World) (v : Value) (k : Nat) (z : World) : Prop :=
  ∃ (R : List (List UInt8)) (rest : List UInt8), R.length = k ∧ Jr.recs s = R ++ Jr.recs rest ∧ k + rest.length ≤ s.length ∧ Rdr tQ z b (some rest) ∧ z.ownsRow B0 tStrJ 1 v k (R.map bsV) ∧ Nw w z
theorem one_gives {rest t : List UInt8} (h : Jr.one rest = some t) : t = (Wire.rText (some rest)).1 ∧ ∃ r, (Wire.rNum (Wire.rText (some rest)).2).2 = some r ∧ rest = Jr.form t ++ r := by
  refine ⟨one_is h, ?_⟩
  obtain ⟨r, e, hl⟩ := Jr.one_inv h
  obtain ⟨h1, h2⟩ := Jr.rForm (t := t) (r := r) (by omega)
  refine ⟨r, ?_, e⟩
  rw [e, h1]
  exact congrArg Prod.snd h2
set_option maxHeartbeats 2000000 in
set_option maxRecDepth 100000 in
theorem Records_q (s : List UInt8) (hs : s.length ≤ 16777216) (w : World) (g : Gl w) :
    Calls Tryz.prog 76 #[.string ⟨s.toArray⟩] w fun e w' => ∃ v', e = .returned v' ∧ w'.ownsRow w.heap.size tStrJ 1 v' (Jr.recs s).length ((Jr.recs s).map bsV) ∧ Nw w w' := by
  have hgb := g.big
  have hop := Lib.hid (OpenQ _ s (bs_list s) w g)
  have HS := Lib.hid hs
  clear hs
  go_enter Tryz.func76, Tryz.ntmps76
  go_wp2_with fail
  (with_reducible refine (hop.out).mono ?_)
  rintro _ w1 ⟨b, rfl, hb, hr1, n1⟩
  have hbl := hr1.lt
  have hI0 : Hid (RecI s (b + 1) b w (.slice none 0 0) 0 w1) := ⟨[], s, rfl, rfl, by omega, hr1, World.ownsRow_nil _ _ _ _, n1⟩
  have HB := Lib.hid (And.intro hb hbl)
  clear hr1 n1 hop hb hbl
  go_wp2_with fail
  go_loopw [3] (fun v wr => ∃ k : Nat, Hid (RecI s (b + 1) b w v k wr)) (fun v _ => s.length + 1 - lenOfSl v)
  case atStart => exact ⟨_, hI0.out⟩
  case round =>
    obtain ⟨k, HI⟩ := hrel
    obtain ⟨R, rest, rfl, e1, e2, hr, ho, hu⟩ := HI.out
    obtain ⟨al, cl, rfl⟩ := own_slD ho
    have hlf := Lib.hid (LeftQ b (some rest) wr hr)
    have E1 := Lib.hid e1
    have HH := Lib.hid (And.intro hr (And.intro ho hu))
    have gr := g.upd hu
    have hk1 : R.length ≤ 16777216 := by have := HS.out; omega
    have hk2 : rest.length ≤ 16777216 := by have := HS.out; omega
    have E2 := Lib.hid e2
    have HK := Lib.hid (And.intro hk1 hk2)
    clear e1 e2 hr ho hu hk1 hk2
    by_cases hne : rest = []
    · subst hne
      have hfin : Hid (wr.ownsRow w.heap.size tStrJ 1 (.slice al R.length cl) (Jr.recs s).length ((Jr.recs s).map bsV) ∧ Nw w wr) := by
        show _ ∧ _
        rw [E1.out, show Jr.recs [] = [] from rfl, List.append_nil]
        exact ⟨owns_base HH.out.2.1 (by have := HB.out.1; omega), HH.out.2.2⟩
      clear HI HH
      go_wp2_with fail
      (with_reducible refine (hlf.out).mono ?_)
      rintro _ _ ⟨rfl, rfl⟩
      go_wp2_with fail
      go_ret
      exact ⟨_, rfl, hfin.out.1, hfin.out.2⟩
    have hpos : 0 < rest.length := List.length_pos_iff.2 hne
    have hpos1 : (0 : Int) < rest.length := by omega
    clear hne
    go_wp2_with fail
    (with_reducible refine (hlf.out).mono ?_)
    rintro _ _ ⟨rfl, rfl⟩
    have htq := Lib.hid (TextQ b (some rest) wr HH.out.1 (by have := HK.out.2; simp only [Option.getD_some]; omega))
    go_wp2_with fail
    (with_reducible refine (htq.out).mono ?_)
    rintro _ w2 ⟨rfl, hr2, u2⟩
    have htl := rText_fst (some rest)
    have hst := Wire.rText_le (some rest)
    simp only [Option.getD_some] at htl hst
    have hnq := Lib.hid (NumQ b _ w2 hr2 (by have := HK.out.2; omega))
    clear hr2 htq hlf
    go_wp2_with fail
    (with_reducible refine (hnq.out).mono ?_)
    rintro _ w3 ⟨rfl, hr3, u3⟩
    have hU3 := Lib.hid (u2.trans u3)
    have c1 := hr3.c1
    have hone : Hid (Jr.one rest = if (Wire.rNum (Wire.rText (some rest)).2).2.isSome = true ∧ (Wire.rText (some rest)).1.length ≤ 20000 ∧ (Wire.rNum (Wire.rText (some rest)).2).1 = Jr.sumN (Wire.rText (some rest)).1 then some (Wire.rText (some rest)).1 else none) := rfl
    have hgv : Hid (∀ t, Jr.one rest = some t → t = (Wire.rText (some rest)).1 ∧ ∃ r, (Wire.rNum (Wire.rText (some rest)).2).2 = some r ∧ rest = Jr.form t ++ r) := fun t h => one_gives h
    have Hr3 := Lib.hid hr3
    have htl1 : ((Wire.rText (some rest)).1.length : Int) ≤ 16777216 := by have := HK.out.2; omega
    clear hnq u2 u3 hst htl hr3
    generalize (Wire.rNum (Wire.rText (some rest)).2).1 = nn at *
    generalize (Wire.rNum (Wire.rText (some rest)).2).2 = st at *
    generalize (Wire.rText (some rest)).1 = t at *
    have hsum := Lib.hid (Sum_q t (by omega) w3)
    have hdone : Hid (Jr.one rest = none → w3.ownsRow w.heap.size tStrJ 1 (.slice al R.length cl) (Jr.recs s).length ((Jr.recs s).map bsV) ∧ Nw w w3) := fun h => by
      rw [E1.out, Jr.recs_none h, List.append_nil]
      refine ⟨owns_base (owns_updD HH.out.2.1 hU3.out (fun k hk e => by have := (HH.out.2.1.lt k hk).1; omega)) (by have := HB.out.1; omega), HH.out.2.2.trans' hU3.out (fun k hk e => by have := HB.out.1; omega)⟩
    cases st with
    | none =>
      have hfin := Lib.hid (hdone.out (by rw [hone.out, if_neg (fun e => by cases e.1)]))
      clear hdone hone hgv HI HH
      go_wp2_with fail
      go_ret
      exact ⟨_, rfl, hfin.out.1, hfin.out.2⟩
    | some r =>
    by_cases h1 : 20000 < t.length
    · have h1' : (20000 : Int) < t.length := by omega
      have hfin := Lib.hid (hdone.out (by rw [hone.out, if_neg (fun e => by omega)]))
      clear hdone hone hgv HI HH
      go_wp2_with fail
      go_ret
      exact ⟨_, rfl, hfin.out.1, hfin.out.2⟩
    have h1' : ¬ (20000 : Int) < t.length := by omega
    by_cases h2 : nn = Jr.sumN t
    rotate_left
    · have hb1 : (nn == Jr.sumN t) = false := beq_eq_false_iff_ne.2 h2
      have hb2 : (nn != Jr.sumN t) = true := by simp [h2]
      have hfin := Lib.hid (hdone.out (by rw [hone.out, if_neg (fun e => h2 e.2.2)]))
      clear hdone hone hgv HI HH
      clear h2
      go_wp2_with fail
      (with_reducible refine (hsum.out).mono ?_)
      rintro _ _ ⟨rfl, rfl⟩
      go_wp2_with fail
      go_ret
      exact ⟨_, rfl, hfin.out.1, hfin.out.2⟩
    have hb1 : (nn == Jr.sumN t) = true := beq_iff_eq.2 h2
    have hb2 : (nn != Jr.sumN t) = false := by simp [h2]
    have ho1 : Jr.one rest = some t := by rw [hone.out, if_pos ⟨rfl, by omega, h2⟩]
    obtain ⟨_, r', e3, e4⟩ := hgv.out t ho1
    obtain rfl := Option.some.inj e3
    have hfp := Jr.form_pos t
    have hrl : rest.length = (Jr.form t).length + r.length := by rw [e4, List.length_append]
    have ho3 := Lib.hid (owns_updD HH.out.2.1 hU3.out (fun k hk e => by have := (HH.out.2.1.lt k hk).1; omega))
    have hr5 : Jr.recs s = R ++ [t] ++ Jr.recs r := by
      rw [E1.out, Jr.recs_some ho1, e4, List.drop_left]; simp
    have hnext : Hid (∀ v' w5, w5.ownsRow (b + 1) tStrJ 1 v' (R.length + 1) (R.map bsV ++ [bsV t]) → Upd (fun k => (Value.slice al R.length cl).ownBlock = some k) w3 w5 → RecI s (b + 1) b w v' (R.length + 1) w5) := fun v' w5 o5 u5 => by
      have hne : ∀ k, (Value.slice al R.length cl).ownBlock = some k → b + 1 ≤ k := fun k hk => (HH.out.2.1.lt k hk).1
      refine ⟨R ++ [t], r, by simp, hr5, by have := E2.out; omega, Hr3.out.upd u5 (fun e => by have := hne b e; omega), by rw [List.map_append]; exact o5, ?_⟩
      exact (HH.out.2.2.trans' hU3.out (fun k hk e => by have := HB.out.1; omega)).trans' u5 (fun k hk e => by have := hne k e; have := HB.out.1; omega)
    have hW : b + 1 ≤ w3.heap.size := by have := HB.out.2; have := HH.out.2.2.size; have := hU3.out.size; have := Hr3.out.lt; omega
    have hgB : nG ≤ b + 1 := by have := HB.out.1; omega
    have hRm : R.length + 1 ≤ s.length := by have := E2.out; omega
    clear hdone hone hgv ho1 h2 e3 e4 hr5 hfp
    go_wp2_with (first | (go_at_call 104; ((with_reducible refine hsum.out.mono ?_); rintro _ _ ⟨rfl, rfl⟩)) | (at_builtin; refine wpList_appL rfl _ _ 25 rfl (b + 1) tStrJ _ 1 16 Tryz.underlying25 infoStrJ rfl (by decide) _ _ _ rfl ho3.out [bsV t] rfl rfl ?c1 ?c2 ?c3 hW hgB ?_))
    case c1 => intro u hu; rw [List.mem_singleton.1 hu]; rfl
    case c2 => have := HK.out.1; unfold maxLen; omega
    case c3 => have := HK.out.1; omega
    intro v' w5 o5 u5 hob
    have hn5 := Lib.hid (hnext.out v' w5 o5 u5)
    obtain ⟨a5, c5, rfl⟩ := own_slD o5
    clear o5 u5 hob
    go_wp2_with fail
    go_roundw
    case rel => exact ⟨_, hn5.out⟩
    case measure => simp [lenOfSl]; omega
end Go.Proofs.YtmlmdlbepppnlaaGreatDoor
namespace Go.Proofs.YtmlmdlbepppnlaaGreatDoor
open Go.RowKit
set_option linter.unusedVariables false
set_option linter.unusedSimpArgs false
attribute [local irreducible] Calls

abbrev tRJrn : TypeId := 87
structure RjR where
  kb : Nat
  lv : Value
def RjR.foot (x : RjR) (k : Nat) : Prop := k = x.kb ∨ x.lv.ownBlock = some k
def rjC (rb : Nat) (x : RjR) (j : Jr.Jn) : Array Value := #[.pointer (some ⟨rb, 0, none⟩), .int .i64 j.file, x.lv, .bool j.broken]
/-- In the blocks from B on lies the reference's journal x on the disk rb, in the state j. -/
structure RJAt (B : Nat) (w : World) (rb : Nat) (x : RjR) (j : Jr.Jn) : Prop where
  hb : nG ≤ B
  kb : B ≤ x.kb
  blk : w.heap[x.kb]? = some (.cells (rjC rb x j) tRJrn (0, 0))
  own : w.ownsRow B tStrJ 1 x.lv j.recs.length (j.recs.map bsV)
  ok : JrnOk j
section
variable {B rb : Nat} {w w' : World} {x : RjR} {j : Jr.Jn} {r : RdR} {D D' : Dk.Disk}
theorem RJAt.foot_lt (h : RJAt B w rb x j) {k : Nat} (hk : x.foot k) : B ≤ k ∧ k < w.heap.size := by
  rcases hk with rfl | hk
  · exact ⟨h.kb, lt_of_block h.blk⟩
  · obtain ⟨h1, cs, h2⟩ := own_blockD h.own hk
    exact ⟨h1, lt_of_block h2⟩
theorem RJAt.upd {S : Nat → Prop} (h : RJAt B w rb x j) (u : Upd S w w') (hs : ∀ k, x.foot k → ¬ S k) : RJAt B w' rb x j :=
  ⟨h.hb, h.kb, u.keep h.blk (hs _ (Or.inl rfl)), owns_updD h.own u (fun k hk => hs k (Or.inr hk)), h.ok⟩
theorem RJAt.nw (h : RJAt B w rb x j) (u : Nw w w') : RJAt B w' rb x j := h.upd u (fun _ _ s => s)
theorem RJAt.ne (h : RJAt B w rb x j) : x.lv.ownBlock ≠ some x.kb := own_blk h.own h.blk (by decide)
theorem RJAt.cells (h : RJAt B w rb x j) :
    w.cell? ⟨x.kb, 0, none⟩ = some (.pointer (some ⟨rb, 0, none⟩)) ∧ w.cell? ⟨x.kb, 1, none⟩ = some (.int .i64 j.file) ∧ w.cell? ⟨x.kb, 2, none⟩ = some x.lv ∧ w.cell? ⟨x.kb, 3, none⟩ = some (.bool j.broken) := by
  refine ⟨?_, ?_, ?_, ?_⟩ <;> (rw [cells_cell h.blk]; rfl)
theorem RJAt.len (h : RJAt B w rb x j) : j.recs.length ≤ 16777216 := Nat.le_trans (Jr.len_forms _) h.ok.bytes
/-- The reference's disk and journal lie apart from one another, as their types differ. -/
theorem blk_typ {k : Nat} {cs cs' : Array Value} {T T' : TypeId} {fz fz' : Nat × Nat} (h : w.heap[k]? = some (.cells cs T fz)) (h' : w.heap[k]? = some (.cells cs' T' fz')) (hT : T ≠ T') : False := by
  rw [h] at h'
  injection h' with h'
  injection h' with _ h'
  exact hT h'
theorem rd_typ (h : RDAt B w r D) {k : Nat} (hk : r.foot k) : ∃ cs T fz, w.heap[k]? = some (.cells cs T fz) ∧ (T = tRDisk ∨ T = tRFile ∨ T = tRSec ∨ T = tIntD) := by
  rcases hk with rfl | hk | hk | hk
  · exact ⟨_, _, _, h.blk, Or.inl rfl⟩
  · obtain ⟨l, h1, _⟩ := h.files
    obtain ⟨_, cs, e⟩ := own_blockD h1 hk
    exact ⟨_, _, _, e, Or.inr (Or.inl rfl)⟩
  · obtain ⟨_, cs, e⟩ := own_blockD h.queue hk
    exact ⟨_, _, _, e, Or.inr (Or.inr (Or.inl rfl))⟩
  · obtain ⟨_, cs, e⟩ := own_blockD h.keep hk
    exact ⟨_, _, _, e, Or.inr (Or.inr (Or.inr rfl))⟩
theorem rj_apart (h : RDAt B w r D) (h2 : RJAt B w rb x j) {k : Nat} (hk : r.foot k) : ¬ x.foot k := fun e => by
  obtain ⟨cs, T, fz, h1, hT⟩ := rd_typ h hk
  rcases e with rfl | e
  · refine blk_typ h1 h2.blk ?_
    rcases hT with rfl | rfl | rfl | rfl <;> decide
  · obtain ⟨_, cs', e2⟩ := own_blockD h2.own e
    refine blk_typ h1 e2 ?_
    rcases hT with rfl | rfl | rfl | rfl <;> decide
end
/-- The reference's system. -/
structure RSys (B : Nat) (w : World) (r : RdR) (x : RjR) (D : Dk.Disk) (j : Jr.Jn) : Prop where
  disk : RDAt B w r D
  jrn : RJAt B w r.rb x j
/-- What a call leaves of it. -/
def RSTo (B : Nat) (r : RdR) (x : RjR) (D' : Dk.Disk) (j' : Jr.Jn) (w w' : World) : Prop :=
  ∃ r' x', RSys B w' r' x' D' j' ∧ r'.rb = r.rb ∧ x'.kb = x.kb ∧ Upd (fun k => r.foot k ∨ x.foot k) w w' ∧ ∀ k, r'.foot k ∨ x'.foot k → (r.foot k ∨ x.foot k) ∨ w.heap.size ≤ k
section
variable {B : Nat} {w w' w2 : World} {r : RdR} {x : RjR} {D D' : Dk.Disk} {j j' : Jr.Jn}
theorem RSys.nw (h : RSys B w r x D j) (u : Nw w w') : RSys B w' r x D j := ⟨h.disk.nw u, h.jrn.nw u⟩
theorem RSTo.of_nw (h : RSys B w r x D j) (u : Nw w w') : RSTo B r x D j w w' := ⟨r, x, h.nw u, rfl, rfl, Nw.upd _ u, fun k hk => Or.inl hk⟩
/-- A call of the disk, then a cell of the journal's block. -/
theorem RSTo.disk (h : RSys B w r x D j) (t : RDTo B r D' w w') : ∃ r', RSys B w' r' x D' j ∧ r'.rb = r.rb ∧ Upd r.foot w w' ∧ ∀ k, r'.foot k → r.foot k ∨ w.heap.size ≤ k := by
  obtain ⟨r', k1, k2, k3, k4⟩ := t
  exact ⟨r', ⟨k1, by rw [k2]; exact h.jrn.upd k3 (fun k hk e => rj_apart h.disk h.jrn e hk)⟩, k2, k3, k4⟩
theorem RSTo.disk_only (h : RSys B w r x D j) (t : RDTo B r D' w w') : RSTo B r x D' j w w' := by
  obtain ⟨r', k1, k2, k3, k4⟩ := RSTo.disk h t
  refine ⟨r', x, k1, k2, rfl, k3.mono (fun k _ e => Or.inl e), fun k hk => ?_⟩
  rcases hk with e | e
  · exact (k4 k e).imp Or.inl id
  · exact Or.inl (Or.inr e)
theorem RSTo.then_ {D1 D2 : Dk.Disk} {j1 j2 : Jr.Jn} (h1 : RSTo B r x D1 j1 w w') (h2 : ∀ r1 x1, RSys B w' r1 x1 D1 j1 → r1.rb = r.rb → x1.kb = x.kb → RSTo B r1 x1 D2 j2 w' w2) : RSTo B r x D2 j2 w w2 := by
  obtain ⟨r1, x1, a, b, c, d, e⟩ := h1
  obtain ⟨r2, x2, a2, b2, c2, d2, e2⟩ := h2 r1 x1 a b c
  have hz := d.size
  refine ⟨r2, x2, a2, b2.trans b, c2.trans c, d.trans' d2 (fun k hk s => (e k s).resolve_right (by omega)), fun k hk => ?_⟩
  rcases e2 k hk with s | s
  · exact e k s
  · exact Or.inr (by omega)
theorem RSTo.after {w0 : World} (u : Nw w0 w) (h : RSTo B r x D' j' w w') : RSTo B r x D' j' w0 w' := by
  obtain ⟨r', x', a, b, c, d, e⟩ := h
  exact ⟨r', x', a, b, c, Nw.trans u d, fun k hk => (e k hk).imp id (fun e => by have := u.size; omega)⟩
theorem RSTo.nw (h : RSTo B r x D' j' w w') (u : Nw w' w2) : RSTo B r x D' j' w w2 := by
  obtain ⟨r', x', a, b, c, d, e⟩ := h
  exact ⟨r', x', a.nw u, b, c, d.nw u, e⟩
/-- The journal's block is turned. -/
theorem RSTo.bad (h : RSys B w r x D j) (b : Bool) : RSTo B r x D { j with broken := b } w (w.setCell ⟨x.kb, 3, none⟩ (.bool b)) := by
  have hg : nG ≤ x.kb := Nat.le_trans h.jrn.hb h.jrn.kb
  have us : Upd (fun k => k = x.kb) w (w.setCell ⟨x.kb, 3, none⟩ (.bool b)) := Upd.set1 (Upd.refl _ _) hg 3 _
  refine ⟨r, x, ⟨h.disk.upd us (fun k hk e => rj_apart h.disk h.jrn hk (Or.inl e)), ⟨h.jrn.hb, h.jrn.kb, ?_, owns_updD h.jrn.own us (fun k hk e => by subst e; exact h.jrn.ne hk), ⟨h.jrn.ok.file, h.jrn.ok.bytes⟩⟩⟩, rfl, rfl, us.mono (fun k _ e => Or.inr (Or.inl e)), fun k hk => Or.inl hk⟩
  have := setCell_block h.jrn.blk 3 (.bool b)
  unfold rjC at this ⊢
  exact this
/-- A new list of records is put into the journal's block. -/
theorem RSTo.recs {v' : Value} {B0 : Nat} {z : World} {R : List (List UInt8)} (h : RSys B w r x D j) (u : Nw w z) (hB0 : w.heap.size ≤ B0) (hB : B ≤ w.heap.size) (ho : z.ownsRow B0 tStrJ 1 v' R.length (R.map bsV)) (hl : (Jr.forms R).length ≤ 16777216) : RSTo B r x D { j with recs := R } w (z.setCell ⟨x.kb, 2, none⟩ v') := by
  have hz := h.nw u
  have hg : nG ≤ x.kb := Nat.le_trans h.jrn.hb h.jrn.kb
  have hkw := (h.jrn.foot_lt (Or.inl rfl)).2
  have us : Upd (fun k => k = x.kb) z (z.setCell ⟨x.kb, 2, none⟩ v') := Upd.set1 (Upd.refl _ _) hg 2 _
  have hv : ∀ k, v'.ownBlock = some k → w.heap.size ≤ k := fun k hk => Nat.le_trans hB0 (own_blockD ho hk).1
  refine ⟨r, ⟨x.kb, v'⟩, ⟨hz.disk.upd us (fun k hk e => rj_apart hz.disk hz.jrn hk (Or.inl e)), ⟨h.jrn.hb, h.jrn.kb, ?_, owns_base (owns_updD ho us (fun k hk e => by subst e; have := hv _ hk; omega)) (by omega), ⟨h.jrn.ok.file, hl⟩⟩⟩, rfl, rfl, (Nw.trans u us).mono (fun k _ e => Or.inr (Or.inl e)), fun k hk => ?_⟩
  · have := setCell_block hz.jrn.blk 2 v'
    unfold rjC at this ⊢
    exact this
  · rcases hk with e | e | e
    · exact Or.inl (Or.inl e)
    · exact Or.inl (Or.inr (Or.inl e))
    · exact Or.inr (hv k e)
set_option maxHeartbeats 1000000 in
set_option maxRecDepth 100000 in
theorem JSync_q (h : RSys B w r x D j) (g : Gl w) (hB : B ≤ w.heap.size) :
    Calls Tryz.prog 54 #[.pointer (some ⟨x.kb, 0, none⟩)] w fun e w' => e = .returned (.int .i64 (Jr.syncJ D j).2.2) ∧ RSTo B r x (Jr.syncJ D j).1 (Jr.syncJ D j).2.1 w w' := by
  obtain ⟨c0, c1, c2, c3⟩ := h.jrn.cells
  cases hb : j.broken with
  | true =>
    rw [hb] at c3
    have hr : Hid (Jr.syncJ D j = (D, j, 7)) := by show _ = _; unfold Jr.syncJ; rw [if_pos hb]
    have hz : Hid (RSTo B r x D j w w) := RSTo.of_nw h (Upd.refl _ _)
    clear h hb
    go_enter Tryz.func54, Tryz.ntmps54
    go_wp2_with fail
    go_ret
    exact ⟨by rw [hr.out] <;> rfl, by rw [hr.out]; exact hz.out⟩
  | false =>
    rw [hb] at c3
    have hr : Hid (Jr.syncJ D j = ((Dk.sync D j.file).1, { j with broken := decide ((Dk.sync D j.file).2 ≠ 0) }, (Dk.sync D j.file).2)) := by
      show _ = _; unfold Jr.syncJ; rw [if_neg (by rw [hb]; decide)]
    have hf := h.jrn.ok.file
    have hs := Lib.hid (fun (z : World) (u : Nw w z) => sync_rd (h.disk.nw u) (g.upd u) (Nat.le_trans hB u.size) (f := j.file) (by unfold I64; omega))
    have H := Lib.hid h
    have l0 : ∀ i : Later w, i.1.cell? ⟨x.kb, 0, none⟩ = some (.pointer (some ⟨r.rb, 0, none⟩)) := fun i => (h.jrn.nw i.nw).cells.1
    have l1 : ∀ i : Later w, i.1.cell? ⟨x.kb, 1, none⟩ = some (.int .i64 j.file) := fun i => (h.jrn.nw i.nw).cells.2.1
    clear h hb hf
    generalize (Dk.sync D j.file).2 = E at *
    generalize (Dk.sync D j.file).1 = D1 at *
    go_enter Tryz.func54, Tryz.ntmps54
    go_wp2_with fail
    refine wp_region_nw_tail 8 (by kernel_rfl) (by kernel_rfl) ?_
    simp only [List.take_succ_cons, List.take_zero, List.drop_succ_cons, List.drop_zero]
    repeat (go_big_quiet_step ((fail)))
    refine wpQuiet_nil ?_
    intro w3 u3
    replace u3 := later_out u3
    have H3 := Lib.hid (H.out.nw u3)
    have U3 := Lib.hid u3
    clear l0 l1 c0 c1 c2 c3 u3
    go_wp2_with fail
    (with_reducible refine (hs.out _ U3.out).mono ?_)
    rintro _ w1 ⟨rfl, hT⟩
    obtain ⟨r1, k1, k2, k3, k4⟩ := RSTo.disk H3.out hT
    have hz : Hid (∀ b : Bool, RSTo B r x D1 { j with broken := b } w (w1.setCell ⟨x.kb, 3, none⟩ (.bool b))) := fun b => RSTo.then_ (RSTo.after U3.out (RSTo.disk_only H3.out hT)) (fun r2 x2 a e1 e2 => by
      have := RSTo.bad a b
      rw [e2] at this
      exact this)
    have c3' := k1.jrn.cells.2.2.2
    have f3 := cells_frozen k1.jrn.blk 3
    clear hT k1 k3 k4 hs
    by_cases h0 : E = 0
    · have b1 : (E == 0) = true := beq_iff_eq.2 h0
      have b2 : (E != 0) = false := by simp [h0]
      have hd : decide (E ≠ 0) = false := by simp [h0]
      rw [hd] at hr
      have hz1 := Lib.hid (hz.out false)
      clear h0 hz hd
      go_wp2_with fail
      go_ret
      exact ⟨by rw [hr.out] <;> rfl, by rw [hr.out]; exact hz1.out⟩
    · have b1 : (E == 0) = false := beq_eq_false_iff_ne.2 h0
      have b2 : (E != 0) = true := by simp [h0]
      have hd : decide (E ≠ 0) = true := by simp [h0]
      rw [hd] at hr
      have hz1 := Lib.hid (hz.out true)
      clear h0 hz hd
      go_wp2_with fail
      go_ret
      exact ⟨by rw [hr.out] <;> rfl, by rw [hr.out]; exact hz1.out⟩
end
end Go.Proofs.YtmlmdlbepppnlaaGreatDoor
namespace Go.Proofs.YtmlmdlbepppnlaaGreatDoor
open Go.RowKit
set_option linter.unusedVariables false
set_option linter.unusedSimpArgs false
attribute [local irreducible] Calls

section
variable {B : Nat} {w w' w2 : World} {r : RdR} {x : RjR} {D D' : Dk.Disk} {j j' : Jr.Jn}
set_option maxHeartbeats 2000000 in
set_option maxRecDepth 100000 in
theorem Append_q (h : RSys B w r x D j) (g : Gl w) (hB : B ≤ w.heap.size) (s : List UInt8) (hs : s.length ≤ 1000000) :
    Calls Tryz.prog 52 #[.pointer (some ⟨x.kb, 0, none⟩), .string ⟨s.toArray⟩] w fun e w' => e = .returned (.int .i64 (Jr.append D j s).2.2) ∧ RSTo B r x (Jr.append D j s).1 (Jr.append D j s).2.1 w w' := by
  have hgb := g.big
  have hfm := Lib.hid (fun z => Form_q s (by omega) z)
  have hfl := Jr.form_len s (by omega)
  have hfl1 : ((Jr.form s).length : Int) ≤ 1000043 := by omega
  have hfl0 : (0 : Int) ≤ (Jr.form s).length := by omega
  have hbl := h.jrn.ok.bytes
  have hbl1 : ((Jr.forms j.recs).length : Int) ≤ 16777216 := by omega
  have hsl1 : (s.length : Int) ≤ 1000000 := by omega
  obtain ⟨c0, c1, c2, c3⟩ := h.jrn.cells
  have H := Lib.hid h
  have HB := Lib.hid hB
  have Hfl := Lib.hid hfl
  clear h hfl hbl hs hB
  cases hb : j.broken with
  | true =>
    rw [hb] at c3
    have hr : Hid (Jr.append D j s = (D, j, 7)) := by show _ = _; unfold Jr.append; rw [if_pos hb]
    clear hb
    go_enter Tryz.func52, Tryz.ntmps52
    go_wp2_with fail
    go_ret
    exact ⟨by rw [hr.out] <;> rfl, by rw [hr.out]; exact RSTo.of_nw H.out (Upd.refl _ _)⟩
  | false =>
  rw [hb] at c3
  have hr0 : Jr.append D j s = if 20000 < s.length then (D, j, 3) else if 1048576 < (Jr.forms j.recs).length + (Jr.form s).length then (D, j, 6) else if (Dk.write D j.file (Jr.forms j.recs).length (Jr.form s)).2 ≠ 0 then ((Dk.write D j.file (Jr.forms j.recs).length (Jr.form s)).1, { j with broken := true }, (Dk.write D j.file (Jr.forms j.recs).length (Jr.form s)).2)
      else ((Dk.write D j.file (Jr.forms j.recs).length (Jr.form s)).1, { j with recs := j.recs ++ [s] }, 0) := by
    unfold Jr.append; rw [if_neg (by rw [hb]; decide)]
  clear hb
  by_cases h1 : 20000 < s.length
  · have hr : Hid (Jr.append D j s = (D, j, 3)) := by show _ = _; rw [hr0, if_pos h1]
    have h1' : (20000 : Int) < s.length := by omega
    clear hr0 h1
    go_enter Tryz.func52, Tryz.ntmps52
    go_wp2_with fail
    go_ret
    exact ⟨by rw [hr.out] <;> rfl, by rw [hr.out]; exact RSTo.of_nw H.out (Upd.refl _ _)⟩
  have h1' : ¬ (20000 : Int) < s.length := by omega
  rw [if_neg h1] at hr0
  clear h1
  have hfs := Lib.hid (Forms_q _ _ _ j.recs w (Sl.of_owns H.out.jrn.own) H.out.jrn.ok.bytes)
  obtain ⟨al, cl, hlv⟩ := own_slD H.out.jrn.own
  rw [hlv] at c2 hfs
  have Hlv := Lib.hid hlv
  clear hlv
  go_enter Tryz.func52, Tryz.ntmps52
  go_wp2_with fail
  (with_reducible refine (hfs.out).mono ?_)
  rintro _ w1 ⟨rfl, u1⟩
  have U1 := Lib.hid u1
  clear u1 hfs
  go_wp2_with fail
  (with_reducible refine (hfm.out _).mono ?_)
  rintro _ w2 ⟨rfl, u2⟩
  have U2 := Lib.hid (U1.out.trans u2)
  clear u2 U1
  by_cases h2 : 1048576 < (Jr.forms j.recs).length + (Jr.form s).length
  · have hr : Hid (Jr.append D j s = (D, j, 6)) := by show _ = _; rw [hr0, if_pos h2]
    have h2' : (1048576 : Int) < ((Jr.forms j.recs).length : Int) + (Jr.form s).length := by omega
    clear hr0 h2
    go_wp2_with fail
    go_ret
    exact ⟨by rw [hr.out] <;> rfl, by rw [hr.out]; exact RSTo.of_nw H.out U2.out⟩
  have h2' : ¬ (1048576 : Int) < ((Jr.forms j.recs).length : Int) + (Jr.form s).length := by omega
  rw [if_neg h2] at hr0
  have Hr0 := Lib.hid hr0
  have H2 := Lib.hid h2
  have k2 := H.out.nw U2.out
  have l0 : ∀ i : Later w2, i.1.cell? ⟨x.kb, 0, none⟩ = some (.pointer (some ⟨r.rb, 0, none⟩)) := fun i => (k2.jrn.nw i.nw).cells.1
  have l1 : ∀ i : Later w2, i.1.cell? ⟨x.kb, 1, none⟩ = some (.int .i64 j.file) := fun i => (k2.jrn.nw i.nw).cells.2.1
  clear hr0 h2
  go_wp2_with fail
  refine wp_region_nw_tail 11 (by kernel_rfl) (by kernel_rfl) ?_
  simp only [List.take_succ_cons, List.take_zero, List.drop_succ_cons, List.drop_zero]
  repeat (go_big_quiet_step ((go_at_call 81; exact later_call (hfm.out _))))
  refine wpQuiet_nil ?_
  intro w3 u3
  replace u3 := later_out u3
  have U3 := Lib.hid (U2.out.trans u3)
  have h3 := H.out.nw U3.out
  have hw := write_rd h3.disk (g.upd U3.out) (Nat.le_trans HB.out U3.out.size) (f := j.file) (i := ((Jr.forms j.recs).length : Nat)) (by have := h3.jrn.ok.file; unfold I64; omega) (by unfold I64; omega) (Jr.form s) (by have := H2.out; omega)
  have Hw := Lib.hid hw
  have H3 := Lib.hid h3
  clear hw h3 l0 l1 u3 c0 c1 c2 c3 k2
  go_wp2_with fail
  (with_reducible refine (Hw.out).mono ?_)
  rintro _ w4 ⟨rfl, hT⟩
  have hd := RSTo.disk H3.out hT
  obtain ⟨r4, k1, k2, k3, k4⟩ := hd
  have Hto := Lib.hid (RSTo.after U3.out (RSTo.disk_only H3.out hT))
  have K1 := Lib.hid k1
  have HS4 := Lib.hid (Nat.le_trans HB.out (Nat.le_trans U3.out.size k3.size))
  have f3 := cells_frozen k1.jrn.blk 3
  have f2 := cells_frozen k1.jrn.blk 2
  obtain ⟨_, _, c2, c3⟩ := k1.jrn.cells
  clear hT Hw k1 k2 k3 k4
  generalize (Dk.write D j.file (Jr.forms j.recs).length (Jr.form s)).2 = E at *
  generalize (Dk.write D j.file (Jr.forms j.recs).length (Jr.form s)).1 = D4 at *
  by_cases h0 : E = 0
  rotate_left
  · have b1 : (E == 0) = false := beq_eq_false_iff_ne.2 h0
    have b2 : (E != 0) = true := by simp [h0]
    have hr : Hid (Jr.append D j s = (D4, { j with broken := true }, E)) := by show _ = _; rw [Hr0.out, if_pos h0]
    have hz : Hid (RSTo B r x D4 { j with broken := true } w (w4.setCell ⟨x.kb, 3, none⟩ (.bool true))) := RSTo.then_ Hto.out (fun r2 x2 a e1 e2 => by
      have := RSTo.bad a true
      rw [e2] at this
      exact this)
    clear h0
    go_wp2_with fail
    go_ret
    exact ⟨by rw [hr.out] <;> rfl, by rw [hr.out]; exact hz.out⟩
  have b1 : (E == 0) = true := beq_iff_eq.2 h0
  have b2 : (E != 0) = false := by simp [h0]
  have hr : Hid (Jr.append D j s = (D4, { j with recs := j.recs ++ [s] }, 0)) := by show _ = _; rw [Hr0.out, if_neg (fun e => e h0)]
  rw [Hlv.out] at c2
  have n5 := nw_alloc w4 (.cells #[] tStrJ)
  have o5 := owns_emptyD w4 tStrJ 1
  have hsl := (Sl.of_owns K1.out.jrn.own).nw n5
  rw [Hlv.out] at hsl
  have Hsl := Lib.hid hsl
  have c2a := (K1.out.jrn.nw n5).cells.2.2.1
  rw [Hlv.out] at c2a
  clear c2
  have hgw4 : nG ≤ w4.heap.size := Nat.le_trans K1.out.jrn.hb HS4.out
  have hn4 : j.recs.length + 1 ≤ 16777217 := by have := K1.out.jrn.len; omega
  have N5 := Lib.hid n5
  have hfl2 : (Jr.forms (j.recs ++ [s])).length ≤ 16777216 := by rw [Jr.forms_snoc, List.length_append]; have := H2.out; omega
  have Hfl2 := Lib.hid hfl2
  clear h0 Hr0 hsl n5 hfl2
  go_wp2_with (at_builtin; go_loud (refine wpList_catA rfl _ _ 25 rfl w4.heap.size B _ tStrJ _ 16 Tryz.underlying25 infoStrJ rfl _ _ _ _ _ rfl o5 rfl Hsl.out ?c1 ?c2 ?c3 ?c4 ?_))
  case c1 =>
    intro u hu
    obtain ⟨x, _, rfl⟩ := List.mem_map.1 hu
    rfl
  case c2 => unfold maxLen; rw [List.length_map]; omega
  case c3 => rw [List.length_map]; omega
  case c4 => simp
  intro v' w6 hown hgrow hob
  have u6 : Nw w4 w6 := N5.out.grown hgrow (fun k hk => ⟨Or.inr (hob k hk).1, by have := (hob k hk).1; omega⟩)
  (try simp only [List.nil_append, List.length_map, Nat.zero_add] at hown)
  have Ho := Lib.hid hown
  obtain ⟨a6, c6, rfl⟩ := own_slD hown
  have U6 := Lib.hid u6
  have hW6 : w4.heap.size ≤ w6.heap.size := u6.size
  clear hown hgrow hob u6 o5
  go_wp2_with (at_builtin; refine wpList_appL rfl _ _ 25 rfl w4.heap.size tStrJ _ 1 16 Tryz.underlying25 infoStrJ rfl (by decide) _ _ _ rfl Ho.out [bsV s] rfl rfl ?c1 ?c2 ?c3 hW6 hgw4 ?_)
  case c1 => intro u hu; rw [List.mem_singleton.1 hu]; rfl
  case c2 => unfold maxLen; omega
  case c3 => omega
  intro v7 w7 o7 u7 hob7
  have u8 : Nw w4 w7 := U6.out.trans' u7 (fun k hk e => by have := (Ho.out.lt k e).1; omega)
  have c2' : w7.cell? ⟨x.kb, 2, none⟩ = some x.lv := (K1.out.jrn.nw u8).cells.2.2.1
  have f2' := cells_frozen (K1.out.jrn.nw u8).blk 2
  have hz : Hid (RSTo B r x D4 { j with recs := j.recs ++ [s] } w (w7.setCell ⟨x.kb, 2, none⟩ v7)) := RSTo.then_ Hto.out (fun r2 x2 a e1 e2 => by
    have := RSTo.recs a u8 (Nat.le_refl _) HS4.out (R := j.recs ++ [s]) (v' := v7) (by rw [List.length_append, List.map_append]; exact o7) Hfl2.out
    rw [e2] at this
    exact this)
  obtain ⟨a7, c7, rfl⟩ := own_slD o7
  clear o7 u7 hob7 u8
  go_wp2_with fail
  go_ret
  exact ⟨by rw [hr.out] <;> rfl, by rw [hr.out]; exact hz.out⟩
/-- What Open makes of a disk: a journal, or none. -/
def ROpenTo (B : Nat) (r : RdR) (D' : Dk.Disk) (jo : Option Jr.Jn) (pv : Value) (w w' : World) : Prop :=
  match jo with
  | none => pv = .pointer none ∧ RDTo B r D' w w'
  | some j => ∃ r' x, pv = .pointer (some ⟨x.kb, 0, none⟩) ∧ RSys B w' r' x D' j ∧ r'.rb = r.rb ∧ Upd r.foot w w' ∧ (∀ k, r'.foot k → r.foot k ∨ w.heap.size ≤ k) ∧ ∀ k, x.foot k → w.heap.size ≤ k
/-- The journal's block is made, and then the disk may be turned. -/
theorem ropen_made {w1 w3 w4 : World} {r1 : RdR} {D1 : Dk.Disk} {f : Int} {R : List (List UInt8)} {v' : Value} (hB : B ≤ w.heap.size) (e1 : r1.rb = r.rb) (u1 : Upd r.foot w w1) (f1 : ∀ k, r1.foot k → r.foot k ∨ w.heap.size ≤ k) (h1 : RDAt B w1 r1 D1)
    (n3 : Nw w1 w3) (o3 : w3.ownsRow w1.heap.size tStrJ 1 v' R.length (R.map bsV)) (n4 : Nw (w3.alloc (.cells #[.pointer (some ⟨r.rb, 0, none⟩), .int .i64 f, v', .bool false] tRJrn)) w4) (hf : 0 ≤ f ∧ f ≤ 15) (hR : (Jr.forms R).length ≤ 16777216) :
    ∃ x, x.kb = w3.heap.size ∧ x.lv = v' ∧ RSys B w4 r1 x D1 ⟨f, R, false⟩ ∧ ∀ k, x.foot k → w1.heap.size ≤ k ∧ w.heap.size ≤ k := by
  have n5 := nw_alloc w3 (.cells #[.pointer (some ⟨r.rb, 0, none⟩), .int .i64 f, v', .bool false] tRJrn)
  have k5 := heap_new w3 (.cells #[.pointer (some ⟨r.rb, 0, none⟩), .int .i64 f, v', .bool false] tRJrn)
  have s1 := u1.size
  have s3 := n3.size
  refine ⟨⟨w3.heap.size, v'⟩, rfl, rfl, ⟨h1.nw ((n3.trans n5).trans n4), ⟨h1.hb, by dsimp only; omega, ?_, owns_base (owns_updD o3 (n5.trans n4) (fun _ _ e => e)) (by omega), ⟨hf, hR⟩⟩⟩, fun k hk => ?_⟩
  · have := n4.keep k5
    unfold rjC
    rw [e1]
    exact this
  · rcases hk with e | e
    · dsimp only at e; omega
    · have := (own_blockD o3 e).1; omega
set_option maxHeartbeats 2000000 in
set_option maxRecDepth 100000 in
theorem Open_q (h : RDAt B w r D) (g : Gl w) (hB : B ≤ w.heap.size) {f : Int} (hf : I64 f) :
    Calls Tryz.prog 45 #[.pointer (some ⟨r.rb, 0, none⟩), .int .i64 f] w fun e w' => ∃ pv, e = .returned (.tuple #[pv, .int .i64 (Jr.openJ D f).2.2]) ∧ ROpenTo B r (Jr.openJ D f).1 (Jr.openJ D f).2.1 pv w w' := by
  have hgb := g.big
  have H := Lib.hid h
  have HB := Lib.hid hB
  have HF := Lib.hid hf
  by_cases h0 : f < 0
  · have hr : Hid (Jr.openJ D f = (D, none, 1)) := by show _ = _; unfold Jr.openJ; rw [if_pos (Or.inl h0)]
    clear h hB hf
    go_enter Tryz.func45, Tryz.ntmps45
    go_wp2_with fail
    go_ret2
    exact ⟨_, by rw [hr.out] <;> rfl, by rw [hr.out]; exact ⟨rfl, RDTo.of_nw H.out (Upd.refl _ _)⟩⟩
  by_cases h15 : 15 < f
  · have hr : Hid (Jr.openJ D f = (D, none, 1)) := by show _ = _; unfold Jr.openJ; rw [if_pos (Or.inr h15)]
    clear h hB hf
    go_enter Tryz.func45, Tryz.ntmps45
    go_wp2_with fail
    go_ret2
    exact ⟨_, by rw [hr.out] <;> rfl, by rw [hr.out]; exact ⟨rfl, RDTo.of_nw H.out (Upd.refl _ _)⟩⟩
  have hr0 : Jr.openJ D f = if (Dk.sync D f).2 ≠ 0 then ((Dk.sync D f).1, none, (Dk.sync D f).2)
    else if (Jr.forms (Jr.recs ((Dk.sync D f).1.fs f).now)).length < ((Dk.sync D f).1.fs f).now.length then
    (if (Dk.truncate (Dk.sync D f).1 f (Jr.forms (Jr.recs ((Dk.sync D f).1.fs f).now)).length).2 ≠ 0 then ((Dk.truncate (Dk.sync D f).1 f (Jr.forms (Jr.recs ((Dk.sync D f).1.fs f).now)).length).1, none, (Dk.truncate (Dk.sync D f).1 f (Jr.forms (Jr.recs ((Dk.sync D f).1.fs f).now)).length).2)
      else ((Dk.truncate (Dk.sync D f).1 f (Jr.forms (Jr.recs ((Dk.sync D f).1.fs f).now)).length).1, some ⟨f, Jr.recs ((Dk.sync D f).1.fs f).now, false⟩, 0))
    else ((Dk.sync D f).1, some ⟨f, Jr.recs ((Dk.sync D f).1.fs f).now, false⟩, 0) := by
    unfold Jr.openJ; rw [if_neg (by omega)]
  have hfile : Hid (0 ≤ f ∧ f ≤ 15) := by show _ ∧ _; omega
  have hsc := sync_rd h g hB hf
  have hmy := @sync_may D f
  generalize Dk.sync D f = S at *
  obtain ⟨D1, E⟩ := S
  dsimp only at hr0 hsc hmy
  have Hsc := Lib.hid hsc
  have Hr0 := Lib.hid hr0
  have Hmy := Lib.hid hmy
  clear hr0 hsc hmy h hB hf
  go_enter Tryz.func45, Tryz.ntmps45
  go_wp2_with fail
  (with_reducible refine (Hsc.out).mono ?_)
  rintro _ w1 ⟨rfl, hT⟩
  have HT := Lib.hid hT
  clear hT Hsc
  by_cases hE : E = 0
  rotate_left
  · have b1 : (E == 0) = false := beq_eq_false_iff_ne.2 hE
    have b2 : (E != 0) = true := by simp [hE]
    have hr : Hid (Jr.openJ D f = (D1, none, E)) := by show _ = _; rw [Hr0.out, if_pos hE]
    clear hE
    go_wp2_with fail
    go_ret2
    exact ⟨_, by rw [hr.out] <;> rfl, by rw [hr.out]; exact ⟨rfl, HT.out⟩⟩
  subst hE
  have hmay := Hmy.out rfl
  have hr1 := Hr0.out
  rw [if_neg (fun e => e rfl)] at hr1
  obtain ⟨r1, h1, e1, u1, f1⟩ := HT.out
  have g1 := g.upd u1
  have hsz := size_r h1 f
  rw [e1] at hsz
  have hnow := h1.ok.now f
  have hrd := fun (z : World) (u : Nw w1 z) => read_rd (h1.nw u) HF.out (i := 0) (n := Dk.size D1 f) (by unfold I64; omega) (by unfold Dk.size I64; omega)
  rw [e1, read_all hmay] at hrd
  dsimp only at hrd
  have hse : Dk.size D1 f = ((D1.fs f).now.length : Int) := rfl
  have HD1 := Lib.hid (And.intro h1 (And.intro e1 (And.intro u1 f1)))
  have hrj := fun (z : World) (u : Nw w1 z) => Records_q (D1.fs f).now hnow z (g1.upd u)
  generalize (D1.fs f).now = s at *
  have Hrj := Lib.hid hrj
  have Hrd := Lib.hid hrd
  have Hsz := Lib.hid hsz
  have Hr1 := Lib.hid hr1
  have Hnow := Lib.hid hnow
  have hlen : (s.length : Int) ≤ 16777216 := by omega
  have hlen0 : (0 : Int) ≤ s.length := by omega
  have hse2 : Hid (Dk.size D1 f = (s.length : Int)) := hse
  clear hrj hrd hsz hr1 hnow h1 e1 u1 f1 Hr0 hmay Hmy hse
  have hfr := Jr.recs_len s
  have hfr1 : ((Jr.forms (Jr.recs s)).length : Int) ≤ s.length := by omega
  have hfr0 : (0 : Int) ≤ ((Jr.forms (Jr.recs s)).length : Nat) := by omega
  have Hfr := Lib.hid hfr
  clear hfr
  go_wp2_with fail
  (with_reducible refine (Hsz.out).mono ?_)
  rintro _ w2 ⟨rfl, u2⟩
  go_wp2_with fail
  (with_reducible refine (Hrd.out _ u2).mono ?_)
  rintro _ w3 ⟨rfl, u3⟩
  have U3 := Lib.hid (u2.trans u3)
  clear u2 u3
  go_wp2_with fail
  (with_reducible refine (Hrj.out _ U3.out).mono ?_)
  rintro _ w4 ⟨v', rfl, o4, u4⟩
  have N4 := Lib.hid (U3.out.trans u4)
  have O4 := Lib.hid (owns_base o4 U3.out.size)
  obtain ⟨av, cv, rfl⟩ := own_slD o4
  clear o4 u4 Hrj Hrd Hsz
  have k5 := heap_new w4 (.cells #[.pointer (some ⟨r.rb, 0, none⟩), .int .i64 f, .slice av (Jr.recs s).length cv, .bool false] tRJrn)
  have n5 := nw_alloc w4 (.cells #[.pointer (some ⟨r.rb, 0, none⟩), .int .i64 f, .slice av (Jr.recs s).length cv, .bool false] tRJrn)
  have hfq := Lib.hid (Forms_q _ _ _ (Jr.recs s) _ (Sl.of_owns (owns_updD O4.out n5 (fun _ _ e => e))) (by have := Hfr.out; have := Hnow.out; omega))
  clear k5 n5
  go_wp2_with fail
  (with_reducible refine (hfq.out).mono ?_)
  rintro _ w6 ⟨rfl, u6⟩
  obtain ⟨x, kx, lx, S6, fx⟩ := ropen_made HB.out HD1.out.2.1 HD1.out.2.2.1 HD1.out.2.2.2 HD1.out.1 N4.out O4.out u6 hfile.out (by have := Hfr.out; have := Hnow.out; omega)
  have HS6 := Lib.hid (And.intro S6 (And.intro kx fx))
  have U6 := Lib.hid ((N4.out.trans (nw_alloc w4 _)).trans u6)
  clear S6 kx lx fx u6 hfq
  have hI : Hid (I64 ((Jr.forms (Jr.recs s)).length : Nat)) := by show I64 _; unfold I64; omega
  by_cases hlt : (Jr.forms (Jr.recs s)).length < s.length
  rotate_left
  · have hr : Hid (Jr.openJ D f = (D1, some ⟨f, Jr.recs s, false⟩, 0)) := by show _ = _; rw [Hr1.out, if_neg hlt]
    have hd : decide ((Jr.forms (Jr.recs s)).length < s.length) = false := decide_eq_false hlt
    have hd2 : ¬ ((Jr.forms (Jr.recs s)).length : Int) < s.length := by omega
    have hz : Hid (ROpenTo B r D1 (some ⟨f, Jr.recs s, false⟩) (.pointer (some ⟨w4.heap.size, 0, none⟩)) w w6) := ⟨r1, x, by rw [HS6.out.2.1], HS6.out.1, HD1.out.2.1, HD1.out.2.2.1.nw U6.out, HD1.out.2.2.2, fun k hk => (HS6.out.2.2 k hk).2⟩
    clear hlt
    go_wp2_with fail
    go_ret2
    exact ⟨_, by rw [hr.out] <;> rfl, by rw [hr.out]; exact hz.out⟩
  have hd : decide ((Jr.forms (Jr.recs s)).length < s.length) = true := decide_eq_true hlt
  have hd2 : ((Jr.forms (Jr.recs s)).length : Int) < s.length := by omega
  have hr1 := Hr1.out
  rw [if_pos hlt] at hr1
  have htc := truncate_rd HS6.out.1.disk (g.upd (HD1.out.2.2.1.nw U6.out)) (Nat.le_trans HB.out (HD1.out.2.2.1.nw U6.out).size) HF.out (n := ((Jr.forms (Jr.recs s)).length : Nat)) hI.out
  rw [HD1.out.2.1] at htc
  generalize Dk.truncate D1 f ((Jr.forms (Jr.recs s)).length : Nat) = S2 at *
  obtain ⟨D2, E2⟩ := S2
  dsimp only at hr1 htc
  have Htc2 := Lib.hid htc
  have Hr2 := Lib.hid hr1
  clear hr1 htc hlt Hr1
  go_wp2_with fail
  (with_reducible refine (Htc2.out).mono ?_)
  rintro _ w7 ⟨rfl, hT7⟩
  obtain ⟨r7, k7, e7, u7, f7⟩ := RSTo.disk HS6.out.1 hT7
  have hsz6 : w.heap.size ≤ w6.heap.size := (HD1.out.2.2.1.nw U6.out).size
  have hf7 : ∀ k, r7.foot k → r.foot k ∨ w.heap.size ≤ k := fun k hk => by
    rcases f7 k hk with a | a
    · exact HD1.out.2.2.2 k a
    · exact Or.inr (by omega)
  have hu7 : Upd r.foot w w7 := (HD1.out.2.2.1.nw U6.out).trans' u7 (fun k hk e => (HD1.out.2.2.2 k e).resolve_right (by omega))
  have H7 := Lib.hid (And.intro k7 (And.intro (e7.trans HD1.out.2.1) (And.intro hu7 hf7)))
  clear k7 e7 u7 f7 hf7 hu7 hT7 Htc2
  by_cases hE : E2 = 0
  · subst hE
    have hr : Hid (Jr.openJ D f = (D2, some ⟨f, Jr.recs s, false⟩, 0)) := by show _ = _; rw [Hr2.out, if_neg (fun e => e rfl)]
    have hz : Hid (ROpenTo B r D2 (some ⟨f, Jr.recs s, false⟩) (.pointer (some ⟨w4.heap.size, 0, none⟩)) w w7) := ⟨r7, x, by rw [HS6.out.2.1], H7.out.1, H7.out.2.1, H7.out.2.2.1, H7.out.2.2.2, fun k hk => (HS6.out.2.2 k hk).2⟩
    go_wp2_with fail
    go_ret2
    exact ⟨_, by rw [hr.out] <;> rfl, by rw [hr.out]; exact hz.out⟩
  · have b1 : (E2 == 0) = false := beq_eq_false_iff_ne.2 hE
    have b2 : (E2 != 0) = true := by simp [hE]
    have hr : Hid (Jr.openJ D f = (D2, none, E2)) := by show _ = _; rw [Hr2.out, if_pos hE]
    have hz : Hid (RDTo B r D2 w w7) := ⟨r7, H7.out.1.disk, H7.out.2.1, H7.out.2.2.1, H7.out.2.2.2⟩
    clear hE
    go_wp2_with fail
    go_ret2
    exact ⟨_, by rw [hr.out] <;> rfl, by rw [hr.out]; exact ⟨rfl, hz.out⟩⟩
end
end Go.Proofs.YtmlmdlbepppnlaaGreatDoor
namespace Go.Proofs.YtmlmdlbepppnlaaGreatDoor
open Go.RowKit
set_option linter.unusedVariables false
set_option linter.unusedSimpArgs false
attribute [local irreducible] Calls

/-- What is kept is turned, and other blocks are kept from now on. -/
theorem GS.upd_keep {w : World} {db : Nat} {jp : Option (Nat × Jr.Jn)} {D : Dk.Disk} {F F' S : Nat → Prop} {z z' : World} (h : GS w db jp D F z) (u : Upd S z z') (hs : ∀ k, S k → (F k ∧ w.heap.size ≤ k) ∨ z.heap.size ≤ k) (hF : ∀ k, F' k → F k ∨ (z.heap.size ≤ k ∧ k < z'.heap.size)) : GS w db jp D F' z' := by
  have hz := u.size
  obtain ⟨d, e, h1, h2, h3, h4⟩ := h
  have hw := h2.size
  refine ⟨d, e, h1.upd u (fun k hk s => ?_), h2.trans' u (fun k hk s => ?_), fun k hk => ?_, fun p hp => ?_⟩
  · rcases hs k s with a | a
    · exact (h3 k a.1).2 hk
    · have := (h1.foot_lt hk).2; omega
  · rcases hs k s with a | a <;> omega
  · rcases hF k hk with a | a
    · exact ⟨by have := (h3 k a).1; omega, (h3 k a).2⟩
    · exact ⟨a.2, fun e => by have := (h1.foot_lt e).2; omega⟩
  · obtain ⟨x, e2, h5, h6, h7⟩ := h4 p hp
    refine ⟨x, e2, h5.upd u (fun k hk s => ?_), h6, fun k hk e3 => ?_⟩
    · rcases hs k s with a | a
      · exact h7 k a.1 hk
      · have := (h5.foot_lt hk).2; omega
    · rcases hF k hk with a | a
      · exact h7 k a e3
      · have := (h5.foot_lt e3).2; omega
theorem OS.any {w : World} {db : Nat} {D : Dk.Disk} {f : Int} {F : Nat → Prop} {pv : Value} {z : World} {n : Nat} (h : OS w db (Jr.openJ D f).1 (Jr.openJ D f).2.1 F pv z) (hs : Jr.St (Jr.openJ D f).1 (Jr.openJ D f).2.1 n) : ∃ jp D', pv = ptrJ jp ∧ GS w db jp D' F z ∧ Jr.St D' (jp.map (·.2)) n := by
  obtain ⟨jp, h1, h2, h3⟩ := h
  exact ⟨jp, _, h2, h3, by rw [h1]; exact hs⟩
end Go.Proofs.YtmlmdlbepppnlaaGreatDoor
namespace Go.Proofs.YtmlmdlbepppnlaaGreatDoor
open Go.RowKit
set_option linter.unusedVariables false
set_option linter.unusedSimpArgs false
attribute [local irreducible] Calls

/-- The reference's disk and perhaps its journal, made since w, in the blocks R. -/
def RX (w : World) (rb : Nat) (kq : Option (Nat × Jr.Jn)) (D : Dk.Disk) (R : Nat → Prop) (z : World) : Prop :=
  ∃ r, r.rb = rb ∧ RDAt w.heap.size z r D ∧ Nw w z ∧ (∀ k, r.foot k → R k) ∧ ∀ p, kq = some p → ∃ x, x.kb = p.1 ∧ RJAt w.heap.size z rb x p.2 ∧ ∀ k, x.foot k → R k
/-- Both sides: the program's disk is in the state D, the reference's in the state E; the blocks F are none of theirs. -/
def TS (w : World) (db : Nat) (jp : Option (Nat × Jr.Jn)) (D : Dk.Disk) (rb : Nat) (kq : Option (Nat × Jr.Jn)) (E : Dk.Disk) (F : Nat → Prop) (z : World) : Prop :=
  ∃ R, GS w db jp D (fun k => R k ∨ F k) z ∧ RX w rb kq E R z ∧ ∀ k, F k → ¬ R k
section
variable {w : World} {db rb : Nat} {jp jp' kq kq' : Option (Nat × Jr.Jn)} {D D' E E' : Dk.Disk} {R F F' : Nat → Prop} {z z' : World}
theorem RX.upd {S : Nat → Prop} (h : RX w rb kq E R z) (u : Upd S z z') (hs : ∀ k, R k → ¬ S k) (hw : ∀ k, S k → w.heap.size ≤ k) : RX w rb kq E R z' := by
  obtain ⟨r, e, h1, h2, h3, h4⟩ := h
  refine ⟨r, e, h1.upd u (fun k hk => hs k (h3 k hk)), h2.trans' u (fun k hk s => by have := hw k s; omega), h3, fun p hp => ?_⟩
  obtain ⟨x, e2, h5, h6⟩ := h4 p hp
  exact ⟨x, e2, h5.upd u (fun k hk => hs k (h6 k hk)), h6⟩
theorem TS.gl (h : TS w db jp D rb kq E F z) (g : Gl w) : Gl z := by obtain ⟨R, h, _⟩ := h; exact h.gl g
theorem TS.nw0 (h : TS w db jp D rb kq E F z) : Nw w z := by obtain ⟨R, h, _⟩ := h; exact h.nw0
theorem TS.nw (h : TS w db jp D rb kq E F z) (u : Nw z z') : TS w db jp D rb kq E F z' := by
  obtain ⟨R, h1, h2, h3⟩ := h
  exact ⟨R, h1.nw u, h2.upd u (fun k _ s => s) (fun k s => s.elim), h3⟩
theorem TS.keep (h : TS w db jp D rb kq E F z) (u : Nw z z') (hF : ∀ k, F' k → F k ∨ (z.heap.size ≤ k ∧ k < z'.heap.size)) : TS w db jp D rb kq E F' z' := by
  obtain ⟨R, h1, h2, h3⟩ := h
  have hR : ∀ k, R k → k < z.heap.size := fun k hk => by
    obtain ⟨d, _, _, _, h, _⟩ := h1
    exact (h k (Or.inl hk)).1
  refine ⟨R, h1.keep u (fun k hk => ?_), h2.upd u (fun k _ s => s) (fun k s => s.elim), fun k hk hr => ?_⟩
  · rcases hk with hk | hk
    · exact Or.inl (Or.inl hk)
    · exact (hF k hk).imp Or.inr id
  · rcases hF k hk with s | s
    · exact h3 k s hr
    · have := hR k hr; omega
theorem TS.forget (h : TS w db jp D rb kq E F z) : TS w db none D rb none E F z := by
  obtain ⟨R, h1, ⟨r, e, k1, k2, k3, k4⟩, h3⟩ := h
  exact ⟨R, h1.forget, ⟨r, e, k1, k2, k3, fun p hp => by cases hp⟩, h3⟩
/-- A call of the program's side. -/
theorem TS.prog (h : TS w db jp D rb kq E F z) {Q : Ending → Prop} {P : Program} {f : FuncId} {args : Array Value}
    (c : ∀ R, GS w db jp D R z → Calls P f args z fun e z' => Q e ∧ GS w db jp' D' R z' ∧ Moves w R z z') : Calls P f args z fun e z' => Q e ∧ TS w db jp' D' rb kq E F z' ∧ Moves w F z z' := by
  obtain ⟨R, h1, h2, h3⟩ := h
  exact (c _ h1).mono fun e z' ⟨q, k1, k2⟩ => ⟨q, ⟨R, k1, h2.upd k2 (fun k hk s => s.1 (Or.inl hk)) (fun k s => s.2), h3⟩, k2.mono (fun k _ s => ⟨fun f => s.1 (Or.inr f), s.2⟩)⟩
/-- A call of the reference's disk alone. -/
theorem TS.rdisk {r : RdR} {R : Nat → Prop} (h1 : GS w db jp D (fun k => R k ∨ F k) z) (hF : ∀ k, F k → ¬ R k) (e : r.rb = rb) (k1 : RDAt w.heap.size z r E) (k2 : Nw w z) (k3 : ∀ k, r.foot k → R k) (k4 : ∀ p, kq = some p → ∃ x, x.kb = p.1 ∧ RJAt w.heap.size z rb x p.2 ∧ ∀ k, x.foot k → R k)
    (t : RDTo w.heap.size r E' z z') : TS w db jp D rb kq E' F z' ∧ Moves w F z z' := by
  obtain ⟨r', a, b, c, d⟩ := t
  have hlo : ∀ k, r.foot k → w.heap.size ≤ k := fun k hk => (k1.foot_lt hk).1
  have hFz : ∀ k, F k → k < z.heap.size := fun k hk => by
    obtain ⟨d, _, _, _, h, _⟩ := h1
    exact (h k (Or.inr hk)).1
  have hnew : ∀ p, kq = some p → ∃ x, x.kb = p.1 ∧ RJAt w.heap.size z' rb x p.2 ∧ ∀ k, x.foot k → R k := fun p hp => by
    obtain ⟨x, e2, h5, h6⟩ := k4 p hp
    exact ⟨x, e2, h5.upd c (fun k hk s => rj_apart k1 h5 s hk), h6⟩
  refine ⟨⟨fun k => R k ∨ r'.foot k, h1.upd_keep c (fun k s => Or.inl ⟨Or.inl (k3 k s), hlo k s⟩) (fun k hk => ?_), ⟨r', b.trans e, a, k2.trans' c (fun k hk s => by have := hlo k s; omega), fun k hk => Or.inr hk, fun p hp => ?_⟩, fun k hk hr => ?_⟩, c.mono (fun k _ s => ⟨fun f => hF k f (k3 k s), hlo k s⟩)⟩
  · rcases hk with (hk | hk) | hk
    · exact Or.inl (Or.inl hk)
    · rcases d k hk with s | s
      · exact Or.inl (Or.inl (k3 k s))
      · exact Or.inr ⟨s, (a.foot_lt hk).2⟩
    · exact Or.inl (Or.inr hk)
  · obtain ⟨x, e2, h5, h6⟩ := hnew p hp
    exact ⟨x, e2, h5, fun k hk => Or.inl (h6 k hk)⟩
  · rcases hr with hr | hr
    · exact hF k hk hr
    · rcases d k hr with s | s
      · exact hF k hk (k3 k s)
      · have := hFz k hk; omega
/-- A call of the reference's journal. -/
theorem TS.rjrn {p : Nat × Jr.Jn} {j' : Jr.Jn} {r : RdR} {x : RjR} {R : Nat → Prop} (h1 : GS w db jp D (fun k => R k ∨ F k) z) (hF : ∀ k, F k → ¬ R k) (e : r.rb = rb) (e2 : x.kb = p.1) (k1 : RDAt w.heap.size z r E) (k2 : Nw w z) (k3 : ∀ k, r.foot k → R k) (k4 : RJAt w.heap.size z rb x p.2) (k5 : ∀ k, x.foot k → R k)
    (t : RSTo w.heap.size r x E' j' z z') : TS w db jp D rb (some (p.1, j')) E' F z' ∧ Moves w F z z' := by
  obtain ⟨r', x', a, b, c, d, f⟩ := t
  have hlo : ∀ k, r.foot k ∨ x.foot k → w.heap.size ≤ k := fun k hk => hk.elim (fun s => (k1.foot_lt s).1) (fun s => (k4.foot_lt s).1)
  have hR : ∀ k, r.foot k ∨ x.foot k → R k := fun k hk => hk.elim (k3 k) (k5 k)
  have hFz : ∀ k, F k → k < z.heap.size := fun k hk => by
    obtain ⟨d, _, _, _, h, _⟩ := h1
    exact (h k (Or.inr hk)).1
  have hlt : ∀ k, r'.foot k ∨ x'.foot k → k < z'.heap.size := fun k hk => hk.elim (fun s => (a.disk.foot_lt s).2) (fun s => (a.jrn.foot_lt s).2)
  refine ⟨⟨fun k => r'.foot k ∨ x'.foot k, h1.upd_keep d (fun k s => Or.inl ⟨Or.inl (hR k s), hlo k s⟩) (fun k hk => ?_), ⟨r', b.trans e, a.disk, k2.trans' d (fun k hk s => by have := hlo k s; omega), fun k hk => Or.inl hk, fun q hq => ?_⟩, fun k hk hr => ?_⟩, d.mono (fun k _ s => ⟨fun f => hF k f (hR k s), hlo k s⟩)⟩
  · rcases hk with hk | hk
    · rcases f k hk with s | s
      · exact Or.inl (Or.inl (hR k s))
      · exact Or.inr ⟨s, hlt k hk⟩
    · exact Or.inl (Or.inr hk)
  · obtain rfl := Option.some.inj hq
    exact ⟨x', c.trans e2, by have := a.jrn; rw [b, e] at this; exact this, fun k hk => Or.inr hk⟩
  · rcases f k hr with s | s
    · exact hF k hk (hR k s)
    · have := hFz k hk; omega
theorem rstart_t (h : TS w db jp D rb kq E F z) : Calls Tryz.prog 32 #[.pointer (some ⟨rb, 0, none⟩)] z fun e z' => e = .returned (.tuple #[]) ∧ TS w db jp D rb kq (Dk.start E) F z' ∧ Moves w F z z' := by
  obtain ⟨R, h1, ⟨r, e, k1, k2, k3, k4⟩, hF⟩ := h
  subst e
  exact (start_rd k1).mono fun e z' ⟨he, t⟩ => ⟨he, TS.rdisk h1 hF rfl k1 k2 k3 k4 t⟩
theorem rlose_t (h : TS w db jp D rb kq E F z) {n : Int} (hn : I64 n) : Calls Tryz.prog 26 #[.pointer (some ⟨rb, 0, none⟩), .int .i64 n] z fun e z' => e = .returned (.tuple #[]) ∧ TS w db jp D rb kq (Dk.lose E n) F z' ∧ Moves w F z z' := by
  obtain ⟨R, h1, ⟨r, e, k1, k2, k3, k4⟩, hF⟩ := h
  subst e
  exact (lose_rd k1 hn).mono fun e z' ⟨he, t⟩ => ⟨he, TS.rdisk h1 hF rfl k1 k2 k3 k4 t⟩
theorem rarm_t (h : TS w db jp D rb kq E F z) (g : Gl w) {n : Int} (hn : I64 n) (lo hi : Nat) (hhi : hi ≤ w.heap.size) (v : Value) (keep : List Int) (hkI : ∀ x ∈ keep, I64 x) (hs : Sl lo hi z v (keep.map intD)) (hL : keep.length ≤ 1000000000) :
    Calls Tryz.prog 28 #[.pointer (some ⟨rb, 0, none⟩), .int .i64 n, v] z fun e z' => e = .returned (.tuple #[]) ∧ TS w db jp D rb kq (Dk.arm E n keep) F z' ∧ Moves w F z z' := by
  have hg := h.gl g
  obtain ⟨R, h1, ⟨r, e, k1, k2, k3, k4⟩, hF⟩ := h
  subst e
  exact (arm_rd k1 hg hn lo hi hhi v keep hkI hs hL).mono fun e z' ⟨he, t⟩ => ⟨he, TS.rdisk h1 hF rfl k1 k2 k3 k4 t⟩
theorem rcrash_t (h : TS w db jp D rb kq E F z) (g : Gl w) (lo hi : Nat) (hhi : hi ≤ w.heap.size) (v : Value) (keep : List Int) (hkI : ∀ x ∈ keep, I64 x) (hs : Sl lo hi w v (keep.map intD)) :
    Calls Tryz.prog 30 #[.pointer (some ⟨rb, 0, none⟩), v] z fun e z' => e = .returned (.tuple #[]) ∧ TS w db jp D rb kq (Dk.crash E keep) F z' ∧ Moves w F z z' := by
  have hg := h.gl g
  obtain ⟨R, h1, ⟨r, e, k1, k2, k3, k4⟩, hF⟩ := h
  subst e
  refine (crash_r k1 hg k2.size lo hi v keep (fun y u => (hs.nw k2).upd u (fun k _ hk s => ?_)) hkI).mono fun e z' ⟨he, t⟩ => ⟨he, TS.rdisk h1 hF rfl k1 k2 k3 k4 t⟩
  have := (k1.foot_lt (k := k) (Or.inl s)).1
  omega
theorem rjsync_t {p : Nat × Jr.Jn} (h : TS w db jp D rb (some p) E F z) (g : Gl w) :
    Calls Tryz.prog 54 #[.pointer (some ⟨p.1, 0, none⟩)] z fun e z' => e = .returned (.int .i64 (Jr.syncJ E p.2).2.2) ∧ TS w db jp D rb (some (p.1, (Jr.syncJ E p.2).2.1)) (Jr.syncJ E p.2).1 F z' ∧ Moves w F z z' := by
  have hg := h.gl g
  obtain ⟨R, h1, ⟨r, e, k1, k2, k3, k4⟩, hF⟩ := h
  obtain ⟨x, e2, k5, k6⟩ := k4 p rfl
  subst e
  rw [← e2]
  refine (JSync_q (x := x) (j := p.2) ⟨k1, k5⟩ hg k2.size).mono fun e' z' ⟨he, t⟩ => ⟨he, ?_⟩
  have := TS.rjrn h1 hF rfl e2 k1 k2 k3 k5 k6 t
  rw [← e2] at this
  exact this
theorem rappend_t {p : Nat × Jr.Jn} (h : TS w db jp D rb (some p) E F z) (g : Gl w) (s : List UInt8) (hs : s.length ≤ 1000000) :
    Calls Tryz.prog 52 #[.pointer (some ⟨p.1, 0, none⟩), .string ⟨s.toArray⟩] z fun e z' => e = .returned (.int .i64 (Jr.append E p.2 s).2.2) ∧ TS w db jp D rb (some (p.1, (Jr.append E p.2 s).2.1)) (Jr.append E p.2 s).1 F z' ∧ Moves w F z z' := by
  have hg := h.gl g
  obtain ⟨R, h1, ⟨r, e, k1, k2, k3, k4⟩, hF⟩ := h
  obtain ⟨x, e2, k5, k6⟩ := k4 p rfl
  subst e
  rw [← e2]
  refine (Append_q (x := x) (j := p.2) ⟨k1, k5⟩ hg k2.size s hs).mono fun e' z' ⟨he, t⟩ => ⟨he, ?_⟩
  have := TS.rjrn h1 hF rfl e2 k1 k2 k3 k5 k6 t
  rw [← e2] at this
  exact this
theorem ropen_t (h : TS w db jp D rb kq E F z) (g : Gl w) {f : Int} (hf : I64 f) :
    Calls Tryz.prog 45 #[.pointer (some ⟨rb, 0, none⟩), .int .i64 f] z fun e z' => ∃ kq' : Option (Nat × Jr.Jn), kq'.map (·.2) = (Jr.openJ E f).2.1 ∧ e = .returned (.tuple #[ptrJ kq', .int .i64 (Jr.openJ E f).2.2]) ∧ TS w db jp D rb kq' (Jr.openJ E f).1 F z' ∧ Moves w F z z' := by
  have hg := h.gl g
  obtain ⟨R, h1, ⟨r, e, k1, k2, k3, k4⟩, hF⟩ := h
  subst e
  refine (Open_q k1 hg k2.size hf).mono fun e z' ⟨pv, he, ht⟩ => ?_
  unfold ROpenTo at ht
  cases hj : (Jr.openJ E f).2.1 with
  | none =>
    rw [hj] at ht
    obtain ⟨hp, ht⟩ := ht
    exact ⟨none, rfl, by rw [he, hp]; rfl, TS.rdisk (kq := none) h1 hF rfl k1 k2 k3 (fun p hp => by cases hp) ht⟩
  | some j =>
    rw [hj] at ht
    obtain ⟨r', x, hp, a, b, c, d, f'⟩ := ht
    have hFz : ∀ k, F k → k < z.heap.size := fun k hk => by
      obtain ⟨d, _, _, _, h, _⟩ := h1
      exact (h k (Or.inr hk)).1
    refine ⟨some (x.kb, j), rfl, by rw [he, hp]; rfl, ⟨fun k => R k ∨ r'.foot k ∨ x.foot k, h1.upd_keep c (fun k s => Or.inl ⟨Or.inl (k3 k s), (k1.foot_lt s).1⟩) (fun k hk => ?_), ⟨r', b, a.disk, k2.trans' c (fun k hk s => by have := (k1.foot_lt s).1; omega), fun k hk => Or.inr (Or.inl hk), fun p hp => ?_⟩, fun k hk hr => ?_⟩, c.mono (fun k _ s => ⟨fun f => hF k f (k3 k s), (k1.foot_lt s).1⟩)⟩
    · rcases hk with (hk | hk | hk) | hk
      · exact Or.inl (Or.inl hk)
      · rcases d k hk with s | s
        · exact Or.inl (Or.inl (k3 k s))
        · exact Or.inr ⟨s, (a.disk.foot_lt hk).2⟩
      · exact Or.inr ⟨f' k hk, (a.jrn.foot_lt hk).2⟩
      · exact Or.inl (Or.inr hk)
    · obtain rfl := Option.some.inj hp
      exact ⟨x, rfl, by have := a.jrn; rw [b] at this; exact this, fun k hk => Or.inr (Or.inr hk)⟩
    · have := hFz k hk
      rcases hr with hr | hr | hr
      · exact hF k hk hr
      · rcases d k hr with s | s
        · exact hF k hk (k3 k s)
        · omega
      · have := f' k hr; omega
/-- The reference's list, as the statement reads it. -/
theorem TS.list {p : Nat × Jr.Jn} (h : TS w db jp D rb (some p) E F z) : ∃ v, z.cell? ⟨p.1, 2, none⟩ = some v ∧ z.ownsRow w.heap.size tStrJ 1 v p.2.recs.length (p.2.recs.map bsV) := by
  obtain ⟨R, h1, ⟨r, e, k1, k2, k3, k4⟩, hF⟩ := h
  obtain ⟨x, e2, k5, k6⟩ := k4 p rfl
  exact ⟨x.lv, by rw [← e2]; exact k5.cells.2.2.1, k5.own⟩
theorem ts_new (h1 : GS w db none D (fun _ => False) z) {r : RdR} (k1 : RDAt z.heap.size z' r E) (u : Nw z z') : TS w db none D r.rb none E (fun _ => False) z' := by
  have hz := h1.nw0.size
  obtain ⟨d, hd⟩ := h1.dpart
  obtain ⟨l, a, b⟩ := k1.files
  exact ⟨r.foot, h1.keep u (fun k hk => Or.inr (k1.foot_lt (hk.resolve_right id))), ⟨r, rfl, ⟨hd.2.hb, Nat.le_trans hz k1.rb, k1.blk, ⟨l, owns_base a hz, b⟩, owns_base k1.queue hz, owns_base k1.keep hz, k1.ok, k1.kI⟩, h1.nw0.trans u, fun k hk => hk, fun p hp => by cases hp⟩, fun k hk => hk.elim⟩
theorem tlose_t (h : TS w db jp D rb kq E F z) {n : Int} (hn : I64 n) : Calls Tryz.prog 25 #[.pointer (some ⟨db, 0, none⟩), .int .i64 n] z fun e z' => e = .returned (.tuple #[]) ∧ TS w db jp (Dk.lose D n) rb kq E F z' ∧ Moves w F z z' :=
  h.prog fun R h1 => lose_t h1 hn
theorem tstart_t (h : TS w db jp D rb kq E F z) : Calls Tryz.prog 31 #[.pointer (some ⟨db, 0, none⟩)] z fun e z' => e = .returned (.tuple #[]) ∧ TS w db jp (Dk.start D) rb kq E F z' ∧ Moves w F z z' :=
  h.prog fun R h1 => start_t h1
theorem tarm_t (h : TS w db jp D rb kq E F z) (g : Gl w) {n : Int} (hn : I64 n) (lo hi : Nat) (v : Value) (keep : List Int) (hkI : ∀ x ∈ keep, I64 x) (hs : Sl lo hi z v (keep.map intD)) (hL : keep.length ≤ 1000000000) :
    Calls Tryz.prog 27 #[.pointer (some ⟨db, 0, none⟩), .int .i64 n, v] z fun e z' => e = .returned (.tuple #[]) ∧ TS w db jp (Dk.arm D n keep) rb kq E F z' ∧ Moves w F z z' :=
  h.prog fun R h1 => arm_t h1 g hn lo hi v keep hkI hs hL
theorem tcrash_t (h : TS w db jp D rb kq E F z) (g : Gl w) (lo hi : Nat) (hhi : hi ≤ w.heap.size) (v : Value) (keep : List Int) (hkI : ∀ x ∈ keep, I64 x) (hs : Sl lo hi w v (keep.map intD)) :
    Calls Tryz.prog 29 #[.pointer (some ⟨db, 0, none⟩), v] z fun e z' => e = .returned (.tuple #[]) ∧ TS w db jp (Dk.crash D keep) rb kq E F z' ∧ Moves w F z z' :=
  h.prog fun R h1 => crash_t h1 g lo hi hhi v keep hkI hs
end
end Go.Proofs.YtmlmdlbepppnlaaGreatDoor
namespace Go.Proofs.YtmlmdlbepppnlaaGreatDoor
open Go.RowKit
set_option linter.unusedVariables false
set_option linter.unusedSimpArgs false

theorem step_catC {P : Program} {w : World} {ops : Array Oper} {o : Oper} {a : Act} {K : Act → World → Prop} {Q : Exit → Act → World → Prop} {E : Prop} (hgd : o.guard = none) (s x : Operand) (t : TypeId)
    (ho : o.op = .call { callee := .builtin .append, args := #[s, x], argTypes := #[t, t] })
    (e : TypeId) (z : Value) (size bytes : Nat) (ht : P.underlying t = some (.slice e)) (hinfo : (P.info? e).map (fun i => (i.zero, i.size, i.bytes)) = some (some z, size, bytes)) (hzs : z.cells.size = size) (hsz : 0 < size)
    (B : Nat) (hB : B ≤ w.heap.size) (hg : nG ≤ B) (v : Value) (n : Nat) (xs : List Value) (hs : a.eval s = v) (hown : w.ownsRow B e size v n xs)
    (ad : Addr) (m c : Nat) (news : List Value) (hx : a.eval x = .slice (some ad) m c) (hl : news.length = m * size) (hnews : ∀ j u, news[j]? = some u → w.cell? (ad.add j) = some u) (h1 : ∀ u ∈ news, u.oneCell' = true)
    (hm : 0 < m) (h63 : n + m ≤ maxLen) (hbytes : (n + m) * bytes ≤ 140737488355328)
    (h : ∀ g cap w', w'.ownsRow B e size (.slice (some ⟨g, 0, none⟩) (n + m) cap) (n + m) (xs ++ news) → Upd (fun k => v.ownBlock = some k) w w' → (v.ownBlock = some g ∨ w.heap.size ≤ g) → K (a.put o.dst (.slice (some ⟨g, 0, none⟩) (n + m) cap)) w') :
    if Region.wanted o (yielded ops a.tmps) = true then Oper.wp P o a w K Q else E := by
  obtain ⟨i0, hi, hz0, hz1, hz2⟩ := info_parts hinfo
  refine step_append_lies _ hgd s x t ho B e i0 z size bytes ht hi hz0 hz1 hz2 hzs hsz v n xs hs hown ad m c news hx hl hnews h1 hm h63 hbytes hB w.heap.size rfl fun g cap w' h2 h3 h4 h5 => h g cap w' h2 ((Upd.refl _ _).grown h3 fun k hk => ⟨Or.inl hk, ?_⟩) (h4.imp id (fun e => by omega))
  have := (hown.lt k hk).1; omega
end Go.Proofs.YtmlmdlbepppnlaaGreatDoor
namespace Go.Proofs.YtmlmdlbepppnlaaGreatDoor
open Go.RowKit
set_option linter.unusedVariables false
set_option linter.unusedSimpArgs false
attribute [local irreducible] Calls

abbrev tRFet : TypeId := 89
/-- The reference's fetch at the block fb: its journal at kb, the contents and the chunks where the statement has them. -/
structure RFAt (w : World) (fb kb : Nat) (v cv : Value) (cs : List (List UInt8)) (m : Ck.Man) (lo hi lo2 hi2 : Nat) : Prop where
  blk : w.heap[fb]? = some (.cells #[.pointer (some ⟨kb, 0, none⟩), v, .int .i64 m.print, .int .i64 m.size, cv] tRFet (0, 0))
  sv : Sl lo hi w v (cs.map bsMU)
  sc : Sl lo2 hi2 w cv (m.chunks.map intD)
section
variable {w w' : World} {fb kb : Nat} {v cv lv : Value} {cs R : List (List UInt8)} {m : Ck.Man} {lo hi lo2 hi2 lo3 hi3 : Nat}
theorem RFAt.nw (h : RFAt w fb kb v cv cs m lo hi lo2 hi2) (u : Nw w w') : RFAt w' fb kb v cv cs m lo hi lo2 hi2 := ⟨u.keep h.blk, h.sv.nw u, h.sc.nw u⟩
theorem RFAt.cells (h : RFAt w fb kb v cv cs m lo hi lo2 hi2) :
    w.cell? ⟨fb, 0, none⟩ = some (.pointer (some ⟨kb, 0, none⟩)) ∧ w.cell? ⟨fb, 1, none⟩ = some v ∧ w.cell? ⟨fb, 2, none⟩ = some (.int .i64 m.print) ∧ w.cell? ⟨fb, 3, none⟩ = some (.int .i64 m.size) ∧ w.cell? ⟨fb, 4, none⟩ = some cv := by
  refine ⟨?_, ?_, ?_, ?_, ?_⟩ <;> (rw [cells_cell h.blk]; rfl)
set_option maxHeartbeats 2000000 in
set_option maxRecDepth 100000 in
theorem rcome_c (h : RFAt w fb kb v cv cs m lo hi lo2 hi2) (g : Gl w) (hl : w.cell? ⟨kb, 2, none⟩ = some lv) (hL : Sl lo3 hi3 w lv (R.map bsV)) (hR : R.length ≤ 20000000) (hcs : cs.length ≤ 90) :
    Calls Tryz.prog 51 #[.pointer (some ⟨fb, 0, none⟩)] w fun e w' => ∃ v', e = .returned v' ∧ w'.ownsRow w.heap.size 3 1 v' (R.map (Ft.prOf cs)).length ((R.map (Ft.prOf cs)).map intD) ∧ Nw w w' := by
  have hgb := g.big
  obtain ⟨c0, c1, c2, c3, c4⟩ := h.cells
  have HC := Lib.hid (And.intro c0 (And.intro c1 hl))
  have HL := Lib.hid (strs_cellsU hL)
  obtain ⟨al, cl, rfl, -⟩ := strs_cellsU hL
  obtain ⟨av, cav, rfl, -⟩ := strs_cellsU h.sv
  rw [List.length_map] at *
  have hR1 : (R.length : Int) ≤ 20000000 := by omega
  have HPr := Lib.hid (fun (y : World) (s : List UInt8) (u : Nw w y) => rprint_c lo hi _ cs s y (h.sv.nw u) hcs)
  clear h hL hl c0 c1 c2 c3 c4
  go_enter Tryz.func51, Tryz.ntmps51
  go_wp2_with fail
  go_loopw [3, 4] (fun vo iv wr => ∃ n : Nat, n ≤ R.length ∧ iv = .int .i64 (n : Int) ∧ Hid (wr.ownsRow w.heap.size 3 1 vo n ((comeN cs R n).map intD)) ∧ Hid (Nw w wr)) (fun vo iv _ => R.length - (intOf iv).toNat)
  case atStart => exact ⟨0, Nat.zero_le _, rfl, World.ownsRow_nil _ _ _ _, Upd.refl _ _⟩
  case round =>
    obtain ⟨n, hn, rfl, HO, U⟩ := hrel
    obtain ⟨ao, co, rfl⟩ := own_slG HO.out
    have cl : ∀ y, Nw w y → y.cell? ⟨fb, 0, none⟩ = some (.pointer (some ⟨kb, 0, none⟩)) ∧ y.cell? ⟨fb, 1, none⟩ = some (.slice av cs.length cav) ∧ y.cell? ⟨kb, 2, none⟩ = some (.slice al R.length cl) := fun y u => ⟨nw_cell u HC.out.1, nw_cell u HC.out.2.1, nw_cell u HC.out.2.2⟩
    obtain ⟨c0, c1, c2⟩ := cl wr U.out
    have CL := Lib.hid cl
    clear cl
    by_cases hlt : n < R.length
    · rcases HL.out with ⟨_, _, e, hnil | ⟨b, off, e2, hcell⟩⟩
      · simp [hnil] at hlt
      injection e with e3 e4 e5
      subst e3 e5
      subst e2
      have HX := Lib.hid (hcell n hlt)
      have c3 := nw_cell U.out HX.out
      have hlt1 : (n : Int) < R.length := by omega
      have hct := Lib.hid (comeN_succ (cs := cs) hlt)
      have hp := Lib.hid (fun (y : World) (u : Nw w y) => HPr.out y R[n] u)
      clear hcell HPr
      have hpd : Ft.prOf cs R[n] = idxI (fun x => decide (x = R[n])) cs := rfl
      rw [← hpd] at hp
      clear hpd
      generalize Ft.prOf cs R[n] = q at *
      generalize R[n] = s at *
      obtain ⟨wo, hwo⟩ : ∃ y, y = wr := ⟨_, rfl⟩
      subst hwo
      have hz1 := U.out.size
      have hgw : nG ≤ wo.heap.size := by omega
      have HCC := Lib.hid (fun (y : World) (u : Nw w y) => (show y.cell? ⟨fb, 0, none⟩ = some (.pointer (some ⟨kb, 0, none⟩)) ∧ y.cell? ⟨fb, 1, none⟩ = some (.slice av cs.length cav) ∧ y.cell? ⟨kb, 2, none⟩ = some (.slice (some ⟨b, off, none⟩) R.length cl) ∧ y.cell? ⟨b, off + n, none⟩ = some (.string ⟨s.toArray⟩) from ⟨(CL.out y u).1, (CL.out y u).2.1, (CL.out y u).2.2, nw_cell u HX.out⟩))
      have UD := Lib.hid (U.out.drew)
      have HP2 := Lib.hid (fun (y : World) (u : Nw wo y) => hp.out y (U.out.trans u))
      have HOw := Lib.hid (fun (y : World) (u : Nw wo y) => owns_upd' HO.out u (fun _ _ e => e))
      have HN : Hid (n + 1 ≤ maxLen ∧ (n + 1) * 8 ≤ 140737488355328) := ⟨by unfold maxLen; omega, by omega⟩
      go_wp2_with fail
      go_region_held_law (fun y => y.cell? ⟨fb, 0, none⟩ = some (.pointer (some ⟨kb, 0, none⟩)) ∧ y.cell? ⟨fb, 1, none⟩ = some (.slice av cs.length cav) ∧ y.cell? ⟨kb, 2, none⟩ = some (.slice (some ⟨b, off, none⟩) R.length cl) ∧ y.cell? ⟨b, off + n, none⟩ = some (.string ⟨s.toArray⟩)) (with_reducible first | exact ⟨c0, c1, c2, c3⟩ | exact HCC.out _ UD.out | exact HCC.out _ uc.out | exact HCC.out _ ue.out | exact HCC.out _ ua.out | exact HCC.out _ (by repeat (first | exact Upd.refl _ _ | assumption | refine Upd.drew ?_ | refine Upd.alloc ?_ _))) (first
        | (go_at_call 46; (with_reducible refine (HP2.out _ (by first | exact (Upd.refl _ _).drew | exact Upd.refl _ _)).mono ?_); rintro _ wc ⟨rfl, uc0⟩; have uc : Hid (Nw w wc) := UD.out.trans uc0; have ue : Hid (Nw w (wc.alloc (.cells #[.int .i64 q] 3))) := uc.out.trans (nw_alloc _ _); have ue1 : Hid (Nw wo (wc.alloc (.cells #[.int .i64 q] 3))) := (by exact ((Upd.refl _ _).drew.trans uc0).trans (nw_alloc _ _)); have hza := ue.out.size)
        | (refine step_catC rfl _ _ 26 rfl 3 _ 1 8 Tryz.underlying26 infoIntU rfl (by decide) w.heap.size (by omega) hgb _ n _ rfl (HOw.out _ ue1.out) ⟨wc.heap.size, 0, none⟩ 1 1 [.int .i64 q] rfl rfl (World.news_of_block (cs := #[.int .i64 q]) (t := 3) (fr := (0, 0)) (heap_new wc _)) (by intro u hu; rw [List.mem_singleton.1 hu]; rfl) (by omega) HN.out.1 HN.out.2 ?_; intro ga ca wa oa ua0 _; have ua : Hid (Nw w wa) := ue.out.trans' ua0 (fun j hj e => by have := (HO.out.lt j e).1; omega)))
      have hfin : Hid (wa.ownsRow w.heap.size 3 1 (.slice (some ⟨ga, 0, none⟩) (n + 1) ca) (n + 1) ((comeN cs R (n + 1)).map intD)) := by
        show wa.ownsRow _ _ _ _ _ _
        rw [hct.out, List.map_append]
        exact oa
      have hU := Lib.hid ua.out
      clear oa ua ua0 ue ue1 uc uc0 hza
      go_wp2_with fail
      go_roundw
      case rel => exact ⟨n + 1, by omega, by go_num, hfin, hU⟩
      case measure => simp [intOf]; omega
    · obtain rfl : n = R.length := by omega
      have ho := HO.out
      rw [show comeN cs R R.length = R.map (Ft.prOf cs) by unfold comeN; rw [List.take_length]] at ho
      have HO2 := Lib.hid ho
      clear ho HO
      go_wp2_with fail
      go_ret
      exact ⟨_, rfl, HO2.out, U.out⟩
set_option maxHeartbeats 1000000 in
set_option maxRecDepth 100000 in
theorem rfmissing_c (h : RFAt w fb kb v cv cs m lo hi lo2 hi2) (g : Gl w) (hl : w.cell? ⟨kb, 2, none⟩ = some lv) (hL : Sl lo3 hi3 w lv (R.map bsV)) (hR : R.length ≤ 20000000) (hcs : cs.length ≤ 90) (hm : m.chunks.length ≤ 1000000) :
    Calls Tryz.prog 24 #[.pointer (some ⟨fb, 0, none⟩)] w fun e w' => ∃ v', e = .returned v' ∧ w'.ownsRow w.heap.size 3 1 v' (Ft.miss m.chunks (R.map (Ft.prOf cs))).length ((Ft.miss m.chunks (R.map (Ft.prOf cs))).map intD) ∧ Nw w w' := by
  have nd : Nw w w.drew := (Upd.refl _ _).drew
  have cl : ∀ y, Nw w y → y.cell? ⟨fb, 2, none⟩ = some (.int .i64 m.print) ∧ y.cell? ⟨fb, 3, none⟩ = some (.int .i64 m.size) ∧ y.cell? ⟨fb, 4, none⟩ = some cv := fun y u => ⟨(h.nw u).cells.2.2.1, (h.nw u).cells.2.2.2.1, (h.nw u).cells.2.2.2.2⟩
  have HC : Hid (Calls Tryz.prog 51 #[.pointer (some ⟨fb, 0, none⟩)] w.drew fun e y => ∃ v', e = .returned v' ∧ (y.cell? ⟨fb, 2, none⟩ = some (.int .i64 m.print) ∧ y.cell? ⟨fb, 3, none⟩ = some (.int .i64 m.size) ∧ y.cell? ⟨fb, 4, none⟩ = some cv) ∧
      Calls Tryz.prog 56 #[.agg #[.int .i64 m.print, .int .i64 m.size, cv], v'] y fun e y2 => ∃ v2, e = .returned v2 ∧ (y2.cell? ⟨fb, 2, none⟩ = some (.int .i64 m.print) ∧ y2.cell? ⟨fb, 3, none⟩ = some (.int .i64 m.size) ∧ y2.cell? ⟨fb, 4, none⟩ = some cv) ∧
        Hid (y2.ownsRow w.heap.size 3 1 v2 (Ft.miss m.chunks (R.map (Ft.prOf cs))).length ((Ft.miss m.chunks (R.map (Ft.prOf cs))).map intD) ∧ Nw w y2)) := by
    refine (rcome_c (h.nw nd) (g.upd nd) (nw_cell nd hl) (hL.nw nd) hR hcs).mono ?_
    rintro e y ⟨v', rfl, o, u⟩
    refine ⟨v', rfl, cl _ (nd.trans u), (rmissing_c _ _ _ _ m.print m.size cv m.chunks v' _ y (g.upd (nd.trans u)) (h.nw (nd.trans u)).sc (Sl.of_owns o) hm (by rw [List.length_map]; exact hR)).mono ?_⟩
    rintro e y2 ⟨v2, rfl, o2, u2⟩
    exact ⟨v2, rfl, cl _ ((nd.trans u).trans u2), owns_base o2 (nd.trans u).size, (nd.trans u).trans u2⟩
  obtain ⟨c2, c3, c4⟩ := cl w (Upd.refl _ _)
  obtain ⟨ak, ck, rfl, -⟩ := int_cells h.sc
  clear h hl hL cl
  go_enter Tryz.func24, Tryz.ntmps24
  go_wp2_with fail
  go_region_held3 (fun y => y.cell? ⟨fb, 2, none⟩ = some (.int .i64 m.print) ∧ y.cell? ⟨fb, 3, none⟩ = some (.int .i64 m.size) ∧ y.cell? ⟨fb, 4, none⟩ = some (.slice ak m.chunks.length ck)) (first | exact ⟨c2, c3, c4⟩ | assumption | go_keep) (first | (go_at_call 51; (with_reducible refine HC.out.mono ?_); rintro _ y1 ⟨v1, rfl, cy1, HM⟩) | (go_at_call 56; (with_reducible refine HM.mono ?_); rintro _ y2 ⟨v3, rfl, cy2, HO3⟩))
  obtain ⟨a4, c4', rfl⟩ := own_slG HO3.out.1
  clear cy2 HC c2 c3 c4
  go_wp2_with fail
  go_ret
  exact ⟨_, rfl, HO3.out⟩
theorem rftext_results (tmps : Array Value) (w : World) : (results Tryz.f22 tmps).run Tryz.prog w = .ok (.tuple #[tmps.getD 2 undef, tmps.getD 3 undef]) w := by
  simp [results, Tryz.results22, go_sem]
set_option maxHeartbeats 1000000 in
set_option maxRecDepth 100000 in
theorem rftext_c (h : RFAt w fb kb v cv cs m lo hi lo2 hi2) (g : Gl w) (hl : w.cell? ⟨kb, 2, none⟩ = some lv) (hL : Sl lo3 hi3 w lv (R.map bsV)) (hR : R.length ≤ 20000000) (hcs : cs.length ≤ 90) (hm : m.chunks.length ≤ 1000000) :
    Calls Tryz.prog 22 #[.pointer (some ⟨fb, 0, none⟩)] w fun e w' => e = .returned (.tuple #[.string ⟨(ftx cs m (R.map (Ft.prOf cs))).1.toArray⟩, .int .i64 (ftx cs m (R.map (Ft.prOf cs))).2]) ∧ Nw w w' := by
  have HM := Lib.hid (rfmissing_c h g hl hL hR hcs hm)
  have HH := Lib.hid h
  have hml := Ft.miss_len m.chunks (R.map (Ft.prOf cs))
  have hml1 : ((Ft.miss m.chunks (R.map (Ft.prOf cs))).length : Int) ≤ 1000000 := by omega
  have HT := Lib.hid (fun (y : World) (u : Nw w y) => rtext_c _ _ v cs m.print y (h.nw u).sv hcs)
  obtain ⟨ac, cc, rfl, -⟩ := strs_cellsU h.sv
  by_cases he : Ft.miss m.chunks (R.map (Ft.prOf cs)) = []
  · have h1 : Hid (ftx cs m (R.map (Ft.prOf cs)) = (textAtU cs m.print, 0)) := if_pos he
    have hl0 : (Ft.miss m.chunks (R.map (Ft.prOf cs))).length = 0 := by rw [he]; rfl
    have d1 : decide (0 < (Ft.miss m.chunks (R.map (Ft.prOf cs))).length) = false := decide_eq_false (by omega)
    have HL := Lib.hid hl0
    clear h he hl0 hml hl hL
    generalize (Ft.miss m.chunks (R.map (Ft.prOf cs))).length = ml at *
    go_enter Tryz.func22, Tryz.ntmps22
    go_wp2_with fail
    (with_reducible refine (HM.out).mono ?_)
    rintro _ w2 ⟨v2, rfl, o2, u2⟩
    obtain ⟨a2, c2', rfl⟩ := own_slG o2
    obtain ⟨c0, c1, c2, c3, c4⟩ := (HH.out.nw u2).cells
    have d2 : ∀ i : Later w2, i.1.cell? ⟨fb, 1, none⟩ = some (.slice ac cs.length cc) := fun i => later_cell i c1
    have d3 : ∀ i : Later w2, i.1.cell? ⟨fb, 2, none⟩ = some (.int .i64 m.print) := fun i => later_cell i c2
    have U2 := Lib.hid u2
    clear o2 u2 HM c0 c3 c4 HH
    go_wp2_with fail
    refine wp_region_nw (by kernel_rfl) (by kernel_rfl) ?_
    repeat (go_big_quiet_step ((go_at_call 47; exact later_call (HT.out _ (U2.out.trans (Later.nw _))))))
    refine wpQuiet_nil ?_
    intro w3 u3
    replace u3 := later_out u3
    go_wp2_with fail
    (try simp only [Exit.inBlock, Exit.then])
    refine bodyPost_ret (rftext_results _ _) rfl ?_
    rw [h1.out]
    exact ⟨rfl, U2.out.trans u3⟩
  · have h1 : Hid (ftx cs m (R.map (Ft.prOf cs)) = ([], 33)) := if_neg he
    have hl0 : 0 < (Ft.miss m.chunks (R.map (Ft.prOf cs))).length := List.length_pos_iff.2 he
    have d1 : decide (0 < (Ft.miss m.chunks (R.map (Ft.prOf cs))).length) = true := decide_eq_true hl0
    clear h he hml HT HH hl0 hl hL
    generalize (Ft.miss m.chunks (R.map (Ft.prOf cs))).length = ml at *
    go_enter Tryz.func22, Tryz.ntmps22
    go_wp2_with fail
    (with_reducible refine (HM.out).mono ?_)
    rintro _ w2 ⟨v2, rfl, o2, u2⟩
    obtain ⟨a2, c2', rfl⟩ := own_slG o2
    have U2 := Lib.hid u2
    clear o2 u2 HM
    go_wp2_with fail
    (try simp only [Exit.inBlock, Exit.then])
    refine bodyPost_ret (rftext_results _ _) rfl ?_
    rw [h1.out]
    exact ⟨rfl, U2.out⟩
end
end Go.Proofs.YtmlmdlbepppnlaaGreatDoor
namespace Go.Proofs.YtmlmdlbepppnlaaGreatDoor
open Go.RowKit
set_option linter.unusedVariables false
set_option linter.unusedSimpArgs false
attribute [local irreducible] Calls

section
variable {w : World} {db rb fb kb : Nat} {jp : Option (Nat × Jr.Jn)} {v cv : Value} {cs : List (List UInt8)} {m : Ck.Man} {lo hi lo2 hi2 : Nat} {j : Jr.Jn} {D E : Dk.Disk} {F : Nat → Prop} {z z' : World}
theorem RFAt.moves (h : RFAt z fb kb v cv cs m lo hi lo2 hi2) (u : Moves w F z z') (hF : F fb) (h1 : hi ≤ w.heap.size) (h2 : hi2 ≤ w.heap.size) : RFAt z' fb kb v cv cs m lo hi lo2 hi2 :=
  ⟨u.keep h.blk (fun s => s.1 hF), h.sv.kept u (fun k _ e => Or.inr (by omega)), h.sc.kept u (fun k _ e => Or.inr (by omega))⟩
theorem TS.rrecs (h : TS w db jp D rb (some (kb, j)) E F z) : ∃ lv, z.cell? ⟨kb, 2, none⟩ = some lv ∧ Sl w.heap.size z.heap.size z lv (j.recs.map bsV) := by
  obtain ⟨lv, h1, h2⟩ := h.list
  exact ⟨lv, h1, Sl.of_owns h2⟩
set_option maxRecDepth 100000 in
theorem rfsync_t (h : TS w db jp D rb (some (kb, j)) E F z) (g : Gl w) (hf : RFAt z fb kb v cv cs m lo hi lo2 hi2) (hF : F fb) (h1 : hi ≤ w.heap.size) (h2 : hi2 ≤ w.heap.size) :
    Calls Tryz.prog 20 #[.pointer (some ⟨fb, 0, none⟩)] z fun e z' => e = .returned (.int .i64 (Jr.syncJ E j).2.2) ∧ TS w db jp D rb (some (kb, (Jr.syncJ E j).2.1)) (Jr.syncJ E j).1 F z' ∧ Moves w F z z' ∧ RFAt z' fb kb v cv cs m lo hi lo2 hi2 := by
  obtain ⟨c0, _, _, _, _⟩ := hf.cells
  have HJ := Lib.hid (rjsync_t h g)
  have HF := Lib.hid hf
  clear h hf
  go_enter Tryz.func20, Tryz.ntmps20
  go_wp2_with fail
  (with_reducible refine (HJ.out).mono ?_)
  rintro _ w2 ⟨rfl, s2, u2⟩
  have hz := Lib.hid (And.intro s2 (And.intro u2 (HF.out.moves u2 hF h1 h2)))
  clear s2 u2 HJ
  go_wp2_with fail
  go_ret
  exact ⟨rfl, hz.out⟩
def RTakeD (w : World) (db : Nat) (jp : Option (Nat × Jr.Jn)) (D : Dk.Disk) (rb fb kb : Nat) (v cv : Value) (cs : List (List UInt8)) (m : Ck.Man) (lo hi lo2 hi2 : Nat) (j : Jr.Jn) (E : Dk.Disk) (F : Nat → Prop) (i : Int) (t : List UInt8) (z : World) (e : Ending) (z' : World) : Prop :=
  e = .returned (.int .i64 (Ft.take E cs m j i t).2.2) ∧ TS w db jp D rb (some (kb, (Ft.take E cs m j i t).2.1)) (Ft.take E cs m j i t).1 F z' ∧ Moves w F z z' ∧ RFAt z' fb kb v cv cs m lo hi lo2 hi2
theorem RTakeD.no_ {i : Int} {t : List UInt8} {n : Int} (h : TS w db jp D rb (some (kb, j)) E F z) (hf : RFAt z fb kb v cv cs m lo hi lo2 hi2) (e : Ft.take E cs m j i t = (E, j, n)) (u : Nw z z') : RTakeD w db jp D rb fb kb v cv cs m lo hi lo2 hi2 j E F i t z (.returned (.int .i64 n)) z' := by
  unfold RTakeD
  rw [e]
  exact ⟨rfl, h.nw u, Nw.upd _ u, hf.nw u⟩
set_option maxHeartbeats 4000000 in
set_option maxRecDepth 100000 in
theorem rftake_t (h : TS w db jp D rb (some (kb, j)) E F z) (g : Gl w) (hf : RFAt z fb kb v cv cs m lo hi lo2 hi2) (hF : F fb) (h1 : hi ≤ w.heap.size) (h2 : hi2 ≤ w.heap.size) (hk : m.chunks.length ≤ 1000000) (hr : j.recs.length ≤ 20000000) (hcs : cs.length ≤ 90) {i : Int} (hi64 : I64 i) (t : List UInt8) (ht : t.length ≤ 1000000) :
    Calls Tryz.prog 18 #[.pointer (some ⟨fb, 0, none⟩), .int .i64 i, .string ⟨t.toArray⟩] z (RTakeD w db jp D rb fb kb v cv cs m lo hi lo2 hi2 j E F i t z) := by
  have gz := h.gl g
  have H := Lib.hid h
  have HF := Lib.hid hf
  have hdef : Ft.take E cs m j i t = if i < 0 ∨ (m.chunks.length : Int) ≤ i then (E, j, 3) else if Ft.checkM cs m.chunks i t = false then (E, j, 28) else if m.chunks.getD i.toNat 0 ∈ Ft.come cs j then (E, j, 0) else Jr.append E j t := rfl
  have Hi := Lib.hid hi64
  unfold I64 at hi64
  obtain ⟨hi1, hi2'⟩ := hi64
  obtain ⟨ak, ck, rfl, -, -⟩ := int_cells hf.sc
  obtain ⟨av, cav, rfl, -⟩ := strs_cellsU hf.sv
  obtain ⟨c0, c1, c2, c3, c4⟩ := hf.cells
  have hk1 : (m.chunks.length : Int) ≤ 1000000 := by omega
  have HR := Lib.hid hr
  have HT := Lib.hid ht
  clear hf h hr ht
  by_cases h0 : i < 0
  · have d0 : decide (i < 0) = true := decide_eq_true h0
    have E1 : Hid (Ft.take E cs m j i t = (E, j, 3)) := by show _ = _; rw [hdef, if_pos (Or.inl h0)]
    clear hdef h0
    go_enter Tryz.func18, Tryz.ntmps18
    go_wp2_with fail
    go_ret
    exact RTakeD.no_ H.out HF.out E1.out (Upd.refl _ _)
  have d0 : decide (i < 0) = false := decide_eq_false h0
  by_cases h3 : (m.chunks.length : Int) ≤ i
  · have d1 : decide ((m.chunks.length : Int) ≤ i) = true := decide_eq_true h3
    have E1 : Hid (Ft.take E cs m j i t = (E, j, 3)) := by show _ = _; rw [hdef, if_pos (Or.inr h3)]
    clear hdef h0 h3
    go_enter Tryz.func18, Tryz.ntmps18
    go_wp2_with fail
    go_ret
    exact RTakeD.no_ H.out HF.out E1.out (Upd.refl _ _)
  have d1 : decide ((m.chunks.length : Int) ≤ i) = false := decide_eq_false h3
  rw [if_neg (by rintro (h | h); exact h0 h; exact h3 h)] at hdef
  obtain ⟨k, rfl⟩ : ∃ k : Nat, i = k := ⟨i.toNat, by omega⟩
  have hkl : k < m.chunks.length := by omega
  have hkl1 : (k : Int) < m.chunks.length := by omega
  rw [Int.toNat_natCast] at hdef
  have eq : m.chunks.getD k 0 = m.chunks[k] := by simp [hkl]
  rw [eq] at hdef
  have Hd := Lib.hid hdef
  have nd : Nw z z.drew := (Upd.refl _ _).drew
  have cl : ∀ y, Nw z y → y.cell? ⟨fb, 1, none⟩ = some (.slice av cs.length cav) ∧ y.cell? ⟨fb, 2, none⟩ = some (.int .i64 m.print) ∧ y.cell? ⟨fb, 3, none⟩ = some (.int .i64 m.size) ∧ y.cell? ⟨fb, 4, none⟩ = some (.slice ak m.chunks.length ck) := fun y u => ⟨(HF.out.nw u).cells.2.1, (HF.out.nw u).cells.2.2.1, (HF.out.nw u).cells.2.2.2.1, (HF.out.nw u).cells.2.2.2.2⟩
  have HC : Hid (Calls Tryz.prog 50 #[.slice av cs.length cav, .agg #[.int .i64 m.print, .int .i64 m.size, .slice ak m.chunks.length ck], .int .i64 k, .string ⟨t.toArray⟩] z.drew fun e y => e = .returned (.bool (Ft.checkM cs m.chunks k t)) ∧ (y.cell? ⟨fb, 1, none⟩ = some (.slice av cs.length cav) ∧ y.cell? ⟨fb, 2, none⟩ = some (.int .i64 m.print) ∧ y.cell? ⟨fb, 3, none⟩ = some (.int .i64 m.size) ∧ y.cell? ⟨fb, 4, none⟩ = some (.slice ak m.chunks.length ck)) ∧ Hid (Nw z y)) := by
    refine (rcheck_c _ _ _ _ _ cs m.print m.size _ m.chunks k Hi.out t _ (HF.out.nw nd).sv hcs (HF.out.nw nd).sc hk).mono ?_
    rintro e y ⟨he, u⟩
    exact ⟨he, cl _ (nd.trans u), nd.trans u⟩
  have CL := Lib.hid cl
  have GZ := Lib.hid gz
  clear hdef cl h0 h3 eq
  cases hc : Ft.checkM cs m.chunks k t with
  | false =>
    rw [hc] at HC
    have E1 : Hid (Ft.take E cs m j k t = (E, j, 28)) := by show _ = _; rw [Hd.out, if_pos hc]
    clear hc
    go_enter Tryz.func18, Tryz.ntmps18
    go_wp2_with fail
    go_region_held3 (fun y => y.cell? ⟨fb, 1, none⟩ = some (.slice av cs.length cav) ∧ y.cell? ⟨fb, 2, none⟩ = some (.int .i64 m.print) ∧ y.cell? ⟨fb, 3, none⟩ = some (.int .i64 m.size) ∧ y.cell? ⟨fb, 4, none⟩ = some (.slice ak m.chunks.length ck)) (first | exact ⟨c1, c2, c3, c4⟩ | assumption | go_keep) (first | (go_at_call 50; (with_reducible refine HC.out.mono ?_); rintro _ y1 ⟨rfl, cy1, U1⟩))
    go_wp2_with fail
    go_ret
    exact RTakeD.no_ H.out HF.out E1.out U1.out
  | true =>
  rw [hc] at HC
  have hd := Hd.out
  rw [if_neg (by rw [hc]; decide)] at hd
  have Hd2 := Lib.hid hd
  clear hd Hd hc
  go_enter Tryz.func18, Tryz.ntmps18
  go_wp2_with fail
  go_region_held3 (fun y => y.cell? ⟨fb, 1, none⟩ = some (.slice av cs.length cav) ∧ y.cell? ⟨fb, 2, none⟩ = some (.int .i64 m.print) ∧ y.cell? ⟨fb, 3, none⟩ = some (.int .i64 m.size) ∧ y.cell? ⟨fb, 4, none⟩ = some (.slice ak m.chunks.length ck)) (first | exact ⟨c1, c2, c3, c4⟩ | assumption | go_keep) (first | (go_at_call 50; (with_reducible refine HC.out.mono ?_); rintro _ y1 ⟨rfl, cy1, U1⟩))
  have HC1 := int_cells (HF.out.nw U1.out).sc
  obtain ⟨_, _, e, _, hnil | ⟨b, off, e2, _, _, hcell⟩⟩ := HC1
  · rw [hnil] at hkl; simp at hkl
  injection e with e3 e4 e5
  subst e3 e5
  subst e2
  have HX := Lib.hid (hcell k hkl)
  obtain ⟨lv, hlc, hls⟩ := H.out.rrecs
  have n1 := U1.out.drew
  have cl2 : ∀ y, Nw y1 y → y.cell? ⟨fb, 4, none⟩ = some (.slice (some ⟨b, off, none⟩) m.chunks.length ck) ∧ y.cell? ⟨b, off + k, none⟩ = some (.int .i64 m.chunks[k]) := fun y u => ⟨(HF.out.nw (U1.out.trans u)).cells.2.2.2.2, nw_cell u HX.out⟩
  have HCo : Hid (Calls Tryz.prog 51 #[.pointer (some ⟨fb, 0, none⟩)] y1.drew fun e y => ∃ v', e = .returned v' ∧ (y.cell? ⟨fb, 4, none⟩ = some (.slice (some ⟨b, off, none⟩) m.chunks.length ck) ∧ y.cell? ⟨b, off + k, none⟩ = some (.int .i64 m.chunks[k])) ∧
      Calls Tryz.prog 35 #[v', .int .i64 m.chunks[k]] y fun e y2 => e = .returned (.bool (decide (m.chunks[k] ∈ Ft.come cs j))) ∧ (y2.cell? ⟨fb, 4, none⟩ = some (.slice (some ⟨b, off, none⟩) m.chunks.length ck) ∧ y2.cell? ⟨b, off + k, none⟩ = some (.int .i64 m.chunks[k])) ∧ Hid (Nw z y2)) := by
    have nd1 : Nw y1 y1.drew := (Upd.refl _ _).drew
    refine (rcome_c (HF.out.nw n1) (GZ.out.upd n1) (nw_cell n1 hlc) (hls.nw n1) HR.out hcs).mono ?_
    rintro e y ⟨v', rfl, o, u⟩
    refine ⟨v', rfl, cl2 _ (nd1.trans u), (rhas_c _ _ v' _ m.chunks[k] y (Sl.of_owns o) (by rw [List.length_map]; exact HR.out)).mono ?_⟩
    rintro e y2 ⟨rfl, u2⟩
    exact ⟨rfl, cl2 _ ((nd1.trans u).trans u2), (n1.trans u).trans u2⟩
  obtain ⟨q1, q2⟩ := cl2 y1 (Upd.refl _ _)
  clear hlc hls cl2 hcell HC cy1 n1 c0 c1 c2 c3 c4
  by_cases hm : m.chunks[k] ∈ Ft.come cs j
  · have E1 : Hid (Ft.take E cs m j k t = (E, j, 0)) := by show _ = _; rw [Hd2.out, if_pos hm]
    rw [decide_eq_true hm] at HCo
    clear hm
    generalize m.chunks[k] = p at *
    go_wp2_with fail
    go_region_held3 (fun y => y.cell? ⟨fb, 4, none⟩ = some (.slice (some ⟨b, off, none⟩) m.chunks.length ck) ∧ y.cell? ⟨b, off + k, none⟩ = some (.int .i64 p)) (first | exact ⟨q1, q2⟩ | assumption | go_keep) (first | (go_at_call 51; (with_reducible refine HCo.out.mono ?_); rintro _ y2 ⟨v2, rfl, cy2, HH⟩) | (go_at_call 35; (with_reducible refine HH.mono ?_); rintro _ y3 ⟨rfl, cy3, U3⟩))
    go_wp2_with fail
    go_ret
    exact RTakeD.no_ H.out HF.out E1.out U3.out
  · have E1 : Hid (Ft.take E cs m j k t = Jr.append E j t) := by show _ = _; rw [Hd2.out, if_neg hm]
    rw [decide_eq_false hm] at HCo
    clear hm
    generalize m.chunks[k] = p at *
    go_wp2_with fail
    go_region_held3 (fun y => y.cell? ⟨fb, 4, none⟩ = some (.slice (some ⟨b, off, none⟩) m.chunks.length ck) ∧ y.cell? ⟨b, off + k, none⟩ = some (.int .i64 p)) (first | exact ⟨q1, q2⟩ | assumption | go_keep) (first | (go_at_call 51; (with_reducible refine HCo.out.mono ?_); rintro _ y2 ⟨v2, rfl, cy2, HH⟩) | (go_at_call 35; (with_reducible refine HH.mono ?_); rintro _ y3 ⟨rfl, cy3, U3⟩))
    have hf3 := HF.out.nw U3.out
    have c0 := hf3.cells.1
    have HAp := Lib.hid (rappend_t (H.out.nw U3.out) g t HT.out)
    have HF3 := Lib.hid hf3
    clear hf3 cy3 HCo
    go_wp2_with fail
    (with_reducible refine (HAp.out).mono ?_)
    rintro _ w4 ⟨rfl, s4, m4⟩
    have hz : Hid (RTakeD w db jp D rb fb kb (.slice av cs.length cav) (.slice (some ⟨b, off, none⟩) m.chunks.length ck) cs m lo hi lo2 hi2 j E F k t z (.returned (.int .i64 (Jr.append E j t).2.2)) w4) := by
      show RTakeD _ _ _ _ _ _ _ _ _ _ _ _ _ _ _ _ _ _ _ _ _ _ _
      unfold RTakeD
      rw [E1.out]
      exact ⟨rfl, s4, (Nw.upd _ U3.out).trans m4, HF3.out.moves m4 hF h1 h2⟩
    clear s4 m4
    go_wp2_with fail
    go_ret
    exact hz.out
end
end Go.Proofs.YtmlmdlbepppnlaaGreatDoor
namespace Go.Proofs.YtmlmdlbepppnlaaGreatDoor
open Go.RowKit
set_option linter.unusedVariables false
set_option linter.unusedSimpArgs false
attribute [local irreducible] Calls

namespace Ft
theorem eats_has {cs : List (List UInt8)} : ∀ (l : List Int) (t : List UInt8), eats cs l t = true → ∀ n ∈ l, 0 ≤ n := by
  intro l
  induction l with
  | nil => intro t _ n hn; cases hn
  | cons a l ih =>
    intro t h n hn
    unfold eats at h
    simp only [Bool.and_eq_true] at h
    rcases List.mem_cons.1 hn with rfl | hn
    · have := h.1.1.1.1
      unfold hasAtU at this
      simp only [Bool.and_eq_true, decide_eq_true_eq] at this
      exact this.1
    · exact ih _ h.2 n hn
theorem right_has {cs : List (List UInt8)} {m : Ck.Man} (h : rightM cs m = true) : ∀ n ∈ m.chunks, 0 ≤ n := by
  unfold rightM at h
  simp only [Bool.and_eq_true] at h
  exact eats_has _ _ h.2
theorem right_len {cs : List (List UInt8)} {m : Ck.Man} (h : rightM cs m = true) : m.chunks.length ≤ 1000 := by
  unfold rightM at h
  simp only [Bool.and_eq_true, decide_eq_true_eq] at h
  exact h.1.2
end Ft
theorem rfopen_results (tmps : Array Value) (w : World) : (results Tryz.f15 tmps).run Tryz.prog w = .ok (.tuple #[tmps.getD 8 undef, tmps.getD 9 undef]) w := by
  simp [results, Tryz.results15, go_sem]
section
variable {w : World} {db rb fb kb : Nat} {jp kq : Option (Nat × Jr.Jn)} {v cv : Value} {cs : List (List UInt8)} {m : Ck.Man} {lo hi lo2 hi2 : Nat} {j : Jr.Jn} {D E : Dk.Disk} {F : Nat → Prop} {z z' : World}
theorem TS.rforget (h : TS w db jp D rb kq E F z) : TS w db jp D rb none E F z := by
  obtain ⟨R, h1, ⟨r, e, k1, k2, k3, k4⟩, h3⟩ := h
  exact ⟨R, h1, ⟨r, e, k1, k2, k3, fun p hp => by cases hp⟩, h3⟩
/-- What the reference's Open leaves. -/
def RFOD (w : World) (db : Nat) (jp : Option (Nat × Jr.Jn)) (D : Dk.Disk) (rb : Nat) (v cv : Value) (cs : List (List UInt8)) (m : Ck.Man) (lo hi lo2 hi2 : Nat) (R : Dk.Disk × Option Jr.Jn × Int) (F : Nat → Prop) (z : World) (e : Ending) (z' : World) : Prop :=
  ∃ pv, e = .returned (.tuple #[pv, .int .i64 R.2.2]) ∧ Moves w F z z' ∧
    ((R.2.1 = none ∧ pv = .pointer none ∧ TS w db jp D rb none R.1 F z') ∨ ∃ j kb fb, R.2.1 = some j ∧ pv = .pointer (some ⟨fb, 0, none⟩) ∧ TS w db jp D rb (some (kb, j)) R.1 (fun k => F k ∨ k = fb) z' ∧ RFAt z' fb kb v cv cs m lo hi lo2 hi2 ∧ z.heap.size ≤ fb)
theorem RFOD.no_ {R : Dk.Disk × Option Jr.Jn × Int} {n : Int} (h : TS w db jp D rb kq R.1 F z') (u : Moves w F z z') (e1 : R.2.1 = none) (e2 : R.2.2 = n) : RFOD w db jp D rb v cv cs m lo hi lo2 hi2 R F z (.returned (.tuple #[.pointer none, .int .i64 n])) z' :=
  ⟨_, by rw [e2], u, Or.inl ⟨e1, rfl, h.rforget⟩⟩
theorem RFOD.yes {R : Dk.Disk × Option Jr.Jn × Int} {z1 : World} (h : TS w db jp D rb (some (kb, j)) R.1 F z1) (u : Moves w F z z1) (hv : Sl lo hi z1 v (cs.map bsMU)) (hc : Sl lo2 hi2 z1 cv (m.chunks.map intD)) (e1 : R.2.1 = some j) (e2 : R.2.2 = 0) :
    RFOD w db jp D rb v cv cs m lo hi lo2 hi2 R F z (.returned (.tuple #[.pointer (some ⟨z1.heap.size, 0, none⟩), .int .i64 0])) (z1.alloc (.cells #[.pointer (some ⟨kb, 0, none⟩), v, .int .i64 m.print, .int .i64 m.size, cv] tRFet)) := by
  have n1 := nw_alloc z1 (.cells #[.pointer (some ⟨kb, 0, none⟩), v, .int .i64 m.print, .int .i64 m.size, cv] tRFet)
  have b1 := heap_new z1 (.cells #[.pointer (some ⟨kb, 0, none⟩), v, .int .i64 m.print, .int .i64 m.size, cv] tRFet)
  exact ⟨_, by rw [e2], u.nw n1, Or.inr ⟨j, kb, z1.heap.size, e1, rfl, h.keep n1 (fun k hk => hk.imp id (fun e => by subst e; exact ⟨Nat.le_refl _, lt_of_block b1⟩)), ⟨b1, hv.nw n1, hc.nw n1⟩, u.size⟩⟩
set_option maxHeartbeats 4000000 in
set_option maxRecDepth 100000 in
theorem rfopen_t (h : TS w db jp D rb kq E F z) (g : Gl w) {f : Int} (hf : I64 f) (hv : Sl lo hi z v (cs.map bsMU)) (h1 : hi ≤ w.heap.size) (hc : Sl lo2 hi2 z cv (m.chunks.map intD)) (h2 : hi2 ≤ w.heap.size)
    (hl : CntOkU cs) (hn : cs.Nodup) (hR : Ft.rightM cs m = true) :
    Calls Tryz.prog 15 #[.pointer (some ⟨rb, 0, none⟩), .int .i64 f, v, .agg #[.int .i64 m.print, .int .i64 m.size, cv]] z (RFOD w db jp D rb v cv cs m lo hi lo2 hi2 (Ft.fopen E f cs m) F z) := by
  have hgz := h.gl g
  have hgb := hgz.big
  have hpos := Ft.right_has hR
  have hle := Ft.right_len hR
  obtain ⟨p, zz, l⟩ := m
  dsimp only at hc hpos hle ⊢
  obtain ⟨a, cap, rfl, -, -⟩ := int_cells hc
  have n1 := nw_alloc z (.cells #[.int .i64 p, .int .i64 zz, .slice a l.length cap] tManU)
  have b1 := heap_new z (.cells #[.int .i64 p, .int .i64 zz, .slice a l.length cap] tManU)
  have HR := Lib.hid (rright36_c _ _ lo2 hi2 v cs p zz _ l _ (hgz.upd n1) (hv.nw n1) hl hn (hc.nw n1) hR)
  obtain ⟨av, cav, rfl, -⟩ := strs_cellsU hv
  have HN := Lib.hid n1
  have HB := Lib.hid (fun (y : World) (u : Nw (z.alloc (.cells #[.int .i64 p, .int .i64 zz, .slice a l.length cap] tManU)) y) => u.keep b1)
  have HZ := Lib.hid (show z.heap.size < (z.alloc (.cells #[.int .i64 p, .int .i64 zz, .slice a l.length cap] tManU)).heap.size from lt_of_block b1)
  have H0 := Lib.hid h
  have HV := Lib.hid hv
  have HCS := Lib.hid hc
  have HL := Lib.hid hl
  have HP := Lib.hid hpos
  have hle1 : (l.length : Int) ≤ 1000 := by omega
  have m0 : (z.alloc (.cells #[.int .i64 p, .int .i64 zz, .slice a l.length cap] tManU)).cell? ⟨z.heap.size, 0, none⟩ = some (.int .i64 p) := by rw [cells_cell b1]; rfl
  have m1 : (z.alloc (.cells #[.int .i64 p, .int .i64 zz, .slice a l.length cap] tManU)).cell? ⟨z.heap.size, 1, none⟩ = some (.int .i64 zz) := by rw [cells_cell b1]; rfl
  have m2 : (z.alloc (.cells #[.int .i64 p, .int .i64 zz, .slice a l.length cap] tManU)).cell? ⟨z.heap.size, 2, none⟩ = some (.slice a l.length cap) := by rw [cells_cell b1]; rfl
  have hdef : Ft.fopen E f cs ⟨p, zz, l⟩ = (if (Jr.openJ E f).2.2 ≠ 0 then ((Jr.openJ E f).1, none, (Jr.openJ E f).2.2) else match (Jr.openJ E f).2.1 with
      | none => ((Jr.openJ E f).1, none, 28)
      | some j => if Ft.fitsJ cs ⟨p, zz, l⟩ j then ((Jr.openJ E f).1, some j, 0) else ((Jr.openJ E f).1, none, 28)) := by
    show (if Ft.rightM cs ⟨p, zz, l⟩ = false then _ else _) = _
    rw [if_neg (by rw [hR]; decide)]
    rfl
  have E1 := Lib.hid hdef
  have HO := Lib.hid (fun (y : World) (u : Nw (z.alloc (.cells #[.int .i64 p, .int .i64 zz, .slice a l.length cap] tManU)) y) => ropen_t (h.keep (F' := fun k => F k ∨ k = z.heap.size) (n1.trans u) (fun k hk => hk.imp id (fun e => by have := HZ.out; have := u.size; omega))) g hf)
  clear hdef hv hc n1 b1 h hl hR hpos hle
  go_enter Tryz.func15, Tryz.ntmps15
  go_wp2_with fail
  (with_reducible refine (HR.out).mono ?_)
  rintro _ w2 ⟨rfl, u2⟩
  have U2 := Lib.hid u2
  have ho := Lib.hid (HO.out w2 u2)
  clear u2 HR HO
  go_wp2_with fail
  (with_reducible refine (ho.out).mono ?_)
  rintro _ w3 ⟨kq3, jq3, rfl, t3, u3⟩
  have hmv : Moves w F z w3 := (Nw.upd _ (HN.out.trans U2.out)).trans (u3.mono (fun k _ s => ⟨fun e => s.1 (Or.inl e), s.2⟩))
  have hv3 := (HV.out.nw (HN.out.trans U2.out)).kept u3 (fun k _ e => Or.inr (by omega))
  have hc3 := (HCS.out.nw (HN.out.trans U2.out)).kept u3 (fun k _ e => Or.inr (by omega))
  have hb3 := u3.keep (HB.out w2 U2.out) (fun s => s.1 (Or.inr rfl))
  have HMV := Lib.hid hmv
  have HV3 := Lib.hid hv3
  have HC3 := Lib.hid hc3
  have HB3 := Lib.hid hb3
  have hoe := Ft.open_err E f
  have T3 := Lib.hid (t3.keep (F' := F) (Upd.refl _ _) (fun k hk => Or.inl (Or.inl hk)))
  have JQ := Lib.hid jq3
  clear u3 ho hmv hv3 hc3 hb3 t3 jq3 m0 m1 m2
  generalize Jr.openJ E f = R at *
  obtain ⟨E', jo, err⟩ := R
  dsimp only at *
  cases kq3 with
  | none =>
    have hjo : jo = none := JQ.out.symm
    subst hjo
    have he : err ≠ 0 := fun e => by have := hoe.1 e; cases this
    have d2 : (err == 0) = false := by simp [he]
    have d3 : (err != 0) = true := by simp [he]
    have hfin : Hid (RFOD w db jp D rb (.slice av cs.length cav) (.slice a l.length cap) cs ⟨p, zz, l⟩ lo hi lo2 hi2 (Ft.fopen E f cs ⟨p, zz, l⟩) F z (.returned (.tuple #[.pointer none, .int .i64 err])) w3) := by
      show RFOD _ _ _ _ _ _ _ _ _ _ _ _ _ _ _ _ _ _
      rw [E1.out, if_pos he]
      exact RFOD.no_ (R := (E', none, err)) T3.out HMV.out rfl rfl
    clear he hoe T3 E1 JQ
    simp only [ptrJ]
    go_wp2_with fail
    (try simp only [Exit.inBlock, Exit.then])
    refine bodyPost_ret (rfopen_results _ _) rfl ?_
    exact hfin.out
  | some kj =>
    obtain ⟨kb, j⟩ := kj
    have hjo : jo = some j := JQ.out.symm
    subst hjo
    have he : err = 0 := hoe.2 rfl
    subst he
    rw [if_neg (by decide)] at E1
    obtain ⟨lv, hlc, hls⟩ := T3.out.rrecs
    obtain ⟨al, cl, rfl, hlx⟩ := strs_cellsU hls
    have HLX := Lib.hid hlx
    have hrl : j.recs.length ≤ 16777216 := by
      obtain ⟨R, _, ⟨r, _, _, _, _, k4⟩, _⟩ := T3.out
      obtain ⟨x, _, h5, _⟩ := k4 _ rfl
      exact h5.len
    have hrl1 : (j.recs.length : Int) ≤ 16777216 := by omega
    have HLC := Lib.hid hlc
    have HPr := Lib.hid (fun (y : World) (s : List UInt8) (u : Nw w3 y) => rprint_c _ _ _ cs s y (HV3.out.nw u) HL.out.n)
    have HHa := Lib.hid (fun (y : World) (q : Int) (u : Nw w3 y) => rhas_c _ _ _ l q y (HC3.out.nw u) (by omega))
    have CL := Lib.hid (fun (y : World) (u : Nw w3 y) => (show y.cell? ⟨z.heap.size, 0, none⟩ = some (.int .i64 p) ∧ y.cell? ⟨z.heap.size, 1, none⟩ = some (.int .i64 zz) ∧ y.cell? ⟨z.heap.size, 2, none⟩ = some (.slice a l.length cap) from ⟨by rw [cells_cell (Nw.keep u HB3.out)]; rfl, by rw [cells_cell (Nw.keep u HB3.out)]; rfl, by rw [cells_cell (Nw.keep u HB3.out)]; rfl⟩))
    clear hlx hls hoe JQ hlc
    simp only [ptrJ]
    go_wp2_with fail
    go_loopw [12, 13] (fun iv _ wr => ∃ n : Nat, n ≤ j.recs.length ∧ iv = .int .i64 (n : Int) ∧ Hid (∀ q ∈ comeN cs j.recs n, q ∈ l) ∧ Hid (Nw w3 wr)) (fun iv _ _ => j.recs.length - (intOf iv).toNat)
    case atStart => exact ⟨0, Nat.zero_le _, rfl, (fun q hq => by unfold comeN at hq; simp at hq), Upd.refl _ _⟩
    case round =>
      obtain ⟨n, hn, rfl, HA, U⟩ := hrel
      have c2 := nw_cell U.out HLC.out
      by_cases hlt : n < j.recs.length
      · rcases HLX.out with hnil | ⟨b, off, rfl, hcell⟩
        · simp [hnil] at hlt
        have c0 := nw_cell U.out (hcell n hlt)
        have hlt1 : (n : Int) < j.recs.length := by omega
        have hct := Lib.hid (comeN_succ (cs := cs) hlt)
        have hp2 := Lib.hid (HPr.out wr j.recs[n] U.out)
        have hpd : Ft.prOf cs j.recs[n] = idxI (fun x => decide (x = j.recs[n])) cs := rfl
        rw [← hpd] at hp2
        have hmem : j.recs[n] ∈ j.recs := List.getElem_mem hlt
        have HMem : Hid (Ft.prOf cs j.recs[n] ∉ l → Ft.fitsJ cs ⟨p, zz, l⟩ j = false) := fun hno => by
          cases hc : Ft.fitsJ cs ⟨p, zz, l⟩ j with
          | false => rfl
          | true =>
            unfold Ft.fitsJ Ft.come at hc
            rw [List.all_eq_true] at hc
            exact absurd (of_decide_eq_true (hc _ (List.mem_map.2 ⟨_, hmem, rfl⟩))) hno
        clear hcell hpd hmem
        generalize Ft.prOf cs j.recs[n] = q at *
        generalize j.recs[n] = s at *
        go_wp2_with fail
        (with_reducible refine (hp2.out).mono ?_)
        rintro _ w8 ⟨rfl, u8⟩
        have N8 := Lib.hid (U.out.trans u8)
        obtain ⟨_, _, r2⟩ := CL.out w8 N8.out
        have hy := Lib.hid (HHa.out w8 q N8.out)
        clear u8 hp2 c0 c2
        by_cases hq0 : q < 0
        · have dq : decide (q < 0) = true := decide_eq_true hq0
          have hno : q ∉ l := fun hm => by have := HP.out q hm; omega
          have hfin : Hid (RFOD w db jp D rb (.slice av cs.length cav) (.slice a l.length cap) cs ⟨p, zz, l⟩ lo hi lo2 hi2 (Ft.fopen E f cs ⟨p, zz, l⟩) F z (.returned (.tuple #[.pointer none, .int .i64 28])) w8) := by
            show RFOD _ _ _ _ _ _ _ _ _ _ _ _ _ _ _ _ _ _
            rw [E1.out]
            simp only [HMem.out hno, Bool.false_eq_true, if_false]
            exact RFOD.no_ (R := (E', none, 28)) (T3.out.nw N8.out) (HMV.out.nw N8.out) rfl rfl
          clear hno hq0 HMem hy T3 E1
          go_wp2_with fail
          (try simp only [Exit.inBlock, Exit.then])
          refine bodyPost_ret (rfopen_results _ _) rfl ?_
          exact hfin.out
        have dq : decide (q < 0) = false := decide_eq_false hq0
        by_cases hin : q ∈ l
        · rw [decide_eq_true hin] at hy
          have hA : Hid (∀ r ∈ comeN cs j.recs (n + 1), r ∈ l) := fun r hr => by
            rw [hct.out] at hr
            rcases List.mem_append.1 hr with hr | hr
            · exact HA.out r hr
            · rw [List.mem_singleton.1 hr]; exact hin
          clear hin hq0 HMem HA
          go_wp2_with fail
          (with_reducible refine (hy.out).mono ?_)
          rintro _ w9 ⟨rfl, u9⟩
          have N9 := Lib.hid (N8.out.trans u9)
          clear u9 hy
          go_wp2_with fail
          go_roundw
          case rel => exact ⟨n + 1, by omega, by go_num, hA, N9⟩
          case measure => simp [intOf]; omega
        · rw [decide_eq_false hin] at hy
          have hfin : Hid (∀ y, Nw w3 y → RFOD w db jp D rb (.slice av cs.length cav) (.slice a l.length cap) cs ⟨p, zz, l⟩ lo hi lo2 hi2 (Ft.fopen E f cs ⟨p, zz, l⟩) F z (.returned (.tuple #[.pointer none, .int .i64 28])) y) := fun y u => by
            rw [E1.out]
            simp only [HMem.out hin, Bool.false_eq_true, if_false]
            exact RFOD.no_ (R := (E', none, 28)) (T3.out.nw u) (HMV.out.nw u) rfl rfl
          clear hin hq0 HMem T3 E1 HA
          go_wp2_with fail
          (with_reducible refine (hy.out).mono ?_)
          rintro _ w9 ⟨rfl, u9⟩
          have N9 := Lib.hid (N8.out.trans u9)
          clear u9 hy
          go_wp2_with fail
          (try simp only [Exit.inBlock, Exit.then])
          refine bodyPost_ret (rfopen_results _ _) rfl ?_
          exact hfin.out _ N9.out
      · obtain rfl : n = j.recs.length := by omega
        have hall : Ft.fitsJ cs ⟨p, zz, l⟩ j = true := by
          have h := HA.out
          rw [comeN_all] at h
          unfold Ft.fitsJ
          rw [List.all_eq_true]
          exact fun q hq => decide_eq_true (h q hq)
        have hfin := RFOD.yes (m := ⟨p, zz, l⟩) (cs := cs) (R := (E', some j, 0)) (T3.out.nw U.out) (HMV.out.nw U.out) (HV3.out.nw U.out) (HC3.out.nw U.out) rfl rfl
        have e1 := E1.out
        simp only [hall, if_true] at e1
        rw [← e1] at hfin
        have HFin := Lib.hid hfin
        obtain ⟨r0, r1, r2⟩ := CL.out wr U.out
        clear hfin e1 hall HA E1 T3
        go_wp2_with fail
        (try simp only [Exit.inBlock, Exit.then])
        refine bodyPost_ret (rfopen_results _ _) rfl ?_
        exact HFin.out
end
end Go.Proofs.YtmlmdlbepppnlaaGreatDoor
namespace Go.Proofs.YtmlmdlbepppnlaaGreatDoor
open Go.RowKit
set_option linter.unusedVariables false
set_option linter.unusedSimpArgs false
attribute [local irreducible] Calls

/-- The program's fetch x on the journal j and the disk db (state D), the reference's at fb on the journal kb (k) and the disk rb (E). -/
structure TF (w : World) (db rb : Nat) (x : FtR) (j : Jr.Jn) (D : Dk.Disk) (fb kb : Nat) (k : Jr.Jn) (E : Dk.Disk) (v cv : Value) (cs : List (List UInt8)) (m : Ck.Man) (lo hi lo2 hi2 : Nat) (F : Nat → Prop) (z : World) : Prop where
  ts : TS w db (some (x.jb, j)) D rb (some (kb, k)) E (fun i => F i ∨ x.foot i ∨ i = fb) z
  ft : FtAt w.heap.size z x cs m (Ft.come cs j)
  ap : ∀ i, F i → ¬ x.foot i
  rf : RFAt z fb kb v cv cs m lo hi lo2 hi2
  h1 : hi ≤ w.heap.size
  h2 : hi2 ≤ w.heap.size
section
variable {w : World} {db rb fb kb : Nat} {x : FtR} {j j' k k' : Jr.Jn} {D D' E E' : Dk.Disk} {v cv : Value} {cs : List (List UInt8)} {m : Ck.Man} {lo hi lo2 hi2 : Nat} {F F' : Nat → Prop} {z z' : World}
theorem ft_typ {B : Nat} {cm : List Int} (h : FtAt B z x cs m cm) {i : Nat} (hk : x.foot i) : ∃ c T fz, z.heap[i]? = some (.cells c T fz) ∧ (T = tFet ∨ T = tStrMU ∨ T = 3) := by
  rcases hk with rfl | hk | hk | hk
  · exact ⟨_, _, _, h.blk, Or.inl rfl⟩
  · obtain ⟨_, c, e⟩ := own_block h.oc hk
    exact ⟨_, _, _, e, Or.inr (Or.inl rfl)⟩
  · obtain ⟨_, c, e⟩ := own_block h.ok hk
    exact ⟨_, _, _, e, Or.inr (Or.inr rfl)⟩
  · obtain ⟨_, c, e⟩ := own_block h.oo hk
    exact ⟨_, _, _, e, Or.inr (Or.inr rfl)⟩
theorem ft_apart {B : Nat} {cm : List Int} (h : FtAt B z x cs m cm) (h2 : RFAt z fb kb v cv cs m lo hi lo2 hi2) : ¬ x.foot fb := fun hk => by
  obtain ⟨c, T, fz, e, hT⟩ := ft_typ h hk
  refine blk_typ h2.blk e ?_
  rcases hT with rfl | rfl | rfl <;> decide
theorem TF.gl (h : TF w db rb x j D fb kb k E v cv cs m lo hi lo2 hi2 F z) (g : Gl w) : Gl z := h.ts.gl g
theorem TF.nw0 (h : TF w db rb x j D fb kb k E v cv cs m lo hi lo2 hi2 F z) : Nw w z := h.ts.nw0
theorem TF.nw (h : TF w db rb x j D fb kb k E v cv cs m lo hi lo2 hi2 F z) (u : Nw z z') : TF w db rb x j D fb kb k E v cv cs m lo hi lo2 hi2 F z' := ⟨h.ts.nw u, h.ft.nw u, h.ap, h.rf.nw u, h.h1, h.h2⟩
theorem TF.keep (h : TF w db rb x j D fb kb k E v cv cs m lo hi lo2 hi2 F z) (u : Nw z z') (hF : ∀ i, F' i → F i ∨ (z.heap.size ≤ i ∧ i < z'.heap.size)) : TF w db rb x j D fb kb k E v cv cs m lo hi lo2 hi2 F' z' := by
  refine ⟨h.ts.keep u (fun i hi => ?_), h.ft.nw u, fun i hi e => ?_, h.rf.nw u, h.h1, h.h2⟩
  · rcases hi with hi | hi
    · exact (hF i hi).imp Or.inl id
    · exact Or.inl (Or.inr hi)
  · rcases hF i hi with a | a
    · exact h.ap i a e
    · have := (h.ft.foot_lt e).2; omega
/-- Only the disks are left. -/
theorem TF.forget (h : TF w db rb x j D fb kb k E v cv cs m lo hi lo2 hi2 F z) : TS w db none D rb none E F z := h.ts.forget.keep (Upd.refl _ _) (fun i hi => Or.inl (Or.inl hi))
theorem TF.recs (h : TF w db rb x j D fb kb k E v cv cs m lo hi lo2 hi2 F z) : j.recs.length ≤ 16777216 := by
  obtain ⟨R, h1, _⟩ := h.ts
  obtain ⟨d, y, _, _, h2⟩ := h1.parts
  exact h2.jrn.len
theorem TF.rrecs (h : TF w db rb x j D fb kb k E v cv cs m lo hi lo2 hi2 F z) : k.recs.length ≤ 16777216 := by
  obtain ⟨R, _, ⟨r, _, _, _, _, k4⟩, _⟩ := h.ts
  obtain ⟨x, _, h5, _⟩ := k4 _ rfl
  exact h5.len
/-- A call of the program's fetch. -/
theorem TF.prog (h : TF w db rb x j D fb kb k E v cv cs m lo hi lo2 hi2 F z) {Q : Ending → Prop} {P : Program} {f : FuncId} {args : Array Value}
    (c : ∀ R, FS w db x j cs m D R z → Calls P f args z fun e z' => Q e ∧ ∃ x' : FtR, x'.fb = x.fb ∧ FS w db x' j' cs m D' R z' ∧ Moves w R z z') :
    Calls P f args z fun e z' => Q e ∧ ∃ x' : FtR, x'.fb = x.fb ∧ TF w db rb x' j' D' fb kb k E v cv cs m lo hi lo2 hi2 F z' ∧ Moves w F z z' := by
  obtain ⟨R, g1, g2, g3⟩ := h.ts
  have hfb := ft_apart h.ft h.rf
  have fs : FS w db x j cs m D (fun i => R i ∨ F i ∨ i = fb) z := ⟨g1.keep (Upd.refl _ _) (fun i hi => Or.inl (by
    rcases hi with (a | a | a) | a
    · exact Or.inl a
    · exact Or.inr (Or.inl a)
    · exact Or.inr (Or.inr (Or.inr a))
    · exact Or.inr (Or.inr (Or.inl a)))), h.ft, fun i hi e => by
    rcases hi with a | a | a
    · exact g3 i (Or.inr (Or.inl e)) a
    · exact h.ap i a e
    · subst a; exact hfb e⟩
  refine (c _ fs).mono fun e z' ⟨q, x', hx, f', mv⟩ => ⟨q, x', hx, ⟨⟨R, f'.gs.keep (Upd.refl _ _) (fun i hi => Or.inl (by
    rcases hi with a | a | a | a
    · exact Or.inl (Or.inl a)
    · exact Or.inl (Or.inr (Or.inl a))
    · exact Or.inr a
    · exact Or.inl (Or.inr (Or.inr a)))), g2.upd mv (fun i hi s => s.1 (Or.inl hi)) (fun i s => s.2), fun i hi r => by
    rcases hi with a | a | a
    · exact g3 i (Or.inl a) r
    · exact f'.ap i (Or.inl r) a
    · exact g3 i (Or.inr (Or.inr a)) r⟩, f'.ft, fun i hi e => f'.ap i (Or.inr (Or.inl hi)) e, h.rf.moves mv (Or.inr (Or.inr rfl)) h.h1 h.h2, h.h1, h.h2⟩, mv.mono (fun i _ s => ⟨fun f => s.1 (Or.inr (Or.inl f)), s.2⟩)⟩
/-- A call of the reference's fetch, or of a disk, that the program's fetch does not feel. -/
theorem TF.refs (h : TF w db rb x j D fb kb k E v cv cs m lo hi lo2 hi2 F z) {Q : Ending → Prop} {P : Program} {f : FuncId} {args : Array Value}
    (c : Calls P f args z fun e z' => Q e ∧ TS w db (some (x.jb, j)) D' rb (some (kb, k')) E' (fun i => F i ∨ x.foot i ∨ i = fb) z' ∧ Moves w (fun i => F i ∨ x.foot i ∨ i = fb) z z') :
    Calls P f args z fun e z' => Q e ∧ TF w db rb x j D' fb kb k' E' v cv cs m lo hi lo2 hi2 F z' ∧ Moves w F z z' :=
  c.mono fun e z' ⟨q, t, mv⟩ => ⟨q, ⟨t, h.ft.upd mv (fun i hi s => s.1 (Or.inr (Or.inl hi))), h.ap, h.rf.moves mv (Or.inr (Or.inr rfl)) h.h1 h.h2, h.h1, h.h2⟩, mv.mono (fun i _ s => ⟨fun f => s.1 (Or.inl f), s.2⟩)⟩
theorem xtake_t (h : TF w db rb x j D fb kb k E v cv cs m lo hi lo2 hi2 F z) (g : Gl w) (hk : m.chunks.length ≤ 1000000) (hcs : cs.length ≤ 90) (hn : cs.Nodup) {i : Int} (hi64 : I64 i) {t : List UInt8} (ht : t.length ≤ 1000000) :
    Calls Tryz.prog 17 #[.pointer (some ⟨x.fb, 0, none⟩), .int .i64 i, .string ⟨t.toArray⟩] z fun e z' => e = .returned (.int .i64 (Ft.take D cs m j i t).2.2) ∧ ∃ x' : FtR, x'.fb = x.fb ∧ TF w db rb x' (Ft.take D cs m j i t).2.1 (Ft.take D cs m j i t).1 fb kb k E v cv cs m lo hi lo2 hi2 F z' ∧ Moves w F z z' :=
  h.prog (Q := fun e => e = .returned (.int .i64 (Ft.take D cs m j i t).2.2)) fun R f => (take_t f g hk (by have := h.recs; omega) hcs hn hi64 ht).mono fun e z' ⟨a, x', b, c, d⟩ => ⟨a, x', b, c, d⟩
theorem xsync_t (h : TF w db rb x j D fb kb k E v cv cs m lo hi lo2 hi2 F z) (g : Gl w) :
    Calls Tryz.prog 19 #[.pointer (some ⟨x.fb, 0, none⟩)] z fun e z' => e = .returned (.int .i64 (Jr.syncJ D j).2.2) ∧ ∃ x' : FtR, x'.fb = x.fb ∧ TF w db rb x' (Jr.syncJ D j).2.1 (Jr.syncJ D j).1 fb kb k E v cv cs m lo hi lo2 hi2 F z' ∧ Moves w F z z' :=
  h.prog (Q := fun e => e = .returned (.int .i64 (Jr.syncJ D j).2.2)) fun R f => (fsync_t f g).mono fun e z' ⟨a, c, d⟩ => ⟨a, x, rfl, c, d⟩
theorem xtext_t (h : TF w db rb x j D fb kb k E v cv cs m lo hi lo2 hi2 F z) (g : Gl w) (hk : m.chunks.length ≤ 1000000) (hcs : cs.length ≤ 90) :
    Calls Tryz.prog 21 #[.pointer (some ⟨x.fb, 0, none⟩)] z fun e z' => e = .returned (.tuple #[.string ⟨(Ft.ftext cs m j).1.toArray⟩, .int .i64 (Ft.ftext cs m j).2]) ∧ Nw z z' :=
  ftext_c h.ft (h.gl g) hk (by rw [come_len]; have := h.recs; omega) hcs
theorem xmissing_t (h : TF w db rb x j D fb kb k E v cv cs m lo hi lo2 hi2 F z) (g : Gl w) (hk : m.chunks.length ≤ 1000000) :
    Calls Tryz.prog 23 #[.pointer (some ⟨x.fb, 0, none⟩)] z fun e z' => ∃ v', e = .returned v' ∧ z'.ownsRow z.heap.size 3 1 v' (Ft.gone cs m j).length ((Ft.gone cs m j).map intD) ∧ Nw z z' :=
  fmissing_c h.ft (h.gl g) hk (by rw [come_len]; have := h.recs; omega)
theorem ytake_t (h : TF w db rb x j D fb kb k E v cv cs m lo hi lo2 hi2 F z) (g : Gl w) (hk : m.chunks.length ≤ 1000000) (hcs : cs.length ≤ 90) {i : Int} (hi64 : I64 i) (t : List UInt8) (ht : t.length ≤ 1000000) :
    Calls Tryz.prog 18 #[.pointer (some ⟨fb, 0, none⟩), .int .i64 i, .string ⟨t.toArray⟩] z fun e z' => e = .returned (.int .i64 (Ft.take E cs m k i t).2.2) ∧ TF w db rb x j D fb kb (Ft.take E cs m k i t).2.1 (Ft.take E cs m k i t).1 v cv cs m lo hi lo2 hi2 F z' ∧ Moves w F z z' :=
  h.refs ((rftake_t h.ts g h.rf (Or.inr (Or.inr rfl)) h.h1 h.h2 hk (by have := h.rrecs; omega) hcs hi64 t ht).mono fun e z' ⟨a, b, c, d⟩ => ⟨a, b, c⟩)
theorem ysync_t (h : TF w db rb x j D fb kb k E v cv cs m lo hi lo2 hi2 F z) (g : Gl w) :
    Calls Tryz.prog 20 #[.pointer (some ⟨fb, 0, none⟩)] z fun e z' => e = .returned (.int .i64 (Jr.syncJ E k).2.2) ∧ TF w db rb x j D fb kb (Jr.syncJ E k).2.1 (Jr.syncJ E k).1 v cv cs m lo hi lo2 hi2 F z' ∧ Moves w F z z' :=
  h.refs ((rfsync_t h.ts g h.rf (Or.inr (Or.inr rfl)) h.h1 h.h2).mono fun e z' ⟨a, b, c, d⟩ => ⟨a, b, c⟩)
theorem ymissing_t (h : TF w db rb x j D fb kb k E v cv cs m lo hi lo2 hi2 F z) (g : Gl w) (hk : m.chunks.length ≤ 1000000) (hcs : cs.length ≤ 90) :
    Calls Tryz.prog 24 #[.pointer (some ⟨fb, 0, none⟩)] z fun e z' => ∃ v', e = .returned v' ∧ z'.ownsRow z.heap.size 3 1 v' (Ft.gone cs m k).length ((Ft.gone cs m k).map intD) ∧ Nw z z' := by
  obtain ⟨lv, a, b⟩ := h.ts.rrecs
  exact rfmissing_c h.rf (h.gl g) a b (by have := h.rrecs; omega) hcs hk
theorem ytext_t (h : TF w db rb x j D fb kb k E v cv cs m lo hi lo2 hi2 F z) (g : Gl w) (hk : m.chunks.length ≤ 1000000) (hcs : cs.length ≤ 90) :
    Calls Tryz.prog 22 #[.pointer (some ⟨fb, 0, none⟩)] z fun e z' => e = .returned (.tuple #[.string ⟨(Ft.ftext cs m k).1.toArray⟩, .int .i64 (Ft.ftext cs m k).2]) ∧ Nw z z' := by
  obtain ⟨lv, a, b⟩ := h.ts.rrecs
  exact rftext_c h.rf (h.gl g) a b (by have := h.rrecs; omega) hcs hk
/-- The program's Open, beside the reference's disk. -/
theorem xopen_t (h : TS w db none D rb none E F z) (g : Gl w) {f : Int} (hf : I64 f) {B : Nat} (hv : z.ownsRow B tStrMU 1 v cs.length (cs.map bsMU)) (hvF : ∀ i, v.ownBlock = some i → i < w.heap.size) (hc : Sl lo2 hi2 z cv (m.chunks.map intD)) (h2 : hi2 ≤ w.heap.size) (hl : CntOkU cs) (hn : cs.Nodup) (hl2 : m.chunks.length ≤ 1000000) :
    Calls Tryz.prog 14 #[.pointer (some ⟨db, 0, none⟩), .int .i64 f, v, .agg #[.int .i64 m.print, .int .i64 m.size, cv]] z fun e z' => ∃ pv, e = .returned (.tuple #[pv, .int .i64 (Ft.fopen D f cs m).2.2]) ∧ Moves w F z z' ∧
      (((Ft.fopen D f cs m).2.1 = none ∧ pv = .pointer none ∧ TS w db none (Ft.fopen D f cs m).1 rb none E F z') ∨ ∃ j x, (Ft.fopen D f cs m).2.1 = some j ∧ pv = .pointer (some ⟨FtR.fb x, 0, none⟩) ∧ TS w db (some (x.jb, j)) (Ft.fopen D f cs m).1 rb none E (fun i => F i ∨ x.foot i) z' ∧ FtAt w.heap.size z' x cs m (Ft.come cs j) ∧ ∀ i, F i → ¬ x.foot i) := by
  obtain ⟨R, g1, g2, g3⟩ := h
  refine (fopen_t g1 g hf hv (fun i e => Or.inr (hvF i e)) hc (fun i _ e => Or.inr (by omega)) hl hn hl2).mono fun e z' ⟨pv, he, mv, ho⟩ => ⟨pv, he, mv.mono (fun i _ s => ⟨fun f => s.1 (Or.inr f), s.2⟩), ?_⟩
  have g2' := g2.upd mv (fun i hi s => s.1 (Or.inl hi)) (fun i s => s.2)
  rcases ho with ⟨a, b, c⟩ | ⟨j, x, a, b, c⟩
  · exact Or.inl ⟨a, b, R, c, g2', g3⟩
  · refine Or.inr ⟨j, x, a, b, ⟨R, c.gs.keep (Upd.refl _ _) (fun i hi => Or.inl ?_), g2', fun i hi r => ?_⟩, c.ft, fun i hi => c.ap i (Or.inr hi)⟩
    · rcases hi with e | e | e
      · exact Or.inl (Or.inl e)
      · exact Or.inl (Or.inr e)
      · exact Or.inr e
    · rcases hi with e | e
      · exact g3 i e r
      · exact c.ap i (Or.inl r) e
end
end Go.Proofs.YtmlmdlbepppnlaaGreatDoor
namespace Go.Proofs.YtmlmdlbepppnlaaGreatDoor
open Go.RowKit
set_option linter.unusedVariables false
set_option linter.unusedSimpArgs false
attribute [local irreducible] Calls

/-- Both sides have a fetch with the same journal, or none has one. -/
def FtP (w : World) (db rb : Nat) (v cv : Value) (cs : List (List UInt8)) (m : Ck.Man) (lo hi lo2 hi2 : Nat) (F : Nat → Prop) (xv yv : Value) (D E : Dk.Disk) (z : World) : Prop :=
  (xv = .pointer none ∧ yv = .pointer none ∧ TS w db none D rb none E F z) ∨ ∃ (x : FtR) (j : Jr.Jn) (fb kb : Nat), xv = .pointer (some ⟨x.fb, 0, none⟩) ∧ yv = .pointer (some ⟨fb, 0, none⟩) ∧ TF w db rb x j D fb kb j E v cv cs m lo hi lo2 hi2 F z
section
variable {w : World} {db rb : Nat} {D D' E E' : Dk.Disk} {v cv xv yv : Value} {cs : List (List UInt8)} {m : Ck.Man} {lo hi lo2 hi2 : Nat} {F F' : Nat → Prop} {z z' : World}
theorem FtP.nw0 (h : FtP w db rb v cv cs m lo hi lo2 hi2 F xv yv D E z) : Nw w z := by
  rcases h with ⟨_, _, h⟩ | ⟨x, j, fb, kb, _, _, h⟩
  · exact h.nw0
  · exact h.nw0
theorem FtP.nw (h : FtP w db rb v cv cs m lo hi lo2 hi2 F xv yv D E z) (u : Nw z z') : FtP w db rb v cv cs m lo hi lo2 hi2 F xv yv D E z' := by
  rcases h with ⟨a, b, h⟩ | ⟨x, j, fb, kb, a, b, h⟩
  · exact Or.inl ⟨a, b, h.nw u⟩
  · exact Or.inr ⟨x, j, fb, kb, a, b, h.nw u⟩
theorem FtP.keep (h : FtP w db rb v cv cs m lo hi lo2 hi2 F xv yv D E z) (u : Nw z z') (hF : ∀ i, F' i → F i ∨ (z.heap.size ≤ i ∧ i < z'.heap.size)) : FtP w db rb v cv cs m lo hi lo2 hi2 F' xv yv D E z' := by
  rcases h with ⟨a, b, h⟩ | ⟨x, j, fb, kb, a, b, h⟩
  · exact Or.inl ⟨a, b, h.keep u hF⟩
  · exact Or.inr ⟨x, j, fb, kb, a, b, h.keep u hF⟩
theorem FtP.done (h : FtP w db rb v cv cs m lo hi lo2 hi2 F xv yv D E z) : FtP w db rb v cv cs m lo hi lo2 hi2 (fun _ => False) xv yv D E z := h.keep (Upd.refl _ _) (fun i hi => hi.elim)
theorem FtP.forget (h : FtP w db rb v cv cs m lo hi lo2 hi2 F xv yv D E z) : TS w db none D rb none E F z := by
  rcases h with ⟨_, _, h⟩ | ⟨x, j, fb, kb, _, _, h⟩
  · exact h
  · exact h.forget
/-- A call of one of the disks. -/
theorem FtP.disk (h : FtP w db rb v cv cs m lo hi lo2 hi2 F xv yv D E z) {Q : Ending → Prop} {P : Program} {f : FuncId} {args : Array Value}
    (c : ∀ jp kq F, TS w db jp D rb kq E F z → Calls P f args z fun e z' => Q e ∧ TS w db jp D' rb kq E' F z' ∧ Moves w F z z') :
    Calls P f args z fun e z' => Q e ∧ FtP w db rb v cv cs m lo hi lo2 hi2 F xv yv D' E' z' ∧ Moves w F z z' := by
  rcases h with ⟨a, b, h⟩ | ⟨x, j, fb, kb, a, b, h⟩
  · exact (c _ _ _ h).mono fun e z' ⟨q, t, mv⟩ => ⟨q, Or.inl ⟨a, b, t⟩, mv⟩
  · exact (h.refs (c _ _ _ h.ts)).mono fun e z' ⟨q, t, mv⟩ => ⟨q, Or.inr ⟨x, j, fb, kb, a, b, t⟩, mv⟩
/-- The program's Open, and then the reference's. -/
theorem FtP.open_ (h : TS w db none D rb none D F z) (g : Gl w) {f : Int} (hf : I64 f) {B : Nat} (hv : z.ownsRow B tStrMU 1 v cs.length (cs.map bsMU)) (hvF : ∀ i, v.ownBlock = some i → i < w.heap.size) (hs : Sl lo hi z v (cs.map bsMU)) (h1 : hi ≤ w.heap.size) (hc : Sl lo2 hi2 z cv (m.chunks.map intD)) (h2 : hi2 ≤ w.heap.size) (hl : CntOkU cs) (hn : cs.Nodup) (hR : Ft.rightM cs m = true) :
    Calls Tryz.prog 14 #[.pointer (some ⟨db, 0, none⟩), .int .i64 f, v, .agg #[.int .i64 m.print, .int .i64 m.size, cv]] z fun e z' => ∃ pv, e = .returned (.tuple #[pv, .int .i64 (Ft.fopen D f cs m).2.2]) ∧ Moves w F z z' ∧
      Calls Tryz.prog 15 #[.pointer (some ⟨rb, 0, none⟩), .int .i64 f, v, .agg #[.int .i64 m.print, .int .i64 m.size, cv]] z' fun e z2 => ∃ qv, e = .returned (.tuple #[qv, .int .i64 (Ft.fopen D f cs m).2.2]) ∧ Moves w F z' z2 ∧ FtP w db rb v cv cs m lo hi lo2 hi2 F pv qv (Ft.fopen D f cs m).1 (Ft.fopen D f cs m).1 z2 := by
  refine (xopen_t h g hf hv hvF hc h2 hl hn (by have := Ft.right_len hR; omega)).mono fun e z' ⟨pv, he, mv, ho⟩ => ⟨pv, he, mv, ?_⟩
  have hs' := hs.kept mv (fun i _ e => Or.inr (by omega))
  have hc' := hc.kept mv (fun i _ e => Or.inr (by omega))
  rcases ho with ⟨a, b, t⟩ | ⟨j, x, a, b, t, ft, ap⟩
  · refine (rfopen_t t g hf hs' h1 hc' h2 hl hn hR).mono fun e z2 ⟨qv, he2, mv2, ho2⟩ => ⟨qv, he2, mv2, ?_⟩
    rcases ho2 with ⟨a2, b2, t2⟩ | ⟨j2, kb, fb, a2, _⟩
    · exact Or.inl ⟨b, b2, t2⟩
    · rw [a] at a2; cases a2
  · refine (rfopen_t t g hf hs' h1 hc' h2 hl hn hR).mono fun e z2 ⟨qv, he2, mv2, ho2⟩ => ⟨qv, he2, mv2.mono (fun i _ s => ⟨fun f => s.1 (Or.inl f), s.2⟩), ?_⟩
    rcases ho2 with ⟨a2, _⟩ | ⟨j2, kb, fb, a2, b2, t2, rf, hz⟩
    · rw [a] at a2; cases a2
    · rw [a] at a2
      obtain rfl := Option.some.inj a2
      exact Or.inr ⟨x, j, fb, kb, b, b2, ⟨t2.keep (Upd.refl _ _) (fun i hi => Or.inl (by
        rcases hi with e | e | e
        · exact Or.inl (Or.inl e)
        · exact Or.inl (Or.inr e)
        · exact Or.inr e)), ft.upd mv2 (fun i hi s => s.1 (Or.inr hi)), ap, rf, h1, h2⟩⟩
end
end Go.Proofs.YtmlmdlbepppnlaaGreatDoor
namespace Go.Proofs.YtmlmdlbepppnlaaGreatDoor
open Go.ChangeShapes Go.WideShapes Go.ChangeAt Go.RowKit Go.Joins
set_option linter.unusedVariables false
set_option linter.unusedSimpArgs false
section
variable {H : Type} {enc : TypeId × Value → H} {w : World} {base : Nat} {sp : Nat → Bool} {held : Bool} {n : Nat} {x : DataW H × List MemPlace}
theorem u8_of_wfM {m : Int} (h : (Lit.int .u8 m).wf = true) : 0 ≤ m ∧ m ≤ 255 := by
  have := h
  simp [Lit.wf, IntKind.min, IntKind.max, IntKind.signed, IntKind.bits] at this
  omega
end
end Go.Proofs.YtmlmdlbepppnlaaGreatDoor
namespace Go.Proofs.YtmlmdlbepppnlaaGreatDoor
open Go.ChangeShapes Go.WideShapes Go.ChangeAt Go.RowKit Go.Joins
set_option linter.unusedVariables false
set_option linter.unusedSimpArgs false
attribute [local irreducible] Calls

structure FOp where
  kind : Int
  n : Int
  s : List UInt8
  keep : List Int
def fopL (c : Value × FOp) : List Value := [.int .i64 c.2.kind, .int .i64 c.2.n, .string ⟨c.2.s.toArray⟩, c.1]
/-- The operations C in memory: the keeps' slices beside them. -/
structure FOpS (hi : Nat) (w : World) (v : Value) (C : List (Value × FOp)) : Prop where
  sl : SlS 4 0 hi w v (C.map fopL)
  each : ∀ c ∈ C, Sl 0 hi w c.1 (c.2.keep.map intD) ∧ I64 c.2.kind ∧ I64 c.2.n ∧ ∀ k ∈ c.2.keep, I64 k
theorem list_of_relF {α : Type} {f : α → List Value} {Q : α → Prop} : ∀ (xs : List (List Value)), (∀ c ∈ xs, ∃ y, c = f y ∧ Q y) → ∃ l : List α, xs = l.map f ∧ ∀ y ∈ l, Q y := by
  intro xs
  induction xs with
  | nil => exact fun _ => ⟨[], rfl, fun y hy => by cases hy⟩
  | cons c xs ih =>
    intro h
    obtain ⟨l, h1, h2⟩ := ih (fun c hc => h c (List.mem_cons_of_mem _ hc))
    obtain ⟨y, h3, h4⟩ := h c (List.mem_cons_self ..)
    exact ⟨y :: l, by rw [h1, h3]; rfl, fun z hz => by rcases List.mem_cons.1 hz with rfl | hz; exact h4; exact h2 z hz⟩
section
variable {H : Type} {enc : TypeId × Value → H} {w : World} {base : Nat} {sp : Nat → Bool} {held : Bool} {n : Nat} {x : DataW H × List MemPlace}
set_option maxRecDepth 100000 in
theorem trod_fop {cs : List Value} (h : DataW.trod enc Tryz.prog w base sp held n 48 cs = some x) : ∃ c : Value × FOp, cs = fopL c ∧ (Sl 0 w.heap.size w c.1 (c.2.keep.map intD) ∧ I64 c.2.kind ∧ I64 c.2.n ∧ ∀ k ∈ c.2.keep, I64 k) := by
  obtain ⟨xs, m, _, rfl, hl, hlen, hf⟩ := DataW.trod_struct Tryz.underlying48 h
  have hc : Tryz.prog.cellsOf 48 = 4 := by kernel_rfl
  rw [hc] at hl
  match cs, hl with
  | [c0, c1, c2, c3], _ =>
    match xs, hlen with
    | [y0, y1, y2, y3], _ =>
      have k0 : DataW.trod enc Tryz.prog w base sp held m 3 [c0] = some y0 := hf 0 _ rfl
      have k1 : DataW.trod enc Tryz.prog w base sp held m 3 [c1] = some y1 := hf 1 _ rfl
      have k2 : DataW.trod enc Tryz.prog w base sp held m 9 [c2] = some y2 := hf 2 _ rfl
      have k3 : DataW.trod enc Tryz.prog w base sp held m 26 [c3] = some y3 := hf 3 _ rfl
      obtain ⟨z0, e0, w0⟩ := trod_int_cell Tryz.underlying3 k0
      obtain ⟨z1, e1, w1⟩ := trod_int_cell Tryz.underlying3 k1
      obtain ⟨z2, e2, w2⟩ := trod_str_cell Tryz.underlying9 k2
      obtain ⟨z3, l3, e3, w3, u3⟩ := trod_ints_cell Tryz.underlying26 Tryz.underlying3 (by kernel_rfl) k3
      simp only [List.cons.injEq, and_true] at e0 e1 e2 e3
      subst e0 e1 e2 e3
      exact ⟨(c3, ⟨z0, z1, z2, l3⟩), rfl, w3, i64_of_wf w0, i64_of_wf w1, fun k hk => i64_of_wf (u3 k hk)⟩
set_option maxRecDepth 100000 in
theorem trod_fops {cs : List Value} (h : DataW.trod enc Tryz.prog w base sp held n 22 cs = some x) : ∃ (v : Value) (C : List (Value × FOp)), cs = [v] ∧ FOpS w.heap.size w v C ∧ True := by
  obtain ⟨v, xs, h1, h2, h3⟩ := trod_slice_cells Tryz.underlying22 (sz := 4) (by kernel_rfl) (by omega) h
  obtain ⟨C, rfl, h5⟩ := list_of_relF (f := fopL) (Q := fun c : Value × FOp => Sl 0 w.heap.size w c.1 (c.2.keep.map intD) ∧ I64 c.2.kind ∧ I64 c.2.n ∧ ∀ k ∈ c.2.keep, I64 k) xs (fun c hc => by
    obtain ⟨m, y, hy⟩ := h3 c hc
    exact trod_fop hy)
  exact ⟨v, C, h1, ⟨h2, h5⟩, trivial⟩
end
theorem fop_cells {hi : Nat} {w : World} {v : Value} {C : List (Value × FOp)} (h : FOpS hi w v C) :
    ∃ a cap, v = .slice a C.length cap ∧ C.length ≤ maxLen ∧ (C = [] ∨ ∃ b off, a = some ⟨b, off, none⟩ ∧ b < hi ∧ b < w.heap.size ∧ ∀ i (h : i < C.length),
      w.cell? ⟨b, off + i * 4, none⟩ = some (.int .i64 C[i].2.kind) ∧ w.cell? ⟨b, off + i * 4 + 1, none⟩ = some (.int .i64 C[i].2.n) ∧ w.cell? ⟨b, off + i * 4 + 2, none⟩ = some (.string ⟨C[i].2.s.toArray⟩) ∧ w.cell? ⟨b, off + i * 4 + 3, none⟩ = some C[i].1) := by
  obtain ⟨a, cap, rfl, hm, h⟩ := h.sl.open_
  rw [List.length_map] at hm
  refine ⟨a, cap, by rw [List.length_map], hm, ?_⟩
  rcases h with h | ⟨b, off, rfl, _, hb1, hb, hc⟩
  · exact Or.inl (List.map_eq_nil_iff.1 h)
  · refine Or.inr ⟨b, off, rfl, hb1, hb, fun i hi => ?_⟩
    have h2 := (hc i (by simpa using hi)).2
    simp only [List.getElem_map] at h2
    exact ⟨by rw [← Nat.add_zero (off + i * 4), h2 0 (by omega)]; rfl, by rw [h2 1 (by omega)]; rfl, by rw [h2 2 (by omega)]; rfl, by rw [h2 3 (by omega)]; rfl⟩
theorem FOpS.nw {hi : Nat} {w w' : World} {v : Value} {C : List (Value × FOp)} (h : FOpS hi w v C) (u : Nw w w') : FOpS hi w' v C := ⟨h.sl.nw u, fun c hc => ⟨(h.each c hc).1.nw u, (h.each c hc).2⟩⟩
/-- What few says. -/
def FewF (C : List (Value × FOp)) : Prop := (∀ c ∈ C, c.2.s.length ≤ 100 ∧ c.2.keep.length ≤ 20) ∧ C.length ≤ 20
def fewFB (C : List (Value × FOp)) : Bool := (C.all fun c => decide (c.2.s.length ≤ 100 ∧ c.2.keep.length ≤ 20)) && decide (C.length ≤ 20)
theorem fewFB_iff {C : List (Value × FOp)} : fewFB C = true ↔ FewF C := by unfold fewFB FewF; simp
theorem fewFB_not {C : List (Value × FOp)} (h : ¬ FewF C) : fewFB C = false := by
  cases hb : fewFB C with
  | false => rfl
  | true => exact absurd (fewFB_iff.1 hb) h
set_option maxHeartbeats 1000000 in
set_option maxRecDepth 100000 in
theorem few38_c (hi : Nat) (v : Value) (C : List (Value × FOp)) (w : World) (h : FOpS hi w v C) :
    Calls Tryz.prog 6 #[v, .int .i64 20] w fun e w' => e = .returned (.bool (fewFB C)) ∧ w = w' := by
  obtain ⟨a, cap, rfl, hm, hc⟩ := fop_cells h
  unfold maxLen at hm
  have hm1 : (C.length : Int) ≤ 9223372036854775807 := by omega
  have hm0 : (0 : Int) ≤ C.length := by omega
  have Hc := Lib.hid hc
  have He := Lib.hid h.each
  clear h hc hm
  go_enter Tryz.func6, Tryz.ntmps6
  go_wp2_with fail
  go_loopw [5] (fun iv wr => ∃ k : Nat, k ≤ C.length ∧ k ≤ 21 ∧ iv = .int .i64 k ∧ Hid (∀ i (h : i < C.length), i < k → C[i].2.s.length ≤ 100 ∧ C[i].2.keep.length ≤ 20) ∧ w = wr) (fun iv _ => C.length - (intOf iv).toNat)
  case atStart => exact ⟨0, Nat.zero_le _, Nat.zero_le _, rfl, fun i _ h => by omega, rfl⟩
  case round =>
    obtain ⟨k, hk, hk21, rfl, HA, rfl⟩ := hrel
    by_cases hlt : k < C.length
    · by_cases h21 : k = 21
      · subst h21
        have hb := Lib.hid (fewFB_not (C := C) (fun f => by have := f.2; omega))
        have e1 : decide ((21 : Int) < C.length) = true := decide_eq_true (by omega)
        have e2 : decide ((C.length : Int) ≤ 20) = false := decide_eq_false (by omega)
        go_wp2_with fail
        go_ret
        exact ⟨by rw [hb.out]; rfl, rfl⟩
      have hk20 := Lib.hid (show k ≤ 20 by omega)
      have e0 : decide ((k : Int) ≤ 20) = true := decide_eq_true (by omega)
      clear h21 hk21
      rcases Hc.out with hnil | ⟨b, off, rfl, _, _, hcell⟩
      · rw [hnil] at hlt; simp at hlt
      obtain ⟨c0, c1, c2, c3⟩ := hcell k hlt
      obtain ⟨ak, ck, hkv, hkm, hkx⟩ := int_cells (He.out C[k] (List.getElem_mem hlt)).1
      clear hkx
      rw [hkv] at c3
      have hk1 : (k : Int) < 9223372036854775807 := by omega
      have hstep : Hid (C[k].2.s.length ≤ 100 → C[k].2.keep.length ≤ 20 → ∀ i (h : i < C.length), i < k + 1 → C[i].2.s.length ≤ 100 ∧ C[i].2.keep.length ≤ 20) := fun h1 h2 i hi hik => by
        by_cases e : i = k
        · subst e; exact ⟨h1, h2⟩
        · exact HA.out i hi (by omega)
      have hbad : Hid (100 < C[k].2.s.length ∨ 20 < C[k].2.keep.length → fewFB C = false) := fun e => fewFB_not (fun f => by have := f.1 _ (List.getElem_mem hlt); omega)
      generalize C[k].2.keep.length = kl at *
      generalize C[k].2.s = ks at *
      have hkl : (kl : Int) ≤ 9223372036854775807 := by unfold maxLen at hkm; omega
      clear hcell hkm hkv
      by_cases h1 : (100 : Int) < ks.length
      · have hb := Lib.hid (hbad.out (Or.inl (by omega)))
        clear hbad hstep
        go_wp2_with fail
        go_ret
        exact ⟨by rw [hb.out]; rfl, rfl⟩
      by_cases h2 : (20 : Int) < kl
      · have hb := Lib.hid (hbad.out (Or.inr (by omega)))
        clear hbad hstep
        go_wp2_with fail
        go_ret
        exact ⟨by rw [hb.out]; rfl, rfl⟩
      clear hbad
      have hz := Lib.hid (hstep.out (by omega) (by omega))
      clear hstep
      go_wp2_with fail
      go_roundw
      case rel => exact ⟨k + 1, by omega, by have := hk20.out; omega, by go_num, hz.out, trivial⟩
      case measure => simp [intOf]; omega
    · obtain rfl : k = C.length := by omega
      by_cases h25 : (C.length : Int) ≤ 20
      · have hz : Hid (FewF C) := ⟨fun c hc => by
          obtain ⟨i, hi, rfl⟩ := List.getElem_of_mem hc
          exact HA.out i hi hi, by omega⟩
        have hb := Lib.hid (fewFB_iff.2 hz.out)
        go_wp2_with fail
        go_ret
        exact ⟨by rw [hb.out]; rfl, rfl⟩
      · have hb := Lib.hid (fewFB_not (C := C) (fun f => h25 (by have := f.2; omega)))
        go_wp2_with fail
        go_ret
        exact ⟨by rw [hb.out]; rfl, rfl⟩
end Go.Proofs.YtmlmdlbepppnlaaGreatDoor
namespace Go.Proofs.YtmlmdlbepppnlaaGreatDoor
open Go.RowKit
set_option linter.unusedVariables false
set_option linter.unusedSimpArgs false

/-- The blocks that hold a loop, in the order of the text. -/
def loopBlocks : Code → List Code
  | .block i (.loop c) => .block i (.loop c) :: loopBlocks c
  | .block _ c => loopBlocks c
  | .loop c => loopBlocks c
  | .seq a b => loopBlocks a ++ loopBlocks b
  | .scope c => loopBlocks c
  | .cond _ a b => loopBlocks a ++ loopBlocks b
  | _ => []
noncomputable def loopAt (f : Func) (k : Nat) : Code := ((f.body.map fun c => ((loopBlocks c)[k]?).getD .skip).getD .skip)
/-- A loop that is not left early. -/
theorem wp_normal {P : Program} {c : Code} {Q : Exit → Act → World → Prop} {a : Act} {w : World} (h : Code.wp P c (Exit.then (fun a w => Q .normal a w) (fun _ _ _ => False)) a w) : Code.wp P c Q a w :=
  Code.wp_mono (fun e a w h => by cases e <;> first | exact h | exact h.elim) h
end Go.Proofs.YtmlmdlbepppnlaaGreatDoor
namespace Go.Proofs.YtmlmdlbepppnlaaGreatDoor
open Go.RowKit
set_option linter.unusedVariables false
set_option linter.unusedSimpArgs false
attribute [local irreducible] Calls

/-- Both have a fetch, and it is asked. -/
def Both24 (kd : Int) (xv : Value) (bb : Bool) : Prop := bb = true → (kd = 0 ∨ kd = 1) ∧ ∃ p, xv = .pointer (some p)
theorem own_smallT {cs : List (List UInt8)} {mc : List Int} {i : Int} {t : List UInt8} (hs : ∀ s ∈ cs, s.length ≤ 100) (ht : t.length ≤ 100) : (ownT cs mc i t).length ≤ 100 := by
  unfold ownT
  split
  · exact ht
  · unfold textAtU
    split
    · rw [List.getD_eq_getElem?_getD]
      cases h : cs[(mc.getD i.toNat 0).toNat]? with
      | none => simp
      | some s => exact hs s (List.mem_of_getElem? h)
    · simp
/-- Between the operations: both sides are the same. -/
def FtL (w : World) (db rb : Nat) (v cv : Value) (cs : List (List UInt8)) (m : Ck.Man) (lo hi lo2 hi2 : Nat) (xv gv yv hv : Value) (z : World) : Prop :=
  ∃ (D : Dk.Disk) (e : Int), gv = .int .i64 e ∧ hv = .int .i64 e ∧ FtP w db rb v cv cs m lo hi lo2 hi2 (fun _ => False) xv yv D D z
set_option maxHeartbeats 16000000 in
set_option maxRecDepth 100000 in
theorem ft_loop {W z : World} (g : Gl W) (db rb : Nat) (cs : List (List UInt8)) (mp mz : Int) (mc : List Int) (t : List UInt8) (HCt : Ft.Cut cs ⟨mp, mz, mc⟩ t) (file : Int) (hfile : I64 file) (hi0 : Nat) (hhi0 : hi0 ≤ W.heap.size) (al : Option Addr) (cl : Nat) (L : List (Value × FOp)) (hL : FOpS hi0 W (.slice al L.length cl) L) (hF : FewF L)
    (av : Option Addr) (cvp : Nat) (B1 : Nat) (hv : W.ownsRow B1 tStrMU 1 (.slice av cs.length cvp) cs.length (cs.map bsMU)) (mb : Nat) (am : Option Addr) (cm : Nat) (lo2 hi2 : Nat) (hhi2 : hi2 ≤ W.heap.size) (hmc : Sl lo2 hi2 W (.slice am mc.length cm) (mc.map intD))
    (hmb : W.heap[mb]? = some (.cells #[.int .i64 mp, .int .i64 mz, .slice am mc.length cm] tManU (0, 0))) (xv0 gv0 yv0 hv0 : Value) (hI : FtL W db rb (.slice av cs.length cvp) (.slice am mc.length cm) cs ⟨mp, mz, mc⟩ B1 W.heap.size lo2 hi2 xv0 gv0 yv0 hv0 z)
    (K0 : Act → World → Prop) { c0 c1 c3 c5 c6 c7 c8 c9 c11 c14 c15 c16 c17 c18 c19 c33 c34 c35 c36 c37 c38 c39 c40 c41 c42 c43 c44 c45 c46 c47 c48 c49 c50 c51 c52 c53 c54 c55 c56 c57 c58 c59 c60 c61 c62 c63 c64 c65 c66 c67 c68 c69 c70 c71 c72 c73 c74 c75 c76 c77 c78 c79 c80 c81 c82 c83 c84 c85 c86 c87 c88 c89 c90 c91 c92 c93 c94 c95 c96 c97 c98 c99 c100 c101 c102 c103 c104 c105 c106 c107 c108 c109 c110 c111 c112 c113 c114 c115 c116 c117 c118 c119 c120 c121 c122 c123 c124 c125 c126 c270 c271 c272 c273 c274 c275 c276 c277 c278 c279 c280 c281 c282 : Value} { u10 u27 u28 u29 u30 u31 u32 u127 u128 u129 u130 u131 u132 u133 u134 u135 u136 u137 u138 u139 u140 u141 u142 u143 u144 u145 u146 u147 u148 u149 u150 u151 u152 u153 u154 u155 u156 u157 u158 u159 u160 u161 u162 u163 u164 u165 u166 u167 u168 u169 u170 u171 u172 u173 u174 u175 u176 u177 u178 u179 u180 u181 u182 u183 u184 u185 u186 u187 u188 u189 u190 u191 u192 u193 u194 u195 u196 u197 u198 u199 u200 u201 u202 u203 u204 u205 u206 u207 u208 u209 u210 u211 u212 u213 u214 u215 u216 u217 u218 u219 u220 u221 u222 u223 u224 u225 u226 u227 u228 u229 u230 u231 u232 u233 u234 u235 u236 u237 u238 u239 u240 u241 u242 u243 u244 u245 u246 u247 u248 u249 u250 u251 u252 u253 u254 u255 u256 u257 u258 u259 u260 u261 u262 u263 u264 u265 u266 u267 u268 u269 : Value} {c : Code} (hc : loopAt Tryz.f3 1 = c)
    (hexit : ∀ (u10 u27 u28 u29 u30 u31 u32 u127 u128 u129 u130 u131 u132 u133 u134 u135 u136 u137 u138 u139 u140 u141 u142 u143 u144 u145 u146 u147 u148 u149 u150 u151 u152 u153 u154 u155 u156 u157 u158 u159 u160 u161 u162 u163 u164 u165 u166 u167 u168 u169 u170 u171 u172 u173 u174 u175 u176 u177 u178 u179 u180 u181 u182 u183 u184 u185 u186 u187 u188 u189 u190 u191 u192 u193 u194 u195 u196 u197 u198 u199 u200 u201 u202 u203 u204 u205 u206 u207 u208 u209 u210 u211 u212 u213 u214 u215 u216 u217 u218 u219 u220 u221 u222 u223 u224 u225 u226 u227 u228 u229 u230 u231 u232 u233 u234 u235 u236 u237 u238 u239 u240 u241 u242 u243 u244 u245 u246 u247 u248 u249 u250 u251 u252 u253 u254 u255 u256 u257 u258 u259 u260 u261 u262 u263 u264 u265 u266 u267 u268 u269 xv gv yv hv iv : Value) (w' : World), FtL W db rb (.slice av cs.length cvp) (.slice am mc.length cm) cs ⟨mp, mz, mc⟩ B1 W.heap.size lo2 hi2 xv gv yv hv w' →
      K0 ⟨(List.toArray (c0 :: c1 :: (.slice al L.length cl) :: c3 :: (.int .i64 file) :: c5 :: c6 :: c7 :: c8 :: c9 :: u10 :: c11 :: (.slice av cs.length cvp) :: (.pointer (some ⟨mb, 0, none⟩)) :: c14 :: c15 :: c16 :: c17 :: c18 :: c19 :: (.pointer (some ⟨db, 0, none⟩)) :: (.pointer (some ⟨rb, 0, none⟩)) :: (xv) :: (gv) :: (yv) :: (hv) :: (iv) :: u27 :: u28 :: u29 :: u30 :: u31 :: u32 :: c33 :: c34 :: c35 :: c36 :: c37 :: c38 :: c39 :: c40 :: c41 :: c42 :: c43 :: c44 :: c45 :: c46 :: c47 :: c48 :: c49 :: c50 :: c51 :: c52 :: c53 :: c54 :: c55 :: c56 :: c57 :: c58 :: c59 :: c60 :: c61 :: c62 :: c63 :: c64 :: c65 :: c66 :: c67 :: c68 :: c69 :: c70 :: c71 :: c72 :: c73 :: c74 :: c75 :: c76 :: c77 :: c78 :: c79 :: c80 :: c81 :: c82 :: c83 :: c84 :: c85 :: c86 :: c87 :: c88 :: c89 :: c90 :: c91 :: c92 :: c93 :: c94 :: c95 :: c96 :: c97 :: c98 :: c99 :: c100 :: c101 :: c102 :: c103 :: c104 :: c105 :: c106 :: c107 :: c108 :: c109 :: c110 :: c111 :: c112 :: c113 :: c114 :: c115 :: c116 :: c117 :: c118 :: c119 :: c120 :: c121 :: c122 :: c123 :: c124 :: c125 :: c126 :: u127 :: u128 :: u129 :: u130 :: u131 :: u132 :: u133 :: u134 :: u135 :: u136 :: u137 :: u138 :: u139 :: u140 :: u141 :: u142 :: u143 :: u144 :: u145 :: u146 :: u147 :: u148 :: u149 :: u150 :: u151 :: u152 :: u153 :: u154 :: u155 :: u156 :: u157 :: u158 :: u159 :: u160 :: u161 :: u162 :: u163 :: u164 :: u165 :: u166 :: u167 :: u168 :: u169 :: u170 :: u171 :: u172 :: u173 :: u174 :: u175 :: u176 :: u177 :: u178 :: u179 :: u180 :: u181 :: u182 :: u183 :: u184 :: u185 :: u186 :: u187 :: u188 :: u189 :: u190 :: u191 :: u192 :: u193 :: u194 :: u195 :: u196 :: u197 :: u198 :: u199 :: u200 :: u201 :: u202 :: u203 :: u204 :: u205 :: u206 :: u207 :: u208 :: u209 :: u210 :: u211 :: u212 :: u213 :: u214 :: u215 :: u216 :: u217 :: u218 :: u219 :: u220 :: u221 :: u222 :: u223 :: u224 :: u225 :: u226 :: u227 :: u228 :: u229 :: u230 :: u231 :: u232 :: u233 :: u234 :: u235 :: u236 :: u237 :: u238 :: u239 :: u240 :: u241 :: u242 :: u243 :: u244 :: u245 :: u246 :: u247 :: u248 :: u249 :: u250 :: u251 :: u252 :: u253 :: u254 :: u255 :: u256 :: u257 :: u258 :: u259 :: u260 :: u261 :: u262 :: u263 :: u264 :: u265 :: u266 :: u267 :: u268 :: u269 :: c270 :: c271 :: c272 :: c273 :: c274 :: c275 :: c276 :: c277 :: c278 :: c279 :: c280 :: c281 :: c282 :: [])), []⟩ w') :
    Code.wp Tryz.prog c (Exit.then K0 (fun _ _ _ => False)) ⟨(List.toArray (c0 :: c1 :: (.slice al L.length cl) :: c3 :: (.int .i64 file) :: c5 :: c6 :: c7 :: c8 :: c9 :: u10 :: c11 :: (.slice av cs.length cvp) :: (.pointer (some ⟨mb, 0, none⟩)) :: c14 :: c15 :: c16 :: c17 :: c18 :: c19 :: (.pointer (some ⟨db, 0, none⟩)) :: (.pointer (some ⟨rb, 0, none⟩)) :: (xv0) :: (gv0) :: (yv0) :: (hv0) :: (.int .i64 0) :: u27 :: u28 :: u29 :: u30 :: u31 :: u32 :: c33 :: c34 :: c35 :: c36 :: c37 :: c38 :: c39 :: c40 :: c41 :: c42 :: c43 :: c44 :: c45 :: c46 :: c47 :: c48 :: c49 :: c50 :: c51 :: c52 :: c53 :: c54 :: c55 :: c56 :: c57 :: c58 :: c59 :: c60 :: c61 :: c62 :: c63 :: c64 :: c65 :: c66 :: c67 :: c68 :: c69 :: c70 :: c71 :: c72 :: c73 :: c74 :: c75 :: c76 :: c77 :: c78 :: c79 :: c80 :: c81 :: c82 :: c83 :: c84 :: c85 :: c86 :: c87 :: c88 :: c89 :: c90 :: c91 :: c92 :: c93 :: c94 :: c95 :: c96 :: c97 :: c98 :: c99 :: c100 :: c101 :: c102 :: c103 :: c104 :: c105 :: c106 :: c107 :: c108 :: c109 :: c110 :: c111 :: c112 :: c113 :: c114 :: c115 :: c116 :: c117 :: c118 :: c119 :: c120 :: c121 :: c122 :: c123 :: c124 :: c125 :: c126 :: u127 :: u128 :: u129 :: u130 :: u131 :: u132 :: u133 :: u134 :: u135 :: u136 :: u137 :: u138 :: u139 :: u140 :: u141 :: u142 :: u143 :: u144 :: u145 :: u146 :: u147 :: u148 :: u149 :: u150 :: u151 :: u152 :: u153 :: u154 :: u155 :: u156 :: u157 :: u158 :: u159 :: u160 :: u161 :: u162 :: u163 :: u164 :: u165 :: u166 :: u167 :: u168 :: u169 :: u170 :: u171 :: u172 :: u173 :: u174 :: u175 :: u176 :: u177 :: u178 :: u179 :: u180 :: u181 :: u182 :: u183 :: u184 :: u185 :: u186 :: u187 :: u188 :: u189 :: u190 :: u191 :: u192 :: u193 :: u194 :: u195 :: u196 :: u197 :: u198 :: u199 :: u200 :: u201 :: u202 :: u203 :: u204 :: u205 :: u206 :: u207 :: u208 :: u209 :: u210 :: u211 :: u212 :: u213 :: u214 :: u215 :: u216 :: u217 :: u218 :: u219 :: u220 :: u221 :: u222 :: u223 :: u224 :: u225 :: u226 :: u227 :: u228 :: u229 :: u230 :: u231 :: u232 :: u233 :: u234 :: u235 :: u236 :: u237 :: u238 :: u239 :: u240 :: u241 :: u242 :: u243 :: u244 :: u245 :: u246 :: u247 :: u248 :: u249 :: u250 :: u251 :: u252 :: u253 :: u254 :: u255 :: u256 :: u257 :: u258 :: u259 :: u260 :: u261 :: u262 :: u263 :: u264 :: u265 :: u266 :: u267 :: u268 :: u269 :: c270 :: c271 :: c272 :: c273 :: c274 :: c275 :: c276 :: c277 :: c278 :: c279 :: c280 :: c281 :: c282 :: [])), []⟩ z := by
  subst hc
  have HI0 := Lib.hid hI
  have HV := Lib.hid hv
  have HMC := Lib.hid hmc
  have HMB := Lib.hid hmb
  have HLr := Lib.hid hL
  have HFw := Lib.hid hF
  have HEX := Lib.hid hexit
  have HC := Lib.hid HCt
  have hm1 : (mc.length : Int) ≤ 60 := by have := HCt.chunks; dsimp only at this; omega
  have hL20 : (L.length : Int) ≤ 20 := by have := hF.2; omega
  clear hI hv hmc hmb hL hF hexit HCt
  conv => arg 2; whnf
  go_wp2_with fail
  go_loopw [22, 23, 24, 25, 26] (fun xv gv yv hv iv wr => ∃ k : Nat, k ≤ L.length ∧ iv = .int .i64 (k : Int) ∧ Hid (FtL W db rb (.slice av cs.length cvp) (.slice am mc.length cm) cs ⟨mp, mz, mc⟩ B1 W.heap.size lo2 hi2 xv gv yv hv wr)) (fun _ _ _ _ iv _ => L.length - (intOf iv).toNat)
  case atStart => exact ⟨0, Nat.zero_le _, rfl, HI0.out⟩
  case round =>
    obtain ⟨k, hk, rfl, HJ⟩ := hrel
    obtain ⟨D, er, rfl, rfl, HP⟩ := HJ.out
    have hnw := HP.nw0
    obtain ⟨a', cap', ev, _, hcells⟩ := fop_cells (HLr.out.nw hnw)
    simp only [Value.slice.injEq, true_and] at ev
    obtain ⟨rfl, rfl⟩ := ev
    have HPH := Lib.hid HP
    have s5 : (er == er) = true := by simp
    have s6 : (er != er) = false := by simp
    clear hnw HP HI0
    by_cases hlt : k < L.length
    · have hki : (k : Int) < L.length := by omega
      rcases hcells with hnil | ⟨b, off, rfl, hbh, hbw, hcell⟩
      · rw [hnil] at hlt; simp at hlt
      obtain ⟨x0, x1, x2, x3⟩ := hcell k hlt
      obtain ⟨q1, q2, q3, q4⟩ := HLr.out.each L[k] (List.getElem_mem hlt)
      obtain ⟨q5, q6⟩ := HFw.out.1 L[k] (List.getElem_mem hlt)
      have hkk : k ≤ 20 := by omega
      clear hcell HJ
      generalize L[k] = c at *
      obtain ⟨kv, kd, nn, ss, kp⟩ := c
      dsimp only at *
      obtain ⟨ap, cp, rfl, _, _⟩ := int_cells q1
      have HQ := Lib.hid (And.intro q1 (And.intro q3 (And.intro q4 (And.intro q5 q6))))
      clear q1 q2 q3 q4 q5 q6
      obtain ⟨wo, hwo, n0, hbx⟩ : ∃ z, z = wr.alloc (.cells #[.int .i64 kd, .int .i64 nn, .string ⟨ss.toArray⟩, .slice ap kp.length cp] 48) ∧ Nw wr z ∧ z.heap[wr.heap.size]? = some (.cells #[.int .i64 kd, .int .i64 nn, .string ⟨ss.toArray⟩, .slice ap kp.length cp] 48 (0, 0)) := ⟨_, rfl, nw_alloc wr _, heap_new wr _⟩
      have HPo := Lib.hid (HPH.out.keep (F' := fun i => i = wr.heap.size) n0 (fun i hi => Or.inr (by subst hi; exact ⟨Nat.le_refl _, lt_of_block hbx⟩)))
      have HBX := Lib.hid hbx
      have HWO := Lib.hid hwo
      have z0 := cells_cell hbx 0
      have z1 := cells_cell hbx 1
      have z2 := cells_cell hbx 2
      have z3 := cells_cell hbx 3
      simp only [List.getElem?_toArray, List.getElem?_cons_succ, List.getElem?_cons_zero] at z0 z1 z2 z3
      clear hbx HPH n0 hwo
      go_upto_region 22 with fail
      rw [← HWO.out]
      clear HWO x0 x1 x2 x3
      go_cut [146] from 137 to 146 (fun c wx => c = .bool false ∧ wx = wo)
      case first =>
        rcases HPo.out with ⟨rfl, rfl, T0⟩ | ⟨x, j, fb, kb, rfl, rfl, T0⟩
        · clear T0
          go_wp2_with fail
          go_meet
          exact ⟨rfl, rfl⟩
        · clear T0
          go_wp2_with fail
          go_meet
          exact ⟨rfl, rfl⟩
      case rest =>
      obtain ⟨rfl, hw⟩ := hcut
      replace hw := hw.symm
      subst hw
      go_upto_region 24 with fail
      go_cut [162] from 147 to 162 (fun c wx => ∃ bb : Bool, c = .bool bb ∧ wx = wo ∧ Hid (Both24 kd u22 bb))
      case first =>
        by_cases e0 : kd = 0
        · subst e0
          rcases HPo.out with ⟨rfl, rfl, T0⟩ | ⟨x, j, fb, kb, rfl, rfl, T0⟩
          · clear T0
            go_wp2_with fail
            go_meet
            exact ⟨_, rfl, rfl, fun h => by cases h⟩
          · clear T0
            go_wp2_with fail
            go_meet
            exact ⟨_, rfl, rfl, fun h => ⟨Or.inl rfl, _, rfl⟩⟩
        have b0 : (kd == 0) = false := beq_eq_false_iff_ne.2 e0
        by_cases e1 : kd = 1
        · subst e1
          rcases HPo.out with ⟨rfl, rfl, T0⟩ | ⟨x, j, fb, kb, rfl, rfl, T0⟩
          · clear T0
            go_wp2_with fail
            go_meet
            exact ⟨_, rfl, rfl, fun h => by cases h⟩
          · clear T0
            go_wp2_with fail
            go_meet
            exact ⟨_, rfl, rfl, fun h => ⟨Or.inr rfl, _, rfl⟩⟩
        have b1 : (kd == 1) = false := beq_eq_false_iff_ne.2 e1
        go_wp2_with fail
        go_meet
        exact ⟨_, rfl, rfl, fun h => by cases h⟩
      case rest =>
      obtain ⟨bb, rfl, hw, hbb⟩ := hcut
      replace hw := hw.symm
      subst hw
      go_upto_if 162 with fail
      go_cut [23, 25, 28, 29, 30, 31, 32] from 163 to 212 (fun gv hv sv tv av2 uv bv wx => ∃ (D' : Dk.Disk) (e' : Int), gv = .int .i64 e' ∧ hv = .int .i64 e' ∧ FtP W db rb (.slice av cs.length cvp) (.slice am mc.length cm) cs ⟨mp, mz, mc⟩ B1 W.heap.size lo2 hi2 (fun i => i = wr.heap.size) u22 u24 D' D' wx ∧ wx.heap[wr.heap.size]? = some (.cells #[.int .i64 kd, .int .i64 nn, .string ⟨ss.toArray⟩, .slice ap kp.length cp] 48 (0, 0)))
      case first =>
        cases bb with
        | false =>
          clear hbb
          go_wp2_with fail
          go_meet
          exact ⟨_, er, rfl, rfl, HPo.out, HBX.out⟩
        | true =>
          obtain ⟨hkd, pp, hpp⟩ := hbb.out rfl
          rcases HPo.out with ⟨rfl, _, _⟩ | ⟨x, j, fb, kb, rfl, rfl, T0⟩
          · cases hpp
          have HT0 := Lib.hid T0
          clear T0 HPo hpp hbb
          rcases hkd with rfl | rfl
          · skip
            have hol : (ownT cs mc nn ss).length ≤ 100 := own_smallT HC.out.sm HQ.out.2.2.2.1
            have uW := HT0.out.nw0
            have HOwn := Lib.hid (own_c _ _ _ _ _ cs mp mz _ mc nn HQ.out.2.1 ss wo ((Sl.of_owns HV.out).nw uW) HC.out.len (HMC.out.nw uW) (by omega))
            have k0 : wo.cell? ⟨mb, 0, none⟩ = some (.int .i64 mp) := by rw [cells_cell (Nw.keep uW HMB.out)]; rfl
            have k1 : wo.cell? ⟨mb, 1, none⟩ = some (.int .i64 mz) := by rw [cells_cell (Nw.keep uW HMB.out)]; rfl
            have k2 : wo.cell? ⟨mb, 2, none⟩ = some (.slice am mc.length cm) := by rw [cells_cell (Nw.keep uW HMB.out)]; rfl
            clear uW
            go_wp2_with fail
            (with_reducible refine (HOwn.out).mono ?_)
            rintro _ w11 ⟨rfl, u11⟩
            have hT11 := HT0.out.nw u11
            have Ha := Lib.hid (xtake_t hT11 g (by dsimp only; omega) HC.out.len HC.out.nodup HQ.out.2.1 (t := ownT cs mc nn ss) (by omega))
            have hb11 := Nw.keep u11 HBX.out
            have v0 := cells_cell hb11 0
            have v1 := cells_cell hb11 1
            simp only [List.getElem?_toArray, List.getElem?_cons_succ, List.getElem?_cons_zero] at v0 v1
            have HB11 := Lib.hid hb11
            clear hT11 u11 HOwn k0 k1 k2 hb11
            go_wp2_with fail
            (with_reducible refine (Ha.out).mono ?_)
            rintro _ w12 ⟨rfl, x', hx, t12, m12⟩
            have Hb := Lib.hid (ytake_t t12 g (by dsimp only; omega) HC.out.len HQ.out.2.1 (ownT cs mc nn ss) (by omega))
            have hb12 := m12.keep HB11.out (fun s => s.1 rfl)
            have y1 := cells_cell hb12 1
            simp only [List.getElem?_toArray, List.getElem?_cons_succ, List.getElem?_cons_zero] at y1
            have HB12 := Lib.hid hb12
            clear hb12 m12 t12 Ha v0 v1
            generalize Ft.take D cs ⟨mp, mz, mc⟩ j nn (ownT cs mc nn ss) = TK at *
            go_wp2_with fail
            (with_reducible refine (Hb.out).mono ?_)
            rintro _ w13 ⟨rfl, t13, m13⟩
            have T13 := Lib.hid t13
            have HB13 := Lib.hid (m13.keep HB12.out (fun s => s.1 rfl))
            clear t13 m13 Hb y1
            -- w13 the world, T13.out its TF, TK.2.2 the error, HB13.out the block's fact, x' x
            have Ht := Lib.hid (xtext_t (T13.out) g (by dsimp only; omega) HC.out.len)
            rw [hx] at Ht
            go_wp2_with fail
            (with_reducible refine (Ht.out).mono ?_)
            rintro _ w15 ⟨rfl, u15⟩
            have Hu := Lib.hid (ytext_t ((T13.out).nw u15) g (by dsimp only; omega) HC.out.len)
            have U15 := Lib.hid u15
            clear Ht u15
            go_wp2_with fail
            (with_reducible refine (Hu.out).mono ?_)
            rintro _ w16 ⟨rfl, u16⟩
            have U16 := Lib.hid (U15.out.trans u16)
            have Hm := Lib.hid (xmissing_t ((T13.out).nw U16.out) g (by dsimp only; omega))
            rw [hx] at Hm
            clear Hu u16
            generalize Ft.ftext cs ⟨mp, mz, mc⟩ _ = TX at *
            obtain ⟨tx, ea⟩ := TX
            dsimp only
            have s1 : (tx == tx) = true := by simp
            have s2 : (tx != tx) = false := by simp
            have s3 : (ea == ea) = true := by simp
            have s4 : (ea != ea) = false := by simp
            go_wp2_with fail
            (with_reducible refine (Hm.out).mono ?_)
            rintro _ w17 ⟨v17, rfl, o17, u17⟩
            obtain ⟨a17, c17, rfl⟩ := own_slG o17
            have U17 := Lib.hid (U16.out.trans u17)
            have HO17 := Lib.hid o17
            have Hn := Lib.hid (ymissing_t ((T13.out).nw U17.out) g (by dsimp only; omega) HC.out.len)
            clear Hm u17 o17
            go_wp2_with fail
            (with_reducible refine (Hn.out).mono ?_)
            rintro _ w18 ⟨v18, rfl, o18, u18⟩
            obtain ⟨a18, c18, rfl⟩ := own_slG o18
            have U18 := Lib.hid (U17.out.trans u18)
            have hgl := Ft.miss_len mc (Ft.come cs TK.2.1)
            have hin := ints_c _ _ _ _ _ _ _ _ w18 (Sl.of_owns (owns_upd' HO17.out u18 (fun _ _ e => e))) (Sl.of_owns o18) (by show (Ft.miss mc (Ft.come cs TK.2.1)).length ≤ _; omega) (by show (Ft.miss mc (Ft.come cs TK.2.1)).length ≤ _; omega)
            rw [decide_eq_true rfl] at hin
            have HIn := Lib.hid hin
            clear Hn u18 o18 hin hgl
            generalize Ft.gone cs ⟨mp, mz, mc⟩ _ = G at *
            go_wp2_with fail
            (with_reducible refine (HIn.out).mono ?_)
            rintro _ w19 ⟨rfl, u19⟩
            have U19 := Lib.hid (U18.out.trans u19)
            have hb19 := Nw.keep U19.out HB13.out
            have T19 := Lib.hid ((T13.out).nw U19.out)
            clear HIn u19 hb19 s1 s2 s3 s4
            have HB19 := Lib.hid (Nw.keep U19.out HB13.out)
            go_wp2_with fail
            go_meet
            exact ⟨_, TK.2.2, rfl, rfl, Or.inr ⟨x', _, fb, kb, by first | rfl | rw [hx], rfl, T19.out⟩, HB19.out⟩
          · skip
            have hol : (ownT cs mc nn ss).length ≤ 100 := own_smallT HC.out.sm HQ.out.2.2.2.1
            have uW := HT0.out.nw0
            have HOwn := Lib.hid (own_c _ _ _ _ _ cs mp mz _ mc nn HQ.out.2.1 ss wo ((Sl.of_owns HV.out).nw uW) HC.out.len (HMC.out.nw uW) (by omega))
            have k0 : wo.cell? ⟨mb, 0, none⟩ = some (.int .i64 mp) := by rw [cells_cell (Nw.keep uW HMB.out)]; rfl
            have k1 : wo.cell? ⟨mb, 1, none⟩ = some (.int .i64 mz) := by rw [cells_cell (Nw.keep uW HMB.out)]; rfl
            have k2 : wo.cell? ⟨mb, 2, none⟩ = some (.slice am mc.length cm) := by rw [cells_cell (Nw.keep uW HMB.out)]; rfl
            clear uW
            go_wp2_with fail
            (with_reducible refine (HOwn.out).mono ?_)
            rintro _ w11 ⟨rfl, u11⟩
            have hT11 := HT0.out.nw u11
            have HB11 := Lib.hid (Nw.keep u11 HBX.out)
            have Ha := Lib.hid (xsync_t hT11 g)
            have hb11 := HB11.out
            have v0 := cells_cell hb11 0
            simp only [List.getElem?_toArray, List.getElem?_cons_succ, List.getElem?_cons_zero] at v0
            clear hT11 u11 HOwn k0 k1 k2 hb11
            go_wp2_with fail
            (with_reducible refine (Ha.out).mono ?_)
            rintro _ w12 ⟨rfl, x', hx, t12, m12⟩
            have Hb := Lib.hid (ysync_t t12 g)
            have HB12 := Lib.hid (m12.keep HB11.out (fun s => s.1 rfl))
            clear m12 t12 Ha v0
            generalize Jr.syncJ D j = TK at *
            go_wp2_with fail
            (with_reducible refine (Hb.out).mono ?_)
            rintro _ w13 ⟨rfl, t13, m13⟩
            have T13 := Lib.hid t13
            have HB13 := Lib.hid (m13.keep HB12.out (fun s => s.1 rfl))
            clear t13 m13 Hb
            -- w13 the world, T13.out its TF, TK.2.2 the error, HB13.out the block's fact, x' x
            have Ht := Lib.hid (xtext_t (T13.out) g (by dsimp only; omega) HC.out.len)
            rw [hx] at Ht
            go_wp2_with fail
            (with_reducible refine (Ht.out).mono ?_)
            rintro _ w15 ⟨rfl, u15⟩
            have Hu := Lib.hid (ytext_t ((T13.out).nw u15) g (by dsimp only; omega) HC.out.len)
            have U15 := Lib.hid u15
            clear Ht u15
            go_wp2_with fail
            (with_reducible refine (Hu.out).mono ?_)
            rintro _ w16 ⟨rfl, u16⟩
            have U16 := Lib.hid (U15.out.trans u16)
            have Hm := Lib.hid (xmissing_t ((T13.out).nw U16.out) g (by dsimp only; omega))
            rw [hx] at Hm
            clear Hu u16
            generalize Ft.ftext cs ⟨mp, mz, mc⟩ _ = TX at *
            obtain ⟨tx, ea⟩ := TX
            dsimp only
            have s1 : (tx == tx) = true := by simp
            have s2 : (tx != tx) = false := by simp
            have s3 : (ea == ea) = true := by simp
            have s4 : (ea != ea) = false := by simp
            go_wp2_with fail
            (with_reducible refine (Hm.out).mono ?_)
            rintro _ w17 ⟨v17, rfl, o17, u17⟩
            obtain ⟨a17, c17, rfl⟩ := own_slG o17
            have U17 := Lib.hid (U16.out.trans u17)
            have HO17 := Lib.hid o17
            have Hn := Lib.hid (ymissing_t ((T13.out).nw U17.out) g (by dsimp only; omega) HC.out.len)
            clear Hm u17 o17
            go_wp2_with fail
            (with_reducible refine (Hn.out).mono ?_)
            rintro _ w18 ⟨v18, rfl, o18, u18⟩
            obtain ⟨a18, c18, rfl⟩ := own_slG o18
            have U18 := Lib.hid (U17.out.trans u18)
            have hgl := Ft.miss_len mc (Ft.come cs TK.2.1)
            have hin := ints_c _ _ _ _ _ _ _ _ w18 (Sl.of_owns (owns_upd' HO17.out u18 (fun _ _ e => e))) (Sl.of_owns o18) (by show (Ft.miss mc (Ft.come cs TK.2.1)).length ≤ _; omega) (by show (Ft.miss mc (Ft.come cs TK.2.1)).length ≤ _; omega)
            rw [decide_eq_true rfl] at hin
            have HIn := Lib.hid hin
            clear Hn u18 o18 hin hgl
            generalize Ft.gone cs ⟨mp, mz, mc⟩ _ = G at *
            go_wp2_with fail
            (with_reducible refine (HIn.out).mono ?_)
            rintro _ w19 ⟨rfl, u19⟩
            have U19 := Lib.hid (U18.out.trans u19)
            have hb19 := Nw.keep U19.out HB13.out
            have T19 := Lib.hid ((T13.out).nw U19.out)
            clear HIn u19 hb19 s1 s2 s3 s4
            have HB19 := Lib.hid (Nw.keep U19.out HB13.out)
            go_wp2_with fail
            go_meet
            exact ⟨_, TK.2.2, rfl, rfl, Or.inr ⟨x', _, fb, kb, by first | rfl | rw [hx], rfl, T19.out⟩, HB19.out⟩
      case rest =>
      obtain ⟨D', er', rfl, rfl, hfp, hbx'⟩ := hcut
      have HP0 := Lib.hid hfp
      have HBX' := Lib.hid hbx'
      have z0 := cells_cell hbx' 0
      have z1 := cells_cell hbx' 1
      have z2 := cells_cell hbx' 2
      have z3 := cells_cell hbx' 3
      simp only [List.getElem?_toArray, List.getElem?_cons_succ, List.getElem?_cons_zero] at z0 z1 z2 z3
      clear hfp hbx' HPo HBX hbb s5 s6
      -- u22 x, u24 y: the operations on the disks
      by_cases e2 : kd = 2
      · subst e2
        have Ha := Lib.hid (HP0.out.disk (Q := fun e => e = .returned (.tuple #[])) (fun jp kq F h => tlose_t h HQ.out.2.1))
        go_wp2_with fail
        (with_reducible refine (Ha.out).mono ?_)
        rintro _ w5 ⟨rfl, t5, m5⟩
        have Hb := Lib.hid (t5.disk (Q := fun e => e = .returned (.tuple #[])) (fun jp kq F h => rlose_t h HQ.out.2.1))
        have hb5 := m5.keep HBX'.out (fun s => s.1 rfl)
        have v0 := cells_cell hb5 0
        have v1 := cells_cell hb5 1
        simp only [List.getElem?_toArray, List.getElem?_cons_succ, List.getElem?_cons_zero] at v0 v1
        have HB5 := Lib.hid hb5
        clear Ha t5 m5 hb5
        go_wp2_with fail
        (with_reducible refine (Hb.out).mono ?_)
        rintro _ w6 ⟨rfl, t6, m6⟩
        have hb6 := m6.keep HB5.out (fun s => s.1 rfl)
        have y0 := cells_cell hb6 0
        simp only [List.getElem?_toArray, List.getElem?_cons_zero] at y0
        have T6 := Lib.hid t6
        clear Hb t6 m6 hb6 v0 v1
        -- w6 the world, u22 x, u24 y, er' the error, T6.out the FtP there
        have hz : Hid (FtL W db rb (.slice av cs.length cvp) (.slice am mc.length cm) cs ⟨mp, mz, mc⟩ B1 W.heap.size lo2 hi2 u22 (.int .i64 er') u24 (.int .i64 er') w6) := ⟨_, _, rfl, rfl, (T6.out).done⟩
        go_wp2_with fail
        go_roundw
        case rel => exact ⟨k + 1, by omega, by go_num, hz.out⟩
        case measure => simp [intOf]; omega
      have b2 : (kd == 2) = false := beq_eq_false_iff_ne.2 e2
      by_cases e3 : kd = 3
      · subst e3
        have Ha := Lib.hid (HP0.out.disk (Q := fun e => e = .returned (.tuple #[])) (fun jp kq F h => tarm_t h g HQ.out.2.1 0 hi0 (.slice ap kp.length cp) kp HQ.out.2.2.1 (HQ.out.1.nw HP0.out.nw0) (by have := HQ.out.2.2.2.2; omega)))
        go_wp2_with fail
        (with_reducible refine (Ha.out).mono ?_)
        rintro _ w5 ⟨rfl, t5, m5⟩
        have Hb := Lib.hid (t5.disk (Q := fun e => e = .returned (.tuple #[])) (fun jp kq F h => rarm_t h g HQ.out.2.1 0 hi0 hhi0 (.slice ap kp.length cp) kp HQ.out.2.2.1 (HQ.out.1.nw t5.nw0) (by have := HQ.out.2.2.2.2; omega)))
        have hb5 := m5.keep HBX'.out (fun s => s.1 rfl)
        have v0 := cells_cell hb5 0
        have v1 := cells_cell hb5 1
        have v3 := cells_cell hb5 3
        simp only [List.getElem?_toArray, List.getElem?_cons_succ, List.getElem?_cons_zero] at v0 v1 v3
        have HB5 := Lib.hid hb5
        clear Ha t5 m5 hb5
        go_wp2_with fail
        (with_reducible refine (Hb.out).mono ?_)
        rintro _ w6 ⟨rfl, t6, m6⟩
        have hb6 := m6.keep HB5.out (fun s => s.1 rfl)
        have y0 := cells_cell hb6 0
        simp only [List.getElem?_toArray, List.getElem?_cons_zero] at y0
        have T6 := Lib.hid t6
        clear Hb t6 m6 hb6 v0 v1 v3
        -- w6 the world, u22 x, u24 y, er' the error, T6.out the FtP there
        have hz : Hid (FtL W db rb (.slice av cs.length cvp) (.slice am mc.length cm) cs ⟨mp, mz, mc⟩ B1 W.heap.size lo2 hi2 u22 (.int .i64 er') u24 (.int .i64 er') w6) := ⟨_, _, rfl, rfl, (T6.out).done⟩
        go_wp2_with fail
        go_roundw
        case rel => exact ⟨k + 1, by omega, by go_num, hz.out⟩
        case measure => simp [intOf]; omega
      have b3 : (kd == 3) = false := beq_eq_false_iff_ne.2 e3
      by_cases e4 : kd = 4
      · subst e4
        have Ha := Lib.hid (HP0.out.disk (Q := fun e => e = .returned (.tuple #[])) (fun jp kq F h => tcrash_t h g 0 hi0 hhi0 (.slice ap kp.length cp) kp HQ.out.2.2.1 HQ.out.1))
        go_wp2_with fail
        (with_reducible refine (Ha.out).mono ?_)
        rintro _ w5 ⟨rfl, t5, m5⟩
        have Hb := Lib.hid (t5.disk (Q := fun e => e = .returned (.tuple #[])) (fun jp kq F h => rcrash_t h g 0 hi0 hhi0 (.slice ap kp.length cp) kp HQ.out.2.2.1 HQ.out.1))
        have hb5 := m5.keep HBX'.out (fun s => s.1 rfl)
        have v3 := cells_cell hb5 3
        simp only [List.getElem?_toArray, List.getElem?_cons_succ, List.getElem?_cons_zero] at v3
        have HB5 := Lib.hid hb5
        clear Ha t5 m5 hb5
        go_wp2_with fail
        (with_reducible refine (Hb.out).mono ?_)
        rintro _ w6 ⟨rfl, t6, m6⟩
        have Hc := Lib.hid (t6.disk (Q := fun e => e = .returned (.tuple #[])) (fun jp kq F h => tstart_t h))
        clear Hb t6 m6 v3
        go_wp2_with fail
        (with_reducible refine (Hc.out).mono ?_)
        rintro _ w7 ⟨rfl, t7, m7⟩
        have Hd := Lib.hid (t7.disk (Q := fun e => e = .returned (.tuple #[])) (fun jp kq F h => rstart_t h))
        clear Hc t7 m7
        go_wp2_with fail
        (with_reducible refine (Hd.out).mono ?_)
        rintro _ w8 ⟨rfl, t8, m8⟩
        have uw := t8.nw0
        have He := Lib.hid (FtP.open_ (v := .slice av cs.length cvp) (cv := .slice am mc.length cm) (m := ⟨mp, mz, mc⟩) (cs := cs) (lo := B1) (hi := W.heap.size) (lo2 := lo2) (hi2 := hi2) t8.forget g hfile (owns_upd' HV.out uw (fun _ _ e => e)) (fun i e => (HV.out.lt i e).2) ((Sl.of_owns HV.out).nw uw) (Nat.le_refl _) (HMC.out.nw uw) hhi2 ⟨HC.out.len, HC.out.sm⟩ HC.out.nodup HC.out.right)
        have k0 : w8.cell? ⟨mb, 0, none⟩ = some (.int .i64 mp) := by rw [cells_cell (Nw.keep uw HMB.out)]; rfl
        have k1 : w8.cell? ⟨mb, 1, none⟩ = some (.int .i64 mz) := by rw [cells_cell (Nw.keep uw HMB.out)]; rfl
        have k2 : w8.cell? ⟨mb, 2, none⟩ = some (.slice am mc.length cm) := by rw [cells_cell (Nw.keep uw HMB.out)]; rfl
        have U8 := Lib.hid uw
        clear Hd t8 m8 uw
        generalize Ft.fopen _ file cs ⟨mp, mz, mc⟩ = Rf at *
        go_wp2_with fail
        (with_reducible refine (He.out).mono ?_)
        rintro _ w9 ⟨pv, rfl, m9, ho⟩
        have Ho := Lib.hid ho
        have hb9 := m9.keep (Nw.keep U8.out HMB.out) (fun s => by have := lt_of_block HMB.out; omega)
        have k0' : w9.cell? ⟨mb, 0, none⟩ = some (.int .i64 mp) := by rw [cells_cell hb9]; rfl
        have k1' : w9.cell? ⟨mb, 1, none⟩ = some (.int .i64 mz) := by rw [cells_cell hb9]; rfl
        have k2' : w9.cell? ⟨mb, 2, none⟩ = some (.slice am mc.length cm) := by rw [cells_cell hb9]; rfl
        clear He m9 ho hb9 k0 k1 k2
        go_wp2_with fail
        (with_reducible refine (Ho.out).mono ?_)
        rintro _ w10 ⟨qv, rfl, m10, t10⟩
        have T10 := Lib.hid t10
        clear m10 t10 Ho k0' k1' k2'
        -- w10 the world, pv x, qv y, Rf.2.2 the error, T10.out the FtP there
        have hz : Hid (FtL W db rb (.slice av cs.length cvp) (.slice am mc.length cm) cs ⟨mp, mz, mc⟩ B1 W.heap.size lo2 hi2 pv (.int .i64 Rf.2.2) qv (.int .i64 Rf.2.2) w10) := ⟨_, _, rfl, rfl, (T10.out).done⟩
        go_wp2_with fail
        go_roundw
        case rel => exact ⟨k + 1, by omega, by go_num, hz.out⟩
        case measure => simp [intOf]; omega
      have b4 : (kd == 4) = false := beq_eq_false_iff_ne.2 e4
      -- _ the world, u22 x, u24 y, er' the error, HP0.out the FtP there
      have hz : Hid (FtL W db rb (.slice av cs.length cvp) (.slice am mc.length cm) cs ⟨mp, mz, mc⟩ B1 W.heap.size lo2 hi2 u22 (.int .i64 er') u24 (.int .i64 er') _) := ⟨_, _, rfl, rfl, (HP0.out).done⟩
      go_wp2_with fail
      go_roundw
      case rel => exact ⟨k + 1, by omega, by go_num, hz.out⟩
      case measure => simp [intOf]; omega
    · obtain rfl : k = L.length := by omega
      clear hcells
      go_wp2_with fail
      exact HEX.out _ _ _ _ _ _ _ _ _ _ _ _ _ _ _ _ _ _ _ _ _ _ _ _ _ _ _ _ _ _ _ _ _ _ _ _ _ _ _ _ _ _ _ _ _ _ _ _ _ _ _ _ _ _ _ _ _ _ _ _ _ _ _ _ _ _ _ _ _ _ _ _ _ _ _ _ _ _ _ _ _ _ _ _ _ _ _ _ _ _ _ _ _ _ _ _ _ _ _ _ _ _ _ _ _ _ _ _ _ _ _ _ _ _ _ _ _ _ _ _ _ _ _ _ _ _ _ _ _ _ _ _ _ _ _ _ _ _ _ _ _ _ _ _ _ _ _ _ _ _ _ _ _ _ _ _ HJ.out
end Go.Proofs.YtmlmdlbepppnlaaGreatDoor
