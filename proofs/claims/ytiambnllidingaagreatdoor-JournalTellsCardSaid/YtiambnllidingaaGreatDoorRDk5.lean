/- The reference's disk (layer 2): New, Write, Sync, Truncate, Read, Lose, Start, Arm. -/
import Derived.Test.YtiambnllidingaaGreatDoorRDk4
namespace Go.Proofs.YtiambnllidingaaGreatDoor
open Go.RowKit
set_option linter.unusedVariables false
set_option linter.unusedSimpArgs false
attribute [local irreducible] Calls

theorem crash_down (D : Dk.Disk) (keep : List Int) : (Dk.crash D keep).down = true := by
  unfold Dk.crash
  split
  · assumption
  · rfl
theorem may_down {D : Dk.Disk} (h : D.down = true) (f : Int) : Dk.may D f = 8 := by unfold Dk.may; rw [if_pos h]
theorem write_comes (D : Dk.Disk) (f i : Int) (s : List UInt8) : Dk.write D f i s = Dk.write0 (comesD D f i s) f i s := by
  unfold Dk.write comesD
  by_cases he : Dk.ends D = true
  · rw [if_pos he, if_pos he, counted_keep]
    have hm := may_down (crash_down (Dk.write0 (Dk.counted D) f i s).1 D.keep) f
    have e0 : ∀ X : Dk.Disk, Dk.may X f ≠ 0 → Dk.write0 X f i s = (X, Dk.may X f) := fun X h => by unfold Dk.write0; rw [if_pos h]
    have e1 := e0 _ (show Dk.may (Dk.crash (Dk.write0 (Dk.counted D) f i s).1 D.keep) f ≠ 0 by rw [hm]; decide)
    rw [hm] at e1
    exact e1.symm
  · rw [if_neg he, if_neg he]
theorem new_rd (w : World) (g : Gl w) : Calls Tryz.prog 10 #[] w fun e w' => ∃ r, e = .returned (.pointer (some ⟨r.rb, 0, none⟩)) ∧ RDAt w.heap.size w' r Dk.new ∧ Nw w w' := by
  have hgb := g.big
  have n1 := nw_alloc w (.cells #[.slice none 0 0, .slice none 0 0, .int .i64 0, .bool false, .int .i64 0, .slice none 0 0] tRDisk)
  have k1 := heap_new w (.cells #[.slice none 0 0, .slice none 0 0, .int .i64 0, .bool false, .int .i64 0, .slice none 0 0] tRDisk)
  have K := Lib.hid (And.intro n1 k1)
  clear n1 k1
  go_enter Tryz.func10, Tryz.ntmps10
  go_wp2_with fail
  go_ret
  exact ⟨⟨w.heap.size, .slice none 0 0, .slice none 0 0, .slice none 0 0⟩, rfl, ⟨hgb, Nat.le_refl _, K.out.2, ⟨[], World.ownsRow_nil _ _ _ _, SaysR.new⟩, World.ownsRow_nil _ _ _ _, World.ownsRow_nil _ _ _ _, Dk.new_ok, fun x hx => by cases hx⟩, K.out.1⟩
section
variable {B : Nat} {w w1 w2 : World} {r r1 : RdR} {D D' D1 D2 : Dk.Disk}
theorem i64_max {n : Int} (h : I64 n) : max n 0 ≤ 9223372036854775807 := by unfold I64 at h; omega
theorem lose_rd (h : RDAt B w r D) {n : Int} (hn : I64 n) : Calls Tryz.prog 20 #[.pointer (some ⟨r.rb, 0, none⟩), .int .i64 n] w fun e w' => e = .returned (.tuple #[]) ∧ RDTo B r (Dk.lose D n) w w' := by
  obtain ⟨_, _, c2, _⟩ := h.cells
  have f2 := h.frozen 2
  obtain ⟨s1, u1⟩ := h.scal (D' := Dk.lose D n) 2 (.int .i64 (max n 0)) rfl rfl rfl rfl (Dk.lose_ok h.ok hn.2)
  have hT : Hid (RDTo B r (Dk.lose D n) w (w.setCell ⟨r.rb, 2, none⟩ (.int .i64 (max n 0)))) := ⟨r, s1, rfl, u1.mono (fun k _ e => Or.inl e), fun j e => Or.inl e⟩
  clear h s1 u1
  go_enter Tryz.func20, Tryz.ntmps20
  go_wp2_with fail
  go_end0
  exact ⟨rfl, hT.out⟩
theorem start_rd (h : RDAt B w r D) : Calls Tryz.prog 26 #[.pointer (some ⟨r.rb, 0, none⟩)] w fun e w' => e = .returned (.tuple #[]) ∧ RDTo B r (Dk.start D) w w' := by
  obtain ⟨_, _, _, c3, _⟩ := h.cells
  have f3 := h.frozen 3
  obtain ⟨s1, u1⟩ := h.scal (D' := Dk.start D) 3 (.bool false) rfl rfl rfl rfl (Dk.start_ok h.ok)
  have hT : Hid (RDTo B r (Dk.start D) w (w.setCell ⟨r.rb, 3, none⟩ (.bool false))) := ⟨r, s1, rfl, u1.mono (fun k _ e => Or.inl e), fun j e => Or.inl e⟩
  clear h s1 u1
  go_enter Tryz.func26, Tryz.ntmps26
  go_wp2_with fail
  go_end0
  exact ⟨rfl, hT.out⟩
theorem keep_done_r {z : World} (h : RDAt B w r D) (u : Nw w z) {keep : List Int} (hkI : ∀ x ∈ keep, I64 x) {v' : Value} {B0 : Nat} (hB0 : w.heap.size ≤ B0) (ho : z.ownsRow B0 tIntD 1 v' keep.length (keep.map intD)) :
    RDTo B r { D with keep := keep } w (z.setCell ⟨r.rb, 5, none⟩ v') := by
  have hz := h.nw u
  have hrw := (h.foot_lt (Or.inl rfl)).2
  have hrB := (h.foot_lt (Or.inl rfl)).1
  have hg : nG ≤ r.rb := Nat.le_trans h.hb h.rb
  have hv : ∀ k, v'.ownBlock = some k → w.heap.size ≤ k := fun k e => Nat.le_trans hB0 (own_blockD ho e).1
  have U : Upd (fun k => k = r.rb) z (z.setCell ⟨r.rb, 5, none⟩ v') := Upd.set1 (Upd.refl _ _) hg 5 _
  obtain ⟨l, hl, _⟩ := hz.files
  refine ⟨⟨r.rb, r.fv, r.qv, v'⟩, ⟨h.hb, h.rb, ?_, ?_, ?_, ?_, ⟨h.ok.now, h.ok.last, h.ok.q, h.ok.nd, h.ok.lost, h.ok.armed⟩, hkI⟩, rfl, (Nw.trans u U).mono (fun k _ e => Or.inl e), ?_⟩
  · have := setCell_block hz.blk 5 v'
    unfold rdC at this ⊢
    exact this
  · exact hz.files.upd U (fun k hk e => own_blk hl hz.blk (by decide) (by rw [← e]; exact hk))
  · exact owns_updD hz.queue U (fun k hk e => own_blk hz.queue hz.blk (by decide) (by rw [← e]; exact hk))
  · exact owns_base (owns_updD ho U (fun k hk e => by subst e; have := hv _ hk; omega)) (by omega)
  · rintro j (e | e | e | e)
    · exact Or.inl (Or.inl e)
    · exact Or.inl (Or.inr (Or.inl e))
    · exact Or.inl (Or.inr (Or.inr (Or.inl e)))
    · exact Or.inr (hv j e)
set_option maxRecDepth 100000 in
theorem arm_rd (h : RDAt B w r D) (g : Gl w) {n : Int} (hn : I64 n) (lo hi : Nat) (hhi : hi ≤ B) (v : Value) (keep : List Int) (hkI : ∀ x ∈ keep, I64 x) (hs : Sl lo hi w v (keep.map intD)) (hL : keep.length ≤ 1000000000) :
    Calls Tryz.prog 22 #[.pointer (some ⟨r.rb, 0, none⟩), .int .i64 n, v] w fun e w' => e = .returned (.tuple #[]) ∧ RDTo B r (Dk.arm D n keep) w w' := by
  have hgb := g.big
  obtain ⟨_, _, _, _, c4, _⟩ := h.cells
  have f4 := h.frozen 4
  have hrB := (h.foot_lt (Or.inl rfl)).1
  obtain ⟨s1, u1⟩ := h.scal (D' := { D with armed := max n 0 }) 4 (.int .i64 (max n 0)) rfl rfl rfl rfl ⟨h.ok.now, h.ok.last, h.ok.q, h.ok.nd, h.ok.lost, ⟨by dsimp only; omega, by dsimp only; exact i64_max hn⟩⟩
  obtain ⟨a, cap, rfl, _, hc⟩ := int_cells hs
  have n1 := nw_alloc (w.setCell ⟨r.rb, 4, none⟩ (.int .i64 (max n 0))) (.cells #[] tIntD)
  have o1 := owns_emptyD (w.setCell ⟨r.rb, 4, none⟩ (.int .i64 (max n 0))) tIntD 1
  have hsz : (w.setCell ⟨r.rb, 4, none⟩ (.int .i64 (max n 0))).heap.size = w.heap.size := by simp
  rw [hsz] at o1
  have Hsz := Lib.hid hsz
  have Hs := Lib.hid ((hs.upd u1 (fun k _ hk s => by have := s; omega)).nw n1)
  have H := Lib.hid (And.intro h (And.intro s1 (And.intro u1 hkI)))
  have N1 := Lib.hid n1
  have HL := Lib.hid hL
  clear h s1 u1 hkI n1 hL hc hsz
  go_enter Tryz.func22, Tryz.ntmps22
  go_wp2_with (at_builtin; go_loud (refine wpList_catA rfl _ _ 36 rfl w.heap.size lo hi tIntD _ 8 Tryz.underlying36 infoIntD rfl _ _ _ _ _ rfl o1 rfl Hs.out ?c1 ?c2 ?c3 ?c4 ?_))
  case c1 =>
    intro u hu
    obtain ⟨x, _, rfl⟩ := List.mem_map.1 hu
    rfl
  case c2 => have := HL.out; unfold maxLen; rw [List.length_map]; omega
  case c3 => have := HL.out; rw [List.length_map]; omega
  case c4 => simp
  intro v' w2 hown hgrow hob
  have u2 : Nw (w.setCell ⟨r.rb, 4, none⟩ (.int .i64 (max n 0))) w2 := N1.out.grown hgrow (fun k hk => ⟨Or.inr (by rw [Hsz.out]; exact (hob k hk).1), by have := (hob k hk).1; have := Hsz.out; omega⟩)
  (try simp only [List.nil_append, List.length_map, Nat.zero_add] at hown)
  have c5 := (H.out.2.1.nw u2).cells.2.2.2.2.2
  have f5 := (H.out.2.1.nw u2).frozen 5
  have hT := keep_done_r H.out.2.1 u2 H.out.2.2.2 (Nat.le_of_eq Hsz.out) hown
  have hz : Hid (RDTo B r (Dk.arm D n keep) w (w2.setCell ⟨r.rb, 5, none⟩ v')) := RDTo.then_ H.out.1 H.out.2.1 rfl (H.out.2.2.1.mono (fun k _ e => Or.inl e)) (fun j e => Or.inl e) hT
  obtain ⟨a2, c2, rfl⟩ := own_slD hown
  clear hT hown hgrow hob u2
  go_wp2_with fail
  go_end0
  exact ⟨rfl, hz.out⟩
set_option maxHeartbeats 1000000 in
set_option maxRecDepth 100000 in
theorem read_rd (h : RDAt B w r D) {f i n : Int} (hf : I64 f) (hi : I64 i) (hn : I64 n) :
    Calls Tryz.prog 31 #[.pointer (some ⟨r.rb, 0, none⟩), .int .i64 f, .int .i64 i, .int .i64 n] w fun e w' => e = .returned (.tuple #[.string ⟨(Dk.read D f i n).1.toArray⟩, .int .i64 (Dk.read D f i n).2]) ∧ Nw w w' := by
  have hm := Lib.hid (may_r h f)
  have hg := Lib.hid (get_r h f)
  have hnow := h.ok.now f
  have hf1 := rfield1 f (D.fs f)
  have Hf := Lib.hid hf1
  clear hf1
  generalize hA : (D.fs f).now = s at *
  generalize (D.fs f).last = s2 at *
  have Hnow := Lib.hid hnow
  clear h hnow
  by_cases hm0 : Dk.may D f = 0
  rotate_left
  · have hr : Hid (Dk.read D f i n = ([], Dk.may D f)) := by show _ = _; unfold Dk.read; rw [if_pos hm0]
    have d0 : (Dk.may D f == 0) = false := beq_eq_false_iff_ne.2 hm0
    have d1 : (Dk.may D f != 0) = true := by simp [hm0]
    clear hm0 hA
    go_enter Tryz.func31, Tryz.ntmps31
    go_wp2_with fail
    (with_reducible refine (hm.out).mono ?_)
    rintro _ _ ⟨rfl, rfl⟩
    go_wp2_with fail
    go_ret2
    exact ⟨by rw [hr.out]; rfl, Upd.refl _ _⟩
  have hr0 : Dk.read D f i n = if i < 0 ∨ n < 0 then ([], 1) else ((s.drop i.toNat).take n.toNat, 0) := by unfold Dk.read; rw [if_neg (by omega), hA]
  rw [hm0] at hm
  clear hA hm0
  by_cases h1 : i < 0
  · have hr : Hid (Dk.read D f i n = ([], 1)) := by show _ = _; rw [hr0, if_pos (Or.inl h1)]
    clear hr0
    go_enter Tryz.func31, Tryz.ntmps31
    go_wp2_with fail
    (with_reducible refine (hm.out).mono ?_)
    rintro _ _ ⟨rfl, rfl⟩
    go_wp2_with fail
    go_ret2
    exact ⟨by rw [hr.out]; rfl, Upd.refl _ _⟩
  by_cases h2 : n < 0
  · have hr : Hid (Dk.read D f i n = ([], 1)) := by show _ = _; rw [hr0, if_pos (Or.inr h2)]
    clear hr0
    go_enter Tryz.func31, Tryz.ntmps31
    go_wp2_with fail
    (with_reducible refine (hm.out).mono ?_)
    rintro _ _ ⟨rfl, rfl⟩
    go_wp2_with fail
    go_ret2
    exact ⟨by rw [hr.out]; rfl, Upd.refl _ _⟩
  have hr : Hid (Dk.read D f i n = ((s.drop i.toNat).take n.toNat, 0)) := by show _ = _; rw [hr0, if_neg (by omega)]
  clear hr0
  obtain ⟨i, rfl⟩ : ∃ m : Nat, i = m := ⟨i.toNat, by omega⟩
  obtain ⟨n, rfl⟩ : ∃ m : Nat, n = m := ⟨n.toNat, by omega⟩
  have hsl : (s.length : Int) ≤ 16777216 := by have := Hnow.out; omega
  by_cases h3 : s.length ≤ i
  · have hr2 : Hid ((s.drop ((i : Int)).toNat).take ((n : Int)).toNat = []) := by
      show _ = _
      rw [List.drop_of_length_le (by omega), List.take_nil]
    have h3' : (s.length : Int) ≤ i := by omega
    clear h1 h2 h3
    go_enter Tryz.func31, Tryz.ntmps31
    go_wp2_with fail
    (with_reducible refine (hm.out).mono ?_)
    rintro _ _ ⟨rfl, rfl⟩
    go_wp2_with fail
    (with_reducible refine (hg.out).mono ?_)
    rintro _ w1 ⟨rfl, u1⟩
    go_wp2_with (with_reducible refine wpList_fieldL (o := ⟨some 27, _, _, _, _, _⟩) rfl _ tRFile 1 rfl _ _ (Hf.out _) (by with_unfolding_all rfl) ?_)
    go_ret2
    exact ⟨by rw [hr.out, hr2.out]; rfl, u1⟩
  · obtain ⟨m, hm1⟩ : ∃ m, m = min n (s.length - i) := ⟨_, rfl⟩
    have hmi : min (n : Int) ((s.length : Int) - i) = m := by omega
    have hb1 : (i : Int) + m ≤ s.length := by omega
    have h3' : ¬ (s.length : Int) ≤ i := by omega
    have hr2 : Hid ((s.drop ((i : Int)).toNat).take ((n : Int)).toNat = (s.drop i).take m) := by
      show _ = _
      rw [Int.toNat_natCast, Int.toNat_natCast]
      rw [hm1, ← List.length_drop, ← List.take_eq_take_min]
    have hsl2 : ∀ z : World, (Instr.slice 9 (.string ⟨s.toArray⟩) (some (.int .i64 i)) (some (.int .i64 ((i : Int) + m))) none).run Tryz.prog z = .ok (.string ⟨((s.drop i).take m).toArray⟩) z := fun z => by
      have := run_slice_string (P := Tryz.prog) z 9 ⟨s.toArray⟩ .i64 .i64 (i : Int) ((i : Int) + m) Tryz.underlying9 (by omega) (by omega) (by rw [bs_size, bs_list]; exact hb1)
      rw [show ((i : Int) + m).toNat = i + m by omega, Int.toNat_natCast, ← bs_eta ((⟨s.toArray⟩ : ByteArray).extract i (i + m)), bs_extract, bs_list, Nat.add_sub_cancel_left] at this
      exact this
    clear h1 h2 h3 hm1
    go_enter Tryz.func31, Tryz.ntmps31
    go_wp2_with fail
    (with_reducible refine (hm.out).mono ?_)
    rintro _ _ ⟨rfl, rfl⟩
    go_wp2_with fail
    (with_reducible refine (hg.out).mono ?_)
    rintro _ w1 ⟨rfl, u1⟩
    go_wp2_with (with_reducible refine wpList_fieldL (o := ⟨some 27, _, _, _, _, _⟩) rfl _ tRFile 1 rfl _ _ (Hf.out _) (by with_unfolding_all rfl) ?_)
    go_ret2
    exact ⟨by rw [hr.out, hr2.out] <;> rfl, u1⟩
set_option maxHeartbeats 1000000 in
set_option maxRecDepth 100000 in
theorem write_rd (h : RDAt B w r D) (g : Gl w) (hB : B ≤ w.heap.size) {f i : Int} (hf : I64 f) (hi : I64 i) (s : List UInt8) (hs : s.length ≤ 1000000000) :
    Calls Tryz.prog 66 #[.pointer (some ⟨r.rb, 0, none⟩), .int .i64 f, .int .i64 i, .string ⟨s.toArray⟩] w fun e w' => e = .returned (.int .i64 (Dk.write D f i s).2) ∧ RDTo B r (Dk.write D f i s).1 w w' := by
  have hgb := g.big
  have hcm := Lib.hid (comes_r h g hB hf hi s hs)
  have hwe : Hid (Dk.write D f i s = Dk.write0 (comesD D f i s) f i s) := write_comes D f i s
  have H := Lib.hid (And.intro h hB)
  generalize comesD D f i s = D1 at *
  clear h hB
  go_enter Tryz.func66, Tryz.ntmps66
  go_wp2_with fail
  (with_reducible refine (hcm.out).mono ?_)
  rintro _ w1 ⟨rfl, hT⟩
  obtain ⟨r1, hC⟩ := RDTo.came H.out.1 hT
  have C1 := Lib.hid hC
  have hm := may_r C1.out.at1 f
  rw [C1.out.rb] at hm
  have Hm := Lib.hid hm
  have hfits := Lib.hid (fits_r i hi s hs w1)
  clear hT hC hm hcm
  by_cases hm0 : Dk.may D1 f = 0
  rotate_left
  · have hr : Hid (Dk.write D f i s = (D1, Dk.may D1 f)) := by show _ = _; rw [hwe.out]; unfold Dk.write0; rw [if_pos hm0]
    have d0 : (Dk.may D1 f == 0) = false := beq_eq_false_iff_ne.2 hm0
    have d1 : (Dk.may D1 f != 0) = true := by simp [hm0]
    clear hm0
    go_wp2_with fail
    (with_reducible refine (Hm.out).mono ?_)
    rintro _ _ ⟨rfl, rfl⟩
    go_wp2_with fail
    go_ret
    exact ⟨by rw [hr.out] <;> rfl, by rw [hr.out]; exact C1.out.to⟩
  have hwr : Dk.write D f i s = if Dk.wErr i s.length ≠ 0 then (D1, Dk.wErr i s.length) else (Dk.add D1 f i.toNat s, 0) := by rw [hwe.out]; unfold Dk.write0; rw [if_neg (by omega)]
  have hfile := Dk.may_file hm0
  rw [hm0] at Hm
  clear hwe hm0
  by_cases hi0 : i < 0
  · have hr : Hid (Dk.write D f i s = (D1, 1)) := by
      have : Dk.wErr i s.length = 1 := by unfold Dk.wErr; rw [if_pos hi0]
      show _ = _; rw [hwr, this, if_pos (by decide)]
    clear hwr
    go_wp2_with fail
    (with_reducible refine (Hm.out).mono ?_)
    rintro _ _ ⟨rfl, rfl⟩
    go_wp2_with fail
    go_ret
    exact ⟨by rw [hr.out] <;> rfl, by rw [hr.out]; exact C1.out.to⟩
  by_cases hw : Dk.wErr i s.length = 0
  rotate_left
  · have hr : Hid (Dk.write D f i s = (D1, 6)) := by
      have : Dk.wErr i s.length = 6 := by
        unfold Dk.wErr at hw ⊢
        rw [if_neg hi0] at hw ⊢
        split at hw
        · rw [if_pos (by assumption)]
        · exact absurd rfl hw
      show _ = _; rw [hwr, this, if_pos (by decide)]
    rw [decide_eq_false hw] at hfits
    clear hwr hw
    go_wp2_with fail
    (with_reducible refine (Hm.out).mono ?_)
    rintro _ _ ⟨rfl, rfl⟩
    go_wp2_with fail
    (with_reducible refine (hfits.out).mono ?_)
    rintro _ _ ⟨rfl, rfl⟩
    go_wp2_with fail
    go_ret
    exact ⟨by rw [hr.out] <;> rfl, by rw [hr.out]; exact C1.out.to⟩
  · rw [decide_eq_true hw] at hfits
    have hwo := Dk.wErr_ok hw
    have hr : Hid (Dk.write D f i s = (Dk.add D1 f i.toNat s, 0)) := by show _ = _; rw [hwr, if_neg (by omega)]
    obtain ⟨i, rfl⟩ : ∃ m : Nat, i = m := ⟨i.toNat, by omega⟩
    rw [Int.toNat_natCast] at hwo hr
    have had := add_r C1.out.at1 (g.upd C1.out.upd) (Nat.le_trans H.out.2 C1.out.upd.size) hfile.2 s hwo.2
    rw [C1.out.rb] at had
    have Had := Lib.hid had
    clear had hwr hw hwo
    go_wp2_with fail
    (with_reducible refine (Hm.out).mono ?_)
    rintro _ _ ⟨rfl, rfl⟩
    go_wp2_with fail
    (with_reducible refine (hfits.out).mono ?_)
    rintro _ _ ⟨rfl, rfl⟩
    go_wp2_with fail
    (with_reducible refine (Had.out).mono ?_)
    rintro _ w2 ⟨rfl, hT2⟩
    have HT2 := Lib.hid (C1.out.then_ hT2)
    clear hT2 Had
    go_wp2_with fail
    go_ret
    exact ⟨by rw [hr.out] <;> rfl, by rw [hr.out]; exact HT2.out⟩
set_option maxHeartbeats 1000000 in
set_option maxRecDepth 100000 in
theorem sync_rd (h : RDAt B w r D) (g : Gl w) (hB : B ≤ w.heap.size) {f : Int} (hf : I64 f) :
    Calls Tryz.prog 60 #[.pointer (some ⟨r.rb, 0, none⟩), .int .i64 f] w fun e w' => e = .returned (.int .i64 (Dk.sync D f).2) ∧ RDTo B r (Dk.sync D f).1 w w' := by
  have hgb := g.big
  have hcm := comes_r h g hB (f := 0) (i := 0) (by unfold I64; omega) (by unfold I64; omega) [] (by simp)
  rw [comesD_come] at hcm
  have Hcm := Lib.hid hcm
  have H := Lib.hid (And.intro h hB)
  clear h hB hcm
  have hr0 : Dk.sync D f = if Dk.may (Dk.come D) f ≠ 0 then (Dk.come D, Dk.may (Dk.come D) f) else if 0 < (Dk.come D).lost then ({ Dk.come D with lost := (Dk.come D).lost - 1 }, 9) else (Dk.settle (Dk.come D) f ((Dk.come D).fs f).now, 0) := rfl
  generalize Dk.come D = D1 at *
  go_enter Tryz.func60, Tryz.ntmps60
  go_wp2_with fail
  (with_reducible refine (Hcm.out).mono ?_)
  rintro _ w1 ⟨rfl, hT⟩
  obtain ⟨r1, hC⟩ := RDTo.came H.out.1 hT
  have C1 := Lib.hid hC
  have hm := may_r C1.out.at1 f
  rw [C1.out.rb] at hm
  have Hm := Lib.hid hm
  clear hT hC hm Hcm
  by_cases hm0 : Dk.may D1 f = 0
  rotate_left
  · have hr : Hid (Dk.sync D f = (D1, Dk.may D1 f)) := by show _ = _; rw [hr0, if_pos hm0]
    have d0 : (Dk.may D1 f == 0) = false := beq_eq_false_iff_ne.2 hm0
    have d1 : (Dk.may D1 f != 0) = true := by simp [hm0]
    clear hm0 hr0
    go_wp2_with fail
    (with_reducible refine (Hm.out).mono ?_)
    rintro _ _ ⟨rfl, rfl⟩
    go_wp2_with fail
    go_ret
    exact ⟨by rw [hr.out] <;> rfl, by rw [hr.out]; exact C1.out.to⟩
  rw [hm0] at Hm
  rw [if_neg (by omega)] at hr0
  have hfile := Dk.may_file hm0
  have c2 := C1.out.at1.cells.2.2.1
  have f2 := C1.out.at1.frozen 2
  rw [C1.out.rb] at c2 f2
  have hlo := C1.out.at1.ok.lost
  clear hm0
  by_cases hl : 0 < D1.lost
  · have hr : Hid (Dk.sync D f = ({ D1 with lost := D1.lost - 1 }, 9)) := by show _ = _; rw [hr0, if_pos hl]
    obtain ⟨s1, u1⟩ := C1.out.at1.scal (D' := { D1 with lost := D1.lost - 1 }) 2 (.int .i64 (D1.lost - 1)) rfl rfl rfl rfl ⟨C1.out.at1.ok.now, C1.out.at1.ok.last, C1.out.at1.ok.q, C1.out.at1.ok.nd, ⟨by dsimp only; omega, by dsimp only; omega⟩, C1.out.at1.ok.armed⟩
    have hTT := C1.out.then_ (D2 := { D1 with lost := D1.lost - 1 }) ⟨r1, s1, rfl, u1.mono (fun k _ e => Or.inl e), fun j e => Or.inl e⟩
    rw [C1.out.rb] at hTT
    have HT := Lib.hid hTT
    have hl1 : 0 ≤ D1.lost - 1 := by omega
    have hl2 : D1.lost ≤ 9223372036854775807 := hlo.2
    clear hTT hr0 hlo s1 u1
    go_wp2_with fail
    (with_reducible refine (Hm.out).mono ?_)
    rintro _ _ ⟨rfl, rfl⟩
    go_wp2_with fail
    go_ret
    exact ⟨by rw [hr.out] <;> rfl, by rw [hr.out]; exact HT.out⟩
  have hr : Hid (Dk.sync D f = (Dk.settle D1 f (D1.fs f).now, 0)) := by show _ = _; rw [hr0, if_neg hl]
  have hg := get_r C1.out.at1 f
  have hf1 := rfield1 f (D1.fs f)
  have hst := fun (z : World) (u : Nw w1 z) => settle_r (C1.out.at1.nw u) (g.upd (C1.out.upd.nw u)) (Nat.le_trans H.out.2 (C1.out.upd.nw u).size) hfile.2 (D1.fs f).now (C1.out.at1.ok.now f)
  rw [C1.out.rb] at hg hst
  have Hst := Lib.hid hst
  have Hg := Lib.hid hg
  have Hf := Lib.hid hf1
  clear hg hst hr0 hf1 hlo
  go_wp2_with fail
  (with_reducible refine (Hm.out).mono ?_)
  rintro _ _ ⟨rfl, rfl⟩
  go_wp2_with fail
  (with_reducible refine (Hg.out).mono ?_)
  rintro _ w2 ⟨rfl, u2⟩
  go_wp2_with (with_reducible refine wpList_fieldL (o := ⟨some 31, _, _, _, _, _⟩) rfl _ tRFile 1 rfl _ _ (Hf.out _) (by with_unfolding_all rfl) ?_)
  (with_reducible refine (Hst.out _ u2).mono ?_)
  rintro _ w3 ⟨rfl, hT3⟩
  have HT3 := Lib.hid (C1.out.then_ (RDTo.after u2 hT3))
  clear hT3
  go_wp2_with fail
  go_ret
  exact ⟨by rw [hr.out] <;> rfl, by rw [hr.out]; exact HT3.out⟩
set_option maxHeartbeats 1000000 in
set_option maxRecDepth 100000 in
theorem truncate_rd (h : RDAt B w r D) (g : Gl w) (hB : B ≤ w.heap.size) {f n : Int} (hf : I64 f) (hn : I64 n) :
    Calls Tryz.prog 63 #[.pointer (some ⟨r.rb, 0, none⟩), .int .i64 f, .int .i64 n] w fun e w' => e = .returned (.int .i64 (Dk.truncate D f n).2) ∧ RDTo B r (Dk.truncate D f n).1 w w' := by
  have hgb := g.big
  have hcm := comes_r h g hB (f := 0) (i := 0) (by unfold I64; omega) (by unfold I64; omega) [] (by simp)
  rw [comesD_come] at hcm
  have Hcm := Lib.hid hcm
  have H := Lib.hid (And.intro h hB)
  clear h hB hcm
  have hr0 : Dk.truncate D f n = if Dk.may (Dk.come D) f ≠ 0 then (Dk.come D, Dk.may (Dk.come D) f) else if n < 0 ∨ ((((Dk.come D).fs f).now.length : Nat) : Int) < n then (Dk.come D, 1) else (Dk.settle (Dk.come D) f (((Dk.come D).fs f).now.take n.toNat), 0) := rfl
  generalize Dk.come D = D1 at *
  go_enter Tryz.func63, Tryz.ntmps63
  go_wp2_with fail
  (with_reducible refine (Hcm.out).mono ?_)
  rintro _ w1 ⟨rfl, hT⟩
  obtain ⟨r1, hC⟩ := RDTo.came H.out.1 hT
  have C1 := Lib.hid hC
  have hm := may_r C1.out.at1 f
  rw [C1.out.rb] at hm
  have Hm := Lib.hid hm
  clear hT hC hm Hcm
  by_cases hm0 : Dk.may D1 f = 0
  rotate_left
  · have hr : Hid (Dk.truncate D f n = (D1, Dk.may D1 f)) := by show _ = _; rw [hr0, if_pos hm0]
    have d0 : (Dk.may D1 f == 0) = false := beq_eq_false_iff_ne.2 hm0
    have d1 : (Dk.may D1 f != 0) = true := by simp [hm0]
    clear hm0 hr0
    go_wp2_with fail
    (with_reducible refine (Hm.out).mono ?_)
    rintro _ _ ⟨rfl, rfl⟩
    go_wp2_with fail
    go_ret
    exact ⟨by rw [hr.out] <;> rfl, by rw [hr.out]; exact C1.out.to⟩
  rw [hm0] at Hm
  rw [if_neg (by omega)] at hr0
  have hfile := Dk.may_file hm0
  clear hm0
  have hg := get_r C1.out.at1 f
  have hf1 := rfield1 f (D1.fs f)
  have hnow := C1.out.at1.ok.now f
  have hst := fun (z : World) (u : Nw w1 z) => settle_r (C1.out.at1.nw u) (g.upd (C1.out.upd.nw u)) (Nat.le_trans H.out.2 (C1.out.upd.nw u).size) hfile.2 ((D1.fs f).now.take n.toNat) (by rw [List.length_take]; omega)
  rw [C1.out.rb] at hg hst
  generalize (D1.fs f).now = s at *
  generalize (D1.fs f).last = s2 at *
  have Hst := Lib.hid hst
  have Hg := Lib.hid hg
  have Hf := Lib.hid hf1
  have hsl : (s.length : Int) ≤ 16777216 := by omega
  clear hg hst hf1 hnow
  by_cases hn0 : n < 0
  · have hr : Hid (Dk.truncate D f n = (D1, 1)) := by show _ = _; rw [hr0, if_pos (Or.inl hn0)]
    have HT := Lib.hid (fun (z : World) (u : Nw w1 z) => C1.out.then_ (RDTo.of_nw C1.out.at1 u))
    clear hr0
    go_wp2_with fail
    (with_reducible refine (Hm.out).mono ?_)
    rintro _ _ ⟨rfl, rfl⟩
    go_wp2_with fail
    (with_reducible refine (Hg.out).mono ?_)
    rintro _ w2 ⟨rfl, u2⟩
    go_wp2_with (with_reducible refine wpList_fieldL (o := ⟨some 20, _, _, _, _, _⟩) rfl _ tRFile 1 rfl _ _ (Hf.out _) (by with_unfolding_all rfl) ?_)
    go_ret
    exact ⟨by rw [hr.out] <;> rfl, by rw [hr.out]; exact HT.out _ u2⟩
  by_cases hn1 : (s.length : Int) < n
  · have hr : Hid (Dk.truncate D f n = (D1, 1)) := by show _ = _; rw [hr0, if_pos (Or.inr hn1)]
    have HT := Lib.hid (fun (z : World) (u : Nw w1 z) => C1.out.then_ (RDTo.of_nw C1.out.at1 u))
    clear hr0
    go_wp2_with fail
    (with_reducible refine (Hm.out).mono ?_)
    rintro _ _ ⟨rfl, rfl⟩
    go_wp2_with fail
    (with_reducible refine (Hg.out).mono ?_)
    rintro _ w2 ⟨rfl, u2⟩
    go_wp2_with (with_reducible refine wpList_fieldL (o := ⟨some 20, _, _, _, _, _⟩) rfl _ tRFile 1 rfl _ _ (Hf.out _) (by with_unfolding_all rfl) ?_)
    go_ret
    exact ⟨by rw [hr.out] <;> rfl, by rw [hr.out]; exact HT.out _ u2⟩
  have hr : Hid (Dk.truncate D f n = (Dk.settle D1 f (s.take n.toNat), 0)) := by show _ = _; rw [hr0, if_neg (by omega)]
  obtain ⟨n, rfl⟩ : ∃ m : Nat, n = m := ⟨n.toNat, by omega⟩
  have hx : (({ data := s.toArray } : ByteArray).extract 0 n) = ⟨(s.take ((n : Int)).toNat).toArray⟩ := by rw [bs_extract]; simp
  rw [← hx] at Hst
  clear hr0 hx
  go_wp2_with fail
  (with_reducible refine (Hm.out).mono ?_)
  rintro _ _ ⟨rfl, rfl⟩
  go_wp2_with fail
  (with_reducible refine (Hg.out).mono ?_)
  rintro _ w2 ⟨rfl, u2⟩
  go_wp2_with (with_reducible refine wpList_fieldL (o := ⟨some 20, _, _, _, _, _⟩) rfl _ tRFile 1 rfl _ _ (Hf.out _) (by with_unfolding_all rfl) ?_)
  (with_reducible refine (Hst.out _ u2).mono ?_)
  rintro _ w3 ⟨rfl, hT3⟩
  have HT3 := Lib.hid (C1.out.then_ (RDTo.after u2 hT3))
  clear hT3
  go_wp2_with fail
  go_ret
  exact ⟨by rw [hr.out] <;> rfl, by rw [hr.out]; exact HT3.out⟩
end
end Go.Proofs.YtiambnllidingaaGreatDoor
