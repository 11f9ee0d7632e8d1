/- The reference's Put (layer 2): a slice of bytes that a conversion made grows, is written into, and turned to a string. -/
import Derived.Test.YtiambnllidingaaGreatDoorRDk0
import Derived.ArgAppend
import Derived.Lib.ConvBytes
namespace Go.Proofs.YtiambnllidingaaGreatDoor
open Go.RowKit
set_option linter.unusedVariables false
set_option linter.unusedSimpArgs false
attribute [local irreducible] Calls

abbrev tByte : TypeId := 5
/-- The bytes x at the beginning of a block of cap cells that can be written. -/
def ByC (z : World) (b cap : Nat) (x : List UInt8) : Prop :=
  ∃ (cs : Array Value) (fz : Nat × Nat), z.heap[b]? = some (.cells cs tByte fz) ∧ cs.size = cap ∧ x.length ≤ cap ∧ (∀ i, i < cap → ¬ (fz.1 ≤ i ∧ i < fz.2)) ∧ ∀ i (h : i < x.length), cs[i]? = some (.int .u8 (x[i].toNat : Int))
section
variable {w w' : World} {b cap : Nat} {x : List UInt8}
theorem ByC.upd {S : Nat → Prop} (h : ByC w b cap x) (u : Upd S w w') (hs : ¬ S b) : ByC w' b cap x := by
  obtain ⟨cs, m, h1, h2⟩ := h
  exact ⟨cs, m, u.keep h1 hs, h2⟩
theorem ByC.le (h : ByC w b cap x) : x.length ≤ cap := by obtain ⟨cs, m, _, _, h, _⟩ := h; exact h
theorem ByC.lt (h : ByC w b cap x) : b < w.heap.size := by obtain ⟨cs, m, h1, _⟩ := h; exact lt_of_block h1
theorem ByC.cell (h : ByC w b cap x) (i : Nat) (hi : i < x.length) : w.cell? ⟨b, i, none⟩ = some (.int .u8 (x[i].toNat : Int)) := by
  obtain ⟨cs, m, h1, h2, h3, h4, h5⟩ := h
  rw [cells_cell h1, h5 i hi]
theorem ByC.there (h : ByC w b cap x) (i : Nat) (hi : i < cap) : (w.cell? ⟨b, i, none⟩).isSome = true := by
  obtain ⟨cs, m, h1, h2, h3, h4, h5⟩ := h
  rw [cells_cell h1]
  simp [h2, hi]
theorem ByC.free (h : ByC w b cap x) (i : Nat) (hi : i < cap) : w.frozen? ⟨b, i, none⟩ = false := by
  obtain ⟨cs, m, h1, h2, h3, h4, h5⟩ := h
  have := h4 i hi
  simp [World.frozen?, h1]
  omega
theorem ByC.set (h : ByC w b cap x) (hg : nG ≤ b) (i : Nat) (c : UInt8) : ByC (w.setCell ⟨b, i, none⟩ (.int .u8 (c.toNat : Int))) b cap (x.set i c) ∧ Upd (fun k => k = b) w (w.setCell ⟨b, i, none⟩ (.int .u8 (c.toNat : Int))) := by
  obtain ⟨cs, m, h1, h2, h3, h4, h5⟩ := h
  refine ⟨⟨_, m, setCell_block h1 i _, by simp [h2], by rw [List.length_set]; exact h3, h4, fun k hk => ?_⟩, Upd.set1 (Upd.refl _ _) hg i _⟩
  rw [List.length_set] at hk
  rw [Array.getElem?_setIfInBounds]
  by_cases e : i = k
  · subst e
    rw [if_pos rfl, if_pos (by omega)]
    simp
  · rw [if_neg e, h5 k hk]
    simp [List.getElem_set, e]
theorem ByC.snoc (h : ByC w b cap x) (hg : nG ≤ b) (hr : x.length < cap) (c : UInt8) : ByC (w.setCell ⟨b, x.length, none⟩ (.int .u8 (c.toNat : Int))) b cap (x ++ [c]) ∧ Upd (fun k => k = b) w (w.setCell ⟨b, x.length, none⟩ (.int .u8 (c.toNat : Int))) := by
  obtain ⟨cs, m, h1, h2, h3, h4, h5⟩ := h
  refine ⟨⟨_, m, setCell_block h1 x.length _, by simp [h2], by rw [List.length_append]; simp; omega, h4, fun k hk => ?_⟩, Upd.set1 (Upd.refl _ _) hg _ _⟩
  rw [List.length_append] at hk
  simp at hk
  rw [Array.getElem?_setIfInBounds]
  by_cases e : x.length = k
  · subst e
    rw [if_pos rfl, if_pos (by omega)]
    simp
  · rw [if_neg e, h5 k (by omega), List.getElem_append_left (by omega)]
end
theorem byC_of {s : List UInt8} (w : World) : ∃ cap z, (convert 9 138 (.string ⟨s.toArray⟩)).run Tryz.prog w = .ok (.slice (some ⟨w.heap.size, 0, none⟩) s.length cap) z ∧ ByC z w.heap.size cap s ∧ Nw w z := by
  have hsz : (⟨s.toArray⟩ : ByteArray).size = s.length := by simp [ByteArray.size]
  have hrun := Lib.run_convert_string_bytes (P := Tryz.prog) w 9 138 5 ⟨s.toArray⟩ Tryz.underlying9 Tryz.underlying138 Tryz.underlying5
  rw [hsz] at hrun
  have hc : s.length ≤ grownCap w s.length 0 tByte := grownCap_ge w s.length 0 tByte
  have hs : (Lib.bytesCells w tByte ⟨s.toArray⟩).size = grownCap w s.length 0 tByte := by
    simp [Lib.bytesCells]
    rw [hsz]
    omega
  refine ⟨_, _, hrun, ⟨_, _, Lib.bytesWorld_at_new w 5 ⟨s.toArray⟩, hs, hc, fun i hi => ?_, fun i hi => ?_⟩, ?_⟩
  · have hi' : i < grownCap w s.length 0 tByte := hi
    dsimp only
    rw [hs]; omega
  · simp [Lib.bytesCells, Array.getElem?_append, hi]
  · exact ⟨rfl, rfl, rfl, by rw [Lib.bytesWorld_size]; omega, fun k hk _ => Lib.bytesWorld_at_old w _ _ k hk⟩
theorem byC_string {w : World} {b cap : Nat} {x : List UInt8} (h : ByC w b cap x) : (convert 138 9 (.slice (some ⟨b, 0, none⟩) x.length cap)).run Tryz.prog w = .ok (.string ⟨x.toArray⟩) w :=
  run_convert_bytes_back (P := Tryz.prog) w 138 9 5 ⟨b, 0, none⟩ cap x Tryz.underlying138 Tryz.underlying5 Tryz.underlying9 (fun j hj => by
    rw [add_plain, Nat.zero_add, h.cell j hj])
/-- 'b = append(b, c)'. -/
theorem wpList_appB {w : World} {ops : Array Oper} {rest : List Oper} {o : Oper} {a : Act} {Q : Exit → Act → World → Prop} (hgd : o.guard = none) (s y : Operand)
    (ho : o.op = .call { callee := .builtin .append, args := #[s, y], argTypes := #[138, 138] })
    (b cap : Nat) (x : List UInt8) (hs : a.eval s = .slice (some ⟨b, 0, none⟩) x.length cap) (h : ByC w b cap x) (hg : nG ≤ b) (c : UInt8) (H : Nat) (hy : a.eval y = .slice (some ⟨H, 0, none⟩) 1 1) (hH : w.heap[H]? = some (.cells #[.int .u8 (c.toNat : Int)] tByte (0, 0)))
    (hx : x.length ≤ 100000000)
    (hK : ∀ b' cap' w', ByC w' b' cap' (x ++ [c]) → Upd (fun k => k = b) w w' → (b' = b ∨ w.heap.size ≤ b') → wpList Tryz.prog ops Q rest (a.put o.dst (.slice (some ⟨b', 0, none⟩) (x.length + 1) cap')) w') : wpList Tryz.prog ops Q (o :: rest) a w := by
  obtain ⟨i0, hi, hz0, hz1, hz2⟩ := info_parts infoByte
  have hnews : ∀ (j : Nat) (u : Value), ([Value.int .u8 (c.toNat : Int)] : List Value)[j]? = some u → w.cell? ((⟨H, 0, none⟩ : Addr).add j) = some u := fun j u hu => by
    rw [add_plain, cells_cell hH, Nat.zero_add]
    simpa using hu
  refine wpList_plain hgd fun K hKK => ?_
  unfold Oper.wp execOp
  by_cases hr : x.length + 1 ≤ cap
  · have hrun := run_append_room_cells (P := Tryz.prog) w 138 o.type 5 i0 Tryz.underlying138 hi b 0 x.length cap ⟨H, 0, none⟩ 1 1 [.int .u8 (c.toNat : Int)] (by rw [hz1]; rfl) hnews (by intro u hu; rw [List.mem_singleton.1 hu]; rfl) hr
      (fun j hj => by
        have : j = 0 := by simpa using hj
        subst this
        exact h.there _ (by rw [hz1]; omega)) (fun j hj => by
        have : j = 0 := by simpa using hj
        subst this
        exact h.free _ (by rw [hz1]; omega))
    rw [hz1, Nat.zero_add, Nat.mul_one] at hrun
    obtain ⟨h1, h2⟩ := h.snoc hg (by omega) c
    simp only [ho, resolve, invoke, builtin, Sem.run_bind, Sem.run_pure, Result.andThen_ok, List.map_toArray, List.map_cons, List.map_nil, hs, hy, hrun]
    exact hKK _ _ (hK b cap _ h1 h2 (Or.inl rfl))
  · obtain ⟨v', w', hrun, hown, hgr⟩ := run_append_arg_grows (P := Tryz.prog) w 138 o.type 5 i0 (.int .u8 0) 1 1 Tryz.underlying138 hi hz0 hz1 hz2 rfl (by decide) ⟨b, 0, none⟩ x.length cap (Lib.byteCells x) (by simp [Lib.byteCells])
      (fun j u hu => by
        have hj : j < x.length := by have := (List.getElem?_eq_some_iff.1 hu).1; simpa [Lib.byteCells] using this
        rw [byteCells_get x j hj] at hu
        rw [add_plain, Nat.zero_add, h.cell j hj, hu]) ⟨H, 0, none⟩ 1 1 [.int .u8 (c.toNat : Int)] rfl hnews (by omega) (by unfold maxLen; omega) (by omega)
    simp only [ho, resolve, invoke, builtin, Sem.run_bind, Sem.run_pure, Result.andThen_ok, List.map_toArray, List.map_cons, List.map_nil, hs, hy, hrun]
    obtain ⟨hl, hcase⟩ := hown
    rcases hcase with ⟨_, e⟩ | ⟨g, cap', cur, rfl, hb, hgc, hn, hm, hsz, htk⟩
    · omega
    · refine hKK _ _ (hK g cap' w' ⟨cur, (0, 0), hgc, by rw [hsz, Nat.mul_one], by rw [List.length_append]; exact hn, (fun i hi e => by omega), fun i hi => ?_⟩ ((Upd.refl _ _).grown hgr fun k hk => by cases hk) (Or.inr hb))
      have e1 : cur.toList.take (x.length + 1) = Lib.byteCells (x ++ [c]) := by
        rw [Nat.mul_one] at htk
        rw [htk, byteCells_append]; rfl
      have e2 := congrArg (fun l : List Value => l[i]?) e1
      rw [List.length_append] at hi
      simp at hi
      rw [List.getElem?_take, if_pos (by omega), byteCells_get (x ++ [c]) i (by simp; omega)] at e2
      simpa using e2
/-- While zeroes are appended. -/
def PtA (w : World) (s : List UInt8) (m : Nat) (v : Value) (n : Nat) (z : World) : Prop :=
  ∃ b cap, v = .slice (some ⟨b, 0, none⟩) n cap ∧ ByC z b cap (s ++ List.replicate (n - s.length) 0) ∧ s.length ≤ n ∧ n ≤ max s.length m ∧ Nw w z ∧ w.heap.size ≤ b
/-- While bytes are written. -/
def PtB (w : World) (x t : List UInt8) (i b cap j : Nat) (z : World) : Prop := ByC z b cap (x.take i ++ t.take j ++ x.drop (i + j)) ∧ Nw w z
theorem set_step {x t : List UInt8} {i j : Nat} (hx : i + t.length ≤ x.length) (hj : j < t.length) : (x.take i ++ t.take j ++ x.drop (i + j)).set (i + j) t[j] = x.take i ++ t.take (j + 1) ++ x.drop (i + (j + 1)) := by
  have hl : (x.take i ++ t.take j).length = i + j := by rw [List.length_append, List.length_take, List.length_take]; omega
  rw [List.set_append_right _ _ (by omega), hl, Nat.sub_self, List.drop_eq_getElem_cons (show i + j < x.length by omega), List.set_cons_zero, List.take_succ_eq_append_getElem hj, show i + (j + 1) = i + j + 1 by omega]
  simp only [List.append_assoc, List.cons_append, List.nil_append]
def lenOfSl : Value → Nat
  | .slice _ n _ => n
  | _ => 0
set_option maxHeartbeats 2000000 in
set_option maxRecDepth 100000 in
theorem Put_r (s t : List UInt8) (i : Nat) (w : World) (g : Gl w) (hs : s.length ≤ 16777216) (hi : i + t.length ≤ 16777216) :
    Calls Tryz.prog 107 #[.string ⟨s.toArray⟩, .int .i64 i, .string ⟨t.toArray⟩] w fun e w' => e = .returned (.string ⟨(Dk.put s i t).toArray⟩) ∧ Nw w w' := by
  have hgb := g.big
  by_cases ht : t = []
  · subst ht
    have hr : Hid (Dk.put s i [] = s) := by show _ = _; unfold Dk.put; rw [if_pos rfl]
    go_enter Tryz.func107, Tryz.ntmps107
    go_wp2_with fail
    go_ret
    exact ⟨by rw [hr.out]; rfl, Upd.refl _ _⟩
  have hte : t.isEmpty = false := by cases t with | nil => exact absurd rfl ht | cons _ _ => rfl
  have hte2 : (t == ([] : List UInt8)) = false := by cases t with | nil => exact absurd rfl ht | cons _ _ => rfl
  have Ht : Hid (t ≠ []) := ht
  obtain ⟨m, hm⟩ : ∃ m, m = i + t.length := ⟨_, rfl⟩
  have hmi : (i : Int) + t.length = (m : Int) := by omega
  have hm1 : m ≤ 16777216 := by omega
  have hm2 : (m : Int) ≤ 16777216 := by omega
  have hs2 : (s.length : Int) ≤ 16777216 := by omega
  obtain ⟨cap, z, hcv, hby, uz⟩ := byC_of (s := s) w
  have hI0 : Hid (PtA w s m (.slice (some ⟨w.heap.size, 0, none⟩) s.length cap) s.length z) := ⟨_, _, rfl, by rw [Nat.sub_self, List.replicate_zero, List.append_nil]; exact hby, Nat.le_refl _, by omega, uz, Nat.le_refl _⟩
  have HM := Lib.hid hm
  have HS := Lib.hid (And.intro hs hi)
  clear ht hby uz hm hs hi
  go_enter Tryz.func107, Tryz.ntmps107
  go_wp2_with fail
  go_loopw [7] (fun v wr => ∃ n : Nat, Hid (PtA w s m v n wr)) (fun v _ => max s.length m - lenOfSl v)
  case atStart => exact ⟨_, hI0.out⟩
  case round =>
    obtain ⟨n, HI⟩ := hrel
    obtain ⟨b, cap1, rfl, P1, P2, P3, P4, P5⟩ := HI.out
    have HP := Lib.hid (And.intro P1 (And.intro P2 (And.intro P3 (And.intro P4 P5))))
    obtain ⟨x, hx⟩ : ∃ x, x = s ++ List.replicate (n - s.length) 0 := ⟨_, rfl⟩
    obtain rfl : n = x.length := by rw [hx, List.length_append, List.length_replicate]; omega
    rw [← hx] at HP
    have hn1 : (x.length : Int) ≤ 16777216 := by have := HS.out.1; omega
    have HX := Lib.hid hx
    clear P1 P2 P3 P4 P5 HI hx
    by_cases hlt : x.length < m
    · have hlt1 : (x.length : Int) < m := by omega
      have hgw : nG ≤ wr.heap.size := (g.upd HP.out.2.2.2.1).big
      go_wp2_with (at_builtin; refine wpList_appB rfl _ _ rfl b cap1 x rfl (HP.out.1.upd (nw_alloc wr (.cells #[.int .u8 0] tByte)) id) (by have := HP.out.2.2.2.2; omega) 0 wr.heap.size rfl (heap_new wr _) (by omega) ?_)
      intro b2 cap2 w2 hb2 u2 ho2
      have hsz : wr.heap.size ≤ (wr.alloc (.cells #[.int .u8 0] tByte)).heap.size := (nw_alloc wr _).size
      have hz : Hid (PtA w s m (.slice (some ⟨b2, 0, none⟩) (x.length + 1) cap2) (x.length + 1) w2) := by
        refine ⟨b2, cap2, rfl, ?_, by have := HP.out.2.1; omega, by have := HP.out.2.1; omega, ((HP.out.2.2.2.1.trans (nw_alloc wr _)).trans' u2 (fun k hk e => by have := HP.out.2.2.2.2; omega)), ?_⟩
        · have := HX.out
          have hl := congrArg List.length this
          rw [List.length_append, List.length_replicate] at hl
          rw [show x.length + 1 - s.length = (x.length - s.length) + 1 by omega, List.replicate_succ', ← List.append_assoc, ← this]
          exact hb2
        · have := HP.out.2.2.2.2
          have := HP.out.2.2.2.1.size
          rcases ho2 with e | e <;> omega
      clear hb2 u2 ho2
      go_wp2_with fail
      go_roundw
      case rel => exact ⟨_, hz.out⟩
      case measure => simp [lenOfSl]; omega
    · have hge1 : ¬ (x.length : Int) < m := by omega
      rename World => w3
      have hJ0 : Hid (PtB w x t i b cap1 0 w3) := ⟨by rw [List.take_zero, List.append_nil, Nat.add_zero, List.take_append_drop]; exact HP.out.1, HP.out.2.2.2.1⟩
      have ht1 : (t.length : Int) ≤ 16777216 := by omega
      have hfill := Dk.put_fill s t i x.length Ht.out (by have := HP.out.2.2.1; have := HP.out.2.1; have := HM.out; omega)
      rw [← HX.out] at hfill
      have Hf := Lib.hid hfill
      have hxm : Hid (i + t.length ≤ x.length) := by show _ ≤ _; have := HM.out; omega
      have hbg : nG ≤ b := by have := HP.out.2.2.2.2; omega
      clear hfill
      go_wp2_with fail
      go_loopw [8] (fun iv wr => ∃ j : Nat, j ≤ t.length ∧ iv = .int .i64 j ∧ Hid (PtB w x t i b cap1 j wr)) (fun iv _ => t.length - (intOf iv).toNat)
      case atStart => exact ⟨0, Nat.zero_le _, rfl, hJ0.out⟩
      case round =>
        obtain ⟨j, hj, rfl, HJ⟩ := hrel
        by_cases hjt : j < t.length
        · have hjt1 : (j : Int) < t.length := by omega
          have hlen : (x.take i ++ t.take j ++ x.drop (i + j)).length = x.length := by
            have := hxm.out
            simp only [List.length_append, List.length_take, List.length_drop]; omega
          obtain ⟨cv, xc⟩ : ∃ cv, wr.cell? ⟨b, i + j, none⟩ = some cv := ⟨_, HJ.out.1.cell (i + j) (by have := hxm.out; omega)⟩
          have xf := HJ.out.1.free (i + j) (by have := HJ.out.1.le; have := hxm.out; omega)
          have hst := HJ.out.1.set hbg (i + j) t[j]
          rw [set_step hxm.out hjt] at hst
          have hz : Hid (PtB w x t i b cap1 (j + 1) (wr.setCell ⟨b, i + j, none⟩ (.int .u8 (t[j].toNat : Int)))) := ⟨hst.1, HJ.out.2.trans' hst.2 (fun k hk e => by have := HP.out.2.2.2.2; omega)⟩
          have hij : (i : Int) + j < x.length := by have := hxm.out; omega
          clear hst hlen
          go_wp2_with fail
          go_roundw
          case rel => exact ⟨j + 1, by omega, by go_num, hz.out⟩
          case measure => simp [intOf]; omega
        · obtain rfl : j = t.length := by omega
          have hlen : (x.take i ++ t.take t.length ++ x.drop (i + t.length)).length = x.length := by
            have := hxm.out
            simp only [List.length_append, List.length_take, List.length_drop]; omega
          have hcv2 := byC_string HJ.out.1
          rw [hlen, List.take_length, Hf.out] at hcv2
          have hfin := Lib.hid HJ.out.2
          clear hlen HJ
          go_wp2_with fail
          go_ret
          exact ⟨rfl, hfin.out⟩
end Go.Proofs.YtiambnllidingaaGreatDoor
