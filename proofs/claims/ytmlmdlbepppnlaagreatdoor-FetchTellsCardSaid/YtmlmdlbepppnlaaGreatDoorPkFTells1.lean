/- The contracts of the disk's New, put, may, ends, Size, Read, Start, Lose. slices.DeleteFunc at sectors that the disk owns; maps.DeleteFunc at the set of pending sectors; the disk's settle. maps.DeleteFunc at the set of pending sectors; the contract of the disk's settle. A region that draws its order and both reads cells and, later, writes them: a load may be taken first though one of the region's last operations writes its cell, if that operation waits for the load. The condition on the world is asked only until that operation has come up. A region that draws its order, reads cells and writes them: as in Ord, with two conditions on the world, the one asked until operation number k has come up, the other one always. The contract of the disk's write. The contract of the disk's Crash. The contracts of the disk's Arm, Write, Sync, Truncate. slices.Contains at []int; chunk.Check, chunk.Missing, chunk.Right. chunk.Missing, chunk.Right. slices.Grow of nil, slices.Concat at []int; fetch.Short. Layer 3 (journal) in plain words: sums, forms, the records of a string, what a journal's calls make of a disk; torn files. No program stands in this text. Layer 3 (journal) in plain words: a file of which bytes are missing at the end, or have become 0, has a beginning of the records. No program stands in this text. -/
import Derived.Test.YtmlmdlbepppnlaaGreatDoorPkFTells0
import Derived.Lib.BufferWrite
import Derived.Laws.MakeOwn
import Derived.OwnWalk
import Derived.Lib.SliceRun
import Derived.BigRegion
import Derived.StillTailTactics
import Derived.OrdersHeld
import Derived.StillTail
import Derived.Deep.AppendLies
import Derived.Deep.CutRange
import Derived.WideKeyEntry
import Derived.Lib.AppendZerosOnto
namespace Go.Proofs.YtmlmdlbepppnlaaGreatDoor
open Go.RowKit
set_option linter.unusedVariables false
set_option linter.unusedSimpArgs false
attribute [local irreducible] Calls

/-! ### A slice of bytes that the call makes, fills, and turns to a string -/
theorem byteCells_append (a b : List UInt8) : Lib.byteCells (a ++ b) = Lib.byteCells a ++ Lib.byteCells b := by simp [Lib.byteCells]
theorem byteCells_take (a : List UInt8) (n : Nat) : (Lib.byteCells a).take n = Lib.byteCells (a.take n) := by simp [Lib.byteCells]
theorem byteCells_drop (a : List UInt8) (n : Nat) : (Lib.byteCells a).drop n = Lib.byteCells (a.drop n) := by simp [Lib.byteCells]
theorem byteCells_get (a : List UInt8) (j : Nat) (h : j < a.length) : (Lib.byteCells a)[j]? = some (.int .u8 (a[j].toNat : Int)) := by simp [Lib.byteCells, h]
theorem madeB (n : Nat) : madeCells (Value.int .u8 0).cells n = (Lib.byteCells (List.replicate n 0)).toArray := by
  apply Array.ext'
  refine List.ext_getElem? (fun j => ?_)
  simp only [madeCells, Value.cells, Lib.byteCells, Array.toList_map, Array.toList_range, List.getElem?_map]
  by_cases hj : j < n
  · rw [List.getElem?_range hj, List.getElem?_replicate, if_pos hj]
    simp [Nat.mod_one]
  · rw [List.getElem?_eq_none (by simpa using hj), List.getElem?_eq_none (by simpa using hj)]
    rfl
section
variable {P : Program} {w : World} {ops : Array Oper} {rest : List Oper} {o : Oper} {a : Act} {Q : Exit → Act → World → Prop}
/-- 'make([]byte, n)'. -/
theorem wpList_makeB (hgd : o.guard = none) (l c : Operand) (t e : TypeId) (hop : o.op = Op.makeSlice t l c) (ht : P.underlying t = some (.slice e)) (hinfo : (P.info? e).map (fun i => (i.zero, i.size, i.bytes)) = some (some (.int .u8 0), 1, 1))
    (n : Nat) (hl : a.eval l = .int .i64 n) (hc : a.eval c = .int .i64 n) (hn : n ≤ 281474976710656)
    (h : ∀ w', w'.heap[w.heap.size]? = some (.cells (Lib.byteCells (List.replicate n 0)).toArray e (0, 0)) → Nw w w' → wpList P ops Q rest (a.put o.dst (.slice (some ⟨w.heap.size, 0, none⟩) n n)) w') : wpList P ops Q (o :: rest) a w := by
  obtain ⟨i0, hi, hz0, hz1, hz2⟩ := info_parts hinfo
  have hrun := run_make (P := P) w t e i0 (.int .u8 0) ht hi hz0 .i64 .i64 n n (by omega) (Int.le_refl _) (by rw [hz2]; omega) (by omega)
  rw [Int.toNat_natCast, hz1, Nat.mul_one, madeB] at hrun
  refine wpList_plain hgd fun K hK => ?_
  unfold Oper.wp
  simp [execOp, hop, hl, hc, hrun, Result.andThen]
  exact hK _ _ (h _ (heap_new w _) (nw_alloc w _))
/-- 'copy(b, s)', s a string that fits. -/
theorem wpList_copyB (hgd : o.guard = none) (d s : Operand) (dT sT : TypeId) (ho : o.op = .call { callee := .builtin .copy, args := #[d, s], argTypes := #[dT, sT] }) (elem : TypeId) (hu : P.underlying dT = some (.slice elem)) (hsz : (P.info? elem).map (·.size) = some 1)
    (g off dLen dCap : Nat) (hd : a.eval d = .slice (some ⟨g, off, none⟩) dLen dCap) (t : ByteArray) (hs : a.eval s = .string t) (cur : List UInt8) (T : TypeId) (hg : w.heap[g]? = some (.cells (Lib.byteCells cur).toArray T (0, 0))) (hle : t.size ≤ dLen) (hfit : off + t.size ≤ cur.length) (hG : nG ≤ g)
    (h : ∀ w', w'.heap[g]? = some (.cells (Lib.byteCells (cur.take off ++ t.data.toList ++ cur.drop (off + t.size))).toArray T (0, 0)) → Upd (fun x => x = g) w w' → wpList P ops Q rest (a.put o.dst (goInt t.size)) w') : wpList P ops Q (o :: rest) a w := by
  have hrun := Lib.run_copy_row_string (P := P) w dT sT o.type elem g off dLen dCap t (Lib.byteCells cur).toArray T hu hsz hg hle (by simpa [Lib.byteCells] using hfit)
  refine wpList_plain hgd fun K hK => ?_
  unfold Oper.wp
  simp [execOp, ho, resolve, invoke, builtin, hd, hs, hrun, Result.andThen]
  refine hK _ _ (h _ ?_ ?_)
  · have e : List.take off (Lib.byteCells cur) ++ (Lib.byteCells t.data.toList ++ List.drop (off + t.size) (Lib.byteCells cur)) = Lib.byteCells (cur.take off ++ t.data.toList ++ cur.drop (off + t.size)) := by
      rw [byteCells_take, byteCells_drop, ← byteCells_append, ← byteCells_append, List.append_assoc]
    rw [e]
    exact setRow_heap w g _ _ T _ hg
  · refine ⟨rfl, rfl, rfl, by simp [World.setRow], fun k hk hn => setRow_other w g k _ ?_⟩
    rintro rfl
    rcases hn with hn | hn
    · omega
    · exact hn rfl
end
namespace Dk
theorem put_fill (s t : List UInt8) (i n : Nat) (ht : t ≠ []) (hn : n = max s.length (i + t.length)) :
    ((s ++ List.replicate (n - s.length) 0).take i ++ t ++ (s ++ List.replicate (n - s.length) 0).drop (i + t.length)) = put s i t := by
  unfold put
  rw [if_neg ht, List.take_append, List.drop_append, List.take_replicate, List.drop_replicate]
  rw [show min (i - s.length) (n - s.length) = i - s.length by omega, show n - s.length - (i + t.length - s.length) = 0 by omega]
  simp
end Dk
theorem infoByte : (Tryz.prog.info? 5).map (fun i => (i.zero, i.size, i.bytes)) = some (some (.int .u8 0), 1, 1) := by kernel_rfl
set_option maxHeartbeats 1000000 in
theorem put_c (s t : List UInt8) (i : Nat) (w : World) (g : Gl w) (hs : s.length ≤ 16777216) (hi : i + t.length ≤ 16777216) :
    Calls Tryz.prog 57 #[.string ⟨s.toArray⟩, .int .i64 i, .string ⟨t.toArray⟩] w fun e w' => e = .returned (.string ⟨(Dk.put s i t).toArray⟩) ∧ Nw w w' := by
  have hgb := g.big
  by_cases ht : t = []
  · subst ht
    have hr : Hid (Dk.put s i [] = s) := by show _ = _; unfold Dk.put; rw [if_pos rfl]
    go_enter Tryz.func57, Tryz.ntmps57
    go_wp2_with fail
    go_ret
    exact ⟨by rw [hr.out]; rfl, Upd.refl _ _⟩
  · have htl : 0 < t.length := List.length_pos_iff.2 ht
    have hT : Hid (t ≠ []) := ht
    have hte : t.isEmpty = false := by cases t with | nil => exact absurd rfl ht | cons _ _ => rfl
    have hte2 : (t == ([] : List UInt8)) = false := by cases t with | nil => exact absurd rfl ht | cons _ _ => rfl
    obtain ⟨n, hn⟩ : ∃ n, n = max s.length (i + t.length) := ⟨_, rfl⟩
    have hfn := Dk.put_fill s t i n ht hn
    have hmx : max (s.length : Int) ((i : Int) + t.length) = (n : Int) := by rw [hn]; omega
    have hn1 : s.length ≤ n := by omega
    have hn2 : i + t.length ≤ n := by omega
    have hn3 : n ≤ 16777216 := by omega
    have Hfn := Lib.hid hfn
    have Hn := Lib.hid hn
    have Hn1 := Lib.hid hn1
    have Hn2 := Lib.hid hn2
    have Hn3 := Lib.hid hn3
    have Htl := Lib.hid htl
    have b1 : (s.length : Int) ≤ 16777216 := by omega
    have b2 : (i : Int) + t.length ≤ 16777216 := by omega
    have Hmx := Lib.hid hmx
    clear hfn hn hn1 hn2 hn3 hs hi htl hmx ht
    go_enter Tryz.func57, Tryz.ntmps57
    have hsz1 : ((⟨s.toArray⟩ : ByteArray).size) = s.length := by simp [ByteArray.size]
    have Hsz1 := Lib.hid hsz1
    have hsz2 : ((⟨t.toArray⟩ : ByteArray).size) = t.length := by simp [ByteArray.size]
    have Hsz2 := Lib.hid hsz2
    have hlr : (Lib.byteCells (List.replicate n 0)).length = n := by simp [Lib.byteCells]
    clear hsz1 hsz2 hlr
    go_wp2_with (at_make; refine wpList_makeB rfl _ _ 126 5 rfl Tryz.underlying126 infoByte n (congrArg (Value.int .i64) Hmx.out) (congrArg (Value.int .i64) Hmx.out) (by have := Hn3.out; omega) ?_)
    intro w1 hb1 u1
    have Hb1 := Lib.hid hb1
    clear hb1
    go_wp2_with (refine wpList_copyB rfl _ _ 126 9 rfl 5 Tryz.underlying126 (by kernel_rfl) w.heap.size 0 n n rfl ⟨s.toArray⟩ rfl (List.replicate n 0) 5 Hb1.out (by rw [Hsz1.out]; exact Hn1.out) (by rw [Hsz1.out, List.length_replicate]; have := Hn1.out; omega) hgb ?_)
    intro w2 hb2 u2
    have Hb2 := Lib.hid hb2
    clear hb2
    have hlt : i < n := by have := Hn2.out; have := Htl.out; omega
    have hle : (i : Int) ≤ n := by omega
    have HU2 : Hid (Nw w w2) := u1.trans' u2 (fun k hk e => by omega)
    have hb2' : w2.heap[w.heap.size]? = some (.cells (Lib.byteCells (s ++ List.replicate (n - s.length) 0)).toArray 5 (0, 0)) := by simpa using Hb2.out
    have Hb3 := Lib.hid hb2'
    clear u2 Hb2 Hb1 u1 hb2'
    go_wp2_with (refine wpList_copyB rfl _ _ 126 9 rfl 5 Tryz.underlying126 (by kernel_rfl) w.heap.size i _ _ rfl ⟨t.toArray⟩ rfl (s ++ List.replicate (n - s.length) 0) 5 Hb3.out (by rw [Hsz2.out]; have := Hn2.out; omega) (by rw [Hsz2.out, List.length_append, List.length_replicate]; have := Hn2.out; have := Hn1.out; omega) hgb ?_)
    intro w3 hb3 u3
    have HU3 : Hid (Nw w w3) := HU2.out.trans' u3 (fun k hk e => by omega)
    have hb3' : w3.heap[w.heap.size]? = some (.cells (Lib.byteCells (Dk.put s i t)).toArray 5 (0, 0)) := by
      rw [← Hfn.out, hb3, List.append_assoc]
    have hpl : (Dk.put s i t).length = n := by rw [Dk.put_len s i t hT.out, Hn.out]
    have hcv := run_convert_bytes_back (P := Tryz.prog) w3 126 9 5 ⟨w.heap.size, 0, none⟩ n (Dk.put s i t) Tryz.underlying126 Tryz.underlying5 Tryz.underlying9 (fun j hj => by
      rw [add_plain, cells_cell hb3', Nat.zero_add]
      simpa using byteCells_get (Dk.put s i t) j hj)
    rw [hpl] at hcv
    clear u3 Hb3 hb3 hb3' hpl Hfn
    go_wp2_with fail
    go_ret
    exact ⟨rfl, HU3.out⟩
theorem dnew_c (w : World) (g : Gl w) : Calls Tryz.prog 9 #[] w fun e w' => ∃ r, e = .returned (.pointer (some ⟨r.db, 0, none⟩)) ∧ DiskAt w.heap.size w' r Dk.new ∧ Nw w w' := by
  have hmm := @run_makeMap Tryz.prog
  have hgb := g.big
  have f1 := FilesL.made w
  have n1 := nw_alloc w (.map #[] 0)
  have s2 := SetL.made (w.alloc (.map #[] 0))
  have n2 := nw_alloc (w.alloc (.map #[] 0)) (.map #[] 0)
  have n3 := nw_alloc ((w.alloc (.map #[] 0)).alloc (.map #[] 0)) (.cells #[.map (some w.heap.size), .slice none 0 0, .map (some (w.heap.size + 1)), .int .i64 0, .bool false, .int .i64 0, .slice none 0 0] tDisk)
  have k3 := heap_new ((w.alloc (.map #[] 0)).alloc (.map #[] 0)) (.cells #[.map (some w.heap.size), .slice none 0 0, .map (some (w.heap.size + 1)), .int .i64 0, .bool false, .int .i64 0, .slice none 0 0] tDisk)
  have F := Lib.hid ((f1.upd n2 id).upd n3 id)
  have S := Lib.hid (s2.upd n3 id)
  have U := Lib.hid ((n1.trans n2).trans n3)
  have K := Lib.hid k3
  clear f1 s2 n1 n2 n3 k3
  go_enter Tryz.func9, Tryz.ntmps9
  go_wp2_with fail
  go_ret
  refine ⟨⟨w.heap.size + 1 + 1, w.heap.size, w.heap.size + 1, .slice none 0 0, .slice none 0 0⟩, by simp, ⟨g.big, (by show w.heap.size ≤ w.heap.size + 1 + 1; omega), (by show w.heap.size ≤ w.heap.size; omega), (by show w.heap.size ≤ w.heap.size + 1; omega), (by show w.heap.size ≠ w.heap.size + 1; omega), ?_, F.out, ?_, World.ownsRow_nil _ _ _ _, World.ownsRow_nil _ _ _ _, Dk.new_ok, fun x hx => by cases hx⟩, U.out⟩
  · have := K.out
    rw [show ((w.alloc (.map #[] 0)).alloc (.map #[] 0)).heap.size = w.heap.size + 1 + 1 by simp] at this
    exact this
  · have := S.out
    rw [show (w.alloc (.map #[] 0)).heap.size = w.heap.size + 1 by simp] at this
    exact this
section
variable {B : Nat} {w : World} {r : DiskR} {D : Dk.Disk}
theorem may_c (h : DiskAt B w r D) (f : Int) :
    Calls Tryz.prog 90 #[.pointer (some ⟨r.db, 0, none⟩), .int .i64 f] w fun e w' => e = .returned (.int .i64 (Dk.may D f)) ∧ w = w' := by
  obtain ⟨_, _, _, _, c4, _, _⟩ := h.cells
  cases hd : D.down with
  | true =>
    rw [hd] at c4
    have hr : Hid (Dk.may D f = 8) := by show _ = _; unfold Dk.may; rw [hd, if_pos rfl]
    clear h hd
    go_enter Tryz.func90, Tryz.ntmps90
    go_wp2_with fail
    go_ret
    exact ⟨by rw [hr.out]; rfl, rfl⟩
  | false =>
    rw [hd] at c4
    have hr0 : Dk.may D f = if f < 0 ∨ 16 ≤ f then 1 else 0 := by unfold Dk.may; rw [hd, if_neg (by decide)]
    by_cases h1 : f < 0
    · have hr : Hid (Dk.may D f = 1) := by show _ = _; rw [hr0, if_pos (Or.inl h1)]
      clear h hd hr0
      go_enter Tryz.func90, Tryz.ntmps90
      go_wp2_with fail
      go_ret
      exact ⟨by rw [hr.out]; rfl, rfl⟩
    by_cases h2 : 16 ≤ f
    · have hr : Hid (Dk.may D f = 1) := by show _ = _; rw [hr0, if_pos (Or.inr h2)]
      clear h hd hr0
      go_enter Tryz.func90, Tryz.ntmps90
      go_wp2_with fail
      go_ret
      exact ⟨by rw [hr.out]; rfl, rfl⟩
    · have hr : Hid (Dk.may D f = 0) := by show _ = _; rw [hr0, if_neg (by omega)]
      clear h hd hr0
      go_enter Tryz.func90, Tryz.ntmps90
      go_wp2_with fail
      go_ret
      exact ⟨by rw [hr.out]; rfl, rfl⟩
/-- A cell of the disk's block is stored into. -/
theorem DiskAt.store {D' : Dk.Disk} (h : DiskAt B w r D) (i : Nat) (v : Value) (hc : (diskC r D).setIfInBounds i v = diskC r D') (e1 : D'.fs = D.fs) (e2 : D'.q = D.q) (e3 : D'.keep = D.keep) (hk : Dk.Ok D') :
    DiskAt B (w.setCell ⟨r.db, i, none⟩ v) r D' ∧ Upd (fun k => k = r.db) w (w.setCell ⟨r.db, i, none⟩ v) := by
  obtain ⟨a1, a2, a3, a4, a5, a6, a7, a8, a9⟩ := h.apart
  have hb := h.hb
  have hdb := h.db
  have u : Upd (fun k => k = r.db) w (w.setCell ⟨r.db, i, none⟩ v) := Upd.set1 (Upd.refl _ _) (by omega) i v
  refine ⟨⟨h.hb, h.db, h.fm, h.sm, h.ne, by rw [← hc]; exact setCell_block h.blk i v, ?_, ?_, ?_, ?_, hk, by rw [e3]; exact h.kI⟩, u⟩
  · rw [e1]; exact h.files.upd u (fun e => a1 e.symm)
  · rw [e2]; exact h.set.upd u (fun e => a2 e.symm)
  · rw [e2]; exact owns_updD h.queue u (fun k hk2 e => by subst e; exact a3 hk2)
  · rw [e3]; exact owns_updD h.keep u (fun k hk2 e => by subst e; exact a6 hk2)
theorem DiskTo.set {D' : Dk.Disk} (h : DiskAt B w r D) (i : Nat) (v : Value) (hc : (diskC r D).setIfInBounds i v = diskC r D') (e1 : D'.fs = D.fs) (e2 : D'.q = D.q) (e3 : D'.keep = D.keep) (hk : Dk.Ok D') :
    DiskTo B r D' w (w.setCell ⟨r.db, i, none⟩ v) := by
  obtain ⟨h1, u⟩ := h.store i v hc e1 e2 e3 hk
  exact ⟨r, h1, rfl, u.mono (fun k _ e => Or.inl e), fun j hj => Or.inl hj⟩
theorem ends_c (h : DiskAt B w r D) :
    Calls Tryz.prog 89 #[.pointer (some ⟨r.db, 0, none⟩)] w fun e w' => e = .returned (.bool (Dk.ends D)) ∧ DiskTo B r (Dk.counted D) w w' := by
  obtain ⟨_, _, _, _, c4, c5, _⟩ := h.cells
  have f5 := h.frozen 5
  have hok := Dk.counted_ok h.ok
  have har := h.ok.armed
  have hset := fun (hd : ¬ (D.down = true ∨ D.armed = 0)) => DiskTo.set (D' := Dk.counted D) h 5 (.int .i64 (D.armed - 1)) (by unfold Dk.counted; rw [if_neg hd]; rfl) (by unfold Dk.counted; rw [if_neg hd]) (by unfold Dk.counted; rw [if_neg hd]) (by unfold Dk.counted; rw [if_neg hd]) hok
  have Hset := Lib.hid hset
  have H := Lib.hid h
  have har1 : 0 ≤ D.armed := har.1
  have har2 : D.armed ≤ 9223372036854775807 := har.2
  clear hset h hok har
  cases hd : D.down with
  | true =>
    rw [hd] at c4
    have hr : Hid (Dk.ends D = false) := by show _ = _; unfold Dk.ends; rw [hd]; rfl
    have hc : Hid (Dk.counted D = D) := by show _ = _; unfold Dk.counted; rw [if_pos (Or.inl hd)]
    clear hd Hset
    go_enter Tryz.func89, Tryz.ntmps89
    go_wp2_with fail
    go_ret
    exact ⟨by rw [hr.out]; rfl, by rw [hc.out]; exact DiskTo.refl H.out⟩
  | false =>
    rw [hd] at c4
    by_cases h0 : D.armed = 0
    · have hr : Hid (Dk.ends D = false) := by show _ = _; unfold Dk.ends; rw [hd, h0]; rfl
      have hc : Hid (Dk.counted D = D) := by show _ = _; unfold Dk.counted; rw [if_pos (Or.inr h0)]
      have d0 : (D.armed == 0) = true := beq_iff_eq.2 h0
      clear hd Hset h0
      go_enter Tryz.func89, Tryz.ntmps89
      go_wp2_with fail
      go_ret
      exact ⟨by rw [hr.out]; rfl, by rw [hc.out]; exact DiskTo.refl H.out⟩
    · have d0 : (D.armed == 0) = false := beq_eq_false_iff_ne.2 h0
      have hs := Hset.out (by rw [hd]; simp [h0])
      have Hs := Lib.hid hs
      have ha : 0 ≤ D.armed - 1 := by omega
      have he : Dk.ends D = (D.armed - 1 == 0) := by
        unfold Dk.ends
        rw [hd]
        by_cases h1 : D.armed = 1
        · rw [h1]; rfl
        · rw [decide_eq_false h1, beq_eq_false_iff_ne.2 (show D.armed - 1 ≠ 0 by omega)]; rfl
      have He := Lib.hid he
      clear hd Hset hs he h0
      go_enter Tryz.func89, Tryz.ntmps89
      go_wp2_with fail
      go_ret
      exact ⟨by rw [He.out]; rfl, Hs.out⟩
theorem field_now (x : Dk.Fil) (w : World) : (Instr.field tFile (.agg #[.string ⟨x.now.toArray⟩, .string ⟨x.last.toArray⟩]) 0).run Tryz.prog w = .ok (.string ⟨x.now.toArray⟩) w := by
  simp [Instr.field, run_underlying Tryz.underlying97, part, asAgg]
  done
/-- A field of a struct that a look-up gave. -/
theorem wpList_fieldL {P : Program} {w : World} {ops : Array Oper} {rest : List Oper} {o : Oper} {a : Act} {Q : Exit → Act → World → Prop} (hg : o.guard = none) (x : Operand) (t : TypeId) (i : Nat) (hop : o.op = Op.field t x i)
    (vx v : Value) (hrun : (Instr.field t vx i).run P w = .ok v w) (hx : a.eval x = vx) (h : wpList P ops Q rest (a.put o.dst v) w) : wpList P ops Q (o :: rest) a w := by
  refine wpList_plain hg fun K hK => ?_
  unfold Oper.wp
  simp [execOp, hop, hx, hrun, Result.andThen]
  exact hK _ _ h
theorem size_c (h : DiskAt B w r D) {f : Int} (hf : I64 f) :
    Calls Tryz.prog 68 #[.pointer (some ⟨r.db, 0, none⟩), .int .i64 f] w fun e w' => e = .returned (.int .i64 (Dk.size D f)) ∧ w = w' := by
  obtain ⟨c0, _, _, _, _, _, _⟩ := h.cells
  have hl := h.files.look hf
  unfold filV at hl
  have hr : Hid (Dk.size D f = (D.fs f).now.length) := rfl
  have Hl := Lib.hid hl
  have Hf := Lib.hid (field_now (D.fs f) w)
  clear h hl
  go_enter Tryz.func68, Tryz.ntmps68
  go_wp2_with (first | (at_lookup; refine wpList_lookL rfl _ _ tFiles false rfl _ _ _ rfl rfl Hl.out ?_) | (with_reducible refine wpList_fieldL (o := ⟨some 11, _, _, _, _, _⟩) rfl _ tFile 0 rfl _ _ Hf.out (by with_unfolding_all rfl) ?_))
  go_ret
  exact ⟨by rw [hr.out]; rfl, rfl⟩
theorem start_c (h : DiskAt B w r D) : Calls Tryz.prog 31 #[.pointer (some ⟨r.db, 0, none⟩)] w fun e w' => e = .returned (.tuple #[]) ∧ DiskTo B r (Dk.start D) w w' := by
  obtain ⟨_, _, _, _, c4, _, _⟩ := h.cells
  have f4 := h.frozen 4
  have hs := Lib.hid (DiskTo.set (D' := Dk.start D) h 4 (.bool false) rfl rfl rfl rfl (Dk.start_ok h.ok))
  clear h
  go_enter Tryz.func31, Tryz.ntmps31
  go_wp2_with fail
  go_end0
  exact ⟨rfl, hs.out⟩
theorem lose_c (h : DiskAt B w r D) {n : Int} (hn : I64 n) : Calls Tryz.prog 25 #[.pointer (some ⟨r.db, 0, none⟩), .int .i64 n] w fun e w' => e = .returned (.tuple #[]) ∧ DiskTo B r (Dk.lose D n) w w' := by
  obtain ⟨_, _, _, c3, _, _, _⟩ := h.cells
  have f3 := h.frozen 3
  have hs := Lib.hid (DiskTo.set (D' := Dk.lose D n) h 3 (.int .i64 (max n 0)) rfl rfl rfl rfl (Dk.lose_ok h.ok hn.2))
  clear h
  go_enter Tryz.func25, Tryz.ntmps25
  go_wp2_with fail
  go_end0
  exact ⟨rfl, hs.out⟩
theorem read_ret (s : List UInt8) (i n : Nat) : Ending.returned (.tuple #[.string (((⟨s.toArray⟩ : ByteArray).extract (min (i : Int) s.length).toNat s.length).extract 0 (min (n : Int) ↑(s.length - (min (i : Int) s.length).toNat)).toNat), .int .i64 0]) =
    Ending.returned (.tuple #[.string ⟨((s.drop (i : Int).toNat).take (n : Int).toNat).toArray⟩, .int .i64 0]) := by
  rw [bs_extract, bs_extract]
  have e : List.take ((min (n : Int) ↑(s.length - (min (i : Int) s.length).toNat)).toNat - 0) (List.drop 0 (List.take (s.length - (min (i : Int) s.length).toNat) (List.drop (min (i : Int) s.length).toNat s))) = (s.drop (i : Int).toNat).take (n : Int).toNat := by
    refine List.ext_getElem? (fun k => ?_)
    simp only [List.drop_zero, List.getElem?_take, List.getElem?_drop, Int.toNat_natCast]
    by_cases hi : i ≤ s.length
    · have ha : (min (i : Int) s.length).toNat = i := by omega
      rw [ha]
      by_cases hk : k < n
      · rw [if_pos hk]
        by_cases h2 : i + k < s.length
        · rw [if_pos (by omega), if_pos (by omega)]
        · rw [List.getElem?_eq_none (by omega)]; split <;> (try split) <;> rfl
      · rw [if_neg hk, if_neg (by omega)]
    · have h0 : s[i + k]? = none := List.getElem?_eq_none (by omega)
      rw [h0, if_neg (by omega)]; split <;> rfl
  rw [e]
set_option maxHeartbeats 400000 in
set_option maxRecDepth 100000 in
theorem read_c (h : DiskAt B w r D) {f i n : Int} (hf : I64 f) (hi : I64 i) (hn : I64 n) :
    Calls Tryz.prog 67 #[.pointer (some ⟨r.db, 0, none⟩), .int .i64 f, .int .i64 i, .int .i64 n] w fun e w' => e = .returned (.tuple #[.string ⟨(Dk.read D f i n).1.toArray⟩, .int .i64 (Dk.read D f i n).2]) ∧ w = w' := by
  obtain ⟨c0, _, _, _, _, _, _⟩ := h.cells
  have hl := h.files.look hf
  have hm := Lib.hid (may_c h f)
  have hnow := h.ok.now f
  unfold filV at hl
  have hfn := field_now (D.fs f) w
  generalize hA : (D.fs f).now = s at *
  generalize (D.fs f).last = s2 at *
  have Hl := Lib.hid hl
  have Hf := Lib.hid hfn
  clear hl hfn
  have Hnow := Lib.hid hnow
  clear h hnow
  by_cases hm0 : Dk.may D f = 0
  rotate_left
  · have hr : Hid (Dk.read D f i n = ([], Dk.may D f)) := by show _ = _; unfold Dk.read; rw [if_pos hm0]
    have d0 : (Dk.may D f == 0) = false := beq_eq_false_iff_ne.2 hm0
    have d1 : (Dk.may D f != 0) = true := by simp [hm0]
    clear hm0 hA
    go_enter Tryz.func67, Tryz.ntmps67
    go_wp2_with fail
    (with_reducible refine (hm.out).mono ?_)
    rintro _ _ ⟨rfl, rfl⟩
    go_wp2_with fail
    go_ret2
    exact ⟨by rw [hr.out]; rfl, rfl⟩
  have hr0 : Dk.read D f i n = if i < 0 ∨ n < 0 then ([], 1) else ((s.drop i.toNat).take n.toNat, 0) := by unfold Dk.read; rw [if_neg (by omega), hA]
  rw [hm0] at hm
  clear hA hm0
  by_cases h1 : i < 0
  · have hr : Hid (Dk.read D f i n = ([], 1)) := by show _ = _; rw [hr0, if_pos (Or.inl h1)]
    clear hr0
    go_enter Tryz.func67, Tryz.ntmps67
    go_wp2_with fail
    (with_reducible refine (hm.out).mono ?_)
    rintro _ _ ⟨rfl, rfl⟩
    go_wp2_with fail
    go_ret2
    exact ⟨by rw [hr.out]; rfl, rfl⟩
  by_cases h2 : n < 0
  · have hr : Hid (Dk.read D f i n = ([], 1)) := by show _ = _; rw [hr0, if_pos (Or.inr h2)]
    clear hr0
    go_enter Tryz.func67, Tryz.ntmps67
    go_wp2_with fail
    (with_reducible refine (hm.out).mono ?_)
    rintro _ _ ⟨rfl, rfl⟩
    go_wp2_with fail
    go_ret2
    exact ⟨by rw [hr.out]; rfl, rfl⟩
  have hr : Hid (Dk.read D f i n = ((s.drop i.toNat).take n.toNat, 0)) := by show _ = _; rw [hr0, if_neg (by omega)]
  clear hr0
  obtain ⟨i, rfl⟩ : ∃ m : Nat, i = m := ⟨i.toNat, by omega⟩
  obtain ⟨n, rfl⟩ : ∃ m : Nat, n = m := ⟨n.toNat, by omega⟩
  go_enter Tryz.func67, Tryz.ntmps67
  go_wp2_with fail
  (with_reducible refine (hm.out).mono ?_)
  rintro _ _ ⟨rfl, rfl⟩
  go_wp2_with (first | (at_lookup; refine wpList_lookL rfl _ _ tFiles false rfl _ _ _ rfl rfl Hl.out ?_) | (with_reducible refine wpList_fieldL (o := ⟨some 30, _, _, _, _, _⟩) rfl _ tFile 0 rfl _ _ Hf.out (by with_unfolding_all rfl) ?_))
  go_ret2
  exact ⟨by rw [hr.out]; exact read_ret s i n, rfl⟩
end
end Go.Proofs.YtmlmdlbepppnlaaGreatDoor
namespace Go.Proofs.YtmlmdlbepppnlaaGreatDoor
open Go.RowKit
set_option linter.unusedVariables false
set_option linter.unusedSimpArgs false
attribute [local irreducible] Calls

theorem secD_cells {lo hi : Nat} {w : World} {v : Value} {X : List (Int × Int)} (h : SlS 2 lo hi w v (X.map secL)) :
    ∃ a cap, v = .slice a X.length cap ∧ X.length ≤ maxLen ∧ (X = [] ∨ ∃ b off, a = some ⟨b, off, none⟩ ∧ b < hi ∧ b < w.heap.size ∧ ∀ i (h : i < X.length), w.cell? ⟨b, off + i * 2, none⟩ = some (.int .i64 X[i].1) ∧ w.cell? ⟨b, off + i * 2 + 1, none⟩ = some (.int .i64 X[i].2)) := by
  obtain ⟨a, cap, rfl, hm, h⟩ := h.open_
  rw [List.length_map] at hm
  refine ⟨a, cap, by rw [List.length_map], hm, ?_⟩
  rcases h with h | ⟨b, off, rfl, _, hb1, hb, hc⟩
  · exact Or.inl (List.map_eq_nil_iff.1 h)
  · refine Or.inr ⟨b, off, rfl, hb1, hb, fun i hi => ?_⟩
    have h2 := (hc i (by simpa using hi)).2
    simp only [List.getElem_map] at h2
    exact ⟨by rw [← Nat.add_zero (off + i * 2), h2 0 (by simp [secL])]; rfl, by rw [h2 1 (by simp [secL])]; rfl⟩
theorem sec_sls {B : Nat} {w : World} {v : Value} {L : List (Int × Int)} (h : w.ownsRow B tSec 2 v L.length (flatQ L)) : SlS 2 B w.heap.size w v (L.map secL) :=
  SlS.of_owns h (by simp) (by omega) (fun y hy => by
    obtain ⟨z, _, rfl⟩ := List.mem_map.1 hy
    rfl)
theorem own_slD {B sz : Nat} {e : TypeId} {w : World} {v : Value} {n : Nat} {xs : List Value} (h : w.ownsRow B e sz v n xs) : ∃ a cap, v = .slice a n cap := by
  rcases h.2 with ⟨h1, h2⟩ | ⟨g, cap, cur, h1, _⟩
  · exact ⟨none, 0, by rw [h1, h2]⟩
  · exact ⟨_, _, h1⟩
theorem cell2D {w : World} {b : Nat} {a0 a1 : Value} {T : TypeId} (h : w.heap[b]? = some (.cells #[a0, a1] T (0, 0))) :
    w.cell? ⟨b, 0, none⟩ = some a0 ∧ w.cell? ⟨b, 1, none⟩ = some a1 := by
  refine ⟨?_, ?_⟩ <;> (rw [cells_cell h]; rfl)
/-- The place of the first one that meets p; -1: none does. -/
def idxA {α : Type} (p : α → Bool) (X : List α) : Int := match X.findIdx? p with
  | some i => i
  | none => -1
theorem idxA_hit {α : Type} {p : α → Bool} {X : List α} {n : Nat} (hn : n < X.length) (hp : p X[n] = true) (hno : ∀ j (h : j < X.length), j < n → p X[j] = false) : idxA p X = n := by
  unfold idxA
  rw [List.findIdx?_eq_some_iff_getElem.2 ⟨hn, hp, fun j hj => by rw [hno j (by omega) hj]; simp⟩]
theorem idxA_miss {α : Type} {p : α → Bool} {X : List α} (hno : ∀ j (h : j < X.length), p X[j] = false) : idxA p X = -1 := by
  unfold idxA
  rw [List.findIdx?_eq_none_iff.2 (fun x hx => by
    obtain ⟨j, hj, rfl⟩ := List.mem_iff_getElem.1 hx
    exact hno j hj)]
set_option maxHeartbeats 1000000 in
set_option maxRecDepth 100000 in
theorem indexD (gf : Nat) (c1 : Nat) (eg : ∀ args w, (callFunc gf args).run Tryz.prog w = .ok (.enter gf args) w) (p : Int × Int → Bool) (lo hi : Nat) (v : Value) (X : List (Int × Int)) (w : World) (hv : SlS 2 lo hi w v (X.map secL)) (hX : X.length ≤ 5000000)
    (hp : ∀ W x, Nw w W → x ∈ X → Calls Tryz.prog gf #[.agg #[.int .i64 x.1, .int .i64 x.2], .pointer (some ⟨c1, 0, none⟩)] W fun e w' => e = .returned (.bool (p x)) ∧ Nw W w') :
    Calls Tryz.prog 128 #[v, .func (.func gf) #[] #[.pointer (some ⟨c1, 0, none⟩)]] w fun e w' => e = .returned (.int .i64 (idxA p X)) ∧ Nw w w' := by
  obtain ⟨a, cap, rfl, hm, ha⟩ := secD_cells hv
  have Ha := Lib.hid ha; clear ha
  have Hp := Lib.hid hp; clear hp hv
  unfold maxLen at hm
  go_enter Tryz.func128, Tryz.ntmps128
  go_wp2_with fail
  go_loopw [8] (fun i wr => ∃ n : Nat, n ≤ X.length ∧ i = .int .i64 n ∧ Hid (∀ j (h : j < X.length), j < n → p X[j] = false) ∧ Nw w wr) (fun i _ => X.length - (intOf i).toNat)
  case atStart => exact ⟨0, Nat.zero_le _, rfl, fun j _ h => absurd h (Nat.not_lt_zero _), Upd.refl _ _⟩
  case round =>
    obtain ⟨n, hn, rfl, hall, u⟩ := hrel
    by_cases hlt : n < X.length
    · rcases Ha.out with hnil | ⟨b, o, rfl, _, hb, hc⟩
      · simp [hnil] at hlt
      obtain ⟨p0, p1⟩ := hc n hlt
      have d0 := ((Nw.below u).cell (p := ⟨b, o + n * 2, none⟩) hb).trans p0
      have d1 := ((Nw.below u).cell (p := ⟨b, o + n * 2 + 1, none⟩) hb).trans p1
      clear hc p0 p1
      have hcall := Hp.out wr X[n] u (List.getElem_mem hlt)
      have hnext : p X[n] = false → Hid (∀ j (h : j < X.length), j < n + 1 → p X[j] = false) := fun e j h hj => by
        by_cases ej : j = n
        · subst ej; exact e
        · exact hall.out j h (by omega)
      have hstop : p X[n] = true → Hid (idxA p X = n) := fun e => idxA_hit hlt e hall.out
      generalize p X[n] = q at *
      generalize X[n] = x at *
      obtain ⟨xk, xt⟩ := x
      dsimp only at *
      have Hcall := Lib.hid hcall; clear hcall
      cases q with
      | true =>
        have hr := hstop rfl
        clear hstop hnext
        go_wp2_with (go_at_fn gf; (with_reducible refine Hcall.out.mono ?_); rintro _ w2 ⟨rfl, u2⟩)
        go_ret
        exact ⟨ret_int hr.out.symm, u.trans u2⟩
      | false =>
        have hr := hnext rfl
        clear hstop hnext
        go_wp2_with (go_at_fn gf; (with_reducible refine Hcall.out.mono ?_); rintro _ w2 ⟨rfl, u2⟩)
        go_roundw
        case rel => exact ⟨n + 1, by omega, by go_num, hr, u.trans u2⟩
        case measure => simp [intOf]; omega
    · have hr : Hid (idxA p X = -1) := idxA_miss (fun j h => hall.out j h (by omega))
      go_wp2_with fail
      go_ret
      exact ⟨ret_int hr.out.symm, u⟩
/-- A block's cells, element by element. -/
def RowC (sz : Nat) (cur : Array Value) (Z : List (List Value)) : Prop := ∀ a (h : a < Z.length) r, r < sz → cur[a * sz + r]? = Z[a][r]?
theorem flat_len {α : Type} {sz : Nat} : ∀ (Z : List (List α)), (∀ x ∈ Z, x.length = sz) → Z.flatten.length = Z.length * sz := by
  intro Z
  induction Z with
  | nil => intro _; simp
  | cons x Z ih =>
    intro h
    rw [List.flatten_cons, List.length_append, ih (fun y hy => h y (List.mem_cons_of_mem _ hy)), h x (List.mem_cons_self ..), List.length_cons, Nat.succ_mul, Nat.add_comm]
theorem rowC_of {sz : Nat} {cur : Array Value} {Z : List (List Value)} (hx : ∀ x ∈ Z, x.length = sz) (ht : cur.toList.take (Z.length * sz) = Z.flatten) : RowC sz cur Z := fun a h r hr => by
  rw [← flat_at Z a r hx hr h, ← ht, List.getElem?_take, if_pos]
  · simp
  · have : (a + 1) * sz ≤ Z.length * sz := Nat.mul_le_mul_right _ h
    rw [Nat.succ_mul] at this; omega
theorem rowC_take {sz : Nat} {cur : Array Value} {Z : List (List Value)} (hz : 0 < sz) (hx : ∀ x ∈ Z, x.length = sz) (h : RowC sz cur Z) : cur.toList.take (Z.length * sz) = Z.flatten := by
  refine List.ext_getElem? (fun m => ?_)
  by_cases hm : m < Z.length * sz
  · have hd : m / sz < Z.length := (Nat.div_lt_iff_lt_mul hz).2 hm
    have hr := Nat.mod_lt m hz
    have he : m / sz * sz + m % sz = m := by rw [Nat.mul_comm]; exact Nat.div_add_mod m sz
    have h1 := h (m / sz) hd (m % sz) hr
    have h2 := flat_at Z (m / sz) (m % sz) hx hr hd
    rw [he] at h1 h2
    rw [h2, ← h1, List.getElem?_take, if_pos hm]; simp
  · rw [List.getElem?_eq_none (by rw [List.length_take]; omega), List.getElem?_eq_none (by rw [flat_len Z hx]; omega)]
theorem setCells_low {b : Nat} {T : TypeId} {fz : Nat × Nat} : ∀ (vs : List Value) (o : Nat) (w : World) (cur : Array Value), w.heap[b]? = some (.cells cur T fz) →
    ∃ cur', (w.setCells b o vs).heap[b]? = some (.cells cur' T fz) ∧ cur'.size = cur.size ∧ ∀ m, m < o → cur'[m]? = cur[m]? := by
  intro vs
  induction vs with
  | nil => intro o w cur h; exact ⟨cur, h, rfl, fun _ _ => rfl⟩
  | cons v vs ih =>
    intro o w cur h
    obtain ⟨c', h1, h2, h3⟩ := ih (o + 1) (w.setCell ⟨b, o, none⟩ v) _ (setCell_block h o v)
    refine ⟨c', h1, by rw [h2]; simp, fun m hm => ?_⟩
    rw [h3 m (by omega), Array.getElem?_setIfInBounds_ne (by omega)]
theorem Upd.setCells1 {b : Nat} {a : World} (hg : nG ≤ b) : ∀ (vs : List Value) (o : Nat) {w : World}, Upd (fun x => x = b) a w → Upd (fun x => x = b) a (w.setCells b o vs)
  | [], _, _, h => h
  | v :: vs, o, _, h => Upd.setCells1 hg vs (o + 1) (h.set1 hg o v)
theorem rowC_set2 {cur : Array Value} {Z : List (List Value)} {i : Nat} {v0 v1 : Value} (h : RowC 2 cur Z) (hi : i < Z.length) (hs : Z.length * 2 ≤ cur.size) :
    RowC 2 ((cur.setIfInBounds (i * 2) v0).setIfInBounds (i * 2 + 1) v1) (Z.set i [v0, v1]) := fun a ha r hr => by
  rw [List.length_set] at ha
  have h4 : r = 0 ∨ r = 1 := by omega
  by_cases e : a = i
  · subst e
    rw [List.getElem_set_self]
    rcases h4 with rfl | rfl
    · rw [Array.getElem?_setIfInBounds_ne (by omega), Nat.add_zero, Array.getElem?_setIfInBounds_self_of_lt (by omega)]; rfl
    · rw [Array.getElem?_setIfInBounds_self_of_lt (by simp; omega)]; rfl
  · rw [List.getElem_set_ne (Ne.symm e), ← h a ha r hr]
    rw [Array.getElem?_setIfInBounds_ne (by omega), Array.getElem?_setIfInBounds_ne (by omega)]
/-- The first j sectors have been looked at, i of them kept, at the head of the row. -/
structure DelQ (gb cap : Nat) (np : Int × Int → Bool) (X : List (Int × Int)) (i j : Nat) (z : World) : Prop where
  row : ∃ (Z : List (Int × Int)) (cur : Array Value), Z.length = X.length ∧ z.heap[gb]? = some (.cells cur tSec (0, 0)) ∧ cur.size = cap * 2 ∧ RowC 2 cur (Z.map secL) ∧ Z.take i = (X.take j).filter np ∧ Z.drop j = X.drop j
theorem DelQ.nw {gb cap : Nat} {np : Int × Int → Bool} {X : List (Int × Int)} {i j : Nat} {z z' : World} (h : DelQ gb cap np X i j z) (u : Nw z z') : DelQ gb cap np X i j z' := by
  obtain ⟨Z, cur, h1, h2, h3⟩ := h.row
  exact ⟨Z, cur, h1, Nw.keep u h2, h3⟩
theorem DelQ.at {gb cap : Nat} {np : Int × Int → Bool} {X : List (Int × Int)} {i j : Nat} {z : World} (h : DelQ gb cap np X i j z) (hj : j < X.length) :
    z.cell? ⟨gb, 0 + j * 2, none⟩ = some (.int .i64 X[j].1) ∧ z.cell? ⟨gb, 0 + j * 2 + 1, none⟩ = some (.int .i64 X[j].2) := by
  obtain ⟨Z, cur, h1, h2, h3, h4, h5, h6⟩ := h.row
  have hz : Z[j]'(by omega) = X[j] := by
    have e := congrArg (fun l => l[0]?) h6
    simp only [List.getElem?_drop, Nat.add_zero] at e
    rw [List.getElem?_eq_getElem (by omega), List.getElem?_eq_getElem hj] at e
    exact Option.some.inj e
  have h7 := h4 j (by rw [List.length_map]; omega)
  rw [List.getElem_map, hz] at h7
  rw [Nat.zero_add]
  refine ⟨?_, ?_⟩
  · rw [cells_cell h2]; exact h7 0 (by omega)
  · rw [cells_cell h2]; exact h7 1 (by omega)
theorem DelQ.some {gb cap : Nat} {np : Int × Int → Bool} {X : List (Int × Int)} {i j : Nat} {z : World} (h : DelQ gb cap np X i j z) {a : Nat} (ha : a < X.length) :
    ∃ y : Int × Int, z.cell? ⟨gb, 0 + a * 2, none⟩ = Option.some (.int .i64 y.1) ∧ z.cell? ⟨gb, 0 + a * 2 + 1, none⟩ = Option.some (.int .i64 y.2) := by
  obtain ⟨Z, cur, h1, h2, h3, h4, h5, h6⟩ := h.row
  have h7 := h4 a (by rw [List.length_map]; omega)
  rw [List.getElem_map] at h7
  rw [Nat.zero_add]
  refine ⟨Z[a]'(by omega), ?_, ?_⟩
  · rw [cells_cell h2]; exact h7 0 (by omega)
  · rw [cells_cell h2]; exact h7 1 (by omega)
theorem DelQ.frozen {gb cap : Nat} {np : Int × Int → Bool} {X : List (Int × Int)} {i j : Nat} {z : World} (h : DelQ gb cap np X i j z) (m : Nat) : z.frozen? ⟨gb, m, none⟩ = false := by
  obtain ⟨Z, cur, h1, h2, _⟩ := h.row
  exact cells_frozen h2 m
theorem DelQ.skip {gb cap : Nat} {np : Int × Int → Bool} {X : List (Int × Int)} {i j : Nat} {z : World} (h : DelQ gb cap np X i j z) (hj : j < X.length) (hn : np X[j] = false) : DelQ gb cap np X i (j + 1) z := by
  obtain ⟨Z, cur, h1, h2, h3, h4, h5, h6⟩ := h.row
  refine ⟨Z, cur, h1, h2, h3, h4, ?_, ?_⟩
  · rw [h5, List.take_succ_eq_append_getElem hj, List.filter_append, List.filter_cons, hn]; simp
  · rw [← List.drop_drop, ← List.drop_drop, h6]
theorem DelQ.keep {gb cap : Nat} {np : Int × Int → Bool} {X : List (Int × Int)} {i j : Nat} {z : World} (h : DelQ gb cap np X i j z) (hj : j < X.length) (hij : i < j) (hc : X.length ≤ cap) {x : Int × Int} (hx : X[j] = x) (hn : np X[j] = true) :
    DelQ gb cap np X (i + 1) (j + 1) ((z.setCell ⟨gb, 0 + i * 2, none⟩ (.int .i64 x.1)).setCell ⟨gb, 0 + i * 2 + 1, none⟩ (.int .i64 x.2)) := by
  obtain ⟨Z, cur, h1, h2, h3, h4, h5, h6⟩ := h.row
  rw [Nat.zero_add]
  refine ⟨Z.set i x, _, by rw [List.length_set]; exact h1, setCell_block (setCell_block h2 _ _) _ _, by simp [h3], ?_, ?_, ?_⟩
  · rw [List.map_set]
    exact rowC_set2 h4 (by rw [List.length_map]; omega) (by rw [List.length_map, h3]; omega)
  · rw [List.take_succ_eq_append_getElem (by rw [List.length_set]; omega), List.getElem_set_self, List.take_set_of_le (Nat.le_refl i), h5, List.take_succ_eq_append_getElem hj, List.filter_append, List.filter_cons, hn, hx]; simp
  · rw [List.drop_set_of_lt (by omega), ← List.drop_drop, ← List.drop_drop, h6]
theorem zeroSec : ∀ w, (zeroValue tSec).run Tryz.prog w = .ok (.agg #[.int .i64 0, .int .i64 0]) w := fun w => by kernel_rfl
theorem zeroSecs_len (n : Nat) : (Builtin.zeroCells (Value.agg #[.int .i64 0, .int .i64 0]).cells n).toList.length = n * 2 := by
  simp [Builtin.zeroCells, Value.cells]
theorem zeroSecs_one (n : Nat) : ∀ u ∈ (Builtin.zeroCells (Value.agg #[.int .i64 0, .int .i64 0]).cells n).toList, u.oneCell' = true := by
  intro u hu
  have hu := Array.mem_toList_iff.1 hu
  simp only [Builtin.zeroCells, Array.mem_map, Value.cells] at hu
  obtain ⟨a, _, rfl⟩ := hu
  have h4 : a % 2 = 0 ∨ a % 2 = 1 := by omega
  rcases h4 with e | e <;> (simp [e]; rfl)
theorem run_clear_secs (w : World) (ty : TypeId) (b o n c : Nat) (hn : 0 < n) (hc : ∀ j, j < n * 2 → (w.cell? ⟨b, o + j, none⟩).isSome = true) (hf : ∀ j, j < n * 2 → w.frozen? ⟨b, o + j, none⟩ = false) :
    (Builtin.clear_ #[64] ty #[.slice (some ⟨b, o, none⟩) n c]).run Tryz.prog w = .ok (.tuple #[]) (w.setCells b o (Builtin.zeroCells (Value.agg #[.int .i64 0, .int .i64 0]).cells n).toList) := by
  have hst := run_storeCells_cells (P := Tryz.prog) b o (Builtin.zeroCells (Value.agg #[.int .i64 0, .int .i64 0]).cells n).toList 0 w (by rw [zeroSecs_len]; simpa using hc) (by rw [zeroSecs_len]; simpa using hf) (zeroSecs_one n)
  simp only [Nat.add_zero] at hst
  obtain ⟨m, rfl⟩ : ∃ m, n = m + 1 := ⟨n - 1, by omega⟩
  simp [Builtin.clear_, run_underlying Tryz.underlying64, zeroSec, hst]
set_option maxHeartbeats 4000000 in
set_option maxRecDepth 100000 in
theorem delSecs (gf c1 : Nat) (eg : ∀ args w, (callFunc gf args).run Tryz.prog w = .ok (.enter gf args) w) (p : Int × Int → Bool) (base : Nat) (v : Value) (X : List (Int × Int)) (w : World) (hb : nG ≤ base) (hX : X.length ≤ 5000000) (ho : w.ownsRow base tSec 2 v X.length (flatQ X))
    (hp : ∀ W x, Upd (fun j => v.ownBlock = some j) w W → x ∈ X → Calls Tryz.prog gf #[.agg #[.int .i64 x.1, .int .i64 x.2], .pointer (some ⟨c1, 0, none⟩)] W fun e w' => e = .returned (.bool (p x)) ∧ Nw W w') :
    Calls Tryz.prog 113 #[v, .func (.func gf) #[] #[.pointer (some ⟨c1, 0, none⟩)]] w fun e w' => ∃ v', e = .returned v' ∧ w'.ownsRow base tSec 2 v' (X.filter fun x => !p x).length (flatQ (X.filter fun x => !p x)) ∧ Upd (fun j => v.ownBlock = some j) w w' ∧ ∀ k, v'.ownBlock = some k → v.ownBlock = some k := by
  have qi := indexD gf c1 eg p _ _ v X w (sec_sls ho) hX (fun W x uz hx => hp W x (Nw.upd _ uz) hx)
  have hidx : idxA p X = -1 ∧ (∀ j (h : j < X.length), p X[j] = false) ∨ ∃ (k : Nat) (hk : k < X.length), idxA p X = k ∧ p X[k] = true ∧ ∀ j (h : j < X.length), j < k → p X[j] = false := by
    unfold idxA
    cases h : X.findIdx? p with
    | none =>
      have := List.findIdx?_eq_none_iff.1 h
      exact Or.inl ⟨rfl, fun j hj => this _ (List.getElem_mem hj)⟩
    | some i =>
      obtain ⟨hi, hpi, hno⟩ := List.findIdx?_eq_some_iff_getElem.1 h
      exact Or.inr ⟨i, hi, rfl, hpi, fun j hj hji => by have := hno j hji; simpa using this⟩
  rcases hidx with ⟨e1, hall⟩ | ⟨k0, hk0, e1, hpk, hno⟩
  · rw [e1] at qi
    have hfil : X.filter (fun x => !p x) = X := List.filter_eq_self.2 (fun x hx => by
      obtain ⟨j, hj, rfl⟩ := List.mem_iff_getElem.1 hx
      rw [hall j hj]; rfl)
    rw [hfil]
    have Ho := Lib.hid ho
    obtain ⟨av, cv, rfl⟩ := own_slD ho
    have QI := Lib.hid qi
    clear qi e1 hall hfil ho hp
    go_enter Tryz.func113, Tryz.ntmps113
    go_wp2_with fail
    (with_reducible refine (QI.out).mono ?_)
    rintro _ w1 ⟨rfl, u1⟩
    go_wp2_with fail
    go_ret
    exact ⟨_, rfl, owns_updD Ho.out u1 (fun _ _ e => e), Nw.upd _ u1, fun k e => e⟩
  · rw [e1] at qi
    obtain ⟨hl0, ho2⟩ := ho
    rcases ho2 with ⟨rfl, h0⟩ | ⟨gb, cap, cur, rfl, hbg, hcell, hn, hcap, hsz, htk⟩
    · omega
    have hd0 : DelQ gb cap (fun x => !p x) X k0 (k0 + 1) w := by
      refine ⟨X, cur, rfl, hcell, hsz, rowC_of (fun y hy => ?_) (by rw [List.length_map]; exact htk), ?_, rfl⟩
      · obtain ⟨z, _, rfl⟩ := List.mem_map.1 hy; rfl
      · rw [List.take_succ_eq_append_getElem hk0, List.filter_append, List.filter_cons, hpk]
        have : (X.take k0).filter (fun x => !p x) = X.take k0 := List.filter_eq_self.2 (fun x hx => by
          obtain ⟨j, hj, rfl⟩ := List.mem_iff_getElem.1 hx
          rw [List.length_take] at hj
          rw [List.getElem_take, hno j (by omega) (by omega)]; rfl)
        rw [this]; simp
    have HD0 := Lib.hid hd0
    have HP := Lib.hid hp
    have hgb : gb < w.heap.size := lt_of_block hcell
    have hG : nG ≤ gb := Nat.le_trans hb hbg
    have hne1 : ((k0 : Int) == -1) = false := beq_eq_false_iff_ne.2 (by omega)
    unfold maxLen at hcap
    have QI := Lib.hid qi
    have HB := Lib.hid hbg
    obtain ⟨o, ho⟩ : ∃ o : Nat, 0 = o := ⟨_, rfl⟩
    have HO := Lib.hid ho
    rw [show (⟨gb, 0, none⟩ : Addr) = ⟨gb, o, none⟩ from by rw [ho]] at QI ⊢
    clear qi e1 hpk hno hd0 hp hcell htk hsz ho hbg
    go_enter Tryz.func113, Tryz.ntmps113
    go_wp2_with fail
    (with_reducible refine (QI.out).mono ?_)
    rintro _ w1 ⟨rfl, u1⟩
    have hd1 := HD0.out.nw u1
    have HD1 := Lib.hid hd1
    have hu1 : Hid (Upd (fun j => j = gb) w w1) := Nw.upd _ u1
    clear hd1 u1 HD0
    go_wp2_with fail
    go_loopw [5, 6] (fun iv jv wr => ∃ i j : Nat, iv = .int .i64 i ∧ jv = .int .i64 j ∧ i < j ∧ j ≤ X.length ∧ Hid (DelQ gb cap (fun x => !p x) X i j wr) ∧ Hid (Upd (fun j => j = gb) w wr)) (fun iv jv _ => X.length - (intOf jv).toNat)
    case atStart => exact ⟨k0, k0 + 1, rfl, by go_num, by omega, by omega, HD1.out, hu1.out⟩
    case round =>
      obtain ⟨i, j, rfl, rfl, hij, hj, HD, hu⟩ := hrel
      by_cases hlt : j < X.length
      · obtain ⟨p0, p1⟩ := HD.out.at hlt
        rw [HO.out] at p0 p1
        have hcall := fun W (uW : Nw wr W) => HP.out W X[j] (hu.out.nw uW |>.mono (fun k _ e => by rw [e]; rfl)) (List.getElem_mem hlt)
        have hskip : p X[j] = true → ∀ z, Nw wr z → Hid (DelQ gb cap (fun x => !p x) X i (j + 1) z) := fun e z uz => (HD.out.nw uz).skip hlt (by rw [e]; rfl)
        have hkeep := fun (x : Int × Int) (hx : X[j] = x) (hq : p x = false) (z : World) (uz : Nw wr z) => (HD.out.nw uz).keep hlt hij hn hx (by rw [hx, hq]; rfl)
        have hold := fun (z : World) (uz : Nw wr z) => (HD.out.nw uz).some (a := i) (by omega)
        have hfrz := fun (z : World) (uz : Nw wr z) => (HD.out.nw uz).frozen
        rw [HO.out] at hkeep hold
        generalize X[j] = x at *
        obtain ⟨xk, xt⟩ := x
        dsimp only at *
        have n1 := nw_alloc wr (.cells #[.int .i64 xk, .int .i64 xt] tSec)
        have k1 := heap_new wr (.cells #[.int .i64 xk, .int .i64 xt] tSec)
        obtain ⟨_, _⟩ := cell2D k1
        have HC := Lib.hid (hcall _ n1)
        have HKp := Lib.hid (hkeep _ rfl)
        have HSk := Lib.hid hskip
        have HOl := Lib.hid hold
        have HFr := Lib.hid hfrz
        have K1 := Lib.hid k1
        clear hcall hkeep hold hfrz hskip k1
        generalize p ((xk, xt) : Int × Int) = q at *
        cases q with
        | true =>
          clear HKp HOl HFr
          go_wp2_with (go_at_fn gf; ((with_reducible refine HC.out.mono ?_); rintro _ w2 ⟨rfl, u2⟩; obtain ⟨_, _⟩ := cell2D (Nw.keep u2 K1.out)))
          have U2 := n1.trans u2
          have hr := HSk.out trivial w2 U2
          have hU : Hid (Upd (fun j => j = gb) w w2) := hu.out.nw U2
          clear HSk
          go_roundw
          case rel => exact ⟨i, j + 1, rfl, by go_num, by omega, by omega, hr, hU⟩
          case measure => simp [intOf]; omega
        | false =>
          clear HSk
          go_wp2_with (go_at_fn gf; ((with_reducible refine HC.out.mono ?_); rintro _ w2 ⟨rfl, u2⟩; obtain ⟨_, _⟩ := cell2D (Nw.keep u2 K1.out); obtain ⟨y, y0, y1⟩ := HOl.out w2 (n1.trans u2); have f0 := HFr.out w2 (n1.trans u2) (o + i * 2); have f1 := HFr.out w2 (n1.trans u2) (o + i * 2 + 1)))
          have U2 := n1.trans u2
          have hr : Hid _ := HKp.out trivial w2 U2
          have hU : Hid _ := (((hu.out.nw U2).set1 hG (o + i * 2) (.int .i64 xk)).set1 hG (o + i * 2 + 1) (.int .i64 xt))
          clear HKp HOl HFr
          go_roundw
          case rel => exact ⟨i + 1, j + 1, by go_num, by go_num, by omega, by omega, hr, hU⟩
          case measure => simp [intOf]; omega
      · obtain rfl : j = X.length := by omega
        have hrow : ∀ w9, (∃ L, w9 = wr.setCells gb (o + i * 2) L) → w9.ownsRow base tSec 2 (.slice (some ⟨gb, o, none⟩) i cap) (X.filter fun x => !p x).length (flatQ (X.filter fun x => !p x)) ∧ Upd (fun j => j = gb) w w9 := by
          rintro w9 ⟨L, rfl⟩
          obtain ⟨Z, cur2, h1, h2, h3, h4, h5, h6⟩ := HD.out.row
          obtain ⟨cur3, b1, b2, b3⟩ := setCells_low L (o + i * 2) wr cur2 h2
          rw [List.take_length] at h5
          have hli : i = (X.filter fun x => !p x).length := by rw [← h5, List.length_take]; omega
          have hv2 : ∀ y ∈ (X.filter fun x => !p x).map secL, y.length = 2 := fun y hy => by
            obtain ⟨z, _, rfl⟩ := List.mem_map.1 hy; rfl
          refine ⟨⟨by unfold flatQ; rw [flat_len _ hv2, List.length_map], Or.inr ⟨gb, cap, cur3, by rw [← hli, HO.out], HB.out, b1, by omega, by unfold maxLen; omega, by omega, ?_⟩⟩, Upd.setCells1 hG L _ hu.out⟩
          · have hrc : RowC 2 cur3 ((X.filter fun x => !p x).map secL) := fun a ha r hr => by
              rw [List.length_map] at ha
              rw [b3 _ (by rw [← HO.out]; omega), h4 a (by rw [List.length_map]; omega) r hr, List.getElem_map, List.getElem_map]
              congr 2
              simp only [← h5, List.getElem_take]
            have := rowC_take (by omega) hv2 hrc
            rw [List.length_map] at this
            exact this
        have hcl : ∀ ty, (Builtin.clear_ #[64] ty #[.slice (some ⟨gb, o + i * 2, none⟩) (X.length - i) (cap - i)]).run Tryz.prog wr = .ok (.tuple #[]) (wr.setCells gb (o + i * 2) (Builtin.zeroCells (Value.agg #[.int .i64 0, .int .i64 0]).cells (X.length - i)).toList) := fun ty => by
          obtain ⟨Z, cur2, h1, h2, h3, h4, h5, h6⟩ := HD.out.row
          refine run_clear_secs wr ty gb (o + i * 2) (X.length - i) (cap - i) (by omega) (fun j hj => ?_) (fun j _ => cells_frozen h2 _)
          rw [cells_cell h2, Array.getElem?_eq_getElem (by rw [h3, ← HO.out]; omega)]; rfl
        generalize (Builtin.zeroCells (Value.agg #[.int .i64 0, .int .i64 0]).cells (X.length - i)).toList = L at *
        have hfin := hrow _ ⟨L, rfl⟩
        have Hfin := Lib.hid hfin
        clear hfin hrow
        have hij2 : (i : Int) ≤ X.length := by omega
        have hic : (i : Int) ≤ cap := by omega
        go_wp2_with fail
        go_ret
        exact ⟨_, rfl, Hfin.out.1, Hfin.out.2.mono (fun k _ e => by rw [e]; rfl), fun k e => e⟩
end Go.Proofs.YtmlmdlbepppnlaaGreatDoor
namespace Go.Proofs.YtmlmdlbepppnlaaGreatDoor
open Go.RowKit
set_option linter.unusedVariables false
set_option linter.unusedSimpArgs false
attribute [local irreducible] Calls

theorem call_set1 : ∀ args w, (callFunc 114 args).run Tryz.prog w = .ok (.enter 114 args) w := enters_of Tryz.func114 (by kernel_rfl) rfl
/-- 'p.file == f'. -/
theorem set1P (x : Int × Int) (f : Int) (b1 : Nat) (w : World) (h1 : w.heap[b1]? = some (.cells #[.int .i64 f] tIntD (0, 0))) :
    Calls Tryz.prog 114 #[.agg #[.int .i64 x.1, .int .i64 x.2], .pointer (some ⟨b1, 0, none⟩)] w fun e w' => e = .returned (.bool (decide (x.1 = f))) ∧ Nw w w' := by
  have n1 := nw_alloc w (.cells #[.int .i64 x.1, .int .i64 x.2] tSec)
  have c1 : w.cell? ⟨b1, 0, none⟩ = some (.int .i64 f) := by rw [cells_cell h1]; rfl
  have c1' := later_cell ⟨_, n1⟩ c1
  obtain ⟨xk, xt⟩ := x
  dsimp only at *
  by_cases hk : xk = f
  · have dk : (xk == f) = true := beq_iff_eq.2 hk
    have hr : Hid (decide (xk = f) = true) := by show _ = _; simp [hk]
    clear hk h1
    go_enter Tryz.func114, Tryz.ntmps114
    go_wp2_with fail
    go_ret
    exact ⟨ret_bool hr.out.symm, n1⟩
  · have dk : (xk == f) = false := beq_eq_false_iff_ne.2 hk
    have hr : Hid (decide (xk = f) = false) := by show _ = _; simp [hk]
    clear hk h1
    go_enter Tryz.func114, Tryz.ntmps114
    go_wp2_with fail
    go_ret
    exact ⟨ret_bool hr.out.symm, n1⟩
theorem set2P (x : Int × Int) (v : Bool) (f : Int) (b1 : Nat) (w : World) (h1 : w.heap[b1]? = some (.cells #[.int .i64 f] tIntD (0, 0))) :
    Calls Tryz.prog 116 #[.agg #[.int .i64 x.1, .int .i64 x.2], .bool v, .pointer (some ⟨b1, 0, none⟩)] w fun e w' => e = .returned (.bool (decide (x.1 = f))) ∧ Nw w w' := by
  have n1 := nw_alloc w (.cells #[.int .i64 x.1, .int .i64 x.2] tSec)
  have c1 : w.cell? ⟨b1, 0, none⟩ = some (.int .i64 f) := by rw [cells_cell h1]; rfl
  have c1' := later_cell ⟨_, n1⟩ c1
  obtain ⟨xk, xt⟩ := x
  dsimp only at *
  by_cases hk : xk = f
  · have dk : (xk == f) = true := beq_iff_eq.2 hk
    have hr : Hid (decide (xk = f) = true) := by show _ = _; simp [hk]
    clear hk h1
    go_enter Tryz.func116, Tryz.ntmps116
    go_wp2_with fail
    go_ret
    exact ⟨ret_bool hr.out.symm, n1⟩
  · have dk : (xk == f) = false := beq_eq_false_iff_ne.2 hk
    have hr : Hid (decide (xk = f) = false) := by show _ = _; simp [hk]
    clear hk h1
    go_enter Tryz.func116, Tryz.ntmps116
    go_wp2_with fail
    go_ret
    exact ⟨ret_bool hr.out.symm, n1⟩
/-- 'delete(m, k)' at the operation, by its run. -/
theorem wpList_dropL {P : Program} {w w' : World} {ops : Array Oper} {rest : List Oper} {o : Oper} {a : Act} {Q : Exit → Act → World → Prop} (hg : o.guard = none) (hd : o.dst = none) (m x : Operand) (t k : TypeId) (hop : o.op = .call { callee := .builtin .delete, args := #[m, x], argTypes := #[t, k] })
    (vm key : Value) (hm : a.eval m = vm) (hx : a.eval x = key) (hrun : (Builtin.delete_ #[t, k] o.type #[vm, key]).run P w = .ok (.tuple #[]) w') (h : wpList P ops Q rest a w') : wpList P ops Q (o :: rest) a w := by
  refine wpList_plain hg fun K hK => ?_
  unfold Oper.wp
  simp [execOp, hop, resolve, invoke, builtin, hm, hx, hrun, Result.andThen]
  refine hK _ _ ?_
  rw [hd]
  exact h
/-- While the set is ranged over: of the sectors of the file those that have come are gone. -/
structure DelS (w : World) (sm rr : Nat) (q : List (Int × Int)) (f : Int) (z : World) : Prop where
  rng : ∃ l done, RangeS Tryz.prog tSec z sm rr l done ∧ (∀ p ∈ l, p ∈ q.map secE) ∧ (∀ p ∈ q, p.1 ≠ f → secE p ∈ l) ∧ ∀ p ∈ q, p.1 = f → done (secV p) → secE p ∉ l
  upd : Upd (fun k => k = sm) w z
theorem secE_inj {p q : Int × Int} (h : secE p = secE q) : p = q := secV_inj (Prod.mk.inj h).1
set_option maxHeartbeats 2000000 in
set_option maxRecDepth 100000 in
theorem delSet (c1 sm : Nat) (q : List (Int × Int)) (f : Int) (w : World) (hgb : nG ≤ w.heap.size) (h : SetL w sm q) (hG : nG ≤ sm) (hbox : w.heap[c1]? = some (.cells #[.int .i64 f] tIntD (0, 0))) (hne : c1 ≠ sm) (hq : ∀ p ∈ q, I64 p.1 ∧ I64 p.2) (hnd : q.Nodup) :
    Calls Tryz.prog 115 #[.map (some sm), .func (.func 116) #[] #[.pointer (some ⟨c1, 0, none⟩)]] w fun e w' => e = .returned (.tuple #[]) ∧ SetL w' sm (q.filter fun p => !decide (p.1 = f)) ∧ Upd (fun k => k = sm) w w' := by
  have hlt := h.lt
  have Hbox := Lib.hid hbox
  have Hq := Lib.hid hq
  have Hnd := Lib.hid hnd
  have H := Lib.hid h
  clear hbox hq hnd h
  go_enter Tryz.func115, Tryz.ntmps115
  go_wp2_with (at_range; refine wpList_rangeS rfl _ 63 4 rfl Tryz.underlying63 rfl H.out ?_)
  intro w1 hrg n1
  have HD : Hid (DelS w sm w.heap.size q f w1) := ⟨⟨_, _, hrg, fun p hp => hp, fun p hp _ => List.mem_map.2 ⟨p, hp, rfl⟩, fun p _ _ e => e.elim⟩, Nw.upd _ n1⟩
  clear hrg n1
  go_wp2_with fail
  go_loopw [4] (fun _ wr => Hid (DelS w sm w.heap.size q f wr)) (fun _ wr => wr.rangeLeft sm w.heap.size)
  case atStart => exact HD.out
  case round =>
    have HD := Lib.hid hrel.out
    obtain ⟨⟨l, done, hrg, hs1, hs2, hs3⟩, hu⟩ := hrel.out
    have hrg' := hrg
    clear hrel
    go_wp2_with (at_next; refine wpList_nextS rfl _ rfl rfl hrg' ?_ ?_ ?_)
    · exact hgb
    · intro hall
      have hset : Hid (SetL wr sm (q.filter fun p => !decide (p.1 = f))) := by
        refine MapL.of_mem hrg.map (List.pairwise_map.2 ((Hnd.out.filter _).imp (fun hne e => hne (secE_inj e)))) (fun p => ?_)
        constructor
        · intro hp
          obtain ⟨x, hx, rfl⟩ := List.mem_map.1 hp
          obtain ⟨hx1, hx2⟩ := List.mem_filter.1 hx
          exact hs2 x hx1 (by simpa using hx2)
        · intro hp
          obtain ⟨x, hx, rfl⟩ := List.mem_map.1 (hs1 p hp)
          refine List.mem_map.2 ⟨x, List.mem_filter.2 ⟨hx, by rw [decide_eq_false (fun e => hs3 x hx e (hall _ _ hp) hp)]; rfl⟩, rfl⟩
      have HU := Lib.hid hu
      clear hall hs1 hs2 hs3 hrg hrg' hu
      go_wp2_with fail
      go_end0
      exact ⟨rfl, hset.out, HU.out⟩
    · intro ka va w6 hpm hrg6 u6 hlt6 hen
      obtain ⟨x, hx, e⟩ := List.mem_map.1 (hs1 _ hpm)
      obtain ⟨hx1, hx2⟩ := Hq.out x hx
      obtain ⟨e1, e2⟩ := Prod.mk.inj e
      subst e1 e2
      have n7 := nw_alloc w6 (.cells #[.int .i64 x.1, .int .i64 x.2] tSec)
      have k7 := heap_new w6 (.cells #[.int .i64 x.1, .int .i64 x.2] tSec)
      have U6 : Upd (fun k => k = sm) w w6 := hu.trans' u6 (fun j hj e => by omega)
      have hb7 := Nw.keep n7 (U6.keep Hbox.out hne)
      have hnext : ∀ w8, Nw (w6.alloc (.cells #[.int .i64 x.1, .int .i64 x.2] tSec)) w8 → RangeS Tryz.prog tSec w8 sm w.heap.size l (fun y => done y ∨ y = secV x) ∧ w8.rangeLeft sm w.heap.size = w6.rangeLeft sm w.heap.size ∧ Upd (fun k => k = sm) w w8 := fun w8 u8 => by
        obtain ⟨a1, a2⟩ := hrg6.upd n7 id id
        obtain ⟨b1, b2⟩ := a1.upd u8 id id
        exact ⟨b1, b2.trans a2, (U6.nw n7).nw u8⟩
      have hgo : x.1 ≠ f → ∀ w8, Nw (w6.alloc (.cells #[.int .i64 x.1, .int .i64 x.2] tSec)) w8 → Hid (DelS w sm w.heap.size q f w8) ∧ w8.rangeLeft sm w.heap.size < wr.rangeLeft sm w.heap.size := fun hf w8 u8 => by
        obtain ⟨b1, b2, b3⟩ := hnext w8 u8
        refine ⟨⟨⟨l, _, b1, hs1, hs2, fun p hp e hd => ?_⟩, b3⟩, by omega⟩
        rcases hd with hd | hd
        · exact hs3 p hp e hd
        · exact absurd e (by rw [secV_inj hd]; exact hf)
      have hdel : x.1 = f → ∀ w8, Nw (w6.alloc (.cells #[.int .i64 x.1, .int .i64 x.2] tSec)) w8 → ∃ w9, (Builtin.delete_ #[63, tSec] 0 #[.map (some sm), .agg #[.int .i64 x.1, .int .i64 x.2]]).run Tryz.prog w8 = .ok (.tuple #[]) w9 ∧ Hid (DelS w sm w.heap.size q f w9) ∧ w9.rangeLeft sm w.heap.size < wr.rangeLeft sm w.heap.size := fun hf w8 u8 => by
        obtain ⟨b1, b2, b3⟩ := hnext w8 u8
        obtain ⟨kl, hkl⟩ := sec_key hx1 hx2
        obtain ⟨w9, l', hrun, hr9, hm9, u9, hl9⟩ := b1.drop (ty := 0) secKeyed Tryz.underlying63 hG hkl
        refine ⟨w9, hrun, ⟨⟨l', _, hr9, fun p hp => hs1 p ((hm9 p).1 hp).1, fun p hp hpf => (hm9 _).2 ⟨hs2 p hp hpf, fun e => hpf (by rw [secV_inj e]; exact hf)⟩, fun p hp e hd hin => ?_⟩, b3.trans u9⟩, by omega⟩
        obtain ⟨h1, h2⟩ := (hm9 _).1 hin
        rcases hd with hd | hd
        · exact hs3 p hp e hd h1
        · exact h2 hd
      have hc := set2P x true f c1 _ hb7
      obtain ⟨xf, xn⟩ := x
      dsimp only [secV] at *
      have K7 := Lib.hid k7
      have Hc := Lib.hid hc
      have Hgo := Lib.hid hgo
      have Hdel := Lib.hid hdel
      clear hnext hgo hdel hc k7 hb7 hrg hrg' hs1 hs2 hs3 hu hrg6 hpm e
      by_cases hf : xf = f
      · have hd := Lib.hid (Hdel.out hf)
        have hdc : decide (xf = f) = true := decide_eq_true hf
        rw [hdc] at Hc
        clear Hgo Hdel hf hdc
        go_wp2_with (first | (go_at_call 116; ((with_reducible refine Hc.out.mono ?_); rintro _ w8 ⟨rfl, u8⟩; obtain ⟨_, _⟩ := cell2D (Nw.keep u8 K7.out); obtain ⟨w9, hrun, hD9, hl9⟩ := hd.out w8 u8)) | (at_delete; refine wpList_dropL rfl rfl _ _ 63 tSec rfl _ _ rfl rfl hrun ?_))
        go_roundw
        case rel => exact hD9
        case measure => exact hl9
      · have hd := Lib.hid (Hgo.out hf)
        have hdc : decide (xf = f) = false := decide_eq_false hf
        rw [hdc] at Hc
        clear Hgo Hdel hf hdc
        go_wp2_with (go_at_call 116; ((with_reducible refine Hc.out.mono ?_); rintro _ w8 ⟨rfl, u8⟩; obtain ⟨hD9, hl9⟩ := hd.out w8 u8))
        go_roundw
        case rel => exact hD9
        case measure => exact hl9
/-! ### settle -/
theorem DiskAt.laterD {B : Nat} {w : World} {r : DiskR} {D : Dk.Disk} (h : DiskAt B w r D) : (∀ i : Later w, i.1.cell? ⟨r.db, 0, none⟩ = some (.map (some r.fm))) ∧ (∀ i : Later w, i.1.cell? ⟨r.db, 1, none⟩ = some r.qv) ∧ (∀ i : Later w, i.1.cell? ⟨r.db, 2, none⟩ = some (.map (some r.sm))) :=
  ⟨fun i => (h.nw i.nw).cells.1, fun i => (h.nw i.nw).cells.2.1, fun i => (h.nw i.nw).cells.2.2.1⟩
/-- The disk's parts after the three steps of settle. -/
theorem settle_done {B db fm sm : Nat} {qv kv v' : Value} {W w3 w4 w5 w7 : World} {D : Dk.Disk} {f : Int} {s : List UInt8} (h1 : DiskAt B W ⟨db, fm, sm, qv, kv⟩ D) (hs : s.length ≤ 16777216) (u3 : Nw W w3) (u4 : Upd (fun k => k = fm) w3 w4) (hf4 : FilesL w4 fm (Dk.setF D.fs f ⟨s, s⟩))
    (o5 : w5.ownsRow B tSec 2 v' (D.q.filter fun p => !decide (p.1 = f)).length (flatQ (D.q.filter fun p => !decide (p.1 = f)))) (u5 : Upd (fun k => qv.ownBlock = some k) w4 w5) (ho5 : ∀ k, v'.ownBlock = some k → qv.ownBlock = some k)
    (u7 : Upd (fun k => k = sm) (w5.setCell ⟨db, 1, none⟩ v') w7) (s7 : SetL w7 sm (D.q.filter fun p => !decide (p.1 = f))) : DiskTo B ⟨db, fm, sm, qv, kv⟩ (Dk.settle D f s) W w7 := by
  obtain ⟨a1, a2, a3, a4, a5, a6, a7, a8, a9⟩ := h1.apart
  dsimp only at a1 a2 a3 a4 a5 a6 a7 a8 a9
  have hne := h1.ne
  have hdb := h1.db
  have hhb := h1.hb
  dsimp only at hne hdb
  have u6 : Upd (fun k => k = db) w5 (w5.setCell ⟨db, 1, none⟩ v') := Upd.set1 (Upd.refl _ _) (by omega) 1 v'
  have b5 := u5.keep (u4.keep (u3.keep h1.blk) a1) a3
  refine ⟨⟨db, fm, sm, v', kv⟩, ⟨h1.hb, h1.db, h1.fm, h1.sm, h1.ne, ?_, ?_, s7, ?_, ?_, Dk.settle_ok h1.ok f hs, h1.kI⟩, rfl, ?_, ?_⟩
  · have := setCell_block b5 1 v'
    exact u7.keep this a2
  · exact ((hf4.upd u5 a4).upd u6 (fun e => a1 e.symm)).upd u7 hne
  · refine owns_updD (owns_updD o5 u6 (fun k hk e => ?_)) u7 (fun k hk e => ?_)
    · subst e; exact a3 (ho5 _ hk)
    · subst e; exact a5 (ho5 _ hk)
  · refine owns_updD (owns_updD (owns_updD (owns_updD (owns_updD h1.keep u3 (fun _ _ e => e)) u4 (fun k hk e => ?_)) u5 (fun k hk e => ?_)) u6 (fun k hk e => ?_)) u7 (fun k hk e => ?_)
    · subst e; exact a7 hk
    · exact a9 k e hk
    · subst e; exact a6 hk
    · subst e; exact a8 hk
  · exact ((((Nw.upd _ u3).trans' u4 (fun k _ e => Or.inr (Or.inl e))).trans' u5 (fun k _ e => Or.inr (Or.inr (Or.inr (Or.inl e))))).trans' u6 (fun k _ e => Or.inl e)).trans' u7 (fun k _ e => Or.inr (Or.inr (Or.inl e)))
  · rintro j (e | e | e | e | e)
    · exact Or.inl (Or.inl e)
    · exact Or.inl (Or.inr (Or.inl e))
    · exact Or.inl (Or.inr (Or.inr (Or.inl e)))
    · exact Or.inl (Or.inr (Or.inr (Or.inr (Or.inl (ho5 _ e)))))
    · exact Or.inl (Or.inr (Or.inr (Or.inr (Or.inr e))))
theorem q_I64 {D : Dk.Disk} (h : Dk.Ok D) : ∀ p ∈ D.q, I64 p.1 ∧ I64 p.2 := fun p hp => by
  have := h.q p hp
  unfold I64
  omega
set_option maxHeartbeats 2000000 in
set_option maxRecDepth 100000 in
theorem settle_c {B : Nat} {w : World} {r : DiskR} {D : Dk.Disk} (h : DiskAt B w r D) (g : Gl w) {f : Int} (hf : I64 f) (s : List UInt8) (hs : s.length ≤ 16777216) (hB : B ≤ w.heap.size) :
    Calls Tryz.prog 91 #[.pointer (some ⟨r.db, 0, none⟩), .int .i64 f, .string ⟨s.toArray⟩] w fun e w' => e = .returned (.tuple #[]) ∧ DiskTo B r (Dk.settle D f s) w w' := by
  have hgb := g.big
  have n1 := nw_alloc w (.cells #[.int .i64 f] tIntD)
  have k1 := heap_new w (.cells #[.int .i64 f] tIntD)
  have s1 : (w.alloc (.cells #[.int .i64 f] tIntD)).heap.size = w.heap.size + 1 := by simp
  have h1 := h.nw n1
  have hlt : ∀ j, r.foot j → j < w.heap.size := fun j hj => (h.foot_lt hj).2
  obtain ⟨l0, l1, l2⟩ := h1.laterD
  have lb : ∀ i : Later (w.alloc (.cells #[.int .i64 f] tIntD)), i.1.cell? ⟨w.heap.size, 0, none⟩ = some (.int .i64 f) := fun i => by rw [cells_cell (i.nw.keep k1)]; rfl
  have H1 := Lib.hid h1
  have K1 := Lib.hid k1
  have Hlt := Lib.hid hlt
  have hqI := q_I64 H1.out.ok
  have hql := H1.out.ok.q_len
  have hnd := H1.out.ok.nd
  obtain ⟨db, fm, sm, qv, kv⟩ := r
  obtain ⟨aq, cq, hqv⟩ := own_slD H1.out.queue
  dsimp only at hqv
  subst hqv
  dsimp only at *
  have HqI := Lib.hid hqI
  have Hql := Lib.hid hql
  have Hnd := Lib.hid hnd
  have Hs := Lib.hid hs
  clear h h1 k1 hlt hqI hql hnd hs
  go_enter Tryz.func91, Tryz.ntmps91
  go_wp2_with fail
  refine wp_region_nw_tail 8 (by kernel_rfl) (by kernel_rfl) ?_
  simp only [List.take_succ_cons, List.take_zero, List.drop_succ_cons, List.drop_zero]
  repeat (go_big_quiet_step ((fail)))
  refine wpQuiet_nil ?_
  intro w3 u3
  replace u3 := later_out u3
  have h3 := H1.out.nw u3
  obtain ⟨w4, hst, hf4, u4⟩ := h3.files.put (by have := h3.fm; have := h3.hb; dsimp only at *; omega) hf ⟨s, s⟩
  obtain ⟨a1, a2, a3, a4, a5, a6, a7, a8, a9⟩ := h3.apart
  dsimp only [filV] at hst a1 a2 a3 a4 a5 a6 a7 a8 a9 hf4 u4
  have k4 := u4.keep (u3.keep K1.out) (fun e => by have := Hlt.out fm (Or.inr (Or.inl rfl)); omega)
  have b4 := u4.keep h3.blk a1
  have q4 := owns_updD h3.queue u4 (fun k hk e => by subst e; exact a4 hk)
  have s4 := h3.set.upd u4 (fun e => h3.ne e.symm)
  have d4 := delSecs 114 w.heap.size call_set1 (fun x => decide (x.1 = f)) B _ D.q w4 h3.hb (by have := Hql.out; omega) q4 (fun W x u hx => set1P x f w.heap.size W (u.keep k4 (fun e => by have := Hlt.out w.heap.size (Or.inr (Or.inr (Or.inr (Or.inl e)))); omega)))
  have x1 : w4.cell? ⟨db, 1, none⟩ = some (.slice aq D.q.length cq) := by rw [cells_cell b4]; rfl
  have D4 := Lib.hid d4
  have Hst := Lib.hid hst
  have Hf4 := Lib.hid hf4
  have B4 := Lib.hid b4
  have K4 := Lib.hid k4
  have S4 := Lib.hid s4
  have Ha := Lib.hid (And.intro a3 (And.intro a5 h3.ne))
  have Hsm := Lib.hid h3.sm
  have Hhb := Lib.hid h3.hb
  have Hlt2 : Hid (db < w.heap.size) := Hlt.out db (Or.inl rfl)
  have hgd : Hid (nG ≤ db) := Nat.le_trans h3.hb h3.db
  clear d4 hst hf4 b4 k4 q4 s4 a1 a2 a3 a4 a5 a6 a7 a8 a9 h3 l0 l1 l2 lb
  go_wp2_with (at_mapUpdate; refine wpList_storeL rfl _ _ _ tFiles rfl _ _ _ rfl rfl rfl Hst.out ?_)
  go_wp2_with fail
  (with_reducible refine (D4.out).mono ?_)
  rintro _ w5 ⟨v', rfl, o5, u5, ho5⟩
  have b5 := u5.keep B4.out Ha.out.1
  have k5 := u5.keep K4.out (fun e => by have := Hlt.out w.heap.size (Or.inr (Or.inr (Or.inr (Or.inl e)))); omega)
  have y1 : w5.cell? ⟨db, 1, none⟩ = some (.slice aq D.q.length cq) := by rw [cells_cell b5]; rfl
  have y2 : w5.cell? ⟨db, 2, none⟩ = some (.map (some sm)) := by rw [cells_cell b5]; rfl
  have f1 := cells_frozen b5 1
  have u6 : Upd (fun k => k = db) w5 (w5.setCell ⟨db, 1, none⟩ v') := Upd.set1 (Upd.refl _ _) hgd.out 1 v'
  have s6 := (S4.out.upd u5 Ha.out.2.1).upd u6 (fun e => by have := DiskAt.apart H1.out; exact this.2.1 e.symm)
  have k6 := u6.keep k5 (fun e => by have := Hlt2.out; omega)
  have d7 := delSet w.heap.size sm D.q f (w5.setCell ⟨db, 1, none⟩ v') (Nat.le_trans hgb (Nat.le_trans n1.size (Nat.le_trans u3.size (Nat.le_trans u4.size (Nat.le_trans u5.size (by simp [World.setCell])))))) s6 (Nat.le_trans Hhb.out Hsm.out) k6 (fun e => by have := Hlt.out sm (Or.inr (Or.inr (Or.inl rfl))); omega) HqI.out Hnd.out
  have D7 := Lib.hid d7
  have O5 := Lib.hid o5
  obtain ⟨av, cv, rfl⟩ := own_slD o5
  clear d7 k6 s6 u6 b5 k5 D4 o5
  go_wp2_with fail
  (with_reducible refine (D7.out).mono ?_)
  rintro _ w7 ⟨rfl, s7, u7⟩
  go_wp2_with fail
  go_end0
  exact ⟨rfl, DiskTo.after n1 (settle_done H1.out Hs.out u3 u4 Hf4.out O5.out u5 ho5 u7 s7)⟩
end Go.Proofs.YtmlmdlbepppnlaaGreatDoor
namespace Go.Proofs.YtmlmdlbepppnlaaGreatDoor
open Go.RowKit
set_option linter.unusedVariables false
set_option linter.unusedSimpArgs false

section
variable {P : Program} {ops : Array Oper} {Q : Exit → Act → World → Prop} {md : Region.Mode} {S : World → Prop} {k : Nat}

/-- What has come up has come up behind all that it waits for. -/
def Closed (md : Region.Mode) (ops : Array Oper) (listed : Array Bool) : Prop := ∀ j oj, ops[j]? = some oj → listed.getD j false = true → ∀ e ∈ oj.after, Region.binds md e = true → listed.getD e.on false = true
def closedB (md : Region.Mode) (ops : Array Oper) (listed : Array Bool) : Bool :=
  (List.range ops.size).all fun j => !listed.getD j false || (match ops[j]? with | some oj => oj.after.all fun e => !Region.binds md e || listed.getD e.on false | none => true)
theorem closed_of {listed : Array Bool} (h : closedB md ops listed = true) : Closed md ops listed := by
  intro j oj hj hl e he hb
  unfold closedB at h
  rw [List.all_eq_true] at h
  have h1 := h j (List.mem_range.2 (Array.getElem?_eq_some_iff.1 hj).1)
  rw [hl, hj] at h1
  simp only [Bool.not_true, Bool.false_or] at h1
  have h2 := Array.all_eq_true'.1 h1 e he
  rw [hb] at h2
  simpa using h2
theorem Closed.set {i : Nat} {listed : Array Bool} (inv : Closed md ops listed) (hi : i ∈ Region.ready md ops listed) : Closed md ops (listed.setIfInBounds i true) := by
  obtain ⟨_, oi, hoi, hall⟩ := mem_ready.1 hi
  intro j oj hj hl e he hb
  by_cases hij : i = j
  · subst hij
    have : oj = oi := Option.some.inj (hj.symm.trans hoi)
    subst this
    exact getD_set_true (hall e he hb)
  · rw [getD_set_ne false hij] at hl
    exact getD_set_true (inv j oj hj hl e he hb)
/-- Number k waits for number i, by way of others. -/
def leads (md : Region.Mode) (ops : Array Oper) : Nat → List Nat → Nat → Bool
  | k, [], i => Region.waitsFor md ops k i
  | k, j :: p, i => Region.waitsFor md ops k j && leads md ops j p i
theorem leads_spec {listed : Array Bool} (hc : Closed md ops listed) {i : Nat} : ∀ (p : List Nat) (k : Nat), leads md ops k p i = true → listed.getD k false = true → listed.getD i false = true
  | [], k, h, hk => by
    obtain ⟨oj, hoj, e, he, hb, hon⟩ := Region.waitsFor_spec h
    have := hc k oj hoj hk e he hb
    rwa [hon] at this
  | j :: p, k, h, hk => by
    unfold leads at h
    rw [Bool.and_eq_true] at h
    obtain ⟨oj, hoj, e, he, hb, hon⟩ := Region.waitsFor_spec h.1
    have := hc k oj hoj hk e he hb
    rw [hon] at this
    exact leads_spec hc p j h.2 this
/-- Whatever order is picked from here on, and S holds behind every operation till number k has come up. -/
def wpAnyG (P : Program) (md : Region.Mode) (ops : Array Oper) (Q : Exit → Act → World → Prop) (S : World → Prop) (k : Nat) : Nat → Array Bool → Act → World → Prop
  | 0, listed, a, w => Region.ready md ops listed = [] ∧ Q .normal a w
  | fuel + 1, listed, a, w =>
    (Region.ready md ops listed = [] → Q .normal a w) ∧
    ∀ i ∈ Region.ready md ops listed, wpOp P ops Q i (fun a' w' => ((listed.setIfInBounds i true).getD k false = false → S w') ∧ wpAnyG P md ops Q S k fuel (listed.setIfInBounds i true) a' w') a w
/-- Whichever comes up next. -/
def AllG (P : Program) (md : Region.Mode) (ops : Array Oper) (Q : Exit → Act → World → Prop) (S : World → Prop) (k : Nat) (fuel : Nat) (listed : Array Bool) (a : Act) (w : World) (rs : List Nat) : Prop :=
  ∀ i ∈ rs, wpOp P ops Q i (fun a' w' => ((listed.setIfInBounds i true).getD k false = false → S w') ∧ wpAnyG P md ops Q S k fuel (listed.setIfInBounds i true) a' w') a w
theorem AllG.nil {fuel : Nat} {listed : Array Bool} {a : Act} {w : World} : AllG P md ops Q S k fuel listed a w [] := fun _ h => by cases h
theorem AllG.cons {fuel : Nat} {listed : Array Bool} {a : Act} {w : World} {i : Nat} {o : Oper} {rs : List Nat} (ho : ops[i]? = some o)
    (h : ∀ K' : Act → World → Prop, Hid (∀ a w, ((listed.setIfInBounds i true).getD k false = false → S w) → wpAnyG P md ops Q S k fuel (listed.setIfInBounds i true) a w → K' a w) → if Region.wanted o (yielded ops a.tmps) = true then Oper.wp P o a w K' Q else K' (a.put o.dst undef) w)
    (hs : AllG P md ops Q S k fuel listed a w rs) : AllG P md ops Q S k fuel listed a w (i :: rs) := fun j hj => by
  rcases List.mem_cons.1 hj with rfl | hj
  · exact wpOp_step ho (fun K' hK => h K' (fun a w hS hW => hK a w ⟨hS, hW⟩))
  · exact hs j hj
end
end Go.Proofs.YtmlmdlbepppnlaaGreatDoor
namespace Go.Proofs.YtmlmdlbepppnlaaGreatDoor
open Go.RowKit
set_option linter.unusedVariables false
set_option linter.unusedSimpArgs false

section
variable {P : Program} {ops : Array Oper} {Q : Exit → Act → World → Prop} {md : Region.Mode} {S1 S2 : World → Prop} {k : Nat}
/-- What is known of the world behind the operations that have come up. -/
def SH (k : Nat) (S1 S2 : World → Prop) (listed : Array Bool) (w : World) : Prop := (listed.getD k false = false → S1 w) ∧ S2 w
theorem SH.iff {i : Nat} (hik : i ≠ k) (listed : Array Bool) (w : World) : SH k S1 S2 (listed.setIfInBounds i true) w ↔ SH k S1 S2 listed w := by
  unfold SH
  rw [getD_set_ne false hik]
def wpAnyH (P : Program) (md : Region.Mode) (ops : Array Oper) (Q : Exit → Act → World → Prop) (k : Nat) (S1 S2 : World → Prop) : Nat → Array Bool → Act → World → Prop
  | 0, listed, a, w => Region.ready md ops listed = [] ∧ Q .normal a w
  | fuel + 1, listed, a, w =>
    (Region.ready md ops listed = [] → Q .normal a w) ∧
    ∀ i ∈ Region.ready md ops listed, wpOp P ops Q i (fun a' w' => SH k S1 S2 (listed.setIfInBounds i true) w' ∧ wpAnyH P md ops Q k S1 S2 fuel (listed.setIfInBounds i true) a' w') a w
theorem wpAny_of_H : ∀ (fuel : Nat) (listed : Array Bool) (a : Act) (w : World), wpAnyH P md ops Q k S1 S2 fuel listed a w → wpAny P md ops Q fuel listed a w
  | 0, _, _, _, h => h
  | fuel + 1, _, _, _, h => ⟨h.1, fun i hi => wpOp_mono (fun a' w' h' => wpAny_of_H fuel _ a' w' h'.2) (h.2 i hi)⟩
theorem wpAnyH_first {S' : World → Prop} {i : Nat} {oi : Oper} {v : Value} (hi : ops[i]? = some oi) (hik : i ≠ k) (hsel : ∀ (j : Nat) (o : Oper) cs b, ops[j]? = some o → o.op ≠ .select cs b)
    (hQ : ∀ c a w, Q (.panic c) (a.put oi.dst v) w → Q (.panic c) a w) (hT : ∀ listed w, Closed md ops listed → listed.getD i true = false → SH k S1 S2 listed w → S' w) :
    ∀ (fuel : Nat) (listed : Array Bool) (a : Act) (w : World),
      (∀ j oj, ops[j]? = some oj → j ≠ i → listed.getD j true = false → (∀ e ∈ oj.after, Region.binds md e = true → e.on ≠ i) → oi.apart ops oj = true) →
      Closed md ops listed → i ∈ Region.ready md ops listed → YieldsIf P ops S' oi v a → SH k S1 S2 listed w →
      wpAnyH P md ops Q k S1 S2 fuel (listed.setIfInBounds i true) (a.put oi.dst v) w → wpAnyH P md ops Q k S1 S2 (fuel + 1) listed a w := by
  intro fuel
  induction fuel with
  | zero =>
    intro listed a w _ hc hr hy hS H
    refine ⟨fun h => (by rw [h] at hr; cases hr), fun j hj => ?_⟩
    by_cases hji : j = i
    · subst hji
      exact hy.wpOp hi (hT _ _ hc (mem_ready.1 hr).1 hS) ⟨(SH.iff hik _ _).2 hS, H⟩
    · have := ready_mono hj hji
      rw [H.1] at this
      cases this
  | succ fuel ih =>
    intro listed a w hfree hc hr hy hS H
    refine ⟨fun h => (by rw [h] at hr; cases hr), fun j hj => ?_⟩
    by_cases hji : j = i
    · subst hji
      exact hy.wpOp hi (hT _ _ hc (mem_ready.1 hr).1 hS) ⟨(SH.iff hik _ _).2 hS, H⟩
    · have h1 := H.2 j (ready_mono hj hji)
      obtain ⟨hjun, oj, hoj, hall⟩ := mem_ready.1 hj
      have hiun := (mem_ready.1 hr).1
      have hnot : ∀ e ∈ oj.after, Region.binds md e = true → e.on ≠ i := fun e he hb heq => by
        have h1 := hall e he hb
        rw [heq, getD_both hiun] at h1
        cases h1
      have h2 := wpOp_putIf hoj (hfree j oj hoj hji hjun hnot) (fun cs b => hsel i oi cs b hi) (fun cs b => hsel j oj cs b hoj) hQ hy h1
      have hfree' : ∀ k ok, ops[k]? = some ok → k ≠ i → (listed.setIfInBounds j true).getD k true = false →
          (∀ e ∈ ok.after, Region.binds md e = true → e.on ≠ i) → oi.apart ops ok = true := fun k ok hk hki hun hno => by
        refine hfree k ok hk hki ?_ hno
        by_cases hjk : j = k
        · subst hjk; exact hjun
        · rw [getD_set_ne true hjk] at hun; exact hun
      refine wpOp_mono (fun a' w' h3 => ?_) h2
      have hS' : SH k S1 S2 (listed.setIfInBounds j true) w' := by
        have := h3.2.1
        rw [Array.setIfInBounds_comm _ _ (Ne.symm hji)] at this
        exact (SH.iff hik _ _).1 this
      refine ⟨hS', ih (listed.setIfInBounds j true) a' w' hfree' (hc.set hj) (ready_mono hr (Ne.symm hji)) h3.1 hS' ?_⟩
      rw [Array.setIfInBounds_comm _ _ hji]
      exact h3.2.2
/-- Take number i first: it yields in whatever world. -/
theorem wpAnyH_pure {i : Nat} {oi : Oper} {v : Value} {fuel : Nat} {listed : Array Bool} {a : Act} {w : World} (hi : ops[i]? = some oi) (hik : (i == k) = false)
    (hs : Region.noSelect ops = true) (hf : Region.free md ops listed i = true) (hr : (Region.ready md ops listed).contains i = true) (hc : closedB md ops listed = true)
    (hQ : ∀ c a w, Q (.panic c) (a.put oi.dst v) w → Q (.panic c) a w) (hw : Region.wanted oi (yielded ops a.tmps) = true) (hy : ∀ w, (execOp a.eval oi).run P w = .ok (.value v) w) (hS : SH k S1 S2 listed w)
    (h : wpAnyH P md ops Q k S1 S2 fuel (listed.setIfInBounds i true) (a.put oi.dst v) w) : wpAnyH P md ops Q k S1 S2 (fuel + 1) listed a w :=
  wpAnyH_first (S' := fun _ => True) hi (by simpa using hik) (Region.noSelect_spec hs) hQ (fun _ _ _ _ _ => trivial) fuel listed a w (Region.free_spec hi hf) (closed_of hc) (by simpa using hr) (Or.inl ⟨hw, fun w _ => hy w⟩) hS h
/-- Take number i first: it yields in the worlds of S1 and S2, and number k waits for it. -/
theorem wpAnyH_load1 {i : Nat} {oi : Oper} {v : Value} {fuel : Nat} {listed : Array Bool} {a : Act} {w : World} (p : List Nat) (hi : ops[i]? = some oi) (hik : (i == k) = false) (hp : leads md ops k p i = true)
    (hs : Region.noSelect ops = true) (hf : Region.free md ops listed i = true) (hr : (Region.ready md ops listed).contains i = true) (hc : closedB md ops listed = true)
    (hQ : ∀ c a w, Q (.panic c) (a.put oi.dst v) w → Q (.panic c) a w) (hw : Region.wanted oi (yielded ops a.tmps) = true) (hy : ∀ w, S1 w → S2 w → (execOp a.eval oi).run P w = .ok (.value v) w) (hS : SH k S1 S2 listed w)
    (h : wpAnyH P md ops Q k S1 S2 fuel (listed.setIfInBounds i true) (a.put oi.dst v) w) : wpAnyH P md ops Q k S1 S2 (fuel + 1) listed a w :=
  wpAnyH_first (S' := fun w => S1 w ∧ S2 w) hi (by simpa using hik) (Region.noSelect_spec hs) hQ (fun l w hcl hun hSw => ⟨hSw.1 (by
    cases hb : l.getD k false with
    | false => rfl
    | true =>
      have := leads_spec hcl p k hp hb
      rw [getD_both hun] at this
      cases this), hSw.2⟩) fuel listed a w (Region.free_spec hi hf) (closed_of hc) (by simpa using hr) (Or.inl ⟨hw, fun w h => hy w h.1 h.2⟩) hS h
/-- Take number i first: it yields in the worlds of S2. -/
theorem wpAnyH_load2 {i : Nat} {oi : Oper} {v : Value} {fuel : Nat} {listed : Array Bool} {a : Act} {w : World} (hi : ops[i]? = some oi) (hik : (i == k) = false)
    (hs : Region.noSelect ops = true) (hf : Region.free md ops listed i = true) (hr : (Region.ready md ops listed).contains i = true) (hc : closedB md ops listed = true)
    (hQ : ∀ c a w, Q (.panic c) (a.put oi.dst v) w → Q (.panic c) a w) (hw : Region.wanted oi (yielded ops a.tmps) = true) (hy : ∀ w, S2 w → (execOp a.eval oi).run P w = .ok (.value v) w) (hS : SH k S1 S2 listed w)
    (h : wpAnyH P md ops Q k S1 S2 fuel (listed.setIfInBounds i true) (a.put oi.dst v) w) : wpAnyH P md ops Q k S1 S2 (fuel + 1) listed a w :=
  wpAnyH_first (S' := S2) hi (by simpa using hik) (Region.noSelect_spec hs) hQ (fun l w _ _ hSw => hSw.2) fuel listed a w (Region.free_spec hi hf) (closed_of hc) (by simpa using hr) (Or.inl ⟨hw, hy⟩) hS h
/-- The beginning. -/
theorem wp_region_H {id : Nat} {a : Act} {w : World} (k : Nat) (S1 S2 : World → Prop) (hm : P.follows .mixedOrders = true) (h : wpAnyH P .any ops Q k S1 S2 ops.size (Array.replicate ops.size false) a w.drew) : (Code.region id ops true).wp P Q a w :=
  wp_region_any hm (wpAny_of_H _ _ _ _ h)
/-- The one that comes up next. -/
theorem wpAnyH_one {fuel : Nat} {listed : Array Bool} {a : Act} {w : World} {i : Nat} {o : Oper} (hr : Region.ready md ops listed = [i]) (ho : ops[i]? = some o)
    (h : ∀ K' : Act → World → Prop, Hid (∀ a w, SH k S1 S2 (listed.setIfInBounds i true) w → wpAnyH P md ops Q k S1 S2 fuel (listed.setIfInBounds i true) a w → K' a w) → if Region.wanted o (yielded ops a.tmps) = true then Oper.wp P o a w K' Q else K' (a.put o.dst undef) w) :
    wpAnyH P md ops Q k S1 S2 (fuel + 1) listed a w :=
  ⟨(fun h0 => by rw [hr] at h0; cases h0), fun j hj => by
    rw [hr] at hj
    obtain rfl := List.mem_singleton.1 hj
    exact wpOp_step ho (fun K' hK => h K' (fun a w hS hW => hK a w ⟨hS, hW⟩))⟩
theorem wpAnyH_done {listed : Array Bool} {a : Act} {w : World} (hr : Region.ready md ops listed = []) (h : Q .normal a w) :
    ∀ fuel, wpAnyH P md ops Q k S1 S2 fuel listed a w
  | 0 => ⟨hr, h⟩
  | _ + 1 => ⟨fun _ => h, by rw [hr]; simp⟩
end
end Go.Proofs.YtmlmdlbepppnlaaGreatDoor
namespace Go.Proofs.YtmlmdlbepppnlaaGreatDoor
open Go.RowKit Go.MapKept
open Go.Maps (Keyed)
set_option linter.unusedVariables false
set_option linter.unusedSimpArgs false
attribute [local irreducible] Calls

/-- 'append(s, x)' at a step of a region that draws its order: s is the call's own since W0, of which only blocks in T have changed. -/
theorem step_appD {P : Program} {w : World} {ops : Array Oper} {o : Oper} {a : Act} {K : Act → World → Prop} {Q : Exit → Act → World → Prop} {E : Prop} (hgd : o.guard = none) (s x : Operand) (t : TypeId)
    (ho : o.op = .call { callee := .builtin .append, args := #[s, x], argTypes := #[t, t] })
    (base : Nat) (e : TypeId) (z : Value) (size bytes : Nat) (ht : P.underlying t = some (.slice e)) (hinfo : (P.info? e).map (fun i => (i.zero, i.size, i.bytes)) = some (some z, size, bytes)) (hzs : z.cells.size = size) (hsz : 0 < size)
    (v : Value) (n : Nat) (xs : List Value) (hs : a.eval s = v) (W0 : World) (T : Nat → Prop) (hown : W0.ownsRow base e size v n xs) (u : Upd T W0 w) (hT : ∀ k, v.ownBlock = some k → ¬ T k)
    (nb : Nat) (news : List Value) (hx : a.eval x = .slice (some ⟨nb, 0, none⟩) 1 1) (hb : w.heap[nb]? = some (.cells news.toArray e (0, 0))) (hl : news.length = size) (h1 : ∀ u ∈ news, u.oneCell' = true)
    (h63 : n + 1 ≤ maxLen) (hbytes : (n + 1) * bytes ≤ 140737488355328) (hbase : base ≤ W0.heap.size) (hnG : nG ≤ base)
    (h : ∀ g cap w', w'.ownsRow base e size (.slice (some ⟨g, 0, none⟩) (n + 1) cap) (n + 1) (xs ++ news) → Upd (fun k => v.ownBlock = some k) w w' → (v.ownBlock = some g ∨ W0.heap.size ≤ g) → K (a.put o.dst (.slice (some ⟨g, 0, none⟩) (n + 1) cap)) w') :
    if Region.wanted o (yielded ops a.tmps) = true then Oper.wp P o a w K Q else E := by
  obtain ⟨i0, hi, hz0, hz1, hz2⟩ := info_parts hinfo
  have hsz2 := u.size
  refine step_append_lies _ hgd s x t ho base e i0 z size bytes ht hi hz0 hz1 hz2 hzs hsz v n xs hs (owns_updD hown u hT) ⟨nb, 0, none⟩ 1 1 news hx (by omega) ?_ h1 (by omega) h63 hbytes (by omega) w.heap.size rfl fun g cap w' h2 h3 h4 h5 => ?_
  · intro j u hu
    rw [add_plain, cells_cell hb, Nat.zero_add]
    simpa using hu
  · refine h g cap w' h2 ((Upd.refl _ w).grown h3 fun k hk => ⟨Or.inl hk, ?_⟩) (h4.imp id (fun e => by omega))
    have := (hown.lt k hk).1
    omega
/-- 'd.set[p] = true' in two steps: the entry is made, and filled. -/
theorem SetL.entry {w : World} {b : Nat} {q : List (Int × Int)} (h : SetL w b q) (hg : nG ≤ b) {p : Int × Int} (h1 : I64 p.1) (h2 : I64 p.2) (hn : p ∉ q) :
    ∃ (st : Nat) (w1 w2 : World), (Instr.mapEntry tSet (.map (some b)) (secV p)).run Tryz.prog w = .ok (.tuple #[.bool false, .int .i64 st]) w1 ∧ (Instr.entryStore tSet (.map (some b)) (.int .i64 st) (.bool true)).run Tryz.prog w1 = .ok () w2 ∧ SetL w2 b (q ++ [p]) ∧ Upd (· = b) w w2 ∧ Upd (· = b) w w1 := by
  obtain ⟨es, clock, hb, hpm, hk, hs⟩ := h
  obtain ⟨kl, hkl⟩ := sec_key h1 h2
  have hz : ∀ w, (zeroValue 4).run Tryz.prog w = .ok (.bool false) w := fun w => by kernel_rfl
  have ht := Tryz.underlying63
  have hno : ∀ x ∈ es.toList, x.key ≠ secV p := fun x hx e => by
    obtain ⟨y, hy, e2⟩ := List.mem_map.1 (hpm.mem_iff.1 (List.mem_map.2 ⟨x, hx, rfl⟩))
    have := (Prod.mk.inj e2).1
    exact hn (secV_inj (this.trans e) ▸ hy)
  have hlt := lt_of_block hb
  rcases secKeyed.find w hkl es.toList (fun x hx => hk (x.key, x.val) (hpm.mem_iff.1 (List.mem_map.2 ⟨x, hx, rfl⟩))) with ⟨q1, q2⟩ | ⟨j, e0, q1, q2, q3⟩
  · have hst := (stamped_iff es clock).1 hs
    have hb1 : ({ w with heap := w.heap.setIfInBounds b (.map (es.push ⟨secV p, .bool false, clock⟩) (clock + 1)) } : World).heap[b]? = some (.map (es.push ⟨secV p, .bool false, clock⟩) (clock + 1)) := by simp [Array.getElem?_setIfInBounds, hlt]
    refine ⟨clock, { w with heap := w.heap.setIfInBounds b (.map (es.push ⟨secV p, .bool false, clock⟩) (clock + 1)) }, { w with heap := (w.heap.setIfInBounds b (.map (es.push ⟨secV p, .bool false, clock⟩) (clock + 1))).setIfInBounds b (.map (es.push ⟨secV p, .bool true, clock⟩) (clock + 1)) }, ?_, ?_, ?_, ?_, Upd.setBlock hg _⟩
    · simp [Instr.mapEntry, run_underlying ht, MapKept.run_getObj_map hb, secKeyed.check w false hkl, q1, hz, MapKept.run_setObj_map _ hb, Result.andThen, goInt]
    · have hidx : (es.push ⟨secV p, .bool false, clock⟩).findIdx? (fun e => ((e.born : Nat) : Int) == ((clock : Nat) : Int)) = some es.size := by
        rw [Go.WideElems.findIdx_arr]
        exact Go.WideElems.findIdx_born (l := (es.push ⟨secV p, .bool false, clock⟩).toList) (j := es.size) (e0 := ⟨secV p, .bool false, clock⟩) (by
          simp only [Array.toList_push, List.map_append, List.map_cons, List.map_nil]
          refine List.nodup_append.2 ⟨hst.2.1, by simp, fun a ha c hc e1 => ?_⟩
          simp only [List.mem_singleton] at hc
          obtain ⟨x, hx, rfl⟩ := List.mem_map.1 ha
          have := hst.1 x hx
          omega) (by simp)
      have hmod : (es.push ⟨secV p, .bool false, clock⟩).modify es.size (fun e => { e with val := .bool true }) = es.push ⟨secV p, .bool true, clock⟩ := by
        apply Array.ext'
        rw [Array.toList_modify, Array.toList_push, Array.toList_push, ← Array.length_toList, Go.WideElems.modify_last]
      simp [Instr.entryStore, MapKept.run_getObj_map hb1, asInt, asIntOf, hidx, hmod, MapKept.run_setObj_map _ hb1, Result.andThen]
    · refine ⟨es.push ⟨secV p, .bool true, clock⟩, clock + 1, by simp [Array.getElem?_setIfInBounds, hlt], ?_, ?_, stamped_push hs q2⟩
      · rw [List.map_append]
        have := hpm.append_right [(secV p, Value.bool true)]
        simpa [secE] using this
      · intro x hx
        rw [List.map_append] at hx
        rcases List.mem_append.1 hx with hx | hx
        · exact hk x hx
        · rw [List.mem_singleton.1 hx]; exact ⟨kl, hkl⟩
    · exact (Upd.setBlock hg _).trans (Upd.setBlock (w := { w with heap := w.heap.setIfInBounds b (.map (es.push ⟨secV p, .bool false, clock⟩) (clock + 1)) }) hg _)
  · exact absurd q3 (hno e0 (List.mem_of_getElem? q2))
theorem step_mapEntry {P : Program} {w w' : World} {ops : Array Oper} {o : Oper} {a : Act} {K : Act → World → Prop} {Q : Exit → Act → World → Prop} {E : Prop} (hgd : o.guard = none) (t : TypeId) (m x : Operand) (hop : o.op = Op.mapEntry t m x)
    (vm key v : Value) (hm : a.eval m = vm) (hx : a.eval x = key) (hrun : (Instr.mapEntry t vm key).run P w = .ok v w') (h : K (a.put o.dst v) w') : if Region.wanted o (yielded ops a.tmps) = true then Oper.wp P o a w K Q else E := by
  rw [if_pos (by simp [Region.wanted, hgd])]
  unfold Oper.wp
  simp [execOp, hop, hm, hx, hrun, Result.andThen]
  exact h
theorem step_entryStore {P : Program} {w w' : World} {ops : Array Oper} {o : Oper} {a : Act} {K : Act → World → Prop} {Q : Exit → Act → World → Prop} {E : Prop} (hgd : o.guard = none) (t : TypeId) (m x y : Operand) (hop : o.op = Op.entryStore t m x y)
    (vm st v : Value) (hm : a.eval m = vm) (hx : a.eval x = st) (hy : a.eval y = v) (hrun : (Instr.entryStore t vm st v).run P w = .ok () w') (h : K (a.put o.dst undef) w') : if Region.wanted o (yielded ops a.tmps) = true then Oper.wp P o a w K Q else E := by
  rw [if_pos (by simp [Region.wanted, hgd])]
  unfold Oper.wp
  simp [execOp, hop, hm, hx, hy, hrun, Result.andThen]
  exact h
theorem infoSec : (Tryz.prog.info? tSec).map (fun i => (i.zero, i.size, i.bytes)) = some (some (.agg #[.int .i64 0, .int .i64 0]), 2, 16) := by kernel_rfl
/-- What is left when a sector has been noted. -/
theorem note_done {B db fm sm : Nat} {qv kv v' : Value} {W ws w7 : World} {E : Dk.Disk} {p : Int × Int} (h : DiskAt B W ⟨db, fm, sm, qv, kv⟩ E) (hown : ws.ownsRow B tSec 2 v' (E.q.length + 1) (flatQ E.q ++ secL p)) (uS : Upd (fun k => qv.ownBlock = some k) W ws) (oS : ∀ k, v'.ownBlock = some k → qv.ownBlock = some k ∨ W.heap.size ≤ k)
    (u7 : Upd (fun k => k = sm) (ws.setCell ⟨db, 1, none⟩ v') w7) (s7 : SetL w7 sm (E.q ++ [p])) (hk : Dk.Ok { E with q := E.q ++ [p] }) : DiskTo B ⟨db, fm, sm, qv, kv⟩ { E with q := E.q ++ [p] } W w7 := by
  obtain ⟨a1, a2, a3, a4, a5, a6, a7, a8, a9⟩ := h.apart
  dsimp only at a1 a2 a3 a4 a5 a6 a7 a8 a9
  have hne := h.ne
  have hdb := h.db
  have hhb := h.hb
  have hlt : ∀ j, DiskR.foot ⟨db, fm, sm, qv, kv⟩ j → j < W.heap.size := fun j hj => (h.foot_lt hj).2
  dsimp only at hne hdb
  have u6 : Upd (fun k => k = db) ws (ws.setCell ⟨db, 1, none⟩ v') := Upd.set1 (Upd.refl _ _) (by omega) 1 v'
  have b5 := uS.keep h.blk a3
  have hno : ∀ k, v'.ownBlock = some k → k ≠ db ∧ k ≠ sm := fun k hk2 => by
    rcases oS k hk2 with e | e
    · exact ⟨fun e2 => a3 (e2 ▸ e), fun e2 => a5 (e2 ▸ e)⟩
    · have h1 := hlt db (Or.inl rfl)
      have h2 := hlt sm (Or.inr (Or.inr (Or.inl rfl)))
      exact ⟨by omega, by omega⟩
  refine ⟨⟨db, fm, sm, v', kv⟩, ⟨h.hb, h.db, h.fm, h.sm, h.ne, ?_, ?_, s7, ?_, ?_, hk, h.kI⟩, rfl, ?_, ?_⟩
  · have := setCell_block b5 1 v'
    exact u7.keep this a2
  · exact ((h.files.upd uS a4).upd u6 (fun e => a1 e.symm)).upd u7 hne
  · dsimp only
    rw [List.length_append, List.length_singleton, flatQ_snoc]
    exact owns_updD (owns_updD hown u6 (fun k hk2 e => (hno k hk2).1 e)) u7 (fun k hk2 e => (hno k hk2).2 e)
  · refine owns_updD (owns_updD (owns_updD h.keep uS (fun k hk2 e => ?_)) u6 (fun k hk2 e => ?_)) u7 (fun k hk2 e => ?_)
    · exact a9 k e hk2
    · subst e; exact a6 hk2
    · subst e; exact a8 hk2
  · exact ((uS.mono (fun k _ e => Or.inr (Or.inr (Or.inr (Or.inl e))))).trans' u6 (fun k _ e => Or.inl e)).trans' u7 (fun k _ e => Or.inr (Or.inr (Or.inl e)))
  · rintro j (e | e | e | e | e)
    · exact Or.inl (Or.inl e)
    · exact Or.inl (Or.inr (Or.inl e))
    · exact Or.inl (Or.inr (Or.inr (Or.inl e)))
    · exact (oS _ e).imp (fun e => Or.inr (Or.inr (Or.inr (Or.inl e)))) id
    · exact Or.inl (Or.inr (Or.inr (Or.inr (Or.inr e))))
/-- One call after the other. -/
theorem DiskTo.then_ {B : Nat} {w w1 w2 : World} {r r' : DiskR} {D D1 D2 : Dk.Disk} (h0 : DiskAt B w r D) (h1 : DiskAt B w1 r' D1) (hdb : r'.db = r.db) (u1 : Upd r.foot w w1) (f1 : ∀ j, r'.foot j → r.foot j ∨ w.heap.size ≤ j) (h2 : DiskTo B r' D2 w1 w2) : DiskTo B r D2 w w2 := by
  obtain ⟨r2, k1, k2, k3, k4⟩ := h2
  have hlt := u1.size
  refine ⟨r2, k1, k2.trans hdb, u1.trans' k3 (fun k hk e => (f1 k e).elim id (fun e2 => by omega)), fun j hj => ?_⟩
  rcases k4 j hj with e | e
  · exact f1 j e
  · exact Or.inr (by omega)
/-- The map of files is stored into. -/
theorem DiskAt.putF {B : Nat} {w w' : World} {r : DiskR} {D D' : Dk.Disk} (h : DiskAt B w r D) (u : Upd (fun k => k = r.fm) w w') (hf : FilesL w' r.fm D'.fs) (e2 : D'.q = D.q) (e3 : D'.keep = D.keep) (e4 : D'.lost = D.lost) (e5 : D'.down = D.down) (e6 : D'.armed = D.armed) (hk : Dk.Ok D') : DiskAt B w' r D' := by
  obtain ⟨a1, a2, a3, a4, a5, a6, a7, a8, a9⟩ := h.apart
  refine ⟨h.hb, h.db, h.fm, h.sm, h.ne, ?_, hf, ?_, ?_, ?_, hk, by rw [e3]; exact h.kI⟩
  · have := u.keep h.blk a1
    unfold diskC at this ⊢
    rw [e4, e5, e6]; exact this
  · rw [e2]; exact h.set.upd u (fun e => h.ne e.symm)
  · rw [e2]; exact owns_updD h.queue u (fun k hk2 e => by subst e; exact a4 hk2)
  · rw [e3]; exact owns_updD h.keep u (fun k hk2 e => by subst e; exact a7 hk2)
set_option maxHeartbeats 4000000 in
set_option maxRecDepth 100000 in
theorem write0_c {B : Nat} {w : World} {r : DiskR} {D : Dk.Disk} (h : DiskAt B w r D) (g : Gl w) (hB : B ≤ w.heap.size) {f i : Int} (hf : I64 f) (hi : I64 i) (s : List UInt8) (hs : s.length ≤ 1000000000) :
    Calls Tryz.prog 107 #[.pointer (some ⟨r.db, 0, none⟩), .int .i64 f, .int .i64 i, .string ⟨s.toArray⟩] w fun e w' => e = .returned (.int .i64 (Dk.write0 D f i s).2) ∧ DiskTo B r (Dk.write0 D f i s).1 w w' := by
  have hgb := g.big
  have hm := Lib.hid (may_c h f)
  have hsz : (s.length : Int) ≤ 1000000000 := by omega
  have hs0 : (0 : Int) ≤ s.length := by omega
  have H := Lib.hid h
  by_cases hm0 : Dk.may D f = 0
  rotate_left
  · have hr : Hid (Dk.write0 D f i s = (D, Dk.may D f)) := by show _ = _; unfold Dk.write0; rw [if_pos hm0]
    have d0 : (Dk.may D f == 0) = false := beq_eq_false_iff_ne.2 hm0
    have d1 : (Dk.may D f != 0) = true := by simp [hm0]
    clear hm0 h hs hi hf
    go_enter Tryz.func107, Tryz.ntmps107
    go_wp2_with fail
    (with_reducible refine (hm.out).mono ?_)
    rintro _ _ ⟨rfl, rfl⟩
    go_wp2_with fail
    go_ret
    exact ⟨by rw [hr.out]; rfl, by rw [hr.out]; exact DiskTo.refl H.out⟩
  have hfile := (Dk.may_file hm0).2
  have hr0 : Dk.write0 D f i s = if Dk.wErr i s.length ≠ 0 then (D, Dk.wErr i s.length) else (Dk.add D f i.toNat s, 0) := by unfold Dk.write0; rw [if_neg (by omega)]
  rw [hm0] at hm
  clear hm0
  by_cases h1 : i < 0
  · have hr : Hid (Dk.write0 D f i s = (D, 1)) := by
      have : Dk.wErr i s.length = 1 := by unfold Dk.wErr; rw [if_pos h1]
      show _ = _; rw [hr0, this, if_pos (by decide)]
    clear h hs hi hf hr0 hfile
    go_enter Tryz.func107, Tryz.ntmps107
    go_wp2_with fail
    (with_reducible refine (hm.out).mono ?_)
    rintro _ _ ⟨rfl, rfl⟩
    go_wp2_with fail
    go_ret
    exact ⟨by rw [hr.out]; rfl, by rw [hr.out]; exact DiskTo.refl H.out⟩
  by_cases h2 : 16777216 < i
  · have hr : Hid (Dk.write0 D f i s = (D, 6)) := by
      have : Dk.wErr i s.length = 6 := by unfold Dk.wErr; rw [if_neg h1, if_pos (Or.inl h2)]
      show _ = _; rw [hr0, this, if_pos (by decide)]
    clear h hs hi hf hr0 hfile
    go_enter Tryz.func107, Tryz.ntmps107
    go_wp2_with fail
    (with_reducible refine (hm.out).mono ?_)
    rintro _ _ ⟨rfl, rfl⟩
    go_wp2_with fail
    go_ret
    exact ⟨by rw [hr.out]; rfl, by rw [hr.out]; exact DiskTo.refl H.out⟩
  have hi2 : i ≤ 16777216 := by omega
  have hi0 : 0 ≤ i := by omega
  by_cases h3 : 16777216 - i < s.length
  · have hr : Hid (Dk.write0 D f i s = (D, 6)) := by
      have : Dk.wErr i s.length = 6 := by unfold Dk.wErr; rw [if_neg h1, if_pos (Or.inr h3)]
      show _ = _; rw [hr0, this, if_pos (by decide)]
    clear h hs hi hf hr0 h1 h2 hfile
    go_enter Tryz.func107, Tryz.ntmps107
    go_wp2_with fail
    (with_reducible refine (hm.out).mono ?_)
    rintro _ _ ⟨rfl, rfl⟩
    go_wp2_with fail
    go_ret
    exact ⟨by rw [hr.out]; rfl, by rw [hr.out]; exact DiskTo.refl H.out⟩
  have hr1 : Dk.write0 D f i s = (Dk.add D f i.toNat s, 0) := by
    have : Dk.wErr i s.length = 0 := by unfold Dk.wErr; rw [if_neg h1, if_neg (by omega)]
    rw [hr0, this, if_neg (by decide)]
  by_cases h4 : s = []
  · have hr : Hid (Dk.write0 D f i s = (D, 0)) := by show _ = _; rw [hr1]; unfold Dk.add; rw [if_pos h4]
    subst h4
    clear h hs hi hf hr0 hr1 h1 h2 hfile
    go_enter Tryz.func107, Tryz.ntmps107
    go_wp2_with fail
    (with_reducible refine (hm.out).mono ?_)
    rintro _ _ ⟨rfl, rfl⟩
    go_wp2_with fail
    go_ret
    exact ⟨by rw [hr.out]; rfl, by rw [hr.out]; exact DiskTo.refl H.out⟩
  obtain ⟨i, rfl⟩ : ∃ m : Nat, i = m := ⟨i.toNat, by omega⟩
  have hin : i + s.length ≤ 16777216 := by omega
  have hpos : 0 < s.length := List.length_pos_iff.2 h4
  have hr : Hid (Dk.write0 D f i s = (Dk.add D f i s, 0)) := by show _ = _; rw [hr1]; rfl
  have hall : Hid (Dk.addK D f i s (Dk.secs i s.length).length = Dk.add D f i s) := Dk.addK_all h4
  have hOk : Hid (∀ k, Dk.Ok (Dk.addK D f i s k)) := fun k => Dk.addK_ok h.ok h4 hfile hin k
  have hsucc : Hid (∀ k, k < (Dk.secs i s.length).length → Dk.addK D f i s (k + 1) = _) := fun k hk => Dk.addK_succ hk
  have hK : Hid ((Dk.secs i s.length).length = (i + s.length - 1) / 64 + 1 - i / 64) := Dk.secs_len i s.length
  have hte : s.isEmpty = false := by cases s with | nil => exact absurd rfl h4 | cons _ _ => rfl
  have hte2 : (s == ([] : List UInt8)) = false := by cases s with | nil => exact absurd rfl h4 | cons _ _ => rfl
  obtain ⟨c0, _, _, _, _, _, _⟩ := h.cells
  have hl := h.files.look hf
  have hnow := h.ok.now f
  unfold filV at hl
  have hfs : Hid (∀ k, (Dk.addK D f i s k).fs = Dk.setF D.fs f ⟨Dk.put (D.fs f).now i s, (D.fs f).last⟩) := fun k => rfl
  generalize (D.fs f).now = N at *
  generalize (D.fs f).last = L at *
  have Hl := Lib.hid hl
  have n1 := nw_alloc w (.cells #[.string ⟨N.toArray⟩, .string ⟨L.toArray⟩] tFile)
  have k1 := heap_new w (.cells #[.string ⟨N.toArray⟩, .string ⟨L.toArray⟩] tFile)
  have hp := put_c N s i (w.alloc (.cells #[.string ⟨N.toArray⟩, .string ⟨L.toArray⟩] tFile)) (g.upd n1) hnow hin
  have Hp := Lib.hid hp
  have K1 := Lib.hid k1
  obtain ⟨_, _⟩ := cell2D k1
  have Hin := Lib.hid hin
  have b1 : (i : Int) + s.length ≤ 16777216 := by omega
  have b2 : (1 : Int) ≤ s.length := by omega
  have Hpos := Lib.hid hpos
  have Hfile := Lib.hid hfile
  have Hs := Lib.hid hs
  clear hl hnow hp k1 hin hpos hfile hs h4 hr0 hr1 h1 h2 h3 hs0 h
  go_enter Tryz.func107, Tryz.ntmps107
  go_wp2_with fail
  (with_reducible refine (hm.out).mono ?_)
  rintro _ _ ⟨rfl, rfl⟩
  go_wp2_with (at_lookup; refine wpList_lookL rfl _ _ tFiles false rfl _ _ _ rfl rfl Hl.out ?_)
  (with_reducible refine (Hp.out).mono ?_)
  rintro _ w2 ⟨rfl, u2⟩
  generalize Dk.put N i s = P at *
  have k2 := Nw.keep u2 K1.out
  obtain ⟨_, _⟩ := cell2D k2
  have f0 := cells_frozen k2 0
  have h2 := (H.out.nw n1).nw u2
  have hxb : ¬ r.foot w.heap.size := fun e => by have := (H.out.foot_lt e).2; omega
  have x3 : Upd (fun k => k = w.heap.size) w2 (w2.setCell ⟨w.heap.size, 0, none⟩ (.string ⟨P.toArray⟩)) := Upd.set1 (Upd.refl _ _) hgb 0 _
  have h3 := h2.upd x3 (fun k hk e => by subst e; exact hxb hk)
  have k3 : (w2.setCell ⟨w.heap.size, 0, none⟩ (.string ⟨P.toArray⟩)).heap[w.heap.size]? = some (.cells #[.string ⟨P.toArray⟩, .string ⟨L.toArray⟩] tFile (0, 0)) := setCell_block k2 0 _
  have l0 := h3.laterD.1
  have lb : ∀ j : Later (w2.setCell ⟨w.heap.size, 0, none⟩ (.string ⟨P.toArray⟩)), j.1.cell? ⟨w.heap.size, 0, none⟩ = some (.string ⟨P.toArray⟩) ∧ j.1.cell? ⟨w.heap.size, 1, none⟩ = some (.string ⟨L.toArray⟩) := fun j => cell2D (j.nw.keep k3)
  have lb0 := fun j => (lb j).1
  have lb1 := fun j => (lb j).2
  have U3 : Hid (Nw w (w2.setCell ⟨w.heap.size, 0, none⟩ (.string ⟨P.toArray⟩))) := (n1.trans u2).trans' x3 (fun k hk e => by omega)
  have H3 := Lib.hid h3
  clear h2 h3 k3 lb x3 Hp
  go_wp2_with fail
  refine wp_region_nw_tail 6 (by kernel_rfl) (by kernel_rfl) ?_
  simp only [List.take_succ_cons, List.take_zero, List.drop_succ_cons, List.drop_zero]
  repeat (go_big_quiet_step ((fail)))
  refine wpQuiet_nil ?_
  intro w4 u4
  replace u4 := later_out u4
  have h4 := H3.out.nw u4
  obtain ⟨w5, hst, hf5, u5⟩ := h4.files.put (Nat.le_trans h4.hb h4.fm) hf ⟨P, L⟩
  rw [← hfs.out 0] at hf5
  have U5 : Hid (Upd (fun k => k = r.fm) w w5) := (Nw.trans (U3.out.trans u4) u5)
  have h5 : DiskAt B w5 r (Dk.addK D f i s 0) := h4.putF u5 hf5 rfl rfl rfl rfl rfl (hOk.out 0)
  have HT : Hid (DiskTo B r (Dk.addK D f i s 0) w w5) := ⟨r, h5, rfl, U5.out.mono (fun k _ e => Or.inr (Or.inl e)), fun j hj => Or.inl hj⟩
  dsimp only [filV] at hst
  have Hst := Lib.hid hst
  clear hst hf5 h4 h5 l0 lb0 lb1 U3 H3 Hl c0 f0 k2
  go_wp2_with (at_mapUpdate; refine wpList_storeL rfl _ _ _ tFiles rfl _ _ _ rfl rfl rfl Hst.out ?_)
  go_wp2_with fail
  go_loopw [11] (fun iv wr => ∃ k : Nat, k ≤ (Dk.secs i s.length).length ∧ iv = .int .i64 ((i / 64 + k : Nat) : Int) ∧ Hid (DiskTo B r (Dk.addK D f i s k) w wr)) (fun iv _ => i / 64 + (Dk.secs i s.length).length - (intOf iv).toNat)
  case atStart => exact ⟨0, Nat.zero_le _, by show Value.int _ _ = Value.int _ _; congr 1, HT.out⟩
  case round =>
    obtain ⟨k, hk, rfl, HD⟩ := hrel
    by_cases hlt : k < (Dk.secs i s.length).length
    · have hle : ((i / 64 + k : Nat) : Int) ≤ ((i : Int) + s.length - 1) / 64 := by
        have := hK.out; have := Hpos.out; omega
      have hn18 : i / 64 + k < 262144 := by have := hK.out; have := Hin.out; have := Hpos.out; omega
      have hsc := hsucc.out k hlt
      have hOk1 := hOk.out (k + 1)
      obtain ⟨r', h', hrb, u', hft⟩ := HD.out
      have hI1 : I64 f := hf
      have hI2 : I64 ((i / 64 + k : Nat) : Int) := by unfold I64; omega
      have hqle := h'.ok.q_len
      have hnxt : Dk.Ok { Dk.addK D f i s k with q := Dk.addS (Dk.addK D f i s k).q (f, ((i / 64 + k : Nat) : Int)) } := by rw [← hsc]; exact hOk1
      have hfin : ∀ z, DiskTo B r' { Dk.addK D f i s k with q := Dk.addS (Dk.addK D f i s k).q (f, ((i / 64 + k : Nat) : Int)) } wr z → Hid (DiskTo B r (Dk.addK D f i s (k + 1)) w z) := fun z hz => by
        show DiskTo _ _ _ _ _
        rw [hsc]
        exact DiskTo.then_ H.out h' hrb u' hft hz
      have Hfin := Lib.hid hfin
      have hN : Hid (((i / 64 + k : Nat) : Int) + 1 = ((i / 64 + (k + 1) : Nat) : Int)) := by show _ = _; omega
      generalize hE : Dk.addK D f i s k = E at *
      have hn0 : ((i / 64 + k : Nat) : Int) < 262144 := by omega
      generalize hnn : i / 64 + k = n at *
      have n1 := nw_alloc wr (.cells #[.int .i64 f, .int .i64 n] tSec)
      have k1 := heap_new wr (.cells #[.int .i64 f, .int .i64 n] tSec)
      have h1 := h'.nw n1
      obtain ⟨db, fm, sm, qv, kv⟩ := r'
      obtain ⟨aq, cq, hqv⟩ := own_slD h'.queue
      dsimp only at hqv hrb
      subst hqv hrb
      have l2 := h1.laterD.2.2
      have l1 := h1.laterD.2.1
      have lb : ∀ j : Later (wr.alloc (.cells #[.int .i64 f, .int .i64 n] tSec)), j.1.cell? ⟨wr.heap.size, 0, none⟩ = some (.int .i64 f) ∧ j.1.cell? ⟨wr.heap.size, 1, none⟩ = some (.int .i64 n) := fun j => cell2D (j.nw.keep k1)
      have lb0 := fun j => (lb j).1
      have lb1 := fun j => (lb j).2
      have hlk := fun j : Later (wr.alloc (.cells #[.int .i64 f, .int .i64 n] tSec)) => ((h1.nw j.nw).set).look (p := (f, (n : Int))) hI1 hI2
      dsimp only [secV] at hlk l2 l1
      have H1 := Lib.hid h1
      have hH' := Lib.hid h'
      have K1 := Lib.hid k1
      have Hqle := Lib.hid hqle
      have Hnn := Lib.hid hnn
      cases hin2 : decide ((f, (n : Int)) ∈ E.q) with
      | true =>
        rw [hin2] at hlk
        have hin3 := of_decide_eq_true hin2
        have hz2 : Hid (∀ z, Nw (wr.alloc (.cells #[.int .i64 f, .int .i64 n] tSec)) z → Hid (DiskTo B r (Dk.addK D f i s (k + 1)) w z)) := fun z uz => Hfin.out z (by
          rw [Dk.addS_in hin3]
          exact DiskTo.of_nw hH'.out (n1.trans uz))
        clear hin2 hin3 h1 h' k1 hqle lb hnxt hfin hE hnn hsc hOk1 u' hft HD l1 Hfin
        go_wp2_with fail
        refine wp_region_nw (by kernel_rfl) (by kernel_rfl) ?_
        repeat (go_big_quiet_step ((fail)))
        refine wpQuiet_nil ?_
        intro w6 u6
        replace u6 := later_out u6
        have hz3 := hz2.out _ u6
        go_wp2_with fail
        go_roundw
        case rel => exact ⟨k + 1, by omega, by rw [← hN.out], hz3⟩
        case measure => have := Hnn.out; simp [intOf]; omega
      | false =>
        rw [hin2] at hlk
        have hin3 := of_decide_eq_false hin2
        rw [Dk.addS_out hin3] at Hfin hnxt
        have Hnxt := Lib.hid hnxt
        have Hin3 := Lib.hid hin3
        have hI := Lib.hid (And.intro hI1 hI2)
        clear hin2 hin3 h1 h' k1 hqle lb hnxt hfin hE hnn hsc hOk1 u' hft HD hI1 hI2
        go_wp2_with fail
        refine wp_region_nw (by kernel_rfl) (by kernel_rfl) ?_
        repeat (go_big_quiet_step ((fail)))
        refine wpQuiet_nil ?_
        intro w6 u6
        replace u6 := later_out u6
        have h6 := H1.out.nw u6
        obtain ⟨_, x1, x2, _, _, _, _⟩ := h6.cells
        obtain ⟨y0, y1⟩ := cell2D (Nw.keep u6 K1.out)
        have k6 := Nw.keep u6 K1.out
        dsimp only at x1 x2
        have H6 := Lib.hid h6
        have hgb6 : nG ≤ B := h6.hb
        have hB6 : B ≤ w6.heap.size := by have := h6.db; have := lt_of_block h6.blk; dsimp only at *; omega
        have q6 := Lib.hid h6.queue
        have K6 := Lib.hid k6
        have hpb : (Value.slice aq E.q.length cq).ownBlock ≠ some wr.heap.size := fun e => by
          have := (hH'.out.foot_lt (Or.inr (Or.inr (Or.inr (Or.inl e))))).2; omega
        have HSall : Hid (∀ z, Upd (fun j => (Value.slice aq E.q.length cq).ownBlock = some j) w6 z → (z.cell? ⟨r.db, 1, none⟩ = some (.slice aq E.q.length cq) ∧ True) ∧ (z.cell? ⟨r.db, 2, none⟩ = some (.map (some sm)) ∧ z.cell? ⟨wr.heap.size, 0, none⟩ = some (.int .i64 f) ∧ z.cell? ⟨wr.heap.size, 1, none⟩ = some (.int .i64 n)) ∧ z.frozen? ⟨r.db, 1, none⟩ = false) := fun z uz => by
          have hbz := uz.keep H6.out.blk (DiskAt.apart H6.out).2.2.1
          have hkz := uz.keep K6.out hpb
          obtain ⟨z0, z1⟩ := cell2D hkz
          refine ⟨⟨?_, trivial⟩, ⟨?_, z0, z1⟩, cells_frozen hbz 1⟩
          · rw [cells_cell hbz]; rfl
          · rw [cells_cell hbz]; rfl
        have HSd := HSall.out w6.drew (Upd.refl _ _).drew
        have HSa := fun o => HSall.out (w6.drew.alloc o) ((Upd.refl _ _).drew.alloc o)
        have hs0 : SH 15 (fun z => z.cell? ⟨r.db, 1, none⟩ = some (.slice aq E.q.length cq) ∧ True) (fun z => z.cell? ⟨r.db, 2, none⟩ = some (.map (some sm)) ∧ z.cell? ⟨wr.heap.size, 0, none⟩ = some (.int .i64 f) ∧ z.cell? ⟨wr.heap.size, 1, none⟩ = some (.int .i64 n)) (Array.replicate 19 false) w6.drew := ⟨fun _ => HSd.1, HSd.2.1⟩
        clear h6 k6 l1 l2 lb0 lb1 hlk K1 H1
        go_wp2_with fail
        refine wp_region_H 15 (fun z => z.cell? ⟨r.db, 1, none⟩ = some (.slice aq E.q.length cq) ∧ True) (fun z => z.cell? ⟨r.db, 2, none⟩ = some (.map (some sm)) ∧ z.cell? ⟨wr.heap.size, 0, none⟩ = some (.int .i64 f) ∧ z.cell? ⟨wr.heap.size, 1, none⟩ = some (.int .i64 n)) (by kernel_rfl) ?_
        refine wpAnyH_pure (i := 0) (v := ?_) rfl (by kernel_rfl) (by kernel_rfl) (by kernel_rfl) (by kernel_rfl) (by kernel_rfl) (fun _ _ _ h => h) (by rfl) ?_ (⟨fun _ => HSd.1, HSd.2.1⟩) ?_
        rotate_left 1
        · (intro zz; go_simp; first | done | with_reducible rfl)
        (try simp only [Act.put, List.setIfInBounds_toArray, List.set_cons_zero, List.set_cons_succ])
        refine wpAnyH_pure (i := 1) (v := ?_) rfl (by kernel_rfl) (by kernel_rfl) (by kernel_rfl) (by kernel_rfl) (by kernel_rfl) (fun _ _ _ h => h) (by rfl) ?_ (⟨fun _ => HSd.1, HSd.2.1⟩) ?_
        rotate_left 1
        · (intro zz; go_simp; first | done | with_reducible rfl)
        (try simp only [Act.put, List.setIfInBounds_toArray, List.set_cons_zero, List.set_cons_succ])
        refine wpAnyH_pure (i := 2) (v := ?_) rfl (by kernel_rfl) (by kernel_rfl) (by kernel_rfl) (by kernel_rfl) (by kernel_rfl) (fun _ _ _ h => h) (by rfl) ?_ (⟨fun _ => HSd.1, HSd.2.1⟩) ?_
        rotate_left 1
        · (intro zz; go_simp; first | done | with_reducible rfl)
        (try simp only [Act.put, List.setIfInBounds_toArray, List.set_cons_zero, List.set_cons_succ])
        refine wpAnyH_pure (i := 3) (v := ?_) rfl (by kernel_rfl) (by kernel_rfl) (by kernel_rfl) (by kernel_rfl) (by kernel_rfl) (fun _ _ _ h => h) (by rfl) ?_ (⟨fun _ => HSd.1, HSd.2.1⟩) ?_
        rotate_left 1
        · (intro zz; go_simp; first | done | with_reducible rfl)
        (try simp only [Act.put, List.setIfInBounds_toArray, List.set_cons_zero, List.set_cons_succ])
        refine wpAnyH_load2 (i := 4) (v := ?_) rfl (by kernel_rfl) (by kernel_rfl) (by kernel_rfl) (by kernel_rfl) (by kernel_rfl) (fun _ _ _ h => h) (by rfl) ?_ (⟨fun _ => HSd.1, HSd.2.1⟩) ?_
        rotate_left 1
        · (intro zz hS2; obtain ⟨_, _, _⟩ := hS2; go_simp; first | done | with_reducible rfl)
        (try simp only [Act.put, List.setIfInBounds_toArray, List.set_cons_zero, List.set_cons_succ])
        refine wpAnyH_load2 (i := 5) (v := ?_) rfl (by kernel_rfl) (by kernel_rfl) (by kernel_rfl) (by kernel_rfl) (by kernel_rfl) (fun _ _ _ h => h) (by rfl) ?_ (⟨fun _ => HSd.1, HSd.2.1⟩) ?_
        rotate_left 1
        · (intro zz hS2; obtain ⟨_, _, _⟩ := hS2; go_simp; first | done | with_reducible rfl)
        (try simp only [Act.put, List.setIfInBounds_toArray, List.set_cons_zero, List.set_cons_succ])
        refine wpAnyH_pure (i := 6) (v := ?_) rfl (by kernel_rfl) (by kernel_rfl) (by kernel_rfl) (by kernel_rfl) (by kernel_rfl) (fun _ _ _ h => h) (by rfl) ?_ (⟨fun _ => HSd.1, HSd.2.1⟩) ?_
        rotate_left 1
        · (intro zz; go_simp; first | done | with_reducible rfl)
        (try simp only [Act.put, List.setIfInBounds_toArray, List.set_cons_zero, List.set_cons_succ])
        refine wpAnyH_pure (i := 7) (v := ?_) rfl (by kernel_rfl) (by kernel_rfl) (by kernel_rfl) (by kernel_rfl) (by kernel_rfl) (fun _ _ _ h => h) (by rfl) ?_ (⟨fun _ => HSd.1, HSd.2.1⟩) ?_
        rotate_left 1
        · (intro zz; go_simp; first | done | with_reducible rfl)
        (try simp only [Act.put, List.setIfInBounds_toArray, List.set_cons_zero, List.set_cons_succ])
        refine wpAnyH_pure (i := 8) (v := ?_) rfl (by kernel_rfl) (by kernel_rfl) (by kernel_rfl) (by kernel_rfl) (by kernel_rfl) (fun _ _ _ h => h) (by rfl) ?_ (⟨fun _ => HSd.1, HSd.2.1⟩) ?_
        rotate_left 1
        · (intro zz; go_simp; first | done | with_reducible rfl)
        (try simp only [Act.put, List.setIfInBounds_toArray, List.set_cons_zero, List.set_cons_succ])
        refine wpAnyH_load1 (i := 9) (v := ?_) [] rfl (by kernel_rfl) (by kernel_rfl) (by kernel_rfl) (by kernel_rfl) (by kernel_rfl) (by kernel_rfl) (fun _ _ _ h => h) (by rfl) ?_ (⟨fun _ => HSd.1, HSd.2.1⟩) ?_
        rotate_left 1
        · (intro zz hS1 hS2; obtain ⟨_, _⟩ := hS1; obtain ⟨_, _, _⟩ := hS2; go_simp; first | done | with_reducible rfl)
        (try simp only [Act.put, List.setIfInBounds_toArray, List.set_cons_zero, List.set_cons_succ])
        refine wpAnyH_load2 (i := 10) (v := ?_) rfl (by kernel_rfl) (by kernel_rfl) (by kernel_rfl) (by kernel_rfl) (by kernel_rfl) (fun _ _ _ h => h) (by rfl) ?_ (⟨fun _ => HSd.1, HSd.2.1⟩) ?_
        rotate_left 1
        · (intro zz hS2; obtain ⟨_, _, _⟩ := hS2; go_simp; first | done | with_reducible rfl)
        (try simp only [Act.put, List.setIfInBounds_toArray, List.set_cons_zero, List.set_cons_succ])
        refine wpAnyH_one (i := 11) (by kernel_rfl) rfl (fun K hK => ?_)
        go_simp
        refine hK.out _ _ ⟨fun _ => (HSa _).1, (HSa _).2.1⟩ ?_
        clear hK K
        (try simp only [Act.put, List.setIfInBounds_toArray, List.set_cons_zero, List.set_cons_succ])
        refine wpAnyH_one (i := 12) (by kernel_rfl) rfl (fun K hK => ?_)
        have hq4 : E.q.length + 1 ≤ maxLen := by have := Hqle.out; unfold maxLen; omega
        have hq5 : (E.q.length + 1) * 16 ≤ 140737488355328 := by have := Hqle.out; omega
        refine step_appD rfl _ _ 64 rfl B tSec _ 2 16 Tryz.underlying64 infoSec rfl (by decide) (.slice aq E.q.length cq) E.q.length (flatQ E.q) rfl w6 (fun _ => False) q6.out ((Upd.refl _ _).drew.alloc _) (fun _ _ e => e) _ (secL (f, (n : Int))) rfl (by first | exact heap_new _ _ | exact heap_at (by simp)) rfl (by intro u hu; simp only [secL, List.mem_cons, List.not_mem_nil, or_false] at hu; rcases hu with rfl | rfl <;> rfl) hq4 hq5 hB6 hgb6 ?_
        intro gs cs ws hownS uS oS
        have uW : Upd (fun j => (Value.slice aq E.q.length cq).ownBlock = some j) w6 ws := Upd.trans (((Upd.refl _ _).drew).alloc _) uS
        have hS := HSall.out ws uW
        refine hK.out _ _ ⟨fun _ => hS.1, hS.2.1⟩ ?_
        clear hK K
        (try simp only [Act.put, List.setIfInBounds_toArray, List.set_cons_zero, List.set_cons_succ])
        refine wpAnyH_pure (i := 13) (v := ?_) rfl (by kernel_rfl) (by kernel_rfl) (by kernel_rfl) (by kernel_rfl) (by kernel_rfl) (fun _ _ _ h => h) (by rfl) ?_ (⟨fun _ => hS.1, hS.2.1⟩) ?_
        rotate_left 1
        · (intro zz; go_simp; first | done | with_reducible rfl)
        (try simp only [Act.put, List.setIfInBounds_toArray, List.set_cons_zero, List.set_cons_succ])
        refine wpAnyH_pure (i := 14) (v := ?_) rfl (by kernel_rfl) (by kernel_rfl) (by kernel_rfl) (by kernel_rfl) (by kernel_rfl) (fun _ _ _ h => h) (by rfl) ?_ (⟨fun _ => hS.1, hS.2.1⟩) ?_
        rotate_left 1
        · (intro zz; go_simp; first | done | with_reducible rfl)
        (try simp only [Act.put, List.setIfInBounds_toArray, List.set_cons_zero, List.set_cons_succ])
        have z1 := hS.1.1
        have zf := hS.2.2
        have hdb6 := H6.out.db
        dsimp only at hdb6
        have u15 : Upd (fun j => j = r.db) ws (ws.setCell ⟨r.db, 1, none⟩ (.slice (some ⟨gs, 0, none⟩) (E.q.length + 1) cs)) := Upd.set1 (Upd.refl _ _) (by omega) 1 _
        obtain ⟨a1, a2, a3, a4, a5, a6, a7, a8, a9⟩ := DiskAt.apart H6.out
        dsimp only at a1 a2 a3 a4 a5 a6 a7 a8 a9
        have hb15 := setCell_block (uW.keep H6.out.blk a3) 1 (.slice (some ⟨gs, 0, none⟩) (E.q.length + 1) cs)
        have hpdb : wr.heap.size ≠ r.db := fun e => by have := (hH'.out.foot_lt (Or.inl rfl)).2; dsimp only at this; omega
        have hpsm : wr.heap.size ≠ sm := fun e => by have := (hH'.out.foot_lt (Or.inr (Or.inr (Or.inl rfl)))).2; dsimp only at this; omega
        have hk15 := u15.keep (uW.keep K6.out hpb) hpdb
        have s15 := (H6.out.set.upd uW a5).upd u15 (fun e => a2 e.symm)
        have hgsm : nG ≤ sm := Nat.le_trans hgb6 H6.out.sm
        obtain ⟨st, w16, w18, he, hs, s18, u18, u16⟩ := SetL.entry s15 hgsm hI.out.1 hI.out.2 Hin3.out
        have hc15 : ∀ {z : World} {T : Nat → Prop}, Upd T (ws.setCell ⟨r.db, 1, none⟩ (.slice (some ⟨gs, 0, none⟩) (E.q.length + 1) cs)) z → (∀ j, T j → j = sm) → z.cell? ⟨r.db, 2, none⟩ = some (.map (some sm)) ∧ z.cell? ⟨wr.heap.size, 0, none⟩ = some (.int .i64 f) ∧ z.cell? ⟨wr.heap.size, 1, none⟩ = some (.int .i64 n) := fun {z T} uz hT => by
          have q1 := uz.keep hb15 (fun e => a2 (hT _ e))
          obtain ⟨q2, q3⟩ := cell2D (uz.keep hk15 (fun e => hpsm (hT _ e)))
          exact ⟨by rw [cells_cell q1]; rfl, q2, q3⟩
        have hS15 := hc15 (Upd.refl (fun _ => False) _) (fun _ e => e.elim)
        have hS16 := hc15 u16 (fun _ e => e)
        have hS18 := hc15 u18 (fun _ e => e)
        have hoS : ∀ k, (Value.slice (some ⟨gs, 0, none⟩) (E.q.length + 1) cs).ownBlock = some k → (Value.slice aq E.q.length cq).ownBlock = some k ∨ w6.heap.size ≤ k := fun k e => by
          obtain rfl : gs = k := by simpa [Value.ownBlock] using e
          exact oS
        have hz3 := Hfin.out w18 (DiskTo.after (n1.trans u6) (note_done H6.out hownS uW hoS u18 s18 Hnxt.out))
        have He := Lib.hid he
        have Hs18 := Lib.hid hs
        clear he hs hb15 hk15 s15 hc15 hownS uS oS hoS s18 hS q6 Hin3 Hnxt Hfin
        dsimp only [secV] at *
        refine wpAnyH_one (i := 15) (by kernel_rfl) rfl (fun K hK => ?_)
        go_simp
        refine hK.out _ _ ⟨fun e => absurd (show true = false from e) (by decide), hS15⟩ ?_
        clear hK K
        (try simp only [Act.put, List.setIfInBounds_toArray, List.set_cons_zero, List.set_cons_succ])
        refine wpAnyH_one (i := 16) (by kernel_rfl) rfl (fun K hK => ?_)
        refine step_mapEntry rfl tSet _ _ rfl _ _ _ rfl rfl He.out ?_
        refine hK.out _ _ ⟨fun e => absurd (show true = false from e) (by decide), hS16⟩ ?_
        clear hK K
        (try simp only [Act.put, List.setIfInBounds_toArray, List.set_cons_zero, List.set_cons_succ])
        refine wpAnyH_pure (i := 17) (v := ?_) rfl (by kernel_rfl) (by kernel_rfl) (by kernel_rfl) (by kernel_rfl) (by kernel_rfl) (fun _ _ _ h => h) (by rfl) ?_ (⟨fun e => absurd (show true = false from e) (by decide), hS16⟩) ?_
        rotate_left 1
        · (intro zz; go_simp; first | done | with_reducible rfl)
        (try simp only [Act.put, List.setIfInBounds_toArray, List.set_cons_zero, List.set_cons_succ])
        refine wpAnyH_one (i := 18) (by kernel_rfl) rfl (fun K hK => ?_)
        refine step_entryStore rfl tSet _ _ _ rfl _ _ _ rfl rfl rfl Hs18.out ?_
        refine hK.out _ _ ⟨fun e => absurd (show true = false from e) (by decide), hS18⟩ ?_
        clear hK K
        (try simp only [Act.put, List.setIfInBounds_toArray, List.set_cons_zero, List.set_cons_succ])
        refine wpAnyH_done (by kernel_rfl) ?_ _
        go_wp2_with fail
        go_roundw
        case rel => exact ⟨k + 1, by omega, by rw [← hN.out], hz3⟩
        case measure => have := Hnn.out; simp [intOf]; omega
    · obtain rfl : k = (Dk.secs i s.length).length := by omega
      have hle : ¬ ((i / 64 + (Dk.secs i s.length).length : Nat) : Int) ≤ ((i : Int) + s.length - 1) / 64 := by
        have := hK.out; have := Hpos.out; omega
      have hz3 := HD.out
      rw [hall.out] at hz3
      have Hz3 := Lib.hid hz3
      clear hz3
      go_wp2_with fail
      go_ret
      exact ⟨by rw [hr.out]; rfl, by rw [hr.out]; exact Hz3.out⟩
end Go.Proofs.YtmlmdlbepppnlaaGreatDoor
namespace Go.Proofs.YtmlmdlbepppnlaaGreatDoor
open Go.RowKit
set_option linter.unusedVariables false
set_option linter.unusedSimpArgs false
attribute [local irreducible] Calls

/-- The cells of a list of numbers. -/
theorem int_cells {lo hi : Nat} {w : World} {v : Value} {l : List Int} (h : Sl lo hi w v (l.map intD)) :
    ∃ a cap, v = .slice a l.length cap ∧ l.length ≤ maxLen ∧ (l = [] ∨ ∃ b off, a = some ⟨b, off, none⟩ ∧ b < hi ∧ b < w.heap.size ∧ ∀ i (h : i < l.length), w.cell? ⟨b, off + i, none⟩ = some (.int .i64 l[i])) := by
  obtain ⟨a, cap, rfl, hm, h⟩ := h.open_
  rw [List.length_map] at hm
  refine ⟨a, cap, by rw [List.length_map], hm, ?_⟩
  rcases h with ⟨_, _, h⟩ | ⟨b, off, rfl, _, hb1, hb, hc⟩
  · exact Or.inl (by simpa using h)
  · refine Or.inr ⟨b, off, rfl, hb1, hb, fun i hi => ?_⟩
    have h2 := hc i (by simpa using hi)
    rw [h2, List.getElem?_map, List.getElem?_eq_getElem hi]; rfl
theorem and1 (x : Int) : bits .and .i64 x 1 = x % 2 := by
  have e : (BitVec.ofInt IntKind.i64.bits x &&& BitVec.ofInt IntKind.i64.bits 1).toNat = (x % 2).toNat := by
    rw [BitVec.toNat_and]
    have h1 : (BitVec.ofInt IntKind.i64.bits 1).toNat = 1 := by decide
    rw [h1, Nat.and_one_is_mod, BitVec.toNat_ofInt]
    simp only [IntKind.bits]
    omega
  show IntKind.i64.wrap ((BitVec.ofInt IntKind.i64.bits x &&& BitVec.ofInt IntKind.i64.bits 1).toNat : Int) = _
  rw [e, IntKind.wrap_i64]
  omega
theorem put_g (sb tb : ByteArray) (s t : List UInt8) (i' : Int) (i : Nat) (h1 : sb.data.toList = s) (h2 : tb.data.toList = t) (h3 : i' = i) (w : World) (g : Gl w) (hs : s.length ≤ 16777216) (hi : i + t.length ≤ 16777216) :
    Calls Tryz.prog 57 #[.string sb, .int .i64 i', .string tb] w fun e w' => e = .returned (.string ⟨(Dk.put s i t).toArray⟩) ∧ Nw w w' := by
  subst h3
  have := put_c s t i w g hs hi
  rw [← h1, ← h2, bs_eta, bs_eta] at this
  rw [← h1, ← h2]
  exact this
theorem later_fil {w : World} {b : Nat} {a0 a1 : Value} {T : TypeId} (h : w.heap[b]? = some (.cells #[a0, a1] T (0, 0))) :
    (∀ i : Later w, i.1.cell? ⟨b, 0, none⟩ = some a0) ∧ ∀ i : Later w, i.1.cell? ⟨b, 1, none⟩ = some a1 :=
  ⟨fun i => (cell2D (i.nw.keep h)).1, fun i => (cell2D (i.nw.keep h)).2⟩
theorem DiskAt.same {B : Nat} {w : World} {r : DiskR} {D D' : Dk.Disk} (h : DiskAt B w r D) (e1 : D'.fs = D.fs) (e2 : D'.q = D.q) (e3 : D'.keep = D.keep) (e4 : D'.lost = D.lost) (e5 : D'.down = D.down) (e6 : D'.armed = D.armed) (hk : Dk.Ok D') : DiskAt B w r D' :=
  h.putF (Upd.refl _ _) (by rw [e1]; exact h.files) e2 e3 e4 e5 e6 hk
/-- 'm[k] = v' as the last operation. -/
theorem wpList_storeL0 {P : Program} {w w' : World} {ops : Array Oper} {rest : List Oper} {o : Oper} {a : Act} {Q : Exit → Act → World → Prop} (hd : o.dst = none) (hg : o.guard = none) (m x y : Operand) (t : TypeId) (hop : o.op = Op.mapUpdate t m x y)
    (vm key v : Value) (hm : a.eval m = vm) (hx : a.eval x = key) (hy : a.eval y = v) (hrun : (Instr.mapUpdate t vm key v).run P w = .ok () w') (h : wpList P ops Q rest a w') : wpList P ops Q (o :: rest) a w := by
  refine wpList_plain hg fun K hK => ?_
  unfold Oper.wp
  simp [execOp, hop, hm, hx, hy, hrun, Result.andThen]
  refine hK _ _ ?_
  rw [hd]
  exact h
/-- While the files are ranged over: each is as it was, or settled; those that have come are settled. -/
structure CrashS (W : World) (fm rr : Nat) (F : Int → Dk.Fil) (z : World) : Prop where
  rng : ∃ l done gs, RangeS Tryz.prog tIntD z fm rr l done ∧ SaysF l gs ∧ (∀ f, gs f = F f ∨ gs f = ⟨(F f).last, (F f).last⟩) ∧ ∀ f, done (.int .i64 f) → gs f = ⟨(F f).last, (F f).last⟩
  upd : Upd (fun k => k = fm) W z
theorem crash_done {B db fm sm : Nat} {qv kv : Value} {W z : World} {C D' : Dk.Disk} (h : DiskAt B W ⟨db, fm, sm, qv, kv⟩ C) (u : Upd (fun k => k = fm) W z) (hf : FilesL z fm D'.fs) (eq : D'.q = []) (ek : D'.keep = C.keep) (e4 : D'.lost = C.lost) (e5 : D'.down = C.down) (e6 : D'.armed = C.armed) (hk : Dk.Ok D') :
    DiskTo B ⟨db, fm, sm, qv, kv⟩ D' W (((z.alloc (.map #[] 0)).setCell ⟨db, 1, none⟩ (.slice none 0 0)).setCell ⟨db, 2, none⟩ (.map (some z.heap.size))) := by
  obtain ⟨a1, a2, a3, a4, a5, a6, a7, a8, a9⟩ := h.apart
  dsimp only at a1 a2 a3 a4 a5 a6 a7 a8 a9
  have hlt := fun j hj => (h.foot_lt (k := j) hj).2
  have hdb := hlt db (Or.inl rfl)
  have hfm := hlt fm (Or.inr (Or.inl rfl))
  have hs := u.size
  have hdB := h.db
  have hB := h.hb
  dsimp only at hdB
  have n1 := nw_alloc z (.map #[] 0)
  have u2 : Upd (fun k => k = db) (z.alloc (.map #[] 0)) ((z.alloc (.map #[] 0)).setCell ⟨db, 1, none⟩ (.slice none 0 0)) := Upd.set1 (Upd.refl _ _) (by omega) 1 _
  have u3 : Upd (fun k => k = db) ((z.alloc (.map #[] 0)).setCell ⟨db, 1, none⟩ (.slice none 0 0)) (((z.alloc (.map #[] 0)).setCell ⟨db, 1, none⟩ (.slice none 0 0)).setCell ⟨db, 2, none⟩ (.map (some z.heap.size))) := Upd.set1 (Upd.refl _ _) (by omega) 2 _
  have b1 := n1.keep (u.keep h.blk a1)
  have b3 := setCell_block (setCell_block b1 1 (.slice none 0 0)) 2 (.map (some z.heap.size))
  refine ⟨⟨db, fm, z.heap.size, .slice none 0 0, kv⟩, ⟨h.hb, h.db, h.fm, by show B ≤ z.heap.size; omega, by show fm ≠ z.heap.size; omega, ?_, ?_, ?_, ?_, ?_, hk, by rw [ek]; exact h.kI⟩, rfl, ?_, ?_⟩
  · unfold diskC at b3 ⊢
    rw [e4, e5, e6]; exact b3
  · exact ((hf.upd n1 id).upd u2 (fun e => a1 e.symm)).upd u3 (fun e => a1 e.symm)
  · rw [eq]
    exact ((SetL.made z).upd u2 (fun e => by omega)).upd u3 (fun e => by omega)
  · rw [eq]; exact World.ownsRow_nil _ _ _ _
  · rw [ek]
    exact owns_updD (owns_updD (owns_updD (owns_updD h.keep u (fun k hk e => by subst e; exact a7 hk)) n1 (fun _ _ e => e)) u2 (fun k hk e => by subst e; exact a6 hk)) u3 (fun k hk e => by subst e; exact a6 hk)
  · exact (((u.mono (fun k _ e => Or.inr (Or.inl e))).nw n1).trans' u2 (fun k _ e => Or.inl e)).trans' u3 (fun k _ e => Or.inl e)
  · rintro j (e | e | e | e | e)
    · exact Or.inl (Or.inl e)
    · exact Or.inl (Or.inr (Or.inl e))
    · exact Or.inr (by dsimp only at e; omega)
    · cases e
    · exact Or.inl (Or.inr (Or.inr (Or.inr (Or.inr e))))
theorem two_set (w : World) (b : Nat) (cs : Array Value) (T : TypeId) (h : w.heap[b]? = some (.cells cs T (0, 0))) (v0 v1 v2 : Value) (h1 : cs[1]? = some v1) (h2 : cs[2]? = some v2) :
    w.cell? ⟨b, 1, none⟩ = some v1 ∧ w.frozen? ⟨b, 1, none⟩ = false ∧ (w.setCell ⟨b, 1, none⟩ v0).cell? ⟨b, 2, none⟩ = some v2 ∧ (w.setCell ⟨b, 1, none⟩ v0).frozen? ⟨b, 2, none⟩ = false := by
  have k := setCell_block h 1 v0
  refine ⟨by rw [cells_cell h]; exact h1, cells_frozen h 1, ?_, cells_frozen k 2⟩
  rw [cells_cell k, Array.getElem?_setIfInBounds]
  rw [if_neg (by decide)]; exact h2
set_option maxHeartbeats 4000000 in
set_option maxRecDepth 100000 in
theorem crash_c {B : Nat} {w : World} {r : DiskR} {D : Dk.Disk} (h : DiskAt B w r D) (g : Gl w) (hB : B ≤ w.heap.size) (lo hi : Nat) (kvv : Value) (keep : List Int) (hk : ∀ z, Upd (fun j => j = r.db ∨ j = r.fm) w z → Sl lo hi z kvv (keep.map intD)) (hkI : ∀ x ∈ keep, I64 x) :
    Calls Tryz.prog 29 #[.pointer (some ⟨r.db, 0, none⟩), kvv] w fun e w' => e = .returned (.tuple #[]) ∧ DiskTo B r (Dk.crash D keep) w w' := by
  have hgb := g.big
  obtain ⟨_, c1, _, _, c4, c5, _⟩ := h.cells
  have f4 := h.frozen 4
  have H := Lib.hid h
  cases hd : D.down with
  | true =>
    rw [hd] at c4
    have hr : Hid (Dk.crash D keep = D) := by show _ = _; unfold Dk.crash; rw [if_pos hd]
    clear hd h hk
    go_enter Tryz.func29, Tryz.ntmps29
    go_wp2_with fail
    (try simp only [Exit.inBlock, Exit.then])
    refine bodyPost_ret (results_none rfl _ _ _) rfl ?_
    exact ⟨rfl, by rw [hr.out]; exact DiskTo.refl H.out⟩
  | false =>
  rw [hd] at c4
  have hr : Hid (Dk.crash D keep = _) := Dk.crash_eq hd keep
  obtain ⟨aq, cq, hqv⟩ := own_slD h.queue
  obtain ⟨ak, ck, hkv, hkm, _⟩ := int_cells (hk w (Upd.refl _ _))
  subst hkv
  unfold maxLen at hkm
  have hkm2 : (keep.length : Int) ≤ 9223372036854775807 := by omega
  have hkm1 : (0 : Int) ≤ keep.length := by omega
  have Hkm := Lib.hid hkm
  -- the two stores
  have s1 := h.store (D' := { D with down := true }) 4 (.bool true) rfl rfl rfl rfl ⟨h.ok.now, h.ok.last, h.ok.q, h.ok.nd, h.ok.lost, h.ok.armed⟩
  obtain ⟨s1, v1⟩ := s1
  have s2 := s1.store (D' := Dk.crashK D keep 0) 5 (.int .i64 0) rfl rfl rfl rfl (Dk.crashK_ok h.ok keep 0)
  obtain ⟨s2, v2⟩ := s2
  have e5 : (w.setCell ⟨r.db, 4, none⟩ (.bool true)).cell? ⟨r.db, 5, none⟩ = some (.int .i64 D.armed) := s1.cells.2.2.2.2.2.1
  have e5f : (w.setCell ⟨r.db, 4, none⟩ (.bool true)).frozen? ⟨r.db, 5, none⟩ = false := s1.frozen 5
  have e1 : ((w.setCell ⟨r.db, 4, none⟩ (.bool true)).setCell ⟨r.db, 5, none⟩ (.int .i64 0)).cell? ⟨r.db, 1, none⟩ = some r.qv := s2.cells.2.1
  rw [hqv] at e1 c1
  have hql := h.ok.q_len
  have Hql := Lib.hid hql
  have hqm : (D.q.length : Int) ≤ 4194304 := by omega
  have H0 : Hid (DiskAt B ((w.setCell ⟨r.db, 4, none⟩ (.bool true)).setCell ⟨r.db, 5, none⟩ (.int .i64 0)) r (Dk.crashK D keep 0)) := s2
  have U0 : Hid (Upd (fun j => j = r.db ∨ j = r.fm) w ((w.setCell ⟨r.db, 4, none⟩ (.bool true)).setCell ⟨r.db, 5, none⟩ (.int .i64 0))) := (v1.mono (fun _ _ e => Or.inl e)).trans' v2 (fun _ _ e => Or.inl e)
  have Hd := Lib.hid hd
  have Hk := Lib.hid hk
  have HkI := Lib.hid hkI
  clear h s1 s2 v1 v2 hql hkm hd hk hkI
  go_enter Tryz.func29, Tryz.ntmps29
  go_wp2_with fail
  go_loopw [25] (fun iv wr => ∃ k : Nat, k ≤ D.q.length ∧ iv = .int .i64 k ∧ Hid (DiskAt B wr r (Dk.crashK D keep k)) ∧ Hid (Upd (fun j => j = r.db ∨ j = r.fm) w wr)) (fun iv _ => D.q.length - (intOf iv).toNat)
  case atStart => exact ⟨0, Nat.zero_le _, rfl, H0.out, U0.out⟩
  case round =>
    obtain ⟨k, hk, rfl, HD, HU⟩ := hrel
    by_cases hlt : k < D.q.length
    · have h' := HD.out
      obtain ⟨a', c', es, _, hcell⟩ := secD_cells (sec_sls h'.queue)
      have es2 : aq = a' ∧ cq = c' := by
        rw [hqv] at es
        simpa [Dk.crashK] using es
      obtain ⟨rfl, rfl⟩ := es2
      have hlt' : k < (Dk.crashK D keep k).q.length := hlt
      rcases hcell with hnil | ⟨b, o, rfl, _, hbb, hc⟩
      · exfalso
        have : D.q = [] := hnil
        rw [this] at hlt; simp at hlt
      obtain ⟨d0, d1⟩ := hc k hlt'
      have hp := h'.ok.q (D.q[k]) (List.getElem_mem hlt)
      have hfs := Dk.crashK_succ (keep := keep) hlt
      have hOk1 := Dk.crashK_ok H.out.ok keep (k + 1)
      have hpI := q_I64 h'.ok (D.q[k]) (List.getElem_mem hlt)
      have e0 : (Dk.crashK D keep k).q[k] = D.q[k] := rfl
      rw [e0] at d0 d1
      have hnow := h'.ok.now D.q[k].1
      have hlook := fun (z : World) (uz : Nw wr z) => (h'.nw uz).files.look hpI.1
      generalize D.q[k] = p at *
      obtain ⟨pf, pn⟩ := p
      dsimp only at d0 d1 hp hfs hpI hnow hlook
      unfold filV at hlook
      generalize hF : (Dk.crashK D keep k).fs pf = F at *
      obtain ⟨N, L⟩ := F
      dsimp only at hnow hlook
      have n1 := nw_alloc wr (.cells #[.int .i64 pf, .int .i64 pn] tSec)
      have k1 := heap_new wr (.cells #[.int .i64 pf, .int .i64 pn] tSec)
      have HS2 : Hid (∀ z, Nw (wr.alloc (.cells #[.int .i64 pf, .int .i64 pn] tSec)) z → z.cell? ⟨r.db, 0, none⟩ = some (.map (some r.fm)) ∧ z.cell? ⟨wr.heap.size, 0, none⟩ = some (.int .i64 pf) ∧ z.cell? ⟨wr.heap.size, 1, none⟩ = some (.int .i64 pn) ∧ (Instr.lookup tFiles (.map (some r.fm)) (.int .i64 pf) false).run Tryz.prog z = .ok (.agg #[.string ⟨N.toArray⟩, .string ⟨L.toArray⟩]) z) := fun z uz => by
        obtain ⟨z0, z1⟩ := cell2D (Nw.keep uz k1)
        exact ⟨(h'.nw (n1.trans uz)).cells.1, z0, z1, hlook z (n1.trans uz)⟩
      have hw : IntKind.i64.wrap (pn * 64) = pn * 64 := by rw [IntKind.wrap_i64]; omega
      have hpn0 : 0 ≤ pn := hp.2.2.1
      have hpn1 : pn < 262144 := hp.2.2.2
      have HSd := HS2.out _ ((Upd.refl _ _).drew)
      have K1 := Lib.hid k1
      have Hfs := Lib.hid hfs
      have Hnow := Lib.hid hnow
      have HpI := Lib.hid hpI
      have HF := Lib.hid hF
      clear hc hlook k1 hfs hOk1 hnow hpI hF hp es e0 h'
      go_wp2_with fail
      refine wp_region_H 11 (fun z => True ∧ True) (fun z => z.cell? ⟨r.db, 0, none⟩ = some (.map (some r.fm)) ∧ z.cell? ⟨wr.heap.size, 0, none⟩ = some (.int .i64 pf) ∧ z.cell? ⟨wr.heap.size, 1, none⟩ = some (.int .i64 pn) ∧ (Instr.lookup tFiles (.map (some r.fm)) (.int .i64 pf) false).run Tryz.prog z = .ok (.agg #[.string ⟨N.toArray⟩, .string ⟨L.toArray⟩]) z) (by kernel_rfl) ?_
      refine wpAnyH_pure (i := 0) (v := ?_) rfl (by kernel_rfl) (by kernel_rfl) (by kernel_rfl) (by kernel_rfl) (by kernel_rfl) (fun _ _ _ h => h) (by rfl) ?_ (⟨fun _ => ⟨trivial, trivial⟩, HSd⟩) ?_
      rotate_left 1
      · (intro zz; go_simp; first | done | with_reducible rfl)
      (try simp only [Act.put, List.setIfInBounds_toArray, List.set_cons_zero, List.set_cons_succ])
      refine wpAnyH_pure (i := 1) (v := ?_) rfl (by kernel_rfl) (by kernel_rfl) (by kernel_rfl) (by kernel_rfl) (by kernel_rfl) (fun _ _ _ h => h) (by rfl) ?_ (⟨fun _ => ⟨trivial, trivial⟩, HSd⟩) ?_
      rotate_left 1
      · (intro zz; go_simp; first | done | with_reducible rfl)
      (try simp only [Act.put, List.setIfInBounds_toArray, List.set_cons_zero, List.set_cons_succ])
      refine wpAnyH_pure (i := 2) (v := ?_) rfl (by kernel_rfl) (by kernel_rfl) (by kernel_rfl) (by kernel_rfl) (by kernel_rfl) (fun _ _ _ h => h) (by rfl) ?_ (⟨fun _ => ⟨trivial, trivial⟩, HSd⟩) ?_
      rotate_left 1
      · (intro zz; go_simp; first | done | with_reducible rfl)
      (try simp only [Act.put, List.setIfInBounds_toArray, List.set_cons_zero, List.set_cons_succ])
      refine wpAnyH_load2 (i := 3) (v := ?_) rfl (by kernel_rfl) (by kernel_rfl) (by kernel_rfl) (by kernel_rfl) (by kernel_rfl) (fun _ _ _ h => h) (by rfl) ?_ (⟨fun _ => ⟨trivial, trivial⟩, HSd⟩) ?_
      rotate_left 1
      · (intro zz hS2; obtain ⟨_, _, _, _⟩ := hS2; go_simp; first | done | with_reducible rfl)
      (try simp only [Act.put, List.setIfInBounds_toArray, List.set_cons_zero, List.set_cons_succ])
      refine wpAnyH_pure (i := 4) (v := ?_) rfl (by kernel_rfl) (by kernel_rfl) (by kernel_rfl) (by kernel_rfl) (by kernel_rfl) (fun _ _ _ h => h) (by rfl) ?_ (⟨fun _ => ⟨trivial, trivial⟩, HSd⟩) ?_
      rotate_left 1
      · (intro zz; go_simp; first | done | with_reducible rfl)
      (try simp only [Act.put, List.setIfInBounds_toArray, List.set_cons_zero, List.set_cons_succ])
      refine wpAnyH_load2 (i := 5) (v := ?_) rfl (by kernel_rfl) (by kernel_rfl) (by kernel_rfl) (by kernel_rfl) (by kernel_rfl) (fun _ _ _ h => h) (by rfl) ?_ (⟨fun _ => ⟨trivial, trivial⟩, HSd⟩) ?_
      rotate_left 1
      · (intro zz hS2; obtain ⟨_, _, _, _⟩ := hS2; go_simp; first | done | with_reducible rfl)
      (try simp only [Act.put, List.setIfInBounds_toArray, List.set_cons_zero, List.set_cons_succ])
      refine wpAnyH_load2 (i := 6) (v := ?_) rfl (by kernel_rfl) (by kernel_rfl) (by kernel_rfl) (by kernel_rfl) (by kernel_rfl) (fun _ _ _ h => h) (by rfl) ?_ (⟨fun _ => ⟨trivial, trivial⟩, HSd⟩) ?_
      rotate_left 1
      · (intro zz hS2; obtain ⟨_, _, _, _⟩ := hS2; go_simp; first | done | with_reducible rfl)
      (try simp only [Act.put, List.setIfInBounds_toArray, List.set_cons_zero, List.set_cons_succ])
      refine wpAnyH_pure (i := 7) (v := ?_) rfl (by kernel_rfl) (by kernel_rfl) (by kernel_rfl) (by kernel_rfl) (by kernel_rfl) (fun _ _ _ h => h) (by rfl) ?_ (⟨fun _ => ⟨trivial, trivial⟩, HSd⟩) ?_
      rotate_left 1
      · (intro zz; go_simp; first | done | with_reducible rfl)
      (try simp only [Act.put, List.setIfInBounds_toArray, List.set_cons_zero, List.set_cons_succ])
      refine wpAnyH_load2 (i := 8) (v := ?_) rfl (by kernel_rfl) (by kernel_rfl) (by kernel_rfl) (by kernel_rfl) (by kernel_rfl) (fun _ _ _ h => h) (by rfl) ?_ (⟨fun _ => ⟨trivial, trivial⟩, HSd⟩) ?_
      rotate_left 1
      · (intro zz hS2; obtain ⟨_, _, _, _⟩ := hS2; go_simp; first | done | with_reducible rfl)
      (try simp only [Act.put, List.setIfInBounds_toArray, List.set_cons_zero, List.set_cons_succ])
      refine wpAnyH_pure (i := 9) (v := ?_) rfl (by kernel_rfl) (by kernel_rfl) (by kernel_rfl) (by kernel_rfl) (by kernel_rfl) (fun _ _ _ h => h) (by rfl) ?_ (⟨fun _ => ⟨trivial, trivial⟩, HSd⟩) ?_
      rotate_left 1
      · (intro zz; go_simp; first | done | with_reducible rfl)
      (try simp only [Act.put, List.setIfInBounds_toArray, List.set_cons_zero, List.set_cons_succ])
      refine wpAnyH_one (i := 10) (by kernel_rfl) rfl (fun K hK => ?_)
      go_simp
      refine hK.out _ _ ⟨fun _ => ⟨trivial, trivial⟩, HS2.out _ (((Upd.refl _ _).alloc _).drew)⟩ ?_
      clear hK K
      (try simp only [Act.put, List.setIfInBounds_toArray, List.set_cons_zero, List.set_cons_succ])
      refine wpAnyH_one (i := 11) (by kernel_rfl) rfl (fun K hK => ?_)
      go_simp
      refine hK.out _ _ ⟨fun _ => ⟨trivial, trivial⟩, HS2.out _ (((Upd.refl _ _).alloc _).drew)⟩ ?_
      clear hK K
      (try simp only [Act.put, List.setIfInBounds_toArray, List.set_cons_zero, List.set_cons_succ])
      refine wpAnyH_one (i := 12) (by kernel_rfl) rfl (fun K hK => ?_)
      go_simp
      refine hK.out _ _ ⟨fun _ => ⟨trivial, trivial⟩, HS2.out _ (((Upd.refl _ _).alloc _).drew)⟩ ?_
      clear hK K
      (try simp only [Act.put, List.setIfInBounds_toArray, List.set_cons_zero, List.set_cons_succ])
      refine wpAnyH_done (by kernel_rfl) ?_ _
      obtain ⟨W2, hW2, n2, k2⟩ : ∃ W2, ((wr.alloc (.cells #[.int .i64 pf, .int .i64 pn] tSec)).alloc (.cells #[.string ⟨N.toArray⟩, .string ⟨L.toArray⟩] tFile)).drew = W2 ∧ Nw wr W2 ∧ W2.heap[wr.heap.size + 1]? = some (.cells #[.string ⟨N.toArray⟩, .string ⟨L.toArray⟩] tFile (0, 0)) := ⟨_, rfl, (n1.alloc _).drew, by
        have := heap_new (wr.alloc (.cells #[.int .i64 pf, .int .i64 pn] tSec)) (.cells #[.string ⟨N.toArray⟩, .string ⟨L.toArray⟩] tFile)
        rw [show (wr.alloc (.cells #[.int .i64 pf, .int .i64 pn] tSec)).heap.size = wr.heap.size + 1 by simp] at this
        exact this⟩
      rw [hW2]
      have k1' : W2.heap[wr.heap.size]? = some (.cells #[.int .i64 pf, .int .i64 pn] tSec (0, 0)) := by rw [← hW2]; exact Nw.keep (((Upd.refl _ _).alloc _).drew) K1.out
      obtain ⟨_, _⟩ := cell2D k2
      obtain ⟨_, _⟩ := cell2D k1'
      have hsl := Hk.out W2 (HU.out.trans (Nw.upd _ n2))
      obtain ⟨a2, c2, e2, _, hkc⟩ := int_cells hsl
      have e3 : ak = a2 ∧ ck = c2 := by simpa using e2
      obtain ⟨rfl, rfl⟩ := e3
      have K1' := Lib.hid k1'
      have K2 := Lib.hid k2
      clear hW2 hsl e2 k1' k2 HSd
      have HD2 := Lib.hid (HD.out.nw n2)
      have HU2 : Hid (Upd (fun j => j = r.db ∨ j = r.fm) w W2) := HU.out.nw n2
      have hOk1 : Hid (Dk.Ok (Dk.crashK D keep (k + 1))) := Dk.crashK_ok H.out.ok keep (k + 1)
      have hskip : Dk.survive keep (Dk.crashK D keep k).fs (pf, pn) k = (Dk.crashK D keep k).fs → Hid (DiskAt B W2 r (Dk.crashK D keep (k + 1))) := fun e =>
        HD2.out.same (by rw [Hfs.out, e]) rfl rfl rfl rfl rfl hOk1.out
      have Hskip := Lib.hid hskip
      clear hskip
      by_cases hk0 : keep.length = 0
      · have hz : (keep.length : Int) = 0 := by omega
        have hod : Hid (Dk.odd keep k = false) := by show _ = _; unfold Dk.odd; rw [List.length_eq_zero_iff.1 hk0]; rfl
        clear hkc hk0
        have hz3 := Hskip.out (Dk.odd_not hod.out)
        clear Hskip
        go_wp2_with fail
        go_roundw
        case rel => exact ⟨k + 1, by omega, by go_num, hz3, HU2⟩
        case measure => simp [intOf]; omega
      · rcases hkc with hnil | ⟨bk, ok, rfl, _, _, hkc⟩
        · rw [hnil] at hk0; simp at hk0
        have hklt : k % keep.length < keep.length := Nat.mod_lt _ (by omega)
        have z0 := hkc _ hklt
        have hke : ((keep.length : Int) == 0) = false := beq_eq_false_iff_ne.2 (by omega)
        have hbx := and1 keep[k % keep.length]
        have hodd : Dk.odd keep k = decide (keep[k % keep.length] % 2 = 1) := by
          unfold Dk.odd
          rw [decide_eq_true (show keep ≠ [] from fun e => by rw [e] at hk0; simp at hk0), Bool.true_and, List.getD_eq_getElem?_getD, List.getElem?_eq_getElem hklt]
          rfl
        clear hkc
        generalize keep[k % keep.length] = x at *
        by_cases hx : x % 2 = 1
        rotate_left
        · have hod : Hid (Dk.odd keep k = false) := by show _ = _; rw [hodd, decide_eq_false hx]
          have hb0 : bits .and .i64 x 1 = 0 := by rw [hbx]; omega
          clear hodd hx hbx
          have hz3 := Hskip.out (Dk.odd_not hod.out)
          clear Hskip
          go_wp2_with fail
          go_roundw
          case rel => exact ⟨k + 1, by omega, by go_num, hz3, HU2⟩
          case measure => simp [intOf]; omega
        have hod : Hid (Dk.odd keep k = true) := by show _ = _; rw [hodd, decide_eq_true hx]
        have hb0 : bits .and .i64 x 1 = 1 := by rw [hbx]; omega
        clear hodd hx hbx
        obtain ⟨m, rfl⟩ : ∃ m : Nat, pn = m := ⟨pn.toNat, by omega⟩
        by_cases hfar : (N.length : Int) ≤ (m : Int) * 64
        · have hfn : Hid (((Dk.crashK D keep k).fs (pf, (m : Int)).1).now.length ≤ 64 * (pf, (m : Int)).2.toNat) := by
            show _ ≤ _
            dsimp only
            rw [HF.out]
            show N.length ≤ _
            omega
          have hz3 := Hskip.out (Dk.far_not hfn.out)
          clear Hskip
          go_wp2_with fail
          go_roundw
          case rel => exact ⟨k + 1, by omega, by go_num, hz3, HU2⟩
          case measure => simp [intOf]; omega
        have hml : (m : Int) * 64 < N.length := by omega
        have hnl := Hnow.out
        have hbI : (N.length : Int) ≤ 16777216 := by omega
        have hw2 : IntKind.i64.wrap ((m : Int) * 64 + 64) = (m : Int) * 64 + 64 := by rw [IntKind.wrap_i64]; omega
        have hs1 : (m : Int) * 64 ≤ min ((m : Int) * 64 + 64) N.length := by omega
        have hs2 : min ((m : Int) * 64 + 64) (N.length : Int) ≤ N.length := by omega
        have hs0 : 0 ≤ (m : Int) * 64 := by omega
        have hext : (({ data := N.toArray } : ByteArray).extract ((m : Int) * 64).toNat (min ((m : Int) * 64 + 64) (N.length : Int)).toNat).data.toList = (N.drop (64 * m)).take 64 := by
          rw [bs_extract, bs_list]
          rw [show ((m : Int) * 64).toNat = 64 * m by omega]
          by_cases hc : m * 64 + 64 ≤ N.length
          · rw [show (min ((m : Int) * 64 + 64) (N.length : Int)).toNat - 64 * m = 64 by omega]
          · rw [List.take_of_length_le (by rw [List.length_drop]; omega), List.take_of_length_le (by rw [List.length_drop]; omega)]
        have hL := HD2.out.ok.last pf
        rw [HF.out] at hL
        dsimp only at hL
        have hput := fun j : Later W2 => put_g ⟨L.toArray⟩ _ L ((N.drop (64 * m)).take 64) ((m : Int) * 64) (64 * m) (bs_list L) hext (by omega) j.1 (g.upd (HU2.out.nw j.nw)) hL (by rw [List.length_take, List.length_drop]; omega)
        have hsv : Hid ((Dk.crashK D keep (k + 1)).fs = Dk.setF (Dk.crashK D keep k).fs pf ⟨N, Dk.put L (64 * m) ((N.drop (64 * m)).take 64)⟩) := by
          show _ = _
          have hff : (Dk.crashK D keep k).fs (pf, (m : Int)).1 = ⟨N, L⟩ := HF.out
          have := Dk.survive_yes (keep := keep) (i := k) (fs := (Dk.crashK D keep k).fs) (p := (pf, (m : Int))) hod.out (by rw [hff]; dsimp only; omega)
          rw [Hfs.out, this, hff]
          dsimp only
          rw [show ((m : Int)).toNat = m by omega]
        have Hput := Lib.hid hput
        obtain ⟨l60, l61⟩ := later_fil K2.out
        have Hext := Lib.hid hext
        have Hs := Lib.hid (And.intro hs0 (And.intro hs1 (And.intro hs2 (And.intro hw2 (And.intro l60 l61)))))
        have hge : decide ((N.length : Int) ≤ (m : Int) * 64) = false := decide_eq_false hfar
        have Hml := Lib.hid hml
        clear hnl hext hL hput Hskip hod hfar hs0 hs1 hs2 hw2 l60 l61 hbI hml
        clear hpn0 hpn1
        go_upto_region 7 with fail
        obtain ⟨hs0, hs1, hs2, hw2, l60, l61⟩ := Hs.out
        clear Hs
        refine wp_region_nw_tail 15 (by kernel_rfl) (by kernel_rfl) ?_
        simp only [List.take_succ_cons, List.take_zero, List.drop_succ_cons, List.drop_zero]
        repeat (go_big_quiet_step ((go_at_call 57; exact later_call (Hput.out _))))
        refine wpQuiet_nil ?_
        intro w3 u3
        replace u3 := later_out u3
        generalize Dk.put L (64 * m) ((N.drop (64 * m)).take 64) = P at *
        have k3 := Nw.keep u3 K2.out
        obtain ⟨_, _⟩ := cell2D k3
        have f31 := cells_frozen k3 1
        have hbx : ¬ (wr.heap.size + 1 = r.db ∨ wr.heap.size + 1 = r.fm) ∧ ¬ r.foot (wr.heap.size + 1) := by
          have h1 := fun j hj => (HD.out.foot_lt (k := j) hj).2
          refine ⟨?_, fun e => by have := h1 _ e; omega⟩
          rintro (e | e)
          · have := h1 _ (Or.inl rfl); omega
          · have := h1 _ (Or.inr (Or.inl rfl)); omega
        have x4 : Upd (fun j => j = wr.heap.size + 1) w3 (w3.setCell ⟨wr.heap.size + 1, 1, none⟩ (.string ⟨P.toArray⟩)) := Upd.set1 (Upd.refl _ _) (by have := HU.out.size; omega) 1 _
        have k4 := setCell_block k3 1 (.string ⟨P.toArray⟩)
        have k15 := x4.keep (Nw.keep u3 K1'.out) (by omega)
        have h4 := (HD2.out.nw u3).upd x4 (fun j hj e => by subst e; exact hbx.2 hj)
        have hU4 : Upd (fun j => j = r.db ∨ j = r.fm) w (w3.setCell ⟨wr.heap.size + 1, 1, none⟩ (.string ⟨P.toArray⟩)) := (HU2.out.nw u3).trans' x4 (fun j hj e => by have := HU.out.size; omega)
        have l0 := h4.laterD.1
        obtain ⟨l50, l51⟩ := later_fil k15
        have k4' : (w3.setCell ⟨wr.heap.size + 1, 1, none⟩ (.string ⟨P.toArray⟩)).heap[wr.heap.size + 1]? = some (.cells #[.string ⟨N.toArray⟩, .string ⟨P.toArray⟩] tFile (0, 0)) := k4
        obtain ⟨l62, l63⟩ := later_fil k4'
        have H4 := Lib.hid h4
        have HU4 := Lib.hid hU4
        clear x4 k4 k15 h4 hU4 k4' l60 l61
        go_wp2_with fail
        refine wp_region_nw_tail 7 (by kernel_rfl) (by kernel_rfl) ?_
        simp only [List.take_succ_cons, List.take_zero, List.drop_succ_cons, List.drop_zero]
        repeat (go_big_quiet_step ((fail)))
        refine wpQuiet_nil ?_
        intro w5 u5
        replace u5 := later_out u5
        have h5 := H4.out.nw u5
        obtain ⟨w6, hst, hf6, u6⟩ := h5.files.put (Nat.le_trans h5.hb h5.fm) HpI.out.1 ⟨N, P⟩
        rw [← hsv.out] at hf6
        have h6 : Hid (DiskAt B w6 r (Dk.crashK D keep (k + 1))) := h5.putF u6 hf6 rfl rfl rfl rfl rfl hOk1.out
        have hU6 : Hid (Upd (fun j => j = r.db ∨ j = r.fm) w w6) := (HU4.out.nw u5).trans' u6 (fun j hj e => Or.inr e)
        dsimp only [filV] at hst
        have Hst := Lib.hid hst
        clear hst hf6 h5 l0 l50 l51 l62 l63
        go_wp2_with (at_mapUpdate; refine wpList_storeL rfl _ _ _ tFiles rfl _ _ _ rfl rfl rfl Hst.out ?_)
        go_wp2_with fail
        go_roundw
        case rel => exact ⟨k + 1, by omega, by go_num, h6, hU6⟩
        case measure => simp [intOf]; omega
    · obtain rfl : k = D.q.length := by omega
      obtain ⟨wX, rfl⟩ : ∃ x, x = wr := ⟨_, rfl⟩
      obtain ⟨db, fm, sm, qv, kv⟩ := r
      dsimp only at *
      subst hqv
      have hd1 := HD.out
      obtain ⟨x0, _⟩ := hd1.cells
      obtain ⟨l0, hm0, hs0⟩ := hd1.files
      dsimp only at x0 hm0
      generalize hF : (Dk.crashK D keep D.q.length).fs = F at *
      have HF := Lib.hid hF
      have Hm0 := Lib.hid hm0
      have Hs0 := Lib.hid hs0
      have hfm : fm < wX.heap.size := (hd1.foot_lt (Or.inr (Or.inl rfl))).2
      have hdb : db < wX.heap.size := (hd1.foot_lt (Or.inl rfl)).2
      have hne : db ≠ fm := hd1.apart.1
      have hfG : nG ≤ fm := Nat.le_trans hd1.hb hd1.fm
      have hXG : nG ≤ wX.heap.size := by omega
      have Hn := Lib.hid (And.intro hfm (And.intro hdb (And.intro hne (And.intro hfG hXG))))
      clear hd1 hm0 hs0 hF hfm hdb hne hfG hXG hgb
      go_wp2_with (at_range; refine wpList_rangeS rfl _ tFiles tFile rfl Tryz.underlying62 rfl Hm0.out ?_)
      intro w1 hrg n1
      have HC : Hid (CrashS wX fm wX.heap.size F w1) := ⟨⟨_, _, F, hrg, Hs0.out, fun f => Or.inl rfl, fun f e => e.elim⟩, Nw.upd _ n1⟩
      clear hrg n1
      go_wp2_with fail
      go_loopw [9] (fun _ wr => Hid (CrashS wX fm wX.heap.size F wr)) (fun _ wr => wr.rangeLeft fm wX.heap.size)
      case atStart => exact HC.out
      case round =>
        have HC := Lib.hid hrel.out
        obtain ⟨⟨l, done, gs, hrg, hs1, hs2, hs3⟩, hu⟩ := hrel.out
        obtain ⟨hfm, hdb, hne, hfG, hXG⟩ := Hn.out
        have hrg' := hrg
        clear hrel
        go_wp2_with (at_next; refine wpList_nextS rfl _ rfl rfl hrg' ?_ ?_ ?_)
        · exact hXG
        · intro hall
          have hgs : gs = fun f => ⟨(F f).last, (F f).last⟩ := funext fun f => by
            by_cases hin : ∀ p ∈ l, p.1 ≠ .int .i64 f
            · rcases hs2 f with e | e
              · rw [hs1.none f hin] at e ⊢
                rw [← e]; rfl
              · exact e
            · obtain ⟨p, hp⟩ := Classical.not_forall.1 hin
              obtain ⟨hp, hpf⟩ := Classical.not_imp.1 hp
              have hpf : p.1 = .int .i64 f := Classical.not_not.1 hpf
              exact hs3 f (by rw [← hpf]; exact hall _ _ hp)
          have hfl : FilesL wr fm gs := ⟨l, hrg.map, hs1⟩
          rw [hgs] at hfl
          have hT : Hid (DiskTo B ⟨db, fm, sm, .slice aq D.q.length cq, kv⟩ (Dk.crash D keep) w (((wr.alloc (.map #[] 0)).setCell ⟨db, 1, none⟩ (.slice none 0 0)).setCell ⟨db, 2, none⟩ (.map (some wr.heap.size)))) := by
            show DiskTo _ _ _ _ _
            have hok : Dk.Ok (Dk.crash D keep) := Dk.crash_ok H.out.ok keep
            rw [hr.out] at hok ⊢
            refine DiskTo.then_ H.out HD.out rfl (HU.out.mono (fun j _ e => ?_)) (fun j e => Or.inl e) ?_
            · rcases e with e | e
              · exact Or.inl e
              · exact Or.inr (Or.inl e)
            · exact crash_done HD.out hu hfl rfl rfl rfl rfl rfl hok
          have bk := (nw_alloc wr (.map #[] 0)).keep (hu.keep HD.out.blk hne)
          obtain ⟨y1, y2, y3, y4⟩ := two_set _ db _ _ bk (.slice none 0 0) _ _ rfl rfl
          clear hall hs1 hs2 hs3 hrg hrg' hu hfl hgs bk x0
          have hmm := @run_makeMap Tryz.prog
          go_wp2_with fail
          go_end0
          exact ⟨rfl, hT.out⟩
        · intro ka va w6 hpm hrg6 u6 hlt6 hen
          obtain ⟨f, hf, e⟩ := hs1.each _ hpm
          obtain ⟨e1, e2⟩ := Prod.mk.inj e
          subst e1 e2
          have hin := hpm
          unfold filV at hpm hen hin
          have hlast : (gs f).last = (F f).last := by
            rcases hs2 f with e | e <;> rw [e]
          have U6 : Upd (fun k => k = fm) wX w6 := hu.trans' u6 (fun j hj e => by omega)
          have n7 := nw_alloc w6 (.cells #[.string ⟨(gs f).now.toArray⟩, .string ⟨(gs f).last.toArray⟩] tFile)
          have k7 := heap_new w6 (.cells #[.string ⟨(gs f).now.toArray⟩, .string ⟨(gs f).last.toArray⟩] tFile)
          have b7 := n7.keep (U6.keep HD.out.blk hne)
          have l0 : ∀ i : Later (w6.alloc (.cells #[.string ⟨(gs f).now.toArray⟩, .string ⟨(gs f).last.toArray⟩] tFile)), i.1.cell? ⟨db, 0, none⟩ = some (.map (some fm)) := fun i => by rw [cells_cell (i.nw.keep b7)]; rfl
          have l1 := (later_fil k7).2
          have hfin : ∀ w8, Nw (w6.alloc (.cells #[.string ⟨(gs f).now.toArray⟩, .string ⟨(gs f).last.toArray⟩] tFile)) w8 → ∃ w9, (Instr.mapUpdate tFiles (.map (some fm)) (.int .i64 f) (.agg #[.string ⟨(gs f).last.toArray⟩, .string ⟨(gs f).last.toArray⟩])).run Tryz.prog w8 = .ok () w9 ∧ Hid (CrashS wX fm wX.heap.size F w9) ∧ w9.rangeLeft fm wX.heap.size < wr.rangeLeft fm wX.heap.size := fun w8 u8 => by
            obtain ⟨c1, c2⟩ := hrg6.upd n7 id id
            obtain ⟨d1, d2⟩ := c1.upd u8 id id
            obtain ⟨w9, l', hrun, hr9, hm9, u9, hl9⟩ := d1.put intKeyD Tryz.underlying62 hfG hin (int_keyD hf) (filV ⟨(gs f).last, (gs f).last⟩)
            refine ⟨w9, hrun, ⟨⟨l', _, _, hr9, hs1.put hf _ hm9, fun g => ?_, fun g hg => ?_⟩, ((U6.nw n7).nw u8).trans u9⟩, by omega⟩
            · by_cases hgf : g = f
              · subst hgf
                rw [Dk.setF_self, hlast]; exact Or.inr rfl
              · rw [Dk.setF_ne _ _ hgf]; exact hs2 g
            · by_cases hgf : g = f
              · subst hgf
                rw [Dk.setF_self, hlast]
              · rw [Dk.setF_ne _ _ hgf]
                rcases hg with hg | hg
                · exact hs3 g hg
                · exact absurd (Value.int.inj hg).2 hgf
          have Hfin := Lib.hid hfin
          clear hfin hs1 hs2 hs3 hrg hrg' hrg6 hu u6 hpm hin n7 k7 b7 e hlast
          generalize gs f = G at *
          obtain ⟨gn, gl⟩ := G
          dsimp only at *
          go_wp2_with fail
          refine wp_region_nw_tail 10 (by kernel_rfl) (by kernel_rfl) ?_
          simp only [List.take_succ_cons, List.take_zero, List.drop_succ_cons, List.drop_zero]
          repeat (go_big_quiet_step ((fail)))
          refine wpQuiet_nil ?_
          intro w8 u8
          replace u8 := later_out u8
          obtain ⟨w9, hst, hC9, hl9⟩ := Hfin.out w8 u8
          have Hst := Lib.hid hst
          clear hst l0 l1
          go_wp2_with (at_mapUpdate; refine wpList_storeL0 rfl rfl _ _ _ tFiles rfl _ _ _ rfl rfl rfl Hst.out ?_)
          go_roundw
          case rel => exact hC9
          case measure => exact hl9
end Go.Proofs.YtmlmdlbepppnlaaGreatDoor
namespace Go.Proofs.YtmlmdlbepppnlaaGreatDoor
open Go.RowKit
set_option linter.unusedVariables false
set_option linter.unusedSimpArgs false
attribute [local irreducible] Calls

/-! ### slices.Clone at []int -/
/-- 'out = append(out, xs...)', out the call's own, xs anybody's, elements of one cell. -/
theorem wpList_catA {P : Program} {w : World} {ops : Array Oper} {rest : List Oper} {o : Oper} {a : Act} {Q : Exit → Act → World → Prop} (hgd : o.guard = none) (s x : Operand) (t : TypeId)
    (ho : o.op = .call { callee := .builtin .append, args := #[s, x], argTypes := #[t, t] })
    (base lo hi : Nat) (e : TypeId) (z : Value) (bytes : Nat) (ht : P.underlying t = some (.slice e)) (hinfo : (P.info? e).map (fun i => (i.zero, i.size, i.bytes)) = some (some z, 1, bytes)) (hzs : z.cells.size = 1)
    (v vx : Value) (n : Nat) (xs news : List Value) (hs : a.eval s = v) (hown : w.ownsRow base e 1 v n xs) (hx : a.eval x = vx) (hsrc : Sl lo hi w vx news)
    (h1 : ∀ u ∈ news, u.oneCell' = true) (h63 : n + news.length ≤ maxLen) (hbytes : (n + news.length) * bytes ≤ 140737488355328) (hbase : base ≤ w.heap.size)
    (h : ∀ v' w', w'.ownsRow base e 1 v' (n + news.length) (xs ++ news) → w.grownBy w' v.ownBlock → (∀ k, v.ownBlock = some k → base ≤ k ∧ k < w.heap.size) → wpList P ops Q rest (a.put o.dst v') w') : wpList P ops Q (o :: rest) a w := by
  obtain ⟨i0, hi0, hz0, hz1, hz2⟩ := info_parts hinfo
  rcases hsrc with ⟨ao, cap, rfl, rfl⟩ | ⟨b, off, cap, rfl, hc, hm, _, _, hb, hcell⟩
  · refine wpList_plain hgd fun K hK => ?_
    have hr : (Builtin.append_ #[t, t] o.type #[v, .slice ao 0 cap]).run P w = .ok v w := by
      rcases hown.2 with ⟨rfl, rfl⟩ | ⟨g, cap, cur, rfl, _, _, hnc, _⟩
      · cases ao <;> simp [Builtin.append_, run_underlying ht, sizeOf, typeInfo, hi0, Builtin.lenOf, Builtin.firstCells, loadCells, loadCellsFrom]
      · cases ao <;> simp [Builtin.append_, run_underlying ht, sizeOf, typeInfo, hi0, Builtin.lenOf, Builtin.firstCells, hnc, storeCells, loadCells, loadCellsFrom]
    unfold Oper.wp execOp
    simp only [ho, resolve, invoke, builtin, Sem.run_bind, Sem.run_pure, Result.andThen_ok, List.map_toArray, List.map_cons, List.map_nil, hs, hx, hr]
    exact hK _ _ (h v w (by simpa using hown) ⟨rfl, rfl, rfl, Nat.le_refl _, fun _ _ _ => rfl⟩ hown.lt)
  · refine wpList_append_own _ hgd s x t ho base e i0 z 1 bytes ht hi0 hz0 hz1 hz2 hzs (by decide) v n xs hs hown ⟨b, off, none⟩ news.length cap news hx (by simp) ?_ h1 h63 hbytes hbase fun v' w' h2 h3 _ => h v' w' h2 h3 hown.lt
    intro j u hu
    have hj := (List.getElem?_eq_some_iff.1 hu).1
    rw [add_plain, hcell j hj]
    exact hu
theorem infoIntD : (Tryz.prog.info? tIntD).map (fun i => (i.zero, i.size, i.bytes)) = some (some (.int .i64 0), 1, 8) := by kernel_rfl
theorem owns_emptyD (w : World) (e : TypeId) (sz : Nat) : (w.alloc (.cells #[] e)).ownsRow w.heap.size e sz (.slice (some ⟨w.heap.size, 0, none⟩) 0 0) 0 [] := by
  refine ⟨by simp, Or.inr ⟨w.heap.size, 0, #[], rfl, Nat.le_refl _, heap_new w _, Nat.le_refl _, Nat.zero_le _, by simp, by simp⟩⟩
set_option maxRecDepth 100000 in
theorem clone_i (lo hi : Nat) (v : Value) (L : List Int) (w : World) (g : Gl w) (h : Sl lo hi w v (L.map intD)) (hL : L.length ≤ 1000000000) :
    Calls Tryz.prog 41 #[v] w fun e w' => ∃ v', e = .returned v' ∧ w'.ownsRow w.heap.size tIntD 1 v' L.length (L.map intD) ∧ Nw w w' := by
  have hgb := g.big
  have HL := Lib.hid hL; clear hL
  obtain ⟨a, cap, rfl, _, hc⟩ := int_cells h
  have hnil := fun (w : World) (a : Option Addr) (n c : Nat) => Lib.run_eql_slice_nil (P := Tryz.prog) w 26 _ a n c 0 0 Tryz.underlying26
  cases a with
  | none =>
    have hn : L = [] := by
      rcases hc with h | ⟨b, off, e, _⟩
      · exact h
      · cases e
    subst hn
    clear h hc
    go_enter Tryz.func41, Tryz.ntmps41
    go_wp2_with fail
    go_ret
    exact ⟨_, rfl, World.ownsRow_nil _ _ _ _, Upd.refl _ _⟩
  | some ad =>
    have n1 := nw_alloc w (.cells #[] tIntD)
    have Hn := Lib.hid (h.nw n1)
    clear h hc
    have o1 := owns_emptyD w tIntD 1
    go_enter Tryz.func41, Tryz.ntmps41
    go_wp2_with (at_builtin; refine wpList_catA rfl _ _ 26 rfl w.heap.size lo hi tIntD _ 8 Tryz.underlying26 infoIntD rfl _ _ _ _ _ rfl o1 rfl Hn.out ?c1 ?c2 ?c3 ?c4 ?_)
    case c1 =>
      intro u hu
      obtain ⟨x, _, rfl⟩ := List.mem_map.1 hu
      rfl
    case c2 => have := HL.out; unfold maxLen; rw [List.length_map]; omega
    case c3 => have := HL.out; rw [List.length_map]; omega
    case c4 => simp
    intro v' w2 hown hgrow hob
    have u2 : Nw w w2 := n1.grown hgrow (fun k hk => ⟨Or.inr (hob k hk).1, by have := (hob k hk).1; omega⟩)
    go_wp2_with fail
    go_ret
    refine ⟨_, rfl, ?_, u2⟩
    simpa using hown
theorem arm_done {B : Nat} {w z : World} {r : DiskR} {D : Dk.Disk} (h : DiskAt B w r D) (u : Nw w z) {n : Int} (hn : n ≤ 9223372036854775807) {keep : List Int} (hkI : ∀ x ∈ keep, I64 x) {v' : Value} (ho : z.ownsRow w.heap.size tIntD 1 v' keep.length (keep.map intD)) :
    DiskTo B r (Dk.arm D n keep) w ((z.setCell ⟨r.db, 5, none⟩ (.int .i64 (max n 0))).setCell ⟨r.db, 6, none⟩ v') := by
  have hk := Dk.arm_ok h.ok hn keep
  have hz := h.nw u
  have hlt := fun j hj => (h.foot_lt (k := j) hj).2
  have hdb := hlt r.db (Or.inl rfl)
  have hdB := h.db
  have hB := h.hb
  have hv : ∀ k, v'.ownBlock = some k → w.heap.size ≤ k := fun k e => (own_blockD ho e).1
  have hne : v'.ownBlock ≠ some r.db := fun e => by have := hv _ e; omega
  obtain ⟨a1, a2, a3, a4, a5, a6, a7, a8, a9⟩ := h.apart
  have u1 : Upd (fun k => k = r.db) z (z.setCell ⟨r.db, 5, none⟩ (.int .i64 (max n 0))) := Upd.set1 (Upd.refl _ _) (by omega) 5 _
  have u2 : Upd (fun k => k = r.db) (z.setCell ⟨r.db, 5, none⟩ (.int .i64 (max n 0))) ((z.setCell ⟨r.db, 5, none⟩ (.int .i64 (max n 0))).setCell ⟨r.db, 6, none⟩ v') := Upd.set1 (Upd.refl _ _) (by omega) 6 _
  have U := u1.trans u2
  have b2 := setCell_block (setCell_block hz.blk 5 (.int .i64 (max n 0))) 6 v'
  refine ⟨⟨r.db, r.fm, r.sm, r.qv, v'⟩, ⟨h.hb, h.db, h.fm, h.sm, h.ne, b2, hz.files.upd U (fun e => a1 e.symm), hz.set.upd U (fun e => a2 e.symm), owns_updD hz.queue U (fun k hk e => by subst e; exact a3 hk),
    owns_updD (owns_base ho (by omega)) U (fun k hk e => by subst e; exact hne hk), hk, hkI⟩, rfl, ((Nw.upd _ u).trans' U (fun k _ e => Or.inl e)), ?_⟩
  rintro j (e | e | e | e | e)
  · exact Or.inl (Or.inl e)
  · exact Or.inl (Or.inr (Or.inl e))
  · exact Or.inl (Or.inr (Or.inr (Or.inl e)))
  · exact Or.inl (Or.inr (Or.inr (Or.inr (Or.inl e))))
  · exact Or.inr (hv j e)
set_option maxRecDepth 100000 in
theorem arm_c {B : Nat} {w : World} {r : DiskR} {D : Dk.Disk} (h : DiskAt B w r D) (g : Gl w) {n : Int} (hn : I64 n) (lo hi : Nat) (v : Value) (keep : List Int) (hkI : ∀ x ∈ keep, I64 x) (hs : Sl lo hi w v (keep.map intD)) (hL : keep.length ≤ 1000000000) :
    Calls Tryz.prog 27 #[.pointer (some ⟨r.db, 0, none⟩), .int .i64 n, v] w fun e w' => e = .returned (.tuple #[]) ∧ DiskTo B r (Dk.arm D n keep) w w' := by
  have hc := Lib.hid (clone_i lo hi v keep w g hs hL)
  have H := Lib.hid h
  have HI := Lib.hid hkI
  have HN := Lib.hid hn
  clear h hkI hL hs hn
  go_enter Tryz.func27, Tryz.ntmps27
  go_wp2_with fail
  (with_reducible refine (hc.out).mono ?_)
  rintro _ w1 ⟨v', rfl, o1, n1⟩
  obtain ⟨av, cv, rfl⟩ := own_slD o1
  have hz := H.out.nw n1
  obtain ⟨_, _, _, _, _, c5, _⟩ := hz.cells
  have f5 := hz.frozen 5
  have k5 := setCell_block hz.blk 5 (.int .i64 (max n 0))
  have c6 : (w1.setCell ⟨r.db, 5, none⟩ (.int .i64 (max n 0))).cell? ⟨r.db, 6, none⟩ = some r.kv := by rw [cells_cell k5]; rfl
  have f6 := cells_frozen k5 6
  have hT := Lib.hid (arm_done H.out n1 HN.out.2 HI.out o1)
  clear hz k5 o1
  go_wp2_with fail
  go_end0
  exact ⟨rfl, hT.out⟩
/-- What a disk keeps for its crash, as a crash asks for it. -/
theorem keep_sl {B : Nat} {w : World} {r : DiskR} {D : Dk.Disk} (h : DiskAt B w r D) : ∀ z, Upd (fun j => j = r.db ∨ j = r.fm) w z → Sl B w.heap.size z r.kv (D.keep.map intD) := fun z u => by
  obtain ⟨a1, a2, a3, a4, a5, a6, a7, a8, a9⟩ := h.apart
  have ho := owns_updD h.keep u (fun k hk e => by
    rcases e with rfl | rfl
    · exact a6 hk
    · exact a7 hk)
  rcases Sl.of_owns ho with e | ⟨b, off, cap, h1, h2, h3, h4, h5, h6, h7⟩
  · exact Or.inl e
  · refine Or.inr ⟨b, off, cap, h1, h2, h3, h4, ?_, h6, h7⟩
    refine (h.foot_lt (k := b) (Or.inr (Or.inr (Or.inr (Or.inr ?_))))).2
    obtain ⟨hl, ho2⟩ := ho
    rcases ho2 with ⟨e, _⟩ | ⟨gb, cp, cur, e, _⟩
    · rw [e] at h1; simp at h1
    · rw [e] at h1 ⊢
      simp at h1
      simp [Value.ownBlock, h1]
theorem write0_keep (D : Dk.Disk) (f i : Int) (s : List UInt8) : (Dk.write0 D f i s).1.keep = D.keep := by
  unfold Dk.write0
  split
  · rfl
  · split
    · rfl
    · dsimp only
      unfold Dk.add
      split <;> rfl
theorem counted_keep (D : Dk.Disk) : (Dk.counted D).keep = D.keep := by
  unfold Dk.counted
  split <;> rfl
set_option maxHeartbeats 1000000 in
set_option maxRecDepth 100000 in
theorem write_c {B : Nat} {w : World} {r : DiskR} {D : Dk.Disk} (h : DiskAt B w r D) (g : Gl w) (hB : B ≤ w.heap.size) {f i : Int} (hf : I64 f) (hi : I64 i) (s : List UInt8) (hs : s.length ≤ 1000000000) :
    Calls Tryz.prog 80 #[.pointer (some ⟨r.db, 0, none⟩), .int .i64 f, .int .i64 i, .string ⟨s.toArray⟩] w fun e w' => e = .returned (.int .i64 (Dk.write D f i s).2) ∧ DiskTo B r (Dk.write D f i s).1 w w' := by
  have hgb := g.big
  have he := Lib.hid (ends_c h)
  have H := Lib.hid h
  have HB := Lib.hid hB
  have HS := Lib.hid (And.intro hf (And.intro hi hs))
  clear h hB hs hf hi
  go_enter Tryz.func80, Tryz.ntmps80
  go_wp2_with fail
  (with_reducible refine (he.out).mono ?_)
  rintro _ w1 ⟨rfl, hT1⟩
  obtain ⟨r1, h1, e1, u1, f1⟩ := hT1
  have hw := write0_c h1 (g.upd u1) (Nat.le_trans HB.out u1.size) HS.out.1 HS.out.2.1 s HS.out.2.2
  rw [e1] at hw
  have Hw := Lib.hid hw
  have H1 := Lib.hid (And.intro h1 (And.intro u1 f1))
  clear hw he h1 u1 f1
  generalize hE : Dk.ends D = E at *
  go_wp2_with fail
  (with_reducible refine (Hw.out).mono ?_)
  rintro _ w2 ⟨rfl, hT2⟩
  obtain ⟨r2, h2, e2, u2, f2⟩ := hT2
  have e3 := e2.trans e1
  have H2 : Hid (DiskTo B r (Dk.write0 (Dk.counted D) f i s).1 w w2) := DiskTo.then_ H.out H1.out.1 e1 H1.out.2.1 H1.out.2.2 ⟨r2, h2, e2, u2, f2⟩
  cases E with
  | false =>
    have hr : Hid (Dk.write D f i s = Dk.write0 (Dk.counted D) f i s) := by show _ = _; unfold Dk.write; rw [hE, if_neg (by decide)]
    clear hE h2 u2 f2
    go_wp2_with fail
    go_ret
    exact ⟨by rw [hr.out]; rfl, by rw [hr.out]; exact H2.out⟩
  | true =>
    have hr : Hid (Dk.write D f i s = (Dk.crash (Dk.write0 (Dk.counted D) f i s).1 (Dk.write0 (Dk.counted D) f i s).1.keep, 8)) := by show _ = _; unfold Dk.write; rw [hE, if_pos rfl, write0_keep]
    have c6 := h2.cells.2.2.2.2.2.2
    rw [e3] at c6
    have g2 := (g.upd H1.out.2.1).upd u2
    have hc := crash_c h2 g2 (Nat.le_trans HB.out (Nat.le_trans H1.out.2.1.size u2.size)) B w2.heap.size r2.kv (Dk.write0 (Dk.counted D) f i s).1.keep (keep_sl h2) h2.kI
    rw [e3] at hc
    obtain ⟨ak, ck, hkv⟩ := own_slD h2.keep
    rw [hkv] at hc c6
    have Hc := Lib.hid hc
    have h2' := Lib.hid (And.intro h2 (And.intro u2 f2))
    clear hc h2 u2 f2 hE
    go_wp2_with fail
    (with_reducible refine (Hc.out).mono ?_)
    rintro _ w3 ⟨rfl, hT3⟩
    go_wp2_with fail
    go_ret
    exact ⟨by rw [hr.out]; rfl, by rw [hr.out]; exact DiskTo.then_ H.out h2'.out.1 e3 (H1.out.2.1.trans' h2'.out.2.1 (fun k hk e => (H1.out.2.2 k e).elim id (fun e4 => by omega))) (fun j hj => (h2'.out.2.2 j hj).elim (fun e4 => H1.out.2.2 j e4) (fun e4 => Or.inr (Nat.le_trans H1.out.2.1.size e4))) hT3⟩
end Go.Proofs.YtmlmdlbepppnlaaGreatDoor
namespace Go.Proofs.YtmlmdlbepppnlaaGreatDoor
open Go.RowKit
set_option linter.unusedVariables false
set_option linter.unusedSimpArgs false
attribute [local irreducible] Calls

set_option maxRecDepth 100000 in
theorem index_iU (lo0 hi0 : Nat) (v : Value) (l : List Int) (t : Int) (w : World) (hv : Sl lo0 hi0 w v (l.map intD)) (hl : l.length ≤ 20000000) :
    Calls Tryz.prog 63 #[v, .int .i64 t] w fun e w' => e = .returned (.int .i64 (idxI (fun x => decide (x = t)) l)) ∧ w = w' := by
  obtain ⟨a, cap, rfl, -, hc⟩ := int_cells hv
  have HC := Lib.hid hc
  have hl1 : (l.length : Int) ≤ 20000000 := by omega
  clear hv hc
  go_enter Tryz.func63, Tryz.ntmps63
  go_wp2_with fail
  go_loopw [8] (fun i wr => ∃ n : Nat, n ≤ l.length ∧ i = .int .i64 (n : Int) ∧ Hid (∀ j (h : j < l.length), j < n → (decide (l[j] = t)) = false) ∧ w = wr) (fun i _ => l.length - (intOf i).toNat)
  case atStart => exact ⟨0, Nat.zero_le _, rfl, fun j _ h => absurd h (Nat.not_lt_zero _), rfl⟩
  case round =>
    obtain ⟨n, hn, rfl, hall, rfl⟩ := hrel
    by_cases hlt : n < l.length
    · have hlt1 : (n : Int) < l.length := by omega
      rcases HC.out with hnil | ⟨b, off, rfl, _, _, hcell⟩
      · simp [hnil] at hlt
      have c0 := hcell n hlt
      have hnext : l[n] ≠ t → Hid (∀ j (h : j < l.length), j < n + 1 → (decide (l[j] = t)) = false) := fun e j h hj => by
        by_cases ej : j = n
        · subst ej; exact decide_eq_false e
        · exact hall.out j h (by omega)
      have hstop : l[n] = t → Hid (idxI (fun x => decide (x = t)) l = n) := fun e => idx_hit hlt (decide_eq_true e) hall.out
      clear hcell
      generalize l[n] = x at *
      by_cases he : x = t
      · have hr := hstop he
        have htt : (t == x) = true := by simp [he]
        clear hstop hnext
        subst he
        go_wp2_with fail
        go_ret
        rw [hr.out]
        exact ⟨rfl, rfl⟩
      · have hz := hnext he
        have htt : (t == x) = false := by simp; exact fun e => he e.symm
        clear hstop hnext he
        go_wp2_with fail
        go_roundw
        case rel => exact ⟨n + 1, by omega, by go_num, hz, by first | rfl | trivial⟩
        case measure => simp [intOf]; omega
    · obtain rfl : n = l.length := by omega
      have hr : Hid (idxI (fun x => decide (x = t)) l = -1) := idx_miss (fun j h => hall.out j h h)
      clear hall
      go_wp2_with fail
      go_ret
      rw [hr.out]
      exact ⟨rfl, rfl⟩
theorem idx_memI (l : List Int) (t : Int) : decide (0 ≤ idxI (fun x => decide (x = t)) l) = decide (t ∈ l) := by
  rw [idx_any, Bool.eq_iff_iff]; simp
set_option maxRecDepth 100000 in
theorem contains_iU (lo0 hi0 : Nat) (v : Value) (l : List Int) (t : Int) (w : World) (hv : Sl lo0 hi0 w v (l.map intD)) (hl : l.length ≤ 20000000) :
    Calls Tryz.prog 34 #[v, .int .i64 t] w fun e w' => e = .returned (.bool (decide (t ∈ l))) ∧ w = w' := by
  have hi := Lib.hid (index_iU lo0 hi0 v l t w hv hl)
  have hm := Lib.hid (idx_memI l t)
  obtain ⟨a, cap, rfl, -, -⟩ := int_cells hv
  clear hv
  generalize idxI (fun x => decide (x = t)) l = ix at *
  go_enter Tryz.func34, Tryz.ntmps34
  go_wp2_with fail
  (with_reducible refine (hi.out).mono ?_)
  rintro _ _ ⟨rfl, rfl⟩
  go_wp2_with fail
  go_ret
  exact ⟨by rw [← hm.out]; rfl, rfl⟩
theorem contains_iN (lo0 hi0 : Nat) (v : Value) (l : List Int) (t : Int) (w : World) (hv : Sl lo0 hi0 w v (l.map intD)) (hl : l.length ≤ 20000000) :
    Calls Tryz.prog 34 #[v, .int .i64 t] w fun e w' => e = .returned (.bool (decide (t ∈ l))) ∧ Nw w w' :=
  (contains_iU lo0 hi0 v l t w hv hl).mono fun _ _ ⟨h, e⟩ => ⟨h, by rw [← e]; exact Upd.refl _ _⟩
abbrev tManU : TypeId := 28
set_option maxHeartbeats 1000000 in
set_option maxRecDepth 100000 in
theorem check_c (lo hi lo2 hi2 : Nat) (v : Value) (cs : List (List UInt8)) (p z : Int) (cv : Value) (l : List Int) (i : Int) (hi64 : I64 i) (t : List UInt8) (w : World) (hv : Sl lo hi w v (cs.map bsMU)) (hl : cs.length ≤ 90) (hc : Sl lo2 hi2 w cv (l.map intD)) (hl2 : l.length ≤ 1000000) :
    Calls Tryz.prog 48 #[v, .agg #[.int .i64 p, .int .i64 z, cv], .int .i64 i, .string ⟨t.toArray⟩] w fun e w' => e = .returned (.bool (Ft.checkM cs l i t)) ∧ Nw w w' := by
  obtain ⟨a, cap, rfl, -, hcc⟩ := int_cells hc
  have HC := Lib.hid (hc.nw (nw_alloc w (.cells #[.int .i64 p, .int .i64 z, .slice a l.length cap] tManU)))
  have HCC := Lib.hid (int_cells HC.out)
  have n1 := nw_alloc w (.cells #[.int .i64 p, .int .i64 z, .slice a l.length cap] tManU)
  have HT := Lib.hid (fun n : Int => ctext_wU lo hi v cs n _ (hv.nw n1) hl)
  obtain ⟨a1, c1, rfl, -⟩ := strs_cellsU hv
  have hl3 : (l.length : Int) ≤ 1000000 := by omega
  have HU := Lib.hid n1
  clear hv hc hcc n1
  unfold I64 at hi64
  obtain ⟨hi1, hi2'⟩ := hi64
  by_cases h0 : i < 0
  · have d0 : decide (i < 0) = true := decide_eq_true h0
    have hr : Hid (Ft.checkM cs l i t = false) := by
      show _ = _
      unfold Ft.checkM; rw [decide_eq_false (show ¬ 0 ≤ i by omega)]; rfl
    clear h0
    go_enter Tryz.func48, Tryz.ntmps48
    go_wp2_with fail
    go_ret
    exact ⟨by rw [hr.out]; rfl, HU.out⟩
  have d0 : decide (i < 0) = false := decide_eq_false h0
  by_cases h1 : (l.length : Int) ≤ i
  · have d1 : decide ((l.length : Int) ≤ i) = true := decide_eq_true h1
    have hr : Hid (Ft.checkM cs l i t = false) := by
      show _ = _
      unfold Ft.checkM; rw [decide_eq_false (show ¬ i < l.length by omega)]; simp
    clear h1 h0
    go_enter Tryz.func48, Tryz.ntmps48
    go_wp2_with fail
    go_ret
    exact ⟨by rw [hr.out]; rfl, HU.out⟩
  have d1 : decide ((l.length : Int) ≤ i) = false := decide_eq_false h1
  obtain ⟨k, rfl⟩ : ∃ k : Nat, i = k := ⟨i.toNat, by omega⟩
  have hk : k < l.length := by omega
  have hr : Hid (Ft.checkM cs l k t = (hasAtU cs l[k] && decide (textAtU cs l[k] = t))) := by
    show _ = _
    unfold Ft.checkM
    rw [decide_eq_true (show (0 : Int) ≤ (k : Int) by omega), decide_eq_true (show (k : Int) < l.length by omega)]
    simp [hk]
  rcases HCC.out with ⟨_, _, e, _, hnil | ⟨b, off, e2, _, _, hcell⟩⟩
  · simp [hnil] at hk
  injection e with e3 e4 e5
  subst e3 e5
  subst e2
  have c0 := hcell k hk
  have hk1 : (k : Int) < l.length := by omega
  have HT1 := Lib.hid (HT.out l[k])
  clear hcell h0 h1 HCC HC HT
  generalize l[k] = n at *
  have htt : (textAtU cs n == t) = decide (textAtU cs n = t) := by rw [Bool.eq_iff_iff]; simp
  go_enter Tryz.func48, Tryz.ntmps48
  go_wp2_with fail
  (with_reducible refine (HT1.out).mono ?_)
  rintro _ w2 ⟨rfl, u2⟩
  have HU2 := Lib.hid (HU.out.trans u2)
  clear u2 HT1
  cases hh : hasAtU cs n with
  | false =>
    rw [hh] at hr
    have hr2 : Hid (Ft.checkM cs l k t = false) := hr.out
    clear hr hh
    go_wp2_with fail
    go_ret
    exact ⟨by rw [hr2.out]; rfl, HU2.out⟩
  | true =>
    rw [hh] at hr
    have hr2 : Hid (Ft.checkM cs l k t = decide (textAtU cs n = t)) := hr.out
    clear hr hh
    go_wp2_with fail
    go_ret
    exact ⟨by rw [hr2.out, ← htt]; rfl, HU2.out⟩
end Go.Proofs.YtmlmdlbepppnlaaGreatDoor
namespace Go.Proofs.YtmlmdlbepppnlaaGreatDoor
open Go.RowKit
set_option linter.unusedVariables false
set_option linter.unusedSimpArgs false
attribute [local irreducible] Calls

theorem infoIntU : (Tryz.prog.info? 3).map (fun i => (i.zero, i.size, i.bytes)) = some (some (.int .i64 0), 1, 8) := by kernel_rfl
/-- What is missing, after n rounds. -/
theorem miss_take {l hv : List Int} {n : Nat} (h : n < l.length) : Ft.miss (l.take (n + 1)) hv = Ft.miss (l.take n) hv ++ if l[n] ∈ hv then [] else [(n : Int)] := by
  rw [List.take_succ_eq_append_getElem h, Ft.miss_snoc, List.length_take, Nat.min_eq_left (by omega)]
set_option maxHeartbeats 2000000 in
set_option maxRecDepth 100000 in
theorem missing_c (lo hi lo2 hi2 : Nat) (p z : Int) (cv : Value) (l : List Int) (hv : Value) (have_ : List Int) (w : World) (g : Gl w) (hc : Sl lo hi w cv (l.map intD)) (hh : Sl lo2 hi2 w hv (have_.map intD)) (hl : l.length ≤ 1000000) (hl2 : have_.length ≤ 20000000) :
    Calls Tryz.prog 36 #[.agg #[.int .i64 p, .int .i64 z, cv], hv] w fun e w' => ∃ v', e = .returned v' ∧ w'.ownsRow w.heap.size 3 1 v' (Ft.miss l have_).length ((Ft.miss l have_).map intD) ∧ Nw w w' := by
  have hgb := g.big
  obtain ⟨a, cap, rfl, -, -⟩ := int_cells hc
  have n1 := nw_alloc w (.cells #[.int .i64 p, .int .i64 z, .slice a l.length cap] tManU)
  have HC := Lib.hid (int_cells (hc.nw n1))
  have HK := Lib.hid (fun (n : Int) (wr : World) (u : Nw w wr) => contains_iU lo2 hi2 hv have_ n wr (hh.nw u) hl2)
  obtain ⟨ah, caph, rfl, -, -⟩ := int_cells hh
  have hl3 : (l.length : Int) ≤ 1000000 := by omega
  have HU := Lib.hid n1
  have HS : Hid (w.heap.size ≤ (w.alloc (.cells #[.int .i64 p, .int .i64 z, .slice a l.length cap] tManU)).heap.size) := n1.size
  clear hc hh n1
  go_enter Tryz.func36, Tryz.ntmps36
  go_wp2_with fail
  go_loopw [5, 11] (fun vo iv wr => ∃ n : Nat, n ≤ l.length ∧ iv = .int .i64 (n : Int) ∧ Hid (wr.ownsRow (w.heap.size + 1) 3 1 vo (Ft.miss (l.take n) have_).length ((Ft.miss (l.take n) have_).map intD)) ∧ Hid (Nw (w.alloc (.cells #[.int .i64 p, .int .i64 z, .slice a l.length cap] tManU)) wr)) (fun vo iv _ => l.length - (intOf iv).toNat)
  case atStart => exact ⟨0, Nat.zero_le _, rfl, World.ownsRow_nil _ _ _ _, Upd.refl _ _⟩
  case round =>
    obtain ⟨n, hn, rfl, HO, U⟩ := hrel
    obtain ⟨ao, capo, rfl⟩ := own_slG HO.out
    by_cases hlt : n < l.length
    · rcases HC.out with ⟨_, _, e, _, hnil | ⟨b, off, e2, _, _, hcell⟩⟩
      · simp [hnil] at hlt
      injection e with e3 e4 e5
      subst e3 e5
      subst e2
      have c0 := later_cell ⟨wr, U.out⟩ (hcell n hlt)
      have hlt1 : (n : Int) < l.length := by omega
      have HT := Lib.hid (miss_take (hv := have_) hlt)
      have hml := Ft.miss_len (l.take n) have_
      rw [List.length_take] at hml
      have hml2 : (Ft.miss (l.take n) have_).length ≤ 1000000 := by omega
      have hk := Lib.hid (HK.out l[n] wr (HU.out.trans U.out))
      clear hcell hml
      generalize l[n] = x at *
      by_cases hm : x ∈ have_
      · have hy : Hid (Calls Tryz.prog 34 #[.slice ah have_.length caph, .int .i64 x] wr fun e w' => e = .returned (.bool true) ∧ wr = w') := by rw [← decide_eq_true hm]; exact hk.out
        have hfin : Hid (wr.ownsRow (w.heap.size + 1) 3 1 (.slice ao (Ft.miss (l.take n) have_).length capo) (Ft.miss (l.take (n + 1)) have_).length ((Ft.miss (l.take (n + 1)) have_).map intD)) := by
          show wr.ownsRow _ _ _ _ _ _
          rw [HT.out, if_pos hm, List.append_nil]; exact HO.out
        clear hk HT hm
        go_wp2_with fail
        (with_reducible refine (hy.out).mono ?_)
        rintro _ _ ⟨rfl, rfl⟩
        go_wp2_with fail
        go_roundw
        case rel => exact ⟨n + 1, by omega, by go_num, hfin, U⟩
        case measure => simp [intOf]; omega
      · have hy : Hid (Calls Tryz.prog 34 #[.slice ah have_.length caph, .int .i64 x] wr fun e w' => e = .returned (.bool false) ∧ wr = w') := by rw [← decide_eq_false hm]; exact hk.out
        have HT2 : Hid (Ft.miss (l.take (n + 1)) have_ = Ft.miss (l.take n) have_ ++ [(n : Int)]) := by
          have := HT.out
          rw [if_neg hm] at this
          exact this
        have hsz : w.heap.size + 1 ≤ wr.heap.size := by have := U.out.size; simpa using this
        clear hk HT hm
        go_wp2_with fail
        (with_reducible refine (hy.out).mono ?_)
        rintro _ _ ⟨rfl, rfl⟩
        go_wp2_with (at_builtin; refine wpList_appL rfl _ _ 26 rfl (w.heap.size + 1) 3 _ 1 8 Tryz.underlying26 infoIntU rfl (by decide) _ _ _ rfl HO.out [.int .i64 (n : Int)] rfl rfl ?c1 ?c2 ?c3 hsz (by omega) ?_)
        case c1 => intro u hu; rw [List.mem_singleton.1 hu]; rfl
        case c2 => unfold maxLen; omega
        case c3 => omega
        intro v' w9 hown9 u9 hob
        obtain ⟨a9, cap9, rfl⟩ := own_slG hown9
        have hfin : Hid (w9.ownsRow (w.heap.size + 1) 3 1 (.slice a9 ((Ft.miss (l.take n) have_).length + 1) cap9) (Ft.miss (l.take (n + 1)) have_).length ((Ft.miss (l.take (n + 1)) have_).map intD)) := by
          show w9.ownsRow _ _ _ _ _ _
          rw [HT2.out, List.length_append, List.length_singleton, List.map_append]
          exact hown9
        have hU := Lib.hid (U.out.trans' u9 (fun j hj e => by
          have h1 := (HO.out.lt j e).1
          simp at hj; omega))
        clear hown9 u9 hob
        go_wp2_with fail
        go_roundw
        case rel => exact ⟨n + 1, by omega, by go_num, hfin, hU⟩
        case measure => simp [intOf]; omega
    · obtain rfl : n = l.length := by omega
      simp only [List.take_length] at HO ⊢
      go_wp2_with fail
      go_ret
      exact ⟨_, rfl, owns_base HO.out (by omega), HU.out.trans U.out⟩
theorem cutp_c (r s : List UInt8) (w : World) : Calls Tryz.prog 65 #[.string ⟨r.toArray⟩, .string ⟨s.toArray⟩] w fun e w' => e = .returned (.tuple #[.string ⟨(Lib.trimPrefix r s).toArray⟩, .bool (s.isPrefixOf r)]) ∧ w = w' :=
  (CutPrefix_c ⟨r.toArray⟩ ⟨s.toArray⟩ w).mono fun e w' ⟨he, hw⟩ => ⟨by rw [he, bs_list, bs_list]; rfl, hw⟩
theorem eats_step (cs : List (List UInt8)) (l : List Int) (n : Nat) (h : n < l.length) (r : List UInt8) :
    Ft.eats cs (l.drop n) r = ((hasAtU cs l[n] && !(textAtU cs l[n]).isEmpty && decide ((textAtU cs l[n]).length ≤ 4096) && (textAtU cs l[n]).isPrefixOf r) && Ft.eats cs (l.drop (n + 1)) (r.drop (textAtU cs l[n]).length)) := by
  rw [List.drop_eq_getElem_cons h]; rfl
set_option maxHeartbeats 4000000 in
set_option maxRecDepth 100000 in
theorem right_c (lo hi lo2 hi2 : Nat) (v : Value) (cs : List (List UInt8)) (p z : Int) (cv : Value) (l : List Int) (w : World) (g : Gl w) (hv : Sl lo hi w v (cs.map bsMU)) (hl : CntOkU cs) (hn : cs.Nodup) (hc : Sl lo2 hi2 w cv (l.map intD)) (hl2 : l.length ≤ 1000000) :
    Calls Tryz.prog 38 #[v, .agg #[.int .i64 p, .int .i64 z, cv]] w fun e w' => e = .returned (.bool (Ft.rightM cs ⟨p, z, l⟩)) ∧ Nw w w' := by
  obtain ⟨a, cap, rfl, -, -⟩ := int_cells hc
  have n1 := nw_alloc w (.cells #[.int .i64 p, .int .i64 z, .slice a l.length cap] tManU)
  have bx := heap_new w (.cells #[.int .i64 p, .int .i64 z, .slice a l.length cap] tManU)
  have HC := Lib.hid (int_cells (hc.nw n1))
  have HT := Lib.hid (fun (n : Int) (wr : World) (u : Nw w wr) => ctext_wU lo hi v cs n wr (hv.nw u) hl.n)
  have HR := Lib.hid (fun (wr : World) (u : Nw w wr) => right_w37U lo hi v cs wr (g.upd u) (hv.nw u) hl hn)
  obtain ⟨a1, c1, rfl, -⟩ := strs_cellsU hv
  have hl3 : (l.length : Int) ≤ 1000000 := by omega
  have HU := Lib.hid n1
  have HB := Lib.hid bx
  have ht1 := Lib.hid (HT.out p _ n1)
  have htx : ∀ p, (textAtU cs p).length ≤ 100 := fun p => by
    unfold textAtU
    split
    · rw [List.getD_eq_getElem?_getD]
      cases he : cs[p.toNat]? with
      | none => simp
      | some x => exact hl.s x (List.mem_of_getElem? he)
    · simp
  have HTL := Lib.hid htx
  have htl := htx p
  clear htx
  have hdef : Ft.rightM cs ⟨p, z, l⟩ = (hasAtU cs p && decide (z = (textAtU cs p).length) && decide (l.length ≤ 1000) && Ft.eats cs l (textAtU cs p)) := rfl
  have HD := Lib.hid hdef
  clear hv hc n1 bx hl hdef
  generalize Ft.rightM cs ⟨p, z, l⟩ = res at *
  generalize hasAtU cs p = hb at *
  generalize textAtU cs p = t at *
  have htl1 : (t.length : Int) ≤ 100 := by omega
  clear htl
  go_enter Tryz.func38, Tryz.ntmps38
  go_wp2_with fail
  (with_reducible refine (ht1.out).mono ?_)
  rintro _ w2 ⟨rfl, u2⟩
  have HU2 := Lib.hid (HU.out.trans u2)
  have HB2 := Lib.hid (Nw.keep u2 HB.out)
  have U2 := Lib.hid u2
  have hr2 := Lib.hid (HR.out w2 HU2.out)
  clear u2 HR ht1 HB HU
  cases hb with
  | false =>
    have h0 : Hid (res = false) := by show _ = _; have := HD.out; simpa using this
    clear HD
    go_wp2_with fail
    go_ret
    exact ⟨by rw [h0.out]; rfl, HU2.out⟩
  | true =>
    have k1 : w2.cell? ⟨w.heap.size, 1, none⟩ = some (.int .i64 z) := by simp [World.cell?, HB2.out]
    have k2 : w2.cell? ⟨w.heap.size, 2, none⟩ = some (.slice a l.length cap) := by simp [World.cell?, HB2.out]
    have HB3 := Lib.hid (fun (w3 : World) (u3 : Nw w2 w3) => (show w3.cell? ⟨w.heap.size, 1, none⟩ = some (.int .i64 z) ∧ w3.cell? ⟨w.heap.size, 2, none⟩ = some (.slice a l.length cap) from ⟨by simp [World.cell?, Nw.keep u3 HB2.out], by simp [World.cell?, Nw.keep u3 HB2.out]⟩))
    clear k1 k2 HB2
    by_cases hz : z = t.length
    · have hz1 : (z == (t.length : Int)) = true := by simp [hz]
      have hz2 : (z != (t.length : Int)) = false := by simp [hz]
      have hz3 : Hid (decide (z = (t.length : Int)) = true) := decide_eq_true hz
      clear hz
      by_cases hk : l.length ≤ 1000
      · have hk1 : decide ((1000 : Int) < l.length) = false := decide_eq_false (by omega)
        have hk2 : (l.length : Int) ≤ 1000 := by omega
        have HD2 : Hid (res = Ft.eats cs l t) := by
          show _ = _
          have := HD.out
          rw [hz3.out, decide_eq_true hk] at this
          simpa using this
        clear HD hk hz3
        go_wp2_with fail
        (with_reducible refine (hr2.out).mono ?_)
        rintro _ w3 ⟨rfl, u3⟩
        obtain ⟨k1, k2⟩ := HB3.out w3 u3
        have HU3 := Lib.hid (HU2.out.trans u3)
        have HC3 := Lib.hid (HC.out)
        have U3 := Lib.hid (U2.out.trans u3)
        clear u3 HB3 hr2
        go_wp2_with fail
        go_loopw [5, 43] (fun tv iv wr => ∃ (n : Nat) (r : List UInt8), n ≤ l.length ∧ r.length ≤ 100 ∧ iv = .int .i64 (n : Int) ∧ tv = .string ⟨r.toArray⟩ ∧ Hid (res = Ft.eats cs (l.drop n) r) ∧ Hid (Nw w3 wr)) (fun tv iv _ => l.length - (intOf iv).toNat)
        case atStart => exact ⟨0, t, Nat.zero_le _, by omega, rfl, rfl, HD2, Upd.refl _ _⟩
        case round =>
          obtain ⟨n, r, hn, hr, rfl, rfl, HE, U⟩ := hrel
          by_cases hlt : n < l.length
          · rcases HC.out with ⟨_, _, e, _, hnil | ⟨b, off, e2, _, _, hcell⟩⟩
            · simp [hnil] at hlt
            injection e with e3 e4 e5
            subst e3 e5
            subst e2
            have c0 := later_cell ⟨wr, U3.out.trans U.out⟩ (hcell n hlt)
            have hlt1 : (n : Int) < l.length := by omega
            have HS := Lib.hid (eats_step cs l n hlt r)
            have hx := Lib.hid (HT.out l[n] wr (HU3.out.trans U.out))
            have hsl : (textAtU cs l[n]).length ≤ 100 := HTL.out _
            clear hcell
            generalize l[n] = x at *
            generalize hasAtU cs x = hb at *
            generalize textAtU cs x = s at *
            have hs1 : decide ((4096 : Int) < s.length) = false := decide_eq_false (by omega)
            have hs2 : (s.length : Int) ≤ 100 := by omega
            have hs3 : Hid (decide (s.length ≤ 4096) = true) := decide_eq_true (by omega)
            have hr1 : (r.length : Int) ≤ 100 := by omega
            go_wp2_with fail
            (with_reducible refine (hx.out).mono ?_)
            rintro _ w4 ⟨rfl, u4⟩
            have U4 := Lib.hid (U.out.trans u4)
            clear hx u4
            go_wp2_with fail
            (with_reducible refine (cutp_c _ _ _).mono ?_)
            rintro _ _ ⟨rfl, rfl⟩
            cases hb with
            | false =>
              have h0 : Hid (res = false) := by show _ = _; rw [HE.out, HS.out]; rfl
              clear HS HE
              go_wp2_with fail
              go_ret
              exact ⟨by rw [h0.out]; rfl, HU3.out.trans U4.out⟩
            | true =>
              by_cases hem : s = []
              · have h0 : Hid (res = false) := by show _ = _; rw [HE.out, HS.out, hem]; rfl
                have h1 : s.isEmpty = true := by rw [hem]; rfl
                clear HS HE hem
                go_wp2_with fail
                go_ret
                exact ⟨by rw [h0.out]; rfl, HU3.out.trans U4.out⟩
              · have h1 : s.isEmpty = false := by cases s <;> simp_all
                cases hp : s.isPrefixOf r with
                | false =>
                  have h0 : Hid (res = false) := by show _ = _; rw [HE.out, HS.out, hp]; simp
                  clear HS HE hem
                  go_wp2_with fail
                  go_ret
                  exact ⟨by rw [h0.out]; rfl, HU3.out.trans U4.out⟩
                | true =>
                  have h0 : Hid (res = Ft.eats cs (l.drop (n + 1)) (r.drop s.length)) := by show _ = _; rw [HE.out, HS.out, hp, h1, hs3.out]; simp
                  have h3 : Hid (Lib.trimPrefix r s = r.drop s.length) := by show _ = _; unfold Lib.trimPrefix Lib.hasPrefix; rw [hp]; rfl
                  clear HS HE hem
                  go_wp2_with fail
                  go_roundw
                  case rel => exact ⟨n + 1, r.drop s.length, by omega, by rw [List.length_drop]; omega, by go_num, by rw [h3.out], h0, U4⟩
                  case measure => simp [intOf]; omega
          · obtain rfl : n = l.length := by omega
            rw [List.drop_of_length_le (Nat.le_refl _)] at HE
            have HE2 : Hid (res = r.isEmpty) := HE.out
            go_wp2_with fail
            go_ret
            exact ⟨by rw [HE2.out]; rfl, HU3.out.trans U.out⟩
      · have hk1 : decide ((1000 : Int) < l.length) = true := decide_eq_true (by omega)
        have h0 : Hid (res = false) := by
          show _ = _
          have := HD.out
          rw [decide_eq_false hk] at this
          simpa using this
        clear HD hz3 hk
        go_wp2_with fail
        (with_reducible refine (hr2.out).mono ?_)
        rintro _ w3 ⟨rfl, u3⟩
        obtain ⟨k1, k2⟩ := HB3.out w3 u3
        have HU3 := Lib.hid (HU2.out.trans u3)
        clear u3 HB3
        go_wp2_with fail
        go_ret
        exact ⟨by rw [h0.out]; rfl, HU3.out⟩
    · have hz1 : (z == (t.length : Int)) = false := by simp [hz]
      have hz2 : (z != (t.length : Int)) = true := by simp [hz]
      have h0 : Hid (res = false) := by
        show _ = _
        have := HD.out
        rw [decide_eq_false hz] at this
        simpa using this
      clear HD hz
      go_wp2_with fail
      (with_reducible refine (hr2.out).mono ?_)
      rintro _ w3 ⟨rfl, u3⟩
      obtain ⟨k1, k2⟩ := HB3.out w3 u3
      have HU3 := Lib.hid (HU2.out.trans u3)
      clear u3 HB3
      go_wp2_with fail
      go_ret
      exact ⟨by rw [h0.out]; rfl, HU3.out⟩
end Go.Proofs.YtmlmdlbepppnlaaGreatDoor
namespace Go.Proofs.YtmlmdlbepppnlaaGreatDoor
open Go.RowKit
set_option linter.unusedVariables false
set_option linter.unusedSimpArgs false
attribute [local irreducible] Calls

set_option maxHeartbeats 1000000 in
set_option maxRecDepth 100000 in
theorem grow_i (n : Nat) (hn : n ≤ 1000000) (w : World) (g : Gl w) :
    Calls Tryz.prog 64 #[.slice none 0 0, .int .i64 n] w fun e w' => ∃ v', e = .returned v' ∧ w'.ownsRow w.heap.size 3 1 v' 0 [] ∧ Nw w w' := by
  by_cases h0 : n = 0
  · subst h0
    go_enter Tryz.func64, Tryz.ntmps64
    go_wp2_with fail
    go_ret
    exact ⟨_, rfl, World.ownsRow_nil _ _ _ _, Upd.refl _ _⟩
  · obtain ⟨i0, hi, hz0, hz1, hz2⟩ := info_parts infoIntU
    have hold : (Builtin.firstCells i0.size 0 (.slice none 0 0)).run Tryz.prog w.drew = .ok ([] : List Value).toArray w.drew := run_firstCells_none _ i0.size 0 0 0
    have hrz := fun ty => Lib.run_append_grow_zeros w 26 3 ty 3 i0 _ .i64 .i64 Tryz.underlying26 Tryz.underlying3 hi hz0 none 0 0 [] hold n (by omega) (by omega) (by omega) (by omega) (by rw [hz2]; omega) (by
      rw [hz2]
      have : Builtin.nextslicecap (0 + n) 0 ≤ 0 + n := by unfold Builtin.nextslicecap; rw [if_pos (by omega)]; exact Nat.le_refl _
      omega)
    have hG1 := grownCap_ge w (0 + n) 0 3
    have hG2 := grownCap_le_maxLen w (0 + n) 0 3 (by unfold maxLen; omega)
    rw [Nat.zero_add] at hG1 hG2
    simp only [Nat.zero_add] at hrz
    generalize grownCap w n 0 3 = G at *
    have hG63 : G ≤ 9223372036854775807 := by unfold maxLen at hG2; exact hG2
    have hn1 : (n : Int) ≤ 1000000 := by omega
    have hn2 : (1 : Int) ≤ n := by omega
    have hfin : Hid ((w.alloc (.cells (Builtin.zeroCells #[Value.int IntKind.i64 0] n ++ Builtin.zeroCells #[Value.int IntKind.i64 0] (G - n)) 3)).drew.ownsRow w.heap.size 3 1 (.slice (some ⟨w.heap.size, 0, none⟩) 0 G) 0 [] ∧ Nw w (w.alloc (.cells (Builtin.zeroCells #[Value.int IntKind.i64 0] n ++ Builtin.zeroCells #[Value.int IntKind.i64 0] (G - n)) 3)).drew) := by
      refine ⟨⟨rfl, Or.inr ⟨w.heap.size, G, _, rfl, Nat.le_refl _, heap_new w _, Nat.zero_le _, hG2, ?_, by simp⟩⟩, ((Upd.refl _ w).alloc _).drew⟩
      simp [Builtin.zeroCells]; omega
    clear hold hG2 hi hz0 hz1 hz2
    go_enter Tryz.func64, Tryz.ntmps64
    go_wp2_with (at_builtin; refine Lib.wpList_append_run _ rfl _ _ _ _ rfl _ _ rfl rfl _ _ (hrz _) ?_)
    go_ret
    exact ⟨_, rfl, hfin.out⟩
/-! ### Lists of lists of numbers in memory -/
/-- The slices of C's numbers, beside a slice of them. -/
structure RowsI (w : World) (v : Value) (C : List (Value × List Int)) : Prop where
  sl : ∃ lo hi, Sl lo hi w v (C.map (·.1))
  each : ∀ c ∈ C, ∃ lo hi, Sl lo hi w c.1 (c.2.map intD)
theorem RowsI.nw {w w' : World} {v : Value} {C : List (Value × List Int)} (h : RowsI w v C) (u : Nw w w') : RowsI w' v C := by
  obtain ⟨lo, hi, hs⟩ := h.sl
  refine ⟨⟨lo, hi, hs.nw u⟩, fun c hc => ?_⟩
  obtain ⟨lo2, hi2, h2⟩ := h.each c hc
  exact ⟨lo2, hi2, h2.nw u⟩
theorem RowsI.cells {w : World} {v : Value} {C : List (Value × List Int)} (h : RowsI w v C) :
    ∃ a cap, v = .slice a C.length cap ∧ C.length ≤ maxLen ∧ (C = [] ∨ ∃ b off, a = some ⟨b, off, none⟩ ∧ b < w.heap.size ∧ ∀ i (h : i < C.length), w.cell? ⟨b, off + i, none⟩ = some C[i].1) := by
  obtain ⟨lo, hi, hs⟩ := h.sl
  obtain ⟨a, cap, rfl, hm, hc⟩ := hs.open_
  rw [List.length_map] at hm
  refine ⟨a, cap, by rw [List.length_map], hm, ?_⟩
  rcases hc with ⟨_, _, hnil⟩ | ⟨b, off, rfl, _, _, hb, hc⟩
  · exact Or.inl (List.map_eq_nil_iff.1 hnil)
  · exact Or.inr ⟨b, off, rfl, hb, fun i hi => by rw [hc i (by rw [List.length_map]; exact hi), List.getElem?_map, List.getElem?_eq_getElem hi]; rfl⟩
def totL (C : List (Value × List Int)) : Nat := ((C.map (·.2)).flatten).length
theorem tot_take {C : List (Value × List Int)} {n : Nat} (h : n < C.length) : totL (C.take (n + 1)) = totL (C.take n) + C[n].2.length := by
  unfold totL
  rw [List.take_succ_eq_append_getElem h, List.map_append, List.flatten_append, List.length_append]
  simp
theorem flat_take {C : List (Value × List Int)} {n : Nat} (h : n < C.length) : ((C.take (n + 1)).map (·.2)).flatten = ((C.take n).map (·.2)).flatten ++ C[n].2 := by
  rw [List.take_succ_eq_append_getElem h, List.map_append, List.flatten_append]
  simp
def ivL (l : List Int) : List Value := l.map intD
theorem ivL_len (l : List Int) : (ivL l).length = l.length := List.length_map _
theorem ivL_one (l : List Int) : ∀ u ∈ ivL l, u.oneCell' = true := by
  intro u hu
  obtain ⟨x, _, rfl⟩ := List.mem_map.1 hu
  rfl
def catN (C : List (Value × List Int)) (n : Nat) : List Value := (((C.take n).map (·.2)).flatten).map intD
theorem catN_succ {C : List (Value × List Int)} {n : Nat} (h : n < C.length) : catN C (n + 1) = catN C n ++ ivL C[n].2 := by unfold catN ivL; rw [flat_take h, List.map_append]
theorem catN_all (C : List (Value × List Int)) : catN C C.length = ((C.map (·.2)).flatten).map intD := by unfold catN; rw [List.take_length]
theorem tot_le {C : List (Value × List Int)} (n : Nat) : totL (C.take n) ≤ totL C := by
  unfold totL
  conv => rhs; rw [← List.take_append_drop n C]
  rw [List.map_append, List.flatten_append, List.length_append]
  omega
set_option maxHeartbeats 2000000 in
set_option maxRecDepth 100000 in
theorem concat_i (v : Value) (C : List (Value × List Int)) (w : World) (g : Gl w) (h : RowsI w v C) (hC : C.length ≤ 1000000) (hT : totL C ≤ 1000000) :
    Calls Tryz.prog 37 #[v] w fun e w' => ∃ v', e = .returned v' ∧ w'.ownsRow w.heap.size 3 1 v' (totL C) (((C.map (·.2)).flatten).map intD) ∧ Nw w w' := by
  have hgb := g.big
  have HE := Lib.hid h.each
  obtain ⟨a, cap, rfl, -, hc⟩ := h.cells
  have HC := Lib.hid hc
  have hC1 : (C.length : Int) ≤ 1000000 := by omega
  have HT := Lib.hid hT
  have HG := Lib.hid (grow_i (totL C) hT w g)
  clear h hc hT
  go_enter Tryz.func37, Tryz.ntmps37
  go_wp2_with fail
  go_loopw [3, 11] (fun sv iv wr => ∃ n : Nat, n ≤ C.length ∧ iv = .int .i64 (n : Int) ∧ sv = .int .i64 (totL (C.take n) : Nat) ∧ w = wr) (fun _ iv _ => C.length - (intOf iv).toNat)
  case atStart => exact ⟨0, Nat.zero_le _, rfl, rfl, rfl⟩
  case round =>
    obtain ⟨n, hn, rfl, rfl, rfl⟩ := hrel
    by_cases hlt : n < C.length
    · rcases HC.out with hnil | ⟨b, off, rfl, hb, hcell⟩
      · simp [hnil] at hlt
      have c0 := hcell n hlt
      obtain ⟨lo, hi, hs⟩ := HE.out C[n] (List.getElem_mem hlt)
      obtain ⟨an, cn, hvn, -, -⟩ := int_cells hs
      rw [hvn] at c0
      have hlt1 : (n : Int) < C.length := by omega
      have h1 := tot_take hlt
      have h2 := tot_le (C := C) (n + 1)
      have h3 := HT.out
      have h4 : ((totL (C.take n) : Nat) : Int) ≤ 1000000 := by omega
      have h5 : ((C[n].2.length : Nat) : Int) ≤ 1000000 := by omega
      have H1 := Lib.hid h1
      clear hcell hs hvn h1 h2 h3
      generalize totL (C.take n) = T0 at *
      generalize C[n].2.length = L at *
      go_wp2_with fail
      go_roundw
      case rel => exact ⟨n + 1, by omega, by go_num, by rw [H1.out]; go_num, by first | rfl | trivial⟩
      case measure => simp [intOf]; omega
    · obtain rfl : n = C.length := by omega
      go_wp2_with fail
      (with_reducible refine (HG.out).mono ?_)
      rintro _ w1 ⟨v1, rfl, o1, u1⟩
      have hs1 : w.heap.size ≤ w1.heap.size := u1.size
      have HO1 := Lib.hid o1
      have U1 := Lib.hid u1
      obtain ⟨a1, c1, rfl⟩ := own_slG o1
      clear o1 u1 HG
      go_wp2_with fail
      go_loopw [6, 27] (fun vo iv wr => ∃ n : Nat, n ≤ C.length ∧ iv = .int .i64 (n : Int) ∧ Hid (wr.ownsRow w.heap.size 3 1 vo (totL (C.take n)) (catN C n)) ∧ Hid (Nw w wr)) (fun _ iv _ => C.length - (intOf iv).toNat)
      case atStart => exact ⟨0, Nat.zero_le _, rfl, HO1.out, U1.out⟩
      case round =>
        obtain ⟨n, hn, rfl, HO, U⟩ := hrel
        obtain ⟨ao, co, rfl⟩ := own_slG HO.out
        by_cases hlt : n < C.length
        · rcases HC.out with hnil | ⟨b, off, rfl, hb, hcell⟩
          · simp [hnil] at hlt
          have c0 := later_cell ⟨wr, U.out⟩ (hcell n hlt)
          obtain ⟨lo, hi, hs⟩ := HE.out C[n] (List.getElem_mem hlt)
          have hs2 : Sl lo hi wr C[n].1 (ivL C[n].2) := hs.nw U.out
          obtain ⟨an, cn, hvn, -, -⟩ := int_cells hs
          rw [hvn] at c0 hs2
          have HS := Lib.hid hs2
          have hlt1 : (n : Int) < C.length := by omega
          have h1 := tot_take hlt
          have h2 := tot_le (C := C) (n + 1)
          have h3 := HT.out
          have h6 := catN_succ hlt
          have hz := U.out.size
          have H1 := Lib.hid h1
          have H6 := Lib.hid h6
          have hln := ivL_len C[n].2
          have Hln := Lib.hid hln
          clear hcell hs hvn h6 hs2 hln
          go_wp2_with (at_builtin; refine wpList_catA rfl _ _ 26 rfl w.heap.size lo hi 3 _ 8 Tryz.underlying26 infoIntU rfl _ _ _ _ _ rfl HO.out rfl HS.out ?c1 ?c2 ?c3 hz ?_)
          case c1 => exact ivL_one _
          case c2 => rw [Hln.out]; unfold maxLen; omega
          case c3 => rw [Hln.out]; omega
          intro v' w2 hown hgrow hob
          obtain ⟨a2, c2, rfl⟩ := own_slG hown
          have hlen : totL (C.take n) + (ivL C[n].2).length = totL (C.take (n + 1)) := by rw [Hln.out, H1.out]
          have hfin : Hid (w2.ownsRow w.heap.size 3 1 (.slice a2 (totL (C.take n) + (ivL C[n].2).length) c2) (totL (C.take (n + 1))) (catN C (n + 1))) := by
            show w2.ownsRow _ _ _ _ _ _
            rw [H6.out, ← hlen]
            exact hown
          have hU := Lib.hid (U.out.trans' (S' := fun k => (Value.slice ao (totL (C.take n)) co).ownBlock = some k) (Upd.grown (Upd.refl _ _) hgrow (fun k hk => ⟨Or.inl hk, by have := (hob k hk).1; omega⟩)) (fun j hj e => by have := (hob j e).1; omega))
          clear hown hgrow hob h1 h2 h3 hlen
          go_wp2_with fail
          go_roundw
          case rel => exact ⟨n + 1, by omega, by go_num, hfin, hU⟩
          case measure => simp [intOf]; omega
        · obtain rfl : n = C.length := by omega
          simp only [List.take_length] at HO ⊢
          have HO2 : Hid (wr.ownsRow w.heap.size 3 1 (.slice ao (totL C) co) (totL C) (((C.map (·.2)).flatten).map intD)) := by
            have := HO.out
            rw [catN_all] at this
            exact this
          clear HO
          go_wp2_with fail
          go_ret
          exact ⟨_, rfl, HO2.out, U.out⟩
set_option maxHeartbeats 1000000 in
set_option maxRecDepth 100000 in
theorem short_c (lo hi : Nat) (p z : Int) (cv : Value) (l : List Int) (v : Value) (C : List (Value × List Int)) (w : World) (g : Gl w) (hc : Sl lo hi w cv (l.map intD)) (hl : l.length ≤ 1000000) (h : RowsI w v C) (hC : C.length ≤ 1000000) (hT : totL C ≤ 1000000) :
    Calls Tryz.prog 12 #[.agg #[.int .i64 p, .int .i64 z, cv], v] w fun e w' => ∃ v', e = .returned v' ∧ w'.ownsRow w.heap.size 3 1 v' (Ft.miss l (C.map (·.2)).flatten).length ((Ft.miss l (C.map (·.2)).flatten).map intD) ∧ Nw w w' := by
  have hgb := g.big
  obtain ⟨a, cap, rfl, -, -⟩ := int_cells hc
  have n1 := nw_alloc w (.cells #[.int .i64 p, .int .i64 z, .slice a l.length cap] tManU)
  have b1 := heap_new w (.cells #[.int .i64 p, .int .i64 z, .slice a l.length cap] tManU)
  have n1d := n1.drew
  have cl : ∀ y, Nw (w.alloc (.cells #[.int .i64 p, .int .i64 z, .slice a l.length cap] tManU)) y → y.cell? ⟨w.heap.size, 0, none⟩ = some (.int .i64 p) ∧ y.cell? ⟨w.heap.size, 1, none⟩ = some (.int .i64 z) ∧ y.cell? ⟨w.heap.size, 2, none⟩ = some (.slice a l.length cap) := fun y u => ⟨by rw [cells_cell (Nw.keep u b1)]; rfl, by rw [cells_cell (Nw.keep u b1)]; rfl, by rw [cells_cell (Nw.keep u b1)]; rfl⟩
  have cd := cl _ (Upd.refl _ _).drew
  have hF : Calls Tryz.prog 37 #[v] (w.alloc (.cells #[.int .i64 p, .int .i64 z, .slice a l.length cap] tManU)).drew fun e y => ∃ a2 c2, e = .returned (.slice a2 (totL C) c2) ∧ (y.cell? ⟨w.heap.size, 0, none⟩ = some (.int .i64 p) ∧ y.cell? ⟨w.heap.size, 1, none⟩ = some (.int .i64 z) ∧ y.cell? ⟨w.heap.size, 2, none⟩ = some (.slice a l.length cap)) ∧
      Hid (Calls Tryz.prog 36 #[.agg #[.int .i64 p, .int .i64 z, .slice a l.length cap], .slice a2 (totL C) c2] y fun e y2 => ∃ v', e = .returned v' ∧ (y2.cell? ⟨w.heap.size, 0, none⟩ = some (.int .i64 p) ∧ y2.cell? ⟨w.heap.size, 1, none⟩ = some (.int .i64 z) ∧ y2.cell? ⟨w.heap.size, 2, none⟩ = some (.slice a l.length cap)) ∧
        Hid (y2.ownsRow w.heap.size 3 1 v' (Ft.miss l (C.map (·.2)).flatten).length ((Ft.miss l (C.map (·.2)).flatten).map intD) ∧ Nw w y2)) := by
    refine (concat_i v C _ (g.upd n1d) (h.nw n1d) hC hT).mono ?_
    rintro e y ⟨v2, rfl, o2, u2⟩
    obtain ⟨a2, c2, rfl⟩ := own_slG o2
    refine ⟨a2, c2, rfl, cl y ((Upd.refl _ _).drew.trans u2), (missing_c lo hi _ _ p z _ l _ _ y (g.upd (n1d.trans u2)) (hc.nw (n1d.trans u2)) (Sl.of_owns o2) hl (by unfold totL at hT; omega)).mono ?_⟩
    rintro e y2 ⟨v3, rfl, o3, u3⟩
    exact ⟨v3, rfl, cl y2 (((Upd.refl _ _).drew.trans u2).trans u3), owns_base o3 (n1d.trans u2).size, (n1d.trans u2).trans u3⟩
  have HF := Lib.hid hF
  obtain ⟨av, cv2, rfl, -, -⟩ := h.cells
  obtain ⟨c0, c1, c2⟩ := cd
  clear hc h n1 b1 cl hF n1d
  go_enter Tryz.func12, Tryz.ntmps12
  go_wp2_with fail
  go_region_held3 (fun y => y.cell? ⟨w.heap.size, 0, none⟩ = some (.int .i64 p) ∧ y.cell? ⟨w.heap.size, 1, none⟩ = some (.int .i64 z) ∧ y.cell? ⟨w.heap.size, 2, none⟩ = some (.slice a l.length cap)) (first | exact ⟨c0, c1, c2⟩ | assumption) (first | (go_at_call 37; (with_reducible refine HF.out.mono ?_); rintro _ y1 ⟨a3, c3, rfl, cy1, HM⟩) | (go_at_call 36; (with_reducible refine HM.out.mono ?_); rintro _ y2 ⟨v3, rfl, cy2, HO3⟩))
  clear HF c0 c1 c2 cy1 cy2
  obtain ⟨a4, c4, rfl⟩ := own_slG HO3.out.1
  go_wp2_with fail
  go_ret
  exact ⟨_, rfl, HO3.out⟩
end Go.Proofs.YtmlmdlbepppnlaaGreatDoor
namespace Go.Proofs.YtmlmdlbepppnlaaGreatDoor.Jr
open Go.Lib Go.RowKit
open Wire (textE numE rText rNum rText_inv rNum_inv rText_back rNum_back)
open Dk (Disk)
set_option linter.unusedVariables false
set_option linter.unusedSimpArgs false

/-- Each byte multiplied by its position, from position i + 1 on. -/
def wt (i : Nat) : List UInt8 → Nat
  | [] => 0
  | c :: l => c.toNat * (i + 1) + wt (i + 1) l
def sumN (l : List UInt8) : Int := ((wt 0 l % 2147483647 : Nat) : Int)
theorem wt_append : ∀ (a b : List UInt8) (i : Nat), wt i (a ++ b) = wt i a + wt (i + a.length) b := by
  intro a
  induction a with
  | nil => intro b i; simp [wt]
  | cons c a ih =>
    intro b i
    rw [List.cons_append, wt, wt, ih, List.length_cons, show i + 1 + a.length = i + (a.length + 1) by omega]
    omega
theorem sumN_snoc (l : List UInt8) (c : UInt8) : sumN (l ++ [c]) = (sumN l + c.toNat * ((l.length : Int) + 1)) % 2147483647 := by
  unfold sumN
  rw [wt_append]
  simp only [wt, Nat.zero_add, Nat.add_zero]
  have e : (wt 0 l + c.toNat * (l.length + 1)) % 2147483647 = (wt 0 l % 2147483647 + c.toNat * (l.length + 1)) % 2147483647 := by omega
  rw [e]
  simp only [Int.natCast_emod, Int.natCast_add, Int.natCast_mul]
  rfl
theorem sumN_bd (l : List UInt8) : 0 ≤ sumN l ∧ sumN l < 2147483647 := by unfold sumN; omega
def form (t : List UInt8) : List UInt8 := textE t ++ numE (sumN t)
def forms (l : List (List UInt8)) : List UInt8 := (l.map form).flatten
theorem form_pos (t : List UInt8) : 0 < (form t).length := by
  unfold form textE
  simp only [List.length_append, List.length_cons]
  omega
theorem forms_cons (t : List UInt8) (l : List (List UInt8)) : forms (t :: l) = form t ++ forms l := by simp [forms]
theorem forms_append (a b : List (List UInt8)) : forms (a ++ b) = forms a ++ forms b := by simp [forms]
theorem forms_snoc (a : List (List UInt8)) (t : List UInt8) : forms (a ++ [t]) = forms a ++ form t := by simp [forms]
theorem form_len (t : List UInt8) (h : t.length ≤ 9223372036854775807) : (form t).length ≤ t.length + 43 := by
  have h1 := Wire.itoa_le20 (v := (t.length : Int)) (by omega) (by omega)
  have h2 := sumN_bd t
  have h3 := Wire.itoa_le20 (v := sumN t) (by omega) (by omega)
  unfold form textE numE
  rw [if_neg (by omega)]
  unfold Wire.intE
  simp only [List.length_append, List.length_cons, List.length_nil]
  omega
theorem form_ge (t : List UInt8) : t.length + 3 ≤ (form t).length := by
  have h2 := sumN_bd t
  have hp : 0 < (itoa (t.length : Int)).length := by
    rw [List.length_pos_iff, show itoa (t.length : Int) = decDigits t.length by unfold itoa; rw [if_neg (by omega)]; simp]
    exact Wire.decDigits_ne _
  unfold form textE numE
  rw [if_neg (by omega)]
  unfold Wire.intE
  simp only [List.length_append, List.length_cons, List.length_nil]
  omega
theorem forms_len {n : Nat} : ∀ {l : List (List UInt8)}, (∀ t ∈ l, t.length ≤ n) → n ≤ 9223372036854775807 → (forms l).length ≤ l.length * (n + 43) := by
  intro l
  induction l with
  | nil => intro _ _; simp [forms]
  | cons t l ih =>
    intro h hn
    have h1 := ih (fun x hx => h x (List.mem_cons_of_mem _ hx)) hn
    have h2 := form_len t (Nat.le_trans (h t (List.mem_cons_self ..)) hn)
    have h3 := h t (List.mem_cons_self ..)
    rw [forms_cons, List.length_append, List.length_cons, Nat.succ_mul]
    omega
theorem len_forms (l : List (List UInt8)) : l.length ≤ (forms l).length := by
  induction l with
  | nil => simp [forms]
  | cons t l ih =>
    have := form_pos t
    rw [forms_cons, List.length_append, List.length_cons]
    omega
/-- The record at the beginning of a string. -/
def one (s : List UInt8) : Option (List UInt8) :=
  if (rNum (rText (some s)).2).2.isSome = true ∧ (rText (some s)).1.length ≤ 20000 ∧ (rNum (rText (some s)).2).1 = sumN (rText (some s)).1 then some (rText (some s)).1 else none
theorem rNum_none : rNum none = (0, none) := by decide
theorem one_inv {s t : List UInt8} (h : one s = some t) : ∃ r, s = form t ++ r ∧ t.length ≤ 20000 := by
  unfold one at h
  split at h
  · rename_i hc
    obtain ⟨h1, h2, h3⟩ := hc
    injection h with h
    rcases hx : rText (some s) with ⟨t', s1⟩
    rw [hx] at h h1 h2 h3
    dsimp only at h h1 h2 h3
    subst h
    cases s1 with
    | none => rw [rNum_none] at h1; cases h1
    | some r1 =>
      rcases hy : rNum (some r1) with ⟨n, s2⟩
      rw [hy] at h1 h3
      dsimp only at h1 h3
      cases s2 with
      | none => cases h1
      | some r2 =>
        refine ⟨r2, ?_, h2⟩
        rw [rText_inv hx, rNum_inv hy, h3, form, List.append_assoc]
  · cases h
theorem rForm {t r : List UInt8} (ht : t.length ≤ 9223372036854775807) : rText (some (form t ++ r)) = (t, some (numE (sumN t) ++ r)) ∧ rNum (some (numE (sumN t) ++ r)) = (sumN t, some r) := by
  have hb := sumN_bd t
  exact ⟨by rw [form, List.append_assoc]; exact rText_back ht, rNum_back ⟨by omega, by omega⟩ hb.1⟩
theorem one_form {t r : List UInt8} (ht : t.length ≤ 20000) : one (form t ++ r) = some t := by
  obtain ⟨h1, h2⟩ := rForm (t := t) (r := r) (by omega)
  unfold one
  rw [h1, h2]
  simp [ht]
theorem one_nil : one [] = none := by
  cases h : one [] with
  | none => rfl
  | some t =>
    obtain ⟨r, e, _⟩ := one_inv h
    have := congrArg List.length e
    have := form_pos t
    simp at *
    omega
/-- The records of a string, at most n of them. -/
def recsGo : Nat → List UInt8 → List (List UInt8)
  | 0, _ => []
  | n + 1, s => match one s with
    | some t => t :: recsGo n (s.drop (form t).length)
    | none => []
def recs (s : List UInt8) : List (List UInt8) := recsGo s.length s
theorem recsGo_more : ∀ (n m : Nat) (s : List UInt8), s.length ≤ n → n ≤ m → recsGo m s = recsGo n s := by
  intro n
  induction n with
  | zero =>
    intro m s h _
    obtain rfl : s = [] := List.length_eq_zero_iff.1 (by omega)
    cases m with
    | zero => rfl
    | succ m => unfold recsGo; rw [one_nil]
  | succ n ih =>
    intro m s h hm
    obtain ⟨m, rfl⟩ : ∃ k, m = k + 1 := ⟨m - 1, by omega⟩
    unfold recsGo
    cases ho : one s with
    | none => rfl
    | some t =>
      dsimp only
      have := form_pos t
      rw [ih m _ (by rw [List.length_drop]; omega) (by omega)]
theorem recs_some {s t : List UInt8} (h : one s = some t) : recs s = t :: recs (s.drop (form t).length) := by
  have hp := form_pos t
  obtain ⟨r, e, _⟩ := one_inv h
  have hl : 0 < s.length := by rw [e, List.length_append]; omega
  have hg : ∀ n, recsGo (n + 1) s = t :: recsGo n (s.drop (form t).length) := fun n => by
    show (match one s with
      | some t => t :: recsGo n (s.drop (form t).length)
      | none => []) = _
    rw [h]
  obtain ⟨n, hn⟩ : ∃ n, s.length = n + 1 := ⟨s.length - 1, by omega⟩
  unfold recs
  rw [hn, hg, recsGo_more (s.drop (form t).length).length n _ (Nat.le_refl _) (by rw [List.length_drop]; omega)]
theorem recs_none {s : List UInt8} (h : one s = none) : recs s = [] := by
  unfold recs
  cases s.length with
  | zero => rfl
  | succ n => unfold recsGo; rw [h]
theorem recs_form {t r : List UInt8} (ht : t.length ≤ 20000) : recs (form t ++ r) = t :: recs r := by
  rw [recs_some (one_form ht), List.drop_left]
/-- A string is the forms of its records, and a rest without one. -/
theorem recs_split : ∀ (n : Nat) (s : List UInt8), s.length ≤ n → ∃ r, s = forms (recs s) ++ r ∧ one r = none := by
  intro n
  induction n with
  | zero =>
    intro s h
    obtain rfl : s = [] := List.length_eq_zero_iff.1 (by omega)
    exact ⟨[], rfl, one_nil⟩
  | succ n ih =>
    intro s h
    cases ho : one s with
    | none => exact ⟨s, by rw [recs_none ho]; rfl, ho⟩
    | some t =>
      obtain ⟨r, e, _⟩ := one_inv ho
      have := form_pos t
      obtain ⟨r2, e2, h2⟩ := ih (s.drop (form t).length) (by rw [List.length_drop]; omega)
      refine ⟨r2, ?_, h2⟩
      rw [recs_some ho, forms_cons, List.append_assoc, ← e2]
      conv => lhs; rw [e]
      congr 1
      rw [e, List.drop_left]
theorem recs_pre (s : List UInt8) : forms (recs s) <+: s := by
  obtain ⟨r, e, _⟩ := recs_split s.length s (Nat.le_refl _)
  exact ⟨r, e.symm⟩
theorem recs_len (s : List UInt8) : (forms (recs s)).length ≤ s.length := (recs_pre s).length_le
/-! ### The journal -/
structure Jn where
  file : Int
  recs : List (List UInt8)
  broken : Bool
def openJ (D : Disk) (f : Int) : Disk × Option Jn × Int :=
  if f < 0 ∨ 15 < f then (D, none, 1)
  else if (Dk.sync D f).2 ≠ 0 then ((Dk.sync D f).1, none, (Dk.sync D f).2)
  else if (forms (recs ((Dk.sync D f).1.fs f).now)).length < ((Dk.sync D f).1.fs f).now.length then
    (if (Dk.truncate (Dk.sync D f).1 f (forms (recs ((Dk.sync D f).1.fs f).now)).length).2 ≠ 0 then ((Dk.truncate (Dk.sync D f).1 f (forms (recs ((Dk.sync D f).1.fs f).now)).length).1, none, (Dk.truncate (Dk.sync D f).1 f (forms (recs ((Dk.sync D f).1.fs f).now)).length).2)
      else ((Dk.truncate (Dk.sync D f).1 f (forms (recs ((Dk.sync D f).1.fs f).now)).length).1, some ⟨f, recs ((Dk.sync D f).1.fs f).now, false⟩, 0))
  else ((Dk.sync D f).1, some ⟨f, recs ((Dk.sync D f).1.fs f).now, false⟩, 0)
def append (D : Disk) (j : Jn) (s : List UInt8) : Disk × Jn × Int :=
  if j.broken = true then (D, j, 7) else if 20000 < s.length then (D, j, 3)
  else if 1048576 < (forms j.recs).length + (form s).length then (D, j, 6)
  else if (Dk.write D j.file (forms j.recs).length (form s)).2 ≠ 0 then ((Dk.write D j.file (forms j.recs).length (form s)).1, { j with broken := true }, (Dk.write D j.file (forms j.recs).length (form s)).2)
  else ((Dk.write D j.file (forms j.recs).length (form s)).1, { j with recs := j.recs ++ [s] }, 0)
def syncJ (D : Disk) (j : Jn) : Disk × Jn × Int :=
  if j.broken = true then (D, j, 7) else ((Dk.sync D j.file).1, { j with broken := decide ((Dk.sync D j.file).2 ≠ 0) }, (Dk.sync D j.file).2)
end Go.Proofs.YtmlmdlbepppnlaaGreatDoor.Jr
namespace Go.Proofs.YtmlmdlbepppnlaaGreatDoor.Jr
open Go.Lib Go.RowKit
open Wire (textE numE rText rNum rText_inv rNum_inv rText_back rNum_back)
open Dk (Disk)
set_option linter.unusedVariables false
set_option linter.unusedSimpArgs false

/-- x is what is left of N: bytes at the end are missing, others are 0. -/
def Tn : List UInt8 → List UInt8 → Prop
  | [], _ => True
  | _ :: _, [] => False
  | c :: x, d :: N => (c = d ∨ c = 0) ∧ Tn x N
theorem tn_refl : ∀ (x : List UInt8), Tn x x
  | [] => trivial
  | c :: x => ⟨Or.inl rfl, tn_refl x⟩
theorem tn_iff : ∀ {x N : List UInt8}, Tn x N ↔ x.length ≤ N.length ∧ ∀ k, k < x.length → x[k]? = N[k]? ∨ x[k]? = some 0 := by
  intro x
  induction x with
  | nil => intro N; simp [Tn]
  | cons c x ih =>
    intro N
    cases N with
    | nil => simp [Tn]
    | cons d N =>
      unfold Tn
      rw [ih]
      constructor
      · rintro ⟨h1, h2, h3⟩
        refine ⟨by simp; omega, fun k hk => ?_⟩
        cases k with
        | zero => simpa using h1
        | succ k => simpa using h3 k (by simpa using hk)
      · rintro ⟨h2, h3⟩
        refine ⟨by simpa using h3 0 (by simp), by simpa using h2, fun k hk => ?_⟩
        simpa using h3 (k + 1) (by simpa using hk)
theorem tn_split : ∀ {p x N : List UInt8}, Tn (p ++ x) N → Tn p N ∧ Tn x (N.drop p.length) := by
  intro p
  induction p with
  | nil => intro x N h; exact ⟨trivial, h⟩
  | cons c p ih =>
    intro x N h
    cases N with
    | nil => cases h
    | cons d N => exact ⟨⟨h.1, (ih h.2).1⟩, (ih h.2).2⟩
theorem tn_nz : ∀ {p N : List UInt8}, Tn p N → (∀ c ∈ p, c ≠ 0) → p <+: N := by
  intro p
  induction p with
  | nil => intro N _ _; exact List.nil_prefix
  | cons c p ih =>
    intro N h hz
    cases N with
    | nil => cases h
    | cons d N =>
      rcases h.1 with h1 | h1
      · rw [h1]
        exact List.cons_prefix_cons.2 ⟨rfl, ih h.2 (fun x hx => hz x (List.mem_cons_of_mem _ hx))⟩
      · exact absurd h1 (hz c (List.mem_cons_self ..))
theorem tn_more : ∀ {x N M : List UInt8}, Tn x N → Tn x (N ++ M) := by
  intro x
  induction x with
  | nil => intro N M _; exact trivial
  | cons c x ih =>
    intro N M h
    cases N with
    | nil => cases h
    | cons d N => exact ⟨h.1, ih h.2⟩
theorem tn_trans : ∀ {x y N : List UInt8}, Tn x y → Tn y N → Tn x N := by
  intro x
  induction x with
  | nil => intro y N _ _; exact trivial
  | cons c x ih =>
    intro y N h k
    cases y with
    | nil => cases h
    | cons d y =>
      cases N with
      | nil => cases k
      | cons e N =>
        refine ⟨?_, ih h.2 k.2⟩
        rcases h.1 with h1 | h1
        · rw [h1]; exact k.1
        · exact Or.inr h1
theorem tn_nil {x : List UInt8} (h : Tn x []) : x = [] := by
  cases x with
  | nil => rfl
  | cons c x => cases h
theorem tn_pre {x N : List UInt8} (h : x <+: N) : Tn x N := by
  obtain ⟨r, rfl⟩ := h
  exact tn_more (tn_refl x)
/-- Of two lists as long as one another the one with zeroes has the lesser sum. -/
theorem wt_tn : ∀ {t a : List UInt8} (i : Nat), Tn t a → t.length = a.length → wt i t ≤ wt i a ∧ (wt i t = wt i a → t = a) := by
  intro t
  induction t with
  | nil => intro a i _ hl; obtain rfl : a = [] := List.length_eq_zero_iff.1 hl.symm; exact ⟨Nat.le_refl _, fun _ => rfl⟩
  | cons c t ih =>
    intro a i h hl
    cases a with
    | nil => cases h
    | cons d a =>
      obtain ⟨h1, h2⟩ := ih (i + 1) h.2 (by simpa using hl)
      unfold wt
      rcases h.1 with h3 | h3
      · subst h3
        exact ⟨by omega, fun e => by rw [h2 (by omega)]⟩
      · subst h3
        have hz : (0 : UInt8).toNat = 0 := rfl
        have hp : (0 : UInt8).toNat * (i + 1) = 0 := by rw [hz, Nat.zero_mul]
        have hd : d.toNat * (i + 1) ≥ d.toNat := Nat.le_mul_of_pos_right _ (by omega)
        rw [hp]
        refine ⟨by omega, fun e => ?_⟩
        have h0 : d.toNat = 0 := by omega
        have : d = 0 := UInt8.toNat_inj.1 (by rw [h0]; rfl)
        rw [this, h2 (by rw [this] at e; rw [hp] at e; omega)]
theorem wt_le : ∀ (l : List UInt8) (i n : Nat), i + l.length ≤ n → wt i l ≤ l.length * (255 * n) := by
  intro l
  induction l with
  | nil => intro i n _; simp [wt]
  | cons c l ih =>
    intro i n h
    rw [List.length_cons] at h
    have h1 := ih (i + 1) n (by omega)
    have h2 : c.toNat * (i + 1) ≤ 255 * n := Nat.mul_le_mul (by have := c.toNat_lt; omega) (by omega)
    rw [wt, List.length_cons, Nat.succ_mul]
    omega
theorem wt_small {l : List UInt8} (h : l.length ≤ 2000) : wt 0 l < 2147483647 := by
  have h1 := wt_le l 0 2000 (by omega)
  have h2 : l.length * (255 * 2000) ≤ 2000 * (255 * 2000) := Nat.mul_le_mul_right _ h
  omega
theorem itoa_nz {n : Int} : ∀ c ∈ itoa n, c ≠ 0 := by
  intro c hc e
  have := Wire.itoa_chars hc
  rw [e] at this
  simp at this
theorem form_eq (t : List UInt8) : form t = (itoa (t.length : Int) ++ [58]) ++ (t ++ (44 :: numE (sumN t))) := by
  unfold form textE
  simp
theorem num_pre {n m : Int} {M r : List UInt8} (hn : 0 ≤ n) (hm : 0 ≤ m) (hn2 : n ≤ 9223372036854775807) (hm2 : m ≤ 9223372036854775807) (h : numE n <+: numE m ++ M) : n = m := by
  obtain ⟨r, e⟩ := h
  have h1 := rNum_back (n := n) (r := r) ⟨by omega, by omega⟩ hn
  have h2 := rNum_back (n := m) (r := M) ⟨by omega, by omega⟩ hm
  rw [e, h2] at h1
  exact (Prod.mk.inj h1).1.symm
/-- The first record of what is left is the first record. -/
theorem one_tn {x a M t : List UInt8} (h : Tn x (form a ++ M)) (ha : a.length ≤ 2000) (ho : one x = some t) : t = a := by
  obtain ⟨r, rfl, ht⟩ := one_inv ho
  rw [form_eq t, form_eq a, List.append_assoc (itoa (t.length : Int) ++ [58]), List.append_assoc (itoa (a.length : Int) ++ [58])] at h
  obtain ⟨h1, h2⟩ := tn_split h
  have hp := tn_nz h1 (fun c hc => by
    rcases List.mem_append.1 hc with hc | hc
    · exact itoa_nz c hc
    · rw [List.mem_singleton.1 hc]; decide)
  obtain ⟨r1, e1⟩ := hp
  have q1 := Wire.rNumber_back (n := (t.length : Int)) (least := 0) (e := 58) (r := r1) ⟨by omega, by omega⟩ (by omega) (by decide)
  have q2 := Wire.rNumber_back (n := (a.length : Int)) (least := 0) (e := 58) (r := (a ++ 44 :: numE (sumN a)) ++ M) ⟨by omega, by omega⟩ (by omega) (by decide)
  have e1' : itoa (t.length : Int) ++ 58 :: r1 = itoa (a.length : Int) ++ 58 :: ((a ++ 44 :: numE (sumN a)) ++ M) := by simpa using e1
  rw [e1', q2] at q1
  have hlen : t.length = a.length := by have := (Prod.mk.inj q1).1; omega
  rw [hlen, List.drop_left] at h2
  rw [List.append_assoc t, List.append_assoc a] at h2
  obtain ⟨h3, h4⟩ := tn_split h2
  rw [hlen, List.drop_left] at h4
  have h3' : Tn t a := by
    rw [tn_iff] at h3 ⊢
    refine ⟨by omega, fun k hk => ?_⟩
    have := h3.2 k hk
    rwa [List.getElem?_append_left (by omega)] at this
  have h5 : Tn (numE (sumN t) ++ r) (numE (sumN a) ++ M) := h4.2
  have hbt := sumN_bd t
  have hba := sumN_bd a
  have h6 := tn_nz (tn_split h5).1 (fun c hc => by
    unfold numE at hc
    rw [if_neg (by omega)] at hc
    rcases List.mem_append.1 hc with hc | hc
    · exact itoa_nz c hc
    · rw [List.mem_singleton.1 hc]; decide)
  have hs : sumN t = sumN a := num_pre (r := []) hbt.1 hba.1 (by omega) (by omega) h6
  obtain ⟨hw, heq⟩ := wt_tn 0 h3' hlen
  have hwa := wt_small ha
  refine heq ?_
  unfold sumN at hs
  omega
/-- The records of what is left: the first m, where all bytes of their forms are there, and not all of the next one's. -/
theorem recs_tn : ∀ {A : List (List UInt8)} {x : List UInt8}, Tn x (forms A) → (∀ a ∈ A, a.length ≤ 2000) →
    ∃ m, m ≤ A.length ∧ recs x = A.take m ∧ forms (A.take m) <+: x ∧ ∀ k, k ≤ A.length → forms (A.take k) <+: x → k ≤ m := by
  intro A
  induction A with
  | nil =>
    intro x h _
    rw [tn_nil h]
    exact ⟨0, Nat.le_refl _, rfl, List.prefix_refl _, fun k hk _ => hk⟩
  | cons a A ih =>
    intro x h hs
    rw [forms_cons] at h
    cases ho : one x with
    | none =>
      refine ⟨0, Nat.zero_le _, recs_none ho, List.nil_prefix, fun k hk hp => ?_⟩
      cases k with
      | zero => exact Nat.le_refl _
      | succ k =>
        rw [List.take_succ_cons, forms_cons] at hp
        obtain ⟨r, e⟩ := hp
        rw [← e, List.append_assoc, one_form (by have := hs a (List.mem_cons_self ..); omega)] at ho
        cases ho
    | some t =>
      obtain rfl := one_tn h (hs a (List.mem_cons_self ..)) ho
      obtain ⟨r, rfl, ht⟩ := one_inv ho
      have h2 := (tn_split h).2
      rw [List.drop_left] at h2
      obtain ⟨m, h3, h4, h5, h6⟩ := ih h2 (fun b hb => hs b (List.mem_cons_of_mem _ hb))
      refine ⟨m + 1, by rw [List.length_cons]; omega, by rw [recs_form ht, h4, List.take_succ_cons], ?_, fun k hk hp => ?_⟩
      · rw [List.take_succ_cons, forms_cons]
        exact (List.prefix_append_right_inj _).2 h5
      · cases k with
        | zero => exact Nat.zero_le _
        | succ k =>
          rw [List.take_succ_cons, forms_cons] at hp
          have := h6 k (by rw [List.length_cons] at hk; omega) ((List.prefix_append_right_inj _).1 hp)
          omega
end Go.Proofs.YtmlmdlbepppnlaaGreatDoor.Jr
