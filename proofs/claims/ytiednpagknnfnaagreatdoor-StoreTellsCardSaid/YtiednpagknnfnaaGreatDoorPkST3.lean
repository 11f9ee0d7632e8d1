/- strings.Builder, with a word on the blocks that a write changes; store.encode. store.encode. and so on. -/
import Derived.Test.YtiednpagknnfnaaGreatDoorPkST1
import Derived.Test.YtiednpagknnfnaaGreatDoorPkST2
import Derived.Test.YtiednpagknnfnaaGreatDoorPkST0
import Derived.Test.YtiednpagknnfnaaGreatDoorShelf
import Derived.Lib.ConvBytes
import Derived.Shelf.Vars
set_option linter.unusedVariables false
set_option linter.unusedSimpArgs false
namespace Go.Proofs.YtiednpagknnfnaaGreatDoor
open Go.RowKit
open Sg (itsE itE pfE)
open Wire (textE numE)
attribute [local irreducible] Calls CallsIn
structure BdV (B b : Nat) (v : Value) (l : List UInt8) (w : World) : Prop where
  le : B ≤ b
  cell : ∃ p, (p = .pointer none ∨ p = .pointer (some ⟨b, 0, none⟩)) ∧ w.heap[b]? = some (.cells #[p, v] 142 (0, 0))
  own : w.ownsRow B 5 1 v (Lib.byteCells l).length (Lib.byteCells l)
  ne : v.ownBlock ≠ some b
theorem BdV.bld {B b : Nat} {v : Value} {l : List UInt8} {w : World} (h : BdV B b v l w) : Bld B b l w := by
  obtain ⟨h1, ⟨p, h2, h3⟩, h4, h5⟩ := h
  rcases h2 with rfl | rfl
  · exact Or.inl ⟨h1, v, h3, h4, h5⟩
  · exact Or.inr ⟨h1, v, h3, h4, h5⟩
theorem BdV.fresh (w : World) : BdV w.heap.size w.heap.size (.slice none 0 0) [] (w.alloc (.cells #[.pointer none, .slice none 0 0] 142)) :=
  ⟨Nat.le_refl _, ⟨_, Or.inl rfl, heap_new w _⟩, World.ownsRow_nil _ _ _ _, by simp [Value.ownBlock]⟩
theorem BdV.upd {B b : Nat} {v : Value} {l : List UInt8} {w w' : World} {S : Nat → Prop} (h : BdV B b v l w) (u : Upd S w w') (h1 : ¬ S b) (h2 : ∀ k, v.ownBlock = some k → ¬ S k) : BdV B b v l w' := by
  obtain ⟨a1, ⟨p, a2, a3⟩, a4, a5⟩ := h
  exact ⟨a1, ⟨p, a2, u.keep a3 h1⟩, owns_upd' a4 u h2, a5⟩
theorem BdV.nw {B b : Nat} {v : Value} {l : List UInt8} {w w' : World} (h : BdV B b v l w) (u : Nw w w') : BdV B b v l w' := h.upd u id (fun _ _ s => s)
theorem copyV_c {B b : Nat} {v : Value} {l : List UInt8} {w : World} (h : BdV B b v l w) (hg : nG ≤ b) :
    Calls Tryz.prog 121 #[.pointer (some ⟨b, 0, none⟩)] w fun e w' => e = .returned (.tuple #[]) ∧ w'.heap[b]? = some (.cells #[.pointer (some ⟨b, 0, none⟩), v] 142 (0, 0)) ∧ Upd (fun k => k = b) w w' := by
  obtain ⟨a1, ⟨p, a2, a3⟩, a4, a5⟩ := h
  rcases a2 with rfl | rfl
  · have h : Lib.BuilderAt 142 5 B b (.pointer none) (Lib.byteCells l) w := ⟨a1, v, a3, a4, a5⟩
    refine (copyCheck_fresh b w h.cell0 h.shape h.frozen0).mono ?_
    rintro e w' ⟨rfl, rfl⟩
    exact ⟨rfl, setCell_block a3 0 _, Upd.set1 (Upd.refl _ _) hg 0 _⟩
  · have h : Lib.BuilderAt 142 5 B b (.pointer (some ⟨b, 0, none⟩)) (Lib.byteCells l) w := ⟨a1, v, a3, a4, a5⟩
    refine (copyCheck_used b w h.cell0).mono ?_
    rintro e w' ⟨rfl, rfl⟩
    exact ⟨rfl, a3, Upd.refl _ _⟩
set_option maxHeartbeats 1000000 in
set_option maxRecDepth 100000 in
theorem WriteV_c {B b : Nat} {v : Value} {l : List UInt8} (s : ByteArray) (m : List UInt8) (hm : s.data.toList = m) {w : World} (h : BdV B b v l w) (hg : nG ≤ B) (hlen : l.length + m.length ≤ 140737488355328) (hBw : B ≤ w.heap.size) :
    Calls Tryz.prog 82 #[.pointer (some ⟨b, 0, none⟩), .string s] w fun e w' => e = .returned (.tuple #[.int .i64 m.length, .nilIface]) ∧ ∃ v', BdV B b v' (l ++ m) w' ∧ Upd (fun k => k = b ∨ v.ownBlock = some k) w w' := by
  obtain ⟨i0, hi, hz0, hz1, hz2⟩ := info_parts bInfoByte
  subst hm
  have Hsz := Lib.hid (bs_size s)
  have Hbl := Lib.hid (Lib.byteCells_length l)
  have H := Lib.hid h
  have hle := h.le
  have HC := Lib.hid (copyV_c h (by omega))
  clear h
  go_enter Tryz.func82, Tryz.ntmps82
  go_wp2_with fail
  (with_reducible refine (HC.out).mono ?_)
  rintro _ w1 ⟨rfl, hbk, u1⟩
  have hown := owns_upd' H.out.own u1 (fun k hk e => H.out.ne (by rw [← e]; exact hk))
  have hs1 := u1.size
  have c0 : w1.cell? ⟨b, 0, none⟩ = some (.pointer (some ⟨b, 0, none⟩)) := by rw [Lib.cell_of_heap hbk]; rfl
  have c1 : w1.cell? ⟨b, 1, none⟩ = some v := by rw [Lib.cell_of_heap hbk]; rfl
  go_wp2_with (at_builtin; refine Lib.wpList_append_own_string _ rfl _ _ 135 9 rfl B 5 i0 Tryz.underlying135 Tryz.underlying9 hi hz0 hz1 hz2 _ _ _ rfl hown s rfl ?c3 ?c4 ?c5 ?_)
  case c3 => unfold maxLen; have := Hsz.out; have := Hbl.out; omega
  case c4 => have := Hsz.out; have := Hbl.out; omega
  case c5 => omega
  intro v' w2 hown' hgrow hob
  have hlt : b < w1.heap.size := lt_of_block hbk
  have hb2 : w2.heap[b]? = some (.cells #[.pointer (some ⟨b, 0, none⟩), v] 142 (0, 0)) := by
    rw [hgrow.block b hlt (fun e => H.out.ne e.symm)]
    exact hbk
  have d0 : w2.cell? ⟨b, 0, none⟩ = some (.pointer (some ⟨b, 0, none⟩)) := by rw [Lib.cell_of_heap hb2]; rfl
  have d1 : w2.cell? ⟨b, 1, none⟩ = some v := by rw [Lib.cell_of_heap hb2]; rfl
  have f1 : w2.frozen? ⟨b, 1, none⟩ = false := Lib.frozen_of_heap hb2 1
  obtain ⟨ao, n', cap, rfl⟩ : ∃ ao n' cap, v' = .slice ao n' cap := by
    rcases hown'.2 with ⟨hv, _⟩ | ⟨g, cap, cur, hv, _⟩
    · exact ⟨_, _, _, hv⟩
    · exact ⟨_, _, _, hv⟩
  have hb3 := setCell_block hb2 1 (.slice ao n' cap)
  have u2 : Upd (fun k => k = b ∨ v.ownBlock = some k) w w2 := (u1.mono (fun k _ e => Or.inl e)).grown hgrow (fun k hk => ⟨Or.inl (Or.inr hk), by have := (hown.lt k hk).1; omega⟩)
  have u3 := Upd.set1 (Upd.refl _ w2) (b := b) (by omega) 1 (.slice ao n' cap)
  have hne' : (Value.slice ao n' cap).ownBlock ≠ some b := by
    rcases hown'.2 with ⟨hv, _⟩ | ⟨g, cap', cur, hv, _, hg2, _⟩
    · rw [hv]; simp [Value.ownBlock]
    · rw [hv]
      intro e
      have : g = b := by simpa [Value.ownBlock] using e
      rw [this, hb2] at hg2
      injection hg2 with e1
      injection e1 with _ e2
      exact absurd e2 (by decide)
  have hown3 := owns_upd' hown' u3 (fun k hk e => hne' (by rw [← e]; exact hk))
  clear hown hown' hbk hb2 hgrow hob H
  go_wp2_with fail
  go_ret2
  rw [Hsz.out]
  refine ⟨rfl, _, ⟨hle, ⟨_, Or.inr rfl, hb3⟩, ?_, hne'⟩, u2.trans (u3.mono (fun k _ e => Or.inl e))⟩
  rw [Lib.byteCells_append, List.length_append, Lib.byteCells_length s.data.toList, ← Hsz.out]
  exact hown3
theorem BdV.apart {B b k : Nat} {v : Value} {l : List UInt8} {w : World} {cs : Array Value} {T : TypeId} {fz : Nat × Nat} (h : BdV B b v l w) (hx : w.heap[k]? = some (.cells cs T fz)) (h1 : T ≠ 5) (h2 : T ≠ 142) : k ≠ b ∧ v.ownBlock ≠ some k := by
  obtain ⟨_, ⟨p, _, hb⟩, hown, _⟩ := h
  refine ⟨fun e => ?_, fun e => ?_⟩
  · rw [e, hb] at hx
    injection hx with e1
    injection e1 with _ e2
    exact h2 e2.symm
  · rcases hown.2 with ⟨hv, _⟩ | ⟨g, cap', cur, hv, _, hg2, _⟩
    · rw [hv] at e; simp [Value.ownBlock] at e
    · rw [hv] at e
      have : g = k := by simpa [Value.ownBlock] using e
      rw [this, hx] at hg2
      injection hg2 with e1
      injection e1 with _ e2
      exact h1 e2
def accI (p : Sg.Pf) (i : Nat) : List UInt8 := textE p.nm ++ (numE p.its.length ++ itsE (p.its.take i))
def fourI (x : Sg.It) : List Int := [x.a, x.b, x.c, x.pr]
def accJ (p : Sg.Pf) (i : Nat) (x : Sg.It) (j : Nat) : List UInt8 := accI p i ++ (textE x.nm ++ (((fourI x).take j).map numE).flatten)
theorem accI_len {p : Sg.Pf} (hn : p.nm.length ≤ 100) (hl : p.its.length ≤ 60) (hx : ∀ x ∈ p.its, ItOk x) (i : Nat) : (accI p i).length ≤ 18200 := by
  have h1 := Fm.textE_len p.nm (by omega)
  have h2 := Fm.num_len (n := (p.its.length : Int)) (by constructor <;> omega)
  have h3 := itsE_len (l := p.its.take i) (fun x hx' => hx x (List.mem_of_mem_take hx'))
  have h4 : (p.its.take i).length ≤ 60 := by rw [List.length_take]; omega
  have h5 : (p.its.take i).length * 300 ≤ 60 * 300 := Nat.mul_le_mul_right _ h4
  unfold accI
  simp only [List.length_append]
  omega
theorem accJ_len {p : Sg.Pf} (hn : p.nm.length ≤ 100) (hl : p.its.length ≤ 60) (hx : ∀ x ∈ p.its, ItOk x) (i : Nat) {x : Sg.It} (h : ItOk x) (j : Nat) : (accJ p i x j).length ≤ 19000 := by
  have h1 := accI_len hn hl hx i
  have h2 := Fm.textE_len x.nm (by have := h.nm; omega)
  have h3 : (((fourI x).take j).map numE).flatten.length ≤ ((fourI x).take j).length * 21 := Fm.flat_len fun n hn => by
    have hm := List.mem_of_mem_take hn
    have := h.a; have := h.b; have := h.c; have := h.pr
    simp only [fourI, List.mem_cons, List.not_mem_nil, or_false] at hm
    rcases hm with rfl | rfl | rfl | rfl <;> exact Fm.num_len (by constructor <;> omega)
  have h4 : ((fourI x).take j).length ≤ 4 := by rw [List.length_take]; show min j 4 ≤ 4; omega
  have := h.nm
  unfold accJ
  simp only [List.length_append]
  omega
theorem accJ_end (p : Sg.Pf) (i : Nat) (h : i < p.its.length) : accJ p i p.its[i] 4 = accI p (i + 1) := by
  unfold accJ accI
  rw [List.take_succ_eq_append_getElem h]
  show _ = textE p.nm ++ (numE p.its.length ++ (((p.its.take i) ++ [p.its[i]]).map itE).flatten)
  rw [List.map_append, List.flatten_append]
  show _ = textE p.nm ++ (numE p.its.length ++ (itsE (p.its.take i) ++ (itE p.its[i] ++ [])))
  simp [fourI, itE, List.append_assoc]
theorem accJ_succ (p : Sg.Pf) (i : Nat) (x : Sg.It) (j : Nat) (h : j < 4) : accJ p i x (j + 1) = accJ p i x j ++ numE ((fourI x)[j]'h) := by
  unfold accJ
  rw [List.take_succ_eq_append_getElem (show j < (fourI x).length from h), List.map_append, List.flatten_append]
  simp
  rfl
theorem items_open {z : World} {v : Value} {lo hi : Nat} {l : List Sg.It} (hv : SlS 5 lo hi z v (l.map itC)) : ∃ a c, v = .slice a l.length c ∧ l.length ≤ maxLen ∧ (l.length = 0 ∨ ∃ b off, a = some ⟨b, off, none⟩ ∧ b < z.heap.size ∧ ∀ i (h : i < l.length),
    z.cell? ⟨b, off + i * 5, none⟩ = some (.string ⟨l[i].nm.toArray⟩) ∧ z.cell? ⟨b, off + i * 5 + 1, none⟩ = some (.int .i64 l[i].a) ∧ z.cell? ⟨b, off + i * 5 + 2, none⟩ = some (.int .i64 l[i].b) ∧ z.cell? ⟨b, off + i * 5 + 3, none⟩ = some (.int .i64 l[i].c) ∧ z.cell? ⟨b, off + i * 5 + 4, none⟩ = some (.int .i64 l[i].pr)) := by
  obtain ⟨va, vc, rfl, hm, hcl⟩ := hv.open_
  have hlen : (l.map itC).length = l.length := List.length_map _
  refine ⟨va, vc, by rw [hlen], by rw [← hlen]; exact hm, ?_⟩
  rcases hcl with h | ⟨b, off, rfl, _, _, hb, hc⟩
  · exact Or.inl (by rw [← hlen, h]; rfl)
  · refine Or.inr ⟨b, off, rfl, hb, fun i hi => ?_⟩
    have h := (hc i (by rw [hlen]; exact hi)).2
    simp only [List.getElem_map] at h
    exact ⟨h 0 (by omega), h 1 (by omega), h 2 (by omega), h 3 (by omega), h 4 (by omega)⟩
set_option maxHeartbeats 4000000 in
set_option maxRecDepth 100000 in
theorem encode_c {p : Sg.Pf} {z : World} (g : Gl z) {v : Value} {lo hi : Nat} (hv : SlS 5 lo hi z v (p.its.map itC)) (hn : p.nm.length ≤ 100) (hl : p.its.length ≤ 60) (hx : ∀ x ∈ p.its, ItOk x) :
    Calls Tryz.prog 54 #[.agg #[.string ⟨p.nm.toArray⟩, v]] z fun e z' => e = .returned (.string ⟨(pfE p).toArray⟩) ∧ Nw z z' := by
  have hgb := g.big
  obtain ⟨va, vc, rfl, hm, hcl⟩ := items_open hv
  have n1 := nw_alloc z (.cells #[.string ⟨p.nm.toArray⟩, .slice va p.its.length vc] 47)
  have b1 := heap_new z (.cells #[.string ⟨p.nm.toArray⟩, .slice va p.its.length vc] 47)
  have bd := BdV.fresh (z.alloc (.cells #[.string ⟨p.nm.toArray⟩, .slice va p.its.length vc] 47))
  have n2 := nw_alloc (z.alloc (.cells #[.string ⟨p.nm.toArray⟩, .slice va p.its.length vc] 47)) (.cells #[.pointer none, .slice none 0 0] 142)
  rw [World.size_alloc] at bd
  obtain ⟨w2, hw2⟩ : ∃ y, y = (z.alloc (.cells #[.string ⟨p.nm.toArray⟩, .slice va p.its.length vc] 47)).alloc (.cells #[.pointer none, .slice none 0 0] 142) := ⟨_, rfl⟩
  have hs2 : w2.heap.size = z.heap.size + 2 := by rw [hw2, World.size_alloc, World.size_alloc]
  rw [← hw2] at bd n2
  obtain ⟨wd, hwd, nd⟩ := nw_drew w2
  have hsd := nd.size
  have N2 := (n1.trans n2).trans nd
  have hb2 := Nw.keep (n2.trans nd) b1
  have HBox := Lib.hid (fun (y : World) (u : Nw wd y) => (show y.cell? ⟨z.heap.size, 0, none⟩ = some (.string ⟨p.nm.toArray⟩) ∧ y.cell? ⟨z.heap.size, 1, none⟩ = some (.slice va p.its.length vc) ∧ True ∧ True ∧ True ∧ True from ⟨by rw [cells_cell (u.keep hb2)]; rfl, by rw [cells_cell (u.keep hb2)]; rfl, trivial, trivial, trivial, trivial⟩))
  have HS0 := Lib.hid (HBox.out _ (Upd.refl _ _))
  have hT := Lib.hid (Text_e ⟨p.nm.toArray⟩ p.nm (bs_list _) wd (g.upd N2) (by omega))
  have HG := Lib.hid g
  have HBd := Lib.hid (bd.nw nd)
  have HN2 := Lib.hid N2
  have HW2 := Lib.hid hw2
  have HWd := Lib.hid hwd
  have HX := Lib.hid hx
  have HL := Lib.hid (And.intro hn hl)
  have HV := Lib.hid hv
  have HCl := Lib.hid hcl
  have HB2 := Lib.hid hb2
  have hl1 : (p.its.length : Int) ≤ 60 := by omega
  clear n1 b1 bd n2 nd N2 hb2 hw2 hwd g hx hn hl hv hcl hm
  go_enter Tryz.func54, Tryz.ntmps54
  go_upto_region 2 with fail
  rw [← HW2.out]
  clear HW2
  refine wp_region_G (fun y => y.cell? ⟨z.heap.size, 0, none⟩ = some (.string ⟨p.nm.toArray⟩) ∧ y.cell? ⟨z.heap.size, 1, none⟩ = some (.slice va p.its.length vc) ∧ True ∧ True ∧ True ∧ True) 8 (by kernel_rfl) ?_
  rw [HWd.out]
  clear HWd
  refine wpAnyG_pure (i := 0) (v := ?_) rfl (by kernel_rfl) (by kernel_rfl) (by kernel_rfl) (by kernel_rfl) (by kernel_rfl) (fun _ _ _ h => h) (by rfl) ?_ (fun _ => HS0.out) ?_
  rotate_left 1
  · (intro zz; go_simp; first | done | with_reducible rfl)
  (try simp only [Act.put, List.setIfInBounds_toArray, List.set_cons_zero, List.set_cons_succ])
  refine wpAnyG_pure (i := 3) (v := ?_) rfl (by kernel_rfl) (by kernel_rfl) (by kernel_rfl) (by kernel_rfl) (by kernel_rfl) (fun _ _ _ h => h) (by rfl) ?_ (fun _ => HS0.out) ?_
  rotate_left 1
  · (intro zz; go_simp; first | done | with_reducible rfl)
  (try simp only [Act.put, List.setIfInBounds_toArray, List.set_cons_zero, List.set_cons_succ])
  refine wpAnyG_load (i := 1) (v := ?_) [7, 2] rfl (by kernel_rfl) (by kernel_rfl) (by kernel_rfl) (by kernel_rfl) (by kernel_rfl) (by kernel_rfl) (fun _ _ _ h => h) (by rfl) ?_ (fun _ => HS0.out) ?_
  rotate_left 1
  · (intro zz hS; obtain ⟨_, _, _, _, _, _, _⟩ := hS; go_simp; first | done | with_reducible rfl)
  (try simp only [Act.put, List.setIfInBounds_toArray, List.set_cons_zero, List.set_cons_succ])
  refine wpAnyG_load (i := 4) (v := ?_) [7, 6, 5] rfl (by kernel_rfl) (by kernel_rfl) (by kernel_rfl) (by kernel_rfl) (by kernel_rfl) (by kernel_rfl) (fun _ _ _ h => h) (by rfl) ?_ (fun _ => HS0.out) ?_
  rotate_left 1
  · (intro zz hS; obtain ⟨_, _, _, _, _, _, _⟩ := hS; go_simp; first | done | with_reducible rfl)
  (try simp only [Act.put, List.setIfInBounds_toArray, List.set_cons_zero, List.set_cons_succ])
  refine wpAnyG_pure (i := 5) (v := ?_) rfl (by kernel_rfl) (by kernel_rfl) (by kernel_rfl) (by kernel_rfl) (by kernel_rfl) (fun _ _ _ h => h) (by rfl) ?_ (fun _ => HS0.out) ?_
  rotate_left 1
  · (intro zz; go_simp; first | done | with_reducible rfl)
  (try simp only [Act.put, List.setIfInBounds_toArray, List.set_cons_zero, List.set_cons_succ])
  refine wpAnyG_ready [2] (by kernel_rfl) (by simp) ?_
  refine AllG.cons rfl (fun K hK => ?_) AllG.nil
  go_simp
  (with_reducible refine (hT.out).mono ?_)
  rintro _ w3 ⟨rfl, u3⟩
  refine hK.out _ _ (fun _ => HBox.out _ u3) ?_
  clear hK K
  (try simp only [Act.put, List.setIfInBounds_toArray, List.set_cons_zero, List.set_cons_succ])
  have hNm := Lib.hid (Num_e (p.its.length : Int) w3 (HG.out.upd (HN2.out.trans u3)) (by have := HL.out.2; unfold I64; omega))
  refine wpAnyG_ready [6] (by kernel_rfl) (by simp) ?_
  refine AllG.cons rfl (fun K hK => ?_) AllG.nil
  go_simp
  (with_reducible refine (hNm.out).mono ?_)
  rintro _ w4 ⟨rfl, u4⟩
  have U4 := u3.trans u4
  refine hK.out _ _ (fun _ => HBox.out _ U4) ?_
  clear hK K
  (try simp only [Act.put, List.setIfInBounds_toArray, List.set_cons_zero, List.set_cons_succ])
  have hA0 := accI_len HL.out.1 HL.out.2 HX.out 0
  have hcat : ¬ 9223372036854775807 < (textE p.nm).length + (numE (p.its.length : Int)).length := by
    unfold accI at hA0
    simp only [List.length_append] at hA0
    omega
  have hz2 : z.heap.size + 1 ≤ w4.heap.size := by have := U4.size; omega
  have hacc : (((⟨(textE p.nm).toArray⟩ : ByteArray) ++ ⟨(numE (p.its.length : Int)).toArray⟩)).data.toList = accI p 0 := by
    rw [bs_append_list, bs_list, bs_list]
    show _ = textE p.nm ++ (numE (p.its.length : Int) ++ [])
    rw [List.append_nil]
  have hWr := Lib.hid (WriteV_c _ _ hacc (HBd.out.nw U4) (by omega) (by simp only [List.length_nil]; omega) hz2)
  refine wpAnyG_pure (i := 7) (v := ?_) rfl (by kernel_rfl) (by kernel_rfl) (by kernel_rfl) (by kernel_rfl) (by kernel_rfl) (fun _ _ _ h => h) (by rfl) ?_ (fun _ => HBox.out _ U4) ?_
  rotate_left 1
  · (intro zz; go_simp; first | done | with_reducible rfl)
  (try simp only [Act.put, List.setIfInBounds_toArray, List.set_cons_zero, List.set_cons_succ])
  refine wpAnyG_ready [8] (by kernel_rfl) (by simp) ?_
  refine AllG.cons rfl (fun K hK => ?_) AllG.nil
  go_simp
  (with_reducible refine (hWr.out).mono ?_)
  rintro _ w5 ⟨rfl, bv, hbd5, u5⟩
  refine hK.out _ _ (fun e => absurd (show true = false from e) (by decide)) ?_
  clear hK K
  (try simp only [Act.put, List.setIfInBounds_toArray, List.set_cons_zero, List.set_cons_succ])
  refine wpAnyG_done (by kernel_rfl) ?_ _
  have U5 : Upd (fun k => z.heap.size + 1 ≤ k) wd w5 := (Nw.upd _ U4).trans (u5.mono (fun k hk e => by
    rcases e with e | e
    · omega
    · simp [Value.ownBlock] at e))
  have HB5 := Lib.hid hbd5
  have HU5 := Lib.hid U5
  have hb5 := U5.keep HB2.out (by omega)
  have e0 : w5.cell? ⟨z.heap.size, 1, none⟩ = some (.slice va p.its.length vc) := by rw [cells_cell hb5]; rfl
  have hs5 := U5.size
  clear hWr hNm hT hbd5 u5 U5 u3 u4 U4 hacc hcat hA0 HBox HS0 hb5
  have H0 := Lib.hid (show ∃ bv, BdV (z.heap.size + 1) (z.heap.size + 1) bv (accI p 0) w5 ∧ Upd (fun k => z.heap.size + 1 ≤ k) wd w5 from ⟨bv, by have := HB5.out; rwa [List.nil_append] at this, HU5.out⟩)
  clear HB5 HU5
  go_wp2_with fail
  go_loopw [20] (fun iv wr => ∃ i : Nat, i ≤ p.its.length ∧ iv = .int .i64 (i : Int) ∧ Hid (∃ bv, BdV (z.heap.size + 1) (z.heap.size + 1) bv (accI p i) wr ∧ Upd (fun k => z.heap.size + 1 ≤ k) wd wr)) (fun iv _ => p.its.length - (intOf iv).toNat)
  case atStart => exact ⟨0, Nat.zero_le _, rfl, H0⟩
  case round =>
    obtain ⟨i, hi, rfl, hr⟩ := hrel
    obtain ⟨bv, hbd, hup⟩ := hr.out
    clear hr H0
    have hsr := hup.size
    by_cases hlt : i < p.its.length
    · rcases HCl.out with h | ⟨ib, ioff, rfl, hib, hc⟩
      · omega
      have hheap : wr.heap[ib]? = z.heap[ib]? := (hup.block ib (by have := HN2.out.size; omega) (Or.inr (by omega))).trans (HN2.out.block ib hib (Or.inr id))
      obtain ⟨d0, d1, d2, d3, d4⟩ := hc i hlt
      rw [← cell_of_heap hheap] at d0 d1 d2 d3 d4
      have hok := HX.out _ (List.getElem_mem hlt)
      have hend := accJ_end p i hlt
      generalize hit : p.its[i] = it at *
      clear hit
      have n6 := nw_alloc wr (.cells #[.string ⟨it.nm.toArray⟩, .int .i64 it.a, .int .i64 it.b, .int .i64 it.c, .int .i64 it.pr] tPl)
      have b6 := heap_new wr (.cells #[.string ⟨it.nm.toArray⟩, .int .i64 it.a, .int .i64 it.b, .int .i64 it.c, .int .i64 it.pr] tPl)
      obtain ⟨w6, hw6⟩ : ∃ y, y = wr.alloc (.cells #[.string ⟨it.nm.toArray⟩, .int .i64 it.a, .int .i64 it.b, .int .i64 it.c, .int .i64 it.pr] tPl) := ⟨_, rfl⟩
      rw [← hw6] at n6 b6
      have hs6 := n6.size
      have hT := Lib.hid (Text_e ⟨it.nm.toArray⟩ it.nm (bs_list _) w6 (HG.out.upd ((HN2.out.trans' hup (S := fun _ => False) (fun k hk e => by omega)).trans n6)) (by have := hok.nm; omega))
      have HBd6 := Lib.hid (hbd.nw n6)
      have HUp6 := Lib.hid (hup.trans (Nw.upd _ n6))
      have HB6 := Lib.hid b6
      have HOk := Lib.hid hok
      have HEnd := Lib.hid hend
      have HW6 := Lib.hid hw6
      have HLt := Lib.hid hlt
      have hbx : z.heap.size + 1 ≤ wr.heap.size := by omega
      clear hbd hup hheap hc hok hend n6 b6 hw6
      go_upto_region 6 with fail
      rw [← HW6.out]
      clear HW6 d0 d1 d2 d3 d4
      have d0 : w6.cell? ⟨wr.heap.size, 0, none⟩ = some (.string ⟨it.nm.toArray⟩) := by rw [cells_cell HB6.out]; rfl
      go_wp2_with fail
      (with_reducible refine (hT.out).mono ?_)
      rintro _ w7 ⟨rfl, u7⟩
      clear hT d0
      have hs7 := u7.size
      have hJ0 := accJ_len HL.out.1 HL.out.2 HX.out i HOk.out 0
      have hWr := Lib.hid (WriteV_c ⟨(textE it.nm).toArray⟩ (textE it.nm) (bs_list _) (HBd6.out.nw u7) (by omega) (by
        unfold accJ at hJ0
        simp only [List.length_append] at hJ0
        omega) (by omega))
      have HU7 := Lib.hid u7
      clear u7 hJ0
      go_wp2_with fail
      (with_reducible refine (hWr.out).mono ?_)
      rintro _ w8 ⟨rfl, bv8, hbd8, u8⟩
      clear hWr
      have hbx7 := Nw.keep HU7.out HB6.out
      have hap := (HBd6.out.nw HU7.out).apart hbx7 (by decide) (by decide)
      have hbx8 := u8.keep hbx7 (fun e => e.elim hap.1 hap.2)
      have hs8 := u8.size
      have e0 : w8.cell? ⟨wr.heap.size, 1, none⟩ = some (.int .i64 it.a) := by rw [cells_cell hbx8]; rfl
      have e1 : w8.cell? ⟨wr.heap.size, 2, none⟩ = some (.int .i64 it.b) := by rw [cells_cell hbx8]; rfl
      have e2 : w8.cell? ⟨wr.heap.size, 3, none⟩ = some (.int .i64 it.c) := by rw [cells_cell hbx8]; rfl
      have e3 : w8.cell? ⟨wr.heap.size, 4, none⟩ = some (.int .i64 it.pr) := by rw [cells_cell hbx8]; rfl
      have n9 := nw_alloc w8 (.cells #[.int .i64 it.a, .int .i64 it.b, .int .i64 it.c, .int .i64 it.pr] 3)
      have b9 := heap_new w8 (.cells #[.int .i64 it.a, .int .i64 it.b, .int .i64 it.c, .int .i64 it.pr] 3)
      obtain ⟨w9, hw9⟩ : ∃ y, y = w8.alloc (.cells #[.int .i64 it.a, .int .i64 it.b, .int .i64 it.c, .int .i64 it.pr] 3) := ⟨_, rfl⟩
      rw [← hw9] at n9 b9
      have hs9 := n9.size
      have U9 : Upd (fun k => z.heap.size + 1 ≤ k) wd w9 := ((HUp6.out.trans (Nw.upd _ HU7.out)).trans (u8.mono (fun k hk e => by
        rcases e with e | e
        · omega
        · exact (HBd6.out.own.lt k e).1))).trans (Nw.upd _ n9)
      have H9 := Lib.hid (show ∃ bv, BdV (z.heap.size + 1) (z.heap.size + 1) bv (accJ p i it 0) w9 ∧ w9.heap[w8.heap.size]? = some (.cells #[.int .i64 it.a, .int .i64 it.b, .int .i64 it.c, .int .i64 it.pr] 3 (0, 0)) ∧ Upd (fun k => z.heap.size + 1 ≤ k) wd w9 from ⟨bv8, by have := hbd8.nw n9; simpa [accJ] using this, b9, U9⟩)
      have HW9 := Lib.hid hw9
      clear hbx7 hap hbx8 u8 hbd8 n9 b9 hw9 U9 HU7 HBd6 HUp6 HB6
      go_upto_block 2 with fail
      rw [← HW9.out]
      clear HW9
      go_wp2_with fail
      go_loopw [41] (fun jv wy => ∃ j : Nat, j ≤ 4 ∧ jv = .int .i64 (j : Int) ∧ Hid (∃ bv, BdV (z.heap.size + 1) (z.heap.size + 1) bv (accJ p i it j) wy ∧ wy.heap[w8.heap.size]? = some (.cells #[.int .i64 it.a, .int .i64 it.b, .int .i64 it.c, .int .i64 it.pr] 3 (0, 0)) ∧ Upd (fun k => z.heap.size + 1 ≤ k) wd wy)) (fun jv _ => 4 - (intOf jv).toNat)
      case atStart => exact ⟨0, by omega, rfl, H9⟩
      case round =>
        obtain ⟨j, hj, rfl, hy⟩ := hrel
        obtain ⟨bw, hbw, hcy, huy⟩ := hy.out
        clear hy H9
        have hsy := huy.size
        by_cases hjt : j < 4
        · have hcell : wr.cell? ⟨w8.heap.size, j, none⟩ = some (.int .i64 ((fourI it)[j]'hjt)) := by
            rw [cells_cell hcy]
            match j, hjt with
            | 0, _ => rfl
            | 1, _ => rfl
            | 2, _ => rfl
            | 3, _ => rfl
          have hI : I64 ((fourI it)[j]'hjt) := by
            have h1 := HOk.out.a; have h2 := HOk.out.b; have h3 := HOk.out.c; have h4 := HOk.out.pr
            unfold I64
            match j, hjt with
            | 0, _ => show _ ≤ it.a ∧ it.a ≤ _; omega
            | 1, _ => show _ ≤ it.b ∧ it.b ≤ _; omega
            | 2, _ => show _ ≤ it.c ∧ it.c ≤ _; omega
            | 3, _ => show _ ≤ it.pr ∧ it.pr ≤ _; omega
          have hsc := accJ_succ p i it j hjt
          have hln := accJ_len HL.out.1 HL.out.2 HX.out i HOk.out (j + 1)
          rw [hsc] at hln
          generalize (fourI it)[j]'hjt = nj at *
          have hN := Lib.hid (Num_e nj wr (HG.out.upd (HN2.out.trans' huy (S := fun _ => False) (fun k hk e => by omega))) hI)
          have HBw := Lib.hid hbw
          have HCy := Lib.hid hcy
          have HUy := Lib.hid huy
          have HSc := Lib.hid hsc
          have HLn := Lib.hid hln
          have hj1 : (j : Int) < 4 := by omega
          clear hbw hcy huy hsc hln hI
          go_wp2_with fail
          (with_reducible refine (hN.out).mono ?_)
          rintro _ w10 ⟨rfl, u10⟩
          clear hN
          have hs10 := u10.size
          have hWr := Lib.hid (WriteV_c ⟨(numE nj).toArray⟩ (numE nj) (bs_list _) (HBw.out.nw u10) (by omega) (by
            have := HLn.out
            simp only [List.length_append] at this
            omega) (by omega))
          have HU10 := Lib.hid u10
          clear u10 hcell
          go_wp2_with fail
          (with_reducible refine (hWr.out).mono ?_)
          rintro _ w11 ⟨rfl, bv11, hbd11, u11⟩
          clear hWr
          have hc10 := Nw.keep HU10.out HCy.out
          have hap := (HBw.out.nw HU10.out).apart hc10 (by decide) (by decide)
          have hfin := Lib.hid (show ∃ bv, BdV (z.heap.size + 1) (z.heap.size + 1) bv (accJ p i it (j + 1)) w11 ∧ w11.heap[w8.heap.size]? = some (.cells #[.int .i64 it.a, .int .i64 it.b, .int .i64 it.c, .int .i64 it.pr] 3 (0, 0)) ∧ Upd (fun k => z.heap.size + 1 ≤ k) wd w11 from ⟨bv11, by rw [HSc.out]; exact hbd11, u11.keep hc10 (fun e => e.elim hap.1 hap.2), (HUy.out.trans (Nw.upd _ HU10.out)).trans (u11.mono (fun k hk e => by
            rcases e with e | e
            · omega
            · exact (HBw.out.own.lt k e).1))⟩)
          clear hbd11 u11 hc10 hap HU10 HBw HCy HUy
          go_wp2_with fail
          go_roundw
          case rel => exact ⟨j + 1, by omega, by simp, hfin⟩
          case measure =>
            simp only [intOf]
            omega
        · obtain rfl : j = 4 := by omega
          have hfin := Lib.hid (show ∃ bv, BdV (z.heap.size + 1) (z.heap.size + 1) bv (accI p (i + 1)) wr ∧ Upd (fun k => z.heap.size + 1 ≤ k) wd wr from ⟨bw, by rw [← HEnd.out]; exact hbw, huy⟩)
          clear hbw hcy huy
          go_wp2_with fail
          go_roundw
          case rel => exact ⟨i + 1, HLt.out, by simp, hfin⟩
          case measure =>
            have := HLt.out
            simp only [intOf]
            omega
    · obtain rfl : i = p.its.length := by omega
      have hStr := Lib.hid (String_c (z.heap.size + 1) (z.heap.size + 1) _ wr hbd.bld (by omega))
      have HUp := Lib.hid hup
      clear hbd hup
      go_wp2_with fail
      (with_reducible refine (hStr.out).mono ?_)
      rintro _ w9 ⟨rfl, b9⟩
      go_wp2_with fail
      go_ret
      have N : Nw z wr := HN2.out.trans' HUp.out (S := fun _ => False) (fun k hk e => by omega)
      refine ⟨?_, ⟨b9.os.trans N.os, b9.tape.trans N.tape, b9.output.trans N.output, Nat.le_trans N.size b9.size, fun k hk _ => (b9.block k (by omega)).trans (N.block k hk (Or.inr id))⟩⟩
      unfold accI
      rw [List.take_length]
      rfl
end Go.Proofs.YtiednpagknnfnaaGreatDoor
namespace Go.Proofs.YtiednpagknnfnaaGreatDoor
open Go.RowKit
open Sg (letterB digitB partN partsN)
attribute [local irreducible] Calls CallsIn
structure GmS (w : World) : Prop where
  g : Gl w
  m : ∃ n : Int, w.cell? ⟨0, 0, none⟩ = some (.int .i64 n)
theorem GmS.upd {S : Nat → Prop} {w w' : World} (h : GmS w) (u : Upd S w w') : GmS w' := by
  obtain ⟨g, n, hn⟩ := h
  refine ⟨g.upd u, n, ?_⟩
  rw [World.cell?_of_block (u.block _ (Nat.lt_of_lt_of_le (by decide : 0 < nG) g.big) (Or.inl (by decide)))]
  exact hn
theorem split_c (s : List UInt8) (hs : s.length ≤ 1000000) (w : World) (g : GmS w) :
    Calls Tryz.prog 120 #[.string ⟨s.toArray⟩, .string ⟨#[45]⟩] w fun e w' => e = .returned (.slice (some ⟨w.heap.size, 0, none⟩) (partsN s).length (partsN s).length) ∧ w' = w.alloc (.cells ((partsN s).map bsV).toArray 9) := by
  obtain ⟨g, m, hm⟩ := g
  have hc := Tryz.strings_Split ⟨s.toArray⟩ ⟨#[45]⟩ m w (by rw [bs_size, bs_list]; omega) hm (by decide)
  have hd := Lib.splitB_data ⟨#[45]⟩ 0 (Lib.countB ⟨s.toArray⟩ ⟨#[45]⟩) ⟨s.toArray⟩
  have hl := Lib.splitB_all ⟨#[45]⟩ (by decide) 0 _ ⟨s.toArray⟩ rfl
  have hp : partsN s = (Lib.splitB ⟨#[45]⟩ 0 (Lib.countB ⟨s.toArray⟩ ⟨#[45]⟩) ⟨s.toArray⟩).map (·.data.toList) := by
    rw [hd]
    rfl
  refine hc.mono fun e w' ⟨h1, h2⟩ => ⟨?_, ?_⟩
  · rw [h1, hp, List.length_map, hl]
  · rw [h2, hp, List.map_map]
    refine congrArg (fun l => w.alloc (.cells (List.toArray l) _)) (List.map_congr_left fun x _ => ?_)
    show Value.string x = bsV x.data.toList
    unfold bsV
    rw [bs_eta]
theorem letterB_iff (c : UInt8) : letterB c = true ↔ (97 : Int) ≤ c.toNat ∧ (c.toNat : Int) ≤ 122 := by
  unfold letterB
  rw [Bool.and_eq_true, decide_eq_true_eq, decide_eq_true_eq, UInt8.le_iff_toNat_le, UInt8.le_iff_toNat_le]
  show (97 ≤ c.toNat ∧ c.toNat ≤ 122) ↔ _
  omega
theorem digitB_iff (c : UInt8) : digitB c = true ↔ (48 : Int) ≤ c.toNat ∧ (c.toNat : Int) ≤ 57 := by
  unfold digitB
  rw [Bool.and_eq_true, decide_eq_true_eq, decide_eq_true_eq, UInt8.le_iff_toNat_le, UInt8.le_iff_toNat_le]
  show (48 ≤ c.toNat ∧ c.toNat ≤ 57) ↔ _
  omega
theorem splitK_len (sep : List UInt8) : ∀ (k : Nat) (s p : List UInt8), p ∈ Lib.splitK sep 0 k s → p.length ≤ s.length := by
  intro k
  induction k with
  | zero => intro s p h; rw [List.mem_singleton.1 h]; exact Nat.le_refl _
  | succ k ih =>
    intro s p h
    unfold Lib.splitK at h
    split at h
    · rw [List.mem_singleton.1 h]; exact Nat.le_refl _
    · rcases List.mem_cons.1 h with rfl | h
      · rw [List.length_take]; omega
      · have := ih _ _ h
        rw [List.length_drop] at this
        omega
theorem parts_len (s : List UInt8) : ∀ p ∈ partsN s, p.length ≤ s.length := fun p hp => splitK_len _ _ _ _ hp
theorem parts_cnt (s : List UInt8) : (partsN s).length ≤ s.length + 1 := by
  have hd := Lib.splitB_data ⟨#[45]⟩ 0 (Lib.countB ⟨s.toArray⟩ ⟨#[45]⟩) ⟨s.toArray⟩
  have hl := Lib.splitB_all ⟨#[45]⟩ (by decide) 0 _ ⟨s.toArray⟩ rfl
  have hc := Lib.countB_le ⟨#[45]⟩ (by decide) _ ⟨s.toArray⟩ (Nat.le_refl _)
  have hp : partsN s = (Lib.splitB ⟨#[45]⟩ 0 (Lib.countB ⟨s.toArray⟩ ⟨#[45]⟩) ⟨s.toArray⟩).map (·.data.toList) := by
    rw [hd]
    rfl
  rw [bs_size, bs_list] at hc
  rw [hp, List.length_map, hl]
  omega
theorem partN_no {s : List UInt8} {i : Nat} (hi : i < (partsN s).length) (h : partN i ((partsN s).getD i []) = false) : ((List.range (partsN s).length).all fun i => partN i ((partsN s).getD i [])) = false := by
  cases hh : (List.range (partsN s).length).all fun i => partN i ((partsN s).getD i []) with
  | false => rfl
  | true => have := List.all_eq_true.1 hh i (List.mem_range.2 hi); rw [h] at this; cases this
theorem partN_yes {s : List UInt8} (h : ∀ j, j < (partsN s).length → partN j ((partsN s).getD j []) = true) : ((List.range (partsN s).length).all fun i => partN i ((partsN s).getD i [])) = true :=
  List.all_eq_true.2 fun i hi => h i (List.mem_range.1 hi)
theorem bytesS (s : List UInt8) (w : World) : ∃ cap z, (convert 9 135 (.string ⟨s.toArray⟩)).run Tryz.prog w = .ok (.slice (some ⟨w.heap.size, 0, none⟩) s.length cap) z ∧ (∀ i (h : i < s.length), z.cell? ⟨w.heap.size, i, none⟩ = some (.int .u8 (s[i].toNat : Int))) ∧ Nw w z ∧ w.heap.size < z.heap.size := by
  have hsz : (⟨s.toArray⟩ : ByteArray).size = s.length := by simp [ByteArray.size]
  have hrun := Lib.run_convert_string_bytes (P := Tryz.prog) w 9 135 5 ⟨s.toArray⟩ Tryz.underlying9 Tryz.underlying135 Tryz.underlying5
  rw [hsz] at hrun
  have hc := grownCap_ge w s.length 0 5
  refine ⟨_, _, hrun, fun i hi => ?_, ⟨rfl, rfl, rfl, by rw [Lib.bytesWorld_size]; omega, fun k hk _ => Lib.bytesWorld_at_old w _ _ k hk⟩, by rw [Lib.bytesWorld_size]; omega⟩
  rw [cells_cell (Lib.bytesWorld_at_new w 5 ⟨s.toArray⟩)]
  simp [Lib.bytesCells, Array.getElem?_append, hi]
theorem all_no {l : List UInt8} {q : UInt8 → Bool} {j : Nat} (hj : j < l.length) (h : q l[j] = false) : l.all q = false := by
  cases hh : l.all q with
  | false => rfl
  | true => have := List.all_eq_true.1 hh l[j] (List.getElem_mem hj); rw [h] at this; cases this
theorem all_yes {l : List UInt8} {q : UInt8 → Bool} (h : ∀ j (hj : j < l.length), q l[j] = true) : l.all q = true :=
  List.all_eq_true.2 fun x hx => by obtain ⟨j, hj, rfl⟩ := List.getElem_of_mem hx; exact h j hj
theorem nw_cellS {w w' : World} (u : Nw w w') {b i : Nat} {v : Value} (h : w.cell? ⟨b, i, none⟩ = some v) : w'.cell? ⟨b, i, none⟩ = some v := later_cell ⟨w', u⟩ h
set_option maxHeartbeats 4000000 in
set_option maxRecDepth 100000 in
theorem name_c (s : List UInt8) (hs : s.length ≤ 1000000) (w : World) (g : GmS w) :
    Calls Tryz.prog 80 #[.string ⟨s.toArray⟩] w fun e w' => e = .returned (.bool (Sg.nameR s)) ∧ Nw w w' := by
  by_cases hl : s.length ≤ 20
  · have hsp := Lib.hid (split_c s hs w g)
    have n1 := nw_alloc w (.cells ((partsN s).map bsV).toArray 9)
    have b1 := heap_new w (.cells ((partsN s).map bsV).toArray 9)
    have hnr : Sg.nameR s = (List.range (partsN s).length).all fun i => partN i ((partsN s).getD i []) := by unfold Sg.nameR; rw [decide_eq_true hl, Bool.true_and]
    have hcnt : (partsN s).length ≤ 1000 := by have := parts_cnt s; omega
    obtain ⟨w1, hw1⟩ : ∃ y, y = w.alloc (.cells ((partsN s).map bsV).toArray 9) := ⟨_, rfl⟩
    rw [← hw1] at n1 b1
    have hl2 : (s.length : Int) ≤ 20 := by omega
    have HN := Lib.hid n1
    have HB := Lib.hid b1
    have HR := Lib.hid hnr
    have HW := Lib.hid hw1
    have HC := Lib.hid hcnt
    have HPl := Lib.hid (show ∀ p ∈ partsN s, p.length ≤ 1000 from fun p hp => by have := parts_len s p hp; omega)
    clear n1 b1 hnr hw1 hl
    go_enter Tryz.func80, Tryz.ntmps80
    go_wp2_with fail
    (with_reducible refine (hsp.out).mono ?_)
    rintro _ w2 ⟨rfl, rfl⟩
    rw [← HW.out]
    clear hsp HW
    go_wp2_with fail
    go_loopw [13] (fun iv wr => ∃ i : Nat, i ≤ (partsN s).length ∧ iv = .int .i64 (i : Int) ∧ Hid (∀ j, j < i → partN j ((partsN s).getD j []) = true) ∧ Hid (Nw w1 wr)) (fun iv _ => (partsN s).length - (intOf iv).toNat)
    case atStart => exact ⟨0, Nat.zero_le _, rfl, (fun j hj => by omega), Upd.refl _ _⟩
    case round =>
      obtain ⟨i, hi, rfl, hok, hu⟩ := hrel
      have hcn : (i : Int) ≤ 1000 := by have := HC.out; omega
      by_cases hlt : i < (partsN s).length
      · have hblk : wr.heap[w.heap.size]? = some (.cells ((partsN s).map bsV).toArray 9 (0, 0)) := Nw.keep hu.out HB.out
        have hcell : wr.cell? ⟨w.heap.size, i, none⟩ = some (.string ⟨((partsN s).getD i []).toArray⟩) := by
          rw [cells_cell hblk, List.getElem?_toArray, List.getElem?_map, List.getD_eq_getElem?_getD, List.getElem?_eq_getElem hlt]
          rfl
        have hno := fun h => HR.out.trans (partN_no hlt h)
        have hpl := HPl.out ((partsN s).getD i []) (by rw [List.getD_eq_getElem?_getD, List.getElem?_eq_getElem hlt]; exact List.getElem_mem hlt)
        have hnext : ∀ p, (partsN s).getD i [] = p → partN i p = true → ∀ j, j < i + 1 → partN j ((partsN s).getD j []) = true := fun p e h j hj => by
          rcases Nat.lt_or_ge j i with h1 | h1
          · exact hok.out j h1
          · obtain rfl : j = i := by omega
            rw [e]; exact h
        have HNx := Lib.hid (hnext _ rfl)
        generalize (partsN s).getD i [] = p at *
        have HNo := Lib.hid hno
        have HPp := Lib.hid hpl
        have HLt := Lib.hid hlt
        clear hnext hno hpl hblk
        cases p with
        | nil =>
          have he : (⟨([] : List UInt8).toArray⟩ : ByteArray).toList.isEmpty = true := by rw [ByteArray.toList_eq]; rfl
          have hE := HNo.out rfl
          clear HNx
          generalize (⟨([] : List UInt8).toArray⟩ : ByteArray) = ps at *
          have HE := Lib.hid hE
          clear hE hok
          go_wp2_with fail
          go_ret
          rw [HE.out]
          exact ⟨rfl, HN.out.trans hu.out⟩
        | cons c r =>
          have he := op_some c r
          have hh := op_head c r
          have hpn : partN i (c :: r) = ((decide (i ≠ 0) || letterB c) && (c :: r).all fun c => letterB c || digitB c) := rfl
          have hcv := bs_list (c :: r)
          have HQ := Lib.hid hpn
          have HV := Lib.hid hcv
          have HOk := Lib.hid hok
          have hlr : ((c :: r).length : Int) ≤ 1000 := by have := HPp.out; omega
          generalize hps : (⟨(c :: r).toArray⟩ : ByteArray) = ps at *
          have HPs := Lib.hid hps
          clear hps hpn hcv hok
          by_cases h0 : i = 0
          · subst h0
            by_cases hl : letterB c = true
            · have hl' := (letterB_iff c).1 hl
              have HLet := Lib.hid hl
              have d1 : decide ((c.toNat : Int) < 97) = false := decide_eq_false (by omega)
              have d2 : decide ((122 : Int) < (c.toNat : Int)) = false := decide_eq_false (by omega)
              clear hl hl'
              obtain ⟨bc, wb, hconv, hbytes, nb, hwb⟩ := bytesS (c :: r) wr
              rw [HPs.out] at hconv
              obtain ⟨L, hL⟩ : ∃ L, L = (c :: r).length := ⟨_, rfl⟩
              rw [← hL] at hconv hlr
              have HLc := Lib.hid hL
              have HBy := Lib.hid hbytes
              clear hL
              have HNb := Lib.hid nb
              clear hbytes nb
              go_wp2_with fail
              go_loopw [37] (fun jv wy => ∃ j : Nat, j ≤ L ∧ jv = .int .i64 (j : Int) ∧ Hid (∀ k (hk : k < (c :: r).length), k < j → (letterB (c :: r)[k] || digitB (c :: r)[k]) = true) ∧ Hid (Nw wb wy)) (fun jv _ => L - (intOf jv).toNat)
              case atStart => exact ⟨0, Nat.zero_le _, rfl, (fun k hk h => by omega), Upd.refl _ _⟩
              case round =>
                obtain ⟨j, hj, rfl, hal, huy⟩ := hrel
                rename World => wy
                by_cases hjL : j < L
                · have hjt : j < (c :: r).length := by rw [← HLc.out]; exact hjL
                  have hcl := nw_cellS huy.out (HBy.out j hjt)
                  have hyes : (letterB (c :: r)[j] || digitB (c :: r)[j]) = true → ∀ k (hk : k < (c :: r).length), k < j + 1 → (letterB (c :: r)[k] || digitB (c :: r)[k]) = true := fun h k hk hkj => by
                    rcases Nat.lt_or_ge k j with h1 | h1
                    · exact hal.out k hk h1
                    · obtain rfl : k = j := by omega
                      exact h
                  have hnot : (letterB (c :: r)[j] || digitB (c :: r)[j]) = false → Sg.nameR s = false := fun h => HNo.out (by rw [HQ.out, all_no hjt h, Bool.and_false])
                  generalize (c :: r)[j] = y at *
                  have HYes := Lib.hid hyes
                  have HNot := Lib.hid hnot
                  have HJt := Lib.hid hjL
                  clear hjt
                  have hj1 : (j : Int) ≤ 1000 := by omega
                  have hli := letterB_iff y
                  have hdi := digitB_iff y
                  clear hyes hnot
                  by_cases hy : (letterB y || digitB y) = true
                  · have hR := Lib.hid (HYes.out hy)
                    have hy2 : ((97 : Int) ≤ y.toNat ∧ (y.toNat : Int) ≤ 122) ∨ ((48 : Int) ≤ y.toNat ∧ (y.toNat : Int) ≤ 57) := by
                      rw [Bool.or_eq_true] at hy
                      exact hy.imp hli.1 hdi.1
                    clear hy hli hdi
                    generalize (y.toNat : Int) = m at *
                    by_cases h1 : m < 97
                    · have d1 : decide (m < 97) = true := decide_eq_true h1
                      have d2 : decide (m < 48) = false := decide_eq_false (by omega)
                      have d3 : decide (57 < m) = false := decide_eq_false (by omega)
                      clear hy2 h1
                      go_wp2_with fail
                      go_roundw
                      case rel => exact ⟨j + 1, HJt.out, by simp, hR, huy⟩
                      case measure =>
                        have := HJt.out
                        simp only [intOf]
                        omega
                    · have d1 : decide (m < 97) = false := decide_eq_false h1
                      have d2 : decide (122 < m) = false := decide_eq_false (by omega)
                      clear hy2 h1
                      go_wp2_with fail
                      go_roundw
                      case rel => exact ⟨j + 1, HJt.out, by simp, hR, huy⟩
                      case measure =>
                        have := HJt.out
                        simp only [intOf]
                        omega
                  · have hE := Lib.hid (HNot.out (by simpa using hy))
                    have hn1 : ¬ ((97 : Int) ≤ y.toNat ∧ (y.toNat : Int) ≤ 122) := fun h => hy (by rw [hli.2 h]; rfl)
                    have hn2 : ¬ ((48 : Int) ≤ y.toNat ∧ (y.toNat : Int) ≤ 57) := fun h => hy (by rw [hdi.2 h, Bool.or_true])
                    clear hy hli hdi
                    generalize (y.toNat : Int) = m at *
                    by_cases h1 : m < 97
                    · have d1 : decide (m < 97) = true := decide_eq_true h1
                      by_cases h2 : m < 48
                      · have d2 : decide (m < 48) = true := decide_eq_true h2
                        clear h1 h2 hn1 hn2
                        go_wp2_with fail
                        go_ret
                        rw [hE.out]
                        exact ⟨rfl, ((HN.out.trans hu.out).trans HNb.out).trans huy.out⟩
                      · have d2 : decide (m < 48) = false := decide_eq_false h2
                        have d3 : decide (57 < m) = true := decide_eq_true (by omega)
                        clear h1 h2 hn1 hn2
                        go_wp2_with fail
                        go_ret
                        rw [hE.out]
                        exact ⟨rfl, ((HN.out.trans hu.out).trans HNb.out).trans huy.out⟩
                    · have d1 : decide (m < 97) = false := decide_eq_false h1
                      have d2 : decide (122 < m) = true := decide_eq_true (by omega)
                      have d3 : decide (m < 48) = false := decide_eq_false (by omega)
                      have d4 : decide (57 < m) = true := decide_eq_true (by omega)
                      clear h1 hn1 hn2
                      go_wp2_with fail
                      go_ret
                      rw [hE.out]
                      exact ⟨rfl, ((HN.out.trans hu.out).trans HNb.out).trans huy.out⟩
                · have hR := Lib.hid (HNx.out (by rw [HQ.out, all_yes (fun k hk => hal.out k hk (by rw [← HLc.out] at hk; omega)), Bool.and_true]; exact (by rw [HLet.out]; rfl)))
                  clear hal
                  go_wp2_with fail
                  go_roundw
                  case rel => exact ⟨0 + 1, HLt.out, by simp, hR, (hu.out.trans HNb.out).trans huy.out⟩
                  case measure =>
                    have := HLt.out
                    simp only [intOf]
                    omega
            · have hE := Lib.hid (HNo.out (by rw [HQ.out]; simp [Bool.not_eq_true _ ▸ hl]))
              have hl' : ¬ ((97 : Int) ≤ c.toNat ∧ (c.toNat : Int) ≤ 122) := fun h => hl ((letterB_iff c).2 h)
              by_cases h1 : (c.toNat : Int) < 97
              · have d1 : decide ((c.toNat : Int) < 97) = true := decide_eq_true h1
                clear hl hl'
                go_wp2_with fail
                go_ret
                rw [hE.out]
                exact ⟨rfl, HN.out.trans hu.out⟩
              · have d1 : decide ((c.toNat : Int) < 97) = false := decide_eq_false h1
                have d2 : decide ((122 : Int) < (c.toNat : Int)) = true := decide_eq_true (by omega)
                clear hl hl'
                go_wp2_with fail
                go_ret
                rw [hE.out]
                exact ⟨rfl, HN.out.trans hu.out⟩
          · have d0 : decide ((i : Int) = 0) = false := decide_eq_false (by omega)
            obtain ⟨bc, wb, hconv, hbytes, nb, hwb⟩ := bytesS (c :: r) wr
            rw [HPs.out] at hconv
            obtain ⟨L, hL⟩ : ∃ L, L = (c :: r).length := ⟨_, rfl⟩
            rw [← hL] at hconv hlr
            have HLc := Lib.hid hL
            have HBy := Lib.hid hbytes
            clear hL
            have HNb := Lib.hid nb
            clear hbytes nb
            go_wp2_with fail
            go_loopw [37] (fun jv wy => ∃ j : Nat, j ≤ L ∧ jv = .int .i64 (j : Int) ∧ Hid (∀ k (hk : k < (c :: r).length), k < j → (letterB (c :: r)[k] || digitB (c :: r)[k]) = true) ∧ Hid (Nw wb wy)) (fun jv _ => L - (intOf jv).toNat)
            case atStart => exact ⟨0, Nat.zero_le _, rfl, (fun k hk h => by omega), Upd.refl _ _⟩
            case round =>
              obtain ⟨j, hj, rfl, hal, huy⟩ := hrel
              rename World => wy
              by_cases hjL : j < L
              · have hjt : j < (c :: r).length := by rw [← HLc.out]; exact hjL
                have hcl := nw_cellS huy.out (HBy.out j hjt)
                have hyes : (letterB (c :: r)[j] || digitB (c :: r)[j]) = true → ∀ k (hk : k < (c :: r).length), k < j + 1 → (letterB (c :: r)[k] || digitB (c :: r)[k]) = true := fun h k hk hkj => by
                  rcases Nat.lt_or_ge k j with h1 | h1
                  · exact hal.out k hk h1
                  · obtain rfl : k = j := by omega
                    exact h
                have hnot : (letterB (c :: r)[j] || digitB (c :: r)[j]) = false → Sg.nameR s = false := fun h => HNo.out (by rw [HQ.out, all_no hjt h, Bool.and_false])
                generalize (c :: r)[j] = y at *
                have HYes := Lib.hid hyes
                have HNot := Lib.hid hnot
                have HJt := Lib.hid hjL
                clear hjt
                have hj1 : (j : Int) ≤ 1000 := by omega
                have hli := letterB_iff y
                have hdi := digitB_iff y
                clear hyes hnot
                by_cases hy : (letterB y || digitB y) = true
                · have hR := Lib.hid (HYes.out hy)
                  have hy2 : ((97 : Int) ≤ y.toNat ∧ (y.toNat : Int) ≤ 122) ∨ ((48 : Int) ≤ y.toNat ∧ (y.toNat : Int) ≤ 57) := by
                    rw [Bool.or_eq_true] at hy
                    exact hy.imp hli.1 hdi.1
                  clear hy hli hdi
                  generalize (y.toNat : Int) = m at *
                  by_cases h1 : m < 97
                  · have d1 : decide (m < 97) = true := decide_eq_true h1
                    have d2 : decide (m < 48) = false := decide_eq_false (by omega)
                    have d3 : decide (57 < m) = false := decide_eq_false (by omega)
                    clear hy2 h1
                    go_wp2_with fail
                    go_roundw
                    case rel => exact ⟨j + 1, HJt.out, by simp, hR, huy⟩
                    case measure =>
                      have := HJt.out
                      simp only [intOf]
                      omega
                  · have d1 : decide (m < 97) = false := decide_eq_false h1
                    have d2 : decide (122 < m) = false := decide_eq_false (by omega)
                    clear hy2 h1
                    go_wp2_with fail
                    go_roundw
                    case rel => exact ⟨j + 1, HJt.out, by simp, hR, huy⟩
                    case measure =>
                      have := HJt.out
                      simp only [intOf]
                      omega
                · have hE := Lib.hid (HNot.out (by simpa using hy))
                  have hn1 : ¬ ((97 : Int) ≤ y.toNat ∧ (y.toNat : Int) ≤ 122) := fun h => hy (by rw [hli.2 h]; rfl)
                  have hn2 : ¬ ((48 : Int) ≤ y.toNat ∧ (y.toNat : Int) ≤ 57) := fun h => hy (by rw [hdi.2 h, Bool.or_true])
                  clear hy hli hdi
                  generalize (y.toNat : Int) = m at *
                  by_cases h1 : m < 97
                  · have d1 : decide (m < 97) = true := decide_eq_true h1
                    by_cases h2 : m < 48
                    · have d2 : decide (m < 48) = true := decide_eq_true h2
                      clear h1 h2 hn1 hn2
                      go_wp2_with fail
                      go_ret
                      rw [hE.out]
                      exact ⟨rfl, ((HN.out.trans hu.out).trans HNb.out).trans huy.out⟩
                    · have d2 : decide (m < 48) = false := decide_eq_false h2
                      have d3 : decide (57 < m) = true := decide_eq_true (by omega)
                      clear h1 h2 hn1 hn2
                      go_wp2_with fail
                      go_ret
                      rw [hE.out]
                      exact ⟨rfl, ((HN.out.trans hu.out).trans HNb.out).trans huy.out⟩
                  · have d1 : decide (m < 97) = false := decide_eq_false h1
                    have d2 : decide (122 < m) = true := decide_eq_true (by omega)
                    have d3 : decide (m < 48) = false := decide_eq_false (by omega)
                    have d4 : decide (57 < m) = true := decide_eq_true (by omega)
                    clear h1 hn1 hn2
                    go_wp2_with fail
                    go_ret
                    rw [hE.out]
                    exact ⟨rfl, ((HN.out.trans hu.out).trans HNb.out).trans huy.out⟩
              · have hR := Lib.hid (HNx.out (by rw [HQ.out, all_yes (fun k hk => hal.out k hk (by rw [← HLc.out] at hk; omega)), Bool.and_true]; exact (by simp [h0])))
                clear hal
                go_wp2_with fail
                go_roundw
                case rel => exact ⟨i + 1, HLt.out, by simp, hR, (hu.out.trans HNb.out).trans huy.out⟩
                case measure =>
                  have := HLt.out
                  simp only [intOf]
                  omega
      · have hE := Lib.hid (HR.out.trans (partN_yes (fun j hj => hok.out j (by omega))))
        clear hok
        go_wp2_with fail
        go_ret
        rw [hE.out]
        exact ⟨rfl, HN.out.trans hu.out⟩
  · have hE := Lib.hid (show Sg.nameR s = false by unfold Sg.nameR; rw [decide_eq_false hl]; rfl)
    have hl2 : ¬ (s.length : Int) ≤ 20 := by omega
    go_enter Tryz.func80, Tryz.ntmps80
    go_wp2_with fail
    go_ret
    rw [hE.out]
    exact ⟨rfl, Upd.refl _ _⟩
end Go.Proofs.YtiednpagknnfnaaGreatDoor
namespace Go.Proofs.YtiednpagknnfnaaGreatDoor
open Go.RowKit
attribute [local irreducible] Calls CallsIn
def itemOk (l : List Sg.It) (i : Nat) : Bool := match l[i]? with
  | none => true
  | some x => Sg.itR x && (decide (i = 0) || match l[i - 1]? with | none => true | some y => Fm.lt y.nm x.nm)
theorem rightP_eq (p : Sg.Pf) : Sg.rightP p = (Sg.nameR p.nm && decide (p.its.length ≤ 60) && (List.range p.its.length).all (itemOk p.its)) := rfl
theorem itemOk_at {l : List Sg.It} {i : Nat} (h : i < l.length) : itemOk l i = (Sg.itR l[i] && (decide (i = 0) || match l[i - 1]? with | none => true | some y => Fm.lt y.nm l[i].nm)) := by
  unfold itemOk
  rw [List.getElem?_eq_getElem h]
theorem itemOk_zero {l : List Sg.It} (h : 0 < l.length) : itemOk l 0 = Sg.itR l[0] := by
  rw [itemOk_at h, decide_eq_true rfl, Bool.true_or, Bool.and_true]
theorem itemOk_succ {l : List Sg.It} {k : Nat} (h : k + 1 < l.length) : itemOk l (k + 1) = (Sg.itR l[k + 1] && Fm.lt (l[k]'(by omega)).nm l[k + 1].nm) := by
  rw [itemOk_at h, decide_eq_false (by omega), Bool.false_or]
  rw [show k + 1 - 1 = k by omega, List.getElem?_eq_getElem (by omega)]
theorem right_no {p : Sg.Pf} {i : Nat} (hi : i < p.its.length) (h : itemOk p.its i = false) : Sg.rightP p = false := by
  rw [rightP_eq]
  cases hh : (List.range p.its.length).all (itemOk p.its) with
  | false => rw [Bool.and_false]
  | true => have := List.all_eq_true.1 hh i (List.mem_range.2 hi); rw [h] at this; cases this
structure ItArg (x : Sg.It) : Prop where
  nm : x.nm.length ≤ 1000000
  a : I64 x.a
  b : I64 x.b
  c : I64 x.c
  pr : I64 x.pr
set_option maxHeartbeats 4000000 in
set_option maxRecDepth 100000 in
theorem right_c {p : Sg.Pf} {z : World} (g : GmS z) {v : Value} {lo hi : Nat} (hv : SlS 5 lo hi z v (p.its.map itC)) (hn : p.nm.length ≤ 1000000) (hl : p.its.length ≤ 1000) (hx : ∀ x ∈ p.its, ItArg x) :
    Calls Tryz.prog 53 #[.agg #[.string ⟨p.nm.toArray⟩, v]] z fun e z' => e = .returned (.bool (Sg.rightP p)) ∧ Nw z z' := by
  have hgb := g.g.big
  obtain ⟨va, vc, rfl, hm, hcl⟩ := items_open hv
  have n1 := nw_alloc z (.cells #[.string ⟨p.nm.toArray⟩, .slice va p.its.length vc] 47)
  have b1 := heap_new z (.cells #[.string ⟨p.nm.toArray⟩, .slice va p.its.length vc] 47)
  obtain ⟨w1, hw1⟩ : ∃ y, y = z.alloc (.cells #[.string ⟨p.nm.toArray⟩, .slice va p.its.length vc] 47) := ⟨_, rfl⟩
  rw [← hw1] at n1 b1
  have hN := Lib.hid (name_c p.nm hn w1 (g.upd n1))
  have HG := Lib.hid g
  have HN1 := Lib.hid n1
  have HB1 := Lib.hid b1
  have HW1 := Lib.hid hw1
  have HX := Lib.hid hx
  have HCl := Lib.hid hcl
  have hl1 : (p.its.length : Int) ≤ 1000 := by omega
  have hq := Lib.hid (rightP_eq p)
  have c0 : w1.cell? ⟨z.heap.size, 0, none⟩ = some (.string ⟨p.nm.toArray⟩) := by rw [cells_cell b1]; rfl
  clear g n1 b1 hw1 hx hcl hv hm hl
  cases hnb : Sg.nameR p.nm with
  | false =>
    rw [hnb] at hN
    have hE := Lib.hid (show Sg.rightP p = false by rw [hq.out, hnb]; rfl)
    go_enter Tryz.func53, Tryz.ntmps53
    go_upto_region 1 with fail
    rw [← HW1.out]
    go_wp2_with fail
    (with_reducible refine (hN.out).mono ?_)
    rintro _ w2 ⟨rfl, u2⟩
    go_wp2_with fail
    go_ret
    rw [hE.out]
    exact ⟨rfl, HN1.out.trans u2⟩
  | true =>
    rw [hnb] at hN
    by_cases h60 : 60 < p.its.length
    · have hE := Lib.hid (show Sg.rightP p = false by rw [hq.out, hnb, decide_eq_false (by omega)]; rfl)
      go_enter Tryz.func53, Tryz.ntmps53
      go_upto_region 1 with fail
      rw [← HW1.out]
      go_wp2_with fail
      (with_reducible refine (hN.out).mono ?_)
      rintro _ w2 ⟨rfl, u2⟩
      have c1 : w2.cell? ⟨z.heap.size, 1, none⟩ = some (.slice va p.its.length vc) := by rw [cells_cell (Nw.keep u2 HB1.out)]; rfl
      have d1 : decide ((60 : Int) < p.its.length) = true := decide_eq_true (by omega)
      go_wp2_with fail
      go_ret
      rw [hE.out]
      exact ⟨rfl, HN1.out.trans u2⟩
    · have hq2 := Lib.hid (show Sg.rightP p = (List.range p.its.length).all (itemOk p.its) by rw [hq.out, hnb, decide_eq_true (by omega)]; rfl)
      have d1 : decide ((60 : Int) < p.its.length) = false := decide_eq_false (by omega)
      go_enter Tryz.func53, Tryz.ntmps53
      go_upto_region 1 with fail
      rw [← HW1.out]
      clear HW1
      go_wp2_with fail
      (with_reducible refine (hN.out).mono ?_)
      rintro _ w2 ⟨rfl, u2⟩
      have c1 : w2.cell? ⟨z.heap.size, 1, none⟩ = some (.slice va p.its.length vc) := by rw [cells_cell (Nw.keep u2 HB1.out)]; rfl
      have HU2 := Lib.hid u2
      clear hN u2 c0 hq
      go_wp2_with fail
      go_loopw [18] (fun iv wr => ∃ i : Nat, i ≤ p.its.length ∧ iv = .int .i64 (i : Int) ∧ Hid (∀ j, j < i → itemOk p.its j = true) ∧ Hid (Nw w2 wr)) (fun iv _ => p.its.length - (intOf iv).toNat)
      case atStart => exact ⟨0, Nat.zero_le _, rfl, (fun j hj => by omega), Upd.refl _ _⟩
      case round =>
        obtain ⟨i, hi, rfl, hok, hu⟩ := hrel
        by_cases hlt : i < p.its.length
        · rcases HCl.out with h | ⟨ib, ioff, rfl, hib, hc⟩
          · omega
          have U := (HN1.out.trans HU2.out).trans hu.out
          obtain ⟨d0, d1', d2, d3, d4⟩ := hc i hlt
          have e0 := nw_cellS U d0
          have e1 := nw_cellS U d1'
          have e2 := nw_cellS U d2
          have e3 := nw_cellS U d3
          have e4 := nw_cellS U d4
          have hno := fun h => right_no (p := p) hlt h
          have hyes : itemOk p.its i = true → ∀ j, j < i + 1 → itemOk p.its j = true := fun h j hj => by
            rcases Nat.lt_or_ge j i with h1 | h1
            · exact hok.out j h1
            · obtain rfl : j = i := by omega
              exact h
          have hprev : ∀ k, (h : k + 1 = i) → wr.cell? ⟨ib, ioff + k * 5, none⟩ = some (.string ⟨(p.its[k]'(by omega)).nm.toArray⟩) := fun k h => nw_cellS U (hc k (by omega)).1
          have hitem0 : i = 0 → itemOk p.its i = Sg.itR p.its[i] := fun h => by subst h; exact itemOk_zero hlt
          have hitem1 : ∀ k, (h : k + 1 = i) → itemOk p.its i = (Sg.itR p.its[i] && Fm.lt (p.its[k]'(by omega)).nm p.its[i].nm) := fun k h => by subst h; exact itemOk_succ hlt
          have harg := HX.out _ (List.getElem_mem hlt)
          generalize p.its[i] = x at *
          obtain ⟨nm, a, b, c, pr⟩ := x
          obtain ⟨q0, q1, q2, q3, q4⟩ := harg
          dsimp only at *
          have n3 := nw_alloc wr (.cells #[.string ⟨nm.toArray⟩, .int .i64 a, .int .i64 b, .int .i64 c, .int .i64 pr] tPl)
          have b3 := heap_new wr (.cells #[.string ⟨nm.toArray⟩, .int .i64 a, .int .i64 b, .int .i64 c, .int .i64 pr] tPl)
          obtain ⟨w3, hw3⟩ : ∃ y, y = wr.alloc (.cells #[.string ⟨nm.toArray⟩, .int .i64 a, .int .i64 b, .int .i64 c, .int .i64 pr] tPl) := ⟨_, rfl⟩
          rw [← hw3] at n3 b3
          have U3 := U.trans n3
          have HNm := Lib.hid (fun (y : World) (u : Nw w3 y) => name_c nm q0 y (HG.out.upd (U3.trans u)))
          have HVr := Lib.hid (fun (y : World) (u : Nw w3 y) => version_c a b c y q1 q2 q3)
          have hb1 := Nw.keep ((HU2.out.trans hu.out).trans n3) HB1.out
          have l0 : ∀ j : Later w3, j.1.cell? ⟨wr.heap.size, 0, none⟩ = some (.string ⟨nm.toArray⟩) := fun j => by rw [cells_cell (Nw.keep j.nw b3)]; rfl
          have l1 : ∀ j : Later w3, j.1.cell? ⟨wr.heap.size, 1, none⟩ = some (.int .i64 a) := fun j => by rw [cells_cell (Nw.keep j.nw b3)]; rfl
          have l2 : ∀ j : Later w3, j.1.cell? ⟨wr.heap.size, 2, none⟩ = some (.int .i64 b) := fun j => by rw [cells_cell (Nw.keep j.nw b3)]; rfl
          have l3 : ∀ j : Later w3, j.1.cell? ⟨wr.heap.size, 3, none⟩ = some (.int .i64 c) := fun j => by rw [cells_cell (Nw.keep j.nw b3)]; rfl
          have l4 : ∀ j : Later w3, j.1.cell? ⟨wr.heap.size, 4, none⟩ = some (.int .i64 pr) := fun j => by rw [cells_cell (Nw.keep j.nw b3)]; rfl
          have l5 : ∀ j : Later w3, j.1.cell? ⟨z.heap.size, 1, none⟩ = some (.slice (some ⟨ib, ioff, none⟩) p.its.length vc) := fun j => by rw [cells_cell (Nw.keep j.nw hb1)]; rfl
          have HU3 := Lib.hid (hu.out.trans n3)
          have HN12 := Lib.hid (HN1.out.trans HU2.out)
          have HW3 := Lib.hid hw3
          have HLt := Lib.hid hlt
          have HNo := Lib.hid hno
          have HYes := Lib.hid hyes
          have HI0 := Lib.hid hitem0
          have HI1 := Lib.hid hitem1
          have HPv := Lib.hid (fun k h (y : World) (u : Nw w3 y) => nw_cellS (n3.trans u) (hprev k h))
          have hcn : (i : Int) ≤ 60 := by omega
          clear hok hu hc U d0 d1' d2 d3 d4 hprev hitem0 hitem1 n3 b3 hw3 U3 hb1 hno hyes q0 q1 q2 q3 q4
          have hitr : Sg.itR ⟨nm, a, b, c, pr⟩ = ((Sg.nameR nm && (Sg.part a && Sg.part b && Sg.part c)) && decide (0 ≤ pr)) := rfl
          have HIt := Lib.hid hitr
          clear hitr
          have hbad : Sg.itR ⟨nm, a, b, c, pr⟩ = false → Sg.rightP p = false := fun h => by
            refine HNo.out ?_
            rcases Nat.eq_zero_or_pos i with h0 | h0
            · rw [HI0.out h0]; exact h
            · obtain ⟨k, hk⟩ : ∃ k, k + 1 = i := ⟨i - 1, by omega⟩
              rw [HI1.out k hk, h]; rfl
          have HBad := Lib.hid hbad
          clear hbad
          cases hbn : Sg.nameR nm with
          | false =>
            have hR := Lib.hid (HBad.out (by rw [HIt.out, hbn]; rfl))
            rw [hbn] at HNm
            go_upto_region 6 with fail
            rw [← HW3.out]
            refine wp_region_nw (by kernel_rfl) (by kernel_rfl) ?_
            repeat (go_big_quiet_step (((first | (go_at_call 80; exact later_call (HNm.out _ (Later.nw _))) | (go_at_call 81; exact later_call (HVr.out _ (Later.nw _)))))))
            refine wpQuiet_nil ?_
            intro w5 u5
            replace u5 := later_out u5
            go_wp2_with fail
            go_ret
            rw [hR.out]
            exact ⟨rfl, (HN12.out.trans HU3.out).trans u5⟩
          | true =>
            rw [hbn] at HNm
            cases hbv : (Sg.part a && Sg.part b && Sg.part c) with
            | false =>
              have hR := Lib.hid (HBad.out (by rw [HIt.out, hbv, Bool.and_false]; rfl))
              rw [hbv] at HVr
              go_upto_region 6 with fail
              rw [← HW3.out]
              refine wp_region_nw (by kernel_rfl) (by kernel_rfl) ?_
              repeat (go_big_quiet_step (((first | (go_at_call 80; exact later_call (HNm.out _ (Later.nw _))) | (go_at_call 81; exact later_call (HVr.out _ (Later.nw _)))))))
              refine wpQuiet_nil ?_
              intro w5 u5
              replace u5 := later_out u5
              go_wp2_with fail
              go_ret
              rw [hR.out]
              exact ⟨rfl, (HN12.out.trans HU3.out).trans u5⟩
            | true =>
              rw [hbv] at HVr
              by_cases hp : pr < 0
              · have hR := Lib.hid (HBad.out (by rw [HIt.out, decide_eq_false (by omega), Bool.and_false]))
                have d5 : decide (pr < 0) = true := decide_eq_true hp
                go_upto_region 6 with fail
                rw [← HW3.out]
                refine wp_region_nw (by kernel_rfl) (by kernel_rfl) ?_
                repeat (go_big_quiet_step (((first | (go_at_call 80; exact later_call (HNm.out _ (Later.nw _))) | (go_at_call 81; exact later_call (HVr.out _ (Later.nw _)))))))
                refine wpQuiet_nil ?_
                intro w5 u5
                replace u5 := later_out u5
                go_wp2_with fail
                go_ret
                rw [hR.out]
                exact ⟨rfl, (HN12.out.trans HU3.out).trans u5⟩
              · have d5 : decide (pr < 0) = false := decide_eq_false hp
                have hit : Hid (Sg.itR ⟨nm, a, b, c, pr⟩ = true) := by show _ = true; rw [HIt.out, hbn, hbv, decide_eq_true (by omega)]; rfl
                rcases Nat.eq_zero_or_pos i with h0 | h0
                · have d6 : decide (0 < i) = false := decide_eq_false (by omega)
                  have hR := Lib.hid (HYes.out (by rw [HI0.out h0]; exact hit.out))
                  clear h0
                  go_upto_region 6 with fail
                  rw [← HW3.out]
                  refine wp_region_nw (by kernel_rfl) (by kernel_rfl) ?_
                  repeat (go_big_quiet_step (((first | (go_at_call 80; exact later_call (HNm.out _ (Later.nw _))) | (go_at_call 81; exact later_call (HVr.out _ (Later.nw _)))))))
                  refine wpQuiet_nil ?_
                  intro w5 u5
                  replace u5 := later_out u5
                  go_wp2_with fail
                  go_roundw
                  case rel => exact ⟨i + 1, HLt.out, by simp, hR, HU3.out.trans u5⟩
                  case measure =>
                    have := HLt.out
                    simp only [intOf]
                    omega
                · obtain ⟨k, hk⟩ : ∃ k, k + 1 = i := ⟨i - 1, by omega⟩
                  have d6 : decide (0 < i) = true := decide_eq_true (by omega)
                  have hik : (i : Int) - 1 = (k : Int) := by omega
                  have hkl : k < p.its.length := by have := HLt.out; omega
                  have l6 : ∀ j : Later w3, j.1.cell? ⟨ib, ioff + k * 5, none⟩ = some (.string ⟨(p.its[k]'hkl).nm.toArray⟩) := fun j => HPv.out k hk _ j.nw
                  have hi1 := HI1.out k hk
                  rw [hit.out, Bool.true_and] at hi1
                  generalize (p.its[k]'hkl).nm = pn at *
                  have HHi1 := Lib.hid hi1
                  clear hi1 hk h0
                  cases hlt2 : Fm.lt pn nm with
                  | false =>
                    have hR := Lib.hid (HNo.out (by rw [HHi1.out, hlt2]))
                    have d7 : Op.bytesLess pn nm = false := hlt2
                    clear hlt2
                    go_upto_region 6 with fail
                    rw [← HW3.out]
                    refine wp_region_nw (by kernel_rfl) (by kernel_rfl) ?_
                    repeat (go_big_quiet_step (((first | (go_at_call 80; exact later_call (HNm.out _ (Later.nw _))) | (go_at_call 81; exact later_call (HVr.out _ (Later.nw _)))))))
                    refine wpQuiet_nil ?_
                    intro w5 u5
                    replace u5 := later_out u5
                    go_wp2_with fail
                    go_ret
                    rw [hR.out]
                    exact ⟨rfl, (HN12.out.trans HU3.out).trans u5⟩
                  | true =>
                    have hR := Lib.hid (HYes.out (by rw [HHi1.out, hlt2]))
                    have d7 : Op.bytesLess pn nm = true := hlt2
                    clear hlt2
                    go_upto_region 6 with fail
                    rw [← HW3.out]
                    refine wp_region_nw (by kernel_rfl) (by kernel_rfl) ?_
                    repeat (go_big_quiet_step (((first | (go_at_call 80; exact later_call (HNm.out _ (Later.nw _))) | (go_at_call 81; exact later_call (HVr.out _ (Later.nw _)))))))
                    refine wpQuiet_nil ?_
                    intro w5 u5
                    replace u5 := later_out u5
                    go_wp2_with fail
                    go_roundw
                    case rel => exact ⟨i + 1, HLt.out, by simp, hR, HU3.out.trans u5⟩
                    case measure =>
                      have := HLt.out
                      simp only [intOf]
                      omega
        · have hE := Lib.hid (hq2.out.trans (List.all_eq_true.2 fun j hj => hok.out j (by have := List.mem_range.1 hj; omega)))
          clear hok
          go_wp2_with fail
          go_ret
          rw [hE.out]
          exact ⟨rfl, (HN1.out.trans HU2.out).trans hu.out⟩
end Go.Proofs.YtiednpagknnfnaaGreatDoor
namespace Go.Proofs.YtiednpagknnfnaaGreatDoor
open Go.RowKit
open Sg (opE)
attribute [local irreducible] Calls CallsIn
theorem cat_one (c : UInt8) (t : List UInt8) : (⟨#[c]⟩ : ByteArray) ++ ⟨t.toArray⟩ = ⟨(c :: t).toArray⟩ := by
  apply Go.WideShapes.bytes_inj
  rw [bs_append_list, bs_list, bs_list]
  rfl
def OpD (w : World) (db sb : Nat) (r : Sg.Res) (F : Nat → Prop) (z z' : World) : Prop := ∃ x' : SgR, x'.sb = sb ∧ SS w db x' r.j r.S r.D F z' ∧ Moves w F z z'
section
variable {w : World} {db : Nat} {x : SgR} {j : Jr.Jn} {S : Sg.Sta} {D : Dk.Disk} {F : Nat → Prop} {z : World}
theorem OpD.same (h : SS w db x j S D F z) (n e : Int) {z' : World} (u : Nw z z') : OpD w db x.sb (D, j, S, n, e) F z z' := ⟨x, rfl, h.nw u, Nw.upd _ u⟩
set_option maxHeartbeats 4000000 in
set_option maxRecDepth 100000 in
theorem put_t (g : Gl w) (h : SS w db x j S D F z) {t : List UInt8} (ht : t.length ≤ 19000) (hb : Sg.big S + 1 ≤ 1000) :
    Calls Tryz.prog 25 #[.pointer (some ⟨x.sb, 0, none⟩), .string ⟨t.toArray⟩] z fun e z' => e = .returned (.tuple #[.int .i64 (Sg.put D j S t).n, .int .i64 (Sg.put D j S t).e]) ∧ OpD w db x.sb (Sg.put D j S t) F z z' := by
  obtain ⟨c0, c1, c2, c3, c4⟩ := h.st.cells
  have hl := look_n h.st (t := t) (by omega)
  unfold bsV at hl
  have ht2 : (t.length : Int) ≤ 19000 := by omega
  have ht3 : ¬ ((19000 : Int) < t.length) := by omega
  have H := Lib.hid h
  cases hf : Sg.find S t with
  | some n =>
    rw [hf] at hl
    have hE := Lib.hid (show Sg.put D j S t = (D, j, S, (n : Int), 0) by unfold Sg.put; rw [hf])
    dsimp only [Option.getD_some, Option.isSome_some] at hl
    have HL := Lib.hid hl
    clear hl hf h
    go_enter Tryz.func25, Tryz.ntmps25
    go_wp2_with (at_lookup; refine wpList_lookL rfl _ _ 84 true rfl _ _ _ rfl rfl HL.out ?_)
    go_ret2
    rw [hE.out]
    exact ⟨rfl, OpD.same H.out _ _ (Upd.refl _ _)⟩
  | none =>
    rw [hf] at hl
    have hE := Lib.hid (show Sg.put D j S t = Sg.withN S.th.length (Sg.perform D j S (.put t)) by unfold Sg.put; rw [hf])
    dsimp only [Option.getD_none, Option.isSome_none] at hl
    have HL := Lib.hid hl
    have hP := perform_t g h (o := .put t) hf hb (by simp [opE]; omega)
    unfold bsV at hP
    have hcat := cat_one 112 t
    simp only [opE] at hP
    generalize (⟨(112 :: t).toArray⟩ : ByteArray) = op at hP hcat
    have HP := Lib.hid hP
    have hsm : ¬ (9223372036854775807 < 1 + t.length) := by omega
    clear hl hf h hP
    obtain ⟨r, hr⟩ : ∃ r, r = Sg.perform D j S (.put t) := ⟨_, rfl⟩
    rw [← hr] at HP hE
    obtain ⟨D', j', S', e'⟩ := r
    dsimp only at HP
    clear hr
    by_cases h0 : e' = 0
    · subst h0
      go_enter Tryz.func25, Tryz.ntmps25
      go_wp2_with (first | (at_lookup; refine wpList_lookL rfl _ _ 84 true rfl _ _ _ rfl rfl HL.out ?_) | (go_at_call 52; with_reducible refine HP.out.mono ?_; rintro _ w2 ⟨rfl, x', e1, hs2, u2⟩))
      go_ret2
      rw [hE.out]
      exact ⟨rfl, x', e1, hs2, u2⟩
    · go_enter Tryz.func25, Tryz.ntmps25
      go_wp2_with (first | (at_lookup; refine wpList_lookL rfl _ _ 84 true rfl _ _ _ rfl rfl HL.out ?_) | (go_at_call 52; with_reducible refine HP.out.mono ?_; rintro _ w2 ⟨rfl, x', e1, hs2, u2⟩))
      go_ret2
      rw [hE.out]
      refine ⟨?_, x', e1, hs2, u2⟩
      simp [Sg.withN, Sg.Res.n, Sg.Res.e, h0]
set_option maxHeartbeats 4000000 in
set_option maxRecDepth 100000 in
theorem drop_t (g : Gl w) (h : SS w db x j S D F z) {n : List UInt8} (hn : n.length ≤ 19000) (hb : Sg.big S + 1 ≤ 1000) :
    Calls Tryz.prog 41 #[.pointer (some ⟨x.sb, 0, none⟩), .string ⟨n.toArray⟩] z fun e z' => e = .returned (.int .i64 (Sg.drop D j S n).e) ∧ OpD w db x.sb (Sg.drop D j S n) F z z' := by
  obtain ⟨c0, c1, c2, c3, c4⟩ := h.st.cells
  obtain ⟨v, hl, hv⟩ := look_p h.st (nm := n) (by omega)
  obtain ⟨va, vc, rfl⟩ := own_slS hv.1
  unfold pfV bsV at hl
  have H := Lib.hid h
  clear hv
  cases hf : Sg.prof S n with
  | none =>
    rw [hf] at hl
    have hE := Lib.hid (show Sg.drop D j S n = (D, j, S, 0, 4) by unfold Sg.drop; rw [hf])
    dsimp only [Option.elim_none, Option.isSome_none] at hl
    have HL := Lib.hid hl
    clear hl hf h
    go_enter Tryz.func41, Tryz.ntmps41
    go_wp2_with (at_lookup; refine wpList_lookL rfl _ _ 85 true rfl _ _ _ rfl rfl HL.out ?_)
    go_ret
    rw [hE.out]
    exact ⟨rfl, OpD.same H.out _ _ (nw_alloc _ _)⟩
  | some p =>
    rw [hf] at hl
    have hE := Lib.hid (show Sg.drop D j S n = Sg.withN 0 (Sg.perform D j S (.drop n)) by unfold Sg.drop; rw [hf])
    dsimp only [Option.elim_some, Option.isSome_some] at hl
    have HL := Lib.hid hl
    have n1 := nw_alloc z (.cells #[.string ⟨p.nm.toArray⟩, .slice va p.its.length vc] 47)
    have hP := perform_t g (h.nw n1) (o := .drop n) trivial hb (by simp [opE]; omega)
    unfold bsV at hP
    have hcat := cat_one 100 n
    simp only [opE] at hP
    generalize (⟨(100 :: n).toArray⟩ : ByteArray) = op at hP hcat
    have HP := Lib.hid hP
    have HN1 := Lib.hid n1
    have hsm : ¬ (9223372036854775807 < 1 + n.length) := by omega
    clear hl hf h hP n1
    go_enter Tryz.func41, Tryz.ntmps41
    go_wp2_with (first | (at_lookup; refine wpList_lookL rfl _ _ 85 true rfl _ _ _ rfl rfl HL.out ?_) | (go_at_call 52; with_reducible refine HP.out.mono ?_; rintro _ w2 ⟨rfl, x', e1, hs2, u2⟩))
    go_ret
    rw [hE.out]
    exact ⟨rfl, x', e1, hs2, Nw.trans HN1.out u2⟩
theorem spI_len (S : Sg.Sta) : (spI S).length = (Sg.spare S).length := by unfold spI; rw [List.length_map]
set_option maxHeartbeats 4000000 in
set_option maxRecDepth 100000 in
theorem sweep_t (g : Gl w) (h : SS w db x j S D F z) (hb : Sg.big S + 1 ≤ 1000) :
    Calls Tryz.prog 28 #[.pointer (some ⟨x.sb, 0, none⟩)] z fun e z' => e = .returned (.tuple #[.int .i64 (Sg.sweep D j S).n, .int .i64 (Sg.sweep D j S).e]) ∧ OpD w db x.sb (Sg.sweep D j S) F z z' := by
  have hS := Lib.hid (spare_c h.st)
  have H := Lib.hid h
  have hln := Lib.hid (spI_len S)
  have hlb : (spI S).length ≤ 1000 := by
    rw [hln.out]
    have h1 := List.length_filter_le (fun i : Nat => !Sg.used S i) (Sg.numbers S)
    have h2 := numbers_len S
    unfold Sg.spare
    unfold Sg.big at hb
    omega
  by_cases h0 : (spI S).length = 0
  · have hE := Lib.hid (show Sg.sweep D j S = (D, j, S, 0, 0) by unfold Sg.sweep; rw [if_pos (List.length_eq_zero_iff.1 (by rw [← hln.out]; exact h0))])
    clear h
    go_enter Tryz.func28, Tryz.ntmps28
    go_wp2_with fail
    (with_reducible refine (hS.out).mono ?_)
    rintro _ w1 ⟨v1, rfl, ho, u1⟩
    obtain ⟨a1, k1, rfl⟩ := own_slS ho
    clear ho
    go_wp2_with fail
    go_ret2
    rw [hE.out]
    exact ⟨rfl, OpD.same H.out _ _ u1⟩
  · have hE := Lib.hid (show Sg.sweep D j S = Sg.withN (spI S).length (Sg.perform D j S .sweep) by unfold Sg.sweep; rw [if_neg (fun e => h0 (by rw [hln.out, e]; rfl)), hln.out])
    generalize (spI S).length = m at *
    clear h
    have hm1 : ((m : Int) == 0) = false := by simp [h0]
    have HB := Lib.hid hb
    go_enter Tryz.func28, Tryz.ntmps28
    go_wp2_with fail
    (with_reducible refine (hS.out).mono ?_)
    rintro _ w1 ⟨v1, rfl, ho, u1⟩
    obtain ⟨a1, k1, rfl⟩ := own_slS ho
    have hP := perform_t g (H.out.nw u1) (o := .sweep) trivial HB.out (by simp [opE])
    have HU1 := Lib.hid u1
    unfold bsV at hP
    simp only [opE] at hP
    obtain ⟨r, hr⟩ : ∃ r, r = Sg.perform D j S .sweep := ⟨_, rfl⟩
    rw [← hr] at hP hE
    obtain ⟨D', j', S', e'⟩ := r
    dsimp only at hP
    have HP := Lib.hid hP
    clear ho u1 hP hr
    by_cases h1 : e' = 0
    · subst h1
      go_wp2_with (go_at_call 52; with_reducible refine HP.out.mono ?_; rintro _ w2 ⟨rfl, x', e1, hs2, u2⟩)
      go_ret2
      rw [hE.out]
      exact ⟨rfl, x', e1, hs2, Nw.trans HU1.out u2⟩
    · go_wp2_with (go_at_call 52; with_reducible refine HP.out.mono ?_; rintro _ w2 ⟨rfl, x', e1, hs2, u2⟩)
      go_ret2
      rw [hE.out]
      refine ⟨?_, x', e1, hs2, Nw.trans HU1.out u2⟩
      simp [Sg.withN, Sg.Res.n, Sg.Res.e, h1]
end
end Go.Proofs.YtiednpagknnfnaaGreatDoor
namespace Go.Proofs.YtiednpagknnfnaaGreatDoor
open Go.RowKit
open Sg (opE pfE)
attribute [local irreducible] Calls CallsIn
section
variable {w : World} {db : Nat} {x : SgR} {j : Jr.Jn} {S : Sg.Sta} {D : Dk.Disk} {F : Nat → Prop} {z : World}
set_option maxHeartbeats 4000000 in
set_option maxRecDepth 100000 in
theorem set_t (g : GmS w) (h : SS w db x j S D F z) {p : Sg.Pf} {v : Value} {lo hi : Nat} (hv : SlS 5 lo hi z v (p.its.map itC)) (hn : p.nm.length ≤ 1000000) (hl : p.its.length ≤ 1000) (hx : ∀ x ∈ p.its, ItArg x) (hb : Sg.big S + 1 ≤ 1000) :
    Calls Tryz.prog 26 #[.pointer (some ⟨x.sb, 0, none⟩), .agg #[.string ⟨p.nm.toArray⟩, v]] z fun e z' => e = .returned (.int .i64 (Sg.set D j S p).e) ∧ OpD w db x.sb (Sg.set D j S p) F z z' := by
  have hgz := g.upd h.nw0
  have hgb := hgz.g.big
  obtain ⟨va, vc, rfl, hm, hcl⟩ := items_open hv
  have n1 := nw_alloc z (.cells #[.string ⟨p.nm.toArray⟩, .slice va p.its.length vc] 47)
  have b1 := heap_new z (.cells #[.string ⟨p.nm.toArray⟩, .slice va p.its.length vc] 47)
  obtain ⟨w1, hw1⟩ : ∃ y, y = z.alloc (.cells #[.string ⟨p.nm.toArray⟩, .slice va p.its.length vc] 47) := ⟨_, rfl⟩
  rw [← hw1] at n1 b1
  have hR := Lib.hid (right_c (hgz.upd n1) (hv.nw n1) hn hl hx)
  have H := Lib.hid h
  have HG := Lib.hid hgz
  have HG0 := Lib.hid g
  have HN1 := Lib.hid n1
  have HB1 := Lib.hid b1
  have HW1 := Lib.hid hw1
  have HX := Lib.hid hx
  have HV := Lib.hid hv
  have HCl := Lib.hid hcl
  have HBg := Lib.hid hb
  have c0 : w1.cell? ⟨z.heap.size, 0, none⟩ = some (.string ⟨p.nm.toArray⟩) := by rw [cells_cell b1]; rfl
  have c1 : w1.cell? ⟨z.heap.size, 1, none⟩ = some (.slice va p.its.length vc) := by rw [cells_cell b1]; rfl
  have hl1 : (p.its.length : Int) ≤ 1000 := by omega
  have hsb := (h.st.lt x.sb (Or.inl rfl)).2
  clear g h hgz n1 b1 hw1 hx hv hcl hm hb
  cases hrb : Sg.rightP p with
  | false =>
    rw [hrb] at hR
    have hE := Lib.hid (show Sg.set D j S p = (D, j, S, 0, 1) by unfold Sg.set; rw [if_pos hrb])
    clear hrb
    go_enter Tryz.func26, Tryz.ntmps26
    go_upto_region 1 with fail
    rw [← HW1.out]
    go_wp2_with fail
    (with_reducible refine (hR.out).mono ?_)
    rintro _ w2 ⟨rfl, u2⟩
    go_wp2_with fail
    go_ret
    rw [hE.out]
    exact ⟨rfl, OpD.same H.out _ _ (HN1.out.trans u2)⟩
  | true =>
    rw [hrb] at hR
    obtain ⟨r1, r2, r3⟩ := right_len hrb
    have hset := Lib.hid (show Sg.set D j S p = if (p.its.all fun y => Sg.there S y.pr) = false then (D, j, S, 0, 4) else Sg.withN 0 (Sg.perform D j S (.set p)) by unfold Sg.set; rw [if_neg (by rw [hrb]; decide)])
    have HRb := Lib.hid hrb
    have HR3 := Lib.hid (And.intro r1 (And.intro r2 r3))
    clear hrb r1 r2 r3
    go_enter Tryz.func26, Tryz.ntmps26
    go_upto_region 1 with fail
    rw [← HW1.out]
    clear HW1
    go_wp2_with fail
    (with_reducible refine (hR.out).mono ?_)
    rintro _ w2 ⟨rfl, u2⟩
    have d1 : w2.cell? ⟨z.heap.size, 1, none⟩ = some (.slice va p.its.length vc) := by rw [cells_cell (Nw.keep u2 HB1.out)]; rfl
    have HU2 := Lib.hid (HN1.out.trans u2)
    have HB2 := Lib.hid (Nw.keep u2 HB1.out)
    clear hR u2 c0 c1
    go_wp2_with fail
    go_loopw [15] (fun iv wr => ∃ i : Nat, i ≤ p.its.length ∧ iv = .int .i64 (i : Int) ∧ Hid (∀ k (hk : k < p.its.length), k < i → Sg.there S p.its[k].pr = true) ∧ Hid (Nw w2 wr)) (fun iv _ => p.its.length - (intOf iv).toNat)
    case atStart => exact ⟨0, Nat.zero_le _, rfl, (fun k hk h => by omega), Upd.refl _ _⟩
    case round =>
      obtain ⟨i, hi, rfl, hok, hu⟩ := hrel
      have U := HU2.out.trans hu.out
      by_cases hlt : i < p.its.length
      · rcases HCl.out with h | ⟨ib, ioff, rfl, hib, hc⟩
        · omega
        obtain ⟨d0, d1', d2, d3, d4⟩ := hc i hlt
        have e0 := nw_cellS U d0
        have e1 := nw_cellS U d1'
        have e2 := nw_cellS U d2
        have e3 := nw_cellS U d3
        have e4 := nw_cellS U d4
        have hyes : Sg.there S p.its[i].pr = true → ∀ k (hk : k < p.its.length), k < i + 1 → Sg.there S p.its[k].pr = true := fun h k hk hki => by
          rcases Nat.lt_or_ge k i with h1 | h1
          · exact hok.out k hk h1
          · obtain rfl : k = i := by omega
            exact h
        have hno : Sg.there S p.its[i].pr = false → (p.its.all fun y => Sg.there S y.pr) = false := fun h => by
          cases hh : (p.its.all fun y => Sg.there S y.pr) with
          | false => rfl
          | true => have := List.all_eq_true.1 hh _ (List.getElem_mem hlt); rw [h] at this; cases this
        have harg := HX.out _ (List.getElem_mem hlt)
        generalize p.its[i] = it at *
        obtain ⟨nm, a, b, c, pr⟩ := it
        have q4 := harg.pr
        dsimp only at *
        have n3 := nw_alloc wr (.cells #[.string ⟨nm.toArray⟩, .int .i64 a, .int .i64 b, .int .i64 c, .int .i64 pr] tPl)
        have b3 := heap_new wr (.cells #[.string ⟨nm.toArray⟩, .int .i64 a, .int .i64 b, .int .i64 c, .int .i64 pr] tPl)
        obtain ⟨w3, hw3⟩ : ∃ y, y = wr.alloc (.cells #[.string ⟨nm.toArray⟩, .int .i64 a, .int .i64 b, .int .i64 c, .int .i64 pr] tPl) := ⟨_, rfl⟩
        rw [← hw3] at n3 b3
        have hst := H.out.st.nw (U.trans n3)
        have l0 : ∀ j : Later w3, j.1.cell? ⟨wr.heap.size, 4, none⟩ = some (.int .i64 pr) := fun j => by rw [cells_cell (Nw.keep j.nw b3)]; rfl
        have l1 : ∀ j : Later w3, j.1.cell? ⟨x.sb, 2, none⟩ = some (.map (some x.mT)) := fun j => (hst.nw j.nw).cells.2.2.1
        have l2 : ∀ j : Later w3, (Instr.lookup 83 (.map (some x.mT)) (.int .i64 pr) true).run Tryz.prog j.1 = .ok (.tuple #[bsV (if Sg.there S pr then Sg.textN S pr.toNat else []), .bool (Sg.there S pr)]) j.1 := fun j => look_t (hst.nw j.nw) q4
        generalize bsV (if Sg.there S pr then Sg.textN S pr.toNat else []) = tv at l2
        have HW3 := Lib.hid hw3
        have HU3 := Lib.hid (hu.out.trans n3)
        have HLt := Lib.hid hlt
        have HYes := Lib.hid hyes
        have HNo := Lib.hid hno
        clear hok hu hc d0 d1' d2 d3 d4 U n3 b3 hw3 hst hyes hno harg q4
        cases hth : Sg.there S pr with
        | false =>
          rw [hth] at l2
          have hE := Lib.hid (hset.out.trans (by rw [if_pos (HNo.out hth)]))
          clear hth HYes HNo
          go_upto_region 6 with fail
          rw [← HW3.out]
          refine wp_region_nw (by kernel_rfl) (by kernel_rfl) ?_
          repeat (go_big_quiet_step ((fail)))
          refine wpQuiet_nil ?_
          intro w5 u5
          replace u5 := later_out u5
          go_wp2_with fail
          go_ret
          rw [hE.out]
          exact ⟨rfl, OpD.same H.out _ _ ((HU2.out.trans HU3.out).trans u5)⟩
        | true =>
          rw [hth] at l2
          have hR := Lib.hid (HYes.out hth)
          clear hth HYes HNo
          go_upto_region 6 with fail
          rw [← HW3.out]
          refine wp_region_nw (by kernel_rfl) (by kernel_rfl) ?_
          repeat (go_big_quiet_step ((fail)))
          refine wpQuiet_nil ?_
          intro w5 u5
          replace u5 := later_out u5
          go_wp2_with fail
          go_roundw
          case rel => exact ⟨i + 1, HLt.out, by simp, hR, HU3.out.trans u5⟩
          case measure =>
            have := HLt.out
            simp only [intOf]
            omega
      · have hall : ∀ y ∈ p.its, Sg.there S y.pr = true := fun y hy => by
          obtain ⟨k, hk, rfl⟩ := List.getElem_of_mem hy
          exact hok.out k hk (by omega)
        have hE := Lib.hid (hset.out.trans (by rw [if_neg (by rw [List.all_eq_true.2 hall]; decide)]))
        obtain ⟨r1, r2, r3⟩ := HR3.out
        have hitok : ∀ y ∈ p.its, ItOk y := fun y hy => by
          obtain ⟨q1, q2, q3, q4, q5⟩ := r3 y hy
          have := (HX.out y hy).pr
          unfold I64 at this
          exact ⟨by omega, q2, q3, q4, by omega⟩
        have hEn := Lib.hid (encode_c (HG.out.g.upd U) (HV.out.nw U) (by omega) r2 hitok)
        have e0 : wr.cell? ⟨z.heap.size, 0, none⟩ = some (.string ⟨p.nm.toArray⟩) := by rw [cells_cell (Nw.keep hu.out HB2.out)]; rfl
        have e1 : wr.cell? ⟨z.heap.size, 1, none⟩ = some (.slice va p.its.length vc) := by rw [cells_cell (Nw.keep hu.out HB2.out)]; rfl
        have hlen : (pfE p).length ≤ 18500 := by
          have h1 := accI_len (by omega) r2 hitok p.its.length
          unfold accI at h1
          rw [List.take_length] at h1
          unfold pfE
          omega
        have HAll := Lib.hid hall
        have HU := Lib.hid U
        have hcat := cat_one 115 (pfE p)
        have hsm : ¬ (9223372036854775807 < 1 + (pfE p).length) := by omega
        have hP0 := fun (y : World) (u : Nw z y) => perform_t HG0.out.g (H.out.nw u) (o := .set p) ⟨HRb.out, HAll.out⟩ HBg.out (by simp only [opE, List.length_cons]; omega)
        simp only [opE] at hP0
        unfold bsV at hP0
        generalize hop : (⟨(115 :: pfE p).toArray⟩ : ByteArray) = op at hP0 hcat
        clear hop
        have HP0 := Lib.hid hP0
        clear hP0 hok hu U hall hitok hlen r1 r2 r3
        go_upto_region 10 with fail
        go_wp2_with fail
        (with_reducible refine (hEn.out).mono ?_)
        rintro _ w4 ⟨rfl, u4⟩
        have hP := HP0.out w4 (HU.out.trans u4)
        have HU4 := Lib.hid u4
        clear HP0 u4
        go_wp2_with (go_at_call 52; with_reducible refine hP.mono ?_; rintro _ w5 ⟨rfl, x', f1, hs5, u5⟩)
        go_ret
        rw [hE.out]
        exact ⟨rfl, x', f1, hs5, Nw.trans (HU.out.trans HU4.out) u5⟩
end
end Go.Proofs.YtiednpagknnfnaaGreatDoor
namespace Go.Proofs.YtiednpagknnfnaaGreatDoor
open Go.RowKit
open Sg (recE Gd fold)
attribute [local irreducible] Calls CallsIn
def OpenD (w : World) (db : Nat) (D : Dk.Disk) (f : Int) (rs : List (Option Sg.Ops)) (F : Nat → Prop) (z : World) (e : Ending) (z' : World) : Prop :=
  ((Jr.openJ D f).2.1 = none ∧ e = .returned (.tuple #[.pointer none, .int .i64 (Jr.openJ D f).2.2]) ∧ GS w db none (Jr.openJ D f).1 F z' ∧ Moves w F z z') ∨
  ((Jr.openJ D f).2.1 = some ⟨f, rs.map recE, false⟩ ∧ ∃ x : SgR, e = .returned (.tuple #[.pointer (some ⟨x.sb, 0, none⟩), .int .i64 0]) ∧ SS w db x ⟨f, rs.map recE, false⟩ (Sg.of rs) (Jr.openJ D f).1 F z' ∧ Moves w F z z')
theorem sg_new {w z : World} {jb : Nat} (hw : w.heap.size ≤ z.heap.size) (hg : nG ≤ w.heap.size) :
    SgAt w.heap.size ((((z.alloc (.map #[] 0)).alloc (.map #[] 0)).alloc (.map #[] 0)).alloc (.cells #[.pointer (some ⟨jb, 0, none⟩), .int .i64 0, .map (some z.heap.size), .map (some (z.heap.size + 1)), .map (some (z.heap.size + 2))] 87))
      ⟨z.heap.size + 3, jb, z.heap.size, z.heap.size + 1, z.heap.size + 2, fun _ => False⟩ Sg.nil := by
  have n1 := nw_alloc (z.alloc (.map #[] 0)) (.map #[] 0)
  have n2 := nw_alloc ((z.alloc (.map #[] 0)).alloc (.map #[] 0)) (.map #[] 0)
  have n3 := nw_alloc (((z.alloc (.map #[] 0)).alloc (.map #[] 0)).alloc (.map #[] 0)) (.cells #[.pointer (some ⟨jb, 0, none⟩), .int .i64 0, .map (some z.heap.size), .map (some (z.heap.size + 1)), .map (some (z.heap.size + 2))] 87)
  have m1 := ((MapL.made Tryz.prog tIntS z).nw n1).nw (n2.trans n3)
  have m2 := ((MapL.made Tryz.prog tStrS (z.alloc (.map #[] 0))).nw n2).nw n3
  have m3 := (MapL.made Tryz.prog tStrS ((z.alloc (.map #[] 0)).alloc (.map #[] 0))).nw n3
  have b := heap_new (((z.alloc (.map #[] 0)).alloc (.map #[] 0)).alloc (.map #[] 0)) (.cells #[.pointer (some ⟨jb, 0, none⟩), .int .i64 0, .map (some z.heap.size), .map (some (z.heap.size + 1)), .map (some (z.heap.size + 2))] 87)
  simp only [World.size_alloc] at m1 m2 m3 b
  refine ⟨Sg.g_nil, by decide, (fun t ht => by cases ht), b, m1, m2, ⟨[], rfl, m3, fun q hq => by cases hq⟩, fun k hk => ?_, hg, ?_⟩
  · simp only [World.size_alloc]
    rcases hk with hk | hk | hk | hk | hk
    · dsimp only at hk; omega
    · dsimp only at hk; omega
    · dsimp only at hk; omega
    · dsimp only at hk; omega
    · exact hk.elim
  · dsimp only
    refine ⟨by omega, by omega, by omega, by omega, by omega, by omega, fun k hk => hk.elim⟩
theorem ss_apply {w : World} {db : Nat} {x x2 : SgR} {j : Jr.Jn} {S S2 : Sg.Sta} {D : Dk.Disk} {F : Nat → Prop} {z z' : World} (h : SS w db x j S D F z) (e2 : x2.jb = x.jb) (hs : SgAt w.heap.size z' x2 S2) (u : Upd x.foot z z') (hf : ∀ k, x2.foot k → x.foot k ∨ (z.heap.size ≤ k ∧ k < z'.heap.size)) : SS w db x2 j S2 D F z' ∧ Moves w F z z' := by
  have hFlt : ∀ k, F k → k < z.heap.size := fun k hk => by
    obtain ⟨d, _, _, _, h3, _⟩ := h.gs
    exact (h3 k (Or.inl hk)).1
  refine ⟨⟨?_, hs, fun k hk hk2 => ?_⟩, u.mono (fun k _ e => ⟨fun f => h.ap k f e, (h.st.lt k e).1⟩)⟩
  · rw [e2]
    refine h.gs.upd_keepS u (fun k hk => Or.inl ⟨Or.inr hk, (h.st.lt k hk).1⟩) (fun k hk => ?_)
    rcases hk with hk | hk
    · exact Or.inl (Or.inl hk)
    · exact (hf k hk).imp Or.inr id
  · rcases hf k hk2 with h1 | h1
    · exact h.ap k hk h1
    · have := hFlt k hk; omega
theorem fold_mem : ∀ (n : Nat) (l : List (Option Sg.Ops)), l.length = n → ∀ o, (fold l).1 = some o → some o ∈ l := by
  intro n
  induction n with
  | zero => intro l h o ho; rw [List.length_eq_zero_iff.1 h] at ho; cases ho
  | succ n ih =>
    intro l h o ho
    have e : l = l.take n ++ [l[n]'(by omega)] := by rw [List.take_append_getElem]; rw [List.take_of_length_le (by omega)]
    rw [e, Sg.fold_snoc] at ho
    have hm := List.getElem_mem (l := l) (n := n) (by omega)
    cases hr : l[n]'(by omega) with
    | none =>
      rw [hr] at ho
      unfold Sg.step at ho
      cases hq : (fold (l.take n)).1 with
      | none => rw [hq] at ho; cases ho
      | some q => rw [hq] at ho; cases ho
    | some q =>
      rw [hr] at ho hm
      have : some q = some o := ho
      rw [← this]; exact hm
theorem rec_eq (r : Option Sg.Ops) : ((⟨(recE r).toArray⟩ : ByteArray).toList == [99]) = r.isNone := by
  rw [ByteArray.toList_eq]
  show (recE r == [99]) = _
  cases r with
  | none => rfl
  | some o =>
    have := Sg.opE_ne o
    rw [beq_eq_false_iff_ne.2 (show recE (some o) ≠ [99] from this)]
    rfl
structure OpI (w : World) (db sb : Nat) (jn : Jr.Jn) (D : Dk.Disk) (F : Nat → Prop) (rs : List (Option Sg.Ops)) (w1 : World) (B5 : Nat) (av : Value) (i : Nat) (wr : World) : Prop where
  ex : ∃ x : SgR, x.sb = sb ∧ SS w db x jn (Sg.of (rs.take i)) D (fun k => F k ∨ av.ownBlock = some k) wr
  upd : Moves w F w1 wr
  own : wr.ownsRow B5 9 1 av rs.length ((rs.map recE).map bsV)
set_option maxHeartbeats 4000000 in
set_option maxRecDepth 100000 in
theorem sopen_t {w : World} {db : Nat} {jp : Option (Nat × Jr.Jn)} {D : Dk.Disk} {F : Nat → Prop} {z : World} (g : Gl w) (h : GS w db jp D F z) {f : Int} (hf : I64 f) {rs : List (Option Sg.Ops)}
    (hc : ((Jr.openJ D f).2.1 = none ∧ (Jr.openJ D f).2.2 ≠ 0) ∨ ((Jr.openJ D f).2.1 = some ⟨f, rs.map recE, false⟩ ∧ (Jr.openJ D f).2.2 = 0 ∧ Gd rs ∧ rs.length ≤ 400 ∧ ∀ r ∈ rs, (recE r).length ≤ 2000)) :
    Calls Tryz.prog 8 #[.pointer (some ⟨db, 0, none⟩), .int .i64 f] z (OpenD w db D f rs F z) := by
  have hO := open_t h g hf
  have hzw := h.nw0.size
  have hgb := g.big
  rcases hc with ⟨h1, h2⟩ | ⟨h1, h2, h3, h4, h5⟩
  · have H1 := Lib.hid h1
    have hO' : Calls Tryz.prog 31 #[.pointer (some ⟨db, 0, none⟩), .int .i64 f] z fun e z' => e = .returned (.tuple #[.pointer none, .int .i64 (Jr.openJ D f).2.2]) ∧ GS w db none (Jr.openJ D f).1 F z' ∧ Moves w F z z' := hO.mono fun e z' ⟨pv, he, ⟨jq, q1, q2, q3⟩, hm⟩ => by
      rw [h1] at q1
      obtain rfl : jq = none := by cases jq with | none => rfl | some y => cases q1
      rw [q2] at he
      exact ⟨he, q3, hm⟩
    have HE := Lib.hid (show OpenD w db D f rs F z = OpenD w db D f rs F z from rfl)
    obtain ⟨er, her⟩ : ∃ er, er = (Jr.openJ D f).2.2 := ⟨_, rfl⟩
    rw [← her] at hO' h2
    have HO := Lib.hid hO'
    have HEr := Lib.hid her
    clear hO hO' her h h1 HE
    go_enter Tryz.func8, Tryz.ntmps8
    go_wp2_with fail
    (with_reducible refine (HO.out).mono ?_)
    rintro _ w1 ⟨rfl, hg1, hm1⟩
    go_wp2_with fail
    go_ret2
    exact Or.inl ⟨H1.out, (by first | rfl | (rw [← HEr.out]; rfl)), hg1, hm1⟩
  · have H1 := Lib.hid h1
    have hO' : Calls Tryz.prog 31 #[.pointer (some ⟨db, 0, none⟩), .int .i64 f] z fun e z' => ∃ jb, e = .returned (.tuple #[.pointer (some ⟨jb, 0, none⟩), .int .i64 0]) ∧ GS w db (some (jb, ⟨f, rs.map recE, false⟩)) (Jr.openJ D f).1 F z' ∧ Moves w F z z' := hO.mono fun e z' ⟨pv, he, ⟨jq, q1, q2, q3⟩, hm⟩ => by
      rw [h1] at q1
      cases jq with
      | none => cases q1
      | some y =>
        obtain ⟨jb, jn⟩ := y
        have e1 : jn = _ := Option.some.inj q1
        subst e1
        rw [q2, h2] at he
        exact ⟨jb, he, q3, hm⟩
    obtain ⟨D', hD'⟩ : ∃ D', D' = (Jr.openJ D f).1 := ⟨_, rfl⟩
    rw [← hD'] at hO'
    have HO := Lib.hid hO'
    have HD' := Lib.hid hD'
    have HGd := Lib.hid h3
    have HLn := Lib.hid h4
    have HSz := Lib.hid h5
    have hmm := @run_makeMap Tryz.prog
    clear hO hO' hD' h h1 h2 h3 h4 h5
    go_enter Tryz.func8, Tryz.ntmps8
    go_wp2_with fail
    (with_reducible refine (HO.out).mono ?_)
    rintro _ w1 ⟨jb, rfl, hg1, hm1⟩
    have hs1 := hm1.size
    have hsg := sg_new (w := w) (z := w1) (jb := jb) (by omega) hgb
    have n5 : Nw w1 ((((w1.alloc (.map #[] 0)).alloc (.map #[] 0)).alloc (.map #[] 0)).alloc (.cells #[.pointer (some ⟨jb, 0, none⟩), .int .i64 0, .map (some w1.heap.size), .map (some (w1.heap.size + 1)), .map (some (w1.heap.size + 2))] 87)) := ((nw_alloc _ _).trans (nw_alloc _ _)).trans ((nw_alloc _ _).trans (nw_alloc _ _))
    obtain ⟨w5, hw5⟩ : ∃ y, y = (((w1.alloc (.map #[] 0)).alloc (.map #[] 0)).alloc (.map #[] 0)).alloc (.cells #[.pointer (some ⟨jb, 0, none⟩), .int .i64 0, .map (some w1.heap.size), .map (some (w1.heap.size + 1)), .map (some (w1.heap.size + 2))] 87) := ⟨_, rfl⟩
    have hs5 : w5.heap.size = w1.heap.size + 4 := by rw [hw5]; simp only [World.size_alloc]
    rw [← hw5] at hsg n5
    have hFlt : ∀ k, F k → k < w1.heap.size := fun k hk => by
      obtain ⟨d, _, _, _, h3, _⟩ := hg1
      exact (h3 k hk).1
    have hss : SS w db ⟨w1.heap.size + 3, jb, w1.heap.size, w1.heap.size + 1, w1.heap.size + 2, fun _ => False⟩ ⟨f, rs.map recE, false⟩ Sg.nil D' F w5 := by
      refine ⟨hg1.keep n5 (fun k hk => ?_), hsg, fun k hk e => ?_⟩
      · rcases hk with hk | hk
        · exact Or.inl hk
        · refine Or.inr ?_
          rcases hk with hk | hk | hk | hk | hk
          · dsimp only at hk; omega
          · dsimp only at hk; omega
          · dsimp only at hk; omega
          · dsimp only at hk; omega
          · exact hk.elim
      · have := hFlt k hk
        rcases e with e | e | e | e | e
        · dsimp only at e; omega
        · dsimp only at e; omega
        · dsimp only at e; omega
        · dsimp only at e; omega
        · exact e.elim
    have hAll := Lib.hid (all_t hss.gs g)
    have HSS := Lib.hid hss
    have HM5 := Lib.hid (hm1.nw n5)
    have HW5 := Lib.hid hw5
    clear hsg n5 hw5 hFlt hss hg1 hm1
    go_upto_region 6 with fail
    rw [← HW5.out]
    clear HW5
    go_wp2_with fail
    (with_reducible refine (hAll.out).mono ?_)
    rintro _ w6 ⟨av, rfl, ho6, u6⟩
    rw [List.length_map] at ho6
    have hs6 := u6.size
    have H0 := Lib.hid (show OpI w db (w1.heap.size + 3) ⟨f, rs.map recE, false⟩ D' F rs w5 w5.heap.size av 0 w6 from ⟨⟨_, rfl, HSS.out.keep u6 (fun k hk => hk.imp id (fun e => ho6.lt k e))⟩, Nw.upd _ u6, ho6⟩)
    obtain ⟨aa, ac, rfl⟩ := own_slS ho6
    clear ho6 u6 hAll HSS
    go_wp2_with fail
    go_loopw [9, 30] (fun bv iv wr => ∃ i : Nat, i ≤ rs.length ∧ iv = .int .i64 (i : Int) ∧ bv = .string ⟨(recE (fold (rs.take i)).1).toArray⟩ ∧ Hid (OpI w db (w1.heap.size + 3) ⟨f, rs.map recE, false⟩ D' F rs w5 w5.heap.size (.slice aa rs.length ac) i wr)) (fun _ iv _ => rs.length - (intOf iv).toNat)
    case atStart => exact ⟨0, Nat.zero_le _, rfl, rfl, H0⟩
    case round =>
      obtain ⟨i, hi, rfl, rfl, hp⟩ := hrel
      have hcn : (i : Int) ≤ 400 := by have := HLn.out; omega
      have hln : (rs.length : Int) ≤ 400 := by have := HLn.out; omega
      obtain ⟨⟨x, ex, hss⟩, hup, hown⟩ := hp.out
      by_cases hlt : i < rs.length
      · rcases hown.2 with ⟨e, hn⟩ | ⟨gb, cap, cur, e, _⟩
        · omega
        cases e
        have hcell := hown.cells (g := gb) rfl i (.string ⟨(recE rs[i]).toArray⟩) (by rw [List.map_map, List.getElem?_map, List.getElem?_eq_getElem hlt]; rfl)
        rw [add_plain, Nat.zero_add] at hcell
        have htk : rs.take (i + 1) = rs.take i ++ [rs[i]] := List.take_succ_eq_append_getElem hlt
        have hfs := Sg.fold_snoc (rs.take i) rs[i]
        rw [← htk] at hfs
        have hga := Sg.gd_all (rs.take i) (Sg.gd_take HGd.out i)
        have hbg : Sg.big (Sg.of (rs.take i)) + 1 ≤ 1000 := by have := hga.2.2; rw [List.length_take] at this; have := HLn.out; omega
        have hsz : ∀ o, (fold (rs.take i)).1 = some o → (recE (some o)).length ≤ 20000 := fun o ho => by
          have := HSz.out _ (List.mem_of_mem_take (fold_mem _ _ rfl o ho))
          omega
        have hnext : Sg.of (rs.take (i + 1)) = Sg.of (rs.take i) → OpI w db (w1.heap.size + 3) ⟨f, rs.map recE, false⟩ D' F rs w5 w5.heap.size (.slice (some ⟨gb, 0, none⟩) rs.length ac) (i + 1) wr := fun e => ⟨⟨x, ex, by rw [e]; exact hss⟩, hup, hown⟩
        have HNext := Lib.hid hnext
        have HLt := Lib.hid hlt
        have HSs := Lib.hid hss
        have HUp := Lib.hid hup
        have HOwn := Lib.hid hown
        have HEx := Lib.hid ex
        have HHp := Lib.hid hga
        have HSzz := Lib.hid hsz
        clear hnext hss hup hown ex hga hsz hp
        generalize hri : rs[i] = r at *
        have hr99 := rec_eq r
        have hq99 := rec_eq (fold (rs.take i)).1
        cases r with
        | some o =>
          have hfs2 : (fold (rs.take (i + 1))).1 = some o ∧ Sg.of (rs.take (i + 1)) = Sg.of (rs.take i) := by
            unfold Sg.of
            rw [hfs]
            exact ⟨rfl, rfl⟩
          have HFs := Lib.hid (show recE (fold (rs.take (i + 1))).1 = recE (some o) by rw [hfs2.1])
          have HNx := Lib.hid (HNext.out hfs2.2)
          rw [Option.isNone_some] at hr99
          clear hfs hfs2 hq99 htk
          generalize hra : (⟨(recE (some o)).toArray⟩ : ByteArray) = ra at *
          have HRa := Lib.hid hra
          clear hra
          go_wp2_with fail
          go_roundw
          case rel => exact ⟨i + 1, HLt.out, by simp, by rw [HFs.out, HRa.out], HNx⟩
          case measure =>
            have := HLt.out
            simp only [intOf]
            omega
        | none =>
          rw [Option.isNone_none] at hr99
          generalize hra : (⟨(recE none).toArray⟩ : ByteArray) = ra at *
          have HRa := Lib.hid hra
          clear hra
          cases hqo : (fold (rs.take i)).1 with
          | none =>
            have hfs2 : (fold (rs.take (i + 1))).1 = none ∧ Sg.of (rs.take (i + 1)) = Sg.of (rs.take i) := by
              unfold Sg.of
              rw [hfs]
              unfold Sg.step
              rw [hqo]
              exact ⟨rfl, rfl⟩
            have HFs := Lib.hid (show recE (fold (rs.take (i + 1))).1 = recE none by rw [hfs2.1])
            have HNx := Lib.hid (HNext.out hfs2.2)
            rw [hqo, Option.isNone_none] at hq99
            clear hfs hfs2 htk hqo
            rw [HRa.out] at hq99 ⊢
            go_wp2_with fail
            go_roundw
            case rel => exact ⟨i + 1, HLt.out, by simp, by rw [HFs.out, HRa.out], HNx⟩
            case measure =>
              have := HLt.out
              simp only [intOf]
              omega
          | some o =>
            have hfs2 : (fold (rs.take (i + 1))).1 = none ∧ Sg.of (rs.take (i + 1)) = Sg.after (Sg.of (rs.take i)) o := by
              unfold Sg.of
              rw [hfs]
              unfold Sg.step
              rw [hqo]
              exact ⟨rfl, rfl⟩
            have HFs := Lib.hid (show recE (fold (rs.take (i + 1))).1 = recE none by rw [hfs2.1])
            have HOf := Lib.hid hfs2.2
            have hAp := apply_c (g.upd HSs.out.nw0) HSs.out.st (HHp.out.2.1 o hqo) hbg (HSzz.out o hqo)
            rw [hqo, Option.isNone_some] at hq99
            unfold bsV at hAp
            rw [HEx.out] at hAp
            have hAp' : Calls Tryz.prog 33 #[.pointer (some ⟨w1.heap.size + 3, 0, none⟩), .string ⟨(recE (some o)).toArray⟩] wr _ := hAp
            clear hfs hfs2 htk hqo hAp
            generalize (⟨(recE (some o)).toArray⟩ : ByteArray) = qa at *
            have HAp := Lib.hid hAp'
            clear hAp'
            go_wp2_with (go_at_call 33; with_reducible refine HAp.out.mono ?_; rintro _ w7 ⟨rfl, x2, f1, f2, hs7, u7, hf7⟩)
            obtain ⟨k1, k2⟩ := ss_apply HSs.out f2 hs7 u7 hf7
            have hown7 := owns_upd' HOwn.out u7 (fun k hk e => HSs.out.ap k (Or.inr hk) e)
            have HNx := Lib.hid (show OpI w db (w1.heap.size + 3) ⟨f, rs.map recE, false⟩ D' F rs w5 w5.heap.size (.slice (some ⟨gb, 0, none⟩) rs.length ac) (i + 1) w7 from ⟨⟨x2, (by first | exact f1 | (rw [f1]; exact HEx.out)), by rw [HOf.out]; exact k1⟩, HUp.out.trans (k2.mono (fun k _ e => ⟨fun f => e.1 (Or.inl f), e.2⟩)), hown7⟩)
            clear k1 k2 hown7 hs7 u7 hf7 f1 f2
            go_wp2_with fail
            go_roundw
            case rel => exact ⟨i + 1, HLt.out, by simp, by rw [HFs.out, HRa.out], HNx⟩
            case measure =>
              have := HLt.out
              simp only [intOf]
              omega
      · obtain rfl : i = rs.length := by omega
        have HSs := Lib.hid hss
        have HUp := Lib.hid hup
        have HEx := Lib.hid ex
        clear hss hup hown ex hp
        go_wp2_with fail
        go_ret2
        refine Or.inr ⟨H1.out, x, (by rw [HEx.out]; rfl), ?_, HM5.out.trans HUp.out⟩
        rw [← HD'.out]
        have := HSs.out.keep (Upd.refl _ _) (F' := F) (fun k hk => Or.inl (Or.inl hk))
        rwa [List.take_length] at this
end Go.Proofs.YtiednpagknnfnaaGreatDoor
namespace Go.Proofs.YtiednpagknnfnaaGreatDoor
open Go.RowKit
attribute [local irreducible] Calls CallsIn
theorem withN_zero (q : Dk.Disk × Jr.Jn × Sg.Sta × Int) : (Sg.withN 0 q).n = 0 := by
  show (if q.2.2.2 = 0 then (0 : Int) else 0) = 0
  split <;> rfl
theorem set_n (D : Dk.Disk) (j : Jr.Jn) (S : Sg.Sta) (p : Sg.Pf) : (Sg.set D j S p).n = 0 := by
  unfold Sg.set
  split
  · rfl
  · split
    · rfl
    · exact withN_zero _
theorem drop_n (D : Dk.Disk) (j : Jr.Jn) (S : Sg.Sta) (n : List UInt8) : (Sg.drop D j S n).n = 0 := by
  unfold Sg.drop
  split
  · rfl
  · exact withN_zero _
section
variable {w : World} {db : Nat} {x : SgR} {j : Jr.Jn} {S : Sg.Sta} {D : Dk.Disk} {F : Nat → Prop} {z : World}
set_option maxHeartbeats 4000000 in
set_option maxRecDepth 100000 in
theorem do_t (g : GmS w) (h : SS w db x j S D F z) {k n : Int} (hk : I64 k) {s : List UInt8} (hs : s.length ≤ 19000) {p : Sg.Pf} {v kv : Value} {lo hi : Nat} (hv : SlS 5 lo hi z v (p.its.map itC)) (hn : p.nm.length ≤ 1000000) (hl : p.its.length ≤ 1000) (hx : ∀ x ∈ p.its, ItArg x) (hb : Sg.big S + 1 ≤ 1000) :
    Calls Tryz.prog 11 #[.pointer (some ⟨x.sb, 0, none⟩), .agg #[.int .i64 k, .string ⟨s.toArray⟩, .int .i64 n, .string ⟨p.nm.toArray⟩, v, kv]] z fun e z' => e = .returned (.tuple #[.int .i64 (Sg.act D j S k s p).n, .int .i64 (Sg.act D j S k s p).e]) ∧ OpD w db x.sb (Sg.act D j S k s p) F z z' := by
  obtain ⟨va, vc, rfl, _, _⟩ := items_open hv
  have n1 := nw_alloc z (.cells #[.int .i64 k, .string ⟨s.toArray⟩, .int .i64 n, .string ⟨p.nm.toArray⟩, .slice va p.its.length vc, kv] 50)
  have H1 := h.nw n1
  have hPut := Lib.hid (put_t g.g H1 (t := s) hs hb)
  have hSet := Lib.hid (set_t g H1 (hv.nw n1) hn hl hx hb)
  have hDrop := Lib.hid (drop_t g.g H1 (n := s) hs hb)
  have hSw := Lib.hid (sweep_t g.g H1 hb)
  have HN := Lib.hid n1
  have hon : ∀ (r : Sg.Res) (z' : World), OpD w db x.sb r F (z.alloc (.cells #[.int .i64 k, .string ⟨s.toArray⟩, .int .i64 n, .string ⟨p.nm.toArray⟩, .slice va p.its.length vc, kv] 50)) z' → OpD w db x.sb r F z z' := fun _ _ ⟨x', e, h1, h2⟩ => ⟨x', e, h1, Nw.trans n1 h2⟩
  have HOn := Lib.hid hon
  clear h hv H1 n1 hon hb hn hl hs hx
  by_cases k0 : k = 0
  · subst k0
    have hE := Lib.hid (show Sg.act D j S 0 s p = Sg.put D j S s by unfold Sg.act; rw [if_pos rfl])
    rw [hE.out]
    clear hSet hDrop hSw hE
    go_enter Tryz.func11, Tryz.ntmps11
    go_wp2_with (go_at_call 25; with_reducible refine hPut.out.mono ?_; rintro _ w2 ⟨rfl, hD⟩)
    go_ret2
    exact ⟨rfl, HOn.out _ _ hD⟩
  have b0 : (k == 0) = false := by simp [k0]
  by_cases k1 : k = 1
  · subst k1
    have hE := Lib.hid (show Sg.act D j S 1 s p = Sg.set D j S p by unfold Sg.act; rw [if_neg (by decide), if_pos rfl])
    have hE2 := Lib.hid (set_n D j S p)
    rw [hE.out]
    clear hPut hDrop hSw hE
    go_enter Tryz.func11, Tryz.ntmps11
    go_wp2_with (go_at_call 26; with_reducible refine hSet.out.mono ?_; rintro _ w2 ⟨rfl, hD⟩)
    go_ret2
    rw [hE2.out]
    exact ⟨rfl, HOn.out _ _ hD⟩
  have b1 : (k == 1) = false := by simp [k1]
  by_cases k2 : k = 2
  · subst k2
    have hE := Lib.hid (show Sg.act D j S 2 s p = Sg.drop D j S s by unfold Sg.act; rw [if_neg (by decide), if_neg (by decide), if_pos rfl])
    have hE2 := Lib.hid (drop_n D j S s)
    rw [hE.out]
    clear hPut hSet hSw hE
    go_enter Tryz.func11, Tryz.ntmps11
    go_wp2_with (go_at_call 41; with_reducible refine hDrop.out.mono ?_; rintro _ w2 ⟨rfl, hD⟩)
    go_ret2
    rw [hE2.out]
    exact ⟨rfl, HOn.out _ _ hD⟩
  have b2 : (k == 2) = false := by simp [k2]
  have hE := Lib.hid (show Sg.act D j S k s p = Sg.sweep D j S by unfold Sg.act; rw [if_neg k0, if_neg k1, if_neg k2])
  rw [hE.out]
  clear hPut hSet hDrop hE k0 k1 k2
  go_enter Tryz.func11, Tryz.ntmps11
  go_wp2_with (go_at_call 28; with_reducible refine hSw.out.mono ?_; rintro _ w2 ⟨rfl, hD⟩)
  go_ret2
  exact ⟨rfl, HOn.out _ _ hD⟩
end
end Go.Proofs.YtiednpagknnfnaaGreatDoor
namespace Go.Proofs.YtiednpagknnfnaaGreatDoor
open Go.ChangeShapes Go.WideShapes Go.ChangeAt Go.RowKit Go.Joins
attribute [local irreducible] Calls
structure GOp where
  kind : Int
  s : List UInt8
  n : Int
  p : Sg.Pf
  keep : List Int
abbrev GC := (Value × Value) × GOp
def gopL (c : GC) : List Value := [.int .i64 c.2.kind, .string ⟨c.2.s.toArray⟩, .int .i64 c.2.n, .string ⟨c.2.p.nm.toArray⟩, c.1.1, c.1.2]
def ItQ (x : Sg.It) : Prop := x.nm.length ≤ maxLen ∧ I64 x.a ∧ I64 x.b ∧ I64 x.c ∧ I64 x.pr
def GcQ (hi : Nat) (w : World) (c : GC) : Prop := SlS 5 0 hi w c.1.1 (c.2.p.its.map itC) ∧ (∀ x ∈ c.2.p.its, ItQ x) ∧ Sl 0 hi w c.1.2 (c.2.keep.map intD) ∧ I64 c.2.kind ∧ I64 c.2.n ∧ ∀ k ∈ c.2.keep, I64 k
structure GopS (hi : Nat) (w : World) (v : Value) (C : List GC) : Prop where
  sl : SlS 6 0 hi w v (C.map gopL)
  each : ∀ c ∈ C, GcQ hi w c
theorem list_of_relG {α : Type} {f : α → List Value} {Q : α → Prop} : ∀ (xs : List (List Value)), (∀ c ∈ xs, ∃ y, c = f y ∧ Q y) → ∃ l : List α, xs = l.map f ∧ ∀ y ∈ l, Q y := by
  intro xs
  induction xs with
  | nil => exact fun _ => ⟨[], rfl, fun y hy => by cases hy⟩
  | cons c xs ih =>
    intro h
    obtain ⟨l, h1, h2⟩ := ih (fun c hc => h c (List.mem_cons_of_mem _ hc))
    obtain ⟨y, h3, h4⟩ := h c (List.mem_cons_self ..)
    exact ⟨y :: l, by rw [h1, h3]; rfl, fun z hz => by rcases List.mem_cons.1 hz with rfl | hz; exact h4; exact h2 z hz⟩
section
variable {H : Type} {enc : TypeId × Value → H} {w : World} {base : Nat} {sp : Nat → Bool} {held : Bool} {n : Nat} {x : DataW H × List MemPlace}
set_option maxRecDepth 100000 in
theorem trod_placed {cs : List Value} (h : DataW.trod enc Tryz.prog w base sp held n 70 cs = some x) : ∃ y : Sg.It, cs = itC y ∧ ItQ y := by
  obtain ⟨xs, m, _, rfl, hl, hlen, hf⟩ := DataW.trod_struct Tryz.underlying70 h
  have hc : Tryz.prog.cellsOf 70 = 5 := by kernel_rfl
  rw [hc] at hl
  match cs, hl with
  | [c0, c1, c2, c3, c4], _ =>
    match xs, hlen with
    | [y0, y1, y2], _ =>
      have k0 : DataW.trod enc Tryz.prog w base sp held m 9 [c0] = some y0 := hf 0 _ rfl
      have k1 : DataW.trod enc Tryz.prog w base sp held m 68 [c1, c2, c3] = some y1 := hf 1 _ rfl
      have k2 : DataW.trod enc Tryz.prog w base sp held m 3 [c4] = some y2 := hf 2 _ rfl
      obtain ⟨z0, e0, w0⟩ := trod_str_cell Tryz.underlying9 k0
      obtain ⟨z4, e4, w4⟩ := trod_int_cell Tryz.underlying3 k2
      obtain ⟨vs, m2, _, _, _, hlen2, hf2⟩ := DataW.trod_struct Tryz.underlying68 k1
      match vs, hlen2 with
      | [u0, u1, u2], _ =>
        have q0 : DataW.trod enc Tryz.prog w base sp held m2 3 [c1] = some u0 := hf2 0 _ rfl
        have q1 : DataW.trod enc Tryz.prog w base sp held m2 3 [c2] = some u1 := hf2 1 _ rfl
        have q2 : DataW.trod enc Tryz.prog w base sp held m2 3 [c3] = some u2 := hf2 2 _ rfl
        obtain ⟨z1, e1, w1⟩ := trod_int_cell Tryz.underlying3 q0
        obtain ⟨z2, e2, w2⟩ := trod_int_cell Tryz.underlying3 q1
        obtain ⟨z3, e3, w3⟩ := trod_int_cell Tryz.underlying3 q2
        simp only [List.cons.injEq, and_true] at e0 e1 e2 e3 e4
        subst e0 e1 e2 e3 e4
        exact ⟨⟨z0, z1, z2, z3, z4⟩, rfl, w0, i64_of_wf w1, i64_of_wf w2, i64_of_wf w3, i64_of_wf w4⟩
set_option maxRecDepth 100000 in
theorem trod_profile {c0 c1 : Value} (h : DataW.trod enc Tryz.prog w base sp held n 47 [c0, c1] = some x) : ∃ p : Sg.Pf, c0 = .string ⟨p.nm.toArray⟩ ∧ SlS 5 0 w.heap.size w c1 (p.its.map itC) ∧ ∀ x ∈ p.its, ItQ x := by
  obtain ⟨xs, m, _, rfl, hl, hlen, hf⟩ := DataW.trod_struct Tryz.underlying47 h
  match xs, hlen with
  | [y0, y1], _ =>
    have k0 : DataW.trod enc Tryz.prog w base sp held m 9 [c0] = some y0 := hf 0 _ rfl
    have k1 : DataW.trod enc Tryz.prog w base sp held m 45 [c1] = some y1 := hf 1 _ rfl
    obtain ⟨z0, e0, w0⟩ := trod_str_cell Tryz.underlying9 k0
    obtain ⟨v, ys, h1, h2, h3⟩ := trod_slice_cells Tryz.underlying45 (sz := 5) (by kernel_rfl) (by omega) k1
    obtain ⟨C, rfl, h5⟩ := list_of_relG (f := itC) (Q := ItQ) ys (fun c hc => by
      obtain ⟨m, y, hy⟩ := h3 c hc
      exact trod_placed hy)
    simp only [List.cons.injEq, and_true] at e0 h1
    subst e0 h1
    exact ⟨⟨z0, C⟩, rfl, h2, h5⟩
set_option maxRecDepth 100000 in
theorem trod_gop {cs : List Value} (h : DataW.trod enc Tryz.prog w base sp held n 50 cs = some x) : ∃ c : GC, cs = gopL c ∧ GcQ w.heap.size w c := by
  obtain ⟨xs, m, _, rfl, hl, hlen, hf⟩ := DataW.trod_struct Tryz.underlying50 h
  have hc : Tryz.prog.cellsOf 50 = 6 := by kernel_rfl
  rw [hc] at hl
  match cs, hl with
  | [c0, c1, c2, c3, c4, c5], _ =>
    match xs, hlen with
    | [y0, y1, y2, y3, y4], _ =>
      have k0 : DataW.trod enc Tryz.prog w base sp held m 3 [c0] = some y0 := hf 0 _ rfl
      have k1 : DataW.trod enc Tryz.prog w base sp held m 9 [c1] = some y1 := hf 1 _ rfl
      have k2 : DataW.trod enc Tryz.prog w base sp held m 3 [c2] = some y2 := hf 2 _ rfl
      have k3 : DataW.trod enc Tryz.prog w base sp held m 47 [c3, c4] = some y3 := hf 3 _ rfl
      have k4 : DataW.trod enc Tryz.prog w base sp held m 48 [c5] = some y4 := hf 4 _ rfl
      obtain ⟨z0, e0, w0⟩ := trod_int_cell Tryz.underlying3 k0
      obtain ⟨z1, e1, w1⟩ := trod_str_cell Tryz.underlying9 k1
      obtain ⟨z2, e2, w2⟩ := trod_int_cell Tryz.underlying3 k2
      obtain ⟨p, e3, h3, h4⟩ := trod_profile k3
      obtain ⟨z3, l3, e5, w3, u3⟩ := trod_ints_cell Tryz.underlying48 Tryz.underlying3 (by kernel_rfl) k4
      simp only [List.cons.injEq, and_true] at e0 e1 e2 e5
      subst e0 e1 e2 e3 e5
      exact ⟨((c4, c5), ⟨z0, z1, z2, p, l3⟩), rfl, h3, h4, w3, i64_of_wf w0, i64_of_wf w2, fun k hk => i64_of_wf (u3 k hk)⟩
set_option maxRecDepth 100000 in
theorem trod_gops {cs : List Value} (h : DataW.trod enc Tryz.prog w base sp held n 22 cs = some x) : ∃ (v : Value) (C : List GC), cs = [v] ∧ GopS w.heap.size w v C ∧ True := by
  obtain ⟨v, xs, h1, h2, h3⟩ := trod_slice_cells Tryz.underlying22 (sz := 6) (by kernel_rfl) (by omega) h
  obtain ⟨C, rfl, h5⟩ := list_of_relG (f := gopL) (Q := GcQ w.heap.size w) xs (fun c hc => by
    obtain ⟨m, y, hy⟩ := h3 c hc
    exact trod_gop hy)
  exact ⟨v, C, h1, ⟨h2, h5⟩, trivial⟩
end
theorem gop_cells {hi : Nat} {w : World} {v : Value} {C : List GC} (h : GopS hi w v C) :
    ∃ a cap, v = .slice a C.length cap ∧ C.length ≤ maxLen ∧ (C.length = 0 ∨ ∃ b off, a = some ⟨b, off, none⟩ ∧ b < hi ∧ b < w.heap.size ∧ ∀ i (h : i < C.length),
      w.cell? ⟨b, off + i * 6, none⟩ = some (.int .i64 C[i].2.kind) ∧ w.cell? ⟨b, off + i * 6 + 1, none⟩ = some (.string ⟨C[i].2.s.toArray⟩) ∧ w.cell? ⟨b, off + i * 6 + 2, none⟩ = some (.int .i64 C[i].2.n) ∧ w.cell? ⟨b, off + i * 6 + 3, none⟩ = some (.string ⟨C[i].2.p.nm.toArray⟩) ∧ w.cell? ⟨b, off + i * 6 + 4, none⟩ = some C[i].1.1 ∧ w.cell? ⟨b, off + i * 6 + 5, none⟩ = some C[i].1.2) := by
  obtain ⟨a, cap, rfl, hm, h⟩ := h.sl.open_
  rw [List.length_map] at hm
  refine ⟨a, cap, by rw [List.length_map], hm, ?_⟩
  rcases h with h | ⟨b, off, rfl, _, hb1, hb, hc⟩
  · exact Or.inl (by rw [List.map_eq_nil_iff.1 h]; rfl)
  · refine Or.inr ⟨b, off, rfl, hb1, hb, fun i hi => ?_⟩
    have h2 := (hc i (by simpa using hi)).2
    simp only [List.getElem_map] at h2
    exact ⟨h2 0 (by omega), h2 1 (by omega), h2 2 (by omega), h2 3 (by omega), h2 4 (by omega), h2 5 (by omega)⟩
theorem GopS.nw {hi : Nat} {w w' : World} {v : Value} {C : List GC} (h : GopS hi w v C) (u : Nw w w') : GopS hi w' v C := ⟨h.sl.nw u, fun c hc => by
  obtain ⟨h1, h2, h3, h4⟩ := h.each c hc
  exact ⟨h1.nw u, h2, h3.nw u, h4⟩⟩
def fewOp (c : GC) : Bool := decide (c.2.s.length ≤ 300) && (decide (c.2.p.its.length ≤ 6) && (decide (c.2.keep.length ≤ 40) && (decide (c.2.p.nm.length ≤ 60) && c.2.p.its.all fun x => decide (x.nm.length ≤ 60))))
def fewSB (C : List GC) : Bool := ((C.take 17).all fewOp) && decide (C.length ≤ 16)
end Go.Proofs.YtiednpagknnfnaaGreatDoor
