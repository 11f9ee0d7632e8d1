/- The reference's After: a profile is set. -/
import Derived.Test.YtiednpagknnfnaaGreatDoorPkST7
set_option linter.unusedVariables false
set_option linter.unusedSimpArgs false
namespace Go.Proofs.YtiednpagknnfnaaGreatDoor
open Go.RowKit
open Sg (opE pfE)
attribute [local irreducible] Calls CallsIn
theorem ins_at {l : List Sg.Pf} {p : Sg.Pf} : ∀ {i : Nat}, i ≤ l.length → (∀ j (hj : j < l.length), j < i → Fm.lt l[j].nm p.nm = true) → (∀ (h : i < l.length), Fm.lt l[i].nm p.nm = false) → Sg.ins l p = l.take i ++ p :: l.drop i := by
  induction l with
  | nil => intro i hi _ _; obtain rfl : i = 0 := by simpa using hi
           rfl
  | cons a l ih =>
    intro i hi h1 h2
    cases i with
    | zero =>
      have := h2 (by simp)
      simp only [List.getElem_cons_zero] at this
      simp [Sg.ins, List.takeWhile_cons, List.dropWhile_cons, this]
    | succ i =>
      have h0 := h1 0 (by simp) (by omega)
      simp only [List.getElem_cons_zero] at h0
      have := ih (i := i) (by simpa using hi) (fun j hj hji => h1 (j + 1) (by simpa using hj) (by omega)) (fun h => h2 (by simpa using h))
      have e : Sg.ins (a :: l) p = a :: Sg.ins l p := by simp [Sg.ins, List.takeWhile_cons, List.dropWhile_cons, h0]
      rw [e, this]; rfl
theorem slice_tailP (z : World) (a : Option Addr) (n c i : Nat) (hi : i ≤ n) : (Instr.slice 40 (.slice a n c) (some (.int .i64 (i : Int))) none none).run Tryz.prog z = .ok (.slice (if c = i then a else a.map (·.add (i * 2))) (n - i) (c - i)) z := by
  have ht : Tryz.prog.underlying 40 = some (.slice (Tryz.prog.elem 40)) := by kernel_rfl
  have hs : (sizeOf (Tryz.prog.elem 40)).run Tryz.prog z = .ok 2 z := by kernel_rfl
  rw [run_slice_l z 40 a n c ht .i64 (i : Int) (by omega) (by omega), hs]
  rfl
theorem step_catS {P : Program} {w : World} {ops : Array Oper} {o : Oper} {a : Act} {K : Act → World → Prop} {Q : Exit → Act → World → Prop} {E : Prop} (hgd : o.guard = none) (s x : Operand) (t : TypeId)
    (ho : o.op = .call { callee := .builtin .append, args := #[s, x], argTypes := #[t, t] })
    (e : TypeId) (z : Value) (size bytes : Nat) (ht : P.underlying t = some (.slice e)) (hinfo : (P.info? e).map (fun i => (i.zero, i.size, i.bytes)) = some (some z, size, bytes)) (hzs : z.cells.size = size) (hsz : 0 < size)
    (B : Nat) (hB : B ≤ w.heap.size) (hg : nG ≤ B) (v : Value) (n : Nat) (xs : List Value) (hs : a.eval s = v) (hown : w.ownsRow B e size v n xs)
    (xa : Option Addr) (m xc : Nat) (news : List Value) (hx : a.eval x = .slice xa m xc) (hl : news.length = m * size) (hnews : 0 < m → ∃ ad, xa = some ad ∧ ∀ j u, news[j]? = some u → w.cell? (ad.add j) = some u) (h1 : ∀ u ∈ news, u.oneCell' = true)
    (h63 : n + m ≤ maxLen) (hbytes : (n + m) * bytes ≤ 140737488355328)
    (h : ∀ v' w', w'.ownsRow B e size v' (n + m) (xs ++ news) → Upd (fun k => v.ownBlock = some k) w w' → (∀ k, v'.ownBlock = some k → v.ownBlock = some k ∨ w.heap.size ≤ k) → K (a.put o.dst v') w') :
    if Region.wanted o (yielded ops a.tmps) = true then Oper.wp P o a w K Q else E := by
  rcases Nat.eq_zero_or_pos m with rfl | hm
  · obtain ⟨i0, hi0, hz0, hz1, hz2⟩ := info_parts hinfo
    have hnil : news = [] := List.eq_nil_of_length_eq_zero (by simpa using hl)
    subst hnil
    have hw : Region.wanted o (yielded ops a.tmps) = true := by simp [Region.wanted, hgd]
    rw [if_pos hw]
    have hr : (Builtin.append_ #[t, t] o.type #[v, .slice xa 0 xc]).run P w = .ok v w := by
      rcases hown.2 with ⟨rfl, rfl⟩ | ⟨g, cap, cur, rfl, _, _, hnc, _⟩
      · cases xa <;> simp [Builtin.append_, run_underlying ht, sizeOf, typeInfo, hi0, Builtin.lenOf, Builtin.firstCells, loadCells, loadCellsFrom]
      · cases xa <;> simp [Builtin.append_, run_underlying ht, sizeOf, typeInfo, hi0, Builtin.lenOf, Builtin.firstCells, hnc, storeCells, loadCells, loadCellsFrom]
    exact Lib.wp_append_run w s x t t ho _ _ hs hx _ _ hr (h v w (by simpa using hown) (Upd.refl _ _) (fun k hk => Or.inl hk))
  · obtain ⟨ad, rfl, hc⟩ := hnews hm
    exact step_catC hgd s x t ho e z size bytes ht hinfo hzs hsz B hB hg v n xs hs hown ad m xc news hx hl hc h1 hm h63 hbytes
      (fun g' cap' w' k1 k2 k3 => h _ w' k1 k2 (fun k hk => by
        have e : g' = k := Option.some.inj hk
        rw [← e]; exact k3))
structure SeI (C1 : List (Sg.Pf × Value)) (nm : List UInt8) (w7 : World) (q5 : Nat) (tv hv : Value) (i : Nat) (wr : World) : Prop where
  blk : ∃ pv, wr.heap[q5]? = some (.cells #[tv, hv, pv] tSta (0, 0)) ∧ wr.ownsRow w7.heap.size tPf 2 pv i (pfL (C1.take i))
  upd : Upd (fun k => k = q5) w7 wr
  lt : ∀ j (hj : j < C1.length), j < i → Fm.lt C1[j].1.nm nm = true
section
variable {B : Nat} {P : Nat → Prop} {z : World} {v : SvR} {S : Sg.Sta}
set_option maxHeartbeats 8000000 in
set_option maxRecDepth 100000 in
theorem rAfter_set (hgB : nG ≤ B) (hBz : B ≤ z.heap.size) (g : Gl z) (h : SvAt B P z v S) {p : Sg.Pf} (had : Sg.adm S (.set p)) (hbig : Sg.big S + 1 ≤ 1000) (hits : ∀ x ∈ p.its, ItOk x) :
    Calls Tryz.prog 66 #[v.val, .string ⟨(115 :: pfE p).toArray⟩] z (AfD B P z (Sg.after S (.set p))) := by
  have hgb : nG ≤ z.heap.size := by omega
  obtain ⟨rl1, rl2, rl3⟩ := right_len had.1
  have hbt := hbig
  have hhead := op_head 115 (pfE p)
  have hsome := op_some 115 (pfE p)
  have HRs := Lib.hid (fun y (u : Nw z y) => readSet_c (g.upd u) (p := p) (by omega) rl2 hits)
  generalize (⟨(115 :: pfE p).toArray⟩ : ByteArray) = op at *
  obtain ⟨l1, l2, l3, l4⟩ := h.len
  obtain ⟨C, eC, hpo, hit⟩ := h.p
  obtain ⟨tv, hv, pv⟩ := v
  obtain ⟨ta, tc, et⟩ := own_slS h.t
  obtain ⟨ha, hc, eh⟩ := own_slS h.h
  obtain ⟨pa, pc, ep⟩ := own_slS hpo
  dsimp only at et eh ep
  subst et eh ep
  have hlC : C.length = S.pf.length := by rw [eC, List.length_map]
  have n1 := nw_alloc z (.cells #[.slice ta S.tx.length tc, .slice ha S.th.length hc, .slice pa C.length pc] tSta)
  have b1 := heap_new z (.cells #[.slice ta S.tx.length tc, .slice ha S.th.length hc, .slice pa C.length pc] tSta)
  have n2 := nw_alloc (z.alloc (.cells #[.slice ta S.tx.length tc, .slice ha S.th.length hc, .slice pa C.length pc] tSta)) (.cells #[.slice none 0 0, .slice none 0 0, .slice none 0 0] tSta)
  have b2 := heap_new (z.alloc (.cells #[.slice ta S.tx.length tc, .slice ha S.th.length hc, .slice pa C.length pc] tSta)) (.cells #[.slice none 0 0, .slice none 0 0, .slice none 0 0] tSta)
  obtain ⟨w1, hw1⟩ : ∃ y, y = (z.alloc (.cells #[.slice ta S.tx.length tc, .slice ha S.th.length hc, .slice pa C.length pc] tSta)).alloc (.cells #[.slice none 0 0, .slice none 0 0, .slice none 0 0] tSta) := ⟨_, rfl⟩
  have b1' := Nw.keep n2 b1
  have n12 := n1.trans n2
  rw [World.size_alloc] at b2
  rw [← hw1] at n12 b1' b2
  have hs1 : w1.heap.size = z.heap.size + 2 := by rw [hw1, World.size_alloc, World.size_alloc]
  have HCo := Lib.hid (rCopied_c (v := ⟨.slice ta S.tx.length tc, .slice ha S.th.length hc, .slice pa C.length pc⟩) (by omega) (by omega) (h.nw n12))
  have c0 : w1.cell? ⟨z.heap.size, 0, none⟩ = some (.slice ta S.tx.length tc) := by rw [cells_cell b1']; rfl
  have c1 : w1.cell? ⟨z.heap.size, 1, none⟩ = some (.slice ha S.th.length hc) := by rw [cells_cell b1']; rfl
  have c2 : w1.cell? ⟨z.heap.size, 2, none⟩ = some (.slice pa C.length pc) := by rw [cells_cell b1']; rfl
  have HW1 := Lib.hid hw1
  have HN1 := Lib.hid n12
  have HB1 := Lib.hid b1'
  have HB2 := Lib.hid b2
  have H := Lib.hid h
  have HE := Lib.hid eC
  have HPo := Lib.hid hpo
  have HIt := Lib.hid hit
  have hl1 : (C.length : Int) ≤ 1000 := by omega
  clear h n1 b1 n2 b2 b1' n12 hw1 hit hpo eC hlC l4
  unfold SvR.val at *
  go_enter Tryz.func66, Tryz.ntmps66
  go_upto_region 1 with fail
  rw [← HW1.out]
  clear HW1
  go_wp2_with fail
  (with_reducible refine (HCo.out).mono ?_)
  rintro _ w3 ⟨⟨tv', hv', pv'⟩, rfl, hs3, hb3, u3⟩
  obtain ⟨C3, eC3, hpo3, hit3⟩ := hs3.p
  obtain ⟨ta', tc', et⟩ := own_slS hs3.t
  obtain ⟨ha', hc', eh⟩ := own_slS hs3.h
  obtain ⟨pa', pc', ep⟩ := own_slS hpo3
  dsimp only at et eh ep
  subst et eh ep
  have n5 := nw_alloc w3 (.cells #[.slice ta' S.tx.length tc', .slice ha' S.th.length hc', .slice pa' C3.length pc'] tSta)
  have b5 := heap_new w3 (.cells #[.slice ta' S.tx.length tc', .slice ha' S.th.length hc', .slice pa' C3.length pc'] tSta)
  have HS3 := Lib.hid hs3
  have HBk := Lib.hid hb3
  have HU3 := Lib.hid u3
  have hz3 := u3.size
  clear hs3 hb3 u3 hpo3 hit3 HCo c0 c1 c2
  obtain ⟨w4, hw4⟩ : ∃ y, y = w3.alloc (.cells #[.slice ta' S.tx.length tc', .slice ha' S.th.length hc', .slice pa' C3.length pc'] tSta) := ⟨_, rfl⟩
  rw [← hw4] at n5 b5
  have hz4 : w4.heap.size = w3.heap.size + 1 := by rw [hw4, World.size_alloc]
  generalize hq5 : w3.heap.size = q5 at *
  have HB5 := Lib.hid b5
  have HN5 := Lib.hid n5
  have HW4 := Lib.hid hw4
  clear hw4 b5 n5
  go_upto_region 9 with fail
  rw [← HW4.out]
  clear HW4
  have HRs4 := Lib.hid (HRs.out w4 (HN1.out.trans (HU3.out.trans HN5.out)))
  clear HRs
  go_wp2_with fail
  (with_reducible refine (HRs4.out).mono ?_)
  rintro _ w5 ⟨iv, rfl, hiv, u5⟩
  obtain ⟨iva, ivc, rfl⟩ := own_slS hiv.1
  have n6 := nw_alloc w5 (.cells #[.string ⟨p.nm.toArray⟩, .slice iva p.its.length ivc] tPf)
  have b6 := heap_new w5 (.cells #[.string ⟨p.nm.toArray⟩, .slice iva p.its.length ivc] tPf)
  obtain ⟨w6, hw6⟩ : ∃ y, y = w5.alloc (.cells #[.string ⟨p.nm.toArray⟩, .slice iva p.its.length ivc] tPf) := ⟨_, rfl⟩
  rw [← hw6] at n6 b6
  have hz5 := u5.size
  have hz6 : w6.heap.size = w5.heap.size + 1 := by rw [hw6, World.size_alloc]
  generalize hq6 : w5.heap.size = q6 at *
  have HW6 := Lib.hid hw6
  have HB6 := Lib.hid b6
  have HIv := Lib.hid (hiv.upd n6 (fun _ _ e => e))
  have HIvb := Lib.hid hiv.2
  have HN16 := Lib.hid (HU3.out.trans (HN5.out.trans (u5.trans n6)))
  have HB56 := Lib.hid (Nw.keep (u5.trans n6) HB5.out)
  clear hw6 b6 n6 u5 hiv HRs4
  have HWo := Lib.hid (rWithout_c (v := ⟨.slice ta S.tx.length tc, .slice ha S.th.length hc, .slice pa C.length pc⟩) (by omega) (by omega) (H.out.nw (HN1.out.trans HN16.out)) p.nm)
  unfold SvR.val at HWo
  have hb1 := Nw.keep HN16.out HB1.out
  have c0 : w6.cell? ⟨z.heap.size, 0, none⟩ = some (.slice ta S.tx.length tc) := by rw [cells_cell hb1]; rfl
  have c1 : w6.cell? ⟨z.heap.size, 1, none⟩ = some (.slice ha S.th.length hc) := by rw [cells_cell hb1]; rfl
  have c2 : w6.cell? ⟨z.heap.size, 2, none⟩ = some (.slice pa C.length pc) := by rw [cells_cell hb1]; rfl
  have c3 : w6.cell? ⟨q6, 0, none⟩ = some (.string ⟨p.nm.toArray⟩) := by rw [cells_cell HB6.out]; rfl
  clear hb1
  go_upto_region 10 with fail
  rw [← HW6.out]
  clear HW6
  go_wp2_with fail
  (with_reducible refine (HWo.out).mono ?_)
  rintro _ w7 ⟨⟨tv7, hv7, pv7⟩, rfl, hs7, hb7, u7⟩
  obtain ⟨C7, eC7, hpo7, hit7⟩ := hs7.p
  obtain ⟨ta7, tc7, et⟩ : ∃ a c, tv7 = .slice a S.tx.length c := own_slS hs7.t
  obtain ⟨ha7, hc7, eh⟩ : ∃ a c, hv7 = .slice a S.th.length c := own_slS hs7.h
  obtain ⟨pa7, pc7, ep⟩ : ∃ a c, pv7 = .slice a C7.length c := own_slS hpo7
  subst et eh ep
  have hz7 := u7.size
  have hbq := Nw.keep u7 HB56.out
  have x0 : w7.cell? ⟨q5, 0, none⟩ = some (.slice ta' S.tx.length tc') := by rw [cells_cell hbq]; rfl
  have x1 : w7.cell? ⟨q5, 1, none⟩ = some (.slice ha' S.th.length hc') := by rw [cells_cell hbq]; rfl
  have x2 : w7.cell? ⟨q5, 2, none⟩ = some (.slice pa' C3.length pc') := by rw [cells_cell hbq]; rfl
  have f0 := cells_frozen hbq 0
  have f1 := cells_frozen hbq 1
  have f2 := cells_frozen hbq 2
  have b8 := setCell_block (setCell_block (setCell_block (setCell_block hbq 0 (.slice ta7 S.tx.length tc7)) 1 (.slice ha7 S.th.length hc7)) 2 (.slice pa7 C7.length pc7)) 2 (.slice none 0 0)
  have u8 := Upd.set1 (Upd.set1 (Upd.set1 (Upd.set1 (Upd.refl _ w7) (b := q5) (by omega) 0 (.slice ta7 S.tx.length tc7)) (b := q5) (by omega) 1 (.slice ha7 S.th.length hc7)) (b := q5) (by omega) 2 (.slice pa7 C7.length pc7)) (b := q5) (by omega) 2 (.slice none 0 0)
  go_upto_region 13 with fail
  obtain ⟨w8, hw8⟩ : ∃ y, y = (((w7.setCell ⟨q5, 0, none⟩ (.slice ta7 S.tx.length tc7)).setCell ⟨q5, 1, none⟩ (.slice ha7 S.th.length hc7)).setCell ⟨q5, 2, none⟩ (.slice pa7 C7.length pc7)).setCell ⟨q5, 2, none⟩ (.slice none 0 0) := ⟨_, rfl⟩
  rw [← hw8] at b8 u8 ⊢
  have hz8 := u8.size
  have hs8 := sv_oth hs7 u8 (oth_blk hbq (by decide))
  have HS8 := Lib.hid hs8
  have HBt := Lib.hid (show ∀ k, (Value.slice ta7 S.tx.length tc7).ownBlock = some k → z.heap.size + 2 ≤ k ∧ k ≠ q5 from fun k hk => by have := hb7 k (Or.inl hk); omega)
  have HBh := Lib.hid (show ∀ k, (Value.slice ha7 S.th.length hc7).ownBlock = some k → z.heap.size + 2 ≤ k ∧ k ≠ q5 from fun k hk => by have := hb7 k (Or.inr (Or.inl hk)); omega)
  have HP8 := Lib.hid (row_oth (Ts := [tPf]) hpo7 u8 (oth_blk hbq (by decide)) (by decide))
  have HE7 := Lib.hid eC7
  have HT7 := Lib.hid (fun q hq => (⟨row_oth (Ts := [tPl]) (hit7 q hq).1 u8 (oth_blk hbq (by decide)) (by decide), (hit7 q hq).2⟩ : ItsAt B _ w8 q.2 q.1.its))
  have HN18 := Lib.hid (Nw.upd' (HN16.out.trans u7) u8 (fun k hk => by omega))
  have HN68 := Lib.hid (show Upd (fun k => k = q5) w6 w8 from (Nw.upd _ u7).trans u8)
  have HB68 := Lib.hid (HN68.out.keep HB6.out (show ¬ q6 = q5 by omega))
  have hC7 : C7.length ≤ 1000 := by
    have h1 := H.out.big
    have h2 := List.length_filter_le (fun q : Sg.Pf => !decide (q.nm = p.nm)) S.pf
    have e : (Sg.without S.pf p.nm).length = C7.length := by
      have := congrArg List.length eC7
      rw [List.length_map] at this
      exact this
    unfold Sg.without at e
    unfold Sg.big at h1
    omega
  have hC7i : (C7.length : Int) ≤ 1000 := by omega
  have HI0 := Lib.hid (show SeI C7 p.nm w8 q5 (.slice ta7 S.tx.length tc7) (.slice ha7 S.th.length hc7) 0 w8 from ⟨⟨_, b8, World.ownsRow_nil _ _ _ _⟩, Upd.refl _ _, fun j hj h => by omega⟩)
  clear hw8 b8 u8 hbq x0 x1 x2 f0 f1 f2 hs7 hs8 hpo7 hit7 eC7 u7 hb7 HWo c0 c1 c2 c3
  go_wp2_with fail
  go_loopw [8] (fun iv wr => ∃ i : Nat, i ≤ C7.length ∧ iv = .int .i64 (i : Int) ∧ Hid (SeI C7 p.nm w8 q5 (.slice ta7 S.tx.length tc7) (.slice ha7 S.th.length hc7) i wr)) (fun iv _ => C7.length - (intOf iv).toNat)
  case atStart => exact ⟨0, Nat.zero_le _, rfl, HI0⟩
  case round =>
    obtain ⟨i, hi, rfl, hI⟩ := hrel
    obtain ⟨⟨pvi, hblk, hrow⟩, hup, hlts⟩ := hI.out
    obtain ⟨pai, pci, rfl⟩ := own_slS hrow
    have hzr := hup.size
    have HUp := Lib.hid hup
    have HBlk := Lib.hid hblk
    have HRow := Lib.hid hrow
    have HLts := Lib.hid hlts
    have HB6r := Lib.hid (hup.keep HB68.out (show ¬ q6 = q5 by omega))
    have l6 : ∀ j : Later wr, j.1.cell? ⟨q6, 0, none⟩ = some (.string ⟨p.nm.toArray⟩) := fun j => by rw [cells_cell (Nw.keep j.nw HB6r.out)]; rfl
    have HP8r := Lib.hid (row_oth (Ts := [tPf]) HP8.out hup (by
      obtain ⟨pv0, hb0, _⟩ := HI0.out.blk
      exact oth_blk hb0 (by decide)) (by decide))
    clear hI hblk hrow hlts
    by_cases hlt : i < C7.length ∧ Fm.lt (C7.getD i (⟨[], []⟩, .bool true)).1.nm p.nm = true
    · obtain ⟨hlt, hl⟩ := hlt
      have hgd : C7.getD i (⟨[], []⟩, .bool true) = C7[i] := by rw [List.getD_eq_getElem?_getD, List.getElem?_eq_getElem hlt]; rfl
      rw [hgd] at hl
      have hpo := HP8r.out
      rcases hpo.2 with ⟨e, hn⟩ | ⟨pb, cap', cur, e, _⟩
      · omega
      cases e
      obtain ⟨y0, y1⟩ := pf_cells hpo i hlt
      have htk : C7.take (i + 1) = C7.take i ++ [C7[i]] := List.take_succ_eq_append_getElem hlt
      obtain ⟨ia, ic, hivv⟩ := own_slS (HT7.out _ (List.getElem_mem hlt)).1
      rw [hivv] at y1
      have hltn : ∀ j (hj : j < C7.length), j < i + 1 → Fm.lt C7[j].1.nm p.nm = true := fun j hj hji => by
        rcases Nat.lt_or_ge j i with h1 | h1
        · exact HLts.out j hj h1
        · obtain rfl : j = i := by omega
          exact hl
      have HTk := Lib.hid htk
      have HLt := Lib.hid hlt
      have HIvv := Lib.hid hivv
      have HLtn := Lib.hid hltn
      have hpbl := (hpo.lt pb rfl)
      clear hpo htk hivv hltn hgd
      generalize hci : C7[i] = ci at *
      obtain ⟨⟨cn, cits⟩, cv⟩ := ci
      dsimp only at *
      have hl : Op.bytesLess cn p.nm = true := hl
      have l7 : ∀ j : Later wr, j.1.cell? ⟨pb, i * 2, none⟩ = some (.string ⟨cn.toArray⟩) := fun j => nw_cellS j.nw y0
      have hi2 : (i : Int) < C7.length := by omega
      go_upto_region 14 with fail
      refine wp_region_nw (by kernel_rfl) (by kernel_rfl) ?_
      repeat (go_big_quiet_step ((fail)))
      refine wpQuiet_nil ?_
      intro wd ud
      replace ud := later_out ud
      have hzu := ud.size
      obtain ⟨we, hwe, ne⟩ := nw_drew wd
      have hze := ne.size
      have HWe := Lib.hid hwe
      have HUe := Lib.hid (ud.trans ne)
      have HSS := Lib.hid (show ∀ y, Upd (fun k => w8.heap.size ≤ k) we y → (y.cell? ⟨q5, 2, none⟩ = some (.slice pai i pci) ∧ y.cell? ⟨pb, i * 2, none⟩ = some (.string ⟨cn.toArray⟩) ∧ y.cell? ⟨pb, i * 2 + 1, none⟩ = some (.slice ia cits.length ic) ∧ True ∧ True ∧ True ∧ True) from fun y u => by
        have hb := u.keep (Nw.keep HUe.out HBlk.out) (show ¬ w8.heap.size ≤ q5 by omega)
        have hbp := u.block pb (by omega) (Or.inr (show ¬ w8.heap.size ≤ pb by have := HP8.out.lt pb rfl; omega))
        exact ⟨by rw [cells_cell hb]; rfl, by rw [World.cell?_of_block hbp]; exact nw_cellS HUe.out y0, by rw [World.cell?_of_block hbp]; exact nw_cellS HUe.out y1, trivial, trivial, trivial, trivial⟩)
      have HR0 := Lib.hid (owns_upd' HRow.out HUe.out (fun _ _ e => e))
      have HBd := Lib.hid (Nw.keep HUe.out HBlk.out)
      have HUd := Lib.hid (HUp.out.nw HUe.out)
      clear hwe ne ud y0 y1 l6 l7
      go_upto_region 15 with fail
      refine wp_region_G (fun y => y.cell? ⟨q5, 2, none⟩ = some (.slice pai i pci) ∧ y.cell? ⟨pb, i * 2, none⟩ = some (.string ⟨cn.toArray⟩) ∧ y.cell? ⟨pb, i * 2 + 1, none⟩ = some (.slice ia cits.length ic) ∧ True ∧ True ∧ True ∧ True) 9 (by kernel_rfl) ?_
      rw [HWe.out]
      clear HWe
      refine wpAnyG_pure (i := 0) (v := ?_) rfl (by kernel_rfl) (by kernel_rfl) (by kernel_rfl) (by kernel_rfl) (by kernel_rfl) (fun _ _ _ h => h) (by rfl) ?_ (fun _ => HSS.out _ (Upd.refl _ _)) ?_
      rotate_left 1
      · (intro zz; go_simp; first | done | with_reducible rfl)
      (try simp only [Act.put, List.setIfInBounds_toArray, List.set_cons_zero, List.set_cons_succ])
      refine wpAnyG_pure (i := 2) (v := ?_) rfl (by kernel_rfl) (by kernel_rfl) (by kernel_rfl) (by kernel_rfl) (by kernel_rfl) (fun _ _ _ h => h) (by rfl) ?_ (fun _ => HSS.out _ (Upd.refl _ _)) ?_
      rotate_left 1
      · (intro zz; go_simp; first | done | with_reducible rfl)
      (try simp only [Act.put, List.setIfInBounds_toArray, List.set_cons_zero, List.set_cons_succ])
      refine wpAnyG_pure (i := 3) (v := ?_) rfl (by kernel_rfl) (by kernel_rfl) (by kernel_rfl) (by kernel_rfl) (by kernel_rfl) (fun _ _ _ h => h) (by rfl) ?_ (fun _ => HSS.out _ (Upd.refl _ _)) ?_
      rotate_left 1
      · (intro zz; go_simp; first | done | with_reducible rfl)
      (try simp only [Act.put, List.setIfInBounds_toArray, List.set_cons_zero, List.set_cons_succ])
      refine wpAnyG_pure (i := 4) (v := ?_) rfl (by kernel_rfl) (by kernel_rfl) (by kernel_rfl) (by kernel_rfl) (by kernel_rfl) (fun _ _ _ h => h) (by rfl) ?_ (fun _ => HSS.out _ (Upd.refl _ _)) ?_
      rotate_left 1
      · (intro zz; go_simp; first | done | with_reducible rfl)
      (try simp only [Act.put, List.setIfInBounds_toArray, List.set_cons_zero, List.set_cons_succ])
      refine wpAnyG_load (i := 1) (v := ?_) [] rfl (by kernel_rfl) (by kernel_rfl) (by kernel_rfl) (by kernel_rfl) (by kernel_rfl) (by kernel_rfl) (fun _ _ _ h => h) (by rfl) ?_ (fun _ => HSS.out _ (Upd.refl _ _)) ?_
      rotate_left 1
      · (intro zz hS; obtain ⟨_, _, _, _, _, _, _⟩ := hS; go_simp; first | done | with_reducible rfl)
      (try simp only [Act.put, List.setIfInBounds_toArray, List.set_cons_zero, List.set_cons_succ])
      refine wpAnyG_load (i := 5) (v := ?_) [] rfl (by kernel_rfl) (by kernel_rfl) (by kernel_rfl) (by kernel_rfl) (by kernel_rfl) (by kernel_rfl) (fun _ _ _ h => h) (by rfl) ?_ (fun _ => HSS.out _ (Upd.refl _ _)) ?_
      rotate_left 1
      · (intro zz hS; obtain ⟨_, _, _, _, _, _, _⟩ := hS; go_simp; first | done | with_reducible rfl)
      (try simp only [Act.put, List.setIfInBounds_toArray, List.set_cons_zero, List.set_cons_succ])
      refine wpAnyG_ready [6] (by kernel_rfl) (by simp) ?_
      refine AllG.cons rfl (fun K hK => ?_) AllG.nil
      have n6 := nw_alloc we (.cells #[.string ⟨cn.toArray⟩, .slice ia cits.length ic] tPf)
      have b6 := heap_new we (.cells #[.string ⟨cn.toArray⟩, .slice ia cits.length ic] tPf)
      go_simp
      obtain ⟨w9, hw9⟩ : ∃ y, y = we.alloc (.cells #[.string ⟨cn.toArray⟩, .slice ia cits.length ic] tPf) := ⟨_, rfl⟩
      rw [← hw9] at n6 b6 ⊢
      have HN9 := Lib.hid n6
      have HB9 := Lib.hid b6
      refine hK.out _ _ (fun _ => HSS.out _ (Nw.upd _ HN9.out)) ?_
      clear hK K n6 b6 hw9
      (try simp only [Act.put, List.setIfInBounds_toArray, List.set_cons_zero, List.set_cons_succ])
      refine wpAnyG_ready [7] (by kernel_rfl) (by simp) ?_
      refine AllG.cons rfl (fun K hK => ?_) AllG.nil
      have HR6 := Lib.hid (owns_upd' HR0.out HN9.out (fun _ _ e => e))
      have hz9 := HN9.out.size
      refine step_catC rfl _ _ 40 rfl tPf _ 2 40 Tryz.underlying40 infoPfS rfl (by decide) w8.heap.size (by omega) (by omega) _ i _ rfl HR6.out ⟨we.heap.size, 0, none⟩ 1 1 [.string ⟨cn.toArray⟩, .slice ia cits.length ic] rfl rfl (World.news_of_block (cs := #[.string ⟨cn.toArray⟩, .slice ia cits.length ic]) (t := tPf) (fr := (0, 0)) HB9.out) (by intro u hu; simp at hu; rcases hu with rfl | rfl <;> rfl) (by omega) (by unfold maxLen; omega) (by omega) ?_
      intro g10 cap10 w10 o10 u10 k10
      have hs10 : Upd (fun k => w8.heap.size ≤ k) we w10 := (Nw.upd _ HN9.out).trans (u10.mono (fun k _ hk => (HR6.out.lt k hk).1))
      have HU10 := Lib.hid hs10
      have HB10 := Lib.hid (hs10.keep HBd.out (show ¬ w8.heap.size ≤ q5 by omega))
      have HO10 := Lib.hid o10
      refine hK.out _ _ (fun _ => HSS.out _ HU10.out) ?_
      clear hK K o10 u10 k10 hs10 HR6
      (try simp only [Act.put, List.setIfInBounds_toArray, List.set_cons_zero, List.set_cons_succ])
      refine wpAnyG_pure (i := 8) (v := ?_) rfl (by kernel_rfl) (by kernel_rfl) (by kernel_rfl) (by kernel_rfl) (by kernel_rfl) (fun _ _ _ h => h) (by rfl) ?_ (fun _ => HSS.out _ HU10.out) ?_
      rotate_left 1
      · (intro zz; go_simp; first | done | with_reducible rfl)
      (try simp only [Act.put, List.setIfInBounds_toArray, List.set_cons_zero, List.set_cons_succ])
      refine wpAnyG_ready [9] (by kernel_rfl) (by simp) ?_
      refine AllG.cons rfl (fun K hK => ?_) AllG.nil
      have d2 : w10.cell? ⟨q5, 2, none⟩ = some (.slice pai i pci) := by rw [cells_cell HB10.out]; rfl
      have f2 := cells_frozen HB10.out 2
      have u11 := Upd.set1 (Upd.refl _ w10) (b := q5) (by omega) 2 (.slice (some ⟨g10, 0, none⟩) (i + 1) cap10)
      have hR : Hid (SeI C7 p.nm w8 q5 (.slice ta7 S.tx.length tc7) (.slice ha7 S.th.length hc7) (i + 1) (w10.setCell ⟨q5, 2, none⟩ (.slice (some ⟨g10, 0, none⟩) (i + 1) cap10))) := by
        refine ⟨⟨_, setCell_block HB10.out 2 _, ?_⟩, ((HUd.out.trans' HU10.out (fun k hk e => by omega)).trans u11), HLtn.out⟩
        rw [HTk.out, pfL_snoc, show pfC (⟨cn, cits⟩, cv) = [.string ⟨cn.toArray⟩, .slice ia cits.length ic] by show [bsV cn, cv] = _; rw [HIvv.out]; rfl]
        exact owns_upd' HO10.out u11 (fun k hk e => by have := (HO10.out.lt k hk).1; omega)
      clear u11
      go_simp
      refine hK.out _ _ (fun e => absurd (show true = false from e) (by decide)) ?_
      clear hK K d2 f2
      (try simp only [Act.put, List.setIfInBounds_toArray, List.set_cons_zero, List.set_cons_succ])
      refine wpAnyG_done (by kernel_rfl) ?_ _
      go_wp2_with fail
      go_roundw
      case rel => exact ⟨i + 1, HLt.out, by simp, hR⟩
      case measure =>
        have := HLt.out
        simp only [intOf]
        omega
    · have hnl : ∀ (h : i < C7.length), Fm.lt C7[i].1.nm p.nm = false := fun h => by
        cases hc : Fm.lt C7[i].1.nm p.nm with
        | false => rfl
        | true => exact absurd ⟨h, by rw [List.getD_eq_getElem?_getD, List.getElem?_eq_getElem h]; exact hc⟩ hlt
      have HNl := Lib.hid hnl
      obtain ⟨xa, xc, hsl, hxa⟩ : ∃ xa xc, (∀ z, (Instr.slice 40 (.slice pa7 C7.length pc7) (some (.int .i64 (i : Int))) none none).run Tryz.prog z = .ok (.slice xa (C7.length - i) xc) z) ∧ (0 < C7.length - i → ∃ b, pa7 = some ⟨b, 0, none⟩ ∧ xa = some ⟨b, i * 2, none⟩) := by
        refine ⟨_, _, fun z => slice_tailP z pa7 C7.length pc7 i hi, fun hpos => ?_⟩
        rcases HP8r.out.2 with ⟨e, hn⟩ | ⟨pb, cap', cur, e, _, _, hcp, _⟩
        · omega
        · cases e
          exact ⟨pb, rfl, by rw [if_neg (by omega)]; exact congrArg some (by show (⟨pb, 0, none⟩ : Addr).add (i * 2) = _; rw [add_plain, Nat.zero_add])⟩
      have HSl := Lib.hid hsl
      have HXa := Lib.hid hxa
      clear hnl hsl hxa
      by_cases hlen : i < C7.length
      · have hnl := HNl.out hlen
        have hpo := HP8r.out
        rcases hpo.2 with ⟨e, hn⟩ | ⟨pb, cap', cur, e, _⟩
        · omega
        cases e
        obtain ⟨y0, y1⟩ := pf_cells hpo i hlen
        generalize (C7[i]).1.nm = cn at *
        have hnl : Op.bytesLess cn p.nm = false := hnl
        have l7 : ∀ j : Later wr, j.1.cell? ⟨pb, i * 2, none⟩ = some (.string ⟨cn.toArray⟩) := fun j => nw_cellS j.nw y0
        have hi2 : (i : Int) < C7.length := by omega
        clear hpo y0 y1 hlt
        go_upto_region 14 with fail
        refine wp_region_nw (by kernel_rfl) (by kernel_rfl) ?_
        repeat (go_big_quiet_step ((fail)))
        refine wpQuiet_nil ?_
        intro wd ud
        replace ud := later_out ud
        clear l7 hnl
        have hzu := ud.size
        obtain ⟨we, hwe, ne⟩ := nw_drew wd
        have hze := ne.size
        have HWe := Lib.hid hwe
        have HUe := Lib.hid (ud.trans ne)
        have hB6e := Nw.keep HUe.out HB6r.out
        have HSS := Lib.hid (show ∀ y, Upd (fun k => w8.heap.size ≤ k) we y → (y.cell? ⟨q5, 2, none⟩ = some (.slice pai i pci) ∧ y.cell? ⟨q6, 0, none⟩ = some (.string ⟨p.nm.toArray⟩) ∧ y.cell? ⟨q6, 1, none⟩ = some (.slice iva p.its.length ivc) ∧ True ∧ True ∧ True ∧ True) from fun y u => by
          have hb := u.keep (Nw.keep HUe.out HBlk.out) (show ¬ w8.heap.size ≤ q5 by omega)
          have hbp := u.keep hB6e (show ¬ w8.heap.size ≤ q6 by omega)
          exact ⟨by rw [cells_cell hb]; rfl, by rw [cells_cell hbp]; rfl, by rw [cells_cell hbp]; rfl, trivial, trivial, trivial, trivial⟩)
        have HR0 := Lib.hid (owns_upd' HRow.out HUe.out (fun _ _ e => e))
        have HP8e := Lib.hid (owns_upd' HP8r.out HUe.out (fun _ _ e => e))
        have HBd := Lib.hid (Nw.keep HUe.out HBlk.out)
        have HUd := Lib.hid (HUp.out.nw HUe.out)
        clear hwe ne ud l6 hB6e
        have hsl := HSl.out
        go_upto_region 17 with fail
        refine wp_region_G (fun y => y.cell? ⟨q5, 2, none⟩ = some (.slice pai i pci) ∧ y.cell? ⟨q6, 0, none⟩ = some (.string ⟨p.nm.toArray⟩) ∧ y.cell? ⟨q6, 1, none⟩ = some (.slice iva p.its.length ivc) ∧ True ∧ True ∧ True ∧ True) 10 (by kernel_rfl) ?_
        rw [HWe.out]
        clear HWe
        refine wpAnyG_pure (i := 0) (v := ?_) rfl (by kernel_rfl) (by kernel_rfl) (by kernel_rfl) (by kernel_rfl) (by kernel_rfl) (fun _ _ _ h => h) (by rfl) ?_ (fun _ => HSS.out _ (Upd.refl _ _)) ?_
        rotate_left 1
        · (intro zz; go_simp; first | done | with_reducible rfl)
        (try simp only [Act.put, List.setIfInBounds_toArray, List.set_cons_zero, List.set_cons_succ])
        refine wpAnyG_pure (i := 5) (v := ?_) rfl (by kernel_rfl) (by kernel_rfl) (by kernel_rfl) (by kernel_rfl) (by kernel_rfl) (fun _ _ _ h => h) (by rfl) ?_ (fun _ => HSS.out _ (Upd.refl _ _)) ?_
        rotate_left 1
        · (intro zz; go_simp; first | done | with_reducible rfl)
        (try simp only [Act.put, List.setIfInBounds_toArray, List.set_cons_zero, List.set_cons_succ])
        refine wpAnyG_pure (i := 6) (v := ?_) rfl (by kernel_rfl) (by kernel_rfl) (by kernel_rfl) (by kernel_rfl) (by kernel_rfl) (fun _ _ _ h => h) (by rfl) ?_ (fun _ => HSS.out _ (Upd.refl _ _)) ?_
        rotate_left 1
        · (intro zz; go_simp; first | done | with_reducible rfl)
        (try simp only [Act.put, List.setIfInBounds_toArray, List.set_cons_zero, List.set_cons_succ])
        refine wpAnyG_pure (i := 7) (v := ?_) rfl (by kernel_rfl) (by kernel_rfl) (by kernel_rfl) (by kernel_rfl) (by kernel_rfl) (fun _ _ _ h => h) (by rfl) ?_ (fun _ => HSS.out _ (Upd.refl _ _)) ?_
        rotate_left 1
        · (intro zz; go_simp; first | done | with_reducible rfl)
        (try simp only [Act.put, List.setIfInBounds_toArray, List.set_cons_zero, List.set_cons_succ])
        refine wpAnyG_load (i := 1) (v := ?_) [] rfl (by kernel_rfl) (by kernel_rfl) (by kernel_rfl) (by kernel_rfl) (by kernel_rfl) (by kernel_rfl) (fun _ _ _ h => h) (by rfl) ?_ (fun _ => HSS.out _ (Upd.refl _ _)) ?_
        rotate_left 1
        · (intro zz hS; obtain ⟨_, _, _, _, _, _, _⟩ := hS; go_simp; first | done | with_reducible rfl)
        (try simp only [Act.put, List.setIfInBounds_toArray, List.set_cons_zero, List.set_cons_succ])
        refine wpAnyG_load (i := 2) (v := ?_) [] rfl (by kernel_rfl) (by kernel_rfl) (by kernel_rfl) (by kernel_rfl) (by kernel_rfl) (by kernel_rfl) (fun _ _ _ h => h) (by rfl) ?_ (fun _ => HSS.out _ (Upd.refl _ _)) ?_
        rotate_left 1
        · (intro zz hS; obtain ⟨_, _, _, _, _, _, _⟩ := hS; go_simp; first | done | with_reducible rfl)
        (try simp only [Act.put, List.setIfInBounds_toArray, List.set_cons_zero, List.set_cons_succ])
        clear hsl
        refine wpAnyG_ready [3] (by kernel_rfl) (by simp) ?_
        refine AllG.cons rfl (fun K hK => ?_) AllG.nil
        have n6 := nw_alloc we (.cells #[.string ⟨p.nm.toArray⟩, .slice iva p.its.length ivc] tPf)
        have b6 := heap_new we (.cells #[.string ⟨p.nm.toArray⟩, .slice iva p.its.length ivc] tPf)
        go_simp
        obtain ⟨w9, hw9⟩ : ∃ y, y = we.alloc (.cells #[.string ⟨p.nm.toArray⟩, .slice iva p.its.length ivc] tPf) := ⟨_, rfl⟩
        rw [← hw9] at n6 b6 ⊢
        have HN9 := Lib.hid n6
        have HB9 := Lib.hid b6
        refine hK.out _ _ (fun _ => HSS.out _ (Nw.upd _ HN9.out)) ?_
        clear hK K n6 b6 hw9
        (try simp only [Act.put, List.setIfInBounds_toArray, List.set_cons_zero, List.set_cons_succ])
        refine wpAnyG_ready [4] (by kernel_rfl) (by simp) ?_
        refine AllG.cons rfl (fun K hK => ?_) AllG.nil
        have HR6 := Lib.hid (owns_upd' HR0.out HN9.out (fun _ _ e => e))
        have hz9 := HN9.out.size
        refine step_catC rfl _ _ 40 rfl tPf _ 2 40 Tryz.underlying40 infoPfS rfl (by decide) w8.heap.size (by omega) (by omega) _ i _ rfl HR6.out ⟨we.heap.size, 0, none⟩ 1 1 [.string ⟨p.nm.toArray⟩, .slice iva p.its.length ivc] rfl rfl (World.news_of_block (cs := #[.string ⟨p.nm.toArray⟩, .slice iva p.its.length ivc]) (t := tPf) (fr := (0, 0)) HB9.out) (by intro u hu; simp at hu; rcases hu with rfl | rfl <;> rfl) (by omega) (by unfold maxLen; omega) (by omega) ?_
        intro g10 cap10 w10 o10 u10 k10
        have hs10 : Upd (fun k => w8.heap.size ≤ k) we w10 := (Nw.upd _ HN9.out).trans (u10.mono (fun k _ hk => (HR6.out.lt k hk).1))
        have HU10 := Lib.hid hs10
        have HO10 := Lib.hid o10
        have hz10 := hs10.size
        have HP10 := Lib.hid (owns_upd' HP8e.out hs10 (fun k hk e => by have := (HP8.out.lt k hk).2; omega))
        have hg10 : w8.heap.size ≤ g10 := (o10.lt g10 rfl).1
        refine hK.out _ _ (fun _ => HSS.out _ HU10.out) ?_
        clear hK K o10 u10 k10 hs10 HR6
        (try simp only [Act.put, List.setIfInBounds_toArray, List.set_cons_zero, List.set_cons_succ])
        refine wpAnyG_ready [8] (by kernel_rfl) (by simp) ?_
        refine AllG.cons rfl (fun K hK => ?_) AllG.nil
        refine step_catS rfl _ _ 40 rfl tPf _ 2 40 Tryz.underlying40 infoPfS rfl (by decide) w8.heap.size (by omega) (by omega) _ (i + 1) _ rfl HO10.out xa (C7.length - i) xc (pfL (C7.drop i)) rfl (by rw [pfL_len, List.length_drop]) (fun hpos => by
          obtain ⟨b, e1, e2⟩ := HXa.out hpos
          refine ⟨_, e2, fun j u hu => ?_⟩
          have hcat := pfL_app (C7.take i) (C7.drop i)
          rw [List.take_append_drop] at hcat
          have hlt := pfL_len (C7.take i)
          rw [List.length_take, Nat.min_eq_left hi] at hlt
          have h2 := HP10.out.cells (g := b) (by rw [e1]; rfl) (i * 2 + j) u (by rw [hcat, List.getElem?_append_right (by omega), hlt, show i * 2 + j - i * 2 = j by omega]; exact hu)
          rw [add_plain, Nat.zero_add] at h2
          rw [add_plain]
          exact h2) (pfL_one _ (fun q hq => by obtain ⟨a, c, e⟩ := own_slS (HT7.out q (List.mem_of_mem_drop hq)).1; rw [e]; rfl)) (by unfold maxLen; omega) (by omega) ?_
        intro v11 w11 o11 u11 k11
        obtain ⟨va11, vc11, rfl⟩ := own_slS o11
        have hs11 : Upd (fun k => w8.heap.size ≤ k) we w11 := HU10.out.trans (u11.mono (fun k _ hk => by have : g10 = k := Option.some.inj hk; omega))
        have HU11 := Lib.hid hs11
        have HB11 := Lib.hid (hs11.keep HBd.out (show ¬ w8.heap.size ≤ q5 by omega))
        have HO11 := Lib.hid o11
        have hz11 := hs11.size
        refine hK.out _ _ (fun _ => HSS.out _ HU11.out) ?_
        clear hK K o11 u11 k11 hs11 HP10
        (try simp only [Act.put, List.setIfInBounds_toArray, List.set_cons_zero, List.set_cons_succ])
        refine wpAnyG_pure (i := 9) (v := ?_) rfl (by kernel_rfl) (by kernel_rfl) (by kernel_rfl) (by kernel_rfl) (by kernel_rfl) (fun _ _ _ h => h) (by rfl) ?_ (fun _ => HSS.out _ HU11.out) ?_
        rotate_left 1
        · (intro zz; go_simp; first | done | with_reducible rfl)
        (try simp only [Act.put, List.setIfInBounds_toArray, List.set_cons_zero, List.set_cons_succ])
        refine wpAnyG_ready [10] (by kernel_rfl) (by simp) ?_
        refine AllG.cons rfl (fun K hK => ?_) AllG.nil
        have d2 : w11.cell? ⟨q5, 2, none⟩ = some (.slice pai i pci) := by rw [cells_cell HB11.out]; rfl
        have f2 := cells_frozen HB11.out 2
        have u12 := Upd.set1 (Upd.refl _ w11) (b := q5) (by omega) 2 (.slice va11 (i + 1 + (C7.length - i)) vc11)
        have b12 := setCell_block HB11.out 2 (.slice va11 (i + 1 + (C7.length - i)) vc11)
        go_simp
        refine hK.out _ _ (fun e => absurd (show true = false from e) (by decide)) ?_
        clear hK K d2 f2
        (try simp only [Act.put, List.setIfInBounds_toArray, List.set_cons_zero, List.set_cons_succ])
        refine wpAnyG_done (by kernel_rfl) ?_ _
        obtain ⟨w12, hw12⟩ : ∃ y, y = w11.setCell ⟨q5, 2, none⟩ (.slice va11 (i + 1 + (C7.length - i)) vc11) := ⟨_, rfl⟩
        rw [← hw12] at u12 b12 ⊢
        have HBX := Lib.hid b12
        have hz12 := u12.size
        have HO12 := Lib.hid (owns_upd' HO11.out u12 (fun k hk e => by have := (HO11.out.lt k hk).1; omega))
        have HU12 := Lib.hid (show Upd (fun k => k = q5 ∨ w8.heap.size ≤ k) w8 w12 from ((HUd.out.mono (fun k _ e => Or.inl e)).trans (HU11.out.mono (fun k _ e => Or.inr e))).trans (u12.mono (fun k _ e => Or.inl e)))
        have HZ2 := Lib.hid (Nw.upd' HN18.out HU12.out (fun k hk => by omega))
        have HZ := Lib.hid (HN1.out.trans HZ2.out)
        clear hw12 u12 b12
        go_upto_region 25 with fail
        have hb2 := Nw.keep HZ2.out HB2.out
        have e0 : World.cell? w12 ⟨q5, 0, none⟩ = some (.slice ta7 S.tx.length tc7) := by rw [cells_cell HBX.out]; rfl
        have e1 : World.cell? w12 ⟨q5, 1, none⟩ = some (.slice ha7 S.th.length hc7) := by rw [cells_cell HBX.out]; rfl
        have e2 : World.cell? w12 ⟨q5, 2, none⟩ = some (.slice va11 (i + 1 + (C7.length - i)) vc11) := by rw [cells_cell HBX.out]; rfl
        have r0 : World.cell? w12 ⟨z.heap.size + 1, 0, none⟩ = some (.slice none 0 0) := by rw [cells_cell hb2]; rfl
        have r1 : World.cell? w12 ⟨z.heap.size + 1, 1, none⟩ = some (.slice none 0 0) := by rw [cells_cell hb2]; rfl
        have r2 : World.cell? w12 ⟨z.heap.size + 1, 2, none⟩ = some (.slice none 0 0) := by rw [cells_cell hb2]; rfl
        have f0 := cells_frozen hb2 0
        have f1 := cells_frozen hb2 1
        have f2 := cells_frozen hb2 2
        have HBf := Lib.hid (setCell_block (setCell_block (setCell_block hb2 0 (.slice ta7 S.tx.length tc7)) 1 (.slice ha7 S.th.length hc7)) 2 (.slice va11 (i + 1 + (C7.length - i)) vc11))
        have HUf := Lib.hid (Upd.set1 (Upd.set1 (Upd.set1 (Upd.refl _ w12) (b := z.heap.size + 1) (by omega) 0 (.slice ta7 S.tx.length tc7)) (b := z.heap.size + 1) (by omega) 1 (.slice ha7 S.th.length hc7)) (b := z.heap.size + 1) (by omega) 2 (.slice va11 (i + 1 + (C7.length - i)) vc11))
        clear hb2
        go_wp2_with fail
        refine bodyPost_ret (af_results _ _ (by simp) HBf.out) rfl ⟨⟨_, _, _⟩, rfl, ?_, Nw.upd' HZ.out HUf.out (fun k hk => by omega)⟩
        have hsf := HUf.out.size
        have hqq : Oth [9, 4, tPf, tPl] w12 (fun k => k = z.heap.size + 1) := oth_blk (Nw.keep HZ2.out HB2.out) (by decide)
        have hU8 : ∀ k, k < w8.heap.size → k ≠ q5 → ¬ (k = q5 ∨ w8.heap.size ≤ k) := fun k h1 h2 h3 => by omega
        have hTf := row_oth (owns_upd' HS8.out.t HU12.out (fun k hk => hU8 k (HS8.out.t.lt k hk).2 (HBt.out k hk).2)) HUf.out hqq (by decide)
        have hRf := row_oth (owns_upd' HS8.out.h HU12.out (fun k hk => hU8 k (HS8.out.h.lt k hk).2 (HBh.out k hk).2)) HUf.out hqq (by decide)
        have hPf := row_oth HO12.out HUf.out hqq (by decide)
        have hz812 := HU12.out.size
        have hitq : ∀ q ∈ C7, ItsAt B (fun k => P k ∨ (z.heap.size ≤ k ∧ k < w12.heap.size)) w12 q.2 q.1.its := fun q hq => by
          have h1 := HT7.out q hq
          have h2 : ItsAt B _ w12 q.2 q.1.its := ⟨owns_upd' h1.1 HU12.out (fun k hk => hU8 k (h1.1.lt k hk).2 (fun e => by
            obtain ⟨_, cs, hc⟩ := own_block h1.1 hk
            obtain ⟨pv0, hb0, _⟩ := HI0.out.blk
            rw [e] at hc
            exact typ_ne hc hb0 (by decide))), h1.2⟩
          exact h2.mono (fun k hk e => by
            rcases e with e | e
            · exact Or.inl e
            · exact Or.inr (by omega))
        have hivf : ItsAt B (fun k => P k ∨ (z.heap.size ≤ k ∧ k < w12.heap.size)) w12 (.slice iva p.its.length ivc) p.its := by
          have h1 := HIv.out
          have h2 : ItsAt w4.heap.size _ w12 (.slice iva p.its.length ivc) p.its := ⟨owns_upd' (owns_upd' h1.1 HN68.out (fun k hk e => by have := (h1.1.lt k hk).1; omega)) HU12.out (fun k hk => hU8 k (by have := (h1.1.lt k hk).2; have := HN68.out.size; omega) (by have := (h1.1.lt k hk).1; omega)), h1.2⟩
          exact ⟨ownsRow_base_a h2.1 (by omega), fun k hk => Or.inr (by have := h2.1.lt k hk; omega)⟩
        have hins : (Sg.after S (.set p)).pf = (C7.take i ++ (p, Value.slice iva p.its.length ivc) :: C7.drop i).map (·.1) := by
          show Sg.ins (Sg.without S.pf p.nm) p = _
          rw [show Sg.without S.pf p.nm = C7.map (·.1) from HE7.out, ins_at (i := i) (by rw [List.length_map]; exact hi) (fun j hj hji => by rw [List.getElem_map]; exact HLts.out j (by rw [List.length_map] at hj; exact hj) hji) (fun h => by rw [List.getElem_map]; exact HNl.out (by rw [List.length_map] at h; exact h))]
          rw [List.map_append, List.map_cons, List.map_take, List.map_drop]
        have hlnC : (C7.take i ++ (p, Value.slice iva p.its.length ivc) :: C7.drop i).length = i + 1 + (C7.length - i) := by
          rw [List.length_append, List.length_cons, List.length_take, List.length_drop, Nat.min_eq_left hi]; omega
        refine ⟨H.out.g.after had, Nat.le_trans (Sg.big_after S _) hbt, H.out.tl, hTf, hRf, ⟨C7.take i ++ (p, Value.slice iva p.its.length ivc) :: C7.drop i, hins, ?_, fun q hq => ?_⟩, fun k hk => Or.inr ?_⟩
        · rw [hlnC, pfL_app, show pfL ((p, Value.slice iva p.its.length ivc) :: C7.drop i) = [.string ⟨p.nm.toArray⟩, .slice iva p.its.length ivc] ++ pfL (C7.drop i) from rfl, ← List.append_assoc]
          exact ownsRow_base_a hPf (by omega)
        · have hq2 : ItsAt B (fun k => P k ∨ (z.heap.size ≤ k ∧ k < w12.heap.size)) w12 q.2 q.1.its := by
            rcases List.mem_append.1 hq with hq | hq
            · exact hitq q (List.mem_of_mem_take hq)
            · rcases List.mem_cons.1 hq with rfl | hq
              · exact hivf
              · exact hitq q (List.mem_of_mem_drop hq)
          refine ItsAt.mono (P := fun k => P k ∨ (z.heap.size ≤ k ∧ k < w12.heap.size)) ⟨row_oth hq2.1 HUf.out hqq (by decide), hq2.2⟩ (fun k hk e => ?_)
          rcases e with e | e
          · exact Or.inl e
          · exact Or.inr (by omega)
        · rcases hk with hk | hk | hk
          · have := (hTf.lt k hk).2
            have := (HBt.out k hk).1
            omega
          · have := (hRf.lt k hk).2
            have := (HBh.out k hk).1
            omega
          · have := hPf.lt k hk
            omega
      · have hi2 : ¬ (i : Int) < C7.length := by omega
        go_upto_region 14 with fail
        refine wp_region_nw (by kernel_rfl) (by kernel_rfl) ?_
        repeat (go_big_quiet_step ((fail)))
        refine wpQuiet_nil ?_
        intro wd ud
        replace ud := later_out ud
        have hzu := ud.size
        obtain ⟨we, hwe, ne⟩ := nw_drew wd
        have hze := ne.size
        have HWe := Lib.hid hwe
        have HUe := Lib.hid (ud.trans ne)
        have hB6e := Nw.keep HUe.out HB6r.out
        have HSS := Lib.hid (show ∀ y, Upd (fun k => w8.heap.size ≤ k) we y → (y.cell? ⟨q5, 2, none⟩ = some (.slice pai i pci) ∧ y.cell? ⟨q6, 0, none⟩ = some (.string ⟨p.nm.toArray⟩) ∧ y.cell? ⟨q6, 1, none⟩ = some (.slice iva p.its.length ivc) ∧ True ∧ True ∧ True ∧ True) from fun y u => by
          have hb := u.keep (Nw.keep HUe.out HBlk.out) (show ¬ w8.heap.size ≤ q5 by omega)
          have hbp := u.keep hB6e (show ¬ w8.heap.size ≤ q6 by omega)
          exact ⟨by rw [cells_cell hb]; rfl, by rw [cells_cell hbp]; rfl, by rw [cells_cell hbp]; rfl, trivial, trivial, trivial, trivial⟩)
        have HR0 := Lib.hid (owns_upd' HRow.out HUe.out (fun _ _ e => e))
        have HP8e := Lib.hid (owns_upd' HP8r.out HUe.out (fun _ _ e => e))
        have HBd := Lib.hid (Nw.keep HUe.out HBlk.out)
        have HUd := Lib.hid (HUp.out.nw HUe.out)
        clear hwe ne ud l6 hB6e
        have hsl := HSl.out
        go_upto_region 17 with fail
        refine wp_region_G (fun y => y.cell? ⟨q5, 2, none⟩ = some (.slice pai i pci) ∧ y.cell? ⟨q6, 0, none⟩ = some (.string ⟨p.nm.toArray⟩) ∧ y.cell? ⟨q6, 1, none⟩ = some (.slice iva p.its.length ivc) ∧ True ∧ True ∧ True ∧ True) 10 (by kernel_rfl) ?_
        rw [HWe.out]
        clear HWe
        refine wpAnyG_pure (i := 0) (v := ?_) rfl (by kernel_rfl) (by kernel_rfl) (by kernel_rfl) (by kernel_rfl) (by kernel_rfl) (fun _ _ _ h => h) (by rfl) ?_ (fun _ => HSS.out _ (Upd.refl _ _)) ?_
        rotate_left 1
        · (intro zz; go_simp; first | done | with_reducible rfl)
        (try simp only [Act.put, List.setIfInBounds_toArray, List.set_cons_zero, List.set_cons_succ])
        refine wpAnyG_pure (i := 5) (v := ?_) rfl (by kernel_rfl) (by kernel_rfl) (by kernel_rfl) (by kernel_rfl) (by kernel_rfl) (fun _ _ _ h => h) (by rfl) ?_ (fun _ => HSS.out _ (Upd.refl _ _)) ?_
        rotate_left 1
        · (intro zz; go_simp; first | done | with_reducible rfl)
        (try simp only [Act.put, List.setIfInBounds_toArray, List.set_cons_zero, List.set_cons_succ])
        refine wpAnyG_pure (i := 6) (v := ?_) rfl (by kernel_rfl) (by kernel_rfl) (by kernel_rfl) (by kernel_rfl) (by kernel_rfl) (fun _ _ _ h => h) (by rfl) ?_ (fun _ => HSS.out _ (Upd.refl _ _)) ?_
        rotate_left 1
        · (intro zz; go_simp; first | done | with_reducible rfl)
        (try simp only [Act.put, List.setIfInBounds_toArray, List.set_cons_zero, List.set_cons_succ])
        refine wpAnyG_pure (i := 7) (v := ?_) rfl (by kernel_rfl) (by kernel_rfl) (by kernel_rfl) (by kernel_rfl) (by kernel_rfl) (fun _ _ _ h => h) (by rfl) ?_ (fun _ => HSS.out _ (Upd.refl _ _)) ?_
        rotate_left 1
        · (intro zz; go_simp; first | done | with_reducible rfl)
        (try simp only [Act.put, List.setIfInBounds_toArray, List.set_cons_zero, List.set_cons_succ])
        refine wpAnyG_load (i := 1) (v := ?_) [] rfl (by kernel_rfl) (by kernel_rfl) (by kernel_rfl) (by kernel_rfl) (by kernel_rfl) (by kernel_rfl) (fun _ _ _ h => h) (by rfl) ?_ (fun _ => HSS.out _ (Upd.refl _ _)) ?_
        rotate_left 1
        · (intro zz hS; obtain ⟨_, _, _, _, _, _, _⟩ := hS; go_simp; first | done | with_reducible rfl)
        (try simp only [Act.put, List.setIfInBounds_toArray, List.set_cons_zero, List.set_cons_succ])
        refine wpAnyG_load (i := 2) (v := ?_) [] rfl (by kernel_rfl) (by kernel_rfl) (by kernel_rfl) (by kernel_rfl) (by kernel_rfl) (by kernel_rfl) (fun _ _ _ h => h) (by rfl) ?_ (fun _ => HSS.out _ (Upd.refl _ _)) ?_
        rotate_left 1
        · (intro zz hS; obtain ⟨_, _, _, _, _, _, _⟩ := hS; go_simp; first | done | with_reducible rfl)
        (try simp only [Act.put, List.setIfInBounds_toArray, List.set_cons_zero, List.set_cons_succ])
        clear hsl
        refine wpAnyG_ready [3] (by kernel_rfl) (by simp) ?_
        refine AllG.cons rfl (fun K hK => ?_) AllG.nil
        have n6 := nw_alloc we (.cells #[.string ⟨p.nm.toArray⟩, .slice iva p.its.length ivc] tPf)
        have b6 := heap_new we (.cells #[.string ⟨p.nm.toArray⟩, .slice iva p.its.length ivc] tPf)
        go_simp
        obtain ⟨w9, hw9⟩ : ∃ y, y = we.alloc (.cells #[.string ⟨p.nm.toArray⟩, .slice iva p.its.length ivc] tPf) := ⟨_, rfl⟩
        rw [← hw9] at n6 b6 ⊢
        have HN9 := Lib.hid n6
        have HB9 := Lib.hid b6
        refine hK.out _ _ (fun _ => HSS.out _ (Nw.upd _ HN9.out)) ?_
        clear hK K n6 b6 hw9
        (try simp only [Act.put, List.setIfInBounds_toArray, List.set_cons_zero, List.set_cons_succ])
        refine wpAnyG_ready [4] (by kernel_rfl) (by simp) ?_
        refine AllG.cons rfl (fun K hK => ?_) AllG.nil
        have HR6 := Lib.hid (owns_upd' HR0.out HN9.out (fun _ _ e => e))
        have hz9 := HN9.out.size
        refine step_catC rfl _ _ 40 rfl tPf _ 2 40 Tryz.underlying40 infoPfS rfl (by decide) w8.heap.size (by omega) (by omega) _ i _ rfl HR6.out ⟨we.heap.size, 0, none⟩ 1 1 [.string ⟨p.nm.toArray⟩, .slice iva p.its.length ivc] rfl rfl (World.news_of_block (cs := #[.string ⟨p.nm.toArray⟩, .slice iva p.its.length ivc]) (t := tPf) (fr := (0, 0)) HB9.out) (by intro u hu; simp at hu; rcases hu with rfl | rfl <;> rfl) (by omega) (by unfold maxLen; omega) (by omega) ?_
        intro g10 cap10 w10 o10 u10 k10
        have hs10 : Upd (fun k => w8.heap.size ≤ k) we w10 := (Nw.upd _ HN9.out).trans (u10.mono (fun k _ hk => (HR6.out.lt k hk).1))
        have HU10 := Lib.hid hs10
        have HO10 := Lib.hid o10
        have hz10 := hs10.size
        have HP10 := Lib.hid (owns_upd' HP8e.out hs10 (fun k hk e => by have := (HP8.out.lt k hk).2; omega))
        have hg10 : w8.heap.size ≤ g10 := (o10.lt g10 rfl).1
        refine hK.out _ _ (fun _ => HSS.out _ HU10.out) ?_
        clear hK K o10 u10 k10 hs10 HR6
        (try simp only [Act.put, List.setIfInBounds_toArray, List.set_cons_zero, List.set_cons_succ])
        refine wpAnyG_ready [8] (by kernel_rfl) (by simp) ?_
        refine AllG.cons rfl (fun K hK => ?_) AllG.nil
        refine step_catS rfl _ _ 40 rfl tPf _ 2 40 Tryz.underlying40 infoPfS rfl (by decide) w8.heap.size (by omega) (by omega) _ (i + 1) _ rfl HO10.out xa (C7.length - i) xc (pfL (C7.drop i)) rfl (by rw [pfL_len, List.length_drop]) (fun hpos => by
          obtain ⟨b, e1, e2⟩ := HXa.out hpos
          refine ⟨_, e2, fun j u hu => ?_⟩
          have hcat := pfL_app (C7.take i) (C7.drop i)
          rw [List.take_append_drop] at hcat
          have hlt := pfL_len (C7.take i)
          rw [List.length_take, Nat.min_eq_left hi] at hlt
          have h2 := HP10.out.cells (g := b) (by rw [e1]; rfl) (i * 2 + j) u (by rw [hcat, List.getElem?_append_right (by omega), hlt, show i * 2 + j - i * 2 = j by omega]; exact hu)
          rw [add_plain, Nat.zero_add] at h2
          rw [add_plain]
          exact h2) (pfL_one _ (fun q hq => by obtain ⟨a, c, e⟩ := own_slS (HT7.out q (List.mem_of_mem_drop hq)).1; rw [e]; rfl)) (by unfold maxLen; omega) (by omega) ?_
        intro v11 w11 o11 u11 k11
        obtain ⟨va11, vc11, rfl⟩ := own_slS o11
        have hs11 : Upd (fun k => w8.heap.size ≤ k) we w11 := HU10.out.trans (u11.mono (fun k _ hk => by have : g10 = k := Option.some.inj hk; omega))
        have HU11 := Lib.hid hs11
        have HB11 := Lib.hid (hs11.keep HBd.out (show ¬ w8.heap.size ≤ q5 by omega))
        have HO11 := Lib.hid o11
        have hz11 := hs11.size
        refine hK.out _ _ (fun _ => HSS.out _ HU11.out) ?_
        clear hK K o11 u11 k11 hs11 HP10
        (try simp only [Act.put, List.setIfInBounds_toArray, List.set_cons_zero, List.set_cons_succ])
        refine wpAnyG_pure (i := 9) (v := ?_) rfl (by kernel_rfl) (by kernel_rfl) (by kernel_rfl) (by kernel_rfl) (by kernel_rfl) (fun _ _ _ h => h) (by rfl) ?_ (fun _ => HSS.out _ HU11.out) ?_
        rotate_left 1
        · (intro zz; go_simp; first | done | with_reducible rfl)
        (try simp only [Act.put, List.setIfInBounds_toArray, List.set_cons_zero, List.set_cons_succ])
        refine wpAnyG_ready [10] (by kernel_rfl) (by simp) ?_
        refine AllG.cons rfl (fun K hK => ?_) AllG.nil
        have d2 : w11.cell? ⟨q5, 2, none⟩ = some (.slice pai i pci) := by rw [cells_cell HB11.out]; rfl
        have f2 := cells_frozen HB11.out 2
        have u12 := Upd.set1 (Upd.refl _ w11) (b := q5) (by omega) 2 (.slice va11 (i + 1 + (C7.length - i)) vc11)
        have b12 := setCell_block HB11.out 2 (.slice va11 (i + 1 + (C7.length - i)) vc11)
        go_simp
        refine hK.out _ _ (fun e => absurd (show true = false from e) (by decide)) ?_
        clear hK K d2 f2
        (try simp only [Act.put, List.setIfInBounds_toArray, List.set_cons_zero, List.set_cons_succ])
        refine wpAnyG_done (by kernel_rfl) ?_ _
        obtain ⟨w12, hw12⟩ : ∃ y, y = w11.setCell ⟨q5, 2, none⟩ (.slice va11 (i + 1 + (C7.length - i)) vc11) := ⟨_, rfl⟩
        rw [← hw12] at u12 b12 ⊢
        have HBX := Lib.hid b12
        have hz12 := u12.size
        have HO12 := Lib.hid (owns_upd' HO11.out u12 (fun k hk e => by have := (HO11.out.lt k hk).1; omega))
        have HU12 := Lib.hid (show Upd (fun k => k = q5 ∨ w8.heap.size ≤ k) w8 w12 from ((HUd.out.mono (fun k _ e => Or.inl e)).trans (HU11.out.mono (fun k _ e => Or.inr e))).trans (u12.mono (fun k _ e => Or.inl e)))
        have HZ2 := Lib.hid (Nw.upd' HN18.out HU12.out (fun k hk => by omega))
        have HZ := Lib.hid (HN1.out.trans HZ2.out)
        clear hw12 u12 b12
        go_upto_region 25 with fail
        have hb2 := Nw.keep HZ2.out HB2.out
        have e0 : World.cell? w12 ⟨q5, 0, none⟩ = some (.slice ta7 S.tx.length tc7) := by rw [cells_cell HBX.out]; rfl
        have e1 : World.cell? w12 ⟨q5, 1, none⟩ = some (.slice ha7 S.th.length hc7) := by rw [cells_cell HBX.out]; rfl
        have e2 : World.cell? w12 ⟨q5, 2, none⟩ = some (.slice va11 (i + 1 + (C7.length - i)) vc11) := by rw [cells_cell HBX.out]; rfl
        have r0 : World.cell? w12 ⟨z.heap.size + 1, 0, none⟩ = some (.slice none 0 0) := by rw [cells_cell hb2]; rfl
        have r1 : World.cell? w12 ⟨z.heap.size + 1, 1, none⟩ = some (.slice none 0 0) := by rw [cells_cell hb2]; rfl
        have r2 : World.cell? w12 ⟨z.heap.size + 1, 2, none⟩ = some (.slice none 0 0) := by rw [cells_cell hb2]; rfl
        have f0 := cells_frozen hb2 0
        have f1 := cells_frozen hb2 1
        have f2 := cells_frozen hb2 2
        have HBf := Lib.hid (setCell_block (setCell_block (setCell_block hb2 0 (.slice ta7 S.tx.length tc7)) 1 (.slice ha7 S.th.length hc7)) 2 (.slice va11 (i + 1 + (C7.length - i)) vc11))
        have HUf := Lib.hid (Upd.set1 (Upd.set1 (Upd.set1 (Upd.refl _ w12) (b := z.heap.size + 1) (by omega) 0 (.slice ta7 S.tx.length tc7)) (b := z.heap.size + 1) (by omega) 1 (.slice ha7 S.th.length hc7)) (b := z.heap.size + 1) (by omega) 2 (.slice va11 (i + 1 + (C7.length - i)) vc11))
        clear hb2
        go_wp2_with fail
        refine bodyPost_ret (af_results _ _ (by simp) HBf.out) rfl ⟨⟨_, _, _⟩, rfl, ?_, Nw.upd' HZ.out HUf.out (fun k hk => by omega)⟩
        have hsf := HUf.out.size
        have hqq : Oth [9, 4, tPf, tPl] w12 (fun k => k = z.heap.size + 1) := oth_blk (Nw.keep HZ2.out HB2.out) (by decide)
        have hU8 : ∀ k, k < w8.heap.size → k ≠ q5 → ¬ (k = q5 ∨ w8.heap.size ≤ k) := fun k h1 h2 h3 => by omega
        have hTf := row_oth (owns_upd' HS8.out.t HU12.out (fun k hk => hU8 k (HS8.out.t.lt k hk).2 (HBt.out k hk).2)) HUf.out hqq (by decide)
        have hRf := row_oth (owns_upd' HS8.out.h HU12.out (fun k hk => hU8 k (HS8.out.h.lt k hk).2 (HBh.out k hk).2)) HUf.out hqq (by decide)
        have hPf := row_oth HO12.out HUf.out hqq (by decide)
        have hz812 := HU12.out.size
        have hitq : ∀ q ∈ C7, ItsAt B (fun k => P k ∨ (z.heap.size ≤ k ∧ k < w12.heap.size)) w12 q.2 q.1.its := fun q hq => by
          have h1 := HT7.out q hq
          have h2 : ItsAt B _ w12 q.2 q.1.its := ⟨owns_upd' h1.1 HU12.out (fun k hk => hU8 k (h1.1.lt k hk).2 (fun e => by
            obtain ⟨_, cs, hc⟩ := own_block h1.1 hk
            obtain ⟨pv0, hb0, _⟩ := HI0.out.blk
            rw [e] at hc
            exact typ_ne hc hb0 (by decide))), h1.2⟩
          exact h2.mono (fun k hk e => by
            rcases e with e | e
            · exact Or.inl e
            · exact Or.inr (by omega))
        have hivf : ItsAt B (fun k => P k ∨ (z.heap.size ≤ k ∧ k < w12.heap.size)) w12 (.slice iva p.its.length ivc) p.its := by
          have h1 := HIv.out
          have h2 : ItsAt w4.heap.size _ w12 (.slice iva p.its.length ivc) p.its := ⟨owns_upd' (owns_upd' h1.1 HN68.out (fun k hk e => by have := (h1.1.lt k hk).1; omega)) HU12.out (fun k hk => hU8 k (by have := (h1.1.lt k hk).2; have := HN68.out.size; omega) (by have := (h1.1.lt k hk).1; omega)), h1.2⟩
          exact ⟨ownsRow_base_a h2.1 (by omega), fun k hk => Or.inr (by have := h2.1.lt k hk; omega)⟩
        have hins : (Sg.after S (.set p)).pf = (C7.take i ++ (p, Value.slice iva p.its.length ivc) :: C7.drop i).map (·.1) := by
          show Sg.ins (Sg.without S.pf p.nm) p = _
          rw [show Sg.without S.pf p.nm = C7.map (·.1) from HE7.out, ins_at (i := i) (by rw [List.length_map]; exact hi) (fun j hj hji => by rw [List.getElem_map]; exact HLts.out j (by rw [List.length_map] at hj; exact hj) hji) (fun h => by rw [List.getElem_map]; exact HNl.out (by rw [List.length_map] at h; exact h))]
          rw [List.map_append, List.map_cons, List.map_take, List.map_drop]
        have hlnC : (C7.take i ++ (p, Value.slice iva p.its.length ivc) :: C7.drop i).length = i + 1 + (C7.length - i) := by
          rw [List.length_append, List.length_cons, List.length_take, List.length_drop, Nat.min_eq_left hi]; omega
        refine ⟨H.out.g.after had, Nat.le_trans (Sg.big_after S _) hbt, H.out.tl, hTf, hRf, ⟨C7.take i ++ (p, Value.slice iva p.its.length ivc) :: C7.drop i, hins, ?_, fun q hq => ?_⟩, fun k hk => Or.inr ?_⟩
        · rw [hlnC, pfL_app, show pfL ((p, Value.slice iva p.its.length ivc) :: C7.drop i) = [.string ⟨p.nm.toArray⟩, .slice iva p.its.length ivc] ++ pfL (C7.drop i) from rfl, ← List.append_assoc]
          exact ownsRow_base_a hPf (by omega)
        · have hq2 : ItsAt B (fun k => P k ∨ (z.heap.size ≤ k ∧ k < w12.heap.size)) w12 q.2 q.1.its := by
            rcases List.mem_append.1 hq with hq | hq
            · exact hitq q (List.mem_of_mem_take hq)
            · rcases List.mem_cons.1 hq with rfl | hq
              · exact hivf
              · exact hitq q (List.mem_of_mem_drop hq)
          refine ItsAt.mono (P := fun k => P k ∨ (z.heap.size ≤ k ∧ k < w12.heap.size)) ⟨row_oth hq2.1 HUf.out hqq (by decide), hq2.2⟩ (fun k hk e => ?_)
          rcases e with e | e
          · exact Or.inl e
          · exact Or.inr (by omega)
        · rcases hk with hk | hk | hk
          · have := (hTf.lt k hk).2
            have := (HBt.out k hk).1
            omega
          · have := (hRf.lt k hk).2
            have := (HBh.out k hk).1
            omega
          · have := hPf.lt k hk
            omega
end
end Go.Proofs.YtiednpagknnfnaaGreatDoor
