/- The contracts of the disk's Arm, Write, Sync, Truncate. slices.Contains at []int; chunk.Check, chunk.Missing, chunk.Right. chunk.Missing, chunk.Right. slices.Grow of nil, slices.Concat at []int; fetch.Short. strings.Builder at this seat's numbers: WriteString (copyCheck first), String; a builder that the call has made itself. The contracts of the encoders of layer 1: Int, Num, Text, list[int], list[string], Nums, Texts. The reader of layer 1 in memory, and the contracts of its methods that only look at its string: fail, number, close, Num, Int, Text, Left, Done, Rest, Open. The contracts of the reader's methods Num, Int, Text, Left, Done, Rest, and of Open. The contracts of the disk's Sync and Truncate. The contracts of the journal's Sum and form. The contract of the journal's read. A journal in memory; the contracts of Len, Get, All, Sync. -/
import Derived.Test.YtagmlemlagbfkaaGreatDoorPkFSurv9
import Derived.Test.YtagmlemlagbfkaaGreatDoorPkFSurv2
import Derived.Lib.AppendZerosOnto
import Derived.WalkMore
import Derived.Laws.CopyOwn
namespace Go.Proofs.YtagmlemlagbfkaaGreatDoor
open Go.RowKit
set_option linter.unusedVariables false
set_option linter.unusedSimpArgs false
attribute [local irreducible] Calls

/-! ### slices.Clone at []int -/
/-- 'out = append(out, xs...)', out the call's own, xs anybody's, elements of one cell. -/
theorem wpList_catA {P : Program} {w : World} {ops : Array Oper} {rest : List Oper} {o : Oper} {a : Act} {Q : Exit → Act → World → Prop} (hgd : o.guard = none) (s x : Operand) (t : TypeId)
    (ho : o.op = .call { callee := .builtin .append, args := #[s, x], argTypes := #[t, t] })
    (base lo hi : Nat) (e : TypeId) (z : Value) (bytes : Nat) (ht : P.underlying t = some (.slice e)) (hinfo : (P.info? e).map (fun i => (i.zero, i.size, i.bytes)) = some (some z, 1, bytes)) (hzs : z.cells.size = 1)
    (v vx : Value) (n : Nat) (xs news : List Value) (hs : a.eval s = v) (hown : w.ownsRow base e 1 v n xs) (hx : a.eval x = vx) (hsrc : Sl lo hi w vx news)
    (h1 : ∀ u ∈ news, u.oneCell' = true) (h63 : n + news.length ≤ maxLen) (hbytes : (n + news.length) * bytes ≤ 140737488355328) (hbase : base ≤ w.heap.size)
    (h : ∀ v' w', w'.ownsRow base e 1 v' (n + news.length) (xs ++ news) → w.grownBy w' v.ownBlock → (∀ k, v.ownBlock = some k → base ≤ k ∧ k < w.heap.size) → wpList P ops Q rest (a.put o.dst v') w') : wpList P ops Q (o :: rest) a w := by
  obtain ⟨i0, hi0, hz0, hz1, hz2⟩ := info_parts hinfo
  rcases hsrc with ⟨ao, cap, rfl, rfl⟩ | ⟨b, off, cap, rfl, hc, hm, _, _, hb, hcell⟩
  · refine wpList_plain hgd fun K hK => ?_
    have hr : (Builtin.append_ #[t, t] o.type #[v, .slice ao 0 cap]).run P w = .ok v w := by
      rcases hown.2 with ⟨rfl, rfl⟩ | ⟨g, cap, cur, rfl, _, _, hnc, _⟩
      · cases ao <;> simp [Builtin.append_, run_underlying ht, sizeOf, typeInfo, hi0, Builtin.lenOf, Builtin.firstCells, loadCells, loadCellsFrom]
      · cases ao <;> simp [Builtin.append_, run_underlying ht, sizeOf, typeInfo, hi0, Builtin.lenOf, Builtin.firstCells, hnc, storeCells, loadCells, loadCellsFrom]
    unfold Oper.wp execOp
    simp only [ho, resolve, invoke, builtin, Sem.run_bind, Sem.run_pure, Result.andThen_ok, List.map_toArray, List.map_cons, List.map_nil, hs, hx, hr]
    exact hK _ _ (h v w (by simpa using hown) ⟨rfl, rfl, rfl, Nat.le_refl _, fun _ _ _ => rfl⟩ hown.lt)
  · refine wpList_append_own _ hgd s x t ho base e i0 z 1 bytes ht hi0 hz0 hz1 hz2 hzs (by decide) v n xs hs hown ⟨b, off, none⟩ news.length cap news hx (by simp) ?_ h1 h63 hbytes hbase fun v' w' h2 h3 _ => h v' w' h2 h3 hown.lt
    intro j u hu
    have hj := (List.getElem?_eq_some_iff.1 hu).1
    rw [add_plain, hcell j hj]
    exact hu
theorem infoIntD : (Tryz.prog.info? tIntD).map (fun i => (i.zero, i.size, i.bytes)) = some (some (.int .i64 0), 1, 8) := by kernel_rfl
theorem owns_emptyD (w : World) (e : TypeId) (sz : Nat) : (w.alloc (.cells #[] e)).ownsRow w.heap.size e sz (.slice (some ⟨w.heap.size, 0, none⟩) 0 0) 0 [] := by
  refine ⟨by simp, Or.inr ⟨w.heap.size, 0, #[], rfl, Nat.le_refl _, heap_new w _, Nat.le_refl _, Nat.zero_le _, by simp, by simp⟩⟩
set_option maxRecDepth 100000 in
theorem clone_i (lo hi : Nat) (v : Value) (L : List Int) (w : World) (g : Gl w) (h : Sl lo hi w v (L.map intD)) (hL : L.length ≤ 1000000000) :
    Calls Tryz.prog 106 #[v] w fun e w' => ∃ v', e = .returned v' ∧ w'.ownsRow w.heap.size tIntD 1 v' L.length (L.map intD) ∧ Nw w w' := by
  have hgb := g.big
  have HL := Lib.hid hL; clear hL
  obtain ⟨a, cap, rfl, _, hc⟩ := int_cells h
  have hnil := fun (w : World) (a : Option Addr) (n c : Nat) => Lib.run_eql_slice_nil (P := Tryz.prog) w 22 _ a n c 0 0 Tryz.underlying22
  cases a with
  | none =>
    have hn : L = [] := by
      rcases hc with h | ⟨b, off, e, _⟩
      · exact h
      · cases e
    subst hn
    clear h hc
    go_enter Tryz.func106, Tryz.ntmps106
    go_wp2_with fail
    go_ret
    exact ⟨_, rfl, World.ownsRow_nil _ _ _ _, Upd.refl _ _⟩
  | some ad =>
    have n1 := nw_alloc w (.cells #[] tIntD)
    have Hn := Lib.hid (h.nw n1)
    clear h hc
    have o1 := owns_emptyD w tIntD 1
    go_enter Tryz.func106, Tryz.ntmps106
    go_wp2_with (at_builtin; refine wpList_catA rfl _ _ 22 rfl w.heap.size lo hi tIntD _ 8 Tryz.underlying22 infoIntD rfl _ _ _ _ _ rfl o1 rfl Hn.out ?c1 ?c2 ?c3 ?c4 ?_)
    case c1 =>
      intro u hu
      obtain ⟨x, _, rfl⟩ := List.mem_map.1 hu
      rfl
    case c2 => have := HL.out; unfold maxLen; rw [List.length_map]; omega
    case c3 => have := HL.out; rw [List.length_map]; omega
    case c4 => simp
    intro v' w2 hown hgrow hob
    have u2 : Nw w w2 := n1.grown hgrow (fun k hk => ⟨Or.inr (hob k hk).1, by have := (hob k hk).1; omega⟩)
    go_wp2_with fail
    go_ret
    refine ⟨_, rfl, ?_, u2⟩
    simpa using hown
theorem arm_done {B : Nat} {w z : World} {r : DiskR} {D : Dk.Disk} (h : DiskAt B w r D) (u : Nw w z) {n : Int} (hn : n ≤ 9223372036854775807) {keep : List Int} (hkI : ∀ x ∈ keep, I64 x) {v' : Value} (ho : z.ownsRow w.heap.size tIntD 1 v' keep.length (keep.map intD)) :
    DiskTo B r (Dk.arm D n keep) w ((z.setCell ⟨r.db, 5, none⟩ (.int .i64 (max n 0))).setCell ⟨r.db, 6, none⟩ v') := by
  have hk := Dk.arm_ok h.ok hn keep
  have hz := h.nw u
  have hlt := fun j hj => (h.foot_lt (k := j) hj).2
  have hdb := hlt r.db (Or.inl rfl)
  have hdB := h.db
  have hB := h.hb
  have hv : ∀ k, v'.ownBlock = some k → w.heap.size ≤ k := fun k e => (own_blockD ho e).1
  have hne : v'.ownBlock ≠ some r.db := fun e => by have := hv _ e; omega
  obtain ⟨a1, a2, a3, a4, a5, a6, a7, a8, a9⟩ := h.apart
  have u1 : Upd (fun k => k = r.db) z (z.setCell ⟨r.db, 5, none⟩ (.int .i64 (max n 0))) := Upd.set1 (Upd.refl _ _) (by omega) 5 _
  have u2 : Upd (fun k => k = r.db) (z.setCell ⟨r.db, 5, none⟩ (.int .i64 (max n 0))) ((z.setCell ⟨r.db, 5, none⟩ (.int .i64 (max n 0))).setCell ⟨r.db, 6, none⟩ v') := Upd.set1 (Upd.refl _ _) (by omega) 6 _
  have U := u1.trans u2
  have b2 := setCell_block (setCell_block hz.blk 5 (.int .i64 (max n 0))) 6 v'
  refine ⟨⟨r.db, r.fm, r.sm, r.qv, v'⟩, ⟨h.hb, h.db, h.fm, h.sm, h.ne, b2, hz.files.upd U (fun e => a1 e.symm), hz.set.upd U (fun e => a2 e.symm), owns_updD hz.queue U (fun k hk e => by subst e; exact a3 hk),
    owns_updD (owns_base ho (by omega)) U (fun k hk e => by subst e; exact hne hk), hk, hkI⟩, rfl, ((Nw.upd _ u).trans' U (fun k _ e => Or.inl e)), ?_⟩
  rintro j (e | e | e | e | e)
  · exact Or.inl (Or.inl e)
  · exact Or.inl (Or.inr (Or.inl e))
  · exact Or.inl (Or.inr (Or.inr (Or.inl e)))
  · exact Or.inl (Or.inr (Or.inr (Or.inr (Or.inl e))))
  · exact Or.inr (hv j e)
set_option maxRecDepth 100000 in
theorem arm_c {B : Nat} {w : World} {r : DiskR} {D : Dk.Disk} (h : DiskAt B w r D) (g : Gl w) {n : Int} (hn : I64 n) (lo hi : Nat) (v : Value) (keep : List Int) (hkI : ∀ x ∈ keep, I64 x) (hs : Sl lo hi w v (keep.map intD)) (hL : keep.length ≤ 1000000000) :
    Calls Tryz.prog 47 #[.pointer (some ⟨r.db, 0, none⟩), .int .i64 n, v] w fun e w' => e = .returned (.tuple #[]) ∧ DiskTo B r (Dk.arm D n keep) w w' := by
  have hc := Lib.hid (clone_i lo hi v keep w g hs hL)
  have H := Lib.hid h
  have HI := Lib.hid hkI
  have HN := Lib.hid hn
  clear h hkI hL hs hn
  go_enter Tryz.func47, Tryz.ntmps47
  go_wp2_with fail
  (with_reducible refine (hc.out).mono ?_)
  rintro _ w1 ⟨v', rfl, o1, n1⟩
  obtain ⟨av, cv, rfl⟩ := own_slD o1
  have hz := H.out.nw n1
  obtain ⟨_, _, _, _, _, c5, _⟩ := hz.cells
  have f5 := hz.frozen 5
  have k5 := setCell_block hz.blk 5 (.int .i64 (max n 0))
  have c6 : (w1.setCell ⟨r.db, 5, none⟩ (.int .i64 (max n 0))).cell? ⟨r.db, 6, none⟩ = some r.kv := by rw [cells_cell k5]; rfl
  have f6 := cells_frozen k5 6
  have hT := Lib.hid (arm_done H.out n1 HN.out.2 HI.out o1)
  clear hz k5 o1
  go_wp2_with fail
  go_end0
  exact ⟨rfl, hT.out⟩
/-- What a disk keeps for its crash, as a crash asks for it. -/
theorem keep_sl {B : Nat} {w : World} {r : DiskR} {D : Dk.Disk} (h : DiskAt B w r D) : ∀ z, Upd (fun j => j = r.db ∨ j = r.fm) w z → Sl B w.heap.size z r.kv (D.keep.map intD) := fun z u => by
  obtain ⟨a1, a2, a3, a4, a5, a6, a7, a8, a9⟩ := h.apart
  have ho := owns_updD h.keep u (fun k hk e => by
    rcases e with rfl | rfl
    · exact a6 hk
    · exact a7 hk)
  rcases Sl.of_owns ho with e | ⟨b, off, cap, h1, h2, h3, h4, h5, h6, h7⟩
  · exact Or.inl e
  · refine Or.inr ⟨b, off, cap, h1, h2, h3, h4, ?_, h6, h7⟩
    refine (h.foot_lt (k := b) (Or.inr (Or.inr (Or.inr (Or.inr ?_))))).2
    obtain ⟨hl, ho2⟩ := ho
    rcases ho2 with ⟨e, _⟩ | ⟨gb, cp, cur, e, _⟩
    · rw [e] at h1; simp at h1
    · rw [e] at h1 ⊢
      simp at h1
      simp [Value.ownBlock, h1]
theorem write0_keep (D : Dk.Disk) (f i : Int) (s : List UInt8) : (Dk.write0 D f i s).1.keep = D.keep := by
  unfold Dk.write0
  split
  · rfl
  · split
    · rfl
    · dsimp only
      unfold Dk.add
      split <;> rfl
theorem counted_keep (D : Dk.Disk) : (Dk.counted D).keep = D.keep := by
  unfold Dk.counted
  split <;> rfl
set_option maxHeartbeats 1000000 in
set_option maxRecDepth 100000 in
theorem write_c {B : Nat} {w : World} {r : DiskR} {D : Dk.Disk} (h : DiskAt B w r D) (g : Gl w) (hB : B ≤ w.heap.size) {f i : Int} (hf : I64 f) (hi : I64 i) (s : List UInt8) (hs : s.length ≤ 1000000000) :
    Calls Tryz.prog 165 #[.pointer (some ⟨r.db, 0, none⟩), .int .i64 f, .int .i64 i, .string ⟨s.toArray⟩] w fun e w' => e = .returned (.int .i64 (Dk.write D f i s).2) ∧ DiskTo B r (Dk.write D f i s).1 w w' := by
  have hgb := g.big
  have he := Lib.hid (ends_c h)
  have H := Lib.hid h
  have HB := Lib.hid hB
  have HS := Lib.hid (And.intro hf (And.intro hi hs))
  clear h hB hs hf hi
  go_enter Tryz.func165, Tryz.ntmps165
  go_wp2_with fail
  (with_reducible refine (he.out).mono ?_)
  rintro _ w1 ⟨rfl, hT1⟩
  obtain ⟨r1, h1, e1, u1, f1⟩ := hT1
  have hw := write0_c h1 (g.upd u1) (Nat.le_trans HB.out u1.size) HS.out.1 HS.out.2.1 s HS.out.2.2
  rw [e1] at hw
  have Hw := Lib.hid hw
  have H1 := Lib.hid (And.intro h1 (And.intro u1 f1))
  clear hw he h1 u1 f1
  generalize hE : Dk.ends D = E at *
  go_wp2_with fail
  (with_reducible refine (Hw.out).mono ?_)
  rintro _ w2 ⟨rfl, hT2⟩
  obtain ⟨r2, h2, e2, u2, f2⟩ := hT2
  have e3 := e2.trans e1
  have H2 : Hid (DiskTo B r (Dk.write0 (Dk.counted D) f i s).1 w w2) := DiskTo.then_ H.out H1.out.1 e1 H1.out.2.1 H1.out.2.2 ⟨r2, h2, e2, u2, f2⟩
  cases E with
  | false =>
    have hr : Hid (Dk.write D f i s = Dk.write0 (Dk.counted D) f i s) := by show _ = _; unfold Dk.write; rw [hE, if_neg (by decide)]
    clear hE h2 u2 f2
    go_wp2_with fail
    go_ret
    exact ⟨by rw [hr.out]; rfl, by rw [hr.out]; exact H2.out⟩
  | true =>
    have hr : Hid (Dk.write D f i s = (Dk.crash (Dk.write0 (Dk.counted D) f i s).1 (Dk.write0 (Dk.counted D) f i s).1.keep, 8)) := by show _ = _; unfold Dk.write; rw [hE, if_pos rfl, write0_keep]
    have c6 := h2.cells.2.2.2.2.2.2
    rw [e3] at c6
    have g2 := (g.upd H1.out.2.1).upd u2
    have hc := crash_c h2 g2 (Nat.le_trans HB.out (Nat.le_trans H1.out.2.1.size u2.size)) B w2.heap.size r2.kv (Dk.write0 (Dk.counted D) f i s).1.keep (keep_sl h2) h2.kI
    rw [e3] at hc
    obtain ⟨ak, ck, hkv⟩ := own_slD h2.keep
    rw [hkv] at hc c6
    have Hc := Lib.hid hc
    have h2' := Lib.hid (And.intro h2 (And.intro u2 f2))
    clear hc h2 u2 f2 hE
    go_wp2_with fail
    (with_reducible refine (Hc.out).mono ?_)
    rintro _ w3 ⟨rfl, hT3⟩
    go_wp2_with fail
    go_ret
    exact ⟨by rw [hr.out]; rfl, by rw [hr.out]; exact DiskTo.then_ H.out h2'.out.1 e3 (H1.out.2.1.trans' h2'.out.2.1 (fun k hk e => (H1.out.2.2 k e).elim id (fun e4 => by omega))) (fun j hj => (h2'.out.2.2 j hj).elim (fun e4 => H1.out.2.2 j e4) (fun e4 => Or.inr (Nat.le_trans H1.out.2.1.size e4))) hT3⟩
end Go.Proofs.YtagmlemlagbfkaaGreatDoor
namespace Go.Proofs.YtagmlemlagbfkaaGreatDoor
open Go.RowKit
set_option linter.unusedVariables false
set_option linter.unusedSimpArgs false
attribute [local irreducible] Calls

set_option maxRecDepth 100000 in
theorem index_iU (lo0 hi0 : Nat) (v : Value) (l : List Int) (t : Int) (w : World) (hv : Sl lo0 hi0 w v (l.map intD)) (hl : l.length ≤ 1000000) :
    Calls Tryz.prog 156 #[v, .int .i64 t] w fun e w' => e = .returned (.int .i64 (idxI (fun x => decide (x = t)) l)) ∧ w = w' := by
  obtain ⟨a, cap, rfl, -, hc⟩ := int_cells hv
  have HC := Lib.hid hc
  have hl1 : (l.length : Int) ≤ 1000000 := by omega
  clear hv hc
  go_enter Tryz.func156, Tryz.ntmps156
  go_wp2_with fail
  go_loopw [8] (fun i wr => ∃ n : Nat, n ≤ l.length ∧ i = .int .i64 (n : Int) ∧ Hid (∀ j (h : j < l.length), j < n → (decide (l[j] = t)) = false) ∧ w = wr) (fun i _ => l.length - (intOf i).toNat)
  case atStart => exact ⟨0, Nat.zero_le _, rfl, fun j _ h => absurd h (Nat.not_lt_zero _), rfl⟩
  case round =>
    obtain ⟨n, hn, rfl, hall, rfl⟩ := hrel
    by_cases hlt : n < l.length
    · have hlt1 : (n : Int) < l.length := by omega
      rcases HC.out with hnil | ⟨b, off, rfl, _, _, hcell⟩
      · simp [hnil] at hlt
      have c0 := hcell n hlt
      have hnext : l[n] ≠ t → Hid (∀ j (h : j < l.length), j < n + 1 → (decide (l[j] = t)) = false) := fun e j h hj => by
        by_cases ej : j = n
        · subst ej; exact decide_eq_false e
        · exact hall.out j h (by omega)
      have hstop : l[n] = t → Hid (idxI (fun x => decide (x = t)) l = n) := fun e => idx_hit hlt (decide_eq_true e) hall.out
      clear hcell
      generalize l[n] = x at *
      by_cases he : x = t
      · have hr := hstop he
        have htt : (t == x) = true := by simp [he]
        clear hstop hnext
        subst he
        go_wp2_with fail
        go_ret
        rw [hr.out]
        exact ⟨rfl, rfl⟩
      · have hz := hnext he
        have htt : (t == x) = false := by simp; exact fun e => he e.symm
        clear hstop hnext he
        go_wp2_with fail
        go_roundw
        case rel => exact ⟨n + 1, by omega, by go_num, hz, by first | rfl | trivial⟩
        case measure => simp [intOf]; omega
    · obtain rfl : n = l.length := by omega
      have hr : Hid (idxI (fun x => decide (x = t)) l = -1) := idx_miss (fun j h => hall.out j h h)
      clear hall
      go_wp2_with fail
      go_ret
      rw [hr.out]
      exact ⟨rfl, rfl⟩
theorem idx_memI (l : List Int) (t : Int) : decide (0 ≤ idxI (fun x => decide (x = t)) l) = decide (t ∈ l) := by
  rw [idx_any, Bool.eq_iff_iff]; simp
set_option maxRecDepth 100000 in
theorem contains_iU (lo0 hi0 : Nat) (v : Value) (l : List Int) (t : Int) (w : World) (hv : Sl lo0 hi0 w v (l.map intD)) (hl : l.length ≤ 1000000) :
    Calls Tryz.prog 103 #[v, .int .i64 t] w fun e w' => e = .returned (.bool (decide (t ∈ l))) ∧ w = w' := by
  have hi := Lib.hid (index_iU lo0 hi0 v l t w hv hl)
  have hm := Lib.hid (idx_memI l t)
  obtain ⟨a, cap, rfl, -, -⟩ := int_cells hv
  clear hv
  generalize idxI (fun x => decide (x = t)) l = ix at *
  go_enter Tryz.func103, Tryz.ntmps103
  go_wp2_with fail
  (with_reducible refine (hi.out).mono ?_)
  rintro _ _ ⟨rfl, rfl⟩
  go_wp2_with fail
  go_ret
  exact ⟨by rw [← hm.out]; rfl, rfl⟩
theorem contains_iN (lo0 hi0 : Nat) (v : Value) (l : List Int) (t : Int) (w : World) (hv : Sl lo0 hi0 w v (l.map intD)) (hl : l.length ≤ 1000000) :
    Calls Tryz.prog 103 #[v, .int .i64 t] w fun e w' => e = .returned (.bool (decide (t ∈ l))) ∧ Nw w w' :=
  (contains_iU lo0 hi0 v l t w hv hl).mono fun _ _ ⟨h, e⟩ => ⟨h, by rw [← e]; exact Upd.refl _ _⟩
abbrev tManU : TypeId := 82
set_option maxHeartbeats 1000000 in
set_option maxRecDepth 100000 in
theorem check_c (lo hi lo2 hi2 : Nat) (v : Value) (cs : List (List UInt8)) (p z : Int) (cv : Value) (l : List Int) (i : Int) (hi64 : I64 i) (t : List UInt8) (w : World) (hv : Sl lo hi w v (cs.map bsMU)) (hl : cs.length ≤ 90) (hc : Sl lo2 hi2 w cv (l.map intD)) (hl2 : l.length ≤ 1000000) :
    Calls Tryz.prog 110 #[v, .agg #[.int .i64 p, .int .i64 z, cv], .int .i64 i, .string ⟨t.toArray⟩] w fun e w' => e = .returned (.bool (Ft.checkM cs l i t)) ∧ Nw w w' := by
  obtain ⟨a, cap, rfl, -, hcc⟩ := int_cells hc
  have HC := Lib.hid (hc.nw (nw_alloc w (.cells #[.int .i64 p, .int .i64 z, .slice a l.length cap] tManU)))
  have HCC := Lib.hid (int_cells HC.out)
  have n1 := nw_alloc w (.cells #[.int .i64 p, .int .i64 z, .slice a l.length cap] tManU)
  have HT := Lib.hid (fun n : Int => ctext_wU lo hi v cs n _ (hv.nw n1) hl)
  obtain ⟨a1, c1, rfl, -⟩ := strs_cellsU hv
  have hl3 : (l.length : Int) ≤ 1000000 := by omega
  have HU := Lib.hid n1
  clear hv hc hcc n1
  unfold I64 at hi64
  obtain ⟨hi1, hi2'⟩ := hi64
  by_cases h0 : i < 0
  · have d0 : decide (i < 0) = true := decide_eq_true h0
    have hr : Hid (Ft.checkM cs l i t = false) := by
      show _ = _
      unfold Ft.checkM; rw [decide_eq_false (show ¬ 0 ≤ i by omega)]; rfl
    clear h0
    go_enter Tryz.func110, Tryz.ntmps110
    go_wp2_with fail
    go_ret
    exact ⟨by rw [hr.out]; rfl, HU.out⟩
  have d0 : decide (i < 0) = false := decide_eq_false h0
  by_cases h1 : (l.length : Int) ≤ i
  · have d1 : decide ((l.length : Int) ≤ i) = true := decide_eq_true h1
    have hr : Hid (Ft.checkM cs l i t = false) := by
      show _ = _
      unfold Ft.checkM; rw [decide_eq_false (show ¬ i < l.length by omega)]; simp
    clear h1 h0
    go_enter Tryz.func110, Tryz.ntmps110
    go_wp2_with fail
    go_ret
    exact ⟨by rw [hr.out]; rfl, HU.out⟩
  have d1 : decide ((l.length : Int) ≤ i) = false := decide_eq_false h1
  obtain ⟨k, rfl⟩ : ∃ k : Nat, i = k := ⟨i.toNat, by omega⟩
  have hk : k < l.length := by omega
  have hr : Hid (Ft.checkM cs l k t = (hasAtU cs l[k] && decide (textAtU cs l[k] = t))) := by
    show _ = _
    unfold Ft.checkM
    rw [decide_eq_true (show (0 : Int) ≤ (k : Int) by omega), decide_eq_true (show (k : Int) < l.length by omega)]
    simp [hk]
  rcases HCC.out with ⟨_, _, e, _, hnil | ⟨b, off, e2, _, _, hcell⟩⟩
  · simp [hnil] at hk
  injection e with e3 e4 e5
  subst e3 e5
  subst e2
  have c0 := hcell k hk
  have hk1 : (k : Int) < l.length := by omega
  have HT1 := Lib.hid (HT.out l[k])
  clear hcell h0 h1 HCC HC HT
  generalize l[k] = n at *
  have htt : (textAtU cs n == t) = decide (textAtU cs n = t) := by rw [Bool.eq_iff_iff]; simp
  go_enter Tryz.func110, Tryz.ntmps110
  go_wp2_with fail
  (with_reducible refine (HT1.out).mono ?_)
  rintro _ w2 ⟨rfl, u2⟩
  have HU2 := Lib.hid (HU.out.trans u2)
  clear u2 HT1
  cases hh : hasAtU cs n with
  | false =>
    rw [hh] at hr
    have hr2 : Hid (Ft.checkM cs l k t = false) := hr.out
    clear hr hh
    go_wp2_with fail
    go_ret
    exact ⟨by rw [hr2.out]; rfl, HU2.out⟩
  | true =>
    rw [hh] at hr
    have hr2 : Hid (Ft.checkM cs l k t = decide (textAtU cs n = t)) := hr.out
    clear hr hh
    go_wp2_with fail
    go_ret
    exact ⟨by rw [hr2.out, ← htt]; rfl, HU2.out⟩
end Go.Proofs.YtagmlemlagbfkaaGreatDoor
namespace Go.Proofs.YtagmlemlagbfkaaGreatDoor
open Go.RowKit
set_option linter.unusedVariables false
set_option linter.unusedSimpArgs false
attribute [local irreducible] Calls

theorem infoIntU : (Tryz.prog.info? 3).map (fun i => (i.zero, i.size, i.bytes)) = some (some (.int .i64 0), 1, 8) := by kernel_rfl
/-- What is missing, after n rounds. -/
theorem miss_take {l hv : List Int} {n : Nat} (h : n < l.length) : Ft.miss (l.take (n + 1)) hv = Ft.miss (l.take n) hv ++ if l[n] ∈ hv then [] else [(n : Int)] := by
  rw [List.take_succ_eq_append_getElem h, Ft.miss_snoc, List.length_take, Nat.min_eq_left (by omega)]
set_option maxHeartbeats 2000000 in
set_option maxRecDepth 100000 in
theorem missing_c (lo hi lo2 hi2 : Nat) (p z : Int) (cv : Value) (l : List Int) (hv : Value) (have_ : List Int) (w : World) (g : Gl w) (hc : Sl lo hi w cv (l.map intD)) (hh : Sl lo2 hi2 w hv (have_.map intD)) (hl : l.length ≤ 1000000) (hl2 : have_.length ≤ 1000000) :
    Calls Tryz.prog 108 #[.agg #[.int .i64 p, .int .i64 z, cv], hv] w fun e w' => ∃ v', e = .returned v' ∧ w'.ownsRow w.heap.size 3 1 v' (Ft.miss l have_).length ((Ft.miss l have_).map intD) ∧ Nw w w' := by
  have hgb := g.big
  obtain ⟨a, cap, rfl, -, -⟩ := int_cells hc
  have n1 := nw_alloc w (.cells #[.int .i64 p, .int .i64 z, .slice a l.length cap] tManU)
  have HC := Lib.hid (int_cells (hc.nw n1))
  have HK := Lib.hid (fun (n : Int) (wr : World) (u : Nw w wr) => contains_iU lo2 hi2 hv have_ n wr (hh.nw u) hl2)
  obtain ⟨ah, caph, rfl, -, -⟩ := int_cells hh
  have hl3 : (l.length : Int) ≤ 1000000 := by omega
  have HU := Lib.hid n1
  have HS : Hid (w.heap.size ≤ (w.alloc (.cells #[.int .i64 p, .int .i64 z, .slice a l.length cap] tManU)).heap.size) := n1.size
  clear hc hh n1
  go_enter Tryz.func108, Tryz.ntmps108
  go_wp2_with fail
  go_loopw [5, 11] (fun vo iv wr => ∃ n : Nat, n ≤ l.length ∧ iv = .int .i64 (n : Int) ∧ Hid (wr.ownsRow (w.heap.size + 1) 3 1 vo (Ft.miss (l.take n) have_).length ((Ft.miss (l.take n) have_).map intD)) ∧ Hid (Nw (w.alloc (.cells #[.int .i64 p, .int .i64 z, .slice a l.length cap] tManU)) wr)) (fun vo iv _ => l.length - (intOf iv).toNat)
  case atStart => exact ⟨0, Nat.zero_le _, rfl, World.ownsRow_nil _ _ _ _, Upd.refl _ _⟩
  case round =>
    obtain ⟨n, hn, rfl, HO, U⟩ := hrel
    obtain ⟨ao, capo, rfl⟩ := own_slG HO.out
    by_cases hlt : n < l.length
    · rcases HC.out with ⟨_, _, e, _, hnil | ⟨b, off, e2, _, _, hcell⟩⟩
      · simp [hnil] at hlt
      injection e with e3 e4 e5
      subst e3 e5
      subst e2
      have c0 := later_cell ⟨wr, U.out⟩ (hcell n hlt)
      have hlt1 : (n : Int) < l.length := by omega
      have HT := Lib.hid (miss_take (hv := have_) hlt)
      have hml := Ft.miss_len (l.take n) have_
      rw [List.length_take] at hml
      have hml2 : (Ft.miss (l.take n) have_).length ≤ 1000000 := by omega
      have hk := Lib.hid (HK.out l[n] wr (HU.out.trans U.out))
      clear hcell hml
      generalize l[n] = x at *
      by_cases hm : x ∈ have_
      · have hy : Hid (Calls Tryz.prog 103 #[.slice ah have_.length caph, .int .i64 x] wr fun e w' => e = .returned (.bool true) ∧ wr = w') := by rw [← decide_eq_true hm]; exact hk.out
        have hfin : Hid (wr.ownsRow (w.heap.size + 1) 3 1 (.slice ao (Ft.miss (l.take n) have_).length capo) (Ft.miss (l.take (n + 1)) have_).length ((Ft.miss (l.take (n + 1)) have_).map intD)) := by
          show wr.ownsRow _ _ _ _ _ _
          rw [HT.out, if_pos hm, List.append_nil]; exact HO.out
        clear hk HT hm
        go_wp2_with fail
        (with_reducible refine (hy.out).mono ?_)
        rintro _ _ ⟨rfl, rfl⟩
        go_wp2_with fail
        go_roundw
        case rel => exact ⟨n + 1, by omega, by go_num, hfin, U⟩
        case measure => simp [intOf]; omega
      · have hy : Hid (Calls Tryz.prog 103 #[.slice ah have_.length caph, .int .i64 x] wr fun e w' => e = .returned (.bool false) ∧ wr = w') := by rw [← decide_eq_false hm]; exact hk.out
        have HT2 : Hid (Ft.miss (l.take (n + 1)) have_ = Ft.miss (l.take n) have_ ++ [(n : Int)]) := by
          have := HT.out
          rw [if_neg hm] at this
          exact this
        have hsz : w.heap.size + 1 ≤ wr.heap.size := by have := U.out.size; simpa using this
        clear hk HT hm
        go_wp2_with fail
        (with_reducible refine (hy.out).mono ?_)
        rintro _ _ ⟨rfl, rfl⟩
        go_wp2_with (at_builtin; refine wpList_appL rfl _ _ 22 rfl (w.heap.size + 1) 3 _ 1 8 Tryz.underlying22 infoIntU rfl (by decide) _ _ _ rfl HO.out [.int .i64 (n : Int)] rfl rfl ?c1 ?c2 ?c3 hsz (by omega) ?_)
        case c1 => intro u hu; rw [List.mem_singleton.1 hu]; rfl
        case c2 => unfold maxLen; omega
        case c3 => omega
        intro v' w9 hown9 u9 hob
        obtain ⟨a9, cap9, rfl⟩ := own_slG hown9
        have hfin : Hid (w9.ownsRow (w.heap.size + 1) 3 1 (.slice a9 ((Ft.miss (l.take n) have_).length + 1) cap9) (Ft.miss (l.take (n + 1)) have_).length ((Ft.miss (l.take (n + 1)) have_).map intD)) := by
          show w9.ownsRow _ _ _ _ _ _
          rw [HT2.out, List.length_append, List.length_singleton, List.map_append]
          exact hown9
        have hU := Lib.hid (U.out.trans' u9 (fun j hj e => by
          have h1 := (HO.out.lt j e).1
          simp at hj; omega))
        clear hown9 u9 hob
        go_wp2_with fail
        go_roundw
        case rel => exact ⟨n + 1, by omega, by go_num, hfin, hU⟩
        case measure => simp [intOf]; omega
    · obtain rfl : n = l.length := by omega
      simp only [List.take_length] at HO ⊢
      go_wp2_with fail
      go_ret
      exact ⟨_, rfl, owns_base HO.out (by omega), HU.out.trans U.out⟩
theorem cutp_c (r s : List UInt8) (w : World) : Calls Tryz.prog 157 #[.string ⟨r.toArray⟩, .string ⟨s.toArray⟩] w fun e w' => e = .returned (.tuple #[.string ⟨(Lib.trimPrefix r s).toArray⟩, .bool (s.isPrefixOf r)]) ∧ w = w' :=
  (CutPrefix_c ⟨r.toArray⟩ ⟨s.toArray⟩ w).mono fun e w' ⟨he, hw⟩ => ⟨by rw [he, bs_list, bs_list]; rfl, hw⟩
theorem eats_step (cs : List (List UInt8)) (l : List Int) (n : Nat) (h : n < l.length) (r : List UInt8) :
    Ft.eats cs (l.drop n) r = ((hasAtU cs l[n] && !(textAtU cs l[n]).isEmpty && decide ((textAtU cs l[n]).length ≤ 4096) && (textAtU cs l[n]).isPrefixOf r) && Ft.eats cs (l.drop (n + 1)) (r.drop (textAtU cs l[n]).length)) := by
  rw [List.drop_eq_getElem_cons h]; rfl
set_option maxHeartbeats 4000000 in
set_option maxRecDepth 100000 in
theorem right_c (lo hi lo2 hi2 : Nat) (v : Value) (cs : List (List UInt8)) (p z : Int) (cv : Value) (l : List Int) (w : World) (g : Gl w) (hv : Sl lo hi w v (cs.map bsMU)) (hl : CntOkU cs) (hn : cs.Nodup) (hc : Sl lo2 hi2 w cv (l.map intD)) (hl2 : l.length ≤ 1000000) :
    Calls Tryz.prog 104 #[v, .agg #[.int .i64 p, .int .i64 z, cv]] w fun e w' => e = .returned (.bool (Ft.rightM cs ⟨p, z, l⟩)) ∧ Nw w w' := by
  obtain ⟨a, cap, rfl, -, -⟩ := int_cells hc
  have n1 := nw_alloc w (.cells #[.int .i64 p, .int .i64 z, .slice a l.length cap] tManU)
  have bx := heap_new w (.cells #[.int .i64 p, .int .i64 z, .slice a l.length cap] tManU)
  have HC := Lib.hid (int_cells (hc.nw n1))
  have HT := Lib.hid (fun (n : Int) (wr : World) (u : Nw w wr) => ctext_wU lo hi v cs n wr (hv.nw u) hl.n)
  have HR := Lib.hid (fun (wr : World) (u : Nw w wr) => right_w37U lo hi v cs wr (g.upd u) (hv.nw u) hl hn)
  obtain ⟨a1, c1, rfl, -⟩ := strs_cellsU hv
  have hl3 : (l.length : Int) ≤ 1000000 := by omega
  have HU := Lib.hid n1
  have HB := Lib.hid bx
  have ht1 := Lib.hid (HT.out p _ n1)
  have htx : ∀ p, (textAtU cs p).length ≤ 100 := fun p => by
    unfold textAtU
    split
    · rw [List.getD_eq_getElem?_getD]
      cases he : cs[p.toNat]? with
      | none => simp
      | some x => exact hl.s x (List.mem_of_getElem? he)
    · simp
  have HTL := Lib.hid htx
  have htl := htx p
  clear htx
  have hdef : Ft.rightM cs ⟨p, z, l⟩ = (hasAtU cs p && decide (z = (textAtU cs p).length) && decide (l.length ≤ 1000) && Ft.eats cs l (textAtU cs p)) := rfl
  have HD := Lib.hid hdef
  clear hv hc n1 bx hl hdef
  generalize Ft.rightM cs ⟨p, z, l⟩ = res at *
  generalize hasAtU cs p = hb at *
  generalize textAtU cs p = t at *
  have htl1 : (t.length : Int) ≤ 100 := by omega
  clear htl
  go_enter Tryz.func104, Tryz.ntmps104
  go_wp2_with fail
  (with_reducible refine (ht1.out).mono ?_)
  rintro _ w2 ⟨rfl, u2⟩
  have HU2 := Lib.hid (HU.out.trans u2)
  have HB2 := Lib.hid (Nw.keep u2 HB.out)
  have U2 := Lib.hid u2
  have hr2 := Lib.hid (HR.out w2 HU2.out)
  clear u2 HR ht1 HB HU
  cases hb with
  | false =>
    have h0 : Hid (res = false) := by show _ = _; have := HD.out; simpa using this
    clear HD
    go_wp2_with fail
    go_ret
    exact ⟨by rw [h0.out]; rfl, HU2.out⟩
  | true =>
    have k1 : w2.cell? ⟨w.heap.size, 1, none⟩ = some (.int .i64 z) := by simp [World.cell?, HB2.out]
    have k2 : w2.cell? ⟨w.heap.size, 2, none⟩ = some (.slice a l.length cap) := by simp [World.cell?, HB2.out]
    have HB3 := Lib.hid (fun (w3 : World) (u3 : Nw w2 w3) => (show w3.cell? ⟨w.heap.size, 1, none⟩ = some (.int .i64 z) ∧ w3.cell? ⟨w.heap.size, 2, none⟩ = some (.slice a l.length cap) from ⟨by simp [World.cell?, Nw.keep u3 HB2.out], by simp [World.cell?, Nw.keep u3 HB2.out]⟩))
    clear k1 k2 HB2
    by_cases hz : z = t.length
    · have hz1 : (z == (t.length : Int)) = true := by simp [hz]
      have hz2 : (z != (t.length : Int)) = false := by simp [hz]
      have hz3 : Hid (decide (z = (t.length : Int)) = true) := decide_eq_true hz
      clear hz
      by_cases hk : l.length ≤ 1000
      · have hk1 : decide ((1000 : Int) < l.length) = false := decide_eq_false (by omega)
        have hk2 : (l.length : Int) ≤ 1000 := by omega
        have HD2 : Hid (res = Ft.eats cs l t) := by
          show _ = _
          have := HD.out
          rw [hz3.out, decide_eq_true hk] at this
          simpa using this
        clear HD hk hz3
        go_wp2_with fail
        (with_reducible refine (hr2.out).mono ?_)
        rintro _ w3 ⟨rfl, u3⟩
        obtain ⟨k1, k2⟩ := HB3.out w3 u3
        have HU3 := Lib.hid (HU2.out.trans u3)
        have HC3 := Lib.hid (HC.out)
        have U3 := Lib.hid (U2.out.trans u3)
        clear u3 HB3 hr2
        go_wp2_with fail
        go_loopw [5, 43] (fun tv iv wr => ∃ (n : Nat) (r : List UInt8), n ≤ l.length ∧ r.length ≤ 100 ∧ iv = .int .i64 (n : Int) ∧ tv = .string ⟨r.toArray⟩ ∧ Hid (res = Ft.eats cs (l.drop n) r) ∧ Hid (Nw w3 wr)) (fun tv iv _ => l.length - (intOf iv).toNat)
        case atStart => exact ⟨0, t, Nat.zero_le _, by omega, rfl, rfl, HD2, Upd.refl _ _⟩
        case round =>
          obtain ⟨n, r, hn, hr, rfl, rfl, HE, U⟩ := hrel
          by_cases hlt : n < l.length
          · rcases HC.out with ⟨_, _, e, _, hnil | ⟨b, off, e2, _, _, hcell⟩⟩
            · simp [hnil] at hlt
            injection e with e3 e4 e5
            subst e3 e5
            subst e2
            have c0 := later_cell ⟨wr, U3.out.trans U.out⟩ (hcell n hlt)
            have hlt1 : (n : Int) < l.length := by omega
            have HS := Lib.hid (eats_step cs l n hlt r)
            have hx := Lib.hid (HT.out l[n] wr (HU3.out.trans U.out))
            have hsl : (textAtU cs l[n]).length ≤ 100 := HTL.out _
            clear hcell
            generalize l[n] = x at *
            generalize hasAtU cs x = hb at *
            generalize textAtU cs x = s at *
            have hs1 : decide ((4096 : Int) < s.length) = false := decide_eq_false (by omega)
            have hs2 : (s.length : Int) ≤ 100 := by omega
            have hs3 : Hid (decide (s.length ≤ 4096) = true) := decide_eq_true (by omega)
            have hr1 : (r.length : Int) ≤ 100 := by omega
            go_wp2_with fail
            (with_reducible refine (hx.out).mono ?_)
            rintro _ w4 ⟨rfl, u4⟩
            have U4 := Lib.hid (U.out.trans u4)
            clear hx u4
            go_wp2_with fail
            (with_reducible refine (cutp_c _ _ _).mono ?_)
            rintro _ _ ⟨rfl, rfl⟩
            cases hb with
            | false =>
              have h0 : Hid (res = false) := by show _ = _; rw [HE.out, HS.out]; rfl
              clear HS HE
              go_wp2_with fail
              go_ret
              exact ⟨by rw [h0.out]; rfl, HU3.out.trans U4.out⟩
            | true =>
              by_cases hem : s = []
              · have h0 : Hid (res = false) := by show _ = _; rw [HE.out, HS.out, hem]; rfl
                have h1 : s.isEmpty = true := by rw [hem]; rfl
                clear HS HE hem
                go_wp2_with fail
                go_ret
                exact ⟨by rw [h0.out]; rfl, HU3.out.trans U4.out⟩
              · have h1 : s.isEmpty = false := by cases s <;> simp_all
                cases hp : s.isPrefixOf r with
                | false =>
                  have h0 : Hid (res = false) := by show _ = _; rw [HE.out, HS.out, hp]; simp
                  clear HS HE hem
                  go_wp2_with fail
                  go_ret
                  exact ⟨by rw [h0.out]; rfl, HU3.out.trans U4.out⟩
                | true =>
                  have h0 : Hid (res = Ft.eats cs (l.drop (n + 1)) (r.drop s.length)) := by show _ = _; rw [HE.out, HS.out, hp, h1, hs3.out]; simp
                  have h3 : Hid (Lib.trimPrefix r s = r.drop s.length) := by show _ = _; unfold Lib.trimPrefix Lib.hasPrefix; rw [hp]; rfl
                  clear HS HE hem
                  go_wp2_with fail
                  go_roundw
                  case rel => exact ⟨n + 1, r.drop s.length, by omega, by rw [List.length_drop]; omega, by go_num, by rw [h3.out], h0, U4⟩
                  case measure => simp [intOf]; omega
          · obtain rfl : n = l.length := by omega
            rw [List.drop_of_length_le (Nat.le_refl _)] at HE
            have HE2 : Hid (res = r.isEmpty) := HE.out
            go_wp2_with fail
            go_ret
            exact ⟨by rw [HE2.out]; rfl, HU3.out.trans U.out⟩
      · have hk1 : decide ((1000 : Int) < l.length) = true := decide_eq_true (by omega)
        have h0 : Hid (res = false) := by
          show _ = _
          have := HD.out
          rw [decide_eq_false hk] at this
          simpa using this
        clear HD hz3 hk
        go_wp2_with fail
        (with_reducible refine (hr2.out).mono ?_)
        rintro _ w3 ⟨rfl, u3⟩
        obtain ⟨k1, k2⟩ := HB3.out w3 u3
        have HU3 := Lib.hid (HU2.out.trans u3)
        clear u3 HB3
        go_wp2_with fail
        go_ret
        exact ⟨by rw [h0.out]; rfl, HU3.out⟩
    · have hz1 : (z == (t.length : Int)) = false := by simp [hz]
      have hz2 : (z != (t.length : Int)) = true := by simp [hz]
      have h0 : Hid (res = false) := by
        show _ = _
        have := HD.out
        rw [decide_eq_false hz] at this
        simpa using this
      clear HD hz
      go_wp2_with fail
      (with_reducible refine (hr2.out).mono ?_)
      rintro _ w3 ⟨rfl, u3⟩
      obtain ⟨k1, k2⟩ := HB3.out w3 u3
      have HU3 := Lib.hid (HU2.out.trans u3)
      clear u3 HB3
      go_wp2_with fail
      go_ret
      exact ⟨by rw [h0.out]; rfl, HU3.out⟩
end Go.Proofs.YtagmlemlagbfkaaGreatDoor
namespace Go.Proofs.YtagmlemlagbfkaaGreatDoor
open Go.RowKit
set_option linter.unusedVariables false
set_option linter.unusedSimpArgs false
attribute [local irreducible] Calls

set_option maxHeartbeats 1000000 in
set_option maxRecDepth 100000 in
theorem grow_i (n : Nat) (hn : n ≤ 1000000) (w : World) (g : Gl w) :
    Calls Tryz.prog 163 #[.slice none 0 0, .int .i64 n] w fun e w' => ∃ v', e = .returned v' ∧ w'.ownsRow w.heap.size 3 1 v' 0 [] ∧ Nw w w' := by
  by_cases h0 : n = 0
  · subst h0
    go_enter Tryz.func163, Tryz.ntmps163
    go_wp2_with fail
    go_ret
    exact ⟨_, rfl, World.ownsRow_nil _ _ _ _, Upd.refl _ _⟩
  · obtain ⟨i0, hi, hz0, hz1, hz2⟩ := info_parts infoIntU
    have hold : (Builtin.firstCells i0.size 0 (.slice none 0 0)).run Tryz.prog w.drew = .ok ([] : List Value).toArray w.drew := run_firstCells_none _ i0.size 0 0 0
    have hrz := fun ty => Lib.run_append_grow_zeros w 22 3 ty 3 i0 _ .i64 .i64 Tryz.underlying22 Tryz.underlying3 hi hz0 none 0 0 [] hold n (by omega) (by omega) (by omega) (by omega) (by rw [hz2]; omega) (by
      rw [hz2]
      have : Builtin.nextslicecap (0 + n) 0 ≤ 0 + n := by unfold Builtin.nextslicecap; rw [if_pos (by omega)]; exact Nat.le_refl _
      omega)
    have hG1 := grownCap_ge w (0 + n) 0 3
    have hG2 := grownCap_le_maxLen w (0 + n) 0 3 (by unfold maxLen; omega)
    rw [Nat.zero_add] at hG1 hG2
    simp only [Nat.zero_add] at hrz
    generalize grownCap w n 0 3 = G at *
    have hG63 : G ≤ 9223372036854775807 := by unfold maxLen at hG2; exact hG2
    have hn1 : (n : Int) ≤ 1000000 := by omega
    have hn2 : (1 : Int) ≤ n := by omega
    have hfin : Hid ((w.alloc (.cells (Builtin.zeroCells #[Value.int IntKind.i64 0] n ++ Builtin.zeroCells #[Value.int IntKind.i64 0] (G - n)) 3)).drew.ownsRow w.heap.size 3 1 (.slice (some ⟨w.heap.size, 0, none⟩) 0 G) 0 [] ∧ Nw w (w.alloc (.cells (Builtin.zeroCells #[Value.int IntKind.i64 0] n ++ Builtin.zeroCells #[Value.int IntKind.i64 0] (G - n)) 3)).drew) := by
      refine ⟨⟨rfl, Or.inr ⟨w.heap.size, G, _, rfl, Nat.le_refl _, heap_new w _, Nat.zero_le _, hG2, ?_, by simp⟩⟩, ((Upd.refl _ w).alloc _).drew⟩
      simp [Builtin.zeroCells]; omega
    clear hold hG2 hi hz0 hz1 hz2
    go_enter Tryz.func163, Tryz.ntmps163
    go_wp2_with (at_builtin; refine Lib.wpList_append_run _ rfl _ _ _ _ rfl _ _ rfl rfl _ _ (hrz _) ?_)
    go_ret
    exact ⟨_, rfl, hfin.out⟩
/-! ### Lists of lists of numbers in memory -/
/-- The slices of C's numbers, beside a slice of them. -/
structure RowsI (w : World) (v : Value) (C : List (Value × List Int)) : Prop where
  sl : ∃ lo hi, Sl lo hi w v (C.map (·.1))
  each : ∀ c ∈ C, ∃ lo hi, Sl lo hi w c.1 (c.2.map intD)
theorem RowsI.nw {w w' : World} {v : Value} {C : List (Value × List Int)} (h : RowsI w v C) (u : Nw w w') : RowsI w' v C := by
  obtain ⟨lo, hi, hs⟩ := h.sl
  refine ⟨⟨lo, hi, hs.nw u⟩, fun c hc => ?_⟩
  obtain ⟨lo2, hi2, h2⟩ := h.each c hc
  exact ⟨lo2, hi2, h2.nw u⟩
theorem RowsI.cells {w : World} {v : Value} {C : List (Value × List Int)} (h : RowsI w v C) :
    ∃ a cap, v = .slice a C.length cap ∧ C.length ≤ maxLen ∧ (C = [] ∨ ∃ b off, a = some ⟨b, off, none⟩ ∧ b < w.heap.size ∧ ∀ i (h : i < C.length), w.cell? ⟨b, off + i, none⟩ = some C[i].1) := by
  obtain ⟨lo, hi, hs⟩ := h.sl
  obtain ⟨a, cap, rfl, hm, hc⟩ := hs.open_
  rw [List.length_map] at hm
  refine ⟨a, cap, by rw [List.length_map], hm, ?_⟩
  rcases hc with ⟨_, _, hnil⟩ | ⟨b, off, rfl, _, _, hb, hc⟩
  · exact Or.inl (List.map_eq_nil_iff.1 hnil)
  · exact Or.inr ⟨b, off, rfl, hb, fun i hi => by rw [hc i (by rw [List.length_map]; exact hi), List.getElem?_map, List.getElem?_eq_getElem hi]; rfl⟩
def totL (C : List (Value × List Int)) : Nat := ((C.map (·.2)).flatten).length
theorem tot_take {C : List (Value × List Int)} {n : Nat} (h : n < C.length) : totL (C.take (n + 1)) = totL (C.take n) + C[n].2.length := by
  unfold totL
  rw [List.take_succ_eq_append_getElem h, List.map_append, List.flatten_append, List.length_append]
  simp
theorem flat_take {C : List (Value × List Int)} {n : Nat} (h : n < C.length) : ((C.take (n + 1)).map (·.2)).flatten = ((C.take n).map (·.2)).flatten ++ C[n].2 := by
  rw [List.take_succ_eq_append_getElem h, List.map_append, List.flatten_append]
  simp
def ivL (l : List Int) : List Value := l.map intD
theorem ivL_len (l : List Int) : (ivL l).length = l.length := List.length_map _
theorem ivL_one (l : List Int) : ∀ u ∈ ivL l, u.oneCell' = true := by
  intro u hu
  obtain ⟨x, _, rfl⟩ := List.mem_map.1 hu
  rfl
def catN (C : List (Value × List Int)) (n : Nat) : List Value := (((C.take n).map (·.2)).flatten).map intD
theorem catN_succ {C : List (Value × List Int)} {n : Nat} (h : n < C.length) : catN C (n + 1) = catN C n ++ ivL C[n].2 := by unfold catN ivL; rw [flat_take h, List.map_append]
theorem catN_all (C : List (Value × List Int)) : catN C C.length = ((C.map (·.2)).flatten).map intD := by unfold catN; rw [List.take_length]
theorem tot_le {C : List (Value × List Int)} (n : Nat) : totL (C.take n) ≤ totL C := by
  unfold totL
  conv => rhs; rw [← List.take_append_drop n C]
  rw [List.map_append, List.flatten_append, List.length_append]
  omega
set_option maxHeartbeats 2000000 in
set_option maxRecDepth 100000 in
theorem concat_i (v : Value) (C : List (Value × List Int)) (w : World) (g : Gl w) (h : RowsI w v C) (hC : C.length ≤ 1000000) (hT : totL C ≤ 1000000) :
    Calls Tryz.prog 109 #[v] w fun e w' => ∃ v', e = .returned v' ∧ w'.ownsRow w.heap.size 3 1 v' (totL C) (((C.map (·.2)).flatten).map intD) ∧ Nw w w' := by
  have hgb := g.big
  have HE := Lib.hid h.each
  obtain ⟨a, cap, rfl, -, hc⟩ := h.cells
  have HC := Lib.hid hc
  have hC1 : (C.length : Int) ≤ 1000000 := by omega
  have HT := Lib.hid hT
  have HG := Lib.hid (grow_i (totL C) hT w g)
  clear h hc hT
  go_enter Tryz.func109, Tryz.ntmps109
  go_wp2_with fail
  go_loopw [3, 11] (fun sv iv wr => ∃ n : Nat, n ≤ C.length ∧ iv = .int .i64 (n : Int) ∧ sv = .int .i64 (totL (C.take n) : Nat) ∧ w = wr) (fun _ iv _ => C.length - (intOf iv).toNat)
  case atStart => exact ⟨0, Nat.zero_le _, rfl, rfl, rfl⟩
  case round =>
    obtain ⟨n, hn, rfl, rfl, rfl⟩ := hrel
    by_cases hlt : n < C.length
    · rcases HC.out with hnil | ⟨b, off, rfl, hb, hcell⟩
      · simp [hnil] at hlt
      have c0 := hcell n hlt
      obtain ⟨lo, hi, hs⟩ := HE.out C[n] (List.getElem_mem hlt)
      obtain ⟨an, cn, hvn, -, -⟩ := int_cells hs
      rw [hvn] at c0
      have hlt1 : (n : Int) < C.length := by omega
      have h1 := tot_take hlt
      have h2 := tot_le (C := C) (n + 1)
      have h3 := HT.out
      have h4 : ((totL (C.take n) : Nat) : Int) ≤ 1000000 := by omega
      have h5 : ((C[n].2.length : Nat) : Int) ≤ 1000000 := by omega
      have H1 := Lib.hid h1
      clear hcell hs hvn h1 h2 h3
      generalize totL (C.take n) = T0 at *
      generalize C[n].2.length = L at *
      go_wp2_with fail
      go_roundw
      case rel => exact ⟨n + 1, by omega, by go_num, by rw [H1.out]; go_num, by first | rfl | trivial⟩
      case measure => simp [intOf]; omega
    · obtain rfl : n = C.length := by omega
      go_wp2_with fail
      (with_reducible refine (HG.out).mono ?_)
      rintro _ w1 ⟨v1, rfl, o1, u1⟩
      have hs1 : w.heap.size ≤ w1.heap.size := u1.size
      have HO1 := Lib.hid o1
      have U1 := Lib.hid u1
      obtain ⟨a1, c1, rfl⟩ := own_slG o1
      clear o1 u1 HG
      go_wp2_with fail
      go_loopw [6, 27] (fun vo iv wr => ∃ n : Nat, n ≤ C.length ∧ iv = .int .i64 (n : Int) ∧ Hid (wr.ownsRow w.heap.size 3 1 vo (totL (C.take n)) (catN C n)) ∧ Hid (Nw w wr)) (fun _ iv _ => C.length - (intOf iv).toNat)
      case atStart => exact ⟨0, Nat.zero_le _, rfl, HO1.out, U1.out⟩
      case round =>
        obtain ⟨n, hn, rfl, HO, U⟩ := hrel
        obtain ⟨ao, co, rfl⟩ := own_slG HO.out
        by_cases hlt : n < C.length
        · rcases HC.out with hnil | ⟨b, off, rfl, hb, hcell⟩
          · simp [hnil] at hlt
          have c0 := later_cell ⟨wr, U.out⟩ (hcell n hlt)
          obtain ⟨lo, hi, hs⟩ := HE.out C[n] (List.getElem_mem hlt)
          have hs2 : Sl lo hi wr C[n].1 (ivL C[n].2) := hs.nw U.out
          obtain ⟨an, cn, hvn, -, -⟩ := int_cells hs
          rw [hvn] at c0 hs2
          have HS := Lib.hid hs2
          have hlt1 : (n : Int) < C.length := by omega
          have h1 := tot_take hlt
          have h2 := tot_le (C := C) (n + 1)
          have h3 := HT.out
          have h6 := catN_succ hlt
          have hz := U.out.size
          have H1 := Lib.hid h1
          have H6 := Lib.hid h6
          have hln := ivL_len C[n].2
          have Hln := Lib.hid hln
          clear hcell hs hvn h6 hs2 hln
          go_wp2_with (at_builtin; refine wpList_catA rfl _ _ 22 rfl w.heap.size lo hi 3 _ 8 Tryz.underlying22 infoIntU rfl _ _ _ _ _ rfl HO.out rfl HS.out ?c1 ?c2 ?c3 hz ?_)
          case c1 => exact ivL_one _
          case c2 => rw [Hln.out]; unfold maxLen; omega
          case c3 => rw [Hln.out]; omega
          intro v' w2 hown hgrow hob
          obtain ⟨a2, c2, rfl⟩ := own_slG hown
          have hlen : totL (C.take n) + (ivL C[n].2).length = totL (C.take (n + 1)) := by rw [Hln.out, H1.out]
          have hfin : Hid (w2.ownsRow w.heap.size 3 1 (.slice a2 (totL (C.take n) + (ivL C[n].2).length) c2) (totL (C.take (n + 1))) (catN C (n + 1))) := by
            show w2.ownsRow _ _ _ _ _ _
            rw [H6.out, ← hlen]
            exact hown
          have hU := Lib.hid (U.out.trans' (S' := fun k => (Value.slice ao (totL (C.take n)) co).ownBlock = some k) (Upd.grown (Upd.refl _ _) hgrow (fun k hk => ⟨Or.inl hk, by have := (hob k hk).1; omega⟩)) (fun j hj e => by have := (hob j e).1; omega))
          clear hown hgrow hob h1 h2 h3 hlen
          go_wp2_with fail
          go_roundw
          case rel => exact ⟨n + 1, by omega, by go_num, hfin, hU⟩
          case measure => simp [intOf]; omega
        · obtain rfl : n = C.length := by omega
          simp only [List.take_length] at HO ⊢
          have HO2 : Hid (wr.ownsRow w.heap.size 3 1 (.slice ao (totL C) co) (totL C) (((C.map (·.2)).flatten).map intD)) := by
            have := HO.out
            rw [catN_all] at this
            exact this
          clear HO
          go_wp2_with fail
          go_ret
          exact ⟨_, rfl, HO2.out, U.out⟩
set_option maxHeartbeats 1000000 in
set_option maxRecDepth 100000 in
theorem short_c (lo hi : Nat) (p z : Int) (cv : Value) (l : List Int) (v : Value) (C : List (Value × List Int)) (w : World) (g : Gl w) (hc : Sl lo hi w cv (l.map intD)) (hl : l.length ≤ 1000000) (h : RowsI w v C) (hC : C.length ≤ 1000000) (hT : totL C ≤ 1000000) :
    Calls Tryz.prog 39 #[.agg #[.int .i64 p, .int .i64 z, cv], v] w fun e w' => ∃ v', e = .returned v' ∧ w'.ownsRow w.heap.size 3 1 v' (Ft.miss l (C.map (·.2)).flatten).length ((Ft.miss l (C.map (·.2)).flatten).map intD) ∧ Nw w w' := by
  have hgb := g.big
  obtain ⟨a, cap, rfl, -, -⟩ := int_cells hc
  have n1 := nw_alloc w (.cells #[.int .i64 p, .int .i64 z, .slice a l.length cap] tManU)
  have b1 := heap_new w (.cells #[.int .i64 p, .int .i64 z, .slice a l.length cap] tManU)
  have n1d := n1.drew
  have cl : ∀ y, Nw (w.alloc (.cells #[.int .i64 p, .int .i64 z, .slice a l.length cap] tManU)) y → y.cell? ⟨w.heap.size, 0, none⟩ = some (.int .i64 p) ∧ y.cell? ⟨w.heap.size, 1, none⟩ = some (.int .i64 z) ∧ y.cell? ⟨w.heap.size, 2, none⟩ = some (.slice a l.length cap) := fun y u => ⟨by rw [cells_cell (Nw.keep u b1)]; rfl, by rw [cells_cell (Nw.keep u b1)]; rfl, by rw [cells_cell (Nw.keep u b1)]; rfl⟩
  have cd := cl _ (Upd.refl _ _).drew
  have hF : Calls Tryz.prog 109 #[v] (w.alloc (.cells #[.int .i64 p, .int .i64 z, .slice a l.length cap] tManU)).drew fun e y => ∃ a2 c2, e = .returned (.slice a2 (totL C) c2) ∧ (y.cell? ⟨w.heap.size, 0, none⟩ = some (.int .i64 p) ∧ y.cell? ⟨w.heap.size, 1, none⟩ = some (.int .i64 z) ∧ y.cell? ⟨w.heap.size, 2, none⟩ = some (.slice a l.length cap)) ∧
      Hid (Calls Tryz.prog 108 #[.agg #[.int .i64 p, .int .i64 z, .slice a l.length cap], .slice a2 (totL C) c2] y fun e y2 => ∃ v', e = .returned v' ∧ (y2.cell? ⟨w.heap.size, 0, none⟩ = some (.int .i64 p) ∧ y2.cell? ⟨w.heap.size, 1, none⟩ = some (.int .i64 z) ∧ y2.cell? ⟨w.heap.size, 2, none⟩ = some (.slice a l.length cap)) ∧
        Hid (y2.ownsRow w.heap.size 3 1 v' (Ft.miss l (C.map (·.2)).flatten).length ((Ft.miss l (C.map (·.2)).flatten).map intD) ∧ Nw w y2)) := by
    refine (concat_i v C _ (g.upd n1d) (h.nw n1d) hC hT).mono ?_
    rintro e y ⟨v2, rfl, o2, u2⟩
    obtain ⟨a2, c2, rfl⟩ := own_slG o2
    refine ⟨a2, c2, rfl, cl y ((Upd.refl _ _).drew.trans u2), (missing_c lo hi _ _ p z _ l _ _ y (g.upd (n1d.trans u2)) (hc.nw (n1d.trans u2)) (Sl.of_owns o2) hl (by unfold totL at hT; exact hT)).mono ?_⟩
    rintro e y2 ⟨v3, rfl, o3, u3⟩
    exact ⟨v3, rfl, cl y2 (((Upd.refl _ _).drew.trans u2).trans u3), owns_base o3 (n1d.trans u2).size, (n1d.trans u2).trans u3⟩
  have HF := Lib.hid hF
  obtain ⟨av, cv2, rfl, -, -⟩ := h.cells
  obtain ⟨c0, c1, c2⟩ := cd
  clear hc h n1 b1 cl hF n1d
  go_enter Tryz.func39, Tryz.ntmps39
  go_wp2_with fail
  go_region_held3 (fun y => y.cell? ⟨w.heap.size, 0, none⟩ = some (.int .i64 p) ∧ y.cell? ⟨w.heap.size, 1, none⟩ = some (.int .i64 z) ∧ y.cell? ⟨w.heap.size, 2, none⟩ = some (.slice a l.length cap)) (first | exact ⟨c0, c1, c2⟩ | assumption) (first | (go_at_call 109; (with_reducible refine HF.out.mono ?_); rintro _ y1 ⟨a3, c3, rfl, cy1, HM⟩) | (go_at_call 108; (with_reducible refine HM.out.mono ?_); rintro _ y2 ⟨v3, rfl, cy2, HO3⟩))
  clear HF c0 c1 c2 cy1 cy2
  obtain ⟨a4, c4, rfl⟩ := own_slG HO3.out.1
  go_wp2_with fail
  go_ret
  exact ⟨_, rfl, HO3.out⟩
end Go.Proofs.YtagmlemlagbfkaaGreatDoor
namespace Go.Proofs.YtagmlemlagbfkaaGreatDoor
open Go.RowKit
set_option linter.unusedVariables false
set_option linter.unusedSimpArgs false

/-- A builder in block b (the call's own: from B on) that holds the bytes l. -/
def Bld (B b : Nat) (l : List UInt8) (w : World) : Prop := Lib.IsBuilder 170 5 B b (Lib.byteCells l) w
theorem builderAt_nw {T e : TypeId} {B b : Nat} {p : Value} {bs : List Value} {w w' : World} (h : Lib.BuilderAt T e B b p bs w) (u : Nw w w') : Lib.BuilderAt T e B b p bs w' := by
  obtain ⟨h1, v, h2, h3, h4⟩ := h
  refine ⟨h1, v, u.keep h2, ⟨h3.1, ?_⟩, h4⟩
  rcases h3.2 with h | ⟨g, cap, cur, r1, r2, r3, r4⟩
  · exact Or.inl h
  · exact Or.inr ⟨g, cap, cur, r1, r2, u.keep r3, r4⟩
theorem Bld.nw {B b : Nat} {l : List UInt8} {w w' : World} (h : Bld B b l w) (u : Nw w w') : Bld B b l w' := by
  rcases h with h | h
  · exact Or.inl (builderAt_nw h u)
  · exact Or.inr (builderAt_nw h u)
theorem Bld.lt {B b : Nat} {l : List UInt8} {w : World} (h : Bld B b l w) : b < w.heap.size := by
  rcases h with h | h <;> exact h.lt
end Go.Proofs.YtagmlemlagbfkaaGreatDoor
namespace Go.Proofs.YtagmlemlagbfkaaGreatDoor
open Go.RowKit
set_option linter.unusedVariables false
set_option linter.unusedSimpArgs false
attribute [local irreducible] Calls

theorem Int_e (n : Int) (w : World) (g : Gl w) (h : I64 n) :
    Calls Tryz.prog 151 #[.int .i64 n] w fun e w' => e = .returned (.string ⟨(Wire.intE n).toArray⟩) ∧ Nw w w' := by
  have hl := itoa_le h
  go_enter Tryz.func151, Tryz.ntmps151
  go_wp2_with fail
  (with_reducible refine (Itoa_c n _ g h).mono ?_)
  rintro _ w1 ⟨rfl, u1⟩
  go_wp2_with fail
  go_ret
  exact ⟨rfl, u1⟩
theorem Num_e (n : Int) (w : World) (g : Gl w) (h : I64 n) :
    Calls Tryz.prog 98 #[.int .i64 n] w fun e w' => e = .returned (.string ⟨(Wire.numE n).toArray⟩) ∧ Nw w w' := by
  by_cases hn : n < 0
  · go_enter Tryz.func98, Tryz.ntmps98
    go_wp2_with fail
    go_ret
    rw [show Wire.numE n = [] from if_pos hn]
    exact ⟨rfl, Upd.refl _ _⟩
  · go_enter Tryz.func98, Tryz.ntmps98
    go_wp2_with fail
    (with_reducible refine (Int_e n _ g h).mono ?_)
    rintro _ w1 ⟨rfl, u1⟩
    go_wp2_with fail
    go_ret
    rw [show Wire.numE n = Wire.intE n from if_neg (by omega)]
    exact ⟨rfl, u1⟩
theorem Text_e (s : ByteArray) (l : List UInt8) (hs : s.data.toList = l) (w : World) (g : Gl w) (h : l.length ≤ 140737488351232) :
    Calls Tryz.prog 99 #[.string s] w fun e w' => e = .returned (.string ⟨(Wire.textE l).toArray⟩) ∧ Nw w w' := by
  have hz := bs_size s
  rw [hs] at hz
  have hi : I64 s.size := by unfold I64; omega
  have hl := itoa_le hi
  have Hz := Lib.hid hz
  replace hz : s.size ≤ 140737488351232 := by omega
  go_enter Tryz.func99, Tryz.ntmps99
  go_wp2_with fail
  (with_reducible refine (Itoa_c _ _ g hi).mono ?_)
  rintro _ w1 ⟨rfl, u1⟩
  go_wp2_with fail
  go_ret
  refine ⟨ret_bs ?_, u1⟩
  simp only [bs_append_list, bs_list, hs, Hz.out]
  rfl
end Go.Proofs.YtagmlemlagbfkaaGreatDoor
namespace Go.Proofs.YtagmlemlagbfkaaGreatDoor
open Go.RowKit
set_option linter.unusedVariables false
set_option linter.unusedSimpArgs false
attribute [local irreducible] Calls

/-- At block b lies a reader (of the type T) in the state st. -/
def Rdr (T : TypeId) (w : World) (b : Nat) (st : Wire.St) : Prop := nG ≤ b ∧ w.heap[b]? = some (.cells #[.string ⟨(st.getD []).toArray⟩, .bool st.isNone] T (0, 0))
abbrev tR : TypeId := 277
theorem Rdr.lt {T : TypeId} {w : World} {b : Nat} {st : Wire.St} (h : Rdr T w b st) : b < w.heap.size := lt_of_block h.2
theorem Rdr.c0 {T : TypeId} {w : World} {b : Nat} {st : Wire.St} (h : Rdr T w b st) : w.cell? ⟨b, 0, none⟩ = some (.string ⟨(st.getD []).toArray⟩) := by rw [cells_cell h.2]; rfl
theorem Rdr.c1 {T : TypeId} {w : World} {b : Nat} {st : Wire.St} (h : Rdr T w b st) : w.cell? ⟨b, 1, none⟩ = some (.bool st.isNone) := by rw [cells_cell h.2]; rfl
theorem Rdr.fz {T : TypeId} {w : World} {b : Nat} {st : Wire.St} (h : Rdr T w b st) (i : Nat) : w.frozen? ⟨b, i, none⟩ = false := cells_frozen h.2 i
theorem Rdr.upd {T : TypeId} {S : Nat → Prop} {w w' : World} {b : Nat} {st : Wire.St} (h : Rdr T w b st) (u : Upd S w w') (hn : ¬ S b) : Rdr T w' b st := ⟨h.1, u.keep h.2 hn⟩
theorem Rdr.nw {T : TypeId} {w w' : World} {b : Nat} {st : Wire.St} (h : Rdr T w b st) (u : Nw w w') : Rdr T w' b st := h.upd u id
theorem Rdr.set0 {T : TypeId} {w : World} {b : Nat} {st : Wire.St} (h : Rdr T w b st) (s : ByteArray) (r : List UInt8) (hs : st.isNone = false) (hr : s.data.toList = r) : Rdr T (w.setCell ⟨b, 0, none⟩ (.string s)) b (some r) := by
  refine ⟨h.1, ?_⟩
  rw [setCell_block h.2, hs, ← bs_eta s, hr]
  rfl
theorem Rdr.setr {T : TypeId} {w : World} {b : Nat} {st : Wire.St} (h : Rdr T w b st) (s : ByteArray) (st' : Wire.St) (hs : st'.isNone = st.isNone) (hr : s.data.toList = st'.getD []) : Rdr T (w.setCell ⟨b, 0, none⟩ (.string s)) b st' := by
  refine ⟨h.1, ?_⟩
  rw [setCell_block h.2, ← hs, ← bs_eta s, hr]
  rfl
theorem Rdr.set_fail {T : TypeId} {w : World} {b : Nat} {st : Wire.St} (h : Rdr T w b st) : Rdr T ((w.setCell ⟨b, 0, none⟩ (.string ⟨#[]⟩)).setCell ⟨b, 1, none⟩ (.bool true)) b none := by
  refine ⟨h.1, ?_⟩
  rw [setCell_block (setCell_block h.2 _ _)]
  rfl
theorem Rdr.set_same {T : TypeId} {w : World} {b : Nat} {st : Wire.St} (h : Rdr T w b st) : Rdr T (w.setCell ⟨b, 0, none⟩ (.string ⟨(st.getD []).toArray⟩)) b st := by
  refine ⟨h.1, ?_⟩
  rw [setCell_block h.2]
  rfl
set_option maxHeartbeats 400000 in
theorem fail_c (b : Nat) (st : Wire.St) (w : World) (h : Rdr tR w b st) :
    Calls Tryz.prog 212 #[.pointer (some ⟨b, 0, none⟩)] w fun e w' => e = .returned (.tuple #[]) ∧ Rdr tR w' b none ∧ Upd (· = b) w w' := by
  have c0 := h.c0
  have c1 := h.c1
  have f0 := h.fz 0
  have f1 := h.fz 1
  go_enter Tryz.func212, Tryz.ntmps212
  go_wp2
  go_end0
  exact ⟨rfl, h.set_fail, ((Upd.refl _ _).set1 h.1 _ _).set1 h.1 _ _⟩
theorem c58 : (58 : Int) = ((58 : UInt8).toNat : Int) := rfl
theorem c59 : (59 : Int) = ((59 : UInt8).toNat : Int) := rfl
set_option maxHeartbeats 400000 in
theorem number_c (b : Nat) (st : Wire.St) (c : UInt8) (ci least : Int) (hci : ci = c.toNat) (w : World) (g : Gl w) (h : Rdr tR w b st) (hl : (st.getD []).length ≤ 9223372036854775807) :
    Calls Tryz.prog 211 #[.pointer (some ⟨b, 0, none⟩), .int .u8 ci, .int .i64 least] w fun e w' =>
      e = .returned (.int .i64 (Wire.rNumber st c least).1) ∧ Rdr tR w' b (Wire.rNumber st c least).2 ∧ Upd (· = b) w w' := by
  have c0 := h.c0
  have c1 := h.c1
  have f0 := h.fz 0
  have f1 := h.fz 1
  subst hci
  go_enter Tryz.func211, Tryz.ntmps211
  go_wp2
  go_quiet (fail)
  go_wp2_with fail
  obtain ⟨w1, e1, u1⟩ := nw_drewN w nq
  rw [e1]; clear e1
  replace h := h.nw u1
  replace g := g.upd u1
  obtain ⟨hd, ehd⟩ : ∃ hd : ByteArray, ({ data := (Option.getD st []).toArray } : ByteArray).extract 0 (min (↑(Option.getD st []).length) (21 : Int)).toNat = hd := ⟨_, rfl⟩
  have Hd : Hid (hd.data.toList = (st.getD []).take 21) := by rw [← ehd]; show _ = _; rw [bs_extract_list]; simp; omega
  have hds : hd.size = min 21 (st.getD []).length := by rw [bs_size, Hd.out, List.length_take]
  rw [ehd]; clear ehd
  (with_reducible refine (IndexByte_l hd c ((st.getD []).take 21) Hd.out _).mono ?_)
  rintro _ _ ⟨rfl, rfl⟩
  have i0 := Lib.indexByte_ge ((st.getD []).take 21) c
  have i1 := Wire.indexByte_lt ((st.getD []).take 21) c
  generalize hi : Lib.indexByte ((st.getD []).take 21) c = i at *
  have Hi := Lib.hid hi; clear hi
  rw [List.length_take, ← hds] at i1
  have i2 : i ≤ 20 := by omega
  have i3 : i < ((st.getD []).length : Int) := by omega
  have Hds := Lib.hid hds; clear hds
  go_wp2_with fail
  · (with_reducible refine (fail_c b st _ h).mono ?_)
    rintro _ w' ⟨rfl, h', u'⟩
    go_wp2_with fail
    go_ret
    rw [Wire.rNumber_neg (by rw [Hi.out]; assumption)]
    exact ⟨rfl, h', u1.trans u'⟩
  · have hs := Wire.isSome_of_index Hi.out (by assumption)
    have h0i : 0 ≤ i := by assumption
    obtain ⟨hp, ehp⟩ : ∃ hp : ByteArray, hd.extract 0 i.toNat = hp := ⟨_, rfl⟩
    have Hp : Hid (hp.data.toList = (st.getD []).take i.toNat) := by rw [← ehp]; show _ = _; rw [bs_extract_list, Hd.out]; have := Hds.out; simp [List.take_take]; omega
    rw [ehp]
    (with_reducible refine (Atoi_l hp ((st.getD []).take i.toNat) Hp.out _ g (by simp; omega)).mono ?_)
    rintro _ w2 ⟨n, v, rfl, hn, hv, u2⟩
    replace h := h.nw u2
    replace g := g.upd u2
    replace c0 := h.c0
    replace f0 := h.fz 0
    have h1 : i ≤ (hd.size : Int) := by omega
    rcases hv with ⟨rfl, hv⟩ | ⟨⟨tv, pv, rfl⟩, hv⟩
    · by_cases he : Lib.itoa n = (st.getD []).take i.toNat
      · have hb : (Lib.itoa n == hp.toList) = true := by rw [bs_toList, Hp.out, he]; simp
        have Hn := Lib.hid (Wire.rNumber_some (least := least) Hi.out h0i (Wire.numOf_eq hv he))
        have He := Lib.hid he; clear he
        have Hv := Lib.hid hv; clear hv
        by_cases hlt : n < least
        · have hdl : decide (n < least) = true := by simpa using hlt
          go_wp2_with fail
          refine wp_region_nw (by kernel_rfl) (by kernel_rfl) ?_
          repeat (go_big_quiet_step ((go_at_call 152; exact later_call (Itoa_c n _ (g.upd (Later.nw _)) hn))))
          refine wpQuiet_nil ?_
          intro w3 u3
          replace u3 := later_out u3
          replace h := h.nw u3
          go_wp2_with fail
          (with_reducible refine (fail_c b st _ h).mono ?_)
          rintro _ w' ⟨rfl, h', u'⟩
          go_wp2_with fail
          go_ret
          rw [Hn.out, if_pos hlt]
          exact ⟨rfl, h', Nw.trans u1 (Nw.trans u2 (Nw.trans u3 u'))⟩
        · have hdl : decide (n < least) = false := by simpa using hlt
          go_wp2_with fail
          refine wp_region_nw (by kernel_rfl) (by kernel_rfl) ?_
          repeat (go_big_quiet_step ((go_at_call 152; exact later_call (Itoa_c n _ (g.upd (Later.nw _)) hn))))
          refine wpQuiet_nil ?_
          intro w3 u3
          replace u3 := later_out u3
          replace h := h.nw u3
          replace c0 := h.c0
          replace f0 := h.fz 0
          go_wp2_with fail
          go_ret
          rw [Hn.out, if_neg (by omega)]
          exact ⟨rfl, h.set0 _ _ hs (by rw [bs_extract_list, bs_list, List.take_of_length_le (by simp <;> omega)]; congr 1 <;> omega), Nw.trans u1 (Nw.trans u2 (Nw.trans u3 ((Upd.refl _ _).set1 h.1 _ _)))⟩
      · have hb : (Lib.itoa n == hp.toList) = false := by rw [bs_toList, Hp.out]; simpa using he
        have Hn := Lib.hid (Wire.numOf_ne hv he)
        have Hv := Lib.hid hv; clear hv
        have He := Lib.hid he; clear he
        go_wp2_with fail
        refine wp_region_nw (by kernel_rfl) (by kernel_rfl) ?_
        repeat (go_big_quiet_step ((go_at_call 152; exact later_call (Itoa_c n _ (g.upd (Later.nw _)) hn))))
        refine wpQuiet_nil ?_
        intro w3 u3
        replace u3 := later_out u3
        replace h := h.nw u3
        go_wp2_with fail
        (with_reducible refine (fail_c b st _ h).mono ?_)
        rintro _ w' ⟨rfl, h', u'⟩
        go_wp2_with fail
        go_ret
        rw [Wire.rNumber_none Hi.out h0i Hn.out]
        exact ⟨rfl, h', Nw.trans u1 (Nw.trans u2 (Nw.trans u3 u'))⟩
    · go_wp2_with fail
      go_quiet (fail)
      obtain ⟨w3, e3, u3⟩ := nw_drewN w2 nq
      rw [e3]; clear e3
      replace h := h.nw u3
      go_wp2_with fail
      (with_reducible refine (fail_c b st _ h).mono ?_)
      rintro _ w' ⟨rfl, h', u'⟩
      go_wp2_with fail
      go_ret
      rw [Wire.rNumber_none Hi.out (by assumption) (Wire.numOf_none hv)]
      exact ⟨rfl, h', Nw.trans u1 (Nw.trans u2 (Nw.trans u3 u'))⟩

set_option maxHeartbeats 400000 in
theorem close_c (b : Nat) (st : Wire.St) (c : UInt8) (w : World) (h : Rdr tR w b st) :
    Calls Tryz.prog 213 #[.pointer (some ⟨b, 0, none⟩), .string ⟨#[c]⟩] w fun e w' =>
      e = .returned (.tuple #[]) ∧ Rdr tR w' b (Wire.rClose st c) ∧ Upd (· = b) w w' := by
  have c0 := h.c0
  have c1 := h.c1
  have f0 := h.fz 0
  have f1 := h.fz 1
  go_enter Tryz.func213, Tryz.ntmps213
  go_wp2_with fail
  (with_reducible refine (CutPrefix_c _ _ _).mono ?_)
  rintro _ _ ⟨rfl, rfl⟩
  cases hp : Lib.hasPrefix (st.getD []) [c] with
  | false =>
    have ht := Wire.trimPrefix_no hp
    go_wp2_with fail
    (with_reducible refine (fail_c b st _ h.set_same).mono ?_)
    rintro _ w' ⟨rfl, h', u'⟩
    go_wp2_with fail
    go_end0
    rw [Wire.rClose_no hp]
    exact ⟨rfl, h', ((Upd.refl _ _).set1 h.1 _ _).trans u'⟩
  | true =>
    have hr := Wire.rClose_yes hp
    go_wp2_with fail
    go_end0
    rw [hr.2]
    exact ⟨rfl, h.set0 _ _ hr.1 (bs_list _), (Upd.refl _ _).set1 h.1 _ _⟩
end Go.Proofs.YtagmlemlagbfkaaGreatDoor
namespace Go.Proofs.YtagmlemlagbfkaaGreatDoor
open Go.RowKit
set_option linter.unusedVariables false
set_option linter.unusedSimpArgs false
attribute [local irreducible] Calls

theorem Num_r (b : Nat) (st : Wire.St) (w : World) (g : Gl w) (h : Rdr tR w b st) (hl : (st.getD []).length ≤ 9223372036854775807) :
    Calls Tryz.prog 182 #[.pointer (some ⟨b, 0, none⟩)] w fun e w' =>
      e = .returned (.int .i64 (Wire.rNum st).1) ∧ Rdr tR w' b (Wire.rNum st).2 ∧ Upd (· = b) w w' := by
  go_enter Tryz.func182, Tryz.ntmps182
  go_wp2_with fail
  (with_reducible refine (number_c b st 59 59 _ c59 _ g h hl).mono ?_)
  rintro _ w' ⟨rfl, h', u'⟩
  go_wp2_with fail
  go_ret
  exact ⟨rfl, h', u'⟩
set_option maxHeartbeats 400000 in
theorem Text_r (b : Nat) (st : Wire.St) (w : World) (g : Gl w) (h : Rdr tR w b st) (hl : (st.getD []).length ≤ 9223372036854775807) :
    Calls Tryz.prog 180 #[.pointer (some ⟨b, 0, none⟩)] w fun e w' =>
      e = .returned (.string ⟨(Wire.rText st).1.toArray⟩) ∧ Rdr tR w' b (Wire.rText st).2 ∧ Upd (· = b) w w' := by
  have hle := Wire.rNumber_le st 58 0
  have hn0 := Wire.rNumber_least st 58 0 (Int.le_refl 0)
  go_enter Tryz.func180, Tryz.ntmps180
  go_wp2_with fail
  (with_reducible refine (number_c b st 58 58 _ c58 _ g h hl).mono ?_)
  rintro _ w1 ⟨rfl, h1, u1⟩
  cases hq : Wire.rNumber st 58 0 with
  | mk n s1 =>
  rw [hq] at hle hn0 h1
  have Hq := Lib.hid hq; clear hq
  replace hle : (s1.getD []).length ≤ (st.getD []).length := hle
  replace hn0 : 0 ≤ n := hn0
  replace h1 : Rdr tR w1 b s1 := h1
  have c0 := h1.c0
  have c1 := h1.c1
  have f0 := h1.fz 0
  have f1 := h1.fz 1
  by_cases hfar : ((s1.getD []).length : Int) < n
  · go_wp2_with fail
    (with_reducible refine (fail_c b s1 _ h1).mono ?_)
    rintro _ w2 ⟨rfl, h2, u2⟩
    go_wp2_with fail
    go_ret
    have e : Wire.rText st = ([], none) := by
      cases s1 with
      | none => exact Wire.rText_none Hq.out
      | some r => exact Wire.rText_far Hq.out hfar
    rw [e]
    exact ⟨rfl, h2, u1.trans u2⟩
  · have hs1 : s1 = none → n = 0 := fun e => Wire.rNumber_zero (by rw [Hq.out, e])
    have h2 : ∀ s : ByteArray, s.data.toList = (s1.getD []).drop n.toNat → Rdr tR (w1.setCell ⟨b, 0, none⟩ (.string s)) b (s1.map fun r => r.drop n.toNat) := fun s hs => by
      refine h1.setr s _ (by cases s1 <;> rfl) ?_
      rw [hs]
      cases s1 <;> simp
    have Hs1 := Lib.hid hs1; clear hs1
    have H2 := Lib.hid h2; clear h2
    go_wp2_with fail
    (with_reducible refine (close_c b (s1.map fun r => r.drop n.toNat) 44 _ (H2.out _ (by rw [bs_extract_list, bs_list, List.take_of_length_le (by simp)]))).mono ?_)
    rintro _ w3 ⟨rfl, h3, u3⟩
    have d1 := h3.c1
    have hc : Wire.rText st = ((if (Wire.rClose (s1.map fun r => r.drop n.toNat) 44).isNone then [] else (s1.getD []).take n.toNat), Wire.rClose (s1.map fun r => r.drop n.toNat) 44) := by
      cases s1 with
      | none => exact Wire.rText_none Hq.out
      | some r =>
        cases hx : Wire.rClose (some (r.drop n.toNat)) 44 with
        | none => rw [Wire.rText_open Hq.out (by simpa using hfar) hx]; simp [hx]
        | some r' => rw [Wire.rText_ok Hq.out (by simpa using hfar) hx]; simp [hx]
    have Hc := Lib.hid hc; clear hc
    generalize Wire.rClose (s1.map fun r => r.drop n.toNat) 44 = s3 at *
    cases s3 with
    | none =>
      go_wp2_with fail
      go_ret
      rw [Hc.out]
      exact ⟨rfl, h3, u1.trans (((Upd.refl _ _).set1 h1.1 _ _).trans u3)⟩
    | some r3 =>
      go_wp2_with fail
      go_ret
      rw [Hc.out]
      refine ⟨?_, h3, u1.trans (((Upd.refl _ _).set1 h1.1 _ _).trans u3)⟩
      rw [show (Value.string (ByteArray.extract ⟨(s1.getD []).toArray⟩ 0 n.toNat)) = .string ⟨((s1.getD []).take n.toNat).toArray⟩ by rw [bs_extract]; simp]
      rfl
theorem Open_r (s : ByteArray) (l : List UInt8) (hs : s.data.toList = l) (w : World) (g : Gl w) :
    Calls Tryz.prog 179 #[.string s] w fun e w' => ∃ b, e = .returned (.pointer (some ⟨b, 0, none⟩)) ∧ w.heap.size ≤ b ∧ Rdr tR w' b (some l) ∧ Nw w w' := by
  go_enter Tryz.func179, Tryz.ntmps179
  go_wp2
  go_ret
  refine ⟨_, rfl, Nat.le_refl _, ⟨g.big, ?_⟩, (Upd.refl _ _).alloc _⟩
  rw [heap_new, ← bs_eta s, hs]
  rfl
end Go.Proofs.YtagmlemlagbfkaaGreatDoor
namespace Go.Proofs.YtagmlemlagbfkaaGreatDoor
open Go.RowKit
set_option linter.unusedVariables false
set_option linter.unusedSimpArgs false
attribute [local irreducible] Calls

/-- What lies before and after the crash that a call may begin with. -/
structure Came (B : Nat) (w : World) (r : DiskR) (D D1 : Dk.Disk) (w1 : World) (r1 : DiskR) : Prop where
  at0 : DiskAt B w r D
  at1 : DiskAt B w1 r1 D1
  db : r1.db = r.db
  upd : Upd r.foot w w1
  foot : ∀ j, r1.foot j → r.foot j ∨ w.heap.size ≤ j
theorem Came.to {B : Nat} {w w1 : World} {r r1 : DiskR} {D D1 : Dk.Disk} (h : Came B w r D D1 w1 r1) : DiskTo B r D1 w w1 := ⟨r1, h.at1, h.db, h.upd, h.foot⟩
theorem Came.then_ {B : Nat} {w w1 w2 : World} {r r1 : DiskR} {D D1 D2 : Dk.Disk} (h : Came B w r D D1 w1 r1) (h2 : DiskTo B r1 D2 w1 w2) : DiskTo B r D2 w w2 := DiskTo.then_ h.at0 h.at1 h.db h.upd h.foot h2
theorem DiskTo.came {B : Nat} {w w1 : World} {r : DiskR} {D D1 : Dk.Disk} (h0 : DiskAt B w r D) (h : DiskTo B r D1 w w1) : ∃ r1, Came B w r D D1 w1 r1 := by
  obtain ⟨r1, a, b, c, d⟩ := h
  exact ⟨r1, h0, a, b, c, d⟩
set_option maxHeartbeats 1000000 in
set_option maxRecDepth 100000 in
theorem sync_c {B : Nat} {w : World} {r : DiskR} {D : Dk.Disk} (h : DiskAt B w r D) (g : Gl w) (hB : B ≤ w.heap.size) {f : Int} (hf : I64 f) :
    Calls Tryz.prog 158 #[.pointer (some ⟨r.db, 0, none⟩), .int .i64 f] w fun e w' => e = .returned (.int .i64 (Dk.sync D f).2) ∧ DiskTo B r (Dk.sync D f).1 w w' := by
  have hgb := g.big
  have he := Lib.hid (ends_c h)
  have H := Lib.hid h
  have HB := Lib.hid hB
  have HF := Lib.hid hf
  clear h hB hf
  go_enter Tryz.func158, Tryz.ntmps158
  go_wp2_with fail
  (with_reducible refine (he.out).mono ?_)
  rintro _ w1 ⟨rfl, hT1⟩
  obtain ⟨r1, hcm⟩ := DiskTo.came H.out hT1
  have C1 := Lib.hid hcm
  clear hT1 he hcm
  generalize hE : Dk.ends D = E at *
  cases E with
  | true =>
    have hcome : Hid (Dk.crash (Dk.counted D) (Dk.counted D).keep = Dk.come D) := by show _ = _; unfold Dk.come; rw [hE, if_pos rfl, counted_keep]
    have c6 := C1.out.at1.cells.2.2.2.2.2.2
    rw [C1.out.db] at c6
    have hc := crash_c C1.out.at1 (g.upd C1.out.upd) (Nat.le_trans HB.out C1.out.upd.size) B w1.heap.size r1.kv (Dk.counted D).keep (keep_sl C1.out.at1) C1.out.at1.kI
    rw [C1.out.db] at hc
    obtain ⟨ak, ck, hkv⟩ := own_slD C1.out.at1.keep
    rw [hkv] at hc c6
    have Hc := Lib.hid hc
    clear hc hE
    go_wp2_with fail
    (with_reducible refine Hc.out.mono ?_)
    rintro _ w2 ⟨rfl, hT2⟩
    rw [hcome.out] at hT2
    obtain ⟨r2, hcm⟩ := DiskTo.came H.out (C1.out.then_ hT2)
    have C2 := Lib.hid hcm
    clear hT2 hcm Hc c6 hkv
    have hm := may_c C2.out.at1 f
    rw [C2.out.db] at hm
    have Hm := Lib.hid hm
    have hr0 : Dk.sync D f = if Dk.may (Dk.come D) f ≠ 0 then (Dk.come D, Dk.may (Dk.come D) f) else if 0 < (Dk.come D).lost then ({ Dk.come D with lost := (Dk.come D).lost - 1 }, 9) else (Dk.settle (Dk.come D) f ((Dk.come D).fs f).now, 0) := rfl
    generalize hD' : Dk.come D = D' at *
    clear hm hD'
    by_cases hm0 : Dk.may D' f = 0
    rotate_left
    · have hr : Hid (Dk.sync D f = (D', Dk.may D' f)) := by show _ = _; rw [hr0, if_pos hm0]
      have d0 : (Dk.may D' f == 0) = false := beq_eq_false_iff_ne.2 hm0
      have d1 : (Dk.may D' f != 0) = true := by simp [hm0]
      clear hm0 hr0
      go_wp2_with fail
      (with_reducible refine Hm.out.mono ?_)
      rintro _ _ ⟨rfl, rfl⟩
      go_wp2_with fail
      go_ret
      exact ⟨by rw [hr.out]; rfl, by rw [hr.out]; exact C2.out.to⟩
    rw [hm0] at Hm
    have c3 := C2.out.at1.cells.2.2.2.1
    rw [C2.out.db] at c3
    have hlo := C2.out.at1.ok.lost
    by_cases hl : 0 < D'.lost
    · have hr : Hid (Dk.sync D f = ({ D' with lost := D'.lost - 1 }, 9)) := by show _ = _; rw [hr0, if_neg (by omega), if_pos hl]
      have hT := DiskTo.set (D' := { D' with lost := D'.lost - 1 }) C2.out.at1 3 (.int .i64 (D'.lost - 1)) rfl rfl rfl rfl ⟨C2.out.at1.ok.now, C2.out.at1.ok.last, C2.out.at1.ok.q, C2.out.at1.ok.nd, ⟨by dsimp only; omega, by dsimp only; omega⟩, C2.out.at1.ok.armed⟩
      have HT := Lib.hid (C2.out.then_ hT)
      rw [C2.out.db] at HT
      have f3 := C2.out.at1.frozen 3
      rw [C2.out.db] at f3
      have hl1 : 0 ≤ D'.lost - 1 := by omega
      have hl2 : D'.lost ≤ 9223372036854775807 := hlo.2
      clear hT hr0 hm0 hlo
      go_wp2_with fail
      (with_reducible refine Hm.out.mono ?_)
      rintro _ _ ⟨rfl, rfl⟩
      go_wp2_with fail
      go_ret
      exact ⟨by rw [hr.out]; rfl, by rw [hr.out]; exact HT.out⟩
    have hr : Hid (Dk.sync D f = (Dk.settle D' f (D'.fs f).now, 0)) := by show _ = _; rw [hr0, if_neg (by omega), if_neg hl]
    have c0 := C2.out.at1.cells.1
    rw [C2.out.db] at c0
    have hlk := C2.out.at1.files.look HF.out
    unfold filV at hlk
    have hfn := Lib.hid (field_now (D'.fs f) w2)
    have hst := settle_c C2.out.at1 (g.upd C2.out.upd) HF.out (D'.fs f).now (C2.out.at1.ok.now f) (Nat.le_trans HB.out C2.out.upd.size)
    rw [C2.out.db] at hst
    have Hlk := Lib.hid hlk
    have Hst := Lib.hid hst
    clear hlk hst hr0 hm0 hlo
    go_wp2_with fail
    (with_reducible refine Hm.out.mono ?_)
    rintro _ _ ⟨rfl, rfl⟩
    go_wp2_with (first | (at_lookup; refine wpList_lookL rfl _ _ tFiles false rfl _ _ _ rfl rfl Hlk.out ?_) | (with_reducible refine wpList_fieldL (o := ⟨some 40, _, _, _, _, _⟩) rfl _ tFile 0 rfl _ _ hfn.out (by with_unfolding_all rfl) ?_))
    (with_reducible refine Hst.out.mono ?_)
    rintro _ w4 ⟨rfl, hT4⟩
    go_wp2_with fail
    go_ret
    exact ⟨by rw [hr.out]; rfl, by rw [hr.out]; exact C2.out.then_ hT4⟩
  | false =>
    have hcome : Dk.counted D = Dk.come D := by unfold Dk.come; rw [hE, if_neg (by decide)]
    obtain ⟨w2, rfl⟩ : ∃ z, z = w1 := ⟨_, rfl⟩
    obtain ⟨r2, hcm⟩ := DiskTo.came H.out (by have := C1.out.to; rw [hcome] at this; exact this)
    have C2 := Lib.hid hcm
    clear hcm hE C1 hcome
    have hm := may_c C2.out.at1 f
    rw [C2.out.db] at hm
    have Hm := Lib.hid hm
    have hr0 : Dk.sync D f = if Dk.may (Dk.come D) f ≠ 0 then (Dk.come D, Dk.may (Dk.come D) f) else if 0 < (Dk.come D).lost then ({ Dk.come D with lost := (Dk.come D).lost - 1 }, 9) else (Dk.settle (Dk.come D) f ((Dk.come D).fs f).now, 0) := rfl
    generalize hD' : Dk.come D = D' at *
    clear hm hD'
    by_cases hm0 : Dk.may D' f = 0
    rotate_left
    · have hr : Hid (Dk.sync D f = (D', Dk.may D' f)) := by show _ = _; rw [hr0, if_pos hm0]
      have d0 : (Dk.may D' f == 0) = false := beq_eq_false_iff_ne.2 hm0
      have d1 : (Dk.may D' f != 0) = true := by simp [hm0]
      clear hm0 hr0
      go_wp2_with fail
      (with_reducible refine Hm.out.mono ?_)
      rintro _ _ ⟨rfl, rfl⟩
      go_wp2_with fail
      go_ret
      exact ⟨by rw [hr.out]; rfl, by rw [hr.out]; exact C2.out.to⟩
    rw [hm0] at Hm
    have c3 := C2.out.at1.cells.2.2.2.1
    rw [C2.out.db] at c3
    have hlo := C2.out.at1.ok.lost
    by_cases hl : 0 < D'.lost
    · have hr : Hid (Dk.sync D f = ({ D' with lost := D'.lost - 1 }, 9)) := by show _ = _; rw [hr0, if_neg (by omega), if_pos hl]
      have hT := DiskTo.set (D' := { D' with lost := D'.lost - 1 }) C2.out.at1 3 (.int .i64 (D'.lost - 1)) rfl rfl rfl rfl ⟨C2.out.at1.ok.now, C2.out.at1.ok.last, C2.out.at1.ok.q, C2.out.at1.ok.nd, ⟨by dsimp only; omega, by dsimp only; omega⟩, C2.out.at1.ok.armed⟩
      have HT := Lib.hid (C2.out.then_ hT)
      rw [C2.out.db] at HT
      have f3 := C2.out.at1.frozen 3
      rw [C2.out.db] at f3
      have hl1 : 0 ≤ D'.lost - 1 := by omega
      have hl2 : D'.lost ≤ 9223372036854775807 := hlo.2
      clear hT hr0 hm0 hlo
      go_wp2_with fail
      (with_reducible refine Hm.out.mono ?_)
      rintro _ _ ⟨rfl, rfl⟩
      go_wp2_with fail
      go_ret
      exact ⟨by rw [hr.out]; rfl, by rw [hr.out]; exact HT.out⟩
    have hr : Hid (Dk.sync D f = (Dk.settle D' f (D'.fs f).now, 0)) := by show _ = _; rw [hr0, if_neg (by omega), if_neg hl]
    have c0 := C2.out.at1.cells.1
    rw [C2.out.db] at c0
    have hlk := C2.out.at1.files.look HF.out
    unfold filV at hlk
    have hfn := Lib.hid (field_now (D'.fs f) w2)
    have hst := settle_c C2.out.at1 (g.upd C2.out.upd) HF.out (D'.fs f).now (C2.out.at1.ok.now f) (Nat.le_trans HB.out C2.out.upd.size)
    rw [C2.out.db] at hst
    have Hlk := Lib.hid hlk
    have Hst := Lib.hid hst
    clear hlk hst hr0 hm0 hlo
    go_wp2_with fail
    (with_reducible refine Hm.out.mono ?_)
    rintro _ _ ⟨rfl, rfl⟩
    go_wp2_with (first | (at_lookup; refine wpList_lookL rfl _ _ tFiles false rfl _ _ _ rfl rfl Hlk.out ?_) | (with_reducible refine wpList_fieldL (o := ⟨some 40, _, _, _, _, _⟩) rfl _ tFile 0 rfl _ _ hfn.out (by with_unfolding_all rfl) ?_))
    (with_reducible refine Hst.out.mono ?_)
    rintro _ w4 ⟨rfl, hT4⟩
    go_wp2_with fail
    go_ret
    exact ⟨by rw [hr.out]; rfl, by rw [hr.out]; exact C2.out.then_ hT4⟩
set_option maxHeartbeats 1000000 in
set_option maxRecDepth 100000 in
theorem truncate_c {B : Nat} {w : World} {r : DiskR} {D : Dk.Disk} (h : DiskAt B w r D) (g : Gl w) (hB : B ≤ w.heap.size) {f n : Int} (hf : I64 f) (hn : I64 n) :
    Calls Tryz.prog 162 #[.pointer (some ⟨r.db, 0, none⟩), .int .i64 f, .int .i64 n] w fun e w' => e = .returned (.int .i64 (Dk.truncate D f n).2) ∧ DiskTo B r (Dk.truncate D f n).1 w w' := by
  have hgb := g.big
  have he := Lib.hid (ends_c h)
  have H := Lib.hid h
  have HB := Lib.hid hB
  have HF := Lib.hid hf
  have HN := Lib.hid hn
  clear h hB hf hn
  go_enter Tryz.func162, Tryz.ntmps162
  go_wp2_with fail
  (with_reducible refine (he.out).mono ?_)
  rintro _ w1 ⟨rfl, hT1⟩
  obtain ⟨r1, hcm⟩ := DiskTo.came H.out hT1
  have C1 := Lib.hid hcm
  clear hT1 he hcm
  generalize hE : Dk.ends D = E at *
  cases E with
  | true =>
    have hcome : Hid (Dk.crash (Dk.counted D) (Dk.counted D).keep = Dk.come D) := by show _ = _; unfold Dk.come; rw [hE, if_pos rfl, counted_keep]
    have c6 := C1.out.at1.cells.2.2.2.2.2.2
    rw [C1.out.db] at c6
    have hc := crash_c C1.out.at1 (g.upd C1.out.upd) (Nat.le_trans HB.out C1.out.upd.size) B w1.heap.size r1.kv (Dk.counted D).keep (keep_sl C1.out.at1) C1.out.at1.kI
    rw [C1.out.db] at hc
    obtain ⟨ak, ck, hkv⟩ := own_slD C1.out.at1.keep
    rw [hkv] at hc c6
    have Hc := Lib.hid hc
    clear hc hE
    go_wp2_with fail
    (with_reducible refine Hc.out.mono ?_)
    rintro _ w2 ⟨rfl, hT2⟩
    rw [hcome.out] at hT2
    obtain ⟨r2, hcm⟩ := DiskTo.came H.out (C1.out.then_ hT2)
    have C2 := Lib.hid hcm
    clear hT2 hcm Hc c6 hkv
    have hm := may_c C2.out.at1 f
    rw [C2.out.db] at hm
    have Hm := Lib.hid hm
    have hr0 : Dk.truncate D f n = if Dk.may (Dk.come D) f ≠ 0 then (Dk.come D, Dk.may (Dk.come D) f) else if n < 0 ∨ ((((Dk.come D).fs f).now.length : Nat) : Int) < n then (Dk.come D, 1) else (Dk.settle (Dk.come D) f (((Dk.come D).fs f).now.take n.toNat), 0) := rfl
    generalize hD' : Dk.come D = D' at *
    clear hm hD'
    by_cases hm0 : Dk.may D' f = 0
    rotate_left
    · have hr : Hid (Dk.truncate D f n = (D', Dk.may D' f)) := by show _ = _; rw [hr0, if_pos hm0]
      have d0 : (Dk.may D' f == 0) = false := beq_eq_false_iff_ne.2 hm0
      have d1 : (Dk.may D' f != 0) = true := by simp [hm0]
      clear hm0 hr0
      go_wp2_with fail
      (with_reducible refine Hm.out.mono ?_)
      rintro _ _ ⟨rfl, rfl⟩
      go_wp2_with fail
      go_ret
      exact ⟨by rw [hr.out]; rfl, by rw [hr.out]; exact C2.out.to⟩
    rw [hm0] at Hm
    rw [if_neg (by omega)] at hr0
    clear hm0
    by_cases hn0 : n < 0
    · have hr : Hid (Dk.truncate D f n = (D', 1)) := by show _ = _; rw [hr0, if_pos (Or.inl hn0)]
      clear hr0
      go_wp2_with fail
      (with_reducible refine Hm.out.mono ?_)
      rintro _ _ ⟨rfl, rfl⟩
      go_wp2_with fail
      go_ret
      exact ⟨by rw [hr.out]; rfl, by rw [hr.out]; exact C2.out.to⟩
    have hsz := size_c C2.out.at1 HF.out
    rw [C2.out.db] at hsz
    have hse : Dk.size D' f = ((D'.fs f).now.length : Int) := rfl
    have Hsz := Lib.hid hsz
    clear hsz
    by_cases hn1 : ((D'.fs f).now.length : Int) < n
    · have hr : Hid (Dk.truncate D f n = (D', 1)) := by show _ = _; rw [hr0, if_pos (Or.inr hn1)]
      rw [← hse] at hn1
      clear hr0 hse
      go_wp2_with fail
      (with_reducible refine Hm.out.mono ?_)
      rintro _ _ ⟨rfl, rfl⟩
      go_wp2_with fail
      (with_reducible refine Hsz.out.mono ?_)
      rintro _ _ ⟨rfl, rfl⟩
      go_wp2_with fail
      go_ret
      exact ⟨by rw [hr.out]; rfl, by rw [hr.out]; exact C2.out.to⟩
    have hr : Hid (Dk.truncate D f n = (Dk.settle D' f ((D'.fs f).now.take n.toNat), 0)) := by show _ = _; rw [hr0, if_neg (by omega)]
    have c0 := C2.out.at1.cells.1
    rw [C2.out.db] at c0
    have hlk := C2.out.at1.files.look HF.out
    unfold filV at hlk
    have hfn := Lib.hid (field_now (D'.fs f) w2)
    have hnow := C2.out.at1.ok.now f
    have hst := settle_c C2.out.at1 (g.upd C2.out.upd) HF.out ((D'.fs f).now.take n.toNat) (by rw [List.length_take]; omega) (Nat.le_trans HB.out C2.out.upd.size)
    rw [C2.out.db] at hst
    have hxt : (({ data := (D'.fs f).now.toArray } : ByteArray).extract 0 n.toNat) = ⟨((D'.fs f).now.take n.toNat).toArray⟩ := by rw [bs_extract]; simp
    rw [← hxt] at hst
    have hn1' : ¬ Dk.size D' f < n := by rw [hse]; exact hn1
    have hn2 : n ≤ ((D'.fs f).now.length : Int) := by omega
    have Hlk := Lib.hid hlk
    have Hst := Lib.hid hst
    clear hlk hst hr0 hxt hnow hn1 hse
    go_wp2_with fail
    (with_reducible refine Hm.out.mono ?_)
    rintro _ _ ⟨rfl, rfl⟩
    go_wp2_with fail
    (with_reducible refine Hsz.out.mono ?_)
    rintro _ _ ⟨rfl, rfl⟩
    go_wp2_with (first | (at_lookup; refine wpList_lookL rfl _ _ tFiles false rfl _ _ _ rfl rfl Hlk.out ?_) | (with_reducible refine wpList_fieldL (o := ⟨some 39, _, _, _, _, _⟩) rfl _ tFile 0 rfl _ _ hfn.out (by with_unfolding_all rfl) ?_))
    (with_reducible refine Hst.out.mono ?_)
    rintro _ w4 ⟨rfl, hT4⟩
    go_wp2_with fail
    go_ret
    exact ⟨by rw [hr.out]; rfl, by rw [hr.out]; exact C2.out.then_ hT4⟩
  | false =>
    have hcome : Dk.counted D = Dk.come D := by unfold Dk.come; rw [hE, if_neg (by decide)]
    obtain ⟨w2, rfl⟩ : ∃ z, z = w1 := ⟨_, rfl⟩
    obtain ⟨r2, hcm⟩ := DiskTo.came H.out (by have := C1.out.to; rw [hcome] at this; exact this)
    have C2 := Lib.hid hcm
    clear hcm hE C1 hcome
    have hm := may_c C2.out.at1 f
    rw [C2.out.db] at hm
    have Hm := Lib.hid hm
    have hr0 : Dk.truncate D f n = if Dk.may (Dk.come D) f ≠ 0 then (Dk.come D, Dk.may (Dk.come D) f) else if n < 0 ∨ ((((Dk.come D).fs f).now.length : Nat) : Int) < n then (Dk.come D, 1) else (Dk.settle (Dk.come D) f (((Dk.come D).fs f).now.take n.toNat), 0) := rfl
    generalize hD' : Dk.come D = D' at *
    clear hm hD'
    by_cases hm0 : Dk.may D' f = 0
    rotate_left
    · have hr : Hid (Dk.truncate D f n = (D', Dk.may D' f)) := by show _ = _; rw [hr0, if_pos hm0]
      have d0 : (Dk.may D' f == 0) = false := beq_eq_false_iff_ne.2 hm0
      have d1 : (Dk.may D' f != 0) = true := by simp [hm0]
      clear hm0 hr0
      go_wp2_with fail
      (with_reducible refine Hm.out.mono ?_)
      rintro _ _ ⟨rfl, rfl⟩
      go_wp2_with fail
      go_ret
      exact ⟨by rw [hr.out]; rfl, by rw [hr.out]; exact C2.out.to⟩
    rw [hm0] at Hm
    rw [if_neg (by omega)] at hr0
    clear hm0
    by_cases hn0 : n < 0
    · have hr : Hid (Dk.truncate D f n = (D', 1)) := by show _ = _; rw [hr0, if_pos (Or.inl hn0)]
      clear hr0
      go_wp2_with fail
      (with_reducible refine Hm.out.mono ?_)
      rintro _ _ ⟨rfl, rfl⟩
      go_wp2_with fail
      go_ret
      exact ⟨by rw [hr.out]; rfl, by rw [hr.out]; exact C2.out.to⟩
    have hsz := size_c C2.out.at1 HF.out
    rw [C2.out.db] at hsz
    have hse : Dk.size D' f = ((D'.fs f).now.length : Int) := rfl
    have Hsz := Lib.hid hsz
    clear hsz
    by_cases hn1 : ((D'.fs f).now.length : Int) < n
    · have hr : Hid (Dk.truncate D f n = (D', 1)) := by show _ = _; rw [hr0, if_pos (Or.inr hn1)]
      rw [← hse] at hn1
      clear hr0 hse
      go_wp2_with fail
      (with_reducible refine Hm.out.mono ?_)
      rintro _ _ ⟨rfl, rfl⟩
      go_wp2_with fail
      (with_reducible refine Hsz.out.mono ?_)
      rintro _ _ ⟨rfl, rfl⟩
      go_wp2_with fail
      go_ret
      exact ⟨by rw [hr.out]; rfl, by rw [hr.out]; exact C2.out.to⟩
    have hr : Hid (Dk.truncate D f n = (Dk.settle D' f ((D'.fs f).now.take n.toNat), 0)) := by show _ = _; rw [hr0, if_neg (by omega)]
    have c0 := C2.out.at1.cells.1
    rw [C2.out.db] at c0
    have hlk := C2.out.at1.files.look HF.out
    unfold filV at hlk
    have hfn := Lib.hid (field_now (D'.fs f) w2)
    have hnow := C2.out.at1.ok.now f
    have hst := settle_c C2.out.at1 (g.upd C2.out.upd) HF.out ((D'.fs f).now.take n.toNat) (by rw [List.length_take]; omega) (Nat.le_trans HB.out C2.out.upd.size)
    rw [C2.out.db] at hst
    have hxt : (({ data := (D'.fs f).now.toArray } : ByteArray).extract 0 n.toNat) = ⟨((D'.fs f).now.take n.toNat).toArray⟩ := by rw [bs_extract]; simp
    rw [← hxt] at hst
    have hn1' : ¬ Dk.size D' f < n := by rw [hse]; exact hn1
    have hn2 : n ≤ ((D'.fs f).now.length : Int) := by omega
    have Hlk := Lib.hid hlk
    have Hst := Lib.hid hst
    clear hlk hst hr0 hxt hnow hn1 hse
    go_wp2_with fail
    (with_reducible refine Hm.out.mono ?_)
    rintro _ _ ⟨rfl, rfl⟩
    go_wp2_with fail
    (with_reducible refine Hsz.out.mono ?_)
    rintro _ _ ⟨rfl, rfl⟩
    go_wp2_with (first | (at_lookup; refine wpList_lookL rfl _ _ tFiles false rfl _ _ _ rfl rfl Hlk.out ?_) | (with_reducible refine wpList_fieldL (o := ⟨some 39, _, _, _, _, _⟩) rfl _ tFile 0 rfl _ _ hfn.out (by with_unfolding_all rfl) ?_))
    (with_reducible refine Hst.out.mono ?_)
    rintro _ w4 ⟨rfl, hT4⟩
    go_wp2_with fail
    go_ret
    exact ⟨by rw [hr.out]; rfl, by rw [hr.out]; exact C2.out.then_ hT4⟩
end Go.Proofs.YtagmlemlagbfkaaGreatDoor
namespace Go.Proofs.YtagmlemlagbfkaaGreatDoor
open Go.RowKit
set_option linter.unusedVariables false
set_option linter.unusedSimpArgs false
attribute [local irreducible] Calls

theorem sum_step {m : Int} (h0 : 0 ≤ m) (h1 : m < 2147483647) (c : Nat) (hc : c < 256) (k : Nat) (hk : (k : Int) ≤ 1000000000) :
    (wrap64 (m + wrap64 (wrap64 (c : Int) * ((k : Int) + 1)))).tmod 2147483647 = (m + (c : Int) * ((k : Int) + 1)) % 2147483647 := by
  have a0 : 0 ≤ (c : Int) * ((k : Int) + 1) := Int.mul_nonneg (by omega) (by omega)
  have a1 : (c : Int) * ((k : Int) + 1) ≤ 255 * ((k : Int) + 1) := Int.mul_le_mul_of_nonneg_right (by omega) (by omega)
  have e0 : wrap64 (c : Int) = c := by unfold wrap64; omega
  rw [e0]
  generalize (c : Int) * ((k : Int) + 1) = x at *
  have e1 : wrap64 x = x := by unfold wrap64; omega
  rw [e1]
  have e2 : wrap64 (m + x) = m + x := by unfold wrap64; omega
  rw [e2, Int.tmod_eq_emod_of_nonneg (by omega)]
set_option maxRecDepth 100000 in
theorem Sum_c (s : List UInt8) (hs : s.length ≤ 1000000000) (w : World) :
    Calls Tryz.prog 199 #[.string ⟨s.toArray⟩] w fun e w' => e = .returned (.int .i64 (Jr.sumN s)) ∧ w = w' := by
  have hs1 : (s.length : Int) ≤ 1000000000 := by omega
  have hs0 : (0 : Int) ≤ s.length := by omega
  clear hs
  go_enter Tryz.func199, Tryz.ntmps199
  go_wp2_with fail
  go_loopw [3, 7] (fun nv iv wr => ∃ k : Nat, k ≤ s.length ∧ iv = .int .i64 k ∧ nv = .int .i64 (Jr.sumN (s.take k)) ∧ w = wr) (fun _ iv _ => s.length - (intOf iv).toNat)
  case atStart => exact ⟨0, Nat.zero_le _, rfl, rfl, rfl⟩
  case round =>
    obtain ⟨k, hk, rfl, rfl, rfl⟩ := hrel
    have hb := Jr.sumN_bd (s.take k)
    by_cases hlt : k < s.length
    · have hn : Jr.sumN (s.take (k + 1)) = (Jr.sumN (s.take k) + s[k].toNat * ((k : Int) + 1)) % 2147483647 := by
        rw [List.take_succ_eq_append_getElem hlt, Jr.sumN_snoc, List.length_take, Nat.min_eq_left (Nat.le_of_lt hlt)]
      have hc : s[k].toNat < 256 := s[k].toNat_lt
      go_wp2_with fail
      go_roundw
      case rel => 
        refine ⟨k + 1, by omega, by go_num, ?_, trivial⟩
        rw [hn]
        exact congrArg (Value.int .i64) (sum_step hb.1 hb.2 s[k].toNat hc k (by omega))
      case measure => simp [intOf]; omega
    · obtain rfl : k = s.length := by omega
      have ht : s.take s.length = s := List.take_length
      rw [ht]
      go_wp2_with fail
      go_ret
      exact ⟨rfl, rfl⟩
set_option maxRecDepth 100000 in
theorem form_c (s : List UInt8) (hs : s.length ≤ 1000000000) (w : World) (g : Gl w) :
    Calls Tryz.prog 164 #[.string ⟨s.toArray⟩] w fun e w' => e = .returned (.string ⟨(Jr.form s).toArray⟩) ∧ Nw w w' := by
  have ht := Lib.hid (Text_e ⟨s.toArray⟩ s (bs_list s) w g (by omega))
  have hb := Jr.sumN_bd s
  have hf := Jr.form_len s (by omega)
  unfold Jr.form at hf
  rw [List.length_append] at hf
  have hf1 : (Wire.textE s).length ≤ 1000000043 := by omega
  have hf2 : (Wire.numE (Jr.sumN s)).length ≤ 1000000043 := by omega
  have hu := Lib.hid (fun z => Sum_c s hs z)
  have hI : Hid (I64 (Jr.sumN s)) := by show I64 _; unfold I64; omega
  clear hs hb hf
  go_enter Tryz.func164, Tryz.ntmps164
  go_wp2_with fail
  (with_reducible refine (ht.out).mono ?_)
  rintro _ w1 ⟨rfl, u1⟩
  go_wp2_with fail
  (with_reducible refine (hu.out _).mono ?_)
  rintro _ _ ⟨rfl, rfl⟩
  go_wp2_with fail
  (with_reducible refine (Num_e _ _ (g.upd u1) hI.out).mono ?_)
  rintro _ w2 ⟨rfl, u2⟩
  go_wp2_with fail
  go_ret
  refine ⟨ret_bs ?_, u1.trans u2⟩
  simp only [bs_append_list, bs_list]
  rfl
end Go.Proofs.YtagmlemlagbfkaaGreatDoor
namespace Go.Proofs.YtagmlemlagbfkaaGreatDoor
open Go.RowKit
set_option linter.unusedVariables false
set_option linter.unusedSimpArgs false
attribute [local irreducible] Calls

abbrev tStrJ : TypeId := 9
theorem infoStrJ : (Tryz.prog.info? tStrJ).map (fun i => (i.zero, i.size, i.bytes)) = some (some (.string ⟨#[]⟩), 1, 16) := by kernel_rfl
theorem rText_fst (st : Wire.St) : (Wire.rText st).1.length ≤ (st.getD []).length := by
  cases h : (Wire.rText st).2 with
  | none => rw [Wire.rText_fail h]; simp
  | some r' =>
    cases st with
    | none => simp [Wire.rText, Wire.rNumber] at h
    | some r =>
      have := Wire.rText_inv (r := r) (r' := r') (t := (Wire.rText (some r)).1) (by rw [← h])
      have e := congrArg List.length this
      simp only [List.length_append, Wire.textE, List.length_cons] at e
      simp only [Option.getD_some]
      omega
/-- What has been read so far. -/
def ReadI (s : List UInt8) (w wr : World) (lv : Value) (n : Nat) : Prop :=
  ∃ R rest, s = Jr.forms R ++ rest ∧ Jr.recs s = R ++ Jr.recs rest ∧ n = (Jr.forms R).length ∧ wr.ownsRow w.heap.size tStrJ 1 lv R.length (R.map bsV) ∧ Nw w wr
/-- What read answers. -/
def ReadDone (s : List UInt8) (w wr : World) (lv : Value) (n : Nat) : Prop :=
  n = (Jr.forms (Jr.recs s)).length ∧ wr.ownsRow w.heap.size tStrJ 1 lv (Jr.recs s).length ((Jr.recs s).map bsV) ∧ Nw w wr
theorem ReadI.done {s : List UInt8} {w wr : World} {lv : Value} {n : Nat} {R : List (List UInt8)} {rest : List UInt8} (e1 : s = Jr.forms R ++ rest) (e2 : Jr.recs s = R ++ Jr.recs rest) (e3 : n = (Jr.forms R).length) (e4 : wr.ownsRow w.heap.size tStrJ 1 lv R.length (R.map bsV)) (e5 : Nw w wr)
    (h : Jr.one rest = none) {wz : World} (u : Nw wr wz) : ReadDone s w wz lv n := by
  rw [Jr.recs_none h, List.append_nil] at e2
  unfold ReadDone
  rw [e2]
  exact ⟨e3, owns_updD e4 u (fun _ _ e => e), e5.trans u⟩
theorem one_far {rest : List UInt8} (h : 20000 < (Wire.rText (some rest)).1.length) : Jr.one rest = none := by
  unfold Jr.one; rw [if_neg (by omega)]
theorem one_num {rest : List UInt8} (h : ¬ (Wire.rNum (Wire.rText (some rest)).2).1 = Jr.sumN (Wire.rText (some rest)).1) : Jr.one rest = none := by
  unfold Jr.one; rw [if_neg (fun e => h e.2.2)]
theorem one_is {rest t : List UInt8} (h : Jr.one rest = some t) : t = (Wire.rText (some rest)).1 := by
  unfold Jr.one at h
  split at h
  · injection h with h; exact h.symm
  · cases h
theorem one_short {rest : List UInt8} (h : rest.length < (Jr.form (Wire.rText (some rest)).1).length) : Jr.one rest = none := by
  cases ho : Jr.one rest with
  | none => rfl
  | some t =>
    obtain ⟨r, e, _⟩ := Jr.one_inv ho
    rw [← one_is ho, e, List.length_append] at h
    omega
theorem one_other {rest : List UInt8} (h : ¬ rest.take (Jr.form (Wire.rText (some rest)).1).length = Jr.form (Wire.rText (some rest)).1) : Jr.one rest = none := by
  cases ho : Jr.one rest with
  | none => rfl
  | some t =>
    obtain ⟨r, e, _⟩ := Jr.one_inv ho
    refine absurd ?_ h
    rw [← one_is ho, e, List.take_left']
    rfl
set_option maxHeartbeats 1000000 in
set_option maxRecDepth 100000 in
theorem read_j (s : List UInt8) (hs : s.length ≤ 16777216) (w : World) (g : Gl w) :
    Calls Tryz.prog 161 #[.string ⟨s.toArray⟩] w fun e w' => ∃ v', e = .returned (.tuple #[v', .int .i64 (Jr.forms (Jr.recs s)).length]) ∧ w'.ownsRow w.heap.size tStrJ 1 v' (Jr.recs s).length ((Jr.recs s).map bsV) ∧ Nw w w' := by
  have hgb := g.big
  have hs1 : (s.length : Int) ≤ 16777216 := by omega
  have hs0 : (0 : Int) ≤ s.length := by omega
  have HS := Lib.hid hs
  clear hs
  have h0 : Hid (ReadI s w w (.slice none 0 0) 0) := ⟨[], s, rfl, rfl, rfl, World.ownsRow_nil _ _ _ _, Upd.refl _ _⟩
  go_enter Tryz.func161, Tryz.ntmps161
  go_wp2_with fail
  go_step3
  go_wp2_with fail
  go_step3
  go_wp2_with fail
  go_loopw [4, 5] (fun lv bv wr => ∃ n : Nat, bv = .int .i64 n ∧ Hid (ReadI s w wr lv n)) (fun _ bv _ => s.length - (intOf bv).toNat)
  case atStart => exact ⟨0, rfl, h0.out⟩
  case round =>
    obtain ⟨n, rfl, HI⟩ := hrel
    obtain ⟨R, rest, e1, e2, e3, e4, e5⟩ := HI.out
    have hnl : n + rest.length = s.length := by rw [e3, e1, List.length_append]
    obtain ⟨al, cl, rfl⟩ := own_slD e4
    have hR := Jr.len_forms R
    have hRl : R.length ≤ 16777216 := by have := HS.out; omega
    have HRl := Lib.hid hRl
    have Hown := Lib.hid e4
    have HU := Lib.hid e5
    have E1 := Lib.hid e1
    have E2 := Lib.hid e2
    have E3 := Lib.hid e3
    have Hnl := Lib.hid hnl
    clear hR hRl e4 e5 e2 e3
    by_cases hlt : n < s.length
    rotate_left
    · have hz : Hid (ReadDone s w wr (.slice al R.length cl) n) := by
        have hr : rest = [] := List.length_eq_zero_iff.1 (by omega)
        exact ReadI.done E1.out E2.out E3.out Hown.out HU.out (by rw [hr]; exact Jr.one_nil) (Upd.refl _ _)
      clear HI Hown E1 E2 E3 e1 Hnl
      go_wp2_with fail
      (try rw [Exit.noGoto_ret])
      go_ret2
      exact ⟨_, by rw [hz.out.1]; rfl, hz.out.2.1, hz.out.2.2⟩
    have hdrop : s.drop n = rest := by rw [e1, E3.out, List.drop_left]
    have gr := g.upd HU.out
    clear e1
    have hsl : Hid ((({ data := s.toArray } : ByteArray).extract n s.length).data.toList = rest) := by
      show _ = _
      rw [bs_extract, bs_list, ← hdrop, ← Hnl.out]
      exact List.take_of_length_le (by rw [hdrop]; omega)
    have hop := Open_r _ rest hsl.out wr gr
    have hrl : rest.length ≤ 16777216 := by have := HS.out; omega
    have Hop := Lib.hid hop
    have Hrl := Lib.hid hrl
    clear hdrop hop hrl hsl
    go_wp2_with fail
    (with_reducible refine (Hop.out).mono ?_)
    rintro _ w1 ⟨b, rfl, hb, hr1, n1⟩
    have g1 := gr.upd n1
    have Hb := Lib.hid hb
    clear hb Hop
    go_wp2_with fail
    (with_reducible refine (Text_r b (some rest) w1 g1 hr1 (by have := Hrl.out; simp only [Option.getD_some]; omega)).mono ?_)
    rintro _ w2 ⟨rfl, hr2, u2⟩
    have g2 := g1.upd u2
    have htl := rText_fst (some rest)
    have hst := Wire.rText_le (some rest)
    simp only [Option.getD_some] at htl hst
    have Hst := Lib.hid hst
    clear hst hr1
    go_wp2_with fail
    (with_reducible refine (Num_r b _ w2 g2 hr2 (by have := Hst.out; have := Hrl.out; omega)).mono ?_)
    rintro _ w3 ⟨rfl, _, u3⟩
    have g3 := g2.upd u3
    have hone : ∀ t nn : _, t = (Wire.rText (some rest)).1 → nn = (Wire.rNum (Wire.rText (some rest)).2).1 → (20000 < t.length → Jr.one rest = none) ∧ (¬ nn = Jr.sumN t → Jr.one rest = none) ∧ (rest.length < (Jr.form t).length → Jr.one rest = none) ∧ (¬ rest.take (Jr.form t).length = Jr.form t → Jr.one rest = none) := by
      rintro t nn rfl rfl
      exact ⟨one_far, one_num, one_short, one_other⟩
    have hone2 := Lib.hid (hone _ _ rfl rfl)
    have Htl := Lib.hid htl
    clear hone htl Hst hr2
    generalize (Wire.rNum (Wire.rText (some rest)).2).1 = nn at *
    generalize (Wire.rText (some rest)).1 = t at *
    have hfc := form_c t (by have := Htl.out; have := Hrl.out; omega) w3 g3
    have Hfc := Lib.hid hfc
    have Hfp := Lib.hid (Jr.form_pos t)
    have hfl := Jr.form_len t (by have := Htl.out; have := Hrl.out; omega)
    have U3 : Hid (Nw wr w3) := (n1.trans' u2 (fun j hj e => by subst e; have := Hb.out; omega)).trans' u3 (fun j hj e => by subst e; have := Hb.out; omega)
    have hfl1 : ((Jr.form t).length : Int) ≤ 16777300 := by have := Htl.out; have := Hrl.out; omega
    have hfl0 : (0 : Int) ≤ (Jr.form t).length := by omega
    clear hfc n1 u2 u3 hfl
    go_wp2_with fail
    (with_reducible refine (Hfc.out).mono ?_)
    rintro _ w4 ⟨rfl, u4⟩
    have U4 := Lib.hid (U3.out.trans u4)
    have hdone : Hid (Jr.one rest = none → Hid (ReadDone s w w4 (.slice al R.length cl) n)) := fun h => ReadI.done E1.out E2.out E3.out Hown.out HU.out h U4.out
    have hsum := Lib.hid (Sum_c t (by have := Htl.out; have := Hrl.out; omega))
    have ht1 : (t.length : Int) ≤ 16777216 := by have := Htl.out; have := Hrl.out; omega
    clear u4 Hfc
    by_cases hf1 : 20000 < t.length
    · have hf1' : (20000 : Int) < t.length := by omega
      have hz := hdone.out (hone2.out.1 hf1)
      clear hdone
      go_wp2_with fail
      (try rw [Exit.noGoto_ret])
      go_ret2
      exact ⟨_, by rw [hz.out.1]; rfl, hz.out.2.1, hz.out.2.2⟩
    have hf1' : ¬ (20000 : Int) < t.length := by omega
    have Hf1 := Lib.hid hf1
    clear hf1
    by_cases hf2 : nn = Jr.sumN t
    rotate_left
    · have hb1 : (nn == Jr.sumN t) = false := beq_eq_false_iff_ne.2 hf2
      have hb2 : (nn != Jr.sumN t) = true := by simp [hf2]
      have hz := hdone.out (hone2.out.2.1 hf2)
      clear hdone
      go_wp2_with fail
      (with_reducible refine (hsum.out _).mono ?_)
      rintro _ _ ⟨rfl, rfl⟩
      go_wp2_with fail
      (try rw [Exit.noGoto_ret])
      go_ret2
      exact ⟨_, by rw [hz.out.1]; rfl, hz.out.2.1, hz.out.2.2⟩
    have hb1 : (nn == Jr.sumN t) = true := beq_iff_eq.2 hf2
    have hb2 : (nn != Jr.sumN t) = false := by simp [hf2]
    clear hf2
    by_cases hf3 : rest.length < (Jr.form t).length
    · have h3 : (s.length : Int) - n < (Jr.form t).length := by have := Hnl.out; omega
      have hz := hdone.out (hone2.out.2.2.1 hf3)
      clear hdone hf3
      go_wp2_with fail
      (with_reducible refine (hsum.out _).mono ?_)
      rintro _ _ ⟨rfl, rfl⟩
      go_wp2_with fail
      (try rw [Exit.noGoto_ret])
      go_ret2
      exact ⟨_, by rw [hz.out.1]; rfl, hz.out.2.1, hz.out.2.2⟩
    have h3 : ¬ (s.length : Int) - n < (Jr.form t).length := by have := Hnl.out; omega
    have h4 : (n : Int) + (Jr.form t).length ≤ s.length := by have := Hnl.out; omega
    have h5 : n + (Jr.form t).length ≤ s.length := by have := Hnl.out; omega
    have hext : (({ data := s.toArray } : ByteArray).extract n (n + (Jr.form t).length)).data.toList = rest.take (Jr.form t).length := by
      rw [bs_extract, bs_list, E1.out, E3.out, List.drop_left, Nat.add_sub_cancel_left]
    have hj0 : (0 : Int) ≤ (n : Int) + (Jr.form t).length := by omega
    have htn : ((n : Int) + (Jr.form t).length).toNat = n + (Jr.form t).length := by omega
    have hsl2 : ∀ z : World, (Instr.slice 9 (.string ⟨s.toArray⟩) (some (.int .i64 n)) (some (.int .i64 ((n : Int) + (Jr.form t).length))) none).run Tryz.prog z = .ok (.string ⟨(rest.take (Jr.form t).length).toArray⟩) z := fun z => by
      have := run_slice_string (P := Tryz.prog) z 9 ⟨s.toArray⟩ .i64 .i64 (n : Int) ((n : Int) + (Jr.form t).length) Tryz.underlying9 (by omega) (by omega) (by rw [bs_size, bs_list]; exact h4)
      rw [htn, Int.toNat_natCast, ← bs_eta ((⟨s.toArray⟩ : ByteArray).extract n (n + (Jr.form t).length)), hext] at this
      exact this
    clear hf3 hj0 htn hext
    by_cases hf4 : rest.take (Jr.form t).length = Jr.form t
    rotate_left
    · have hz := hdone.out (hone2.out.2.2.2 hf4)
      have hq : (rest.take (Jr.form t).length == Jr.form t) = false := beq_eq_false_iff_ne.2 hf4
      generalize rest.take (Jr.form t).length = X at *
      clear hdone
      go_wp2_with fail
      (with_reducible refine (hsum.out _).mono ?_)
      rintro _ _ ⟨rfl, rfl⟩
      go_wp2_with fail
      (try rw [Exit.noGoto_ret])
      go_ret2
      exact ⟨_, by rw [hz.out.1]; rfl, hz.out.2.1, hz.out.2.2⟩
    rw [hf4] at hsl2
    have hrest : rest = Jr.form t ++ rest.drop (Jr.form t).length := by
      conv => lhs; rw [← List.take_append_drop (Jr.form t).length rest, hf4]
    have ho4 := Lib.hid (owns_updD Hown.out U4.out (fun _ _ e => e))
    have hnext : Hid (∀ v' w5, w5.ownsRow w.heap.size tStrJ 1 v' (R.length + 1) (R.map bsV ++ [bsV t]) → Nw w w5 → ReadI s w w5 v' (n + (Jr.form t).length)) := fun v' w5 o5 u5 => by
      refine ⟨R ++ [t], rest.drop (Jr.form t).length, ?_, ?_, ?_, ?_, u5⟩
      · rw [Jr.forms_snoc, List.append_assoc, ← hrest]; exact E1.out
      · rw [E2.out, List.append_assoc, hrest, Jr.recs_form (by have := Hf1.out; omega)]
        simp
      · rw [Jr.forms_snoc, List.length_append, ← E3.out]
      · rw [List.length_append, List.map_append]; exact o5
    have hW : w.heap.size ≤ w4.heap.size := Nat.le_trans HU.out.size U4.out.size
    have HWn := Lib.hid (HU.out.trans U4.out)
    clear hf4 hrest hdone
    go_wp2_with (first | (go_at_call 199; ((with_reducible refine (hsum.out _).mono ?_); rintro _ _ ⟨rfl, rfl⟩)) | (at_builtin; refine wpList_appL rfl _ _ 30 rfl w.heap.size tStrJ _ 1 16 Tryz.underlying30 infoStrJ rfl (by decide) _ _ _ rfl ho4.out [bsV t] rfl rfl ?c1 ?c2 ?c3 hW hgb ?_))
    case c1 => intro u hu; rw [List.mem_singleton.1 hu]; rfl
    case c2 => have := HRl.out; unfold maxLen; omega
    case c3 => have := HRl.out; omega
    intro v' w5 o5 u5 hob
    have hn5 := Lib.hid (hnext.out v' w5 o5 (HWn.out.trans' u5 (fun j hj e => by have := (ho4.out.lt j e).1; omega)))
    clear o5 u5 hob
    go_wp2_with fail
    go_roundw
    case rel => exact ⟨n + (Jr.form t).length, by go_num, hn5.out⟩
    case measure => have := Hfp.out; simp [intOf]; omega
end Go.Proofs.YtagmlemlagbfkaaGreatDoor
namespace Go.Proofs.YtagmlemlagbfkaaGreatDoor
open Go.RowKit
set_option linter.unusedVariables false
set_option linter.unusedSimpArgs false
attribute [local irreducible] Calls

section
variable {P : Program} {w : World} {ops : Array Oper} {rest : List Oper} {o : Oper} {a : Act} {Q : Exit → Act → World → Prop}
/-- 'make([]T, n)', elements of one cell. -/
theorem wpList_makeE (hgd : o.guard = none) (l c : Operand) (t e : TypeId) (z : Value) (bytes : Nat) (hop : o.op = Op.makeSlice t l c) (ht : P.underlying t = some (.slice e)) (hinfo : (P.info? e).map (fun i => (i.zero, i.size, i.bytes)) = some (some z, 1, bytes))
    (n : Nat) (hl : a.eval l = .int .i64 n) (hc : a.eval c = .int .i64 n) (hn : n ≤ 281474976710656) (hb : n * bytes ≤ 281474976710656)
    (h : ∀ w', w'.heap[w.heap.size]? = some (.cells (madeCells z.cells n) e (0, 0)) → Nw w w' → wpList P ops Q rest (a.put o.dst (.slice (some ⟨w.heap.size, 0, none⟩) n n)) w') : wpList P ops Q (o :: rest) a w := by
  obtain ⟨i0, hi, hz0, hz1, hz2⟩ := info_parts hinfo
  have hrun := run_make (P := P) w t e i0 z ht hi hz0 .i64 .i64 n n (by omega) (Int.le_refl _) (by rw [hz2, Int.mul_comm]; have h2 := Int.ofNat_le.2 hb; rw [Int.natCast_mul] at h2; exact h2) (by omega)
  rw [Int.toNat_natCast, hz1, Nat.mul_one] at hrun
  refine wpList_plain hgd fun K hK => ?_
  unfold Oper.wp
  simp [execOp, hop, hl, hc, hrun, Result.andThen]
  exact hK _ _ (h _ (heap_new w _) (nw_alloc w _))
/-- 'copy(b, s)', b a row of as many elements as s. -/
theorem wpList_copyE (hgd : o.guard = none) (d s : Operand) (dT sT : TypeId) (ho : o.op = .call { callee := .builtin .copy, args := #[d, s], argTypes := #[dT, sT] }) (elem : TypeId) (hu : P.underlying dT = some (.slice elem)) (hsz : (P.info? elem).map (·.size) = some 1)
    (g n : Nat) (hd : a.eval d = .slice (some ⟨g, 0, none⟩) n n) (vs : Value) (B : Nat) (xs : List Value) (hs : a.eval s = vs) (hsrc : w.ownsRow B elem 1 vs n xs) (cur : Array Value) (T : TypeId) (hg : w.heap[g]? = some (.cells cur T (0, 0))) (hcur : cur.size = n) (h1 : ∀ v ∈ xs, v.oneCell' = true) (hG : nG ≤ g)
    (h : ∀ w', w'.heap[g]? = some (.cells xs.toArray T (0, 0)) → Upd (fun x => x = g) w w' → wpList P ops Q rest (a.put o.dst (goInt n)) w') : wpList P ops Q (o :: rest) a w := by
  obtain ⟨hl, hsrc2⟩ := hsrc
  rcases hsrc2 with ⟨rfl, rfl⟩ | ⟨gs, cap, cs, rfl, hb, hgs, hc, hm, hsz2, htk⟩
  · obtain rfl : xs = [] := List.eq_nil_of_length_eq_zero (by simpa using hl)
    refine wpList_copy_nothing hgd d s dT sT ho elem hu hsz _ _ _ _ _ _ hd hs (by simp) ?_
    refine h w ?_ (Upd.refl _ _)
    rw [hg, Array.eq_empty_of_size_eq_zero hcur]
  · have hlx : xs.length = n := by rw [hl, Nat.mul_one]
    refine wpList_copy_own hgd d s dT sT ho elem hu hsz g 0 n n ⟨gs, 0, none⟩ n cap hd hs cur T hg xs (by simp [hlx]) ?_ (by omega) h1 ?_
    · intro j v hv
      have hj : j < n := by rw [← hlx]; exact (List.getElem?_eq_some_iff.1 hv).1
      rw [add_plain, cells_cell hgs, Nat.zero_add]
      rw [← htk, List.getElem?_take, if_pos (by omega)] at hv
      simpa using hv
    · have e : (cur.toList.take 0 ++ (xs ++ cur.toList.drop (0 + xs.length))) = xs := by
        rw [List.take_zero, List.nil_append, Nat.zero_add, hlx, List.drop_of_length_le (by simp [hcur]), List.append_nil]
      rw [e, hlx]
      refine h _ (setRow_heap w g _ _ T _ hg) ⟨rfl, rfl, rfl, by simp [World.setRow], fun k hk hn => setRow_other w g k _ ?_⟩
      rintro rfl
      rcases hn with hn | hn
      · omega
      · exact hn rfl
end
/-! ### The journal -/
abbrev tJrn : TypeId := 249
structure JrnR where
  jb : Nat
  rv : Value
def JrnR.foot (x : JrnR) (k : Nat) : Prop := k = x.jb ∨ x.rv.ownBlock = some k
def jrnC (db : Nat) (x : JrnR) (j : Jr.Jn) : Array Value := #[.pointer (some ⟨db, 0, none⟩), .int .i64 j.file, x.rv, .int .i64 ((Jr.forms j.recs).length : Nat), .bool j.broken]
structure JrnOk (j : Jr.Jn) : Prop where
  file : 0 ≤ j.file ∧ j.file ≤ 15
  bytes : (Jr.forms j.recs).length ≤ 16777216
/-- In the blocks from B on lies the journal x on the disk db, in the state j. -/
structure JrnAt (B : Nat) (w : World) (db : Nat) (x : JrnR) (j : Jr.Jn) : Prop where
  hb : nG ≤ B
  jb : B ≤ x.jb
  blk : w.heap[x.jb]? = some (.cells (jrnC db x j) tJrn (0, 0))
  own : w.ownsRow B tStrJ 1 x.rv j.recs.length (j.recs.map bsV)
  ok : JrnOk j
section
variable {B db : Nat} {w w' : World} {x : JrnR} {j : Jr.Jn}
theorem JrnAt.foot_lt (h : JrnAt B w db x j) {k : Nat} (hk : x.foot k) : B ≤ k ∧ k < w.heap.size := by
  rcases hk with rfl | hk
  · exact ⟨h.jb, lt_of_block h.blk⟩
  · obtain ⟨h1, cs, h2⟩ := own_blockD h.own hk
    exact ⟨h1, lt_of_block h2⟩
theorem JrnAt.upd {S : Nat → Prop} (h : JrnAt B w db x j) (u : Upd S w w') (hs : ∀ k, x.foot k → ¬ S k) : JrnAt B w' db x j :=
  ⟨h.hb, h.jb, u.keep h.blk (hs _ (Or.inl rfl)), owns_updD h.own u (fun k hk => hs k (Or.inr hk)), h.ok⟩
theorem JrnAt.nw (h : JrnAt B w db x j) (u : Nw w w') : JrnAt B w' db x j := h.upd u (fun _ _ s => s)
theorem JrnAt.ne (h : JrnAt B w db x j) : x.rv.ownBlock ≠ some x.jb := fun e => by
  obtain ⟨_, cs, e2⟩ := own_blockD h.own e
  rw [h.blk] at e2
  injection e2 with e2
  injection e2 with _ e2
  exact absurd e2 (by decide)
theorem JrnAt.cells (h : JrnAt B w db x j) :
    w.cell? ⟨x.jb, 0, none⟩ = some (.pointer (some ⟨db, 0, none⟩)) ∧ w.cell? ⟨x.jb, 1, none⟩ = some (.int .i64 j.file) ∧ w.cell? ⟨x.jb, 2, none⟩ = some x.rv ∧ w.cell? ⟨x.jb, 3, none⟩ = some (.int .i64 ((Jr.forms j.recs).length : Nat)) ∧ w.cell? ⟨x.jb, 4, none⟩ = some (.bool j.broken) := by
  refine ⟨?_, ?_, ?_, ?_, ?_⟩ <;> (rw [cells_cell h.blk]; rfl)
theorem JrnAt.len (h : JrnAt B w db x j) : j.recs.length ≤ 16777216 := Nat.le_trans (Jr.len_forms _) h.ok.bytes
theorem hold_on {p : Prop} (h : ∀ _ : Unit, p) : p := h ()
set_option maxRecDepth 100000 in
theorem All_c (h : JrnAt B w db x j) (g : Gl w) : Calls Tryz.prog 107 #[.pointer (some ⟨x.jb, 0, none⟩)] w fun e w' => ∃ v', e = .returned v' ∧ w'.ownsRow w.heap.size tStrJ 1 v' j.recs.length (j.recs.map bsV) ∧ Nw w w' := by
  have hgb := g.big
  obtain ⟨_, _, c2, _, _⟩ := h.cells
  obtain ⟨a, c, hv⟩ := own_slD h.own
  have hl := h.len
  have hl1 : (j.recs.length : Int) ≤ 16777216 := by omega
  have hl0 : (0 : Int) ≤ j.recs.length := by omega
  rw [hv] at c2
  have H := Lib.hid h
  have Hl := Lib.hid hl
  clear h hl
  go_enter Tryz.func107, Tryz.ntmps107
  go_wp2_with (at_make; refine wpList_makeE rfl _ _ 30 tStrJ _ 16 rfl Tryz.underlying30 infoStrJ j.recs.length rfl rfl ?m1 ?m2 ?_)
  case m1 => have := Hl.out; omega
  case m2 => have := Hl.out; omega
  intro w1 k1 n1
  have o1 := owns_updD H.out.own n1 (fun _ _ e => e)
  rw [hv] at o1
  have c2' := ((H.out.nw n1).cells).2.2.1
  rw [hv] at c2'
  have O1 := Lib.hid o1
  have K1 := Lib.hid k1
  clear o1 k1
  go_wp2_with (refine wpList_copyE rfl _ _ 30 30 rfl tStrJ Tryz.underlying30 (by kernel_rfl) w.heap.size j.recs.length rfl (.slice a j.recs.length c) B (j.recs.map bsV) rfl O1.out _ tStrJ K1.out ?k1 ?k2 hgb ?_)
  case k1 => rw [size_madeCells]
  case k2 => intro u hu; obtain ⟨y, _, rfl⟩ := List.mem_map.1 hu; rfl
  intro w2 k2 u2
  have K2 := Lib.hid k2
  have U2 : Hid (Nw w w2) := n1.trans' u2 (fun k hk e => by omega)
  clear k2 u2
  go_wp2_with fail
  go_ret
  refine ⟨_, rfl, ⟨by simp, Or.inr ⟨w.heap.size, _, _, rfl, Nat.le_refl _, K2.out, Nat.le_refl _, by have := Hl.out; unfold maxLen; omega, by simp, ?_⟩⟩, U2.out⟩
  rw [Nat.mul_one]
  exact List.take_of_length_le (by simp)
end
/-! ### A journal and its disk -/
structure JSys (B : Nat) (w : World) (d : DiskR) (x : JrnR) (D : Dk.Disk) (j : Jr.Jn) : Prop where
  disk : DiskAt B w d D
  jrn : JrnAt B w d.db x j
  ap : ∀ k, d.foot k → ¬ x.foot k
/-- What a call makes of a journal and its disk. -/
def JTo (B : Nat) (d : DiskR) (x : JrnR) (D' : Dk.Disk) (j' : Jr.Jn) (w w' : World) : Prop :=
  ∃ d' x', JSys B w' d' x' D' j' ∧ d'.db = d.db ∧ x'.jb = x.jb ∧ Upd (fun k => d.foot k ∨ x.foot k) w w' ∧ ∀ k, d'.foot k ∨ x'.foot k → (d.foot k ∨ x.foot k) ∨ w.heap.size ≤ k
section
variable {B : Nat} {w w' w2 : World} {d : DiskR} {x : JrnR} {D D' : Dk.Disk} {j j' : Jr.Jn}
theorem JSys.nw (h : JSys B w d x D j) (u : Nw w w') : JSys B w' d x D j := ⟨h.disk.nw u, h.jrn.nw u, h.ap⟩
theorem JTo.refl (h : JSys B w d x D j) : JTo B d x D j w w := ⟨d, x, h, rfl, rfl, Upd.refl _ _, fun k hk => Or.inl hk⟩
theorem JTo.of_nw (h : JSys B w d x D j) (u : Nw w w') : JTo B d x D j w w' := ⟨d, x, h.nw u, rfl, rfl, Nw.upd _ u, fun k hk => Or.inl hk⟩
/-- A call that turns the disk alone. -/
theorem JSys.disk_to (h : JSys B w d x D j) (t : DiskTo B d D' w w') : JTo B d x D' j w w' := by
  obtain ⟨d', h1, h2, h3, h4⟩ := t
  refine ⟨d', x, ⟨h1, by rw [h2]; exact h.jrn.upd h3 (fun k hk hd => h.ap k hd hk), fun k hk hx => ?_⟩, h2, rfl, h3.mono (fun k _ e => Or.inl e), fun k hk => ?_⟩
  · rcases h4 k hk with e | e
    · exact h.ap k e hx
    · have := (h.jrn.foot_lt hx).2; omega
  · rcases hk with hk | hk
    · exact (h4 k hk).imp Or.inl id
    · exact Or.inl (Or.inr hk)
theorem JTo.then_ {w1 : World} {d1 : DiskR} {x1 : JrnR} (hd : d1.db = d.db) (hx : x1.jb = x.jb) (u : Upd (fun k => d.foot k ∨ x.foot k) w w1) (hf : ∀ k, d1.foot k ∨ x1.foot k → (d.foot k ∨ x.foot k) ∨ w.heap.size ≤ k) (t : JTo B d1 x1 D' j' w1 w2) : JTo B d x D' j' w w2 := by
  obtain ⟨d2, x2, k1, k2, k3, k4, k5⟩ := t
  have hs := u.size
  refine ⟨d2, x2, k1, k2.trans hd, k3.trans hx, u.trans' k4 (fun k hk e => (hf k e).elim id (fun e2 => by omega)), fun k hk => ?_⟩
  rcases k5 k hk with e | e
  · exact hf k e
  · exact Or.inr (by omega)
/-- A cell of the journal's block is stored into. -/
theorem JSys.store (h : JSys B w d x D j) {j' : Jr.Jn} (i : Nat) (v : Value) (hc : (jrnC d.db x j).setIfInBounds i v = jrnC d.db x j') (e1 : j'.recs = j.recs) (e2 : j'.file = j.file) : JTo B d x D j' w (w.setCell ⟨x.jb, i, none⟩ v) := by
  have hjb := h.jrn.jb
  have hb := h.jrn.hb
  have u : Upd (fun k => k = x.jb) w (w.setCell ⟨x.jb, i, none⟩ v) := Upd.set1 (Upd.refl _ _) (by omega) i v
  refine ⟨d, x, ⟨h.disk.upd u (fun k hk e => h.ap k hk (Or.inl e)), ⟨h.jrn.hb, h.jrn.jb, ?_, ?_, ⟨by rw [e2]; exact h.jrn.ok.file, by rw [e1]; exact h.jrn.ok.bytes⟩⟩, h.ap⟩, rfl, rfl, u.mono (fun k _ e => Or.inr (Or.inl e)), fun k hk => Or.inl hk⟩
  · rw [← hc]; exact setCell_block h.jrn.blk i v
  · rw [e1]; exact owns_updD h.jrn.own u (fun k hk e => by subst e; exact h.jrn.ne hk)
theorem JrnOk.i64 (h : JrnOk j) : I64 j.file := by have := h.file; unfold I64; omega
set_option maxRecDepth 100000 in
theorem JSync_c (h : JSys B w d x D j) (g : Gl w) (hB : B ≤ w.heap.size) : Calls Tryz.prog 112 #[.pointer (some ⟨x.jb, 0, none⟩)] w fun e w' => e = .returned (.int .i64 (Jr.syncJ D j).2.2) ∧ JTo B d x (Jr.syncJ D j).1 (Jr.syncJ D j).2.1 w w' := by
  have hgb := g.big
  obtain ⟨c0, c1, _, _, c4⟩ := h.jrn.cells
  have H := Lib.hid h
  cases hb : j.broken with
  | true =>
    rw [hb] at c4
    have hr : Hid (Jr.syncJ D j = (D, j, 7)) := by show _ = _; unfold Jr.syncJ; rw [if_pos hb]
    clear hb h c0 c1
    go_enter Tryz.func112, Tryz.ntmps112
    go_wp2_with fail
    go_ret
    exact ⟨by rw [hr.out]; rfl, by rw [hr.out]; exact JTo.refl H.out⟩
  | false =>
    rw [hb] at c4
    have hr : Hid (Jr.syncJ D j = ((Dk.sync D j.file).1, { j with broken := decide ((Dk.sync D j.file).2 ≠ 0) }, (Dk.sync D j.file).2)) := by show _ = _; unfold Jr.syncJ; rw [if_neg (by rw [hb]; decide)]
    have l0 : ∀ i : Later w, i.1.cell? ⟨x.jb, 0, none⟩ = some (.pointer (some ⟨d.db, 0, none⟩)) := fun i => (H.out.jrn.nw i.nw).cells.1
    have l1 : ∀ i : Later w, i.1.cell? ⟨x.jb, 1, none⟩ = some (.int .i64 j.file) := fun i => (H.out.jrn.nw i.nw).cells.2.1
    have Hb := Lib.hid hb
    have HB := Lib.hid hB
    clear hb h hB
    go_enter Tryz.func112, Tryz.ntmps112
    go_wp2_with fail
    refine wp_region_nw_tail 8 (by kernel_rfl) (by kernel_rfl) ?_
    simp only [List.take_succ_cons, List.take_zero, List.drop_succ_cons, List.drop_zero]
    repeat (go_big_quiet_step ((fail)))
    refine wpQuiet_nil ?_
    intro w1 u1
    replace u1 := later_out u1
    have hs1 := sync_c (H.out.nw u1).disk (g.upd u1) (Nat.le_trans HB.out u1.size) H.out.jrn.ok.i64
    have Hs1 := Lib.hid hs1
    clear hs1 l0 l1
    go_wp2_with fail
    (with_reducible refine (Hs1.out).mono ?_)
    rintro _ w2 ⟨rfl, hT⟩
    have hj := (H.out.nw u1).disk_to hT
    obtain ⟨d2, x2, k1, k2, k3, k4, k5⟩ := hj
    have f4 := cells_frozen k1.jrn.blk 4
    have q4 := k1.jrn.cells.2.2.2.2
    rw [k3] at f4 q4
    have hfin := fun (b : Bool) => JTo.then_ k2 k3 (Upd.trans (Nw.upd _ u1) k4) (fun k hk => (k5 k hk).imp id (fun e => Nat.le_trans u1.size e)) (JSys.store k1 (j' := { j with broken := b }) 4 (.bool b) rfl rfl rfl)
    rw [k3] at hfin
    have Hfin := Lib.hid hfin
    clear hfin k1 k4 k5 hT u1
    generalize (Dk.sync D j.file).2 = E at *
    by_cases h0 : E = 0
    · have b1 : (E == 0) = true := beq_iff_eq.2 h0
      have b2 : (E != 0) = false := by simp [h0]
      have hz := Hfin.out false
      have hdz : Hid (decide (E ≠ 0) = false) := by show _ = _; exact decide_eq_false (fun e => e h0)
      clear h0 Hfin
      have Hz := Lib.hid hz
      clear hz
      go_wp2_with fail
      go_ret
      exact ⟨by rw [hr.out]; rfl, by rw [hr.out, hdz.out]; exact Hz.out⟩
    · have b1 : (E == 0) = false := beq_eq_false_iff_ne.2 h0
      have b2 : (E != 0) = true := by simp [h0]
      have hz := Hfin.out true
      have hdz : Hid (decide (E ≠ 0) = true) := by show _ = _; exact decide_eq_true h0
      clear h0 Hfin
      have Hz := Lib.hid hz
      clear hz
      go_wp2_with fail
      go_ret
      exact ⟨by rw [hr.out]; rfl, by rw [hr.out, hdz.out]; exact Hz.out⟩
end
end Go.Proofs.YtagmlemlagbfkaaGreatDoor
