/- The contracts of the disk's Arm, Write, Sync, Truncate. -/
import Derived.Test.YtagmlemlagbfkaaDoorPkFFair8
namespace Go.Proofs.YtagmlemlagbfkaaDoor
open Go.RowKit
set_option linter.unusedVariables false
set_option linter.unusedSimpArgs false
attribute [local irreducible] Calls

/-! ### slices.Clone at []int -/
/-- 'out = append(out, xs...)', out the call's own, xs anybody's, elements of one cell. -/
theorem wpList_catA {P : Program} {w : World} {ops : Array Oper} {rest : List Oper} {o : Oper} {a : Act} {Q : Exit → Act → World → Prop} (hgd : o.guard = none) (s x : Operand) (t : TypeId)
    (ho : o.op = .call { callee := .builtin .append, args := #[s, x], argTypes := #[t, t] })
    (base lo hi : Nat) (e : TypeId) (z : Value) (bytes : Nat) (ht : P.underlying t = some (.slice e)) (hinfo : (P.info? e).map (fun i => (i.zero, i.size, i.bytes)) = some (some z, 1, bytes)) (hzs : z.cells.size = 1)
    (v vx : Value) (n : Nat) (xs news : List Value) (hs : a.eval s = v) (hown : w.ownsRow base e 1 v n xs) (hx : a.eval x = vx) (hsrc : Sl lo hi w vx news)
    (h1 : ∀ u ∈ news, u.oneCell' = true) (h63 : n + news.length ≤ maxLen) (hbytes : (n + news.length) * bytes ≤ 140737488355328) (hbase : base ≤ w.heap.size)
    (h : ∀ v' w', w'.ownsRow base e 1 v' (n + news.length) (xs ++ news) → w.grownBy w' v.ownBlock → (∀ k, v.ownBlock = some k → base ≤ k ∧ k < w.heap.size) → wpList P ops Q rest (a.put o.dst v') w') : wpList P ops Q (o :: rest) a w := by
  obtain ⟨i0, hi0, hz0, hz1, hz2⟩ := info_parts hinfo
  rcases hsrc with ⟨ao, cap, rfl, rfl⟩ | ⟨b, off, cap, rfl, hc, hm, _, _, hb, hcell⟩
  · refine wpList_plain hgd fun K hK => ?_
    have hr : (Builtin.append_ #[t, t] o.type #[v, .slice ao 0 cap]).run P w = .ok v w := by
      rcases hown.2 with ⟨rfl, rfl⟩ | ⟨g, cap, cur, rfl, _, _, hnc, _⟩
      · cases ao <;> simp [Builtin.append_, run_underlying ht, sizeOf, typeInfo, hi0, Builtin.lenOf, Builtin.firstCells, loadCells, loadCellsFrom]
      · cases ao <;> simp [Builtin.append_, run_underlying ht, sizeOf, typeInfo, hi0, Builtin.lenOf, Builtin.firstCells, hnc, storeCells, loadCells, loadCellsFrom]
    unfold Oper.wp execOp
    simp only [ho, resolve, invoke, builtin, Sem.run_bind, Sem.run_pure, Result.andThen_ok, List.map_toArray, List.map_cons, List.map_nil, hs, hx, hr]
    exact hK _ _ (h v w (by simpa using hown) ⟨rfl, rfl, rfl, Nat.le_refl _, fun _ _ _ => rfl⟩ hown.lt)
  · refine wpList_append_own _ hgd s x t ho base e i0 z 1 bytes ht hi0 hz0 hz1 hz2 hzs (by decide) v n xs hs hown ⟨b, off, none⟩ news.length cap news hx (by simp) ?_ h1 h63 hbytes hbase fun v' w' h2 h3 _ => h v' w' h2 h3 hown.lt
    intro j u hu
    have hj := (List.getElem?_eq_some_iff.1 hu).1
    rw [add_plain, hcell j hj]
    exact hu
theorem infoIntD : (Tryd.prog.info? tIntD).map (fun i => (i.zero, i.size, i.bytes)) = some (some (.int .i64 0), 1, 8) := by kernel_rfl
theorem owns_emptyD (w : World) (e : TypeId) (sz : Nat) : (w.alloc (.cells #[] e)).ownsRow w.heap.size e sz (.slice (some ⟨w.heap.size, 0, none⟩) 0 0) 0 [] := by
  refine ⟨by simp, Or.inr ⟨w.heap.size, 0, #[], rfl, Nat.le_refl _, heap_new w _, Nat.le_refl _, Nat.zero_le _, by simp, by simp⟩⟩
set_option maxRecDepth 100000 in
theorem clone_i (lo hi : Nat) (v : Value) (L : List Int) (w : World) (g : Gl w) (h : Sl lo hi w v (L.map intD)) (hL : L.length ≤ 1000000000) :
    Calls Tryd.prog 22 #[v] w fun e w' => ∃ v', e = .returned v' ∧ w'.ownsRow w.heap.size tIntD 1 v' L.length (L.map intD) ∧ Nw w w' := by
  have hgb := g.big
  have HL := Lib.hid hL; clear hL
  obtain ⟨a, cap, rfl, _, hc⟩ := int_cells h
  have hnil := fun (w : World) (a : Option Addr) (n c : Nat) => Lib.run_eql_slice_nil (P := Tryd.prog) w 24 _ a n c 0 0 Tryd.underlying24
  cases a with
  | none =>
    have hn : L = [] := by
      rcases hc with h | ⟨b, off, e, _⟩
      · exact h
      · cases e
    subst hn
    clear h hc
    go_enter Tryd.func22, Tryd.ntmps22
    go_wp2_with fail
    go_ret
    exact ⟨_, rfl, World.ownsRow_nil _ _ _ _, Upd.refl _ _⟩
  | some ad =>
    have n1 := nw_alloc w (.cells #[] tIntD)
    have Hn := Lib.hid (h.nw n1)
    clear h hc
    have o1 := owns_emptyD w tIntD 1
    go_enter Tryd.func22, Tryd.ntmps22
    go_wp2_with (at_builtin; refine wpList_catA rfl _ _ 24 rfl w.heap.size lo hi tIntD _ 8 Tryd.underlying24 infoIntD rfl _ _ _ _ _ rfl o1 rfl Hn.out ?c1 ?c2 ?c3 ?c4 ?_)
    case c1 =>
      intro u hu
      obtain ⟨x, _, rfl⟩ := List.mem_map.1 hu
      rfl
    case c2 => have := HL.out; unfold maxLen; rw [List.length_map]; omega
    case c3 => have := HL.out; rw [List.length_map]; omega
    case c4 => simp
    intro v' w2 hown hgrow hob
    have u2 : Nw w w2 := n1.grown hgrow (fun k hk => ⟨Or.inr (hob k hk).1, by have := (hob k hk).1; omega⟩)
    go_wp2_with fail
    go_ret
    refine ⟨_, rfl, ?_, u2⟩
    simpa using hown
/-- What a disk keeps for its crash, as a crash asks for it. -/
theorem keep_sl {B : Nat} {w : World} {r : DiskR} {D : Dk.Disk} (h : DiskAt B w r D) : ∀ z, Upd (fun j => j = r.db ∨ j = r.fm) w z → Sl B w.heap.size z r.kv (D.keep.map intD) := fun z u => by
  obtain ⟨a1, a2, a3, a4, a5, a6, a7, a8, a9⟩ := h.apart
  have ho := owns_updD h.keep u (fun k hk e => by
    rcases e with rfl | rfl
    · exact a6 hk
    · exact a7 hk)
  rcases Sl.of_owns ho with e | ⟨b, off, cap, h1, h2, h3, h4, h5, h6, h7⟩
  · exact Or.inl e
  · refine Or.inr ⟨b, off, cap, h1, h2, h3, h4, ?_, h6, h7⟩
    refine (h.foot_lt (k := b) (Or.inr (Or.inr (Or.inr (Or.inr ?_))))).2
    obtain ⟨hl, ho2⟩ := ho
    rcases ho2 with ⟨e, _⟩ | ⟨gb, cp, cur, e, _⟩
    · rw [e] at h1; simp at h1
    · rw [e] at h1 ⊢
      simp at h1
      simp [Value.ownBlock, h1]
theorem write0_keep (D : Dk.Disk) (f i : Int) (s : List UInt8) : (Dk.write0 D f i s).1.keep = D.keep := by
  unfold Dk.write0
  split
  · rfl
  · split
    · rfl
    · dsimp only
      unfold Dk.add
      split <;> rfl
theorem counted_keep (D : Dk.Disk) : (Dk.counted D).keep = D.keep := by
  unfold Dk.counted
  split <;> rfl
set_option maxHeartbeats 1000000 in
set_option maxRecDepth 100000 in
theorem write_c {B : Nat} {w : World} {r : DiskR} {D : Dk.Disk} (h : DiskAt B w r D) (g : Gl w) (hB : B ≤ w.heap.size) {f i : Int} (hf : I64 f) (hi : I64 i) (s : List UInt8) (hs : s.length ≤ 1000000000) :
    Calls Tryd.prog 42 #[.pointer (some ⟨r.db, 0, none⟩), .int .i64 f, .int .i64 i, .string ⟨s.toArray⟩] w fun e w' => e = .returned (.int .i64 (Dk.write D f i s).2) ∧ DiskTo B r (Dk.write D f i s).1 w w' := by
  have hgb := g.big
  have he := Lib.hid (ends_c h)
  have H := Lib.hid h
  have HB := Lib.hid hB
  have HS := Lib.hid (And.intro hf (And.intro hi hs))
  clear h hB hs hf hi
  go_enter Tryd.func42, Tryd.ntmps42
  go_wp2_with fail
  (with_reducible refine (he.out).mono ?_)
  rintro _ w1 ⟨rfl, hT1⟩
  obtain ⟨r1, h1, e1, u1, f1⟩ := hT1
  have hw := write0_c h1 (g.upd u1) (Nat.le_trans HB.out u1.size) HS.out.1 HS.out.2.1 s HS.out.2.2
  rw [e1] at hw
  have Hw := Lib.hid hw
  have H1 := Lib.hid (And.intro h1 (And.intro u1 f1))
  clear hw he h1 u1 f1
  generalize hE : Dk.ends D = E at *
  go_wp2_with fail
  (with_reducible refine (Hw.out).mono ?_)
  rintro _ w2 ⟨rfl, hT2⟩
  obtain ⟨r2, h2, e2, u2, f2⟩ := hT2
  have e3 := e2.trans e1
  have H2 : Hid (DiskTo B r (Dk.write0 (Dk.counted D) f i s).1 w w2) := DiskTo.then_ H.out H1.out.1 e1 H1.out.2.1 H1.out.2.2 ⟨r2, h2, e2, u2, f2⟩
  cases E with
  | false =>
    have hr : Hid (Dk.write D f i s = Dk.write0 (Dk.counted D) f i s) := by show _ = _; unfold Dk.write; rw [hE, if_neg (by decide)]
    clear hE h2 u2 f2
    go_wp2_with fail
    go_ret
    exact ⟨by rw [hr.out]; rfl, by rw [hr.out]; exact H2.out⟩
  | true =>
    have hr : Hid (Dk.write D f i s = (Dk.crash (Dk.write0 (Dk.counted D) f i s).1 (Dk.write0 (Dk.counted D) f i s).1.keep, 8)) := by show _ = _; unfold Dk.write; rw [hE, if_pos rfl, write0_keep]
    have c6 := h2.cells.2.2.2.2.2.2
    rw [e3] at c6
    have g2 := (g.upd H1.out.2.1).upd u2
    have hc := crash_c h2 g2 (Nat.le_trans HB.out (Nat.le_trans H1.out.2.1.size u2.size)) B w2.heap.size r2.kv (Dk.write0 (Dk.counted D) f i s).1.keep (keep_sl h2) h2.kI
    rw [e3] at hc
    obtain ⟨ak, ck, hkv⟩ := own_slD h2.keep
    rw [hkv] at hc c6
    have Hc := Lib.hid hc
    have h2' := Lib.hid (And.intro h2 (And.intro u2 f2))
    clear hc h2 u2 f2 hE
    go_wp2_with fail
    (with_reducible refine (Hc.out).mono ?_)
    rintro _ w3 ⟨rfl, hT3⟩
    go_wp2_with fail
    go_ret
    exact ⟨by rw [hr.out]; rfl, by rw [hr.out]; exact DiskTo.then_ H.out h2'.out.1 e3 (H1.out.2.1.trans' h2'.out.2.1 (fun k hk e => (H1.out.2.2 k e).elim id (fun e4 => by omega))) (fun j hj => (h2'.out.2.2 j hj).elim (fun e4 => H1.out.2.2 j e4) (fun e4 => Or.inr (Nat.le_trans H1.out.2.1.size e4))) hT3⟩
end Go.Proofs.YtagmlemlagbfkaaDoor
