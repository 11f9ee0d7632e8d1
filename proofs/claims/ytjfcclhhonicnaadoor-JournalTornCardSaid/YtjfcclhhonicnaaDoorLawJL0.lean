/- The contracts of disky and begins, of the law JournalLasts. -/
import Derived.Test.YtjfcclhhonicnaaDoorLawJS
import Derived.Test.YtjfcclhhonicnaaDoorJrnLs
import Derived.Deep.AppendLies
import Derived.Deep.RegionHeldLaw
namespace Go.Proofs.YtjfcclhhonicnaaDoor
open Go.RowKit
set_option linter.unusedVariables false
set_option linter.unusedSimpArgs false
attribute [local irreducible] Calls

theorem disky_c (e : Int) (w : World) : Calls Tryd.prog 20 #[.int .i64 e] w fun r w' => r = .returned (.bool (e == 8 || e == 9)) ∧ w = w' := by
  by_cases h8 : e = 8
  · subst h8
    go_enter Tryd.func20, Tryd.ntmps20
    go_wp2_with fail
    go_ret
    exact ⟨rfl, rfl⟩
  · have b8 : (e == 8) = false := beq_eq_false_iff_ne.2 h8
    clear h8
    go_enter Tryd.func20, Tryd.ntmps20
    go_wp2_with fail
    go_ret
    exact ⟨by rw [b8]; rfl, rfl⟩
theorem sl_take {lo hi : Nat} {w : World} {a : Option Addr} {cap : Nat} {L : List (List UInt8)} (h : Sl lo hi w (.slice a L.length cap) (L.map (fun s => Value.string ⟨s.toArray⟩))) {m : Nat} (hm : m ≤ L.length) :
    Sl lo hi w (.slice a m cap) ((L.take m).map (fun s => Value.string ⟨s.toArray⟩)) := by
  rcases h with ⟨a', c', e, hn⟩ | ⟨b, off, c', e, h2, h3, h4, h5, h6, h7⟩
  · rw [List.map_eq_nil_iff] at hn
    subst hn
    obtain rfl : m = 0 := by simpa using hm
    exact Or.inl ⟨_, _, rfl, rfl⟩
  · simp only [List.length_map, Value.slice.injEq] at e
    obtain ⟨rfl, _, rfl⟩ := e
    rw [List.length_map] at h2
    refine Or.inr ⟨b, off, cap, by rw [List.length_map, List.length_take, Nat.min_eq_left hm], by rw [List.length_map, List.length_take]; omega, h3, h4, h5, h6, fun i hi => ?_⟩
    rw [List.length_map, List.length_take] at hi
    rw [h7 i (by rw [List.length_map]; omega), List.getElem?_map, List.getElem?_map, List.getElem?_take, if_pos (by omega)]
/-- 'append(s, x..)' at a step of a region that draws its order: s the call's own, x anybody's, elements of one cell. -/
theorem step_catS {P : Program} {w : World} {ops : Array Oper} {o : Oper} {a : Act} {K : Act → World → Prop} {Q : Exit → Act → World → Prop} {E : Prop} (hgd : o.guard = none) (s x : Operand) (t : TypeId)
    (ho : o.op = .call { callee := .builtin .append, args := #[s, x], argTypes := #[t, t] })
    (e : TypeId) (z : Value) (bytes : Nat) (ht : P.underlying t = some (.slice e)) (hinfo : (P.info? e).map (fun i => (i.zero, i.size, i.bytes)) = some (some z, 1, bytes)) (hzs : z.cells.size = 1)
    (B lo hi : Nat) (hB : B ≤ w.heap.size) (hg : nG ≤ B) (v vx : Value) (n : Nat) (xs news : List Value) (hs : a.eval s = v) (hown : w.ownsRow B e 1 v n xs) (hx : a.eval x = vx) (hsrc : Sl lo hi w vx news)
    (h1 : ∀ u ∈ news, u.oneCell' = true) (h63 : n + news.length ≤ maxLen) (hbytes : (n + news.length) * bytes ≤ 140737488355328)
    (h : ∀ v' w', w'.ownsRow B e 1 v' (n + news.length) (xs ++ news) → Upd (fun k => v.ownBlock = some k) w w' → (∀ k, v'.ownBlock = some k → v.ownBlock = some k ∨ w.heap.size ≤ k) → K (a.put o.dst v') w') :
    if Region.wanted o (yielded ops a.tmps) = true then Oper.wp P o a w K Q else E := by
  obtain ⟨i0, hi0, hz0, hz1, hz2⟩ := info_parts hinfo
  have hsrc' : (∃ ao cap, vx = .slice ao 0 cap ∧ news = []) ∨ (news ≠ [] ∧ ∃ b off cap, vx = .slice (some ⟨b, off, none⟩) news.length cap ∧ ∀ i, i < news.length → w.cell? ⟨b, off + i, none⟩ = news[i]?) := by
    rcases hsrc with ⟨ao, cap, e1, e2⟩ | ⟨b, off, cap, e, _, _, _, _, _, hcell⟩
    · exact Or.inl ⟨ao, cap, e1, e2⟩
    · by_cases hn : news = []
      · subst hn; exact Or.inl ⟨_, _, e, rfl⟩
      · exact Or.inr ⟨hn, b, off, cap, e, hcell⟩
  rcases hsrc' with ⟨ao, cap, rfl, rfl⟩ | ⟨hne, b, off, cap, rfl, hcell⟩
  · rw [if_pos (by simp [Region.wanted, hgd])]
    have hr : (Builtin.append_ #[t, t] o.type #[v, .slice ao 0 cap]).run P w = .ok v w := by
      rcases hown.2 with ⟨rfl, rfl⟩ | ⟨g, cap, cur, rfl, _, _, hnc, _⟩
      · cases ao <;> simp [Builtin.append_, run_underlying ht, sizeOf, typeInfo, hi0, Builtin.lenOf, Builtin.firstCells, loadCells, loadCellsFrom]
      · cases ao <;> simp [Builtin.append_, run_underlying ht, sizeOf, typeInfo, hi0, Builtin.lenOf, Builtin.firstCells, hnc, storeCells, loadCells, loadCellsFrom]
    unfold Oper.wp execOp
    simp only [ho, resolve, invoke, builtin, Sem.run_bind, Sem.run_pure, Result.andThen_ok, List.map_toArray, List.map_cons, List.map_nil, hs, hx, hr]
    exact h v w (by simpa using hown) (Upd.refl _ _) (fun k hk => Or.inl hk)
  · refine step_append_lies _ hgd s x t ho B e i0 z 1 bytes ht hi0 hz0 hz1 hz2 hzs (by decide) v n xs hs hown ⟨b, off, none⟩ news.length cap news hx (by simp) ?_ h1 (List.length_pos_iff.2 hne) h63 hbytes hB w.heap.size rfl fun g cap w' h2 h3 h4 h5 => h _ w' h2 ((Upd.refl _ _).grown h3 fun k hk => ⟨Or.inl hk, ?_⟩) (fun k hk => by
      obtain rfl : g = k := by simpa [Value.ownBlock] using hk
      exact h4.imp id (fun e => by omega))
    · intro j u hu
      have hj := (List.getElem?_eq_some_iff.1 hu).1
      rw [add_plain, hcell j hj]
      exact hu
    · have := (hown.lt k hk).1; omega
/-- As step_catS, s made since W0. -/
theorem step_catT {P : Program} {w : World} {ops : Array Oper} {o : Oper} {a : Act} {K : Act → World → Prop} {Q : Exit → Act → World → Prop} {E : Prop} (hgd : o.guard = none) (s x : Operand) (t : TypeId)
    (ho : o.op = .call { callee := .builtin .append, args := #[s, x], argTypes := #[t, t] })
    (e : TypeId) (z : Value) (bytes : Nat) (ht : P.underlying t = some (.slice e)) (hinfo : (P.info? e).map (fun i => (i.zero, i.size, i.bytes)) = some (some z, 1, bytes)) (hzs : z.cells.size = 1)
    (W0 : World) (hg : nG ≤ W0.heap.size) (uw : Nw W0 w) (lo hi : Nat) (v vx : Value) (n : Nat) (xs news : List Value) (hs : a.eval s = v) (hown : w.ownsRow W0.heap.size e 1 v n xs) (hx : a.eval x = vx) (hsrc : Sl lo hi w vx news)
    (h1 : ∀ u ∈ news, u.oneCell' = true) (h63 : n + news.length ≤ maxLen) (hbytes : (n + news.length) * bytes ≤ 140737488355328)
    (h : ∀ v' w', w'.ownsRow W0.heap.size e 1 v' (n + news.length) (xs ++ news) → Nw W0 w' → Upd (fun k => v.ownBlock = some k) w w' → K (a.put o.dst v') w') :
    if Region.wanted o (yielded ops a.tmps) = true then Oper.wp P o a w K Q else E :=
  step_catS hgd s x t ho e z bytes ht hinfo hzs W0.heap.size lo hi uw.size hg v vx n xs news hs hown hx hsrc h1 h63 hbytes fun v' w' h2 h3 _ => h v' w' h2 (uw.trans' h3 (fun k hk e => by have := (hown.lt k e).1; omega)) h3
theorem own_nil_at {w : World} {b B : Nat} {e : TypeId} (hb : w.heap[b]? = some (.cells #[] e (0, 0))) (hB : B ≤ b) : w.ownsRow B e 1 (.slice (some ⟨b, 0, none⟩) 0 0) 0 [] :=
  ⟨rfl, Or.inr ⟨_, 0, #[], rfl, hB, hb, Nat.le_refl _, Nat.zero_le _, rfl, rfl⟩⟩
theorem sl_one {w : World} {b : Nat} {e : TypeId} {v : Value} (hb : w.heap[b]? = some (.cells #[v] e (0, 0))) : Sl b (b + 1) w (.slice (some ⟨b, 0, none⟩) 1 1) [v] :=
  Or.inr ⟨b, 0, 1, rfl, Nat.le_refl _, by unfold maxLen; omega, Nat.le_refl _, Nat.lt_succ_self _, lt_of_block hb, fun i hi => by
    obtain rfl : i = 0 := by simpa using hi
    rw [cells_cell hb]; rfl⟩
theorem heap_atJ {w : World} {o : Obj} {k : Nat} (h : w.heap.size = k) : (w.alloc o).heap[k]? = some o := by subst h; exact heap_new w o
theorem heap_at2J {w : World} {o o' : Obj} {k : Nat} (h : w.heap.size = k) : ((w.alloc o).alloc o').heap[k]? = some o := by
  subst h
  exact (heap_alloc _ _ _ (by simp)).trans (heap_new w o)
/-- A guard that lets its operation by. -/
theorem wpList_open {P : Program} {w : World} {ops : Array Oper} {rest : List Oper} {o : Oper} {a : Act} {Q : Exit → Act → World → Prop} (hw : Region.wanted o (yielded ops a.tmps) = true) (h : wpList P ops Q ({ o with guard := none } :: rest) a w) : wpList P ops Q (o :: rest) a w := by
  unfold wpList at h ⊢
  rw [if_pos hw]
  rw [if_pos (by simp [Region.wanted])] at h
  exact h
set_option maxRecDepth 100000 in
theorem begins_c (lo1 hi1 lo2 hi2 : Nat) (v1 v2 : Value) (L1 L2 : List (List UInt8)) (w : World) (h1 : Sl lo1 hi1 w v1 (L1.map (fun s => Value.string ⟨s.toArray⟩))) (h2 : Sl lo2 hi2 w v2 (L2.map (fun s => Value.string ⟨s.toArray⟩))) (hp : L2 <+: L1) :
    Calls Tryd.prog 24 #[v1, v2] w fun e w' => e = .returned (.bool true) ∧ Nw w w' := by
  obtain ⟨a1, c1, rfl, m1, hx1⟩ := str_cells h1
  obtain ⟨a2, c2, rfl, m2, _⟩ := str_cells h2
  have hle := hp.length_le
  have htk := List.prefix_iff_eq_take.1 hp
  have hs := sl_take h1 hle
  have hc1 : L1.length ≤ c1 := by
    rcases h1 with ⟨a', c', e, hn⟩ | ⟨b, off, c', e, q2, q3, q4, q5, q6, q7⟩
    · rw [List.map_eq_nil_iff] at hn
      subst hn
      simp
    · simp only [List.length_map, Value.slice.injEq] at e
      obtain ⟨rfl, _, rfl⟩ := e
      rw [List.length_map] at q2
      exact q2
  rw [← htk] at hs
  have st := SameTextsQ _ _ _ _ _ _ L2 L2 w hs h2
  have St := Lib.hid st
  unfold maxLen at m1 m2
  have m1' : (L1.length : Int) ≤ 9223372036854775807 := by omega
  have m2' : (L2.length : Int) ≤ 9223372036854775807 := by omega
  have hle' : (L2.length : Int) ≤ L1.length := by omega
  have hd : decide ((L2.length : Int) ≤ L1.length) = true := decide_eq_true hle'
  have hmin : min (L2.length : Int) L1.length = L2.length := by omega
  have hcc : L2.length ≤ c1 := Nat.le_trans hle hc1
  clear hs st h1 h2 htk hp m1 m2 hx1 hc1
  go_enter Tryd.func24, Tryd.ntmps24
  go_wp2_with fail
  (with_reducible refine (St.out).mono ?_)
  rintro _ w1 ⟨rfl, u1⟩
  go_wp2_with fail
  go_ret
  exact ⟨rfl, u1⟩
end Go.Proofs.YtjfcclhhonicnaaDoor
