/- slices.Clone at ints; slices.Chunk and its iterator. wave.one. wave.planner.state. wave.planner.rest. -/
import Derived.Test.YtjlgmoemnhmgmaaGreatDoorPkWTells24
import Derived.Test.YtjlgmoemnhmgmaaGreatDoorPkWTells25
import Derived.Test.YtjlgmoemnhmgmaaGreatDoorPkWTells26
import Derived.LoopIn
import Derived.LoopNIn
import Derived.TacticsInMore
import Derived.OwnWalkIn
import Derived.WalkKit
import Derived.Shelf.RegionOpen
import Derived.Shelf.Abstract
import Derived.RangeFuncLeaves
import Derived.RangeFuncCalls
import Derived.RangeFuncBound
import Derived.RangeFuncNested
import Derived.Sort.BigQuietIn
import Derived.Sort.QuietIn
import Derived.Test.YtjlgmoemnhmgmaaGreatDoorPkWTells11
namespace Go.Proofs.YtjlgmoemnhmgmaaGreatDoor
open Go.RowKit Go.MapKept
set_option linter.unusedVariables false
set_option linter.unusedSimpArgs false
attribute [local irreducible] Calls
open Wv (Svc FL)

namespace Wv
def spans (q : Nat) : Nat → Nat → Nat → List (Nat × Nat)
  | 0, _, _ => []
  | n + 1, s, r => if r = 0 then [] else (s, min q r) :: spans q n (s + q) (r - q)
theorem chunks_spans {α : Type} (q : Nat) (l : List α) : ∀ (n s : Nat), chunks q n (l.drop s) = (spans q n s (l.length - s)).map fun p => (l.drop p.1).take p.2
  | 0, s => rfl
  | n + 1, s => by
    unfold chunks spans
    by_cases h : l.length - s = 0
    · have : l.drop s = [] := List.drop_eq_nil_of_le (by omega)
      rw [this, h]; rfl
    · have : (l.drop s).isEmpty = false := by
        cases e : l.drop s with
        | nil => have := congrArg List.length e; rw [List.length_drop] at this; simp at this; omega
        | cons => rfl
      rw [this, if_neg h, List.map_cons, List.drop_drop, chunks_spans q l n (s + q), show l.length - (s + q) = l.length - s - q by omega]
      simp only [Bool.false_eq_true, if_false]
      congr 1
      have hl : (l.drop s).length = l.length - s := List.length_drop
      by_cases hq : q ≤ l.length - s
      · rw [Nat.min_eq_left hq]
      · rw [Nat.min_eq_right (by omega), List.take_of_length_le (by omega), List.take_of_length_le (by omega)]
theorem spans_mem {q : Nat} : ∀ {n s r : Nat} {p : Nat × Nat}, p ∈ spans q n s r → s ≤ p.1 ∧ p.1 + p.2 ≤ s + r
  | 0, s, r, p, h => by cases h
  | n + 1, s, r, p, h => by
    unfold spans at h
    by_cases hr : r = 0
    · rw [if_pos hr] at h; cases h
    · rw [if_neg hr] at h
      rcases List.mem_cons.1 h with rfl | h
      · exact ⟨Nat.le_refl _, by show s + min q r ≤ _; omega⟩
      · have := spans_mem h
        by_cases hq : q ≤ r
        · omega
        · have e : r - q = 0 := by omega
          rw [e] at h
          cases n with
          | zero => cases h
          | succ n => unfold spans at h; cases h
end Wv
/-- 'out = append(out, xs...)', out the call's own, xs anybody's, elements of one cell. -/
theorem wpList_catW {P : Program} {w : World} {ops : Array Oper} {rest : List Oper} {o : Oper} {a : Act} {Q : Exit → Act → World → Prop} (hgd : o.guard = none) (s x : Operand) (t : TypeId)
    (ho : o.op = .call { callee := .builtin .append, args := #[s, x], argTypes := #[t, t] })
    (base lo hi : Nat) (e : TypeId) (z : Value) (bytes : Nat) (ht : P.underlying t = some (.slice e)) (hinfo : (P.info? e).map (fun i => (i.zero, i.size, i.bytes)) = some (some z, 1, bytes)) (hzs : z.cells.size = 1)
    (v vx : Value) (n : Nat) (xs news : List Value) (hs : a.eval s = v) (hown : w.ownsRow base e 1 v n xs) (hx : a.eval x = vx) (hsrc : Sl lo hi w vx news)
    (h1 : ∀ u ∈ news, u.oneCell' = true) (h63 : n + news.length ≤ maxLen) (hbytes : (n + news.length) * bytes ≤ 140737488355328) (hbase : base ≤ w.heap.size)
    (h : ∀ v' w', w'.ownsRow base e 1 v' (n + news.length) (xs ++ news) → w.grownBy w' v.ownBlock → (∀ k, v.ownBlock = some k → base ≤ k ∧ k < w.heap.size) → wpList P ops Q rest (a.put o.dst v') w') : wpList P ops Q (o :: rest) a w := by
  obtain ⟨i0, hi0, hz0, hz1, hz2⟩ := info_parts hinfo
  rcases hsrc with ⟨ao, cap, rfl, rfl⟩ | ⟨b, off, cap, rfl, hc, hm, _, _, hb, hcell⟩
  · refine wpList_plain hgd fun K hK => ?_
    have hr : (Builtin.append_ #[t, t] o.type #[v, .slice ao 0 cap]).run P w = .ok v w := by
      rcases hown.2 with ⟨rfl, rfl⟩ | ⟨g, cap, cur, rfl, _, _, hnc, _⟩
      · cases ao <;> simp [Builtin.append_, run_underlying ht, sizeOf, typeInfo, hi0, Builtin.lenOf, Builtin.firstCells, loadCells, loadCellsFrom]
      · cases ao <;> simp [Builtin.append_, run_underlying ht, sizeOf, typeInfo, hi0, Builtin.lenOf, Builtin.firstCells, hnc, storeCells, loadCells, loadCellsFrom]
    unfold Oper.wp execOp
    simp only [ho, resolve, invoke, builtin, Sem.run_bind, Sem.run_pure, Result.andThen_ok, List.map_toArray, List.map_cons, List.map_nil, hs, hx, hr]
    exact hK _ _ (h v w (by simpa using hown) ⟨rfl, rfl, rfl, Nat.le_refl _, fun _ _ _ => rfl⟩ hown.lt)
  · refine wpList_append_own _ hgd s x t ho base e i0 z 1 bytes ht hi0 hz0 hz1 hz2 hzs (by decide) v n xs hs hown ⟨b, off, none⟩ news.length cap news hx (by simp) ?_ h1 h63 hbytes hbase fun v' w' h2 h3 _ => h v' w' h2 h3 hown.lt
    intro j u hu
    have hj := (List.getElem?_eq_some_iff.1 hu).1
    rw [add_plain, hcell j hj]
    exact hu
set_option maxRecDepth 100000 in
theorem clone_ic (b off : Nat) (L : List Int) (w : World) (hgb : nG ≤ w.heap.size) (hb : b < w.heap.size) (h : ∀ i (h : i < L.length), w.cell? ⟨b, off + i, none⟩ = some (.int .i64 L[i])) (hL : L.length ≤ 100000) :
    Calls Tryz.prog 59 #[.slice (some ⟨b, off, none⟩) L.length L.length] w fun e w' => ∃ a' c', e = .returned (.slice a' L.length c') ∧ Hid (w'.ownsRow w.heap.size 3 1 (.slice a' L.length c') L.length (L.map (Value.int .i64)) ∧ Nw w w') := by
  have hnil := fun (w : World) (a : Option Addr) (n c : Nat) => Lib.run_eql_slice_nil (P := Tryz.prog) w 23 _ a n c 0 0 Tryz.underlying23
  have n1 := nw_alloc w (.cells #[] 3)
  have hs : Sl 0 w.heap.size w (.slice (some ⟨b, off, none⟩) L.length L.length) (L.map (Value.int .i64)) := Or.inr ⟨b, off, L.length, by rw [List.length_map], by rw [List.length_map]; exact Nat.le_refl _, by unfold maxLen; omega, Nat.zero_le _, hb, hb, fun i hi => by
    rw [List.length_map] at hi
    rw [h i hi, List.getElem?_map, List.getElem?_eq_getElem hi]; rfl⟩
  have Hn := Lib.hid (hs.nw n1)
  have HL := Lib.hid hL
  clear h hs hL
  have o1 := owns_empty w 3 1
  go_enter Tryz.func59, Tryz.ntmps59
  go_wp2_with (at_builtin; refine wpList_catW rfl _ _ 23 rfl w.heap.size 0 w.heap.size 3 _ 8 Tryz.underlying23 infoIntW rfl _ _ _ _ _ rfl o1 rfl Hn.out ?c1 ?c2 ?c3 ?c4 ?_)
  case c1 =>
    intro u hu
    obtain ⟨x, _, rfl⟩ := List.mem_map.1 hu
    rfl
  case c2 => have := HL.out; unfold maxLen; rw [List.length_map]; omega
  case c3 => have := HL.out; rw [List.length_map]; omega
  case c4 => simp
  intro v' w2 hown hgrow hob
  have u2 : Nw w w2 := n1.grown hgrow (fun k hk => ⟨Or.inr (hob k hk).1, by have := (hob k hk).1; omega⟩)
  obtain ⟨a', c', rfl⟩ := own_slW hown
  have HO := Lib.hid (And.intro hown u2)
  clear hown hgrow hob u2
  go_wp2_with fail
  go_ret
  exact ⟨_, _, rfl, HO⟩
theorem Chunk_c (a : Option Addr) (n c q : Nat) (w : World) (hq : 1 ≤ q) : Calls Tryz.prog 58 #[.slice a n c, .int .i64 (q : Int)] w fun e w' => e = .returned (.func (.func 75) #[] #[.pointer (some ⟨w.heap.size, 0, none⟩), .pointer (some ⟨w.heap.size + 1, 0, none⟩)]) ∧ w' = (w.alloc (.cells #[.slice a n c] 23)).alloc (.cells #[.int .i64 (q : Int)] 3) := by
  have hq1 : ¬ (q : Int) < 1 := by omega
  go_enter Tryz.func58, Tryz.ntmps58
  go_wp2_with fail
  go_ret
  first | exact ⟨rfl, rfl⟩ | (refine ⟨?_, ?_⟩ <;> simp)
def encC (b off : Nat) (p : Nat × Nat) : Array Value := #[.slice (some ⟨b, off + p.1, none⟩) p.2 p.2]
set_option maxHeartbeats 4000000 in
set_option maxRecDepth 100000 in
theorem chunk_seq (sb nb b off : Nat) (a : Option Addr) (L cap q : Nat) (w : World) (hsb : w.heap[sb]? = some (.cells #[.slice a L cap] 23 (0, 0))) (hnb : w.heap[nb]? = some (.cells #[.int .i64 (q : Int)] 3 (0, 0)))
    (ha : L = 0 ∨ a = some ⟨b, off, none⟩) (hL : L ≤ 100000) (hcap : L ≤ cap) (hq : 1 ≤ q) (hqm : (q : Int) ≤ 9223372036854775807) :
    SeqB Tryz.prog 75 #[.pointer (some ⟨sb, 0, none⟩), .pointer (some ⟨nb, 0, none⟩)] (encC b off) sb (fun k => k = sb ∨ k = nb) (Wv.spans q L 0 L) w := by
  intro lp J Jx W u hJ hJx hY h0
  refine (callsIn_wide (n := 0)).1 ?_
  have e1 := Nw.keep u hsb
  have e2 := Nw.keep u hnb
  have hL1 : (L : Int) ≤ 100000 := by omega
  have hcap1 : (L : Int) ≤ (cap : Int) := by omega
  clear hsb hnb
  refine callsIn_of_wp Tryz.func75 rfl trivial ?_ rfl
  simp only [Tryz.ntmps75, List.size_toArray, List.length_cons, List.length_nil, Nat.reduceAdd, Nat.reduceSub, Array.replicate_succ, Array.replicate_zero, List.push_toArray, List.append_toArray, List.nil_append, List.cons_append]
  have c1 : W.cell? ⟨sb, 0, none⟩ = some (.slice a L cap) := by rw [cells_cell e1]; rfl
  have c2 : W.cell? ⟨nb, 0, none⟩ = some (.int .i64 (q : Int)) := by rw [cells_cell e2]; rfl
  gi_wp2
  gi_loopw [4] (fun (iv : Value) wr => ∃ (m s : Nat) (pre : List (Nat × Nat)), iv = .int .i64 (s : Int) ∧ L - s ≤ m ∧ (s = 0 ∨ s = q ∨ (q ≤ s ∧ s ≤ 2 * L)) ∧ Wv.spans q L 0 L = pre ++ Wv.spans q m s (L - s) ∧ wr.heap[sb]? = some (.cells #[.slice a L cap] 23 (0, 0)) ∧ wr.heap[nb]? = some (.cells #[.int .i64 (q : Int)] 3 (0, 0)) ∧ J pre wr)
    (fun (iv : Value) _ => L - (intOf iv).toNat)
  case atStart => exact ⟨L, 0, [], rfl, Nat.le_refl _, Or.inl rfl, rfl, e1, e2, h0⟩
  case round =>
    obtain ⟨m, s, pre, rfl, hm, hs, hpr, b1, b2, hJs⟩ := hrel
    clear c1 c2
    have c1 : wr.cell? ⟨sb, 0, none⟩ = some (.slice a L cap) := by rw [cells_cell b1]; rfl
    have c2 : wr.cell? ⟨nb, 0, none⟩ = some (.int .i64 (q : Int)) := by rw [cells_cell b2]; rfl
    by_cases hsl : s < L
    · have hsl1 : (s : Int) < L := by omega
      obtain rfl : a = some ⟨b, off, none⟩ := ha.resolve_left (by omega)
      obtain ⟨m', rfl⟩ : ∃ m', m = m' + 1 := ⟨m - 1, by omega⟩
      have hsp : Wv.spans q (m' + 1) s (L - s) = (s, min q (L - s)) :: Wv.spans q m' (s + q) (L - (s + q)) := by
        conv => lhs; unfold Wv.spans
        rw [if_neg (by omega), show L - s - q = L - (s + q) by omega]
      rw [hsp] at hpr
      have hsq : s + q ≤ 9223372036854775807 := by omega
      have hcs : (s : Int) ≤ (cap : Int) := by omega
      obtain ⟨e, he⟩ : ∃ e, e = min q (L - s) := ⟨_, rfl⟩
      rw [← he] at hpr
      have HPR := Lib.hid hpr
      have HPR2 := Lib.hid (show Wv.spans q L 0 L = (pre ++ [(s, e)]) ++ Wv.spans q m' (s + q) (L - (s + q)) by rw [hpr, List.append_assoc]; rfl)
      have hse : s + e ≤ L := by omega
      have hse1 : (s : Int) + (e : Int) ≤ (cap : Int) := by omega
      have hle : min (q : Int) ((L - s : Nat) : Int) = (e : Int) := by rw [he]; omega
      have HLE := Lib.hid hle
      have HB1 := Lib.hid b1
      have HB2 := Lib.hid b2
      have HJS := Lib.hid hJs
      have he9 : (e : Int) ≤ 100000 := by omega
      have hs9 : (s : Int) ≤ 100000 := by omega
      have hd2 : s + e - s = e := by omega
      have hd3 : ¬ e = 0 := by omega
      have hd4 : ¬ s + e = s := by omega
      clear hpr hsp hle b1 b2 hJs he
      gi_wp2
      gi_quiet (fail)
      rw [HLE.out]
      obtain ⟨wd, hwd, nd⟩ := nw_drewN wr nq
      rw [hwd]
      clear c1 c2
      have hb1 := Nw.keep nd HB1.out
      have hb2 := Nw.keep nd HB2.out
      have hj2 := hJ _ _ _ HJS.out (Nw.upd _ nd)
      clear hwd nd HB1 HB2 HJS HLE
      have c1 : wd.cell? ⟨sb, 0, none⟩ = some (.slice (some ⟨b, off, none⟩) L cap) := by rw [cells_cell hb1]; rfl
      have c2 : wd.cell? ⟨nb, 0, none⟩ = some (.int .i64 (q : Int)) := by rw [cells_cell hb2]; rfl
      obtain ⟨fn, tmps, assign, body, hy, hR⟩ := hY pre (s, e) (Wv.spans q m' (s + q) (L - (s + q))) wd HPR.out hj2
      have HB1 := Lib.hid hb1
      have HB2 := Lib.hid hb2
      unfold encC at hy
      dsimp only at hy
      clear hb1 hb2 hj2 HPR
      gi_wp2
      refine ⟨rfl, hR.mono ?_⟩
      rintro en W3 (⟨rfl, hJ3, hk3⟩ | ⟨rfl, hJx3⟩)
      · have HB3 := Lib.hid ((hk3 sb (Or.inl rfl)).trans HB1.out)
        have HB4 := Lib.hid ((hk3 nb (Or.inr rfl)).trans HB2.out)
        have HJ3 := Lib.hid hJ3
        have d2 : W3.cell? ⟨nb, 0, none⟩ = some (.int .i64 (q : Int)) := by rw [cells_cell HB4.out]; rfl
        clear hJ3 hk3 hR hy c1 c2 HB1 HB2
        gi_wp2
        go_roundw
        case rel => exact ⟨m', s + q, _, by go_num, by omega, by omega, HPR2.out, HB3.out, HB4.out, HJ3.out⟩
        case measure => simp [intOf]; omega
      · have HJX := Lib.hid hJx3
        clear hJx3 hR hy c1 c2 HB1 HB2
        gi_wp2
        refine bodyPost_ret (results_none rfl _ _ _) rfl ?_
        exact ⟨⟨_, rfl⟩, .inr ⟨_, HJX.out⟩⟩
    · have hsl1 : ¬ (s : Int) < L := by omega
      have hnil : Wv.spans q m s (L - s) = [] := by
        cases m with
        | zero => rfl
        | succ m => unfold Wv.spans; rw [if_pos (by omega)]
      rw [hnil, List.append_nil] at hpr
      have HPR := Lib.hid hpr
      clear hpr hnil
      gi_wp2
      go_end0
      exact ⟨⟨_, rfl⟩, .inl (by rw [HPR.out]; exact hJs)⟩
end Go.Proofs.YtjlgmoemnhmgmaaGreatDoor
namespace Go.Proofs.YtjlgmoemnhmgmaaGreatDoor
open Go.RowKit Go.MapKept
set_option linter.unusedVariables false
set_option linter.unusedSimpArgs false
attribute [local irreducible] Calls
open Wv (Svc FL)

/-- A slice of waves of the call's own: the blocks of the waves and of their machines lie from B on. -/
abbrev CW := Option Addr × Nat × Wv.Wave
def wvc (c : CW) : List Value := [.slice c.1 c.2.2.ms.length c.2.1, .int .i64 c.2.2.after]
def CW.own (B : Nat) (w : World) (c : CW) : Prop := w.ownsRow B 3 1 (.slice c.1 c.2.2.ms.length c.2.1) c.2.2.ms.length (c.2.2.ms.map (Value.int .i64)) ∧ c.2.2.ms.length ≤ 100000
def WvO (B : Nat) (w : World) (v : Value) (ws : List Wv.Wave) : Prop :=
  ∃ C : List CW, C.map (·.2.2) = ws ∧ w.ownsRow B tWv 2 v C.length (C.map wvc).flatten ∧ ∀ c ∈ C, c.own B w
theorem ic_of_own {B : Nat} {w : World} {a : Option Addr} {l : List Int} {c : Nat} (h : w.ownsRow B 3 1 (.slice a l.length c) l.length (l.map (Value.int .i64))) : IC w a l := by
  rcases h.2 with ⟨e1, e2⟩ | ⟨gb, cap, cur, e1, hb, hg, h4, h5, h6, h7⟩
  · exact Or.inl (List.eq_nil_of_length_eq_zero e2)
  · injection e1 with e3 e4 e5
    refine Or.inr ⟨gb, 0, e3, (Array.getElem?_eq_some_iff.1 hg).1, fun i hi => ?_⟩
    rw [Nat.zero_add, cells_cell hg]
    have := congrArg (fun (l : List Value) => l[i]?) h7
    rw [List.getElem?_take, if_pos (by omega), List.getElem?_map, List.getElem?_eq_getElem hi] at this
    simpa using this
theorem WvO.upd {B : Nat} {S : Nat → Prop} {w w' : World} {v : Value} {ws : List Wv.Wave} (h : WvO B w v ws) (u : Upd S w w') (hs : ∀ k cs T f, B ≤ k → w.heap[k]? = some (.cells cs T f) → ¬ S k) : WvO B w' v ws := by
  obtain ⟨C, h1, h2, h3⟩ := h
  refine ⟨C, h1, owns_upd' h2 u (fun k hk => ?_), fun c hc => ⟨owns_upd' (h3 c hc).1 u (fun k hk => ?_), (h3 c hc).2⟩⟩
  · obtain ⟨hB, cs, hcs⟩ := own_block h2 hk
    exact hs k _ _ _ hB hcs
  · obtain ⟨hB, cs, hcs⟩ := own_block (h3 c hc).1 hk
    exact hs k _ _ _ hB hcs
theorem WvO.nw {B : Nat} {w w' : World} {v : Value} {ws : List Wv.Wave} (h : WvO B w v ws) (u : Nw w w') : WvO B w' v ws := h.upd u (fun _ _ _ _ _ _ e => e)
theorem WvO.base {B B' : Nat} {w : World} {v : Value} {ws : List Wv.Wave} (h : WvO B w v ws) (hb : B' ≤ B) : WvO B' w v ws := by
  obtain ⟨C, h1, h2, h3⟩ := h
  exact ⟨C, h1, owns_base h2 hb, fun c hc => ⟨owns_base (h3 c hc).1 hb, (h3 c hc).2⟩⟩
theorem WvO.sl {B : Nat} {w : World} {v : Value} {ws : List Wv.Wave} (h : WvO B w v ws) : ∃ a cap, v = .slice a ws.length cap := by
  obtain ⟨C, h1, h2, h3⟩ := h
  obtain ⟨a, cap, e⟩ := own_slW h2
  exact ⟨a, cap, by rw [e, ← h1, List.length_map]⟩
theorem WvO.nil (B : Nat) (w : World) : WvO B w (.slice none 0 0) [] := ⟨[], rfl, World.ownsRow_nil _ _ _ _, fun c hc => by cases hc⟩
namespace Wv
def machTo (f : FL) (s n : Nat) : List Int := ((List.range n).filter fun i => decide (run f i = s)).map fun (i : Nat) => (i : Int)
theorem machTo_all (f : FL) (s : Nat) : machTo f s f.runs.length = machines f s := rfl
theorem machTo_succ (f : FL) (s n : Nat) : machTo f s (n + 1) = machTo f s n ++ if run f n = s then [(n : Int)] else [] := by
  unfold machTo
  rw [List.range_succ, List.filter_append, List.map_append]
  by_cases h : run f n = s
  · simp [h]
  · simp [h]
theorem machTo_len (f : FL) (s n : Nat) : (machTo f s n).length ≤ n := by
  unfold machTo
  rw [List.length_map]
  exact Nat.le_trans (List.length_filter_le _ _) (by simp)
/-- The waves of some spans. -/
def spanW (l : List Int) (after : Int) (p : Nat × Nat) : Wave := ⟨(l.drop p.1).take p.2, after⟩
theorem oneF_spans (f : FL) (s : Nat) (quota : Int) (holds : List Int) : oneF f s quota holds = (spans quota.toNat (machines f s).length 0 (machines f s).length).map (spanW (machines f s) (holds.getD s 0)) := by
  unfold oneF
  have := chunks_spans quota.toNat (machines f s) (machines f s).length 0
  rw [List.drop_zero, Nat.sub_zero] at this
  rw [this, List.map_map]; rfl
end Wv
theorem infoWvW : (Tryz.prog.info? tWv).map (fun i => (i.zero, i.size, i.bytes)) = some (some (.agg #[.slice none 0 0, .int .i64 0]), 2, 32) := by kernel_rfl
/-- The loop of one, between two rounds. -/
def OneI (w0 : World) (P14 bt : Nat) (l : List Int) (after : Int) (pre : List (Nat × Nat)) (W : World) : Prop :=
  Upd (fun k => k = P14 ∨ k = bt) w0 W ∧ ∃ ov, W.heap[P14]? = some (.cells #[ov] 27 (0, 0)) ∧ WvO w0.heap.size W ov (pre.map (Wv.spanW l after))
theorem OneI.bears {w0 : World} {P14 bt : Nat} {l : List Int} {after : Int} (h0 : P14 < bt) (hb : bt < w0.heap.size) : Bears w0.heap.size bt (OneI w0 P14 bt l after) := by
  rintro s A B b ⟨h1, ov, h2, h3⟩ u hk
  refine ⟨h1.trans' u (fun j hj e => ?_), ov, u.keep h2 (fun e => ?_), h3.upd u (fun k cs T f hB hc e => ?_)⟩
  · rcases hk with hk | ⟨hk, -⟩
    · exact Or.inr (by omega)
    · omega
  · rcases hk with hk | ⟨hk, -⟩ <;> omega
  · rcases hk with hk | ⟨hk, o, ho, hn⟩
    · omega
    · subst e; rw [hc] at ho; cases ho; cases hn
theorem alloc4W (w : World) (A B C D : Obj) : ((((w.alloc A).alloc B).alloc C).alloc D).heap[w.heap.size]? = some A ∧ ((((w.alloc A).alloc B).alloc C).alloc D).heap[w.heap.size + 1]? = some B ∧
    ((((w.alloc A).alloc B).alloc C).alloc D).heap[w.heap.size + 2]? = some C ∧ ((((w.alloc A).alloc B).alloc C).alloc D).heap[w.heap.size + 3]? = some D ∧ Nw w ((((w.alloc A).alloc B).alloc C).alloc D) ∧ ((((w.alloc A).alloc B).alloc C).alloc D).heap.size = w.heap.size + 4 := by
  have a1 := heap_new w A
  have a2 := heap_new (w.alloc A) B
  have a3 := heap_new ((w.alloc A).alloc B) C
  have a4 := heap_new (((w.alloc A).alloc B).alloc C) D
  simp only [World.size_alloc] at a2 a3 a4
  refine ⟨?_, ?_, ?_, a4, (((nw_alloc w A).alloc B).alloc C).alloc D, by simp⟩
  · rw [heap_alloc _ _ _ (by simp only [World.size_alloc]; omega), heap_alloc _ _ _ (by simp only [World.size_alloc]; omega), heap_alloc _ _ _ (by simp only [World.size_alloc]; omega)]; exact a1
  · rw [heap_alloc _ _ _ (by simp only [World.size_alloc]; omega), heap_alloc _ _ _ (by simp only [World.size_alloc]; omega)]; exact a2
  · rw [heap_alloc _ _ _ (by simp only [World.size_alloc]; omega)]; exact a3
/-- 'append(s, x...)' at a step of a region inside a fence. -/
theorem stepF_app {F : Fence} {nF : Nat} {P : Program} {w : World} {ops : Array Oper} {o : Oper} {a : Act} {K : Act → World → Prop} {Q : Exit → Act → World → Prop} {E : Prop} (hgd : o.guard = none) (s x : Operand) (t : TypeId)
    (ho : o.op = .call { callee := .builtin .append, args := #[s, x], argTypes := #[t, t] })
    (base : Nat) (e : TypeId) (z : Value) (size bytes : Nat) (ht : P.underlying t = some (.slice e)) (hinfo : (P.info? e).map (fun i => (i.zero, i.size, i.bytes)) = some (some z, size, bytes)) (hzs : z.cells.size = size) (hsz : 0 < size)
    (v : Value) (n : Nat) (xs : List Value) (hs : a.eval s = v) (hown : w.ownsRow base e size v n xs)
    (ad : Addr) (m c : Nat) (news : List Value) (hx : a.eval x = .slice (some ad) m c) (hl : news.length = m * size) (hnews : ∀ j u, news[j]? = some u → w.cell? (ad.add j) = some u) (h1 : ∀ u ∈ news, u.oneCell' = true)
    (hm : 0 < m) (h63 : n + m ≤ maxLen) (hbytes : (n + m) * bytes ≤ 140737488355328) (hbase : base ≤ w.heap.size)
    (h : ∀ g cap w', w'.ownsRow base e size (.slice (some ⟨g, 0, none⟩) (n + m) cap) (n + m) (xs ++ news) → w.grownBy w' v.ownBlock → K (a.put o.dst (.slice (some ⟨g, 0, none⟩) (n + m) cap)) w') :
    if Region.wanted o (yielded ops a.tmps) = true then Oper.wpIn F nF P o a w K Q else E := by
  have hw : Region.wanted o (yielded ops a.tmps) = true := by simp [Region.wanted, hgd]
  rw [if_pos hw]
  obtain ⟨i0, hi, hz0, hz1, hz2⟩ := info_parts hinfo
  obtain ⟨g, cap, w', hr, h2, h3, h4, h5⟩ := run_append_lies (P := P) w t o.type base e i0 z size bytes ht hi hz0 hz1 hz2 hzs hsz v n xs hown ad m c news hl hnews h1 hm h63 hbytes hbase w.heap.size rfl
  unfold Oper.wpIn
  refine ⟨?_, ?_⟩
  · simp [Oper.about, ho, resolve, Target.leads, Sem.run_pure]
  · rw [Oper.semAt_eq _ _ _ (by rw [ho]; intro c hc'; cases hc')]
    simp [execOp, ho, resolve, invoke, builtin, hs, hx, hr, Result.andThen]
    exact h g cap w' h2 h3
/-- A round of one. -/
theorem one_step {V w4 w9 : World} {p n0 : Nat} {C : List CW} {ws : List Wv.Wave} {v v' a4v : Value} {ms : List Int} {af : Int} {a4 : Option Addr} {c4 : Nat} (hn : p + 2 ≤ n0) (hg : nG ≤ p) (k14 : V.heap[p + 1]? = some (.cells #[v] 27 (0, 0))) (hV : n0 ≤ V.heap.size)
    (hC1 : C.map (·.2.2) = ws) (hC2 : V.ownsRow n0 tWv 2 v C.length (C.map wvc).flatten) (hC3 : ∀ c ∈ C, c.own n0 V) (n4 : Nw V w4) (o4 : w4.ownsRow V.heap.size 3 1 (.slice a4 ms.length c4) ms.length (ms.map (Value.int .i64))) (hms : ms.length ≤ 100000)
    (o9 : w9.ownsRow n0 tWv 2 v' (C.length + 1) ((C.map wvc).flatten ++ [.slice a4 ms.length c4, .int .i64 af])) (g9 : (w4.alloc (.cells #[.slice a4 ms.length c4, .int .i64 af] tWv)).grownBy w9 v.ownBlock) :
    Upd (fun k => k = p + 1 ∨ v.ownBlock = some k) V (w9.setCell ⟨p + 1, 0, none⟩ v') ∧ (w9.setCell ⟨p + 1, 0, none⟩ v').heap[p + 1]? = some (.cells #[v'] 27 (0, 0)) ∧ WvO n0 (w9.setCell ⟨p + 1, 0, none⟩ v') v' (ws ++ [⟨ms, af⟩]) := by
  have n5 := n4.trans (nw_alloc w4 (.cells #[.slice a4 ms.length c4, .int .i64 af] tWv))
  have hvb : ∀ k, v.ownBlock = some k → n0 ≤ k ∧ k < V.heap.size := fun k hk => hC2.lt k hk
  have U2 : Upd (fun k => v.ownBlock = some k) V w9 := (Nw.upd _ n5).grown g9 (fun k hk => ⟨Or.inl hk, by have := (hvb k hk).1; omega⟩)
  have U3 : Upd (fun k => k = p + 1 ∨ v.ownBlock = some k) V (w9.setCell ⟨p + 1, 0, none⟩ v') := (U2.mono (S' := fun k => k = p + 1 ∨ v.ownBlock = some k) (fun k _ e => Or.inr e)).setCell (p := ⟨p + 1, 0, none⟩) (Or.inl (Or.inl rfl)) (by show nG ≤ p + 1; omega) v'
  have US : Upd (fun k => k = p + 1) w9 (w9.setCell ⟨p + 1, 0, none⟩ v') := (Upd.refl _ w9).set1 (by omega) 0 v'
  have k9 := U2.keep k14 (fun e => by have := (hvb _ e).1; omega)
  refine ⟨U3, ?_, C ++ [(a4, c4, ⟨ms, af⟩)], by rw [List.map_append, hC1]; rfl, ?_, fun c hc => ?_⟩
  · have := setCell_block k9 0 v'
    simpa using this
  · have := owns_upd' o9 US (fun k hk e => by have := (own_block o9 hk).1; omega)
    rw [List.length_append, List.length_singleton, List.map_append, List.flatten_append]
    exact this
  · rcases List.mem_append.1 hc with hc | hc
    · obtain ⟨h1, h2⟩ := hC3 c hc
      refine ⟨owns_upd' h1 U3 (fun k hk e => ?_), h2⟩
      obtain ⟨hB, cs, hcs⟩ := own_block h1 hk
      rcases e with e | e
      · omega
      · obtain ⟨-, cs2, hcs2⟩ := own_block hC2 e
        rw [hcs] at hcs2
        injection hcs2 with hcs2
        injection hcs2 with _ hT
        exact absurd hT (by decide)
    · have hc := List.mem_singleton.1 hc
      subst hc
      refine ⟨?_, hms⟩
      have h5 := owns_upd' o4 (nw_alloc w4 (.cells #[.slice a4 ms.length c4, .int .i64 af] tWv)) (fun _ _ e => e)
      have h9 : w9.ownsRow V.heap.size 3 1 (.slice a4 ms.length c4) ms.length (ms.map (Value.int .i64)) := by
        obtain ⟨q1, q2⟩ := h5
        refine ⟨q1, ?_⟩
        rcases q2 with q2 | ⟨gb, cap, cur, e, hb, hgg, r⟩
        · exact Or.inl q2
        · refine Or.inr ⟨gb, cap, cur, e, hb, grown_keep g9 hgg (fun e2 => ?_), r⟩
          have := (hvb gb e2).2; omega
      exact owns_base (owns_upd' h9 US (fun k hk e => by have := (own_block h9 hk).1; omega)) hV
theorem Wv.spans_len (q : Nat) : ∀ (n s r : Nat), (Wv.spans q n s r).length ≤ n
  | 0, _, _ => Nat.le_refl _
  | n + 1, s, r => by
    unfold Wv.spans
    by_cases h : r = 0
    · rw [if_pos h]; exact Nat.zero_le _
    · rw [if_neg h, List.length_cons]
      have := Wv.spans_len q n (s + q) (r - q)
      omega
theorem one_results (tmps : Array Value) (w : World) : (results Tryz.f40 tmps).run Tryz.prog w = .ok (tmps.getD 8 undef) w := by
  simp [results, Tryz.results40, go_sem]
set_option maxHeartbeats 8000000 in
set_option maxRecDepth 100000 in
theorem one_c (oa na ra ha : Option Addr) (oc nc rc hc : Nat) (f : FL) (s : Nat) (quota : Int) (holds : List Int) (w : World) (hgb : nG ≤ w.heap.size) (h : FlAt w oa na ra oc nc f) (hr : Wv.Rg f)
    (hhc : IC w ha holds) (hhl : holds.length ≤ 100000) (hq : 1 ≤ quota) (hqm : quota ≤ 9223372036854775807) (hs8 : s < 8) :
    Calls Tryz.prog 40 #[.agg (flV oa na ra oc nc rc f), .int .i64 (s : Int), .int .i64 quota, .slice ha holds.length hc] w fun e w' => ∃ v', e = .returned v' ∧ Hid (WvO w.heap.size w' v' (Wv.oneF f s quota holds) ∧ Nw w w') := by
  unfold flV
  obtain ⟨fv, hfv⟩ : ∃ x, x = Obj.cells #[.slice oa f.old.length oc, .slice na f.new.length nc, .slice ra f.runs.length rc] tFl := ⟨_, rfl⟩
  have n1 := nw_alloc w fv
  have b1 := heap_new w fv
  obtain ⟨W, hW⟩ : ∃ z, z = w.alloc fv := ⟨_, rfl⟩
  rw [← hW] at n1 b1
  have hWs : W.heap.size = w.heap.size + 1 := by rw [hW]; simp
  rw [hfv] at hW b1
  have HW := Lib.hid hW
  have HN := Lib.hid n1
  have HX : Hid (∀ y, Nw W y → y.cell? ⟨w.heap.size, 2, none⟩ = some (.slice ra f.runs.length rc)) := fun y u => by rw [cells_cell (Nw.keep u b1)]; rfl
  have HGB : Hid (nG ≤ w.heap.size ∧ w.heap.size + 1 = W.heap.size) := by show _ ≤ _ ∧ _ = _; omega
  have HHC := Lib.hid (IC.nw hhc n1)
  have HRL : Hid (∀ y, Nw W y → ∀ k (hk : k < f.runs.length), ∃ b off, ra = some ⟨b, off, none⟩ ∧ y.cell? ⟨b, off + k, none⟩ = some (.int .i64 (Wv.run f k : Nat)) ∧ Wv.run f k < 8) := fun y u k hk => by
    rcases h.runs with hnil | ⟨b, off, e, _, hcell⟩
    · rw [hnil] at hk; simp at hk
    · refine ⟨b, off, e, ?_, by have := (run_lt hr hk).1; have := hr.old8; omega⟩
      rw [← (run_lt hr hk).2]; exact nw_cellF (n1.trans u) (hcell k hk)
  have hrl : f.runs.length ≤ 400 := hr.few
  have hrl1 : (f.runs.length : Int) ≤ 400 := by omega
  obtain ⟨q, hqq⟩ : ∃ q : Nat, quota = (q : Int) := ⟨quota.toNat, by omega⟩
  subst hqq
  have HQ : Hid (1 ≤ q) := by show _ ≤ _; omega
  clear n1 b1 hW hfv fv hWs h hr hhc hgb hq
  rw [Wv.oneF_spans, Int.toNat_natCast]
  have x2 := HX.out W (Upd.refl _ _)
  refine callsIn_wide.1 (callsIn_of_wp_marks Tryz.func40 rfl trivial (n := 0) ((wpIn_wide (n := 0)).2 ?_))
  simp only [Tryz.ntmps40, List.size_toArray, List.length_cons, List.length_nil, Nat.reduceAdd, Nat.reduceSub, Array.replicate_succ, Array.replicate_zero, List.push_toArray, List.append_toArray, List.nil_append, List.cons_append]
  go_upto_region 1 with fail
  rw [← HW.out]
  clear HW
  go_wp2_with fail
  go_loopw [9, 19] (fun mv iv wr => ∃ n : Nat, n ≤ f.runs.length ∧ iv = .int .i64 (n : Int) ∧ Hid (wr.ownsRow W.heap.size 3 1 mv (Wv.machTo f s n).length ((Wv.machTo f s n).map (Value.int .i64))) ∧ Hid (Nw W wr)) (fun mv iv _ => f.runs.length - (intOf iv).toNat)
  case atStart => exact ⟨0, Nat.zero_le _, rfl, World.ownsRow_nil _ _ _ _, Upd.refl _ _⟩
  case round =>
    obtain ⟨n, hn, rfl, HO, HU⟩ := hrel
    obtain ⟨ma, mc, rfl⟩ := own_slW HO.out
    by_cases hlt : n < f.runs.length
    · have hlt1 : (n : Int) < f.runs.length := by omega
      have hn9 : (n : Int) ≤ 400 := by omega
      have hn0 : decide ((n : Int) < 0) = false := decide_eq_false (by omega)
      obtain ⟨rb, ro, rfl, z1, hr8⟩ := HRL.out wr HU.out n hlt
      have HMS := Lib.hid (Wv.machTo_succ f s n)
      have hml := Wv.machTo_len f s n
      have hml9 : (Wv.machTo f s n).length ≤ 400 := by omega
      by_cases hrs : Wv.run f n = s
      · have e1 : ((Wv.run f n : Nat) : Int) = (s : Int) := by omega
        have e2 : (((Wv.run f n : Nat) : Int) == (s : Int)) = true := by simpa using e1
        have HMS2 : Hid (Wv.machTo f s (n + 1) = Wv.machTo f s n ++ [(n : Int)]) := by show _ = _; rw [HMS.out, if_pos hrs]
        rw [e1] at z1
        have hz : W.heap.size ≤ wr.heap.size := HU.out.size
        have hg1 : nG ≤ W.heap.size := by have := HGB.out; omega
        clear HMS e1 e2 hrs
        go_wp2_with (at_builtin; refine wpList_appL rfl _ _ 23 rfl W.heap.size 3 _ 1 8 Tryz.underlying23 infoIntW rfl (by decide) _ _ _ rfl HO.out [.int .i64 (n : Int)] rfl rfl ?c1 ?c2 ?c3 hz hg1 ?_)
        case c1 => intro u hu; rw [List.mem_singleton.1 hu]; rfl
        case c2 => unfold maxLen; omega
        case c3 => omega
        intro v' w9 hown9 u9 hob
        have hfin : Hid (w9.ownsRow W.heap.size 3 1 v' (Wv.machTo f s (n + 1)).length ((Wv.machTo f s (n + 1)).map (Value.int .i64))) := by
          show w9.ownsRow _ _ _ _ _ _
          rw [HMS2.out, List.length_append, List.length_singleton, List.map_append]
          exact hown9
        have HU9 := Lib.hid (HU.out.trans' u9 (fun j hj e => by have := (own_block HO.out e).1; omega))
        obtain ⟨a9, cap9, rfl⟩ := own_slW hfin.out
        clear hown9 u9 hob
        go_wp2_with fail
        go_roundw
        case rel => exact ⟨n + 1, by omega, by go_num, hfin, HU9⟩
        case measure => simp [intOf]; omega
      · have HMS2 : Hid (Wv.machTo f s (n + 1) = Wv.machTo f s n) := by show _ = _; rw [HMS.out, if_neg hrs, List.append_nil]
        have hfin : Hid (wr.ownsRow W.heap.size 3 1 (.slice ma (Wv.machTo f s n).length mc) (Wv.machTo f s (n + 1)).length ((Wv.machTo f s (n + 1)).map (Value.int .i64))) := by
          show wr.ownsRow _ _ _ _ _ _
          rw [HMS2.out]; exact HO.out
        clear HMS
        generalize Wv.run f n = r at *
        have hrs1 : ¬ (r : Int) = (s : Int) := by omega
        clear HMS2
        go_wp2_with fail
        go_roundw
        case rel => exact ⟨n + 1, by omega, by go_num, hfin, HU⟩
        case measure => simp [intOf]; omega
    · obtain rfl : n = f.runs.length := by omega
      have hlt1 : ¬ ((f.runs.length : Nat) : Int) < f.runs.length := by omega
      rw [Wv.machTo_all] at HO ⊢
      have hml := Wv.machTo_len f s f.runs.length
      rw [Wv.machTo_all] at hml
      have HML : Hid ((Wv.machines f s).length ≤ 400) := by show _ ≤ _; omega
      have hcl := Lib.hid (hold_c ha hc holds s wr (IC.nw HHC.out HU.out) (by omega))
      clear hml
      obtain ⟨L, hL⟩ : ∃ L, L = Wv.machines f s := ⟨_, rfl⟩
      obtain ⟨af, haf⟩ : ∃ x, x = holds.getD s 0 := ⟨_, rfl⟩
      rw [← hL] at HO HML ⊢
      rw [← haf] at hcl
      have HLL := Lib.hid hL
      have HAF := Lib.hid haf
      clear hL haf
      have hab : ∃ b off, (L.length = 0 ∨ ma = some ⟨b, off, none⟩) ∧ L.length ≤ mc ∧ (∀ i (h : i < L.length), b < wr.heap.size ∧ wr.cell? ⟨b, off + i, none⟩ = some (.int .i64 L[i])) := by
        have hic := ic_of_own HO.out
        have hmc : L.length ≤ mc := by
          rcases HO.out.2 with ⟨e1, e2⟩ | ⟨gb, cap, cur, e1, hb, hg, h4, h5, h6, h7⟩
          · omega
          · injection e1 with e3 e4 e5
            omega
        rcases hic with hnil | ⟨b, off, e, hb, hcell⟩
        · exact ⟨0, 0, Or.inl (by rw [hnil]; rfl), hmc, fun i h => by rw [hnil] at h; simp at h⟩
        · exact ⟨b, off, Or.inr e, hmc, fun i h => ⟨hb, hcell i h⟩⟩
      obtain ⟨b, off, hma, hmc, hcells⟩ := hab
      have hchk := Chunk_c ma L.length mc q ((wr.alloc (.cells #[.int .i64 af] 3)).alloc (.cells #[.slice none 0 0] 27)) HQ.out
      simp only [World.size_alloc] at hchk
      have HCHK := Lib.hid hchk
      obtain ⟨k12, k14, ksb, knb, n4, z4⟩ := alloc4W wr (.cells #[.int .i64 af] 3) (.cells #[.slice none 0 0] 27) (.cells #[.slice ma L.length mc] 23) (.cells #[.int .i64 (q : Int)] 3)
      obtain ⟨w0, hw0⟩ : ∃ z, z = (((wr.alloc (.cells #[.int .i64 af] 3)).alloc (.cells #[.slice none 0 0] 27)).alloc (.cells #[.slice ma L.length mc] 23)).alloc (.cells #[.int .i64 (q : Int)] 3) := ⟨_, rfl⟩
      rw [← hw0] at k12 k14 ksb knb n4 z4
      have HW0 := Lib.hid hw0
      have hseq := chunk_seq (wr.heap.size + 2) (wr.heap.size + 3) b off ma L.length mc q w0 ksb knb hma (by have := HML.out; omega) hmc HQ.out hqm
      have HSEQ := Lib.hid hseq
      have HCE : Hid (∀ i (h : i < L.length), b < wr.heap.size ∧ w0.cell? ⟨b, off + i, none⟩ = some (.int .i64 L[i])) := fun i h => ⟨(hcells i h).1, nw_cellF n4 (hcells i h).2⟩
      have K12 := Lib.hid k12
      have HP : Hid (w.heap.size + 1 ≤ wr.heap.size) := by have := HU.out.size; have := HGB.out.2; show _ ≤ _; omega
      have HI0 : Hid (OneI w0 (wr.heap.size + 1) (wr.heap.size + 2) L af [] w0) := ⟨Upd.refl _ _, _, k14, WvO.nil _ _⟩
      have HNW0 := Lib.hid (HN.out.trans (HU.out.trans n4))
      clear hchk hw0 hseq hcells k12 k14 ksb knb n4 hma hmc
      go_wp2_with fail
      (with_reducible refine (hcl.out).mono ?_)
      rintro _ _ ⟨rfl, rfl⟩
      go_wp2_with fail
      (with_reducible refine (HCHK.out).mono ?_)
      rintro _ _ ⟨rfl, rfl⟩
      clear HCHK hcl
      go_wp2_with fail
      rw [← HW0.out]
      clear HW0
      have hgb0 : nG ≤ w.heap.size := HGB.out.1
      have hp0 := HP.out
      apply wp_rangeFuncB (gf := 75) (encs := encC b off) rfl (enters_of Tryz.func75 (by kernel_rfl) rfl) HSEQ.out (by omega) (by omega) (by intro k hk; rcases hk with rfl | rfl <;> omega) (fun _ => rfl) (OneI w0 (wr.heap.size + 1) (wr.heap.size + 2) L af) (fun _ _ _ => False) (OneI.bears (by omega) (by omega)) (fun _ _ _ _ _ h _ _ => h) HI0.out
      case hassign =>
        intro lp x V K hK
        unfold encC
        gi_wp2_with (rw [Oper.semAt_eq _ _ _ (fun c h => by cases h)]; go_simp)
        exact hK
      case hbody =>
        intro lp pre x rest V hxs hI
        obtain ⟨hU, ov, k14, hO⟩ := hI
        obtain ⟨C, hC1, hC2, hC3⟩ := hO
        obtain ⟨oa1, oc1, rfl⟩ := own_slW hC2
        have hCl : Hid (C.length = pre.length) := by have := congrArg List.length hC1; rw [List.length_map, List.length_map] at this; exact this
        have hpre : pre.length ≤ L.length := by
          have h1 := Wv.spans_len q L.length 0 L.length
          rw [hxs, List.length_append, List.length_cons] at h1
          omega
        have hxm : x ∈ Wv.spans q L.length 0 L.length := by rw [hxs]; simp
        obtain ⟨hx1, hx2⟩ := Wv.spans_mem hxm
        obtain ⟨x1, x2'⟩ := x
        dsimp only at hx1 hx2
        have k12 := hU.keep K12.out (fun e => by omega)
        have hgv : nG ≤ V.heap.size := by have := hU.size; omega
        have HVL : Hid (V.heap.size ≥ w0.heap.size) := hU.size
        have hS0 : Hid (∀ y, Nw V y → y.cell? ⟨wr.heap.size + 1, 0, none⟩ = some (.slice oa1 C.length oc1) ∧ y.cell? ⟨wr.heap.size, 0, none⟩ = some (.int .i64 af) ∧ True) := fun y u => ⟨by rw [cells_cell (Nw.keep u k14)]; rfl, by rw [cells_cell (Nw.keep u k12)]; rfl, trivial⟩
        gi_wp2_with (rw [Oper.semAt_eq _ _ _ (fun c h => by cases h)]; go_simp)
        have HS0 := Lib.hid (hS0.out V.drew (Upd.refl _ V).drew)
        refine wpIn_region_F (fun y => y.cell? ⟨wr.heap.size + 1, 0, none⟩ = some (.slice oa1 C.length oc1) ∧ y.cell? ⟨wr.heap.size, 0, none⟩ = some (.int .i64 af) ∧ True) 7 (by kernel_rfl) ?_
        refine wpAnyF_load (i := 0) (v := ?_) [] (by kernel_rfl) rfl (by kernel_rfl) (by kernel_rfl) (by kernel_rfl) (by kernel_rfl) (by kernel_rfl) (by kernel_rfl) (fun _ _ _ h => h) (by kernel_rfl) (fun _ => rfl) ?_ (fun _ => HS0.out) ?_
        rotate_left 1
        · (intro zz hS; obtain ⟨_, _, _⟩ := hS; go_simp; first | done | with_reducible rfl)
        (try simp only [Act.put, List.setIfInBounds_toArray, List.set_cons_zero, List.set_cons_succ])
        refine wpAnyF_pure (i := 1) (v := ?_) (by kernel_rfl) rfl (by kernel_rfl) (by kernel_rfl) (by kernel_rfl) (by kernel_rfl) (by kernel_rfl) (fun _ _ _ h => h) (by kernel_rfl) (fun _ => rfl) ?_ (fun _ => HS0.out) ?_
        rotate_left 1
        · (intro zz; go_simp; first | done | with_reducible rfl)
        (try simp only [Act.put, List.setIfInBounds_toArray, List.set_cons_zero, List.set_cons_succ])
        refine wpAnyF_load (i := 3) (v := ?_) [] (by kernel_rfl) rfl (by kernel_rfl) (by kernel_rfl) (by kernel_rfl) (by kernel_rfl) (by kernel_rfl) (by kernel_rfl) (fun _ _ _ h => h) (by kernel_rfl) (fun _ => rfl) ?_ (fun _ => HS0.out) ?_
        rotate_left 1
        · (intro zz hS; obtain ⟨_, _, _⟩ := hS; go_simp; first | done | with_reducible rfl)
        (try simp only [Act.put, List.setIfInBounds_toArray, List.set_cons_zero, List.set_cons_succ])
        refine wpAnyF_ready [2] (by kernel_rfl) (by simp) ?_
        refine AllF.cons rfl (fun K hK => ?_) AllF.nil
        go_simp
        refine ⟨trivial, ?_⟩
        rw [Oper.semAt_eq _ _ _ (fun c h => by cases h)]
        go_simp
        refine ⟨rfl, ?_⟩
        have hL' : ((L.drop x1).take x2').length = x2' := by rw [List.length_take, List.length_drop]; omega
        have hL0 : 0 < L.length := by
          rcases Nat.eq_zero_or_pos L.length with h0 | h0
          · rw [h0] at hxm; cases hxm
          · exact h0
        have hbw : b < wr.heap.size := (HCE.out 0 hL0).1
        have hbV : V.heap[b]? = w0.heap[b]? := hU.block b (by omega) (Or.inr (fun e => by omega))
        have hcc : ∀ i (h : i < ((L.drop x1).take x2').length), V.drew.cell? ⟨b, off + x1 + i, none⟩ = some (.int .i64 ((L.drop x1).take x2')[i]) := fun i hi => by
          have hi2 : x1 + i < L.length := by rw [hL'] at hi; omega
          have h1 := (HCE.out (x1 + i) hi2).2
          rw [List.getElem_take, List.getElem_drop, Nat.add_assoc, ← h1]
          show V.cell? _ = _
          simp [World.cell?, hbV]
        have hcb : b < V.drew.heap.size := by show b < V.heap.size; have := HVL.out; omega
        have hCC := clone_ic b (off + x1) ((L.drop x1).take x2') V.drew (by show nG ≤ V.heap.size; exact hgv) hcb hcc (by rw [hL']; have := HML.out; omega)
        rw [hL'] at hCC
        refine (CallsIn.inRound lp (callsIn_wide.2 hCC)).mono ?_
        rintro _ w4 ⟨a4, c4, rfl, H4⟩
        clear hCC
        have HU4 := Lib.hid ((Upd.refl (fun _ => False) V).drew.trans H4.out.2)
        refine hK.out _ _ (fun _ => hS0.out _ HU4.out) ?_
        clear hK K
        (try simp only [Act.put, List.setIfInBounds_toArray, List.set_cons_zero, List.set_cons_succ])
        have HS4 := Lib.hid (hS0.out _ HU4.out)
        refine wpAnyF_pure (i := 4) (v := ?_) (by kernel_rfl) rfl (by kernel_rfl) (by kernel_rfl) (by kernel_rfl) (by kernel_rfl) (by kernel_rfl) (fun _ _ _ h => h) (by kernel_rfl) (fun _ => rfl) ?_ (fun _ => HS4.out) ?_
        rotate_left 1
        · (intro zz; go_simp; first | done | with_reducible rfl)
        (try simp only [Act.put, List.setIfInBounds_toArray, List.set_cons_zero, List.set_cons_succ])
        refine wpAnyF_ready [5] (by kernel_rfl) (by simp) ?_
        refine AllF.cons rfl (fun K hK => ?_) AllF.nil
        go_simp
        rw [Oper.semAt_eq _ _ _ (fun c h => by cases h)]
        go_simp
        have HU5 : Hid (Nw V (w4.alloc (.cells #[.slice a4 x2' c4, .int .i64 af] tWv))) := HU4.out.trans (nw_alloc w4 _)
        refine hK.out _ _ (fun _ => hS0.out _ HU5.out) ?_
        clear hK K
        (try simp only [Act.put, List.setIfInBounds_toArray, List.set_cons_zero, List.set_cons_succ])
        have hown5 := owns_upd' hC2 HU5.out (fun _ _ e => e)
        refine wpAnyF_ready [6] (by kernel_rfl) (by simp) ?_
        refine AllF.cons rfl (fun K hK => ?_) AllF.nil
        refine stepF_app rfl _ _ 27 rfl w0.heap.size tWv _ 2 32 Tryz.underlying27 infoWvW rfl (by decide) (.slice oa1 C.length oc1) _ _ ?n0 hown5 ⟨w4.heap.size, 0, none⟩ 1 1 [.slice a4 x2' c4, .int .i64 af] rfl rfl ?n1 ?n2 (by decide) ?n3 ?n4 ?n5 ?_
        case n0 => rfl
        case n1 => exact World.news_of_block (heap_new w4 _)
        case n2 => intro u hu; simp only [List.mem_cons, List.mem_nil_iff, or_false] at hu; rcases hu with rfl | rfl <;> rfl
        case n3 => have := HML.out; have := hCl.out; unfold maxLen; omega
        case n4 => have := HML.out; have := hCl.out; omega
        case n5 => exact Nat.le_trans HVL.out HU5.out.size
        intro g9 cap9 w9 o9 gr9
        have hL2 : ((L.drop x1).take x2').length ≤ 100000 := by rw [hL']; have := HML.out; omega
        obtain ⟨HS1, HS2, HS3⟩ := one_step (p := wr.heap.size) (n0 := w0.heap.size) (C := C) (V := V) (w4 := w4) (w9 := w9) (v := .slice oa1 C.length oc1) (v' := .slice (some ⟨g9, 0, none⟩) (C.length + 1) cap9) (a4 := a4) (c4 := c4) (ms := (L.drop x1).take x2') (af := af) (a4v := .nilFunc) (by omega) (by omega) k14 HVL.out hC1 hC2 hC3 HU4.out (by rw [hL']; exact H4.out.1) hL2 (by rw [hL']; exact o9) (by rw [hL']; exact gr9)
        have U9 : Upd (fun k => (Value.slice oa1 C.length oc1).ownBlock = some k) V w9 := (Nw.upd _ HU5.out).grown gr9 (fun k hk => ⟨Or.inl hk, by have := (hC2.lt k hk).1; omega⟩)
        have k9 := U9.keep k14 (fun e => by have := (hC2.lt _ e).1; omega)
        have c9 : w9.cell? ⟨wr.heap.size + 1, 0, none⟩ = some (.slice oa1 C.length oc1) := by rw [cells_cell k9]; rfl
        have f9 : w9.frozen? ⟨wr.heap.size + 1, 0, none⟩ = false := cells_frozen k9 0
        have HS1' := Lib.hid HS1
        have HS2' := Lib.hid HS2
        have HS3' := Lib.hid HS3
        have k12' := U9.keep k12 (fun e => by have := (hC2.lt _ e).1; omega)
        refine hK.out _ _ (fun _ => ⟨c9, by rw [cells_cell k12']; rfl, trivial⟩) ?_
        clear hK K
        (try simp only [Act.put, List.setIfInBounds_toArray, List.set_cons_zero, List.set_cons_succ])
        clear HS1 HS2 HS3 U9 k9 k12' o9 gr9 hown5
        refine wpAnyF_ready [7] (by kernel_rfl) (by simp) ?_
        refine AllF.cons rfl (fun K hK => ?_) AllF.nil
        go_simp
        rw [Oper.semAt_eq _ _ _ (fun c h => by cases h)]
        go_simp
        refine hK.out _ _ (fun e => absurd (show true = false from e) (by decide)) ?_
        clear hK K
        (try simp only [Act.put, List.setIfInBounds_toArray, List.set_cons_zero, List.set_cons_succ])
        refine wpAnyF_done (by kernel_rfl) ?_ _
        gi_wp2_with (rw [Oper.semAt_eq _ _ _ (fun c h => by cases h)]; go_simp)
        have hvl : w0.heap.size ≤ V.heap.size := HVL.out
        refine ⟨fun k o hk ho hn => HS1'.out.keep ho (fun e => ?_), fun k hk => HS1'.out.block k (by omega) (Or.inr (fun e => ?_)), hU.trans' HS1'.out (fun k hk e => ?_), _, HS2'.out, ?_⟩
        · rcases e with e | e
          · omega
          · obtain ⟨-, cs, hcs⟩ := own_block hC2 e
            rw [hcs] at ho; cases ho; cases hn
        · rcases e with e | e
          · omega
          · have := (hC2.lt _ e).1; omega
        · rcases e with e | e
          · exact Or.inl e
          · have := (hC2.lt _ e).1; omega
        · rw [List.map_append]; exact HS3'.out
      case hdone =>
        rintro D V hD ⟨hU, ov, k14, hO⟩ hK
        have c14 : V.cell? ⟨wr.heap.size + 1, 0, none⟩ = some ov := by rw [cells_cell k14]; rfl
        obtain ⟨va, vc, rfl⟩ := hO.sl
        have HU' := Lib.hid hU
        have HO' := Lib.hid hO
        have HK := Lib.hid hK
        clear hU hO hK k14
        go_wp2_with fail
        refine ⟨by simp, .inl ⟨_, _, rfl, run_takeDeferred HK.out, ?_⟩⟩
        have hdw : Upd (fun k => k = D) V (V.putObj D (.deferred none)) := upd_putObj V D (.deferred none) (by omega)
        refine ⟨_, one_results _ _, .slice va (Wv.spans q L.length 0 L.length).length vc, by first | rfl | simp, ?_, ?_⟩
        · have h9 := WvO.base (B := w0.heap.size) (B' := w.heap.size) (HO'.out.upd hdw (fun k cs T f hB hc e => by subst e; rw [HK.out] at hc; cases hc)) (by omega)
          rw [List.length_map] at h9
          rw [← HLL.out, ← HAF.out]
          exact h9
        · have h1 : Nw w V := HNW0.out.trans' HU'.out (S := fun _ => False) (fun k (hk : k < w.heap.size) (e : k = wr.heap.size + 1 ∨ k = wr.heap.size + 2) => by show False; omega)
          exact h1.trans' hdw (S := fun _ => False) (fun k (hk : k < w.heap.size) (e : k = D) => by show False; omega)
      case hstop => exact fun D c pre V hD hI hK => hI.elim
end Go.Proofs.YtjlgmoemnhmgmaaGreatDoor
namespace Go.Proofs.YtjlgmoemnhmgmaaGreatDoor
open Go.RowKit Go.MapKept
set_option linter.unusedVariables false
set_option linter.unusedSimpArgs false
attribute [local irreducible] Calls
open Wv (Svc FL)

abbrev tPl : TypeId := 74
theorem bit_test : ∀ (set : Fin 256) (s : Fin 8), bits .and .i64 (((set.val : Nat) : Int) / 2 ^ s.val) 1 = if set.val.testBit s.val then 1 else 0 := by decide +kernel
theorem bit_and {set s : Nat} (h : set < 256) (hs : s < 8) : bits .and .i64 ((set : Int) / 2 ^ s) 1 = if set.testBit s then 1 else 0 := bit_test ⟨set, h⟩ ⟨s, hs⟩
theorem bit_set : ∀ (set : Fin 256) (s : Fin 8), bits .or .i64 ((set.val : Nat) : Int) (IntKind.i64.wrap (1 * 2 ^ s.val)) = ((set.val ||| 1 <<< s.val : Nat) : Int) ∧ (set.val ||| 1 <<< s.val) < 256 := by decide +kernel
theorem bit_or {set s : Nat} (h : set < 256) (hs : s < 8) : bits .or .i64 (set : Int) (IntKind.i64.wrap (1 * 2 ^ s)) = ((set ||| 1 <<< s : Nat) : Int) ∧ (set ||| 1 <<< s) < 256 := bit_set ⟨set, h⟩ ⟨s, hs⟩
namespace Wv
def sameTo (f : FL) (p : Int) (n : Nat) : Nat := ((List.range n).filter fun j => decide ((run f j : Int) = p)).length
def partB (f : FL) (quota : Int) (set : Nat) (part : Int) (i : Nat) : Bool := if (run f i : Int) = part then decide ((sameTo f part i : Int) < quota) else set.testBit (run f i)
theorem sameTo_succ (f : FL) (p : Int) (n : Nat) : sameTo f p (n + 1) = sameTo f p n + if (run f n : Int) = p then 1 else 0 := by
  unfold sameTo
  rw [List.range_succ, List.filter_append, List.length_append]
  by_cases h : (run f n : Int) = p
  · simp [h]
  · simp [h]
theorem sameTo_le (f : FL) (p : Int) (n : Nat) : sameTo f p n ≤ n := Nat.le_trans (List.length_filter_le _ _) (by simp)
theorem partL_eq (f : FL) (quota : Int) (set : Nat) (part : Int) : partL f quota set part = (List.range f.runs.length).map (partB f quota set part) := by
  unfold partL
  apply List.map_congr_left
  intro i _
  unfold partB
  by_cases h : (run f i : Int) = part
  · rw [if_pos h, if_pos h]
    unfold sameTo
    rw [← h]
    congr 4
    apply List.filter_congr
    intro j _
    by_cases e : run f j = run f i
    · simp [e]
    · have : ¬ (run f j : Int) = (run f i : Int) := by omega
      simp [e, this]
  · rw [if_neg h, if_neg h]
end Wv
/-- A planner. -/
structure PlAt (w : World) (pb : Nat) (oa na ra : Option Addr) (oc nc rc tb : Nat) (quota : Int) (ha : Option Addr) (hl hc db all : Nat) (f : FL) : Prop where
  at_ : w.heap[pb]? = some (.cells #[.slice oa f.old.length oc, .slice na f.new.length nc, .slice ra f.runs.length rc, .pointer (some ⟨tb, 0, none⟩), .int .i64 quota, .slice ha hl hc, .map (some db), .int .i64 (all : Int)] tPl (0, 0))
theorem PlAt.nw {w w' : World} {pb oc nc rc tb hl hc db all : Nat} {oa na ra ha : Option Addr} {quota : Int} {f : FL} (h : PlAt w pb oa na ra oc nc rc tb quota ha hl hc db all f) (u : Nw w w') : PlAt w' pb oa na ra oc nc rc tb quota ha hl hc db all f := ⟨Nw.keep u h.at_⟩
theorem PlAt.upd {S : Nat → Prop} {w w' : World} {pb oc nc rc tb hl hc db all : Nat} {oa na ra ha : Option Addr} {quota : Int} {f : FL} (h : PlAt w pb oa na ra oc nc rc tb quota ha hl hc db all f) (u : Upd S w w') (hn : ¬ S pb) : PlAt w' pb oa na ra oc nc rc tb quota ha hl hc db all f := ⟨u.keep h.at_ hn⟩
structure PlC (w : World) (pb : Nat) (oa na ra : Option Addr) (oc nc rc tb : Nat) (quota : Int) (ha : Option Addr) (hl hc db all : Nat) (f : FL) : Prop where
  c0 : w.cell? ⟨pb, 0, none⟩ = some (.slice oa f.old.length oc)
  c1 : w.cell? ⟨pb, 1, none⟩ = some (.slice na f.new.length nc)
  c2 : w.cell? ⟨pb, 2, none⟩ = some (.slice ra f.runs.length rc)
  c3 : w.cell? ⟨pb, 3, none⟩ = some (.pointer (some ⟨tb, 0, none⟩))
  c4 : w.cell? ⟨pb, 4, none⟩ = some (.int .i64 quota)
  c5 : w.cell? ⟨pb, 5, none⟩ = some (.slice ha hl hc)
  c6 : w.cell? ⟨pb, 6, none⟩ = some (.map (some db))
  c7 : w.cell? ⟨pb, 7, none⟩ = some (.int .i64 (all : Int))
theorem PlAt.cs {w : World} {pb oc nc rc tb hl hc db all : Nat} {oa na ra ha : Option Addr} {quota : Int} {f : FL} (h : PlAt w pb oa na ra oc nc rc tb quota ha hl hc db all f) : PlC w pb oa na ra oc nc rc tb quota ha hl hc db all f :=
  ⟨by rw [cells_cell h.at_]; rfl, by rw [cells_cell h.at_]; rfl, by rw [cells_cell h.at_]; rfl, by rw [cells_cell h.at_]; rfl, by rw [cells_cell h.at_]; rfl, by rw [cells_cell h.at_]; rfl, by rw [cells_cell h.at_]; rfl, by rw [cells_cell h.at_]; rfl⟩
theorem PlAt.lt {w : World} {pb oc nc rc tb hl hc db all : Nat} {oa na ra ha : Option Addr} {quota : Int} {f : FL} (h : PlAt w pb oa na ra oc nc rc tb quota ha hl hc db all f) : pb < w.heap.size := (Array.getElem?_eq_some_iff.1 h.at_).1
set_option maxHeartbeats 16000000 in
set_option maxRecDepth 100000 in
theorem state_c (pb tb : Nat) (T : Nat → Bool) (oa na ra ha : Option Addr) (oc nc rc hl hc db all : Nat) (quota : Int) (f : FL) (set : Nat) (part : Int) (w : World) (hgb : nG ≤ w.heap.size) (hp : PlAt w pb oa na ra oc nc rc tb quota ha hl hc db all f) (h : FlAt w oa na ra oc nc f) (hr : Wv.Rg f) (hT : TabAt w tb T) (hok : TabOk f T) (hset : set < 256) :
    Calls Tryz.prog 38 #[.pointer (some ⟨pb, 0, none⟩), .int .i64 (set : Int), .int .i64 part] w fun e w' => e = .returned (.bool (Wv.talksP f quota set part)) ∧ Nw w w' := by
  have HP := Lib.hid hp
  have hplt := hp.lt
  have hrl : f.runs.length ≤ 400 := hr.few
  have hrl1 : (f.runs.length : Int) ≤ 400 := by omega
  have HGB := Lib.hid hgb
  have HRL : Hid (∀ y, Nw w y → ∀ k (hk : k < f.runs.length), ∃ b off, ra = some ⟨b, off, none⟩ ∧ y.cell? ⟨b, off + k, none⟩ = some (.int .i64 (Wv.run f k : Nat)) ∧ Wv.run f k < 8) := fun y u k hk => by
    rcases h.runs with hnil | ⟨b, off, e, _, hcell⟩
    · rw [hnil] at hk; simp at hk
    · refine ⟨b, off, e, ?_, by have := (run_lt hr hk).1; have := hr.old8; omega⟩
      rw [← (run_lt hr hk).2]; exact nw_cellF u (hcell k hk)
  have HFS : Hid (∀ y done, Nw w y → DoneAt y w.heap.size done → done.length = f.runs.length → ∀ p, p = Wv.pairOf (Wv.firstBad f done) → Calls Tryz.prog 31 #[.pointer (some ⟨tb, 0, none⟩), .agg #[.slice oa f.old.length oc, .slice na f.new.length nc, .slice ra f.runs.length rc], .slice (some ⟨w.heap.size, 0, none⟩) f.runs.length f.runs.length] y fun e w' => e = .returned (.tuple #[.int .i64 p.1, .int .i64 p.2.1, .bool p.2.2]) ∧ Nw y w') := fun y done u hd hdl p hp => by
    have := first_c tb T oa na ra (some ⟨w.heap.size, 0, none⟩) oc nc rc f.runs.length f done y (Nat.le_trans hgb u.size) (h.nw u) hr (hT.upd u (fun e => e)) hok hd.bc trivial
    rw [hdl, ← hp] at this
    exact this
  obtain ⟨c0, c1, c2, c3, c4, c5, c6, c7⟩ := hp.cs
  have hpn : ¬ pb = w.heap.size := by omega
  clear hp h hr hT hok hgb
  go_enter Tryz.func38, Tryz.ntmps38
  go_wp2_with (at_make; refine wpList_makeW rfl _ _ 26 4 _ 1 rfl Tryz.underlying26 infoBoolW f.runs.length rfl rfl ?m1 ?m2 ?_)
  case m1 => omega
  case m2 => omega
  intro wD hD nD
  have HD0 : Hid (DoneAt wD w.heap.size (List.replicate f.runs.length false)) := DoneAt.made hD
  have HND := Lib.hid nD
  clear hD c0 c1 c2 c3 c4 c5 c6 c7
  obtain ⟨c0, c1, c2, c3, c4, c5, c6, c7⟩ := (HP.out.nw nD).cs
  clear nD
  go_wp2_with fail
  go_loopw [8, 27] (fun sv iv wr => ∃ (n : Nat) (done : List Bool), n ≤ f.runs.length ∧ iv = .int .i64 (n : Int) ∧ sv = .int .i64 (Wv.sameTo f part n : Int) ∧ Hid (DoneAt wr w.heap.size done) ∧ Hid (done.length = f.runs.length ∧ ∀ j (h : j < done.length), j < n → done[j] = Wv.partB f quota set part j) ∧ Hid (Nw w wr)) (fun sv iv _ => f.runs.length - (intOf iv).toNat)
  case atStart => exact ⟨0, _, Nat.zero_le _, rfl, rfl, HD0.out, ⟨List.length_replicate, fun j h h2 => by omega⟩, HND.out⟩
  case round =>
    obtain ⟨n, done, hn, rfl, rfl, HDN, HDL, HU⟩ := hrel
    clear c0 c1 c2 c3 c4 c5 c6 c7
    by_cases hlt : n < f.runs.length
    · have hlt1 : (n : Int) < f.runs.length := by omega
      have hn9 : (n : Int) ≤ 400 := by omega
      have hn0 : decide ((n : Int) < 0) = false := decide_eq_false (by omega)
      obtain ⟨b, off, rfl, z0, hs8⟩ := HRL.out wr HU.out n hlt
      obtain ⟨x9, z1⟩ : ∃ x, wr.cell? ⟨w.heap.size, n, none⟩ = some (.bool x) := ⟨_, HDN.out.cell (by rw [HDL.out.1]; exact hlt)⟩
      have f1 : wr.frozen? ⟨w.heap.size, n, none⟩ = false := HDN.out.frozen n
      have hb := bit_and hset hs8
      have HB := Lib.hid hb
      have HPB : Hid (Wv.partB f quota set part n = if (Wv.run f n : Int) = part then decide ((Wv.sameTo f part n : Int) < quota) else set.testBit (Wv.run f n)) := rfl
      have HSU := Lib.hid (Wv.sameTo_succ f part n)
      have hsl := Wv.sameTo_le f part n
      have hsl1 : (Wv.sameTo f part n : Int) ≤ 400 := by omega
      have HNX : Hid (∀ x, x = Wv.partB f quota set part n → (done.set n x).length = f.runs.length ∧ ∀ j (h : j < (done.set n x).length), j < n + 1 → (done.set n x)[j] = Wv.partB f quota set part j) := fun x hx => ⟨by rw [List.length_set]; exact HDL.out.1, fun j h h2 => by
        rw [List.getElem_set]
        by_cases e : n = j
        · subst e; rw [if_pos rfl, hx]
        · rw [if_neg e]; exact HDL.out.2 j _ (by omega)⟩
      clear hb
      generalize Wv.run f n = s at *
      generalize Wv.sameTo f part n = sm at *
      have hs9 : (s : Int) < 8 := by omega
      have hs0 : decide ((s : Int) < 0) = false := decide_eq_false (by omega)
      generalize hbx : set.testBit s = bx at *
      clear hbx
      have hb1 : (bits .and .i64 ((set : Int) / 2 ^ s) 1 == 1) = bx := by rw [HB.out]; cases bx <;> rfl
      have HG9 := HGB.out
      have HD1 : Hid (DoneAt (wr.setCell ⟨w.heap.size, n, none⟩ (.bool bx)) w.heap.size (done.set n bx)) := HDN.out.set n bx
      have HU1 : Hid (Nw w (wr.setCell ⟨w.heap.size, n, none⟩ (.bool bx))) := HU.out.trans' ((Upd.refl (fun k => k = w.heap.size) wr).set1 HG9 n (.bool bx)) (S := fun _ => False) (fun k (hk : k < w.heap.size) (e : k = w.heap.size) => by show False; omega)
      by_cases hsp : (s : Int) = part
      · have hsp1 : ((s : Int) == part) = true := by simpa using hsp
        have HPB2 : Hid (decide ((sm : Int) < quota) = Wv.partB f quota set part n) := by show _ = _; rw [HPB.out, if_pos hsp]
        have HSU2 : Hid (Wv.sameTo f part (n + 1) = sm + 1) := by show _ = _; rw [HSU.out, if_pos hsp]
        obtain ⟨c0, c1, c2, c3, c4, c5, c6, c7⟩ := (HP.out.nw HU.out).cs
        have HD2 : Hid (DoneAt ((wr.setCell ⟨w.heap.size, n, none⟩ (.bool bx)).setCell ⟨w.heap.size, n, none⟩ (.bool (decide ((sm : Int) < quota)))) w.heap.size (done.set n (decide ((sm : Int) < quota)))) := by
          have := HD1.out.set n (decide ((sm : Int) < quota))
          rw [List.set_set] at this
          exact this
        have HU2 : Hid (Nw w ((wr.setCell ⟨w.heap.size, n, none⟩ (.bool bx)).setCell ⟨w.heap.size, n, none⟩ (.bool (decide ((sm : Int) < quota))))) := HU1.out.trans' ((Upd.refl (fun k => k = w.heap.size) _).set1 HG9 n (.bool (decide ((sm : Int) < quota)))) (S := fun _ => False) (fun k (hk : k < w.heap.size) (e : k = w.heap.size) => by show False; omega)
        have HNX2 := Lib.hid (HNX.out _ HPB2.out)
        clear HSU HPB HNX hsp HB HPB2
        go_wp2_with fail
        go_roundw
        case rel => exact ⟨n + 1, _, by omega, by go_num, by rw [HSU2.out]; go_num, HD2.out, HNX2.out, HU2.out⟩
        case measure => simp [intOf]; omega
      · have hsp1 : ((s : Int) == part) = false := by simpa using hsp
        have HPB2 : Hid (bx = Wv.partB f quota set part n) := by show _ = _; rw [HPB.out, if_neg hsp]
        have HSU2 : Hid (Wv.sameTo f part (n + 1) = sm) := by show _ = _; rw [HSU.out, if_neg hsp]; rfl
        have HNX2 := Lib.hid (HNX.out _ HPB2.out)
        clear HSU HPB HNX hsp HB HPB2
        go_wp2_with fail
        go_roundw
        case rel => exact ⟨n + 1, _, by omega, by go_num, by rw [HSU2.out], HD1.out, HNX2.out, HU1.out⟩
        case measure => simp [intOf]; omega
    · obtain rfl : n = f.runs.length := by omega
      have hlt1 : ¬ ((f.runs.length : Nat) : Int) < f.runs.length := by omega
      have hdone : done = Wv.partL f quota set part := by
        rw [Wv.partL_eq]
        apply List.ext_getElem
        · rw [HDL.out.1, List.length_map, List.length_range]
        · intro i h1 h2
          rw [HDL.out.2 i h1 (by rw [← HDL.out.1]; exact h1), List.getElem_map, List.getElem_range]
      obtain ⟨c0, c1, c2, c3, c4, c5, c6, c7⟩ := (HP.out.nw HU.out).cs
      obtain ⟨pr, hpr⟩ : ∃ p, p = Wv.pairOf (Wv.firstBad f done) := ⟨_, rfl⟩
      have hcall : Hid (∀ y, Nw wr y → Calls Tryz.prog 31 #[.pointer (some ⟨tb, 0, none⟩), .agg #[.slice oa f.old.length oc, .slice na f.new.length nc, .slice ra f.runs.length rc], .slice (some ⟨w.heap.size, 0, none⟩) f.runs.length f.runs.length] y fun e w' => e = .returned (.tuple #[.int .i64 pr.1, .int .i64 pr.2.1, .bool pr.2.2]) ∧ Nw y w') := fun y u => HFS.out y done (HU.out.trans u) (HDN.out.upd u (fun e => e)) HDL.out.1 pr hpr
      have hbad : Hid (Wv.talksP f quota set part = !pr.2.2) := by
        show _ = _
        rw [hpr, Wv.pairOf_bad, hdone]
        unfold Wv.talksP
        cases Wv.firstBad f (Wv.partL f quota set part) <;> rfl
      clear hpr hdone HFS HRL HDN HDL
      obtain ⟨p1, p2, p3⟩ := pr
      dsimp only at hcall hbad
      have d0 : ∀ j : Later wr, j.1.cell? ⟨pb, 0, none⟩ = some (.slice oa f.old.length oc) := fun j => nw_cellF j.nw c0
      have d1 : ∀ j : Later wr, j.1.cell? ⟨pb, 1, none⟩ = some (.slice na f.new.length nc) := fun j => nw_cellF j.nw c1
      have d2 : ∀ j : Later wr, j.1.cell? ⟨pb, 2, none⟩ = some (.slice ra f.runs.length rc) := fun j => nw_cellF j.nw c2
      have d3 : ∀ j : Later wr, j.1.cell? ⟨pb, 3, none⟩ = some (.pointer (some ⟨tb, 0, none⟩)) := fun j => nw_cellF j.nw c3
      clear c0 c1 c2 c3 c4 c5 c6 c7
      go_upto_region 11 with fail
      refine wp_region_nw (by kernel_rfl) (by kernel_rfl) ?_
      repeat (go_big_quiet_step ((go_at_call 31; exact later_call (hcall.out _ (Later.nw _)))))
      refine wpQuiet_nil ?_
      intro w5 u5
      replace u5 := later_out u5
      have hw5 := Lib.hid (HU.out.trans u5)
      clear u5 d0 d1 d2 d3
      go_wp2_with fail
      go_ret
      exact ⟨by rw [hbad.out]; first | rfl | simp, hw5.out⟩
end Go.Proofs.YtjlgmoemnhmgmaaGreatDoor
namespace Go.Proofs.YtjlgmoemnhmgmaaGreatDoor
open Go.RowKit Go.MapKept
open Go.Maps (Keyed)
set_option linter.unusedVariables false
set_option linter.unusedSimpArgs false
attribute [local irreducible] Calls
open Wv (Svc FL)

namespace Wv
theorem filter_le {p p' : Nat → Bool} : ∀ {L : List Nat}, (∀ x ∈ L, p' x = true → p x = true) → (L.filter p').length ≤ (L.filter p).length
  | [], _ => Nat.le_refl _
  | a :: L, h => by
    have ih := filter_le (L := L) (fun x hx => h x (List.mem_cons_of_mem _ hx))
    rw [List.filter_cons, List.filter_cons]
    cases h1 : p' a with
    | true => rw [if_pos rfl, if_pos (h a (List.mem_cons_self ..) h1)]; simpa using ih
    | false =>
      rw [if_neg (by simp)]
      cases p a with
      | true => rw [if_pos rfl, List.length_cons]; omega
      | false => rw [if_neg (by simp)]; exact ih
theorem filter_lt {p p' : Nat → Bool} : ∀ {L : List Nat}, (∀ x ∈ L, p' x = true → p x = true) → (∃ s ∈ L, p s = true ∧ p' s = false) → (L.filter p').length < (L.filter p).length
  | [], _, h => by obtain ⟨s, hs, _⟩ := h; cases hs
  | a :: L, h, hs => by
    have hle := filter_le (L := L) (fun x hx => h x (List.mem_cons_of_mem _ hx))
    rw [List.filter_cons, List.filter_cons]
    obtain ⟨s, hs, h1, h2⟩ := hs
    rcases List.mem_cons.1 hs with rfl | hs
    · rw [h1, h2, if_neg (by simp), if_pos rfl, List.length_cons]; omega
    · have ih := filter_lt (L := L) (fun x hx => h x (List.mem_cons_of_mem _ hx)) ⟨s, hs, h1, h2⟩
      cases h3 : p' a with
      | true => rw [if_pos rfl, if_pos (h a (List.mem_cons_self ..) h3), List.length_cons, List.length_cons]; omega
      | false =>
        rw [if_neg (by simp)]
        cases p a with
        | true => rw [if_pos rfl, List.length_cons]; omega
        | false => rw [if_neg (by simp)]; exact ih
theorem testBit_with (set s j : Nat) : (set ||| 1 <<< s).testBit j = (set.testBit j || decide (s = j)) := by
  rw [Nat.testBit_or, Nat.shiftLeft_eq, Nat.one_mul, Nat.testBit_two_pow]
def miss (f : FL) (set : Nat) : Nat := ((List.range 8).filter fun s => (allBits f).testBit s && !set.testBit s).length
theorem miss_le (f : FL) (set : Nat) : miss f set ≤ 8 := Nat.le_trans (List.length_filter_le _ _) (by simp)
theorem miss_lt {f : FL} {set s : Nat} (hs : s < 8) (h1 : (allBits f).testBit s = true) (h2 : set.testBit s = false) : miss f (set ||| 1 <<< s) < miss f set := by
  unfold miss
  refine filter_lt (fun x _ h => ?_) ⟨s, List.mem_range.2 hs, by rw [h1, h2]; rfl, by rw [testBit_with]; simp⟩
  rw [testBit_with] at h
  simp only [Bool.and_eq_true, Bool.not_eq_true', Bool.or_eq_false_iff] at h ⊢
  exact ⟨h.1, h.2.1⟩
theorem all_lt {f : FL} (hr : Rg f) : allBits f < 256 := by
  unfold allBits
  have key : ∀ (l : List Nat) (a : Nat), (∀ i ∈ l, run f i < 8) → a < 256 → l.foldl (fun a i => a ||| 1 <<< run f i) a < 256 := by
    intro l
    induction l with
    | nil => intro a _ ha; exact ha
    | cons i l ih =>
      intro a h ha
      rw [List.foldl_cons]
      exact ih _ (fun j hj => h j (List.mem_cons_of_mem _ hj)) (bit_or ha (h i (List.mem_cons_self ..))).2
  refine key _ 0 (fun i hi => ?_) (by decide)
  have := (run_lt hr (List.mem_range.1 hi)).1
  have := hr.old8
  omega
theorem bit_lt {n s : Nat} (h : n < 256) (hb : n.testBit s = true) : s < 8 := by
  rcases Nat.lt_or_ge s 8 with h1 | h1
  · exact h1
  · have : n < 2 ^ s := Nat.lt_of_lt_of_le h (Nat.pow_le_pow_right (n := 2) (by decide) h1)
    rw [Nat.testBit_lt_two_pow this] at hb; cases hb
theorem mayNext_parts {f : FL} {quota : Int} {set s : Nat} (h : mayNext f quota set s = true) : (allBits f).testBit s = true ∧ set.testBit s = false := by
  unfold mayNext at h
  simp only [Bool.and_eq_true, Bool.not_eq_true'] at h
  exact ⟨h.1.1.1, h.1.1.2⟩
theorem restP_enough {f : FL} (hr : Rg f) (quota : Int) : ∀ n set, miss f set < n → restP f quota (n + 1) set = restP f quota n set
  | 0, set, h => absurd h (Nat.not_lt_zero _)
  | n + 1, set, h => by
    conv => lhs; unfold restP
    conv => rhs; unfold restP
    by_cases he : set = allBits f
    · rw [if_pos he, if_pos he]
    · rw [if_neg he, if_neg he]
      congr 1
      funext s
      by_cases hm : mayNext f quota set s = true
      · rw [if_pos hm, if_pos hm]
        obtain ⟨h1, h2⟩ := mayNext_parts hm
        have := miss_lt (bit_lt (all_lt hr) h1) h1 h2
        rw [restP_enough hr quota n (set ||| 1 <<< s) (by omega)]
      · rw [if_neg hm, if_neg hm]
def restR (f : FL) (quota : Int) (set : Nat) : Option (List Nat) := restP f quota 9 set
theorem restR_eq {f : FL} (hr : Rg f) (quota : Int) (set : Nat) : restR f quota set = if set = allBits f then some [] else (List.range f.old.length).findSome? fun s => if mayNext f quota set s = true then (restR f quota (set ||| 1 <<< s)).map (s :: ·) else none := by
  unfold restR
  conv => lhs; unfold restP
  by_cases he : set = allBits f
  · rw [if_pos he, if_pos he]
  · rw [if_neg he, if_neg he]
    congr 1
    funext s
    by_cases hm : mayNext f quota set s = true
    · rw [if_pos hm, if_pos hm]
      obtain ⟨h1, h2⟩ := mayNext_parts hm
      have := miss_lt (bit_lt (all_lt hr) h1) h1 h2
      have h9 := miss_le f set
      rw [restP_enough hr quota 8 (set ||| 1 <<< s) (by omega)]
    · rw [if_neg hm, if_neg hm]
def nextR (f : FL) (quota : Int) (set s : Nat) : Option (List Nat) := if mayNext f quota set s = true then (restR f quota (set ||| 1 <<< s)).map (s :: ·) else none
theorem restR_hit {f : FL} (hr : Rg f) {quota : Int} {set s : Nat} (he : set ≠ allBits f) (hs : s < f.old.length) (hno : ∀ j, j < s → nextR f quota set j = none) {l : List Nat} (hm : mayNext f quota set s = true) (h : restR f quota (set ||| 1 <<< s) = some l) : restR f quota set = some (s :: l) := by
  rw [restR_eq hr, if_neg he]
  exact findSome_range (g := nextR f quota set) hs (by unfold nextR; rw [if_pos hm, h]; rfl) hno
theorem restR_none {f : FL} (hr : Rg f) {quota : Int} {set : Nat} (he : set ≠ allBits f) (hno : ∀ j, j < f.old.length → nextR f quota set j = none) : restR f quota set = none := by
  rw [restR_eq hr, if_neg he]
  exact List.findSome?_eq_none_iff.2 fun j hj => hno j (List.mem_range.1 hj)
end Wv
/-- The sets from which there is no way on. -/
def DeadM (w : World) (db : Nat) (G : Nat → Prop) : Prop := ∃ l : List (Value × Value), MapL Tryz.prog 3 w db l ∧ ∀ p ∈ l, ∃ k : Nat, p = (.int .i64 (k : Int), .bool true) ∧ G k
theorem DeadM.look {w : World} {db : Nat} {G : Nat → Prop} (h : DeadM w db G) {set : Nat} (hs : set < 256) : ∃ b, (Instr.lookup 72 (.map (some db)) (.int .i64 (set : Int)) false).run Tryz.prog w = .ok (.bool b) w ∧ (b = true → G set) := by
  obtain ⟨l, hl, hG⟩ := h
  have hz : (zeroValue 4).run Tryz.prog w = .ok (.bool false) w := by kernel_rfl
  rcases hl.look (t := 72) (e := 4) intKeyedW Tryz.underlying72 hz (int_keyW (n := (set : Int)) (by unfold I64; omega)) with ⟨v, hm, hrun⟩ | ⟨hno, hrun⟩
  · obtain ⟨k, e, hk⟩ := hG _ hm
    obtain ⟨e1, e2⟩ := Prod.mk.inj e
    have e3 : (set : Int) = (k : Int) := (Value.int.inj e1).2
    obtain rfl : set = k := by omega
    subst e2
    have := hrun false
    rw [if_neg (by simp)] at this
    exact ⟨true, this, fun _ => hk⟩
  · have := hrun false
    rw [if_neg (by simp)] at this
    exact ⟨false, this, fun e => by cases e⟩
theorem DeadM.store {w : World} {db : Nat} {G : Nat → Prop} (h : DeadM w db G) (hg : nG ≤ db) {set : Nat} (hs : set < 256) (hk : G set) :
    ∃ w', (Instr.mapUpdate 72 (.map (some db)) (.int .i64 (set : Int)) (.bool true)).run Tryz.prog w = .ok () w' ∧ DeadM w' db G ∧ Upd (· = db) w w' := by
  obtain ⟨l, hl, hG⟩ := h
  obtain ⟨w', l', h1, h2, h3, h4⟩ := hl.put (t := 72) (e := 4) intKeyedW Tryz.underlying72 hg (int_keyW (n := (set : Int)) (by unfold I64; omega)) (.bool true)
  refine ⟨w', h1, ⟨l', h2, fun p hp => ?_⟩, h4⟩
  rcases (h3 p).1 hp with ⟨h5, _⟩ | rfl
  · exact hG p h5
  · exact ⟨set, rfl, hk⟩
theorem DeadM.upd {S : Nat → Prop} {w w' : World} {db : Nat} {G : Nat → Prop} (h : DeadM w db G) (u : Upd S w w') (hn : ¬ S db) : DeadM w' db G := by
  obtain ⟨l, hl, hG⟩ := h
  exact ⟨l, hl.upd u hn, hG⟩
theorem bit_set64 : ∀ (set : Fin 256) (s : Fin 8), bits .or .i64 ((set.val : Nat) : Int) (wrap64 (2 ^ s.val)) = ((set.val ||| 1 <<< s.val : Nat) : Int) := by decide +kernel
theorem bit_or64 {set s : Nat} (h : set < 256) (hs : s < 8) : bits .or .i64 (set : Int) (wrap64 (2 ^ s)) = ((set ||| 1 <<< s : Nat) : Int) := bit_set64 ⟨set, h⟩ ⟨s, hs⟩
theorem own_one (w : World) (e : TypeId) (v : Value) : (w.alloc (.cells #[v] e)).ownsRow w.heap.size e 1 (.slice (some ⟨w.heap.size, 0, none⟩) 1 1) 1 [v] :=
  ⟨by simp, Or.inr ⟨w.heap.size, 1, #[v], rfl, Nat.le_refl _, heap_new w _, Nat.le_refl _, by unfold maxLen; decide, by simp, by simp⟩⟩
theorem rest_results (tmps : Array Value) (w : World) : (results Tryz.f39 tmps).run Tryz.prog w = .ok (.tuple #[tmps.getD 4 undef, tmps.getD 5 undef]) w := by
  simp [results, Tryz.results39, go_sem]
def natV (n : Nat) : Value := .int .i64 (n : Int)
def RestD (w : World) (db : Nat) (f : FL) (quota : Int) (set : Nat) (e : Ending) (w' : World) : Prop :=
  ∃ v', e = .returned (.tuple #[v', .bool (Wv.restR f quota set).isSome]) ∧ Hid (w'.ownsRow w.heap.size 3 1 v' ((Wv.restR f quota set).getD []).length (((Wv.restR f quota set).getD []).map natV) ∧ DeadM w' db (fun k => Wv.restR f quota k = none) ∧ Upd (fun k => k = db) w w' ∧ ((Wv.restR f quota set).getD []).length ≤ Wv.miss f set)
set_option maxHeartbeats 16000000 in
set_option maxRecDepth 100000 in
theorem rest_c (W : World) (pb tb : Nat) (T : Nat → Bool) (oa na ra ha : Option Addr) (oc nc rc hl hc db : Nat) (quota : Int) (f : FL) (hgb : nG ≤ W.heap.size) (h : FlAt W oa na ra oc nc f) (hr : Wv.Rg f) (hok : TabOk f T) (hdb : W.heap.size ≤ db) (hpd : pb ≠ db) (htd : tb ≠ db) :
    ∀ (n set : Nat) (w : World), Wv.miss f set < n → set < 256 → Nw W w → PlAt w pb oa na ra oc nc rc tb quota ha hl hc db (Wv.allBits f) f → TabAt w tb T → DeadM w db (fun k => Wv.restR f quota k = none) →
    Calls Tryz.prog 39 #[.pointer (some ⟨pb, 0, none⟩), .int .i64 (set : Int)] w (RestD w db f quota set) := by
  intro n
  induction n with
  | zero => intro set w hm; exact absurd hm (Nat.not_lt_zero _)
  | succ n ih =>
    intro set w hm hset hN hp hT hD
    have HP := Lib.hid hp
    have HT := Lib.hid hT
    have HDM := Lib.hid hD
    have HN := Lib.hid hN
    have HNW : Hid (∀ y, Upd (fun k => k = db) w y → Nw W y) := fun y u => hN.trans' u (S := fun _ => False) (fun k (hk : k < W.heap.size) (e : k = db) => by show False; omega)
    have HST : Hid (∀ y set' part, Upd (fun k => k = db) w y → set' < 256 → Calls Tryz.prog 38 #[.pointer (some ⟨pb, 0, none⟩), .int .i64 ((set' : Nat) : Int), .int .i64 part] y fun e w' => e = .returned (.bool (Wv.talksP f quota set' part)) ∧ Nw y w') := fun y set' part u hs => state_c pb tb T oa na ra ha oc nc rc hl hc db (Wv.allBits f) quota f set' part y (Nat.le_trans hgb (HNW.out y u).size) (hp.upd u hpd) (h.nw (HNW.out y u)) hr (hT.upd u htd) hok hs
    have HIH : Hid (∀ y set', Upd (fun k => k = db) w y → Wv.miss f set' < n → set' < 256 → DeadM y db (fun k => Wv.restR f quota k = none) → Calls Tryz.prog 39 #[.pointer (some ⟨pb, 0, none⟩), .int .i64 ((set' : Nat) : Int)] y (RestD y db f quota set')) := fun y set' u hm' hs hd => ih set' y hm' hs (HNW.out y u) (hp.upd u hpd) (hT.upd u htd) hd
    have HC : Hid (∀ y, Upd (fun k => k = db) w y → PlC y pb oa na ra oc nc rc tb quota ha hl hc db (Wv.allBits f) f) := fun y u => (hp.upd u hpd).cs
    have HR := Lib.hid hr
    have h8 := hr.old8
    have h81 : (f.old.length : Int) ≤ 8 := by omega
    have hall := Wv.all_lt hr
    have HALL := Lib.hid hall
    have hall1 : ((Wv.allBits f : Nat) : Int) < 256 := by omega
    have hset1 : (set : Int) < 256 := by omega
    have HGD : Hid (nG ≤ db) := Nat.le_trans hgb hdb
    have HM : Hid (Wv.miss f set < n + 1) := hm
    have HGW : Hid (nG ≤ w.heap.size) := Nat.le_trans hgb hN.size
    obtain ⟨c0, c1, c2, c3, c4, c5, c6, c7⟩ := HC.out w (Upd.refl _ _)
    clear h hr hok hp hT hD hN hm ih hgb hall
    by_cases hea : set = Wv.allBits f
    · have hea1 : ((set : Int) == ((Wv.allBits f : Nat) : Int)) = true := by rw [← hea]; simp
      have e9 : Hid (Wv.restR f quota set = some []) := by show _ = _; rw [Wv.restR_eq HR.out, if_pos hea]
      clear hea
      go_enter Tryz.func39, Tryz.ntmps39
      go_wp2_with fail
      refine bodyPost_ret (rest_results _ _) rfl ?_
      refine ⟨.slice none 0 0, by rw [e9.out]; rfl, ?_⟩
      rw [e9.out]
      exact ⟨World.ownsRow_nil _ _ _ _, HDM.out, Upd.refl _ _, Nat.zero_le _⟩
    have hea1 : ((set : Int) == ((Wv.allBits f : Nat) : Int)) = false := by
      simp only [beq_eq_false_iff_ne]; omega
    obtain ⟨db0, hlk, hdead⟩ := HDM.out.look hset
    have HLK := Lib.hid hlk
    have HEA := Lib.hid hea
    clear hlk hea
    cases db0 with
    | true =>
      have e9 : Hid (Wv.restR f quota set = none) := hdead rfl
      clear hdead
      go_enter Tryz.func39, Tryz.ntmps39
      go_wp2_with (at_lookup; go_loud (refine wpList_lookW _ _ 72 false rfl (by simp [Region.wanted, yielded] <;> omega) _ _ _ rfl rfl HLK.out ?_))
      refine bodyPost_ret (rest_results _ _) rfl ?_
      refine ⟨.slice none 0 0, by rw [e9.out]; rfl, ?_⟩
      rw [e9.out]
      exact ⟨World.ownsRow_nil _ _ _ _, HDM.out, Upd.refl _ _, Nat.zero_le _⟩
    | false =>
    clear hdead
    go_enter Tryz.func39, Tryz.ntmps39
    go_wp2_with (at_lookup; go_loud (refine wpList_lookW _ _ 72 false rfl (by simp [Region.wanted, yielded] <;> omega) _ _ _ rfl rfl HLK.out ?_))
    clear c0 c1 c2 c3 c4 c5 c6 c7
    go_loopw [27] (fun iv wr => ∃ m : Nat, m ≤ f.old.length ∧ iv = .int .i64 (m : Int) ∧ Hid (∀ j, j < m → Wv.nextR f quota set j = none) ∧ Hid (DeadM wr db (fun k => Wv.restR f quota k = none)) ∧ Hid (Upd (fun k => k = db) w wr)) (fun iv _ => f.old.length - (intOf iv).toNat)
    case atStart => exact ⟨0, Nat.zero_le _, rfl, fun j hj => by omega, HDM.out, Upd.refl _ _⟩
    case round =>
      obtain ⟨m, hm, rfl, HNO, HDW, HU⟩ := hrel
      obtain ⟨c0, c1, c2, c3, c4, c5, c6, c7⟩ := HC.out wr HU.out
      by_cases hlt : m < f.old.length
      · have hlt1 : (m : Int) < f.old.length := by omega
        have hm8 : m < 8 := by omega
        have hm9 : (m : Int) < 8 := by omega
        have hm0 : decide ((m : Int) < 0) = false := decide_eq_false (by omega)
        have hb1 : (bits .and .i64 (((Wv.allBits f : Nat) : Int) / 2 ^ m) 1 == 0) = !(Wv.allBits f).testBit m := by rw [bit_and HALL.out hm8]; cases (Wv.allBits f).testBit m <;> rfl
        have hb2 : (bits .and .i64 ((set : Int) / 2 ^ m) 1 == 1) = set.testBit m := by rw [bit_and hset hm8]; cases set.testBit m <;> rfl
        have HNX : Hid (Wv.nextR f quota set m = none → ∀ j, j < m + 1 → Wv.nextR f quota set j = none) := fun e j hj => by
          by_cases ej : j = m
          · subst ej; exact e
          · exact HNO.out j (by omega)
        have HMN : Hid (Wv.mayNext f quota set m = ((Wv.allBits f).testBit m && !set.testBit m && Wv.talksP f quota set m && Wv.talksP f quota (set ||| 1 <<< m) (-1))) := rfl
        have HNR : Hid (Wv.mayNext f quota set m = false → Wv.nextR f quota set m = none) := fun e => by unfold Wv.nextR; rw [if_neg (by rw [e]; simp)]
        cases ht1 : (Wv.allBits f).testBit m with
        | false =>
          rw [ht1] at hb1 HMN
          have HN2 := Lib.hid (HNX.out (HNR.out (by rw [HMN.out]; rfl)))
          clear ht1 HMN HNR HNX hb2
          go_wp2_with fail
          go_roundw
          case rel => exact ⟨m + 1, by omega, by go_num, HN2.out, HDW, HU⟩
          case measure => simp [intOf]; omega
        | true =>
        rw [ht1] at hb1 HMN
        cases ht2 : set.testBit m with
        | true =>
          rw [ht2] at hb2 HMN
          have HN2 := Lib.hid (HNX.out (HNR.out (by rw [HMN.out]; rfl)))
          clear ht1 ht2 HMN HNR HNX
          go_wp2_with fail
          go_roundw
          case rel => exact ⟨m + 1, by omega, by go_num, HN2.out, HDW, HU⟩
          case measure => simp [intOf]; omega
        | false =>
        rw [ht2] at hb2 HMN
        have hor := bit_or hset hm8
        have HML := Lib.hid (Wv.miss_lt hm8 ht1 ht2)
        have hst1 := Lib.hid (HST.out wr set (m : Int) HU.out hset)
        clear ht1 ht2
        cases hk1 : Wv.talksP f quota set (m : Int) with
        | false =>
          rw [hk1] at hst1 HMN
          have HN2 := Lib.hid (HNX.out (HNR.out (by rw [HMN.out]; rfl)))
          clear hk1 HMN HNR HNX
          go_wp2_with fail
          (with_reducible refine (hst1.out).mono ?_)
          rintro _ w2 ⟨rfl, u2⟩
          have HU2 := Lib.hid (HU.out.nw u2)
          have HD2 := Lib.hid (HDW.out.upd u2 (fun e => e))
          clear u2
          go_wp2_with fail
          go_roundw
          case rel => exact ⟨m + 1, by omega, by go_num, HN2.out, HD2.out, HU2.out⟩
          case measure => simp [intOf]; omega
        | true =>
        rw [hk1] at hst1 HMN
        clear hk1
        go_wp2_with fail
        (with_reducible refine (hst1.out).mono ?_)
        rintro _ w2 ⟨rfl, u2⟩
        have HU2 := Lib.hid (HU.out.nw u2)
        have HD2 := Lib.hid (HDW.out.upd u2 (fun e => e))
        have hst2 := Lib.hid (HST.out w2 (set ||| 1 <<< m) (-1) HU2.out hor.2)
        clear u2
        have hor1 := bit_or64 hset hm8
        clear hst1
        cases hk2 : Wv.talksP f quota (set ||| 1 <<< m) (-1) with
        | false =>
          rw [hk2] at hst2 HMN
          have HN2 := Lib.hid (HNX.out (HNR.out (by rw [HMN.out]; rfl)))
          clear hk2 HMN HNR HNX hor
          go_wp2_with fail
          (with_reducible refine (hst2.out).mono ?_)
          rintro _ w3 ⟨rfl, u3⟩
          have HU3 := Lib.hid (HU2.out.nw u3)
          have HD3 := Lib.hid (HD2.out.upd u3 (fun e => e))
          clear u3
          go_wp2_with fail
          go_roundw
          case rel => exact ⟨m + 1, by omega, by go_num, HN2.out, HD3.out, HU3.out⟩
          case measure => simp [intOf]; omega
        | true =>
        rw [hk2] at hst2 HMN
        have HMT : Hid (Wv.mayNext f quota set m = true) := by show _ = _; rw [HMN.out]; rfl
        clear hk2 HMN HNR
        go_wp2_with fail
        (with_reducible refine (hst2.out).mono ?_)
        rintro _ w3 ⟨rfl, u3⟩
        have HU3 := Lib.hid (HU2.out.nw u3)
        have HD3 := Lib.hid (HD2.out.upd u3 (fun e => e))
        have hrc := Lib.hid (HIH.out w3 (set ||| 1 <<< m) HU3.out (by have := HML.out; have := HM.out; omega) hor.2 HD3.out)
        clear u3 hst2 hor c0 c1 c2 c3 c4 c5 c6 c7
        unfold RestD at hrc
        cases hrr : Wv.restR f quota (set ||| 1 <<< m) with
        | none =>
          rw [hrr] at hrc
          simp only [Option.getD_none, Option.isSome_none] at hrc
          have HN2 := Lib.hid (HNX.out (by unfold Wv.nextR; rw [if_pos HMT.out, hrr]; rfl))
          clear hrr HNX
          go_wp2_with fail
          (with_reducible refine (hrc.out).mono ?_)
          rintro _ w4 ⟨v4, rfl, H4⟩
          obtain ⟨a4, c4, rfl⟩ := own_slW H4.out.1
          have HU4 := Lib.hid (HU3.out.trans H4.out.2.2.1)
          go_wp2_with fail
          go_roundw
          case rel => exact ⟨m + 1, by omega, by go_num, HN2.out, H4.out.2.1, HU4.out⟩
          case measure => simp [intOf]; omega
        | some l =>
          rw [hrr] at hrc
          simp only [Option.getD_some, Option.isSome_some] at hrc
          have e9 : Hid (Wv.restR f quota set = some (m :: l)) := Wv.restR_hit HR.out HEA.out hlt HNO.out HMT.out hrr
          clear hrr HNX
          go_wp2_with fail
          (with_reducible refine (hrc.out).mono ?_)
          rintro _ w4 ⟨v4, rfl, H4⟩
          obtain ⟨a4, c4, rfl⟩ := own_slW H4.out.1
          have HU4 := Lib.hid (HU3.out.trans H4.out.2.2.1)
          have hl8 : Hid (l.length ≤ Wv.miss f (set ||| 1 <<< m) ∧ Wv.miss f (set ||| 1 <<< m) < Wv.miss f set ∧ Wv.miss f set ≤ 8) := ⟨H4.out.2.2.2, HML.out, Wv.miss_le f set⟩
          have o1 := own_one w4 3 (.int .i64 (m : Int))
          have Hn := Lib.hid ((Sl.of_owns H4.out.1).nw (nw_alloc w4 (.cells #[.int .i64 (m : Int)] 3)))
          go_wp2_with (at_builtin; refine wpList_catW rfl _ _ 23 rfl w4.heap.size w3.heap.size w4.heap.size 3 _ 8 Tryz.underlying23 infoIntW rfl _ _ _ _ _ rfl o1 rfl Hn.out ?c1 ?c2 ?c3 ?c4 ?_)
          case c1 =>
            intro u hu
            obtain ⟨x, _, rfl⟩ := List.mem_map.1 hu
            rfl
          case c2 => have := hl8.out; unfold maxLen; rw [List.length_map]; omega
          case c3 => have := hl8.out; rw [List.length_map]; omega
          case c4 => simp
          intro v' w6 hown hgrow hob
          have hw4 : w.heap.size ≤ w4.heap.size := HU4.out.size
          have U6 : Upd (fun k => k = db) w w6 := (HU4.out.nw (nw_alloc w4 (.cells #[.int .i64 (m : Int)] 3))).grown hgrow (fun k hk => ⟨Or.inr (by have := (hob k hk).1; omega), by have := (hob k hk).1; have := HGW.out; omega⟩)
          have HD6 : DeadM w6 db (fun k => Wv.restR f quota k = none) := by
            have n6 : Nw w4 w6 := (nw_alloc w4 (.cells #[.int .i64 (m : Int)] 3)).grown hgrow (fun k hk => ⟨Or.inr (hob k hk).1, by have := (hob k hk).1; have := HGW.out; omega⟩)
            exact H4.out.2.1.upd n6 (fun e => e)
          have hlen : 1 + (l.map natV).length = (m :: l).length := by rw [List.length_map, List.length_cons]; omega
          have hown2 : w6.ownsRow w.heap.size 3 1 v' (m :: l).length ((m :: l).map natV) := by
            have := owns_base hown hw4
            have e : 1 + l.length = (m :: l).length := by rw [List.length_cons]; omega
            rw [e] at this
            exact this
          have HO6 := Lib.hid hown2
          have HU6 := Lib.hid U6
          have HD6' := Lib.hid HD6
          obtain ⟨a6, c6', rfl⟩ := own_slW hown2
          clear hown hgrow hob U6 HD6 hown2 o1
          go_wp2_with fail
          refine bodyPost_ret (rest_results _ _) rfl ?_
          refine ⟨.slice a6 (m :: l).length c6', by rw [e9.out]; rfl, ?_⟩
          rw [e9.out]
          exact ⟨HO6.out, HD6'.out, HU6.out, by show (m :: l).length ≤ _; rw [List.length_cons]; have := hl8.out; omega⟩
      · obtain rfl : m = f.old.length := by omega
        have e9 : Hid (Wv.restR f quota set = none) := Wv.restR_none HR.out HEA.out HNO.out
        obtain ⟨w9, hst, hd9, u9⟩ := HDW.out.store HGD.out hset e9.out
        have HST9 := Lib.hid hst
        have HU9 := Lib.hid (HU.out.trans u9)
        have HD9 := Lib.hid hd9
        have hlt1 : ¬ ((f.old.length : Nat) : Int) < f.old.length := by omega
        clear hst u9 hd9 HNO
        go_wp2_with (at_mapUpdate; refine wpList_storeL rfl _ _ _ 72 rfl _ _ _ rfl rfl rfl HST9.out ?_)
        refine bodyPost_ret (rest_results _ _) rfl ?_
        refine ⟨.slice none 0 0, by rw [e9.out]; rfl, ?_⟩
        rw [e9.out]
        exact ⟨World.ownsRow_nil _ _ _ _, HD9.out, HU9.out, Nat.zero_le _⟩
end Go.Proofs.YtjlgmoemnhmgmaaGreatDoor
