/- A range over a function whose iterator writes a block of its own (bt) and reads others (S) between two rounds: its contract, and the statement's law, at the wide fence. chunk.parts as an iterator. chunk.Of. small and cut of chapter 38; Ints. within. -/
import Derived.Test.YtagmlemlagbfkaaGreatDoorPkFSurv0
import Derived.RangeFuncKeeps
import Derived.Test.YtagmlemlagbfkaaGreatDoorPkFSurv2
import Derived.RangeFuncNested
import Derived.RangeFuncBound
import Derived.RangeFuncCalls
import Derived.RangeFuncLeaves
import Derived.Shelf.Abstract
import Derived.Shelf.RegionOpen
import Derived.WalkKit
import Derived.OwnWalkIn
import Derived.TacticsInMore
import Derived.LoopNIn
import Derived.LoopIn
import Derived.Maps.OwnIn
import Derived.Test.YtagmlemlagbfkaaGreatDoorPkFSurv12
import Derived.Test.YtagmlemlagbfkaaGreatDoorPkFSurv13
namespace Go.Proofs.YtagmlemlagbfkaaGreatDoor
open Go.RowKit

theorem upd_putObj (W : World) (l : Nat) (o : Obj) : nG ≤ l → Upd (fun k => k = l) W (W.putObj l o) := fun hg =>
  ⟨rfl, rfl, rfl, by simp, fun k _ hn => World.putObj_heap_other (by rintro rfl; rcases hn with h | h <;> first | omega | exact h rfl)⟩

/-- The iterator: it yields xs one by one, turning block bt alone between two rounds. -/
def SeqB {α : Type} (P : Program) (gf : Nat) (lb : Array Value) (encs : α → Array Value) (bt : Nat) (S : Nat → Prop) (xs : List α) (w : World) : Prop :=
  ∀ (l : Nat) (J Jx : List α → World → Prop) (W : World), Nw w W →
    (∀ s A B, J s A → Upd (fun k => k = bt) A B → J s B) → (∀ s A B, Jx s A → Upd (fun k => k = bt) A B → Jx s B) →
    (∀ pre x rest W1, xs = pre ++ x :: rest → J pre W1 → YieldAt Fence.wide 0 P l (encs x) W1 fun e W' =>
      (e = .returned (.bool true) ∧ J (pre ++ [x]) W' ∧ ∀ b, S b → W'.heap[b]? = W1.heap[b]?) ∨ (e = .returned (.bool false) ∧ Jx (pre ++ [x]) W')) →
    J [] W →
    Calls P gf (#[.func (.yield l) #[] #[]] ++ lb) W fun e W' => (∃ v, e = .returned v) ∧ (J xs W' ∨ ∃ pre, Jx pre W')

/-- How a round's body may be left: the loop's own blocks lie as they lay, and the iterator's where it goes on. -/
def postB {α : Type} (n : Nat) (S : Nat → Prop) (I : List α → World → Prop) (Ix : Code → List α → World → Prop) (xs : List α) (W : World) : Exit → Act → World → Prop
  | .normal, _, W' => (∀ k o, n ≤ k → W.heap[k]? = some o → o.isCells = false → W'.heap[k]? = some o) ∧ (∀ b, S b → W'.heap[b]? = W.heap[b]?) ∧ I xs W'
  | .ret, _, W' => (∀ k o, n ≤ k → W.heap[k]? = some o → o.isCells = false → W'.heap[k]? = some o) ∧ Ix .ret xs W'
  | .exit id, _, W' => (∀ k o, n ≤ k → W.heap[k]? = some o → o.isCells = false → W'.heap[k]? = some o) ∧ Ix (.exit id) xs W'
  | .goto t, _, W' => (∀ k o, n ≤ k → W.heap[k]? = some o → o.isCells = false → W'.heap[k]? = some o) ∧ Ix (.goto t) xs W'
  | .panic _, _, _ => False
  | .outgrown, _, _ => False

/-- What a caller's word abides: a turn of the iterator's block, or of one that holds no cells and was laid since. -/
def Bears {α : Type} (n bt : Nat) (I : List α → World → Prop) : Prop :=
  ∀ s A B b, I s A → Upd (fun k => k = b) A B → (b = bt ∨ n ≤ b ∧ ∃ o, A.heap[b]? = some o ∧ o.isCells = false) → I s B

set_option maxHeartbeats 1000000 in
theorem wp_rangeFuncB {α : Type} {P : Program} {g : Operand} {ps : Array Tmp} {assign body : Code} {Q : Exit → Act → World → Prop} {a : Act} {w : World}
    {gf : Nat} {lb : Array Value} (hg : a.eval g = .func (.func gf) #[] lb) (eg : ∀ args w, (callFunc gf args).run P w = .ok (.enter gf args) w)
    {encs : α → Array Value} {bt : Nat} {S : Nat → Prop} {xs : List α} (hseq : SeqB P gf lb encs bt S xs w) (hbig : nG ≤ w.heap.size) (hbt : bt < w.heap.size) (hS : ∀ b, S b → b < w.heap.size) (hps : ∀ x, (encs x).size = ps.size)
    (I : List α → World → Prop) (Ix : Code → List α → World → Prop) (hI : Bears w.heap.size bt I) (hIx : ∀ c, Bears w.heap.size bt (Ix c)) (h0 : I [] w) (a₁ : α → Act)
    (hassign : ∀ (l : Nat) (x : α) (W : World) (K : Act → World → Prop), K (a₁ x) W →
      assign.wpIn (Fence.wide.inRound l) 0 P (Exit.then K (fun _ _ _ => False)) { tmps := (ps.zip (encs x)).foldl (fun t (p, v) => t.setIfInBounds p v) a.tmps, defers := [] } W)
    (hbody : ∀ (l : Nat) (pre : List α) (x : α) (rest : List α) (W : World), xs = pre ++ x :: rest → I pre W → body.wpIn (Fence.wide.inRound l) 0 P (postB w.heap.size S I Ix (pre ++ [x]) W) (a₁ x) W)
    (hdone : ∀ (D : Nat) (W : World), w.heap.size ≤ D → I xs W → W.heap[D]? = some (.deferred (some [])) → Q .normal { a with defers := { target := .collected D, args := #[] } :: a.defers } W)
    (hstop : ∀ (D : Nat) (c : Code) (pre : List α) (W : World), w.heap.size ≤ D → Ix c pre W → W.heap[D]? = some (.deferred (some [])) → c.wp P Q { a with defers := { target := .collected D, args := #[] } :: a.defers } W) :
    (Code.rangeFunc g ps assign body).wp P Q a w := by
  refine (wpIn_wide (n := 0)).1 (wpIn_rangeFunc ?_)
  intro fn hfn
  obtain ⟨rec, hrec⟩ : ∃ rec : LoopState → Option Code → Loop, rec = fun st pe => { state := st, pending := pe, fn, tmps := a.tmps, params := ps, assign, body, defers := w.heap.size } := ⟨_, rfl⟩
  obtain ⟨W1, hW1⟩ : ∃ W1, (w.alloc (.deferred (some []))).alloc (.loop (rec .ready none)) = W1 := ⟨_, rfl⟩
  have hL1 : W1.heap[w.heap.size + 1]? = some (.loop (rec .ready none)) := by
    rw [← hW1]; have := World.alloc_heap_new (w.alloc (.deferred (some []))) (.loop (rec .ready none)); rwa [World.size_alloc] at this
  have hK1 : W1.heap[w.heap.size]? = some (.deferred (some [])) := by
    rw [← hW1]; exact (heap_alloc _ _ _ (by simp)).trans (World.alloc_heap_new w _)
  have hu1 : ∀ T : Nat → Prop, Upd T w W1 := fun T => by rw [← hW1]; exact ((Upd.refl T w).alloc _).alloc _
  have hI1 : I [] W1 := hI _ _ _ bt h0 (hu1 _) (Or.inl rfl)
  refine ⟨w.heap.size + 1, [{ target := .collected w.heap.size, args := #[] }], W1, { target := .fn (.func gf) lb, args := #[.func (.yield (w.heap.size + 1)) #[] #[]] }, W1, gf,
    #[.func (.yield (w.heap.size + 1)) #[] #[]] ++ lb, W1, ?_, ?_, fun _ _ => trivial, ?_, fun h => (by cases h), ?_⟩
  · rw [← hW1, hrec]; exact run_enterLoop_outer _ _ _ _ _
  · simp only [resolve, hg]
    simp [go_sem]
  · simp [invoke, go_sem, eg]
  refine callsIn_wide.2 ?_
  have turn : ∀ {c : List α → World → Prop} (_ : Bears w.heap.size bt c) (s : List α) (A : World) (k : Nat) (o o' : Obj), c s A → w.heap.size ≤ k → A.heap[k]? = some o → o.isCells = false → c s (A.putObj k o') :=
    fun {c} hc s A k o o' hs hk ho hn => hc s A _ k hs (upd_putObj A k o' (by omega)) (Or.inr ⟨hk, o, ho, hn⟩)
  refine (hseq (w.heap.size + 1)
    (fun pre W => I pre W ∧ W.heap[w.heap.size + 1]? = some (.loop (rec .ready none)) ∧ W.heap[w.heap.size]? = some (.deferred (some [])))
    (fun pre W => ∃ c, Ix c pre W ∧ W.heap[w.heap.size + 1]? = some (.loop (rec .done (some c))) ∧ W.heap[w.heap.size]? = some (.deferred (some [])))
    W1 (hu1 _)
    (fun s A B hs u => ⟨hI s A B bt hs.1 u (Or.inl rfl), u.keep hs.2.1 (by omega), u.keep hs.2.2 (by omega)⟩)
    (fun s A B hs u => by
      obtain ⟨c, hc, hl, hk⟩ := hs
      exact ⟨c, hIx c s A B bt hc u (Or.inl rfl), u.keep hl (by omega), u.keep hk (by omega)⟩)
    ?_ ⟨hI1, hL1, hK1⟩).mono ?_
  · rintro pre x rest W hxs ⟨hi, hl, hk⟩
    have hlt : w.heap.size + 1 < W.heap.size := (Array.getElem?_eq_some_iff.1 hl).1
    have hy := run_yield (P := P) (args := encs x) hl (by rw [hrec]; exact hps x)
    rw [hrec] at hy
    refine ⟨fn, _, assign, body, hy, roundIn_of_wpIn hfn (hassign _ x W _ ⟨_, run_beginRound hl (by rw [hrec]), ?_⟩)⟩
    have hl2 : (W.putObj (w.heap.size + 1) (.loop { rec .ready none with state := .busy })).heap[w.heap.size + 1]? = some (.loop { rec .ready none with state := .busy }) := World.putObj_heap_same hlt
    have hk2 : (W.putObj (w.heap.size + 1) (.loop { rec .ready none with state := .busy })).heap[w.heap.size]? = some (.deferred (some [])) := (World.putObj_heap_other (by omega)).trans hk
    refine wpIn_mono (hbody _ pre x rest _ hxs (turn hI _ _ _ _ _ hi (by omega) hl rfl)) ?_
    have fin : ∀ (jump : Option Code) (W3 : World), (∀ k o, w.heap.size ≤ k → (W.putObj (w.heap.size + 1) (.loop { rec .ready none with state := .busy })).heap[k]? = some o → o.isCells = false → W3.heap[k]? = some o) →
        (Instr.endRound (w.heap.size + 1) jump).run P W3 = .ok (.bool jump.isNone) (W3.putObj (w.heap.size + 1) (.loop (rec (if jump.isNone then .ready else .done) jump))) ∧
        W3.heap[w.heap.size + 1]? = some (.loop { rec .ready none with state := .busy }) ∧
        (W3.putObj (w.heap.size + 1) (.loop (rec (if jump.isNone then .ready else .done) jump))).heap[w.heap.size + 1]? = some (.loop (rec (if jump.isNone then .ready else .done) jump)) ∧
        (W3.putObj (w.heap.size + 1) (.loop (rec (if jump.isNone then .ready else .done) jump))).heap[w.heap.size]? = some (.deferred (some [])) := fun jump W3 hk3 => by
      have hl3 := hk3 _ _ (by omega) hl2 rfl
      have := run_endRound (P := P) jump hl3
      rw [hrec] at this ⊢
      exact ⟨this, by rw [hrec] at hl3; exact hl3, World.putObj_heap_same (Array.getElem?_eq_some_iff.1 hl3).1, (World.putObj_heap_other (by omega)).trans (hk3 _ _ (Nat.le_refl _) hk2 rfl)⟩
    rintro e a3 W3 hp
    cases e with
    | normal =>
      obtain ⟨hk3, hs3, hi3⟩ := hp
      obtain ⟨hr, hl3, hl4, hk4⟩ := fin none W3 hk3
      refine ⟨_, _, hr, .inl ⟨rfl, ⟨turn hI _ _ _ _ _ hi3 (by omega) hl3 rfl, hl4, hk4⟩, fun b hb => ?_⟩⟩
      have := hS b hb
      exact (World.putObj_heap_other (by omega)).trans ((hs3 b hb).trans (World.putObj_heap_other (by omega)))
    | ret =>
      obtain ⟨hk3, hi3⟩ := hp
      obtain ⟨hr, hl3, hl4, hk4⟩ := fin (some .ret) W3 hk3
      exact ⟨_, _, hr, .inr ⟨rfl, .ret, turn (hIx _) _ _ _ _ _ hi3 (by omega) hl3 rfl, hl4, hk4⟩⟩
    | exit id =>
      obtain ⟨hk3, hi3⟩ := hp
      obtain ⟨hr, hl3, hl4, hk4⟩ := fin (some (.exit id)) W3 hk3
      exact ⟨_, _, hr, .inr ⟨rfl, .exit id, turn (hIx _) _ _ _ _ _ hi3 (by omega) hl3 rfl, hl4, hk4⟩⟩
    | goto t =>
      obtain ⟨hk3, hi3⟩ := hp
      obtain ⟨hr, hl3, hl4, hk4⟩ := fin (some (.goto t)) W3 hk3
      exact ⟨_, _, hr, .inr ⟨rfl, .goto t, turn (hIx _) _ _ _ _ _ hi3 (by omega) hl3 rfl, hl4, hk4⟩⟩
    | panic ch => exact hp.elim
    | outgrown => exact hp.elim
  · rintro e W2 ⟨⟨v, rfl⟩, (⟨hi, hl, hk⟩ | ⟨pre, c, hi, hl, hk⟩)⟩
    · exact ⟨none, _, by have := run_endLoop (P := P) hl (by rw [hrec]; simp); rw [hrec] at this; exact this, hdone _ _ (Nat.le_refl _) (turn hI _ _ _ _ _ hi (by omega) hl rfl) ((World.putObj_heap_other (by omega)).trans hk)⟩
    · exact ⟨some c, _, by have := run_endLoop (P := P) hl (by rw [hrec]; simp); rw [hrec] at this; exact this, (wpIn_wide (n := 0)).2 (hstop _ c pre _ (Nat.le_refl _) (turn (hIx c) _ _ _ _ _ hi (by omega) hl rfl) ((World.putObj_heap_other (by omega)).trans hk))⟩
end Go.Proofs.YtagmlemlagbfkaaGreatDoor
namespace Go.Proofs.YtagmlemlagbfkaaGreatDoor
open Go.RowKit Go.Shelf
set_option linter.unusedVariables false
set_option linter.unusedSimpArgs false
attribute [local go_sem] Oper.semAt_some

def lenAt (b : Nat) (w : World) : Nat := match w.cell? ⟨b, 0, none⟩ with
  | some (.string s) => s.data.toList.length
  | _ => 0
theorem lenAt_eq {b : Nat} {w : World} {l : List UInt8} (h : w.cell? ⟨b, 0, none⟩ = some (.string ⟨l.toArray⟩)) : lenAt b w = l.length := by
  unfold lenAt; rw [h]

theorem drop_min {α : Type} (r : List α) (k : Nat) : r.drop (min k r.length) = r.drop k := by
  by_cases h : k ≤ r.length
  · rw [Nat.min_eq_left h]
  · rw [Nat.min_eq_right (by omega), List.drop_eq_nil_of_le (Nat.le_refl _), List.drop_eq_nil_of_le (by omega)]
theorem take_min {α : Type} (r : List α) (k : Nat) : r.take (min k r.length) = r.take k := by
  by_cases h : k ≤ r.length
  · rw [Nat.min_eq_left h]
  · rw [Nat.min_eq_right (by omega), List.take_of_length_le (Nat.le_refl _), List.take_of_length_le (by omega)]

set_option maxHeartbeats 4000000 in
set_option maxRecDepth 100000 in
theorem parts1_seq (bt bs : Nat) (n : Nat) (hn : n ≤ 8) (t : List UInt8) (ht : t.length ≤ 60) (w : World) (hbt : w.heap[bt]? = some (.cells #[.string ⟨t.toArray⟩] tStrU (0, 0)))
    (hbs : w.heap[bs]? = some (.cells #[.int .i64 ((n : Int) + 1)] 3 (0, 0))) (hne : bt ≠ bs) (hg : nG ≤ bt) :
    SeqB Tryz.prog 194 #[.pointer (some ⟨bt, 0, none⟩), .pointer (some ⟨bs, 0, none⟩)] (fun x : List UInt8 => #[.string ⟨x.toArray⟩]) bt (fun b => b = bt ∨ b = bs) (Ck.parts n t) w := by
  intro l J Jx W u hJ hJx hY h0
  refine (callsIn_wide (n := 0)).1 ?_
  have e1 := Nw.keep u hbt
  have e2 := Nw.keep u hbs
  have hn1 : (n : Int) ≤ 8 := by omega
  refine callsIn_of_wp Tryz.func194 rfl trivial ?_ rfl
  simp only [Tryz.ntmps194, List.size_toArray, List.length_cons, List.length_nil, Nat.reduceAdd, Nat.reduceSub, Array.replicate_succ, Array.replicate_zero, List.push_toArray, List.append_toArray, List.nil_append, List.cons_append]
  gi_wp2
  gi_loopw [4] (fun (_ : Value) wr => ∃ (pre : List (List UInt8)) (r : List UInt8), Ck.parts n t = pre ++ Ck.parts n r ∧ r.length ≤ 60 ∧ wr.heap[bt]? = some (.cells #[.string ⟨r.toArray⟩] tStrU (0, 0)) ∧ wr.heap[bs]? = some (.cells #[.int .i64 ((n : Int) + 1)] 3 (0, 0)) ∧ J pre wr)
    (fun (_ : Value) wr => lenAt bt wr)
  case atStart => exact ⟨[], t, rfl, ht, e1, e2, h0⟩
  case round =>
    obtain ⟨pre, r, hpr, hr, b1, b2, hJs⟩ := hrel
    have c1 : wr.cell? ⟨bt, 0, none⟩ = some (.string ⟨r.toArray⟩) := by simp [World.cell?, b1]
    have c2 : wr.cell? ⟨bs, 0, none⟩ = some (.int .i64 ((n : Int) + 1)) := by simp [World.cell?, b2]
    by_cases hz : r = []
    · subst hz
      rw [Ck.parts_nil, List.append_nil] at hpr
      gi_wp2
      go_end0
      exact ⟨⟨_, rfl⟩, .inl (by rw [hpr]; exact hJs)⟩
    · have hne0 : r.isEmpty = false := by cases r <;> simp_all
      have hr1 : (r.length : Int) ≤ 60 := by omega
      have hpos : (0 : Int) < r.length := by have : r.length ≠ 0 := fun e => hz (List.length_eq_zero_iff.1 e); omega
      obtain ⟨fn, tmps, assign, body, hy, hR⟩ := hY pre (r.take (n + 1)) (Ck.parts n (r.drop (n + 1))) wr (by rw [hpr, Ck.parts_cons n hz]) hJs
      have hmn : (min ((n : Int) + 1) (r.length : Int)).toNat = min (n + 1) r.length := by omega
      have hE : (⟨(r.take (n + 1)).toArray⟩ : ByteArray) = (⟨r.toArray⟩ : ByteArray).extract 0 (min ((n : Int) + 1) (r.length : Int)).toNat := by
        rw [hmn]; exact (bs_extract r 0 _).trans (by rw [List.drop_zero, Nat.sub_zero, take_min]) |>.symm
      rw [hE] at hy
      clear hE
      have HM := Lib.hid hmn
      clear hmn

      gi_wp2
      refine ⟨rfl, hR.mono ?_⟩
      rintro e W3 (⟨rfl, hJ3, hk3⟩ | ⟨rfl, hJx3⟩)
      · have d1 := (hk3 bt (Or.inl rfl)).trans b1
        have d2 := (hk3 bs (Or.inr rfl)).trans b2
        have c3 : W3.cell? ⟨bt, 0, none⟩ = some (.string ⟨r.toArray⟩) := by simp [World.cell?, d1]
        have f3 : W3.frozen? ⟨bt, 0, none⟩ = false := by simp [World.frozen?, d1]
        have hX : Hid ((⟨r.toArray⟩ : ByteArray).extract (min ((n : Int) + 1) (r.length : Int)).toNat r.length = ⟨(r.drop (n + 1)).toArray⟩) := by
          show _ = _
          rw [HM.out, bs_extract, drop_min, List.take_of_length_le (by rw [List.length_drop]; omega)]
        have hbb := setCell_block d1 0 (.string ⟨(r.drop (n + 1)).toArray⟩)
        have hbb2 := (heap_setCell W3 ⟨bt, 0, none⟩ (.string ⟨(r.drop (n + 1)).toArray⟩) bs (Ne.symm hne)).trans d2
        have hJ4 := hJ _ _ _ hJ3 ((Upd.refl (fun k => k = bt) W3).set1 hg 0 (.string ⟨(r.drop (n + 1)).toArray⟩))
        have HB := Lib.hid (show (W3.setCell ⟨bt, 0, none⟩ (.string ⟨(r.drop (n + 1)).toArray⟩)).heap[bt]? = some (.cells #[.string ⟨(r.drop (n + 1)).toArray⟩] tStrU (0, 0)) from hbb)
        have HB2 := Lib.hid hbb2
        have HJ4 := Lib.hid hJ4
        have HPR := Lib.hid (show Ck.parts n t = (pre ++ [r.take (n + 1)]) ++ Ck.parts n (r.drop (n + 1)) by rw [hpr, Ck.parts_cons n hz, List.append_assoc]; rfl)
        clear hbb hbb2 hJ4
        gi_wp2
        go_roundw
        case rel => rw [hX.out]; exact ⟨_, r.drop (n + 1), HPR.out, by rw [List.length_drop]; omega, HB.out, HB2.out, HJ4.out⟩
        case measure =>
          rw [hX.out]
          rw [lenAt_eq c1, lenAt_eq (l := r.drop (n + 1)) (by have := HB.out; simp [World.cell?, this]), List.length_drop]
          omega
      · gi_wp2
        refine bodyPost_ret (results_none rfl _ _ _) rfl ?_
        exact ⟨⟨_, rfl⟩, .inr ⟨_, hJx3⟩⟩
end Go.Proofs.YtagmlemlagbfkaaGreatDoor
namespace Go.Proofs.YtagmlemlagbfkaaGreatDoor
open Go.RowKit Go.Shelf
set_option linter.unusedVariables false
set_option linter.unusedSimpArgs false
attribute [local go_sem] Oper.semAt_some
attribute [local irreducible] Calls

theorem wpListIn_app {F : Fence} {nF : Nat} {P : Program} {w : World} {ops : Array Oper} {rest : List Oper} {o : Oper} {a : Act} {Q : Exit → Act → World → Prop} (hgd : o.guard = none) (s x : Operand) (t : TypeId)
    (ho : o.op = .call { callee := .builtin .append, args := #[s, x], argTypes := #[t, t] })
    (base : Nat) (e : TypeId) (z : Value) (size bytes : Nat) (ht : P.underlying t = some (.slice e)) (hinfo : (P.info? e).map (fun i => (i.zero, i.size, i.bytes)) = some (some z, size, bytes)) (hzs : z.cells.size = size) (hsz : 0 < size)
    (v : Value) (n : Nat) (xs : List Value) (hs : a.eval s = v) (hown : w.ownsRow base e size v n xs)
    (news : List Value) (hx : a.eval x = .slice (some ⟨w.heap.size, 0, none⟩) 1 1) (hl : news.length = size) (h1 : ∀ u ∈ news, u.oneCell' = true)
    (h63 : n + 1 ≤ maxLen) (hbytes : (n + 1) * bytes ≤ 140737488355328) (hbase : base ≤ w.heap.size)
    (h : ∀ v' w', w'.ownsRow base e size v' (n + 1) (xs ++ news) → Nw w (w.alloc (.cells news.toArray e)) → (w.alloc (.cells news.toArray e)).grownBy w' v.ownBlock → (∀ k, v.ownBlock = some k → base ≤ k ∧ k < w.heap.size) → wpListIn F nF P ops Q rest (a.put o.dst v') w') : wpListIn F nF P ops Q (o :: rest) a (w.alloc (.cells news.toArray e)) := by
  obtain ⟨i0, hi, hz0, hz1, hz2⟩ := info_parts hinfo
  refine wpListIn_append_own _ hgd s x t ho base e i0 z size bytes ht hi hz0 hz1 hz2 hzs hsz v n xs hs (hown.alloc _) ⟨w.heap.size, 0, none⟩ 1 1 news hx (by omega) ?_ h1 h63 hbytes (by simp; omega) fun v' w' h2 h3 _ => h v' w' h2 (nw_alloc _ _) h3 hown.lt
  intro j u hu
  have hb := heap_new w (.cells news.toArray e)
  rw [add_plain, cells_cell hb, Nat.zero_add]
  simpa using hu

set_option maxRecDepth 100000 in
theorem parts_c (t : List UInt8) (n : Int) (w : World) :
    Calls Tryz.prog 155 #[.string ⟨t.toArray⟩, .int .i64 n] w fun e w' =>
      e = .returned (.func (.func 194) #[] #[.pointer (some ⟨w.heap.size, 0, none⟩), .pointer (some ⟨w.heap.size + 1, 0, none⟩)]) ∧ Nw w w' ∧ w.heap.size + 2 ≤ w'.heap.size ∧
      w'.heap[w.heap.size]? = some (.cells #[.string ⟨t.toArray⟩] tStrU (0, 0)) ∧ w'.heap[w.heap.size + 1]? = some (.cells #[.int .i64 n] 3 (0, 0)) := by
  have n1 := (nw_alloc w (.cells #[.string ⟨t.toArray⟩] tStrU)).alloc (.cells #[.int .i64 n] 3)
  have b1 := heap_new w (.cells #[.string ⟨t.toArray⟩] tStrU)
  have b2 := heap_new (w.alloc (.cells #[.string ⟨t.toArray⟩] tStrU)) (.cells #[.int .i64 n] 3)
  rw [World.size_alloc] at b2
  have b3 := (heap_alloc (w.alloc (.cells #[.string ⟨t.toArray⟩] tStrU)) (.cells #[.int .i64 n] 3) w.heap.size (by simp)).trans b1
  go_enter Tryz.func155, Tryz.ntmps155
  go_wp2_with fail
  go_ret
  exact ⟨rfl, n1, by simp, b3, b2⟩

set_option maxRecDepth 100000 in
theorem sized_c (n : Nat) (hn : n ≤ 8) (w : World) : Calls Tryz.prog 154 #[.int .i64 ((n : Int) + 1)] w fun e w' => e = .returned (.bool true) ∧ Nw w w' := by
  have d1 : decide ((1 : Int) ≤ (n : Int) + 1) = true := decide_eq_true (by omega)
  have d2 : decide ((n : Int) + 1 ≤ 4096) = true := decide_eq_true (by omega)
  go_enter Tryz.func154, Tryz.ntmps154
  go_wp2_with fail
  go_ret
  exact ⟨rfl, Upd.refl _ _⟩
abbrev tMan : TypeId := 82
/-- Three stores into boxes that lie one behind the other. -/
abbrev st3 (w : World) (b : Nat) (x y z : Value) : World := ((w.setCell ⟨b, 0, none⟩ x).setCell ⟨b + 1, 0, none⟩ y).setCell ⟨b + 1 + 1, 0, none⟩ z
theorem st3_facts {w : World} {b : Nat} {x9 x10 x11 : Value} {T9 T10 T11 : TypeId} (j9 : w.heap[b]? = some (.cells #[x9] T9 (0, 0))) (j10 : w.heap[b + 1]? = some (.cells #[x10] T10 (0, 0))) (j11 : w.heap[b + 2]? = some (.cells #[x11] T11 (0, 0))) (hg : nG ≤ b) (x y z : Value) :
    (st3 w b x y z).heap[b]? = some (.cells #[x] T9 (0, 0)) ∧ (st3 w b x y z).heap[b + 1]? = some (.cells #[y] T10 (0, 0)) ∧ (st3 w b x y z).heap[b + 2]? = some (.cells #[z] T11 (0, 0)) ∧ (st3 w b x y z).heap.size = w.heap.size ∧
    Upd (fun k => k = b ∨ k = b + 1 ∨ k = b + 2) w (st3 w b x y z) := by
  unfold st3
  refine ⟨?_, ?_, ?_, by simp [World.setCell], ((((Upd.refl _ w).setCell (p := ⟨b, 0, none⟩) (Or.inl (Or.inl rfl)) hg x).setCell (p := ⟨b + 1, 0, none⟩) (Or.inl (Or.inr (Or.inl rfl))) (by show nG ≤ b + 1; omega) y).setCell (p := ⟨b + 1 + 1, 0, none⟩) (Or.inl (Or.inr (Or.inr rfl))) (by show nG ≤ b + 1 + 1; omega) z)⟩
  · rw [heap_setCell _ _ _ _ (by show b ≠ b + 1 + 1; omega), heap_setCell _ _ _ _ (by show b ≠ b + 1; omega)]
    exact setCell_block j9 0 x
  · rw [heap_setCell _ _ _ _ (by show b + 1 ≠ b + 1 + 1; omega)]
    exact setCell_block ((heap_setCell _ _ _ _ (by show b + 1 ≠ b; omega)).trans j10) 0 y
  · exact setCell_block ((heap_setCell _ _ _ _ (by show b + 2 ≠ b + 1; omega)).trans ((heap_setCell _ _ _ _ (by show b + 2 ≠ b; omega)).trans j11)) 0 z

/-- Behind the three stores of a round. -/
structure OfT (w W w6 : World) (n0 b7 b9 : Nat) (ad : List (List UInt8)) (x : List UInt8) (v6 : Value) (p len : Int) (mv : Value) (m : Nat) (xs : List Value) : Prop where
  upd : Upd (fun k => k = b9 ∨ k = b9 + 1 ∨ k = b9 + 2) W (st3 w6 b9 v6 (.int .i64 (prtU ad x)) (.int .i64 0))
  size : (st3 w6 b9 v6 (.int .i64 (prtU ad x)) (.int .i64 0)).heap.size = w6.heap.size
  b0 : (st3 w6 b9 v6 (.int .i64 (prtU ad x)) (.int .i64 0)).heap[b9]? = some (.cells #[v6] 30 (0, 0))
  b1 : (st3 w6 b9 v6 (.int .i64 (prtU ad x)) (.int .i64 0)).heap[b9 + 1]? = some (.cells #[.int .i64 (prtU ad x)] 3 (0, 0))
  b2 : (st3 w6 b9 v6 (.int .i64 (prtU ad x)) (.int .i64 0)).heap[b9 + 2]? = some (.cells #[.int .i64 0] 48 (0, 0))
  b3 : (st3 w6 b9 v6 (.int .i64 (prtU ad x)) (.int .i64 0)).heap[b9 + 3]? = some (.cells #[.int .i64 p, .int .i64 len, mv] tMan (0, 0))
  b7 : (st3 w6 b9 v6 (.int .i64 (prtU ad x)) (.int .i64 0)).heap[b7]? = some (.cells #[.int .i64 0, .int .i64 0, .slice none 0 0] tMan (0, 0))
  own : (st3 w6 b9 v6 (.int .i64 (prtU ad x)) (.int .i64 0)).ownsRow W.heap.size tStrMU 1 v6 (addMU ad x).length ((addMU ad x).map bsMU)
  row : (st3 w6 b9 v6 (.int .i64 (prtU ad x)) (.int .i64 0)).ownsRow n0 3 1 mv m xs
theorem infoIntK : (Tryz.prog.info? 3).map (fun i => (i.zero, i.size, i.bytes)) = some (some (.int .i64 0), 1, 8) := by kernel_rfl
theorem alloc4 (w : World) (A B C D : Obj) : ((((w.alloc A).alloc B).alloc C).alloc D).heap[w.heap.size]? = some A ∧ ((((w.alloc A).alloc B).alloc C).alloc D).heap[w.heap.size + 1]? = some B ∧
    ((((w.alloc A).alloc B).alloc C).alloc D).heap[w.heap.size + 2]? = some C ∧ ((((w.alloc A).alloc B).alloc C).alloc D).heap[w.heap.size + 3]? = some D ∧ Nw w ((((w.alloc A).alloc B).alloc C).alloc D) ∧ ((((w.alloc A).alloc B).alloc C).alloc D).heap.size = w.heap.size + 4 := by
  have a1 := heap_new w A
  have a2 := heap_new (w.alloc A) B
  have a3 := heap_new ((w.alloc A).alloc B) C
  have a4 := heap_new (((w.alloc A).alloc B).alloc C) D
  simp only [World.size_alloc] at a2 a3 a4
  refine ⟨?_, ?_, ?_, a4, (((nw_alloc w A).alloc B).alloc C).alloc D, by simp⟩
  · rw [heap_alloc _ _ _ (by simp only [World.size_alloc]; omega), heap_alloc _ _ _ (by simp only [World.size_alloc]; omega), heap_alloc _ _ _ (by simp only [World.size_alloc]; omega)]; exact a1
  · rw [heap_alloc _ _ _ (by simp only [World.size_alloc]; omega), heap_alloc _ _ _ (by simp only [World.size_alloc]; omega)]; exact a2
  · rw [heap_alloc _ _ _ (by simp only [World.size_alloc]; omega)]; exact a3
/-- chunk.Of between two rounds. -/
def OfI (w : World) (n0 b7 b9 bt : Nat) (cs1 : List (List UInt8)) (p len : Int) (pre : List (List UInt8)) (W : World) : Prop :=
  Nw w W ∧ n0 ≤ W.heap.size ∧ W.heap[b7]? = some (.cells #[.int .i64 0, .int .i64 0, .slice none 0 0] tMan (0, 0)) ∧ W.heap[b9 + 2]? = some (.cells #[.int .i64 0] 48 (0, 0)) ∧
  (∃ lv x, W.heap[b9]? = some (.cells #[lv] 30 (0, 0)) ∧ W.heap[b9 + 1]? = some (.cells #[.int .i64 x] 3 (0, 0)) ∧
    W.ownsRow w.heap.size tStrMU 1 lv (Ck.adds cs1 pre).length ((Ck.adds cs1 pre).map bsMU) ∧ ∀ k, lv.ownBlock = some k → k ≠ bt) ∧
  (∃ mv, W.heap[b9 + 3]? = some (.cells #[.int .i64 p, .int .i64 len, mv] tMan (0, 0)) ∧ W.ownsRow n0 3 1 mv pre.length ((Ck.prts cs1 pre).map fun x => .int .i64 x))
theorem cells_ne {A : World} {b k : Nat} {o : Obj} {c : Array Value} {T : TypeId} {f : Nat × Nat} (hb : A.heap[b]? = some o) (ho : o.isCells = false) (hk : A.heap[k]? = some (.cells c T f)) : k ≠ b := by
  rintro rfl
  rw [hb] at hk
  cases hk
  simp [Obj.isCells] at ho
theorem own_cells {A : World} {B sz m : Nat} {e : TypeId} {v : Value} {xs : List Value} (h : A.ownsRow B e sz v m xs) {k : Nat} (hk : v.ownBlock = some k) : ∃ c f, A.heap[k]? = some (.cells c e f) := by
  obtain ⟨-, c, hc⟩ := own_block h hk
  exact ⟨c, _, hc⟩
theorem OfI.bears {w : World} {n0 b7 b9 bt : Nat} {cs1 : List (List UInt8)} {p len : Int} (h7 : b7 < n0) (h9 : b9 + 3 < n0) (t7 : b7 ≠ bt) (t9 : bt < b9 ∨ b9 + 3 < bt) (hw : w.heap.size ≤ bt) (hbn : bt < n0) (hwn : w.heap.size ≤ n0) :
    Bears n0 bt (OfI w n0 b7 b9 bt cs1 p len) := by
  rintro s A B b ⟨h1, h2, h3, h4, ⟨lv, x, l1, l2, l3, l4⟩, ⟨mv, m1, m2⟩⟩ u hb
  have hbw : w.heap.size ≤ b := by rcases hb with rfl | ⟨hb, -⟩ <;> omega
  have key : ∀ {k : Nat} {c : Array Value} {T : TypeId} {f : Nat × Nat}, A.heap[k]? = some (.cells c T f) → k ≠ bt → k ≠ b := fun {k c T f} hk hkt => by
    rcases hb with rfl | ⟨-, o, ho, hn⟩
    · exact hkt
    · exact cells_ne ho hn hk
  refine ⟨h1.trans' u (fun k hk e => by omega), Nat.le_trans h2 u.size, u.keep h3 (key h3 t7), u.keep h4 (key h4 (by omega)), ⟨lv, x, u.keep l1 (key l1 (by omega)), u.keep l2 (key l2 (by omega)), owns_upd' l3 u (fun k e => ?_), l4⟩, ⟨mv, u.keep m1 (key m1 (by omega)), owns_upd' m2 u (fun k e => ?_)⟩⟩
  · obtain ⟨c, f, hc⟩ := own_cells l3 e
    exact key hc (l4 k e)
  · obtain ⟨c, f, hc⟩ := own_cells m2 e
    have := (m2.lt k e).1
    exact key hc (by omega)
theorem owns_grown {A B : World} {bb sz n : Nat} {e : TypeId} {v : Value} {xs : List Value} {row : Option Nat} (h : A.ownsRow bb e sz v n xs) (g : A.grownBy B row) (hn : ∀ k, v.ownBlock = some k → row ≠ some k) : B.ownsRow bb e sz v n xs := by
  obtain ⟨h1, h2⟩ := h
  refine ⟨h1, ?_⟩
  rcases h2 with h2 | ⟨gb, cap, cur, rfl, hb, hg, r⟩
  · exact Or.inl h2
  · exact Or.inr ⟨gb, cap, cur, rfl, hb, grown_keep g hg (hn gb rfl), r⟩
/-- A round's end. -/
theorem OfI.step {w W w6 w9 : World} {n0 b7 b9 : Nat} {cs1 pre : List (List UInt8)} {x : List UInt8} {v6 mv v' : Value} {p len : Int} {Ix : Code → List (List UInt8) → World → Prop} {a : Act}
    (hT : OfT w W w6 n0 b7 b9 (Ck.adds cs1 pre) x v6 p len mv pre.length ((Ck.prts cs1 pre).map fun x => .int .i64 x)) (i1 : Nw w W) (hw : w.heap.size ≤ b9) (hw7 : w.heap.size ≤ b7) (hg : nG ≤ w.heap.size) (hn0 : n0 ≤ W.heap.size) (h9 : b9 + 5 < n0) (h7 : b7 < b9)
    (hm : W.ownsRow n0 3 1 mv pre.length ((Ck.prts cs1 pre).map fun x => .int .i64 x))
    (o9 : w9.ownsRow n0 3 1 v' (pre.length + 1) (((Ck.prts cs1 pre).map fun x => .int .i64 x) ++ [.int .i64 (prtU (Ck.adds cs1 pre) x)]))
    (g9 : ((st3 w6 b9 v6 (.int .i64 (prtU (Ck.adds cs1 pre) x)) (.int .i64 0)).alloc (.cells [Value.int .i64 (prtU (Ck.adds cs1 pre) x)].toArray 3)).grownBy w9 mv.ownBlock) :
    postB n0 (fun b => b = b9 + 4 ∨ b = b9 + 5) (OfI w n0 b7 b9 (b9 + 4) cs1 p len) Ix (pre ++ [x]) W .normal a (w9.setCell ⟨b9 + 3, 2, none⟩ v') := by
  obtain ⟨t1, t2, t3, t4, t5, t6, t7, t8, t9⟩ := hT
  generalize st3 w6 b9 v6 (.int .i64 (prtU (Ck.adds cs1 pre) x)) (.int .i64 0) = Z at *
  have hmb : ∀ k, mv.ownBlock = some k → n0 ≤ k ∧ k < W.heap.size := fun k e => hm.lt k e
  have nz := nw_alloc Z (.cells [Value.int .i64 (prtU (Ck.adds cs1 pre) x)].toArray 3)
  have keepZ : ∀ {k : Nat} {o : Obj}, Z.heap[k]? = some o → k < n0 → w9.heap[k]? = some o := fun {k o} hk hlt => grown_keep g9 (Nw.keep nz hk) (fun e => by have := (hmb k e).1; omega)
  have keep9 : ∀ {k : Nat} {o : Obj}, Z.heap[k]? = some o → k < n0 → k ≠ b9 + 3 → (w9.setCell ⟨b9 + 3, 2, none⟩ v').heap[k]? = some o := fun {k o} hk hlt hne => (heap_setCell _ _ _ _ hne).trans (keepZ hk hlt)
  have U : Upd (fun k => k = b9 ∨ k = b9 + 1 ∨ k = b9 + 2 ∨ k = b9 + 3 ∨ mv.ownBlock = some k) W (w9.setCell ⟨b9 + 3, 2, none⟩ v') := by
    refine Upd.setCell (Upd.grown ((t1.mono (fun k _ h => ?_)).nw nz) g9 (fun k e => ?_)) (Or.inl ?_) (by show nG ≤ b9 + 3; omega) _
    · rcases h with h | h | h
      · exact Or.inl h
      · exact Or.inr (Or.inl h)
      · exact Or.inr (Or.inr (Or.inl h))
    · exact ⟨Or.inl (Or.inr (Or.inr (Or.inr (Or.inr e)))), by have := (hmb k e).1; omega⟩
    · exact Or.inr (Or.inr (Or.inr (Or.inl rfl)))
  have hvl : v6.ownBlock = none ∨ ∃ k, v6.ownBlock = some k ∧ W.heap.size ≤ k := by
    cases e : v6.ownBlock with
    | none => exact Or.inl rfl
    | some k => exact Or.inr ⟨k, rfl, (t8.lt k e).1⟩
  have o6 : (w9.setCell ⟨b9 + 3, 2, none⟩ v').ownsRow W.heap.size tStrMU 1 v6 (addMU (Ck.adds cs1 pre) x).length ((addMU (Ck.adds cs1 pre) x).map bsMU) := by
    have k1 := owns_upd' t8 nz (fun _ _ e => e)
    have k2 := owns_grown k1 g9 (fun k e e2 => by have := (hmb k e2).2; have := (t8.lt k e).1; omega)
    exact owns_upd' k2 ((Upd.refl (fun k => k = b9 + 3) w9).set1 (by omega) 2 v') (fun k e e2 => by have := (t8.lt k e).1; omega)
  have o10 : (w9.setCell ⟨b9 + 3, 2, none⟩ v').ownsRow n0 3 1 v' (pre.length + 1) (((Ck.prts cs1 pre).map fun x => .int .i64 x) ++ [.int .i64 (prtU (Ck.adds cs1 pre) x)]) :=
    owns_upd' o9 ((Upd.refl (fun k => k = b9 + 3) w9).set1 (by omega) 2 v') (fun k e e2 => by have := (o9.lt k e).1; omega)
  refine ⟨fun k o hk ho hc => U.keep ho (fun s => ?_), fun b hb => U.block b (by omega) (Or.inr (fun s => ?_)), ⟨i1.trans' U (fun k hk s => ?_), Nat.le_trans hn0 U.size, keep9 t7 (by omega) (by omega), keep9 t5 (by omega) (by omega), ⟨v6, _, keep9 t3 (by omega) (by omega), keep9 t4 (by omega) (by omega), ?_, fun k e => ?_⟩, ⟨v', ?_, ?_⟩⟩⟩
  · rcases s with s | s | s | s | s
    · omega
    · omega
    · omega
    · omega
    · obtain ⟨c, f, h2⟩ := own_cells hm s
      rw [h2] at ho; cases ho; simp [Obj.isCells] at hc
  · rcases s with s | s | s | s | s
    · omega
    · omega
    · omega
    · omega
    · have := (hmb b s).1; omega
  · rcases s with s | s | s | s | s
    · omega
    · omega
    · omega
    · omega
    · have := (hmb k s).1; omega
  · rw [Ck.adds_snoc]
    exact owns_base o6 i1.size
  · have := (t8.lt k e).1; omega
  · have h := setCell_block (keepZ t6 (by omega)) 2 v'
    simpa using h
  · rw [List.length_append, Ck.prts_snoc, List.map_append]
    exact o10
theorem of_results (tmps : Array Value) (w : World) (b : Nat) (x y z : Value) (h7 : tmps.getD 7 undef = .pointer (some ⟨b, 0, none⟩)) (hb : w.heap[b]? = some (.cells #[x, y, z] tMan (0, 0))) : (results Tryz.f102 tmps).run Tryz.prog w = .ok (.tuple #[tmps.getD 6 undef, .agg #[x, y, z], tmps.getD 8 undef]) w := by
  have c0 : w.cell? ⟨b, 0, none⟩ = some x := by simp [World.cell?, hb]
  have c1 : w.cell? ⟨b, 1, none⟩ = some y := by simp [World.cell?, hb]
  have c2 : w.cell? ⟨b, 2, none⟩ = some z := by simp [World.cell?, hb]
  have h8 : tmps[7]?.getD undef = .pointer (some ⟨b, 0, none⟩) := by simpa using h7
  simp [results, Tryz.results102, go_sem, h8, c0, c1, c2]
/-- What Of leaves. -/
structure OfD (w : World) (cs : List (List UInt8)) (t : List UInt8) (n : Nat) (v kv : Value) (w' : World) : Prop where
  nw : Nw w w'
  own : w'.ownsRow w.heap.size tStrMU 1 v (Ck.conts cs t n).length ((Ck.conts cs t n).map bsMU)
  row : w'.ownsRow w.heap.size 3 1 kv (Ck.man cs t n).chunks.length ((Ck.man cs t n).chunks.map fun x => .int .i64 x)
theorem of_end {w W : World} {b7 D n0 : Nat} {cs : List (List UInt8)} {t : List UInt8} {n : Nat} {v kv x y z : Value} (hg : nG ≤ w.heap.size) (h7 : b7 = w.heap.size) (hn0 : w.heap.size ≤ n0) (hD : n0 ≤ D) (i1 : Nw w W) (i3 : W.heap[b7]? = some (.cells #[.int .i64 0, .int .i64 0, .slice none 0 0] tMan (0, 0)))
    (l3 : W.ownsRow w.heap.size tStrMU 1 v (Ck.adds (addMU cs t) (Ck.parts n t)).length ((Ck.adds (addMU cs t) (Ck.parts n t)).map bsMU)) (m2 : W.ownsRow n0 3 1 kv (Ck.parts n t).length ((Ck.prts (addMU cs t) (Ck.parts n t)).map fun x => .int .i64 x))
    (hK : W.heap[D]? = some (.deferred (some []))) :
    (((W.setCell ⟨b7, 0, none⟩ x).setCell ⟨b7, 1, none⟩ y).setCell ⟨b7, 2, none⟩ z).drew.heap[D]? = some (.deferred (some [])) ∧
    ((((W.setCell ⟨b7, 0, none⟩ x).setCell ⟨b7, 1, none⟩ y).setCell ⟨b7, 2, none⟩ z).drew.putObj D (.deferred none)).heap[b7]? = some (.cells #[x, y, z] tMan (0, 0)) ∧
    OfD w cs t n v kv ((((W.setCell ⟨b7, 0, none⟩ x).setCell ⟨b7, 1, none⟩ y).setCell ⟨b7, 2, none⟩ z).drew.putObj D (.deferred none)) := by
  have hne : b7 ≠ D := by rintro rfl; rw [i3] at hK; cases hK
  have U1 : Upd (fun k => k = b7) W (((W.setCell ⟨b7, 0, none⟩ x).setCell ⟨b7, 1, none⟩ y).setCell ⟨b7, 2, none⟩ z).drew := (((Upd.refl (fun k => k = b7) W).set1 (by omega) 0 x).set1 (by omega) 1 y).set1 (by omega) 2 z |>.drew
  have hK2 := U1.keep hK (Ne.symm hne)
  have U2 := U1.mono (S' := fun k => k = b7 ∨ k = D) (fun k _ e => Or.inl e)
  have U3 := U2.trans ((upd_putObj _ D (.deferred none) (by omega)).mono (S' := fun k => k = b7 ∨ k = D) (fun k _ e => Or.inr e))
  have hb : (((W.setCell ⟨b7, 0, none⟩ x).setCell ⟨b7, 1, none⟩ y).setCell ⟨b7, 2, none⟩ z).drew.heap[b7]? = some (.cells #[x, y, z] tMan (0, 0)) := by
    have h1 := setCell_block i3 0 x
    have h2 := setCell_block h1 1 y
    have h3 := setCell_block h2 2 z
    have h4 : (((W.setCell ⟨b7, 0, none⟩ x).setCell ⟨b7, 1, none⟩ y).setCell ⟨b7, 2, none⟩ z).heap[b7]? = some (.cells #[x, y, z] tMan (0, 0)) := by simpa using h3
    exact h4
  refine ⟨hK2, (World.putObj_heap_other hne).trans hb, i1.trans' U3 (fun k hk s => ?_), owns_upd' l3 U3 (fun k e s => ?_), ?_⟩
  · rcases s with s | s <;> omega
  · obtain ⟨c, f, hc⟩ := own_cells l3 e
    rcases s with rfl | rfl
    · rw [i3] at hc; injection hc with hc; injection hc with _ hc; exact absurd hc (by decide)
    · rw [hK] at hc; cases hc
  · have e : (Ck.man cs t n).chunks = Ck.prts (addMU cs t) (Ck.parts n t) := rfl
    rw [e, Ck.prts_len]
    refine owns_base (owns_upd' m2 U3 (fun k e s => ?_)) hn0
    obtain ⟨c, f, hc⟩ := own_cells m2 e
    rcases s with rfl | rfl
    · rw [i3] at hc; injection hc with hc; injection hc with _ hc; exact absurd hc (by decide)
    · rw [hK] at hc; cases hc
theorem hold_on2 {p : Prop} (h : ∀ _ : Unit, p) : p := h ()
set_option maxHeartbeats 4000000 in
set_option maxRecDepth 100000 in
theorem of_c (B : Nat) (v : Value) (cs : List (List UInt8)) (t : List UInt8) (n : Nat) (hn8 : n ≤ 8) (w : World) (g : Gl w) (hv : w.ownsRow B tStrMU 1 v cs.length (cs.map bsMU)) (hl : CntOkU cs) (hl2 : cs.length + t.length ≤ 85) (hn : cs.Nodup) (ht : t.length ≤ 60) :
    Calls Tryz.prog 102 #[v, .string ⟨t.toArray⟩, .int .i64 ((n : Int) + 1)] w fun e w' => ∃ v' kv, e = .returned (.tuple #[v', .agg #[.int .i64 (Ck.man cs t n).print, .int .i64 (Ck.man cs t n).size, kv], .int .i64 0]) ∧ OfD w cs t n v' kv w' := by
  have hgb := g.big
  have hsl := Sl.of_owns hv
  have HR := Lib.hid (fun (z : World) (u : Nw w z) => right_w37U _ _ v cs z (g.upd u) (hsl.nw u) hl hn)
  clear hsl
  obtain ⟨a, cap, rfl⟩ := own_slG hv
  refine callsIn_wide.1 (callsIn_of_wp_marks Tryz.func102 rfl trivial (n := 0) ((wpIn_wide (n := 0)).2 ?_))
  simp only [Tryz.ntmps102, List.size_toArray, List.length_cons, List.length_nil, Nat.reduceAdd, Nat.reduceSub, Array.replicate_succ, Array.replicate_zero, List.push_toArray, List.append_toArray, List.nil_append, List.cons_append]
  have hn1 : (n : Int) ≤ 8 := by omega
  have ht1 : (t.length : Int) ≤ 60 := by omega
  have HA := Lib.hid (fun (z : World) (u : Nw w z) => cadd_wU B (.slice a cs.length cap) cs t z (g.upd u) (owns_upd' hv u (fun _ _ e => e)) hl (by omega) hn (by omega))
  clear hv
  go_wp2_with fail
  (with_reducible refine ((sized_c n hn8 _)).mono ?_)
  rintro _ w1 ⟨rfl, u1⟩
  have n0 := nw_alloc w (.cells #[.int .i64 0, .int .i64 0, .slice none 0 0] tMan)
  have HN1 := Lib.hid (n0.trans u1)
  have HB7 := Lib.hid (Nw.keep u1 (heap_new w (.cells #[.int .i64 0, .int .i64 0, .slice none 0 0] tMan)))
  have hr := Lib.hid (HR.out w1 HN1.out)
  clear HR n0 u1
  go_wp2_with fail
  (with_reducible refine (hr.out).mono ?_)
  rintro _ w2 ⟨rfl, u2⟩
  have HN2 := Lib.hid (HN1.out.trans u2)
  have HB72 := Lib.hid (Nw.keep u2 HB7.out)
  have ha := Lib.hid (HA.out w2 HN2.out)
  clear hr HA HB7 HN1 u2
  have dq : decide ((1000 : Int) < ((t.length : Int) + ((n : Int) + 1) - 1) / ((n : Int) + 1)) = false := decide_eq_false (by
    have : ((t.length : Int) + ((n : Int) + 1) - 1) / ((n : Int) + 1) ≤ (t.length : Int) + ((n : Int) + 1) - 1 := Int.ediv_le_self _ (by omega)
    omega)
  go_wp2_with fail
  (with_reducible refine (ha.out).mono ?_)
  rintro _ w3 ⟨v3, rfl, o3, u3⟩
  have HN3 := Lib.hid (HN2.out.trans u3)
  have HB73 := Lib.hid (Nw.keep u3 HB72.out)
  obtain ⟨a3, c3, rfl⟩ := own_slG o3
  have HO3 := Lib.hid o3
  clear o3 ha HB72 u3
  have A4 := Lib.hid (alloc4 w3 (.cells #[.slice a3 (addMU cs t).length c3] 30) (.cells #[.int .i64 (prtU cs t)] 3) (.cells #[.int .i64 0] 48) (.cells #[.int .i64 (prtU cs t), .int .i64 (t.length : Int), .slice none 0 0] tMan))
  go_wp2_with fail
  (with_reducible refine ((parts_c t _ _)).mono ?_)
  rintro _ w5 ⟨rfl, u5, s5, p5, q5⟩
  simp only [World.size_alloc] at s5 p5 q5
  have hz3 : w.heap.size < w3.heap.size := (Array.getElem?_eq_some_iff.1 HB73.out).1
  have hseq := parts1_seq (w3.heap.size + 1 + 1 + 1 + 1) (w3.heap.size + 1 + 1 + 1 + 1 + 1) n hn8 t ht w5 p5 q5 (by omega) (by omega)
  have hO5 : OfI w w5.heap.size w.heap.size w3.heap.size (w3.heap.size + 1 + 1 + 1 + 1) (addMU cs t) (prtU cs t) t.length [] w5 := by
    obtain ⟨a1, a2, a3, a4, a5, a6⟩ := A4.out
    refine ⟨HN3.out.trans (a5.trans u5), Nat.le_refl _, Nw.keep u5 (Nw.keep a5 HB73.out), Nw.keep u5 a3, ⟨_, _, Nw.keep u5 a1, Nw.keep u5 a2, ?_, ?_⟩, ⟨_, Nw.keep u5 a4, World.ownsRow_nil _ _ _ _⟩⟩
    · exact owns_upd' (owns_upd' (owns_base HO3.out HN2.out.size) a5 (fun _ _ e => e)) u5 (fun _ _ e => e)
    · intro k e
      have := (HO3.out.lt k e).2
      omega
  have HI := OfI.bears (w := w) (n0 := w5.heap.size) (b7 := w.heap.size) (b9 := w3.heap.size) (bt := w3.heap.size + 1 + 1 + 1 + 1) (cs1 := addMU cs t) (p := prtU cs t) (len := t.length) (by omega) (by omega) (by omega) (by omega) (by omega) (by omega) (by omega)
  go_wp2_with fail
  apply wp_rangeFuncB (gf := 194) (encs := fun x : List UInt8 => #[.string ⟨x.toArray⟩]) rfl (enters_of Tryz.func194 (by kernel_rfl) rfl) hseq (by omega) (by omega) (by omega) (fun _ => rfl) (OfI w w5.heap.size w.heap.size w3.heap.size (w3.heap.size + 1 + 1 + 1 + 1) (addMU cs t) (prtU cs t) t.length) (fun _ _ _ => False) HI (fun _ _ _ _ _ h _ _ => h) hO5
  case hassign =>
    intro l x W K hK
    gi_wp2
    exact hK
  case hbody =>
    rintro l pre x rest W hxs ⟨i1, i2, i3, i4, ⟨lv, x9, l1, l2, l3, l4⟩, ⟨mv, m1, m2⟩⟩
    obtain ⟨la, lc, rfl⟩ := own_slG l3
    obtain ⟨ma, mc, rfl⟩ := own_slG m2
    have hpl2 : pre.length + 1 ≤ t.length := by
      have := Ck.parts_len n t.length t (Nat.le_refl _)
      rw [hxs, List.length_append, List.length_cons] at this
      omega
    have hpl : pre.length + 1 ≤ 60 := by
      have := Ck.parts_len n t.length t (Nat.le_refl _)
      rw [hxs, List.length_append, List.length_cons] at this
      omega
    have hsz := Ck.parts_sz n t.length t (Nat.le_refl _)
    rw [hxs] at hsz
    have hal := Ck.adds_len pre (addMU cs t)
    have hal2 := Ck.add_len cs t
    have hx := Lib.hid (cadd_wU w.heap.size _ (Ck.adds (addMU cs t) pre) x W (g.upd i1) l3 ⟨by omega, fun s hs => by
        rcases Ck.adds_mem _ hs with hs | hs
        · rcases Ck.add_mem hs with hs | rfl
          · exact hl.s s hs
          · omega
        · have := (hsz s (by simp [hs])).1; omega⟩ (by omega) (Ck.adds_nodup _ (Ck.add_nodup hn t)) (by have := (hsz x (by simp)).1; omega))
    have c9 : W.cell? ⟨w3.heap.size, 0, none⟩ = some (.slice la (Ck.adds (addMU cs t) pre).length lc) := by simp [World.cell?, l1]
    have c11 : W.cell? ⟨w3.heap.size + 1 + 1, 0, none⟩ = some (.int .i64 0) := by simp [World.cell?, i4]
    have hy : Hid (Calls Tryz.prog 23 #[.slice la (Ck.adds (addMU cs t) pre).length lc, .string ⟨x.toArray⟩] W fun e w6 => ∃ a6 c6, e = .returned (.tuple #[.slice a6 (addMU (Ck.adds (addMU cs t) pre) x).length c6, .int .i64 (prtU (Ck.adds (addMU cs t) pre) x), .int .i64 0]) ∧
        Hid (w6.ownsRow W.heap.size tStrMU 1 (.slice a6 (addMU (Ck.adds (addMU cs t) pre) x).length c6) (addMU (Ck.adds (addMU cs t) pre) x).length ((addMU (Ck.adds (addMU cs t) pre) x).map bsMU) ∧ Nw W w6) ∧
        w6.frozen? ⟨w3.heap.size, 0, none⟩ = false ∧ w6.frozen? ⟨w3.heap.size + 1, 0, none⟩ = false ∧ w6.frozen? ⟨w3.heap.size + 1 + 1, 0, none⟩ = false ∧ w6.frozen? ⟨w3.heap.size + 1 + 1 + 1, 2, none⟩ = false ∧
        w6.cell? ⟨w3.heap.size, 0, none⟩ = some (.slice la (Ck.adds (addMU cs t) pre).length lc) ∧ w6.cell? ⟨w3.heap.size + 1, 0, none⟩ = some (.int .i64 x9) ∧ w6.cell? ⟨w3.heap.size + 1 + 1, 0, none⟩ = some (.int .i64 0) ∧ w6.cell? ⟨w3.heap.size + 1 + 1 + 1, 2, none⟩ = some (.slice ma pre.length mc) ∧
        Hid (OfT w W w6 w5.heap.size w.heap.size w3.heap.size (Ck.adds (addMU cs t) pre) x (.slice a6 (addMU (Ck.adds (addMU cs t) pre) x).length c6) (prtU cs t) t.length (.slice ma pre.length mc) pre.length ((Ck.prts (addMU cs t) pre).map fun x => .int .i64 x))) := by
      refine hx.out.mono ?_
      rintro _ w6 ⟨v6, rfl, o6, u6⟩
      obtain ⟨a6, c6, rfl⟩ := own_slG o6
      have j9 := Nw.keep u6 l1
      have j10 := Nw.keep u6 l2
      have j11 := Nw.keep u6 i4
      have j12 := Nw.keep u6 m1
      refine ⟨a6, c6, rfl, ⟨o6, u6⟩, by simp [World.frozen?, j9], by simp [World.frozen?, j10], by simp [World.frozen?, j11], by simp [World.frozen?, j12], by simp [World.cell?, j9], by simp [World.cell?, j10], by simp [World.cell?, j11], by simp [World.cell?, j12], ?_⟩
      have F := st3_facts j9 j10 j11 (by omega) (.slice a6 (addMU (Ck.adds (addMU cs t) pre) x).length c6) (.int .i64 (prtU (Ck.adds (addMU cs t) pre) x)) (.int .i64 0)
      have hb12 : w6.heap[w3.heap.size + 3]? = some (.cells #[.int .i64 (prtU cs t), .int .i64 (t.length : Int), .slice ma pre.length mc] tMan (0, 0)) := j12
      have j7 := Nw.keep u6 i3
      have hge : w3.heap.size + 6 ≤ w5.heap.size := by omega
      obtain ⟨F0, F1, F2, FS, FU⟩ := F
      have hWW : w5.heap.size ≤ W.heap.size := i2
      refine ⟨(Nw.upd _ u6).trans FU, FS, F0, F1, F2, FU.keep hb12 (by omega), FU.keep j7 (by omega), owns_upd' o6 FU (fun k e => ?_), owns_upd' (owns_upd' m2 u6 (fun _ _ e => e)) FU (fun k e => ?_)⟩
      · have := (o6.lt k e).1; omega
      · have := (m2.lt k e).1; omega
    clear hx
    gi_wp2_with (first | (refine ⟨trivial, rfl, ?_⟩; refine (CallsIn.inRound l (callsIn_wide.2 hy.out)).mono ?_; rintro _ w6 ⟨a6, c6, rfl, h6, f9, f10, f11, f12, d9, d10, d11, d12, hT⟩) | (gi_at_builtin; refine hold_on2 ?_))
    intro _
    refine wpListIn_app rfl _ _ 22 rfl w5.heap.size 3 _ 1 8 Tryz.underlying22 infoIntK rfl (by decide) _ _ _ rfl hT.out.row [Value.int .i64 (prtU (Ck.adds (addMU cs t) pre) x)] ?cx rfl ?c1 ?c2 ?c3 ?c4 ?_
    case cx => rw [hT.out.size]; rfl
    case c1 => intro u hu; rw [List.mem_singleton.1 hu]; rfl
    case c2 => unfold maxLen; omega
    case c3 => omega
    case c4 => rw [hT.out.size]; have := h6.out.2.size; omega
    intro v' w9 o9 n9 g9 _
    obtain ⟨a9, c9, rfl⟩ := own_slG o9
    have hP := Lib.hid (fun (aa : Act) => OfI.step (Ix := fun _ _ _ => False) (a := aa) hT.out i1 (by omega) (by omega) hgb i2 (by omega) (by omega) m2 o9 g9)
    have hb3 := grown_keep g9 (Nw.keep n9 hT.out.b3) (fun e => by have := (m2.lt _ e).1; omega)
    have q1 : w9.cell? ⟨w3.heap.size + 1 + 1 + 1, 2, none⟩ = some (.slice ma pre.length mc) := by
      show w9.cell? ⟨w3.heap.size + 3, 2, none⟩ = _
      rw [cells_cell hb3]; rfl
    have q2 : w9.frozen? ⟨w3.heap.size + 1 + 1 + 1, 2, none⟩ = false := cells_frozen hb3 2
    clear hb3 o9 n9 g9 hT
    gi_wp2
    exact hP.out _
  case hdone =>
    rintro D W hD ⟨i1, i2, i3, i4, ⟨lv, x9, l1, l2, l3, l4⟩, ⟨mv, m1, m2⟩⟩ hK
    obtain ⟨la, lc, rfl⟩ := own_slG l3
    obtain ⟨ma, mc, rfl⟩ := own_slG m2
    have c9 : W.cell? ⟨w3.heap.size, 0, none⟩ = some (.slice la (Ck.adds (addMU cs t) (Ck.parts n t)).length lc) := by simp [World.cell?, l1]
    have c11 : W.cell? ⟨w3.heap.size + 1 + 1, 0, none⟩ = some (.int .i64 0) := by simp [World.cell?, i4]
    have c12 : W.cell? ⟨w3.heap.size + 1 + 1 + 1, 0, none⟩ = some (.int .i64 (prtU cs t)) := by show W.cell? ⟨w3.heap.size + 3, 0, none⟩ = _; simp [World.cell?, m1]
    have c13 : W.cell? ⟨w3.heap.size + 1 + 1 + 1, 1, none⟩ = some (.int .i64 t.length) := by show W.cell? ⟨w3.heap.size + 3, 1, none⟩ = _; simp [World.cell?, m1]
    have c14 : W.cell? ⟨w3.heap.size + 1 + 1 + 1, 2, none⟩ = some (.slice ma (Ck.parts n t).length mc) := by show W.cell? ⟨w3.heap.size + 3, 2, none⟩ = _; simp [World.cell?, m1]
    have f0 : W.frozen? ⟨w.heap.size, 0, none⟩ = false := cells_frozen i3 0
    have f1 : W.frozen? ⟨w.heap.size, 1, none⟩ = false := cells_frozen i3 1
    have f2 : W.frozen? ⟨w.heap.size, 2, none⟩ = false := cells_frozen i3 2
    have k0 : W.cell? ⟨w.heap.size, 0, none⟩ = some (.int .i64 0) := by simp [World.cell?, i3]
    have k1 : W.cell? ⟨w.heap.size, 1, none⟩ = some (.int .i64 0) := by simp [World.cell?, i3]
    have k2 : W.cell? ⟨w.heap.size, 2, none⟩ = some (.slice none 0 0) := by simp [World.cell?, i3]
    have hsk : ∀ b i, b ≠ w.heap.size → (((W.setCell ⟨w.heap.size, 0, none⟩ (.int .i64 (prtU cs t))).setCell ⟨w.heap.size, 1, none⟩ (.int .i64 t.length)).setCell ⟨w.heap.size, 2, none⟩ (.slice ma (Ck.parts n t).length mc)).drew.cell? ⟨b, i, none⟩ = W.cell? ⟨b, i, none⟩ := fun b i hb => by
      refine World.cell?_of_block ?_
      show (((W.setCell ⟨w.heap.size, 0, none⟩ (.int .i64 (prtU cs t))).setCell ⟨w.heap.size, 1, none⟩ (.int .i64 t.length)).setCell ⟨w.heap.size, 2, none⟩ (.slice ma (Ck.parts n t).length mc)).heap[b]? = W.heap[b]?
      rw [heap_setCell _ _ _ _ hb, heap_setCell _ _ _ _ hb, heap_setCell _ _ _ _ hb]
    have HSK := Lib.hid (And.intro ((hsk w3.heap.size 0 (by omega)).trans c9) (And.intro ((hsk (w3.heap.size + 1 + 1 + 1) 0 (by omega)).trans c12) (And.intro ((hsk (w3.heap.size + 1 + 1 + 1) 1 (by omega)).trans c13) ((hsk (w3.heap.size + 1 + 1 + 1) 2 (by omega)).trans c14))))
    clear hsk
    have HX := Lib.hid (And.intro i1 (And.intro i3 (And.intro l3 (And.intro m2 hK))))
    clear i1 i3 i4 l1 l2 l3 m1 m2 hK HI hO5 hseq A4 HO3
    go_wp2_with fail
    go_region_held3 (fun z => z.cell? ⟨w3.heap.size, 0, none⟩ = some (.slice la (Ck.adds (addMU cs t) (Ck.parts n t)).length lc) ∧ z.cell? ⟨w3.heap.size + 1 + 1 + 1, 0, none⟩ = some (.int .i64 (prtU cs t)) ∧ z.cell? ⟨w3.heap.size + 1 + 1 + 1, 1, none⟩ = some (.int .i64 t.length) ∧ z.cell? ⟨w3.heap.size + 1 + 1 + 1, 2, none⟩ = some (.slice ma (Ck.parts n t).length mc)) (first | exact HSK.out | go_keep) (fail)
    go_wp2_with fail
    obtain ⟨z1, z2, z3⟩ := of_end (x := .int .i64 (prtU cs t)) (y := .int .i64 t.length) (z := .slice ma (Ck.parts n t).length mc) hgb rfl (by omega) hD HX.out.1 HX.out.2.1 HX.out.2.2.1 HX.out.2.2.2.1 HX.out.2.2.2.2
    refine ⟨by simp, .inl ⟨_, _, rfl, run_takeDeferred z1, ?_⟩⟩
    exact ⟨_, of_results _ _ _ _ _ _ rfl z2, _, _, rfl, z3⟩
  case hstop =>
    rintro D c pre W _ h _
    exact h.elim
end Go.Proofs.YtagmlemlagbfkaaGreatDoor
namespace Go.Proofs.YtagmlemlagbfkaaGreatDoor
open Go.RowKit
set_option linter.unusedVariables false
set_option linter.unusedSimpArgs false
attribute [local irreducible] Calls

set_option maxHeartbeats 1000000 in
set_option maxRecDepth 100000 in
theorem ints_c (lo hi lo2 hi2 : Nat) (v1 v2 : Value) (a b : List Int) (w : World) (h1 : Sl lo hi w v1 (a.map intD)) (h2 : Sl lo2 hi2 w v2 (b.map intD)) (ha : a.length ≤ 1000000000) (hb : b.length ≤ 1000000000) :
    Calls Tryz.prog 53 #[v1, v2] w fun e w' => e = .returned (.bool (decide (a = b))) ∧ Nw w w' := by
  obtain ⟨a1, c1, rfl, -, hc1⟩ := int_cells h1
  obtain ⟨a2, c2, rfl, -, hc2⟩ := int_cells h2
  have HC1 := Lib.hid hc1
  have HC2 := Lib.hid hc2
  have ha1 : (a.length : Int) ≤ 1000000000 := by omega
  have hb1 : (b.length : Int) ≤ 1000000000 := by omega
  clear h1 h2 hc1 hc2
  by_cases hlen : a.length = b.length
  · have hl1 : (a.length == b.length) = true := by simp [hlen]
    have hl2 : (a.length != b.length) = false := by simp [hlen]
    have HLen := Lib.hid hlen
    clear hlen
    go_enter Tryz.func53, Tryz.ntmps53
    go_wp2_with fail
    go_loopw [5] (fun iv wr => ∃ k : Nat, k ≤ a.length ∧ iv = .int .i64 (k : Int) ∧ Hid (∀ i (h : i < a.length) (h' : i < b.length), i < k → a[i] = b[i]) ∧ Hid (Nw w wr)) (fun iv _ => a.length - (intOf iv).toNat)
    case atStart => exact ⟨0, Nat.zero_le _, rfl, fun i _ _ h => by omega, Upd.refl _ _⟩
    case round =>
      obtain ⟨k, hk, rfl, HA, U⟩ := hrel
      by_cases hlt : k < a.length
      · have hlt2 : k < b.length := by have := HLen.out; omega
        rcases HC1.out with hnil | ⟨b1, o1, rfl, _, _, hcell1⟩
        · simp [hnil] at hlt
        rcases HC2.out with hnil | ⟨b2, o2, rfl, _, _, hcell2⟩
        · simp [hnil] at hlt2
        have k1 : ∀ i : Later wr, i.1.cell? ⟨b1, o1 + k, none⟩ = some (.int .i64 a[k]) := fun i => later_cell i (nw_cell U.out (hcell1 k hlt))
        have k2 : ∀ i : Later wr, i.1.cell? ⟨b2, o2 + k, none⟩ = some (.int .i64 b[k]) := fun i => later_cell i (nw_cell U.out (hcell2 k hlt2))
        have hlt3 : (k : Int) < a.length := by omega
        have hlt4 : (k : Int) < b.length := by omega
        have hno : Hid (a[k] ≠ b[k] → a ≠ b) := fun h e => h (by subst e; rfl)
        have hys : Hid (a[k] = b[k] → ∀ i (h : i < a.length) (h' : i < b.length), i < k + 1 → a[i] = b[i]) := fun e i h h' hi => by
          by_cases e2 : i = k
          · subst e2; exact e
          · exact HA.out i h h' (by omega)
        clear hcell1 hcell2
        generalize a[k] = x at *
        generalize b[k] = y at *
        by_cases hxy : x = y
        · have hz := Lib.hid (hys.out hxy)
          have e1 : (x == y) = true := by simp [hxy]
          have e2 : (x != y) = false := by simp [hxy]
          clear hno hys hxy
          go_wp2_with fail
          refine wp_region_nw (by kernel_rfl) (by kernel_rfl) ?_
          repeat (go_big_quiet_step ((fail)))
          refine wpQuiet_nil ?_
          intro w5 u5
          replace u5 := later_out u5
          go_wp2_with fail
          go_roundw
          case rel => exact ⟨k + 1, by omega, by go_num, hz, U.out.trans u5⟩
          case measure => simp [intOf]; omega
        · have hz : Hid (decide (a = b) = false) := decide_eq_false (hno.out hxy)
          have e1 : (x == y) = false := by simp [hxy]
          have e2 : (x != y) = true := by simp [hxy]
          clear hno hys hxy
          go_wp2_with fail
          refine wp_region_nw (by kernel_rfl) (by kernel_rfl) ?_
          repeat (go_big_quiet_step ((fail)))
          refine wpQuiet_nil ?_
          intro w5 u5
          replace u5 := later_out u5
          go_wp2_with fail
          go_ret
          exact ⟨by rw [hz.out]; rfl, U.out.trans u5⟩
      · obtain rfl : k = a.length := by omega
        have hz : Hid (decide (a = b) = true) := decide_eq_true (List.ext_getElem HLen.out (fun i h h' => HA.out i h h' h))
        go_wp2_with fail
        go_ret
        exact ⟨by rw [hz.out]; rfl, U.out⟩
  · have hl1 : (a.length == b.length) = false := by simp [hlen]
    have hl2 : (a.length != b.length) = true := by simp [hlen]
    have hz : Hid (decide (a = b) = false) := decide_eq_false (fun e => hlen (by rw [e]))
    clear hlen
    go_enter Tryz.func53, Tryz.ntmps53
    go_wp2_with fail
    go_ret
    exact ⟨by rw [hz.out]; rfl, Upd.refl _ _⟩
/-! ### cut -/
def otherB : List UInt8 := [111, 116, 104, 101, 114]
theorem owns_lit (w : World) (T : TypeId) (xs : List Value) (h : xs.length ≤ 1000) : (w.alloc (.cells xs.toArray T)).ownsRow w.heap.size T 1 (.slice (some ⟨w.heap.size, 0, none⟩) xs.length xs.length) xs.length xs :=
  ⟨by simp, Or.inr ⟨w.heap.size, xs.length, xs.toArray, rfl, Nat.le_refl _, heap_new w _, Nat.le_refl _, by unfold maxLen; omega, by simp, by simp⟩⟩
theorem cut_results (tmps : Array Value) (w : World) (b : Nat) (x y z : Value) (h5 : tmps.getD 5 undef = .pointer (some ⟨b, 0, none⟩)) (hb : w.heap[b]? = some (.cells #[x, y, z] tMan (0, 0))) : (results Tryz.f35 tmps).run Tryz.prog w = .ok (.tuple #[tmps.getD 4 undef, .agg #[x, y, z], tmps.getD 6 undef]) w := by
  have c0 : w.cell? ⟨b, 0, none⟩ = some x := by simp [World.cell?, hb]
  have c1 : w.cell? ⟨b, 1, none⟩ = some y := by simp [World.cell?, hb]
  have c2 : w.cell? ⟨b, 2, none⟩ = some z := by simp [World.cell?, hb]
  have h8 : tmps[5]?.getD undef = .pointer (some ⟨b, 0, none⟩) := by simpa using h5
  simp [results, Tryz.results35, go_sem, h8, c0, c1, c2]
set_option maxHeartbeats 2000000 in
set_option maxRecDepth 100000 in
theorem cut_c (t : List UInt8) (ht : t.length ≤ 60) (s : Nat) (hs : s < 256) (w : World) (g : Gl w) :
    Calls Tryz.prog 35 #[.string ⟨t.toArray⟩, .int .u8 s] w fun e w' => ∃ v kv, e = .returned (.tuple #[v, .agg #[.int .i64 (Ck.man [otherB] t (s % 9)).print, .int .i64 (Ck.man [otherB] t (s % 9)).size, kv], .bool true]) ∧ OfD w [otherB] t (s % 9) v kv w' := by
  have hgb := g.big
  have n1 := nw_alloc w (.cells #[.int .i64 0, .int .i64 0, .slice none 0 0] tMan)
  have b1 := heap_new w (.cells #[.int .i64 0, .int .i64 0, .slice none 0 0] tMan)
  have o2 := owns_lit (w.alloc (.cells #[.int .i64 0, .int .i64 0, .slice none 0 0] tMan)) tStrMU ([otherB].map bsMU) (by decide)
  have n2 := nw_alloc (w.alloc (.cells #[.int .i64 0, .int .i64 0, .slice none 0 0] tMan)) (.cells ([otherB].map bsMU).toArray tStrMU)
  have h9 : s % 9 ≤ 8 := by omega
  have hO := of_c _ _ [otherB] t (s % 9) h9 _ (g.upd (n1.trans n2)) o2 ⟨by decide, by decide⟩ (by show 1 + _ ≤ 85; omega) (by decide) ht
  have he : (((s % 9 : Nat) : Int) + 1) = 1 + ((s : Int) % 9) := by omega
  rw [he] at hO
  rw [World.size_alloc] at hO
  have HO : Hid (Calls Tryz.prog 102 #[.slice (some ⟨w.heap.size + 1, 0, none⟩) 1 1, .string ⟨t.toArray⟩, .int .i64 (1 + (s : Int) % 9)] ((w.alloc (.cells #[.int .i64 0, .int .i64 0, .slice none 0 0] tMan)).alloc (.cells #[.string ⟨#[111, 116, 104, 101, 114]⟩] 9)) _) := hO
  have HN := Lib.hid (n1.trans n2)
  have HB := Lib.hid (n2.keep b1)
  have hs1 : (s : Int) ≤ 255 := by omega
  clear n1 b1 o2 n2 hO he
  go_enter Tryz.func35, Tryz.ntmps35
  go_wp2_with fail
  (with_reducible refine (HO.out).mono ?_)
  rintro _ w2 ⟨v, kv, rfl, hd⟩
  have b2 := hd.nw.keep HB.out
  have hz2 := lt_of_block b2
  generalize hY1 : (Ck.man [otherB] t (s % 9)).print = mp at *
  generalize hY2 : (Ck.man [otherB] t (s % 9)).size = mz at *
  have HY1 := Lib.hid hY1
  have HY2 := Lib.hid hY2
  clear hY1 hY2
  have NT := HN.out.trans hd.nw
  have hkv := own_slG hd.row
  have hvv := own_slG hd.own
  have f0 := cells_frozen b2 0
  have f1 := cells_frozen b2 1
  have f2 := cells_frozen b2 2
  have k0 := cells_cell b2 0
  have k1 := cells_cell b2 1
  have k2 := cells_cell b2 2
  simp only [List.getElem?_toArray, List.getElem?_cons_succ, List.getElem?_cons_zero] at k0 k1 k2
  have UZ : Upd (fun k => k = w.heap.size) w2 (((w2.setCell ⟨w.heap.size, 0, none⟩ (.int .i64 mp)).setCell ⟨w.heap.size, 1, none⟩ (.int .i64 mz)).setCell ⟨w.heap.size, 2, none⟩ kv) :=
    (((Upd.refl (fun k => k = w.heap.size) _).set1 hgb 0 (.int .i64 mp)).set1 hgb 1 (.int .i64 mz)).set1 hgb 2 kv
  have bz : (((w2.setCell ⟨w.heap.size, 0, none⟩ (.int .i64 mp)).setCell ⟨w.heap.size, 1, none⟩ (.int .i64 mz)).setCell ⟨w.heap.size, 2, none⟩ kv).heap[w.heap.size]? = some (.cells #[.int .i64 mp, .int .i64 mz, kv] tMan (0, 0)) := by
    have h1 := setCell_block b2 0 (.int .i64 mp)
    have h2 := setCell_block h1 1 (.int .i64 mz)
    have h3 := setCell_block h2 2 kv
    simpa using h3
  have hsz : (((w2.setCell ⟨w.heap.size, 0, none⟩ (.int .i64 mp)).setCell ⟨w.heap.size, 1, none⟩ (.int .i64 mz)).setCell ⟨w.heap.size, 2, none⟩ kv).heap.size = w2.heap.size := by simp [World.setCell]
  have bn := heap_new (((w2.setCell ⟨w.heap.size, 0, none⟩ (.int .i64 mp)).setCell ⟨w.heap.size, 1, none⟩ (.int .i64 mz)).setCell ⟨w.heap.size, 2, none⟩ kv) (.cells #[.int .i64 mp, .int .i64 mz, kv] tMan)
  rw [hsz] at bn
  have bn2 := Nw.keep ((Upd.refl (fun _ => False) _).drew) bn
  have na := (nw_alloc (((w2.setCell ⟨w.heap.size, 0, none⟩ (.int .i64 mp)).setCell ⟨w.heap.size, 1, none⟩ (.int .i64 mz)).setCell ⟨w.heap.size, 2, none⟩ kv) (.cells #[.int .i64 mp, .int .i64 mz, kv] tMan)).drew
  have bz2 := Nw.keep na bz
  have HSK : Hid (_ ∧ _ ∧ _) := ⟨(cells_cell bn2 0), (cells_cell bn2 1), (cells_cell bn2 2)⟩
  have HD : Hid (OfD w [otherB] t (s % 9) v kv ((((w2.setCell ⟨w.heap.size, 0, none⟩ (.int .i64 mp)).setCell ⟨w.heap.size, 1, none⟩ (.int .i64 mz)).setCell ⟨w.heap.size, 2, none⟩ kv).alloc (.cells #[.int .i64 mp, .int .i64 mz, kv] tMan)).drew) := by
    have hle : w.heap.size ≤ ((w.alloc (.cells #[.int .i64 0, .int .i64 0, .slice none 0 0] tMan)).alloc (.cells ([otherB].map bsMU).toArray tStrMU)).heap.size := by simp; omega
    refine ⟨(NT.trans' UZ (fun k hk e => by omega)).trans na, owns_base (owns_upd' (owns_upd' hd.own UZ (fun k e e2 => ?_)) na (fun _ _ e => e)) hle, owns_base (owns_upd' (owns_upd' hd.row UZ (fun k e e2 => ?_)) na (fun _ _ e => e)) hle⟩
    · have := (hd.own.lt k e).1; simp at this; omega
    · have := (hd.row.lt k e).1; simp at this; omega
  obtain ⟨a1, cc1, rfl⟩ := hvv
  obtain ⟨a2, cc2, rfl⟩ := hkv
  have HBZ := Lib.hid bz2
  clear hd b2 na bn NT UZ bz bn2 HO bz2 hsz
  go_wp2_with fail
  go_region_held3 (fun y => y.cell? ⟨w2.heap.size, 0, none⟩ = some (.int .i64 mp) ∧ y.cell? ⟨w2.heap.size, 1, none⟩ = some (.int .i64 mz) ∧ y.cell? ⟨w2.heap.size, 2, none⟩ = some (.slice a2 (Ck.man [otherB] t (s % 9)).chunks.length cc2)) (first | exact HSK.out | go_keep) (fail)
  go_wp2_with fail
  (try simp only [Exit.inBlock, Exit.then])
  refine bodyPost_ret (cut_results _ _ _ _ _ _ rfl HBZ.out) rfl ?_
  exact ⟨_, _, by rw [HY1.out, HY2.out]; rfl, HD.out⟩
end Go.Proofs.YtagmlemlagbfkaaGreatDoor
namespace Go.Proofs.YtagmlemlagbfkaaGreatDoor
open Go.RowKit
set_option linter.unusedVariables false
set_option linter.unusedSimpArgs false
attribute [local irreducible] Calls

def wdB (a b : List Int) : Bool := a.all fun x => decide (x ∈ b)
theorem wd_no {a b : List Int} {i : Nat} (h : i < a.length) (hn : a[i] ∉ b) : wdB a b = false := by
  cases hc : wdB a b with
  | false => rfl
  | true =>
    unfold wdB at hc
    rw [List.all_eq_true] at hc
    exact absurd (of_decide_eq_true (hc _ (List.getElem_mem h))) hn
theorem wd_yes {a b : List Int} (h : ∀ i (h : i < a.length), a[i] ∈ b) : wdB a b = true := by
  unfold wdB
  rw [List.all_eq_true]
  intro x hx
  obtain ⟨i, hi, rfl⟩ := List.mem_iff_getElem.1 hx
  exact decide_eq_true (h i hi)
theorem mem_take_succ {b : List Int} {k : Nat} (h : k < b.length) (x : Int) : decide (x ∈ b.take (k + 1)) = (decide (x ∈ b.take k) || decide (x = b[k])) := by
  rw [List.take_succ_eq_append_getElem h, Bool.eq_iff_iff, decide_eq_true_iff, Bool.or_eq_true, decide_eq_true_iff, decide_eq_true_iff, List.mem_append, List.mem_singleton]
set_option maxHeartbeats 2000000 in
set_option maxRecDepth 100000 in
theorem within_c (lo hi lo2 hi2 : Nat) (v1 v2 : Value) (a b : List Int) (w : World) (h1 : Sl lo hi w v1 (a.map intD)) (h2 : Sl lo2 hi2 w v2 (b.map intD)) (ha : a.length ≤ 1000000000) (hb : b.length ≤ 1000000000) :
    Calls Tryz.prog 40 #[v1, v2] w fun e w' => e = .returned (.bool (wdB a b)) ∧ Nw w w' := by
  obtain ⟨a1, c1, rfl, -, hc1⟩ := int_cells h1
  obtain ⟨a2, c2, rfl, -, hc2⟩ := int_cells h2
  have HC1 := Lib.hid hc1
  have HC2 := Lib.hid hc2
  have ha1 : (a.length : Int) ≤ 1000000000 := by omega
  have hb1 : (b.length : Int) ≤ 1000000000 := by omega
  clear h1 h2 hc1 hc2
  go_enter Tryz.func40, Tryz.ntmps40
  go_wp2_with fail
  go_loopw [5] (fun iv wr => ∃ i : Nat, i ≤ a.length ∧ iv = .int .i64 (i : Int) ∧ Hid (∀ k (h : k < a.length), k < i → a[k] ∈ b) ∧ Hid (Nw w wr)) (fun iv _ => a.length - (intOf iv).toNat)
  case atStart => exact ⟨0, Nat.zero_le _, rfl, fun k _ h => by omega, Upd.refl _ _⟩
  case round =>
    obtain ⟨i, hi, rfl, HA, U⟩ := hrel
    by_cases hlt : i < a.length
    · rcases HC1.out with hnil | ⟨b1, o1, rfl, _, _, hcell1⟩
      · simp [hnil] at hlt
      have c0 := nw_cell U.out (hcell1 i hlt)
      have hlt3 : (i : Int) < a.length := by omega
      have hno : Hid (a[i] ∉ b → wdB a b = false) := fun h => wd_no hlt h
      have hys : Hid (a[i] ∈ b → ∀ k (h : k < a.length), k < i + 1 → a[k] ∈ b) := fun e k h hk => by
        by_cases e2 : k = i
        · subst e2; exact e
        · exact HA.out k h (by omega)
      clear hcell1
      generalize a[i] = x at *
      obtain ⟨wo, hwo⟩ : ∃ y, y = wr := ⟨_, rfl⟩
      subst hwo
      go_wp2_with fail
      go_loopw [6, 7] (fun fv kv wr => ∃ (k : Nat) (f : Bool), k ≤ b.length ∧ kv = .int .i64 (k : Int) ∧ fv = .bool f ∧ Hid (f = decide (x ∈ b.take k)) ∧ Hid (Nw wo wr)) (fun fv kv _ => b.length - (intOf kv).toNat)
      case atStart => exact ⟨0, false, Nat.zero_le _, rfl, rfl, by show _ = _; simp, Upd.refl _ _⟩
      case round =>
        obtain ⟨k, f, hk, rfl, rfl, HF, UI⟩ := hrel
        by_cases hkl : k < b.length
        · rcases HC2.out with hnil | ⟨b2, o2, rfl, _, _, hcell2⟩
          · simp [hnil] at hkl
          have hkl1 : (k : Int) < b.length := by omega
          have c1 := nw_cell (U.out.trans UI.out) (hcell2 k hkl)
          have k0 : ∀ j : Later wr, j.1.cell? ⟨b1, o1 + i, none⟩ = some (.int .i64 x) := fun j => later_cell j (nw_cell UI.out c0)
          have k1 : ∀ j : Later wr, j.1.cell? ⟨b2, o2 + k, none⟩ = some (.int .i64 b[k]) := fun j => later_cell j c1
          have hst := mem_take_succ hkl x
          rw [← HF.out] at hst
          have HST := Lib.hid hst
          clear hcell2 hst HF c1
          generalize b[k] = y at *
          cases f with
          | true =>
            have hf2 : Hid (true = decide (x ∈ b.take (k + 1))) := by show _ = _; rw [HST.out]; rfl
            clear HST
            go_wp2_with fail
            refine wp_region_nw (by kernel_rfl) (by kernel_rfl) ?_
            repeat (go_big_quiet_step ((fail)))
            refine wpQuiet_nil ?_
            intro w5 u5
            replace u5 := later_out u5
            go_wp2_with fail
            go_roundw
            case rel => exact ⟨k + 1, true, by omega, by go_num, rfl, hf2, UI.out.trans u5⟩
            case measure => simp [intOf]; omega
          | false =>
            have hxy : (x == y) = decide (x = y) := by rw [Bool.eq_iff_iff]; simp
            have hf2 : Hid ((x == y) = decide (x ∈ b.take (k + 1))) := by show _ = _; rw [HST.out, hxy]; rfl
            clear HST hxy
            go_wp2_with fail
            refine wp_region_nw (by kernel_rfl) (by kernel_rfl) ?_
            repeat (go_big_quiet_step ((fail)))
            refine wpQuiet_nil ?_
            intro w5 u5
            replace u5 := later_out u5
            go_wp2_with fail
            go_roundw
            case rel => exact ⟨k + 1, (x == y), by omega, by go_num, rfl, hf2, UI.out.trans u5⟩
            case measure => simp [intOf]; omega
        · obtain rfl : k = b.length := by omega
          have hf := HF.out
          rw [List.take_length] at hf
          clear HF
          cases f with
          | true =>
            have hz := Lib.hid (hys.out (of_decide_eq_true hf.symm))
            clear hf hno hys
            go_wp2_with fail
            go_roundw
            case rel => exact ⟨i + 1, by omega, by go_num, hz, U.out.trans UI.out⟩
            case measure => simp [intOf]; omega
          | false =>
            have hz := Lib.hid (hno.out (of_decide_eq_false hf.symm))
            clear hf hno hys
            go_wp2_with fail
            go_ret
            exact ⟨by rw [hz.out]; rfl, U.out.trans UI.out⟩
    · obtain rfl : i = a.length := by omega
      have hz : Hid (wdB a b = true) := wd_yes (fun k h => HA.out k h h)
      go_wp2_with fail
      go_ret
      exact ⟨by rw [hz.out]; rfl, U.out⟩
end Go.Proofs.YtagmlemlagbfkaaGreatDoor
