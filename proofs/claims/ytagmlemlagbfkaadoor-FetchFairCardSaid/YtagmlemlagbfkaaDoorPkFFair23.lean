/- The example of chapter 38, in plain words; a fetch on a calm disk. A range over a function whose iterator writes a block of its own (bt) and reads others (S) between two rounds: its contract, and the statement's law, at the wide fence. chunk.parts as an iterator. -/
import Derived.Test.YtagmlemlagbfkaaDoorPkFFair14
import Derived.Test.YtagmlemlagbfkaaDoorPkFFair17
import Derived.Test.YtagmlemlagbfkaaDoorPkFFair13
import Derived.Test.YtagmlemlagbfkaaDoorPkFFair0
import Derived.RangeFuncKeeps
import Derived.Test.YtagmlemlagbfkaaDoorPkFFair2
import Derived.RangeFuncNested
import Derived.RangeFuncBound
import Derived.RangeFuncCalls
import Derived.RangeFuncLeaves
import Derived.Shelf.Abstract
import Derived.Shelf.RegionOpen
import Derived.WalkKit
import Derived.OwnWalkIn
import Derived.TacticsInMore
import Derived.LoopNIn
import Derived.LoopIn
namespace Go.Proofs.YtagmlemlagbfkaaDoor
set_option linter.unusedVariables false
set_option linter.unusedSimpArgs false

namespace Ft
open Dk (Disk)
open Jr (Jn forms form)
def xcs : List (List UInt8) := [[97, 98, 99, 100], [97, 98], [99, 100]]
def xm : Ck.Man := ⟨0, 4, [1, 2]⟩
def xj0 : Jn := ⟨0, [], false⟩
def xj1 : Jn := ⟨0, [[99, 100]], false⟩
def xj2 : Jn := ⟨0, [[99, 100], [97, 98]], false⟩
def xE1 : Disk := (fopen Dk.new 0 xcs xm).1
def xE2 : Disk := (take xE1 xcs xm xj0 1 [99, 100]).1
def xE3 : Disk := (take xE2 xcs xm xj1 0 [97, 98]).1
theorem y1 : fopen Dk.new 0 xcs xm = (xE1, some xj0, 0) := Prod.ext rfl (Prod.ext (Jr.jo_eq (by decide +kernel)) (by decide +kernel))
theorem y2 : take xE1 xcs xm xj0 0 [99, 100] = (xE1, xj0, 28) := by unfold take; rw [if_neg (by decide), if_pos (by decide)]
theorem y3 : take xE1 xcs xm xj0 2 [97, 98] = (xE1, xj0, 3) := by unfold take; rw [if_pos (by decide)]
theorem y4 : take xE1 xcs xm xj0 1 [99, 100] = (xE2, xj1, 0) := Prod.ext rfl (Prod.ext (Jr.jn_eq (by decide +kernel)) (by decide +kernel))
theorem y5 : gone xcs xm xj1 = [0] ∧ ftext xcs xm xj1 = ([], 33) := by decide +kernel
theorem y6 : take xE2 xcs xm xj1 0 [97, 98] = (xE3, xj2, 0) := Prod.ext rfl (Prod.ext (Jr.jn_eq (by decide +kernel)) (by decide +kernel))
theorem y7 : ftext xcs xm xj2 = ([97, 98, 99, 100], 0) := by decide +kernel
theorem y8 : plan [1, 2] [[1, 2], [2]] = ([0, 1], 0) ∧ plan [1, 2] [[1], []] = ([], 33) ∧ miss [1, 2] [1] = [1] := by decide +kernel

/-- A journal in order, on a calm disk. -/
structure Up (D : Disk) (j : Jn) : Prop where
  calm : Jr.Calm D
  file : 0 ≤ j.file ∧ j.file < 16
  ok : j.broken = false
  now : (D.fs j.file).now = forms j.recs
theorem Up.append {D : Disk} {j : Jn} (h : Up D j) {s : List UInt8} (hs : s.length ≤ 1000) (hl : (forms j.recs).length ≤ 1000000) :
    ∃ D', Jr.append D j s = (D', { j with recs := j.recs ++ [s] }, 0) ∧ Up D' { j with recs := j.recs ++ [s] } ∧ ∀ g, g ≠ j.file → D'.fs g = D.fs g := by
  have hf := Jr.form_len s (by omega)
  obtain ⟨w1, w2, w3, w4⟩ := h.calm.write h.file (n := (forms j.recs).length) (s := form s) (by omega)
  refine ⟨(Dk.write D j.file (forms j.recs).length (form s)).1, ?_, ⟨w2, h.file, h.ok, ?_⟩, w4⟩
  · unfold Jr.append
    rw [if_neg (by rw [h.ok]; decide), if_neg (by omega), if_neg (by omega), w1, if_neg (by decide)]
  · show (((Dk.write D j.file (forms j.recs).length (form s)).1).fs j.file).now = forms (j.recs ++ [s])
    rw [w3, h.now, Jr.put_end, Jr.forms_snoc]
end Ft
end Go.Proofs.YtagmlemlagbfkaaDoor
namespace Go.Proofs.YtagmlemlagbfkaaDoor
open Go.RowKit

theorem upd_putObj (W : World) (l : Nat) (o : Obj) : nG ≤ l → Upd (fun k => k = l) W (W.putObj l o) := fun hg =>
  ⟨rfl, rfl, rfl, by simp, fun k _ hn => World.putObj_heap_other (by rintro rfl; rcases hn with h | h <;> first | omega | exact h rfl)⟩

/-- The iterator: it yields xs one by one, turning block bt alone between two rounds. -/
def SeqB {α : Type} (P : Program) (gf : Nat) (lb : Array Value) (encs : α → Array Value) (bt : Nat) (S : Nat → Prop) (xs : List α) (w : World) : Prop :=
  ∀ (l : Nat) (J Jx : List α → World → Prop) (W : World), Nw w W →
    (∀ s A B, J s A → Upd (fun k => k = bt) A B → J s B) → (∀ s A B, Jx s A → Upd (fun k => k = bt) A B → Jx s B) →
    (∀ pre x rest W1, xs = pre ++ x :: rest → J pre W1 → YieldAt Fence.wide 0 P l (encs x) W1 fun e W' =>
      (e = .returned (.bool true) ∧ J (pre ++ [x]) W' ∧ ∀ b, S b → W'.heap[b]? = W1.heap[b]?) ∨ (e = .returned (.bool false) ∧ Jx (pre ++ [x]) W')) →
    J [] W →
    Calls P gf (#[.func (.yield l) #[] #[]] ++ lb) W fun e W' => (∃ v, e = .returned v) ∧ (J xs W' ∨ ∃ pre, Jx pre W')

/-- How a round's body may be left: the loop's own blocks lie as they lay, and the iterator's where it goes on. -/
def postB {α : Type} (n : Nat) (S : Nat → Prop) (I : List α → World → Prop) (Ix : Code → List α → World → Prop) (xs : List α) (W : World) : Exit → Act → World → Prop
  | .normal, _, W' => (∀ k o, n ≤ k → W.heap[k]? = some o → o.isCells = false → W'.heap[k]? = some o) ∧ (∀ b, S b → W'.heap[b]? = W.heap[b]?) ∧ I xs W'
  | .ret, _, W' => (∀ k o, n ≤ k → W.heap[k]? = some o → o.isCells = false → W'.heap[k]? = some o) ∧ Ix .ret xs W'
  | .exit id, _, W' => (∀ k o, n ≤ k → W.heap[k]? = some o → o.isCells = false → W'.heap[k]? = some o) ∧ Ix (.exit id) xs W'
  | .goto t, _, W' => (∀ k o, n ≤ k → W.heap[k]? = some o → o.isCells = false → W'.heap[k]? = some o) ∧ Ix (.goto t) xs W'
  | .panic _, _, _ => False
  | .outgrown, _, _ => False

/-- What a caller's word abides: a turn of the iterator's block, or of one that holds no cells and was laid since. -/
def Bears {α : Type} (n bt : Nat) (I : List α → World → Prop) : Prop :=
  ∀ s A B b, I s A → Upd (fun k => k = b) A B → (b = bt ∨ n ≤ b ∧ ∃ o, A.heap[b]? = some o ∧ o.isCells = false) → I s B

set_option maxHeartbeats 1000000 in
theorem wp_rangeFuncB {α : Type} {P : Program} {g : Operand} {ps : Array Tmp} {assign body : Code} {Q : Exit → Act → World → Prop} {a : Act} {w : World}
    {gf : Nat} {lb : Array Value} (hg : a.eval g = .func (.func gf) #[] lb) (eg : ∀ args w, (callFunc gf args).run P w = .ok (.enter gf args) w)
    {encs : α → Array Value} {bt : Nat} {S : Nat → Prop} {xs : List α} (hseq : SeqB P gf lb encs bt S xs w) (hbig : nG ≤ w.heap.size) (hbt : bt < w.heap.size) (hS : ∀ b, S b → b < w.heap.size) (hps : ∀ x, (encs x).size = ps.size)
    (I : List α → World → Prop) (Ix : Code → List α → World → Prop) (hI : Bears w.heap.size bt I) (hIx : ∀ c, Bears w.heap.size bt (Ix c)) (h0 : I [] w) (a₁ : α → Act)
    (hassign : ∀ (l : Nat) (x : α) (W : World) (K : Act → World → Prop), K (a₁ x) W →
      assign.wpIn (Fence.wide.inRound l) 0 P (Exit.then K (fun _ _ _ => False)) { tmps := (ps.zip (encs x)).foldl (fun t (p, v) => t.setIfInBounds p v) a.tmps, defers := [] } W)
    (hbody : ∀ (l : Nat) (pre : List α) (x : α) (rest : List α) (W : World), xs = pre ++ x :: rest → I pre W → body.wpIn (Fence.wide.inRound l) 0 P (postB w.heap.size S I Ix (pre ++ [x]) W) (a₁ x) W)
    (hdone : ∀ (D : Nat) (W : World), w.heap.size ≤ D → I xs W → W.heap[D]? = some (.deferred (some [])) → Q .normal { a with defers := { target := .collected D, args := #[] } :: a.defers } W)
    (hstop : ∀ (D : Nat) (c : Code) (pre : List α) (W : World), w.heap.size ≤ D → Ix c pre W → W.heap[D]? = some (.deferred (some [])) → c.wp P Q { a with defers := { target := .collected D, args := #[] } :: a.defers } W) :
    (Code.rangeFunc g ps assign body).wp P Q a w := by
  refine (wpIn_wide (n := 0)).1 (wpIn_rangeFunc ?_)
  intro fn hfn
  obtain ⟨rec, hrec⟩ : ∃ rec : LoopState → Option Code → Loop, rec = fun st pe => { state := st, pending := pe, fn, tmps := a.tmps, params := ps, assign, body, defers := w.heap.size } := ⟨_, rfl⟩
  obtain ⟨W1, hW1⟩ : ∃ W1, (w.alloc (.deferred (some []))).alloc (.loop (rec .ready none)) = W1 := ⟨_, rfl⟩
  have hL1 : W1.heap[w.heap.size + 1]? = some (.loop (rec .ready none)) := by
    rw [← hW1]; have := World.alloc_heap_new (w.alloc (.deferred (some []))) (.loop (rec .ready none)); rwa [World.size_alloc] at this
  have hK1 : W1.heap[w.heap.size]? = some (.deferred (some [])) := by
    rw [← hW1]; exact (heap_alloc _ _ _ (by simp)).trans (World.alloc_heap_new w _)
  have hu1 : ∀ T : Nat → Prop, Upd T w W1 := fun T => by rw [← hW1]; exact ((Upd.refl T w).alloc _).alloc _
  have hI1 : I [] W1 := hI _ _ _ bt h0 (hu1 _) (Or.inl rfl)
  refine ⟨w.heap.size + 1, [{ target := .collected w.heap.size, args := #[] }], W1, { target := .fn (.func gf) lb, args := #[.func (.yield (w.heap.size + 1)) #[] #[]] }, W1, gf,
    #[.func (.yield (w.heap.size + 1)) #[] #[]] ++ lb, W1, ?_, ?_, fun _ _ => trivial, ?_, fun h => (by cases h), ?_⟩
  · rw [← hW1, hrec]; exact run_enterLoop_outer _ _ _ _ _
  · simp only [resolve, hg]
    simp [go_sem]
  · simp [invoke, go_sem, eg]
  refine callsIn_wide.2 ?_
  have turn : ∀ {c : List α → World → Prop} (_ : Bears w.heap.size bt c) (s : List α) (A : World) (k : Nat) (o o' : Obj), c s A → w.heap.size ≤ k → A.heap[k]? = some o → o.isCells = false → c s (A.putObj k o') :=
    fun {c} hc s A k o o' hs hk ho hn => hc s A _ k hs (upd_putObj A k o' (by omega)) (Or.inr ⟨hk, o, ho, hn⟩)
  refine (hseq (w.heap.size + 1)
    (fun pre W => I pre W ∧ W.heap[w.heap.size + 1]? = some (.loop (rec .ready none)) ∧ W.heap[w.heap.size]? = some (.deferred (some [])))
    (fun pre W => ∃ c, Ix c pre W ∧ W.heap[w.heap.size + 1]? = some (.loop (rec .done (some c))) ∧ W.heap[w.heap.size]? = some (.deferred (some [])))
    W1 (hu1 _)
    (fun s A B hs u => ⟨hI s A B bt hs.1 u (Or.inl rfl), u.keep hs.2.1 (by omega), u.keep hs.2.2 (by omega)⟩)
    (fun s A B hs u => by
      obtain ⟨c, hc, hl, hk⟩ := hs
      exact ⟨c, hIx c s A B bt hc u (Or.inl rfl), u.keep hl (by omega), u.keep hk (by omega)⟩)
    ?_ ⟨hI1, hL1, hK1⟩).mono ?_
  · rintro pre x rest W hxs ⟨hi, hl, hk⟩
    have hlt : w.heap.size + 1 < W.heap.size := (Array.getElem?_eq_some_iff.1 hl).1
    have hy := run_yield (P := P) (args := encs x) hl (by rw [hrec]; exact hps x)
    rw [hrec] at hy
    refine ⟨fn, _, assign, body, hy, roundIn_of_wpIn hfn (hassign _ x W _ ⟨_, run_beginRound hl (by rw [hrec]), ?_⟩)⟩
    have hl2 : (W.putObj (w.heap.size + 1) (.loop { rec .ready none with state := .busy })).heap[w.heap.size + 1]? = some (.loop { rec .ready none with state := .busy }) := World.putObj_heap_same hlt
    have hk2 : (W.putObj (w.heap.size + 1) (.loop { rec .ready none with state := .busy })).heap[w.heap.size]? = some (.deferred (some [])) := (World.putObj_heap_other (by omega)).trans hk
    refine wpIn_mono (hbody _ pre x rest _ hxs (turn hI _ _ _ _ _ hi (by omega) hl rfl)) ?_
    have fin : ∀ (jump : Option Code) (W3 : World), (∀ k o, w.heap.size ≤ k → (W.putObj (w.heap.size + 1) (.loop { rec .ready none with state := .busy })).heap[k]? = some o → o.isCells = false → W3.heap[k]? = some o) →
        (Instr.endRound (w.heap.size + 1) jump).run P W3 = .ok (.bool jump.isNone) (W3.putObj (w.heap.size + 1) (.loop (rec (if jump.isNone then .ready else .done) jump))) ∧
        W3.heap[w.heap.size + 1]? = some (.loop { rec .ready none with state := .busy }) ∧
        (W3.putObj (w.heap.size + 1) (.loop (rec (if jump.isNone then .ready else .done) jump))).heap[w.heap.size + 1]? = some (.loop (rec (if jump.isNone then .ready else .done) jump)) ∧
        (W3.putObj (w.heap.size + 1) (.loop (rec (if jump.isNone then .ready else .done) jump))).heap[w.heap.size]? = some (.deferred (some [])) := fun jump W3 hk3 => by
      have hl3 := hk3 _ _ (by omega) hl2 rfl
      have := run_endRound (P := P) jump hl3
      rw [hrec] at this ⊢
      exact ⟨this, by rw [hrec] at hl3; exact hl3, World.putObj_heap_same (Array.getElem?_eq_some_iff.1 hl3).1, (World.putObj_heap_other (by omega)).trans (hk3 _ _ (Nat.le_refl _) hk2 rfl)⟩
    rintro e a3 W3 hp
    cases e with
    | normal =>
      obtain ⟨hk3, hs3, hi3⟩ := hp
      obtain ⟨hr, hl3, hl4, hk4⟩ := fin none W3 hk3
      refine ⟨_, _, hr, .inl ⟨rfl, ⟨turn hI _ _ _ _ _ hi3 (by omega) hl3 rfl, hl4, hk4⟩, fun b hb => ?_⟩⟩
      have := hS b hb
      exact (World.putObj_heap_other (by omega)).trans ((hs3 b hb).trans (World.putObj_heap_other (by omega)))
    | ret =>
      obtain ⟨hk3, hi3⟩ := hp
      obtain ⟨hr, hl3, hl4, hk4⟩ := fin (some .ret) W3 hk3
      exact ⟨_, _, hr, .inr ⟨rfl, .ret, turn (hIx _) _ _ _ _ _ hi3 (by omega) hl3 rfl, hl4, hk4⟩⟩
    | exit id =>
      obtain ⟨hk3, hi3⟩ := hp
      obtain ⟨hr, hl3, hl4, hk4⟩ := fin (some (.exit id)) W3 hk3
      exact ⟨_, _, hr, .inr ⟨rfl, .exit id, turn (hIx _) _ _ _ _ _ hi3 (by omega) hl3 rfl, hl4, hk4⟩⟩
    | goto t =>
      obtain ⟨hk3, hi3⟩ := hp
      obtain ⟨hr, hl3, hl4, hk4⟩ := fin (some (.goto t)) W3 hk3
      exact ⟨_, _, hr, .inr ⟨rfl, .goto t, turn (hIx _) _ _ _ _ _ hi3 (by omega) hl3 rfl, hl4, hk4⟩⟩
    | panic ch => exact hp.elim
    | outgrown => exact hp.elim
  · rintro e W2 ⟨⟨v, rfl⟩, (⟨hi, hl, hk⟩ | ⟨pre, c, hi, hl, hk⟩)⟩
    · exact ⟨none, _, by have := run_endLoop (P := P) hl (by rw [hrec]; simp); rw [hrec] at this; exact this, hdone _ _ (Nat.le_refl _) (turn hI _ _ _ _ _ hi (by omega) hl rfl) ((World.putObj_heap_other (by omega)).trans hk)⟩
    · exact ⟨some c, _, by have := run_endLoop (P := P) hl (by rw [hrec]; simp); rw [hrec] at this; exact this, (wpIn_wide (n := 0)).2 (hstop _ c pre _ (Nat.le_refl _) (turn (hIx c) _ _ _ _ _ hi (by omega) hl rfl) ((World.putObj_heap_other (by omega)).trans hk))⟩
end Go.Proofs.YtagmlemlagbfkaaDoor
namespace Go.Proofs.YtagmlemlagbfkaaDoor
open Go.RowKit Go.Shelf
set_option linter.unusedVariables false
set_option linter.unusedSimpArgs false
attribute [local go_sem] Oper.semAt_some

def lenAt (b : Nat) (w : World) : Nat := match w.cell? ⟨b, 0, none⟩ with
  | some (.string s) => s.data.toList.length
  | _ => 0
theorem lenAt_eq {b : Nat} {w : World} {l : List UInt8} (h : w.cell? ⟨b, 0, none⟩ = some (.string ⟨l.toArray⟩)) : lenAt b w = l.length := by
  unfold lenAt; rw [h]

theorem drop_min {α : Type} (r : List α) (k : Nat) : r.drop (min k r.length) = r.drop k := by
  by_cases h : k ≤ r.length
  · rw [Nat.min_eq_left h]
  · rw [Nat.min_eq_right (by omega), List.drop_eq_nil_of_le (Nat.le_refl _), List.drop_eq_nil_of_le (by omega)]
theorem take_min {α : Type} (r : List α) (k : Nat) : r.take (min k r.length) = r.take k := by
  by_cases h : k ≤ r.length
  · rw [Nat.min_eq_left h]
  · rw [Nat.min_eq_right (by omega), List.take_of_length_le (Nat.le_refl _), List.take_of_length_le (by omega)]

set_option maxHeartbeats 4000000 in
set_option maxRecDepth 100000 in
theorem parts1_seq (bt bs : Nat) (n : Nat) (hn : n ≤ 8) (t : List UInt8) (ht : t.length ≤ 60) (w : World) (hbt : w.heap[bt]? = some (.cells #[.string ⟨t.toArray⟩] tStrU (0, 0)))
    (hbs : w.heap[bs]? = some (.cells #[.int .i64 ((n : Int) + 1)] 3 (0, 0))) (hne : bt ≠ bs) (hg : nG ≤ bt) :
    SeqB Tryd.prog 45 #[.pointer (some ⟨bt, 0, none⟩), .pointer (some ⟨bs, 0, none⟩)] (fun x : List UInt8 => #[.string ⟨x.toArray⟩]) bt (fun b => b = bt ∨ b = bs) (Ck.parts n t) w := by
  intro l J Jx W u hJ hJx hY h0
  refine (callsIn_wide (n := 0)).1 ?_
  have e1 := Nw.keep u hbt
  have e2 := Nw.keep u hbs
  have hn1 : (n : Int) ≤ 8 := by omega
  refine callsIn_of_wp Tryd.func45 rfl trivial ?_ rfl
  simp only [Tryd.ntmps45, List.size_toArray, List.length_cons, List.length_nil, Nat.reduceAdd, Nat.reduceSub, Array.replicate_succ, Array.replicate_zero, List.push_toArray, List.append_toArray, List.nil_append, List.cons_append]
  gi_wp2
  gi_loopw [4] (fun (_ : Value) wr => ∃ (pre : List (List UInt8)) (r : List UInt8), Ck.parts n t = pre ++ Ck.parts n r ∧ r.length ≤ 60 ∧ wr.heap[bt]? = some (.cells #[.string ⟨r.toArray⟩] tStrU (0, 0)) ∧ wr.heap[bs]? = some (.cells #[.int .i64 ((n : Int) + 1)] 3 (0, 0)) ∧ J pre wr)
    (fun (_ : Value) wr => lenAt bt wr)
  case atStart => exact ⟨[], t, rfl, ht, e1, e2, h0⟩
  case round =>
    obtain ⟨pre, r, hpr, hr, b1, b2, hJs⟩ := hrel
    have c1 : wr.cell? ⟨bt, 0, none⟩ = some (.string ⟨r.toArray⟩) := by simp [World.cell?, b1]
    have c2 : wr.cell? ⟨bs, 0, none⟩ = some (.int .i64 ((n : Int) + 1)) := by simp [World.cell?, b2]
    by_cases hz : r = []
    · subst hz
      rw [Ck.parts_nil, List.append_nil] at hpr
      gi_wp2
      go_end0
      exact ⟨⟨_, rfl⟩, .inl (by rw [hpr]; exact hJs)⟩
    · have hne0 : r.isEmpty = false := by cases r <;> simp_all
      have hr1 : (r.length : Int) ≤ 60 := by omega
      have hpos : (0 : Int) < r.length := by have : r.length ≠ 0 := fun e => hz (List.length_eq_zero_iff.1 e); omega
      obtain ⟨fn, tmps, assign, body, hy, hR⟩ := hY pre (r.take (n + 1)) (Ck.parts n (r.drop (n + 1))) wr (by rw [hpr, Ck.parts_cons n hz]) hJs
      have hmn : (min ((n : Int) + 1) (r.length : Int)).toNat = min (n + 1) r.length := by omega
      have hE : (⟨(r.take (n + 1)).toArray⟩ : ByteArray) = (⟨r.toArray⟩ : ByteArray).extract 0 (min ((n : Int) + 1) (r.length : Int)).toNat := by
        rw [hmn]; exact (bs_extract r 0 _).trans (by rw [List.drop_zero, Nat.sub_zero, take_min]) |>.symm
      rw [hE] at hy
      clear hE
      have HM := Lib.hid hmn
      clear hmn

      gi_wp2
      refine ⟨rfl, hR.mono ?_⟩
      rintro e W3 (⟨rfl, hJ3, hk3⟩ | ⟨rfl, hJx3⟩)
      · have d1 := (hk3 bt (Or.inl rfl)).trans b1
        have d2 := (hk3 bs (Or.inr rfl)).trans b2
        have c3 : W3.cell? ⟨bt, 0, none⟩ = some (.string ⟨r.toArray⟩) := by simp [World.cell?, d1]
        have f3 : W3.frozen? ⟨bt, 0, none⟩ = false := by simp [World.frozen?, d1]
        have hX : Hid ((⟨r.toArray⟩ : ByteArray).extract (min ((n : Int) + 1) (r.length : Int)).toNat r.length = ⟨(r.drop (n + 1)).toArray⟩) := by
          show _ = _
          rw [HM.out, bs_extract, drop_min, List.take_of_length_le (by rw [List.length_drop]; omega)]
        have hbb := setCell_block d1 0 (.string ⟨(r.drop (n + 1)).toArray⟩)
        have hbb2 := (heap_setCell W3 ⟨bt, 0, none⟩ (.string ⟨(r.drop (n + 1)).toArray⟩) bs (Ne.symm hne)).trans d2
        have hJ4 := hJ _ _ _ hJ3 ((Upd.refl (fun k => k = bt) W3).set1 hg 0 (.string ⟨(r.drop (n + 1)).toArray⟩))
        have HB := Lib.hid (show (W3.setCell ⟨bt, 0, none⟩ (.string ⟨(r.drop (n + 1)).toArray⟩)).heap[bt]? = some (.cells #[.string ⟨(r.drop (n + 1)).toArray⟩] tStrU (0, 0)) from hbb)
        have HB2 := Lib.hid hbb2
        have HJ4 := Lib.hid hJ4
        have HPR := Lib.hid (show Ck.parts n t = (pre ++ [r.take (n + 1)]) ++ Ck.parts n (r.drop (n + 1)) by rw [hpr, Ck.parts_cons n hz, List.append_assoc]; rfl)
        clear hbb hbb2 hJ4
        gi_wp2
        go_roundw
        case rel => rw [hX.out]; exact ⟨_, r.drop (n + 1), HPR.out, by rw [List.length_drop]; omega, HB.out, HB2.out, HJ4.out⟩
        case measure =>
          rw [hX.out]
          rw [lenAt_eq c1, lenAt_eq (l := r.drop (n + 1)) (by have := HB.out; simp [World.cell?, this]), List.length_drop]
          omega
      · gi_wp2
        refine bodyPost_ret (results_none rfl _ _ _) rfl ?_
        exact ⟨⟨_, rfl⟩, .inr ⟨_, hJx3⟩⟩
end Go.Proofs.YtagmlemlagbfkaaDoor
