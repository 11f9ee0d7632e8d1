/- A range over a function whose iterator writes a block of its own (bt) and reads others (S) between two rounds: its contract, and the statement's law, at the wide fence. -/
import Derived.Test.YtjlgmoemnhmgmaaGreatDoorPkWTells1
import Derived.RangeFuncKeeps
namespace Go.Proofs.YtjlgmoemnhmgmaaGreatDoor
open Go.RowKit

theorem upd_putObj (W : World) (l : Nat) (o : Obj) : nG ≤ l → Upd (fun k => k = l) W (W.putObj l o) := fun hg =>
  ⟨rfl, rfl, rfl, by simp, fun k _ hn => World.putObj_heap_other (by rintro rfl; rcases hn with h | h <;> first | omega | exact h rfl)⟩

/-- The iterator: it yields xs one by one, turning block bt alone between two rounds. -/
def SeqB {α : Type} (P : Program) (gf : Nat) (lb : Array Value) (encs : α → Array Value) (bt : Nat) (S : Nat → Prop) (xs : List α) (w : World) : Prop :=
  ∀ (l : Nat) (J Jx : List α → World → Prop) (W : World), Nw w W →
    (∀ s A B, J s A → Upd (fun k => k = bt) A B → J s B) → (∀ s A B, Jx s A → Upd (fun k => k = bt) A B → Jx s B) →
    (∀ pre x rest W1, xs = pre ++ x :: rest → J pre W1 → YieldAt Fence.wide 0 P l (encs x) W1 fun e W' =>
      (e = .returned (.bool true) ∧ J (pre ++ [x]) W' ∧ ∀ b, S b → W'.heap[b]? = W1.heap[b]?) ∨ (e = .returned (.bool false) ∧ Jx (pre ++ [x]) W')) →
    J [] W →
    Calls P gf (#[.func (.yield l) #[] #[]] ++ lb) W fun e W' => (∃ v, e = .returned v) ∧ (J xs W' ∨ ∃ pre, Jx pre W')

/-- How a round's body may be left: the loop's own blocks lie as they lay, and the iterator's where it goes on. -/
def postB {α : Type} (n : Nat) (S : Nat → Prop) (I : List α → World → Prop) (Ix : Code → List α → World → Prop) (xs : List α) (W : World) : Exit → Act → World → Prop
  | .normal, _, W' => (∀ k o, n ≤ k → W.heap[k]? = some o → o.isCells = false → W'.heap[k]? = some o) ∧ (∀ b, S b → W'.heap[b]? = W.heap[b]?) ∧ I xs W'
  | .ret, _, W' => (∀ k o, n ≤ k → W.heap[k]? = some o → o.isCells = false → W'.heap[k]? = some o) ∧ Ix .ret xs W'
  | .exit id, _, W' => (∀ k o, n ≤ k → W.heap[k]? = some o → o.isCells = false → W'.heap[k]? = some o) ∧ Ix (.exit id) xs W'
  | .goto t, _, W' => (∀ k o, n ≤ k → W.heap[k]? = some o → o.isCells = false → W'.heap[k]? = some o) ∧ Ix (.goto t) xs W'
  | .panic _, _, _ => False
  | .outgrown, _, _ => False

/-- What a caller's word abides: a turn of the iterator's block, or of one that holds no cells and was laid since. -/
def Bears {α : Type} (n bt : Nat) (I : List α → World → Prop) : Prop :=
  ∀ s A B b, I s A → Upd (fun k => k = b) A B → (b = bt ∨ n ≤ b ∧ ∃ o, A.heap[b]? = some o ∧ o.isCells = false) → I s B

set_option maxHeartbeats 1000000 in
theorem wp_rangeFuncB {α : Type} {P : Program} {g : Operand} {ps : Array Tmp} {assign body : Code} {Q : Exit → Act → World → Prop} {a : Act} {w : World}
    {gf : Nat} {lb : Array Value} (hg : a.eval g = .func (.func gf) #[] lb) (eg : ∀ args w, (callFunc gf args).run P w = .ok (.enter gf args) w)
    {encs : α → Array Value} {bt : Nat} {S : Nat → Prop} {xs : List α} (hseq : SeqB P gf lb encs bt S xs w) (hbig : nG ≤ w.heap.size) (hbt : bt < w.heap.size) (hS : ∀ b, S b → b < w.heap.size) (hps : ∀ x, (encs x).size = ps.size)
    (I : List α → World → Prop) (Ix : Code → List α → World → Prop) (hI : Bears w.heap.size bt I) (hIx : ∀ c, Bears w.heap.size bt (Ix c)) (h0 : I [] w) (a₁ : α → Act)
    (hassign : ∀ (l : Nat) (x : α) (W : World) (K : Act → World → Prop), K (a₁ x) W →
      assign.wpIn (Fence.wide.inRound l) 0 P (Exit.then K (fun _ _ _ => False)) { tmps := (ps.zip (encs x)).foldl (fun t (p, v) => t.setIfInBounds p v) a.tmps, defers := [] } W)
    (hbody : ∀ (l : Nat) (pre : List α) (x : α) (rest : List α) (W : World), xs = pre ++ x :: rest → I pre W → body.wpIn (Fence.wide.inRound l) 0 P (postB w.heap.size S I Ix (pre ++ [x]) W) (a₁ x) W)
    (hdone : ∀ (D : Nat) (W : World), w.heap.size ≤ D → I xs W → W.heap[D]? = some (.deferred (some [])) → Q .normal { a with defers := { target := .collected D, args := #[] } :: a.defers } W)
    (hstop : ∀ (D : Nat) (c : Code) (pre : List α) (W : World), w.heap.size ≤ D → Ix c pre W → W.heap[D]? = some (.deferred (some [])) → c.wp P Q { a with defers := { target := .collected D, args := #[] } :: a.defers } W) :
    (Code.rangeFunc g ps assign body).wp P Q a w := by
  refine (wpIn_wide (n := 0)).1 (wpIn_rangeFunc ?_)
  intro fn hfn
  obtain ⟨rec, hrec⟩ : ∃ rec : LoopState → Option Code → Loop, rec = fun st pe => { state := st, pending := pe, fn, tmps := a.tmps, params := ps, assign, body, defers := w.heap.size } := ⟨_, rfl⟩
  obtain ⟨W1, hW1⟩ : ∃ W1, (w.alloc (.deferred (some []))).alloc (.loop (rec .ready none)) = W1 := ⟨_, rfl⟩
  have hL1 : W1.heap[w.heap.size + 1]? = some (.loop (rec .ready none)) := by
    rw [← hW1]; have := World.alloc_heap_new (w.alloc (.deferred (some []))) (.loop (rec .ready none)); rwa [World.size_alloc] at this
  have hK1 : W1.heap[w.heap.size]? = some (.deferred (some [])) := by
    rw [← hW1]; exact (heap_alloc _ _ _ (by simp)).trans (World.alloc_heap_new w _)
  have hu1 : ∀ T : Nat → Prop, Upd T w W1 := fun T => by rw [← hW1]; exact ((Upd.refl T w).alloc _).alloc _
  have hI1 : I [] W1 := hI _ _ _ bt h0 (hu1 _) (Or.inl rfl)
  refine ⟨w.heap.size + 1, [{ target := .collected w.heap.size, args := #[] }], W1, { target := .fn (.func gf) lb, args := #[.func (.yield (w.heap.size + 1)) #[] #[]] }, W1, gf,
    #[.func (.yield (w.heap.size + 1)) #[] #[]] ++ lb, W1, ?_, ?_, fun _ _ => trivial, ?_, fun h => (by cases h), ?_⟩
  · rw [← hW1, hrec]; exact run_enterLoop_outer _ _ _ _ _
  · simp only [resolve, hg]
    simp [go_sem]
  · simp [invoke, go_sem, eg]
  refine callsIn_wide.2 ?_
  have turn : ∀ {c : List α → World → Prop} (_ : Bears w.heap.size bt c) (s : List α) (A : World) (k : Nat) (o o' : Obj), c s A → w.heap.size ≤ k → A.heap[k]? = some o → o.isCells = false → c s (A.putObj k o') :=
    fun {c} hc s A k o o' hs hk ho hn => hc s A _ k hs (upd_putObj A k o' (by omega)) (Or.inr ⟨hk, o, ho, hn⟩)
  refine (hseq (w.heap.size + 1)
    (fun pre W => I pre W ∧ W.heap[w.heap.size + 1]? = some (.loop (rec .ready none)) ∧ W.heap[w.heap.size]? = some (.deferred (some [])))
    (fun pre W => ∃ c, Ix c pre W ∧ W.heap[w.heap.size + 1]? = some (.loop (rec .done (some c))) ∧ W.heap[w.heap.size]? = some (.deferred (some [])))
    W1 (hu1 _)
    (fun s A B hs u => ⟨hI s A B bt hs.1 u (Or.inl rfl), u.keep hs.2.1 (by omega), u.keep hs.2.2 (by omega)⟩)
    (fun s A B hs u => by
      obtain ⟨c, hc, hl, hk⟩ := hs
      exact ⟨c, hIx c s A B bt hc u (Or.inl rfl), u.keep hl (by omega), u.keep hk (by omega)⟩)
    ?_ ⟨hI1, hL1, hK1⟩).mono ?_
  · rintro pre x rest W hxs ⟨hi, hl, hk⟩
    have hlt : w.heap.size + 1 < W.heap.size := (Array.getElem?_eq_some_iff.1 hl).1
    have hy := run_yield (P := P) (args := encs x) hl (by rw [hrec]; exact hps x)
    rw [hrec] at hy
    refine ⟨fn, _, assign, body, hy, roundIn_of_wpIn hfn (hassign _ x W _ ⟨_, run_beginRound hl (by rw [hrec]), ?_⟩)⟩
    have hl2 : (W.putObj (w.heap.size + 1) (.loop { rec .ready none with state := .busy })).heap[w.heap.size + 1]? = some (.loop { rec .ready none with state := .busy }) := World.putObj_heap_same hlt
    have hk2 : (W.putObj (w.heap.size + 1) (.loop { rec .ready none with state := .busy })).heap[w.heap.size]? = some (.deferred (some [])) := (World.putObj_heap_other (by omega)).trans hk
    refine wpIn_mono (hbody _ pre x rest _ hxs (turn hI _ _ _ _ _ hi (by omega) hl rfl)) ?_
    have fin : ∀ (jump : Option Code) (W3 : World), (∀ k o, w.heap.size ≤ k → (W.putObj (w.heap.size + 1) (.loop { rec .ready none with state := .busy })).heap[k]? = some o → o.isCells = false → W3.heap[k]? = some o) →
        (Instr.endRound (w.heap.size + 1) jump).run P W3 = .ok (.bool jump.isNone) (W3.putObj (w.heap.size + 1) (.loop (rec (if jump.isNone then .ready else .done) jump))) ∧
        W3.heap[w.heap.size + 1]? = some (.loop { rec .ready none with state := .busy }) ∧
        (W3.putObj (w.heap.size + 1) (.loop (rec (if jump.isNone then .ready else .done) jump))).heap[w.heap.size + 1]? = some (.loop (rec (if jump.isNone then .ready else .done) jump)) ∧
        (W3.putObj (w.heap.size + 1) (.loop (rec (if jump.isNone then .ready else .done) jump))).heap[w.heap.size]? = some (.deferred (some [])) := fun jump W3 hk3 => by
      have hl3 := hk3 _ _ (by omega) hl2 rfl
      have := run_endRound (P := P) jump hl3
      rw [hrec] at this ⊢
      exact ⟨this, by rw [hrec] at hl3; exact hl3, World.putObj_heap_same (Array.getElem?_eq_some_iff.1 hl3).1, (World.putObj_heap_other (by omega)).trans (hk3 _ _ (Nat.le_refl _) hk2 rfl)⟩
    rintro e a3 W3 hp
    cases e with
    | normal =>
      obtain ⟨hk3, hs3, hi3⟩ := hp
      obtain ⟨hr, hl3, hl4, hk4⟩ := fin none W3 hk3
      refine ⟨_, _, hr, .inl ⟨rfl, ⟨turn hI _ _ _ _ _ hi3 (by omega) hl3 rfl, hl4, hk4⟩, fun b hb => ?_⟩⟩
      have := hS b hb
      exact (World.putObj_heap_other (by omega)).trans ((hs3 b hb).trans (World.putObj_heap_other (by omega)))
    | ret =>
      obtain ⟨hk3, hi3⟩ := hp
      obtain ⟨hr, hl3, hl4, hk4⟩ := fin (some .ret) W3 hk3
      exact ⟨_, _, hr, .inr ⟨rfl, .ret, turn (hIx _) _ _ _ _ _ hi3 (by omega) hl3 rfl, hl4, hk4⟩⟩
    | exit id =>
      obtain ⟨hk3, hi3⟩ := hp
      obtain ⟨hr, hl3, hl4, hk4⟩ := fin (some (.exit id)) W3 hk3
      exact ⟨_, _, hr, .inr ⟨rfl, .exit id, turn (hIx _) _ _ _ _ _ hi3 (by omega) hl3 rfl, hl4, hk4⟩⟩
    | goto t =>
      obtain ⟨hk3, hi3⟩ := hp
      obtain ⟨hr, hl3, hl4, hk4⟩ := fin (some (.goto t)) W3 hk3
      exact ⟨_, _, hr, .inr ⟨rfl, .goto t, turn (hIx _) _ _ _ _ _ hi3 (by omega) hl3 rfl, hl4, hk4⟩⟩
    | panic ch => exact hp.elim
    | outgrown => exact hp.elim
  · rintro e W2 ⟨⟨v, rfl⟩, (⟨hi, hl, hk⟩ | ⟨pre, c, hi, hl, hk⟩)⟩
    · exact ⟨none, _, by have := run_endLoop (P := P) hl (by rw [hrec]; simp); rw [hrec] at this; exact this, hdone _ _ (Nat.le_refl _) (turn hI _ _ _ _ _ hi (by omega) hl rfl) ((World.putObj_heap_other (by omega)).trans hk)⟩
    · exact ⟨some c, _, by have := run_endLoop (P := P) hl (by rw [hrec]; simp); rw [hrec] at this; exact this, (wpIn_wide (n := 0)).2 (hstop _ c pre _ (Nat.le_refl _) (turn (hIx c) _ _ _ _ _ hi (by omega) hl rfl) ((World.putObj_heap_other (by omega)).trans hk))⟩
end Go.Proofs.YtjlgmoemnhmgmaaGreatDoor
