/- Things in memory side by side: each in blocks of its own, all made since a world W, apart from blocks F that are kept. What a call leaves that turns one of them, or two. -/
import Derived.Test.YtkhdnfmnnapjlaaGreatDoorOwns

namespace Go.Proofs.YtkhdnfmnnapjlaaGreatDoor
open Go.RowKit
set_option linter.unusedVariables false
set_option linter.unusedSimpArgs false
attribute [local irreducible] Calls

abbrev Res := (Nat → Prop) → World → Prop
/-- A thing in the blocks f: nothing else matters to it, and its blocks are from B on. -/
structure Stab (B : Nat) (P : Res) : Prop where
  upd : ∀ {f : Nat → Prop} {w w' : World} {S : Nat → Prop}, P f w → Upd S w w' → (∀ k, f k → ¬ S k) → P f w'
  lt : ∀ {f : Nat → Prop} {w : World} {k : Nat}, P f w → f k → B ≤ k ∧ k < w.heap.size
/-- The things c 0 .. c (N - 1). -/
def AtF (W : World) (N : Nat) (c : Nat → Res) (F : Nat → Prop) (f : Nat → Nat → Prop) (z : World) : Prop :=
  Nw W z ∧ (∀ i, i < N → Stab W.heap.size (c i)) ∧ (∀ i, i < N → c i (f i) z) ∧ (∀ i k, i < N → k < N → i ≠ k → ∀ j, f i j → ¬ f k j) ∧ ∀ j, F j → j < z.heap.size ∧ ∀ i, i < N → ¬ f i j
def At (W : World) (N : Nat) (c : Nat → Res) (F : Nat → Prop) (z : World) : Prop := ∃ f, AtF W N c F f z
abbrev MovesN (W : World) (F : Nat → Prop) (z z' : World) : Prop := Upd (fun k => ¬ F k ∧ W.heap.size ≤ k) z z'
def setC (c : Nat → Res) (i : Nat) (P : Res) : Nat → Res := fun k => if k = i then P else c k
theorem setC_self (c : Nat → Res) (i : Nat) (P : Res) : setC c i P i = P := by simp [setC]
theorem setC_ne (c : Nat → Res) {i k : Nat} (P : Res) (h : k ≠ i) : setC c i P k = c k := by simp [setC, h]
def setP (f : Nat → Nat → Prop) (i : Nat) (g : Nat → Prop) : Nat → Nat → Prop := fun k => if k = i then g else f k
theorem setP_pos {f : Nat → Nat → Prop} {i k : Nat} {g : Nat → Prop} (h : k = i) : setP f i g k = g := by simp [setP, h]
theorem setP_neg {f : Nat → Nat → Prop} {i k : Nat} {g : Nat → Prop} (h : ¬ k = i) : setP f i g k = f k := by simp [setP, h]
section
variable {W : World} {N : Nat} {c c' : Nat → Res} {F F' S : Nat → Prop} {z z' : World}
theorem At.nw0 (h : At W N c F z) : Nw W z := by obtain ⟨f, h⟩ := h; exact h.1
theorem At.gl (h : At W N c F z) (g : Gl W) : Gl z := g.upd h.nw0
theorem At.size (h : At W N c F z) : W.heap.size ≤ z.heap.size := h.nw0.size
theorem At.start (W : World) (c : Nat → Res) : At W 0 c (fun _ => False) W :=
  ⟨fun _ _ => False, Upd.refl _ _, fun i hi => by omega, fun i hi => by omega, fun i k hi => by omega, fun j hj => hj.elim⟩
theorem At.same (h : At W N c F z) (e : ∀ i, i < N → c' i = c i) : At W N c' F z := by
  obtain ⟨f, a, b, d, e2, k⟩ := h
  exact ⟨f, a, fun i hi => by rw [e i hi]; exact b i hi, fun i hi => by rw [e i hi]; exact d i hi, e2, k⟩
/-- What is kept is turned, and other blocks are kept from now on. -/
theorem At.upd_keep (h : At W N c F z) (u : Upd S z z') (hs : ∀ k, S k → (F k ∧ W.heap.size ≤ k) ∨ z.heap.size ≤ k) (hF : ∀ k, F' k → F k ∨ (z.heap.size ≤ k ∧ k < z'.heap.size)) : At W N c F' z' := by
  obtain ⟨f, a, b, d, e, k⟩ := h
  have hz := u.size
  have ha := a.size
  refine ⟨f, a.trans' u (fun j hj s => by rcases hs j s with t | t <;> omega), b, fun i hi => (b i hi).upd (d i hi) u (fun j hj s => ?_), e, fun j hj => ?_⟩
  · rcases hs j s with t | t
    · exact (k j t.1).2 i hi hj
    · have := ((b i hi).lt (d i hi) hj).2; omega
  · rcases hF j hj with t | t
    · exact ⟨by have := (k j t).1; omega, (k j t).2⟩
    · exact ⟨t.2, fun i hi s => by have := ((b i hi).lt (d i hi) s).2; omega⟩
theorem At.upd (h : At W N c F z) (u : Upd S z z') (hs : ∀ k, S k → (F k ∧ W.heap.size ≤ k) ∨ z.heap.size ≤ k) : At W N c F z' := h.upd_keep u hs (fun k hk => Or.inl hk)
theorem At.nw (h : At W N c F z) (u : Nw z z') : At W N c F z' := h.upd u (fun k s => s.elim)
theorem At.keep (h : At W N c F z) (u : Nw z z') (hF : ∀ k, F' k → F k ∨ (z.heap.size ≤ k ∧ k < z'.heap.size)) : At W N c F' z' := h.upd_keep u (fun k s => s.elim) hF
theorem At.less (h : At W N c F z) (hF : ∀ k, F' k → F k) : At W N c F' z := h.keep (Upd.refl _ _) (fun k hk => Or.inl (hF k hk))
/-- One more thing, in new blocks. -/
theorem At.push (h : At W N c F z) (u : Nw z z') {P : Res} (hP : Stab W.heap.size P) {f' : Nat → Prop} (hf : P f' z') (hn : ∀ j, f' j → z.heap.size ≤ j) : At W (N + 1) (setC c N P) F z' := by
  have h' := h.nw u
  have hz := u.size
  obtain ⟨f, a, b, d, e, k⟩ := h
  refine ⟨setP f N f', a.trans u, fun i hi => ?_, fun i hi => ?_, fun i l hi hl hil j hj => ?_, fun j hj => ⟨by have := (k j hj).1; omega, fun i hi => ?_⟩⟩
  · by_cases hN : i = N
    · rw [hN, setC_self]; exact hP
    · rw [setC_ne _ _ hN]; exact b i (by omega)
  · by_cases hN : i = N
    · rw [setP_pos hN, hN, setC_self]; exact hf
    · rw [setP_neg hN, setC_ne _ _ hN]; exact (b i (by omega)).upd (d i (by omega)) u (fun _ _ s => s)
  · by_cases hN : i = N
    · rw [setP_pos hN] at hj
      rw [setP_neg (fun e => hil (hN.trans e.symm))]
      exact fun s => by have := hn j hj; have := ((b l (by omega)).lt (d l (by omega)) s).2; omega
    · rw [setP_neg hN] at hj
      by_cases hN2 : l = N
      · rw [setP_pos hN2]
        exact fun s => by have := hn j s; have := ((b i (by omega)).lt (d i (by omega)) hj).2; omega
      · rw [setP_neg hN2]
        exact e i l (by omega) (by omega) hil j hj
  · by_cases hN : i = N
    · rw [setP_pos hN]; exact fun s => by have := hn j s; have := (k j hj).1; omega
    · rw [setP_neg hN]; exact (k j hj).2 i (by omega)
/-- One thing is turned. -/
theorem AtF.turn {f : Nat → Nat → Prop} (h : AtF W N c F f z) {i : Nat} (hi : i < N) {P : Res} (hP : Stab W.heap.size P) (t : ∃ f', P f' z' ∧ Upd (f i) z z' ∧ ∀ j, f' j → f i j ∨ z.heap.size ≤ j) : At W N (setC c i P) F z' ∧ MovesN W F z z' := by
  obtain ⟨a, b, d, e, k⟩ := h
  obtain ⟨f', t1, t2, t3⟩ := t
  have hz := t2.size
  have hlo : ∀ j, f i j → W.heap.size ≤ j := fun j hj => ((b i hi).lt (d i hi) hj).1
  have hno : ∀ l, l < N → l ≠ i → ∀ j, f l j → ¬ f' j := fun l hl hli j hj s => by
    rcases t3 j s with s | s
    · exact e l i hl hi hli j hj s
    · have := ((b l hl).lt (d l hl) hj).2; omega
  refine ⟨⟨setP f i f', a.trans' t2 (fun j hj s => by have := hlo j s; omega), fun l hl => ?_, fun l hl => ?_, fun l m hl hm hlm j hj => ?_, fun j hj => ⟨by have := (k j hj).1; omega, fun l hl => ?_⟩⟩, t2.mono (fun j _ s => ⟨fun q => (k j q).2 i hi s, hlo j s⟩)⟩
  · by_cases hl2 : l = i
    · rw [hl2, setC_self]; exact hP
    · rw [setC_ne _ _ hl2]; exact b l hl
  · by_cases hl2 : l = i
    · rw [setP_pos hl2, hl2, setC_self]; exact t1
    · rw [setP_neg hl2, setC_ne _ _ hl2]; exact (b l hl).upd (d l hl) t2 (fun j hj s => e l i hl hi hl2 j hj s)
  · by_cases hl2 : l = i
    · rw [setP_pos hl2] at hj
      have hm2 : m ≠ i := fun q => hlm (hl2.trans q.symm)
      rw [setP_neg hm2]
      exact fun s => hno m hm hm2 j s hj
    · rw [setP_neg hl2] at hj
      by_cases hm2 : m = i
      · rw [setP_pos hm2]; exact hno l hl hl2 j hj
      · rw [setP_neg hm2]; exact e l m hl hm hlm j hj
  · by_cases hl2 : l = i
    · rw [setP_pos hl2]
      intro s
      rcases t3 j s with s | s
      · exact (k j hj).2 i hi s
      · have := (k j hj).1; omega
    · rw [setP_neg hl2]; exact (k j hj).2 l hl
/-- Two things are turned. -/
theorem AtF.turn2 {f : Nat → Nat → Prop} (h : AtF W N c F f z) {i m : Nat} (hi : i < N) (hm : m < N) (him : i ≠ m) {P Q : Res} (hP : Stab W.heap.size P) (hQ : Stab W.heap.size Q)
    (t : ∃ f' g', P f' z' ∧ Q g' z' ∧ Upd (fun j => f i j ∨ f m j) z z' ∧ (∀ j, f' j → f i j ∨ z.heap.size ≤ j) ∧ (∀ j, g' j → f m j ∨ z.heap.size ≤ j) ∧ ∀ j, f' j → ¬ g' j) :
    At W N (setC (setC c i P) m Q) F z' ∧ MovesN W F z z' := by
  obtain ⟨a, b, d, e, k⟩ := h
  obtain ⟨f', g', t1, t2, t3, t4, t5, t6⟩ := t
  have hz := t3.size
  have hlo : ∀ j, f i j ∨ f m j → W.heap.size ≤ j := fun j hj => hj.elim (fun s => ((b i hi).lt (d i hi) s).1) (fun s => ((b m hm).lt (d m hm) s).1)
  have hnf : ∀ l, l < N → l ≠ i → ∀ j, f l j → ¬ f' j := fun l hl hli j hj s => by
    rcases t4 j s with s | s
    · exact e l i hl hi hli j hj s
    · have := ((b l hl).lt (d l hl) hj).2; omega
  have hng : ∀ l, l < N → l ≠ m → ∀ j, f l j → ¬ g' j := fun l hl hli j hj s => by
    rcases t5 j s with s | s
    · exact e l m hl hm hli j hj s
    · have := ((b l hl).lt (d l hl) hj).2; omega
  refine ⟨⟨setP (setP f i f') m g', a.trans' t3 (fun j hj s => by have := hlo j s; omega), fun l hl => ?_, fun l hl => ?_, fun l n hl hn hln j hj => ?_, fun j hj => ⟨by have := (k j hj).1; omega, fun l hl => ?_⟩⟩, t3.mono (fun j _ s => ⟨fun q => s.elim ((k j q).2 i hi) ((k j q).2 m hm), hlo j s⟩)⟩
  · by_cases hl2 : l = m
    · rw [hl2, setC_self]; exact hQ
    · rw [setC_ne _ _ hl2]
      by_cases hl3 : l = i
      · rw [hl3, setC_self]; exact hP
      · rw [setC_ne _ _ hl3]; exact b l hl
  · by_cases hl2 : l = m
    · rw [setP_pos hl2, hl2, setC_self]; exact t2
    · rw [setP_neg hl2, setC_ne _ _ hl2]
      by_cases hl3 : l = i
      · rw [setP_pos hl3, hl3, setC_self]; exact t1
      · rw [setP_neg hl3, setC_ne _ _ hl3]; exact (b l hl).upd (d l hl) t3 (fun j hj s => s.elim (e l i hl hi hl3 j hj) (e l m hl hm hl2 j hj))
  · by_cases hl2 : l = m
    · rw [setP_pos hl2] at hj
      have hn2 : n ≠ m := fun q => hln (hl2.trans q.symm)
      rw [setP_neg hn2]
      by_cases hn3 : n = i
      · rw [setP_pos hn3]; exact fun s => t6 j s hj
      · rw [setP_neg hn3]; exact fun s => hng n hn hn2 j s hj
    · rw [setP_neg hl2] at hj
      by_cases hl3 : l = i
      · rw [setP_pos hl3] at hj
        by_cases hn2 : n = m
        · rw [setP_pos hn2]; exact t6 j hj
        · rw [setP_neg hn2, setP_neg (fun q => hln (hl3.trans q.symm))]
          exact fun s => hnf n hn (fun q => hln (hl3.trans q.symm)) j s hj
      · rw [setP_neg hl3] at hj
        by_cases hn2 : n = m
        · rw [setP_pos hn2]; exact hng l hl hl2 j hj
        · rw [setP_neg hn2]
          by_cases hn3 : n = i
          · rw [setP_pos hn3]; exact hnf l hl hl3 j hj
          · rw [setP_neg hn3]; exact e l n hl hn hln j hj
  · by_cases hl2 : l = m
    · rw [setP_pos hl2]
      intro s
      rcases t5 j s with s | s
      · exact (k j hj).2 m hm s
      · have := (k j hj).1; omega
    · rw [setP_neg hl2]
      by_cases hl3 : l = i
      · rw [setP_pos hl3]
        intro s
        rcases t4 j s with s | s
        · exact (k j hj).2 i hi s
        · have := (k j hj).1; omega
      · rw [setP_neg hl3]; exact (k j hj).2 l hl
/-- A call that turns one thing. -/
theorem At.call (h : At W N c F z) {i : Nat} (hi : i < N) {P : Res} (hP : Stab W.heap.size P) {Q : Ending → Prop} {Pg : Program} {fn : FuncId} {args : Array Value}
    (k : ∀ f, c i f z → Calls Pg fn args z fun e z' => Q e ∧ ∃ f', P f' z' ∧ Upd f z z' ∧ ∀ j, f' j → f j ∨ z.heap.size ≤ j) : Calls Pg fn args z fun e z' => Q e ∧ At W N (setC c i P) F z' ∧ MovesN W F z z' := by
  obtain ⟨f, h⟩ := h
  exact (k _ (h.2.2.1 i hi)).mono fun e z' ⟨q, t⟩ => ⟨q, h.turn hi hP t⟩
/-- A call that turns one thing and reads another one. -/
theorem At.callR (h : At W N c F z) {i m : Nat} (hi : i < N) (hm : m < N) (him : i ≠ m) {P : Res} (hP : Stab W.heap.size P) {Q : Ending → Prop} {Pg : Program} {fn : FuncId} {args : Array Value}
    (k : ∀ f g, c i f z → c m g z → (∀ j, f j → ¬ g j) → Calls Pg fn args z fun e z' => Q e ∧ ∃ f', P f' z' ∧ Upd f z z' ∧ ∀ j, f' j → f j ∨ z.heap.size ≤ j) : Calls Pg fn args z fun e z' => Q e ∧ At W N (setC c i P) F z' ∧ MovesN W F z z' := by
  obtain ⟨f, h⟩ := h
  exact (k _ _ (h.2.2.1 i hi) (h.2.2.1 m hm) (h.2.2.2.1 i m hi hm him)).mono fun e z' ⟨q, t⟩ => ⟨q, h.turn hi hP t⟩
/-- A call that turns two things. -/
theorem At.call2 (h : At W N c F z) {i m : Nat} (hi : i < N) (hm : m < N) (him : i ≠ m) {P P2 : Res} (hP : Stab W.heap.size P) (hP2 : Stab W.heap.size P2) {Q : Ending → Prop} {Pg : Program} {fn : FuncId} {args : Array Value}
    (k : ∀ f g, c i f z → c m g z → (∀ j, f j → ¬ g j) → Calls Pg fn args z fun e z' => Q e ∧ ∃ f' g', P f' z' ∧ P2 g' z' ∧ Upd (fun j => f j ∨ g j) z z' ∧ (∀ j, f' j → f j ∨ z.heap.size ≤ j) ∧ (∀ j, g' j → g j ∨ z.heap.size ≤ j) ∧ ∀ j, f' j → ¬ g' j) :
    Calls Pg fn args z fun e z' => Q e ∧ At W N (setC (setC c i P) m P2) F z' ∧ MovesN W F z z' := by
  obtain ⟨f, h⟩ := h
  exact (k _ _ (h.2.2.1 i hi) (h.2.2.1 m hm) (h.2.2.2.1 i m hi hm him)).mono fun e z' ⟨q, t⟩ => ⟨q, h.turn2 hi hm him hP hP2 t⟩
/-- What a thing says is read. -/
theorem At.get (h : At W N c F z) {i : Nat} (hi : i < N) : ∃ f, c i f z := by
  obtain ⟨f, a, b, d, e, k⟩ := h
  exact ⟨f i, d i hi⟩
theorem At.get2 (h : At W N c F z) {i m : Nat} (hi : i < N) (hm : m < N) (him : i ≠ m) : ∃ f g, c i f z ∧ c m g z ∧ ∀ j, f j → ¬ g j := by
  obtain ⟨f, a, b, d, e, k⟩ := h
  exact ⟨f i, f m, d i hi, d m hm, e i m hi hm him⟩
end
theorem own_slG {B sz : Nat} {e : TypeId} {w : World} {v : Value} {n : Nat} {xs : List Value} (h : w.ownsRow B e sz v n xs) : ∃ a cap, v = .slice a n cap := by
  rcases h.2 with ⟨h1, h2⟩ | ⟨g, cap, cur, h1, _⟩
  · exact ⟨none, 0, by rw [h1, h2]⟩
  · exact ⟨_, _, h1⟩
/-! ### Simple things -/
/-- An own slice. -/
def RowC (B : Nat) (T : TypeId) (sz : Nat) (v : Value) (n : Nat) (xs : List Value) : Res := fun f w => w.ownsRow B T sz v n xs ∧ f = fun k => v.ownBlock = some k
/-- A block that is known whole. -/
def BoxC (B : Nat) (b : Nat) (o : Obj) : Res := fun f w => w.heap[b]? = some o ∧ B ≤ b ∧ f = fun k => k = b
theorem BoxC.stab (B b : Nat) (o : Obj) : Stab B (BoxC B b o) :=
  ⟨fun {f w w' S} h u hs => ⟨u.keep h.1 (hs b (by rw [h.2.2])), h.2.1, h.2.2⟩, fun {f w k} h hk => by
    rw [h.2.2] at hk
    subst hk
    exact ⟨h.2.1, lt_of_block h.1⟩⟩
end Go.Proofs.YtkhdnfmnnapjlaaGreatDoor
