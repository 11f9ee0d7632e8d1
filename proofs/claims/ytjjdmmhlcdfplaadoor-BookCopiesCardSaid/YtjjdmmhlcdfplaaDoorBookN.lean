/- Two books of the program with a ring each, apart from one another and from what the call keeps; runs of operations. -/
import Derived.Test.YtjjdmmhlcdfplaaDoorBookH
import Derived.Test.YtjjdmmhlcdfplaaDoorBookY
namespace Go.Proofs.YtjjdmmhlcdfplaaDoor
open Go.RowKit
set_option linter.unusedVariables false
set_option linter.unusedSimpArgs false
attribute [local irreducible] Calls

namespace Bk
theorem do_key' (key : Int) (x : Bk.St) (o : Bk.Opn) : (Bk.doS key x o).2.b.key = x.b.key := by
  unfold Bk.doS Bk.append Bk.head
  repeat' split
  all_goals rfl
/-- What the first k operations leave, and what they answer. -/
def runTo (key : Int) (x : St) (ops : List Opn) : Nat → St × List (Sgn × Int)
  | 0 => (x, [])
  | k + 1 => match ops[k]? with
    | some o => ((doS key (runTo key x ops k).1 o).2, (runTo key x ops k).2 ++ [((doS key (runTo key x ops k).1 o).1.1, (doS key (runTo key x ops k).1 o).1.2.2)])
    | none => runTo key x ops k
theorem runTo_succ (key : Int) (x : St) (ops : List Opn) {k : Nat} (h : k < ops.length) :
    runTo key x ops (k + 1) = ((doS key (runTo key x ops k).1 ops[k]).2, (runTo key x ops k).2 ++ [((doS key (runTo key x ops k).1 ops[k]).1.1, (doS key (runTo key x ops k).1 ops[k]).1.2.2)]) := by
  rw [runTo, List.getElem?_eq_getElem h]
theorem runTo_len (key : Int) (x : St) (ops : List Opn) {k : Nat} (h : k ≤ ops.length) : (runTo key x ops k).2.length = k := by
  induction k with
  | zero => rfl
  | succ k ih => rw [runTo_succ key x ops (by omega), List.length_append, ih (by omega)]; rfl
theorem runTo_ring (key : Int) (x : St) (ops : List Opn) (k : Nat) : (runTo key x ops k).1.L.length ≤ x.L.length + k := by
  induction k with
  | zero => exact Nat.le_refl _
  | succ k ih =>
    rw [runTo]
    split
    · rename_i o _
      have := do_len key (runTo key x ops k).1 o
      show (doS key (runTo key x ops k).1 o).2.L.length ≤ _
      omega
    · omega
theorem runTo_key (key : Int) (x : St) (ops : List Opn) (k : Nat) : (runTo key x ops k).1.b.key = x.b.key := by
  induction k with
  | zero => rfl
  | succ k ih =>
    rw [runTo]
    split
    · rw [do_key']; exact ih
    · exact ih
theorem runTo_get (key : Int) (x : St) (ops : List Opn) {k n : Nat} (hk : k < n) (hn : n ≤ ops.length) :
    (runTo key x ops n).2[k]? = some ((doS key (runTo key x ops k).1 (ops[k]'(by omega))).1.1, (doS key (runTo key x ops k).1 (ops[k]'(by omega))).1.2.2) := by
  induction n with
  | zero => omega
  | succ n ih =>
    have hl := runTo_len key x ops (k := n) (by omega)
    rw [runTo_succ key x ops (by omega)]
    by_cases e : k = n
    · subst e
      rw [List.getElem?_append_right (by omega), hl]
      simp
    · rw [List.getElem?_append_left (by omega)]
      exact ih (by omega) (by omega)
end Bk
theorem Both.feet {B : Nat} {w : World} {r : RingR} {br : BookR} {x : Bk.St} (h : Both B w r br x) {k : Nat} (hk : r.foot k ∨ br.foot k) : B ≤ k ∧ k < w.heap.size := hk.elim h.ring.foot_lt h.book.foot_lt
/-- Two rings with a book each, apart from one another, and from the blocks F. -/
def TwinAt (B1 B2 rb bb qb cb : Nat) (F : Nat → Prop) (w : World) (x y : Bk.St) : Prop :=
  ∃ r br q c, r.rb = rb ∧ br.bb = bb ∧ q.rb = qb ∧ c.bb = cb ∧ Both B1 w r br x ∧ Both B2 w q c y ∧ (∀ k, (r.foot k ∨ br.foot k) → ¬ (q.foot k ∨ c.foot k)) ∧ (∀ k, (r.foot k ∨ br.foot k) → ¬ F k) ∧ ∀ k, (q.foot k ∨ c.foot k) → ¬ F k
variable {B1 B2 rb bb qb cb : Nat} {F : Nat → Prop} {w : World} {x y : Bk.St}
theorem TwinAt.swap (h : TwinAt B1 B2 rb bb qb cb F w x y) : TwinAt B2 B1 qb cb rb bb F w y x := by
  obtain ⟨r, br, q, c, h1, h2, h3, h4, h5, h6, h7, h8, h9⟩ := h
  exact ⟨q, c, r, br, h3, h4, h1, h2, h6, h5, fun k hk e => h7 k e hk, h9, h8⟩
theorem TwinAt.upd {S : Nat → Prop} {w' : World} (h : TwinAt B1 B2 rb bb qb cb F w x y) (u : Upd S w w') (hS : ∀ k, S k → F k) : TwinAt B1 B2 rb bb qb cb F w' x y := by
  obtain ⟨r, br, q, c, h1, h2, h3, h4, h5, h6, h7, h8, h9⟩ := h
  exact ⟨r, br, q, c, h1, h2, h3, h4, h5.upd u (fun k hk e => h8 k (Or.inl hk) (hS k e)) (fun k hk e => h8 k (Or.inr hk) (hS k e)), h6.upd u (fun k hk e => h9 k (Or.inl hk) (hS k e)) (fun k hk e => h9 k (Or.inr hk) (hS k e)), h7, h8, h9⟩
theorem TwinAt.nw {w' : World} (h : TwinAt B1 B2 rb bb qb cb F w x y) (u : Nw w w') : TwinAt B1 B2 rb bb qb cb F w' x y := h.upd u (fun _ s => s.elim)
theorem TwinAt.keepoff {F' : Nat → Prop} (h : TwinAt B1 B2 rb bb qb cb F w x y) (hF : ∀ k, F' k → F k ∨ w.heap.size ≤ k) : TwinAt B1 B2 rb bb qb cb F' w x y := by
  obtain ⟨r, br, q, c, h1, h2, h3, h4, h5, h6, h7, h8, h9⟩ := h
  refine ⟨r, br, q, c, h1, h2, h3, h4, h5, h6, h7, fun k hk e => ?_, fun k hk e => ?_⟩
  · rcases hF k e with e | e
    · exact h8 k hk e
    · have := (h5.feet hk).2; omega
  · rcases hF k e with e | e
    · exact h9 k hk e
    · have := (h6.feet hk).2; omega
theorem do_t {w0 : World} (h : TwinAt B1 B2 rb bb qb cb F w x y) (hF : ∀ k, F k → k < w.heap.size) (u0 : Nw w0 w) (h1 : w0.heap.size ≤ B1) (g : Gl w) (key : Int) (hkey : x.b.key = key) (o : Bk.Opn) (hn : I64 o.n) (hs : o.s.length ≤ 20000000) (hL : x.L.length ≤ 1000000) :
    Calls Tryd.prog 13 #[.pointer (some ⟨bb, 0, none⟩), .pointer (some ⟨rb, 0, none⟩), .int .i64 key, .agg #[.int .i64 o.kind, .int .i64 o.n, .string ⟨o.s.toArray⟩]] w fun e w' =>
      e = .returned (.tuple #[sgnV (Bk.doS key x o).1.1, .int .i64 (Bk.doS key x o).1.2.1, .int .i64 (Bk.doS key x o).1.2.2]) ∧ TwinAt B1 B2 rb bb qb cb F w' (Bk.doS key x o).2 y ∧ Nw w0 w' ∧ Upd (fun k => ¬ F k) w w' := by
  obtain ⟨r, br, q, c, rfl, rfl, rfl, rfl, hb, hq, hd, hF1, hF2⟩ := h
  subst hkey
  refine (do_c B1 r br x o w g hb (by have h1 := hb.ring.rb; have h2 := lt_of_block hb.ring.blk; omega) hn hs hL).mono ?_
  rintro e w' ⟨r', br', rfl, m⟩
  have hnew : ∀ k, (r'.foot k ∨ br'.foot k) → (r.foot k ∨ br.foot k) ∨ w.heap.size ≤ k := fun k hk => by
    rcases hk with hk | hk
    · exact (m.f1 k hk).imp Or.inl id
    · exact (m.f2 k hk).imp Or.inr id
  refine ⟨rfl, ⟨r', br', q, c, m.rb, m.bb, rfl, rfl, m.both, hq.upd m.upd (fun k hk e => hd k e (Or.inl hk)) (fun k hk e => hd k e (Or.inr hk)), fun k hk e => ?_, fun k hk e => ?_, hF2⟩, moved_nw hb h1 u0 m, m.upd.mono (fun k _ e => hF1 k e)⟩
  · rcases hnew k hk with h | h
    · exact hd k h e
    · have := (hq.feet e).2; omega
  · rcases hnew k hk with h | h
    · exact hF1 k h e
    · have := hF k e; omega
theorem do_t2 {w0 : World} (h : TwinAt B1 B2 rb bb qb cb F w x y) (hF : ∀ k, F k → k < w.heap.size) (u0 : Nw w0 w) (h1 : w0.heap.size ≤ B2) (g : Gl w) (key : Int) (hkey : y.b.key = key) (o : Bk.Opn) (hn : I64 o.n) (hs : o.s.length ≤ 20000000) (hL : y.L.length ≤ 1000000) :
    Calls Tryd.prog 13 #[.pointer (some ⟨cb, 0, none⟩), .pointer (some ⟨qb, 0, none⟩), .int .i64 key, .agg #[.int .i64 o.kind, .int .i64 o.n, .string ⟨o.s.toArray⟩]] w fun e w' =>
      e = .returned (.tuple #[sgnV (Bk.doS key y o).1.1, .int .i64 (Bk.doS key y o).1.2.1, .int .i64 (Bk.doS key y o).1.2.2]) ∧ TwinAt B1 B2 rb bb qb cb F w' x (Bk.doS key y o).2 ∧ Nw w0 w' ∧ Upd (fun k => ¬ F k) w w' :=
  (do_t h.swap hF u0 h1 g key hkey o hn hs hL).mono fun e w' ⟨a, b, c, d⟩ => ⟨a, b.swap, c, d⟩
theorem len_t (h : TwinAt B1 B2 rb bb qb cb F w x y) : Calls Tryd.prog 17 #[.pointer (some ⟨bb, 0, none⟩)] w fun e w' => e = .returned (.int .i64 x.b.es.length) ∧ Nw w w' := by
  obtain ⟨r, br, q, c, rfl, rfl, rfl, rfl, hb, hq, hd⟩ := h
  exact len_b B1 br r.rb x.b w hb.book
theorem all_t (h : TwinAt B1 B2 rb bb qb cb F w x y) (g : Gl w) (hL : x.L.length ≤ 1000000) :
    Calls Tryd.prog 19 #[.pointer (some ⟨rb, 0, none⟩)] w fun e w' => ∃ v', e = .returned v' ∧ w'.ownsRow w.heap.size tSealed 2 v' x.L.length ((x.L.map sealL).flatten) ∧ Nw w w' := by
  obtain ⟨r, br, q, c, rfl, rfl, rfl, rfl, hb, hq, hd⟩ := h
  exact all_s B1 r x.L w g hb.ring hL
theorem twin_new {w0 w1 w2 : World} {r q : RingR} {br c : BookR} {x : Bk.St} (h : Both B1 w0 r br x) (hq : RingAt w0.heap.size w1 q x.L) (hc : BookAt w1.heap.size w2 c q.rb x.b) (u1 : Nw w0 w1) (u2 : Nw w1 w2) : TwinAt B1 w0.heap.size r.rb br.bb q.rb c.bb (fun _ => False) w2 x x := by
  refine ⟨r, br, q, c, rfl, rfl, rfl, rfl, (h.nw u1).nw u2, both_new hq hc u2 u1.size, fun k hk e => ?_, fun k hk e => e, fun k hk e => e⟩
  have h1 := (h.feet hk).2
  rcases e with e | e
  · have := (hq.foot_lt e).1; omega
  · have := (hc.foot_lt e).1
    have := u1.size
    omega
end Go.Proofs.YtjjdmmhlcdfplaaDoor
