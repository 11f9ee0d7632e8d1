/- Lists of operations among a statement's arguments; the contract of ladinglaw07's few. The operations on a ring and a book as contracts with given answers; the contract of ladinglaw07's small. -/
import Derived.Test.YtkhdnfmnnapjlaaGreatDoorBook2
import Derived.Test.YtkhdnfmnnapjlaaGreatDoorBookPl
namespace Go.Proofs.YtkhdnfmnnapjlaaGreatDoor
open Go.ChangeShapes Go.WideShapes Go.ChangeAt Go.RowKit Go.Joins
set_option linter.unusedVariables false
set_option linter.unusedSimpArgs false
attribute [local irreducible] Calls

def opL (o : Bk.Opn) : List Value := [.int .i64 o.kind, .int .i64 o.n, .string ⟨o.s.toArray⟩]
structure OpOk (o : Bk.Opn) : Prop where
  k : I64 o.kind
  n : I64 o.n
  s : o.s.length ≤ 9223372036854775807
section
variable {H : Type} {enc : TypeId × Value → H} {w : World} {base : Nat} {sp : Nat → Bool} {held : Bool} {n : Nat} {x : DataW H × List MemPlace}
theorem list_of_rel {α : Type} {f : α → List Value} {Q : α → Prop} : ∀ (xs : List (List Value)), (∀ c ∈ xs, ∃ y, c = f y ∧ Q y) → ∃ l : List α, xs = l.map f ∧ ∀ y ∈ l, Q y := by
  intro xs
  induction xs with
  | nil => exact fun _ => ⟨[], rfl, fun y hy => by cases hy⟩
  | cons c xs ih =>
    intro h
    obtain ⟨l, h1, h2⟩ := ih (fun c hc => h c (List.mem_cons_of_mem _ hc))
    obtain ⟨y, h3, h4⟩ := h c (List.mem_cons_self ..)
    exact ⟨y :: l, by rw [h1, h3]; rfl, fun z hz => by rcases List.mem_cons.1 hz with rfl | hz; exact h4; exact h2 z hz⟩
end
/-- The cells of a list of operations. -/
theorem op_cells {lo hi : Nat} {w : World} {v : Value} {X : List Bk.Opn} (h : SlS 3 lo hi w v (X.map opL)) :
    ∃ a cap, v = .slice a X.length cap ∧ X.length ≤ maxLen ∧ (X = [] ∨ ∃ b off, a = some ⟨b, off, none⟩ ∧ b < hi ∧ b < w.heap.size ∧ ∀ i (h : i < X.length), w.cell? ⟨b, off + i * 3, none⟩ = some (.int .i64 X[i].kind) ∧
      w.cell? ⟨b, off + i * 3 + 1, none⟩ = some (.int .i64 X[i].n) ∧ w.cell? ⟨b, off + i * 3 + 2, none⟩ = some (.string ⟨X[i].s.toArray⟩)) := by
  obtain ⟨a, cap, rfl, hm, h⟩ := h.open_
  rw [List.length_map] at hm
  refine ⟨a, cap, by rw [List.length_map], hm, ?_⟩
  rcases h with h | ⟨b, off, rfl, _, hb1, hb, hc⟩
  · exact Or.inl (List.map_eq_nil_iff.1 h)
  · refine Or.inr ⟨b, off, rfl, hb1, hb, fun i hi => ?_⟩
    have h2 := (hc i (by simpa using hi)).2
    simp only [List.getElem_map] at h2
    exact ⟨by rw [← Nat.add_zero (off + i * 3), h2 0 (by omega)]; rfl, by rw [h2 1 (by omega)]; rfl, by rw [h2 2 (by omega)]; rfl⟩
def FewPost (l : List Bk.Opn) (w : World) (e : Ending) (w' : World) : Prop := ∃ b, e = .returned (.bool b) ∧ (b = true → l.length ≤ 25 ∧ ∀ o ∈ l, o.s.length ≤ 300) ∧ Nw w w'
end Go.Proofs.YtkhdnfmnnapjlaaGreatDoor
namespace Go.Proofs.YtkhdnfmnnapjlaaGreatDoor
open Go.RowKit
set_option linter.unusedVariables false
set_option linter.unusedSimpArgs false
attribute [local irreducible] Calls

theorem BookAt.base {B B' : Nat} {w : World} {r : BookR} {rb : Nat} {b : Bk.Book} (h : BookAt B w r rb b) (hB : B' ≤ B) (hg : nG ≤ B') : BookAt B' w r rb b :=
  ⟨hg, Nat.le_trans hB h.bb, Nat.le_trans hB h.fb, h.blk, owns_base h.own hB, h.map, h.keys, h.len, h.last, h.told, h.key⟩
theorem RingAt.base {B B' : Nat} {w : World} {r : RingR} {L : List Bk.Seal} (h : RingAt B w r L) (hB : B' ≤ B) (hg : nG ≤ B') : RingAt B' w r L :=
  ⟨hg, Nat.le_trans hB h.rb, Nat.le_trans hB h.mb, h.blk, owns_base h.own hB, h.map, h.nd, h.key⟩
theorem both_new {B : Nat} {w1 w2 : World} {r : RingR} {br : BookR} {L : List Bk.Seal} {b : Bk.Book} (hr : RingAt B w1 r L) (hb : BookAt w1.heap.size w2 br r.rb b) (u2 : Nw w1 w2) (hB : B ≤ w1.heap.size) : Both B w2 r br ⟨L, b⟩ :=
  ⟨hr.nw u2, hb.base hB hr.hb, fun k hk e => by
    have h1 := (hr.foot_lt hk).2
    have h2 := (hb.foot_lt e).1
    omega⟩
theorem new_b' (rb : Nat) (key : Int) (hk : Bk.isKey key = true) (w : World) (g : Gl w) : Calls Tryz.prog 42 #[.pointer (some ⟨rb, 0, none⟩), .int .i64 key] w fun e w' =>
    ∃ r, e = .returned (.tuple #[.pointer (some ⟨r.bb, 0, none⟩), .int .i64 0]) ∧ BookAt w.heap.size w' r rb (Bk.new key) ∧ Nw w w' := by
  refine (new_b rb key w g).mono ?_
  rintro e w' (⟨_, h⟩ | ⟨h, _⟩)
  · exact h
  · rw [hk] at h; cases h
/-- Since a world that all of it is younger than, nothing has changed. -/
theorem moved_nw {B : Nat} {w0 w w' : World} {r r' : RingR} {br br' : BookR} {x x' : Bk.St} (h : Both B w r br x) (hB : w0.heap.size ≤ B) (u : Nw w0 w) (m : Moved B r br x' w w' r' br') : Nw w0 w' :=
  Upd.trans' u m.upd (fun k hk e => by
    rcases e with e | e
    · have := (h.ring.foot_lt e).1; omega
    · have := (h.book.foot_lt e).1; omega)
theorem lit_app (B : Nat) (r : RingR) (br : BookR) (x : Bk.St) (s : ByteArray) (t : List UInt8) (y : Int × Int) (b' : Bk.Book) (hs : s.data.toList = t) (hy : Bk.append x.b t = (y, b')) (w : World) (g : Gl w) (h : Both B w r br x) (hB : B ≤ w.heap.size) (ht : t.length ≤ 140737488351232) :
    Calls Tryz.prog 43 #[.pointer (some ⟨br.bb, 0, none⟩), .string s] w fun e w' => ∃ br', e = .returned (.tuple #[.int .i64 y.1, .int .i64 y.2]) ∧ Moved B r br ⟨x.L, b'⟩ w w' r br' := by
  obtain rfl : s = ⟨t.toArray⟩ := by rw [← hs, bs_eta]
  refine (append_b B br r.rb x.b t w g h.book hB ht).mono ?_
  rintro e w' ⟨br', rfl, hb, hbb, u, hf⟩
  rw [hy] at hb ⊢
  exact ⟨br', rfl, moved_app h hb hbb u hf⟩
theorem lit_abs (B : Nat) (r : RingR) (br : BookR) (x : Bk.St) (s : ByteArray) (k : List UInt8) (n : Int) (y : Bk.Sgn) (e0 : Int) (L' : List Bk.Seal) (hs : s.data.toList = k) (hy : Bk.absent x.L x.b k n = ((y, e0), L')) (w : World) (g : Gl w) (h : Both B w r br x) (hB : B ≤ w.heap.size) (hn : I64 n) (hk : k.length ≤ 140737488351232) (hL : x.L.length ≤ 1000000) :
    Calls Tryz.prog 59 #[.pointer (some ⟨br.bb, 0, none⟩), .string s, .int .i64 n] w fun e w' => ∃ r', e = .returned (.tuple #[.agg #[.int .i64 y.key, .string ⟨y.text.toArray⟩, .int .i64 y.mark], .int .i64 e0]) ∧ Moved B r br ⟨L', x.b⟩ w w' r' br := by
  obtain rfl : s = ⟨k.toArray⟩ := by rw [← hs, bs_eta]
  refine (absent_b B r br x.L x.b k n w g h.ring h.book hB hn hk hL).mono ?_
  rintro e w' ⟨r', rfl, hr, hrb, u, hf⟩
  rw [hy] at hr ⊢
  exact ⟨r', rfl, moved_sgn h hr hrb u hf⟩
theorem lit_head (B : Nat) (r : RingR) (br : BookR) (x : Bk.St) (n : Int) (y : Bk.Sgn) (e0 : Int) (L' : List Bk.Seal) (b' : Bk.Book) (hy : Bk.head x.L x.b n = ((y, e0), L', b')) (w : World) (g : Gl w) (h : Both B w r br x) (hB : B ≤ w.heap.size) (hn : I64 n) (hL : x.L.length ≤ 1000000) :
    Calls Tryz.prog 57 #[.pointer (some ⟨br.bb, 0, none⟩), .int .i64 n] w fun e w' => ∃ r', e = .returned (.tuple #[.agg #[.int .i64 y.key, .string ⟨y.text.toArray⟩, .int .i64 y.mark], .int .i64 e0]) ∧ Moved B r br ⟨L', b'⟩ w w' r' br := by
  refine (head_b B r br x.L x.b n w g h.ring h.book hB hn h.dis hL).mono ?_
  rintro e w' ⟨r', rfl, hr, hrb, hb, u, hf⟩
  rw [hy] at hr hb ⊢
  exact ⟨r', rfl, moved_head h hr hb hrb u hf⟩
theorem moved_apart {B p : Nat} {w w' : World} {r r' : RingR} {br br' : BookR} {x' : Bk.St} (m : Moved B r br x' w w' r' br') (hp : ∀ j, (r.foot j ∨ br.foot j) → ¬ j = p) (hlt : p < w.heap.size) : ∀ j, (r'.foot j ∨ br'.foot j) → ¬ j = p := by
  rintro j (hj | hj) e
  · rcases m.f1 j hj with h | h
    · exact hp j (Or.inl h) e
    · omega
  · rcases m.f2 j hj with h | h
    · exact hp j (Or.inr h) e
    · omega
theorem both_apart {B : Nat} {w : World} {r : RingR} {br : BookR} {x : Bk.St} (h : Both B w r br x) : ∀ j, (r.foot j ∨ br.foot j) → ¬ j = w.heap.size := by
  rintro j (hj | hj) e
  · have := (h.ring.foot_lt hj).2; omega
  · have := (h.book.foot_lt hj).2; omega
end Go.Proofs.YtkhdnfmnnapjlaaGreatDoor
