/- Layer 37 in plain words: mirrors, what they are fed, what they answer, and what Ask makes of answers. No program stands in this text. -/
import Derived.Test.YtkhdnfmnnapjlaaDoorViewBk
namespace Go.Proofs.YtkhdnfmnnapjlaaDoor.Mi
open Go.Lib Go.RowKit
open Bk (Seal Sgn noSgn isKey place valid sign Book)
set_option linter.unusedVariables false
set_option linter.unusedSimpArgs false

/-- A mirror: its mode; entries (l 0), heads (l 1), absences (l 2); contents. -/
structure Mir where
  mode : Int
  l : Nat → List Sgn
  cs : List (List UInt8)
def fresh (mode : Int) : Mir := ⟨mode, fun _ => [], []⟩
def setS (l : Nat → List Sgn) (i : Nat) (s : List Sgn) : Nat → List Sgn := fun k => if k = i then s else l k
def push (m : Mir) (i : Nat) (s : Sgn) : Mir := { m with l := setS m.l i (m.l i ++ [s]) }
theorem push_self (m : Mir) (i : Nat) (s : Sgn) : (push m i s).l i = m.l i ++ [s] := by simp [push, setS]
theorem push_ne (m : Mir) {i k : Nat} (s : Sgn) (h : k ≠ i) : (push m i s).l k = m.l k := by simp [push, setS, h]
def told {α : Type} (mode : Int) (l : List α) : List α := if mode = 2 then l.take (l.length / 2) else l
def atL {α : Type} (l : List α) (i : Int) : List α := if i < 0 ∨ (l.length : Int) ≤ i then [] else (l.drop i.toNat).take 1
structure Ques where
  kind : Int
  n : Int
  text : List UInt8
structure Ans where
  claims : List Sgn
  text : List UInt8
  has : Bool
def good (q : Ques) (s : Sgn) : Bool := (Cl.read s.text).2 && decide ((Cl.read s.text).1.text = q.text) && decide (q.n ≤ (Cl.read s.text).1.n)
def find (m : Mir) (q : Ques) : List Sgn :=
  if q.kind = 0 then (if m.mode = 3 then atL (told m.mode (m.l 1)) 0 else atL (told m.mode (m.l 1)) ((told m.mode (m.l 1)).length - 1))
  else if q.kind = 1 then atL (told m.mode (m.l 0)) q.n
  else if q.kind = 2 then ((told m.mode (m.l 2)).reverse.find? (good q)).toList
  else []
def textC (l : List (List UInt8)) (i : Int) : List UInt8 × Bool := if i < 0 ∨ (l.length : Int) ≤ i then ([], false) else (l.getD i.toNat [], true)
def forge (s : Sgn) : Sgn := ⟨s.key, s.text ++ [120], s.mark⟩
def answer (m : Mir) (q : Ques) : Ans :=
  let t := if q.kind = 3 then textC (told m.mode m.cs) q.n else ([], false)
  if m.mode = 4 then ⟨(find m q).map forge, if t.2 then t.1 ++ [120] else t.1, t.2⟩ else ⟨find m q, t.1, t.2⟩
/-! ### Feed -/
def entS (L : List Seal) (b : Book) (m : Mir) (i : Nat) : List Seal × Mir := ((Bk.entry L b i).2, push m 0 (Bk.entry L b i).1.1)
def entL (L : List Seal) (b : Book) (m : Mir) (i : Nat) : Nat → List Seal × Mir
  | 0 => (L, m)
  | n + 1 => entS (entL L b m i n).1 b (entL L b m i n).2 (i + n)
def absS (b : Book) (x : List Seal × Mir) (k : List UInt8) : List Seal × Mir :=
  ((Bk.absent x.1 b k b.es.length).2, if (Bk.absent x.1 b k b.es.length).1.2 = 0 then push x.2 2 (Bk.absent x.1 b k b.es.length).1.1 else x.2)
def absL (b : Book) (x : List Seal × Mir) (ks : List (List UInt8)) : List Seal × Mir := ks.foldl (absS b) x
theorem absL_take (b : Book) (x : List Seal × Mir) (ks : List (List UInt8)) (j : Nat) (h : j < ks.length) : absL b x (ks.take (j + 1)) = absS b (absL b x (ks.take j)) ks[j] := by
  unfold absL
  rw [List.take_succ_eq_append_getElem h, List.foldl_append]
  rfl
def fed (L : List Seal) (b : Book) (m : Mir) (ks cs : List (List UInt8)) : List Seal × Mir :=
  let y := absL b (entL L b m (m.l 0).length (b.es.length - (m.l 0).length)) ks
  (y.1, if m.cs.length < cs.length then { y.2 with cs := cs } else y.2)
def feed (L : List Seal) (b : Book) (m : Mir) (ks cs : List (List UInt8)) (now : Int) : Int × List Seal × Book × Mir :=
  if m.mode = 1 ∧ m.l 1 ≠ [] then (0, L, b, m)
  else if (Bk.head L b now).1.2 ≠ 0 then ((Bk.head L b now).1.2, (Bk.head L b now).2.1, (Bk.head L b now).2.2, m)
  else (0, (fed (Bk.head L b now).2.1 (Bk.head L b now).2.2 (push m 1 (Bk.head L b now).1.1) ks cs).1, (Bk.head L b now).2.2, (fed (Bk.head L b now).2.1 (Bk.head L b now).2.2 (push m 1 (Bk.head L b now).1.1) ks cs).2)
/-! ### Ask -/
structure AskR where
  L : List Sgn
  old : Sgn
  odd : Sgn
  e : Int
def askS (Lr : List Seal) (key : Int) (r : AskR) (s : Sgn) : AskR :=
  if (Vw.accept Lr key r.L s).1 = 21 ∧ r.e = 0 then ⟨(Vw.accept Lr key r.L s).2, (Vw.clash r.L s).1, s, 21⟩ else { r with L := (Vw.accept Lr key r.L s).2 }
def askL (Lr : List Seal) (key : Int) (r : AskR) (l : List Sgn) : AskR := l.foldl (askS Lr key) r
theorem askL_take (Lr : List Seal) (key : Int) (r : AskR) (l : List Sgn) (j : Nat) (h : j < l.length) : askL Lr key r (l.take (j + 1)) = askS Lr key (askL Lr key r (l.take j)) l[j] := by
  unfold askL
  rw [List.take_succ_eq_append_getElem h, List.foldl_append]
  rfl
def askA (Lr : List Seal) (key : Int) (r : AskR) (an : List Ans) : AskR := an.foldl (fun r a => askL Lr key r a.claims) r
theorem askA_take (Lr : List Seal) (key : Int) (r : AskR) (an : List Ans) (j : Nat) (h : j < an.length) : askA Lr key r (an.take (j + 1)) = askL Lr key (askA Lr key r (an.take j)) an[j].claims := by
  unfold askA
  rw [List.take_succ_eq_append_getElem h, List.foldl_append]
  rfl
def askE (r : AskR) (now bound : Int) : Int := if r.e = 0 ∧ (Vw.age r.L now < 0 ∨ bound < Vw.age r.L now) then 20 else r.e
def ask (Lr : List Seal) (key : Int) (L : List Sgn) (an : List Ans) : AskR := askA Lr key ⟨L, noSgn, noSgn, 0⟩ an
/-! ### Lists -/
theorem told_len {α : Type} (mode : Int) (l : List α) : (told mode l).length ≤ l.length := by
  unfold told
  split
  · rw [List.length_take]; omega
  · exact Nat.le_refl _
theorem told_mem {α : Type} {mode : Int} {l : List α} {x : α} (h : x ∈ told mode l) : x ∈ l := by
  unfold told at h
  split at h
  · exact List.mem_of_mem_take h
  · exact h
theorem atL_mem {α : Type} {l : List α} {i : Int} {x : α} (h : x ∈ atL l i) : x ∈ l := by
  unfold atL at h
  split at h
  · cases h
  · exact List.mem_of_mem_drop (List.mem_of_mem_take h)
theorem atL_len {α : Type} (l : List α) (i : Int) : (atL l i).length ≤ 1 := by
  unfold atL
  split
  · exact Nat.zero_le _
  · rw [List.length_take]; omega
theorem atL_get {α : Type} {l : List α} {i : Nat} (h : i < l.length) : atL l i = [l[i]] := by
  unfold atL
  rw [if_neg (by omega), Int.toNat_natCast, List.drop_eq_getElem_cons h]
  rfl
theorem atL_out {α : Type} {l : List α} {i : Int} (h : i < 0 ∨ (l.length : Int) ≤ i) : atL l i = [] := by
  unfold atL
  rw [if_pos h]
theorem find_mem {m : Mir} {q : Ques} {x : Sgn} (h : x ∈ find m q) : ∃ i, i < 3 ∧ x ∈ m.l i := by
  unfold find at h
  split at h
  · split at h <;> exact ⟨1, by decide, told_mem (atL_mem h)⟩
  split at h
  · exact ⟨0, by decide, told_mem (atL_mem h)⟩
  split at h
  · rw [Option.mem_toList] at h
    exact ⟨2, by decide, told_mem (List.mem_reverse.1 (List.mem_of_find?_eq_some h))⟩
  · cases h
theorem find_len (m : Mir) (q : Ques) : (find m q).length ≤ 1 := by
  unfold find
  split
  · split <;> exact atL_len _ _
  split
  · exact atL_len _ _
  split
  · cases (told m.mode (m.l 2)).reverse.find? (good q) <;> simp
  · exact Nat.zero_le _
/-- The last of a list. -/
theorem find_last {α : Type} {l : List α} {p : α → Bool} {i : Nat} (h : i < l.length) (hp : p l[i] = true) (hn : ∀ x ∈ l.drop (i + 1), p x = false) : l.reverse.find? p = some l[i] := by
  have e : l.reverse = (l.take i ++ l[i] :: l.drop (i + 1)).reverse := by rw [← List.drop_eq_getElem_cons h, List.take_append_drop]
  rw [e, List.reverse_append, List.reverse_cons, List.find?_append, List.find?_append]
  rw [show (l.drop (i + 1)).reverse.find? p = none by
    rw [List.find?_eq_none]
    intro x hx
    rw [hn x (List.mem_reverse.1 hx)]
    simp]
  simp [hp]
theorem find_none {α : Type} {l : List α} {p : α → Bool} (hn : ∀ x ∈ l, p x = false) : l.reverse.find? p = none := by
  rw [List.find?_eq_none]
  intro x hx
  rw [hn x (List.mem_reverse.1 hx)]
  simp
theorem entL_l (L : List Seal) (b : Book) (m : Mir) (i n : Nat) : ((entL L b m i n).2.l 0).length = (m.l 0).length + n ∧ (entL L b m i n).2.l 1 = m.l 1 ∧ (entL L b m i n).2.l 2 = m.l 2 ∧ (entL L b m i n).2.mode = m.mode ∧ (entL L b m i n).2.cs = m.cs := by
  induction n with
  | zero => exact ⟨rfl, rfl, rfl, rfl, rfl⟩
  | succ n ih =>
    unfold entL entS
    dsimp only
    rw [push_self, push_ne _ _ (by decide), push_ne _ _ (by decide), List.length_append]
    exact ⟨by have := ih.1; simp; omega, ih.2.1, ih.2.2.1, ih.2.2.2.1, ih.2.2.2.2⟩
end Go.Proofs.YtkhdnfmnnapjlaaDoor.Mi
