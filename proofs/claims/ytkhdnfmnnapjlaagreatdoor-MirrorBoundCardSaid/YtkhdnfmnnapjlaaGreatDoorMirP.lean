/- Layer 37 in plain words: mirrors, what they are fed, what they answer, and what Ask makes of answers. No program stands in this text. Layer 37 in plain words: the documentation's example. No program stands in this text. Layer 37 in plain words: acts that happen with a book and mirrors; what is true of all of it. No program stands in this text. Layer 37 in plain words: what MirrorModes and MirrorBound say. No program stands in this text. -/
import Derived.Test.YtkhdnfmnnapjlaaGreatDoorViewBk
namespace Go.Proofs.YtkhdnfmnnapjlaaGreatDoor.Mi
open Go.Lib Go.RowKit
open Bk (Seal Sgn noSgn isKey place valid sign Book)
set_option linter.unusedVariables false
set_option linter.unusedSimpArgs false

/-- A mirror: its mode; entries (l 0), heads (l 1), absences (l 2); contents. -/
structure Mir where
  mode : Int
  l : Nat → List Sgn
  cs : List (List UInt8)
def fresh (mode : Int) : Mir := ⟨mode, fun _ => [], []⟩
def setS (l : Nat → List Sgn) (i : Nat) (s : List Sgn) : Nat → List Sgn := fun k => if k = i then s else l k
def push (m : Mir) (i : Nat) (s : Sgn) : Mir := { m with l := setS m.l i (m.l i ++ [s]) }
theorem push_self (m : Mir) (i : Nat) (s : Sgn) : (push m i s).l i = m.l i ++ [s] := by simp [push, setS]
theorem push_ne (m : Mir) {i k : Nat} (s : Sgn) (h : k ≠ i) : (push m i s).l k = m.l k := by simp [push, setS, h]
def told {α : Type} (mode : Int) (l : List α) : List α := if mode = 2 then l.take (l.length / 2) else l
def atL {α : Type} (l : List α) (i : Int) : List α := if i < 0 ∨ (l.length : Int) ≤ i then [] else (l.drop i.toNat).take 1
structure Ques where
  kind : Int
  n : Int
  text : List UInt8
structure Ans where
  claims : List Sgn
  text : List UInt8
  has : Bool
def good (q : Ques) (s : Sgn) : Bool := (Cl.read s.text).2 && decide ((Cl.read s.text).1.text = q.text) && decide (q.n ≤ (Cl.read s.text).1.n)
def find (m : Mir) (q : Ques) : List Sgn :=
  if q.kind = 0 then (if m.mode = 3 then atL (told m.mode (m.l 1)) 0 else atL (told m.mode (m.l 1)) ((told m.mode (m.l 1)).length - 1))
  else if q.kind = 1 then atL (told m.mode (m.l 0)) q.n
  else if q.kind = 2 then ((told m.mode (m.l 2)).reverse.find? (good q)).toList
  else []
def textC (l : List (List UInt8)) (i : Int) : List UInt8 × Bool := if i < 0 ∨ (l.length : Int) ≤ i then ([], false) else (l.getD i.toNat [], true)
def forge (s : Sgn) : Sgn := ⟨s.key, s.text ++ [120], s.mark⟩
def answer (m : Mir) (q : Ques) : Ans :=
  let t := if q.kind = 3 then textC (told m.mode m.cs) q.n else ([], false)
  if m.mode = 4 then ⟨(find m q).map forge, if t.2 then t.1 ++ [120] else t.1, t.2⟩ else ⟨find m q, t.1, t.2⟩
/-! ### Feed -/
def entS (L : List Seal) (b : Book) (m : Mir) (i : Nat) : List Seal × Mir := ((Bk.entry L b i).2, push m 0 (Bk.entry L b i).1.1)
def entL (L : List Seal) (b : Book) (m : Mir) (i : Nat) : Nat → List Seal × Mir
  | 0 => (L, m)
  | n + 1 => entS (entL L b m i n).1 b (entL L b m i n).2 (i + n)
def absS (b : Book) (x : List Seal × Mir) (k : List UInt8) : List Seal × Mir :=
  ((Bk.absent x.1 b k b.es.length).2, if (Bk.absent x.1 b k b.es.length).1.2 = 0 then push x.2 2 (Bk.absent x.1 b k b.es.length).1.1 else x.2)
def absL (b : Book) (x : List Seal × Mir) (ks : List (List UInt8)) : List Seal × Mir := ks.foldl (absS b) x
theorem absL_take (b : Book) (x : List Seal × Mir) (ks : List (List UInt8)) (j : Nat) (h : j < ks.length) : absL b x (ks.take (j + 1)) = absS b (absL b x (ks.take j)) ks[j] := by
  unfold absL
  rw [List.take_succ_eq_append_getElem h, List.foldl_append]
  rfl
def fed (L : List Seal) (b : Book) (m : Mir) (ks cs : List (List UInt8)) : List Seal × Mir :=
  let y := absL b (entL L b m (m.l 0).length (b.es.length - (m.l 0).length)) ks
  (y.1, if m.cs.length < cs.length then { y.2 with cs := cs } else y.2)
def feed (L : List Seal) (b : Book) (m : Mir) (ks cs : List (List UInt8)) (now : Int) : Int × List Seal × Book × Mir :=
  if m.mode = 1 ∧ m.l 1 ≠ [] then (0, L, b, m)
  else if (Bk.head L b now).1.2 ≠ 0 then ((Bk.head L b now).1.2, (Bk.head L b now).2.1, (Bk.head L b now).2.2, m)
  else (0, (fed (Bk.head L b now).2.1 (Bk.head L b now).2.2 (push m 1 (Bk.head L b now).1.1) ks cs).1, (Bk.head L b now).2.2, (fed (Bk.head L b now).2.1 (Bk.head L b now).2.2 (push m 1 (Bk.head L b now).1.1) ks cs).2)
/-! ### Ask -/
structure AskR where
  L : List Sgn
  old : Sgn
  odd : Sgn
  e : Int
def askS (Lr : List Seal) (key : Int) (r : AskR) (s : Sgn) : AskR :=
  if (Vw.accept Lr key r.L s).1 = 21 ∧ r.e = 0 then ⟨(Vw.accept Lr key r.L s).2, (Vw.clash r.L s).1, s, 21⟩ else { r with L := (Vw.accept Lr key r.L s).2 }
def askL (Lr : List Seal) (key : Int) (r : AskR) (l : List Sgn) : AskR := l.foldl (askS Lr key) r
theorem askL_take (Lr : List Seal) (key : Int) (r : AskR) (l : List Sgn) (j : Nat) (h : j < l.length) : askL Lr key r (l.take (j + 1)) = askS Lr key (askL Lr key r (l.take j)) l[j] := by
  unfold askL
  rw [List.take_succ_eq_append_getElem h, List.foldl_append]
  rfl
def askA (Lr : List Seal) (key : Int) (r : AskR) (an : List Ans) : AskR := an.foldl (fun r a => askL Lr key r a.claims) r
theorem askA_take (Lr : List Seal) (key : Int) (r : AskR) (an : List Ans) (j : Nat) (h : j < an.length) : askA Lr key r (an.take (j + 1)) = askL Lr key (askA Lr key r (an.take j)) an[j].claims := by
  unfold askA
  rw [List.take_succ_eq_append_getElem h, List.foldl_append]
  rfl
def askE (r : AskR) (now bound : Int) : Int := if r.e = 0 ∧ (Vw.age r.L now < 0 ∨ bound < Vw.age r.L now) then 20 else r.e
def ask (Lr : List Seal) (key : Int) (L : List Sgn) (an : List Ans) : AskR := askA Lr key ⟨L, noSgn, noSgn, 0⟩ an
/-! ### Lists -/
theorem told_len {α : Type} (mode : Int) (l : List α) : (told mode l).length ≤ l.length := by
  unfold told
  split
  · rw [List.length_take]; omega
  · exact Nat.le_refl _
theorem told_mem {α : Type} {mode : Int} {l : List α} {x : α} (h : x ∈ told mode l) : x ∈ l := by
  unfold told at h
  split at h
  · exact List.mem_of_mem_take h
  · exact h
theorem atL_mem {α : Type} {l : List α} {i : Int} {x : α} (h : x ∈ atL l i) : x ∈ l := by
  unfold atL at h
  split at h
  · cases h
  · exact List.mem_of_mem_drop (List.mem_of_mem_take h)
theorem atL_len {α : Type} (l : List α) (i : Int) : (atL l i).length ≤ 1 := by
  unfold atL
  split
  · exact Nat.zero_le _
  · rw [List.length_take]; omega
theorem atL_get {α : Type} {l : List α} {i : Nat} (h : i < l.length) : atL l i = [l[i]] := by
  unfold atL
  rw [if_neg (by omega), Int.toNat_natCast, List.drop_eq_getElem_cons h]
  rfl
theorem atL_out {α : Type} {l : List α} {i : Int} (h : i < 0 ∨ (l.length : Int) ≤ i) : atL l i = [] := by
  unfold atL
  rw [if_pos h]
theorem find_mem {m : Mir} {q : Ques} {x : Sgn} (h : x ∈ find m q) : ∃ i, i < 3 ∧ x ∈ m.l i := by
  unfold find at h
  split at h
  · split at h <;> exact ⟨1, by decide, told_mem (atL_mem h)⟩
  split at h
  · exact ⟨0, by decide, told_mem (atL_mem h)⟩
  split at h
  · rw [Option.mem_toList] at h
    exact ⟨2, by decide, told_mem (List.mem_reverse.1 (List.mem_of_find?_eq_some h))⟩
  · cases h
theorem find_len (m : Mir) (q : Ques) : (find m q).length ≤ 1 := by
  unfold find
  split
  · split <;> exact atL_len _ _
  split
  · exact atL_len _ _
  split
  · cases (told m.mode (m.l 2)).reverse.find? (good q) <;> simp
  · exact Nat.zero_le _
/-- The last of a list. -/
theorem find_last {α : Type} {l : List α} {p : α → Bool} {i : Nat} (h : i < l.length) (hp : p l[i] = true) (hn : ∀ x ∈ l.drop (i + 1), p x = false) : l.reverse.find? p = some l[i] := by
  have e : l.reverse = (l.take i ++ l[i] :: l.drop (i + 1)).reverse := by rw [← List.drop_eq_getElem_cons h, List.take_append_drop]
  rw [e, List.reverse_append, List.reverse_cons, List.find?_append, List.find?_append]
  rw [show (l.drop (i + 1)).reverse.find? p = none by
    rw [List.find?_eq_none]
    intro x hx
    rw [hn x (List.mem_reverse.1 hx)]
    simp]
  simp [hp]
theorem find_none {α : Type} {l : List α} {p : α → Bool} (hn : ∀ x ∈ l, p x = false) : l.reverse.find? p = none := by
  rw [List.find?_eq_none]
  intro x hx
  rw [hn x (List.mem_reverse.1 hx)]
  simp
theorem entL_l (L : List Seal) (b : Book) (m : Mir) (i n : Nat) : ((entL L b m i n).2.l 0).length = (m.l 0).length + n ∧ (entL L b m i n).2.l 1 = m.l 1 ∧ (entL L b m i n).2.l 2 = m.l 2 ∧ (entL L b m i n).2.mode = m.mode ∧ (entL L b m i n).2.cs = m.cs := by
  induction n with
  | zero => exact ⟨rfl, rfl, rfl, rfl, rfl⟩
  | succ n ih =>
    unfold entL entS
    dsimp only
    rw [push_self, push_ne _ _ (by decide), push_ne _ _ (by decide), List.length_append]
    exact ⟨by have := ih.1; simp; omega, ih.2.1, ih.2.2.1, ih.2.2.2.1, ih.2.2.2.2⟩
end Go.Proofs.YtkhdnfmnnapjlaaGreatDoor.Mi
namespace Go.Proofs.YtkhdnfmnnapjlaaGreatDoor.Ex37
open Go.Lib Go.RowKit
open Bk (Seal Sgn noSgn Book)
set_option linter.unusedVariables false
set_option linter.unusedSimpArgs false

def ta : List UInt8 := [49, 58, 97, 44]
def tb : List UInt8 := [49, 58, 98, 44]
def td : List UInt8 := [49, 58, 100, 44]
def B1 : Book := (Bk.append (Bk.new 3) ta).2
def B2 : Book := (Bk.append B1 tb).2
/-- Fed at 5 and at 8. -/
def F1 (k : Int) := Mi.feed [] B2 (Mi.fresh k) [[122]] [[99]] 5
def L1 (k : Int) : List Seal := (F1 k).2.1
def B3 (k : Int) : Book := (F1 k).2.2.1
def M1 (k : Int) : Mi.Mir := (F1 k).2.2.2
def B4 (k : Int) : Book := (Bk.append (B3 k) td).2
def F2 (k : Int) := Mi.feed (L1 k) (B4 k) (M1 k) [[122]] [[99]] 8
def L2 (k : Int) : List Seal := (F2 k).2.1
def B5 (k : Int) : Book := (F2 k).2.2.1
def M2 (k : Int) : Mi.Mir := (F2 k).2.2.2
def HD (k : Int) := Bk.head (L2 k) (B5 k) 8
def hd (k : Int) : Sgn := (HD k).1.1
def q1 : Mi.Ques := ⟨0, 0, []⟩
def q2 : Mi.Ques := ⟨1, 2, []⟩
def h3 : List UInt8 := [49, 59, 51, 59, 56, 59, 48, 58, 44]
def h2 : List UInt8 := [49, 59, 50, 59, 53, 59, 48, 58, 44]
def heads : List (List UInt8) := [h3, h2, h2, h2, h3 ++ [120]]
def told : List Nat := [1, 0, 0, 1, 1]
def sizes (m : Mi.Mir) : List Nat := [(m.l 0).length, (m.l 1).length, (m.l 2).length, m.cs.length]
/-- All that the example says of a mode. -/
def Says (i : Nat) : Prop :=
  (F1 i).1 = 0 ∧ (F2 i).1 = 0 ∧ (HD i).1.2 = 0 ∧ sizes (M2 i) = (if i = 1 then [2, 1, 1, 1] else [3, 2, 2, 1]) ∧
  (Mi.answer (M2 i) q1).claims.map (·.text) = [heads.getD i []] ∧ (Mi.answer (M2 i) q2).claims.length = told.getD i 0 ∧ (i = 4 → (Mi.answer (M2 i) q1).claims.map (·.mark) = [(hd i).mark]) ∧
  ((L1 i).length ≤ 100 ∧ (L2 i).length ≤ 100 ∧ (B4 i).es.length ≤ 100 ∧ ∀ t ∈ (B4 i).es, t.length ≤ 100) ∧ ((M1 i).l 1).length ≤ 100 ∧ ((M1 i).l 2).length ≤ 100
instance (i : Nat) : Decidable (Says i) := by unfold Says; infer_instance
theorem says0 : Says 0 := by decide +kernel
theorem says1 : Says 1 := by decide +kernel
theorem says2 : Says 2 := by decide +kernel
theorem says3 : Says 3 := by decide +kernel
theorem says4 : Says 4 := by decide +kernel
theorem says (i : Nat) (hi : i < 5) : Says i := by
  match i, hi with
  | 0, _ => exact says0
  | 1, _ => exact says1
  | 2, _ => exact says2
  | 3, _ => exact says3
  | 4, _ => exact says4
end Go.Proofs.YtkhdnfmnnapjlaaGreatDoor.Ex37
namespace Go.Proofs.YtkhdnfmnnapjlaaGreatDoor.Mi
open Go.Lib Go.RowKit
open Bk (Seal Sgn noSgn isKey place valid sign Book)
open Cl (Clm right contra)
open Vw (Made Turn turnS)
set_option linter.unusedVariables false
set_option linter.unusedSimpArgs false

structure PAct where
  do_ : Int
  mirror : Int
  kind : Int
  n : Int
  name : List UInt8
  text : List UInt8
def pick (i : Int) (n : Nat) : Nat := ((i.tmod n + n).tmod n).toNat
theorem pick_lt (i : Int) {n : Nat} (h : 0 < n) : pick i n < n := by
  unfold pick
  have h1 : (-(n : Int)) < i.tmod n := by
    have h2 := Int.natAbs_tmod i (n : Int)
    have h3 : i.natAbs % (n : Int).natAbs < (n : Int).natAbs := Nat.mod_lt _ (by omega)
    omega
  have h2 := Int.tmod_lt_of_pos (i.tmod n + n) (b := (n : Int)) (by omega)
  have h3 := Int.tmod_nonneg (n : Int) (show 0 ≤ i.tmod n + n by omega)
  omega
structure PS where
  L : List Seal
  b : Book
  ms : List Mir
  cs : List (List UInt8)
  an : List Ans
  qs : List Ques
  now : Int
def line (a : PAct) : List UInt8 := Wire.textE a.name ++ a.text
def addC (cs : List (List UInt8)) (t : List UInt8) : List (List UInt8) := if t ∈ cs then cs else cs ++ [t]
def quesOf (a : PAct) : Ques := ⟨a.kind, a.n, a.name⟩
def mirOf (s : PS) (a : PAct) : Mir := s.ms.getD (pick a.mirror s.ms.length) (fresh 0)
def fedR (s : PS) (a : PAct) : Int × List Seal × Book × Mir := feed s.L s.b (mirOf s a) [a.name] s.cs (s.now + a.n)
def stepP (s : PS) (a : PAct) : PS :=
  if a.do_ = 0 then { s with b := (Bk.append s.b (line a)).2 }
  else if a.do_ = 1 then { s with cs := addC s.cs a.text }
  else if a.do_ = 2 then { s with L := (fedR s a).2.1, b := (fedR s a).2.2.1, ms := s.ms.set (pick a.mirror s.ms.length) (fedR s a).2.2.2, now := s.now + a.n }
  else if a.do_ = 3 then { s with an := s.an ++ [answer (mirOf s a) (quesOf a)], qs := s.qs ++ [quesOf a] }
  else s
def play (s : PS) (l : List PAct) : PS := l.foldl stepP s
theorem play_take (s : PS) (l : List PAct) (j : Nat) (h : j < l.length) : play s (l.take (j + 1)) = stepP (play s (l.take j)) l[j] := by
  unfold play
  rw [List.take_succ_eq_append_getElem h, List.foldl_append]
  rfl
/-! ### What Feed signs is the book's -/
section
variable {key : Int} {L : List Seal} {b : Book} {m : Mir} {M : List Sgn}
theorem entL_made (i n : Nat) (hn : ∀ j, j < n → i + j < b.es.length) (h : Made key ⟨L, b⟩ M) (hm : ∀ k, k < 3 → ∀ s ∈ m.l k, s ∈ M) :
    ∃ M', (∀ s ∈ M, s ∈ M') ∧ Made key ⟨(entL L b m i n).1, b⟩ M' ∧ ∀ k, k < 3 → ∀ s ∈ (entL L b m i n).2.l k, s ∈ M' := by
  induction n with
  | zero => exact ⟨M, fun s hs => hs, h, hm⟩
  | succ n ih =>
    obtain ⟨M1, g1, g2, g3⟩ := ih (fun j hj => hn j (by omega))
    have hin := hn n (by omega)
    have st := g2.step ⟨1, [], [], ((i + n : Nat) : Int)⟩
    have et : turnS ⟨(entL L b m i n).1, b⟩ ⟨1, [], [], ((i + n : Nat) : Int)⟩ = ((Bk.entry (entL L b m i n).1 b ((i + n : Nat) : Int)).1, ⟨(Bk.entry (entL L b m i n).1 b ((i + n : Nat) : Int)).2, b⟩) := rfl
    have e0 : (Bk.entry (entL L b m i n).1 b ((i + n : Nat) : Int)).1.2 = 0 := by
      unfold Bk.entry
      rw [if_neg (by omega)]
    rw [et] at st
    dsimp only at st
    rw [if_pos e0] at st
    refine ⟨_, fun s hs => List.mem_append_left _ (g1 s hs), st, fun k hk s hs => ?_⟩
    have hs' : s ∈ (push (entL L b m i n).2 0 (Bk.entry (entL L b m i n).1 b ((i + n : Nat) : Int)).1.1).l k := hs
    by_cases h0 : k = 0
    · subst h0
      rw [push_self] at hs'
      rcases List.mem_append.1 hs' with hs' | hs'
      · exact List.mem_append_left _ (g3 0 (by decide) s hs')
      · exact List.mem_append_right _ hs'
    · rw [push_ne _ _ h0] at hs'
      exact List.mem_append_left _ (g3 k hk s hs')
theorem absL_made (x : List Seal × Mir) (ks : List (List UInt8)) (h : Made key ⟨x.1, b⟩ M) (hm : ∀ k, k < 3 → ∀ s ∈ x.2.l k, s ∈ M) :
    ∃ M', (∀ s ∈ M, s ∈ M') ∧ Made key ⟨(absL b x ks).1, b⟩ M' ∧ ∀ k, k < 3 → ∀ s ∈ (absL b x ks).2.l k, s ∈ M' := by
  induction ks generalizing x M with
  | nil => exact ⟨M, fun s hs => hs, h, hm⟩
  | cons k ks ih =>
    have st := h.step ⟨3, k, [], (b.es.length : Int)⟩
    have et : turnS ⟨x.1, b⟩ ⟨3, k, [], (b.es.length : Int)⟩ = ((Bk.absent x.1 b k b.es.length).1, ⟨(Bk.absent x.1 b k b.es.length).2, b⟩) := rfl
    rw [et] at st
    dsimp only at st
    have hstep : ∃ M1, (∀ s ∈ M, s ∈ M1) ∧ Made key ⟨(absS b x k).1, b⟩ M1 ∧ ∀ i, i < 3 → ∀ s ∈ (absS b x k).2.l i, s ∈ M1 := by
      unfold absS
      dsimp only
      by_cases e0 : (Bk.absent x.1 b k b.es.length).1.2 = 0
      · rw [if_pos e0] at st
        rw [if_pos e0]
        refine ⟨_, fun s hs => List.mem_append_left _ hs, st, fun i hi s hs => ?_⟩
        by_cases h2 : i = 2
        · subst h2
          rw [push_self] at hs
          rcases List.mem_append.1 hs with hs | hs
          · exact List.mem_append_left _ (hm 2 (by decide) s hs)
          · exact List.mem_append_right _ hs
        · rw [push_ne _ _ h2] at hs
          exact List.mem_append_left _ (hm i hi s hs)
      · rw [if_neg e0] at st
        rw [if_neg e0]
        exact ⟨M, fun s hs => hs, st, hm⟩
    obtain ⟨M1, a1, a2, a3⟩ := hstep
    obtain ⟨M2, b1, b2, b3⟩ := ih (absS b x k) a2 a3
    exact ⟨M2, fun s hs => b1 s (a1 s hs), b2, b3⟩
theorem absL_l (b : Book) (x : List Seal × Mir) (ks : List (List UInt8)) : (absL b x ks).2.l 0 = x.2.l 0 ∧ (absL b x ks).2.l 1 = x.2.l 1 ∧ (absL b x ks).2.cs = x.2.cs ∧ (absL b x ks).2.mode = x.2.mode ∧ ((absL b x ks).2.l 2).length ≤ (x.2.l 2).length + ks.length := by
  induction ks generalizing x with
  | nil => exact ⟨rfl, rfl, rfl, rfl, Nat.le_refl _⟩
  | cons k ks ih =>
    obtain ⟨i1, i2, i3, i4, i5⟩ := ih (absS b x k)
    have e : absL b x (k :: ks) = absL b (absS b x k) ks := rfl
    rw [e, List.length_cons]
    have e2 : ((absS b x k).2.l 2).length ≤ (x.2.l 2).length + 1 ∧ (absS b x k).2.l 0 = x.2.l 0 ∧ (absS b x k).2.l 1 = x.2.l 1 ∧ (absS b x k).2.cs = x.2.cs ∧ (absS b x k).2.mode = x.2.mode := by
      unfold absS
      dsimp only
      split
      · rw [push_self, push_ne _ _ (by decide), push_ne _ _ (by decide), List.length_append]
        exact ⟨Nat.le_refl _, rfl, rfl, rfl, rfl⟩
      · exact ⟨Nat.le_succ _, rfl, rfl, rfl, rfl⟩
    exact ⟨i1.trans e2.2.1, i2.trans e2.2.2.1, i3.trans e2.2.2.2.1, i4.trans e2.2.2.2.2, by omega⟩
end
/-- What is true of a mirror. -/
structure MInv (M : List Sgn) (cs : List (List UInt8)) (m : Mir) : Prop where
  mem : ∀ i, i < 3 → ∀ s ∈ m.l i, s ∈ M
  none : m.l 1 = [] → m.l 0 = [] ∧ m.l 2 = []
  lag : m.mode = 1 → (m.l 1).length ≤ 1
  pre : ∃ r, cs = m.cs ++ r
theorem MInv.more {M M' : List Sgn} {cs : List (List UInt8)} {m : Mir} (h : MInv M cs m) (hM : ∀ s ∈ M, s ∈ M') : MInv M' cs m := ⟨fun i hi s hs => hM s (h.mem i hi s hs), h.none, h.lag, h.pre⟩
theorem minv_fresh (mode : Int) (cs : List (List UInt8)) : MInv [] cs (fresh mode) := ⟨fun i hi s hs => (by cases hs), fun _ => ⟨rfl, rfl⟩, fun _ => Nat.zero_le _, ⟨cs, rfl⟩⟩
section
variable {key : Int} {L : List Seal} {b : Book} {m : Mir} {M : List Sgn} {cs : List (List UInt8)}
/-- Feed: what is true stays true; the lengths. -/
theorem feed_inv (h : Made key ⟨L, b⟩ M) (hm : MInv M cs m) (ks : List (List UInt8)) (now : Int) :
    ∃ M', (∀ s ∈ M, s ∈ M') ∧ Made key ⟨(feed L b m ks cs now).2.1, (feed L b m ks cs now).2.2.1⟩ M' ∧ MInv M' cs (feed L b m ks cs now).2.2.2 ∧ (feed L b m ks cs now).2.2.2.mode = m.mode ∧ (feed L b m ks cs now).2.2.1.es = b.es ∧
      ((feed L b m ks cs now).2.2.1.last = b.last ∨ (feed L b m ks cs now).2.2.1.last = now) ∧
      (((feed L b m ks cs now).2.2.2.l 1).length ≤ (m.l 1).length + 1 ∧ ((feed L b m ks cs now).2.2.2.l 2).length ≤ (m.l 2).length + ks.length ∧ ((feed L b m ks cs now).2.2.2.l 0).length ≤ max (m.l 0).length b.es.length) := by
  have st := h.step ⟨2, [], [], now⟩
  have et : turnS ⟨L, b⟩ ⟨2, [], [], now⟩ = ((Bk.head L b now).1, ⟨(Bk.head L b now).2.1, (Bk.head L b now).2.2⟩) := rfl
  rw [et] at st
  dsimp only at st
  have hes : (Bk.head L b now).2.2.es = b.es ∧ ((Bk.head L b now).2.2.last = b.last ∨ (Bk.head L b now).2.2.last = now) := by
    unfold Bk.head
    split
    · exact ⟨rfl, Or.inl rfl⟩
    split
    · exact ⟨rfl, Or.inl rfl⟩
    · exact ⟨rfl, Or.inr rfl⟩
  unfold feed
  by_cases hl : m.mode = 1 ∧ m.l 1 ≠ []
  · rw [if_pos hl]
    exact ⟨M, fun s hs => hs, h, hm, rfl, rfl, Or.inl rfl, Nat.le_succ _, Nat.le_add_right _ _, Nat.le_max_left _ _⟩
  rw [if_neg hl]
  by_cases he : (Bk.head L b now).1.2 ≠ 0
  · rw [if_pos he]
    rw [if_neg he] at st
    exact ⟨M, fun s hs => hs, st, hm, rfl, hes.1, hes.2, Nat.le_succ _, Nat.le_add_right _ _, Nat.le_max_left _ _⟩
  rw [if_neg he]
  have he' : (Bk.head L b now).1.2 = 0 := by omega
  rw [if_pos he'] at st
  generalize (Bk.head L b now).1.1 = y at *
  generalize (Bk.head L b now).2.1 = L1 at *
  generalize (Bk.head L b now).2.2 = b1 at *
  have hpm : ∀ k, k < 3 → ∀ s ∈ (push m 1 y).l k, s ∈ M ++ [y] := fun k hk s hs => by
    by_cases h1 : k = 1
    · subst h1
      rw [push_self] at hs
      rcases List.mem_append.1 hs with hs | hs
      · exact List.mem_append_left _ (hm.mem 1 (by decide) s hs)
      · exact List.mem_append_right _ hs
    · rw [push_ne _ _ h1] at hs
      exact List.mem_append_left _ (hm.mem k hk s hs)
  unfold fed
  dsimp only
  have hp0 : (push m 1 y).l 0 = m.l 0 := push_ne _ _ (by decide)
  have hp2 : (push m 1 y).l 2 = m.l 2 := push_ne _ _ (by decide)
  have hpc : (push m 1 y).cs = m.cs := rfl
  rw [hp0, hpc]
  obtain ⟨M1, a1, a2, a3⟩ := entL_made (m.l 0).length (b1.es.length - (m.l 0).length) (fun j hj => by omega) st hpm
  obtain ⟨M2, b1', b2, b3⟩ := absL_made (b := b1) (entL L1 b1 (push m 1 y) (m.l 0).length (b1.es.length - (m.l 0).length)) ks a2 a3
  obtain ⟨c1, c2, c3, c4, c5⟩ := entL_l L1 b1 (push m 1 y) (m.l 0).length (b1.es.length - (m.l 0).length)
  obtain ⟨d1, d2, d3, d4, d5⟩ := absL_l b1 (entL L1 b1 (push m 1 y) (m.l 0).length (b1.es.length - (m.l 0).length)) ks
  have e1 : (absL b1 (entL L1 b1 (push m 1 y) (m.l 0).length (b1.es.length - (m.l 0).length)) ks).2.l 1 = m.l 1 ++ [y] := d2.trans (c2.trans (push_self m 1 y))
  have e2 : (absL b1 (entL L1 b1 (push m 1 y) (m.l 0).length (b1.es.length - (m.l 0).length)) ks).2.cs = m.cs := d3.trans c5
  have e3 : (absL b1 (entL L1 b1 (push m 1 y) (m.l 0).length (b1.es.length - (m.l 0).length)) ks).2.mode = m.mode := d4.trans c4
  have e4 : ((absL b1 (entL L1 b1 (push m 1 y) (m.l 0).length (b1.es.length - (m.l 0).length)) ks).2.l 2).length ≤ (m.l 2).length + ks.length := by rw [c3, hp2] at d5; exact d5
  have e5 : ((absL b1 (entL L1 b1 (push m 1 y) (m.l 0).length (b1.es.length - (m.l 0).length)) ks).2.l 0).length ≤ max (m.l 0).length b.es.length := by rw [d1, c1, hp0, hes.1]; omega
  clear c1 c2 c3 c4 c5 d1 d2 d3 d4 d5 a2 a3
  generalize absL b1 (entL L1 b1 (push m 1 y) (m.l 0).length (b1.es.length - (m.l 0).length)) ks = X at *
  obtain ⟨L2, m2⟩ := X
  dsimp only at *
  refine ⟨M2, fun s hs => b1' s (a1 s (List.mem_append_left _ hs)), b2, ?_, ?_, hes.1, hes.2, ?_⟩
  · split
    · exact ⟨b3, fun e => by exfalso; dsimp only at e; rw [e1] at e; simp at e, fun e => by
        dsimp only at e ⊢
        rw [e3] at e
        rw [e1]
        have : m.l 1 = [] := by
          cases h1 : m.l 1 with
          | nil => rfl
          | cons a0 l0 => exact absurd ⟨e, by rw [h1]; simp⟩ hl
        rw [this]; simp, ⟨[], by simp⟩⟩
    · exact ⟨b3, fun e => by exfalso; rw [e1] at e; simp at e, fun e => by
        rw [e3] at e
        rw [e1]
        have : m.l 1 = [] := by
          cases h1 : m.l 1 with
          | nil => rfl
          | cons a0 l0 => exact absurd ⟨e, by rw [h1]; simp⟩ hl
        rw [this]; simp, by rw [e2]; exact hm.pre⟩
  · split <;> exact e3
  · refine ⟨?_, ?_, ?_⟩
    · split <;> (show (m2.l 1).length ≤ _; rw [e1]; simp)
    · split <;> exact e4
    · split <;> exact e5
end
/-! ### What is true after acts -/
structure PInv (key : Int) (n : Nat) (s : PS) (M : List Sgn) : Prop where
  made : Made key ⟨s.L, s.b⟩ M
  last : s.b.last ≤ s.now
  now : 0 ≤ s.now ∧ s.now ≤ 1000000 * n
  ms : ∀ m ∈ s.ms, MInv M s.cs m ∧ (m.l 0).length ≤ n ∧ (m.l 1).length ≤ n ∧ (m.l 2).length ≤ n
  nd : s.cs.Nodup
  cs : s.cs.length ≤ n ∧ ∀ t ∈ s.cs, t.length ≤ 100
  ans : ∀ a ∈ s.an, ∀ c ∈ a.claims, c ∈ M ∨ ∃ t ∈ M, c = forge t
  len : s.b.es.length ≤ n ∧ s.an.length ≤ n ∧ s.qs.length = s.an.length
structure ActOk (a : PAct) : Prop where
  name : a.name.length ≤ 100
  text : a.text.length ≤ 100
  n : a.do_ = 2 → 0 ≤ a.n ∧ a.n ≤ 1000000
theorem answer_claims {m : Mir} {M : List Sgn} {cs : List (List UInt8)} (h : MInv M cs m) (q : Ques) : ∀ c ∈ (answer m q).claims, (m.mode ≠ 4 ∧ c ∈ M) ∨ (m.mode = 4 ∧ ∃ t ∈ M, c = forge t) := by
  intro c hc
  unfold answer at hc
  dsimp only at hc
  by_cases h4 : m.mode = 4
  · rw [if_pos h4] at hc
    obtain ⟨t, ht, rfl⟩ := List.mem_map.1 hc
    obtain ⟨i, hi, hs⟩ := find_mem ht
    exact Or.inr ⟨h4, t, h.mem i hi t hs, rfl⟩
  · rw [if_neg h4] at hc
    obtain ⟨i, hi, hs⟩ := find_mem hc
    exact Or.inl ⟨h4, h.mem i hi c hs⟩
theorem append_spec (b : Book) (t : List UInt8) : (Bk.append b t).2.last = b.last ∧ (Bk.append b t).2.es.length ≤ b.es.length + 1 := by
  unfold Bk.append
  (repeat' split)
  · exact ⟨rfl, Nat.le_succ _⟩
  · exact ⟨rfl, Nat.le_succ _⟩
  · exact ⟨rfl, Nat.le_succ _⟩
  · exact ⟨rfl, by simp⟩
theorem PInv.step {key : Int} {n : Nat} {s : PS} {M : List Sgn} (h : PInv key n s M) (hms : 0 < s.ms.length) {a : PAct} (ha : ActOk a) : ∃ M', PInv key (n + 1) (stepP s a) M' ∧ (∀ x ∈ M, x ∈ M') ∧ (stepP s a).ms.length = s.ms.length ∧ (stepP s a).ms.map (·.mode) = s.ms.map (·.mode) := by
  have hj := pick_lt a.mirror hms
  have hmo : mirOf s a = s.ms[pick a.mirror s.ms.length] := by unfold mirOf; rw [List.getD_eq_getElem?_getD, List.getElem?_eq_getElem hj]; rfl
  have hmi := h.ms _ (List.getElem_mem hj)
  rw [← hmo] at hmi
  have hnow := h.now
  unfold stepP
  by_cases h0 : a.do_ = 0
  · rw [if_pos h0]
    have st := h.made.step ⟨0, a.name, a.text, 0⟩
    have et : turnS ⟨s.L, s.b⟩ ⟨0, a.name, a.text, 0⟩ = ((noSgn, 4), ⟨s.L, (Bk.append s.b (Wire.textE a.name ++ a.text)).2⟩) := rfl
    rw [et] at st
    dsimp only at st
    rw [if_neg (by decide)] at st
    obtain ⟨p1, p2⟩ := append_spec s.b (line a)
    exact ⟨M, ⟨st, by rw [p1]; exact h.last, ⟨hnow.1, by dsimp only; push_cast; omega⟩, fun m hm => ⟨(h.ms m hm).1, by have := (h.ms m hm).2; omega⟩, h.nd, ⟨by have := h.cs.1; dsimp only; omega, h.cs.2⟩, h.ans, ⟨by have := h.len.1; dsimp only; omega, by have := h.len.2.1; dsimp only; omega, h.len.2.2⟩⟩, fun x hx => hx, rfl, rfl⟩
  rw [if_neg h0]
  by_cases h1 : a.do_ = 1
  · rw [if_pos h1]
    refine ⟨M, ⟨h.made, h.last, ⟨hnow.1, by dsimp only; push_cast; omega⟩, fun m hm => ⟨⟨(h.ms m hm).1.mem, (h.ms m hm).1.none, (h.ms m hm).1.lag, ?_⟩, by have := (h.ms m hm).2; omega⟩, ?_, ?_, h.ans, ⟨by have := h.len.1; dsimp only; omega, by have := h.len.2.1; dsimp only; omega, h.len.2.2⟩⟩, fun x hx => hx, rfl, rfl⟩
    · obtain ⟨r, hr⟩ := (h.ms m hm).1.pre
      dsimp only
      unfold addC
      split
      · exact ⟨r, hr⟩
      · exact ⟨r ++ [a.text], by rw [← List.append_assoc, ← hr]⟩
    · dsimp only
      unfold addC
      split
      · exact h.nd
      · rename_i hn
        rw [List.nodup_append]
        exact ⟨h.nd, by simp, fun x hx y hy e => by rw [List.mem_singleton] at hy; subst hy; subst e; exact hn hx⟩
    · dsimp only
      unfold addC
      split
      · exact ⟨by have := h.cs.1; omega, h.cs.2⟩
      · refine ⟨by rw [List.length_append]; have := h.cs.1; simp; omega, fun t ht => ?_⟩
        rcases List.mem_append.1 ht with ht | ht
        · exact h.cs.2 t ht
        · rw [List.mem_singleton.1 ht]; exact ha.text
  rw [if_neg h1]
  by_cases h2 : a.do_ = 2
  · rw [if_pos h2]
    have hn := ha.n h2
    obtain ⟨M', g1, g2, g3, g4, g5, g6, g7, g8, g9⟩ := feed_inv h.made hmi.1 [a.name] (s.now + a.n)
    unfold fedR
    generalize hX : feed s.L s.b (mirOf s a) [a.name] s.cs (s.now + a.n) = X at *
    refine ⟨M', ⟨g2, ?_, ⟨by dsimp only; omega, by dsimp only; push_cast; omega⟩, fun m hm => ?_, h.nd, ⟨by have := h.cs.1; dsimp only; omega, h.cs.2⟩, fun a' ha' c hc => ?_, ⟨by have := h.len.1; dsimp only; rw [g5]; omega, by have := h.len.2.1; dsimp only; omega, h.len.2.2⟩⟩, g1, by simp, ?_⟩
    · have := h.last
      dsimp only
      rcases g6 with e | e <;> rw [e] <;> omega
    · dsimp only at hm ⊢
      rcases List.mem_or_eq_of_mem_set hm with hm | rfl
      · exact ⟨(h.ms m hm).1.more g1, by have := (h.ms m hm).2; omega⟩
      · refine ⟨g3, ?_, ?_, ?_⟩
        · have := h.len.1; omega
        · omega
        · simp at g8; omega
    · rcases h.ans a' ha' c hc with e | ⟨t, ht, e⟩
      · exact Or.inl (g1 c e)
      · exact Or.inr ⟨t, g1 t ht, e⟩
    · dsimp only
      rw [List.map_set, g4, hmo]
      have : (s.ms.map (·.mode)).set (pick a.mirror s.ms.length) ((s.ms.map (·.mode))[pick a.mirror s.ms.length]'(by simpa using hj)) = s.ms.map (·.mode) := List.set_getElem_self _
      rw [List.getElem_map] at this
      exact this
  rw [if_neg h2]
  by_cases h3 : a.do_ = 3
  · rw [if_pos h3]
    refine ⟨M, ⟨h.made, h.last, ⟨hnow.1, by dsimp only; push_cast; omega⟩, fun m hm => ⟨(h.ms m hm).1, by have := (h.ms m hm).2; omega⟩, h.nd, ⟨by have := h.cs.1; dsimp only; omega, h.cs.2⟩, fun a' ha' c hc => ?_, ⟨by have := h.len.1; dsimp only; omega, by have := h.len.2.1; dsimp only; rw [List.length_append]; simp; omega, by dsimp only; rw [List.length_append, List.length_append, h.len.2.2]; rfl⟩⟩, fun x hx => hx, rfl, rfl⟩
    dsimp only at ha'
    rcases List.mem_append.1 ha' with ha' | ha'
    · exact h.ans a' ha' c hc
    · rw [List.mem_singleton.1 ha'] at hc
      rcases answer_claims hmi.1 (quesOf a) c hc with ⟨_, e⟩ | ⟨_, e⟩
      · exact Or.inl e
      · exact Or.inr e
  · rw [if_neg h3]
    exact ⟨M, ⟨h.made, h.last, ⟨hnow.1, by push_cast; omega⟩, fun m hm => ⟨(h.ms m hm).1, by have := (h.ms m hm).2; omega⟩, h.nd, ⟨by have := h.cs.1; omega, h.cs.2⟩, h.ans, ⟨by have := h.len.1; omega, by have := h.len.2.1; omega, h.len.2.2⟩⟩, fun x hx => hx, rfl, rfl⟩
def start (key : Int) (ms : List Mir) : PS := ⟨[], Bk.new key, ms, [], [], [], 0⟩
theorem pinv_start {key : Int} (hk : isKey key = true) {ms : List Mir} (hms : ∀ m ∈ ms, ∃ k, m = fresh k) : PInv key 0 (start key ms) [] :=
  ⟨Made.start hk, by show (-1 : Int) ≤ 0; decide, ⟨Int.le_refl _, by show (0 : Int) ≤ _; simp⟩, fun m hm => by obtain ⟨k, rfl⟩ := hms m hm; exact ⟨minv_fresh k [], Nat.le_refl _, Nat.le_refl _, Nat.le_refl _⟩, List.nodup_nil, ⟨Nat.le_refl _, fun t ht => (by cases ht)⟩, fun a ha => (by cases ha), ⟨Nat.le_refl _, Nat.le_refl _, rfl⟩⟩
theorem play_inv {key : Int} {s : PS} (h0 : PInv key 0 s []) (hms : 0 < s.ms.length) (l : List PAct) (hl : ∀ a ∈ l, ActOk a) (j : Nat) (hj : j ≤ l.length) : (∃ M, PInv key j (play s (l.take j)) M) ∧ (play s (l.take j)).ms.map (·.mode) = s.ms.map (·.mode) := by
  induction j with
  | zero => exact ⟨⟨[], h0⟩, rfl⟩
  | succ j ih =>
    obtain ⟨⟨M, h⟩, e⟩ := ih (by omega)
    rw [play_take s l j (by omega)]
    have hlen : (play s (l.take j)).ms.length = s.ms.length := by have := congrArg List.length e; simpa using this
    obtain ⟨M', g1, -, -, g3⟩ := h.step (by omega) (hl l[j] (List.getElem_mem (by omega)))
    exact ⟨⟨M', g1⟩, g3.trans e⟩
end Go.Proofs.YtkhdnfmnnapjlaaGreatDoor.Mi
namespace Go.Proofs.YtkhdnfmnnapjlaaGreatDoor.Mi
open Go.Lib Go.RowKit
open Bk (Seal Sgn noSgn isKey place valid sign Book)
open Cl (Clm right contra)
open Vw (Made Turn turnS accept)
set_option linter.unusedVariables false
set_option linter.unusedSimpArgs false

def genuine (l : List (List UInt8)) (q : Ques) (a : Ans) : Bool := decide (q.kind = 3) && (a.has && ((textC l q.n).2 && decide ((textC l q.n).1 = a.text)))
theorem textC_has (l : List (List UInt8)) (i : Int) : (textC l i).2 = (decide (0 ≤ i) && decide (i < l.length)) := by
  unfold textC
  split
  · rename_i h; rcases h with h | h
    · rw [decide_eq_false (by omega)]; rfl
    · rw [decide_eq_false (show ¬ i < (l.length : Int) by omega), Bool.and_false]
  · rename_i h
    rw [decide_eq_true (by omega), decide_eq_true (by omega)]; rfl
theorem answer_has (m : Mir) (q : Ques) : (answer m q).has = (decide (q.kind = 3) && (textC (told m.mode m.cs) q.n).2) := by
  unfold answer
  dsimp only
  by_cases h3 : q.kind = 3
  · rw [if_pos h3, decide_eq_true h3, Bool.true_and]; split <;> rfl
  · rw [if_neg h3, decide_eq_false h3, Bool.false_and]; split <;> rfl
theorem answer_text (m : Mir) (q : Ques) : (answer m q).text = if (answer m q).has then (if m.mode = 4 then (textC (told m.mode m.cs) q.n).1 ++ [120] else (textC (told m.mode m.cs) q.n).1) else [] := by
  rw [answer_has]
  unfold answer
  dsimp only
  by_cases h3 : q.kind = 3
  · rw [if_pos h3, decide_eq_true h3, Bool.true_and]
    cases ht : textC (told m.mode m.cs) q.n with
    | mk t o =>
    cases o with
    | true => by_cases h4 : m.mode = 4 <;> simp [h4]
    | false =>
      have : t = [] := by
        unfold textC at ht
        split at ht
        · injection ht with h1 _; exact h1.symm
        · injection ht with _ h2; cases h2
      subst this
      by_cases h4 : m.mode = 4 <;> simp [h4]
  · rw [if_neg h3, decide_eq_false h3, Bool.false_and]
    by_cases h4 : m.mode = 4 <;> simp [h4]
theorem told_pre {l r : List (List UInt8)} (mode : Int) : ∃ r', l ++ r = told mode l ++ r' := by
  unfold told
  split
  · exact ⟨l.drop (l.length / 2) ++ r, by rw [← List.append_assoc, List.take_append_drop]⟩
  · exact ⟨r, rfl⟩
theorem textC_pre {a r : List (List UInt8)} {i : Int} (h : (textC a i).2 = true) : textC (a ++ r) i = ((textC a i).1, true) := by
  rw [textC_has, Bool.and_eq_true, decide_eq_true_eq, decide_eq_true_eq] at h
  unfold textC
  rw [if_neg (by rw [List.length_append]; omega), if_neg (by omega)]
  rw [List.getD_eq_getElem?_getD, List.getD_eq_getElem?_getD, List.getElem?_append_left (by omega)]
theorem genuine_ans {M : List Sgn} {cs : List (List UInt8)} {m : Mir} (hm : MInv M cs m) (q : Ques) (h : (answer m q).has = true) : genuine cs q (answer m q) = decide (m.mode ≠ 4) := by
  have hh := h
  rw [answer_has, Bool.and_eq_true, decide_eq_true_eq] at hh
  obtain ⟨r, hr⟩ := hm.pre
  obtain ⟨r', hr'⟩ := told_pre (l := m.cs) (r := r) m.mode
  have ht := textC_pre (r := r') hh.2
  rw [← hr', ← hr] at ht
  unfold genuine
  rw [h, ht, answer_text, if_pos h, decide_eq_true hh.1]
  simp only [Bool.true_and]
  by_cases h4 : m.mode = 4
  · rw [if_pos h4]
    rw [show decide (m.mode ≠ 4) = false from decide_eq_false (fun e => e h4)]
    refine decide_eq_false (fun e => ?_)
    have h := congrArg List.length e
    rw [List.length_append] at h
    simp at h
  · rw [if_neg h4, decide_eq_true rfl, decide_eq_true h4]
/-! ### Forged claims -/
theorem forge_log {key : Int} {x : Bk.St} {M : List Sgn} (h : Made key x M) {t : Sgn} (ht : t ∈ M) : Vw.isLog (forge t).text = false := by
  obtain ⟨h1, h2, h3, -⟩ := Vw.log_spec (h.each t ht).2.2
  unfold Vw.isLog forge
  dsimp only
  rw [← h2, Cl.read_more h1 (by simp)]
  rfl
theorem forge_accept {key : Int} {x : Bk.St} {M : List Sgn} (h : Made key x M) (L : List Sgn) {t : Sgn} (ht : t ∈ M) : (accept x.L key L (forge t)).1 ≠ 0 ∧ (accept x.L key L (forge t)).1 ≠ 21 ∧ (accept x.L key L (forge t)).2 = L := by
  unfold accept
  split
  · exact ⟨by show (18 : Int) ≠ 0; decide, by show (18 : Int) ≠ 21; decide, rfl⟩
  split
  · exact ⟨by show (22 : Int) ≠ 0; decide, by show (22 : Int) ≠ 21; decide, rfl⟩
  rw [if_pos (forge_log h ht)]
  exact ⟨by show (2 : Int) ≠ 0; decide, by show (2 : Int) ≠ 21; decide, rfl⟩
theorem modes_accept {key : Int} {x : Bk.St} {M : List Sgn} {cs : List (List UInt8)} {m : Mir} (h : Made key x M) (hm : MInv M cs m) (q : Ques) {c : Sgn} (hc : c ∈ (answer m q).claims) : decide ((accept x.L key [] c).1 = 0) = decide (m.mode ≠ 4) := by
  rcases answer_claims hm q c hc with ⟨h4, hM⟩ | ⟨h4, t, ht, rfl⟩
  · rw [(Vw.made_accept h (L := []) (fun s hs => by cases hs) hM).1, decide_eq_true rfl, decide_eq_true h4]
  · rw [decide_eq_false (forge_accept h [] ht).1, decide_eq_false (by simp [h4])]
theorem answer_len (m : Mir) (q : Ques) : (answer m q).claims.length ≤ 1 := by
  unfold answer
  dsimp only
  split
  · rw [List.length_map]; exact find_len m q
  · exact find_len m q
/-! ### What is asked of each mirror -/
def askE2 (k : Nat) : List Ques := (List.range k).flatMap fun (n : Nat) => [⟨1, n, []⟩, ⟨3, n, []⟩]
theorem askE2_succ (k : Nat) : askE2 (k + 1) = askE2 k ++ [⟨1, k, []⟩, ⟨3, k, []⟩] := by unfold askE2; rw [List.range_succ, List.flatMap_append]; simp
theorem askE2_len (k : Nat) : (askE2 k).length = 2 * k := by
  induction k with
  | zero => rfl
  | succ k ih => rw [askE2_succ, List.length_append, ih]; simp; omega
def absQ (l : List (List UInt8)) (k : Nat) : List Ques := (List.range k).map fun (n : Nat) => ⟨2, n, l.getD n []⟩
theorem absQ_succ (l : List (List UInt8)) (k : Nat) : absQ l (k + 1) = absQ l k ++ [⟨2, k, l.getD k []⟩] := by unfold absQ; rw [List.range_succ, List.map_append]; rfl
def many (e c : Nat) : Nat := min (max e c + 1) 40
def askedL (e c : Nat) (l : List (List UInt8)) : List Ques := askE2 (many e c) ++ absQ l l.length ++ [⟨0, 0, []⟩, ⟨4, 0, []⟩]
def claimsN (m : Mir) (qs : List Ques) : Nat := (qs.map fun q => (answer m q).claims.length).sum
def textsN (m : Mir) (qs : List Ques) : Nat := (qs.filter fun q => (answer m q).has).length
theorem claimsN_append (m : Mir) (a b : List Ques) : claimsN m (a ++ b) = claimsN m a + claimsN m b := by unfold claimsN; rw [List.map_append, List.sum_append]
theorem textsN_append (m : Mir) (a b : List Ques) : textsN m (a ++ b) = textsN m a + textsN m b := by unfold textsN; rw [List.filter_append, List.length_append]
theorem claimsN_take (m : Mir) (qs : List Ques) (j : Nat) (h : j < qs.length) : claimsN m (qs.take (j + 1)) = claimsN m (qs.take j) + (answer m qs[j]).claims.length := by
  rw [List.take_succ_eq_append_getElem h, claimsN_append]; simp [claimsN]
theorem textsN_take (m : Mir) (qs : List Ques) (j : Nat) (h : j < qs.length) : textsN m (qs.take (j + 1)) = textsN m (qs.take j) + if (answer m qs[j]).has then 1 else 0 := by
  rw [List.take_succ_eq_append_getElem h, textsN_append]
  congr 1
  unfold textsN
  rw [List.filter_cons]
  split <;> rfl
theorem textsN_E2 (m : Mir) (k : Nat) : textsN m (askE2 k) = min k (told m.mode m.cs).length := by
  induction k with
  | zero => simp [askE2, textsN]
  | succ k ih =>
    rw [askE2_succ, textsN_append, ih]
    have e1 : (answer m ⟨1, k, []⟩).has = false := by rw [answer_has]; rfl
    have e3 : (answer m ⟨3, k, []⟩).has = decide (k < (told m.mode m.cs).length) := by
      rw [answer_has, textC_has]
      simp
    unfold textsN
    rw [List.filter_cons, e1, List.filter_cons, e3]
    by_cases h : k < (told m.mode m.cs).length
    · rw [decide_eq_true h]; simp; omega
    · rw [decide_eq_false h]; simp; omega
theorem textsN_no (m : Mir) {qs : List Ques} (h : ∀ q ∈ qs, q.kind ≠ 3) : textsN m qs = 0 := by
  unfold textsN
  rw [List.length_eq_zero_iff, List.filter_eq_nil_iff]
  intro q hq
  rw [answer_has, decide_eq_false (h q hq)]
  simp
theorem texts_asked (m : Mir) (e : Nat) (l : List (List UInt8)) (hc : m.cs.length ≤ 39) : textsN m (askedL e m.cs.length l) = (told m.mode m.cs).length := by
  unfold askedL
  rw [textsN_append, textsN_append, textsN_E2, textsN_no m (qs := absQ l l.length), textsN_no m (qs := [⟨0, 0, []⟩, ⟨4, 0, []⟩])]
  · have := told_len m.mode m.cs
    unfold many
    omega
  · intro q hq
    simp only [List.mem_cons, List.not_mem_nil, or_false] at hq
    rcases hq with rfl | rfl <;> decide
  · intro q hq
    obtain ⟨n, -, rfl⟩ := List.mem_map.1 hq
    show (2 : Int) ≠ 3
    decide
theorem claims_some {m : Mir} {qs : List Ques} (h : 0 < claimsN m qs) : ∃ i, i < 3 ∧ 0 < (m.l i).length := by
  unfold claimsN at h
  have : ∃ q ∈ qs, 0 < (answer m q).claims.length := by
    rcases Classical.em (∃ q ∈ qs, 0 < (answer m q).claims.length) with h' | h'
    · exact h'
    · exfalso
      have hz : (qs.map fun q => (answer m q).claims.length).sum = 0 := by
        clear h
        induction qs with
        | nil => rfl
        | cons q qs ih =>
          rw [List.map_cons, List.sum_cons, ih (fun ⟨q', h1, h2⟩ => h' ⟨q', List.mem_cons_of_mem _ h1, h2⟩)]
          have : ¬ 0 < (answer m q).claims.length := fun e => h' ⟨q, List.mem_cons_self .., e⟩
          omega
      omega
  obtain ⟨q, -, hq⟩ := this
  have hf : 0 < (find m q).length := by
    unfold answer at hq
    dsimp only at hq
    split at hq
    · rw [List.length_map] at hq; exact hq
    · exact hq
  obtain ⟨x, hx⟩ := List.exists_mem_of_length_pos hf
  obtain ⟨i, hi, hs⟩ := find_mem hx
  exact ⟨i, hi, List.length_pos_of_mem hs⟩
theorem head_claims {m : Mir} (h0 : m.mode = 0) (h1 : 0 < (m.l 1).length) : (answer m ⟨0, 0, []⟩).claims.length = 1 := by
  unfold answer
  dsimp only
  rw [if_neg (by omega)]
  unfold find
  rw [if_pos rfl, if_neg (by omega)]
  unfold told
  rw [if_neg (by omega), show ((m.l 1).length : Int) - 1 = (((m.l 1).length - 1 : Nat) : Int) by omega, atL_get (by omega)]
  rfl
/-- The law's last condition about a mirror. -/
theorem modes_end {M : List Sgn} {cs : List (List UInt8)} {m : Mir} (hm : MInv M cs m) (l : List (List UInt8)) (hc : m.cs.length ≤ 39) :
    ¬ (0 < claimsN m (askedL (m.l 0).length m.cs.length l) ∧ (m.l 0).length + (m.l 1).length + (m.l 2).length = 0) ∧ textsN m (askedL (m.l 0).length m.cs.length l) ≤ m.cs.length ∧
    (m.mode = 0 → textsN m (askedL (m.l 0).length m.cs.length l) = m.cs.length ∧ (0 < (m.l 1).length ↔ 0 < claimsN m (askedL (m.l 0).length m.cs.length l))) ∧
    (m.mode = 2 → textsN m (askedL (m.l 0).length m.cs.length l) = m.cs.length / 2) ∧ (m.mode = 1 → (m.l 1).length ≤ 1) := by
  rw [texts_asked m _ l hc]
  refine ⟨fun ⟨h, e⟩ => ?_, told_len _ _, fun h0 => ⟨?_, fun h1 => ?_, fun h => ?_⟩, fun h2 => ?_, hm.lag⟩
  · obtain ⟨i, hi, h1⟩ := claims_some h
    obtain rfl | rfl | rfl : i = 0 ∨ i = 1 ∨ i = 2 := by omega
    all_goals omega
  · unfold told; rw [if_neg (by omega)]
  · unfold askedL
    rw [claimsN_append]
    have := head_claims h0 h1
    have e : claimsN m [⟨0, 0, []⟩, ⟨4, 0, []⟩] = (answer m ⟨0, 0, []⟩).claims.length + ((answer m ⟨4, 0, []⟩).claims.length + 0) := rfl
    omega
  · rcases Nat.eq_zero_or_pos (m.l 1).length with h1 | h1
    · exfalso
      obtain ⟨e0, e2⟩ := hm.none (List.length_eq_zero_iff.1 h1)
      obtain ⟨i, hi, h3⟩ := claims_some h
      obtain rfl | rfl | rfl : i = 0 ∨ i = 1 ∨ i = 2 := by omega
      · rw [e0] at h3; simp at h3
      · omega
      · rw [e2] at h3; simp at h3
    · exact h1
  · unfold told; rw [if_pos h2, List.length_take]; omega
/-! ### Ask, with an honest book -/
section
variable {key : Int} {x : Bk.St} {M : List Sgn}
/-- What Ask leaves. -/
structure Calm (M : List Sgn) (r : AskR) : Prop where
  e : r.e = 0
  old : r.old = noSgn
  odd : r.odd = noSgn
  mem : ∀ s ∈ r.L, s ∈ M
def Told (M : List Sgn) (c : Sgn) : Prop := c ∈ M ∨ ∃ t ∈ M, c = forge t
theorem Calm.step (h : Made key x M) {r : AskR} (hr : Calm M r) {c : Sgn} (hc : Told M c) : Calm M (askS x.L key r c) ∧ (∀ s ∈ r.L, s ∈ (askS x.L key r c).L) ∧ (c ∈ M → c ∈ (askS x.L key r c).L) := by
  have hne : (accept x.L key r.L c).1 ≠ 21 := by
    rcases hc with hc | ⟨t, ht, rfl⟩
    · rw [(Vw.made_accept h hr.mem hc).1]; decide
    · exact (forge_accept h r.L ht).2.1
  have hm : ∀ s ∈ (accept x.L key r.L c).2, s ∈ M := by
    rcases hc with hc | ⟨t, ht, rfl⟩
    · exact (Vw.made_accept h hr.mem hc).2
    · rw [(forge_accept h r.L ht).2.2]; exact hr.mem
  have hk : (∀ s ∈ r.L, s ∈ (accept x.L key r.L c).2) ∧ (c ∈ M → c ∈ (accept x.L key r.L c).2) := by
    refine ⟨fun s hs => ?_, fun hc => ?_⟩
    · rcases Vw.accept_cases x.L key r.L c with h | h | h | h | h | h
      · rw [h.2]; exact hs
      · rw [h.2.2]; exact hs
      · rw [h.2.2.2]; exact hs
      · rw [h.2.2.2.2]; exact hs
      · rw [h.2.2.2.2.2]; exact hs
      · rw [h.2.2.2.2.2]; exact List.mem_append_left _ hs
    · have h0 := (Vw.made_accept h hr.mem hc).1
      rcases Vw.accept_cases x.L key r.L c with h | h | h | h | h | h
      · rw [h.2] at h0; exact absurd (show (18 : Int) = 0 from h0) (by decide)
      · rw [h.2.2] at h0; exact absurd (show (22 : Int) = 0 from h0) (by decide)
      · rw [h.2.2.2] at h0; exact absurd (show (2 : Int) = 0 from h0) (by decide)
      · rw [h.2.2.2.2] at h0; exact absurd (show (21 : Int) = 0 from h0) (by decide)
      · rw [h.2.2.2.2.2]; exact h.2.2.2.2.1
      · rw [h.2.2.2.2.2]; exact List.mem_append_right _ (by simp)
  unfold askS
  rw [if_neg (fun e => hne e.1)]
  exact ⟨⟨hr.e, hr.old, hr.odd, hm⟩, hk⟩
theorem Calm.list (h : Made key x M) (l : List Sgn) : ∀ {r : AskR}, Calm M r → (∀ c ∈ l, Told M c) → Calm M (askL x.L key r l) ∧ (∀ s ∈ r.L, s ∈ (askL x.L key r l).L) ∧ ∀ c ∈ l, c ∈ M → c ∈ (askL x.L key r l).L := by
  induction l with
  | nil => exact fun hr _ => ⟨hr, fun s hs => hs, fun c hc => by cases hc⟩
  | cons c l ih =>
    intro r hr hc
    obtain ⟨a1, a2, a3⟩ := hr.step h (hc c (by simp))
    obtain ⟨b1, b2, b3⟩ := ih a1 (fun d hd => hc d (by simp [hd]))
    refine ⟨b1, fun s hs => b2 s (a2 s hs), fun d hd hM => ?_⟩
    rcases List.mem_cons.1 hd with rfl | hd
    · exact b2 _ (a3 hM)
    · exact b3 d hd hM
theorem Calm.all (h : Made key x M) (an : List Ans) : ∀ {r : AskR}, Calm M r → (∀ a ∈ an, ∀ c ∈ a.claims, Told M c) → Calm M (askA x.L key r an) ∧ ∀ a ∈ an, ∀ c ∈ a.claims, c ∈ M → c ∈ (askA x.L key r an).L := by
  have hkeep : ∀ (an : List Ans) {r : AskR}, Calm M r → (∀ a ∈ an, ∀ c ∈ a.claims, Told M c) → Calm M (askA x.L key r an) ∧ (∀ s ∈ r.L, s ∈ (askA x.L key r an).L) ∧ ∀ a ∈ an, ∀ c ∈ a.claims, c ∈ M → c ∈ (askA x.L key r an).L := by
    intro an
    induction an with
    | nil => exact fun hr _ => ⟨hr, fun s hs => hs, fun a ha => by cases ha⟩
    | cons a an ih =>
      intro r hr hc
      obtain ⟨a1, a2, a3⟩ := Calm.list h a.claims hr (hc a (by simp))
      obtain ⟨b1, b2, b3⟩ := ih a1 (fun d hd => hc d (by simp [hd]))
      refine ⟨b1, fun s hs => b2 s (a2 s hs), fun d hd c hc2 hM => ?_⟩
      rcases List.mem_cons.1 hd with rfl | hd
      · exact b2 _ (a3 c hc2 hM)
      · exact b3 d hd c hc2 hM
  intro r hr hc
  obtain ⟨a, b, c⟩ := hkeep an hr hc
  exact ⟨a, c⟩
theorem ask_calm (h : Made key x M) (an : List Ans) {L : List Sgn} (hL : ∀ s ∈ L, s ∈ M) (hc : ∀ a ∈ an, ∀ c ∈ a.claims, Told M c) : Calm M (ask x.L key L an) ∧ ∀ a ∈ an, ∀ c ∈ a.claims, c ∈ M → c ∈ (ask x.L key L an).L :=
  Calm.all h an ⟨rfl, rfl, rfl, hL⟩ hc
end
/-! ### The time of the last head -/
theorem size_time (L : List Sgn) : (Vw.sizeOf L).2 = -1 ∨ ∃ s ∈ L, (Vw.claimOf s).kind = 1 ∧ (Vw.claimOf s).time = (Vw.sizeOf L).2 := by
  have : ∀ R : List Sgn, (Vw.sizeOf R.reverse).2 = -1 ∨ ∃ s ∈ R.reverse, (Vw.claimOf s).kind = 1 ∧ (Vw.claimOf s).time = (Vw.sizeOf R.reverse).2 := by
    intro R
    induction R with
    | nil => exact Or.inl rfl
    | cons a R ih =>
      rw [List.reverse_cons, Vw.sizeOf_snoc]
      unfold Vw.sizeStep
      split
      · rename_i h
        exact Or.inr ⟨a, by simp, h.1, rfl⟩
      · rcases ih with h | ⟨s, hs, h1, h2⟩
        · exact Or.inl h
        · exact Or.inr ⟨s, List.mem_append_left _ hs, h1, h2⟩
  have := this L.reverse
  rwa [List.reverse_reverse] at this
theorem size_max (L : List Sgn) : ∀ s ∈ L, (Vw.claimOf s).kind = 1 → (Vw.claimOf s).time ≤ (Vw.sizeOf L).2 := by
  have : ∀ R : List Sgn, ∀ s ∈ R.reverse, (Vw.claimOf s).kind = 1 → (Vw.claimOf s).time ≤ (Vw.sizeOf R.reverse).2 := by
    intro R
    induction R with
    | nil => intro s hs; cases hs
    | cons a R ih =>
      intro s hs hk
      rw [List.reverse_cons] at hs ⊢
      rw [Vw.sizeOf_snoc]
      unfold Vw.sizeStep
      rcases List.mem_append.1 hs with hs | hs
      · have := ih s hs hk
        split
        · rename_i h; have := h.2; dsimp only; omega
        · exact this
      · rw [List.mem_singleton] at hs
        subst hs
        split
        · exact Int.le_refl _
        · rename_i h
          have : ¬ (Vw.sizeOf R.reverse).2 < (Vw.claimOf s).time := fun e => h ⟨hk, e⟩
          omega
  have := this L.reverse
  rwa [List.reverse_reverse] at this
theorem made_time {key : Int} {x : Bk.St} {M : List Sgn} (h : Made key x M) {s : Sgn} (hs : s ∈ M) (hk : (Vw.claimOf s).kind = 1) : (Vw.claimOf s).time ≤ x.b.last := by
  have := h.tru hs
  generalize Vw.claimOf s = c at *
  cases this with
  | entry i hi => exact absurd (show (0 : Int) = 1 from hk) (by decide)
  | size n t h1 h2 h3 => exact h1
  | absent n k hn h => exact absurd (show (2 : Int) = 1 from hk) (by decide)
theorem time_le {key : Int} {x : Bk.St} {M L : List Sgn} (h : Made key x M) (hL : ∀ s ∈ L, s ∈ M) {now : Int} (hb : x.b.last ≤ now) (h0 : 0 ≤ now) : (Vw.sizeOf L).2 ≤ now := by
  rcases size_time L with e | ⟨s, hs, h1, h2⟩
  · omega
  · have := made_time h (hL s hs) h1
    omega
theorem askE_calm {M : List Sgn} {r : AskR} (h : Calm M r) (now bound : Int) : (askE r now bound = 0 ↔ 0 ≤ Vw.age r.L now ∧ Vw.age r.L now ≤ bound) ∧ askE r now bound ≠ 21 := by
  unfold askE
  rw [h.e]
  by_cases hc : Vw.age r.L now < 0 ∨ bound < Vw.age r.L now
  · rw [if_pos ⟨rfl, hc⟩]
    exact ⟨⟨fun e => absurd e (by decide), fun e => by omega⟩, by decide⟩
  · rw [if_neg (fun e => hc e.2)]
    exact ⟨⟨fun _ => by omega, fun _ => rfl⟩, by decide⟩
/-! ### One more honest mirror, fed now -/
theorem feed_fresh {L : List Seal} {b : Book} {now : Int} : (feed L b (fresh 0) [] [] now).1 = (Bk.head L b now).1.2 ∧ ((Bk.head L b now).1.2 = 0 → (feed L b (fresh 0) [] [] now).2.2.2.l 1 = [(Bk.head L b now).1.1]) ∧ (feed L b (fresh 0) [] [] now).2.2.2.mode = 0 ∧ (feed L b (fresh 0) [] [] now).2.2.1 = (Bk.head L b now).2.2 := by
  unfold feed
  rw [if_neg (by unfold fresh; dsimp only; omega)]
  by_cases he : (Bk.head L b now).1.2 ≠ 0
  · rw [if_pos he]
    exact ⟨rfl, fun e => absurd e he, rfl, rfl⟩
  · rw [if_neg he]
    have he' : (Bk.head L b now).1.2 = 0 := by omega
    refine ⟨he'.symm, fun _ => ?_, ?_, rfl⟩
    · unfold fed absL
      simp only [List.length_nil, Nat.not_lt_zero, if_false, List.foldl_nil]
      rw [(entL_l _ _ _ _ _).2.1, push_self]
      rfl
    · unfold fed absL
      simp only [List.length_nil, Nat.not_lt_zero, if_false, List.foldl_nil]
      rw [(entL_l _ _ _ _ _).2.2.2.1]
      rfl
theorem head_err (L : List Seal) (b : Book) (now : Int) : (Bk.head L b now).1.2 = 0 ∨ (Bk.head L b now).1.2 = 1 ∨ (Bk.head L b now).1.2 = 7 := by
  unfold Bk.head
  split
  · exact Or.inr (Or.inl rfl)
  split
  · exact Or.inr (Or.inr rfl)
  · exact Or.inl rfl
theorem head_claim {key : Int} {L : List Seal} {b : Book} {now : Int} {M : List Sgn} (h : Made key ⟨L, b⟩ M) (he : (Bk.head L b now).1.2 = 0) : (Vw.claimOf (Bk.head L b now).1.1).kind = 1 ∧ (Vw.claimOf (Bk.head L b now).1.1).time = now ∧ (Bk.head L b now).2.2.last = now := by
  have hr : right ⟨1, b.es.length, now, []⟩ = true := by
    have h1 := h.hon.len
    unfold Bk.head at he
    split at he
    · exact absurd (show (1 : Int) = 0 from he) (by decide)
    rename_i hn
    unfold right Cl.within
    simp
    have : b.es.length ≤ 200000 := h1
    omega
  unfold Bk.head at he ⊢
  split at he
  · exact absurd (show (1 : Int) = 0 from he) (by decide)
  split at he
  · exact absurd (show (7 : Int) = 0 from he) (by decide)
  rename_i h1 h2
  rw [if_neg h1, if_neg h2]
  obtain ⟨g1, g2, g3⟩ := Bk.sign_good (L := L) (t := Cl.text ⟨1, b.es.length, now, []⟩) (k := b.key) (by have := h.kok; have e : b.key = key := h.hon.own; rw [e]; exact this)
  unfold Bk.signC
  dsimp only
  unfold Vw.claimOf
  rw [g2, Cl.read_text hr]
  exact ⟨rfl, rfl, rfl⟩
end Go.Proofs.YtkhdnfmnnapjlaaGreatDoor.Mi
