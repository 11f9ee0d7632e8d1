/- Plain: fleets; who can talk to whom; rollouts. Plain: whether a state talks depends on some, all, none; a machine more. Plain: parts of a rollout. -/
import Derived.Test.YtjlgmoemnhmgmaaGreatDoorPkWPlan18
namespace Go.Proofs.YtjlgmoemnhmgmaaGreatDoor
set_option linter.unusedVariables false
set_option linter.unusedSimpArgs false

namespace Wv
open Fm (Ty Str nameB rightTy)
structure Svc where
  name : Str
  sends : List Int
  wr : Ty
  rd : Ty
structure FL where
  old : List Svc
  new : List Svc
  runs : List Int
structure Wave where
  ms : List Int
  after : Int
def noS : Svc := ⟨[], [], Fm.noT, Fm.noT⟩
/-! ### Ascending ints -/
def ascI : List Int → Bool
  | [] => true
  | [_] => true
  | a :: b :: r => decide (a < b) && ascI (b :: r)
theorem ascI_iff {l : List Int} : ascI l = true ↔ ∀ i (h : i + 1 < l.length), (l[i]'(by omega)) < l[i + 1] := by
  induction l with
  | nil => simp [ascI]
  | cons a l ih =>
    cases l with
    | nil => simp [ascI]
    | cons b r =>
      unfold ascI
      rw [Bool.and_eq_true, decide_eq_true_eq, ih]
      constructor
      · rintro ⟨h1, h2⟩ i hi
        cases i with
        | zero => exact h1
        | succ i => exact h2 i (by simpa using hi)
      · intro h
        exact ⟨h 0 (by simp), fun i hi => h (i + 1) (by simpa using hi)⟩
theorem ascI_pair {l : List Int} (h : ascI l = true) : ∀ i j (hj : j < l.length) (hij : i < j), (l[i]'(by omega)) < l[j] := by
  intro i j hj hij
  induction j with
  | zero => omega
  | succ j ih =>
    have h1 := ascI_iff.1 h j hj
    by_cases e : i = j
    · subst e; exact h1
    · exact Int.lt_trans (ih (by omega) (by omega)) h1
theorem ascI_nodup {l : List Int} (h : ascI l = true) : l.Nodup := by
  rw [List.Nodup, List.pairwise_iff_getElem]
  intro i j hi hj hij e
  have := ascI_pair h i j hj hij
  omega
/-! ### Right services and fleets -/
def inR (n : Nat) (x : Int) : Bool := decide (0 ≤ x) && decide (x < n)
theorem inR_iff {n : Nat} {x : Int} : inR n x = true ↔ 0 ≤ x ∧ x < n := by unfold inR; simp
def sendsOk (n : Nat) (l : List Int) : Bool := l.all (inR n) && ascI l
/-- One service, beside those ahead of it. -/
def svcOk (l : List Svc) (i : Nat) (s : Svc) : Bool := nameB s.name && !((l.take i).any fun x => decide (x.name = s.name)) && rightTy 4 s.wr && rightTy 4 s.rd && sendsOk l.length s.sends
def allOk (l : List Svc) : Bool := (List.range l.length).all fun i => svcOk l i (l.getD i noS)
def formed (l : List Svc) : Bool := allOk l && decide (l.length ≤ 8)
def namesEq (f : FL) : Bool := decide (f.old.map (·.name) = f.new.map (·.name))
def runsOk (f : FL) : Bool := f.runs.all (inR f.old.length)
def right (f : FL) : Bool := namesEq f && runsOk f && decide (f.runs.length ≤ 400) && formed f.old && formed f.new
structure Rg (f : FL) : Prop where
  len : f.old.length = f.new.length
  runs : ∀ x ∈ f.runs, 0 ≤ x ∧ x < f.old.length
  few : f.runs.length ≤ 400
  old8 : f.old.length ≤ 8
  okO : ∀ i (h : i < f.old.length), svcOk f.old i f.old[i] = true
  okN : ∀ i (h : i < f.new.length), svcOk f.new i f.new[i] = true
theorem allOk_iff {l : List Svc} : allOk l = true ↔ ∀ i (h : i < l.length), svcOk l i l[i] = true := by
  unfold allOk
  rw [List.all_eq_true]
  constructor
  · intro h i hi
    have := h i (List.mem_range.2 hi)
    rwa [List.getD_eq_getElem?_getD, List.getElem?_eq_getElem hi] at this
  · intro h i hi
    have hi := List.mem_range.1 hi
    rw [List.getD_eq_getElem?_getD, List.getElem?_eq_getElem hi]
    exact h i hi
theorem rg_of {f : FL} (h : right f = true) : Rg f := by
  unfold right formed namesEq runsOk at h
  simp only [Bool.and_eq_true, decide_eq_true_eq, List.all_eq_true] at h
  obtain ⟨⟨⟨⟨h1, h2⟩, h3⟩, h4, h5⟩, h6, h7⟩ := h
  have hl := congrArg List.length h1
  rw [List.length_map, List.length_map] at hl
  exact ⟨hl, fun x hx => inR_iff.1 (h2 x hx), h3, h5, allOk_iff.1 h4, allOk_iff.1 h6⟩
/-! ### Who can talk to whom -/
def ver (done : List Bool) (i : Nat) : Bool := done.getD i false
def svcAt (f : FL) (s : Nat) (v : Bool) : Svc := (if v then f.new else f.old).getD s noS
def can (f : FL) (s : Nat) (v : Bool) (k : Nat) (w : Bool) : Bool := !decide ((k : Int) ∈ (svcAt f s v).sends) || fReads (svcAt f s v).wr (svcAt f k w).rd
def run (f : FL) (i : Nat) : Nat := (f.runs.getD i 0).toNat
/-- Machine i does not talk to machine k. -/
def bad (f : FL) (done : List Bool) (i k : Nat) : Bool := !can f (run f i) (ver done i) (run f k) (ver done k)
def badRow (f : FL) (done : List Bool) (i : Nat) : Option Nat := (List.range f.runs.length).find? (bad f done i)
def firstBad (f : FL) (done : List Bool) : Option (Nat × Nat) := (List.range f.runs.length).findSome? fun i => (badRow f done i).map fun k => (i, k)
/-- What first and Mixed answer. -/
def pairOf (o : Option (Nat × Nat)) : Int × Int × Bool := match o with
  | none => (0, 0, false)
  | some (i, k) => (i, k, true)
def mixed (f : FL) (done : List Bool) : Int × Int × Bool := if right f = true then pairOf (firstBad f done) else (0, 0, false)
theorem find_range {p : Nat → Bool} {n m : Nat} (hm : m < n) (hp : p m = true) (hno : ∀ j, j < m → p j = false) : (List.range n).find? p = some m := by
  rw [List.find?_eq_some_iff_append]
  refine ⟨hp, List.range m, (List.range' (m + 1) (n - m - 1)), ?_, fun x hx => by rw [hno x (List.mem_range.1 hx)]; rfl⟩
  rw [List.range_eq_range', List.range_eq_range', show m :: List.range' (m + 1) (n - m - 1) = List.range' m (n - m) by
    rw [show n - m = (n - m - 1) + 1 by omega, List.range'_succ]; simp]
  have := @List.range'_append_1 0 m (n - m)
  rw [Nat.zero_add] at this
  rw [this]; congr 1; omega
theorem find_range_none {p : Nat → Bool} {n : Nat} (hno : ∀ j, j < n → p j = false) : (List.range n).find? p = none :=
  List.find?_eq_none.2 fun x hx => by rw [hno x (List.mem_range.1 hx)]; simp
theorem row_hit {f : FL} {done : List Bool} {i k : Nat} (hk : k < f.runs.length) (h : bad f done i k = true) (hno : ∀ j, j < k → bad f done i j = false) : badRow f done i = some k := find_range hk h hno
theorem row_none {f : FL} {done : List Bool} {i : Nat} (hno : ∀ j, j < f.runs.length → bad f done i j = false) : badRow f done i = none := find_range_none hno
theorem findSome_range {α : Type} {g : Nat → Option α} {n m : Nat} {x : α} (hm : m < n) (hp : g m = some x) (hno : ∀ j, j < m → g j = none) : (List.range n).findSome? g = some x := by
  rw [show List.range n = List.range m ++ List.range' m (n - m) by
    rw [List.range_eq_range', List.range_eq_range']
    have := @List.range'_append_1 0 m (n - m)
    rw [Nat.zero_add] at this
    rw [this]; congr 1; omega]
  rw [List.findSome?_append, List.findSome?_eq_none_iff.2 (fun j hj => hno j (List.mem_range.1 hj)), show n - m = (n - m - 1) + 1 by omega, List.range'_succ, List.findSome?_cons, hp]
  rfl
theorem first_hit {f : FL} {done : List Bool} {i k : Nat} (hi : i < f.runs.length) (hr : badRow f done i = some k) (hno : ∀ j, j < i → badRow f done j = none) : firstBad f done = some (i, k) :=
  findSome_range hi (by rw [hr]; rfl) (fun j hj => by rw [hno j hj]; rfl)
theorem first_none {f : FL} {done : List Bool} (hno : ∀ j, j < f.runs.length → badRow f done j = none) : firstBad f done = none :=
  List.findSome?_eq_none_iff.2 fun j hj => by rw [hno j (List.mem_range.1 hj)]; rfl
theorem row_none_iff {f : FL} {done : List Bool} {i : Nat} : badRow f done i = none ↔ ∀ k, k < f.runs.length → bad f done i k = false := by
  unfold badRow
  rw [List.find?_eq_none]
  exact ⟨fun h k hk => by have := h k (List.mem_range.2 hk); simpa using this, fun h k hk => by rw [h k (List.mem_range.1 hk)]; simp⟩
theorem first_none_iff {f : FL} {done : List Bool} : firstBad f done = none ↔ ∀ i, i < f.runs.length → ∀ k, k < f.runs.length → bad f done i k = false := by
  unfold firstBad
  rw [List.findSome?_eq_none_iff]
  constructor
  · intro h i hi
    have := h i (List.mem_range.2 hi)
    rw [Option.map_eq_none_iff] at this
    exact row_none_iff.1 this
  · intro h i hi
    rw [row_none_iff.2 (h i (List.mem_range.1 hi))]; rfl
/-! ### Waves -/
def maxTime : Int := 1073741824
def waveOk (n : Nat) (w : Wave) : Bool := !w.ms.isEmpty && decide (0 ≤ w.after) && decide (w.after ≤ maxTime) && w.ms.all (inR n) && ascI w.ms
def formedW (f : FL) (ws : List Wave) : Bool := ws.all (waveOk f.runs.length) && decide ((ws.map (·.ms)).flatten.Nodup)
/-- The machines of a wave have changed. -/
def setAll (done : List Bool) (ms : List Int) : List Bool := ms.foldl (fun d m => d.set m.toNat true) done
/-- A hold bars a service at a moment. -/
def held (holds : List Int) (s : Nat) (now : Int) : Bool := decide (s < holds.length) && decide (now < holds.getD s 0)
def nowOf (w : Wave) (mo : List Int) : Int := match mo.getLast? with
  | none => w.after
  | some m => max w.after (m + 1)
def runL (f : FL) (quota : Int) (holds : List Int) : List Wave → List Bool → List Int → List Int × Int
  | [], _, mo => (mo, 0)
  | w :: r, done, mo =>
    if quota < w.ms.length then (mo, 32)
    else if w.ms.any (fun m => held holds (run f m.toNat) (nowOf w mo)) then (mo, 31)
    else if (firstBad f (setAll done w.ms)).isSome then (mo, 27)
    else runL f quota holds r (setAll done w.ms) (mo ++ [nowOf w mo])
def none_ (f : FL) : List Bool := List.replicate f.runs.length false
def runG (f : FL) (ws : List Wave) (quota : Int) (holds : List Int) : List Int × Int := if (firstBad f (none_ f)).isSome then ([], 27) else runL f quota holds ws (none_ f) []
def runF (f : FL) (ws : List Wave) (quota : Int) (holds : List Int) : List Int × Int := if right f = true ∧ 1 ≤ quota ∧ formedW f ws = true then runG f ws quota holds else ([], 1)
/-! ### Plans -/
def machines (f : FL) (s : Nat) : List Int := ((List.range f.runs.length).filter fun i => decide (run f i = s)).map fun (i : Nat) => (i : Int)
def chunks {α : Type} (q : Nat) : Nat → List α → List (List α)
  | 0, _ => []
  | n + 1, l => if l.isEmpty then [] else l.take q :: chunks q n (l.drop q)
def oneF (f : FL) (s : Nat) (quota : Int) (holds : List Int) : List Wave := (chunks quota.toNat (machines f s).length (machines f s)).map fun l => ⟨l, holds.getD s 0⟩
/-- Which machines have changed when the services of a set have, and a service has in part. -/
def partL (f : FL) (quota : Int) (set : Nat) (part : Int) : List Bool := (List.range f.runs.length).map fun i =>
  if (run f i : Int) = part then decide ((((List.range i).filter fun j => decide (run f j = run f i)).length : Int) < quota) else set.testBit (run f i)
def talksP (f : FL) (quota : Int) (set : Nat) (part : Int) : Bool := (firstBad f (partL f quota set part)).isNone
def allBits (f : FL) : Nat := (List.range f.runs.length).foldl (fun a i => a ||| 1 <<< run f i) 0
/-- May a service be changed next. -/
def mayNext (f : FL) (quota : Int) (set s : Nat) : Bool := (allBits f).testBit s && !set.testBit s && talksP f quota set s && talksP f quota (set ||| 1 <<< s) (-1)
def restP (f : FL) (quota : Int) : Nat → Nat → Option (List Nat)
  | 0, _ => none
  | n + 1, set => if set = allBits f then some [] else (List.range f.old.length).findSome? fun s => if mayNext f quota set s = true then (restP f quota n (set ||| 1 <<< s)).map (s :: ·) else none
def planP (f : FL) (quota : Int) : Option (List Nat) := if talksP f quota 0 (-1) = true then restP f quota 9 0 else none
def holdsOk (holds : List Int) : Bool := holds.all fun h => decide (0 ≤ h) && decide (h ≤ maxTime)
def planF (f : FL) (quota : Int) (holds : List Int) : List Wave × Int :=
  if right f = true ∧ 1 ≤ quota ∧ holdsOk holds = true then
    match planP f quota with
    | none => ([], 27)
    | some o => ((o.map fun s => oneF f s quota holds).flatten, 0)
  else ([], 1)
end Wv
end Go.Proofs.YtjlgmoemnhmgmaaGreatDoor
namespace Go.Proofs.YtjlgmoemnhmgmaaGreatDoor
set_option linter.unusedVariables false
set_option linter.unusedSimpArgs false

namespace Wv
theorem gD {α : Type} {l : List α} {i : Nat} {d : α} (h : i < l.length) : l.getD i d = l[i] := by rw [List.getD_eq_getElem?_getD, List.getElem?_eq_getElem h]; rfl
theorem find_congrW {p q : Nat → Bool} : ∀ {l : List Nat}, (∀ x ∈ l, p x = q x) → l.find? p = l.find? q
  | [], _ => rfl
  | a :: l, h => by
    rw [List.find?_cons, List.find?_cons, h a (List.mem_cons_self ..), find_congrW (fun x hx => h x (List.mem_cons_of_mem _ hx))]
theorem findSome_congrW {α : Type} {g g' : Nat → Option α} : ∀ {l : List Nat}, (∀ x ∈ l, g x = g' x) → l.findSome? g = l.findSome? g'
  | [], _ => rfl
  | a :: l, h => by
    rw [List.findSome?_cons, List.findSome?_cons, h a (List.mem_cons_self ..), findSome_congrW (fun x hx => h x (List.mem_cons_of_mem _ hx))]
theorem firstBad_congr {f : FL} {d d' : List Bool} (h : ∀ i, i < f.runs.length → ver d i = ver d' i) : firstBad f d = firstBad f d' := by
  unfold firstBad badRow
  refine findSome_congrW fun i hi => ?_
  congr 1
  refine find_congrW fun k hk => ?_
  unfold bad
  rw [h i (List.mem_range.1 hi), h k (List.mem_range.1 hk)]
/-! ### Some, all, none -/
def pres (f : FL) (d : List Bool) (s : Nat) (v : Bool) : Prop := ∃ i, i < f.runs.length ∧ run f i = s ∧ ver d i = v
theorem bad_some {f : FL} {d : List Bool} : (firstBad f d).isSome = true ↔ ∃ s v s' v', pres f d s v ∧ pres f d s' v' ∧ can f s v s' v' = false := by
  constructor
  · intro h
    rcases Option.isSome_iff_exists.1 h with ⟨p, hp⟩
    have h2 : ¬ ∀ i, i < f.runs.length → ∀ k, k < f.runs.length → bad f d i k = false := fun h3 => by rw [first_none_iff.2 h3] at hp; cases hp
    simp only [Classical.not_forall] at h2
    obtain ⟨i, hi, k, hk, hb⟩ := h2
    exact ⟨_, _, _, _, ⟨i, hi, rfl, rfl⟩, ⟨k, hk, rfl, rfl⟩, by unfold bad at hb; simpa using hb⟩
  · rintro ⟨s, v, s', v', ⟨i, hi, rfl, rfl⟩, ⟨k, hk, rfl, rfl⟩, hc⟩
    cases hf : firstBad f d with
    | some p => rfl
    | none =>
      have := first_none_iff.1 hf i hi k hk
      unfold bad at this
      rw [hc] at this; cases this
theorem least {p : Nat → Prop} : ∀ n, p n → ∃ m, p m ∧ m ≤ n ∧ ∀ k, p k → m ≤ k := by
  intro n
  induction n using Nat.strongRecOn with
  | ind n ih =>
    intro h
    by_cases h2 : ∃ k, k < n ∧ p k
    · obtain ⟨k, hk, hp⟩ := h2
      obtain ⟨m, h3, h4, h5⟩ := ih k hk hp
      exact ⟨m, h3, by omega, h5⟩
    · exact ⟨n, h, Nat.le_refl _, fun k hk => by
        rcases Nat.lt_or_ge k n with h3 | h3
        · exact absurd ⟨k, h3, hk⟩ h2
        · exact h3⟩
/-! ### A machine more -/
end Wv
end Go.Proofs.YtjlgmoemnhmgmaaGreatDoor
namespace Go.Proofs.YtjlgmoemnhmgmaaGreatDoor
set_option linter.unusedVariables false
set_option linter.unusedSimpArgs false

namespace Wv
theorem runL_pre {f : FL} {q : Int} {h : List Int} : ∀ {ws : List Wave} {d : List Bool} {mo m : List Int} {c : Int}, runL f q h ws d mo = (m, c) → mo.length ≤ m.length ∧ m.take mo.length = mo
  | [], d, mo, m, c, e => by
    unfold runL at e
    injection e with e1 e2
    subst e1
    exact ⟨Nat.le_refl _, List.take_length⟩
  | w :: r, d, mo, m, c, e => by
    unfold runL at e
    split at e
    · injection e with e1 e2; subst e1; exact ⟨Nat.le_refl _, List.take_length⟩
    · split at e
      · injection e with e1 e2; subst e1; exact ⟨Nat.le_refl _, List.take_length⟩
      · split at e
        · injection e with e1 e2; subst e1; exact ⟨Nat.le_refl _, List.take_length⟩
        · obtain ⟨h1, h2⟩ := runL_pre e
          rw [List.length_append, List.length_singleton] at h1 h2
          refine ⟨by omega, ?_⟩
          have := congrArg (List.take mo.length) h2
          rwa [List.take_take, Nat.min_eq_left (by omega), List.take_left' rfl] at this
theorem runL_len {f : FL} {q : Int} {h : List Int} : ∀ {ws : List Wave} {d : List Bool} {mo m : List Int}, runL f q h ws d mo = (m, 0) → m.length = mo.length + ws.length
  | [], d, mo, m, e => by
    unfold runL at e
    injection e with e1 e2
    subst e1; rfl
  | w :: r, d, mo, m, e => by
    unfold runL at e
    split at e
    · injection e with e1 e2; cases e2
    · split at e
      · injection e with e1 e2; cases e2
      · split at e
        · injection e with e1 e2; cases e2
        · have := runL_len e
          rw [List.length_append, List.length_singleton] at this
          rw [List.length_cons]; omega
theorem runL_take {f : FL} {q : Int} {h : List Int} : ∀ {ws : List Wave} {d : List Bool} {mo m : List Int} (i : Nat), runL f q h ws d mo = (m, 0) → i ≤ ws.length → runL f q h (ws.take i) d mo = (m.take (mo.length + i), 0)
  | ws, d, mo, m, 0, e, hi => by
    rw [List.take_zero, Nat.add_zero, (runL_pre e).2]; rfl
  | [], d, mo, m, i + 1, e, hi => by simp at hi
  | w :: r, d, mo, m, i + 1, e, hi => by
    rw [List.take_succ_cons]
    unfold runL at e ⊢
    split at e
    · injection e with e1 e2; cases e2
    · rename_i h1
      rw [if_neg h1]
      split at e
      · injection e with e1 e2; cases e2
      · rename_i h2
        rw [if_neg h2]
        split at e
        · injection e with e1 e2; cases e2
        · rename_i h3
          rw [if_neg h3, runL_take i e (by simpa using hi), List.length_append, List.length_singleton]
          congr 2; omega
theorem runL_more {f : FL} {q q' : Int} {h : List Int} (hq : q ≤ q') : ∀ {ws : List Wave} {d : List Bool} {mo m : List Int}, runL f q h ws d mo = (m, 0) → runL f q' [] ws d mo = (m, 0)
  | [], d, mo, m, e => e
  | w :: r, d, mo, m, e => by
    unfold runL at e ⊢
    split at e
    · injection e with e1 e2; cases e2
    · rename_i h1
      rw [if_neg (by omega)]
      split at e
      · injection e with e1 e2; cases e2
      · split at e
        · injection e with e1 e2; cases e2
        · rename_i h3
          have hn : ¬ (w.ms.any fun m => held [] (run f m.toNat) (nowOf w mo)) = true := by
            rw [show (fun m : Int => held [] (run f m.toNat) (nowOf w mo)) = fun _ => false from rfl]
            simp
          rw [if_neg hn, if_neg h3]
          exact runL_more hq e
theorem formedW_take {f : FL} {ws : List Wave} (h : formedW f ws = true) (i : Nat) : formedW f (ws.take i) = true := by
  unfold formedW at h ⊢
  simp only [Bool.and_eq_true, decide_eq_true_eq, List.all_eq_true] at h ⊢
  refine ⟨fun w hw => h.1 w (List.mem_of_mem_take hw), ?_⟩
  have e : (ws.map (·.ms)).flatten = ((ws.take i).map (·.ms)).flatten ++ ((ws.drop i).map (·.ms)).flatten := by
    rw [← List.flatten_append, ← List.map_append, List.take_append_drop]
  rw [e] at h
  exact (List.nodup_append.1 h.2).1
/-- What a rollout that is through says of its parts. -/
theorem run_parts {f : FL} {ws : List Wave} {q q' : Int} {h m : List Int} (e : runF f ws q h = (m, 0)) (hq : q ≤ q') :
    m.length = ws.length ∧ (∀ i, i ≤ ws.length → runF f (ws.take i) q h = (m.take i, 0)) ∧ runF f ws q' [] = (m, 0) := by
  unfold runF at e
  by_cases hc : right f = true ∧ 1 ≤ q ∧ formedW f ws = true
  · rw [if_pos hc] at e
    unfold runG at e
    by_cases hb : (firstBad f (none_ f)).isSome = true
    · rw [if_pos hb] at e; injection e with e1 e2; cases e2
    · rw [if_neg hb] at e
      refine ⟨by have := runL_len e; simpa using this, fun i hi => ?_, ?_⟩
      · unfold runF
        rw [if_pos ⟨hc.1, hc.2.1, formedW_take hc.2.2 i⟩]
        unfold runG
        rw [if_neg hb]
        have := runL_take i e hi
        simpa using this
      · unfold runF
        rw [if_pos ⟨hc.1, by omega, hc.2.2⟩]
        unfold runG
        rw [if_neg hb]
        exact runL_more hq e
  · rw [if_neg hc] at e; injection e with e1 e2; cases e2
/-! ### Formats that are read both ways -/
end Wv
end Go.Proofs.YtjlgmoemnhmgmaaGreatDoor
