/- Plain: fleets; who can talk to whom; rollouts. Fleets, waves, states of machines in memory. wave: changed, version, hold; the slices functions at services and ints. wave.formed. wave.Right. wave.talks. -/
import Derived.Test.YtjlgmoemnhmgmaaGreatDoorPkWTells18
import Derived.Test.YtjlgmoemnhmgmaaGreatDoorPkWTells8
import Derived.Test.YtjlgmoemnhmgmaaGreatDoorPkWTells6
namespace Go.Proofs.YtjlgmoemnhmgmaaGreatDoor
set_option linter.unusedVariables false
set_option linter.unusedSimpArgs false

namespace Wv
open Fm (Ty Str nameB rightTy)
structure Svc where
  name : Str
  sends : List Int
  wr : Ty
  rd : Ty
structure FL where
  old : List Svc
  new : List Svc
  runs : List Int
structure Wave where
  ms : List Int
  after : Int
def noS : Svc := ⟨[], [], Fm.noT, Fm.noT⟩
/-! ### Ascending ints -/
def ascI : List Int → Bool
  | [] => true
  | [_] => true
  | a :: b :: r => decide (a < b) && ascI (b :: r)
theorem ascI_iff {l : List Int} : ascI l = true ↔ ∀ i (h : i + 1 < l.length), (l[i]'(by omega)) < l[i + 1] := by
  induction l with
  | nil => simp [ascI]
  | cons a l ih =>
    cases l with
    | nil => simp [ascI]
    | cons b r =>
      unfold ascI
      rw [Bool.and_eq_true, decide_eq_true_eq, ih]
      constructor
      · rintro ⟨h1, h2⟩ i hi
        cases i with
        | zero => exact h1
        | succ i => exact h2 i (by simpa using hi)
      · intro h
        exact ⟨h 0 (by simp), fun i hi => h (i + 1) (by simpa using hi)⟩
theorem ascI_pair {l : List Int} (h : ascI l = true) : ∀ i j (hj : j < l.length) (hij : i < j), (l[i]'(by omega)) < l[j] := by
  intro i j hj hij
  induction j with
  | zero => omega
  | succ j ih =>
    have h1 := ascI_iff.1 h j hj
    by_cases e : i = j
    · subst e; exact h1
    · exact Int.lt_trans (ih (by omega) (by omega)) h1
theorem ascI_nodup {l : List Int} (h : ascI l = true) : l.Nodup := by
  rw [List.Nodup, List.pairwise_iff_getElem]
  intro i j hi hj hij e
  have := ascI_pair h i j hj hij
  omega
/-! ### Right services and fleets -/
def inR (n : Nat) (x : Int) : Bool := decide (0 ≤ x) && decide (x < n)
theorem inR_iff {n : Nat} {x : Int} : inR n x = true ↔ 0 ≤ x ∧ x < n := by unfold inR; simp
def sendsOk (n : Nat) (l : List Int) : Bool := l.all (inR n) && ascI l
/-- One service, beside those ahead of it. -/
def svcOk (l : List Svc) (i : Nat) (s : Svc) : Bool := nameB s.name && !((l.take i).any fun x => decide (x.name = s.name)) && rightTy 4 s.wr && rightTy 4 s.rd && sendsOk l.length s.sends
def allOk (l : List Svc) : Bool := (List.range l.length).all fun i => svcOk l i (l.getD i noS)
def formed (l : List Svc) : Bool := allOk l && decide (l.length ≤ 8)
def namesEq (f : FL) : Bool := decide (f.old.map (·.name) = f.new.map (·.name))
def runsOk (f : FL) : Bool := f.runs.all (inR f.old.length)
def right (f : FL) : Bool := namesEq f && runsOk f && decide (f.runs.length ≤ 400) && formed f.old && formed f.new
structure Rg (f : FL) : Prop where
  len : f.old.length = f.new.length
  runs : ∀ x ∈ f.runs, 0 ≤ x ∧ x < f.old.length
  few : f.runs.length ≤ 400
  old8 : f.old.length ≤ 8
  okO : ∀ i (h : i < f.old.length), svcOk f.old i f.old[i] = true
  okN : ∀ i (h : i < f.new.length), svcOk f.new i f.new[i] = true
theorem allOk_iff {l : List Svc} : allOk l = true ↔ ∀ i (h : i < l.length), svcOk l i l[i] = true := by
  unfold allOk
  rw [List.all_eq_true]
  constructor
  · intro h i hi
    have := h i (List.mem_range.2 hi)
    rwa [List.getD_eq_getElem?_getD, List.getElem?_eq_getElem hi] at this
  · intro h i hi
    have hi := List.mem_range.1 hi
    rw [List.getD_eq_getElem?_getD, List.getElem?_eq_getElem hi]
    exact h i hi
theorem rg_of {f : FL} (h : right f = true) : Rg f := by
  unfold right formed namesEq runsOk at h
  simp only [Bool.and_eq_true, decide_eq_true_eq, List.all_eq_true] at h
  obtain ⟨⟨⟨⟨h1, h2⟩, h3⟩, h4, h5⟩, h6, h7⟩ := h
  have hl := congrArg List.length h1
  rw [List.length_map, List.length_map] at hl
  exact ⟨hl, fun x hx => inR_iff.1 (h2 x hx), h3, h5, allOk_iff.1 h4, allOk_iff.1 h6⟩
/-! ### Who can talk to whom -/
def ver (done : List Bool) (i : Nat) : Bool := done.getD i false
def svcAt (f : FL) (s : Nat) (v : Bool) : Svc := (if v then f.new else f.old).getD s noS
def can (f : FL) (s : Nat) (v : Bool) (k : Nat) (w : Bool) : Bool := !decide ((k : Int) ∈ (svcAt f s v).sends) || fReads (svcAt f s v).wr (svcAt f k w).rd
def run (f : FL) (i : Nat) : Nat := (f.runs.getD i 0).toNat
/-- Machine i does not talk to machine k. -/
def bad (f : FL) (done : List Bool) (i k : Nat) : Bool := !can f (run f i) (ver done i) (run f k) (ver done k)
def badRow (f : FL) (done : List Bool) (i : Nat) : Option Nat := (List.range f.runs.length).find? (bad f done i)
def firstBad (f : FL) (done : List Bool) : Option (Nat × Nat) := (List.range f.runs.length).findSome? fun i => (badRow f done i).map fun k => (i, k)
/-- What first and Mixed answer. -/
def pairOf (o : Option (Nat × Nat)) : Int × Int × Bool := match o with
  | none => (0, 0, false)
  | some (i, k) => (i, k, true)
def mixed (f : FL) (done : List Bool) : Int × Int × Bool := if right f = true then pairOf (firstBad f done) else (0, 0, false)
theorem find_range {p : Nat → Bool} {n m : Nat} (hm : m < n) (hp : p m = true) (hno : ∀ j, j < m → p j = false) : (List.range n).find? p = some m := by
  rw [List.find?_eq_some_iff_append]
  refine ⟨hp, List.range m, (List.range' (m + 1) (n - m - 1)), ?_, fun x hx => by rw [hno x (List.mem_range.1 hx)]; rfl⟩
  rw [List.range_eq_range', List.range_eq_range', show m :: List.range' (m + 1) (n - m - 1) = List.range' m (n - m) by
    rw [show n - m = (n - m - 1) + 1 by omega, List.range'_succ]; simp]
  have := @List.range'_append_1 0 m (n - m)
  rw [Nat.zero_add] at this
  rw [this]; congr 1; omega
theorem find_range_none {p : Nat → Bool} {n : Nat} (hno : ∀ j, j < n → p j = false) : (List.range n).find? p = none :=
  List.find?_eq_none.2 fun x hx => by rw [hno x (List.mem_range.1 hx)]; simp
theorem row_hit {f : FL} {done : List Bool} {i k : Nat} (hk : k < f.runs.length) (h : bad f done i k = true) (hno : ∀ j, j < k → bad f done i j = false) : badRow f done i = some k := find_range hk h hno
theorem row_none {f : FL} {done : List Bool} {i : Nat} (hno : ∀ j, j < f.runs.length → bad f done i j = false) : badRow f done i = none := find_range_none hno
theorem findSome_range {α : Type} {g : Nat → Option α} {n m : Nat} {x : α} (hm : m < n) (hp : g m = some x) (hno : ∀ j, j < m → g j = none) : (List.range n).findSome? g = some x := by
  rw [show List.range n = List.range m ++ List.range' m (n - m) by
    rw [List.range_eq_range', List.range_eq_range']
    have := @List.range'_append_1 0 m (n - m)
    rw [Nat.zero_add] at this
    rw [this]; congr 1; omega]
  rw [List.findSome?_append, List.findSome?_eq_none_iff.2 (fun j hj => hno j (List.mem_range.1 hj)), show n - m = (n - m - 1) + 1 by omega, List.range'_succ, List.findSome?_cons, hp]
  rfl
theorem first_hit {f : FL} {done : List Bool} {i k : Nat} (hi : i < f.runs.length) (hr : badRow f done i = some k) (hno : ∀ j, j < i → badRow f done j = none) : firstBad f done = some (i, k) :=
  findSome_range hi (by rw [hr]; rfl) (fun j hj => by rw [hno j hj]; rfl)
theorem first_none {f : FL} {done : List Bool} (hno : ∀ j, j < f.runs.length → badRow f done j = none) : firstBad f done = none :=
  List.findSome?_eq_none_iff.2 fun j hj => by rw [hno j (List.mem_range.1 hj)]; rfl
theorem row_none_iff {f : FL} {done : List Bool} {i : Nat} : badRow f done i = none ↔ ∀ k, k < f.runs.length → bad f done i k = false := by
  unfold badRow
  rw [List.find?_eq_none]
  exact ⟨fun h k hk => by have := h k (List.mem_range.2 hk); simpa using this, fun h k hk => by rw [h k (List.mem_range.1 hk)]; simp⟩
theorem first_none_iff {f : FL} {done : List Bool} : firstBad f done = none ↔ ∀ i, i < f.runs.length → ∀ k, k < f.runs.length → bad f done i k = false := by
  unfold firstBad
  rw [List.findSome?_eq_none_iff]
  constructor
  · intro h i hi
    have := h i (List.mem_range.2 hi)
    rw [Option.map_eq_none_iff] at this
    exact row_none_iff.1 this
  · intro h i hi
    rw [row_none_iff.2 (h i (List.mem_range.1 hi))]; rfl
/-! ### Waves -/
def maxTime : Int := 1073741824
def waveOk (n : Nat) (w : Wave) : Bool := !w.ms.isEmpty && decide (0 ≤ w.after) && decide (w.after ≤ maxTime) && w.ms.all (inR n) && ascI w.ms
def formedW (f : FL) (ws : List Wave) : Bool := ws.all (waveOk f.runs.length) && decide ((ws.map (·.ms)).flatten.Nodup)
/-- The machines of a wave have changed. -/
def setAll (done : List Bool) (ms : List Int) : List Bool := ms.foldl (fun d m => d.set m.toNat true) done
/-- A hold bars a service at a moment. -/
def held (holds : List Int) (s : Nat) (now : Int) : Bool := decide (s < holds.length) && decide (now < holds.getD s 0)
def nowOf (w : Wave) (mo : List Int) : Int := match mo.getLast? with
  | none => w.after
  | some m => max w.after (m + 1)
def runL (f : FL) (quota : Int) (holds : List Int) : List Wave → List Bool → List Int → List Int × Int
  | [], _, mo => (mo, 0)
  | w :: r, done, mo =>
    if quota < w.ms.length then (mo, 32)
    else if w.ms.any (fun m => held holds (run f m.toNat) (nowOf w mo)) then (mo, 31)
    else if (firstBad f (setAll done w.ms)).isSome then (mo, 27)
    else runL f quota holds r (setAll done w.ms) (mo ++ [nowOf w mo])
def none_ (f : FL) : List Bool := List.replicate f.runs.length false
def runG (f : FL) (ws : List Wave) (quota : Int) (holds : List Int) : List Int × Int := if (firstBad f (none_ f)).isSome then ([], 27) else runL f quota holds ws (none_ f) []
def runF (f : FL) (ws : List Wave) (quota : Int) (holds : List Int) : List Int × Int := if right f = true ∧ 1 ≤ quota ∧ formedW f ws = true then runG f ws quota holds else ([], 1)
/-! ### Plans -/
def machines (f : FL) (s : Nat) : List Int := ((List.range f.runs.length).filter fun i => decide (run f i = s)).map fun (i : Nat) => (i : Int)
def chunks {α : Type} (q : Nat) : Nat → List α → List (List α)
  | 0, _ => []
  | n + 1, l => if l.isEmpty then [] else l.take q :: chunks q n (l.drop q)
def oneF (f : FL) (s : Nat) (quota : Int) (holds : List Int) : List Wave := (chunks quota.toNat (machines f s).length (machines f s)).map fun l => ⟨l, holds.getD s 0⟩
/-- Which machines have changed when the services of a set have, and a service has in part. -/
def partL (f : FL) (quota : Int) (set : Nat) (part : Int) : List Bool := (List.range f.runs.length).map fun i =>
  if (run f i : Int) = part then decide ((((List.range i).filter fun j => decide (run f j = run f i)).length : Int) < quota) else set.testBit (run f i)
def talksP (f : FL) (quota : Int) (set : Nat) (part : Int) : Bool := (firstBad f (partL f quota set part)).isNone
def allBits (f : FL) : Nat := (List.range f.runs.length).foldl (fun a i => a ||| 1 <<< run f i) 0
/-- May a service be changed next. -/
def mayNext (f : FL) (quota : Int) (set s : Nat) : Bool := (allBits f).testBit s && !set.testBit s && talksP f quota set s && talksP f quota (set ||| 1 <<< s) (-1)
def restP (f : FL) (quota : Int) : Nat → Nat → Option (List Nat)
  | 0, _ => none
  | n + 1, set => if set = allBits f then some [] else (List.range f.old.length).findSome? fun s => if mayNext f quota set s = true then (restP f quota n (set ||| 1 <<< s)).map (s :: ·) else none
def planP (f : FL) (quota : Int) : Option (List Nat) := if talksP f quota 0 (-1) = true then restP f quota 9 0 else none
def holdsOk (holds : List Int) : Bool := holds.all fun h => decide (0 ≤ h) && decide (h ≤ maxTime)
def planF (f : FL) (quota : Int) (holds : List Int) : List Wave × Int :=
  if right f = true ∧ 1 ≤ quota ∧ holdsOk holds = true then
    match planP f quota with
    | none => ([], 27)
    | some o => ((o.map fun s => oneF f s quota holds).flatten, 0)
  else ([], 1)
end Wv
end Go.Proofs.YtjlgmoemnhmgmaaGreatDoor
namespace Go.Proofs.YtjlgmoemnhmgmaaGreatDoor
open Go.ChangeShapes Go.WideShapes Go.ChangeAt Go.RowKit Go.Joins
set_option linter.unusedVariables false
set_option linter.unusedSimpArgs false
open Fm (Ty Vl Str)
open Wv (Svc FL)

abbrev tSv : TypeId := 52
abbrev tFl : TypeId := 25
abbrev tWv : TypeId := 62
def bF (x : Bool) : Value := .bool x
section
variable {w w' : World}
/-! ### Ints -/
abbrev IC (w : World) (a : Option Addr) (l : List Int) : Prop := l = [] ∨ ∃ b off, a = some ⟨b, off, none⟩ ∧ b < w.heap.size ∧ ∀ i (h : i < l.length), w.cell? ⟨b, off + i, none⟩ = some (.int .i64 l[i])
theorem IC.nw {a : Option Addr} {l : List Int} (h : IC w a l) (u : Nw w w') : IC w' a l :=
  h.imp id (fun ⟨b, off, e, hb, hc⟩ => ⟨b, off, e, Nat.lt_of_lt_of_le hb u.size, fun i hi => nw_cellF u (hc i hi)⟩)
def IntsAt (w : World) (v : Value) (l : List Int) : Prop := ∃ a cap, v = .slice a l.length cap ∧ l.length ≤ maxLen ∧ IC w a l
theorem IntsAt.nw {v : Value} {l : List Int} (h : IntsAt w v l) (u : Nw w w') : IntsAt w' v l := by
  obtain ⟨a, cap, e, hm, hc⟩ := h
  exact ⟨a, cap, e, hm, IC.nw hc u⟩
theorem IntsAt.of_sl {lo hi : Nat} {v : Value} {l : List Int} (h : Sl lo hi w v (l.map (Value.int .i64))) : IntsAt w v l := by
  obtain ⟨a, cap, rfl, hm, hc⟩ := h.open_
  rw [List.length_map] at hm
  refine ⟨a, cap, by rw [List.length_map], hm, ?_⟩
  rcases hc with ⟨_, _, h0⟩ | ⟨b, off, rfl, _, _, hb, hcl⟩
  · exact Or.inl (List.map_eq_nil_iff.1 h0)
  · refine Or.inr ⟨b, off, rfl, hb, fun i hi => ?_⟩
    rw [hcl i (by simpa using hi), List.getElem?_map, List.getElem?_eq_getElem hi]; rfl
/-! ### Booleans -/
abbrev BC (w : World) (a : Option Addr) (l : List Bool) : Prop := l = [] ∨ ∃ b off, a = some ⟨b, off, none⟩ ∧ b < w.heap.size ∧ ∀ i (h : i < l.length), w.cell? ⟨b, off + i, none⟩ = some (.bool l[i])
theorem BC.nw {a : Option Addr} {l : List Bool} (h : BC w a l) (u : Nw w w') : BC w' a l :=
  h.imp id (fun ⟨b, off, e, hb, hc⟩ => ⟨b, off, e, Nat.lt_of_lt_of_le hb u.size, fun i hi => nw_cellF u (hc i hi)⟩)
def BoolsAt (w : World) (v : Value) (l : List Bool) : Prop := ∃ a cap, v = .slice a l.length cap ∧ l.length ≤ maxLen ∧ BC w a l
theorem BoolsAt.nw {v : Value} {l : List Bool} (h : BoolsAt w v l) (u : Nw w w') : BoolsAt w' v l := by
  obtain ⟨a, cap, e, hm, hc⟩ := h
  exact ⟨a, cap, e, hm, BC.nw hc u⟩
theorem BoolsAt.of_sl {lo hi : Nat} {v : Value} {l : List Bool} (h : Sl lo hi w v (l.map bF)) : BoolsAt w v l := by
  obtain ⟨a, cap, rfl, hm, hc⟩ := h.open_
  rw [List.length_map] at hm
  refine ⟨a, cap, by rw [List.length_map], hm, ?_⟩
  rcases hc with ⟨_, _, h0⟩ | ⟨b, off, rfl, _, _, hb, hcl⟩
  · exact Or.inl (List.map_eq_nil_iff.1 h0)
  · refine Or.inr ⟨b, off, rfl, hb, fun i hi => ?_⟩
    rw [hcl i (by simpa using hi), List.getElem?_map, List.getElem?_eq_getElem hi]; rfl
/-! ### Services -/
/-- What lies behind the cells of a service. -/
structure SvcR (w : World) (s : Svc) (sa fa ga : Option Addr) (fc gc : Nat) : Prop where
  name : s.name.length ≤ maxLen
  few : s.sends.length ≤ maxLen
  sends : IC w sa s.sends
  wr : TyAt w (.slice fa s.wr.fs.length fc) s.wr
  rd : TyAt w (.slice ga s.rd.fs.length gc) s.rd
theorem SvcR.nw {s : Svc} {sa fa ga : Option Addr} {fc gc : Nat} (h : SvcR w s sa fa ga fc gc) (u : Nw w w') : SvcR w' s sa fa ga fc gc := ⟨h.name, h.few, IC.nw h.sends u, h.wr.nw u, h.rd.nw u⟩
/-- The cells of a service at an address. -/
def SvcK (w : World) (b o : Nat) (s : Svc) (sa fa ga : Option Addr) (sc fc gc : Nat) : Prop :=
  w.cell? ⟨b, o, none⟩ = some (.string ⟨s.name.toArray⟩) ∧ w.cell? ⟨b, o + 1, none⟩ = some (.slice sa s.sends.length sc) ∧ w.cell? ⟨b, o + 2, none⟩ = some (.int .i64 s.wr.kind) ∧ w.cell? ⟨b, o + 3, none⟩ = some (.slice fa s.wr.fs.length fc) ∧ w.cell? ⟨b, o + 4, none⟩ = some (.int .i64 s.rd.kind) ∧ w.cell? ⟨b, o + 5, none⟩ = some (.slice ga s.rd.fs.length gc)
theorem SvcK.nw {b o : Nat} {s : Svc} {sa fa ga : Option Addr} {sc fc gc : Nat} (h : SvcK w b o s sa fa ga sc fc gc) (u : Nw w w') : SvcK w' b o s sa fa ga sc fc gc :=
  ⟨nw_cellF u h.1, nw_cellF u h.2.1, nw_cellF u h.2.2.1, nw_cellF u h.2.2.2.1, nw_cellF u h.2.2.2.2.1, nw_cellF u h.2.2.2.2.2⟩
abbrev SvC (w : World) (a : Option Addr) (l : List Svc) : Prop := l = [] ∨ ∃ b off, a = some ⟨b, off, none⟩ ∧ b < w.heap.size ∧ ∀ i (h : i < l.length), ∃ sa fa ga sc fc gc, SvcK w b (off + i * 6) l[i] sa fa ga sc fc gc ∧ SvcR w l[i] sa fa ga fc gc
theorem SvC.nw {a : Option Addr} {l : List Svc} (h : SvC w a l) (u : Nw w w') : SvC w' a l :=
  h.imp id (fun ⟨b, off, e, hb, hc⟩ => ⟨b, off, e, Nat.lt_of_lt_of_le hb u.size, fun i hi => by
    obtain ⟨sa, fa, ga, sc, fc, gc, h1, h2⟩ := hc i hi
    exact ⟨sa, fa, ga, sc, fc, gc, h1.nw u, h2.nw u⟩⟩)
def SvsAt (w : World) (v : Value) (l : List Svc) : Prop := ∃ a cap, v = .slice a l.length cap ∧ l.length ≤ maxLen ∧ l.length ≤ cap ∧ SvC w a l
theorem SvsAt.nw {v : Value} {l : List Svc} (h : SvsAt w v l) (u : Nw w w') : SvsAt w' v l := by
  obtain ⟨a, cap, e, hm, hp, hc⟩ := h
  exact ⟨a, cap, e, hm, hp, SvC.nw hc u⟩
/-! ### Fleets -/
structure FlAt (w : World) (oa na ra : Option Addr) (oc nc : Nat) (f : FL) : Prop where
  old : SvC w oa f.old
  new : SvC w na f.new
  runs : IC w ra f.runs
  lo : f.old.length ≤ maxLen
  ln : f.new.length ≤ maxLen
  lr : f.runs.length ≤ maxLen
  co : f.old.length ≤ oc
  cn : f.new.length ≤ nc
theorem FlAt.nw {oa na ra : Option Addr} {oc nc : Nat} {f : FL} (h : FlAt w oa na ra oc nc f) (u : Nw w w') : FlAt w' oa na ra oc nc f := ⟨SvC.nw h.old u, SvC.nw h.new u, IC.nw h.runs u, h.lo, h.ln, h.lr, h.co, h.cn⟩
/-- A fleet's three cells. -/
def flV (oa na ra : Option Addr) (oc nc rc : Nat) (f : FL) : Array Value := #[.slice oa f.old.length oc, .slice na f.new.length nc, .slice ra f.runs.length rc]
/-! ### Waves -/
abbrev WvC (w : World) (a : Option Addr) (l : List Wv.Wave) : Prop := l = [] ∨ ∃ b off, a = some ⟨b, off, none⟩ ∧ b < w.heap.size ∧ ∀ i (h : i < l.length), ∃ ma mc, w.cell? ⟨b, off + i * 2, none⟩ = some (.slice ma (l[i]).ms.length mc) ∧ w.cell? ⟨b, off + i * 2 + 1, none⟩ = some (.int .i64 (l[i]).after) ∧ IC w ma (l[i]).ms ∧ (l[i]).ms.length ≤ maxLen
theorem WvC.nw {a : Option Addr} {l : List Wv.Wave} (h : WvC w a l) (u : Nw w w') : WvC w' a l :=
  h.imp id (fun ⟨b, off, e, hb, hc⟩ => ⟨b, off, e, Nat.lt_of_lt_of_le hb u.size, fun i hi => by
    obtain ⟨ma, mc, h1, h2, h3, h4⟩ := hc i hi
    exact ⟨ma, mc, nw_cellF u h1, nw_cellF u h2, IC.nw h3 u, h4⟩⟩)
def WvsAt (w : World) (v : Value) (l : List Wv.Wave) : Prop := ∃ a cap, v = .slice a l.length cap ∧ l.length ≤ maxLen ∧ WvC w a l
theorem WvsAt.nw {v : Value} {l : List Wv.Wave} (h : WvsAt w v l) (u : Nw w w') : WvsAt w' v l := by
  obtain ⟨a, cap, e, hm, hc⟩ := h
  exact ⟨a, cap, e, hm, WvC.nw hc u⟩
end
end Go.Proofs.YtjlgmoemnhmgmaaGreatDoor
namespace Go.Proofs.YtjlgmoemnhmgmaaGreatDoor
open Go.RowKit
set_option linter.unusedVariables false
set_option linter.unusedSimpArgs false
attribute [local irreducible] Calls
open Fm (Ty Vl Str nameB rightTy)
open Wv (Svc FL)

theorem getD_of {α : Type} {l : List α} {i : Nat} {d : α} (h : i < l.length) : l.getD i d = l[i] := by rw [List.getD_eq_getElem?_getD, List.getElem?_eq_getElem h]; rfl
theorem getD_no {α : Type} {l : List α} {i : Nat} {d : α} (h : ¬ i < l.length) : l.getD i d = d := by rw [List.getD_eq_getElem?_getD, List.getElem?_eq_none (by omega)]; rfl
set_option maxRecDepth 100000 in
theorem changed_c (a : Option Addr) (cap : Nat) (l : List Bool) (i : Nat) (w : World) (h : BC w a l) (hi : i ≤ 1000000) :
    Calls Tryz.prog 73 #[.slice a l.length cap, .int .i64 (i : Int)] w fun e w' => e = .returned (.bool (Wv.ver l i)) ∧ w = w' := by
  have hi1 : (i : Int) ≤ 1000000 := by omega
  have hi0 : decide ((i : Int) < 0) = false := decide_eq_false (by omega)
  by_cases hlt : i < l.length
  · have hlt1 : (i : Int) < l.length := by omega
    rcases h with hnil | ⟨b, off, rfl, _, hcell⟩
    · simp [hnil] at hlt
    have c0 := hcell i hlt
    have e9 : Hid (Wv.ver l i = l[i]) := getD_of hlt
    clear hcell
    generalize l[i] = x at *
    go_enter Tryz.func73, Tryz.ntmps73
    go_wp2_with fail
    go_ret
    exact ⟨by first | rfl | (rw [e9.out]; rfl), rfl⟩
  · have hlt1 : ¬ (i : Int) < l.length := by omega
    have e9 : Hid (Wv.ver l i = false) := getD_no hlt
    clear h
    go_enter Tryz.func73, Tryz.ntmps73
    go_wp2_with fail
    go_ret
    exact ⟨by rw [e9.out]; rfl, rfl⟩
theorem version_c (a : Option Addr) (cap : Nat) (l : List Bool) (i : Nat) (w : World) (h : BC w a l) (hi : i ≤ 1000000) :
    Calls Tryz.prog 54 #[.slice a l.length cap, .int .i64 (i : Int)] w fun e w' => e = .returned (.int .i64 (if Wv.ver l i then 1 else 0)) ∧ w = w' := by
  have hc := Lib.hid (changed_c a cap l i w h hi)
  clear h hi
  cases hv : Wv.ver l i with
  | true =>
    rw [hv] at hc
    clear hv
    go_enter Tryz.func54, Tryz.ntmps54
    go_wp2_with fail
    (with_reducible refine (hc.out).mono ?_)
    rintro _ _ ⟨rfl, rfl⟩
    go_wp2_with fail
    go_ret
    exact ⟨rfl, rfl⟩
  | false =>
    rw [hv] at hc
    clear hv
    go_enter Tryz.func54, Tryz.ntmps54
    go_wp2_with fail
    (with_reducible refine (hc.out).mono ?_)
    rintro _ _ ⟨rfl, rfl⟩
    go_wp2_with fail
    go_ret
    exact ⟨rfl, rfl⟩
theorem hold_c (a : Option Addr) (cap : Nat) (l : List Int) (i : Nat) (w : World) (h : IC w a l) (hi : i ≤ 1000000) :
    Calls Tryz.prog 56 #[.slice a l.length cap, .int .i64 (i : Int)] w fun e w' => e = .returned (.tuple #[.int .i64 (l.getD i 0), .bool (decide (i < l.length))]) ∧ w = w' := by
  have hi1 : (i : Int) ≤ 1000000 := by omega
  have hi0 : decide ((i : Int) < 0) = false := decide_eq_false (by omega)
  by_cases hlt : i < l.length
  · have hlt1 : (i : Int) < l.length := by omega
    rcases h with hnil | ⟨b, off, rfl, _, hcell⟩
    · simp [hnil] at hlt
    have c0 := hcell i hlt
    have e9 : Hid (l.getD i 0 = l[i]) := getD_of hlt
    have e8 : Hid (decide (i < l.length) = true) := decide_eq_true hlt
    clear hcell
    generalize l[i] = x at *
    go_enter Tryz.func56, Tryz.ntmps56
    go_wp2_with fail
    go_ret2
    exact ⟨by first | rfl | (rw [e9.out, e8.out]; rfl), rfl⟩
  · have hlt1 : ¬ (i : Int) < l.length := by omega
    have e9 : Hid (l.getD i 0 = 0) := getD_no hlt
    have e8 : Hid (decide (i < l.length) = false) := decide_eq_false hlt
    clear h
    go_enter Tryz.func56, Tryz.ntmps56
    go_wp2_with fail
    go_ret2
    exact ⟨by first | rfl | (rw [e9.out, e8.out]; rfl), rfl⟩
/-- A service as a value. -/
def svV (s : Svc) (sa fa ga : Option Addr) (sc fc gc : Nat) : Value := .agg #[.string ⟨s.name.toArray⟩, .slice sa s.sends.length sc, .int .i64 s.wr.kind, .slice fa s.wr.fs.length fc, .int .i64 s.rd.kind, .slice ga s.rd.fs.length gc]
set_option maxHeartbeats 1000000 in
set_option maxRecDepth 100000 in
theorem indexFunc_sv (gf : Nat) (cb : Nat) (eg : ∀ args w, (callFunc gf args).run Tryz.prog w = .ok (.enter gf args) w) (p : Svc → Bool) (a : Option Addr) (cap : Nat) (l : List Svc) (w : World) (h : SvC w a l) (hl : l.length ≤ maxLen)
    (hp : ∀ W (s : Svc) sa fa ga sc fc gc, Nw w W → s ∈ l → SvcR W s sa fa ga fc gc → Calls Tryz.prog gf #[svV s sa fa ga sc fc gc, .pointer (some ⟨cb, 0, none⟩)] W fun e w' => e = .returned (.bool (p s)) ∧ Nw W w') :
    Calls Tryz.prog 78 #[.slice a l.length cap, .func (.func gf) #[] #[.pointer (some ⟨cb, 0, none⟩)]] w fun e w' => e = .returned (.int .i64 (idxI p l)) ∧ Nw w w' := by
  have HC := Lib.hid h
  have Hp := Lib.hid hp
  unfold maxLen at hl
  have hl1 : (l.length : Int) ≤ 9223372036854775807 := by omega
  clear h hp
  go_enter Tryz.func78, Tryz.ntmps78
  go_wp2_with fail
  go_loopw [8] (fun i wr => ∃ n : Nat, n ≤ l.length ∧ i = .int .i64 n ∧ Hid (∀ j (h : j < l.length), j < n → p l[j] = false) ∧ Hid (Nw w wr)) (fun i _ => l.length - (intOf i).toNat)
  case atStart => exact ⟨0, Nat.zero_le _, rfl, fun j _ h => absurd h (Nat.not_lt_zero _), Upd.refl _ _⟩
  case round =>
    obtain ⟨n, hn, rfl, hall, u⟩ := hrel
    by_cases hlt : n < l.length
    · have hlt1 : (n : Int) < l.length := by omega
      rcases HC.out with hnil | ⟨b, o, rfl, hb, hc⟩
      · simp [hnil] at hlt
      obtain ⟨sa, fa, ga, sc, fc, gc, hk, hr⟩ := hc n hlt
      obtain ⟨d0, d1, d2, d3, d4, d5⟩ := hk.nw u.out
      have hcall := Hp.out wr l[n] sa fa ga sc fc gc u.out (List.getElem_mem hlt) (hr.nw u.out)
      have hnext : p l[n] = false → Hid (∀ j (h : j < l.length), j < n + 1 → p l[j] = false) := fun e j h hj => by
        by_cases ej : j = n
        · subst ej; exact e
        · exact hall.out j h (by omega)
      have hstop : p l[n] = true → Hid (idxI p l = n) := fun e => idx_hit hlt e hall.out
      unfold svV at hcall
      clear hc hk hr
      generalize p l[n] = q at *
      generalize l[n] = x at *
      have Hcall := Lib.hid hcall; clear hcall
      cases q with
      | true =>
        have hr := hstop rfl
        clear hstop hnext
        go_wp2_with (go_at_fn gf; (with_reducible refine Hcall.out.mono ?_); rintro _ w2 ⟨rfl, u2⟩)
        go_ret
        exact ⟨ret_int hr.out.symm, u.out.trans u2⟩
      | false =>
        have hr := hnext rfl
        clear hstop hnext
        go_wp2_with (go_at_fn gf; (with_reducible refine Hcall.out.mono ?_); rintro _ w2 ⟨rfl, u2⟩)
        go_roundw
        case rel => exact ⟨n + 1, by omega, by go_num, hr, u.out.trans u2⟩
        case measure => simp [intOf]; omega
    · have hr : Hid (idxI p l = -1) := idx_miss (fun j h => hall.out j h (by omega))
      go_wp2_with fail
      go_ret
      exact ⟨ret_int hr.out.symm, u.out⟩
theorem containsFunc_sv (gf : Nat) (cb : Nat) (eg : ∀ args w, (callFunc gf args).run Tryz.prog w = .ok (.enter gf args) w) (p : Svc → Bool) (a : Option Addr) (cap : Nat) (l : List Svc) (w : World) (h : SvC w a l) (hl : l.length ≤ maxLen)
    (hp : ∀ W (s : Svc) sa fa ga sc fc gc, Nw w W → s ∈ l → SvcR W s sa fa ga fc gc → Calls Tryz.prog gf #[svV s sa fa ga sc fc gc, .pointer (some ⟨cb, 0, none⟩)] W fun e w' => e = .returned (.bool (p s)) ∧ Nw W w') :
    Calls Tryz.prog 61 #[.slice a l.length cap, .func (.func gf) #[] #[.pointer (some ⟨cb, 0, none⟩)]] w fun e w' => e = .returned (.bool (l.any p)) ∧ Nw w w' := by
  have Q := Lib.hid (indexFunc_sv gf cb eg p a cap l w h hl hp)
  have hr := Lib.hid (idx_any p l)
  clear h hp
  generalize idxI p l = m at *
  go_enter Tryz.func61, Tryz.ntmps61
  go_wp2_with fail
  (with_reducible refine (Q.out).mono ?_)
  rintro _ w2 ⟨rfl, u2⟩
  go_wp2_with fail
  all_goals go_ret
  all_goals exact ⟨ret_bool (by first | (rw [← hr.out]; done) | (rw [← hr.out]; simp_all)), u2⟩
set_option maxHeartbeats 1000000 in
set_option maxRecDepth 100000 in
theorem indexFunc_in0 (gf : Nat) (eg : ∀ args w, (callFunc gf args).run Tryz.prog w = .ok (.enter gf args) w) (p : Int → Bool) (a : Option Addr) (cap : Nat) (l : List Int) (w : World) (h : IC w a l) (hl : l.length ≤ maxLen)
    (hp : ∀ W (x : Int), Nw w W → x ∈ l → Calls Tryz.prog gf #[.int .i64 x] W fun e w' => e = .returned (.bool (p x)) ∧ Nw W w') :
    Calls Tryz.prog 57 #[.slice a l.length cap, .func (.func gf) #[] #[]] w fun e w' => e = .returned (.int .i64 (idxI p l)) ∧ Nw w w' := by
  have HC := Lib.hid h
  have Hp := Lib.hid hp
  unfold maxLen at hl
  have hl1 : (l.length : Int) ≤ 9223372036854775807 := by omega
  clear h hp
  go_enter Tryz.func57, Tryz.ntmps57
  go_wp2_with fail
  go_loopw [8] (fun i wr => ∃ n : Nat, n ≤ l.length ∧ i = .int .i64 n ∧ Hid (∀ j (h : j < l.length), j < n → p l[j] = false) ∧ Hid (Nw w wr)) (fun i _ => l.length - (intOf i).toNat)
  case atStart => exact ⟨0, Nat.zero_le _, rfl, fun j _ h => absurd h (Nat.not_lt_zero _), Upd.refl _ _⟩
  case round =>
    obtain ⟨n, hn, rfl, hall, u⟩ := hrel
    by_cases hlt : n < l.length
    · have hlt1 : (n : Int) < l.length := by omega
      rcases HC.out with hnil | ⟨b, o, rfl, hb, hc⟩
      · simp [hnil] at hlt
      have d0 := nw_cellF u.out (hc n hlt)
      have hcall := Hp.out wr l[n] u.out (List.getElem_mem hlt)
      have hnext : p l[n] = false → Hid (∀ j (h : j < l.length), j < n + 1 → p l[j] = false) := fun e j h hj => by
        by_cases ej : j = n
        · subst ej; exact e
        · exact hall.out j h (by omega)
      have hstop : p l[n] = true → Hid (idxI p l = n) := fun e => idx_hit hlt e hall.out
      clear hc
      generalize p l[n] = q at *
      generalize l[n] = x at *
      have Hcall := Lib.hid hcall; clear hcall
      cases q with
      | true =>
        have hr := hstop rfl
        clear hstop hnext
        go_wp2_with (go_at_fn gf; (with_reducible refine Hcall.out.mono ?_); rintro _ w2 ⟨rfl, u2⟩)
        go_ret
        exact ⟨ret_int hr.out.symm, u.out.trans u2⟩
      | false =>
        have hr := hnext rfl
        clear hstop hnext
        go_wp2_with (go_at_fn gf; (with_reducible refine Hcall.out.mono ?_); rintro _ w2 ⟨rfl, u2⟩)
        go_roundw
        case rel => exact ⟨n + 1, by omega, by go_num, hr, u.out.trans u2⟩
        case measure => simp [intOf]; omega
    · have hr : Hid (idxI p l = -1) := idx_miss (fun j h => hall.out j h (by omega))
      go_wp2_with fail
      go_ret
      exact ⟨ret_int hr.out.symm, u.out⟩
theorem containsFunc_in0 (gf : Nat) (eg : ∀ args w, (callFunc gf args).run Tryz.prog w = .ok (.enter gf args) w) (p : Int → Bool) (a : Option Addr) (cap : Nat) (l : List Int) (w : World) (h : IC w a l) (hl : l.length ≤ maxLen)
    (hp : ∀ W (x : Int), Nw w W → x ∈ l → Calls Tryz.prog gf #[.int .i64 x] W fun e w' => e = .returned (.bool (p x)) ∧ Nw W w') :
    Calls Tryz.prog 36 #[.slice a l.length cap, .func (.func gf) #[] #[]] w fun e w' => e = .returned (.bool (l.any p)) ∧ Nw w w' := by
  have Q := Lib.hid (indexFunc_in0 gf eg p a cap l w h hl hp)
  have hr := Lib.hid (idx_any p l)
  clear h hp
  generalize idxI p l = m at *
  go_enter Tryz.func36, Tryz.ntmps36
  go_wp2_with fail
  (with_reducible refine (Q.out).mono ?_)
  rintro _ w2 ⟨rfl, u2⟩
  go_wp2_with fail
  all_goals go_ret
  all_goals exact ⟨ret_bool (by first | (rw [← hr.out]; done) | (rw [← hr.out]; simp_all)), u2⟩
set_option maxHeartbeats 1000000 in
set_option maxRecDepth 100000 in
theorem indexFunc_in1 (gf : Nat) (cb : Nat) (eg : ∀ args w, (callFunc gf args).run Tryz.prog w = .ok (.enter gf args) w) (p : Int → Bool) (a : Option Addr) (cap : Nat) (l : List Int) (w : World) (h : IC w a l) (hl : l.length ≤ maxLen)
    (hp : ∀ W (x : Int), Nw w W → x ∈ l → Calls Tryz.prog gf #[.int .i64 x, .pointer (some ⟨cb, 0, none⟩)] W fun e w' => e = .returned (.bool (p x)) ∧ Nw W w') :
    Calls Tryz.prog 57 #[.slice a l.length cap, .func (.func gf) #[] #[.pointer (some ⟨cb, 0, none⟩)]] w fun e w' => e = .returned (.int .i64 (idxI p l)) ∧ Nw w w' := by
  have HC := Lib.hid h
  have Hp := Lib.hid hp
  unfold maxLen at hl
  have hl1 : (l.length : Int) ≤ 9223372036854775807 := by omega
  clear h hp
  go_enter Tryz.func57, Tryz.ntmps57
  go_wp2_with fail
  go_loopw [8] (fun i wr => ∃ n : Nat, n ≤ l.length ∧ i = .int .i64 n ∧ Hid (∀ j (h : j < l.length), j < n → p l[j] = false) ∧ Hid (Nw w wr)) (fun i _ => l.length - (intOf i).toNat)
  case atStart => exact ⟨0, Nat.zero_le _, rfl, fun j _ h => absurd h (Nat.not_lt_zero _), Upd.refl _ _⟩
  case round =>
    obtain ⟨n, hn, rfl, hall, u⟩ := hrel
    by_cases hlt : n < l.length
    · have hlt1 : (n : Int) < l.length := by omega
      rcases HC.out with hnil | ⟨b, o, rfl, hb, hc⟩
      · simp [hnil] at hlt
      have d0 := nw_cellF u.out (hc n hlt)
      have hcall := Hp.out wr l[n] u.out (List.getElem_mem hlt)
      have hnext : p l[n] = false → Hid (∀ j (h : j < l.length), j < n + 1 → p l[j] = false) := fun e j h hj => by
        by_cases ej : j = n
        · subst ej; exact e
        · exact hall.out j h (by omega)
      have hstop : p l[n] = true → Hid (idxI p l = n) := fun e => idx_hit hlt e hall.out
      clear hc
      generalize p l[n] = q at *
      generalize l[n] = x at *
      have Hcall := Lib.hid hcall; clear hcall
      cases q with
      | true =>
        have hr := hstop rfl
        clear hstop hnext
        go_wp2_with (go_at_fn gf; (with_reducible refine Hcall.out.mono ?_); rintro _ w2 ⟨rfl, u2⟩)
        go_ret
        exact ⟨ret_int hr.out.symm, u.out.trans u2⟩
      | false =>
        have hr := hnext rfl
        clear hstop hnext
        go_wp2_with (go_at_fn gf; (with_reducible refine Hcall.out.mono ?_); rintro _ w2 ⟨rfl, u2⟩)
        go_roundw
        case rel => exact ⟨n + 1, by omega, by go_num, hr, u.out.trans u2⟩
        case measure => simp [intOf]; omega
    · have hr : Hid (idxI p l = -1) := idx_miss (fun j h => hall.out j h (by omega))
      go_wp2_with fail
      go_ret
      exact ⟨ret_int hr.out.symm, u.out⟩
theorem containsFunc_in1 (gf : Nat) (cb : Nat) (eg : ∀ args w, (callFunc gf args).run Tryz.prog w = .ok (.enter gf args) w) (p : Int → Bool) (a : Option Addr) (cap : Nat) (l : List Int) (w : World) (h : IC w a l) (hl : l.length ≤ maxLen)
    (hp : ∀ W (x : Int), Nw w W → x ∈ l → Calls Tryz.prog gf #[.int .i64 x, .pointer (some ⟨cb, 0, none⟩)] W fun e w' => e = .returned (.bool (p x)) ∧ Nw W w') :
    Calls Tryz.prog 36 #[.slice a l.length cap, .func (.func gf) #[] #[.pointer (some ⟨cb, 0, none⟩)]] w fun e w' => e = .returned (.bool (l.any p)) ∧ Nw w w' := by
  have Q := Lib.hid (indexFunc_in1 gf cb eg p a cap l w h hl hp)
  have hr := Lib.hid (idx_any p l)
  clear h hp
  generalize idxI p l = m at *
  go_enter Tryz.func36, Tryz.ntmps36
  go_wp2_with fail
  (with_reducible refine (Q.out).mono ?_)
  rintro _ w2 ⟨rfl, u2⟩
  go_wp2_with fail
  all_goals go_ret
  all_goals exact ⟨ret_bool (by first | (rw [← hr.out]; done) | (rw [← hr.out]; simp_all)), u2⟩
end Go.Proofs.YtjlgmoemnhmgmaaGreatDoor
namespace Go.Proofs.YtjlgmoemnhmgmaaGreatDoor
open Go.RowKit
set_option linter.unusedVariables false
set_option linter.unusedSimpArgs false
attribute [local irreducible] Calls
open Fm (Ty Vl Str nameB rightTy)
open Wv (Svc FL svcOk sendsOk inR)

theorem formed_no {l : List Svc} {i : Nat} (h : i < l.length) (e : svcOk l i l[i] = false) : Wv.formed l = false := by
  unfold Wv.formed
  have : Wv.allOk l = false := by
    cases ha : Wv.allOk l with
    | false => rfl
    | true => rw [Wv.allOk_iff.1 ha i h] at e; cases e
  rw [this]; rfl
theorem formed_all {l : List Svc} (h : ∀ i (h : i < l.length), svcOk l i l[i] = true) : Wv.formed l = decide (l.length ≤ 8) := by
  unfold Wv.formed
  rw [Wv.allOk_iff.2 h]; rfl
theorem svcOk_def (l : List Svc) (i : Nat) (s : Svc) : svcOk l i s = (nameB s.name && !((l.take i).any fun x => decide (x.name = s.name)) && rightTy 4 s.wr && rightTy 4 s.rd && sendsOk l.length s.sends) := rfl
theorem sends_no1 {n : Nat} {l : List Int} {k : Nat} (h : k < l.length) (e : inR n l[k] = false) : sendsOk n l = false := by
  unfold sendsOk
  rw [show l.all (inR n) = false from List.all_eq_false.2 ⟨_, List.getElem_mem h, by rw [e]; simp⟩]; rfl
theorem sends_no2 {n : Nat} {l : List Int} {k : Nat} (h : k + 1 < l.length) (e : ¬ (l[k]'(by omega)) < l[k + 1]) : sendsOk n l = false := by
  unfold sendsOk
  cases ha : Wv.ascI l with
  | false => simp
  | true => exact absurd (Wv.ascI_iff.1 ha k h) e
theorem sends_yes {n : Nat} {l : List Int} (h1 : ∀ k (h : k < l.length), inR n l[k] = true) (h2 : ∀ k (h : k + 1 < l.length), (l[k]'(by omega)) < l[k + 1]) : sendsOk n l = true := by
  unfold sendsOk
  rw [Wv.ascI_iff.2 h2, List.all_eq_true.2 (fun x hx => by obtain ⟨i, hi, rfl⟩ := List.mem_iff_getElem.1 hx; exact h1 i hi)]; rfl
theorem SvC.take {w : World} {a : Option Addr} {l : List Svc} (h : SvC w a l) (n : Nat) : SvC w a (l.take n) := by
  rcases h with h | ⟨b, off, e, hb, hc⟩
  · exact Or.inl (by rw [h]; exact List.take_nil)
  · refine Or.inr ⟨b, off, e, hb, fun i hi => ?_⟩
    have hi' : i < l.length := by rw [List.length_take] at hi; omega
    have := hc i hi'
    simp only [List.getElem_take]
    exact this
set_option maxRecDepth 100000 in
theorem formed1_c (s x : Svc) (sa fa ga : Option Addr) (sc fc gc : Nat) (cb : Nat) (w : World) (hb : w.cell? ⟨cb, 0, none⟩ = some (.string ⟨s.name.toArray⟩)) :
    Calls Tryz.prog 62 #[svV x sa fa ga sc fc gc, .pointer (some ⟨cb, 0, none⟩)] w fun e w' => e = .returned (.bool (decide (x.name = s.name))) ∧ Nw w w' := by
  unfold svV
  have n1 := nw_alloc w (.cells #[.string ⟨x.name.toArray⟩, .slice sa x.sends.length sc, .int .i64 x.wr.kind, .slice fa x.wr.fs.length fc, .int .i64 x.rd.kind, .slice ga x.rd.fs.length gc] tSv)
  have b1 := heap_new w (.cells #[.string ⟨x.name.toArray⟩, .slice sa x.sends.length sc, .int .i64 x.wr.kind, .slice fa x.wr.fs.length fc, .int .i64 x.rd.kind, .slice ga x.rd.fs.length gc] tSv)
  obtain ⟨W, hW⟩ : ∃ W, W = w.alloc (.cells #[.string ⟨x.name.toArray⟩, .slice sa x.sends.length sc, .int .i64 x.wr.kind, .slice fa x.wr.fs.length fc, .int .i64 x.rd.kind, .slice ga x.rd.fs.length gc] tSv) := ⟨_, rfl⟩
  rw [← hW] at n1 b1
  have HW := Lib.hid hW
  have HN := Lib.hid n1
  have x0 : W.cell? ⟨w.heap.size, 0, none⟩ = some (.string ⟨x.name.toArray⟩) := by rw [cells_cell b1]; rfl
  have x1 := nw_cellF n1 hb
  clear n1 b1 hW hb
  have he : decide (x.name = s.name) = (x.name == s.name) := by
    by_cases h : x.name = s.name <;> simp [h]
  rw [he]
  clear he
  generalize x.name = xn at *
  generalize s.name = sn at *
  by_cases h : xn = sn
  · subst h
    go_enter Tryz.func62, Tryz.ntmps62
    go_upto_region 1 with fail
    rw [← HW.out]
    clear HW
    go_wp2_with fail
    go_ret
    exact ⟨by first | rfl | simp, HN.out⟩
  · have ht : (xn == sn) = false := by simp; exact h
    clear h
    rw [ht]
    go_enter Tryz.func62, Tryz.ntmps62
    go_upto_region 1 with fail
    rw [← HW.out]
    clear HW
    go_wp2_with fail
    go_ret
    exact ⟨rfl, HN.out⟩
set_option maxHeartbeats 8000000 in
set_option maxRecDepth 100000 in
theorem formed_c (a : Option Addr) (cap : Nat) (l : List Svc) (w : World) (g : Gm w) (h : SvC w a l) (hl : l.length ≤ 100000) (hcap : l.length ≤ cap) (hsf : ∀ s ∈ l, s.sends.length ≤ 1000) :
    Calls Tryz.prog 45 #[.slice a l.length cap] w fun e w' => e = .returned (.bool (Wv.formed l)) ∧ Nw w w' := by
  have HC := Lib.hid h
  have HG := Lib.hid g
  have hl1 : (l.length : Int) ≤ 100000 := by omega
  have HSF := Lib.hid hsf
  have HCAP := Lib.hid hcap
  clear h g hsf hcap
  go_enter Tryz.func45, Tryz.ntmps45
  go_wp2_with fail
  go_loopw [9] (fun iv wr => ∃ n : Nat, n ≤ l.length ∧ iv = .int .i64 (n : Int) ∧ Hid (∀ i (h : i < l.length), i < n → svcOk l i l[i] = true) ∧ Hid (Nw w wr)) (fun iv _ => l.length - (intOf iv).toNat)
  case atStart => exact ⟨0, Nat.zero_le _, rfl, (fun i h h2 => by omega), Upd.refl _ _⟩
  case round =>
    obtain ⟨n, hn, rfl, hA, hw⟩ := hrel
    by_cases hlt : n < l.length
    · have hlt1 : (n : Int) < l.length := by omega
      have hn9 : (n : Int) ≤ 100000 := by omega
      have hncap : n ≤ cap := by have := HCAP.out; omega
      have hncap1 : (n : Int) ≤ (cap : Int) := by omega
      have hfew0 := HSF.out l[n] (List.getElem_mem hlt)
      have HFEW := Lib.hid hfew0
      clear hfew0
      have hn0 : decide ((n : Int) < 0) = false := decide_eq_false (by omega)
      have hpre := SvC.take HC.out n
      have hpl : (l.take n).length = n := by rw [List.length_take]; omega
      rcases HC.out with hnil | ⟨b, off, rfl, hb, hcell⟩
      · rw [hnil] at hlt; simp at hlt
      obtain ⟨sa, fa, ga, sc, fc, gc, hk, hr⟩ := hcell n hlt
      obtain ⟨d0, d1, d2, d3, d4, d5⟩ := hk.nw hw.out
      have HR := Lib.hid (hr.nw hw.out)
      have HNO : Hid (svcOk l n l[n] = false → Wv.formed l = false) := fun e => formed_no hlt e
      have HNX : Hid (svcOk l n l[n] = true → ∀ i (h : i < l.length), i < n + 1 → svcOk l i l[i] = true) := fun e i h h2 => by
        by_cases ei : i = n
        · subst ei; exact e
        · exact hA.out i h (by omega)
      clear hcell hk hr
      generalize l[n] = s at *
      obtain ⟨wo, hwo, n0, hbx⟩ : ∃ z, z = wr.alloc (.cells #[.string ⟨s.name.toArray⟩, .slice sa s.sends.length sc, .int .i64 s.wr.kind, .slice fa s.wr.fs.length fc, .int .i64 s.rd.kind, .slice ga s.rd.fs.length gc] tSv) ∧ Nw wr z ∧ z.heap[wr.heap.size]? = some (.cells #[.string ⟨s.name.toArray⟩, .slice sa s.sends.length sc, .int .i64 s.wr.kind, .slice fa s.wr.fs.length fc, .int .i64 s.rd.kind, .slice ga s.rd.fs.length gc] tSv (0, 0)) := ⟨_, rfl, nw_alloc wr _, heap_new wr _⟩
      have HWO := Lib.hid hwo
      have HW1 := Lib.hid (hw.out.trans n0)
      obtain ⟨P, hP⟩ : ∃ P, P = wr.heap.size := ⟨_, rfl⟩
      rw [← hP] at hbx
      have HX : Hid (∀ y, Nw wo y → y.cell? ⟨P, 0, none⟩ = some (.string ⟨s.name.toArray⟩) ∧ y.cell? ⟨P, 1, none⟩ = some (.slice sa s.sends.length sc) ∧ y.cell? ⟨P, 2, none⟩ = some (.int .i64 s.wr.kind) ∧ y.cell? ⟨P, 3, none⟩ = some (.slice fa s.wr.fs.length fc) ∧ y.cell? ⟨P, 4, none⟩ = some (.int .i64 s.rd.kind) ∧ y.cell? ⟨P, 5, none⟩ = some (.slice ga s.rd.fs.length gc)) := fun y u => by
        have hk := Nw.keep u hbx
        exact ⟨by rw [cells_cell hk]; rfl, by rw [cells_cell hk]; rfl, by rw [cells_cell hk]; rfl, by rw [cells_cell hk]; rfl, by rw [cells_cell hk]; rfl, by rw [cells_cell hk]; rfl⟩
      have HR2 := Lib.hid (HR.out.nw n0)
      have HPRE := Lib.hid hpre
      have hnm := Lib.hid (Name_c s.name HR.out.name wo (HG.out.upd HW1.out))
      obtain ⟨x0, x1, x2, x3, x4, x5⟩ := HX.out wo (Upd.refl _ _)
      clear hwo n0 hbx hpre
      go_upto_region 4 with fail
      rw [← HWO.out, ← hP]
      clear HWO hP d0 d1 d2 d3 d4 d5
      have HD := Lib.hid (svcOk_def l n s)
      cases h1 : nameB s.name with
      | false =>
        rw [h1] at hnm
        have hbad : Hid (svcOk l n s = false) := by show _ = _; rw [HD.out, h1]; rfl
        go_wp2_with fail
        (with_reducible refine (hnm.out).mono ?_)
        rintro _ w2 ⟨rfl, u2⟩
        have U2 := Lib.hid (HW1.out.trans u2)
        clear u2 hnm
        -- the way out with false: svcOk's parts hbad.out (a proof that svcOk is false)
        have e9 : Hid (Wv.formed l = false) := HNO.out (hbad.out)
        clear HNO
        go_wp2_with fail
        go_ret
        exact ⟨by rw [e9.out]; rfl, U2.out⟩
      | true =>
      rw [h1] at hnm
      go_wp2_with fail
      (with_reducible refine (hnm.out).mono ?_)
      rintro _ w2 ⟨rfl, u2⟩
      have U2 := Lib.hid u2
      have hcf := containsFunc_sv 62 P (fun args w => by rfl) (fun x => decide (x.name = s.name)) (some ⟨b, off, none⟩) cap (l.take n) w2 (HPRE.out.nw (HW1.out.trans u2)) (by rw [hpl]; unfold maxLen; omega) (fun y x sa fa ga sc fc gc uy _ _ => formed1_c s x sa fa ga sc fc gc P y (HX.out y (u2.trans uy)).1)
      rw [hpl] at hcf
      have HCF := Lib.hid hcf
      clear u2 hnm hcf x0 x1 x2 x3 x4 x5
      obtain ⟨x0, x1, x2, x3, x4, x5⟩ := HX.out w2 U2.out
      cases h2 : (l.take n).any fun x => decide (x.name = s.name) with
      | true =>
        rw [h2] at HCF
        have hbad : Hid (svcOk l n s = false) := by show _ = _; rw [HD.out, h1, h2]; rfl
        go_wp2_with fail
        (with_reducible refine (HCF.out).mono ?_)
        rintro _ w3 ⟨rfl, u3⟩
        have U3 := Lib.hid (HW1.out.trans (U2.out.trans u3))
        clear u3 HCF
        -- the way out with false: svcOk's parts hbad.out (a proof that svcOk is false)
        have e9 : Hid (Wv.formed l = false) := HNO.out (hbad.out)
        clear HNO
        go_wp2_with fail
        go_ret
        exact ⟨by rw [e9.out]; rfl, U3.out⟩
      | false =>
      rw [h2] at HCF
      go_wp2_with fail
      (with_reducible refine (HCF.out).mono ?_)
      rintro _ w3 ⟨rfl, u3⟩
      have U3 := Lib.hid (U2.out.trans u3)
      have hr1 := Lib.hid (types_right_c _ s.wr w3 (HG.out.upd (HW1.out.trans U3.out)) (HR2.out.wr.nw U3.out))
      clear u3 HCF x0 x1 x2 x3 x4 x5
      obtain ⟨x0, x1, x2, x3, x4, x5⟩ := HX.out w3 U3.out
      cases h3 : rightTy 4 s.wr with
      | false =>
        rw [h3] at hr1
        have hbad : Hid (svcOk l n s = false) := by show _ = _; rw [HD.out, h1, h2, h3]; rfl
        go_wp2_with fail
        (with_reducible refine (hr1.out).mono ?_)
        rintro _ w4 ⟨rfl, u4⟩
        have U4 := Lib.hid (HW1.out.trans (U3.out.trans u4))
        clear u4 hr1
        -- the way out with false: svcOk's parts hbad.out (a proof that svcOk is false)
        have e9 : Hid (Wv.formed l = false) := HNO.out (hbad.out)
        clear HNO
        go_wp2_with fail
        go_ret
        exact ⟨by rw [e9.out]; rfl, U4.out⟩
      | true =>
      rw [h3] at hr1
      go_wp2_with fail
      (with_reducible refine (hr1.out).mono ?_)
      rintro _ w4 ⟨rfl, u4⟩
      have U4 := Lib.hid (U3.out.trans u4)
      have hr2 := Lib.hid (types_right_c _ s.rd w4 (HG.out.upd (HW1.out.trans U4.out)) (HR2.out.rd.nw U4.out))
      clear u4 hr1 x0 x1 x2 x3 x4 x5
      obtain ⟨x0, x1, x2, x3, x4, x5⟩ := HX.out w4 U4.out
      cases h4 : rightTy 4 s.rd with
      | false =>
        rw [h4] at hr2
        have hbad : Hid (svcOk l n s = false) := by show _ = _; rw [HD.out, h1, h2, h3, h4]; rfl
        go_wp2_with fail
        (with_reducible refine (hr2.out).mono ?_)
        rintro _ w5 ⟨rfl, u5⟩
        have U5 := Lib.hid (HW1.out.trans (U4.out.trans u5))
        clear u5 hr2
        -- the way out with false: svcOk's parts hbad.out (a proof that svcOk is false)
        have e9 : Hid (Wv.formed l = false) := HNO.out (hbad.out)
        clear HNO
        go_wp2_with fail
        go_ret
        exact ⟨by rw [e9.out]; rfl, U5.out⟩
      | true =>
      rw [h4] at hr2
      have hd5 : Hid (svcOk l n s = sendsOk l.length s.sends) := by show _ = _; rw [HD.out, h1, h2, h3, h4]; rfl
      clear HD h1 h2 h3 h4
      go_wp2_with fail
      (with_reducible refine (hr2.out).mono ?_)
      rintro _ w5 ⟨rfl, u5⟩
      have U5 := Lib.hid (U4.out.trans u5)
      clear u5 hr2 x0 x1 x2 x3 x4 x5
      obtain ⟨x0, x1, x2, x3, x4, x5⟩ := HX.out w5 U5.out
      have hfew1 : (s.sends.length : Int) ≤ 1000 := by have := HFEW.out; omega
      go_wp2_with fail
      clear x0 x1 x2 x3 x4 x5
      go_loopw [40] (fun kv wz => ∃ k : Nat, k ≤ s.sends.length ∧ kv = .int .i64 (k : Int) ∧ Hid (∀ j (h : j < s.sends.length), j < k → inR l.length s.sends[j] = true) ∧ Hid (∀ j (h : j + 1 < s.sends.length), j + 1 < k → (s.sends[j]'(by omega)) < s.sends[j + 1]) ∧ Hid (Nw wo wz)) (fun kv _ => s.sends.length - (intOf kv).toNat)
      case atStart => exact ⟨0, Nat.zero_le _, rfl, (fun j h h2 => by omega), (fun j h h2 => by omega), U5.out⟩
      case round =>
        obtain ⟨k, hk, rfl, hB, hD, hz⟩ := hrel
        obtain ⟨x0, x1, x2, x3, x4, x5⟩ := HX.out wr hz.out
        by_cases hkl : k < s.sends.length
        · have hkl1 : (k : Int) < s.sends.length := by omega
          have hk9 : (k : Int) ≤ 1000 := by omega
          have hk0 : decide ((k : Int) < 0) = false := decide_eq_false (by omega)
          rcases HR2.out.sends with hnil | ⟨sb, so, rfl, hsb, hscell⟩
          · rw [hnil] at hkl; simp at hkl
          have c0 := nw_cellF hz.out (hscell k hkl)
          have hin : inR l.length s.sends[k] = (decide (0 ≤ s.sends[k]) && decide (s.sends[k] < l.length)) := rfl
          have hno1 : Hid (inR l.length s.sends[k] = false → svcOk l n s = false) := fun e => by rw [hd5.out]; exact sends_no1 hkl e
          have hy1 : Hid (inR l.length s.sends[k] = true → ∀ j (h : j < s.sends.length), j < k + 1 → inR l.length s.sends[j] = true) := fun e j h h2 => by
            by_cases ej : j = k
            · subst ej; exact e
            · exact hB.out j h (by omega)
          by_cases hneg : s.sends[k] < 0
          · have hbad := Lib.hid (hno1.out (by rw [hin, decide_eq_false (by omega)]; rfl))
            clear hno1 hy1 hin hscell
            generalize s.sends[k] = x at *
            go_wp2_with fail
            have e9 : Hid (Wv.formed l = false) := HNO.out hbad.out
            go_ret
            exact ⟨by rw [e9.out]; rfl, HW1.out.trans hz.out⟩
          by_cases hbig : (l.length : Int) ≤ s.sends[k]
          · have hbad := Lib.hid (hno1.out (by rw [hin, decide_eq_false (show ¬ s.sends[k] < l.length by omega)]; simp))
            have hneg' : decide (s.sends[k] < 0) = false := decide_eq_false hneg
            clear hno1 hy1 hin hscell
            generalize s.sends[k] = x at *
            go_wp2_with fail
            have e9 : Hid (Wv.formed l = false) := HNO.out hbad.out
            go_ret
            exact ⟨by rw [e9.out]; rfl, HW1.out.trans hz.out⟩
          have hy2 := Lib.hid (hy1.out (by rw [hin, decide_eq_true (by omega), decide_eq_true (by omega)]; rfl))
          have hneg' : decide (s.sends[k] < 0) = false := decide_eq_false hneg
          have hbig' : decide ((l.length : Int) ≤ s.sends[k]) = false := decide_eq_false hbig
          clear hno1 hy1 hin
          by_cases hk00 : k = 0
          · subst hk00
            have hD2 : Hid (∀ j (h : j + 1 < s.sends.length), j + 1 < 0 + 1 → (s.sends[j]'(by omega)) < s.sends[j + 1]) := fun j h h2 => by omega
            have c00 : wr.cell? ⟨sb, so, none⟩ = some (.int .i64 (s.sends[0])) := c0
            clear hscell hneg hbig c0
            generalize s.sends[0] = x at *
            go_wp2_with fail
            go_roundw
            case rel => exact ⟨1, by omega, by go_num, hy2.out, hD2.out, hz.out⟩
            case measure => simp [intOf]; omega
          · obtain ⟨m, rfl⟩ : ∃ m, k = m + 1 := ⟨k - 1, by omega⟩
            have c1 := nw_cellF hz.out (hscell m (by omega))
            have hm9 : (m : Int) ≤ 1000 := by omega
            have hm0 : decide ((m : Int) < 0) = false := decide_eq_false (by omega)
            have hmp : (0 : Int) ≤ (m : Int) := by omega
            have hml : (m : Int) < s.sends.length := by omega
            have hno2 : Hid (¬ (s.sends[m]'(by omega)) < s.sends[m + 1] → svcOk l n s = false) := fun e => by rw [hd5.out]; exact sends_no2 hkl e
            have hD2 : Hid ((s.sends[m]'(by omega)) < s.sends[m + 1] → ∀ j (h : j + 1 < s.sends.length), j + 1 < m + 1 + 1 → (s.sends[j]'(by omega)) < s.sends[j + 1]) := fun e j h h2 => by
              by_cases ej : j = m
              · subst ej; exact e
              · exact hD.out j h (by omega)
            clear hscell hneg hbig
            generalize (s.sends[m]'(by omega)) = xp at *
            generalize s.sends[m + 1] = x at *
            by_cases hlt2 : xp < x
            · have hD3 := Lib.hid (hD2.out hlt2)
              have hge : decide (x ≤ xp) = false := decide_eq_false (by omega)
              clear hno2 hD2 hlt2
              go_wp2_with fail
              go_roundw
              case rel => exact ⟨m + 1 + 1, by omega, by go_num, hy2.out, hD3.out, hz.out⟩
              case measure => simp [intOf]; omega
            · have hbad := Lib.hid (hno2.out hlt2)
              have hge : decide (x ≤ xp) = true := decide_eq_true (by omega)
              clear hno2 hD2 hlt2
              go_wp2_with fail
              have e9 : Hid (Wv.formed l = false) := HNO.out hbad.out
              go_ret
              exact ⟨by rw [e9.out]; rfl, HW1.out.trans hz.out⟩
        · obtain rfl : k = s.sends.length := by omega
          have hok := Lib.hid (HNX.out (by rw [hd5.out]; exact sends_yes (fun j h => hB.out j h h) (fun j h => hD.out j h h)))
          have HW2 := Lib.hid (HW1.out.trans hz.out)
          clear HNX HNO
          go_wp2_with fail
          go_roundw
          case rel => exact ⟨n + 1, by omega, by go_num, hok.out, HW2.out⟩
          case measure => simp [intOf]; omega
    · obtain rfl : n = l.length := by omega
      have e9 := Lib.hid (formed_all (fun i h => hA.out i h h))
      have e8 : decide (((l.length : Nat) : Int) ≤ 8) = decide (l.length ≤ 8) := by
        by_cases h : l.length ≤ 8
        · rw [decide_eq_true h, decide_eq_true (by omega)]
        · rw [decide_eq_false h, decide_eq_false (by omega)]
      have E8 := Lib.hid e8
      clear e8
      go_wp2_with fail
      go_ret
      exact ⟨by rw [e9.out]; first | rfl | (rw [← E8.out]; rfl), hw.out⟩
end Go.Proofs.YtjlgmoemnhmgmaaGreatDoor
namespace Go.Proofs.YtjlgmoemnhmgmaaGreatDoor
open Go.RowKit
set_option linter.unusedVariables false
set_option linter.unusedSimpArgs false
attribute [local irreducible] Calls
open Fm (Ty Vl Str nameB rightTy)
open Wv (Svc FL svcOk sendsOk inR)

theorem name_dec (s x : Svc) : decide (s.name = x.name) = (s.name == x.name) := by
  by_cases h : s.name = x.name <;> simp [h]
set_option maxRecDepth 100000 in
theorem right1_c (s x : Svc) (sa fa ga : Option Addr) (sc fc gc : Nat) (xa ya za : Option Addr) (xc yc zc : Nat) (w : World) :
    Calls Tryz.prog 43 #[svV s sa fa ga sc fc gc, svV x xa ya za xc yc zc] w fun e w' => e = .returned (.bool (decide (s.name = x.name))) ∧ Nw w w' := by
  unfold svV
  -- the box of the service s in w: world W1, its block is (w).heap.size
  have nW1 := nw_alloc (w) (.cells #[.string ⟨(s).name.toArray⟩, .slice sa (s).sends.length sc, .int .i64 (s).wr.kind, .slice fa (s).wr.fs.length fc, .int .i64 (s).rd.kind, .slice ga (s).rd.fs.length gc] tSv)
  have bW1 := heap_new (w) (.cells #[.string ⟨(s).name.toArray⟩, .slice sa (s).sends.length sc, .int .i64 (s).wr.kind, .slice fa (s).wr.fs.length fc, .int .i64 (s).rd.kind, .slice ga (s).rd.fs.length gc] tSv)
  obtain ⟨W1, hW1⟩ : ∃ z, z = (w).alloc (.cells #[.string ⟨(s).name.toArray⟩, .slice sa (s).sends.length sc, .int .i64 (s).wr.kind, .slice fa (s).wr.fs.length fc, .int .i64 (s).rd.kind, .slice ga (s).rd.fs.length gc] tSv) := ⟨_, rfl⟩
  rw [← hW1] at nW1 bW1
  have s1 : W1.heap.size = w.heap.size + 1 := by rw [hW1, World.size_alloc]
  -- the box of the service x in W1: world W, its block is (W1).heap.size
  have nW := nw_alloc (W1) (.cells #[.string ⟨(x).name.toArray⟩, .slice xa (x).sends.length xc, .int .i64 (x).wr.kind, .slice ya (x).wr.fs.length yc, .int .i64 (x).rd.kind, .slice za (x).rd.fs.length zc] tSv)
  have bW := heap_new (W1) (.cells #[.string ⟨(x).name.toArray⟩, .slice xa (x).sends.length xc, .int .i64 (x).wr.kind, .slice ya (x).wr.fs.length yc, .int .i64 (x).rd.kind, .slice za (x).rd.fs.length zc] tSv)
  obtain ⟨W, hW⟩ : ∃ z, z = (W1).alloc (.cells #[.string ⟨(x).name.toArray⟩, .slice xa (x).sends.length xc, .int .i64 (x).wr.kind, .slice ya (x).wr.fs.length yc, .int .i64 (x).rd.kind, .slice za (x).rd.fs.length zc] tSv) := ⟨_, rfl⟩
  rw [← hW] at nW bW
  rw [s1] at bW
  replace bW1 := Nw.keep nW bW1
  rw [hW1] at hW
  have HW := Lib.hid hW
  have HN := Lib.hid (nW1.trans nW)
  have x0 : W.cell? ⟨w.heap.size, 0, none⟩ = some (.string ⟨s.name.toArray⟩) := by rw [cells_cell bW1]; rfl
  have x1 : W.cell? ⟨w.heap.size + 1, 0, none⟩ = some (.string ⟨x.name.toArray⟩) := by rw [cells_cell bW]; rfl
  clear nW nW1 bW bW1 hW hW1 s1
  rw [name_dec]
  generalize x.name = xn at *
  generalize s.name = sn at *
  by_cases h : sn = xn
  · subst h
    go_enter Tryz.func43, Tryz.ntmps43
    go_upto_region 1 with fail
    rw [← HW.out]
    clear HW
    go_wp2_with fail
    go_ret
    exact ⟨by first | rfl | simp, HN.out⟩
  · have ht : (sn == xn) = false := by simp; exact h
    clear h
    rw [ht]
    go_enter Tryz.func43, Tryz.ntmps43
    go_upto_region 1 with fail
    rw [← HW.out]
    clear HW
    go_wp2_with fail
    go_ret
    exact ⟨rfl, HN.out⟩
theorem right2_c (n : Nat) (x : Int) (oa : Option Addr) (oc : Nat) (cb : Nat) (w : World) (hb : w.cell? ⟨cb, 0, none⟩ = some (.slice oa n oc)) (hn : n ≤ 100000) :
    Calls Tryz.prog 44 #[.int .i64 x, .pointer (some ⟨cb, 0, none⟩)] w fun e w' => e = .returned (.bool (!inR n x)) ∧ Nw w w' := by
  have hn1 : (n : Int) ≤ 100000 := by omega
  have hd : inR n x = (decide (0 ≤ x) && decide (x < n)) := rfl
  by_cases h1 : x < 0
  · have e9 : Hid (inR n x = false) := by show _ = _; rw [hd, decide_eq_false (by omega)]; rfl
    clear hd
    go_enter Tryz.func44, Tryz.ntmps44
    go_wp2_with fail
    go_ret
    exact ⟨by rw [e9.out]; rfl, Upd.refl _ _⟩
  · by_cases h2 : (n : Int) ≤ x
    · have e9 : Hid (inR n x = false) := by show _ = _; rw [hd, decide_eq_false (show ¬ x < n by omega)]; simp
      have d1 : decide (x < 0) = false := decide_eq_false h1
      have d2 : decide ((n : Int) ≤ x) = true := decide_eq_true h2
      clear hd h1 h2
      go_enter Tryz.func44, Tryz.ntmps44
      go_wp2_with fail
      go_ret
      exact ⟨by rw [e9.out]; rfl, Upd.refl _ _⟩
    · have e9 : Hid (inR n x = true) := by show _ = _; rw [hd, decide_eq_true (by omega), decide_eq_true (by omega)]; rfl
      have d1 : decide (x < 0) = false := decide_eq_false h1
      have d2 : decide ((n : Int) ≤ x) = false := decide_eq_false h2
      clear hd h1 h2
      go_enter Tryz.func44, Tryz.ntmps44
      go_wp2_with fail
      go_ret
      exact ⟨by rw [e9.out]; rfl, Upd.refl _ _⟩
theorem mapn_ne {l m : List Svc} {n : Nat} (h1 : n < l.length) (h2 : n < m.length) (h : ¬ l[n].name = m[n].name) : ¬ l.map (·.name) = m.map (·.name) := fun e => h (by
  have := congrArg (fun z => z[n]?) e
  simpa [h1, h2] using this)
set_option maxHeartbeats 4000000 in
set_option maxRecDepth 100000 in
theorem equalFunc_sv (a a2 : Option Addr) (cap cap2 : Nat) (l m : List Svc) (w : World) (h : SvC w a l) (h2 : SvC w a2 m) (hl : l.length ≤ 100000) (hm : m.length ≤ 100000) :
    Calls Tryz.prog 42 #[.slice a l.length cap, .slice a2 m.length cap2, .func (.func 43) #[] #[]] w fun e w' => e = .returned (.bool (decide (l.map (·.name) = m.map (·.name)))) ∧ Nw w w' := by
  have HC := Lib.hid h
  have HM := Lib.hid h2
  have hl1 : (l.length : Int) ≤ 100000 := by omega
  have hm1 : (m.length : Int) ≤ 100000 := by omega
  clear h h2
  by_cases hlm : l.length = m.length
  rotate_left
  · have e9 : Hid (decide (l.map (·.name) = m.map (·.name)) = false) := decide_eq_false (fun e => hlm (by have := congrArg List.length e; simpa using this))
    have e0 : (((l.length : Nat) : Int) == ((m.length : Nat) : Int)) = false := by simp; omega
    have e1 : (((l.length : Nat) : Int) != ((m.length : Nat) : Int)) = true := by simp; omega
    have e2 : (l.length == m.length) = false := by simp [hlm]
    have e3 : (l.length != m.length) = true := by simp [hlm]
    clear hlm
    go_enter Tryz.func42, Tryz.ntmps42
    go_wp2_with fail
    go_ret
    exact ⟨by rw [e9.out]; rfl, Upd.refl _ _⟩
  have e0 : (((l.length : Nat) : Int) == ((m.length : Nat) : Int)) = true := by simp; omega
  have e1 : (((l.length : Nat) : Int) != ((m.length : Nat) : Int)) = false := by simp; omega
  have e2 : (l.length == m.length) = true := by simp [hlm]
  have e3 : (l.length != m.length) = false := by simp [hlm]
  have HLM := Lib.hid hlm
  clear hlm
  go_enter Tryz.func42, Tryz.ntmps42
  go_wp2_with fail
  go_loopw [17] (fun iv wr => ∃ n : Nat, n ≤ l.length ∧ iv = .int .i64 (n : Int) ∧ Hid (∀ i (h : i < l.length) (h2 : i < m.length), i < n → l[i].name = m[i].name) ∧ Hid (Nw w wr)) (fun iv _ => l.length - (intOf iv).toNat)
  case atStart => exact ⟨0, Nat.zero_le _, rfl, (fun i h h2 h3 => by omega), Upd.refl _ _⟩
  case round =>
    obtain ⟨n, hn, rfl, hA, hw⟩ := hrel
    by_cases hlt : n < l.length
    · have hlt1 : (n : Int) < l.length := by omega
      have hltm : n < m.length := by have := HLM.out; omega
      have hltm1 : (n : Int) < m.length := by omega
      have hn9 : (n : Int) ≤ 100000 := by omega
      have hn0 : decide ((n : Int) < 0) = false := decide_eq_false (by omega)
      rcases HC.out with hnil | ⟨b, off, rfl, hb, hcell⟩
      · rw [hnil] at hlt; simp at hlt
      rcases HM.out with hnil | ⟨b2, off2, rfl, hb2, hcell2⟩
      · rw [hnil] at hltm; simp at hltm
      obtain ⟨sa, fa, ga, sc, fc, gc, hk, -⟩ := hcell n hlt
      obtain ⟨xa, ya, za, xc, yc, zc, hk2, -⟩ := hcell2 n hltm
      obtain ⟨d0, d1, d2, d3, d4, d5⟩ := hk.nw hw.out
      have HK2 := Lib.hid (fun (y : World) (u : Nw w y) => hk2.nw u)
      have HNO : Hid (¬ l[n].name = m[n].name → decide (l.map (·.name) = m.map (·.name)) = false) := fun e => decide_eq_false (mapn_ne hlt hltm e)
      have HNX : Hid (l[n].name = m[n].name → ∀ i (h : i < l.length) (h2 : i < m.length), i < n + 1 → l[i].name = m[i].name) := fun e i h h2 h3 => by
        by_cases ei : i = n
        · subst ei; exact e
        · exact hA.out i h h2 (by omega)
      clear hcell hcell2 hk hk2
      generalize l[n] = s at *
      generalize m[n] = x at *
      -- the box of the service s in wr: world w1, its block is (wr).heap.size
      have nw1 := nw_alloc (wr) (.cells #[.string ⟨(s).name.toArray⟩, .slice sa (s).sends.length sc, .int .i64 (s).wr.kind, .slice fa (s).wr.fs.length fc, .int .i64 (s).rd.kind, .slice ga (s).rd.fs.length gc] tSv)
      have bw1 := heap_new (wr) (.cells #[.string ⟨(s).name.toArray⟩, .slice sa (s).sends.length sc, .int .i64 (s).wr.kind, .slice fa (s).wr.fs.length fc, .int .i64 (s).rd.kind, .slice ga (s).rd.fs.length gc] tSv)
      obtain ⟨w1, hw1⟩ : ∃ z, z = (wr).alloc (.cells #[.string ⟨(s).name.toArray⟩, .slice sa (s).sends.length sc, .int .i64 (s).wr.kind, .slice fa (s).wr.fs.length fc, .int .i64 (s).rd.kind, .slice ga (s).rd.fs.length gc] tSv) := ⟨_, rfl⟩
      rw [← hw1] at nw1 bw1
      have s1 : w1.heap.size = wr.heap.size + 1 := by rw [hw1, World.size_alloc]
      obtain ⟨q0, q1, q2, q3, q4, q5⟩ := HK2.out w1 (hw.out.trans nw1)
      -- the box of the service x in w1: world w2, its block is (w1).heap.size
      have nw2 := nw_alloc (w1) (.cells #[.string ⟨(x).name.toArray⟩, .slice xa (x).sends.length xc, .int .i64 (x).wr.kind, .slice ya (x).wr.fs.length yc, .int .i64 (x).rd.kind, .slice za (x).rd.fs.length zc] tSv)
      have bw2 := heap_new (w1) (.cells #[.string ⟨(x).name.toArray⟩, .slice xa (x).sends.length xc, .int .i64 (x).wr.kind, .slice ya (x).wr.fs.length yc, .int .i64 (x).rd.kind, .slice za (x).rd.fs.length zc] tSv)
      obtain ⟨w2, hw2⟩ : ∃ z, z = (w1).alloc (.cells #[.string ⟨(x).name.toArray⟩, .slice xa (x).sends.length xc, .int .i64 (x).wr.kind, .slice ya (x).wr.fs.length yc, .int .i64 (x).rd.kind, .slice za (x).rd.fs.length zc] tSv) := ⟨_, rfl⟩
      rw [← hw2] at nw2 bw2
      rw [s1] at bw2
      replace bw1 := Nw.keep nw2 bw1
      have HW1 := Lib.hid hw1
      have HW2 := Lib.hid hw2
      have HN2 := Lib.hid (hw.out.trans (nw1.trans nw2))
      have y0 : w2.cell? ⟨wr.heap.size, 0, none⟩ = some (.string ⟨s.name.toArray⟩) := by rw [cells_cell bw1]; rfl
      have y1 : w2.cell? ⟨wr.heap.size, 1, none⟩ = some (.slice sa s.sends.length sc) := by rw [cells_cell bw1]; rfl
      have y2 : w2.cell? ⟨wr.heap.size, 2, none⟩ = some (.int .i64 s.wr.kind) := by rw [cells_cell bw1]; rfl
      have y3 : w2.cell? ⟨wr.heap.size, 3, none⟩ = some (.slice fa s.wr.fs.length fc) := by rw [cells_cell bw1]; rfl
      have y4 : w2.cell? ⟨wr.heap.size, 4, none⟩ = some (.int .i64 s.rd.kind) := by rw [cells_cell bw1]; rfl
      have y5 : w2.cell? ⟨wr.heap.size, 5, none⟩ = some (.slice ga s.rd.fs.length gc) := by rw [cells_cell bw1]; rfl
      have z0 : w2.cell? ⟨wr.heap.size + 1, 0, none⟩ = some (.string ⟨x.name.toArray⟩) := by rw [cells_cell bw2]; rfl
      have z1 : w2.cell? ⟨wr.heap.size + 1, 1, none⟩ = some (.slice xa x.sends.length xc) := by rw [cells_cell bw2]; rfl
      have z2 : w2.cell? ⟨wr.heap.size + 1, 2, none⟩ = some (.int .i64 x.wr.kind) := by rw [cells_cell bw2]; rfl
      have z3 : w2.cell? ⟨wr.heap.size + 1, 3, none⟩ = some (.slice ya x.wr.fs.length yc) := by rw [cells_cell bw2]; rfl
      have z4 : w2.cell? ⟨wr.heap.size + 1, 4, none⟩ = some (.int .i64 x.rd.kind) := by rw [cells_cell bw2]; rfl
      have z5 : w2.cell? ⟨wr.heap.size + 1, 5, none⟩ = some (.slice za x.rd.fs.length zc) := by rw [cells_cell bw2]; rfl
      have hcall := right1_c s x sa fa ga sc fc gc xa ya za xc yc zc w2
      unfold svV at hcall
      have Hcall := Lib.hid hcall
      have HS1 := Lib.hid s1
      clear nw1 nw2 bw1 bw2 hw1 hw2 hcall s1
      go_upto_region 6 with fail
      rw [← HW1.out]
      clear HW1
      go_upto_region 7 with fail
      rw [← HW2.out, HS1.out]
      clear HW2 d0 d1 d2 d3 d4 d5 q0 q1 q2 q3 q4 q5 HK2
      by_cases hnm : s.name = x.name
      · have hnx := Lib.hid (HNX.out hnm)
        rw [decide_eq_true hnm] at Hcall
        clear HNO HNX hnm
        go_wp2_with fail
        (with_reducible refine (Hcall.out).mono ?_)
        rintro _ w3 ⟨rfl, u3⟩
        have U3 := Lib.hid (HN2.out.trans u3)
        clear u3
        go_wp2_with fail
        go_roundw
        case rel => exact ⟨n + 1, by omega, by go_num, hnx.out, U3.out⟩
        case measure => simp [intOf]; omega
      · have hno := Lib.hid (HNO.out hnm)
        rw [decide_eq_false hnm] at Hcall
        clear HNO HNX hnm
        go_wp2_with fail
        (with_reducible refine (Hcall.out).mono ?_)
        rintro _ w3 ⟨rfl, u3⟩
        have U3 := Lib.hid (HN2.out.trans u3)
        clear u3
        go_wp2_with fail
        go_ret
        exact ⟨by rw [hno.out]; rfl, U3.out⟩
    · obtain rfl : n = l.length := by omega
      have e9 : Hid (decide (l.map (·.name) = m.map (·.name)) = true) := decide_eq_true (List.ext_getElem (by rw [List.length_map, List.length_map]; exact HLM.out) (fun i h1 h2 => by
        rw [List.length_map] at h1 h2
        rw [List.getElem_map, List.getElem_map]
        exact hA.out i h1 h2 h1))
      go_wp2_with fail
      go_ret
      exact ⟨by rw [e9.out]; rfl, hw.out⟩
theorem any_inR (n : Nat) (l : List Int) : (l.any fun x => !inR n x) = !(l.all (inR n)) := by rw [List.all_eq_not_any_not]; simp
set_option maxHeartbeats 4000000 in
set_option maxRecDepth 100000 in
theorem wvRight_c (oa na ra : Option Addr) (oc nc rc : Nat) (f : FL) (w : World) (g : Gm w) (h : FlAt w oa na ra oc nc f) (ho : f.old.length ≤ 100000) (hn : f.new.length ≤ 100000) (hr : f.runs.length ≤ 100000) (hso : ∀ s ∈ f.old, s.sends.length ≤ 1000) (hsn : ∀ s ∈ f.new, s.sends.length ≤ 1000) :
    Calls Tryz.prog 18 #[.agg (flV oa na ra oc nc rc f)] w fun e w' => e = .returned (.bool (Wv.right f)) ∧ Nw w w' := by
  unfold flV
  have n1 := nw_alloc w (.cells #[.slice oa f.old.length oc, .slice na f.new.length nc, .slice ra f.runs.length rc] tFl)
  have b1 := heap_new w (.cells #[.slice oa f.old.length oc, .slice na f.new.length nc, .slice ra f.runs.length rc] tFl)
  obtain ⟨W, hW⟩ : ∃ z, z = w.alloc (.cells #[.slice oa f.old.length oc, .slice na f.new.length nc, .slice ra f.runs.length rc] tFl) := ⟨_, rfl⟩
  rw [← hW] at n1 b1
  have HW := Lib.hid hW
  have HN := Lib.hid n1
  have HX : Hid (∀ y, Nw W y → y.cell? ⟨w.heap.size, 0, none⟩ = some (.slice oa f.old.length oc) ∧ y.cell? ⟨w.heap.size, 1, none⟩ = some (.slice na f.new.length nc) ∧ y.cell? ⟨w.heap.size, 2, none⟩ = some (.slice ra f.runs.length rc)) := fun y u => ⟨by rw [cells_cell (Nw.keep u b1)]; rfl, by rw [cells_cell (Nw.keep u b1)]; rfl, by rw [cells_cell (Nw.keep u b1)]; rfl⟩
  have HF := Lib.hid (h.nw n1)
  have HG := Lib.hid (g.upd n1)
  have ho1 : (f.old.length : Int) ≤ 100000 := by omega
  have hn1 : (f.new.length : Int) ≤ 100000 := by omega
  have hr1 : (f.runs.length : Int) ≤ 100000 := by omega
  have HD : Hid (Wv.right f = (decide (f.old.map (·.name) = f.new.map (·.name)) && f.runs.all (inR f.old.length) && decide (f.runs.length ≤ 400) && Wv.formed f.old && Wv.formed f.new)) := rfl
  have he := Lib.hid (equalFunc_sv oa na oc nc f.old f.new W HF.out.old HF.out.new ho hn)
  have HSO := Lib.hid hso
  have HSN := Lib.hid hsn
  obtain ⟨x0, x1, x2⟩ := HX.out W (Upd.refl _ _)
  clear n1 b1 hW h g hso hsn
  go_enter Tryz.func18, Tryz.ntmps18
  go_upto_region 1 with fail
  rw [← HW.out]
  clear HW
  go_wp2_with fail
  (with_reducible refine (he.out).mono ?_)
  rintro _ w2 ⟨rfl, u2⟩
  have U2 := Lib.hid u2
  have hc := containsFunc_in1 44 w.heap.size (fun args w => by rfl) (fun x => !inR f.old.length x) ra rc f.runs w2 (HF.out.runs.nw u2) (by unfold maxLen; omega) (fun y x u _ => right2_c f.old.length x oa oc w.heap.size y (HX.out y (u2.trans u)).1 ho)
  rw [any_inR] at hc
  have HCf := Lib.hid hc
  clear u2 hc he x0 x1 x2
  obtain ⟨x0, x1, x2⟩ := HX.out w2 U2.out
  have h4 : decide ((f.runs.length : Int) ≤ 400) = decide (f.runs.length ≤ 400) := by
    by_cases h : f.runs.length ≤ 400
    · rw [decide_eq_true h, decide_eq_true (by omega)]
    · rw [decide_eq_false h, decide_eq_false (by omega)]
  have H4 := Lib.hid h4
  clear h4
  generalize hE : decide (f.old.map (·.name) = f.new.map (·.name)) = E at *
  generalize hR : f.runs.all (inR f.old.length) = R at *
  clear hE hR
  go_wp2_with fail
  (with_reducible refine (HCf.out).mono ?_)
  rintro _ w3 ⟨rfl, u3⟩
  have U3 := Lib.hid (U2.out.trans u3)
  clear u3 HCf x0 x1 x2
  obtain ⟨x0, x1, x2⟩ := HX.out w3 U3.out
  cases E with
  | false =>
    have e9 : Hid (Wv.right f = false) := by show _ = _; rw [HD.out]; rfl
    go_wp2_with fail
    go_ret
    exact ⟨by rw [e9.out]; rfl, HN.out.trans U3.out⟩
  | true =>
  cases R with
  | false =>
    have e9 : Hid (Wv.right f = false) := by show _ = _; rw [HD.out]; rfl
    go_wp2_with fail
    go_ret
    exact ⟨by rw [e9.out]; rfl, HN.out.trans U3.out⟩
  | true =>
  by_cases h400 : f.runs.length ≤ 400
  rotate_left
  · have e9 : Hid (Wv.right f = false) := by show _ = _; rw [HD.out, decide_eq_false h400]; rfl
    have h4 : decide ((f.runs.length : Int) ≤ 400) = false := decide_eq_false (by omega)
    have h5 : decide (f.runs.length ≤ 400) = false := decide_eq_false h400
    clear h400
    go_wp2_with fail
    go_ret
    exact ⟨by rw [e9.out]; rfl, HN.out.trans U3.out⟩
  have h4 : decide ((f.runs.length : Int) ≤ 400) = true := decide_eq_true (by omega)
  have h5 : decide (f.runs.length ≤ 400) = true := decide_eq_true h400
  have hD2 : Hid (Wv.right f = (Wv.formed f.old && Wv.formed f.new)) := by show _ = _; rw [HD.out, h5]; rfl
  clear h400
  have hf1 := Lib.hid (formed_c oa oc f.old w3 (HG.out.upd U3.out) (HF.out.old.nw U3.out) ho HF.out.co HSO.out)
  go_wp2_with fail
  (with_reducible refine (hf1.out).mono ?_)
  rintro _ w4 ⟨rfl, u4⟩
  have U4 := Lib.hid (U3.out.trans u4)
  have hf2 := Lib.hid (formed_c na nc f.new w4 (HG.out.upd U4.out) (HF.out.new.nw U4.out) hn HF.out.cn HSN.out)
  clear u4 hf1 x0 x1 x2
  obtain ⟨x0, x1, x2⟩ := HX.out w4 U4.out
  generalize Wv.formed f.old = A at *
  generalize Wv.formed f.new = B at *
  cases A with
  | false =>
    have e9 : Hid (Wv.right f = false) := by show _ = _; rw [hD2.out]; rfl
    go_wp2_with fail
    go_ret
    exact ⟨by rw [e9.out]; rfl, HN.out.trans U4.out⟩
  | true =>
  have e9 : Hid (Wv.right f = B) := by show _ = _; rw [hD2.out]; rfl
  go_wp2_with fail
  (with_reducible refine (hf2.out).mono ?_)
  rintro _ w5 ⟨rfl, u5⟩
  have U5 := Lib.hid (U4.out.trans u5)
  clear u5
  go_wp2_with fail
  go_ret
  exact ⟨by rw [e9.out]; rfl, HN.out.trans U5.out⟩
end Go.Proofs.YtjlgmoemnhmgmaaGreatDoor
namespace Go.Proofs.YtjlgmoemnhmgmaaGreatDoor
open Go.RowKit
set_option linter.unusedVariables false
set_option linter.unusedSimpArgs false
attribute [local irreducible] Calls
open Fm (Ty Vl Str nameB rightTy)
open Wv (Svc FL svcOk sendsOk inR)

set_option maxRecDepth 100000 in
theorem index_ic (a : Option Addr) (cap : Nat) (l : List Int) (t : Int) (w : World) (h : IC w a l) (hl : l.length ≤ 100000) :
    Calls Tryz.prog 72 #[.slice a l.length cap, .int .i64 t] w fun e w' => e = .returned (.int .i64 (idxI (fun x => decide (x = t)) l)) ∧ w = w' := by
  have HC := Lib.hid h
  have hl1 : (l.length : Int) ≤ 100000 := by omega
  clear h
  go_enter Tryz.func72, Tryz.ntmps72
  go_wp2_with fail
  go_loopw [8] (fun i wr => ∃ n : Nat, n ≤ l.length ∧ i = .int .i64 (n : Int) ∧ Hid (∀ j (h : j < l.length), j < n → (decide (l[j] = t)) = false) ∧ w = wr) (fun i _ => l.length - (intOf i).toNat)
  case atStart => exact ⟨0, Nat.zero_le _, rfl, fun j _ h => absurd h (Nat.not_lt_zero _), rfl⟩
  case round =>
    obtain ⟨n, hn, rfl, hall, rfl⟩ := hrel
    by_cases hlt : n < l.length
    · have hlt1 : (n : Int) < l.length := by omega
      have hn9 : (n : Int) ≤ 100000 := by omega
      have hn0 : decide ((n : Int) < 0) = false := decide_eq_false (by omega)
      rcases HC.out with hnil | ⟨b, off, rfl, _, hcell⟩
      · simp [hnil] at hlt
      have c0 := hcell n hlt
      have hnext : l[n] ≠ t → Hid (∀ j (h : j < l.length), j < n + 1 → (decide (l[j] = t)) = false) := fun e j h hj => by
        by_cases ej : j = n
        · subst ej; exact decide_eq_false e
        · exact hall.out j h (by omega)
      have hstop : l[n] = t → Hid (idxI (fun x => decide (x = t)) l = n) := fun e => idx_hit hlt (decide_eq_true e) hall.out
      clear hcell
      generalize l[n] = x at *
      by_cases he : x = t
      · have hr := hstop he
        clear hstop hnext
        subst he
        have htt : (x == x) = true := by simp
        go_wp2_with fail
        go_ret
        rw [hr.out]
        exact ⟨rfl, rfl⟩
      · have hz := hnext he
        have htt : (t == x) = false := by simp; exact fun e => he e.symm
        have htt2 : (x == t) = false := by simp; exact he
        clear hstop hnext he
        go_wp2_with fail
        go_roundw
        case rel => exact ⟨n + 1, by omega, by go_num, hz, by first | rfl | trivial⟩
        case measure => simp [intOf]; omega
    · obtain rfl : n = l.length := by omega
      have hr : Hid (idxI (fun x => decide (x = t)) l = -1) := idx_miss (fun j h => hall.out j h h)
      clear hall
      go_wp2_with fail
      go_ret
      rw [hr.out]
      exact ⟨rfl, rfl⟩
theorem contains_ic (a : Option Addr) (cap : Nat) (l : List Int) (t : Int) (w : World) (h : IC w a l) (hl : l.length ≤ 100000) :
    Calls Tryz.prog 53 #[.slice a l.length cap, .int .i64 t] w fun e w' => e = .returned (.bool (decide (t ∈ l))) ∧ w = w' := by
  have hi := Lib.hid (index_ic a cap l t w h hl)
  have hm : Hid (decide (0 ≤ idxI (fun x => decide (x = t)) l) = decide (t ∈ l)) := by
    show _ = _
    rw [idx_any, Bool.eq_iff_iff]; simp
  clear h
  generalize idxI (fun x => decide (x = t)) l = ix at *
  go_enter Tryz.func53, Tryz.ntmps53
  go_wp2_with fail
  (with_reducible refine (hi.out).mono ?_)
  rintro _ _ ⟨rfl, rfl⟩
  go_wp2_with fail
  go_ret
  exact ⟨by rw [← hm.out]; rfl, rfl⟩
/-! ### The table -/
abbrev tTabW : TypeId := 94
def TabAt (w : World) (tb : Nat) (T : Nat → Bool) : Prop := ∃ arr : Array Value, w.heap[tb]? = some (.cells arr tTabW (0, 0)) ∧ ∀ i, i < 256 → arr[i]? = some (.bool (T i))
theorem TabAt.cell {w : World} {tb : Nat} {T : Nat → Bool} (h : TabAt w tb T) {i : Nat} (hi : i < 256) : w.cell? ⟨tb, i, none⟩ = some (.bool (T i)) := by
  obtain ⟨arr, h1, h2⟩ := h
  rw [cells_cell h1]; exact h2 i hi
theorem TabAt.upd {w w' : World} {S : Nat → Prop} {tb : Nat} {T : Nat → Bool} (h : TabAt w tb T) (u : Upd S w w') (hn : ¬ S tb) : TabAt w' tb T := by
  obtain ⟨arr, h1, h2⟩ := h
  exact ⟨arr, u.keep h1 hn, h2⟩
theorem TabAt.frozen {w : World} {tb : Nat} {T : Nat → Bool} (h : TabAt w tb T) (i : Nat) : w.frozen? ⟨tb, i, none⟩ = false := by
  obtain ⟨arr, h1, _⟩ := h
  exact cells_frozen h1 i
theorem TabAt.lt {w : World} {tb : Nat} {T : Nat → Bool} (h : TabAt w tb T) : tb < w.heap.size := by
  obtain ⟨arr, h1, _⟩ := h
  exact lt_of_block h1
theorem TabAt.set {w : World} {tb : Nat} {T : Nat → Bool} (h : TabAt w tb T) {i : Nat} (hi : i < 256) (b : Bool) : TabAt (w.setCell ⟨tb, i, none⟩ (.bool b)) tb (fun j => if j = i then b else T j) := by
  obtain ⟨arr, h1, h2⟩ := h
  refine ⟨_, setCell_block h1 i (.bool b), fun j hj => ?_⟩
  have hs : i < arr.size := by
    have := h2 i hi
    exact (Array.getElem?_eq_some_iff.1 this).1
  show (arr.setIfInBounds i (.bool b))[j]? = some (.bool (if j = i then b else T j))
  by_cases e : j = i
  · subst e
    rw [if_pos rfl]
    simp [hs]
  · rw [if_neg e, Array.getElem?_setIfInBounds_ne (fun e2 => e e2.symm)]
    exact h2 j hj
theorem tab_zero : ∀ i, i < 256 → Tryz.zeroCells94[i]? = some (.bool false) := by
  have h : Tryz.zeroCells94 = Array.replicate 256 (.bool false) := by kernel_rfl
  intro i hi
  rw [h, Array.getElem?_replicate, if_pos hi]
def tIx (i v k w : Nat) : Nat := i * 32 + v * 16 + k * 2 + w
def vb (v : Nat) : Bool := decide (v = 1)
/-- What the table says. -/
def TabOk (f : FL) (T : Nat → Bool) : Prop := ∀ i v k w, i < f.old.length → v < 2 → k < f.old.length → w < 2 → T (tIx i v k w) = Wv.can f i (vb v) k (vb w)
/-- The table so far: all ahead of v, i, w, k. -/
def TabTo (f : FL) (T : Nat → Bool) (v i w k : Nat) : Prop := ∀ i' v' k' w', i' < f.old.length → v' < 2 → k' < f.old.length → w' < 2 →
  (v' < v ∨ v' = v ∧ (i' < i ∨ i' = i ∧ (w' < w ∨ w' = w ∧ k' < k))) → T (tIx i' v' k' w') = Wv.can f i' (vb v') k' (vb w')
theorem TabTo.next {f : FL} {T : Nat → Bool} {v i w k : Nat} (h : TabTo f T v i w k) (h8 : f.old.length ≤ 8) (hv : v < 2) (hi : i < f.old.length) (hw : w < 2) (hk : k < f.old.length) :
    TabTo f (fun j => if j = tIx i v k w then Wv.can f i (vb v) k (vb w) else T j) v i w (k + 1) := by
  intro i' v' k' w' h1 h2 h3 h4 hc
  by_cases e : tIx i' v' k' w' = tIx i v k w
  · have : i' = i ∧ v' = v ∧ k' = k ∧ w' = w := by unfold tIx at e; omega
    obtain ⟨rfl, rfl, rfl, rfl⟩ := this
    show (if _ then _ else _) = _
    rw [if_pos rfl]
  · show (if _ then _ else _) = _
    rw [if_neg e]
    refine h i' v' k' w' h1 h2 h3 h4 ?_
    by_cases e2 : i' = i ∧ v' = v ∧ w' = w
    · obtain ⟨rfl, rfl, rfl⟩ := e2
      have : k' ≠ k := fun e3 => e (by rw [e3])
      omega
    · omega
theorem TabTo.k_end {f : FL} {T : Nat → Bool} {v i w : Nat} (h : TabTo f T v i w f.old.length) : TabTo f T v i (w + 1) 0 := fun i' v' k' w' h1 h2 h3 h4 hc => h i' v' k' w' h1 h2 h3 h4 (by omega)
theorem TabTo.w_end {f : FL} {T : Nat → Bool} {v i : Nat} (h : TabTo f T v i 2 0) : TabTo f T v (i + 1) 0 0 := fun i' v' k' w' h1 h2 h3 h4 hc => h i' v' k' w' h1 h2 h3 h4 (by omega)
theorem TabTo.i_end {f : FL} {T : Nat → Bool} {v : Nat} (h : TabTo f T v f.old.length 0 0) : TabTo f T (v + 1) 0 0 0 := fun i' v' k' w' h1 h2 h3 h4 hc => h i' v' k' w' h1 h2 h3 h4 (by omega)
theorem TabTo.all {f : FL} {T : Nat → Bool} (h : TabTo f T 2 0 0 0) : TabOk f T := fun i v k w h1 h2 h3 h4 => h i v k w h1 h2 h3 h4 (by omega)
theorem TabTo.none_ {f : FL} {T : Nat → Bool} : TabTo f T 0 0 0 0 := fun i' v' k' w' h1 h2 h3 h4 hc => by omega
/-- The services of a version. -/
def svs (f : FL) (v : Nat) : List Svc := if vb v then f.new else f.old
theorem svcAt_of {f : FL} {v i : Nat} (h : i < (svs f v).length) : Wv.svcAt f i (vb v) = (svs f v)[i] := getD_of h
end Go.Proofs.YtjlgmoemnhmgmaaGreatDoor
