/- Plain: types and values; what is right, fits, is a subtype; zero values; writing and reading. -/
import Derived.Test.YtjlgmoemnhmgmaaGreatDoorPkWTells0
import Derived.Test.YtjlgmoemnhmgmaaGreatDoorPkWTells3
import Derived.Lib.IndexMore
import Derived.Laws.Cover1
namespace Go.Proofs.YtjlgmoemnhmgmaaGreatDoor
set_option linter.unusedVariables false
set_option linter.unusedSimpArgs false

namespace Fm
abbrev Str := List UInt8
inductive Ty
  | mk (kind : Int) (fs : List (Str × Ty))
inductive Vl
  | mk (kind n : Int) (names : List Str) (vals : List Vl)
def Ty.kind : Ty → Int
  | .mk k _ => k
def Ty.fs : Ty → List (Str × Ty)
  | .mk _ f => f
def Vl.kind : Vl → Int
  | .mk k _ _ _ => k
def Vl.n : Vl → Int
  | .mk _ n _ _ => n
def Vl.names : Vl → List Str
  | .mk _ _ s _ => s
def Vl.vals : Vl → List Vl
  | .mk _ _ _ l => l
def noV : Vl := .mk 0 0 [] []
def noT : Ty := .mk 0 []
theorem Vl.ext {a b : Vl} (h1 : a.kind = b.kind) (h2 : a.n = b.n) (h3 : a.names = b.names) (h4 : a.vals = b.vals) : a = b := by
  cases a; cases b; simp only [Vl.kind, Vl.n, Vl.names, Vl.vals] at *; subst h1 h2 h3 h4; rfl
/-! ### The order of strings -/
abbrev lt (a b : Str) : Bool := Op.bytesLess a b
theorem lt_irr : ∀ a : Str, lt a a = false := by
  intro a
  induction a with
  | nil => rfl
  | cons x a ih => unfold lt Op.bytesLess; simp; exact ih
theorem lt_trans : ∀ {a b c : Str}, lt a b = true → lt b c = true → lt a c = true := by
  intro a
  induction a with
  | nil =>
    intro b c h1 h2
    cases c with
    | nil => cases b <;> simp [lt, Op.bytesLess] at h2
    | cons z c => rfl
  | cons x a ih =>
    intro b c h1 h2
    cases b with
    | nil => simp [lt, Op.bytesLess] at h1
    | cons y b =>
      cases c with
      | nil => simp [lt, Op.bytesLess] at h2
      | cons z c =>
        simp only [lt, Op.bytesLess, Bool.or_eq_true, decide_eq_true_eq, Bool.and_eq_true, beq_iff_eq] at h1 h2 ⊢
        rcases h1 with h1 | ⟨rfl, h1⟩
        · rcases h2 with h2 | ⟨rfl, h2⟩
          · exact Or.inl (UInt8.lt_trans h1 h2)
          · exact Or.inl h1
        · rcases h2 with h2 | ⟨rfl, h2⟩
          · exact Or.inl h2
          · exact Or.inr ⟨rfl, ih h1 h2⟩
def asc : List Str → Bool
  | [] => true
  | [_] => true
  | a :: b :: r => lt a b && asc (b :: r)
theorem asc_tail {a : Str} {l : List Str} (h : asc (a :: l) = true) : asc l = true := by
  cases l with
  | nil => rfl
  | cons b r => unfold asc at h; simp only [Bool.and_eq_true] at h; exact h.2
theorem asc_lt : ∀ {l : List Str} {a : Str}, asc (a :: l) = true → ∀ b ∈ l, lt a b = true := by
  intro l
  induction l with
  | nil => intro a _ b hb; cases hb
  | cons c l ih =>
    intro a h b hb
    have h1 : lt a c = true := by unfold asc at h; simp only [Bool.and_eq_true] at h; exact h.1
    rcases List.mem_cons.1 hb with rfl | hb
    · exact h1
    · exact lt_trans h1 (ih (asc_tail h) b hb)
theorem asc_nodup : ∀ {l : List Str}, asc l = true → l.Nodup := by
  intro l
  induction l with
  | nil => intro _; exact List.nodup_nil
  | cons a l ih =>
    intro h
    refine List.nodup_cons.2 ⟨fun hm => ?_, ih (asc_tail h)⟩
    have := asc_lt h a hm
    rw [lt_irr] at this; cases this
/-- By places: what the programs look at. -/
theorem asc_iff {l : List Str} : asc l = true ↔ ∀ i (h : i + 1 < l.length), lt (l[i]'(by omega)) l[i + 1] = true := by
  induction l with
  | nil => simp [asc]
  | cons a l ih =>
    cases l with
    | nil => simp [asc]
    | cons b r =>
      unfold asc
      rw [Bool.and_eq_true, ih]
      constructor
      · rintro ⟨h1, h2⟩ i hi
        cases i with
        | zero => exact h1
        | succ i => exact h2 i (by simpa using hi)
      · intro h
        exact ⟨h 0 (by simp), fun i hi => h (i + 1) (by simpa using hi)⟩
/-! ### Names -/
def letterB (c : UInt8) : Bool := decide (97 ≤ c.toNat) && decide (c.toNat ≤ 122)
def digitB (c : UInt8) : Bool := decide (48 ≤ c.toNat) && decide (c.toNat ≤ 57)
def wordB (s : Str) : Bool := match s with
  | [] => false
  | c :: r => letterB c && decide (s.length ≤ 20) && s.all (fun c => letterB c || digitB c)
def reservedL : Str := [32, 97, 110, 100, 32, 98, 97, 99, 107, 32, 98, 111, 111, 108, 32, 99, 108, 111, 99, 107, 32, 101, 108, 115, 101, 32, 102, 97, 108, 115, 101, 32, 102, 105, 108, 101, 115, 32, 102, 110, 32, 102, 111, 114, 119, 97, 114, 100, 32, 103, 101, 116, 32, 105, 102, 32, 105, 110, 32, 105, 110, 116, 32, 108, 101, 116, 32, 109, 111, 100, 117, 108, 101, 32, 109, 111, 118, 101, 32, 110, 101, 116, 32, 110, 111, 116, 32, 111, 114, 32, 112, 117, 98, 32, 115, 101, 99, 114, 101, 116, 115, 32, 115, 101, 116, 32, 116, 104, 101, 110, 32, 116, 114, 117, 101, 32, 117, 115, 101, 32, 118, 97, 114, 32]
def nameB (s : Str) : Bool := wordB s && !Lib.contains reservedL ([32] ++ s ++ [32])
theorem word_len {s : Str} (h : wordB s = true) : s.length ≤ 20 := by
  unfold wordB at h
  split at h
  · cases h
  · simp only [Bool.and_eq_true, decide_eq_true_eq] at h; exact h.1.2
theorem name_len {s : Str} (h : nameB s = true) : s.length ≤ 20 := by
  unfold nameB at h
  rw [Bool.and_eq_true] at h
  exact word_len h.1
/-! ### Right types and values -/
def rightTy : Nat → Ty → Bool
  | 0, _ => false
  | d + 1, t => decide (0 ≤ t.kind) && decide (t.kind < 3) && decide (t.fs.length ≤ 8) && (decide (t.kind = 2) || t.fs.isEmpty) && asc (t.fs.map (·.1)) && t.fs.all (fun f => nameB f.1 && rightTy d f.2)
structure Rt (d : Nat) (t : Ty) : Prop where
  k0 : 0 ≤ t.kind
  k3 : t.kind < 3
  len : t.fs.length ≤ 8
  rec_ : t.kind ≠ 2 → t.fs = []
  asc : asc (t.fs.map (·.1)) = true
  name : ∀ f ∈ t.fs, nameB f.1 = true
  sub : ∀ f ∈ t.fs, rightTy d f.2 = true
theorem rt_iff {d : Nat} {t : Ty} : rightTy (d + 1) t = true ↔ Rt d t := by
  unfold rightTy
  simp only [Bool.and_eq_true, decide_eq_true_eq, Bool.or_eq_true, List.isEmpty_iff, List.all_eq_true]
  constructor
  · rintro ⟨⟨⟨⟨⟨h1, h2⟩, h3⟩, h4⟩, h5⟩, h6⟩
    exact ⟨h1, h2, h3, fun h => h4.resolve_left h, h5, fun f hf => (h6 f hf).1, fun f hf => (h6 f hf).2⟩
  · intro h
    exact ⟨⟨⟨⟨⟨h.k0, h.k3⟩, h.len⟩, by by_cases e : t.kind = 2; exact Or.inl e; exact Or.inr (h.rec_ e)⟩, h.asc⟩, fun f hf => ⟨h.name f hf, h.sub f hf⟩⟩
theorem right_mono : ∀ {d : Nat} {t : Ty}, rightTy d t = true → rightTy (d + 1) t = true := by
  intro d
  induction d with
  | zero => intro t h; cases h
  | succ d ih =>
    intro t h
    have h := rt_iff.1 h
    exact rt_iff.2 ⟨h.k0, h.k3, h.len, h.rec_, h.asc, h.name, fun f hf => ih (h.sub f hf)⟩
theorem right_le {d e : Nat} {t : Ty} (h : rightTy d t = true) (hd : d ≤ e) : rightTy e t = true := by
  induction hd with
  | refl => exact h
  | step _ ih => exact right_mono ih
def rightVl : Nat → Vl → Bool
  | 0, _ => false
  | d + 1, v => if v.kind = 0 ∨ v.kind = 1 then v.names.isEmpty && v.vals.isEmpty && (decide (v.kind = 0) || decide (v.n = 0) || decide (v.n = 1))
      else decide (v.kind = 2) && decide (v.n = 0) && decide (v.names.length = v.vals.length) && decide (v.names.length ≤ 8) && asc v.names && v.vals.all (rightVl d)
def idx (s : Str) (l : List Str) : Int := idxI (fun x => decide (x = s)) l
def Vl.at_ (v : Vl) (s : Str) : Vl := v.vals.getD (idx s v.names).toNat noV
def fits : Nat → Ty → Vl → Bool
  | 0, _, _ => false
  | d + 1, t, v => decide (t.kind = v.kind) && t.fs.all (fun f => decide (0 ≤ idx f.1 v.names) && fits d f.2 (v.at_ f.1))
def has (t : Ty) (v : Vl) : Bool := rightTy 4 t && rightVl 4 v && fits 4 t v
def lookup (l : List (Str × Ty)) (s : Str) : Option Ty := (l.reverse.find? (fun f => decide (f.1 = s))).map (·.2)
def sub : Nat → Ty → Ty → Bool
  | 0, _, _ => false
  | d + 1, a, b => decide (a.kind = b.kind) && b.fs.all (fun f => match lookup a.fs f.1 with
    | none => false
    | some t => sub d t f.2)
def zero : Nat → Ty → Vl
  | 0, _ => noV
  | d + 1, t => .mk t.kind 0 (t.fs.map (·.1)) (t.fs.map fun f => zero d f.2)
def writeF : Nat → Ty → Vl → Str
  | 0, _, _ => []
  | d + 1, t, v => Wire.numE t.kind ++ if t.kind = 0 then Wire.intE v.n else if t.kind = 1 then Wire.numE v.n else (t.fs.map fun f => Wire.textE f.1 ++ Wire.textE (writeF d f.2 (v.at_ f.1))).flatten
def proj : Nat → Ty → Vl → Vl
  | 0, _, _ => noV
  | d + 1, b, v => .mk b.kind (if b.kind = 2 then 0 else v.n) (b.fs.map (·.1)) (b.fs.map fun f => proj d f.2 (v.at_ f.1))
/-! ### Entries -/
/-- A name that does not stand behind the last one. -/
def lowE (acc : List (Str × Str)) (s : Str) : Bool := match acc.getLast? with
  | none => false
  | some z => !lt z.1 s
def entF : Nat → List (Str × Str) → Wire.St → Option (List (Str × Str))
  | 0, _, _ => none
  | n + 1, acc, st =>
    match st with
    | none => none
    | some [] => some acc
    | some (c :: r) =>
      let x := Wire.rText (some (c :: r))
      let y := Wire.rText x.2
      if y.2.isNone = true then none
      else if lowE acc x.1 = true then none
      else entF n (acc ++ [(x.1, y.1)]) y.2
def entG (acc : List (Str × Str)) (st : Wire.St) : Option (List (Str × Str)) := entF ((st.getD []).length + 1) acc st
theorem entF_more : ∀ (n m : Nat) (acc : List (Str × Str)) (st : Wire.St), (st.getD []).length < n → (st.getD []).length < m → entF n acc st = entF m acc st := by
  intro n
  induction n with
  | zero => intro m acc st h; omega
  | succ n ih =>
    intro m acc st h1 h2
    cases m with
    | zero => omega
    | succ m =>
      cases st with
      | none => rfl
      | some l =>
        cases l with
        | nil => rfl
        | cons c r =>
          unfold entF
          dsimp only
          split
          · rfl
          · next hy =>
            split
            · rfl
            · have hs : (Wire.rText (Wire.rText (some (c :: r))).2).2.isSome = true := by
                cases h : (Wire.rText (Wire.rText (some (c :: r))).2).2 with
                | none => rw [h] at hy; exact absurd rfl hy
                | some _ => rfl
              have l1 := Wire.rText_cost _ hs
              have l2 := Wire.rText_le (some (c :: r))
              refine ih m _ _ ?_ ?_ <;> omega
theorem entG_end (acc : List (Str × Str)) : entG acc (some []) = some acc := rfl
theorem entG_none (acc : List (Str × Str)) : entG acc none = none := rfl
theorem entG_step (acc : List (Str × Str)) (c : UInt8) (r : Str) : entG acc (some (c :: r)) =
    if (Wire.rText (Wire.rText (some (c :: r))).2).2.isNone = true then none
    else if lowE acc (Wire.rText (some (c :: r))).1 = true then none
    else entG (acc ++ [((Wire.rText (some (c :: r))).1, (Wire.rText (Wire.rText (some (c :: r))).2).1)]) (Wire.rText (Wire.rText (some (c :: r))).2).2 := by
  unfold entG
  show entF ((c :: r).length + 1) acc (some (c :: r)) = _
  rw [show (c :: r).length + 1 = (r.length + 1) + 1 from rfl]
  conv => lhs; unfold entF
  dsimp only
  split
  · rfl
  · next hy =>
    split
    · rfl
    · have hs : (Wire.rText (Wire.rText (some (c :: r))).2).2.isSome = true := by
        cases h : (Wire.rText (Wire.rText (some (c :: r))).2).2 with
        | none => rw [h] at hy; exact absurd rfl hy
        | some _ => rfl
      have l1 := Wire.rText_cost _ hs
      have l2 := Wire.rText_le (some (c :: r))
      have l3 : ((some (c :: r) : Wire.St).getD []).length = r.length + 1 := rfl
      refine entF_more _ _ _ _ ?_ ?_ <;> omega
def getE (l : List (Str × Str)) (s : Str) : Option Str := (l.find? (fun x => decide (x.1 = s))).map (·.2)
/-- Reading a right type. -/
def readF : Nat → Ty → Str → Option Vl
  | 0, _, _ => none
  | d + 1, t, s =>
    let k := Wire.rNum (some s)
    if k.2.isNone = true ∨ k.1 ≠ t.kind then none
    else if t.kind = 0 then (let n := Wire.rInt k.2; if n.2 = some [] then some (.mk 0 n.1 [] []) else none)
    else if t.kind = 1 then (let n := Wire.rNum k.2; if n.2 = some [] ∧ n.1 ≤ 1 then some (.mk 1 n.1 [] []) else none)
    else match entG [] k.2 with
      | none => none
      | some l => if t.fs.all (fun f => (getE l f.1).isSome && (readF d f.2 ((getE l f.1).getD [])).isSome) then some (.mk t.kind 0 (t.fs.map (·.1)) (t.fs.map fun f => (readF d f.2 ((getE l f.1).getD [])).getD noV)) else none
end Fm
end Go.Proofs.YtjlgmoemnhmgmaaGreatDoor
