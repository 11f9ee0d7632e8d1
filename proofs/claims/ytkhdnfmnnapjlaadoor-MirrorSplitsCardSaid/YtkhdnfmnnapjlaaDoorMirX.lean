/- Layer 37 in plain words: two books of one key that part: what a client that asks mirrors of both gets. No program stands in this text. -/
import Derived.Test.YtkhdnfmnnapjlaaDoorMirP
import Derived.Test.YtkhdnfmnnapjlaaDoorGosC
namespace Go.Proofs.YtkhdnfmnnapjlaaDoor.Mi
open Go.Lib Go.RowKit
open Bk (Seal Sgn noSgn isKey place valid sign Book)
open Cl (Clm right contra)
set_option linter.unusedVariables false
set_option linter.unusedSimpArgs false

/-- A signature of a claim of a log, by a key, in a ring. -/
structure Sg (Lr : List Seal) (key : Int) (s : Sgn) (c : Clm) : Prop where
  v : valid Lr s = true
  k : s.key = key
  r : right c = true
  l : c.kind ≤ 2
  t : s.text = Cl.text c
section
variable {Lr : List Seal} {key : Int} {s x : Sgn} {c d : Clm} {L : List Sgn}
theorem Sg.read (h : Sg Lr key s c) : Cl.read s.text = (c, true) := by rw [h.t]; exact Cl.read_text h.r
theorem Sg.of (h : Sg Lr key s c) : Vw.claimOf s = c := by unfold Vw.claimOf; rw [h.read]
theorem Sg.log (h : Sg Lr key s c) : Vw.isLog s.text = true := by unfold Vw.isLog; rw [h.read]; simp [h.l]
theorem Sg.more (h : Sg Lr key s c) (M : List Seal) : Sg (Lr ++ M) key s c := ⟨Vw.valid_more M h.v, h.k, h.r, h.l, h.t⟩
theorem Sg.same (h : Sg Lr key s c) (h' : Sg Lr key x c) : s = x := Vw.valid_mark h.v h'.v (h.k.trans h'.k.symm) (h.t.trans h'.t.symm)
theorem Sg.clash (h : Sg Lr key s c) (hc : Vw.clashes L c = true) : Vw.accept Lr key L s = (21, L) := by
  unfold Vw.accept
  rw [if_neg (by rw [h.v]; decide), if_neg (fun e => e h.k), if_neg (by rw [h.log]; decide), h.of, if_pos hc]
theorem Sg.fit (h : Sg Lr key s c) (hc : Vw.clashes L c = false) : Vw.accept Lr key L s = (0, if s ∈ L then L else L ++ [s]) := by
  unfold Vw.accept
  rw [if_neg (by rw [h.v]; decide), if_neg (fun e => e h.k), if_neg (by rw [h.log]; decide), h.of, if_neg (by rw [hc]; decide)]
  split <;> rfl
theorem Sg.convict (h : Sg Lr key s c) (h' : Sg Lr key x d) (hc : contra c d = true) : convictE Lr s x = 0 := by
  unfold convictE
  rw [if_neg (by rw [h.v]; decide), if_neg (by rw [h'.v]; decide), if_neg (fun e => e (h.k.trans h'.k.symm)), h.read, h'.read]
  simp [hc]
end
theorem contra_ent {n : Int} {A B : List UInt8} (h : right ⟨0, n, 0, A⟩ = true) (h' : right ⟨0, n, 0, B⟩ = true) (hn : A ≠ B) : contra ⟨0, n, 0, A⟩ ⟨0, n, 0, B⟩ = true :=
  (Cl.contra_iff _ _).2 ⟨h, h', Or.inr (Or.inr (Or.inr (Or.inr ⟨rfl, Or.inl rfl, rfl, rfl, hn⟩)))⟩
theorem contra_size {n m mo : Int} (h : right ⟨1, n, mo, []⟩ = true) (h' : right ⟨1, m, mo, []⟩ = true) (hn : n ≠ m) : contra ⟨1, n, mo, []⟩ ⟨1, m, mo, []⟩ = true :=
  (Cl.contra_iff _ _).2 ⟨h, h', Or.inr (Or.inr (Or.inl ⟨rfl, rfl, Or.inl ⟨rfl, hn⟩⟩))⟩
theorem contra_01 {n m mo : Int} {A : List UInt8} : contra ⟨0, n, 0, A⟩ ⟨1, m, mo, []⟩ = false := by
  cases h : contra ⟨0, n, 0, A⟩ ⟨1, m, mo, []⟩ with
  | false => rfl
  | true =>
    have := Cl.contra_kinds h
    simp at this
/-- The four answers, two of each mirror. -/
def four (a b h k : Sgn) : List Ans := [⟨[a], [], false⟩, ⟨[b], [], false⟩, ⟨[h], [], false⟩, ⟨[k], [], false⟩]
theorem ask_four (Lr : List Seal) (key : Int) (a b h k : Sgn) : ask Lr key [] (four a b h k) = askS Lr key (askS Lr key (askS Lr key (askS Lr key ⟨[], noSgn, noSgn, 0⟩ a) b) h) k := rfl
theorem askS_late (Lr : List Seal) (key : Int) (r : AskR) (s : Sgn) (he : r.e = 21) : (askS Lr key r s).old = r.old ∧ (askS Lr key r s).odd = r.odd ∧ (askS Lr key r s).e = 21 := by
  unfold askS
  rw [if_neg (fun e => by rw [he] at e; exact absurd e.2 (by decide))]
  exact ⟨rfl, rfl, he⟩
theorem split_ok {Lr : List Seal} {key : Int} {a b h k : Sgn} {A B : List UInt8} {n nA nB mo : Int} (ha : Sg Lr key a ⟨0, n, 0, A⟩) (hb : Sg Lr key b ⟨0, n, 0, B⟩) (hh : Sg Lr key h ⟨1, nA, mo, []⟩) (hk : Sg Lr key k ⟨1, nB, mo, []⟩) (hmo : 0 ≤ mo) :
    ((A = B ∧ nA = nB) → askE (ask Lr key [] (four a b h k)) mo 0 = 0) ∧
    (¬ (A = B ∧ nA = nB) → askE (ask Lr key [] (four a b h k)) mo 0 = 21 ∧ ∃ c d, Sg Lr key (ask Lr key [] (four a b h k)).old c ∧ Sg Lr key (ask Lr key [] (four a b h k)).odd d ∧ contra c d = true) := by
  rw [ask_four]
  have s1 : askS Lr key ⟨[], noSgn, noSgn, 0⟩ a = ⟨[a], noSgn, noSgn, 0⟩ := by
    unfold askS
    rw [ha.fit (L := []) rfl]
    simp
  rw [s1]
  by_cases hAB : A = B
  · subst hAB
    obtain rfl := ha.same hb
    have n1 : Vw.clashes [a] ⟨0, n, 0, A⟩ = false := by rw [Vw.clashes_no]; intro x hx; rw [List.mem_singleton] at hx; rw [hx, ha.of]; exact Cl.contra_self _
    have s2 : askS Lr key ⟨[a], noSgn, noSgn, 0⟩ a = ⟨[a], noSgn, noSgn, 0⟩ := by
      unfold askS
      rw [ha.fit n1]
      simp
    rw [s2]
    have hne : h ∉ [a] := fun e => by
      rw [List.mem_singleton] at e
      have := hh.of
      rw [e, ha.of] at this
      exact absurd (congrArg Clm.kind this) (by simp)
    have n2 : Vw.clashes [a] ⟨1, nA, mo, []⟩ = false := by rw [Vw.clashes_no]; intro x hx; rw [List.mem_singleton] at hx; rw [hx, ha.of]; exact contra_01
    have s3 : askS Lr key ⟨[a], noSgn, noSgn, 0⟩ h = ⟨[a, h], noSgn, noSgn, 0⟩ := by
      unfold askS
      rw [hh.fit n2, if_neg hne]
      simp
    rw [s3]
    by_cases hn : nA = nB
    · subst hn
      obtain rfl := hh.same hk
      have n3 : Vw.clashes [a, h] ⟨1, nA, mo, []⟩ = false := by
        rw [Vw.clashes_no]; intro x hx
        rcases List.mem_cons.1 hx with rfl | hx
        · rw [ha.of]; exact contra_01
        · rw [List.mem_singleton] at hx; rw [hx, hh.of]; exact Cl.contra_self _
      have s4 : askS Lr key ⟨[a, h], noSgn, noSgn, 0⟩ h = ⟨[a, h], noSgn, noSgn, 0⟩ := by
        unfold askS
        rw [hh.fit n3]
        simp
      rw [s4]
      refine ⟨fun _ => ?_, fun e => absurd ⟨rfl, rfl⟩ e⟩
      have hs : Vw.sizeOf [a, h] = (nA, mo) := by
        unfold Vw.sizeOf
        simp only [List.foldl_cons, List.foldl_nil]
        rw [show Vw.sizeStep (0, -1) a = (0, -1) by unfold Vw.sizeStep; rw [ha.of]; simp]
        unfold Vw.sizeStep
        rw [hh.of, if_pos ⟨rfl, by show (-1 : Int) < mo; omega⟩]
      have hag : Vw.age [a, h] mo = 0 := by
        unfold Vw.age
        rw [hs, if_neg (by dsimp only; omega)]
        dsimp only; omega
      unfold askE
      rw [hag, if_neg (by dsimp only; omega)]
    · have hcc := contra_size hh.r hk.r hn
      have n3 : Vw.clashes [a, h] ⟨1, nB, mo, []⟩ = true := Vw.clashes_yes.2 ⟨h, by simp, by rw [hh.of]; exact hcc⟩
      have hcl : (Vw.clash [a, h] k).1 = h := by
        unfold Vw.clash
        rw [hk.read, if_neg (fun e => Bool.noConfusion e)]
        rw [hk.of, List.find?_cons, ha.of, contra_01, List.find?_cons, hh.of, hcc]
      have s4 : askS Lr key ⟨[a, h], noSgn, noSgn, 0⟩ k = ⟨[a, h], h, k, 21⟩ := by
        unfold askS
        rw [hk.clash n3, hcl]
        simp
      rw [s4]
      refine ⟨fun e => absurd e.2 hn, fun _ => ⟨?_, _, _, hh, hk, hcc⟩⟩
      unfold askE
      rw [if_neg (fun e => absurd (show (21 : Int) = 0 from e.1) (by decide))]
  · have hcc := contra_ent ha.r hb.r hAB
    have n1 : Vw.clashes [a] ⟨0, n, 0, B⟩ = true := Vw.clashes_yes.2 ⟨a, by simp, by rw [ha.of]; exact hcc⟩
    have hcl : (Vw.clash [a] b).1 = a := by
      unfold Vw.clash
      rw [hb.read, if_neg (fun e => Bool.noConfusion e)]
      rw [hb.of, List.find?_cons, ha.of, hcc]
    have s2 : askS Lr key ⟨[a], noSgn, noSgn, 0⟩ b = ⟨[a], a, b, 21⟩ := by
      unfold askS
      rw [hb.clash n1, hcl]
      simp
    rw [s2]
    obtain ⟨p1, p2, p3⟩ := askS_late Lr key ⟨[a], a, b, 21⟩ h rfl
    obtain ⟨q1, q2, q3⟩ := askS_late Lr key _ k p3
    refine ⟨fun e => absurd e.1 hAB, fun _ => ⟨?_, ?_⟩⟩
    · unfold askE
      rw [if_neg (fun e => by rw [q3] at e; exact absurd e.1 (by decide)), q3]
    · rw [q1, q2, p1, p2]
      exact ⟨_, _, ha, hb, hcc⟩
/-! ### A mirror that is fed once -/
theorem signC_sg {L : List Seal} {b : Book} {c : Clm} {key : Int} (hk : isKey key = true) (hb : b.key = key) (hr : right c = true) (hl : c.kind ≤ 2) : Sg (Bk.signC L b c).2 key (Bk.signC L b c).1 c := by
  subst hb
  obtain ⟨h1, h2, h3⟩ := Bk.sign_good (L := L) (t := Cl.text c) hk
  exact ⟨h3, h1, hr, hl, h2⟩
theorem signC_more (L : List Seal) (b : Book) (c : Clm) : ∃ M, (Bk.signC L b c).2 = L ++ M := Vw.sign_more8 _ _ _
theorem entL_sg {L : List Seal} {b : Book} {m : Mir} {key : Int} (hk : isKey key = true) (hb : b.key = key) (h0 : m.l 0 = []) (n : Nat) (hn : n ≤ b.es.length) (hr : ∀ i, (h : i < b.es.length) → right ⟨0, i, 0, b.es[i]⟩ = true) :
    (∃ M, (entL L b m 0 n).1 = L ++ M) ∧ ∀ i, (h : i < n) → ∃ s, ((entL L b m 0 n).2.l 0)[i]? = some s ∧ Sg (entL L b m 0 n).1 key s ⟨0, i, 0, b.es[i]⟩ := by
  induction n with
  | zero => exact ⟨⟨[], by simp [entL]⟩, fun i h => by omega⟩
  | succ n ih =>
    obtain ⟨⟨M, hM⟩, hS⟩ := ih (by omega)
    have hl := (entL_l L b m 0 n).1
    rw [h0, List.length_nil, Nat.zero_add] at hl
    have hen : Bk.entry (entL L b m 0 n).1 b ((n : Nat) : Int) = (((Bk.signC (entL L b m 0 n).1 b ⟨0, n, 0, b.es[n]⟩).1, 0), (Bk.signC (entL L b m 0 n).1 b ⟨0, n, 0, b.es[n]⟩).2) := by
      unfold Bk.entry
      rw [if_neg (by omega), Int.toNat_natCast, List.getD_eq_getElem?_getD, List.getElem?_eq_getElem (by omega)]
      rfl
    have e : entL L b m 0 (n + 1) = ((Bk.signC (entL L b m 0 n).1 b ⟨0, n, 0, b.es[n]⟩).2, push (entL L b m 0 n).2 0 (Bk.signC (entL L b m 0 n).1 b ⟨0, n, 0, b.es[n]⟩).1) := by
      show entS (entL L b m 0 n).1 b (entL L b m 0 n).2 (0 + n) = _
      unfold entS
      rw [Nat.zero_add, hen]
    have hsg := signC_sg (L := (entL L b m 0 n).1) hk hb (hr n (by omega)) (by show (0 : Int) ≤ 2; decide)
    obtain ⟨M2, hM2⟩ := signC_more (entL L b m 0 n).1 b ⟨0, n, 0, b.es[n]⟩
    rw [e]
    dsimp only
    rw [push_self]
    refine ⟨⟨M ++ M2, by rw [hM2, hM, List.append_assoc]⟩, fun i h => ?_⟩
    by_cases hin : i = n
    · subst hin
      exact ⟨_, by rw [List.getElem?_append_right (by omega), hl]; simp, hsg⟩
    · obtain ⟨s, s1, s2⟩ := hS i (by omega)
      refine ⟨s, by rw [List.getElem?_append_left (by omega)]; exact s1, ?_⟩
      rw [hM2]
      exact s2.more M2
/-- Fed once, with nothing but the book. -/
theorem feed_once {L : List Seal} {b : Book} {key mo : Int} (hk : isKey key = true) (hb : b.key = key) (hla : b.last = -1) (hmo : 0 ≤ mo ∧ mo ≤ 1073741824) (hr : ∀ i, (h : i < b.es.length) → right ⟨0, i, 0, b.es[i]⟩ = true) (hh : right ⟨1, b.es.length, mo, []⟩ = true) :
    ∃ L' b' m', feed L b (fresh 0) [] [] mo = (0, L', b', m') ∧ (∃ M, L' = L ++ M) ∧ m'.mode = 0 ∧ (∃ h, m'.l 1 = [h] ∧ Sg L' key h ⟨1, b.es.length, mo, []⟩) ∧ (∀ i, (h : i < b.es.length) → ∃ s, (m'.l 0)[i]? = some s ∧ Sg L' key s ⟨0, i, 0, b.es[i]⟩) := by
  have hhd : Bk.head L b mo = (((Bk.signC L b ⟨1, b.es.length, mo, []⟩).1, 0), (Bk.signC L b ⟨1, b.es.length, mo, []⟩).2, { b with last := mo, told := b.es.length }) := by
    unfold Bk.head
    rw [if_neg (by omega), if_neg (by rw [hla]; omega)]
  have hsg := signC_sg (L := L) hk hb hh (by show (1 : Int) ≤ 2; decide)
  obtain ⟨M1, hM1⟩ := signC_more L b ⟨1, b.es.length, mo, []⟩
  unfold feed
  rw [if_neg (by unfold fresh; dsimp only; omega), hhd]
  dsimp only
  rw [if_neg (by decide)]
  obtain ⟨m1, hm1⟩ : ∃ m1, m1 = push (fresh 0) 1 (Bk.signC L b ⟨1, b.es.length, mo, []⟩).1 := ⟨_, rfl⟩
  rw [← hm1]
  have hl0 : m1.l 0 = [] := by rw [hm1, push_ne _ _ (by decide)]; rfl
  have hl1 : m1.l 1 = [(Bk.signC L b ⟨1, b.es.length, mo, []⟩).1] := by rw [hm1, push_self]; rfl
  have hcs : m1.cs = [] := by rw [hm1]; rfl
  have hmd : m1.mode = 0 := by rw [hm1]; rfl
  obtain ⟨⟨M2, hM2⟩, hS⟩ := entL_sg (L := (Bk.signC L b ⟨1, b.es.length, mo, []⟩).2) (b := { b with last := mo, told := b.es.length }) (m := m1) hk hb hl0 b.es.length (Nat.le_refl _) hr
  obtain ⟨-, q1, -, q3, q4⟩ := entL_l (Bk.signC L b ⟨1, b.es.length, mo, []⟩).2 { b with last := mo, told := b.es.length } m1 0 b.es.length
  unfold fed
  rw [hl0, hcs]
  simp only [List.length_nil, Nat.sub_zero, Nat.lt_irrefl, if_false]
  show ∃ L' b' m', _ ∧ _
  unfold absL
  rw [List.foldl_nil]
  refine ⟨_, _, _, rfl, ⟨M1 ++ M2, by rw [hM2, hM1, List.append_assoc]⟩, q3.trans hmd, ⟨_, q1.trans hl1, ?_⟩, fun i h => hS i h⟩
  rw [hM2]
  exact hsg.more M2
theorem answer_ent {m : Mir} {i : Nat} {s : Sgn} {t : List UInt8} (hm : m.mode = 0) (h : (m.l 0)[i]? = some s) : answer m ⟨1, i, t⟩ = ⟨[s], [], false⟩ := by
  obtain ⟨hi, e⟩ := List.getElem?_eq_some_iff.1 h
  unfold answer
  rw [hm, if_neg (by decide)]
  simp only [show ((1 : Int) = 3) = False by simp, if_false]
  unfold find
  simp only [show ((1 : Int) = 0) = False by simp, if_false, if_true]
  unfold told
  rw [hm, if_neg (by decide), atL_get hi, e]
theorem answer_head {m : Mir} {s : Sgn} {n : Int} {t : List UInt8} (hm : m.mode = 0) (h : m.l 1 = [s]) : answer m ⟨0, n, t⟩ = ⟨[s], [], false⟩ := by
  unfold answer
  rw [hm, if_neg (by decide)]
  simp only [show ((0 : Int) = 3) = False by simp, if_false]
  unfold find
  simp only [if_true]
  unfold told
  rw [hm, if_neg (by decide), if_neg (by decide), h]
  rfl
/-! ### The books -/
theorem key_pre (x : UInt8) (t : List UInt8) : (Cl.key ([49, 58, x, 44] ++ t)).2 = true := by
  have e : Wire.textE [x] = [49, 58, x, 44] := by
    unfold Wire.textE
    rw [show itoa ([x].length : Nat) = [49] by rw [List.length_singleton]; decide +kernel]
    rfl
  have := Wire.rText_back (s := [x]) (r := t) (by rw [List.length_singleton]; decide)
  rw [e] at this
  unfold Cl.key
  rw [this]
def comT (l : List (List UInt8)) : List (List UInt8) := l.map ([49, 58, 99, 44] ++ ·)
def addB (b : Book) (t : List UInt8) : Book := { b with es := b.es ++ [t] }
theorem addB_es (b : Book) (t : List UInt8) : (addB b t).es = b.es ++ [t] := rfl
theorem append_addB (b : Book) (x : UInt8) (t : List UInt8) (ht : t.length ≤ 10000) (hb : b.es.length ≤ 1000) : Bk.append b ([49, 58, x, 44] ++ t) = (((b.es.length : Int), 0), addB b ([49, 58, x, 44] ++ t)) := by
  unfold Bk.append
  rw [key_pre, if_neg (by decide), if_neg (by rw [List.length_append]; simp; omega), if_neg (by omega)]
  rfl
end Go.Proofs.YtkhdnfmnnapjlaaDoor.Mi
