/- Layer 39 (store) in plain words: on a calm disk every operation is done. No program stands in this and so on. -/
import Derived.Test.YtiednpagknnfnaaGreatDoorPkST2
import Derived.Test.YtiednpagknnfnaaGreatDoorPkST4
import Derived.Test.YtiednpagknnfnaaGreatDoorPkST0
import Derived.Lib.SplitLaws
import Derived.Lib.AppendZerosOnto
import Derived.Deep.RegionHeldLaw
set_option linter.unusedVariables false
set_option linter.unusedSimpArgs false
namespace Go.Proofs.YtiednpagknnfnaaGreatDoor.Sg
open Fm (Str)
open Dk (Disk)
open Jr (Jn openJ)
structure Cm (D : Disk) (j : Jn) (S : Sta) (f : Int) (n : Nat) : Prop where
  wl : Wl D j S f n
  calm : Jr.Calm D
  ok : j.broken = false
variable {D : Disk} {j : Jn} {S : Sta} {f : Int} {n : Nat}
theorem Cm.perform (h : Cm D j S f n) (hf : 0 ≤ f ∧ f < 16) (hn : n ≤ 40) {o : Ops} (ho : adm S o) (hs : (opE o).length ≤ 2000) :
    ∃ D' j', Sg.perform D j S o = (D', j', after S o, 0) ∧ Cm D' j' (after S o) f (n + 1) := by
  obtain ⟨h1, h2, _, h4⟩ := h.wl.perform hf hn ho hs
  obtain ⟨e0, c, b⟩ := h4 h.calm h.ok
  have hS := h2 e0
  obtain ⟨⟨D', j', S', e'⟩, hr⟩ : ∃ r, r = Sg.perform D j S o := ⟨_, rfl⟩
  rw [← hr] at h1 hS e0 c b
  dsimp only at h1 hS e0 c b
  subst hS e0
  exact ⟨D', j', hr.symm, h1, c, b⟩
theorem Cm.put_new (h : Cm D j S f n) (hf : 0 ≤ f ∧ f < 16) (hn : n ≤ 40) {t : Str} (ht : t.length ≤ 1000) (hq : find S t = none) :
    ∃ D' j', put D j S t = (D', j', after S (.put t), (S.th.length : Int), 0) ∧ Cm D' j' (after S (.put t)) f (n + 1) := by
  obtain ⟨D', j', e, c⟩ := h.perform hf hn (o := .put t) hq (by simp [opE]; omega)
  refine ⟨D', j', ?_, c⟩
  unfold put
  rw [hq]
  dsimp only
  rw [e]
  rfl
theorem put_old (D : Disk) (j : Jn) {S : Sta} {t : Str} {m : Nat} (hq : find S t = some m) : put D j S t = (D, j, S, (m : Int), 0) := by unfold put; rw [hq]
theorem Cm.set_done (h : Cm D j S f n) (hf : 0 ≤ f ∧ f < 16) (hn : n ≤ 40) {p : Pf} (hp : (pfE p).length ≤ 1900) (hr : rightP p = true) (hi : ∀ x ∈ p.its, there S x.pr = true) :
    ∃ D' j', set D j S p = (D', j', after S (.set p), 0, 0) ∧ Cm D' j' (after S (.set p)) f (n + 1) := by
  obtain ⟨D', j', e, c⟩ := h.perform hf hn (o := .set p) ⟨hr, hi⟩ (by simp [opE]; omega)
  refine ⟨D', j', ?_, c⟩
  unfold set
  rw [if_neg (by rw [hr]; decide), if_neg (by rw [List.all_eq_true.2 hi]; decide), e]
  rfl
theorem set_none (D : Disk) (j : Jn) {S : Sta} {p : Pf} (hr : rightP p = true) (hi : (p.its.all fun x => there S x.pr) = false) : set D j S p = (D, j, S, 0, 4) := by
  unfold set
  rw [if_neg (by rw [hr]; decide), if_pos hi]
theorem Cm.sweep_done (h : Cm D j S f n) (hf : 0 ≤ f ∧ f < 16) (hn : n ≤ 40) (hs : spare S ≠ []) :
    ∃ D' j', sweep D j S = (D', j', after S .sweep, ((spare S).length : Int), 0) ∧ Cm D' j' (after S .sweep) f (n + 1) := by
  obtain ⟨D', j', e, c⟩ := h.perform hf hn (o := .sweep) trivial (by simp [opE])
  refine ⟨D', j', ?_, c⟩
  unfold sweep
  rw [if_neg hs, e]
  rfl
theorem cm_open (hw : Wf D f n) (hc : Jr.Calm D) (hf : 0 ≤ f ∧ f < 16) : ∃ rs, (openJ D f).2.1 = some ⟨f, rs.map recE, false⟩ ∧ (openJ D f).2.2 = 0 ∧ Gd rs ∧ rs.length ≤ 2 * n ∧ Cm (openJ D f).1 ⟨f, rs.map recE, false⟩ (of rs) f (2 * n) ∧ ∀ r ∈ rs, (recE r).length ≤ 2000 := by
  obtain ⟨D', e, c, _⟩ := hc.open_ hf
  rcases hw.open_ hf with ⟨h1, h2, _⟩ | ⟨rs, h1, h2, h3, h4, h5⟩
  · rw [e] at h1; cases h1
  · refine ⟨rs, h1, h2, h3, h4, ⟨opened h5 h3 h4, ?_, rfl⟩, fun r hr => ?_⟩
    · rw [e]; exact c
    · obtain ⟨sure, hi⟩ := h5.inv
      exact hi.small _ (List.mem_map.2 ⟨r, hr, rfl⟩)
end Go.Proofs.YtiednpagknnfnaaGreatDoor.Sg
namespace Go.Proofs.YtiednpagknnfnaaGreatDoor
open Go.RowKit
attribute [local irreducible] Calls CallsIn
def geo (n : Int) : Sg.It := ⟨[103, 101, 111], 1, 0, 0, n⟩
theorem pf2_results (tmps : Array Value) (w : World) {r : Nat} {s : ByteArray} {nv : Value} {T : TypeId} (hr : tmps.getD 4 undef = .pointer (some ⟨r, 0, none⟩)) (hb : w.heap[r]? = some (.cells #[.string s, nv] T (0, 0))) :
    (results Tryz.f27 tmps).run Tryz.prog w = .ok (.agg #[.string s, nv]) w := by
  have c0 : w.cell? ⟨r, 0, none⟩ = some (.string s) := by rw [cells_cell hb]; rfl
  have c1 : w.cell? ⟨r, 1, none⟩ = some nv := by rw [cells_cell hb]; rfl
  rw [Array.getD_eq_getD_getElem?] at hr
  simp [results, Tryz.results27, go_sem, hr, c0, c1]
set_option maxHeartbeats 2000000 in
set_option maxRecDepth 100000 in
theorem profile_c (nm : List UInt8) (n : Int) (w : World) (hgb : nG ≤ w.heap.size) : Calls Tryz.prog 27 #[.string ⟨nm.toArray⟩, .int .i64 n] w fun e w' => ∃ v, e = .returned (.agg #[.string ⟨nm.toArray⟩, v]) ∧ SlS 5 0 w'.heap.size w' v ([geo n].map itC) ∧ Nw w w' := by
  go_enter Tryz.func27, Tryz.ntmps27
  go_wp2_with fail
  have n1 := nw_alloc w (.cells #[.string ⟨nm.toArray⟩, .slice (some ⟨w.heap.size + 1, 0, none⟩) 1 1] tPf)
  have n2 := nw_alloc (w.alloc (.cells #[.string ⟨nm.toArray⟩, .slice (some ⟨w.heap.size + 1, 0, none⟩) 1 1] tPf)) (.cells #[.string ⟨#[103, 101, 111]⟩, .int .i64 1, .int .i64 0, .int .i64 0, .int .i64 n] tPl)
  have b1 := Nw.keep n2 (heap_new w (.cells #[.string ⟨nm.toArray⟩, .slice (some ⟨w.heap.size + 1, 0, none⟩) 1 1] tPf))
  have b2 := heap_new (w.alloc (.cells #[.string ⟨nm.toArray⟩, .slice (some ⟨w.heap.size + 1, 0, none⟩) 1 1] tPf)) (.cells #[.string ⟨#[103, 101, 111]⟩, .int .i64 1, .int .i64 0, .int .i64 0, .int .i64 n] tPl)
  rw [World.size_alloc] at b2
  refine bodyPost_ret (pf2_results _ _ (by simp) b1) rfl ⟨_, rfl, Or.inr ⟨w.heap.size + 1, 0, 1, rfl, Nat.le_refl 1, (by unfold maxLen; omega), Nat.zero_le _, ?_, ?_, fun i hi => ?_⟩, n1.trans n2⟩
  · simp only [World.size_alloc]; omega
  · simp only [World.size_alloc]; omega
  · have hi0 : i = 0 := by simp at hi; omega
    subst hi0
    refine ⟨rfl, fun j hj => ?_⟩
    rw [cells_cell b2, Nat.zero_mul, Nat.add_zero, Nat.zero_add]
    match j, hj with
    | 0, _ => rfl
    | 1, _ => rfl
    | 2, _ => rfl
    | 3, _ => rfl
    | 4, _ => rfl
def CS (w : World) (db : Nat) (f : Int) (F : Nat → Prop) (sb : Nat) (S : Sg.Sta) (n : Nat) (z : World) : Prop := ∃ (x : SgR) (j : Jr.Jn) (D : Dk.Disk), x.sb = sb ∧ SS w db x j S D F z ∧ Sg.Cm D j S f n
section
variable {w : World} {db : Nat} {f : Int} {F : Nat → Prop} {sb : Nat} {S : Sg.Sta} {n : Nat} {z : World}
theorem CS.nw {z' : World} (h : CS w db f F sb S n z) (u : Nw z z') : CS w db f F sb S n z' := by
  obtain ⟨x, j, D, h1, h2, h3⟩ := h
  exact ⟨x, j, D, h1, h2.nw u, h3⟩
theorem CS.keep {F' : Nat → Prop} {z' : World} (h : CS w db f F sb S n z) (u : Nw z z') (hF : ∀ k, F' k → F k ∨ (z.heap.size ≤ k ∧ k < z'.heap.size)) : CS w db f F' sb S n z' := by
  obtain ⟨x, j, D, h1, h2, h3⟩ := h
  exact ⟨x, j, D, h1, h2.keep u hF, h3⟩
theorem CS.nw0 (h : CS w db f F sb S n z) : Nw w z := by
  obtain ⟨x, j, D, h1, h2, h3⟩ := h
  exact h2.nw0
theorem CS.st (h : CS w db f F sb S n z) : ∃ x : SgR, x.sb = sb ∧ SgAt w.heap.size z x S := by
  obtain ⟨x, j, D, h1, h2, h3⟩ := h
  exact ⟨x, h1, h2.st⟩
theorem cs_of {r : Sg.Res} {z' : World} (h : OpD w db sb r F z z') (hc : Sg.Cm r.D r.j r.S f n) : CS w db f F sb r.S n z' ∧ Moves w F z z' := by
  obtain ⟨x', e, h1, h2⟩ := h
  exact ⟨⟨x', _, _, e, h1, hc⟩, h2⟩
theorem putC (g : GmS w) (h : CS w db f F sb S n z) (hf : 0 ≤ f ∧ f < 16) (hn : n ≤ 40) {t : List UInt8} (ht : t.length ≤ 1000) (hq : Sg.find S t = none) :
    Calls Tryz.prog 25 #[.pointer (some ⟨sb, 0, none⟩), .string ⟨t.toArray⟩] z fun e z' => e = .returned (.tuple #[.int .i64 (S.th.length : Nat), .int .i64 0]) ∧ CS w db f F sb (Sg.after S (.put t)) (n + 1) z' ∧ Moves w F z z' := by
  obtain ⟨x, j, D, rfl, h2, h3⟩ := h
  obtain ⟨D', j', e, c⟩ := h3.put_new hf hn ht hq
  have := put_t g.g h2 (t := t) (by omega) (by have := h3.wl.big; omega)
  rw [e] at this
  exact this.mono fun e z' ⟨h1, h2⟩ => ⟨h1, cs_of h2 c⟩
theorem putO (g : GmS w) (h : CS w db f F sb S n z) (hn : n ≤ 40) {t : List UInt8} (ht : t.length ≤ 1000) {m : Nat} (hq : Sg.find S t = some m) :
    Calls Tryz.prog 25 #[.pointer (some ⟨sb, 0, none⟩), .string ⟨t.toArray⟩] z fun e z' => e = .returned (.tuple #[.int .i64 (m : Nat), .int .i64 0]) ∧ CS w db f F sb S n z' ∧ Moves w F z z' := by
  obtain ⟨x, j, D, rfl, h2, h3⟩ := h
  have := put_t g.g h2 (t := t) (by omega) (by have := h3.wl.big; omega)
  rw [Sg.put_old D j hq] at this
  exact this.mono fun e z' ⟨h1, h2⟩ => ⟨h1, cs_of h2 h3⟩
theorem setC (g : GmS w) (h : CS w db f F sb S n z) (hf : 0 ≤ f ∧ f < 16) (hn : n ≤ 40) {p : Sg.Pf} (hp : (Sg.pfE p).length ≤ 1900) (hr : Sg.rightP p = true) (hi : ∀ x ∈ p.its, Sg.there S x.pr = true) {v : Value} {lo hi' : Nat} (hv : SlS 5 lo hi' z v (p.its.map itC)) (hx : ∀ x ∈ p.its, ItArg x) :
    Calls Tryz.prog 26 #[.pointer (some ⟨sb, 0, none⟩), .agg #[.string ⟨p.nm.toArray⟩, v]] z fun e z' => e = .returned (.int .i64 0) ∧ CS w db f F sb (Sg.after S (.set p)) (n + 1) z' ∧ Moves w F z z' := by
  obtain ⟨x, j, D, rfl, h2, h3⟩ := h
  obtain ⟨D', j', e, c⟩ := h3.set_done hf hn hp hr hi
  obtain ⟨r1, r2, _⟩ := right_len hr
  have := set_t g h2 hv (by omega) (by omega) hx (by have := h3.wl.big; omega)
  rw [e] at this
  exact this.mono fun e z' ⟨h1, h2⟩ => ⟨h1, cs_of h2 c⟩
theorem setN (g : GmS w) (h : CS w db f F sb S n z) (hn : n ≤ 40) {p : Sg.Pf} (hr : Sg.rightP p = true) (hi : (p.its.all fun x => Sg.there S x.pr) = false) {v : Value} {lo hi' : Nat} (hv : SlS 5 lo hi' z v (p.its.map itC)) (hx : ∀ x ∈ p.its, ItArg x) :
    Calls Tryz.prog 26 #[.pointer (some ⟨sb, 0, none⟩), .agg #[.string ⟨p.nm.toArray⟩, v]] z fun e z' => e = .returned (.int .i64 4) ∧ CS w db f F sb S n z' ∧ Moves w F z z' := by
  obtain ⟨x, j, D, rfl, h2, h3⟩ := h
  obtain ⟨r1, r2, _⟩ := right_len hr
  have := set_t g h2 hv (by omega) (by omega) hx (by have := h3.wl.big; omega)
  rw [Sg.set_none D j hr hi] at this
  exact this.mono fun e z' ⟨h1, h2⟩ => ⟨h1, cs_of h2 h3⟩
theorem sweepC (g : GmS w) (h : CS w db f F sb S n z) (hf : 0 ≤ f ∧ f < 16) (hn : n ≤ 40) (hs : Sg.spare S ≠ []) :
    Calls Tryz.prog 28 #[.pointer (some ⟨sb, 0, none⟩)] z fun e z' => e = .returned (.tuple #[.int .i64 ((Sg.spare S).length : Nat), .int .i64 0]) ∧ CS w db f F sb (Sg.after S .sweep) (n + 1) z' ∧ Moves w F z z' := by
  obtain ⟨x, j, D, rfl, h2, h3⟩ := h
  obtain ⟨D', j', e, c⟩ := h3.sweep_done hf hn hs
  have := sweep_t g.g h2 (by have := h3.wl.big; omega)
  rw [e] at this
  exact this.mono fun e z' ⟨h1, h2⟩ => ⟨h1, cs_of h2 c⟩
theorem openC (g : GmS w) {z : World} (h : GS w db none Dk.new F z) (hf : 0 ≤ f ∧ f < 16) :
    Calls Tryz.prog 8 #[.pointer (some ⟨db, 0, none⟩), .int .i64 f] z fun e z' => ∃ sb, e = .returned (.tuple #[.pointer (some ⟨sb, 0, none⟩), .int .i64 0]) ∧ CS w db f F sb Sg.nil 0 z' ∧ Moves w F z z' := by
  obtain ⟨rs, h1, h2, h3, h4, h5, h6⟩ := Sg.cm_open (Sg.wf_new f) Jr.calm_new hf
  obtain rfl : rs = [] := List.length_eq_zero_iff.1 (by omega)
  refine (sopen_t g.g h (f := f) (by unfold I64; omega) (Or.inr ⟨h1, h2, h3, by simp, h6⟩)).mono fun e z' ho => ?_
  rcases ho with ⟨k1, _⟩ | ⟨_, x, k1, k2, k3⟩
  · rw [k1] at h1; cases h1
  · exact ⟨x.sb, k1, ⟨x, _, _, rfl, k2, h5⟩, k3⟩
end
end Go.Proofs.YtiednpagknnfnaaGreatDoor
namespace Go.Proofs.YtiednpagknnfnaaGreatDoor.Sg
open Fm (Str)
theorem split_nil : Lib.split [] [45] = [[]] := by
  unfold Lib.split
  rw [Lib.count_one]
  rfl
theorem split_eq (l : Str) : Lib.split (45 :: l) [45] = [] :: Lib.split l [45] := by
  unfold Lib.split
  rw [Lib.count_cons_eq, Nat.add_comm]
  have hi : Lib.index (45 :: l) [45] = 0 := by rw [Lib.index]; simp [List.isPrefixOf]
  show (if Lib.index (45 :: l) [45] == -1 then _ else _) = _
  rw [hi, if_neg (by decide)]
  rfl
theorem split_ne {b : UInt8} (hb : b ≠ 45) (l : Str) : ∃ h t, Lib.split l [45] = h :: t ∧ Lib.split (b :: l) [45] = (b :: h) :: t := by
  unfold Lib.split
  rw [Lib.count_cons_ne b 45 l hb]
  cases hk : Lib.count l [45] with
  | zero => exact ⟨l, [], rfl, rfl⟩
  | succ k =>
    have hne : Lib.index l [45] ≠ -1 := fun e => by rw [Lib.count_miss e] at hk; cases hk
    have hge := Lib.index_ge l [45]
    have hp : ([45] : Str).isPrefixOf (b :: l) = false := by simp [List.isPrefixOf, Ne.symm hb]
    have hi : Lib.index (b :: l) [45] = Lib.index l [45] + 1 := by rw [Lib.index, hp]; simp [hne]
    obtain ⟨m, hm⟩ : ∃ m : Nat, Lib.index l [45] = m := ⟨(Lib.index l [45]).toNat, by omega⟩
    rw [hm] at hi hne
    refine ⟨l.take m, Lib.splitK [45] 0 k (l.drop (m + 1)), ?_, ?_⟩
    · show (if Lib.index l [45] == -1 then _ else _) = _
      rw [hm, if_neg (by simp)]
      rfl
    · show (if Lib.index (b :: l) [45] == -1 then _ else _) = _
      rw [hi, if_neg (by simp; omega), show ((m : Int) + 1).toNat = m + 1 by omega]
      rfl
def ld (c : UInt8) : Bool := letterB c || digitB c
def allP (first : Bool) : List Str → Bool
  | [] => true
  | p :: r => (!p.isEmpty && (!first || letterB (p.getD 0 0)) && p.all ld) && allP false r
def okGo (first start : Bool) : Str → Bool
  | [] => !start
  | c :: s => if c = 45 then !start && okGo false true s else (!(first && start) || letterB c) && ld c && okGo first false s
def partGo (first start : Bool) : List Str → Bool
  | [] => true
  | h :: t => ((!start || !h.isEmpty) && (!(first && start) || letterB (h.getD 0 0)) && h.all ld) && allP false t
theorem partGo_true (first : Bool) (L : List Str) : partGo first true L = allP first L := by
  cases L with
  | nil => rfl
  | cons h t => simp [partGo, allP]
theorem okGo_parts : ∀ (s : Str) (first start : Bool), okGo first start s = partGo first start (Lib.split s [45])
  | [], first, start => by
    rw [split_nil]
    cases start <;> simp [okGo, partGo, allP]
  | b :: l, first, start => by
    by_cases hb : b = 45
    · subst hb
      rw [split_eq]
      have ih := okGo_parts l false true
      rw [partGo_true] at ih
      cases start <;> simp [okGo, partGo, ih]
    · obtain ⟨h, t, e1, e2⟩ := split_ne hb l
      have ih := okGo_parts l first false
      rw [e1] at ih
      rw [e2]
      show (if b = 45 then _ else _) = _
      rw [if_neg hb, ih]
      simp [partGo, Bool.and_assoc, Bool.and_comm, Bool.and_left_comm]
theorem allP_range : ∀ (L : List Str) (k : Nat), (List.range L.length).all (fun i => partN (i + k) (L.getD i [])) = allP (decide (k = 0)) L
  | [], k => rfl
  | p :: r, k => by
    have ih := allP_range r (k + 1)
    rw [decide_eq_false (by omega : ¬ k + 1 = 0)] at ih
    rw [List.length_cons, List.range_succ_eq_map, List.all_cons, List.all_map]
    show (partN (0 + k) p && (List.range r.length).all (fun i => partN (i + 1 + k) (r.getD i []))) = _
    rw [show (fun i => partN (i + 1 + k) (r.getD i [])) = fun i => partN (i + (k + 1)) (r.getD i []) from funext fun i => by rw [Nat.add_assoc, Nat.add_comm 1 k], ih]
    show (partN (0 + k) p && _) = ((!p.isEmpty && (!decide (k = 0) || letterB (p.getD 0 0)) && p.all ld) && _)
    congr 1
    unfold partN
    rw [Nat.zero_add]
    have : decide (k ≠ 0) = !decide (k = 0) := by by_cases hk : k = 0 <;> simp [hk]
    rw [this]
    rfl
theorem nameR_go (s : Str) : nameR s = (decide (s.length ≤ 20) && okGo true true s) := by
  rw [okGo_parts, partGo_true]
  have := allP_range (partsN s) 0
  show (decide (s.length ≤ 20) && (List.range (partsN s).length).all fun i => partN (i + 0) ((partsN s).getD i [])) = _
  rw [this]
  rfl
def refB (s : Str) (i : Nat) : Bool := (letterB (s.getD i 0) || (decide (i ≠ 0) && (digitB (s.getD i 0) || s.getD i 0 == 45))) && !(s.getD i 0 == 45 && (decide (i + 1 = s.length) || s.getD (i - 1) 0 == 45))
def refName (s : Str) : Bool := decide (1 ≤ s.length) && decide (s.length ≤ 20) && (List.range s.length).all (refB s)
theorem okGo_iff : ∀ (s : Str) (first start : Bool), okGo first start s = true ↔ ((s = [] → start = false) ∧ ∀ i, i < s.length →
    (s.getD i 0 = 45 → (i = 0 → start = false) ∧ (0 < i → s.getD (i - 1) 0 ≠ 45) ∧ i + 1 < s.length) ∧ (s.getD i 0 ≠ 45 → ld (s.getD i 0) = true ∧ (i = 0 → first = true → start = true → letterB (s.getD i 0) = true)))
  | [], first, start => by simp [okGo]
  | b :: l, first, start => by
    by_cases hb : b = 45
    · subst hb
      have ih := okGo_iff l false true
      show (if (45 : UInt8) = 45 then _ else _) = true ↔ _
      rw [if_pos rfl, Bool.and_eq_true, ih]
      constructor
      · rintro ⟨h1, h2, h3⟩
        have hs : start = false := by simpa using h1
        have hl : l ≠ [] := fun e => by cases h2 e
        refine ⟨fun e => (by cases e), fun i hi => ?_⟩
        cases i with
        | zero => exact ⟨fun _ => ⟨fun _ => hs, fun h => absurd h (Nat.lt_irrefl _), by have := List.length_pos_iff.2 hl; rw [List.length_cons]; omega⟩, fun h => absurd rfl h⟩
        | succ i =>
          obtain ⟨h4, h5⟩ := h3 i (by simpa using hi)
          refine ⟨fun hc => ?_, fun hc => ⟨(h5 hc).1, fun e => by cases e⟩⟩
          obtain ⟨k1, k2, k3⟩ := h4 hc
          refine ⟨fun e => (by cases e), fun _ => ?_, by simp; omega⟩
          cases i with
          | zero => cases k1 rfl
          | succ i => exact k2 (by omega)
      · rintro ⟨h1, h2⟩
        obtain ⟨h3, _⟩ := h2 0 (by simp)
        obtain ⟨k1, _, k3⟩ := h3 rfl
        have hl : l ≠ [] := fun e => by subst e; simp at k3
        refine ⟨by rw [k1 rfl]; rfl, fun e => absurd e hl, fun i hi => ?_⟩
        obtain ⟨h4, h5⟩ := h2 (i + 1) (by simpa using hi)
        refine ⟨fun hc => ?_, fun hc => ⟨(h5 hc).1, fun _ e => by cases e⟩⟩
        obtain ⟨q1, q2, q3⟩ := h4 hc
        have q2 := q2 (by omega)
        refine ⟨fun e => ?_, fun h0 => ?_, by simp at q3; omega⟩
        · subst e; exact absurd rfl q2
        · cases i with
          | zero => omega
          | succ i => exact q2
    · have ih := okGo_iff l first false
      show (if b = 45 then _ else _) = true ↔ _
      rw [if_neg hb, Bool.and_eq_true, Bool.and_eq_true, ih]
      constructor
      · rintro ⟨⟨h1, h2⟩, h3, h4⟩
        refine ⟨fun e => (by cases e), fun i hi => ?_⟩
        cases i with
        | zero =>
          refine ⟨fun hc => absurd hc hb, fun _ => ⟨h2, fun _ e1 e2 => ?_⟩⟩
          rw [e1, e2] at h1
          simpa using h1
        | succ i =>
          obtain ⟨k1, k2⟩ := h4 i (by simpa using hi)
          refine ⟨fun hc => ?_, fun hc => ⟨(k2 hc).1, fun e => by cases e⟩⟩
          obtain ⟨q1, q2, q3⟩ := k1 hc
          refine ⟨fun e => (by cases e), fun _ => ?_, by simp; omega⟩
          cases i with
          | zero => exact hb
          | succ i => exact q2 (by omega)
      · rintro ⟨h1, h2⟩
        obtain ⟨_, h3⟩ := h2 0 (by simp)
        obtain ⟨k1, k2⟩ := h3 hb
        refine ⟨⟨?_, k1⟩, fun _ => rfl, fun i hi => ?_⟩
        · cases first with
          | false => rfl
          | true =>
            cases start with
            | false => rfl
            | true => exact k2 rfl rfl rfl
        · obtain ⟨h4, h5⟩ := h2 (i + 1) (by simpa using hi)
          refine ⟨fun hc => ?_, fun hc => ⟨(h5 hc).1, fun _ _ e => by cases e⟩⟩
          obtain ⟨q1, q2, q3⟩ := h4 hc
          refine ⟨fun _ => rfl, fun h0 => ?_, by simp at q3; omega⟩
          have := q2 (by omega)
          cases i with
          | zero => omega
          | succ i => exact this
theorem refName_eq (s : Str) : refName s = nameR s := by
  rw [nameR_go, Bool.eq_iff_iff]
  unfold refName
  rw [Bool.and_eq_true, Bool.and_eq_true, Bool.and_eq_true, okGo_iff, List.all_eq_true]
  simp only [decide_eq_true_eq, List.mem_range]
  constructor
  · rintro ⟨⟨h1, h2⟩, h3⟩
    refine ⟨h2, fun e => by subst e; simp at h1, fun i hi => ?_⟩
    have h4 := h3 i hi
    unfold refB at h4
    simp only [Bool.and_eq_true, Bool.or_eq_true, Bool.not_eq_true', Bool.and_eq_false_iff, Bool.or_eq_false_iff, decide_eq_true_eq, decide_eq_false_iff_not, beq_iff_eq, beq_eq_false_iff_ne] at h4
    obtain ⟨k1, k2⟩ := h4
    refine ⟨fun hc => ?_, fun hc => ⟨?_, fun e _ _ => ?_⟩⟩
    · have k2 := k2.resolve_left (fun h => h hc)
      have hn : letterB (s.getD i 0) = false := by rw [hc]; decide
      have hi0 : i ≠ 0 := by
        rcases k1 with k1 | k1
        · rw [hn] at k1; cases k1
        · exact k1.1
      exact ⟨fun e => absurd e hi0, fun _ => k2.2, by omega⟩
    · unfold ld
      rcases k1 with k1 | ⟨_, k1 | k1⟩
      · rw [k1]; rfl
      · rw [k1, Bool.or_true]
      · exact absurd k1 hc
    · subst e
      rcases k1 with k1 | k1
      · exact k1
      · exact absurd rfl k1.1
  · rintro ⟨h1, h2, h3⟩
    have hl : 1 ≤ s.length := by
      cases s with
      | nil => cases h2 rfl
      | cons a l => simp
    refine ⟨⟨hl, h1⟩, fun i hi => ?_⟩
    obtain ⟨k1, k2⟩ := h3 i hi
    unfold refB
    simp only [Bool.and_eq_true, Bool.or_eq_true, Bool.not_eq_true', Bool.and_eq_false_iff, Bool.or_eq_false_iff, decide_eq_true_eq, decide_eq_false_iff_not, beq_iff_eq, beq_eq_false_iff_ne]
    by_cases hc : s.getD i 0 = 45
    · obtain ⟨q1, q2, q3⟩ := k1 hc
      have hi0 : i ≠ 0 := fun e => by cases q1 e
      exact ⟨Or.inr ⟨hi0, Or.inr hc⟩, Or.inr ⟨by omega, q2 (by omega)⟩⟩
    · obtain ⟨q1, q2⟩ := k2 hc
      refine ⟨?_, Or.inl hc⟩
      by_cases hi0 : i = 0
      · exact Or.inl (q2 hi0 trivial trivial)
      · unfold ld at q1
        rcases Bool.or_eq_true _ _ ▸ q1 with q | q
        · exact Or.inl q
        · exact Or.inr ⟨hi0, Or.inl q⟩
theorem fold_last {rs : List (Option Ops)} {i : Nat} (hi : i < rs.length) : (fold (rs.take (i + 1))).1 = rs[i] := by
  rw [List.take_succ_eq_append_getElem hi, fold_snoc]
  cases hr : rs[i] with
  | none => cases hq : (fold (rs.take i)).1 <;> simp [step, hq]
  | some o => rfl
theorem of_one (rs : List (Option Ops)) : of (rs.take 1) = nil := by
  cases rs with
  | nil => rfl
  | cons r l => cases r <;> rfl
theorem of_done2 {rs : List (Option Ops)} {i : Nat} (hi : i + 1 < rs.length) {o : Ops} (h1 : rs[i + 1] = none) (h0 : rs[i] = some o) : of (rs.take (i + 2)) = after (of (rs.take (i + 1))) o := by
  have hl := fold_last (rs := rs) (i := i) (by omega)
  unfold of
  rw [show i + 2 = (i + 1) + 1 from rfl, List.take_succ_eq_append_getElem hi, fold_snoc, h1]
  unfold step
  rw [hl, h0]
theorem of_none2 {rs : List (Option Ops)} {i : Nat} (hi : i + 1 < rs.length) (h1 : rs[i + 1] = none) (h0 : rs[i] = none) : of (rs.take (i + 2)) = of (rs.take (i + 1)) := by
  have hl := fold_last (rs := rs) (i := i) (by omega)
  unfold of
  rw [show i + 2 = (i + 1) + 1 from rfl, List.take_succ_eq_append_getElem hi, fold_snoc, h1]
  unfold step
  rw [hl, h0]
theorem of_some2 {rs : List (Option Ops)} {i : Nat} (hi : i + 1 < rs.length) {o : Ops} (h1 : rs[i + 1] = some o) : of (rs.take (i + 2)) = of (rs.take (i + 1)) := by
  unfold of
  rw [show i + 2 = (i + 1) + 1 from rfl, List.take_succ_eq_append_getElem hi, fold_snoc, h1]
  unfold step
  rfl
theorem find_hit {S : Sta} {t : Str} {i : Nat} (hi : i < S.th.length) (h : ∀ j, j < i → (thereN S j && decide (textN S j = t)) = false) (hh : (thereN S i && decide (textN S i = t)) = true) : find S t = some i := by
  unfold find
  rw [List.find?_eq_some_iff_getElem]
  refine ⟨hh, i, by simpa using hi, by simp, fun j hj => ?_⟩
  rw [List.getElem_range, h j hj]; rfl
theorem find_miss {S : Sta} {t : Str} (h : ∀ j, j < S.th.length → (thereN S j && decide (textN S j = t)) = false) : find S t = none := by
  unfold find
  refine List.find?_eq_none.2 fun j hj => ?_
  rw [h j (List.mem_range.1 hj)]; decide
theorem prof_hit {S : Sta} {nm : Str} {i : Nat} (hi : i < S.pf.length) (h : ∀ j (hj : j < S.pf.length), j < i → (S.pf[j]).nm ≠ nm) (hh : (S.pf[i]).nm = nm) : prof S nm = some S.pf[i] := by
  unfold prof
  rw [List.find?_eq_some_iff_getElem]
  refine ⟨by simpa using hh, i, hi, rfl, fun j hj => ?_⟩
  have := h j (by omega) hj
  simp [this]
theorem prof_miss {S : Sta} {nm : Str} (h : ∀ j (hj : j < S.pf.length), (S.pf[j]).nm ≠ nm) : prof S nm = none := by
  unfold prof
  refine List.find?_eq_none.2 fun p hp => ?_
  obtain ⟨j, hj, rfl⟩ := List.getElem_of_mem hp
  simp [h j hj]
theorem used_hit {l : List Pf} {n : Int} {i k : Nat} (hi : i < l.length) (hk : k < l[i].its.length) (h : (l[i].its[k]).pr = n) : usedL l n = true := by
  unfold usedL
  exact List.any_eq_true.2 ⟨l[i], List.getElem_mem hi, List.any_eq_true.2 ⟨l[i].its[k], List.getElem_mem hk, by simpa using h⟩⟩
theorem used_miss {l : List Pf} {n : Int} (h : ∀ i (hi : i < l.length), ∀ k (hk : k < l[i].its.length), (l[i].its[k]).pr ≠ n) : usedL l n = false := by
  unfold usedL
  rw [List.any_eq_false]
  intro p hp
  obtain ⟨i, hi, rfl⟩ := List.getElem_of_mem hp
  rw [Bool.not_eq_true, List.any_eq_false]
  intro x hx
  obtain ⟨k, hk, rfl⟩ := List.getElem_of_mem hx
  simpa using h i hi k hk
end Go.Proofs.YtiednpagknnfnaaGreatDoor.Sg
namespace Go.Proofs.YtiednpagknnfnaaGreatDoor
open Go.RowKit
attribute [local irreducible] Calls CallsIn
abbrev tSta : TypeId := 42
abbrev tRSt : TypeId := 44
def pfC (q : Sg.Pf × Value) : List Value := [bsV q.1.nm, q.2]
def pfL (C : List (Sg.Pf × Value)) : List Value := (C.map pfC).flatten
theorem pfL_snoc (C : List (Sg.Pf × Value)) (q : Sg.Pf × Value) : pfL (C ++ [q]) = pfL C ++ pfC q := by simp [pfL]
theorem pfL_app (C D : List (Sg.Pf × Value)) : pfL (C ++ D) = pfL C ++ pfL D := by simp [pfL]
theorem pfL_len (C : List (Sg.Pf × Value)) : (pfL C).length = C.length * 2 := by
  induction C with
  | nil => rfl
  | cons a l ih =>
    show (pfC a ++ pfL l).length = _
    rw [List.length_append, ih, List.length_cons]
    show 2 + l.length * 2 = _
    omega
structure SvR where
  tv : Value
  hv : Value
  pv : Value
def SvR.val (v : SvR) : Value := .agg #[v.tv, v.hv, v.pv]
def SvR.blk (v : SvR) (k : Nat) : Prop := v.tv.ownBlock = some k ∨ v.hv.ownBlock = some k ∨ v.pv.ownBlock = some k
def PsAt (B : Nat) (P : Nat → Prop) (z : World) (pv : Value) (l : List Sg.Pf) : Prop := ∃ C, l = C.map (·.1) ∧ z.ownsRow B tPf 2 pv C.length (pfL C) ∧ ∀ q ∈ C, ItsAt B P z q.2 q.1.its
structure SvAt (B : Nat) (P : Nat → Prop) (z : World) (v : SvR) (S : Sg.Sta) : Prop where
  g : Sg.G S
  big : Sg.big S ≤ 1000
  tl : ∀ t ∈ S.tx, t.length ≤ 20000
  t : z.ownsRow B 9 1 v.tv S.tx.length (S.tx.map bsV)
  h : z.ownsRow B 4 1 v.hv S.th.length (S.th.map Value.bool)
  p : PsAt B P z v.pv S.pf
  pb : ∀ k, v.blk k → P k
section
variable {B : Nat} {P Q U : Nat → Prop} {z z' : World} {v : SvR} {S : Sg.Sta}
theorem PsAt.upd {pv : Value} {l : List Sg.Pf} (h : PsAt B P z pv l) (u : Upd U z z') (hp : ∀ k, pv.ownBlock = some k → P k) (hs : ∀ k, P k → ¬ U k) : PsAt B P z' pv l := by
  obtain ⟨C, h1, h2, h3⟩ := h
  exact ⟨C, h1, owns_upd' h2 u (fun k hk => hs k (hp k hk)), fun q hq => (h3 q hq).upd u hs⟩
theorem PsAt.nw {pv : Value} {l : List Sg.Pf} (h : PsAt B P z pv l) (u : Nw z z') : PsAt B P z' pv l := by
  obtain ⟨C, h1, h2, h3⟩ := h
  exact ⟨C, h1, owns_upd' h2 u (fun k hk s => s), fun q hq => (h3 q hq).upd u (fun k hk s => s)⟩
theorem ItsAt.mono {l : List Sg.It} {w : Value} (h : ItsAt B P z w l) (hp : ∀ k, k < z.heap.size → P k → Q k) : ItsAt B Q z w l := ⟨h.1, fun k hk => hp k (h.1.lt k hk).2 (h.2 k hk)⟩
theorem SvAt.upd (h : SvAt B P z v S) (u : Upd U z z') (hs : ∀ k, P k → ¬ U k) : SvAt B P z' v S :=
  ⟨h.g, h.big, h.tl, owns_upd' h.t u (fun k hk => hs k (h.pb k (Or.inl hk))), owns_upd' h.h u (fun k hk => hs k (h.pb k (Or.inr (Or.inl hk)))), h.p.upd u (fun k hk => h.pb k (Or.inr (Or.inr hk))) hs, h.pb⟩
theorem SvAt.nw (h : SvAt B P z v S) (u : Nw z z') : SvAt B P z' v S := h.upd u (fun _ _ s => s)
theorem SvAt.mono (h : SvAt B P z v S) (hp : ∀ k, k < z.heap.size → P k → Q k) : SvAt B Q z v S := by
  obtain ⟨C, h1, h2, h3⟩ := h.p
  refine ⟨h.g, h.big, h.tl, h.t, h.h, ⟨C, h1, h2, fun q hq => (h3 q hq).mono hp⟩, fun k hk => hp k ?_ (h.pb k hk)⟩
  rcases hk with hk | hk | hk
  · exact (h.t.lt k hk).2
  · exact (h.h.lt k hk).2
  · exact (h2.lt k hk).2
theorem SvAt.len (h : SvAt B P z v S) : S.tx.length ≤ 1000 ∧ S.th.length ≤ 1000 ∧ S.pf.length ≤ 1000 ∧ S.tx.length = S.th.length := by
  have h1 := h.big
  have h2 := h.g.len
  unfold Sg.big at h1
  omega
theorem SvAt.its (h : SvAt B P z v S) {p : Sg.Pf} (hp : p ∈ S.pf) : p.its.length ≤ 60 := (right_len (h.g.right p hp)).2.1
theorem SvAt.tcell (h : SvAt B P z v S) : ∃ a c, v.tv = .slice a S.tx.length c ∧ ∀ i (hi : i < S.tx.length), ∃ b, a = some ⟨b, 0, none⟩ ∧ z.cell? ⟨b, i, none⟩ = some (.string ⟨(S.tx[i]).toArray⟩) := by
  obtain ⟨a, c, e⟩ := own_slS h.t
  refine ⟨a, c, e, fun i hi => ?_⟩
  have ho := h.t
  rcases ho.2 with ⟨_, hn⟩ | ⟨g, cap, cur, e2, _⟩
  · omega
  · rw [e] at e2 ho
    cases e2
    have := ho.cells (g := g) rfl i (bsV S.tx[i]) (by rw [List.getElem?_map, List.getElem?_eq_getElem hi]; rfl)
    rw [add_plain, Nat.zero_add] at this
    exact ⟨g, rfl, this⟩
theorem SvAt.hcell (h : SvAt B P z v S) : ∃ a c, v.hv = .slice a S.th.length c ∧ ∀ i (hi : i < S.th.length), ∃ b, a = some ⟨b, 0, none⟩ ∧ z.cell? ⟨b, i, none⟩ = some (.bool S.th[i]) := by
  obtain ⟨a, c, e⟩ := own_slS h.h
  refine ⟨a, c, e, fun i hi => ?_⟩
  have ho := h.h
  rcases ho.2 with ⟨_, hn⟩ | ⟨g, cap, cur, e2, _⟩
  · omega
  · rw [e] at e2 ho
    cases e2
    have := ho.cells (g := g) rfl i (.bool S.th[i]) (by rw [List.getElem?_map, List.getElem?_eq_getElem hi]; rfl)
    rw [add_plain, Nat.zero_add] at this
    exact ⟨g, rfl, this⟩
theorem pf_cells {w : World} {g n cap : Nat} {C : List (Sg.Pf × Value)} (h : w.ownsRow B tPf 2 (.slice (some ⟨g, 0, none⟩) n cap) n (pfL C)) (i : Nat) (hi : i < C.length) :
    w.cell? ⟨g, i * 2, none⟩ = some (.string ⟨(C[i].1.nm).toArray⟩) ∧ w.cell? ⟨g, i * 2 + 1, none⟩ = some C[i].2 := by
  have hc : ∀ j, j < 2 → w.cell? ⟨g, i * 2 + j, none⟩ = (pfC C[i])[j]? := fun j hj => by
    have h1 := flat_at (C.map pfC) i j (fun x hx => by obtain ⟨y, _, rfl⟩ := List.mem_map.1 hx; rfl) hj (by simpa using hi)
    rw [List.getElem_map] at h1
    have hj2 : j < (pfC C[i]).length := hj
    rw [List.getElem?_eq_getElem hj2] at h1 ⊢
    have := h.cells (g := g) rfl (i * 2 + j) _ h1
    rw [add_plain, Nat.zero_add] at this
    exact this
  exact ⟨hc 0 (by omega), hc 1 (by omega)⟩
theorem PsAt.cells {pv : Value} {l : List Sg.Pf} (h : PsAt B P z pv l) : ∃ a c, pv = .slice a l.length c ∧ ∀ i (hi : i < l.length), ∃ b iv, a = some ⟨b, 0, none⟩ ∧ z.cell? ⟨b, i * 2, none⟩ = some (.string ⟨(l[i].nm).toArray⟩) ∧ z.cell? ⟨b, i * 2 + 1, none⟩ = some iv ∧ ItsAt B P z iv l[i].its := by
  obtain ⟨C, rfl, ho, hit⟩ := h
  obtain ⟨a, c, e⟩ := own_slS ho
  refine ⟨a, c, by rw [e, List.length_map], fun i hi => ?_⟩
  rw [List.length_map] at hi
  rcases ho.2 with ⟨_, hn⟩ | ⟨g, cap, cur, e2, _⟩
  · omega
  · rw [e] at e2 ho
    cases e2
    obtain ⟨h1, h2⟩ := pf_cells ho i hi
    refine ⟨g, C[i].2, rfl, ?_, h2, ?_⟩
    · rw [List.getElem_map]; exact h1
    · rw [List.getElem_map]; exact hit _ (List.getElem_mem hi)
theorem there_at {i : Nat} (hi : i < S.th.length) : Sg.thereN S i = S.th[i] := by
  unfold Sg.thereN
  rw [List.getD_eq_getElem?_getD, List.getElem?_eq_getElem hi]; rfl
theorem there_natR {i : Nat} : Sg.there S (i : Int) = Sg.thereN S i := by
  unfold Sg.there
  rw [Int.toNat_natCast]
  simp
theorem text_at {i : Nat} (hi : i < S.tx.length) : Sg.textN S i = S.tx[i] := by
  unfold Sg.textN
  rw [List.getD_eq_getElem?_getD, List.getElem?_eq_getElem hi]; rfl
end
section
variable {B : Nat} {P : Nat → Prop} {z : World} {v : SvR} {S : Sg.Sta}
set_option maxHeartbeats 4000000 in
set_option maxRecDepth 100000 in
theorem rFind_c (h : SvAt B P z v S) (t : List UInt8) :
    Calls Tryz.prog 37 #[v.val, .string ⟨t.toArray⟩] z fun e z' => e = .returned (.tuple #[.int .i64 ((Sg.find S t).getD 0 : Nat), .bool (Sg.find S t).isSome]) ∧ Nw z z' := by
  obtain ⟨ta, tc, et, ht⟩ := h.tcell
  obtain ⟨ha, hc, eh, hh⟩ := h.hcell
  obtain ⟨l1, l2, l3, l4⟩ := h.len
  obtain ⟨tv, hv, pv⟩ := v
  dsimp only at et eh
  subst et eh
  have n1 := nw_alloc z (.cells #[.slice ta S.tx.length tc, .slice ha S.th.length hc, pv] tSta)
  have b1 := heap_new z (.cells #[.slice ta S.tx.length tc, .slice ha S.th.length hc, pv] tSta)
  obtain ⟨w1, hw1⟩ : ∃ y, y = z.alloc (.cells #[.slice ta S.tx.length tc, .slice ha S.th.length hc, pv] tSta) := ⟨_, rfl⟩
  rw [← hw1] at n1 b1
  have c0 : w1.cell? ⟨z.heap.size, 0, none⟩ = some (.slice ta S.tx.length tc) := by rw [cells_cell b1]; rfl
  have c1 : w1.cell? ⟨z.heap.size, 1, none⟩ = some (.slice ha S.th.length hc) := by rw [cells_cell b1]; rfl
  have HW1 := Lib.hid hw1
  have HN1 := Lib.hid n1
  have HT := Lib.hid ht
  have HH := Lib.hid hh
  have H4 := Lib.hid l4
  have l1' : (S.tx.length : Int) ≤ 1000 := by omega
  clear h ht hh b1 hw1 n1 l4
  unfold SvR.val
  go_enter Tryz.func37, Tryz.ntmps37
  go_upto_region 1 with fail
  rw [← HW1.out]
  clear HW1
  go_wp2_with fail
  go_loopw [6] (fun iv wr => ∃ i : Nat, i ≤ S.tx.length ∧ iv = .int .i64 (i : Int) ∧ Hid (∀ j, j < i → (Sg.thereN S j && decide (Sg.textN S j = t)) = false) ∧ Hid (w1 = wr)) (fun iv _ => S.tx.length - (intOf iv).toNat)
  case atStart => exact ⟨0, Nat.zero_le _, rfl, (fun j h => by omega), rfl⟩
  case round =>
    obtain ⟨i, hi, rfl, hno, hw⟩ := hrel
    obtain rfl := hw.out
    clear hw
    by_cases hlt : i < S.tx.length
    · have hlh : i < S.th.length := by rw [← H4.out]; exact hlt
      obtain ⟨tb, rfl, d0⟩ := HT.out i hlt
      obtain ⟨hb, rfl, d1⟩ := HH.out i hlh
      have e0 := nw_cellS HN1.out d0
      have e1 := nw_cellS HN1.out d1
      have hth := there_at hlh
      have htx := text_at hlt
      have hyes : (Sg.thereN S i && decide (Sg.textN S i = t)) = false → ∀ j, j < i + 1 → (Sg.thereN S j && decide (Sg.textN S j = t)) = false := fun h j hj => by
        rcases Nat.lt_or_ge j i with h1 | h1
        · exact hno.out j h1
        · obtain rfl : j = i := by omega
          exact h
      have hhit := fun h => Sg.find_hit hlh hno.out h
      have HYes := Lib.hid hyes
      have HHit := Lib.hid hhit
      have HLt := Lib.hid hlt
      generalize S.th[i] = hbv at *
      generalize S.tx[i] = ti at *
      have HQ := Lib.hid (And.intro hth htx)
      clear hyes hhit hno d0 d1 hth htx
      cases hbv with
      | false =>
        have hR := Lib.hid (HYes.out (by rw [HQ.out.1]; rfl))
        go_wp2_with fail
        go_roundw
        case rel => exact ⟨i + 1, HLt.out, by simp, hR, trivial⟩
        case measure =>
          have := HLt.out
          simp only [intOf]
          omega
      | true =>
        cases hbt : (ti == t) with
        | false =>
          have hne : ¬ ti = t := fun e => by rw [e] at hbt; simp at hbt
          have hR := Lib.hid (HYes.out (by rw [HQ.out.1, HQ.out.2, decide_eq_false hne]; rfl))
          clear hne
          go_wp2_with fail
          go_roundw
          case rel => exact ⟨i + 1, HLt.out, by simp, hR, trivial⟩
          case measure =>
            have := HLt.out
            simp only [intOf]
            omega
        | true =>
          have he : ti = t := beq_iff_eq.1 hbt
          have hR := Lib.hid (HHit.out (by rw [HQ.out.1, HQ.out.2, decide_eq_true he]; rfl))
          clear he
          go_wp2_with fail
          go_ret2
          rw [hR.out]
          exact ⟨rfl, HN1.out⟩
    · have hR := Lib.hid (Sg.find_miss (S := S) (t := t) (fun j hj => hno.out j (by have := H4.out; omega)))
      clear hno
      go_wp2_with fail
      go_ret2
      rw [hR.out]
      exact ⟨rfl, HN1.out⟩
set_option maxHeartbeats 4000000 in
set_option maxRecDepth 100000 in
theorem rText_c (h : SvAt B P z v S) {n : Int} (hn : I64 n) :
    Calls Tryz.prog 72 #[v.val, .int .i64 n] z fun e z' => e = .returned (.tuple #[bsV (if Sg.there S n then Sg.textN S n.toNat else []), .bool (Sg.there S n)]) ∧ Nw z z' := by
  obtain ⟨ta, tc, et, ht⟩ := h.tcell
  obtain ⟨ha, hc, eh, hh⟩ := h.hcell
  obtain ⟨l1, l2, l3, l4⟩ := h.len
  obtain ⟨tv, hv, pv⟩ := v
  dsimp only at et eh
  subst et eh
  have n1 := nw_alloc z (.cells #[.slice ta S.tx.length tc, .slice ha S.th.length hc, pv] tSta)
  have b1 := heap_new z (.cells #[.slice ta S.tx.length tc, .slice ha S.th.length hc, pv] tSta)
  obtain ⟨w1, hw1⟩ : ∃ y, y = z.alloc (.cells #[.slice ta S.tx.length tc, .slice ha S.th.length hc, pv] tSta) := ⟨_, rfl⟩
  rw [← hw1] at n1 b1
  have c0 : w1.cell? ⟨z.heap.size, 0, none⟩ = some (.slice ta S.tx.length tc) := by rw [cells_cell b1]; rfl
  have c1 : w1.cell? ⟨z.heap.size, 1, none⟩ = some (.slice ha S.th.length hc) := by rw [cells_cell b1]; rfl
  have HW1 := Lib.hid hw1
  have HN1 := Lib.hid n1
  have HT := Lib.hid ht
  have HH := Lib.hid hh
  have l1' : (S.tx.length : Int) ≤ 1000 := by omega
  have l2' : (S.th.length : Int) ≤ 1000 := by omega
  have l4' := Lib.hid l4
  clear h ht hh b1 hw1 n1 l4
  unfold SvR.val
  obtain ⟨ov, hov⟩ : ∃ o, o = bsV (if Sg.there S n then Sg.textN S n.toNat else []) := ⟨_, rfl⟩
  obtain ⟨ob, hob⟩ : ∃ o, o = Sg.there S n := ⟨_, rfl⟩
  rw [← hov, ← hob]
  have HOv := Lib.hid hov
  have HOb := Lib.hid hob
  clear hov hob
  by_cases h0 : n < 0
  · have hE := Lib.hid (show Sg.there S n = false by unfold Sg.there; rw [decide_eq_false (by omega)]; rfl)
    go_enter Tryz.func72, Tryz.ntmps72
    go_upto_region 1 with fail
    rw [← HW1.out]
    go_wp2_with fail
    go_ret2
    rw [HOv.out, HOb.out, hE.out]
    exact ⟨rfl, HN1.out⟩
  obtain ⟨i, rfl⟩ : ∃ i : Nat, n = i := ⟨n.toNat, by omega⟩
  by_cases hlt : i < S.tx.length
  · have hlh : i < S.th.length := by rw [← l4'.out]; exact hlt
    obtain ⟨tb, rfl, d0⟩ := HT.out i hlt
    obtain ⟨hb, rfl, d1⟩ := HH.out i hlh
    have e0 := nw_cellS HN1.out d0
    have e1 := nw_cellS HN1.out d1
    have hth := Lib.hid (there_natR.trans (there_at hlh))
    have htx := Lib.hid (text_at hlt)
    have hli : (i : Int) < S.tx.length := by omega
    have hli2 : (i : Int) < S.th.length := by omega
    have hli3 : ¬ S.tx.length ≤ i := by omega
    generalize S.th[i] = hbv at *
    generalize S.tx[i] = ti at *
    clear d0 d1
    cases hbv with
    | false =>
      go_enter Tryz.func72, Tryz.ntmps72
      go_upto_region 1 with fail
      rw [← HW1.out]
      go_wp2_with fail
      go_ret2
      rw [HOv.out, HOb.out, hth.out]
      exact ⟨rfl, HN1.out⟩
    | true =>
      go_enter Tryz.func72, Tryz.ntmps72
      go_upto_region 1 with fail
      rw [← HW1.out]
      go_wp2_with fail
      go_ret2
      rw [HOv.out, HOb.out, hth.out, if_pos rfl, Int.toNat_natCast, htx.out]
      exact ⟨rfl, HN1.out⟩
  · have hE := Lib.hid (show Sg.there S (i : Int) = false by
      rw [there_natR]
      cases ht : Sg.thereN S i with
      | false => rfl
      | true => have := Sg.thereN_lt ht; have := l4'.out; omega)
    have hli : ¬ (i : Int) < S.tx.length := by omega
    have hli2 : (S.tx.length : Int) ≤ i := by omega
    have hli3 : S.tx.length ≤ i := by omega
    go_enter Tryz.func72, Tryz.ntmps72
    go_upto_region 1 with fail
    rw [← HW1.out]
    go_wp2_with fail
    go_ret2
    rw [HOv.out, HOb.out, hE.out]
    exact ⟨rfl, HN1.out⟩
theorem rpf_results (tmps : Array Value) (w : World) {r : Nat} {s : ByteArray} {nv : Value} {b : Bool} {T : TypeId} (hr : tmps.getD 4 undef = .pointer (some ⟨r, 0, none⟩)) (h5 : tmps.getD 5 undef = .bool b) (hb : w.heap[r]? = some (.cells #[.string s, nv] T (0, 0))) :
    (results Tryz.f74 tmps).run Tryz.prog w = .ok (.tuple #[.agg #[.string s, nv], .bool b]) w := by
  have c0 : w.cell? ⟨r, 0, none⟩ = some (.string s) := by rw [cells_cell hb]; rfl
  have c1 : w.cell? ⟨r, 1, none⟩ = some nv := by rw [cells_cell hb]; rfl
  rw [Array.getD_eq_getD_getElem?] at hr h5
  simp [results, Tryz.results74, go_sem, hr, h5, c0, c1]
set_option maxHeartbeats 4000000 in
set_option maxRecDepth 100000 in
theorem rProfile_c (hgb : nG ≤ z.heap.size) (h : SvAt B P z v S) (nm : List UInt8) :
    Calls Tryz.prog 74 #[v.val, .string ⟨nm.toArray⟩] z fun e z' => ∃ iv, e = .returned (.tuple #[.agg #[bsV ((Sg.prof S nm).elim [] fun p => p.nm), iv], .bool (Sg.prof S nm).isSome]) ∧ ItsAt B P z' iv ((Sg.prof S nm).elim [] fun p => p.its) ∧ Nw z z' := by
  obtain ⟨l1, l2, l3, l4⟩ := h.len
  obtain ⟨pa, pc, ep, hp⟩ := h.p.cells
  obtain ⟨tv, hv, pv⟩ := v
  dsimp only at ep
  obtain ⟨ta, tc, et⟩ := own_slS h.t
  obtain ⟨ha, hc, eh⟩ := own_slS h.h
  dsimp only at et eh
  subst ep et eh
  have n1 := nw_alloc z (.cells #[.slice ta S.tx.length tc, .slice ha S.th.length hc, .slice pa S.pf.length pc] tSta)
  have b1 := heap_new z (.cells #[.slice ta S.tx.length tc, .slice ha S.th.length hc, .slice pa S.pf.length pc] tSta)
  have n2 := nw_alloc (z.alloc (.cells #[.slice ta S.tx.length tc, .slice ha S.th.length hc, .slice pa S.pf.length pc] tSta)) (.cells #[.string ⟨#[]⟩, .slice none 0 0] tPf)
  have b2 := heap_new (z.alloc (.cells #[.slice ta S.tx.length tc, .slice ha S.th.length hc, .slice pa S.pf.length pc] tSta)) (.cells #[.string ⟨#[]⟩, .slice none 0 0] tPf)
  obtain ⟨w1, hw1⟩ : ∃ y, y = (z.alloc (.cells #[.slice ta S.tx.length tc, .slice ha S.th.length hc, .slice pa S.pf.length pc] tSta)).alloc (.cells #[.string ⟨#[]⟩, .slice none 0 0] tPf) := ⟨_, rfl⟩
  have b1' := Nw.keep n2 b1
  have n12 := n1.trans n2
  rw [World.size_alloc] at b2
  rw [← hw1] at n12 b1' b2
  have c2 : w1.cell? ⟨z.heap.size, 2, none⟩ = some (.slice pa S.pf.length pc) := by rw [cells_cell b1']; rfl
  have HW1 := Lib.hid hw1
  have HN1 := Lib.hid n12
  have HB2 := Lib.hid b2
  have HP := Lib.hid hp
  have l3' : (S.pf.length : Int) ≤ 1000 := by omega
  have hs1 : w1.heap.size = z.heap.size + 2 := by rw [hw1, World.size_alloc, World.size_alloc]
  clear h hp b1 b2 b1' hw1 n1 n2 n12 l4
  unfold SvR.val
  have r0 : w1.cell? ⟨z.heap.size + 1, 0, none⟩ = some (.string ⟨#[]⟩) := by rw [cells_cell HB2.out]; rfl
  have r1 : w1.cell? ⟨z.heap.size + 1, 1, none⟩ = some (.slice none 0 0) := by rw [cells_cell HB2.out]; rfl
  have f0 := cells_frozen HB2.out 0
  have f1 := cells_frozen HB2.out 1
  have hfin : ∀ (s : List UInt8) (ia : Option Addr) (n ic : Nat), Hid (((w1.setCell ⟨z.heap.size + 1, 0, none⟩ (.string ⟨s.toArray⟩)).setCell ⟨z.heap.size + 1, 1, none⟩ (.slice ia n ic)).heap[z.heap.size + 1]? = some (.cells #[.string ⟨s.toArray⟩, .slice ia n ic] tPf (0, 0)) ∧ Nw z ((w1.setCell ⟨z.heap.size + 1, 0, none⟩ (.string ⟨s.toArray⟩)).setCell ⟨z.heap.size + 1, 1, none⟩ (.slice ia n ic))) := fun s ia n ic =>
    ⟨setCell_block (setCell_block HB2.out 0 _) 1 _, HN1.out.trans' (Upd.set1 (Upd.set1 (Upd.refl _ w1) (b := z.heap.size + 1) (by omega) 0 _) (b := z.heap.size + 1) (by omega) 1 _) (fun k hk e => by omega)⟩
  have HFin := Lib.hid hfin
  clear hfin
  go_enter Tryz.func74, Tryz.ntmps74
  go_upto_region 1 with fail
  rw [← HW1.out]
  clear HW1
  go_wp2_with fail
  go_loopw [6] (fun iv wr => ∃ i : Nat, i ≤ S.pf.length ∧ iv = .int .i64 (i : Int) ∧ Hid (∀ j (hj : j < S.pf.length), j < i → (S.pf[j]).nm ≠ nm) ∧ Hid (w1 = wr)) (fun iv _ => S.pf.length - (intOf iv).toNat)
  case atStart => exact ⟨0, Nat.zero_le _, rfl, (fun j hj h => by omega), rfl⟩
  case round =>
    obtain ⟨i, hi, rfl, hno, hw⟩ := hrel
    obtain rfl := hw.out
    clear hw
    by_cases hlt : i < S.pf.length
    · obtain ⟨pb, iv, rfl, d0, d1, hit⟩ := HP.out i hlt
      have e0 := nw_cellS HN1.out d0
      have e1 := nw_cellS HN1.out d1
      have hyes : (S.pf[i]).nm ≠ nm → ∀ j (hj : j < S.pf.length), j < i + 1 → (S.pf[j]).nm ≠ nm := fun h j hj hji => by
        rcases Nat.lt_or_ge j i with h1 | h1
        · exact hno.out j hj h1
        · obtain rfl : j = i := by omega
          exact h
      have hhit := fun h => Sg.prof_hit hlt hno.out h
      obtain ⟨ia, ic, rfl⟩ := own_slS hit.1
      have HIt := Lib.hid hit
      have HYes := Lib.hid hyes
      have HHit := Lib.hid hhit
      have HLt := Lib.hid hlt
      generalize S.pf[i] = p at *
      obtain ⟨pnm, its⟩ := p
      dsimp only at *
      clear hyes hhit hno d0 d1 hit
      cases hbt : (pnm == nm) with
      | false =>
        have hne : ¬ pnm = nm := fun e => by rw [e] at hbt; simp at hbt
        have hR := Lib.hid (HYes.out hne)
        clear hne
        go_wp2_with fail
        go_roundw
        case rel => exact ⟨i + 1, HLt.out, by simp, hR, trivial⟩
        case measure =>
          have := HLt.out
          simp only [intOf]
          omega
      | true =>
        have he : pnm = nm := beq_iff_eq.1 hbt
        have hR := Lib.hid (HHit.out he)
        clear he
        go_wp2_with fail
        have hz := HFin.out pnm ia its.length ic
        refine bodyPost_ret (rpf_results (b := true) _ _ (by simp) (by simp) hz.out.1) rfl ?_
        rw [hR.out]
        exact ⟨_, rfl, HIt.out.upd hz.out.2 (fun _ _ s => s), hz.out.2⟩
    · have hR := Lib.hid (Sg.prof_miss (S := S) (nm := nm) (fun j hj => hno.out j hj (by omega)))
      clear hno
      have hz := HFin.out [] none 0 0
      go_wp2_with fail
      refine bodyPost_ret (rpf_results (b := false) _ _ (by simp) (by simp) hz.out.1) rfl ?_
      rw [hR.out]
      exact ⟨_, rfl, ItsAt.nil _ _ _, hz.out.2⟩
end
section
variable {B : Nat} {P : Nat → Prop} {z : World} {v : SvR} {S : Sg.Sta}
set_option maxHeartbeats 4000000 in
set_option maxRecDepth 100000 in
theorem rUsed_c (h : SvAt B P z v S) (n : Int) :
    Calls Tryz.prog 75 #[v.val, .int .i64 n] z fun e z' => e = .returned (.bool (Sg.used S n)) ∧ Nw z z' := by
  obtain ⟨l1, l2, l3, l4⟩ := h.len
  obtain ⟨pa, pc, ep, hp⟩ := h.p.cells
  have hits := fun i (hi : i < S.pf.length) => h.its (List.getElem_mem hi)
  obtain ⟨tv, hv, pv⟩ := v
  dsimp only at ep
  obtain ⟨ta, tc, et⟩ := own_slS h.t
  obtain ⟨ha, hc, eh⟩ := own_slS h.h
  dsimp only at et eh
  subst ep et eh
  have n1 := nw_alloc z (.cells #[.slice ta S.tx.length tc, .slice ha S.th.length hc, .slice pa S.pf.length pc] tSta)
  have b1 := heap_new z (.cells #[.slice ta S.tx.length tc, .slice ha S.th.length hc, .slice pa S.pf.length pc] tSta)
  obtain ⟨w1, hw1⟩ : ∃ y, y = z.alloc (.cells #[.slice ta S.tx.length tc, .slice ha S.th.length hc, .slice pa S.pf.length pc] tSta) := ⟨_, rfl⟩
  rw [← hw1] at n1 b1
  have c2 : w1.cell? ⟨z.heap.size, 2, none⟩ = some (.slice pa S.pf.length pc) := by rw [cells_cell b1]; rfl
  have HW1 := Lib.hid hw1
  have HN1 := Lib.hid n1
  have HP := Lib.hid hp
  have HI := Lib.hid hits
  have hU := Lib.hid (show Sg.used S n = Sg.usedL S.pf n from rfl)
  obtain ⟨ob, hob⟩ : ∃ o, o = Sg.used S n := ⟨_, rfl⟩
  rw [← hob]
  have HOb := Lib.hid hob
  have l3' : (S.pf.length : Int) ≤ 1000 := by omega
  clear h hp b1 hw1 n1 l4 hits hob
  unfold SvR.val
  go_enter Tryz.func75, Tryz.ntmps75
  go_upto_region 1 with fail
  rw [← HW1.out]
  clear HW1
  go_wp2_with fail
  go_loopw [5, 6] (fun iv kv wr => ∃ i : Nat, i ≤ S.pf.length ∧ iv = .int .i64 (i : Int) ∧ Hid (∀ j (hj : j < S.pf.length), j < i → ∀ k (hk : k < S.pf[j].its.length), (S.pf[j].its[k]).pr ≠ n) ∧ Hid (w1 = wr)) (fun iv _ _ => S.pf.length - (intOf iv).toNat)
  case atStart => exact ⟨0, Nat.zero_le _, rfl, (fun j hj h => by omega), rfl⟩
  case round =>
    obtain ⟨i, hi, rfl, hno, hw⟩ := hrel
    obtain rfl := hw.out
    clear hw
    by_cases hlt : i < S.pf.length
    · obtain ⟨pb, iv, rfl, d0, d1, hit⟩ := HP.out i hlt
      have e1 := nw_cellS HN1.out d1
      have hil := HI.out i hlt
      have hyes : (∀ k (hk : k < S.pf[i].its.length), (S.pf[i].its[k]).pr ≠ n) → ∀ j (hj : j < S.pf.length), j < i + 1 → ∀ k (hk : k < S.pf[j].its.length), (S.pf[j].its[k]).pr ≠ n := fun h j hj hji => by
        rcases Nat.lt_or_ge j i with h1 | h1
        · exact hno.out j hj h1
        · obtain rfl : j = i := by omega
          exact h
      have hhit := fun k hk h => Sg.used_hit (l := S.pf) (n := n) (i := i) (k := k) hlt hk h
      have hit1 := hit.upd HN1.out (fun _ _ s => s)
      obtain ⟨ia, ic, rfl⟩ := own_slS hit.1
      have HYes := Lib.hid hyes
      have HHit := Lib.hid hhit
      have HLt := Lib.hid hlt
      have HIt := Lib.hid hit1.1
      generalize S.pf[i] = p at *
      obtain ⟨pnm, its⟩ := p
      dsimp only at *
      have hil' : (its.length : Int) ≤ 60 := by omega
      clear hyes hhit hno d0 d1 hit hit1
      go_wp2_with fail
      go_loopw [6] (fun kv wr => ∃ k : Nat, k ≤ its.length ∧ kv = .int .i64 (k : Int) ∧ Hid (∀ j (hj : j < its.length), j < k → (its[j]).pr ≠ n) ∧ Hid (w1 = wr)) (fun kv _ => its.length - (intOf kv).toNat)
      case atStart => exact ⟨0, Nat.zero_le _, rfl, (fun j hj h => by omega), rfl⟩
      case round =>
        obtain ⟨k, hk, rfl, hno, hw⟩ := hrel
        obtain rfl := hw.out
        clear hw
        by_cases hkt : k < its.length
        · have hown := HIt.out
          rcases hown.2 with ⟨e, hn⟩ | ⟨g, cap', cur, e, _⟩
          · omega
          cases e
          obtain ⟨q0, q1, q2, q3, q4⟩ := cells5 hown k hkt
          have hyes : (its[k]).pr ≠ n → ∀ j (hj : j < its.length), j < k + 1 → (its[j]).pr ≠ n := fun h j hj hjk => by
            rcases Nat.lt_or_ge j k with h1 | h1
            · exact hno.out j hj h1
            · obtain rfl : j = k := by omega
              exact h
          have hhit := HHit.out k hkt
          have HY := Lib.hid hyes
          have HH := Lib.hid hhit
          have HKt := Lib.hid hkt
          generalize (its[k]).pr = pr at *
          clear hyes hhit hno q0 q1 q2 q3 hown
          by_cases hpn : pr = n
          · subst hpn
            have hR := Lib.hid (HOb.out.trans (hU.out.trans (HH.out rfl)))
            go_wp2_with fail
            go_ret
            rw [hR.out]
            exact ⟨rfl, HN1.out⟩
          · have hb : (pr == n) = false := beq_eq_false_iff_ne.2 hpn
            have hR := Lib.hid (HY.out hpn)
            go_wp2_with fail
            go_roundw
            case rel => exact ⟨k + 1, HKt.out, by simp, hR, trivial⟩
            case measure =>
              have := HKt.out
              simp only [intOf]
              omega
        · have hR := Lib.hid (HYes.out (fun j hj => hno.out j hj (by omega)))
          clear hno
          go_wp2_with fail
          go_roundw
          case rel => exact ⟨i + 1, HLt.out, by simp, hR, trivial⟩
          case measure =>
            have := HLt.out
            simp only [intOf]
            omega
    · have hR := Lib.hid (HOb.out.trans (hU.out.trans (Sg.used_miss (l := S.pf) (n := n) (fun j hj => hno.out j hj (by omega)))))
      clear hno
      go_wp2_with fail
      go_ret
      rw [hR.out]
      exact ⟨rfl, HN1.out⟩
end
end Go.Proofs.YtiednpagknnfnaaGreatDoor
namespace Go.Proofs.YtiednpagknnfnaaGreatDoor
open Go.RowKit
theorem step_catC {P : Program} {w : World} {ops : Array Oper} {o : Oper} {a : Act} {K : Act → World → Prop} {Q : Exit → Act → World → Prop} {E : Prop} (hgd : o.guard = none) (s x : Operand) (t : TypeId)
    (ho : o.op = .call { callee := .builtin .append, args := #[s, x], argTypes := #[t, t] })
    (e : TypeId) (z : Value) (size bytes : Nat) (ht : P.underlying t = some (.slice e)) (hinfo : (P.info? e).map (fun i => (i.zero, i.size, i.bytes)) = some (some z, size, bytes)) (hzs : z.cells.size = size) (hsz : 0 < size)
    (B : Nat) (hB : B ≤ w.heap.size) (hg : nG ≤ B) (v : Value) (n : Nat) (xs : List Value) (hs : a.eval s = v) (hown : w.ownsRow B e size v n xs)
    (ad : Addr) (m c : Nat) (news : List Value) (hx : a.eval x = .slice (some ad) m c) (hl : news.length = m * size) (hnews : ∀ j u, news[j]? = some u → w.cell? (ad.add j) = some u) (h1 : ∀ u ∈ news, u.oneCell' = true)
    (hm : 0 < m) (h63 : n + m ≤ maxLen) (hbytes : (n + m) * bytes ≤ 140737488355328)
    (h : ∀ g cap w', w'.ownsRow B e size (.slice (some ⟨g, 0, none⟩) (n + m) cap) (n + m) (xs ++ news) → Upd (fun k => v.ownBlock = some k) w w' → (v.ownBlock = some g ∨ w.heap.size ≤ g) → K (a.put o.dst (.slice (some ⟨g, 0, none⟩) (n + m) cap)) w') :
    if Region.wanted o (yielded ops a.tmps) = true then Oper.wp P o a w K Q else E := by
  obtain ⟨i0, hi, hz0, hz1, hz2⟩ := info_parts hinfo
  refine step_append_lies _ hgd s x t ho B e i0 z size bytes ht hi hz0 hz1 hz2 hzs hsz v n xs hs hown ad m c news hx hl hnews h1 hm h63 hbytes hB w.heap.size rfl fun g cap w' h2 h3 h4 h5 => h g cap w' h2 ((Upd.refl _ _).grown h3 fun k hk => ⟨Or.inl hk, ?_⟩) (h4.imp id (fun e => by omega))
  have := (hown.lt k hk).1; omega
theorem step_catO {P : Program} {w : World} {ops : Array Oper} {o : Oper} {a : Act} {K : Act → World → Prop} {Q : Exit → Act → World → Prop} {E : Prop} (hgd : o.guard = none) (s x : Operand) (t : TypeId)
    (ho : o.op = .call { callee := .builtin .append, args := #[s, x], argTypes := #[t, t] })
    (e : TypeId) (z : Value) (size bytes : Nat) (ht : P.underlying t = some (.slice e)) (hinfo : (P.info? e).map (fun i => (i.zero, i.size, i.bytes)) = some (some z, size, bytes)) (hzs : z.cells.size = size) (hsz : 0 < size)
    (B : Nat) (hB : B ≤ w.heap.size) (hg : nG ≤ B) (v : Value) (n : Nat) (xs : List Value) (hs : a.eval s = v) (hown : w.ownsRow B e size v n xs)
    (B' : Nat) (vx : Value) (m : Nat) (news : List Value) (hx : a.eval x = vx) (hsrc : w.ownsRow B' e size vx m news) (h1 : ∀ u ∈ news, u.oneCell' = true)
    (h63 : n + m ≤ maxLen) (hbytes : (n + m) * bytes ≤ 140737488355328)
    (h : ∀ v' w', w'.ownsRow B e size v' (n + m) (xs ++ news) → Upd (fun k => v.ownBlock = some k) w w' → (∀ k, v'.ownBlock = some k → v.ownBlock = some k ∨ w.heap.size ≤ k) → K (a.put o.dst v') w') :
    if Region.wanted o (yielded ops a.tmps) = true then Oper.wp P o a w K Q else E := by
  have hl := hsrc.1
  obtain ⟨xa, xc, rfl⟩ := own_slS hsrc
  rcases Nat.eq_zero_or_pos m with rfl | hm
  · obtain ⟨i0, hi0, hz0, hz1, hz2⟩ := info_parts hinfo
    have hnil : news = [] := List.eq_nil_of_length_eq_zero (by simpa using hl)
    subst hnil
    have hw : Region.wanted o (yielded ops a.tmps) = true := by simp [Region.wanted, hgd]
    rw [if_pos hw]
    have hr : (Builtin.append_ #[t, t] o.type #[v, .slice xa 0 xc]).run P w = .ok v w := by
      rcases hown.2 with ⟨rfl, rfl⟩ | ⟨g, cap, cur, rfl, _, _, hnc, _⟩
      · cases xa <;> simp [Builtin.append_, run_underlying ht, sizeOf, typeInfo, hi0, Builtin.lenOf, Builtin.firstCells, loadCells, loadCellsFrom]
      · cases xa <;> simp [Builtin.append_, run_underlying ht, sizeOf, typeInfo, hi0, Builtin.lenOf, Builtin.firstCells, hnc, storeCells, loadCells, loadCellsFrom]
    exact Lib.wp_append_run w s x t t ho _ _ hs hx _ _ hr (h v w (by simpa using hown) (Upd.refl _ _) (fun k hk => Or.inl hk))
  · rcases hsrc.2 with ⟨e0, e1⟩ | ⟨g, cap, cur, e0, _⟩
    · omega
    cases e0
    exact step_catC hgd s x t ho e z size bytes ht hinfo hzs hsz B hB hg v n xs hs hown ⟨g, 0, none⟩ m xc news hx hl (fun j u hu => hsrc.cells (g := g) rfl j u hu) h1 hm h63 hbytes
      (fun g' cap' w' k1 k2 k3 => h _ w' k1 k2 (fun k hk => by
        have e : g' = k := Option.some.inj hk
        rw [← e]; exact k3))
def CpR (B : Nat) (T : TypeId) (sz : Nat) (y : World) (v : Value) (k n : Nat) (xs : List Value) : Prop := (k = 1 → y.ownsRow B T sz v 0 []) ∧ (k = 2 → y.ownsRow B T sz v n xs)
theorem CpR.upd {B sz k n : Nat} {T : TypeId} {y y' : World} {v : Value} {xs : List Value} {U : Nat → Prop} (h : CpR B T sz y v k n xs) (u : Upd U y y') (hs : ∀ cs j, y.heap[j]? = some (.cells cs T (0, 0)) → ¬ U j) : CpR B T sz y' v k n xs :=
  ⟨fun e => owns_upd' (h.1 e) u (fun j hj => by obtain ⟨_, cs, hc⟩ := own_block (h.1 e) hj; exact hs cs j hc), fun e => owns_upd' (h.2 e) u (fun j hj => by obtain ⟨_, cs, hc⟩ := own_block (h.2 e) hj; exact hs cs j hc)⟩
structure CpI (S : Sg.Sta) (C : List (Sg.Pf × Value)) (w y : World) (tv hv pv : Value) (a b c : Nat) : Prop where
  nw : Nw w y
  t : CpR w.heap.size 9 1 y tv a S.tx.length (S.tx.map bsV)
  h : CpR w.heap.size 4 1 y hv b S.th.length (S.th.map Value.bool)
  p : CpR w.heap.size tPf 2 y pv c C.length (pfL C)
theorem Nw.upd' {U : Nat → Prop} {w y y' : World} (h : Nw w y) (u : Upd U y y') (hU : ∀ k, U k → w.heap.size ≤ k) : Nw w y' := h.trans' u (fun k hk e => by have := hU k e; omega)
section
variable {S : Sg.Sta} {C : List (Sg.Pf × Value)} {w y : World} {tv hv pv : Value} {a b c : Nat}
theorem CpI.start (S : Sg.Sta) (C : List (Sg.Pf × Value)) (w : World) (tv hv pv : Value) : CpI S C w w tv hv pv 0 0 0 := ⟨Upd.refl _ _, ⟨(fun e => by cases e), (fun e => by cases e)⟩, ⟨(fun e => by cases e), (fun e => by cases e)⟩, ⟨(fun e => by cases e), (fun e => by cases e)⟩⟩
theorem CpI.mkT (h : CpI S C w y tv hv pv 0 b c) : CpI S C w (y.alloc (.cells #[] 9)) (.slice (some ⟨y.heap.size, 0, none⟩) 0 0) hv pv 1 b c :=
  have n := nw_alloc y (.cells #[] 9)
  ⟨h.nw.trans n, ⟨fun _ => ownsRow_base_a (owns_empty y _ 1) h.nw.size, fun e => by cases e⟩, h.h.upd n (fun _ _ _ e => e), h.p.upd n (fun _ _ _ e => e)⟩
theorem CpI.mkH (h : CpI S C w y tv hv pv a 0 c) : CpI S C w (y.alloc (.cells #[] 4)) tv (.slice (some ⟨y.heap.size, 0, none⟩) 0 0) pv a 1 c :=
  have n := nw_alloc y (.cells #[] 4)
  ⟨h.nw.trans n, h.t.upd n (fun _ _ _ e => e), ⟨fun _ => ownsRow_base_a (owns_empty y _ 1) h.nw.size, fun e => by cases e⟩, h.p.upd n (fun _ _ _ e => e)⟩
theorem CpI.mkP (h : CpI S C w y tv hv pv a b 0) : CpI S C w (y.alloc (.cells #[] tPf)) tv hv (.slice (some ⟨y.heap.size, 0, none⟩) 0 0) a b 1 :=
  have n := nw_alloc y (.cells #[] tPf)
  ⟨h.nw.trans n, h.t.upd n (fun _ _ _ e => e), h.h.upd n (fun _ _ _ e => e), ⟨fun _ => ownsRow_base_a (owns_empty y _ 2) h.nw.size, fun e => by cases e⟩⟩
theorem typ_ne {y : World} {k : Nat} {cs cs' : Array Value} {T T' : TypeId} (h : y.heap[k]? = some (.cells cs T (0, 0))) (h' : y.heap[k]? = some (.cells cs' T' (0, 0))) (hne : T ≠ T') : False := by
  rw [h] at h'
  simp only [Option.some.injEq, Obj.cells.injEq] at h'
  exact hne h'.2.1
theorem own_typ' {B sz n : Nat} {T T' : TypeId} {v : Value} {xs : List Value} (h : y.ownsRow B T sz v n xs) (hne : T' ≠ T) : ∀ cs j, y.heap[j]? = some (.cells cs T' (0, 0)) → ¬ v.ownBlock = some j := fun cs j hj e => by
  obtain ⟨_, cs', hc⟩ := own_block h e
  exact typ_ne hj hc hne
theorem CpI.catT (h : CpI S C w y tv hv pv 1 b c) {v' : Value} {y' : World} (o : y'.ownsRow w.heap.size 9 1 v' (0 + S.tx.length) ([] ++ S.tx.map bsV)) (u : Upd (fun k => tv.ownBlock = some k) y y') : CpI S C w y' v' hv pv 2 b c := by
  have ho := h.t.1 rfl
  exact ⟨h.nw.upd' u (fun k hk => (own_block ho hk).1), ⟨(fun e => by cases e), fun _ => by simpa using o⟩, h.h.upd u (own_typ' ho (by decide)), h.p.upd u (own_typ' ho (by decide))⟩
theorem CpI.catH (h : CpI S C w y tv hv pv a 1 c) {v' : Value} {y' : World} (o : y'.ownsRow w.heap.size 4 1 v' (0 + S.th.length) ([] ++ S.th.map Value.bool)) (u : Upd (fun k => hv.ownBlock = some k) y y') : CpI S C w y' tv v' pv a 2 c := by
  have ho := h.h.1 rfl
  exact ⟨h.nw.upd' u (fun k hk => (own_block ho hk).1), h.t.upd u (own_typ' ho (by decide)), ⟨(fun e => by cases e), fun _ => by simpa using o⟩, h.p.upd u (own_typ' ho (by decide))⟩
theorem CpI.catP (h : CpI S C w y tv hv pv a b 1) {v' : Value} {y' : World} (o : y'.ownsRow w.heap.size tPf 2 v' (0 + C.length) ([] ++ pfL C)) (u : Upd (fun k => pv.ownBlock = some k) y y') : CpI S C w y' tv hv v' a b 2 := by
  have ho := h.p.1 rfl
  exact ⟨h.nw.upd' u (fun k hk => (own_block ho hk).1), h.t.upd u (own_typ' ho (by decide)), h.h.upd u (own_typ' ho (by decide)), ⟨(fun e => by cases e), fun _ => by simpa using o⟩⟩
end
theorem infoBoolS : (Tryz.prog.info? 4).map (fun i => (i.zero, i.size, i.bytes)) = some (some (.bool false), 1, 1) := by kernel_rfl
theorem infoPfS : (Tryz.prog.info? tPf).map (fun i => (i.zero, i.size, i.bytes)) = some (some (.agg #[.string ⟨#[]⟩, .slice none 0 0]), 2, 40) := by kernel_rfl
theorem infoStrR : (Tryz.prog.info? 9).map (fun i => (i.zero, i.size, i.bytes)) = some (some (.string ⟨#[]⟩), 1, 16) := by kernel_rfl
theorem pfL_one (C : List (Sg.Pf × Value)) (h : ∀ q ∈ C, q.2.oneCell' = true) : ∀ u ∈ pfL C, u.oneCell' = true := by
  intro u hu
  obtain ⟨c, hc, hu⟩ := List.mem_flatten.1 hu
  obtain ⟨q, hq, rfl⟩ := List.mem_map.1 hc
  simp only [pfC, List.mem_cons, List.not_mem_nil, or_false] at hu
  rcases hu with rfl | rfl
  · rfl
  · exact h q hq
end Go.Proofs.YtiednpagknnfnaaGreatDoor
