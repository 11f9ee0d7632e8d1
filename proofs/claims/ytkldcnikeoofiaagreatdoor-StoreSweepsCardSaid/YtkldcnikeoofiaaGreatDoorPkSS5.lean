/- Layer 39 (store) in plain words: on a calm disk every operation is done. No program stands in this text. ladinglaw39.profile. A store on a calm disk: the calls of the statements without faults. ladinglaw39.small: the documented examples. A loop of a function, taken out of its code: so that its walk is a theorem of its own. StoreKeeps: its loops over the numbers and the profiles. StoreKeeps: what its rounds want beyond the contracts: the length of a bounded profile, Start, Open again. Layer 39 (store) in plain words: what StoreSweeps asks. No program stands in this text. Contracts for StoreSweeps: a sweep whatever is spare; what an operation's results say; Open again beside the old store. StoreSweeps: its loops over the texts, the items, the profiles, as theorems of their own. StoreSweeps: its loops over the profiles, the numbers, and the numbers of the store opened again. -/
import Derived.Test.YtkldcnikeoofiaaGreatDoorPkSS2
import Derived.Test.YtkldcnikeoofiaaGreatDoorPkSS4
import Derived.Test.YtkldcnikeoofiaaGreatDoorPkSS0
namespace Go.Proofs.YtkldcnikeoofiaaGreatDoor.Sg
open Fm (Str)
open Dk (Disk)
open Jr (Jn openJ)
set_option linter.unusedVariables false
set_option linter.unusedSimpArgs false

/-- All is well: the disk is calm, the journal whole. -/
structure Cm (D : Disk) (j : Jn) (S : Sta) (f : Int) (n : Nat) : Prop where
  wl : Wl D j S f n
  calm : Jr.Calm D
  ok : j.broken = false
variable {D : Disk} {j : Jn} {S : Sta} {f : Int} {n : Nat}
theorem Cm.mono {m : Nat} (h : Cm D j S f n) (hm : n ≤ m) : Cm D j S f m := ⟨h.wl.mono hm, h.calm, h.ok⟩
theorem Cm.perform (h : Cm D j S f n) (hf : 0 ≤ f ∧ f < 16) (hn : n ≤ 40) {o : Ops} (ho : adm S o) (hs : (opE o).length ≤ 2000) :
    ∃ D' j', Sg.perform D j S o = (D', j', after S o, 0) ∧ Cm D' j' (after S o) f (n + 1) := by
  obtain ⟨h1, h2, _, h4⟩ := h.wl.perform hf hn ho hs
  obtain ⟨e0, c, b⟩ := h4 h.calm h.ok
  have hS := h2 e0
  obtain ⟨⟨D', j', S', e'⟩, hr⟩ : ∃ r, r = Sg.perform D j S o := ⟨_, rfl⟩
  rw [← hr] at h1 hS e0 c b
  dsimp only at h1 hS e0 c b
  subst hS e0
  exact ⟨D', j', hr.symm, h1, c, b⟩
theorem Cm.put_new (h : Cm D j S f n) (hf : 0 ≤ f ∧ f < 16) (hn : n ≤ 40) {t : Str} (ht : t.length ≤ 1000) (hq : find S t = none) :
    ∃ D' j', put D j S t = (D', j', after S (.put t), (S.th.length : Int), 0) ∧ Cm D' j' (after S (.put t)) f (n + 1) := by
  obtain ⟨D', j', e, c⟩ := h.perform hf hn (o := .put t) hq (by simp [opE]; omega)
  refine ⟨D', j', ?_, c⟩
  unfold put
  rw [hq]
  dsimp only
  rw [e]
  rfl
theorem put_old (D : Disk) (j : Jn) {S : Sta} {t : Str} {m : Nat} (hq : find S t = some m) : put D j S t = (D, j, S, (m : Int), 0) := by unfold put; rw [hq]
theorem Cm.set_done (h : Cm D j S f n) (hf : 0 ≤ f ∧ f < 16) (hn : n ≤ 40) {p : Pf} (hp : (pfE p).length ≤ 1900) (hr : rightP p = true) (hi : ∀ x ∈ p.its, there S x.pr = true) :
    ∃ D' j', set D j S p = (D', j', after S (.set p), 0, 0) ∧ Cm D' j' (after S (.set p)) f (n + 1) := by
  obtain ⟨D', j', e, c⟩ := h.perform hf hn (o := .set p) ⟨hr, hi⟩ (by simp [opE]; omega)
  refine ⟨D', j', ?_, c⟩
  unfold set
  rw [if_neg (by rw [hr]; decide), if_neg (by rw [List.all_eq_true.2 hi]; decide), e]
  rfl
theorem set_none (D : Disk) (j : Jn) {S : Sta} {p : Pf} (hr : rightP p = true) (hi : (p.its.all fun x => there S x.pr) = false) : set D j S p = (D, j, S, 0, 4) := by
  unfold set
  rw [if_neg (by rw [hr]; decide), if_pos hi]
theorem Cm.sweep_done (h : Cm D j S f n) (hf : 0 ≤ f ∧ f < 16) (hn : n ≤ 40) (hs : spare S ≠ []) :
    ∃ D' j', sweep D j S = (D', j', after S .sweep, ((spare S).length : Int), 0) ∧ Cm D' j' (after S .sweep) f (n + 1) := by
  obtain ⟨D', j', e, c⟩ := h.perform hf hn (o := .sweep) trivial (by simp [opE])
  refine ⟨D', j', ?_, c⟩
  unfold sweep
  rw [if_neg hs, e]
  rfl
theorem Cm.act (h : Cm D j S f n) (hf : 0 ≤ f ∧ f < 16) (hn : n ≤ 40) (k : Int) {s : Str} {p : Pf} (hs : s.length ≤ 1000) (hp : (pfE p).length ≤ 1900) :
    Cm (Sg.act D j S k s p).D (Sg.act D j S k s p).j (Sg.act D j S k s p).S f (n + 1) := by
  obtain ⟨h1, h2⟩ := act_wl h.wl hf hn k hs hp
  exact ⟨h1, (h2 h.calm h.ok).1, (h2 h.calm h.ok).2⟩
/-- Opening, all calm: the state is that of the records. -/
theorem cm_open (hw : Wf D f n) (hc : Jr.Calm D) (hf : 0 ≤ f ∧ f < 16) : ∃ rs, (openJ D f).2.1 = some ⟨f, rs.map recE, false⟩ ∧ (openJ D f).2.2 = 0 ∧ Gd rs ∧ rs.length ≤ 2 * n ∧ Cm (openJ D f).1 ⟨f, rs.map recE, false⟩ (of rs) f (2 * n) ∧ ∀ r ∈ rs, (recE r).length ≤ 2000 := by
  obtain ⟨D', e, c, _⟩ := hc.open_ hf
  rcases hw.open_ hf with ⟨h1, h2, _⟩ | ⟨rs, h1, h2, h3, h4, h5⟩
  · rw [e] at h1; cases h1
  · refine ⟨rs, h1, h2, h3, h4, ⟨opened h5 h3 h4, ?_, rfl⟩, fun r hr => ?_⟩
    · rw [e]; exact c
    · obtain ⟨sure, hi⟩ := h5.inv
      exact hi.small _ (List.mem_map.2 ⟨r, hr, rfl⟩)
/-- A whole journal, opened again: the same state. -/
theorem Cm.again (h : Cm D j S f n) (hf : 0 ≤ f ∧ f < 16) : ∃ rs, (openJ D f).2.1 = some ⟨f, rs.map recE, false⟩ ∧ (openJ D f).2.2 = 0 ∧ Gd rs ∧ rs.length ≤ 2 * n ∧ of rs = S ∧ Cm (openJ D f).1 ⟨f, rs.map recE, false⟩ S f n ∧ ∀ r ∈ rs, (recE r).length ≤ 2000 := by
  obtain ⟨rs0, k1, k2, k3, k4⟩ := h.wl.hf
  obtain ⟨_, k5⟩ := k1.whole h.ok
  obtain ⟨sure, ki⟩ := k1.inv
  obtain ⟨D', e, c, _⟩ := h.calm.open_ hf
  have hsmall : ∀ a ∈ rs0.map recE, a.length ≤ 20000 := fun a ha => by have := ki.small a ha; omega
  have hrecs : Jr.recs (D.fs f).now = rs0.map recE := by
    rw [k5]
    have := Jr.recs_forms (l := rs0.map recE) (r := []) hsmall
    rw [List.append_nil] at this
    rw [this]
    show rs0.map recE ++ Jr.recs [] = _
    rw [show Jr.recs [] = [] from by
      have := Jr.recs_forms (l := []) (r := []) (by simp)
      have h2 := Jr.recs_again []
      have h3 := (Jr.recs_again (Jr.forms (Jr.recs [])))
      unfold Jr.recs
      rfl, List.append_nil]
  rcases h.wl.file.open_ hf with ⟨h1, h2, _⟩ | ⟨rs, h1, h2, h3, h4, h5⟩
  · rw [e] at h1; cases h1
  · have hrec : rs.map recE = rs0.map recE := by
      rw [e] at h1
      have h1 : (some ⟨f, Jr.recs (D.fs f).now, false⟩ : Option Jn) = some ⟨f, rs.map recE, false⟩ := h1
      have := congrArg Jn.recs (Option.some.inj h1)
      dsimp only at this
      rw [← this, hrecs]
    obtain ⟨⟨sure2, m1⟩, m2, m3, m4⟩ := h5
    have m4 := m4 rfl
    rw [hrec] at h1 m1 m4 m2
    refine ⟨rs0, h1, h2, k2, k3, (k4 h.ok).symm, ⟨⟨h.wl.g, h.wl.big, rs0, ⟨⟨sure2, m1⟩, rfl, ⟨rs0.length, ?_⟩, fun _ => ⟨rfl, m4.2⟩⟩, k2, k3, fun _ => k4 h.ok⟩, ?_, rfl⟩, fun r hr => ki.small _ (List.mem_map.2 ⟨r, hr, rfl⟩)⟩
    · rw [List.take_length]
    · rw [e]; exact c
end Go.Proofs.YtkldcnikeoofiaaGreatDoor.Sg
namespace Go.Proofs.YtkldcnikeoofiaaGreatDoor
open Go.RowKit
set_option linter.unusedVariables false
set_option linter.unusedSimpArgs false
attribute [local irreducible] Calls CallsIn

def geo (n : Int) : Sg.It := ⟨[103, 101, 111], 1, 0, 0, n⟩
theorem pf2_results (tmps : Array Value) (w : World) {r : Nat} {s : ByteArray} {nv : Value} {T : TypeId} (hr : tmps.getD 4 undef = .pointer (some ⟨r, 0, none⟩)) (hb : w.heap[r]? = some (.cells #[.string s, nv] T (0, 0))) :
    (results Tryz.f83 tmps).run Tryz.prog w = .ok (.agg #[.string s, nv]) w := by
  have c0 : w.cell? ⟨r, 0, none⟩ = some (.string s) := by rw [cells_cell hb]; rfl
  have c1 : w.cell? ⟨r, 1, none⟩ = some nv := by rw [cells_cell hb]; rfl
  rw [Array.getD_eq_getD_getElem?] at hr
  simp [results, Tryz.results83, go_sem, hr, c0, c1]
set_option maxHeartbeats 2000000 in
set_option maxRecDepth 100000 in
theorem profile_c (nm : List UInt8) (n : Int) (w : World) (hgb : nG ≤ w.heap.size) : Calls Tryz.prog 83 #[.string ⟨nm.toArray⟩, .int .i64 n] w fun e w' => ∃ v, e = .returned (.agg #[.string ⟨nm.toArray⟩, v]) ∧ SlS 5 0 w'.heap.size w' v ([geo n].map itC) ∧ Nw w w' := by
  go_enter Tryz.func83, Tryz.ntmps83
  go_wp2_with fail
  have n1 := nw_alloc w (.cells #[.string ⟨nm.toArray⟩, .slice (some ⟨w.heap.size + 1, 0, none⟩) 1 1] tPf)
  have n2 := nw_alloc (w.alloc (.cells #[.string ⟨nm.toArray⟩, .slice (some ⟨w.heap.size + 1, 0, none⟩) 1 1] tPf)) (.cells #[.string ⟨#[103, 101, 111]⟩, .int .i64 1, .int .i64 0, .int .i64 0, .int .i64 n] tPl)
  have b1 := Nw.keep n2 (heap_new w (.cells #[.string ⟨nm.toArray⟩, .slice (some ⟨w.heap.size + 1, 0, none⟩) 1 1] tPf))
  have b2 := heap_new (w.alloc (.cells #[.string ⟨nm.toArray⟩, .slice (some ⟨w.heap.size + 1, 0, none⟩) 1 1] tPf)) (.cells #[.string ⟨#[103, 101, 111]⟩, .int .i64 1, .int .i64 0, .int .i64 0, .int .i64 n] tPl)
  rw [World.size_alloc] at b2
  refine bodyPost_ret (pf2_results _ _ (by simp) b1) rfl ⟨_, rfl, Or.inr ⟨w.heap.size + 1, 0, 1, rfl, Nat.le_refl 1, (by unfold maxLen; omega), Nat.zero_le _, ?_, ?_, fun i hi => ?_⟩, n1.trans n2⟩
  · simp only [World.size_alloc]; omega
  · simp only [World.size_alloc]; omega
  · have hi0 : i = 0 := by simp at hi; omega
    subst hi0
    refine ⟨rfl, fun j hj => ?_⟩
    rw [cells_cell b2, Nat.zero_mul, Nat.add_zero, Nat.zero_add]
    match j, hj with
    | 0, _ => rfl
    | 1, _ => rfl
    | 2, _ => rfl
    | 3, _ => rfl
    | 4, _ => rfl
end Go.Proofs.YtkldcnikeoofiaaGreatDoor
namespace Go.Proofs.YtkldcnikeoofiaaGreatDoor
open Go.RowKit
set_option linter.unusedVariables false
set_option linter.unusedSimpArgs false
attribute [local irreducible] Calls CallsIn

/-- In block sb lies a store with the state S, on a calm disk; n operations at most have been done. -/
def CS (w : World) (db : Nat) (f : Int) (F : Nat → Prop) (sb : Nat) (S : Sg.Sta) (n : Nat) (z : World) : Prop := ∃ (x : SgR) (j : Jr.Jn) (D : Dk.Disk), x.sb = sb ∧ SS w db x j S D F z ∧ Sg.Cm D j S f n
section
variable {w : World} {db : Nat} {f : Int} {F : Nat → Prop} {sb : Nat} {S : Sg.Sta} {n : Nat} {z : World}
theorem CS.nw {z' : World} (h : CS w db f F sb S n z) (u : Nw z z') : CS w db f F sb S n z' := by
  obtain ⟨x, j, D, h1, h2, h3⟩ := h
  exact ⟨x, j, D, h1, h2.nw u, h3⟩
theorem CS.keep {F' : Nat → Prop} {z' : World} (h : CS w db f F sb S n z) (u : Nw z z') (hF : ∀ k, F' k → F k ∨ (z.heap.size ≤ k ∧ k < z'.heap.size)) : CS w db f F' sb S n z' := by
  obtain ⟨x, j, D, h1, h2, h3⟩ := h
  exact ⟨x, j, D, h1, h2.keep u hF, h3⟩
theorem CS.nw0 (h : CS w db f F sb S n z) : Nw w z := by
  obtain ⟨x, j, D, h1, h2, h3⟩ := h
  exact h2.nw0
theorem CS.g (h : CS w db f F sb S n z) : Sg.G S := by
  obtain ⟨x, j, D, h1, h2, h3⟩ := h
  exact h2.st.g
theorem CS.st (h : CS w db f F sb S n z) : ∃ x : SgR, x.sb = sb ∧ SgAt w.heap.size z x S := by
  obtain ⟨x, j, D, h1, h2, h3⟩ := h
  exact ⟨x, h1, h2.st⟩
theorem cs_of {r : Sg.Res} {z' : World} (h : OpD w db sb r F z z') (hc : Sg.Cm r.D r.j r.S f n) : CS w db f F sb r.S n z' ∧ Moves w F z z' := by
  obtain ⟨x', e, h1, h2⟩ := h
  exact ⟨⟨x', _, _, e, h1, hc⟩, h2⟩
theorem putC (g : GmS w) (h : CS w db f F sb S n z) (hf : 0 ≤ f ∧ f < 16) (hn : n ≤ 40) {t : List UInt8} (ht : t.length ≤ 1000) (hq : Sg.find S t = none) :
    Calls Tryz.prog 26 #[.pointer (some ⟨sb, 0, none⟩), .string ⟨t.toArray⟩] z fun e z' => e = .returned (.tuple #[.int .i64 (S.th.length : Nat), .int .i64 0]) ∧ CS w db f F sb (Sg.after S (.put t)) (n + 1) z' ∧ Moves w F z z' := by
  obtain ⟨x, j, D, rfl, h2, h3⟩ := h
  obtain ⟨D', j', e, c⟩ := h3.put_new hf hn ht hq
  have := put_t g.g h2 (t := t) (by omega) (by have := h3.wl.big; omega)
  rw [e] at this
  exact this.mono fun e z' ⟨h1, h2⟩ => ⟨h1, cs_of h2 c⟩
theorem putO (g : GmS w) (h : CS w db f F sb S n z) (hn : n ≤ 40) {t : List UInt8} (ht : t.length ≤ 1000) {m : Nat} (hq : Sg.find S t = some m) :
    Calls Tryz.prog 26 #[.pointer (some ⟨sb, 0, none⟩), .string ⟨t.toArray⟩] z fun e z' => e = .returned (.tuple #[.int .i64 (m : Nat), .int .i64 0]) ∧ CS w db f F sb S n z' ∧ Moves w F z z' := by
  obtain ⟨x, j, D, rfl, h2, h3⟩ := h
  have := put_t g.g h2 (t := t) (by omega) (by have := h3.wl.big; omega)
  rw [Sg.put_old D j hq] at this
  exact this.mono fun e z' ⟨h1, h2⟩ => ⟨h1, cs_of h2 h3⟩
theorem setC (g : GmS w) (h : CS w db f F sb S n z) (hf : 0 ≤ f ∧ f < 16) (hn : n ≤ 40) {p : Sg.Pf} (hp : (Sg.pfE p).length ≤ 1900) (hr : Sg.rightP p = true) (hi : ∀ x ∈ p.its, Sg.there S x.pr = true) {v : Value} {lo hi' : Nat} (hv : SlS 5 lo hi' z v (p.its.map itC)) (hx : ∀ x ∈ p.its, ItArg x) :
    Calls Tryz.prog 82 #[.pointer (some ⟨sb, 0, none⟩), .agg #[.string ⟨p.nm.toArray⟩, v]] z fun e z' => e = .returned (.int .i64 0) ∧ CS w db f F sb (Sg.after S (.set p)) (n + 1) z' ∧ Moves w F z z' := by
  obtain ⟨x, j, D, rfl, h2, h3⟩ := h
  obtain ⟨D', j', e, c⟩ := h3.set_done hf hn hp hr hi
  obtain ⟨r1, r2, _⟩ := right_len hr
  have := set_t g h2 hv (by omega) (by omega) hx (by have := h3.wl.big; omega)
  rw [e] at this
  exact this.mono fun e z' ⟨h1, h2⟩ => ⟨h1, cs_of h2 c⟩
theorem setN (g : GmS w) (h : CS w db f F sb S n z) (hn : n ≤ 40) {p : Sg.Pf} (hr : Sg.rightP p = true) (hi : (p.its.all fun x => Sg.there S x.pr) = false) {v : Value} {lo hi' : Nat} (hv : SlS 5 lo hi' z v (p.its.map itC)) (hx : ∀ x ∈ p.its, ItArg x) :
    Calls Tryz.prog 82 #[.pointer (some ⟨sb, 0, none⟩), .agg #[.string ⟨p.nm.toArray⟩, v]] z fun e z' => e = .returned (.int .i64 4) ∧ CS w db f F sb S n z' ∧ Moves w F z z' := by
  obtain ⟨x, j, D, rfl, h2, h3⟩ := h
  obtain ⟨r1, r2, _⟩ := right_len hr
  have := set_t g h2 hv (by omega) (by omega) hx (by have := h3.wl.big; omega)
  rw [Sg.set_none D j hr hi] at this
  exact this.mono fun e z' ⟨h1, h2⟩ => ⟨h1, cs_of h2 h3⟩
theorem sweepC (g : GmS w) (h : CS w db f F sb S n z) (hf : 0 ≤ f ∧ f < 16) (hn : n ≤ 40) (hs : Sg.spare S ≠ []) :
    Calls Tryz.prog 23 #[.pointer (some ⟨sb, 0, none⟩)] z fun e z' => e = .returned (.tuple #[.int .i64 ((Sg.spare S).length : Nat), .int .i64 0]) ∧ CS w db f F sb (Sg.after S .sweep) (n + 1) z' ∧ Moves w F z z' := by
  obtain ⟨x, j, D, rfl, h2, h3⟩ := h
  obtain ⟨D', j', e, c⟩ := h3.sweep_done hf hn hs
  have := sweep_t g.g h2 (by have := h3.wl.big; omega)
  rw [e] at this
  exact this.mono fun e z' ⟨h1, h2⟩ => ⟨h1, cs_of h2 c⟩
/-- A new disk, opened. -/
theorem openC (g : GmS w) {z : World} (h : GS w db none Dk.new F z) (hf : 0 ≤ f ∧ f < 16) :
    Calls Tryz.prog 18 #[.pointer (some ⟨db, 0, none⟩), .int .i64 f] z fun e z' => ∃ sb, e = .returned (.tuple #[.pointer (some ⟨sb, 0, none⟩), .int .i64 0]) ∧ CS w db f F sb Sg.nil 0 z' ∧ Moves w F z z' := by
  obtain ⟨rs, h1, h2, h3, h4, h5, h6⟩ := Sg.cm_open (Sg.wf_new f) Jr.calm_new hf
  obtain rfl : rs = [] := List.length_eq_zero_iff.1 (by omega)
  refine (sopen_t g.g h (f := f) (by unfold I64; omega) (Or.inr ⟨h1, h2, h3, by simp, h6⟩)).mono fun e z' ho => ?_
  rcases ho with ⟨k1, _⟩ | ⟨_, x, k1, k2, k3⟩
  · rw [k1] at h1; cases h1
  · exact ⟨x.sb, k1, ⟨x, _, _, rfl, k2, h5⟩, k3⟩
end
end Go.Proofs.YtkldcnikeoofiaaGreatDoor
namespace Go.Proofs.YtkldcnikeoofiaaGreatDoor
open Go.RowKit
set_option linter.unusedVariables false
set_option linter.unusedSimpArgs false
attribute [local irreducible] Calls CallsIn

namespace Sg
def s1 : Sta := after nil (.put [97])
def s2 : Sta := after s1 (.put [98])
def s3 : Sta := after s2 (.set ⟨[120], [geo 1]⟩)
def s4 : Sta := after s3 .sweep
def s5 : Sta := after s4 (.put [97])
theorem f1 : find nil [97] = none := by decide
theorem f2 : find s1 [98] = none := by decide
theorem f3 : find s2 [97] = some 0 := by decide
theorem r1 : rightP ⟨[120], [geo 1]⟩ = true := by decide
theorem r0 : rightP ⟨[120], [geo 0]⟩ = true := by decide
theorem t2 : there s2 1 = true := by decide
theorem p3 : spare s3 = [0] := by decide
theorem n4 : numbers s4 = [1] := by decide
theorem f4 : find s4 [97] = none := by decide
theorem l4 : s4.th.length = 2 := by decide
theorem t51 : there s5 1 = true := by decide
end Sg
theorem geoArg (n : Int) (h : I64 n) : ItArg (geo n) := ⟨(show 3 ≤ 1000000 by omega), (show I64 1 by unfold I64; omega), (show I64 0 by unfold I64; omega), (show I64 0 by unfold I64; omega), h⟩
theorem geo_len1 : (Sg.pfE ⟨[120], [geo 1]⟩).length ≤ 1900 := by
  have h1 : (Wire.textE [120]).length ≤ 1 + 22 := Fm.textE_len [120] (by decide)
  have h3 : (Wire.textE [103, 101, 111]).length ≤ 3 + 22 := Fm.textE_len [103, 101, 111] (by decide)
  have h4 : (Wire.numE 1).length ≤ 21 := Fm.num_len (n := 1) (by constructor <;> omega)
  have h5 : (Wire.numE 0).length ≤ 21 := Fm.num_len (n := 0) (by constructor <;> omega)
  rw [show Sg.pfE ⟨[120], [geo 1]⟩ = Wire.textE [120] ++ (Wire.numE 1 ++ ((Wire.textE [103, 101, 111] ++ (Wire.numE 1 ++ (Wire.numE 0 ++ (Wire.numE 0 ++ Wire.numE 1)))) ++ [])) from rfl]
  simp only [List.length_append, List.length_nil]
  omega
set_option maxHeartbeats 4000000 in
set_option maxRecDepth 100000 in
theorem smallS_c (w : World) (g : GmS w) : Calls Tryz.prog 15 #[] w fun e w' => e = .returned (.bool true) ∧ Nw w w' := by
  have hf : (0 : Int) ≤ 0 ∧ (0 : Int) < 16 := by omega
  have h0 := Lib.hid (new_t w g.g)
  have G := Lib.hid g
  have i1 : I64 1 := by unfold I64; omega
  have i0 : I64 0 := by unfold I64; omega
  have hgb := g.g.big
  clear g
  go_enter Tryz.func15, Tryz.ntmps15
  go_wp2_with fail
  (with_reducible refine (h0.out).mono ?_)
  rintro _ z0 ⟨db, rfl, hg0⟩
  have h1 := Lib.hid (openC G.out hg0 hf)
  clear hg0 h0
  go_wp2_with fail
  (with_reducible refine (h1.out).mono ?_)
  rintro _ z1 ⟨sb, rfl, c1, m1⟩
  clear h1 m1
  have h2' := putC G.out c1 hf (by omega) (t := [97]) (by decide) Sg.f1
  rw [show ((Sg.nil.th.length : Nat) : Int) = 0 from rfl, show Sg.after Sg.nil (.put [97]) = Sg.s1 from rfl] at h2'
  have h2 := Lib.hid h2'
  clear c1 h2'
  go_wp2_with fail
  (with_reducible refine (h2.out).mono ?_)
  rintro _ z2 ⟨rfl, c2, m2⟩
  clear h2 m2
  have h3' := putC G.out c2 hf (by omega) (t := [98]) (by decide) Sg.f2
  rw [show ((Sg.s1.th.length : Nat) : Int) = 1 from rfl, show Sg.after Sg.s1 (.put [98]) = Sg.s2 from rfl] at h3'
  have h3 := Lib.hid h3'
  clear c2 h3'
  go_wp2_with fail
  (with_reducible refine (h3.out).mono ?_)
  rintro _ z3 ⟨rfl, c3, m3⟩
  clear h3 m3
  have h4 := Lib.hid (putO G.out c3 (by omega) (t := [97]) (by decide) Sg.f3)
  clear c3
  go_wp2_with fail
  (with_reducible refine (h4.out).mono ?_)
  rintro _ z4 ⟨rfl, c4, m4⟩
  clear h4 m4
  have hz4 := c4.nw0.size
  have h5 := Lib.hid (profile_c [120] 1 z4 (by omega))
  have C4 := Lib.hid c4
  clear c4
  go_wp2_with fail
  (with_reducible refine (h5.out).mono ?_)
  rintro _ z5 ⟨v5, rfl, hv5, u5⟩
  clear h5
  have h6' := setC G.out (C4.out.nw u5) hf (by omega) (p := ⟨[120], [geo 1]⟩) geo_len1 Sg.r1 (fun x hx => by rw [List.mem_singleton.1 hx]; exact Sg.t2) hv5 (fun x hx => by rw [List.mem_singleton.1 hx]; exact geoArg 1 i1)
  rw [show Sg.after Sg.s2 (.set ⟨[120], [geo 1]⟩) = Sg.s3 from rfl] at h6'
  have h6 := Lib.hid h6'
  clear hv5 u5 C4 h6'
  go_wp2_with fail
  (with_reducible refine (h6.out).mono ?_)
  rintro _ z6 ⟨rfl, c6, m6⟩
  clear h6 m6
  have h7' := sweepC G.out c6 hf (by omega) (by rw [Sg.p3]; simp)
  rw [Sg.p3, show Sg.after Sg.s3 .sweep = Sg.s4 from rfl] at h7'
  have h7 := Lib.hid (show Calls Tryz.prog 23 #[.pointer (some ⟨sb, 0, none⟩)] z6 (fun e z' => e = .returned (.tuple #[.int .i64 1, .int .i64 0]) ∧ CS w db 0 (fun _ => False) sb Sg.s4 (0 + 1 + 1 + 1 + 1) z' ∧ Moves w (fun _ => False) z6 z') from h7')
  clear c6 h7'
  go_wp2_with fail
  (with_reducible refine (h7.out).mono ?_)
  rintro _ z7 ⟨rfl, c7, m7⟩
  clear h7 m7
  obtain ⟨x7, e7, g7⟩ := c7.st
  have h8' := sNumbers_c g7
  rw [e7, show numI Sg.s4 = [1] by unfold numI; rw [Sg.n4]; rfl] at h8'
  have h8 := Lib.hid h8'
  have C7 := Lib.hid c7
  clear c7 h8' e7 g7
  go_wp2_with fail
  (with_reducible refine (h8.out).mono ?_)
  rintro _ z8 ⟨v8, rfl, ho8, u8⟩
  clear h8
  rcases ho8.2 with ⟨rfl, hn8⟩ | ⟨g8, cap8, cur8, rfl, hbg8, _⟩
  · exact absurd hn8 (by decide)
  have hs8 := C7.out.nw0.size
  have hg8 := ho8.lt g8 rfl
  have c8 : CS w db 0 (fun k => k = g8) sb Sg.s4 (0 + 1 + 1 + 1 + 1) z8 := C7.out.keep u8 (fun k hk => Or.inr (by rw [hk]; exact hg8))
  have h9' := putC G.out c8 hf (by omega) (t := [97]) (by decide) Sg.f4
  rw [show ((Sg.s4.th.length : Nat) : Int) = 2 by rw [Sg.l4]; rfl, show Sg.after Sg.s4 (.put [97]) = Sg.s5 from rfl] at h9'
  have h9 := Lib.hid h9'
  have HO8 := Lib.hid ho8
  clear C7 u8 h9' ho8 c8
  go_wp2_with fail
  (with_reducible refine (h9.out).mono ?_)
  rintro _ z9 ⟨rfl, c9, m9⟩
  clear h9
  have HO9 := Lib.hid (owns_upd' HO8.out m9 (fun k hk e => e.1 (by simpa [Value.ownBlock] using hk.symm)))
  have hz9 := c9.nw0.size
  have h10 := Lib.hid (profile_c [120] 0 z9 (by omega))
  have C9 := Lib.hid c9
  clear c9 m9 HO8
  go_wp2_with fail
  (with_reducible refine (h10.out).mono ?_)
  rintro _ z10 ⟨v10, rfl, hv10, u10⟩
  clear h10
  have h11 := Lib.hid (setN G.out (C9.out.nw u10) (by omega) (p := ⟨[120], [geo 0]⟩) Sg.r0 (show ([geo 0].all fun x => Sg.there Sg.s5 x.pr) = false by decide) hv10 (fun x hx => by rw [List.mem_singleton.1 hx]; exact geoArg 0 i0))
  have HO10 := Lib.hid (owns_upd' HO9.out u10 (fun _ _ e => e))
  clear hv10 u10 C9 HO9
  go_wp2_with fail
  (with_reducible refine (h11.out).mono ?_)
  rintro _ z11 ⟨rfl, c11, m11⟩
  clear h11
  have HO11 := owns_upd' HO10.out m11 (fun k hk e => e.1 (by simpa [Value.ownBlock] using hk.symm))
  have d8 := HO11.cells (g := g8) rfl 0 (.int .i64 1) rfl
  rw [add_plain] at d8
  have HN := Lib.hid c11.nw0
  obtain ⟨x11, e11, g11⟩ := c11.st
  have h12' := sText_c g11 i1
  rw [e11, show Sg.there Sg.s5 1 = true from Sg.t51] at h12'
  have h12 := Lib.hid (show Calls Tryz.prog 22 #[.pointer (some ⟨sb, 0, none⟩), .int .i64 1] z11 (fun e z' => e = .returned (.tuple #[.string ⟨#[98]⟩, .bool true]) ∧ z11 = z') from h12')
  clear c11 m11 HO11 h12' e11 g11 HO10
  go_wp2_with fail
  (with_reducible refine (h12.out).mono ?_)
  rintro _ _ ⟨rfl, rfl⟩
  clear h12
  go_wp2_with fail
  go_ret
  exact ⟨rfl, HN.out⟩
end Go.Proofs.YtkldcnikeoofiaaGreatDoor
namespace Go.Proofs.YtkldcnikeoofiaaGreatDoor
open Go.RowKit
set_option linter.unusedVariables false
set_option linter.unusedSimpArgs false

/-- The blocks that hold a loop, in the order of the text. -/
def loopBlocks : Code → List Code
  | .block i (.loop c) => .block i (.loop c) :: loopBlocks c
  | .block _ c => loopBlocks c
  | .loop c => loopBlocks c
  | .seq a b => loopBlocks a ++ loopBlocks b
  | .scope c => loopBlocks c
  | .cond _ a b => loopBlocks a ++ loopBlocks b
  | _ => []
noncomputable def loopAt (f : Func) (k : Nat) : Code := ((f.body.map fun c => ((loopBlocks c)[k]?).getD .skip).getD .skip)
/-- A loop that is not left early. -/
theorem wp_normal {P : Program} {c : Code} {Q : Exit → Act → World → Prop} {a : Act} {w : World} (h : Code.wp P c (Exit.then (fun a w => Q .normal a w) (fun _ _ _ => False)) a w) : Code.wp P c Q a w :=
  Code.wp_mono (fun e a w h => by cases e <;> first | exact h | exact h.elim) h
end Go.Proofs.YtkldcnikeoofiaaGreatDoor
namespace Go.Proofs.YtkldcnikeoofiaaGreatDoor
open Go.RowKit
set_option linter.unusedVariables false
set_option linter.unusedSimpArgs false
attribute [local irreducible] Calls CallsIn

theorem numI_at {S : Sg.Sta} {k : Nat} (h : k < (numI S).length) : ∃ i : Nat, (numI S)[k] = (i : Int) ∧ Sg.thereN S i = true := by
  obtain ⟨i, hi, e⟩ := List.mem_map.1 (List.getElem_mem h)
  exact ⟨i, e.symm, mem_numbers.1 hi⟩
end Go.Proofs.YtkldcnikeoofiaaGreatDoor
namespace Go.Proofs.YtkldcnikeoofiaaGreatDoor
open Go.RowKit
set_option linter.unusedVariables false
set_option linter.unusedSimpArgs false
attribute [local irreducible] Calls CallsIn

theorem itE_few {x : Sg.It} (h : ItArg x) (hn : x.nm.length ≤ 60) : (Sg.itE x).length ≤ 166 := by
  obtain ⟨_, h1, h2, h3, h4⟩ := h
  have t := Fm.textE_len x.nm (by omega)
  have a := Fm.num_len h1
  have b := Fm.num_len h2
  have c := Fm.num_len h3
  have d := Fm.num_len h4
  unfold Sg.itE
  simp only [List.length_append]
  omega
theorem itsE_few : ∀ {l : List Sg.It}, (∀ x ∈ l, ItArg x) → (∀ x ∈ l, x.nm.length ≤ 60) → (Sg.itsE l).length ≤ 166 * l.length
  | [], _, _ => Nat.le_refl _
  | y :: l, h, hn => by
    have h1 := itE_few (h y (List.mem_cons_self ..)) (hn y (List.mem_cons_self ..))
    have h2 := itsE_few (l := l) (fun x hx => h x (List.mem_cons_of_mem _ hx)) (fun x hx => hn x (List.mem_cons_of_mem _ hx))
    have e : Sg.itsE (y :: l) = Sg.itE y ++ Sg.itsE l := rfl
    rw [e, List.length_append, List.length_cons]
    omega
theorem pfE_few {p : Sg.Pf} (hl : p.its.length ≤ 6) (hn : p.nm.length ≤ 60) (hx : ∀ x ∈ p.its, ItArg x) (hk : ∀ x ∈ p.its, x.nm.length ≤ 60) : (Sg.pfE p).length ≤ 1900 := by
  have t := Fm.textE_len p.nm (by omega)
  have a := Fm.num_len (n := (p.its.length : Int)) (by constructor <;> omega)
  have b := itsE_few hx hk
  unfold Sg.pfE
  simp only [List.length_append]
  omega
section
variable {w : World} {db : Nat} {f : Int} {F : Nat → Prop} {sb : Nat} {S : Sg.Sta} {n : Nat} {z : World}
/-- A store of a calm disk, opened again: the same state. -/
theorem againC (g : GmS w) {D : Dk.Disk} {j : Jr.Jn} (h : GS w db none D F z) (c : Sg.Cm D j S f n) (hf : 0 ≤ f ∧ f < 16) (hn : n ≤ 40) :
    Calls Tryz.prog 18 #[.pointer (some ⟨db, 0, none⟩), .int .i64 f] z fun e z' => ∃ sb, e = .returned (.tuple #[.pointer (some ⟨sb, 0, none⟩), .int .i64 0]) ∧ CS w db f F sb S n z' ∧ Moves w F z z' := by
  obtain ⟨rs, h1, h2, h3, h4, h5, h6, h7⟩ := c.again hf
  refine (sopen_t g.g h (f := f) (by unfold I64; omega) (Or.inr ⟨h1, h2, h3, by omega, h7⟩)).mono fun e z' ho => ?_
  rcases ho with ⟨k1, _⟩ | ⟨_, x, k1, k2, k3⟩
  · rw [k1] at h1; cases h1
  · rw [h5] at k2
    exact ⟨x.sb, k1, ⟨x, _, _, rfl, k2, h6⟩, k3⟩
end
end Go.Proofs.YtkldcnikeoofiaaGreatDoor
namespace Go.Proofs.YtkldcnikeoofiaaGreatDoor.Sg
open Fm (Str)
open Dk (Disk)
open Jr (Jn)
set_option linter.unusedVariables false
set_option linter.unusedSimpArgs false

/-- What a sweep leaves. -/
def swept (S : Sta) : Sta := if spare S = [] then S else after S .sweep
theorem spare_nil {S : Sta} (h : spare S = []) {i : Nat} (hi : thereN S i = true) : used S i = true := by
  have h1 := List.filter_eq_nil_iff.1 h i (List.mem_filter.2 ⟨List.mem_range.2 (thereN_lt hi), hi⟩)
  cases hu : used S i with
  | true => rfl
  | false => rw [hu] at h1; exact absurd rfl h1
theorem swept_there (S : Sta) (i : Nat) : thereN (swept S) i = (thereN S i && used S i) := by
  unfold swept
  split
  · rename_i h
    cases ht : thereN S i with
    | false => rfl
    | true => rw [spare_nil h ht]; rfl
  · exact there_sweep S i
theorem swept_tx (S : Sta) : (swept S).tx = S.tx := by unfold swept; split <;> rfl
theorem swept_text (S : Sta) (i : Nat) : textN (swept S) i = textN S i := by unfold textN; rw [swept_tx]
theorem swept_pf (S : Sta) : (swept S).pf = S.pf := by unfold swept; split <;> rfl
theorem swept_len (S : Sta) : (swept S).th.length = S.th.length := by
  unfold swept
  split
  · rfl
  · show ((List.range S.th.length).map _).length = _
    rw [List.length_map, List.length_range]
theorem swept_used (S : Sta) (n : Int) : used (swept S) n = used S n := by unfold used; rw [swept_pf]
theorem swept_numbers (S : Sta) : numbers (swept S) = (numbers S).filter fun i : Nat => used S i := by
  unfold numbers
  rw [swept_len, List.filter_filter]
  congr 1
  funext i
  rw [swept_there, Bool.and_comm]
theorem swept_spare (S : Sta) : spare (swept S) = [] := by
  unfold spare
  rw [swept_numbers, List.filter_filter]
  refine List.filter_eq_nil_iff.2 fun i _ => ?_
  rw [swept_used]
  cases used S i <;> decide
theorem filter_two {α : Type} (p : α → Bool) : ∀ l : List α, (l.filter p).length + (l.filter fun x => !p x).length = l.length
  | [] => rfl
  | a :: l => by
    have ih := filter_two p l
    rw [List.filter_cons, List.filter_cons]
    cases hp : p a <;> simp [hp] <;> omega
theorem swept_count (S : Sta) : (numbers (swept S)).length + (spare S).length = (numbers S).length := by
  rw [swept_numbers]
  exact filter_two (fun i : Nat => used S i) (numbers S)
variable {D : Disk} {j : Jn} {S : Sta} {f : Int} {n : Nat}
theorem Cm.sweep_all (h : Cm D j S f n) (hf : 0 ≤ f ∧ f < 16) (hn : n ≤ 40) :
    ∃ D' j', sweep D j S = (D', j', swept S, ((spare S).length : Int), 0) ∧ Cm D' j' (swept S) f (n + 1) := by
  by_cases hs : spare S = []
  · refine ⟨D, j, ?_, ?_⟩
    · unfold sweep swept
      rw [if_pos hs, if_pos hs, hs]; rfl
    · unfold swept
      rw [if_pos hs]
      exact h.mono (by omega)
  · unfold swept
    rw [if_neg hs]
    exact h.sweep_done hf hn hs
/-- What an operation's results say. -/
structure Told (S : Sta) (k : Int) (s : Str) (r : Res) : Prop where
  le : S.th.length ≤ r.S.th.length
  num : k = 0 → r.e = 0 → 0 ≤ r.n ∧ r.n < (r.S.th.length : Nat)
  gone : k = 2 → prof r.S s = none
  ok : k = 3 → r.e = 0
theorem after_le (S : Sta) (o : Ops) : S.th.length ≤ (after S o).th.length := by
  cases o with
  | put t => simp [after]
  | set p => exact Nat.le_refl _
  | drop n => exact Nat.le_refl _
  | sweep => show _ ≤ ((List.range S.th.length).map _).length; rw [List.length_map, List.length_range]; exact Nat.le_refl _
theorem prof_drop (S : Sta) (s : Str) : prof (after S (.drop s)) s = none := by
  unfold prof
  refine List.find?_eq_none.2 fun p hp => ?_
  have := (mem_without.1 (show p ∈ without S.pf s from hp)).2
  simp [this]
theorem Cm.told (h : Cm D j S f n) (hf : 0 ≤ f ∧ f < 16) (hn : n ≤ 40) (k : Int) {s : Str} {p : Pf} (hs : s.length ≤ 1000) (hp : (pfE p).length ≤ 1900) :
    Told S k s (Sg.act D j S k s p) := by
  unfold Sg.act
  split
  · rename_i hk
    subst hk
    cases hq : find S s with
    | some m =>
      rw [put_old D j hq]
      exact ⟨Nat.le_refl _, (fun _ _ => ⟨by show (0 : Int) ≤ (m : Int); omega, by have := thereN_lt (find_some hq).1; show (m : Int) < _; simp only [Res.S]; omega⟩), (fun e => by cases e), (fun e => by cases e)⟩
    | none =>
      obtain ⟨D', j', e, _⟩ := h.put_new hf hn hs hq
      rw [e]
      refine ⟨after_le S (.put s), (fun _ _ => ⟨by show (0 : Int) ≤ (S.th.length : Int); omega, ?_⟩), (fun e => by cases e), (fun e => by cases e)⟩
      show (S.th.length : Int) < ((S.th ++ [true]).length : Nat)
      rw [List.length_append]
      simp only [List.length_cons, List.length_nil]
      omega
  split
  · rename_i hk
    subst hk
    refine ⟨?_, (fun e => by cases e), (fun e => by cases e), (fun e => by cases e)⟩
    by_cases hr : rightP p = true
    · by_cases hi : (p.its.all fun x => there S x.pr) = true
      · obtain ⟨D', j', e, _⟩ := h.set_done hf hn hp hr (fun x hx => List.all_eq_true.1 hi x hx)
        rw [e]; exact after_le S (.set p)
      · rw [set_none D j hr (by simpa using hi)]; exact Nat.le_refl _
    · unfold set
      rw [if_pos (by simpa using hr)]; exact Nat.le_refl _
  split
  · rename_i hk
    subst hk
    unfold drop
    cases hq : prof S s with
    | none => exact ⟨Nat.le_refl _, (fun e => by cases e), (fun _ => hq), (fun e => by cases e)⟩
    | some q =>
      obtain ⟨D', j', e, _⟩ := h.perform hf hn (o := .drop s) trivial (by simp [opE]; omega)
      dsimp only
      rw [e]
      exact ⟨after_le S (.drop s), (fun e => by cases e), (fun _ => prof_drop S s), (fun e => by cases e)⟩
  · rename_i h0 h1 h2
    obtain ⟨D', j', e, _⟩ := h.sweep_all hf hn
    rw [e]
    exact ⟨by show S.th.length ≤ (swept S).th.length; rw [swept_len]; exact Nat.le_refl _, (fun e => absurd e h0), (fun e => absurd e h2), fun _ => rfl⟩
end Go.Proofs.YtkldcnikeoofiaaGreatDoor.Sg
namespace Go.Proofs.YtkldcnikeoofiaaGreatDoor
open Go.RowKit
set_option linter.unusedVariables false
set_option linter.unusedSimpArgs false
attribute [local irreducible] Calls CallsIn

section
variable {w : World} {db : Nat} {f : Int} {F : Nat → Prop} {sb : Nat} {S : Sg.Sta} {n : Nat} {z : World}
theorem CS.mono {m : Nat} (h : CS w db f F sb S n z) (hm : n ≤ m) : CS w db f F sb S m z := by
  obtain ⟨x, j, D, h1, h2, h3⟩ := h
  exact ⟨x, j, D, h1, h2, h3.mono hm⟩
theorem sweepB (g : GmS w) (h : CS w db f F sb S n z) (hf : 0 ≤ f ∧ f < 16) (hn : n ≤ 40) :
    Calls Tryz.prog 23 #[.pointer (some ⟨sb, 0, none⟩)] z fun e z' => e = .returned (.tuple #[.int .i64 ((Sg.spare S).length : Nat), .int .i64 0]) ∧ CS w db f F sb (Sg.swept S) (n + 1) z' ∧ Moves w F z z' := by
  obtain ⟨x, j, D, rfl, h2, h3⟩ := h
  obtain ⟨D', j', e, c⟩ := h3.sweep_all hf hn
  have := sweep_t g.g h2 (by have := h3.wl.big; omega)
  rw [e] at this
  exact this.mono fun e z' ⟨h1, h2⟩ => ⟨h1, cs_of h2 c⟩
/-- What an operation leaves and returns. -/
def DoT (w : World) (db : Nat) (f : Int) (F : Nat → Prop) (sb : Nat) (S : Sg.Sta) (n : Nat) (z : World) (k : Int) (s : List UInt8) (a b : Int) (z' : World) : Prop :=
  ∃ S', CS w db f F sb S' (n + 1) z' ∧ S.th.length ≤ S'.th.length ∧ (k = 0 → b = 0 → 0 ≤ a ∧ a < (S'.th.length : Nat)) ∧ (k = 2 → Sg.prof S' s = none) ∧ (k = 3 → b = 0) ∧ Moves w F z z'
theorem doT (g : GmS w) (h : CS w db f F sb S n z) (hf : 0 ≤ f ∧ f < 16) (hn : n ≤ 40) {k m : Int} (hk : I64 k) {s : List UInt8} (hs : s.length ≤ 1000) {p : Sg.Pf} {v kv : Value} {lo hi : Nat} (hv : SlS 5 lo hi z v (p.its.map itC)) (hp : (Sg.pfE p).length ≤ 1900) (hnm : p.nm.length ≤ 1000000) (hl : p.its.length ≤ 1000) (hx : ∀ x ∈ p.its, ItArg x) :
    Calls Tryz.prog 19 #[.pointer (some ⟨sb, 0, none⟩), .agg #[.int .i64 k, .string ⟨s.toArray⟩, .int .i64 m, .string ⟨p.nm.toArray⟩, v, kv]] z fun e z' => ∃ a b : Int, e = .returned (.tuple #[.int .i64 a, .int .i64 b]) ∧ DoT w db f F sb S n z k s a b z' := by
  obtain ⟨x, j, D, rfl, h2, h3⟩ := h
  have c := h3.act hf hn k hs hp
  have t := h3.told hf hn k hs hp
  exact (do_t g h2 hk (by omega) hv hnm hl hx (by have := h3.wl.big; omega)).mono fun e z' ⟨h1, h2⟩ => ⟨_, _, h1, _, (cs_of h2 c).1, t.le, t.num, t.gone, t.ok, (cs_of h2 c).2⟩
/-- Opened again, beside the old store: both have the state. -/
theorem again2 (g : GmS w) (h : CS w db f F sb S n z) (hf : 0 ≤ f ∧ f < 16) (hn : n ≤ 40) :
    Calls Tryz.prog 18 #[.pointer (some ⟨db, 0, none⟩), .int .i64 f] z fun e z' => ∃ sb2, e = .returned (.tuple #[.pointer (some ⟨sb2, 0, none⟩), .int .i64 0]) ∧ (∃ x : SgR, x.sb = sb ∧ SgAt w.heap.size z' x S) ∧ (∃ x : SgR, x.sb = sb2 ∧ SgAt w.heap.size z' x S) ∧ Moves w F z z' := by
  obtain ⟨x, j, D, rfl, h2, h3⟩ := h
  refine (againC g h2.gs.forget h3 hf hn).mono fun e z' ⟨sb2, k1, k2, k3⟩ => ⟨sb2, k1, ⟨x, rfl, h2.st.upd k3 (fun k hk s => s.1 (Or.inr hk))⟩, ?_, k3.mono (fun k _ s => ⟨fun hf => s.1 (Or.inl hf), s.2⟩)⟩
  obtain ⟨x2, e2, h4⟩ := k2.st
  exact ⟨x2, e2, h4⟩
/-- Put, whatever is there. -/
def putS (S : Sg.Sta) (t : List UInt8) : Sg.Sta := if (Sg.find S t).isSome then S else Sg.after S (.put t)
def putN (S : Sg.Sta) (t : List UInt8) : Nat := (Sg.find S t).getD S.th.length
theorem putB (g : GmS w) (h : CS w db f F sb S n z) (hf : 0 ≤ f ∧ f < 16) (hn : n ≤ 40) {t : List UInt8} (ht : t.length ≤ 1000) :
    Calls Tryz.prog 26 #[.pointer (some ⟨sb, 0, none⟩), .string ⟨t.toArray⟩] z fun e z' => e = .returned (.tuple #[.int .i64 (putN S t : Nat), .int .i64 0]) ∧ CS w db f F sb (putS S t) (n + 1) z' ∧ Moves w F z z' := by
  unfold putS putN
  cases hq : Sg.find S t with
  | none =>
    have := putC g h hf hn ht hq
    simpa using this
  | some m =>
    refine (putO g h hn ht hq).mono fun e z' ⟨h1, h2, h3⟩ => ⟨by simpa using h1, ?_, h3⟩
    simpa using h2.mono (by omega)
theorem putS_find (h : Sg.G S) (t : List UInt8) : Sg.find (putS S t) t = some (putN S t) := by
  unfold putS putN
  cases hq : Sg.find S t with
  | some m => simpa using hq
  | none =>
    have g2 := h.after (o := .put t) hq
    have ht : Sg.thereN (Sg.after S (.put t)) S.th.length = true := by rw [Sg.there_put]; simp
    have := Sg.find_there g2 ht
    rw [Sg.text_put h.len, if_pos rfl] at this
    simpa using this
theorem putS_pf (t : List UInt8) : (putS S t).pf = S.pf := by
  unfold putS
  split <;> rfl
end
end Go.Proofs.YtkldcnikeoofiaaGreatDoor
namespace Go.Proofs.YtkldcnikeoofiaaGreatDoor
open Go.RowKit
set_option linter.unusedVariables false
set_option linter.unusedSimpArgs false
attribute [local irreducible] Calls CallsIn

theorem infoStrS : (Tryz.prog.info? 9).map (fun i => (i.zero, i.size, i.bytes)) = some (some (.string ⟨#[]⟩), 1, 16) := by kernel_rfl
/-- The texts, by the numbers. -/
def txsS (S : Sg.Sta) : List (List UInt8) := (Sg.numbers S).map (Sg.textN S)
theorem txsS_len (S : Sg.Sta) : (txsS S).length = (numI S).length := by unfold txsS numI; rw [List.length_map, List.length_map]
theorem numI_atx {S : Sg.Sta} {k : Nat} (h : k < (numI S).length) (h' : k < (txsS S).length) : ∃ i : Nat, (numI S)[k] = (i : Int) ∧ (txsS S)[k] = Sg.textN S i ∧ Sg.thereN S i = true := by
  have hk : k < (Sg.numbers S).length := by unfold numI at h; rwa [List.length_map] at h
  exact ⟨(Sg.numbers S)[k], List.getElem_map _, List.getElem_map _, mem_numbers.1 (List.getElem_mem hk)⟩
theorem numI_small {B : Nat} {z : World} {x : SgR} {S : Sg.Sta} (h : SgAt B z x S) : (numI S).length ≤ 1000 := by
  have h1 := numbers_len S
  have h2 := h.big
  unfold Sg.big at h2
  unfold numI
  rw [List.length_map]; omega
theorem there_nat {S : Sg.Sta} {i : Nat} : Sg.there S (i : Int) = Sg.thereN S i := by
  unfold Sg.there
  rw [Int.toNat_natCast]
  simp
set_option maxHeartbeats 8000000 in
set_option maxRecDepth 100000 in
theorem ss_texts {B B2 : Nat} {z : World} {x : SgR} {S : Sg.Sta} (h : SgAt B z x S) {v : Value} (ho : z.ownsRow B2 3 1 v (numI S).length ((numI S).map intD)) (hgz : nG ≤ z.heap.size)
    (K0 : Act → World → Prop) { c0 c1 c2 c3 c4 c5 c6 c8 c9 c10 c11 c12 c13 c14 c20 c21 c22 c23 c24 c25 c26 c27 c28 c29 c30 c31 c32 c33 c34 c35 c36 c37 c38 c39 c40 c41 c42 c43 c44 c45 c46 c47 c48 c49 c50 c51 c52 c53 c54 c55 c56 c57 c58 c59 c60 c61 c62 c63 c64 c65 c66 c67 c68 c69 c70 c71 c72 c73 c74 c75 c76 c77 c78 c79 c80 c81 c82 c83 c84 c85 c86 c87 c88 c89 c90 c91 c92 c93 c94 c95 c96 c97 c98 c99 c100 c101 c102 c103 c104 c105 c106 c107 c108 c109 c110 c111 c112 c113 c114 c115 c116 c117 c118 c119 c120 c121 c122 c123 c124 c125 c126 c127 c128 c129 c130 c131 c132 c133 c134 c135 c136 c137 c138 c139 c140 c141 c142 c143 c144 c145 c146 c147 c148 c149 c150 c151 c171 c172 c173 c174 c175 c176 c177 c178 c179 c180 c181 c182 c183 c184 c185 c186 c187 c188 c189 c190 c191 c192 c193 c194 c195 c196 c197 c198 c199 c200 c201 c202 c203 c204 c205 c206 c207 c208 c209 c210 c211 c212 c213 c214 c215 c216 c217 c218 c219 c220 c221 c222 c223 c224 c225 c226 c227 c228 c229 c230 c231 c232 c233 c234 c235 c236 c237 c238 c239 c240 c241 c242 c243 c244 c245 c246 c247 c248 c249 c250 c251 c252 c253 c254 c255 c256 c257 c258 c259 c260 c261 c262 c263 c264 c265 c266 c267 c268 c269 c270 c271 c272 c273 c274 c275 c276 c277 c278 c279 c280 c281 c282 c283 c284 c285 c286 c287 c288 c289 c290 c291 c292 c293 c294 c295 c296 c297 c298 c299 c300 c301 c302 c303 c304 c305 c306 c307 c308 c309 c310 c311 c312 c313 c314 c315 c316 c317 c318 c319 c320 c321 c322 c323 c324 c325 c326 c327 c328 c329 c330 c331 c332 c333 c334 c335 c336 c337 c338 c339 c340 c341 c342 c343 c344 c345 c346 c347 c348 c349 c350 c351 c352 c353 c354 c355 c356 c357 c358 c359 c360 c361 c362 c363 c364 c365 c366 c367 c368 c369 c370 c371 c372 : Value} { u18 u19 u152 u153 u154 u155 u156 u157 u158 u159 u160 u161 u162 u163 u164 u165 u166 u167 u168 u169 u170 : Value} {c : Code} (hc : loopAt Tryz.f4 1 = c)
    (hexit : ∀ (u18 u19 u152 u153 u154 u155 u156 u157 u158 u159 u160 u161 u162 u163 u164 u165 u166 u167 u168 u169 u170 tv : Value) (w' : World), w'.ownsRow z.heap.size 9 1 tv (numI S).length ((txsS S).map bsV) → Nw z w' → K0 ⟨(List.toArray (c0 :: c1 :: c2 :: c3 :: c4 :: c5 :: c6 :: (.pointer (some ⟨x.sb, 0, none⟩)) :: c8 :: c9 :: c10 :: c11 :: c12 :: c13 :: c14 :: (v) :: (tv) :: (.int .i64 ((numI S).length : Int)) :: u18 :: u19 :: c20 :: c21 :: c22 :: c23 :: c24 :: c25 :: c26 :: c27 :: c28 :: c29 :: c30 :: c31 :: c32 :: c33 :: c34 :: c35 :: c36 :: c37 :: c38 :: c39 :: c40 :: c41 :: c42 :: c43 :: c44 :: c45 :: c46 :: c47 :: c48 :: c49 :: c50 :: c51 :: c52 :: c53 :: c54 :: c55 :: c56 :: c57 :: c58 :: c59 :: c60 :: c61 :: c62 :: c63 :: c64 :: c65 :: c66 :: c67 :: c68 :: c69 :: c70 :: c71 :: c72 :: c73 :: c74 :: c75 :: c76 :: c77 :: c78 :: c79 :: c80 :: c81 :: c82 :: c83 :: c84 :: c85 :: c86 :: c87 :: c88 :: c89 :: c90 :: c91 :: c92 :: c93 :: c94 :: c95 :: c96 :: c97 :: c98 :: c99 :: c100 :: c101 :: c102 :: c103 :: c104 :: c105 :: c106 :: c107 :: c108 :: c109 :: c110 :: c111 :: c112 :: c113 :: c114 :: c115 :: c116 :: c117 :: c118 :: c119 :: c120 :: c121 :: c122 :: c123 :: c124 :: c125 :: c126 :: c127 :: c128 :: c129 :: c130 :: c131 :: c132 :: c133 :: c134 :: c135 :: c136 :: c137 :: c138 :: c139 :: c140 :: c141 :: c142 :: c143 :: c144 :: c145 :: c146 :: c147 :: c148 :: c149 :: c150 :: c151 :: u152 :: u153 :: u154 :: u155 :: u156 :: u157 :: u158 :: u159 :: u160 :: u161 :: u162 :: u163 :: u164 :: u165 :: u166 :: u167 :: u168 :: u169 :: u170 :: c171 :: c172 :: c173 :: c174 :: c175 :: c176 :: c177 :: c178 :: c179 :: c180 :: c181 :: c182 :: c183 :: c184 :: c185 :: c186 :: c187 :: c188 :: c189 :: c190 :: c191 :: c192 :: c193 :: c194 :: c195 :: c196 :: c197 :: c198 :: c199 :: c200 :: c201 :: c202 :: c203 :: c204 :: c205 :: c206 :: c207 :: c208 :: c209 :: c210 :: c211 :: c212 :: c213 :: c214 :: c215 :: c216 :: c217 :: c218 :: c219 :: c220 :: c221 :: c222 :: c223 :: c224 :: c225 :: c226 :: c227 :: c228 :: c229 :: c230 :: c231 :: c232 :: c233 :: c234 :: c235 :: c236 :: c237 :: c238 :: c239 :: c240 :: c241 :: c242 :: c243 :: c244 :: c245 :: c246 :: c247 :: c248 :: c249 :: c250 :: c251 :: c252 :: c253 :: c254 :: c255 :: c256 :: c257 :: c258 :: c259 :: c260 :: c261 :: c262 :: c263 :: c264 :: c265 :: c266 :: c267 :: c268 :: c269 :: c270 :: c271 :: c272 :: c273 :: c274 :: c275 :: c276 :: c277 :: c278 :: c279 :: c280 :: c281 :: c282 :: c283 :: c284 :: c285 :: c286 :: c287 :: c288 :: c289 :: c290 :: c291 :: c292 :: c293 :: c294 :: c295 :: c296 :: c297 :: c298 :: c299 :: c300 :: c301 :: c302 :: c303 :: c304 :: c305 :: c306 :: c307 :: c308 :: c309 :: c310 :: c311 :: c312 :: c313 :: c314 :: c315 :: c316 :: c317 :: c318 :: c319 :: c320 :: c321 :: c322 :: c323 :: c324 :: c325 :: c326 :: c327 :: c328 :: c329 :: c330 :: c331 :: c332 :: c333 :: c334 :: c335 :: c336 :: c337 :: c338 :: c339 :: c340 :: c341 :: c342 :: c343 :: c344 :: c345 :: c346 :: c347 :: c348 :: c349 :: c350 :: c351 :: c352 :: c353 :: c354 :: c355 :: c356 :: c357 :: c358 :: c359 :: c360 :: c361 :: c362 :: c363 :: c364 :: c365 :: c366 :: c367 :: c368 :: c369 :: c370 :: c371 :: c372 :: [])), []⟩ w') :
    Code.wp Tryz.prog c (Exit.then K0 (fun _ _ _ => False)) ⟨(List.toArray (c0 :: c1 :: c2 :: c3 :: c4 :: c5 :: c6 :: (.pointer (some ⟨x.sb, 0, none⟩)) :: c8 :: c9 :: c10 :: c11 :: c12 :: c13 :: c14 :: (v) :: (.slice none 0 0) :: (.int .i64 0) :: u18 :: u19 :: c20 :: c21 :: c22 :: c23 :: c24 :: c25 :: c26 :: c27 :: c28 :: c29 :: c30 :: c31 :: c32 :: c33 :: c34 :: c35 :: c36 :: c37 :: c38 :: c39 :: c40 :: c41 :: c42 :: c43 :: c44 :: c45 :: c46 :: c47 :: c48 :: c49 :: c50 :: c51 :: c52 :: c53 :: c54 :: c55 :: c56 :: c57 :: c58 :: c59 :: c60 :: c61 :: c62 :: c63 :: c64 :: c65 :: c66 :: c67 :: c68 :: c69 :: c70 :: c71 :: c72 :: c73 :: c74 :: c75 :: c76 :: c77 :: c78 :: c79 :: c80 :: c81 :: c82 :: c83 :: c84 :: c85 :: c86 :: c87 :: c88 :: c89 :: c90 :: c91 :: c92 :: c93 :: c94 :: c95 :: c96 :: c97 :: c98 :: c99 :: c100 :: c101 :: c102 :: c103 :: c104 :: c105 :: c106 :: c107 :: c108 :: c109 :: c110 :: c111 :: c112 :: c113 :: c114 :: c115 :: c116 :: c117 :: c118 :: c119 :: c120 :: c121 :: c122 :: c123 :: c124 :: c125 :: c126 :: c127 :: c128 :: c129 :: c130 :: c131 :: c132 :: c133 :: c134 :: c135 :: c136 :: c137 :: c138 :: c139 :: c140 :: c141 :: c142 :: c143 :: c144 :: c145 :: c146 :: c147 :: c148 :: c149 :: c150 :: c151 :: u152 :: u153 :: u154 :: u155 :: u156 :: u157 :: u158 :: u159 :: u160 :: u161 :: u162 :: u163 :: u164 :: u165 :: u166 :: u167 :: u168 :: u169 :: u170 :: c171 :: c172 :: c173 :: c174 :: c175 :: c176 :: c177 :: c178 :: c179 :: c180 :: c181 :: c182 :: c183 :: c184 :: c185 :: c186 :: c187 :: c188 :: c189 :: c190 :: c191 :: c192 :: c193 :: c194 :: c195 :: c196 :: c197 :: c198 :: c199 :: c200 :: c201 :: c202 :: c203 :: c204 :: c205 :: c206 :: c207 :: c208 :: c209 :: c210 :: c211 :: c212 :: c213 :: c214 :: c215 :: c216 :: c217 :: c218 :: c219 :: c220 :: c221 :: c222 :: c223 :: c224 :: c225 :: c226 :: c227 :: c228 :: c229 :: c230 :: c231 :: c232 :: c233 :: c234 :: c235 :: c236 :: c237 :: c238 :: c239 :: c240 :: c241 :: c242 :: c243 :: c244 :: c245 :: c246 :: c247 :: c248 :: c249 :: c250 :: c251 :: c252 :: c253 :: c254 :: c255 :: c256 :: c257 :: c258 :: c259 :: c260 :: c261 :: c262 :: c263 :: c264 :: c265 :: c266 :: c267 :: c268 :: c269 :: c270 :: c271 :: c272 :: c273 :: c274 :: c275 :: c276 :: c277 :: c278 :: c279 :: c280 :: c281 :: c282 :: c283 :: c284 :: c285 :: c286 :: c287 :: c288 :: c289 :: c290 :: c291 :: c292 :: c293 :: c294 :: c295 :: c296 :: c297 :: c298 :: c299 :: c300 :: c301 :: c302 :: c303 :: c304 :: c305 :: c306 :: c307 :: c308 :: c309 :: c310 :: c311 :: c312 :: c313 :: c314 :: c315 :: c316 :: c317 :: c318 :: c319 :: c320 :: c321 :: c322 :: c323 :: c324 :: c325 :: c326 :: c327 :: c328 :: c329 :: c330 :: c331 :: c332 :: c333 :: c334 :: c335 :: c336 :: c337 :: c338 :: c339 :: c340 :: c341 :: c342 :: c343 :: c344 :: c345 :: c346 :: c347 :: c348 :: c349 :: c350 :: c351 :: c352 :: c353 :: c354 :: c355 :: c356 :: c357 :: c358 :: c359 :: c360 :: c361 :: c362 :: c363 :: c364 :: c365 :: c366 :: c367 :: c368 :: c369 :: c370 :: c371 :: c372 :: [])), []⟩ z := by
  subst hc
  obtain ⟨va, vc, rfl⟩ := own_slS ho
  have hl1 : ((numI S).length : Int) ≤ 1000 := by have := numI_small h; omega
  have H := Lib.hid h
  have HO := Lib.hid ho
  have HEX := Lib.hid hexit
  have hln := Lib.hid (txsS_len S)
  clear h ho hexit
  conv => arg 2; whnf
  go_wp2_with fail
  go_loopw [16, 17] (fun tv iv wr => ∃ k : Nat, k ≤ (numI S).length ∧ iv = .int .i64 (k : Int) ∧ Hid (wr.ownsRow z.heap.size 9 1 tv k (((txsS S).map bsV).take k)) ∧ Hid (Nw z wr)) (fun _ iv _ => (numI S).length - (intOf iv).toNat)
  case atStart => exact ⟨0, Nat.zero_le _, rfl, World.ownsRow_nil _ _ _ _, Upd.refl _ _⟩
  case round =>
    obtain ⟨k, hk, rfl, hot, hu⟩ := hrel
    obtain ⟨ta, tc, rfl⟩ := own_slS hot.out
    by_cases hlt : k < (numI S).length
    · have hltx : k < (txsS S).length := by rw [hln.out]; exact hlt
      obtain ⟨i, hi, htx, hth⟩ := numI_atx hlt hltx
      have hst := H.out.nw hu.out
      have hlti := Sg.thereN_lt hth
      have hbig := hst.big
      unfold Sg.big at hbig
      have hown := owns_upd' HO.out hu.out (fun _ _ e => e)
      rcases hown.2 with ⟨_, hn⟩ | ⟨gb, cap, cur, e, _⟩
      · omega
      cases e
      have hcell := hown.cells (g := gb) rfl k (.int .i64 (i : Int)) (by rw [List.getElem?_map, List.getElem?_eq_getElem hlt, hi]; rfl)
      rw [add_plain, Nat.zero_add] at hcell
      have hT := sText_c hst (n := (i : Int)) (by unfold I64; omega)
      rw [there_nat, hth, if_pos rfl, Int.toNat_natCast, ← htx] at hT
      have htk : ((txsS S).map bsV).take (k + 1) = ((txsS S).map bsV).take k ++ [bsV (txsS S)[k]] := by
        rw [List.take_succ_eq_append_getElem (by rw [List.length_map]; exact hltx), List.getElem_map]
      have HTk := Lib.hid htk
      unfold bsV at hT
      have hs1 := hu.out.size
      have hk1 : (k : Int) < 1000 := by omega
      generalize (txsS S)[k] = tx at *
      have HT := Lib.hid hT
      have HLt := Lib.hid hlt
      clear hst hlti hbig hown hT hth hi htx htk
      go_wp2_with (first
        | (go_at_call 22; with_reducible refine HT.out.mono ?_; rintro _ _ ⟨rfl, rfl⟩)
        | (at_builtin; refine wpList_appL rfl _ _ 51 rfl z.heap.size 9 _ 1 16 Tryz.underlying51 infoStrS rfl (by decide) _ _ _ rfl hot.out [.string ⟨tx.toArray⟩] rfl rfl ?c1 ?c2 ?c3 hs1 hgz ?_))
      case c1 => intro u hu; rw [List.mem_singleton.1 hu]; rfl
      case c2 => unfold maxLen; omega
      case c3 => omega
      intro tv' w' hown' u' hob
      have hfin : Hid (w'.ownsRow z.heap.size 9 1 tv' (k + 1) (((txsS S).map bsV).take (k + 1))) := by
        show World.ownsRow _ _ _ _ _ _ _
        rw [HTk.out]; exact hown'
      have hun : Hid (Nw z w') := hu.out.trans' u' (fun j hj e => by have := (hot.out.lt j e).1; omega)
      obtain ⟨ta', tc', rfl⟩ := own_slS hown'
      clear hown' u' hob
      go_wp2_with fail
      go_roundw
      case rel => exact ⟨k + 1, HLt.out, by simp, hfin, hun⟩
      case measure =>
        have := HLt.out
        simp only [intOf]
        omega
    · obtain hke : k = (numI S).length := by omega
      have hfin := hot.out
      rw [hke, List.take_of_length_le (by rw [List.length_map, hln.out]; exact Nat.le_refl _)] at hfin
      have HF := Lib.hid hfin
      have HU := Lib.hid hu.out
      rw [hke]
      rw [hke] at hot
      clear hu hlt hk hfin hke
      go_wp2_with fail
      exact HEX.out _ _ _ _ _ _ _ _ _ _ _ _ _ _ _ _ _ _ _ _ _ _ _ HF.out HU.out
set_option maxHeartbeats 8000000 in
set_option maxRecDepth 100000 in
theorem ss_items {B2 : Nat} {z : World} {gb cap nb i0 : Nat} {b : Int} (hb : z.cell? ⟨gb, i0, none⟩ = some (.int .i64 b)) (hi0 : i0 < nb) (hnb : nb ≤ 1000) {xb : Nat} {v : Value} {its : List Sg.It} (hx : z.cell? ⟨xb, 1, none⟩ = some v) (ho : z.ownsRow B2 tPl 5 v its.length (itL its)) (hl : its.length ≤ 60) {u0 : Bool}
    (K0 : Act → World → Prop) { c0 c1 c2 c3 c4 c5 c6 c7 c8 c9 c10 c11 c12 c13 c14 c16 c17 c18 c19 c20 c21 c22 c23 c24 c27 c29 c31 c32 c33 c34 c35 c36 c37 c38 c39 c40 c41 c42 c43 c44 c45 c46 c47 c48 c49 c50 c51 c52 c53 c54 c55 c56 c57 c58 c59 c60 c61 c62 c63 c64 c65 c66 c67 c68 c69 c70 c71 c72 c73 c74 c75 c76 c77 c78 c79 c80 c81 c82 c83 c84 c85 c86 c87 c88 c89 c90 c91 c92 c93 c94 c95 c96 c97 c98 c99 c100 c101 c102 c103 c104 c105 c106 c107 c108 c109 c110 c111 c112 c113 c114 c115 c116 c117 c118 c119 c120 c121 c122 c123 c124 c125 c126 c127 c128 c129 c130 c131 c132 c133 c134 c135 c136 c137 c138 c139 c140 c141 c142 c143 c144 c145 c146 c147 c148 c149 c150 c151 c152 c153 c154 c155 c156 c157 c158 c159 c160 c161 c162 c163 c164 c165 c166 c167 c168 c169 c170 c171 c172 c173 c174 c175 c176 c177 c178 c179 c180 c181 c182 c183 c184 c185 c186 c187 c188 c189 c190 c191 c192 c193 c194 c195 c196 c197 c198 c199 c200 c201 c202 c203 c204 c205 c206 c207 c208 c209 c210 c211 c212 c213 c214 c215 c216 c217 c218 c219 c220 c221 c222 c223 c245 c246 c247 c248 c249 c250 c251 c252 c253 c254 c255 c256 c257 c258 c259 c260 c261 c262 c263 c264 c265 c266 c267 c268 c269 c270 c271 c272 c273 c274 c275 c276 c277 c278 c279 c280 c281 c282 c283 c284 c285 c286 c287 c288 c289 c290 c291 c292 c293 c294 c295 c296 c297 c298 c299 c300 c301 c302 c303 c304 c305 c306 c307 c308 c309 c310 c311 c312 c313 c314 c315 c316 c317 c318 c319 c320 c321 c322 c323 c324 c325 c326 c327 c328 c329 c330 c331 c332 c333 c334 c335 c336 c337 c338 c339 c340 c341 c342 c343 c344 c345 c346 c347 c348 c349 c350 c351 c352 c353 c354 c355 c356 c357 c358 c359 c360 c361 c362 c363 c364 c365 c366 c367 c368 c369 c370 c371 c372 : Value} { u224 u225 u226 u227 u228 u229 u230 u231 u232 u233 u234 u235 u236 u237 u238 u239 u240 u241 u242 u243 u244 : Value} {c : Code} (hc : loopAt Tryz.f4 4 = c)
    (hexit : ∀ (u224 u225 u226 u227 u228 u229 u230 u231 u232 u233 u234 u235 u236 u237 u238 u239 u240 u241 u242 u243 u244 : Value) (w' : World), Nw z w' → K0 ⟨(List.toArray (c0 :: c1 :: c2 :: c3 :: c4 :: c5 :: c6 :: c7 :: c8 :: c9 :: c10 :: c11 :: c12 :: c13 :: c14 :: (.slice (some ⟨gb, 0, none⟩) nb cap) :: c16 :: c17 :: c18 :: c19 :: c20 :: c21 :: c22 :: c23 :: c24 :: (.int .i64 (i0 : Int)) :: (.bool (u0 || its.any fun y => decide (y.pr = b))) :: c27 :: (.pointer (some ⟨xb, 0, none⟩)) :: c29 :: (.int .i64 (its.length : Int)) :: c31 :: c32 :: c33 :: c34 :: c35 :: c36 :: c37 :: c38 :: c39 :: c40 :: c41 :: c42 :: c43 :: c44 :: c45 :: c46 :: c47 :: c48 :: c49 :: c50 :: c51 :: c52 :: c53 :: c54 :: c55 :: c56 :: c57 :: c58 :: c59 :: c60 :: c61 :: c62 :: c63 :: c64 :: c65 :: c66 :: c67 :: c68 :: c69 :: c70 :: c71 :: c72 :: c73 :: c74 :: c75 :: c76 :: c77 :: c78 :: c79 :: c80 :: c81 :: c82 :: c83 :: c84 :: c85 :: c86 :: c87 :: c88 :: c89 :: c90 :: c91 :: c92 :: c93 :: c94 :: c95 :: c96 :: c97 :: c98 :: c99 :: c100 :: c101 :: c102 :: c103 :: c104 :: c105 :: c106 :: c107 :: c108 :: c109 :: c110 :: c111 :: c112 :: c113 :: c114 :: c115 :: c116 :: c117 :: c118 :: c119 :: c120 :: c121 :: c122 :: c123 :: c124 :: c125 :: c126 :: c127 :: c128 :: c129 :: c130 :: c131 :: c132 :: c133 :: c134 :: c135 :: c136 :: c137 :: c138 :: c139 :: c140 :: c141 :: c142 :: c143 :: c144 :: c145 :: c146 :: c147 :: c148 :: c149 :: c150 :: c151 :: c152 :: c153 :: c154 :: c155 :: c156 :: c157 :: c158 :: c159 :: c160 :: c161 :: c162 :: c163 :: c164 :: c165 :: c166 :: c167 :: c168 :: c169 :: c170 :: c171 :: c172 :: c173 :: c174 :: c175 :: c176 :: c177 :: c178 :: c179 :: c180 :: c181 :: c182 :: c183 :: c184 :: c185 :: c186 :: c187 :: c188 :: c189 :: c190 :: c191 :: c192 :: c193 :: c194 :: c195 :: c196 :: c197 :: c198 :: c199 :: c200 :: c201 :: c202 :: c203 :: c204 :: c205 :: c206 :: c207 :: c208 :: c209 :: c210 :: c211 :: c212 :: c213 :: c214 :: c215 :: c216 :: c217 :: c218 :: c219 :: c220 :: c221 :: c222 :: c223 :: u224 :: u225 :: u226 :: u227 :: u228 :: u229 :: u230 :: u231 :: u232 :: u233 :: u234 :: u235 :: u236 :: u237 :: u238 :: u239 :: u240 :: u241 :: u242 :: u243 :: u244 :: c245 :: c246 :: c247 :: c248 :: c249 :: c250 :: c251 :: c252 :: c253 :: c254 :: c255 :: c256 :: c257 :: c258 :: c259 :: c260 :: c261 :: c262 :: c263 :: c264 :: c265 :: c266 :: c267 :: c268 :: c269 :: c270 :: c271 :: c272 :: c273 :: c274 :: c275 :: c276 :: c277 :: c278 :: c279 :: c280 :: c281 :: c282 :: c283 :: c284 :: c285 :: c286 :: c287 :: c288 :: c289 :: c290 :: c291 :: c292 :: c293 :: c294 :: c295 :: c296 :: c297 :: c298 :: c299 :: c300 :: c301 :: c302 :: c303 :: c304 :: c305 :: c306 :: c307 :: c308 :: c309 :: c310 :: c311 :: c312 :: c313 :: c314 :: c315 :: c316 :: c317 :: c318 :: c319 :: c320 :: c321 :: c322 :: c323 :: c324 :: c325 :: c326 :: c327 :: c328 :: c329 :: c330 :: c331 :: c332 :: c333 :: c334 :: c335 :: c336 :: c337 :: c338 :: c339 :: c340 :: c341 :: c342 :: c343 :: c344 :: c345 :: c346 :: c347 :: c348 :: c349 :: c350 :: c351 :: c352 :: c353 :: c354 :: c355 :: c356 :: c357 :: c358 :: c359 :: c360 :: c361 :: c362 :: c363 :: c364 :: c365 :: c366 :: c367 :: c368 :: c369 :: c370 :: c371 :: c372 :: [])), []⟩ w') :
    Code.wp Tryz.prog c (Exit.then K0 (fun _ _ _ => False)) ⟨(List.toArray (c0 :: c1 :: c2 :: c3 :: c4 :: c5 :: c6 :: c7 :: c8 :: c9 :: c10 :: c11 :: c12 :: c13 :: c14 :: (.slice (some ⟨gb, 0, none⟩) nb cap) :: c16 :: c17 :: c18 :: c19 :: c20 :: c21 :: c22 :: c23 :: c24 :: (.int .i64 (i0 : Int)) :: (.bool u0) :: c27 :: (.pointer (some ⟨xb, 0, none⟩)) :: c29 :: (.int .i64 0) :: c31 :: c32 :: c33 :: c34 :: c35 :: c36 :: c37 :: c38 :: c39 :: c40 :: c41 :: c42 :: c43 :: c44 :: c45 :: c46 :: c47 :: c48 :: c49 :: c50 :: c51 :: c52 :: c53 :: c54 :: c55 :: c56 :: c57 :: c58 :: c59 :: c60 :: c61 :: c62 :: c63 :: c64 :: c65 :: c66 :: c67 :: c68 :: c69 :: c70 :: c71 :: c72 :: c73 :: c74 :: c75 :: c76 :: c77 :: c78 :: c79 :: c80 :: c81 :: c82 :: c83 :: c84 :: c85 :: c86 :: c87 :: c88 :: c89 :: c90 :: c91 :: c92 :: c93 :: c94 :: c95 :: c96 :: c97 :: c98 :: c99 :: c100 :: c101 :: c102 :: c103 :: c104 :: c105 :: c106 :: c107 :: c108 :: c109 :: c110 :: c111 :: c112 :: c113 :: c114 :: c115 :: c116 :: c117 :: c118 :: c119 :: c120 :: c121 :: c122 :: c123 :: c124 :: c125 :: c126 :: c127 :: c128 :: c129 :: c130 :: c131 :: c132 :: c133 :: c134 :: c135 :: c136 :: c137 :: c138 :: c139 :: c140 :: c141 :: c142 :: c143 :: c144 :: c145 :: c146 :: c147 :: c148 :: c149 :: c150 :: c151 :: c152 :: c153 :: c154 :: c155 :: c156 :: c157 :: c158 :: c159 :: c160 :: c161 :: c162 :: c163 :: c164 :: c165 :: c166 :: c167 :: c168 :: c169 :: c170 :: c171 :: c172 :: c173 :: c174 :: c175 :: c176 :: c177 :: c178 :: c179 :: c180 :: c181 :: c182 :: c183 :: c184 :: c185 :: c186 :: c187 :: c188 :: c189 :: c190 :: c191 :: c192 :: c193 :: c194 :: c195 :: c196 :: c197 :: c198 :: c199 :: c200 :: c201 :: c202 :: c203 :: c204 :: c205 :: c206 :: c207 :: c208 :: c209 :: c210 :: c211 :: c212 :: c213 :: c214 :: c215 :: c216 :: c217 :: c218 :: c219 :: c220 :: c221 :: c222 :: c223 :: u224 :: u225 :: u226 :: u227 :: u228 :: u229 :: u230 :: u231 :: u232 :: u233 :: u234 :: u235 :: u236 :: u237 :: u238 :: u239 :: u240 :: u241 :: u242 :: u243 :: u244 :: c245 :: c246 :: c247 :: c248 :: c249 :: c250 :: c251 :: c252 :: c253 :: c254 :: c255 :: c256 :: c257 :: c258 :: c259 :: c260 :: c261 :: c262 :: c263 :: c264 :: c265 :: c266 :: c267 :: c268 :: c269 :: c270 :: c271 :: c272 :: c273 :: c274 :: c275 :: c276 :: c277 :: c278 :: c279 :: c280 :: c281 :: c282 :: c283 :: c284 :: c285 :: c286 :: c287 :: c288 :: c289 :: c290 :: c291 :: c292 :: c293 :: c294 :: c295 :: c296 :: c297 :: c298 :: c299 :: c300 :: c301 :: c302 :: c303 :: c304 :: c305 :: c306 :: c307 :: c308 :: c309 :: c310 :: c311 :: c312 :: c313 :: c314 :: c315 :: c316 :: c317 :: c318 :: c319 :: c320 :: c321 :: c322 :: c323 :: c324 :: c325 :: c326 :: c327 :: c328 :: c329 :: c330 :: c331 :: c332 :: c333 :: c334 :: c335 :: c336 :: c337 :: c338 :: c339 :: c340 :: c341 :: c342 :: c343 :: c344 :: c345 :: c346 :: c347 :: c348 :: c349 :: c350 :: c351 :: c352 :: c353 :: c354 :: c355 :: c356 :: c357 :: c358 :: c359 :: c360 :: c361 :: c362 :: c363 :: c364 :: c365 :: c366 :: c367 :: c368 :: c369 :: c370 :: c371 :: c372 :: [])), []⟩ z := by
  subst hc
  obtain ⟨va, vc, rfl⟩ := own_slS ho
  have HO := Lib.hid ho
  have HB := Lib.hid hb
  have HX := Lib.hid hx
  have HEX := Lib.hid hexit
  have hl1 : (its.length : Int) ≤ 60 := by omega
  have hi1 : (i0 : Int) < nb := by omega
  have hn1 : (nb : Int) ≤ 1000 := by omega
  clear ho hexit hb hx
  conv => arg 2; whnf
  go_wp2_with fail
  go_loopw [26, 30] (fun uv iv wr => ∃ k : Nat, k ≤ its.length ∧ iv = .int .i64 (k : Int) ∧ uv = .bool (u0 || (its.take k).any fun y => decide (y.pr = b)) ∧ Hid (Nw z wr)) (fun _ iv _ => its.length - (intOf iv).toNat)
  case atStart => exact ⟨0, Nat.zero_le _, rfl, by simp, Upd.refl _ _⟩
  case round =>
    obtain ⟨k, hk, rfl, rfl, hu⟩ := hrel
    have hxw := nw_cellS hu.out HX.out
    by_cases hlt : k < its.length
    · have hown := owns_upd' HO.out hu.out (fun _ _ e => e)
      rcases hown.2 with ⟨e, hn⟩ | ⟨g, cap', cur, e, _⟩
      · omega
      cases e
      obtain ⟨d0, d1, d2, d3, d4⟩ := cells5 hown k hlt
      have htk : (its.take (k + 1)).any (fun y => decide (y.pr = b)) = ((its.take k).any (fun y => decide (y.pr = b)) || decide (its[k].pr = b)) := by
        rw [List.take_succ_eq_append_getElem hlt, List.any_append]; simp
      obtain ⟨q, hq⟩ : ∃ q, q = (u0 || (its.take k).any fun y => decide (y.pr = b)) := ⟨_, rfl⟩
      rw [← hq]
      have hnx : (u0 || (its.take (k + 1)).any fun y => decide (y.pr = b)) = (q || decide (its[k].pr = b)) := by rw [htk, ← Bool.or_assoc, ← hq]
      have HNx := Lib.hid hnx
      have HLt := Lib.hid hlt
      generalize its[k].pr = pr at *
      have hbw := nw_cellS hu.out HB.out
      have l0 : ∀ j : Later wr, j.1.cell? ⟨gb, i0, none⟩ = some (.int .i64 b) := fun j => nw_cellS j.nw hbw
      have l1 : ∀ j : Later wr, j.1.cell? ⟨xb, 1, none⟩ = some (.slice (some ⟨g, 0, none⟩) its.length vc) := fun j => nw_cellS j.nw hxw
      have l2 : ∀ j : Later wr, j.1.cell? ⟨g, k * 5 + 4, none⟩ = some (.int .i64 pr) := fun j => nw_cellS j.nw d4
      clear hown d0 d1 d2 d3 htk hq hnx
      cases q with
      | true =>
        have hr : Hid ((u0 || (its.take (k + 1)).any fun y => decide (y.pr = b)) = true) := HNx.out
        go_upto_region 44 with fail
        refine wp_region_nw (by kernel_rfl) (by kernel_rfl) ?_
        repeat (go_big_quiet_step ((fail)))
        refine wpQuiet_nil ?_
        intro w5 u5
        replace u5 := later_out u5
        go_wp2_with fail
        go_roundw
        case rel => exact ⟨k + 1, HLt.out, by simp, by rw [hr.out], hu.out.trans u5⟩
        case measure =>
          have := HLt.out
          simp only [intOf]
          omega
      | false =>
        have hr : Hid ((u0 || (its.take (k + 1)).any fun y => decide (y.pr = b)) = decide (pr = b)) := by rw [HNx.out]; rfl
        go_upto_region 44 with fail
        refine wp_region_nw (by kernel_rfl) (by kernel_rfl) ?_
        repeat (go_big_quiet_step ((fail)))
        refine wpQuiet_nil ?_
        intro w5 u5
        replace u5 := later_out u5
        go_wp2_with fail
        go_roundw
        case rel => exact ⟨k + 1, HLt.out, by simp, by rw [hr.out]; rfl, hu.out.trans u5⟩
        case measure =>
          have := HLt.out
          simp only [intOf]
          omega
    · obtain hke : k = its.length := by omega
      have HU := Lib.hid hu.out
      rw [hke, List.take_length]
      clear hu hlt hk hke
      go_wp2_with fail
      exact HEX.out _ _ _ _ _ _ _ _ _ _ _ _ _ _ _ _ _ _ _ _ _ _ HU.out
end Go.Proofs.YtkldcnikeoofiaaGreatDoor
namespace Go.Proofs.YtkldcnikeoofiaaGreatDoor
open Go.RowKit
set_option linter.unusedVariables false
set_option linter.unusedSimpArgs false
attribute [local irreducible] Calls CallsIn

theorem usedL_succ {l : List Sg.Pf} {k : Nat} (h : k < l.length) (b : Int) : Sg.usedL (l.take (k + 1)) b = (Sg.usedL (l.take k) b || l[k].its.any fun y => decide (y.pr = b)) := by
  unfold Sg.usedL
  rw [List.take_succ_eq_append_getElem h, List.any_append]
  simp
set_option maxHeartbeats 8000000 in
set_option maxRecDepth 100000 in
theorem ss_profs {B B2 : Nat} {z : World} {x : SgR} {S : Sg.Sta} (h : SgAt B z x S) {gb cap nb i0 : Nat} {b : Int} (hb : z.cell? ⟨gb, i0, none⟩ = some (.int .i64 b)) (hi0 : i0 < nb) (hnb : nb ≤ 1000) {v : Value} (ho : z.ownsRow B2 9 1 v (nmsS S).length ((nmsS S).map bsV))
    (K0 : Act → World → Prop) { c0 c1 c2 c3 c4 c5 c6 c8 c9 c10 c11 c12 c13 c14 c16 c17 c18 c19 c20 c21 c22 c23 c31 c32 c33 c34 c35 c36 c37 c38 c39 c40 c41 c42 c43 c44 c45 c46 c47 c48 c49 c50 c51 c52 c53 c54 c55 c56 c57 c58 c59 c60 c61 c62 c63 c64 c65 c66 c67 c68 c69 c70 c71 c72 c73 c74 c75 c76 c77 c78 c79 c80 c81 c82 c83 c84 c85 c86 c87 c88 c89 c90 c91 c92 c93 c94 c95 c96 c97 c98 c99 c100 c101 c102 c103 c104 c105 c106 c107 c108 c109 c110 c111 c112 c113 c114 c115 c116 c117 c118 c119 c120 c121 c122 c123 c124 c125 c126 c127 c128 c129 c130 c131 c132 c133 c134 c135 c136 c137 c138 c139 c140 c141 c142 c143 c144 c145 c146 c147 c148 c149 c150 c151 c152 c153 c154 c155 c156 c157 c158 c159 c160 c161 c162 c163 c164 c165 c166 c167 c168 c169 c170 c171 c172 c173 c174 c175 c176 c177 c178 c179 c180 c181 c182 c183 c184 c185 c186 c187 c188 c189 c190 c191 c192 c193 c194 c195 c196 c197 c198 c199 c200 c201 c202 c203 c204 c205 c206 c207 c208 c245 c246 c247 c248 c249 c250 c251 c252 c253 c254 c255 c256 c257 c258 c259 c260 c261 c262 c263 c264 c265 c266 c267 c268 c269 c270 c271 c272 c273 c274 c275 c276 c277 c278 c279 c280 c281 c282 c283 c284 c285 c286 c287 c288 c289 c290 c291 c292 c293 c294 c295 c296 c297 c298 c299 c300 c301 c302 c303 c304 c305 c306 c307 c308 c309 c310 c311 c312 c313 c314 c315 c316 c317 c318 c319 c320 c321 c322 c323 c324 c325 c326 c327 c328 c329 c330 c331 c332 c333 c334 c335 c336 c337 c338 c339 c340 c341 c342 c343 c344 c345 c346 c347 c348 c349 c350 c351 c352 c353 c354 c355 c356 c357 c358 c359 c360 c361 c362 c363 c364 c365 c366 c367 c368 c369 c370 c371 c372 : Value} { u28 u29 u30 u209 u210 u211 u212 u213 u214 u215 u216 u217 u218 u219 u220 u221 u222 u223 u224 u225 u226 u227 u228 u229 u230 u231 u232 u233 u234 u235 u236 u237 u238 u239 u240 u241 u242 u243 u244 : Value} {c : Code} (hc : loopAt Tryz.f4 3 = c)
    (hexit : ∀ (u28 u29 u30 u209 u210 u211 u212 u213 u214 u215 u216 u217 u218 u219 u220 u221 u222 u223 u224 u225 u226 u227 u228 u229 u230 u231 u232 u233 u234 u235 u236 u237 u238 u239 u240 u241 u242 u243 u244 : Value) (w' : World), Nw z w' → K0 ⟨(List.toArray (c0 :: c1 :: c2 :: c3 :: c4 :: c5 :: c6 :: (.pointer (some ⟨x.sb, 0, none⟩)) :: c8 :: c9 :: c10 :: c11 :: c12 :: c13 :: c14 :: (.slice (some ⟨gb, 0, none⟩) nb cap) :: c16 :: c17 :: c18 :: c19 :: c20 :: c21 :: c22 :: c23 :: (v) :: (.int .i64 (i0 : Int)) :: (.bool (Sg.usedL S.pf b)) :: (.int .i64 ((nmsS S).length : Int)) :: u28 :: u29 :: u30 :: c31 :: c32 :: c33 :: c34 :: c35 :: c36 :: c37 :: c38 :: c39 :: c40 :: c41 :: c42 :: c43 :: c44 :: c45 :: c46 :: c47 :: c48 :: c49 :: c50 :: c51 :: c52 :: c53 :: c54 :: c55 :: c56 :: c57 :: c58 :: c59 :: c60 :: c61 :: c62 :: c63 :: c64 :: c65 :: c66 :: c67 :: c68 :: c69 :: c70 :: c71 :: c72 :: c73 :: c74 :: c75 :: c76 :: c77 :: c78 :: c79 :: c80 :: c81 :: c82 :: c83 :: c84 :: c85 :: c86 :: c87 :: c88 :: c89 :: c90 :: c91 :: c92 :: c93 :: c94 :: c95 :: c96 :: c97 :: c98 :: c99 :: c100 :: c101 :: c102 :: c103 :: c104 :: c105 :: c106 :: c107 :: c108 :: c109 :: c110 :: c111 :: c112 :: c113 :: c114 :: c115 :: c116 :: c117 :: c118 :: c119 :: c120 :: c121 :: c122 :: c123 :: c124 :: c125 :: c126 :: c127 :: c128 :: c129 :: c130 :: c131 :: c132 :: c133 :: c134 :: c135 :: c136 :: c137 :: c138 :: c139 :: c140 :: c141 :: c142 :: c143 :: c144 :: c145 :: c146 :: c147 :: c148 :: c149 :: c150 :: c151 :: c152 :: c153 :: c154 :: c155 :: c156 :: c157 :: c158 :: c159 :: c160 :: c161 :: c162 :: c163 :: c164 :: c165 :: c166 :: c167 :: c168 :: c169 :: c170 :: c171 :: c172 :: c173 :: c174 :: c175 :: c176 :: c177 :: c178 :: c179 :: c180 :: c181 :: c182 :: c183 :: c184 :: c185 :: c186 :: c187 :: c188 :: c189 :: c190 :: c191 :: c192 :: c193 :: c194 :: c195 :: c196 :: c197 :: c198 :: c199 :: c200 :: c201 :: c202 :: c203 :: c204 :: c205 :: c206 :: c207 :: c208 :: u209 :: u210 :: u211 :: u212 :: u213 :: u214 :: u215 :: u216 :: u217 :: u218 :: u219 :: u220 :: u221 :: u222 :: u223 :: u224 :: u225 :: u226 :: u227 :: u228 :: u229 :: u230 :: u231 :: u232 :: u233 :: u234 :: u235 :: u236 :: u237 :: u238 :: u239 :: u240 :: u241 :: u242 :: u243 :: u244 :: c245 :: c246 :: c247 :: c248 :: c249 :: c250 :: c251 :: c252 :: c253 :: c254 :: c255 :: c256 :: c257 :: c258 :: c259 :: c260 :: c261 :: c262 :: c263 :: c264 :: c265 :: c266 :: c267 :: c268 :: c269 :: c270 :: c271 :: c272 :: c273 :: c274 :: c275 :: c276 :: c277 :: c278 :: c279 :: c280 :: c281 :: c282 :: c283 :: c284 :: c285 :: c286 :: c287 :: c288 :: c289 :: c290 :: c291 :: c292 :: c293 :: c294 :: c295 :: c296 :: c297 :: c298 :: c299 :: c300 :: c301 :: c302 :: c303 :: c304 :: c305 :: c306 :: c307 :: c308 :: c309 :: c310 :: c311 :: c312 :: c313 :: c314 :: c315 :: c316 :: c317 :: c318 :: c319 :: c320 :: c321 :: c322 :: c323 :: c324 :: c325 :: c326 :: c327 :: c328 :: c329 :: c330 :: c331 :: c332 :: c333 :: c334 :: c335 :: c336 :: c337 :: c338 :: c339 :: c340 :: c341 :: c342 :: c343 :: c344 :: c345 :: c346 :: c347 :: c348 :: c349 :: c350 :: c351 :: c352 :: c353 :: c354 :: c355 :: c356 :: c357 :: c358 :: c359 :: c360 :: c361 :: c362 :: c363 :: c364 :: c365 :: c366 :: c367 :: c368 :: c369 :: c370 :: c371 :: c372 :: [])), []⟩ w') :
    Code.wp Tryz.prog c (Exit.then K0 (fun _ _ _ => False)) ⟨(List.toArray (c0 :: c1 :: c2 :: c3 :: c4 :: c5 :: c6 :: (.pointer (some ⟨x.sb, 0, none⟩)) :: c8 :: c9 :: c10 :: c11 :: c12 :: c13 :: c14 :: (.slice (some ⟨gb, 0, none⟩) nb cap) :: c16 :: c17 :: c18 :: c19 :: c20 :: c21 :: c22 :: c23 :: (v) :: (.int .i64 (i0 : Int)) :: (.bool false) :: (.int .i64 0) :: u28 :: u29 :: u30 :: c31 :: c32 :: c33 :: c34 :: c35 :: c36 :: c37 :: c38 :: c39 :: c40 :: c41 :: c42 :: c43 :: c44 :: c45 :: c46 :: c47 :: c48 :: c49 :: c50 :: c51 :: c52 :: c53 :: c54 :: c55 :: c56 :: c57 :: c58 :: c59 :: c60 :: c61 :: c62 :: c63 :: c64 :: c65 :: c66 :: c67 :: c68 :: c69 :: c70 :: c71 :: c72 :: c73 :: c74 :: c75 :: c76 :: c77 :: c78 :: c79 :: c80 :: c81 :: c82 :: c83 :: c84 :: c85 :: c86 :: c87 :: c88 :: c89 :: c90 :: c91 :: c92 :: c93 :: c94 :: c95 :: c96 :: c97 :: c98 :: c99 :: c100 :: c101 :: c102 :: c103 :: c104 :: c105 :: c106 :: c107 :: c108 :: c109 :: c110 :: c111 :: c112 :: c113 :: c114 :: c115 :: c116 :: c117 :: c118 :: c119 :: c120 :: c121 :: c122 :: c123 :: c124 :: c125 :: c126 :: c127 :: c128 :: c129 :: c130 :: c131 :: c132 :: c133 :: c134 :: c135 :: c136 :: c137 :: c138 :: c139 :: c140 :: c141 :: c142 :: c143 :: c144 :: c145 :: c146 :: c147 :: c148 :: c149 :: c150 :: c151 :: c152 :: c153 :: c154 :: c155 :: c156 :: c157 :: c158 :: c159 :: c160 :: c161 :: c162 :: c163 :: c164 :: c165 :: c166 :: c167 :: c168 :: c169 :: c170 :: c171 :: c172 :: c173 :: c174 :: c175 :: c176 :: c177 :: c178 :: c179 :: c180 :: c181 :: c182 :: c183 :: c184 :: c185 :: c186 :: c187 :: c188 :: c189 :: c190 :: c191 :: c192 :: c193 :: c194 :: c195 :: c196 :: c197 :: c198 :: c199 :: c200 :: c201 :: c202 :: c203 :: c204 :: c205 :: c206 :: c207 :: c208 :: u209 :: u210 :: u211 :: u212 :: u213 :: u214 :: u215 :: u216 :: u217 :: u218 :: u219 :: u220 :: u221 :: u222 :: u223 :: u224 :: u225 :: u226 :: u227 :: u228 :: u229 :: u230 :: u231 :: u232 :: u233 :: u234 :: u235 :: u236 :: u237 :: u238 :: u239 :: u240 :: u241 :: u242 :: u243 :: u244 :: c245 :: c246 :: c247 :: c248 :: c249 :: c250 :: c251 :: c252 :: c253 :: c254 :: c255 :: c256 :: c257 :: c258 :: c259 :: c260 :: c261 :: c262 :: c263 :: c264 :: c265 :: c266 :: c267 :: c268 :: c269 :: c270 :: c271 :: c272 :: c273 :: c274 :: c275 :: c276 :: c277 :: c278 :: c279 :: c280 :: c281 :: c282 :: c283 :: c284 :: c285 :: c286 :: c287 :: c288 :: c289 :: c290 :: c291 :: c292 :: c293 :: c294 :: c295 :: c296 :: c297 :: c298 :: c299 :: c300 :: c301 :: c302 :: c303 :: c304 :: c305 :: c306 :: c307 :: c308 :: c309 :: c310 :: c311 :: c312 :: c313 :: c314 :: c315 :: c316 :: c317 :: c318 :: c319 :: c320 :: c321 :: c322 :: c323 :: c324 :: c325 :: c326 :: c327 :: c328 :: c329 :: c330 :: c331 :: c332 :: c333 :: c334 :: c335 :: c336 :: c337 :: c338 :: c339 :: c340 :: c341 :: c342 :: c343 :: c344 :: c345 :: c346 :: c347 :: c348 :: c349 :: c350 :: c351 :: c352 :: c353 :: c354 :: c355 :: c356 :: c357 :: c358 :: c359 :: c360 :: c361 :: c362 :: c363 :: c364 :: c365 :: c366 :: c367 :: c368 :: c369 :: c370 :: c371 :: c372 :: [])), []⟩ z := by
  subst hc
  obtain ⟨va, vc, rfl⟩ := own_slS ho
  have H := Lib.hid h
  have HO := Lib.hid ho
  have HB := Lib.hid hb
  have HEX := Lib.hid hexit
  have hl1 : ((nmsS S).length : Int) ≤ 1000 := by
    have h2 := h.big
    unfold Sg.big at h2
    unfold nmsS
    rw [List.length_map]; omega
  have HNl := Lib.hid (show (nmsS S).length = S.pf.length by unfold nmsS; rw [List.length_map])
  have HI := Lib.hid (And.intro hi0 hnb)
  clear h ho hexit hb hi0 hnb
  conv => arg 2; whnf
  go_wp2_with fail
  go_loopw [26, 27] (fun uv iv wr => ∃ k : Nat, k ≤ (nmsS S).length ∧ iv = .int .i64 (k : Int) ∧ uv = .bool (Sg.usedL (S.pf.take k) b) ∧ Hid (Nw z wr)) (fun _ iv _ => (nmsS S).length - (intOf iv).toNat)
  case atStart => exact ⟨0, Nat.zero_le _, rfl, rfl, Upd.refl _ _⟩
  case round =>
    obtain ⟨k, hk, rfl, rfl, hu⟩ := hrel
    by_cases hlt : k < (nmsS S).length
    · have hkp : k < S.pf.length := by rw [← HNl.out]; exact hlt
      have hst := H.out.nw hu.out
      have hnm : (nmsS S)[k] = (S.pf[k]).nm := List.getElem_map _
      have hpm := List.getElem_mem hkp
      have hrt := right_len (hst.g.right _ hpm)
      have hown := owns_upd' HO.out hu.out (fun _ _ e => e)
      rcases hown.2 with ⟨_, hn⟩ | ⟨pb, cap', cur, e, _⟩
      · omega
      cases e
      have hcell := hown.cells (g := pb) rfl k (.string ⟨(S.pf[k]).nm.toArray⟩) (by rw [List.getElem?_map, List.getElem?_eq_getElem hlt, hnm]; rfl)
      rw [add_plain, Nat.zero_add] at hcell
      have hP := sProfile_c hst (nm := (S.pf[k]).nm) (by omega)
      rw [prof_mem hst.g hpm] at hP
      have hus := usedL_succ hkp b
      have hbw := nw_cellS hu.out HB.out
      generalize S.pf[k] = p at *
      obtain ⟨nm, its⟩ := p
      dsimp only [Option.elim_some, Option.isSome_some] at *
      unfold bsV at hP
      have HP := Lib.hid hP
      have HLt := Lib.hid hlt
      have HIt := Lib.hid hrt.2.1
      have HUs := Lib.hid hus
      have HBw := Lib.hid hbw
      clear hst hP hown hrt hpm hnm hkp hus hbw
      generalize Sg.usedL (S.pf.take k) b = q at *
      go_wp2_with fail
      (with_reducible refine (HP.out).mono ?_)
      rintro _ w4 ⟨v4, rfl, hv4, u4⟩
      obtain ⟨va4, vc4, rfl⟩ := own_slS hv4.1
      have n5 := nw_alloc w4 (.cells #[.string ⟨nm.toArray⟩, .slice va4 its.length vc4] tPf)
      have b5 := heap_new w4 (.cells #[.string ⟨nm.toArray⟩, .slice va4 its.length vc4] tPf)
      obtain ⟨w5, hw5⟩ : ∃ y, y = w4.alloc (.cells #[.string ⟨nm.toArray⟩, .slice va4 its.length vc4] tPf) := ⟨_, rfl⟩
      rw [← hw5] at n5 b5
      have hx5 : w5.cell? ⟨w4.heap.size, 1, none⟩ = some (.slice va4 its.length vc4) := by rw [cells_cell b5]; rfl
      have HU5 := Lib.hid (u4.trans n5)
      have HV4 := Lib.hid (owns_upd' hv4.1 n5 (fun _ _ e => e))
      have HX5 := Lib.hid hx5
      have HW5 := Lib.hid hw5
      clear u4 n5 b5 hv4 hw5 hcell hx5
      go_upto_block 8 with fail
      rw [← HW5.out]
      refine wp_normal (ss_items (nw_cellS HU5.out HBw.out) HI.out.1 HI.out.2 HX5.out HV4.out HIt.out _ (by kernel_rfl) ?_)
      intro u224 u225 u226 u227 u228 u229 u230 u231 u232 u233 u234 u235 u236 u237 u238 u239 u240 u241 u242 u243 u244 w9 h9
      have HU9 := Lib.hid (hu.out.trans (HU5.out.trans h9))
      rw [← HUs.out]
      clear h9 HP
      go_wp2_with fail
      go_roundw
      case rel => exact ⟨k + 1, HLt.out, by simp, rfl, HU9⟩
      case measure =>
        have := HLt.out
        simp only [intOf]
        omega
    · obtain hke : k = (nmsS S).length := by omega
      have HU := Lib.hid hu.out
      have hall : S.pf.take k = S.pf := List.take_of_length_le (by rw [hke, HNl.out]; exact Nat.le_refl _)
      rw [hall, hke]
      clear hu hlt hk hke hall
      go_wp2_with fail
      exact HEX.out _ _ _ _ _ _ _ _ _ _ _ _ _ _ _ _ _ _ _ _ _ _ _ _ _ _ _ _ _ _ _ _ _ _ _ _ _ _ _ _ HU.out
set_option maxHeartbeats 8000000 in
set_option maxRecDepth 100000 in
/-- After a sweep exactly the texts of profiles are there. -/
theorem ss_check {B B2 B3 B4 : Nat} {z : World} {x : SgR} {S : Sg.Sta} (h : SgAt B z x (Sg.swept S)) {v tv pv : Value} (ho : z.ownsRow B2 3 1 v (numI S).length ((numI S).map intD)) (ht : z.ownsRow B3 9 1 tv (numI S).length ((txsS S).map bsV)) (hp : z.ownsRow B4 9 1 pv (nmsS S).length ((nmsS S).map bsV))
    (K0 : Act → World → Prop) { c0 c1 c2 c3 c5 c6 c8 c9 c10 c11 c12 c13 c14 c17 c18 c19 c20 c21 c22 c23 c33 c34 c35 c36 c37 c38 c39 c40 c41 c42 c43 c44 c45 c46 c47 c48 c49 c50 c51 c52 c53 c54 c55 c56 c57 c58 c59 c60 c61 c62 c63 c64 c65 c66 c67 c68 c69 c70 c71 c72 c73 c74 c75 c76 c77 c78 c79 c80 c81 c82 c83 c84 c85 c86 c87 c88 c89 c90 c91 c92 c93 c94 c95 c96 c97 c98 c99 c100 c101 c102 c103 c104 c105 c106 c107 c108 c109 c110 c111 c112 c113 c114 c115 c116 c117 c118 c119 c120 c121 c122 c123 c124 c125 c126 c127 c128 c129 c130 c131 c132 c133 c134 c135 c136 c137 c138 c139 c140 c141 c142 c143 c144 c145 c146 c147 c148 c149 c150 c151 c152 c153 c154 c155 c156 c157 c158 c159 c160 c161 c162 c163 c164 c165 c166 c167 c168 c169 c170 c171 c172 c173 c174 c175 c176 c177 c178 c179 c180 c181 c182 c183 c184 c185 c186 c187 c188 c189 c190 c191 c192 c193 c194 c195 c196 c197 c198 c199 c200 c201 c202 c268 c269 c270 c271 c272 c273 c274 c275 c276 c277 c278 c279 c280 c281 c282 c283 c284 c285 c286 c287 c288 c289 c290 c291 c292 c293 c294 c295 c296 c297 c298 c299 c300 c301 c302 c303 c304 c305 c306 c307 c308 c309 c310 c311 c312 c313 c314 c315 c316 c317 c318 c319 c320 c321 c322 c323 c324 c325 c326 c327 c328 c329 c330 c331 c332 c333 c334 c335 c336 c337 c338 c339 c340 c341 c342 c343 c344 c345 c346 c347 c348 c349 c350 c351 c352 c353 c354 c355 c356 c357 c358 c359 c360 c361 c362 c363 c364 c365 c366 c367 c368 c369 c370 c371 c372 : Value} { u4 u26 u27 u28 u29 u30 u31 u32 u203 u204 u205 u206 u207 u208 u209 u210 u211 u212 u213 u214 u215 u216 u217 u218 u219 u220 u221 u222 u223 u224 u225 u226 u227 u228 u229 u230 u231 u232 u233 u234 u235 u236 u237 u238 u239 u240 u241 u242 u243 u244 u245 u246 u247 u248 u249 u250 u251 u252 u253 u254 u255 u256 u257 u258 u259 u260 u261 u262 u263 u264 u265 u266 u267 : Value} {c : Code} (hc : loopAt Tryz.f4 2 = c)
    (hexit : ∀ (u4 u26 u27 u28 u29 u30 u31 u32 u203 u204 u205 u206 u207 u208 u209 u210 u211 u212 u213 u214 u215 u216 u217 u218 u219 u220 u221 u222 u223 u224 u225 u226 u227 u228 u229 u230 u231 u232 u233 u234 u235 u236 u237 u238 u239 u240 u241 u242 u243 u244 u245 u246 u247 u248 u249 u250 u251 u252 u253 u254 u255 u256 u257 u258 u259 u260 u261 u262 u263 u264 u265 u266 u267 : Value) (w' : World), Nw z w' → K0 ⟨(List.toArray (c0 :: c1 :: c2 :: c3 :: u4 :: c5 :: c6 :: (.pointer (some ⟨x.sb, 0, none⟩)) :: c8 :: c9 :: c10 :: c11 :: c12 :: c13 :: c14 :: (v) :: (tv) :: c17 :: c18 :: c19 :: c20 :: c21 :: c22 :: c23 :: (pv) :: (.int .i64 ((numI S).length : Int)) :: u26 :: u27 :: u28 :: u29 :: u30 :: u31 :: u32 :: c33 :: c34 :: c35 :: c36 :: c37 :: c38 :: c39 :: c40 :: c41 :: c42 :: c43 :: c44 :: c45 :: c46 :: c47 :: c48 :: c49 :: c50 :: c51 :: c52 :: c53 :: c54 :: c55 :: c56 :: c57 :: c58 :: c59 :: c60 :: c61 :: c62 :: c63 :: c64 :: c65 :: c66 :: c67 :: c68 :: c69 :: c70 :: c71 :: c72 :: c73 :: c74 :: c75 :: c76 :: c77 :: c78 :: c79 :: c80 :: c81 :: c82 :: c83 :: c84 :: c85 :: c86 :: c87 :: c88 :: c89 :: c90 :: c91 :: c92 :: c93 :: c94 :: c95 :: c96 :: c97 :: c98 :: c99 :: c100 :: c101 :: c102 :: c103 :: c104 :: c105 :: c106 :: c107 :: c108 :: c109 :: c110 :: c111 :: c112 :: c113 :: c114 :: c115 :: c116 :: c117 :: c118 :: c119 :: c120 :: c121 :: c122 :: c123 :: c124 :: c125 :: c126 :: c127 :: c128 :: c129 :: c130 :: c131 :: c132 :: c133 :: c134 :: c135 :: c136 :: c137 :: c138 :: c139 :: c140 :: c141 :: c142 :: c143 :: c144 :: c145 :: c146 :: c147 :: c148 :: c149 :: c150 :: c151 :: c152 :: c153 :: c154 :: c155 :: c156 :: c157 :: c158 :: c159 :: c160 :: c161 :: c162 :: c163 :: c164 :: c165 :: c166 :: c167 :: c168 :: c169 :: c170 :: c171 :: c172 :: c173 :: c174 :: c175 :: c176 :: c177 :: c178 :: c179 :: c180 :: c181 :: c182 :: c183 :: c184 :: c185 :: c186 :: c187 :: c188 :: c189 :: c190 :: c191 :: c192 :: c193 :: c194 :: c195 :: c196 :: c197 :: c198 :: c199 :: c200 :: c201 :: c202 :: u203 :: u204 :: u205 :: u206 :: u207 :: u208 :: u209 :: u210 :: u211 :: u212 :: u213 :: u214 :: u215 :: u216 :: u217 :: u218 :: u219 :: u220 :: u221 :: u222 :: u223 :: u224 :: u225 :: u226 :: u227 :: u228 :: u229 :: u230 :: u231 :: u232 :: u233 :: u234 :: u235 :: u236 :: u237 :: u238 :: u239 :: u240 :: u241 :: u242 :: u243 :: u244 :: u245 :: u246 :: u247 :: u248 :: u249 :: u250 :: u251 :: u252 :: u253 :: u254 :: u255 :: u256 :: u257 :: u258 :: u259 :: u260 :: u261 :: u262 :: u263 :: u264 :: u265 :: u266 :: u267 :: c268 :: c269 :: c270 :: c271 :: c272 :: c273 :: c274 :: c275 :: c276 :: c277 :: c278 :: c279 :: c280 :: c281 :: c282 :: c283 :: c284 :: c285 :: c286 :: c287 :: c288 :: c289 :: c290 :: c291 :: c292 :: c293 :: c294 :: c295 :: c296 :: c297 :: c298 :: c299 :: c300 :: c301 :: c302 :: c303 :: c304 :: c305 :: c306 :: c307 :: c308 :: c309 :: c310 :: c311 :: c312 :: c313 :: c314 :: c315 :: c316 :: c317 :: c318 :: c319 :: c320 :: c321 :: c322 :: c323 :: c324 :: c325 :: c326 :: c327 :: c328 :: c329 :: c330 :: c331 :: c332 :: c333 :: c334 :: c335 :: c336 :: c337 :: c338 :: c339 :: c340 :: c341 :: c342 :: c343 :: c344 :: c345 :: c346 :: c347 :: c348 :: c349 :: c350 :: c351 :: c352 :: c353 :: c354 :: c355 :: c356 :: c357 :: c358 :: c359 :: c360 :: c361 :: c362 :: c363 :: c364 :: c365 :: c366 :: c367 :: c368 :: c369 :: c370 :: c371 :: c372 :: [])), []⟩ w') :
    Code.wp Tryz.prog c (Exit.then K0 (fun _ _ _ => False)) ⟨(List.toArray (c0 :: c1 :: c2 :: c3 :: u4 :: c5 :: c6 :: (.pointer (some ⟨x.sb, 0, none⟩)) :: c8 :: c9 :: c10 :: c11 :: c12 :: c13 :: c14 :: (v) :: (tv) :: c17 :: c18 :: c19 :: c20 :: c21 :: c22 :: c23 :: (pv) :: (.int .i64 0) :: u26 :: u27 :: u28 :: u29 :: u30 :: u31 :: u32 :: c33 :: c34 :: c35 :: c36 :: c37 :: c38 :: c39 :: c40 :: c41 :: c42 :: c43 :: c44 :: c45 :: c46 :: c47 :: c48 :: c49 :: c50 :: c51 :: c52 :: c53 :: c54 :: c55 :: c56 :: c57 :: c58 :: c59 :: c60 :: c61 :: c62 :: c63 :: c64 :: c65 :: c66 :: c67 :: c68 :: c69 :: c70 :: c71 :: c72 :: c73 :: c74 :: c75 :: c76 :: c77 :: c78 :: c79 :: c80 :: c81 :: c82 :: c83 :: c84 :: c85 :: c86 :: c87 :: c88 :: c89 :: c90 :: c91 :: c92 :: c93 :: c94 :: c95 :: c96 :: c97 :: c98 :: c99 :: c100 :: c101 :: c102 :: c103 :: c104 :: c105 :: c106 :: c107 :: c108 :: c109 :: c110 :: c111 :: c112 :: c113 :: c114 :: c115 :: c116 :: c117 :: c118 :: c119 :: c120 :: c121 :: c122 :: c123 :: c124 :: c125 :: c126 :: c127 :: c128 :: c129 :: c130 :: c131 :: c132 :: c133 :: c134 :: c135 :: c136 :: c137 :: c138 :: c139 :: c140 :: c141 :: c142 :: c143 :: c144 :: c145 :: c146 :: c147 :: c148 :: c149 :: c150 :: c151 :: c152 :: c153 :: c154 :: c155 :: c156 :: c157 :: c158 :: c159 :: c160 :: c161 :: c162 :: c163 :: c164 :: c165 :: c166 :: c167 :: c168 :: c169 :: c170 :: c171 :: c172 :: c173 :: c174 :: c175 :: c176 :: c177 :: c178 :: c179 :: c180 :: c181 :: c182 :: c183 :: c184 :: c185 :: c186 :: c187 :: c188 :: c189 :: c190 :: c191 :: c192 :: c193 :: c194 :: c195 :: c196 :: c197 :: c198 :: c199 :: c200 :: c201 :: c202 :: u203 :: u204 :: u205 :: u206 :: u207 :: u208 :: u209 :: u210 :: u211 :: u212 :: u213 :: u214 :: u215 :: u216 :: u217 :: u218 :: u219 :: u220 :: u221 :: u222 :: u223 :: u224 :: u225 :: u226 :: u227 :: u228 :: u229 :: u230 :: u231 :: u232 :: u233 :: u234 :: u235 :: u236 :: u237 :: u238 :: u239 :: u240 :: u241 :: u242 :: u243 :: u244 :: u245 :: u246 :: u247 :: u248 :: u249 :: u250 :: u251 :: u252 :: u253 :: u254 :: u255 :: u256 :: u257 :: u258 :: u259 :: u260 :: u261 :: u262 :: u263 :: u264 :: u265 :: u266 :: u267 :: c268 :: c269 :: c270 :: c271 :: c272 :: c273 :: c274 :: c275 :: c276 :: c277 :: c278 :: c279 :: c280 :: c281 :: c282 :: c283 :: c284 :: c285 :: c286 :: c287 :: c288 :: c289 :: c290 :: c291 :: c292 :: c293 :: c294 :: c295 :: c296 :: c297 :: c298 :: c299 :: c300 :: c301 :: c302 :: c303 :: c304 :: c305 :: c306 :: c307 :: c308 :: c309 :: c310 :: c311 :: c312 :: c313 :: c314 :: c315 :: c316 :: c317 :: c318 :: c319 :: c320 :: c321 :: c322 :: c323 :: c324 :: c325 :: c326 :: c327 :: c328 :: c329 :: c330 :: c331 :: c332 :: c333 :: c334 :: c335 :: c336 :: c337 :: c338 :: c339 :: c340 :: c341 :: c342 :: c343 :: c344 :: c345 :: c346 :: c347 :: c348 :: c349 :: c350 :: c351 :: c352 :: c353 :: c354 :: c355 :: c356 :: c357 :: c358 :: c359 :: c360 :: c361 :: c362 :: c363 :: c364 :: c365 :: c366 :: c367 :: c368 :: c369 :: c370 :: c371 :: c372 :: [])), []⟩ z := by
  subst hc
  obtain ⟨va, vc, rfl⟩ := own_slS ho
  obtain ⟨ta, tc, rfl⟩ := own_slS ht
  obtain ⟨pa, pc, rfl⟩ := own_slS hp
  have hl0 : (numI S).length ≤ 1000 := by
    have h1 := numbers_len S
    have h2 := h.big
    unfold Sg.big at h2
    rw [Sg.swept_len] at h2
    unfold numI
    rw [List.length_map]; omega
  have hl1 : ((numI S).length : Int) ≤ 1000 := by omega
  have H := Lib.hid h
  have HO := Lib.hid ho
  have HT := Lib.hid ht
  have HP := Lib.hid hp
  have HEX := Lib.hid hexit
  have hln := Lib.hid (txsS_len S)
  have HL0 := Lib.hid hl0
  clear h ho hexit ht hp hl0
  conv => arg 2; whnf
  go_wp2_with fail
  go_loopw [25] (fun iv wr => ∃ k : Nat, k ≤ (numI S).length ∧ iv = .int .i64 (k : Int) ∧ Hid (Nw z wr)) (fun iv _ => (numI S).length - (intOf iv).toNat)
  case atStart => exact ⟨0, Nat.zero_le _, rfl, Upd.refl _ _⟩
  case round =>
    obtain ⟨k, hk, rfl, hu⟩ := hrel
    by_cases hlt : k < (numI S).length
    · have hltx : k < (txsS S).length := by rw [hln.out]; exact hlt
      obtain ⟨i, hi, htx, hth⟩ := numI_atx hlt hltx
      have hst := H.out.nw hu.out
      have hlti := Sg.thereN_lt hth
      have hbig := hst.big
      unfold Sg.big at hbig
      rw [Sg.swept_len] at hbig
      have hown := owns_upd' HO.out hu.out (fun _ _ e => e)
      rcases hown.2 with ⟨_, hn⟩ | ⟨gb, cap, cur, e, _⟩
      · omega
      cases e
      have hcell := hown.cells (g := gb) rfl k (.int .i64 (i : Int)) (by rw [List.getElem?_map, List.getElem?_eq_getElem hlt, hi]; rfl)
      rw [add_plain, Nat.zero_add] at hcell
      have htown := owns_upd' HT.out hu.out (fun _ _ e => e)
      rcases htown.2 with ⟨_, hn⟩ | ⟨tb, tcap, tcur, e, _⟩
      · omega
      cases e
      have htcell := htown.cells (g := tb) rfl k (.string ⟨(Sg.textN S i).toArray⟩) (by rw [List.getElem?_map, List.getElem?_eq_getElem hltx, htx]; rfl)
      rw [add_plain, Nat.zero_add] at htcell
      have hCt := fun y (u : Nw wr y) => sText_c (hst.nw u) (n := (i : Int)) (by unfold I64; omega)
      have hth1 : Sg.there (Sg.swept S) (i : Int) = Sg.usedL S.pf (i : Int) := by rw [there_nat, Sg.swept_there, hth, Bool.true_and]; rfl
      rw [hth1, Int.toNat_natCast, Sg.swept_text] at hCt
      have hpf : (nmsS (Sg.swept S)) = nmsS S := by unfold nmsS; rw [Sg.swept_pf]
      have HPf := Lib.hid hpf
      have HSt := Lib.hid hst
      have HCell := Lib.hid hcell
      have HTCell := Lib.hid htcell
      have HLt := Lib.hid hlt
      have HPr := Lib.hid (owns_upd' HP.out hu.out (fun _ _ e => e))
      unfold bsV at hCt
      have HCt := Lib.hid hCt
      clear hst hlti hbig hown hth hi htx htown hCt hth1 hpf hltx htcell hcell
      go_upto_block 6 with fail
      refine wp_normal (ss_profs HSt.out HCell.out HLt.out HL0.out (v := .slice pa (nmsS S).length pc) (by rw [HPf.out]; exact HPr.out) _ (by kernel_rfl) ?_)
      intro u28 u29 u30 u209 u210 u211 u212 u213 u214 u215 u216 u217 u218 u219 u220 u221 u222 u223 u224 u225 u226 u227 u228 u229 u230 u231 u232 u233 u234 u235 u236 u237 u238 u239 u240 u241 u242 u243 u244 w9 h9
      rw [HPf.out, Sg.swept_pf]
      have HU9 := Lib.hid h9
      have hc9 := nw_cellS h9 HCell.out
      have ht9 := nw_cellS h9 HTCell.out
      have HC9 := Lib.hid (HCt.out w9 h9)
      clear h9 HCt
      generalize Sg.usedL S.pf (i : Int) = q at *
      cases q with
      | true =>
        simp only [if_true] at HC9
        generalize (⟨(Sg.textN S i).toArray⟩ : ByteArray) = tt at *
        go_wp2_with (first | (go_at_call 22; with_reducible refine HC9.out.mono ?_; rintro _ _ ⟨rfl, rfl⟩))
        go_roundw
        case rel => exact ⟨k + 1, HLt.out, by simp, hu.out.trans HU9.out⟩
        case measure =>
          have := HLt.out
          simp only [intOf]
          omega
      | false =>
        simp only [Bool.false_eq_true, if_false] at HC9
        go_wp2_with (first | (go_at_call 22; with_reducible refine HC9.out.mono ?_; rintro _ _ ⟨rfl, rfl⟩))
        go_roundw
        case rel => exact ⟨k + 1, HLt.out, by simp, hu.out.trans HU9.out⟩
        case measure =>
          have := HLt.out
          simp only [intOf]
          omega
    · obtain hke : k = (numI S).length := by omega
      have HU := Lib.hid hu.out
      rw [hke]
      clear hu hlt hk hke
      go_wp2_with fail
      exact HEX.out _ _ _ _ _ _ _ _ _ _ _ _ _ _ _ _ _ _ _ _ _ _ _ _ _ _ _ _ _ _ _ _ _ _ _ _ _ _ _ _ _ _ _ _ _ _ _ _ _ _ _ _ _ _ _ _ _ _ _ _ _ _ _ _ _ _ _ _ _ _ _ _ _ _ HU.out
set_option maxHeartbeats 8000000 in
set_option maxRecDepth 100000 in
/-- Both stores have the same texts. -/
theorem ss_again {B B2 B3 : Nat} {z : World} {x y : SgR} {S : Sg.Sta} (h : SgAt B z x S) (hy : SgAt B z y S) {v v2 : Value} (ho : z.ownsRow B2 3 1 v (numI S).length ((numI S).map intD)) (ho2 : z.ownsRow B3 3 1 v2 (numI S).length ((numI S).map intD))
    (K0 : Act → World → Prop) { c0 c1 c2 c3 c5 c6 c8 c9 c10 c11 c12 c13 c14 c15 c16 c17 c18 c19 c20 c21 c22 c23 c24 c25 c26 c27 c28 c29 c30 c31 c32 c33 c34 c35 c36 c38 c39 c40 c48 c49 c50 c51 c52 c53 c54 c55 c56 c57 c58 c59 c60 c61 c62 c63 c64 c65 c66 c67 c68 c69 c70 c71 c72 c73 c74 c75 c76 c77 c78 c79 c80 c81 c82 c83 c84 c85 c86 c87 c88 c89 c90 c91 c92 c93 c94 c95 c96 c97 c98 c99 c100 c101 c102 c103 c104 c105 c106 c107 c108 c109 c110 c111 c112 c113 c114 c115 c116 c117 c118 c119 c120 c121 c122 c123 c124 c125 c126 c127 c128 c129 c130 c131 c132 c133 c134 c135 c136 c137 c138 c139 c140 c141 c142 c143 c144 c145 c146 c147 c148 c149 c150 c151 c152 c153 c154 c155 c156 c157 c158 c159 c160 c161 c162 c163 c164 c165 c166 c167 c168 c169 c170 c171 c172 c173 c174 c175 c176 c177 c178 c179 c180 c181 c182 c183 c184 c185 c186 c187 c188 c189 c190 c191 c192 c193 c194 c195 c196 c197 c198 c199 c200 c201 c202 c203 c204 c205 c206 c207 c208 c209 c210 c211 c212 c213 c214 c215 c216 c217 c218 c219 c220 c221 c222 c223 c224 c225 c226 c227 c228 c229 c230 c231 c232 c233 c234 c235 c236 c237 c238 c239 c240 c241 c242 c243 c244 c245 c246 c247 c248 c249 c250 c251 c252 c253 c254 c255 c256 c257 c258 c259 c260 c261 c262 c263 c264 c265 c266 c267 c268 c269 c270 c271 c272 c273 c274 c275 c276 c277 c278 c279 c280 c281 c282 c283 c284 c285 c286 c287 c288 c289 c290 c291 c292 c293 c294 c295 c296 c297 c298 c299 c300 c301 c302 c303 c304 c305 c306 c307 c308 c309 c310 c311 c312 c313 c314 c315 c316 c317 c318 c319 c320 c321 c322 c323 c324 c325 c326 c327 c328 c329 c330 c331 c332 c333 c372 : Value} { u4 u44 u45 u46 u47 u334 u335 u336 u337 u338 u339 u340 u341 u342 u343 u344 u345 u346 u347 u348 u349 u350 u351 u352 u353 u354 u355 u356 u357 u358 u359 u360 u361 u362 u363 u364 u365 u366 u367 u368 u369 u370 u371 : Value} {c : Code} (hc : loopAt Tryz.f4 5 = c)
    (hexit : ∀ (u4 u44 u45 u46 u47 u334 u335 u336 u337 u338 u339 u340 u341 u342 u343 u344 u345 u346 u347 u348 u349 u350 u351 u352 u353 u354 u355 u356 u357 u358 u359 u360 u361 u362 u363 u364 u365 u366 u367 u368 u369 u370 u371 : Value) (w' : World), Nw z w' → K0 ⟨(List.toArray (c0 :: c1 :: c2 :: c3 :: u4 :: c5 :: c6 :: (.pointer (some ⟨x.sb, 0, none⟩)) :: c8 :: c9 :: c10 :: c11 :: c12 :: c13 :: c14 :: c15 :: c16 :: c17 :: c18 :: c19 :: c20 :: c21 :: c22 :: c23 :: c24 :: c25 :: c26 :: c27 :: c28 :: c29 :: c30 :: c31 :: c32 :: c33 :: c34 :: c35 :: c36 :: (.pointer (some ⟨y.sb, 0, none⟩)) :: c38 :: c39 :: c40 :: (v) :: (v2) :: (.int .i64 ((numI S).length : Int)) :: u44 :: u45 :: u46 :: u47 :: c48 :: c49 :: c50 :: c51 :: c52 :: c53 :: c54 :: c55 :: c56 :: c57 :: c58 :: c59 :: c60 :: c61 :: c62 :: c63 :: c64 :: c65 :: c66 :: c67 :: c68 :: c69 :: c70 :: c71 :: c72 :: c73 :: c74 :: c75 :: c76 :: c77 :: c78 :: c79 :: c80 :: c81 :: c82 :: c83 :: c84 :: c85 :: c86 :: c87 :: c88 :: c89 :: c90 :: c91 :: c92 :: c93 :: c94 :: c95 :: c96 :: c97 :: c98 :: c99 :: c100 :: c101 :: c102 :: c103 :: c104 :: c105 :: c106 :: c107 :: c108 :: c109 :: c110 :: c111 :: c112 :: c113 :: c114 :: c115 :: c116 :: c117 :: c118 :: c119 :: c120 :: c121 :: c122 :: c123 :: c124 :: c125 :: c126 :: c127 :: c128 :: c129 :: c130 :: c131 :: c132 :: c133 :: c134 :: c135 :: c136 :: c137 :: c138 :: c139 :: c140 :: c141 :: c142 :: c143 :: c144 :: c145 :: c146 :: c147 :: c148 :: c149 :: c150 :: c151 :: c152 :: c153 :: c154 :: c155 :: c156 :: c157 :: c158 :: c159 :: c160 :: c161 :: c162 :: c163 :: c164 :: c165 :: c166 :: c167 :: c168 :: c169 :: c170 :: c171 :: c172 :: c173 :: c174 :: c175 :: c176 :: c177 :: c178 :: c179 :: c180 :: c181 :: c182 :: c183 :: c184 :: c185 :: c186 :: c187 :: c188 :: c189 :: c190 :: c191 :: c192 :: c193 :: c194 :: c195 :: c196 :: c197 :: c198 :: c199 :: c200 :: c201 :: c202 :: c203 :: c204 :: c205 :: c206 :: c207 :: c208 :: c209 :: c210 :: c211 :: c212 :: c213 :: c214 :: c215 :: c216 :: c217 :: c218 :: c219 :: c220 :: c221 :: c222 :: c223 :: c224 :: c225 :: c226 :: c227 :: c228 :: c229 :: c230 :: c231 :: c232 :: c233 :: c234 :: c235 :: c236 :: c237 :: c238 :: c239 :: c240 :: c241 :: c242 :: c243 :: c244 :: c245 :: c246 :: c247 :: c248 :: c249 :: c250 :: c251 :: c252 :: c253 :: c254 :: c255 :: c256 :: c257 :: c258 :: c259 :: c260 :: c261 :: c262 :: c263 :: c264 :: c265 :: c266 :: c267 :: c268 :: c269 :: c270 :: c271 :: c272 :: c273 :: c274 :: c275 :: c276 :: c277 :: c278 :: c279 :: c280 :: c281 :: c282 :: c283 :: c284 :: c285 :: c286 :: c287 :: c288 :: c289 :: c290 :: c291 :: c292 :: c293 :: c294 :: c295 :: c296 :: c297 :: c298 :: c299 :: c300 :: c301 :: c302 :: c303 :: c304 :: c305 :: c306 :: c307 :: c308 :: c309 :: c310 :: c311 :: c312 :: c313 :: c314 :: c315 :: c316 :: c317 :: c318 :: c319 :: c320 :: c321 :: c322 :: c323 :: c324 :: c325 :: c326 :: c327 :: c328 :: c329 :: c330 :: c331 :: c332 :: c333 :: u334 :: u335 :: u336 :: u337 :: u338 :: u339 :: u340 :: u341 :: u342 :: u343 :: u344 :: u345 :: u346 :: u347 :: u348 :: u349 :: u350 :: u351 :: u352 :: u353 :: u354 :: u355 :: u356 :: u357 :: u358 :: u359 :: u360 :: u361 :: u362 :: u363 :: u364 :: u365 :: u366 :: u367 :: u368 :: u369 :: u370 :: u371 :: c372 :: [])), []⟩ w') :
    Code.wp Tryz.prog c (Exit.then K0 (fun _ _ _ => False)) ⟨(List.toArray (c0 :: c1 :: c2 :: c3 :: u4 :: c5 :: c6 :: (.pointer (some ⟨x.sb, 0, none⟩)) :: c8 :: c9 :: c10 :: c11 :: c12 :: c13 :: c14 :: c15 :: c16 :: c17 :: c18 :: c19 :: c20 :: c21 :: c22 :: c23 :: c24 :: c25 :: c26 :: c27 :: c28 :: c29 :: c30 :: c31 :: c32 :: c33 :: c34 :: c35 :: c36 :: (.pointer (some ⟨y.sb, 0, none⟩)) :: c38 :: c39 :: c40 :: (v) :: (v2) :: (.int .i64 0) :: u44 :: u45 :: u46 :: u47 :: c48 :: c49 :: c50 :: c51 :: c52 :: c53 :: c54 :: c55 :: c56 :: c57 :: c58 :: c59 :: c60 :: c61 :: c62 :: c63 :: c64 :: c65 :: c66 :: c67 :: c68 :: c69 :: c70 :: c71 :: c72 :: c73 :: c74 :: c75 :: c76 :: c77 :: c78 :: c79 :: c80 :: c81 :: c82 :: c83 :: c84 :: c85 :: c86 :: c87 :: c88 :: c89 :: c90 :: c91 :: c92 :: c93 :: c94 :: c95 :: c96 :: c97 :: c98 :: c99 :: c100 :: c101 :: c102 :: c103 :: c104 :: c105 :: c106 :: c107 :: c108 :: c109 :: c110 :: c111 :: c112 :: c113 :: c114 :: c115 :: c116 :: c117 :: c118 :: c119 :: c120 :: c121 :: c122 :: c123 :: c124 :: c125 :: c126 :: c127 :: c128 :: c129 :: c130 :: c131 :: c132 :: c133 :: c134 :: c135 :: c136 :: c137 :: c138 :: c139 :: c140 :: c141 :: c142 :: c143 :: c144 :: c145 :: c146 :: c147 :: c148 :: c149 :: c150 :: c151 :: c152 :: c153 :: c154 :: c155 :: c156 :: c157 :: c158 :: c159 :: c160 :: c161 :: c162 :: c163 :: c164 :: c165 :: c166 :: c167 :: c168 :: c169 :: c170 :: c171 :: c172 :: c173 :: c174 :: c175 :: c176 :: c177 :: c178 :: c179 :: c180 :: c181 :: c182 :: c183 :: c184 :: c185 :: c186 :: c187 :: c188 :: c189 :: c190 :: c191 :: c192 :: c193 :: c194 :: c195 :: c196 :: c197 :: c198 :: c199 :: c200 :: c201 :: c202 :: c203 :: c204 :: c205 :: c206 :: c207 :: c208 :: c209 :: c210 :: c211 :: c212 :: c213 :: c214 :: c215 :: c216 :: c217 :: c218 :: c219 :: c220 :: c221 :: c222 :: c223 :: c224 :: c225 :: c226 :: c227 :: c228 :: c229 :: c230 :: c231 :: c232 :: c233 :: c234 :: c235 :: c236 :: c237 :: c238 :: c239 :: c240 :: c241 :: c242 :: c243 :: c244 :: c245 :: c246 :: c247 :: c248 :: c249 :: c250 :: c251 :: c252 :: c253 :: c254 :: c255 :: c256 :: c257 :: c258 :: c259 :: c260 :: c261 :: c262 :: c263 :: c264 :: c265 :: c266 :: c267 :: c268 :: c269 :: c270 :: c271 :: c272 :: c273 :: c274 :: c275 :: c276 :: c277 :: c278 :: c279 :: c280 :: c281 :: c282 :: c283 :: c284 :: c285 :: c286 :: c287 :: c288 :: c289 :: c290 :: c291 :: c292 :: c293 :: c294 :: c295 :: c296 :: c297 :: c298 :: c299 :: c300 :: c301 :: c302 :: c303 :: c304 :: c305 :: c306 :: c307 :: c308 :: c309 :: c310 :: c311 :: c312 :: c313 :: c314 :: c315 :: c316 :: c317 :: c318 :: c319 :: c320 :: c321 :: c322 :: c323 :: c324 :: c325 :: c326 :: c327 :: c328 :: c329 :: c330 :: c331 :: c332 :: c333 :: u334 :: u335 :: u336 :: u337 :: u338 :: u339 :: u340 :: u341 :: u342 :: u343 :: u344 :: u345 :: u346 :: u347 :: u348 :: u349 :: u350 :: u351 :: u352 :: u353 :: u354 :: u355 :: u356 :: u357 :: u358 :: u359 :: u360 :: u361 :: u362 :: u363 :: u364 :: u365 :: u366 :: u367 :: u368 :: u369 :: u370 :: u371 :: c372 :: [])), []⟩ z := by
  subst hc
  obtain ⟨va, vc, rfl⟩ := own_slS ho
  obtain ⟨va2, vc2, rfl⟩ := own_slS ho2
  have hl1 : ((numI S).length : Int) ≤ 1000 := by have := numI_small h; omega
  have H := Lib.hid h
  have HY := Lib.hid hy
  have HO := Lib.hid ho
  have HO2 := Lib.hid ho2
  have HEX := Lib.hid hexit
  clear h hy ho ho2 hexit
  conv => arg 2; whnf
  go_wp2_with fail
  go_loopw [43] (fun iv wr => ∃ k : Nat, k ≤ (numI S).length ∧ iv = .int .i64 (k : Int) ∧ Hid (Nw z wr)) (fun iv _ => (numI S).length - (intOf iv).toNat)
  case atStart => exact ⟨0, Nat.zero_le _, rfl, Upd.refl _ _⟩
  case round =>
    obtain ⟨k, hk, rfl, hu⟩ := hrel
    by_cases hlt : k < (numI S).length
    · obtain ⟨i, hi, hth⟩ := numI_at hlt
      have hst := H.out.nw hu.out
      have hsy := HY.out.nw hu.out
      have hlti := Sg.thereN_lt hth
      have hbig := hst.big
      unfold Sg.big at hbig
      have hown := owns_upd' HO.out hu.out (fun _ _ e => e)
      rcases hown.2 with ⟨_, hn⟩ | ⟨gb, cap, cur, e, _⟩
      · omega
      cases e
      have hcell := hown.cells (g := gb) rfl k (.int .i64 (i : Int)) (by rw [List.getElem?_map, List.getElem?_eq_getElem hlt, hi]; rfl)
      rw [add_plain, Nat.zero_add] at hcell
      have hown2 := owns_upd' HO2.out hu.out (fun _ _ e => e)
      rcases hown2.2 with ⟨_, hn⟩ | ⟨gb2, cap2, cur2, e, _⟩
      · omega
      cases e
      have hcell2 := hown2.cells (g := gb2) rfl k (.int .i64 (i : Int)) (by rw [List.getElem?_map, List.getElem?_eq_getElem hlt, hi]; rfl)
      rw [add_plain, Nat.zero_add] at hcell2
      have hT := sText_c hst (n := (i : Int)) (by unfold I64; omega)
      have hT2 := sText_c hsy (n := (i : Int)) (by unfold I64; omega)
      rw [there_nat, hth, if_pos rfl, Int.toNat_natCast] at hT hT2
      unfold bsV at hT hT2
      generalize (⟨(Sg.textN S i).toArray⟩ : ByteArray) = tt at hT hT2
      have HT := Lib.hid hT
      have HT2 := Lib.hid hT2
      have HLt := Lib.hid hlt
      have l0 : ∀ j : Later wr, j.1.cell? ⟨gb, k, none⟩ = some (.int .i64 (i : Int)) := fun j => nw_cellS j.nw hcell
      have l1 : ∀ j : Later wr, j.1.cell? ⟨gb2, k, none⟩ = some (.int .i64 (i : Int)) := fun j => nw_cellS j.nw hcell2
      clear hst hsy hlti hbig hown hown2 hT hT2 hth hi
      go_upto_region 65 with (first | (go_at_call 22; first | (with_reducible refine HT.out.mono ?_; rintro _ _ ⟨rfl, rfl⟩) | (with_reducible refine HT2.out.mono ?_; rintro _ _ ⟨rfl, rfl⟩)))
      refine wp_region_nw (by kernel_rfl) (by kernel_rfl) ?_
      repeat (go_big_quiet_step ((fail)))
      refine wpQuiet_nil ?_
      intro w5 u5
      replace u5 := later_out u5
      go_wp2_with fail
      go_roundw
      case rel => exact ⟨k + 1, HLt.out, by simp, hu.out.trans u5⟩
      case measure =>
        have := HLt.out
        simp only [intOf]
        omega
    · obtain hke : k = (numI S).length := by omega
      have HU := Lib.hid hu.out
      rw [hke]
      clear hu hlt hk hke
      go_wp2_with fail
      exact HEX.out _ _ _ _ _ _ _ _ _ _ _ _ _ _ _ _ _ _ _ _ _ _ _ _ _ _ _ _ _ _ _ _ _ _ _ _ _ _ _ _ _ _ _ _ HU.out
end Go.Proofs.YtkldcnikeoofiaaGreatDoor
