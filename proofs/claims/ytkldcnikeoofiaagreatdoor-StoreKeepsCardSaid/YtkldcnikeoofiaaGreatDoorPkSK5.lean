/- Layer 39 (store) in plain words: on a calm disk every operation is done. No program stands in this text. ladinglaw39.profile. A store on a calm disk: the calls of the statements without faults. ladinglaw39.small: the documented examples. A loop of a function, taken out of its code: so that its walk is a theorem of its own. StoreKeeps: its loops over the numbers and the profiles. StoreKeeps: its loop over the profiles. StoreKeeps: its loops 1 and 2, whatever the slice. StoreKeeps: what its rounds want beyond the contracts: the length of a bounded profile, Start, Open again. -/
import Derived.Test.YtkldcnikeoofiaaGreatDoorPkSK2
import Derived.Test.YtkldcnikeoofiaaGreatDoorPkSK4
import Derived.Test.YtkldcnikeoofiaaGreatDoorPkSK0
namespace Go.Proofs.YtkldcnikeoofiaaGreatDoor.Sg
open Fm (Str)
open Dk (Disk)
open Jr (Jn openJ)
set_option linter.unusedVariables false
set_option linter.unusedSimpArgs false

/-- All is well: the disk is calm, the journal whole. -/
structure Cm (D : Disk) (j : Jn) (S : Sta) (f : Int) (n : Nat) : Prop where
  wl : Wl D j S f n
  calm : Jr.Calm D
  ok : j.broken = false
variable {D : Disk} {j : Jn} {S : Sta} {f : Int} {n : Nat}
theorem Cm.mono {m : Nat} (h : Cm D j S f n) (hm : n ≤ m) : Cm D j S f m := ⟨h.wl.mono hm, h.calm, h.ok⟩
theorem Cm.perform (h : Cm D j S f n) (hf : 0 ≤ f ∧ f < 16) (hn : n ≤ 40) {o : Ops} (ho : adm S o) (hs : (opE o).length ≤ 2000) :
    ∃ D' j', Sg.perform D j S o = (D', j', after S o, 0) ∧ Cm D' j' (after S o) f (n + 1) := by
  obtain ⟨h1, h2, _, h4⟩ := h.wl.perform hf hn ho hs
  obtain ⟨e0, c, b⟩ := h4 h.calm h.ok
  have hS := h2 e0
  obtain ⟨⟨D', j', S', e'⟩, hr⟩ : ∃ r, r = Sg.perform D j S o := ⟨_, rfl⟩
  rw [← hr] at h1 hS e0 c b
  dsimp only at h1 hS e0 c b
  subst hS e0
  exact ⟨D', j', hr.symm, h1, c, b⟩
theorem Cm.put_new (h : Cm D j S f n) (hf : 0 ≤ f ∧ f < 16) (hn : n ≤ 40) {t : Str} (ht : t.length ≤ 1000) (hq : find S t = none) :
    ∃ D' j', put D j S t = (D', j', after S (.put t), (S.th.length : Int), 0) ∧ Cm D' j' (after S (.put t)) f (n + 1) := by
  obtain ⟨D', j', e, c⟩ := h.perform hf hn (o := .put t) hq (by simp [opE]; omega)
  refine ⟨D', j', ?_, c⟩
  unfold put
  rw [hq]
  dsimp only
  rw [e]
  rfl
theorem put_old (D : Disk) (j : Jn) {S : Sta} {t : Str} {m : Nat} (hq : find S t = some m) : put D j S t = (D, j, S, (m : Int), 0) := by unfold put; rw [hq]
theorem Cm.set_done (h : Cm D j S f n) (hf : 0 ≤ f ∧ f < 16) (hn : n ≤ 40) {p : Pf} (hp : (pfE p).length ≤ 1900) (hr : rightP p = true) (hi : ∀ x ∈ p.its, there S x.pr = true) :
    ∃ D' j', set D j S p = (D', j', after S (.set p), 0, 0) ∧ Cm D' j' (after S (.set p)) f (n + 1) := by
  obtain ⟨D', j', e, c⟩ := h.perform hf hn (o := .set p) ⟨hr, hi⟩ (by simp [opE]; omega)
  refine ⟨D', j', ?_, c⟩
  unfold set
  rw [if_neg (by rw [hr]; decide), if_neg (by rw [List.all_eq_true.2 hi]; decide), e]
  rfl
theorem set_none (D : Disk) (j : Jn) {S : Sta} {p : Pf} (hr : rightP p = true) (hi : (p.its.all fun x => there S x.pr) = false) : set D j S p = (D, j, S, 0, 4) := by
  unfold set
  rw [if_neg (by rw [hr]; decide), if_pos hi]
theorem Cm.sweep_done (h : Cm D j S f n) (hf : 0 ≤ f ∧ f < 16) (hn : n ≤ 40) (hs : spare S ≠ []) :
    ∃ D' j', sweep D j S = (D', j', after S .sweep, ((spare S).length : Int), 0) ∧ Cm D' j' (after S .sweep) f (n + 1) := by
  obtain ⟨D', j', e, c⟩ := h.perform hf hn (o := .sweep) trivial (by simp [opE])
  refine ⟨D', j', ?_, c⟩
  unfold sweep
  rw [if_neg hs, e]
  rfl
theorem Cm.act (h : Cm D j S f n) (hf : 0 ≤ f ∧ f < 16) (hn : n ≤ 40) (k : Int) {s : Str} {p : Pf} (hs : s.length ≤ 1000) (hp : (pfE p).length ≤ 1900) :
    Cm (Sg.act D j S k s p).D (Sg.act D j S k s p).j (Sg.act D j S k s p).S f (n + 1) := by
  obtain ⟨h1, h2⟩ := act_wl h.wl hf hn k hs hp
  exact ⟨h1, (h2 h.calm h.ok).1, (h2 h.calm h.ok).2⟩
/-- Opening, all calm: the state is that of the records. -/
theorem cm_open (hw : Wf D f n) (hc : Jr.Calm D) (hf : 0 ≤ f ∧ f < 16) : ∃ rs, (openJ D f).2.1 = some ⟨f, rs.map recE, false⟩ ∧ (openJ D f).2.2 = 0 ∧ Gd rs ∧ rs.length ≤ 2 * n ∧ Cm (openJ D f).1 ⟨f, rs.map recE, false⟩ (of rs) f (2 * n) ∧ ∀ r ∈ rs, (recE r).length ≤ 2000 := by
  obtain ⟨D', e, c, _⟩ := hc.open_ hf
  rcases hw.open_ hf with ⟨h1, h2, _⟩ | ⟨rs, h1, h2, h3, h4, h5⟩
  · rw [e] at h1; cases h1
  · refine ⟨rs, h1, h2, h3, h4, ⟨opened h5 h3 h4, ?_, rfl⟩, fun r hr => ?_⟩
    · rw [e]; exact c
    · obtain ⟨sure, hi⟩ := h5.inv
      exact hi.small _ (List.mem_map.2 ⟨r, hr, rfl⟩)
/-- A whole journal, opened again: the same state. -/
theorem Cm.again (h : Cm D j S f n) (hf : 0 ≤ f ∧ f < 16) : ∃ rs, (openJ D f).2.1 = some ⟨f, rs.map recE, false⟩ ∧ (openJ D f).2.2 = 0 ∧ Gd rs ∧ rs.length ≤ 2 * n ∧ of rs = S ∧ Cm (openJ D f).1 ⟨f, rs.map recE, false⟩ S f n ∧ ∀ r ∈ rs, (recE r).length ≤ 2000 := by
  obtain ⟨rs0, k1, k2, k3, k4⟩ := h.wl.hf
  obtain ⟨_, k5⟩ := k1.whole h.ok
  obtain ⟨sure, ki⟩ := k1.inv
  obtain ⟨D', e, c, _⟩ := h.calm.open_ hf
  have hsmall : ∀ a ∈ rs0.map recE, a.length ≤ 20000 := fun a ha => by have := ki.small a ha; omega
  have hrecs : Jr.recs (D.fs f).now = rs0.map recE := by
    rw [k5]
    have := Jr.recs_forms (l := rs0.map recE) (r := []) hsmall
    rw [List.append_nil] at this
    rw [this]
    show rs0.map recE ++ Jr.recs [] = _
    rw [show Jr.recs [] = [] from by
      have := Jr.recs_forms (l := []) (r := []) (by simp)
      have h2 := Jr.recs_again []
      have h3 := (Jr.recs_again (Jr.forms (Jr.recs [])))
      unfold Jr.recs
      rfl, List.append_nil]
  rcases h.wl.file.open_ hf with ⟨h1, h2, _⟩ | ⟨rs, h1, h2, h3, h4, h5⟩
  · rw [e] at h1; cases h1
  · have hrec : rs.map recE = rs0.map recE := by
      rw [e] at h1
      have h1 : (some ⟨f, Jr.recs (D.fs f).now, false⟩ : Option Jn) = some ⟨f, rs.map recE, false⟩ := h1
      have := congrArg Jn.recs (Option.some.inj h1)
      dsimp only at this
      rw [← this, hrecs]
    obtain ⟨⟨sure2, m1⟩, m2, m3, m4⟩ := h5
    have m4 := m4 rfl
    rw [hrec] at h1 m1 m4 m2
    refine ⟨rs0, h1, h2, k2, k3, (k4 h.ok).symm, ⟨⟨h.wl.g, h.wl.big, rs0, ⟨⟨sure2, m1⟩, rfl, ⟨rs0.length, ?_⟩, fun _ => ⟨rfl, m4.2⟩⟩, k2, k3, fun _ => k4 h.ok⟩, ?_, rfl⟩, fun r hr => ki.small _ (List.mem_map.2 ⟨r, hr, rfl⟩)⟩
    · rw [List.take_length]
    · rw [e]; exact c
end Go.Proofs.YtkldcnikeoofiaaGreatDoor.Sg
namespace Go.Proofs.YtkldcnikeoofiaaGreatDoor
open Go.RowKit
set_option linter.unusedVariables false
set_option linter.unusedSimpArgs false
attribute [local irreducible] Calls CallsIn

def geo (n : Int) : Sg.It := ⟨[103, 101, 111], 1, 0, 0, n⟩
theorem pf2_results (tmps : Array Value) (w : World) {r : Nat} {s : ByteArray} {nv : Value} {T : TypeId} (hr : tmps.getD 4 undef = .pointer (some ⟨r, 0, none⟩)) (hb : w.heap[r]? = some (.cells #[.string s, nv] T (0, 0))) :
    (results Tryz.f83 tmps).run Tryz.prog w = .ok (.agg #[.string s, nv]) w := by
  have c0 : w.cell? ⟨r, 0, none⟩ = some (.string s) := by rw [cells_cell hb]; rfl
  have c1 : w.cell? ⟨r, 1, none⟩ = some nv := by rw [cells_cell hb]; rfl
  rw [Array.getD_eq_getD_getElem?] at hr
  simp [results, Tryz.results83, go_sem, hr, c0, c1]
set_option maxHeartbeats 2000000 in
set_option maxRecDepth 100000 in
theorem profile_c (nm : List UInt8) (n : Int) (w : World) (hgb : nG ≤ w.heap.size) : Calls Tryz.prog 83 #[.string ⟨nm.toArray⟩, .int .i64 n] w fun e w' => ∃ v, e = .returned (.agg #[.string ⟨nm.toArray⟩, v]) ∧ SlS 5 0 w'.heap.size w' v ([geo n].map itC) ∧ Nw w w' := by
  go_enter Tryz.func83, Tryz.ntmps83
  go_wp2_with fail
  have n1 := nw_alloc w (.cells #[.string ⟨nm.toArray⟩, .slice (some ⟨w.heap.size + 1, 0, none⟩) 1 1] tPf)
  have n2 := nw_alloc (w.alloc (.cells #[.string ⟨nm.toArray⟩, .slice (some ⟨w.heap.size + 1, 0, none⟩) 1 1] tPf)) (.cells #[.string ⟨#[103, 101, 111]⟩, .int .i64 1, .int .i64 0, .int .i64 0, .int .i64 n] tPl)
  have b1 := Nw.keep n2 (heap_new w (.cells #[.string ⟨nm.toArray⟩, .slice (some ⟨w.heap.size + 1, 0, none⟩) 1 1] tPf))
  have b2 := heap_new (w.alloc (.cells #[.string ⟨nm.toArray⟩, .slice (some ⟨w.heap.size + 1, 0, none⟩) 1 1] tPf)) (.cells #[.string ⟨#[103, 101, 111]⟩, .int .i64 1, .int .i64 0, .int .i64 0, .int .i64 n] tPl)
  rw [World.size_alloc] at b2
  refine bodyPost_ret (pf2_results _ _ (by simp) b1) rfl ⟨_, rfl, Or.inr ⟨w.heap.size + 1, 0, 1, rfl, Nat.le_refl 1, (by unfold maxLen; omega), Nat.zero_le _, ?_, ?_, fun i hi => ?_⟩, n1.trans n2⟩
  · simp only [World.size_alloc]; omega
  · simp only [World.size_alloc]; omega
  · have hi0 : i = 0 := by simp at hi; omega
    subst hi0
    refine ⟨rfl, fun j hj => ?_⟩
    rw [cells_cell b2, Nat.zero_mul, Nat.add_zero, Nat.zero_add]
    match j, hj with
    | 0, _ => rfl
    | 1, _ => rfl
    | 2, _ => rfl
    | 3, _ => rfl
    | 4, _ => rfl
end Go.Proofs.YtkldcnikeoofiaaGreatDoor
namespace Go.Proofs.YtkldcnikeoofiaaGreatDoor
open Go.RowKit
set_option linter.unusedVariables false
set_option linter.unusedSimpArgs false
attribute [local irreducible] Calls CallsIn

/-- In block sb lies a store with the state S, on a calm disk; n operations at most have been done. -/
def CS (w : World) (db : Nat) (f : Int) (F : Nat → Prop) (sb : Nat) (S : Sg.Sta) (n : Nat) (z : World) : Prop := ∃ (x : SgR) (j : Jr.Jn) (D : Dk.Disk), x.sb = sb ∧ SS w db x j S D F z ∧ Sg.Cm D j S f n
section
variable {w : World} {db : Nat} {f : Int} {F : Nat → Prop} {sb : Nat} {S : Sg.Sta} {n : Nat} {z : World}
theorem CS.nw {z' : World} (h : CS w db f F sb S n z) (u : Nw z z') : CS w db f F sb S n z' := by
  obtain ⟨x, j, D, h1, h2, h3⟩ := h
  exact ⟨x, j, D, h1, h2.nw u, h3⟩
theorem CS.keep {F' : Nat → Prop} {z' : World} (h : CS w db f F sb S n z) (u : Nw z z') (hF : ∀ k, F' k → F k ∨ (z.heap.size ≤ k ∧ k < z'.heap.size)) : CS w db f F' sb S n z' := by
  obtain ⟨x, j, D, h1, h2, h3⟩ := h
  exact ⟨x, j, D, h1, h2.keep u hF, h3⟩
theorem CS.nw0 (h : CS w db f F sb S n z) : Nw w z := by
  obtain ⟨x, j, D, h1, h2, h3⟩ := h
  exact h2.nw0
theorem CS.g (h : CS w db f F sb S n z) : Sg.G S := by
  obtain ⟨x, j, D, h1, h2, h3⟩ := h
  exact h2.st.g
theorem CS.st (h : CS w db f F sb S n z) : ∃ x : SgR, x.sb = sb ∧ SgAt w.heap.size z x S := by
  obtain ⟨x, j, D, h1, h2, h3⟩ := h
  exact ⟨x, h1, h2.st⟩
theorem cs_of {r : Sg.Res} {z' : World} (h : OpD w db sb r F z z') (hc : Sg.Cm r.D r.j r.S f n) : CS w db f F sb r.S n z' ∧ Moves w F z z' := by
  obtain ⟨x', e, h1, h2⟩ := h
  exact ⟨⟨x', _, _, e, h1, hc⟩, h2⟩
theorem putC (g : GmS w) (h : CS w db f F sb S n z) (hf : 0 ≤ f ∧ f < 16) (hn : n ≤ 40) {t : List UInt8} (ht : t.length ≤ 1000) (hq : Sg.find S t = none) :
    Calls Tryz.prog 26 #[.pointer (some ⟨sb, 0, none⟩), .string ⟨t.toArray⟩] z fun e z' => e = .returned (.tuple #[.int .i64 (S.th.length : Nat), .int .i64 0]) ∧ CS w db f F sb (Sg.after S (.put t)) (n + 1) z' ∧ Moves w F z z' := by
  obtain ⟨x, j, D, rfl, h2, h3⟩ := h
  obtain ⟨D', j', e, c⟩ := h3.put_new hf hn ht hq
  have := put_t g.g h2 (t := t) (by omega) (by have := h3.wl.big; omega)
  rw [e] at this
  exact this.mono fun e z' ⟨h1, h2⟩ => ⟨h1, cs_of h2 c⟩
theorem putO (g : GmS w) (h : CS w db f F sb S n z) (hn : n ≤ 40) {t : List UInt8} (ht : t.length ≤ 1000) {m : Nat} (hq : Sg.find S t = some m) :
    Calls Tryz.prog 26 #[.pointer (some ⟨sb, 0, none⟩), .string ⟨t.toArray⟩] z fun e z' => e = .returned (.tuple #[.int .i64 (m : Nat), .int .i64 0]) ∧ CS w db f F sb S n z' ∧ Moves w F z z' := by
  obtain ⟨x, j, D, rfl, h2, h3⟩ := h
  have := put_t g.g h2 (t := t) (by omega) (by have := h3.wl.big; omega)
  rw [Sg.put_old D j hq] at this
  exact this.mono fun e z' ⟨h1, h2⟩ => ⟨h1, cs_of h2 h3⟩
theorem setC (g : GmS w) (h : CS w db f F sb S n z) (hf : 0 ≤ f ∧ f < 16) (hn : n ≤ 40) {p : Sg.Pf} (hp : (Sg.pfE p).length ≤ 1900) (hr : Sg.rightP p = true) (hi : ∀ x ∈ p.its, Sg.there S x.pr = true) {v : Value} {lo hi' : Nat} (hv : SlS 5 lo hi' z v (p.its.map itC)) (hx : ∀ x ∈ p.its, ItArg x) :
    Calls Tryz.prog 82 #[.pointer (some ⟨sb, 0, none⟩), .agg #[.string ⟨p.nm.toArray⟩, v]] z fun e z' => e = .returned (.int .i64 0) ∧ CS w db f F sb (Sg.after S (.set p)) (n + 1) z' ∧ Moves w F z z' := by
  obtain ⟨x, j, D, rfl, h2, h3⟩ := h
  obtain ⟨D', j', e, c⟩ := h3.set_done hf hn hp hr hi
  obtain ⟨r1, r2, _⟩ := right_len hr
  have := set_t g h2 hv (by omega) (by omega) hx (by have := h3.wl.big; omega)
  rw [e] at this
  exact this.mono fun e z' ⟨h1, h2⟩ => ⟨h1, cs_of h2 c⟩
theorem setN (g : GmS w) (h : CS w db f F sb S n z) (hn : n ≤ 40) {p : Sg.Pf} (hr : Sg.rightP p = true) (hi : (p.its.all fun x => Sg.there S x.pr) = false) {v : Value} {lo hi' : Nat} (hv : SlS 5 lo hi' z v (p.its.map itC)) (hx : ∀ x ∈ p.its, ItArg x) :
    Calls Tryz.prog 82 #[.pointer (some ⟨sb, 0, none⟩), .agg #[.string ⟨p.nm.toArray⟩, v]] z fun e z' => e = .returned (.int .i64 4) ∧ CS w db f F sb S n z' ∧ Moves w F z z' := by
  obtain ⟨x, j, D, rfl, h2, h3⟩ := h
  obtain ⟨r1, r2, _⟩ := right_len hr
  have := set_t g h2 hv (by omega) (by omega) hx (by have := h3.wl.big; omega)
  rw [Sg.set_none D j hr hi] at this
  exact this.mono fun e z' ⟨h1, h2⟩ => ⟨h1, cs_of h2 h3⟩
theorem sweepC (g : GmS w) (h : CS w db f F sb S n z) (hf : 0 ≤ f ∧ f < 16) (hn : n ≤ 40) (hs : Sg.spare S ≠ []) :
    Calls Tryz.prog 23 #[.pointer (some ⟨sb, 0, none⟩)] z fun e z' => e = .returned (.tuple #[.int .i64 ((Sg.spare S).length : Nat), .int .i64 0]) ∧ CS w db f F sb (Sg.after S .sweep) (n + 1) z' ∧ Moves w F z z' := by
  obtain ⟨x, j, D, rfl, h2, h3⟩ := h
  obtain ⟨D', j', e, c⟩ := h3.sweep_done hf hn hs
  have := sweep_t g.g h2 (by have := h3.wl.big; omega)
  rw [e] at this
  exact this.mono fun e z' ⟨h1, h2⟩ => ⟨h1, cs_of h2 c⟩
/-- Whatever the operation: the store is calm behind it. -/
theorem doC (g : GmS w) (h : CS w db f F sb S n z) (hf : 0 ≤ f ∧ f < 16) (hn : n ≤ 40) {k m : Int} (hk : I64 k) {s : List UInt8} (hs : s.length ≤ 1000) {p : Sg.Pf} {v kv : Value} {lo hi : Nat} (hv : SlS 5 lo hi z v (p.its.map itC)) (hp : (Sg.pfE p).length ≤ 1900) (hnm : p.nm.length ≤ 1000000) (hl : p.its.length ≤ 1000) (hx : ∀ x ∈ p.its, ItArg x) :
    Calls Tryz.prog 19 #[.pointer (some ⟨sb, 0, none⟩), .agg #[.int .i64 k, .string ⟨s.toArray⟩, .int .i64 m, .string ⟨p.nm.toArray⟩, v, kv]] z fun e z' => (∃ a b : Int, e = .returned (.tuple #[.int .i64 a, .int .i64 b])) ∧ (∃ S', CS w db f F sb S' (n + 1) z') ∧ Moves w F z z' := by
  obtain ⟨x, j, D, rfl, h2, h3⟩ := h
  have c := h3.act hf hn k hs hp
  exact (do_t g h2 hk (by omega) hv hnm hl hx (by have := h3.wl.big; omega)).mono fun e z' ⟨h1, h2⟩ => ⟨⟨_, _, h1⟩, ⟨_, (cs_of h2 c).1⟩, (cs_of h2 c).2⟩
/-- A new disk, opened. -/
theorem openC (g : GmS w) {z : World} (h : GS w db none Dk.new F z) (hf : 0 ≤ f ∧ f < 16) :
    Calls Tryz.prog 18 #[.pointer (some ⟨db, 0, none⟩), .int .i64 f] z fun e z' => ∃ sb, e = .returned (.tuple #[.pointer (some ⟨sb, 0, none⟩), .int .i64 0]) ∧ CS w db f F sb Sg.nil 0 z' ∧ Moves w F z z' := by
  obtain ⟨rs, h1, h2, h3, h4, h5, h6⟩ := Sg.cm_open (Sg.wf_new f) Jr.calm_new hf
  obtain rfl : rs = [] := List.length_eq_zero_iff.1 (by omega)
  refine (sopen_t g.g h (f := f) (by unfold I64; omega) (Or.inr ⟨h1, h2, h3, by simp, h6⟩)).mono fun e z' ho => ?_
  rcases ho with ⟨k1, _⟩ | ⟨_, x, k1, k2, k3⟩
  · rw [k1] at h1; cases h1
  · exact ⟨x.sb, k1, ⟨x, _, _, rfl, k2, h5⟩, k3⟩
end
end Go.Proofs.YtkldcnikeoofiaaGreatDoor
namespace Go.Proofs.YtkldcnikeoofiaaGreatDoor
open Go.RowKit
set_option linter.unusedVariables false
set_option linter.unusedSimpArgs false
attribute [local irreducible] Calls CallsIn

namespace Sg
def s1 : Sta := after nil (.put [97])
def s2 : Sta := after s1 (.put [98])
def s3 : Sta := after s2 (.set ⟨[120], [geo 1]⟩)
def s4 : Sta := after s3 .sweep
def s5 : Sta := after s4 (.put [97])
theorem f1 : find nil [97] = none := by decide
theorem f2 : find s1 [98] = none := by decide
theorem f3 : find s2 [97] = some 0 := by decide
theorem r1 : rightP ⟨[120], [geo 1]⟩ = true := by decide
theorem r0 : rightP ⟨[120], [geo 0]⟩ = true := by decide
theorem t2 : there s2 1 = true := by decide
theorem p3 : spare s3 = [0] := by decide
theorem n4 : numbers s4 = [1] := by decide
theorem f4 : find s4 [97] = none := by decide
theorem l4 : s4.th.length = 2 := by decide
theorem t51 : there s5 1 = true := by decide
end Sg
theorem geoArg (n : Int) (h : I64 n) : ItArg (geo n) := ⟨(show 3 ≤ 1000000 by omega), (show I64 1 by unfold I64; omega), (show I64 0 by unfold I64; omega), (show I64 0 by unfold I64; omega), h⟩
theorem geo_len1 : (Sg.pfE ⟨[120], [geo 1]⟩).length ≤ 1900 := by
  have h1 : (Wire.textE [120]).length ≤ 1 + 22 := Fm.textE_len [120] (by decide)
  have h3 : (Wire.textE [103, 101, 111]).length ≤ 3 + 22 := Fm.textE_len [103, 101, 111] (by decide)
  have h4 : (Wire.numE 1).length ≤ 21 := Fm.num_len (n := 1) (by constructor <;> omega)
  have h5 : (Wire.numE 0).length ≤ 21 := Fm.num_len (n := 0) (by constructor <;> omega)
  rw [show Sg.pfE ⟨[120], [geo 1]⟩ = Wire.textE [120] ++ (Wire.numE 1 ++ ((Wire.textE [103, 101, 111] ++ (Wire.numE 1 ++ (Wire.numE 0 ++ (Wire.numE 0 ++ Wire.numE 1)))) ++ [])) from rfl]
  simp only [List.length_append, List.length_nil]
  omega
set_option maxHeartbeats 4000000 in
set_option maxRecDepth 100000 in
theorem smallS_c (w : World) (g : GmS w) : Calls Tryz.prog 15 #[] w fun e w' => e = .returned (.bool true) ∧ Nw w w' := by
  have hf : (0 : Int) ≤ 0 ∧ (0 : Int) < 16 := by omega
  have h0 := Lib.hid (new_t w g.g)
  have G := Lib.hid g
  have i1 : I64 1 := by unfold I64; omega
  have i0 : I64 0 := by unfold I64; omega
  have hgb := g.g.big
  clear g
  go_enter Tryz.func15, Tryz.ntmps15
  go_wp2_with fail
  (with_reducible refine (h0.out).mono ?_)
  rintro _ z0 ⟨db, rfl, hg0⟩
  have h1 := Lib.hid (openC G.out hg0 hf)
  clear hg0 h0
  go_wp2_with fail
  (with_reducible refine (h1.out).mono ?_)
  rintro _ z1 ⟨sb, rfl, c1, m1⟩
  clear h1 m1
  have h2' := putC G.out c1 hf (by omega) (t := [97]) (by decide) Sg.f1
  rw [show ((Sg.nil.th.length : Nat) : Int) = 0 from rfl, show Sg.after Sg.nil (.put [97]) = Sg.s1 from rfl] at h2'
  have h2 := Lib.hid h2'
  clear c1 h2'
  go_wp2_with fail
  (with_reducible refine (h2.out).mono ?_)
  rintro _ z2 ⟨rfl, c2, m2⟩
  clear h2 m2
  have h3' := putC G.out c2 hf (by omega) (t := [98]) (by decide) Sg.f2
  rw [show ((Sg.s1.th.length : Nat) : Int) = 1 from rfl, show Sg.after Sg.s1 (.put [98]) = Sg.s2 from rfl] at h3'
  have h3 := Lib.hid h3'
  clear c2 h3'
  go_wp2_with fail
  (with_reducible refine (h3.out).mono ?_)
  rintro _ z3 ⟨rfl, c3, m3⟩
  clear h3 m3
  have h4 := Lib.hid (putO G.out c3 (by omega) (t := [97]) (by decide) Sg.f3)
  clear c3
  go_wp2_with fail
  (with_reducible refine (h4.out).mono ?_)
  rintro _ z4 ⟨rfl, c4, m4⟩
  clear h4 m4
  have hz4 := c4.nw0.size
  have h5 := Lib.hid (profile_c [120] 1 z4 (by omega))
  have C4 := Lib.hid c4
  clear c4
  go_wp2_with fail
  (with_reducible refine (h5.out).mono ?_)
  rintro _ z5 ⟨v5, rfl, hv5, u5⟩
  clear h5
  have h6' := setC G.out (C4.out.nw u5) hf (by omega) (p := ⟨[120], [geo 1]⟩) geo_len1 Sg.r1 (fun x hx => by rw [List.mem_singleton.1 hx]; exact Sg.t2) hv5 (fun x hx => by rw [List.mem_singleton.1 hx]; exact geoArg 1 i1)
  rw [show Sg.after Sg.s2 (.set ⟨[120], [geo 1]⟩) = Sg.s3 from rfl] at h6'
  have h6 := Lib.hid h6'
  clear hv5 u5 C4 h6'
  go_wp2_with fail
  (with_reducible refine (h6.out).mono ?_)
  rintro _ z6 ⟨rfl, c6, m6⟩
  clear h6 m6
  have h7' := sweepC G.out c6 hf (by omega) (by rw [Sg.p3]; simp)
  rw [Sg.p3, show Sg.after Sg.s3 .sweep = Sg.s4 from rfl] at h7'
  have h7 := Lib.hid (show Calls Tryz.prog 23 #[.pointer (some ⟨sb, 0, none⟩)] z6 (fun e z' => e = .returned (.tuple #[.int .i64 1, .int .i64 0]) ∧ CS w db 0 (fun _ => False) sb Sg.s4 (0 + 1 + 1 + 1 + 1) z' ∧ Moves w (fun _ => False) z6 z') from h7')
  clear c6 h7'
  go_wp2_with fail
  (with_reducible refine (h7.out).mono ?_)
  rintro _ z7 ⟨rfl, c7, m7⟩
  clear h7 m7
  obtain ⟨x7, e7, g7⟩ := c7.st
  have h8' := sNumbers_c g7
  rw [e7, show numI Sg.s4 = [1] by unfold numI; rw [Sg.n4]; rfl] at h8'
  have h8 := Lib.hid h8'
  have C7 := Lib.hid c7
  clear c7 h8' e7 g7
  go_wp2_with fail
  (with_reducible refine (h8.out).mono ?_)
  rintro _ z8 ⟨v8, rfl, ho8, u8⟩
  clear h8
  rcases ho8.2 with ⟨rfl, hn8⟩ | ⟨g8, cap8, cur8, rfl, hbg8, _⟩
  · exact absurd hn8 (by decide)
  have hs8 := C7.out.nw0.size
  have hg8 := ho8.lt g8 rfl
  have c8 : CS w db 0 (fun k => k = g8) sb Sg.s4 (0 + 1 + 1 + 1 + 1) z8 := C7.out.keep u8 (fun k hk => Or.inr (by rw [hk]; exact hg8))
  have h9' := putC G.out c8 hf (by omega) (t := [97]) (by decide) Sg.f4
  rw [show ((Sg.s4.th.length : Nat) : Int) = 2 by rw [Sg.l4]; rfl, show Sg.after Sg.s4 (.put [97]) = Sg.s5 from rfl] at h9'
  have h9 := Lib.hid h9'
  have HO8 := Lib.hid ho8
  clear C7 u8 h9' ho8 c8
  go_wp2_with fail
  (with_reducible refine (h9.out).mono ?_)
  rintro _ z9 ⟨rfl, c9, m9⟩
  clear h9
  have HO9 := Lib.hid (owns_upd' HO8.out m9 (fun k hk e => e.1 (by simpa [Value.ownBlock] using hk.symm)))
  have hz9 := c9.nw0.size
  have h10 := Lib.hid (profile_c [120] 0 z9 (by omega))
  have C9 := Lib.hid c9
  clear c9 m9 HO8
  go_wp2_with fail
  (with_reducible refine (h10.out).mono ?_)
  rintro _ z10 ⟨v10, rfl, hv10, u10⟩
  clear h10
  have h11 := Lib.hid (setN G.out (C9.out.nw u10) (by omega) (p := ⟨[120], [geo 0]⟩) Sg.r0 (show ([geo 0].all fun x => Sg.there Sg.s5 x.pr) = false by decide) hv10 (fun x hx => by rw [List.mem_singleton.1 hx]; exact geoArg 0 i0))
  have HO10 := Lib.hid (owns_upd' HO9.out u10 (fun _ _ e => e))
  clear hv10 u10 C9 HO9
  go_wp2_with fail
  (with_reducible refine (h11.out).mono ?_)
  rintro _ z11 ⟨rfl, c11, m11⟩
  clear h11
  have HO11 := owns_upd' HO10.out m11 (fun k hk e => e.1 (by simpa [Value.ownBlock] using hk.symm))
  have d8 := HO11.cells (g := g8) rfl 0 (.int .i64 1) rfl
  rw [add_plain] at d8
  have HN := Lib.hid c11.nw0
  obtain ⟨x11, e11, g11⟩ := c11.st
  have h12' := sText_c g11 i1
  rw [e11, show Sg.there Sg.s5 1 = true from Sg.t51] at h12'
  have h12 := Lib.hid (show Calls Tryz.prog 22 #[.pointer (some ⟨sb, 0, none⟩), .int .i64 1] z11 (fun e z' => e = .returned (.tuple #[.string ⟨#[98]⟩, .bool true]) ∧ z11 = z') from h12')
  clear c11 m11 HO11 h12' e11 g11 HO10
  go_wp2_with fail
  (with_reducible refine (h12.out).mono ?_)
  rintro _ _ ⟨rfl, rfl⟩
  clear h12
  go_wp2_with fail
  go_ret
  exact ⟨rfl, HN.out⟩
end Go.Proofs.YtkldcnikeoofiaaGreatDoor
namespace Go.Proofs.YtkldcnikeoofiaaGreatDoor
open Go.RowKit
set_option linter.unusedVariables false
set_option linter.unusedSimpArgs false

/-- The blocks that hold a loop, in the order of the text. -/
def loopBlocks : Code → List Code
  | .block i (.loop c) => .block i (.loop c) :: loopBlocks c
  | .block _ c => loopBlocks c
  | .loop c => loopBlocks c
  | .seq a b => loopBlocks a ++ loopBlocks b
  | .scope c => loopBlocks c
  | .cond _ a b => loopBlocks a ++ loopBlocks b
  | _ => []
noncomputable def loopAt (f : Func) (k : Nat) : Code := ((f.body.map fun c => ((loopBlocks c)[k]?).getD .skip).getD .skip)
/-- A loop that is not left early. -/
theorem wp_normal {P : Program} {c : Code} {Q : Exit → Act → World → Prop} {a : Act} {w : World} (h : Code.wp P c (Exit.then (fun a w => Q .normal a w) (fun _ _ _ => False)) a w) : Code.wp P c Q a w :=
  Code.wp_mono (fun e a w h => by cases e <;> first | exact h | exact h.elim) h
end Go.Proofs.YtkldcnikeoofiaaGreatDoor
namespace Go.Proofs.YtkldcnikeoofiaaGreatDoor
open Go.RowKit
set_option linter.unusedVariables false
set_option linter.unusedSimpArgs false
attribute [local irreducible] Calls CallsIn

theorem numI_at {S : Sg.Sta} {k : Nat} (h : k < (numI S).length) : ∃ i : Nat, (numI S)[k] = (i : Int) ∧ Sg.thereN S i = true := by
  obtain ⟨i, hi, e⟩ := List.mem_map.1 (List.getElem_mem h)
  exact ⟨i, e.symm, mem_numbers.1 hi⟩
theorem numI_lt {S : Sg.Sta} {k : Nat} (h : k + 1 < (numI S).length) : (numI S)[k]'(by omega) < (numI S)[k + 1] := by
  have hp : (numI S).Pairwise (· < ·) := List.pairwise_map.2 ((numbers_asc S).imp fun h => by omega)
  exact List.pairwise_iff_getElem.1 hp k (k + 1) (by omega) h (by omega)
set_option maxHeartbeats 8000000 in
set_option maxRecDepth 100000 in
theorem sk_nums {B B2 : Nat} {z : World} {x : SgR} {S : Sg.Sta} (h : SgAt B z x S) {gb cap : Nat} (ho : z.ownsRow B2 3 1 (.slice (some ⟨gb, 0, none⟩) (numI S).length cap) (numI S).length ((numI S).map intD))
    (K0 : Act → World → Prop) { c0 c1 c3 c4 c6 c7 c8 c15 c16 c17 c18 c19 c20 c21 c22 c23 c24 c25 c26 c27 c28 c29 c30 c31 c32 c33 c34 c35 c36 c37 c38 c39 c40 c41 c42 c43 c44 c45 c46 c47 c48 c49 c50 c51 c52 c53 c54 c55 c56 c57 c58 c59 c60 c61 c62 c63 c64 c65 c66 c67 c68 c69 c70 c71 c72 c73 c125 c126 c127 c128 c129 c130 c131 c132 c133 c134 c135 c136 c137 c138 c139 c140 c141 c142 c143 c144 c145 c146 c147 c148 c149 c150 c151 c152 c153 c154 c155 c156 c157 c158 c159 c160 c161 c162 c163 c164 c165 c166 c167 c168 c169 c170 c171 c172 c173 c174 c175 c176 c177 c178 c179 c180 c181 c182 c183 c184 c185 c186 c187 c188 c189 c190 c191 c192 c193 : Value} { u2 u11 u12 u13 u14 u74 u75 u76 u77 u78 u79 u80 u81 u82 u83 u84 u85 u86 u87 u88 u89 u90 u91 u92 u93 u94 u95 u96 u97 u98 u99 u100 u101 u102 u103 u104 u105 u106 u107 u108 u109 u110 u111 u112 u113 u114 u115 u116 u117 u118 u119 u120 u121 u122 u123 u124 : Value} {c : Code} (hc : loopAt Tryz.f5 1 = c)
    (hexit : ∀ (u2 u11 u12 u13 u14 u74 u75 u76 u77 u78 u79 u80 u81 u82 u83 u84 u85 u86 u87 u88 u89 u90 u91 u92 u93 u94 u95 u96 u97 u98 u99 u100 u101 u102 u103 u104 u105 u106 u107 u108 u109 u110 u111 u112 u113 u114 u115 u116 u117 u118 u119 u120 u121 u122 u123 u124 : Value) (w' : World), Nw z w' → K0 ⟨(List.toArray (c0 :: c1 :: u2 :: c3 :: c4 :: (.pointer (some ⟨x.sb, 0, none⟩)) :: c6 :: c7 :: c8 :: (.slice (some ⟨gb, 0, none⟩) (numI S).length cap) :: (.int .i64 ((numI S).length : Int)) :: u11 :: u12 :: u13 :: u14 :: c15 :: c16 :: c17 :: c18 :: c19 :: c20 :: c21 :: c22 :: c23 :: c24 :: c25 :: c26 :: c27 :: c28 :: c29 :: c30 :: c31 :: c32 :: c33 :: c34 :: c35 :: c36 :: c37 :: c38 :: c39 :: c40 :: c41 :: c42 :: c43 :: c44 :: c45 :: c46 :: c47 :: c48 :: c49 :: c50 :: c51 :: c52 :: c53 :: c54 :: c55 :: c56 :: c57 :: c58 :: c59 :: c60 :: c61 :: c62 :: c63 :: c64 :: c65 :: c66 :: c67 :: c68 :: c69 :: c70 :: c71 :: c72 :: c73 :: u74 :: u75 :: u76 :: u77 :: u78 :: u79 :: u80 :: u81 :: u82 :: u83 :: u84 :: u85 :: u86 :: u87 :: u88 :: u89 :: u90 :: u91 :: u92 :: u93 :: u94 :: u95 :: u96 :: u97 :: u98 :: u99 :: u100 :: u101 :: u102 :: u103 :: u104 :: u105 :: u106 :: u107 :: u108 :: u109 :: u110 :: u111 :: u112 :: u113 :: u114 :: u115 :: u116 :: u117 :: u118 :: u119 :: u120 :: u121 :: u122 :: u123 :: u124 :: c125 :: c126 :: c127 :: c128 :: c129 :: c130 :: c131 :: c132 :: c133 :: c134 :: c135 :: c136 :: c137 :: c138 :: c139 :: c140 :: c141 :: c142 :: c143 :: c144 :: c145 :: c146 :: c147 :: c148 :: c149 :: c150 :: c151 :: c152 :: c153 :: c154 :: c155 :: c156 :: c157 :: c158 :: c159 :: c160 :: c161 :: c162 :: c163 :: c164 :: c165 :: c166 :: c167 :: c168 :: c169 :: c170 :: c171 :: c172 :: c173 :: c174 :: c175 :: c176 :: c177 :: c178 :: c179 :: c180 :: c181 :: c182 :: c183 :: c184 :: c185 :: c186 :: c187 :: c188 :: c189 :: c190 :: c191 :: c192 :: c193 :: [])), []⟩ w') :
    Code.wp Tryz.prog c (Exit.then K0 (fun _ _ _ => False)) ⟨(List.toArray (c0 :: c1 :: u2 :: c3 :: c4 :: (.pointer (some ⟨x.sb, 0, none⟩)) :: c6 :: c7 :: c8 :: (.slice (some ⟨gb, 0, none⟩) (numI S).length cap) :: (.int .i64 0) :: u11 :: u12 :: u13 :: u14 :: c15 :: c16 :: c17 :: c18 :: c19 :: c20 :: c21 :: c22 :: c23 :: c24 :: c25 :: c26 :: c27 :: c28 :: c29 :: c30 :: c31 :: c32 :: c33 :: c34 :: c35 :: c36 :: c37 :: c38 :: c39 :: c40 :: c41 :: c42 :: c43 :: c44 :: c45 :: c46 :: c47 :: c48 :: c49 :: c50 :: c51 :: c52 :: c53 :: c54 :: c55 :: c56 :: c57 :: c58 :: c59 :: c60 :: c61 :: c62 :: c63 :: c64 :: c65 :: c66 :: c67 :: c68 :: c69 :: c70 :: c71 :: c72 :: c73 :: u74 :: u75 :: u76 :: u77 :: u78 :: u79 :: u80 :: u81 :: u82 :: u83 :: u84 :: u85 :: u86 :: u87 :: u88 :: u89 :: u90 :: u91 :: u92 :: u93 :: u94 :: u95 :: u96 :: u97 :: u98 :: u99 :: u100 :: u101 :: u102 :: u103 :: u104 :: u105 :: u106 :: u107 :: u108 :: u109 :: u110 :: u111 :: u112 :: u113 :: u114 :: u115 :: u116 :: u117 :: u118 :: u119 :: u120 :: u121 :: u122 :: u123 :: u124 :: c125 :: c126 :: c127 :: c128 :: c129 :: c130 :: c131 :: c132 :: c133 :: c134 :: c135 :: c136 :: c137 :: c138 :: c139 :: c140 :: c141 :: c142 :: c143 :: c144 :: c145 :: c146 :: c147 :: c148 :: c149 :: c150 :: c151 :: c152 :: c153 :: c154 :: c155 :: c156 :: c157 :: c158 :: c159 :: c160 :: c161 :: c162 :: c163 :: c164 :: c165 :: c166 :: c167 :: c168 :: c169 :: c170 :: c171 :: c172 :: c173 :: c174 :: c175 :: c176 :: c177 :: c178 :: c179 :: c180 :: c181 :: c182 :: c183 :: c184 :: c185 :: c186 :: c187 :: c188 :: c189 :: c190 :: c191 :: c192 :: c193 :: [])), []⟩ z := by
  subst hc
  have H := Lib.hid h
  have HO := Lib.hid ho
  have HEX := Lib.hid hexit
  have hl1 : ((numI S).length : Int) ≤ 1000 := by
    have h1 := numbers_len S
    have h2 := h.big
    unfold Sg.big at h2
    unfold numI
    rw [List.length_map]; omega
  clear h ho hexit
  conv => arg 2; whnf
  go_wp2_with fail
  go_loopw [10] (fun iv wr => ∃ k : Nat, k ≤ (numI S).length ∧ iv = .int .i64 (k : Int) ∧ Hid (Nw z wr)) (fun iv _ => (numI S).length - (intOf iv).toNat)
  case atStart => exact ⟨0, Nat.zero_le _, rfl, Upd.refl _ _⟩
  case round =>
    obtain ⟨k, hk, rfl, hu⟩ := hrel
    by_cases hlt : k < (numI S).length
    · obtain ⟨i, hi, hth⟩ := numI_at hlt
      have hst := H.out.nw hu.out
      have hlti := Sg.thereN_lt hth
      have hbig := hst.big
      unfold Sg.big at hbig
      have hown := owns_upd' HO.out hu.out (fun _ _ e => e)
      have hcell := hown.cells (g := gb) rfl k (.int .i64 (i : Int)) (by rw [List.getElem?_map, List.getElem?_eq_getElem hlt, hi]; rfl)
      rw [add_plain, Nat.zero_add] at hcell
      have hT := sText_c hst (n := (i : Int)) (by unfold I64; omega)
      rw [show Sg.there S (i : Int) = true by unfold Sg.there; rw [Int.toNat_natCast, hth]; simp, if_pos rfl, Int.toNat_natCast] at hT
      have hFi := sFind_c hst (t := Sg.textN S i) (by have := text_len hst i; omega)
      rw [Sg.find_there hst.g hth] at hFi
      have hFi' : Calls Tryz.prog 25 #[.pointer (some ⟨x.sb, 0, none⟩), bsV (Sg.textN S i)] wr fun e z' => e = .returned (.tuple #[.int .i64 (i : Int), .bool true]) ∧ wr = z' := hFi
      have hprev : ∀ m, m + 1 = k → ∃ i' : Int, i' < (i : Int) ∧ wr.cell? ⟨gb, m, none⟩ = some (.int .i64 i') := fun m hm => by
        subst hm
        have h1 := numI_lt hlt
        rw [hi] at h1
        have h2 := hown.cells (g := gb) rfl m (.int .i64 ((numI S)[m]'(by omega))) (by rw [List.getElem?_map, List.getElem?_eq_getElem (by omega)]; rfl)
        rw [add_plain, Nat.zero_add] at h2
        exact ⟨_, h1, h2⟩
      unfold bsV at hT hFi'
      generalize (⟨(Sg.textN S i).toArray⟩ : ByteArray) = tt at hT hFi'
      have HT := Lib.hid hT
      have HF := Lib.hid hFi'
      have HLt := Lib.hid hlt
      have HPv := Lib.hid hprev
      obtain ⟨wd, hwd, nd⟩ := nw_drew wr
      have hcd := nw_cellS nd hcell
      clear hst hlti hbig hown hT hFi hFi' hprev hth hi
      rcases Nat.eq_zero_or_pos k with h0 | h0
      · have d6 : decide (0 < k) = false := decide_eq_false (by omega)
        clear h0
        go_upto_region 25 with (first | (go_at_call 22; with_reducible refine HT.out.mono ?_; rintro _ _ ⟨rfl, rfl⟩) | (go_at_call 25; with_reducible refine HF.out.mono ?_; rintro _ _ ⟨rfl, rfl⟩))
        have l0 : ∀ j : Later wr, j.1.cell? ⟨gb, k, none⟩ = some (.int .i64 (i : Int)) := fun j => nw_cellS j.nw hcell
        refine wp_region_nw (by kernel_rfl) (by kernel_rfl) ?_
        repeat (go_big_quiet_step ((fail)))
        refine wpQuiet_nil ?_
        intro w5 u5
        replace u5 := later_out u5
        go_wp2_with fail
        go_roundw
        case rel => exact ⟨k + 1, HLt.out, by simp, hu.out.trans u5⟩
        case measure =>
          have := HLt.out
          simp only [intOf]
          omega
      · obtain ⟨m, hm⟩ : ∃ m, m + 1 = k := ⟨k - 1, by omega⟩
        obtain ⟨i', hii, hpc⟩ := HPv.out m hm
        have d6 : decide (0 < k) = true := decide_eq_true (by omega)
        have hik : (k : Int) - 1 = (m : Int) := by omega
        have d7 : decide ((i : Int) ≤ i') = false := decide_eq_false (by omega)
        clear hm h0 hii
        go_upto_region 25 with (first | (go_at_call 22; with_reducible refine HT.out.mono ?_; rintro _ _ ⟨rfl, rfl⟩) | (go_at_call 25; with_reducible refine HF.out.mono ?_; rintro _ _ ⟨rfl, rfl⟩))
        have l0 : ∀ j : Later wr, j.1.cell? ⟨gb, k, none⟩ = some (.int .i64 (i : Int)) := fun j => nw_cellS j.nw hcell
        have l1 : ∀ j : Later wr, j.1.cell? ⟨gb, m, none⟩ = some (.int .i64 i') := fun j => nw_cellS j.nw hpc
        refine wp_region_nw (by kernel_rfl) (by kernel_rfl) ?_
        repeat (go_big_quiet_step ((fail)))
        refine wpQuiet_nil ?_
        intro w5 u5
        replace u5 := later_out u5
        go_wp2_with fail
        go_roundw
        case rel => exact ⟨k + 1, HLt.out, by simp, hu.out.trans u5⟩
        case measure =>
          have := HLt.out
          simp only [intOf]
          omega
    · obtain rfl : k = (numI S).length := by omega
      have HU := Lib.hid hu.out
      clear hu hlt hk
      go_wp2_with fail
      exact HEX.out _ _ _ _ _ _ _ _ _ _ _ _ _ _ _ _ _ _ _ _ _ _ _ _ _ _ _ _ _ _ _ _ _ _ _ _ _ _ _ _ _ _ _ _ _ _ _ _ _ _ _ _ _ _ _ _ _ HU.out
set_option maxHeartbeats 8000000 in
set_option maxRecDepth 100000 in
theorem sk_items {B B2 : Nat} {z : World} {x : SgR} {S : Sg.Sta} (h : SgAt B z x S) {xb : Nat} {v : Value} {its : List Sg.It} (hb : z.cell? ⟨xb, 1, none⟩ = some v) (ho : z.ownsRow B2 tPl 5 v its.length (itL its)) (hl : its.length ≤ 60) (hi : ∀ y ∈ its, Sg.there S y.pr = true)
    (K0 : Act → World → Prop) { c0 c1 c3 c4 c6 c7 c8 c9 c10 c11 c12 c13 c14 c15 c16 c18 c22 c23 c24 c25 c26 c27 c28 c29 c30 c31 c32 c33 c34 c35 c36 c37 c38 c39 c40 c41 c42 c43 c44 c45 c46 c47 c48 c49 c50 c51 c52 c53 c54 c55 c56 c57 c58 c59 c60 c61 c62 c63 c64 c65 c66 c67 c68 c69 c70 c71 c72 c73 c74 c75 c76 c77 c78 c79 c80 c81 c82 c83 c84 c85 c86 c87 c88 c89 c90 c91 c92 c93 c94 c95 c96 c97 c98 c99 c100 c101 c102 c103 c104 c105 c106 c107 c108 c109 c110 c111 c112 c113 c114 c115 c116 c117 c118 c119 c120 c121 c122 c123 c124 c125 c126 c127 c128 c129 c130 c131 c132 c133 c134 c135 c136 c137 c138 c139 c140 c141 c142 c143 c144 c145 c146 c147 c148 c149 c150 c151 c152 c153 c154 c155 c156 c157 c158 c159 c160 c161 c162 c163 c164 c165 c166 c167 c168 c189 c190 c191 c192 c193 : Value} { u2 u20 u21 u169 u170 u171 u172 u173 u174 u175 u176 u177 u178 u179 u180 u181 u182 u183 u184 u185 u186 u187 u188 : Value} {c : Code} (hc : loopAt Tryz.f5 3 = c)
    (hexit : ∀ (u2 u20 u21 u169 u170 u171 u172 u173 u174 u175 u176 u177 u178 u179 u180 u181 u182 u183 u184 u185 u186 u187 u188 : Value) (w' : World), Nw z w' → K0 ⟨(List.toArray (c0 :: c1 :: u2 :: c3 :: c4 :: (.pointer (some ⟨x.sb, 0, none⟩)) :: c6 :: c7 :: c8 :: c9 :: c10 :: c11 :: c12 :: c13 :: c14 :: c15 :: c16 :: (.pointer (some ⟨xb, 0, none⟩)) :: c18 :: (.int .i64 (its.length : Int)) :: u20 :: u21 :: c22 :: c23 :: c24 :: c25 :: c26 :: c27 :: c28 :: c29 :: c30 :: c31 :: c32 :: c33 :: c34 :: c35 :: c36 :: c37 :: c38 :: c39 :: c40 :: c41 :: c42 :: c43 :: c44 :: c45 :: c46 :: c47 :: c48 :: c49 :: c50 :: c51 :: c52 :: c53 :: c54 :: c55 :: c56 :: c57 :: c58 :: c59 :: c60 :: c61 :: c62 :: c63 :: c64 :: c65 :: c66 :: c67 :: c68 :: c69 :: c70 :: c71 :: c72 :: c73 :: c74 :: c75 :: c76 :: c77 :: c78 :: c79 :: c80 :: c81 :: c82 :: c83 :: c84 :: c85 :: c86 :: c87 :: c88 :: c89 :: c90 :: c91 :: c92 :: c93 :: c94 :: c95 :: c96 :: c97 :: c98 :: c99 :: c100 :: c101 :: c102 :: c103 :: c104 :: c105 :: c106 :: c107 :: c108 :: c109 :: c110 :: c111 :: c112 :: c113 :: c114 :: c115 :: c116 :: c117 :: c118 :: c119 :: c120 :: c121 :: c122 :: c123 :: c124 :: c125 :: c126 :: c127 :: c128 :: c129 :: c130 :: c131 :: c132 :: c133 :: c134 :: c135 :: c136 :: c137 :: c138 :: c139 :: c140 :: c141 :: c142 :: c143 :: c144 :: c145 :: c146 :: c147 :: c148 :: c149 :: c150 :: c151 :: c152 :: c153 :: c154 :: c155 :: c156 :: c157 :: c158 :: c159 :: c160 :: c161 :: c162 :: c163 :: c164 :: c165 :: c166 :: c167 :: c168 :: u169 :: u170 :: u171 :: u172 :: u173 :: u174 :: u175 :: u176 :: u177 :: u178 :: u179 :: u180 :: u181 :: u182 :: u183 :: u184 :: u185 :: u186 :: u187 :: u188 :: c189 :: c190 :: c191 :: c192 :: c193 :: [])), []⟩ w') :
    Code.wp Tryz.prog c (Exit.then K0 (fun _ _ _ => False)) ⟨(List.toArray (c0 :: c1 :: u2 :: c3 :: c4 :: (.pointer (some ⟨x.sb, 0, none⟩)) :: c6 :: c7 :: c8 :: c9 :: c10 :: c11 :: c12 :: c13 :: c14 :: c15 :: c16 :: (.pointer (some ⟨xb, 0, none⟩)) :: c18 :: (.int .i64 0) :: u20 :: u21 :: c22 :: c23 :: c24 :: c25 :: c26 :: c27 :: c28 :: c29 :: c30 :: c31 :: c32 :: c33 :: c34 :: c35 :: c36 :: c37 :: c38 :: c39 :: c40 :: c41 :: c42 :: c43 :: c44 :: c45 :: c46 :: c47 :: c48 :: c49 :: c50 :: c51 :: c52 :: c53 :: c54 :: c55 :: c56 :: c57 :: c58 :: c59 :: c60 :: c61 :: c62 :: c63 :: c64 :: c65 :: c66 :: c67 :: c68 :: c69 :: c70 :: c71 :: c72 :: c73 :: c74 :: c75 :: c76 :: c77 :: c78 :: c79 :: c80 :: c81 :: c82 :: c83 :: c84 :: c85 :: c86 :: c87 :: c88 :: c89 :: c90 :: c91 :: c92 :: c93 :: c94 :: c95 :: c96 :: c97 :: c98 :: c99 :: c100 :: c101 :: c102 :: c103 :: c104 :: c105 :: c106 :: c107 :: c108 :: c109 :: c110 :: c111 :: c112 :: c113 :: c114 :: c115 :: c116 :: c117 :: c118 :: c119 :: c120 :: c121 :: c122 :: c123 :: c124 :: c125 :: c126 :: c127 :: c128 :: c129 :: c130 :: c131 :: c132 :: c133 :: c134 :: c135 :: c136 :: c137 :: c138 :: c139 :: c140 :: c141 :: c142 :: c143 :: c144 :: c145 :: c146 :: c147 :: c148 :: c149 :: c150 :: c151 :: c152 :: c153 :: c154 :: c155 :: c156 :: c157 :: c158 :: c159 :: c160 :: c161 :: c162 :: c163 :: c164 :: c165 :: c166 :: c167 :: c168 :: u169 :: u170 :: u171 :: u172 :: u173 :: u174 :: u175 :: u176 :: u177 :: u178 :: u179 :: u180 :: u181 :: u182 :: u183 :: u184 :: u185 :: u186 :: u187 :: u188 :: c189 :: c190 :: c191 :: c192 :: c193 :: [])), []⟩ z := by
  subst hc
  obtain ⟨va, vc, rfl⟩ := own_slS ho
  have H := Lib.hid h
  have HO := Lib.hid ho
  have HB := Lib.hid hb
  have HI := Lib.hid hi
  have HEX := Lib.hid hexit
  have hl1 : (its.length : Int) ≤ 60 := by omega
  clear h ho hexit hb hi
  conv => arg 2; whnf
  go_wp2_with fail
  go_loopw [19] (fun iv wr => ∃ k : Nat, k ≤ its.length ∧ iv = .int .i64 (k : Int) ∧ Hid (Nw z wr)) (fun iv _ => its.length - (intOf iv).toNat)
  case atStart => exact ⟨0, Nat.zero_le _, rfl, Upd.refl _ _⟩
  case round =>
    obtain ⟨k, hk, rfl, hu⟩ := hrel
    have hbw := nw_cellS hu.out HB.out
    by_cases hlt : k < its.length
    · have hth := HI.out _ (List.getElem_mem hlt)
      have hst := H.out.nw hu.out
      have hown := owns_upd' HO.out hu.out (fun _ _ e => e)
      rcases hown.2 with ⟨e, hn⟩ | ⟨g, cap, cur, e, _⟩
      · omega
      cases e
      obtain ⟨d0, d1, d2, d3, d4⟩ := cells5 hown k hlt
      have h64 := there_i64 hst hth
      generalize its[k].pr = pr at *
      have hT := sText_c hst (n := pr) (by unfold I64; omega)
      rw [hth, if_pos rfl] at hT
      generalize bsV (Sg.textN S pr.toNat) = tv at hT
      have HT := Lib.hid hT
      have HLt := Lib.hid hlt
      clear hst hown hT d0 d1 d2 d3 hth h64
      go_wp2_with (first | (go_at_call 22; with_reducible refine HT.out.mono ?_; rintro _ _ ⟨rfl, rfl⟩))
      go_roundw
      case rel => exact ⟨k + 1, HLt.out, by simp, hu⟩
      case measure =>
        have := HLt.out
        simp only [intOf]
        omega
    · obtain rfl : k = its.length := by omega
      have HU := Lib.hid hu.out
      clear hu hlt hk
      go_wp2_with fail
      exact HEX.out _ _ _ _ _ _ _ _ _ _ _ _ _ _ _ _ _ _ _ _ _ _ _ _ HU.out
end Go.Proofs.YtkldcnikeoofiaaGreatDoor
namespace Go.Proofs.YtkldcnikeoofiaaGreatDoor
open Go.RowKit
set_option linter.unusedVariables false
set_option linter.unusedSimpArgs false
attribute [local irreducible] Calls CallsIn

/-- '<=' the other way around. -/
theorem sk_bl {a b : List UInt8} (h : Op.bytesLess b a = true) : Op.bytesLess a b = false ∧ (a == b) = false := by
  refine ⟨?_, ?_⟩
  · cases hc : Op.bytesLess a b with
    | false => rfl
    | true => have := Fm.lt_trans h hc; rw [Fm.lt_irr] at this; cases this
  · cases hc : (a == b) with
    | false => rfl
    | true =>
      obtain rfl := beq_iff_eq.1 hc
      rw [show Op.bytesLess a a = false from Fm.lt_irr a] at h; cases h

set_option maxHeartbeats 8000000 in
set_option maxRecDepth 100000 in
theorem sk_profs {B B2 : Nat} {z : World} {x : SgR} {S : Sg.Sta} (h : SgAt B z x S) {gb cap : Nat} (ho : z.ownsRow B2 9 1 (.slice (some ⟨gb, 0, none⟩) (nmsS S).length cap) (nmsS S).length ((nmsS S).map bsV))
    (K0 : Act → World → Prop) { c0 c1 c3 c4 c6 c7 c8 c9 c10 c11 c12 c13 c14 c22 c23 c24 c25 c26 c27 c28 c29 c30 c31 c32 c33 c34 c35 c36 c37 c38 c39 c40 c41 c42 c43 c44 c45 c46 c47 c48 c49 c50 c51 c52 c53 c54 c55 c56 c57 c58 c59 c60 c61 c62 c63 c64 c65 c66 c67 c68 c69 c70 c71 c72 c73 c74 c75 c76 c77 c78 c79 c80 c81 c82 c83 c84 c85 c86 c87 c88 c89 c90 c91 c92 c93 c94 c95 c96 c97 c98 c99 c100 c101 c102 c103 c104 c105 c106 c107 c108 c109 c110 c111 c112 c113 c114 c115 c116 c117 c118 c119 c120 c121 c122 c123 c124 c125 c126 c189 c190 c191 c192 c193 : Value} { u2 u17 u18 u19 u20 u21 u127 u128 u129 u130 u131 u132 u133 u134 u135 u136 u137 u138 u139 u140 u141 u142 u143 u144 u145 u146 u147 u148 u149 u150 u151 u152 u153 u154 u155 u156 u157 u158 u159 u160 u161 u162 u163 u164 u165 u166 u167 u168 u169 u170 u171 u172 u173 u174 u175 u176 u177 u178 u179 u180 u181 u182 u183 u184 u185 u186 u187 u188 : Value} {c : Code} (hc : loopAt Tryz.f5 2 = c)
    (hexit : ∀ (u2 u17 u18 u19 u20 u21 u127 u128 u129 u130 u131 u132 u133 u134 u135 u136 u137 u138 u139 u140 u141 u142 u143 u144 u145 u146 u147 u148 u149 u150 u151 u152 u153 u154 u155 u156 u157 u158 u159 u160 u161 u162 u163 u164 u165 u166 u167 u168 u169 u170 u171 u172 u173 u174 u175 u176 u177 u178 u179 u180 u181 u182 u183 u184 u185 u186 u187 u188 : Value) (w' : World), Nw z w' → K0 ⟨(List.toArray (c0 :: c1 :: u2 :: c3 :: c4 :: (.pointer (some ⟨x.sb, 0, none⟩)) :: c6 :: c7 :: c8 :: c9 :: c10 :: c11 :: c12 :: c13 :: c14 :: (.slice (some ⟨gb, 0, none⟩) (nmsS S).length cap) :: (.int .i64 ((nmsS S).length : Int)) :: u17 :: u18 :: u19 :: u20 :: u21 :: c22 :: c23 :: c24 :: c25 :: c26 :: c27 :: c28 :: c29 :: c30 :: c31 :: c32 :: c33 :: c34 :: c35 :: c36 :: c37 :: c38 :: c39 :: c40 :: c41 :: c42 :: c43 :: c44 :: c45 :: c46 :: c47 :: c48 :: c49 :: c50 :: c51 :: c52 :: c53 :: c54 :: c55 :: c56 :: c57 :: c58 :: c59 :: c60 :: c61 :: c62 :: c63 :: c64 :: c65 :: c66 :: c67 :: c68 :: c69 :: c70 :: c71 :: c72 :: c73 :: c74 :: c75 :: c76 :: c77 :: c78 :: c79 :: c80 :: c81 :: c82 :: c83 :: c84 :: c85 :: c86 :: c87 :: c88 :: c89 :: c90 :: c91 :: c92 :: c93 :: c94 :: c95 :: c96 :: c97 :: c98 :: c99 :: c100 :: c101 :: c102 :: c103 :: c104 :: c105 :: c106 :: c107 :: c108 :: c109 :: c110 :: c111 :: c112 :: c113 :: c114 :: c115 :: c116 :: c117 :: c118 :: c119 :: c120 :: c121 :: c122 :: c123 :: c124 :: c125 :: c126 :: u127 :: u128 :: u129 :: u130 :: u131 :: u132 :: u133 :: u134 :: u135 :: u136 :: u137 :: u138 :: u139 :: u140 :: u141 :: u142 :: u143 :: u144 :: u145 :: u146 :: u147 :: u148 :: u149 :: u150 :: u151 :: u152 :: u153 :: u154 :: u155 :: u156 :: u157 :: u158 :: u159 :: u160 :: u161 :: u162 :: u163 :: u164 :: u165 :: u166 :: u167 :: u168 :: u169 :: u170 :: u171 :: u172 :: u173 :: u174 :: u175 :: u176 :: u177 :: u178 :: u179 :: u180 :: u181 :: u182 :: u183 :: u184 :: u185 :: u186 :: u187 :: u188 :: c189 :: c190 :: c191 :: c192 :: c193 :: [])), []⟩ w') :
    Code.wp Tryz.prog c (Exit.then K0 (fun _ _ _ => False)) ⟨(List.toArray (c0 :: c1 :: u2 :: c3 :: c4 :: (.pointer (some ⟨x.sb, 0, none⟩)) :: c6 :: c7 :: c8 :: c9 :: c10 :: c11 :: c12 :: c13 :: c14 :: (.slice (some ⟨gb, 0, none⟩) (nmsS S).length cap) :: (.int .i64 0) :: u17 :: u18 :: u19 :: u20 :: u21 :: c22 :: c23 :: c24 :: c25 :: c26 :: c27 :: c28 :: c29 :: c30 :: c31 :: c32 :: c33 :: c34 :: c35 :: c36 :: c37 :: c38 :: c39 :: c40 :: c41 :: c42 :: c43 :: c44 :: c45 :: c46 :: c47 :: c48 :: c49 :: c50 :: c51 :: c52 :: c53 :: c54 :: c55 :: c56 :: c57 :: c58 :: c59 :: c60 :: c61 :: c62 :: c63 :: c64 :: c65 :: c66 :: c67 :: c68 :: c69 :: c70 :: c71 :: c72 :: c73 :: c74 :: c75 :: c76 :: c77 :: c78 :: c79 :: c80 :: c81 :: c82 :: c83 :: c84 :: c85 :: c86 :: c87 :: c88 :: c89 :: c90 :: c91 :: c92 :: c93 :: c94 :: c95 :: c96 :: c97 :: c98 :: c99 :: c100 :: c101 :: c102 :: c103 :: c104 :: c105 :: c106 :: c107 :: c108 :: c109 :: c110 :: c111 :: c112 :: c113 :: c114 :: c115 :: c116 :: c117 :: c118 :: c119 :: c120 :: c121 :: c122 :: c123 :: c124 :: c125 :: c126 :: u127 :: u128 :: u129 :: u130 :: u131 :: u132 :: u133 :: u134 :: u135 :: u136 :: u137 :: u138 :: u139 :: u140 :: u141 :: u142 :: u143 :: u144 :: u145 :: u146 :: u147 :: u148 :: u149 :: u150 :: u151 :: u152 :: u153 :: u154 :: u155 :: u156 :: u157 :: u158 :: u159 :: u160 :: u161 :: u162 :: u163 :: u164 :: u165 :: u166 :: u167 :: u168 :: u169 :: u170 :: u171 :: u172 :: u173 :: u174 :: u175 :: u176 :: u177 :: u178 :: u179 :: u180 :: u181 :: u182 :: u183 :: u184 :: u185 :: u186 :: u187 :: u188 :: c189 :: c190 :: c191 :: c192 :: c193 :: [])), []⟩ z := by
  subst hc
  have H := Lib.hid h
  have HO := Lib.hid ho
  have HEX := Lib.hid hexit
  have hl1 : ((nmsS S).length : Int) ≤ 1000 := by
    have h2 := h.big
    unfold Sg.big at h2
    unfold nmsS
    rw [List.length_map]; omega
  have hnl : (nmsS S).length = S.pf.length := by unfold nmsS; rw [List.length_map]
  have HNl := Lib.hid hnl
  clear h ho hexit hnl
  conv => arg 2; whnf
  go_wp2_with fail
  go_loopw [16] (fun iv wr => ∃ k : Nat, k ≤ (nmsS S).length ∧ iv = .int .i64 (k : Int) ∧ Hid (Nw z wr)) (fun iv _ => (nmsS S).length - (intOf iv).toNat)
  case atStart => exact ⟨0, Nat.zero_le _, rfl, Upd.refl _ _⟩
  case round =>
    obtain ⟨k, hk, rfl, hu⟩ := hrel
    by_cases hlt : k < (nmsS S).length
    · have hkp : k < S.pf.length := by rw [← HNl.out]; exact hlt
      have hst := H.out.nw hu.out
      have hnm : (nmsS S)[k] = (S.pf[k]).nm := List.getElem_map _
      have hpm := List.getElem_mem hkp
      have hrt := right_len (hst.g.right _ hpm)
      have hits := hst.g.items _ hpm
      have hown := owns_upd' HO.out hu.out (fun _ _ e => e)
      have hcell := hown.cells (g := gb) rfl k (.string ⟨(S.pf[k]).nm.toArray⟩) (by rw [List.getElem?_map, List.getElem?_eq_getElem hlt, hnm]; rfl)
      rw [add_plain, Nat.zero_add] at hcell
      have hP := sProfile_c hst (nm := (S.pf[k]).nm) (by omega)
      rw [prof_mem hst.g hpm] at hP
      have hprev : ∀ m, m + 1 = k → ∃ pn : List UInt8, Op.bytesLess pn (S.pf[k]).nm = true ∧ wr.cell? ⟨gb, m, none⟩ = some (.string ⟨pn.toArray⟩) := fun m hm => by
        subst hm
        have h1 := List.pairwise_iff_getElem.1 hst.g.asc m (m + 1) (by omega) hkp (by omega)
        have h2 := hown.cells (g := gb) rfl m (.string ⟨(S.pf[m]'(by omega)).nm.toArray⟩) (by rw [List.getElem?_map, List.getElem?_eq_getElem (by omega), show (nmsS S)[m]'(by omega) = (S.pf[m]'(by omega)).nm from List.getElem_map _]; rfl)
        rw [add_plain, Nat.zero_add] at h2
        exact ⟨_, h1, h2⟩
      generalize S.pf[k] = p at *
      obtain ⟨nm, its⟩ := p
      dsimp only [Option.elim_some, Option.isSome_some] at *
      unfold bsV at hP
      have HP := Lib.hid hP
      have HSt := Lib.hid hst
      have HLt := Lib.hid hlt
      have HPv := Lib.hid hprev
      have HIt := Lib.hid (And.intro hrt.2.1 hits)
      clear hst hP hprev hown hrt hits hpm hnm hkp
      go_upto_region 31 with fail
      go_wp2_with fail
      (with_reducible refine (HP.out).mono ?_)
      rintro _ w4 ⟨v4, rfl, hv4, u4⟩
      obtain ⟨va, vc, rfl⟩ := own_slS hv4.1
      have n5 := nw_alloc w4 (.cells #[.string ⟨nm.toArray⟩, .slice va its.length vc] tPf)
      have b5 := heap_new w4 (.cells #[.string ⟨nm.toArray⟩, .slice va its.length vc] tPf)
      obtain ⟨w5, hw5⟩ : ∃ y, y = w4.alloc (.cells #[.string ⟨nm.toArray⟩, .slice va its.length vc] tPf) := ⟨_, rfl⟩
      rw [← hw5] at n5 b5
      have HU4 := Lib.hid u4
      have HN5 := Lib.hid n5
      have HB5 := Lib.hid b5
      have HV4 := Lib.hid hv4.1
      have HW5 := Lib.hid hw5
      have l0 : ∀ j : Later w5, j.1.cell? ⟨gb, k, none⟩ = some (.string ⟨nm.toArray⟩) := fun j => nw_cellS ((u4.trans n5).trans j.nw) hcell
      have l1 : ∀ j : Later w5, j.1.cell? ⟨w4.heap.size, 0, none⟩ = some (.string ⟨nm.toArray⟩) := fun j => by rw [cells_cell (Nw.keep j.nw b5)]; rfl
      clear u4 n5 b5 hv4 hw5 hcell
      rcases Nat.eq_zero_or_pos k with h0 | h0
      · have d6 : decide (0 < k) = false := decide_eq_false (by omega)
        clear h0
        go_upto_region 32 with fail
        rw [← HW5.out]
        refine wp_region_nw (by kernel_rfl) (by kernel_rfl) ?_
        repeat (go_big_quiet_step ((fail)))
        refine wpQuiet_nil ?_
        intro w6 u5
        replace u5 := later_out u5
        clear l0 l1
        have hx5 : w6.cell? ⟨w4.heap.size, 1, none⟩ = some (.slice va its.length vc) := by rw [cells_cell (Nw.keep u5 HB5.out)]; rfl
        go_upto_block 6 with fail
        refine wp_normal (sk_items (HSt.out.nw ((HU4.out.trans HN5.out).trans u5)) hx5 (owns_upd' HV4.out (HN5.out.trans u5) (fun _ _ e => e)) HIt.out.1 HIt.out.2 _ (by kernel_rfl) ?_)
        intro u2 u20 u21 u169 u170 u171 u172 u173 u174 u175 u176 u177 u178 u179 u180 u181 u182 u183 u184 u185 u186 u187 u188 w9 h9
        go_wp2_with fail
        go_roundw
        case rel => exact ⟨k + 1, HLt.out, by simp, ((hu.out.trans HU4.out).trans HN5.out).trans (u5.trans h9)⟩
        case measure =>
          have := HLt.out
          simp only [intOf]
          omega
      · obtain ⟨m, hm⟩ : ∃ m, m + 1 = k := ⟨k - 1, by omega⟩
        obtain ⟨pn, hii, hpc⟩ := HPv.out m hm
        have d6 : decide (0 < k) = true := decide_eq_true (by omega)
        have d7 := (sk_bl hii).1
        have d8 := (sk_bl hii).2
        have hik : (k : Int) - 1 = (m : Int) := by omega
        have l2 : ∀ j : Later w5, j.1.cell? ⟨gb, m, none⟩ = some (.string ⟨pn.toArray⟩) := fun j => nw_cellS ((HU4.out.trans HN5.out).trans j.nw) hpc
        clear hm h0 hpc
        go_upto_region 32 with fail
        rw [← HW5.out]
        refine wp_region_nw (by kernel_rfl) (by kernel_rfl) ?_
        repeat (go_big_quiet_step ((fail)))
        refine wpQuiet_nil ?_
        intro w6 u5
        replace u5 := later_out u5
        clear l0 l1 l2
        have hx5 : w6.cell? ⟨w4.heap.size, 1, none⟩ = some (.slice va its.length vc) := by rw [cells_cell (Nw.keep u5 HB5.out)]; rfl
        go_upto_block 6 with fail
        refine wp_normal (sk_items (HSt.out.nw ((HU4.out.trans HN5.out).trans u5)) hx5 (owns_upd' HV4.out (HN5.out.trans u5) (fun _ _ e => e)) HIt.out.1 HIt.out.2 _ (by kernel_rfl) ?_)
        intro u2 u20 u21 u169 u170 u171 u172 u173 u174 u175 u176 u177 u178 u179 u180 u181 u182 u183 u184 u185 u186 u187 u188 w9 h9
        go_wp2_with fail
        go_roundw
        case rel => exact ⟨k + 1, HLt.out, by simp, ((hu.out.trans HU4.out).trans HN5.out).trans (u5.trans h9)⟩
        case measure =>
          have := HLt.out
          simp only [intOf]
          omega
    · obtain hke : k = (nmsS S).length := by omega
      have HU := Lib.hid hu.out
      rw [hke]
      clear hu hlt hk hke
      go_wp2_with fail
      exact HEX.out _ _ _ _ _ _ _ _ _ _ _ _ _ _ _ _ _ _ _ _ _ _ _ _ _ _ _ _ _ _ _ _ _ _ _ _ _ _ _ _ _ _ _ _ _ _ _ _ _ _ _ _ _ _ _ _ _ _ _ _ _ _ _ _ _ _ _ _ _ HU.out
end Go.Proofs.YtkldcnikeoofiaaGreatDoor
namespace Go.Proofs.YtkldcnikeoofiaaGreatDoor
open Go.RowKit
set_option linter.unusedVariables false
set_option linter.unusedSimpArgs false
attribute [local irreducible] Calls CallsIn

set_option maxHeartbeats 8000000 in
set_option maxRecDepth 100000 in
theorem sk_numsV {B B2 : Nat} {z : World} {x : SgR} {S : Sg.Sta} (h : SgAt B z x S) {v : Value} (ho : z.ownsRow B2 3 1 v (numI S).length ((numI S).map intD))
    (K0 : Act → World → Prop) { c0 c1 c3 c4 c6 c7 c8 c15 c16 c17 c18 c19 c20 c21 c22 c23 c24 c25 c26 c27 c28 c29 c30 c31 c32 c33 c34 c35 c36 c37 c38 c39 c40 c41 c42 c43 c44 c45 c46 c47 c48 c49 c50 c51 c52 c53 c54 c55 c56 c57 c58 c59 c60 c61 c62 c63 c64 c65 c66 c67 c68 c69 c70 c71 c72 c73 c125 c126 c127 c128 c129 c130 c131 c132 c133 c134 c135 c136 c137 c138 c139 c140 c141 c142 c143 c144 c145 c146 c147 c148 c149 c150 c151 c152 c153 c154 c155 c156 c157 c158 c159 c160 c161 c162 c163 c164 c165 c166 c167 c168 c169 c170 c171 c172 c173 c174 c175 c176 c177 c178 c179 c180 c181 c182 c183 c184 c185 c186 c187 c188 c189 c190 c191 c192 c193 : Value} { u2 u11 u12 u13 u14 u74 u75 u76 u77 u78 u79 u80 u81 u82 u83 u84 u85 u86 u87 u88 u89 u90 u91 u92 u93 u94 u95 u96 u97 u98 u99 u100 u101 u102 u103 u104 u105 u106 u107 u108 u109 u110 u111 u112 u113 u114 u115 u116 u117 u118 u119 u120 u121 u122 u123 u124 : Value} {c : Code} (hc : loopAt Tryz.f5 1 = c)
    (hexit : ∀ (u2 u11 u12 u13 u14 u74 u75 u76 u77 u78 u79 u80 u81 u82 u83 u84 u85 u86 u87 u88 u89 u90 u91 u92 u93 u94 u95 u96 u97 u98 u99 u100 u101 u102 u103 u104 u105 u106 u107 u108 u109 u110 u111 u112 u113 u114 u115 u116 u117 u118 u119 u120 u121 u122 u123 u124 : Value) (w' : World), Nw z w' → K0 ⟨(List.toArray (c0 :: c1 :: u2 :: c3 :: c4 :: (.pointer (some ⟨x.sb, 0, none⟩)) :: c6 :: c7 :: c8 :: (v) :: (.int .i64 ((numI S).length : Int)) :: u11 :: u12 :: u13 :: u14 :: c15 :: c16 :: c17 :: c18 :: c19 :: c20 :: c21 :: c22 :: c23 :: c24 :: c25 :: c26 :: c27 :: c28 :: c29 :: c30 :: c31 :: c32 :: c33 :: c34 :: c35 :: c36 :: c37 :: c38 :: c39 :: c40 :: c41 :: c42 :: c43 :: c44 :: c45 :: c46 :: c47 :: c48 :: c49 :: c50 :: c51 :: c52 :: c53 :: c54 :: c55 :: c56 :: c57 :: c58 :: c59 :: c60 :: c61 :: c62 :: c63 :: c64 :: c65 :: c66 :: c67 :: c68 :: c69 :: c70 :: c71 :: c72 :: c73 :: u74 :: u75 :: u76 :: u77 :: u78 :: u79 :: u80 :: u81 :: u82 :: u83 :: u84 :: u85 :: u86 :: u87 :: u88 :: u89 :: u90 :: u91 :: u92 :: u93 :: u94 :: u95 :: u96 :: u97 :: u98 :: u99 :: u100 :: u101 :: u102 :: u103 :: u104 :: u105 :: u106 :: u107 :: u108 :: u109 :: u110 :: u111 :: u112 :: u113 :: u114 :: u115 :: u116 :: u117 :: u118 :: u119 :: u120 :: u121 :: u122 :: u123 :: u124 :: c125 :: c126 :: c127 :: c128 :: c129 :: c130 :: c131 :: c132 :: c133 :: c134 :: c135 :: c136 :: c137 :: c138 :: c139 :: c140 :: c141 :: c142 :: c143 :: c144 :: c145 :: c146 :: c147 :: c148 :: c149 :: c150 :: c151 :: c152 :: c153 :: c154 :: c155 :: c156 :: c157 :: c158 :: c159 :: c160 :: c161 :: c162 :: c163 :: c164 :: c165 :: c166 :: c167 :: c168 :: c169 :: c170 :: c171 :: c172 :: c173 :: c174 :: c175 :: c176 :: c177 :: c178 :: c179 :: c180 :: c181 :: c182 :: c183 :: c184 :: c185 :: c186 :: c187 :: c188 :: c189 :: c190 :: c191 :: c192 :: c193 :: [])), []⟩ w') :
    Code.wp Tryz.prog c (Exit.then K0 (fun _ _ _ => False)) ⟨(List.toArray (c0 :: c1 :: u2 :: c3 :: c4 :: (.pointer (some ⟨x.sb, 0, none⟩)) :: c6 :: c7 :: c8 :: (v) :: (.int .i64 0) :: u11 :: u12 :: u13 :: u14 :: c15 :: c16 :: c17 :: c18 :: c19 :: c20 :: c21 :: c22 :: c23 :: c24 :: c25 :: c26 :: c27 :: c28 :: c29 :: c30 :: c31 :: c32 :: c33 :: c34 :: c35 :: c36 :: c37 :: c38 :: c39 :: c40 :: c41 :: c42 :: c43 :: c44 :: c45 :: c46 :: c47 :: c48 :: c49 :: c50 :: c51 :: c52 :: c53 :: c54 :: c55 :: c56 :: c57 :: c58 :: c59 :: c60 :: c61 :: c62 :: c63 :: c64 :: c65 :: c66 :: c67 :: c68 :: c69 :: c70 :: c71 :: c72 :: c73 :: u74 :: u75 :: u76 :: u77 :: u78 :: u79 :: u80 :: u81 :: u82 :: u83 :: u84 :: u85 :: u86 :: u87 :: u88 :: u89 :: u90 :: u91 :: u92 :: u93 :: u94 :: u95 :: u96 :: u97 :: u98 :: u99 :: u100 :: u101 :: u102 :: u103 :: u104 :: u105 :: u106 :: u107 :: u108 :: u109 :: u110 :: u111 :: u112 :: u113 :: u114 :: u115 :: u116 :: u117 :: u118 :: u119 :: u120 :: u121 :: u122 :: u123 :: u124 :: c125 :: c126 :: c127 :: c128 :: c129 :: c130 :: c131 :: c132 :: c133 :: c134 :: c135 :: c136 :: c137 :: c138 :: c139 :: c140 :: c141 :: c142 :: c143 :: c144 :: c145 :: c146 :: c147 :: c148 :: c149 :: c150 :: c151 :: c152 :: c153 :: c154 :: c155 :: c156 :: c157 :: c158 :: c159 :: c160 :: c161 :: c162 :: c163 :: c164 :: c165 :: c166 :: c167 :: c168 :: c169 :: c170 :: c171 :: c172 :: c173 :: c174 :: c175 :: c176 :: c177 :: c178 :: c179 :: c180 :: c181 :: c182 :: c183 :: c184 :: c185 :: c186 :: c187 :: c188 :: c189 :: c190 :: c191 :: c192 :: c193 :: [])), []⟩ z := by
  rcases ho.2 with ⟨rfl, hn⟩ | ⟨ga, cap, cur, rfl, _, _⟩
  · have HEX := Lib.hid hexit
    rw [hn] at HEX
    clear ho h hexit
    subst hc
    conv => arg 2; whnf
    go_wp2_with fail
    go_loopw [10] (fun iv wr => iv = .int .i64 0 ∧ Hid (z = wr)) (fun iv _ => 0)
    case atStart => exact ⟨rfl, rfl⟩
    case round =>
      obtain ⟨rfl, hz⟩ := hrel
      obtain rfl := hz.out
      clear hz
      go_wp2_with fail
      exact HEX.out _ _ _ _ _ _ _ _ _ _ _ _ _ _ _ _ _ _ _ _ _ _ _ _ _ _ _ _ _ _ _ _ _ _ _ _ _ _ _ _ _ _ _ _ _ _ _ _ _ _ _ _ _ _ _ _ _ (Upd.refl _ _)
  · exact sk_nums h ho K0 hc hexit
set_option maxHeartbeats 8000000 in
set_option maxRecDepth 100000 in
theorem sk_profsV {B B2 : Nat} {z : World} {x : SgR} {S : Sg.Sta} (h : SgAt B z x S) {v : Value} (ho : z.ownsRow B2 9 1 v (nmsS S).length ((nmsS S).map bsV))
    (K0 : Act → World → Prop) { c0 c1 c3 c4 c6 c7 c8 c9 c10 c11 c12 c13 c14 c22 c23 c24 c25 c26 c27 c28 c29 c30 c31 c32 c33 c34 c35 c36 c37 c38 c39 c40 c41 c42 c43 c44 c45 c46 c47 c48 c49 c50 c51 c52 c53 c54 c55 c56 c57 c58 c59 c60 c61 c62 c63 c64 c65 c66 c67 c68 c69 c70 c71 c72 c73 c74 c75 c76 c77 c78 c79 c80 c81 c82 c83 c84 c85 c86 c87 c88 c89 c90 c91 c92 c93 c94 c95 c96 c97 c98 c99 c100 c101 c102 c103 c104 c105 c106 c107 c108 c109 c110 c111 c112 c113 c114 c115 c116 c117 c118 c119 c120 c121 c122 c123 c124 c125 c126 c189 c190 c191 c192 c193 : Value} { u2 u17 u18 u19 u20 u21 u127 u128 u129 u130 u131 u132 u133 u134 u135 u136 u137 u138 u139 u140 u141 u142 u143 u144 u145 u146 u147 u148 u149 u150 u151 u152 u153 u154 u155 u156 u157 u158 u159 u160 u161 u162 u163 u164 u165 u166 u167 u168 u169 u170 u171 u172 u173 u174 u175 u176 u177 u178 u179 u180 u181 u182 u183 u184 u185 u186 u187 u188 : Value} {c : Code} (hc : loopAt Tryz.f5 2 = c)
    (hexit : ∀ (u2 u17 u18 u19 u20 u21 u127 u128 u129 u130 u131 u132 u133 u134 u135 u136 u137 u138 u139 u140 u141 u142 u143 u144 u145 u146 u147 u148 u149 u150 u151 u152 u153 u154 u155 u156 u157 u158 u159 u160 u161 u162 u163 u164 u165 u166 u167 u168 u169 u170 u171 u172 u173 u174 u175 u176 u177 u178 u179 u180 u181 u182 u183 u184 u185 u186 u187 u188 : Value) (w' : World), Nw z w' → K0 ⟨(List.toArray (c0 :: c1 :: u2 :: c3 :: c4 :: (.pointer (some ⟨x.sb, 0, none⟩)) :: c6 :: c7 :: c8 :: c9 :: c10 :: c11 :: c12 :: c13 :: c14 :: (v) :: (.int .i64 ((nmsS S).length : Int)) :: u17 :: u18 :: u19 :: u20 :: u21 :: c22 :: c23 :: c24 :: c25 :: c26 :: c27 :: c28 :: c29 :: c30 :: c31 :: c32 :: c33 :: c34 :: c35 :: c36 :: c37 :: c38 :: c39 :: c40 :: c41 :: c42 :: c43 :: c44 :: c45 :: c46 :: c47 :: c48 :: c49 :: c50 :: c51 :: c52 :: c53 :: c54 :: c55 :: c56 :: c57 :: c58 :: c59 :: c60 :: c61 :: c62 :: c63 :: c64 :: c65 :: c66 :: c67 :: c68 :: c69 :: c70 :: c71 :: c72 :: c73 :: c74 :: c75 :: c76 :: c77 :: c78 :: c79 :: c80 :: c81 :: c82 :: c83 :: c84 :: c85 :: c86 :: c87 :: c88 :: c89 :: c90 :: c91 :: c92 :: c93 :: c94 :: c95 :: c96 :: c97 :: c98 :: c99 :: c100 :: c101 :: c102 :: c103 :: c104 :: c105 :: c106 :: c107 :: c108 :: c109 :: c110 :: c111 :: c112 :: c113 :: c114 :: c115 :: c116 :: c117 :: c118 :: c119 :: c120 :: c121 :: c122 :: c123 :: c124 :: c125 :: c126 :: u127 :: u128 :: u129 :: u130 :: u131 :: u132 :: u133 :: u134 :: u135 :: u136 :: u137 :: u138 :: u139 :: u140 :: u141 :: u142 :: u143 :: u144 :: u145 :: u146 :: u147 :: u148 :: u149 :: u150 :: u151 :: u152 :: u153 :: u154 :: u155 :: u156 :: u157 :: u158 :: u159 :: u160 :: u161 :: u162 :: u163 :: u164 :: u165 :: u166 :: u167 :: u168 :: u169 :: u170 :: u171 :: u172 :: u173 :: u174 :: u175 :: u176 :: u177 :: u178 :: u179 :: u180 :: u181 :: u182 :: u183 :: u184 :: u185 :: u186 :: u187 :: u188 :: c189 :: c190 :: c191 :: c192 :: c193 :: [])), []⟩ w') :
    Code.wp Tryz.prog c (Exit.then K0 (fun _ _ _ => False)) ⟨(List.toArray (c0 :: c1 :: u2 :: c3 :: c4 :: (.pointer (some ⟨x.sb, 0, none⟩)) :: c6 :: c7 :: c8 :: c9 :: c10 :: c11 :: c12 :: c13 :: c14 :: (v) :: (.int .i64 0) :: u17 :: u18 :: u19 :: u20 :: u21 :: c22 :: c23 :: c24 :: c25 :: c26 :: c27 :: c28 :: c29 :: c30 :: c31 :: c32 :: c33 :: c34 :: c35 :: c36 :: c37 :: c38 :: c39 :: c40 :: c41 :: c42 :: c43 :: c44 :: c45 :: c46 :: c47 :: c48 :: c49 :: c50 :: c51 :: c52 :: c53 :: c54 :: c55 :: c56 :: c57 :: c58 :: c59 :: c60 :: c61 :: c62 :: c63 :: c64 :: c65 :: c66 :: c67 :: c68 :: c69 :: c70 :: c71 :: c72 :: c73 :: c74 :: c75 :: c76 :: c77 :: c78 :: c79 :: c80 :: c81 :: c82 :: c83 :: c84 :: c85 :: c86 :: c87 :: c88 :: c89 :: c90 :: c91 :: c92 :: c93 :: c94 :: c95 :: c96 :: c97 :: c98 :: c99 :: c100 :: c101 :: c102 :: c103 :: c104 :: c105 :: c106 :: c107 :: c108 :: c109 :: c110 :: c111 :: c112 :: c113 :: c114 :: c115 :: c116 :: c117 :: c118 :: c119 :: c120 :: c121 :: c122 :: c123 :: c124 :: c125 :: c126 :: u127 :: u128 :: u129 :: u130 :: u131 :: u132 :: u133 :: u134 :: u135 :: u136 :: u137 :: u138 :: u139 :: u140 :: u141 :: u142 :: u143 :: u144 :: u145 :: u146 :: u147 :: u148 :: u149 :: u150 :: u151 :: u152 :: u153 :: u154 :: u155 :: u156 :: u157 :: u158 :: u159 :: u160 :: u161 :: u162 :: u163 :: u164 :: u165 :: u166 :: u167 :: u168 :: u169 :: u170 :: u171 :: u172 :: u173 :: u174 :: u175 :: u176 :: u177 :: u178 :: u179 :: u180 :: u181 :: u182 :: u183 :: u184 :: u185 :: u186 :: u187 :: u188 :: c189 :: c190 :: c191 :: c192 :: c193 :: [])), []⟩ z := by
  rcases ho.2 with ⟨rfl, hn⟩ | ⟨ga, cap, cur, rfl, _, _⟩
  · have HEX := Lib.hid hexit
    rw [hn] at HEX
    clear ho h hexit
    subst hc
    conv => arg 2; whnf
    go_wp2_with fail
    go_loopw [16] (fun iv wr => iv = .int .i64 0 ∧ Hid (z = wr)) (fun iv _ => 0)
    case atStart => exact ⟨rfl, rfl⟩
    case round =>
      obtain ⟨rfl, hz⟩ := hrel
      obtain rfl := hz.out
      clear hz
      go_wp2_with fail
      exact HEX.out _ _ _ _ _ _ _ _ _ _ _ _ _ _ _ _ _ _ _ _ _ _ _ _ _ _ _ _ _ _ _ _ _ _ _ _ _ _ _ _ _ _ _ _ _ _ _ _ _ _ _ _ _ _ _ _ _ _ _ _ _ _ _ _ _ _ _ _ _ (Upd.refl _ _)
  · exact sk_profs h ho K0 hc hexit
end Go.Proofs.YtkldcnikeoofiaaGreatDoor
namespace Go.Proofs.YtkldcnikeoofiaaGreatDoor
open Go.RowKit
set_option linter.unusedVariables false
set_option linter.unusedSimpArgs false
attribute [local irreducible] Calls CallsIn

theorem itE_few {x : Sg.It} (h : ItArg x) (hn : x.nm.length ≤ 60) : (Sg.itE x).length ≤ 166 := by
  obtain ⟨_, h1, h2, h3, h4⟩ := h
  have t := Fm.textE_len x.nm (by omega)
  have a := Fm.num_len h1
  have b := Fm.num_len h2
  have c := Fm.num_len h3
  have d := Fm.num_len h4
  unfold Sg.itE
  simp only [List.length_append]
  omega
theorem itsE_few : ∀ {l : List Sg.It}, (∀ x ∈ l, ItArg x) → (∀ x ∈ l, x.nm.length ≤ 60) → (Sg.itsE l).length ≤ 166 * l.length
  | [], _, _ => Nat.le_refl _
  | y :: l, h, hn => by
    have h1 := itE_few (h y (List.mem_cons_self ..)) (hn y (List.mem_cons_self ..))
    have h2 := itsE_few (l := l) (fun x hx => h x (List.mem_cons_of_mem _ hx)) (fun x hx => hn x (List.mem_cons_of_mem _ hx))
    have e : Sg.itsE (y :: l) = Sg.itE y ++ Sg.itsE l := rfl
    rw [e, List.length_append, List.length_cons]
    omega
theorem pfE_few {p : Sg.Pf} (hl : p.its.length ≤ 6) (hn : p.nm.length ≤ 60) (hx : ∀ x ∈ p.its, ItArg x) (hk : ∀ x ∈ p.its, x.nm.length ≤ 60) : (Sg.pfE p).length ≤ 1900 := by
  have t := Fm.textE_len p.nm (by omega)
  have a := Fm.num_len (n := (p.its.length : Int)) (by constructor <;> omega)
  have b := itsE_few hx hk
  unfold Sg.pfE
  simp only [List.length_append]
  omega
section
variable {w : World} {db : Nat} {f : Int} {F : Nat → Prop} {sb : Nat} {S : Sg.Sta} {n : Nat} {z : World}
/-- A calm disk, started: the same disk. -/
theorem calm_start {D : Dk.Disk} (h : Jr.Calm D) : Dk.start D = D := by
  have := h.down
  cases D
  dsimp only at this
  subst this
  rfl
theorem startC (h : CS w db f F sb S n z) :
    Calls Tryz.prog 27 #[.pointer (some ⟨db, 0, none⟩)] z fun e z' => e = .returned (.tuple #[]) ∧ (∃ (D : Dk.Disk) (j : Jr.Jn), GS w db none D F z' ∧ Sg.Cm D j S f n) ∧ Moves w F z z' := by
  obtain ⟨x, j, D, rfl, h2, h3⟩ := h
  have := start_t h2.forget
  rw [calm_start h3.calm] at this
  exact this.mono fun e z' ⟨a, b, c⟩ => ⟨a, ⟨D, j, b, h3⟩, c⟩
/-- A store of a calm disk, opened again: the same state. -/
theorem againC (g : GmS w) {D : Dk.Disk} {j : Jr.Jn} (h : GS w db none D F z) (c : Sg.Cm D j S f n) (hf : 0 ≤ f ∧ f < 16) (hn : n ≤ 40) :
    Calls Tryz.prog 18 #[.pointer (some ⟨db, 0, none⟩), .int .i64 f] z fun e z' => ∃ sb, e = .returned (.tuple #[.pointer (some ⟨sb, 0, none⟩), .int .i64 0]) ∧ CS w db f F sb S n z' ∧ Moves w F z z' := by
  obtain ⟨rs, h1, h2, h3, h4, h5, h6, h7⟩ := c.again hf
  refine (sopen_t g.g h (f := f) (by unfold I64; omega) (Or.inr ⟨h1, h2, h3, by omega, h7⟩)).mono fun e z' ho => ?_
  rcases ho with ⟨k1, _⟩ | ⟨_, x, k1, k2, k3⟩
  · rw [k1] at h1; cases h1
  · rw [h5] at k2
    exact ⟨x.sb, k1, ⟨x, _, _, rfl, k2, h6⟩, k3⟩
end
end Go.Proofs.YtkldcnikeoofiaaGreatDoor
