/- The contract of the journal's Open. The example of chapter 03, in plain words. A disk and perhaps a journal on it, apart from blocks that are kept: the calls of the statements of chapter 03; small. small, of chapter 03. -/
import Derived.Test.YtagmlemlagbfkaaDoorPkFFair16
import Derived.Test.YtagmlemlagbfkaaDoorPkFFair13
import Derived.Test.YtagmlemlagbfkaaDoorPkFFair2
import Derived.Test.YtagmlemlagbfkaaDoorPkFFair15
namespace Go.Proofs.YtagmlemlagbfkaaDoor
open Go.RowKit
set_option linter.unusedVariables false
set_option linter.unusedSimpArgs false
attribute [local irreducible] Calls

theorem sync_may {D : Dk.Disk} {f : Int} (h : (Dk.sync D f).2 = 0) : Dk.may (Dk.sync D f).1 f = 0 := by
  by_cases h1 : Dk.may (Dk.come D) f = 0
  · by_cases h2 : 0 < (Dk.come D).lost
    · have e : Dk.sync D f = ({ Dk.come D with lost := (Dk.come D).lost - 1 }, 9) := by unfold Dk.sync; rw [if_neg (by omega), if_pos h2]
      rw [e] at h; cases h
    · have e : Dk.sync D f = (Dk.settle (Dk.come D) f ((Dk.come D).fs f).now, 0) := by unfold Dk.sync; rw [if_neg (by omega), if_neg h2]
      rw [e]
      exact h1
  · have e : Dk.sync D f = (Dk.come D, Dk.may (Dk.come D) f) := by unfold Dk.sync; rw [if_pos h1]
    rw [e] at h
    exact absurd h h1
theorem read_all {D : Dk.Disk} {f : Int} (h : Dk.may D f = 0) : Dk.read D f 0 (Dk.size D f) = ((D.fs f).now, 0) := by
  unfold Dk.read Dk.size
  rw [if_neg (by omega), if_neg (by omega)]
  simp
/-- What Open makes of a disk: a journal, or none. -/
def OpenTo (B : Nat) (d : DiskR) (D' : Dk.Disk) (jo : Option Jr.Jn) (pv : Value) (w w' : World) : Prop :=
  match jo with
  | none => pv = .pointer none ∧ DiskTo B d D' w w'
  | some j => ∃ d' x, pv = .pointer (some ⟨x.jb, 0, none⟩) ∧ JSys B w' d' x D' j ∧ d'.db = d.db ∧ Upd d.foot w w' ∧ (∀ k, d'.foot k → d.foot k ∨ w.heap.size ≤ k) ∧ ∀ k, x.foot k → w.heap.size ≤ k
theorem open_made {B : Nat} {w w1 w3 w4 : World} {d d1 d4 : DiskR} {D4 : Dk.Disk} {f : Int} {R : List (List UInt8)} {v' : Value} (hB : B ≤ w.heap.size) (hd1 : ∀ k, d1.foot k → k < w1.heap.size) (e1 : d1.db = d.db) (u1 : Upd d.foot w w1) (f1 : ∀ k, d1.foot k → d.foot k ∨ w.heap.size ≤ k)
    (n3 : Nw w1 w3) (o3 : w3.ownsRow w1.heap.size tStrJ 1 v' R.length (R.map bsV)) (h4 : DiskAt B w4 d4 D4) (e4 : d4.db = d1.db) (u4 : Upd d1.foot w3 w4) (f4 : ∀ k, d4.foot k → d1.foot k ∨ w3.heap.size ≤ k) (hf : 0 ≤ f ∧ f ≤ 15) (hR : (Jr.forms R).length ≤ 16777216) :
    OpenTo B d D4 (some ⟨f, R, false⟩) (.pointer (some ⟨w4.heap.size, 0, none⟩)) w (w4.alloc (.cells #[.pointer (some ⟨d.db, 0, none⟩), .int .i64 f, v', .int .i64 ((Jr.forms R).length : Nat), .bool false] tJrn)) := by
  have n5 := nw_alloc w4 (.cells #[.pointer (some ⟨d.db, 0, none⟩), .int .i64 f, v', .int .i64 ((Jr.forms R).length : Nat), .bool false] tJrn)
  have k5 := heap_new w4 (.cells #[.pointer (some ⟨d.db, 0, none⟩), .int .i64 f, v', .int .i64 ((Jr.forms R).length : Nat), .bool false] tJrn)
  have s1 := u1.size
  have s3 := n3.size
  have s4 := u4.size
  have hv : ∀ k, v'.ownBlock = some k → w1.heap.size ≤ k ∧ k < w3.heap.size := fun k hk => by
    obtain ⟨a, cs, b⟩ := own_blockD o3 hk
    exact ⟨a, lt_of_block b⟩
  have o4 := owns_updD o3 u4 (fun k hk e => by have := hv k hk; have := hd1 k e; omega)
  have o5 := owns_base (owns_updD o4 n5 (fun _ _ e => e)) (base' := B) (by omega)
  have hlt := fun k hk => (h4.foot_lt (k := k) hk).2
  refine ⟨d4, ⟨w4.heap.size, v'⟩, rfl, ⟨h4.nw n5, ⟨h4.hb, by show B ≤ w4.heap.size; omega, ?_, o5, ⟨hf, hR⟩⟩, fun k hk e => ?_⟩, e4.trans e1, ?_, fun k hk => ?_, fun k hk => ?_⟩
  · unfold jrnC
    rw [e4.trans e1]
    exact k5
  · rcases e with e | e
    · have := hlt k hk; dsimp only at e; omega
    · have := hv k e
      rcases f4 k hk with e2 | e2
      · have := hd1 k e2; omega
      · omega
  · exact ((u1.nw n3).trans' u4 (fun k hk e => (f1 k e).elim id (fun e2 => by omega))).nw n5
  · rcases f4 k hk with e | e
    · exact f1 k e
    · exact Or.inr (by omega)
  · rcases hk with e | e
    · dsimp only at e; omega
    · have := hv k e; omega
set_option maxHeartbeats 1000000 in
set_option maxRecDepth 100000 in
theorem Open_c {B : Nat} {w : World} {d : DiskR} {D : Dk.Disk} (h : DiskAt B w d D) (g : Gl w) (hB : B ≤ w.heap.size) {f : Int} (hf : I64 f) :
    Calls Tryd.prog 20 #[.pointer (some ⟨d.db, 0, none⟩), .int .i64 f] w fun e w' => ∃ pv, e = .returned (.tuple #[pv, .int .i64 (Jr.openJ D f).2.2]) ∧ OpenTo B d (Jr.openJ D f).1 (Jr.openJ D f).2.1 pv w w' := by
  have hgb := g.big
  have H := Lib.hid h
  have HB := Lib.hid hB
  have HF := Lib.hid hf
  by_cases h0 : f < 0
  · have hr : Hid (Jr.openJ D f = (D, none, 1)) := by show _ = _; unfold Jr.openJ; rw [if_pos (Or.inl h0)]
    clear h hB hf
    go_enter Tryd.func20, Tryd.ntmps20
    go_wp2_with fail
    go_ret2
    exact ⟨_, by rw [hr.out]; rfl, by rw [hr.out]; exact ⟨rfl, DiskTo.refl H.out⟩⟩
  by_cases h15 : 15 < f
  · have hr : Hid (Jr.openJ D f = (D, none, 1)) := by show _ = _; unfold Jr.openJ; rw [if_pos (Or.inr h15)]
    clear h hB hf
    go_enter Tryd.func20, Tryd.ntmps20
    go_wp2_with fail
    go_ret2
    exact ⟨_, by rw [hr.out]; rfl, by rw [hr.out]; exact ⟨rfl, DiskTo.refl H.out⟩⟩
  have hr0 : Jr.openJ D f = if (Dk.sync D f).2 ≠ 0 then ((Dk.sync D f).1, none, (Dk.sync D f).2)
    else if (Jr.forms (Jr.recs ((Dk.sync D f).1.fs f).now)).length < ((Dk.sync D f).1.fs f).now.length then
    (if (Dk.truncate (Dk.sync D f).1 f (Jr.forms (Jr.recs ((Dk.sync D f).1.fs f).now)).length).2 ≠ 0 then ((Dk.truncate (Dk.sync D f).1 f (Jr.forms (Jr.recs ((Dk.sync D f).1.fs f).now)).length).1, none, (Dk.truncate (Dk.sync D f).1 f (Jr.forms (Jr.recs ((Dk.sync D f).1.fs f).now)).length).2)
      else ((Dk.truncate (Dk.sync D f).1 f (Jr.forms (Jr.recs ((Dk.sync D f).1.fs f).now)).length).1, some ⟨f, Jr.recs ((Dk.sync D f).1.fs f).now, false⟩, 0))
    else ((Dk.sync D f).1, some ⟨f, Jr.recs ((Dk.sync D f).1.fs f).now, false⟩, 0) := by
    unfold Jr.openJ; rw [if_neg (by omega)]
  have hfile : Hid (0 ≤ f ∧ f ≤ 15) := by show _ ∧ _; omega
  have hsc := sync_c h g hB hf
  have hmy := @sync_may D f
  generalize Dk.sync D f = S at *
  obtain ⟨D1, E⟩ := S
  dsimp only at hr0 hsc hmy
  have Hsc := Lib.hid hsc
  have Hr0 := Lib.hid hr0
  have Hmy := Lib.hid hmy
  clear hr0 hsc hmy h hB hf
  go_enter Tryd.func20, Tryd.ntmps20
  go_wp2_with fail
  (with_reducible refine (Hsc.out).mono ?_)
  rintro _ w1 ⟨rfl, hT⟩
  have HT := Lib.hid hT
  clear hT Hsc
  by_cases hE : E = 0
  rotate_left
  · have b1 : (E == 0) = false := beq_eq_false_iff_ne.2 hE
    have b2 : (E != 0) = true := by simp [hE]
    have hr : Hid (Jr.openJ D f = (D1, none, E)) := by show _ = _; rw [Hr0.out, if_pos hE]
    clear hE
    go_wp2_with fail
    go_ret2
    exact ⟨_, by rw [hr.out]; rfl, by rw [hr.out]; exact ⟨rfl, HT.out⟩⟩
  subst hE
  have hmay := Hmy.out rfl
  have hr1 := Hr0.out
  rw [if_neg (fun e => e rfl)] at hr1
  obtain ⟨d1, h1, e1, u1, f1⟩ := HT.out
  have g1 := g.upd u1
  have hsz := size_c h1 HF.out
  rw [e1] at hsz
  have hnow := h1.ok.now f
  have hrd := read_c h1 HF.out (i := 0) (n := Dk.size D1 f) (by unfold I64; omega) (by unfold Dk.size I64; omega)
  rw [e1, read_all hmay] at hrd
  dsimp only at hrd
  have hse : Dk.size D1 f = ((D1.fs f).now.length : Int) := rfl
  have HD1 := Lib.hid (And.intro h1 (And.intro e1 (And.intro u1 f1)))
  have hrj := read_j (D1.fs f).now hnow w1 g1
  have htc := fun (z : World) (n : Nw w1 z) (m : Int) (hm : I64 m) => truncate_c (h1.nw n) (g1.upd n) (Nat.le_trans (Nat.le_trans HB.out u1.size) n.size) HF.out hm
  rw [e1] at htc
  generalize (D1.fs f).now = s at *
  have Hrj := Lib.hid hrj
  have Hrd := Lib.hid hrd
  have Hsz := Lib.hid hsz
  have Htc := Lib.hid htc
  have Hr1 := Lib.hid hr1
  have Hnow := Lib.hid hnow
  have hlen : (s.length : Int) ≤ 16777216 := by omega
  have hlen0 : (0 : Int) ≤ s.length := by omega
  have hse2 : Hid (Dk.size D1 f = (s.length : Int)) := hse
  clear hrj hrd hsz htc hr1 hnow h1 e1 u1 f1 Hr0 hmay Hmy hse
  have hfr := Jr.recs_len s
  have hfr1 : ((Jr.forms (Jr.recs s)).length : Int) ≤ s.length := by omega
  have hfr0 : (0 : Int) ≤ ((Jr.forms (Jr.recs s)).length : Nat) := by omega
  have Hfr := Lib.hid hfr
  clear hfr
  go_wp2_with fail
  (with_reducible refine (Hsz.out).mono ?_)
  rintro _ _ ⟨rfl, rfl⟩
  go_wp2_with fail
  (with_reducible refine (Hrd.out).mono ?_)
  rintro _ _ ⟨rfl, rfl⟩
  go_wp2_with fail
  (with_reducible refine (Hrj.out).mono ?_)
  rintro _ w3 ⟨v', rfl, o3, n3⟩
  have O3 := Lib.hid o3
  have N3 := Lib.hid n3
  obtain ⟨av, cv, rfl⟩ := own_slD o3
  clear o3 n3 Hrj Hrd Hsz
  have hI : Hid (I64 ((Jr.forms (Jr.recs s)).length : Nat)) := by show I64 _; unfold I64; omega
  by_cases hlt : (Jr.forms (Jr.recs s)).length < s.length
  rotate_left
  · have hr : Hid (Jr.openJ D f = (D1, some ⟨f, Jr.recs s, false⟩, 0)) := by show _ = _; rw [Hr1.out, if_neg hlt]
    have hd : decide ((Jr.forms (Jr.recs s)).length < s.length) = false := decide_eq_false hlt
    have hz : Hid (OpenTo B d D1 _ _ w _) := open_made HB.out (fun k hk => (HD1.out.1.foot_lt hk).2) HD1.out.2.1 HD1.out.2.2.1 HD1.out.2.2.2 N3.out O3.out (HD1.out.1.nw N3.out) rfl (Upd.refl _ _) (fun k hk => Or.inl hk) hfile.out (by have := Hfr.out; have := Hnow.out; omega)
    clear hlt
    go_wp2_with fail
    go_ret2
    exact ⟨_, by rw [hr.out]; rfl, by rw [hr.out]; exact hz.out⟩
  have hd : decide ((Jr.forms (Jr.recs s)).length < s.length) = true := decide_eq_true hlt
  have hr1 := Hr1.out
  rw [if_pos hlt] at hr1
  have htc := Htc.out w3 N3.out _ hI.out
  generalize Dk.truncate D1 f ((Jr.forms (Jr.recs s)).length : Nat) = S2 at *
  obtain ⟨D2, E2⟩ := S2
  dsimp only at hr1 htc
  have Htc2 := Lib.hid htc
  have Hr2 := Lib.hid hr1
  clear hr1 htc hlt Htc Hr1
  go_wp2_with fail
  (with_reducible refine (Htc2.out).mono ?_)
  rintro _ w4 ⟨rfl, hT4⟩
  obtain ⟨d4, h4, e4, u4, f4⟩ := hT4
  by_cases hE : E2 = 0
  · subst hE
    have hr : Hid (Jr.openJ D f = (D2, some ⟨f, Jr.recs s, false⟩, 0)) := by show _ = _; rw [Hr2.out, if_neg (fun e => e rfl)]
    have hz : Hid (OpenTo B d D2 _ _ w _) := open_made HB.out (fun k hk => (HD1.out.1.foot_lt hk).2) HD1.out.2.1 HD1.out.2.2.1 HD1.out.2.2.2 N3.out O3.out h4 e4 u4 f4 hfile.out (by have := Hfr.out; have := Hnow.out; omega)
    clear h4 u4 f4
    go_wp2_with fail
    go_ret2
    exact ⟨_, by rw [hr.out]; rfl, by rw [hr.out]; exact hz.out⟩
  · have b1 : (E2 == 0) = false := beq_eq_false_iff_ne.2 hE
    have b2 : (E2 != 0) = true := by simp [hE]
    have hr : Hid (Jr.openJ D f = (D2, none, E2)) := by show _ = _; rw [Hr2.out, if_pos hE]
    have hz : Hid (DiskTo B d D2 w w4) := DiskTo.then_ H.out HD1.out.1 HD1.out.2.1 HD1.out.2.2.1 HD1.out.2.2.2 (DiskTo.after N3.out ⟨d4, h4, e4, u4, f4⟩)
    clear h4 u4 f4 hE
    go_wp2_with fail
    go_ret2
    exact ⟨_, by rw [hr.out]; rfl, by rw [hr.out]; exact ⟨rfl, hz.out⟩⟩
end Go.Proofs.YtagmlemlagbfkaaDoor
namespace Go.Proofs.YtagmlemlagbfkaaDoor.Jr
set_option linter.unusedVariables false
def bAB : List UInt8 := [97, 98]
theorem jn_eq {j : Jn} {f : Int} {r : List (List UInt8)} {b : Bool} (h : (j.file, j.recs, j.broken) = (f, r, b)) : j = ⟨f, r, b⟩ := by
  obtain ⟨a, b, c⟩ := j
  simp at h
  obtain ⟨rfl, rfl, rfl⟩ := h
  rfl
theorem jo_eq {o : Option Jn} {f : Int} {r : List (List UInt8)} {b : Bool} (h : (o.map fun j => (j.file, j.recs, j.broken)) = some (f, r, b)) : o = some ⟨f, r, b⟩ := by
  cases o with
  | none => cases h
  | some j => rw [jn_eq (Option.some.inj h)]
def xD1 : Dk.Disk := (openJ Dk.new 3).1
def xD2 : Dk.Disk := (append xD1 ⟨3, [], false⟩ bAB).1
def xD3 : Dk.Disk := (append xD2 ⟨3, [bAB], false⟩ []).1
theorem x1 : openJ Dk.new 3 = (xD1, some ⟨3, [], false⟩, 0) := Prod.ext rfl (Prod.ext (jo_eq (by decide +kernel)) (by decide +kernel))
theorem x2 : append xD1 ⟨3, [], false⟩ bAB = (xD2, ⟨3, [bAB], false⟩, 0) := Prod.ext rfl (Prod.ext (jn_eq (by decide +kernel)) (by decide +kernel))
theorem x3 : append xD2 ⟨3, [bAB], false⟩ [] = (xD3, ⟨3, [bAB, []], false⟩, 0) := Prod.ext rfl (Prod.ext (jn_eq (by decide +kernel)) (by decide +kernel))
theorem x4 : Dk.read xD3 3 0 99 = ([50, 58, 97, 98, 44, 50, 57, 51, 59, 48, 58, 44, 48, 59], 0) := by decide +kernel
theorem x8 : sumN [] = 0 ∧ sumN [97] = 97 ∧ sumN [97, 98] = 293 := by decide +kernel
end Go.Proofs.YtagmlemlagbfkaaDoor.Jr
namespace Go.Proofs.YtagmlemlagbfkaaDoor
open Go.RowKit
set_option linter.unusedVariables false
set_option linter.unusedSimpArgs false
attribute [local irreducible] Calls

/-- A disk, perhaps a journal on it (its block, its state), all of it made since w; the blocks F are none of theirs. -/
def GS (w : World) (db : Nat) (jp : Option (Nat × Jr.Jn)) (D : Dk.Disk) (F : Nat → Prop) (z : World) : Prop :=
  ∃ d, d.db = db ∧ DiskAt w.heap.size z d D ∧ Nw w z ∧ (∀ k, F k → k < z.heap.size ∧ ¬ d.foot k) ∧
    ∀ p, jp = some p → ∃ x, x.jb = p.1 ∧ JrnAt w.heap.size z db x p.2 ∧ (∀ k, d.foot k → ¬ x.foot k) ∧ ∀ k, F k → ¬ x.foot k
def ptrJ : Option (Nat × Jr.Jn) → Value
  | none => .pointer none
  | some p => .pointer (some ⟨p.1, 0, none⟩)
section
variable {w : World} {db : Nat} {jp : Option (Nat × Jr.Jn)} {D D' : Dk.Disk} {F F' S : Nat → Prop} {z z' : World}
theorem GS.nw0 (h : GS w db jp D F z) : Nw w z := by obtain ⟨d, _, _, h, _⟩ := h; exact h
theorem GS.gl (h : GS w db jp D F z) (g : Gl w) : Gl z := g.upd h.nw0
theorem GS.upd (h : GS w db jp D F z) (u : Upd S z z') (hs : ∀ k, S k → (F k ∧ w.heap.size ≤ k) ∨ z.heap.size ≤ k) : GS w db jp D F z' := by
  obtain ⟨d, e, h1, h2, h3, h4⟩ := h
  have hz := u.size
  have hw := h2.size
  refine ⟨d, e, h1.upd u (fun k hk s => ?_), h2.trans' u (fun k hk s => ?_), fun k hk => ⟨by have := (h3 k hk).1; omega, (h3 k hk).2⟩, fun p hp => ?_⟩
  · rcases hs k s with a | a
    · exact (h3 k a.1).2 hk
    · have := (h1.foot_lt hk).2; omega
  · rcases hs k s with a | a <;> omega
  · obtain ⟨x, e2, h5, h6, h7⟩ := h4 p hp
    refine ⟨x, e2, h5.upd u (fun k hk s => ?_), h6, h7⟩
    rcases hs k s with a | a
    · exact h7 k a.1 hk
    · have := (h5.foot_lt hk).2; omega
theorem GS.nw (h : GS w db jp D F z) (u : Nw z z') : GS w db jp D F z' := h.upd u (fun k s => s.elim)
/-- Blocks that have come since are kept from now on. -/
theorem GS.keep (h : GS w db jp D F z) (u : Nw z z') (hF : ∀ k, F' k → F k ∨ (z.heap.size ≤ k ∧ k < z'.heap.size)) : GS w db jp D F' z' := by
  obtain ⟨d, e, h1, h2, h3, h4⟩ := h
  have hz := u.size
  refine ⟨d, e, h1.nw u, h2.trans u, fun k hk => ?_, fun p hp => ?_⟩
  · rcases hF k hk with a | a
    · exact ⟨by have := (h3 k a).1; omega, (h3 k a).2⟩
    · exact ⟨a.2, fun e => by have := (h1.foot_lt e).2; omega⟩
  · obtain ⟨x, e2, h5, h6, h7⟩ := h4 p hp
    refine ⟨x, e2, h5.nw u, h6, fun k hk e3 => ?_⟩
    rcases hF k hk with a | a
    · exact h7 k a e3
    · have := (h5.foot_lt e3).2; omega
/-- A call of the disk alone. -/
theorem gs_disk {d : DiskR} (e : d.db = db) (h1 : DiskAt w.heap.size z d D) (h2 : Nw w z) (h3 : ∀ k, F k → k < z.heap.size ∧ ¬ d.foot k)
    (h4 : ∀ p, jp = some p → ∃ x, x.jb = p.1 ∧ JrnAt w.heap.size z db x p.2 ∧ (∀ k, d.foot k → ¬ x.foot k) ∧ ∀ k, F k → ¬ x.foot k) (t : DiskTo w.heap.size d D' z z') : GS w db jp D' F z' ∧ Upd (fun k => ¬ F k ∧ w.heap.size ≤ k) z z' := by
  obtain ⟨d', k1, k2, k3, k4⟩ := t
  have hz := k3.size
  have hw := h2.size
  refine ⟨⟨d', k2.trans e, k1, h2.trans' k3 (fun k hk s => by have := (h1.foot_lt s).1; omega), fun k hk => ⟨by have := (h3 k hk).1; omega, fun s => ?_⟩, fun p hp => ?_⟩, k3.mono (fun k _ s => ⟨fun f => (h3 k f).2 s, (h1.foot_lt s).1⟩)⟩
  · rcases k4 k s with a | a
    · exact (h3 k hk).2 a
    · have := (h3 k hk).1; omega
  · obtain ⟨x, e2, h5, h6, h7⟩ := h4 p hp
    refine ⟨x, e2, h5.upd k3 (fun k hk s => h6 k s hk), fun k hk s => ?_, h7⟩
    rcases k4 k hk with a | a
    · exact h6 k a s
    · have := (h5.foot_lt s).2; omega
/-- A call of the journal. -/
theorem gs_jrn {p : Nat × Jr.Jn} {j' : Jr.Jn} {d : DiskR} {x : JrnR} (e : d.db = db) (e2 : x.jb = p.1) (h1 : DiskAt w.heap.size z d D) (h2 : Nw w z) (h3 : ∀ k, F k → k < z.heap.size ∧ ¬ d.foot k)
    (h5 : JrnAt w.heap.size z db x p.2) (h7 : ∀ k, F k → ¬ x.foot k) (t : JTo w.heap.size d x D' j' z z') : GS w db (some (p.1, j')) D' F z' ∧ Upd (fun k => ¬ F k ∧ w.heap.size ≤ k) z z' := by
  obtain ⟨d', x', k1, k2, k3, k4, k5⟩ := t
  have hz := k4.size
  have hw := h2.size
  have hlo : ∀ k, d.foot k ∨ x.foot k → w.heap.size ≤ k := fun k s => s.elim (fun s => (h1.foot_lt s).1) (fun s => (h5.foot_lt s).1)
  have hno : ∀ k, F k → ¬ (d'.foot k ∨ x'.foot k) := fun k hk s => by
    rcases k5 k s with (a | a) | a
    · exact (h3 k hk).2 a
    · exact h7 k hk a
    · have := (h3 k hk).1; omega
  refine ⟨⟨d', k2.trans e, k1.disk, h2.trans' k4 (fun k hk s => by have := hlo k s; omega), fun k hk => ⟨by have := (h3 k hk).1; omega, fun s => hno k hk (Or.inl s)⟩, fun q hq => ?_⟩, k4.mono (fun k _ s => ⟨fun f => s.elim (h3 k f).2 (h7 k f), hlo k s⟩)⟩
  obtain rfl := Option.some.inj hq
  exact ⟨x', k3.trans e2, by have := k1.jrn; rw [k2.trans e] at this; exact this, k1.ap, fun k hk s => hno k hk (Or.inr s)⟩
theorem GS.forget (h : GS w db jp D F z) : GS w db none D F z := by
  obtain ⟨d, e, h1, h2, h3, h4⟩ := h
  exact ⟨d, e, h1, h2, h3, fun p hp => by cases hp⟩
theorem GS.parts {p : Nat × Jr.Jn} (h : GS w db (some p) D F z) : ∃ d x, d.db = db ∧ x.jb = p.1 ∧ JSys w.heap.size z d x D p.2 := by
  obtain ⟨d, e, h1, h2, h3, h4⟩ := h
  obtain ⟨x, e2, h5, h6, h7⟩ := h4 p rfl
  exact ⟨d, x, e, e2, ⟨h1, by rw [e]; exact h5, h6⟩⟩
theorem GS.dpart (h : GS w db jp D F z) : ∃ d, d.db = db ∧ DiskAt w.heap.size z d D := by
  obtain ⟨d, e, h1, h2, h3, h4⟩ := h
  exact ⟨d, e, h1⟩
theorem GS.ok (h : GS w db jp D F z) : Dk.Ok D := by obtain ⟨d, _, h⟩ := h.dpart; exact h.ok
/-! ### The calls -/
abbrev Moves (w : World) (F : Nat → Prop) (z z' : World) : Prop := Upd (fun k => ¬ F k ∧ w.heap.size ≤ k) z z'
theorem new_t (w : World) (g : Gl w) : Calls Tryd.prog 8 #[] w fun e z => ∃ db, e = .returned (.pointer (some ⟨db, 0, none⟩)) ∧ GS w db none Dk.new (fun _ => False) z :=
  (dnew_c w g).mono fun e z ⟨r, he, h, u⟩ => ⟨r.db, he, r, rfl, h, u, fun k hk => hk.elim, fun p hp => by cases hp⟩
/-- What Open makes. -/
def OS (w : World) (db : Nat) (D' : Dk.Disk) (jo : Option Jr.Jn) (F : Nat → Prop) (pv : Value) (z : World) : Prop :=
  ∃ jp : Option (Nat × Jr.Jn), jp.map (·.2) = jo ∧ pv = ptrJ jp ∧ GS w db jp D' F z
theorem open_t (h : GS w db jp D F z) (g : Gl w) {f : Int} (hf : I64 f) :
    Calls Tryd.prog 20 #[.pointer (some ⟨db, 0, none⟩), .int .i64 f] z fun e z' => ∃ pv, e = .returned (.tuple #[pv, .int .i64 (Jr.openJ D f).2.2]) ∧ OS w db (Jr.openJ D f).1 (Jr.openJ D f).2.1 F pv z' ∧ Moves w F z z' := by
  have hall := h
  obtain ⟨d, e, h1, h2, h3, h4⟩ := h
  subst e
  refine (Open_c h1 (hall.gl g) h2.size hf).mono fun e z' ⟨pv, he, ht⟩ => ⟨pv, he, ?_⟩
  unfold OpenTo at ht
  cases hj : (Jr.openJ D f).2.1 with
  | none =>
    rw [hj] at ht
    obtain ⟨hp, ht⟩ := ht
    obtain ⟨k1, k2⟩ := gs_disk (jp := none) rfl h1 h2 h3 (fun p hp => by cases hp) ht
    exact ⟨⟨none, rfl, hp, k1⟩, k2⟩
  | some j =>
    rw [hj] at ht
    obtain ⟨d', x, hp, k1, k2, k3, k4, k5⟩ := ht
    have hz := k3.size
    have hw := h2.size
    refine ⟨⟨some (x.jb, j), rfl, hp, d', k2, k1.disk, h2.trans' k3 (fun k hk s => by have := (h1.foot_lt s).1; omega), fun k hk => ⟨by have := (h3 k hk).1; omega, fun s => ?_⟩, fun p hp => ?_⟩, k3.mono (fun k _ s => ⟨fun f => (h3 k f).2 s, (h1.foot_lt s).1⟩)⟩
    · rcases k4 k s with a | a
      · exact (h3 k hk).2 a
      · have := (h3 k hk).1; omega
    · obtain rfl := Option.some.inj hp
      exact ⟨x, rfl, by have := k1.jrn; rw [k2] at this; exact this, k1.ap, fun k hk s => by have := (h3 k hk).1; have := k5 k s; omega⟩
theorem append_t {p : Nat × Jr.Jn} (h : GS w db (some p) D F z) (g : Gl w) (s : List UInt8) (hs : s.length ≤ 1000000) :
    Calls Tryd.prog 25 #[.pointer (some ⟨p.1, 0, none⟩), .string ⟨s.toArray⟩] z fun e z' => e = .returned (.int .i64 (Jr.append D p.2 s).2.2) ∧ GS w db (some (p.1, (Jr.append D p.2 s).2.1)) (Jr.append D p.2 s).1 F z' ∧ Moves w F z z' := by
  have hall := h
  obtain ⟨d, e, h1, h2, h3, h4⟩ := h
  obtain ⟨x, e2, h5, h6, h7⟩ := h4 p rfl
  rw [← e2]
  refine (Append_c (B := w.heap.size) (d := d) (x := x) (j := p.2) ⟨h1, by rw [e]; exact h5, h6⟩ (hall.gl g) h2.size s hs).mono fun e' z' ⟨he, t⟩ => ⟨he, ?_⟩
  have := gs_jrn e e2 h1 h2 h3 h5 h7 t
  rw [← e2] at this
  exact this
theorem all_t {p : Nat × Jr.Jn} (h : GS w db (some p) D F z) (g : Gl w) : Calls Tryd.prog 23 #[.pointer (some ⟨p.1, 0, none⟩)] z fun e z' => ∃ v', e = .returned v' ∧ z'.ownsRow z.heap.size tStrJ 1 v' p.2.recs.length (p.2.recs.map bsV) ∧ Nw z z' := by
  have hg := h.gl g
  obtain ⟨d, x, e, e2, h⟩ := h.parts
  rw [← e2]
  exact All_c h.jrn hg
end
end Go.Proofs.YtagmlemlagbfkaaDoor
namespace Go.Proofs.YtagmlemlagbfkaaDoor
open Go.RowKit
set_option linter.unusedVariables false
set_option linter.unusedSimpArgs false
attribute [local irreducible] Calls

theorem I64_s {n : Int} (h : -1000000 ≤ n ∧ n ≤ 1000000) : I64 n := by unfold I64; omega
theorem OS.some_ {w : World} {db : Nat} {D' : Dk.Disk} {j : Jr.Jn} {F : Nat → Prop} {pv : Value} {z : World} (h : OS w db D' (some j) F pv z) : ∃ jb, pv = .pointer (some ⟨jb, 0, none⟩) ∧ GS w db (some (jb, j)) D' F z := by
  obtain ⟨jp, h1, h2, h3⟩ := h
  cases jp with
  | none => cases h1
  | some p =>
    obtain ⟨jb, j'⟩ := p
    obtain rfl : j' = j := by simpa using h1
    exact ⟨jb, h2, h3⟩
theorem OS.none_ {w : World} {db : Nat} {D' : Dk.Disk} {F : Nat → Prop} {pv : Value} {z : World} (h : OS w db D' none F pv z) : pv = .pointer none ∧ GS w db none D' F z := by
  obtain ⟨jp, h1, h2, h3⟩ := h
  cases jp with
  | none => exact ⟨h2, h3⟩
  | some p => cases h1
/-- The journal's blocks are kept from now on. -/
theorem GS.freeze {w : World} {db : Nat} {p : Nat × Jr.Jn} {D : Dk.Disk} {F : Nat → Prop} {z : World} (h : GS w db (some p) D F z) : ∃ x, x.jb = p.1 ∧ JrnAt w.heap.size z db x p.2 ∧ GS w db none D (fun k => F k ∨ x.foot k) z := by
  obtain ⟨d, e, h1, h2, h3, h4⟩ := h
  obtain ⟨x, e2, h5, h6, h7⟩ := h4 p rfl
  exact ⟨x, e2, h5, d, e, h1, h2, fun k hk => hk.elim (h3 k) (fun s => ⟨(h5.foot_lt s).2, fun q => h6 k q s⟩), fun q hq => by cases hq⟩
end Go.Proofs.YtagmlemlagbfkaaDoor
