/- The contract of the journal's Open. A disk and perhaps a journal on it, apart from blocks that are kept: the calls of the statements of chapter 03; small. small, of chapter 03. A fetch in memory; Missing, Text, Sync, Take. A fetch, its journal and the disk; Sync, Take. fetch.Take. fetch.Open. -/
import Derived.Test.YtagmlemlagbfkaaGreatDoorPkFSurv11
import Derived.Test.YtagmlemlagbfkaaGreatDoorPkFSurv2
import Derived.Test.YtagmlemlagbfkaaGreatDoorPkFSurv10
namespace Go.Proofs.YtagmlemlagbfkaaGreatDoor
open Go.RowKit
set_option linter.unusedVariables false
set_option linter.unusedSimpArgs false
attribute [local irreducible] Calls

theorem sync_may {D : Dk.Disk} {f : Int} (h : (Dk.sync D f).2 = 0) : Dk.may (Dk.sync D f).1 f = 0 := by
  by_cases h1 : Dk.may (Dk.come D) f = 0
  · by_cases h2 : 0 < (Dk.come D).lost
    · have e : Dk.sync D f = ({ Dk.come D with lost := (Dk.come D).lost - 1 }, 9) := by unfold Dk.sync; rw [if_neg (by omega), if_pos h2]
      rw [e] at h; cases h
    · have e : Dk.sync D f = (Dk.settle (Dk.come D) f ((Dk.come D).fs f).now, 0) := by unfold Dk.sync; rw [if_neg (by omega), if_neg h2]
      rw [e]
      exact h1
  · have e : Dk.sync D f = (Dk.come D, Dk.may (Dk.come D) f) := by unfold Dk.sync; rw [if_pos h1]
    rw [e] at h
    exact absurd h h1
theorem read_all {D : Dk.Disk} {f : Int} (h : Dk.may D f = 0) : Dk.read D f 0 (Dk.size D f) = ((D.fs f).now, 0) := by
  unfold Dk.read Dk.size
  rw [if_neg (by omega), if_neg (by omega)]
  simp
/-- What Open makes of a disk: a journal, or none. -/
def OpenTo (B : Nat) (d : DiskR) (D' : Dk.Disk) (jo : Option Jr.Jn) (pv : Value) (w w' : World) : Prop :=
  match jo with
  | none => pv = .pointer none ∧ DiskTo B d D' w w'
  | some j => ∃ d' x, pv = .pointer (some ⟨x.jb, 0, none⟩) ∧ JSys B w' d' x D' j ∧ d'.db = d.db ∧ Upd d.foot w w' ∧ (∀ k, d'.foot k → d.foot k ∨ w.heap.size ≤ k) ∧ ∀ k, x.foot k → w.heap.size ≤ k
theorem open_made {B : Nat} {w w1 w3 w4 : World} {d d1 d4 : DiskR} {D4 : Dk.Disk} {f : Int} {R : List (List UInt8)} {v' : Value} (hB : B ≤ w.heap.size) (hd1 : ∀ k, d1.foot k → k < w1.heap.size) (e1 : d1.db = d.db) (u1 : Upd d.foot w w1) (f1 : ∀ k, d1.foot k → d.foot k ∨ w.heap.size ≤ k)
    (n3 : Nw w1 w3) (o3 : w3.ownsRow w1.heap.size tStrJ 1 v' R.length (R.map bsV)) (h4 : DiskAt B w4 d4 D4) (e4 : d4.db = d1.db) (u4 : Upd d1.foot w3 w4) (f4 : ∀ k, d4.foot k → d1.foot k ∨ w3.heap.size ≤ k) (hf : 0 ≤ f ∧ f ≤ 15) (hR : (Jr.forms R).length ≤ 16777216) :
    OpenTo B d D4 (some ⟨f, R, false⟩) (.pointer (some ⟨w4.heap.size, 0, none⟩)) w (w4.alloc (.cells #[.pointer (some ⟨d.db, 0, none⟩), .int .i64 f, v', .int .i64 ((Jr.forms R).length : Nat), .bool false] tJrn)) := by
  have n5 := nw_alloc w4 (.cells #[.pointer (some ⟨d.db, 0, none⟩), .int .i64 f, v', .int .i64 ((Jr.forms R).length : Nat), .bool false] tJrn)
  have k5 := heap_new w4 (.cells #[.pointer (some ⟨d.db, 0, none⟩), .int .i64 f, v', .int .i64 ((Jr.forms R).length : Nat), .bool false] tJrn)
  have s1 := u1.size
  have s3 := n3.size
  have s4 := u4.size
  have hv : ∀ k, v'.ownBlock = some k → w1.heap.size ≤ k ∧ k < w3.heap.size := fun k hk => by
    obtain ⟨a, cs, b⟩ := own_blockD o3 hk
    exact ⟨a, lt_of_block b⟩
  have o4 := owns_updD o3 u4 (fun k hk e => by have := hv k hk; have := hd1 k e; omega)
  have o5 := owns_base (owns_updD o4 n5 (fun _ _ e => e)) (base' := B) (by omega)
  have hlt := fun k hk => (h4.foot_lt (k := k) hk).2
  refine ⟨d4, ⟨w4.heap.size, v'⟩, rfl, ⟨h4.nw n5, ⟨h4.hb, by show B ≤ w4.heap.size; omega, ?_, o5, ⟨hf, hR⟩⟩, fun k hk e => ?_⟩, e4.trans e1, ?_, fun k hk => ?_, fun k hk => ?_⟩
  · unfold jrnC
    rw [e4.trans e1]
    exact k5
  · rcases e with e | e
    · have := hlt k hk; dsimp only at e; omega
    · have := hv k e
      rcases f4 k hk with e2 | e2
      · have := hd1 k e2; omega
      · omega
  · exact ((u1.nw n3).trans' u4 (fun k hk e => (f1 k e).elim id (fun e2 => by omega))).nw n5
  · rcases f4 k hk with e | e
    · exact f1 k e
    · exact Or.inr (by omega)
  · rcases hk with e | e
    · dsimp only at e; omega
    · have := hv k e; omega
set_option maxHeartbeats 1000000 in
set_option maxRecDepth 100000 in
theorem Open_c {B : Nat} {w : World} {d : DiskR} {D : Dk.Disk} (h : DiskAt B w d D) (g : Gl w) (hB : B ≤ w.heap.size) {f : Int} (hf : I64 f) :
    Calls Tryz.prog 105 #[.pointer (some ⟨d.db, 0, none⟩), .int .i64 f] w fun e w' => ∃ pv, e = .returned (.tuple #[pv, .int .i64 (Jr.openJ D f).2.2]) ∧ OpenTo B d (Jr.openJ D f).1 (Jr.openJ D f).2.1 pv w w' := by
  have hgb := g.big
  have H := Lib.hid h
  have HB := Lib.hid hB
  have HF := Lib.hid hf
  by_cases h0 : f < 0
  · have hr : Hid (Jr.openJ D f = (D, none, 1)) := by show _ = _; unfold Jr.openJ; rw [if_pos (Or.inl h0)]
    clear h hB hf
    go_enter Tryz.func105, Tryz.ntmps105
    go_wp2_with fail
    go_ret2
    exact ⟨_, by rw [hr.out]; rfl, by rw [hr.out]; exact ⟨rfl, DiskTo.refl H.out⟩⟩
  by_cases h15 : 15 < f
  · have hr : Hid (Jr.openJ D f = (D, none, 1)) := by show _ = _; unfold Jr.openJ; rw [if_pos (Or.inr h15)]
    clear h hB hf
    go_enter Tryz.func105, Tryz.ntmps105
    go_wp2_with fail
    go_ret2
    exact ⟨_, by rw [hr.out]; rfl, by rw [hr.out]; exact ⟨rfl, DiskTo.refl H.out⟩⟩
  have hr0 : Jr.openJ D f = if (Dk.sync D f).2 ≠ 0 then ((Dk.sync D f).1, none, (Dk.sync D f).2)
    else if (Jr.forms (Jr.recs ((Dk.sync D f).1.fs f).now)).length < ((Dk.sync D f).1.fs f).now.length then
    (if (Dk.truncate (Dk.sync D f).1 f (Jr.forms (Jr.recs ((Dk.sync D f).1.fs f).now)).length).2 ≠ 0 then ((Dk.truncate (Dk.sync D f).1 f (Jr.forms (Jr.recs ((Dk.sync D f).1.fs f).now)).length).1, none, (Dk.truncate (Dk.sync D f).1 f (Jr.forms (Jr.recs ((Dk.sync D f).1.fs f).now)).length).2)
      else ((Dk.truncate (Dk.sync D f).1 f (Jr.forms (Jr.recs ((Dk.sync D f).1.fs f).now)).length).1, some ⟨f, Jr.recs ((Dk.sync D f).1.fs f).now, false⟩, 0))
    else ((Dk.sync D f).1, some ⟨f, Jr.recs ((Dk.sync D f).1.fs f).now, false⟩, 0) := by
    unfold Jr.openJ; rw [if_neg (by omega)]
  have hfile : Hid (0 ≤ f ∧ f ≤ 15) := by show _ ∧ _; omega
  have hsc := sync_c h g hB hf
  have hmy := @sync_may D f
  generalize Dk.sync D f = S at *
  obtain ⟨D1, E⟩ := S
  dsimp only at hr0 hsc hmy
  have Hsc := Lib.hid hsc
  have Hr0 := Lib.hid hr0
  have Hmy := Lib.hid hmy
  clear hr0 hsc hmy h hB hf
  go_enter Tryz.func105, Tryz.ntmps105
  go_wp2_with fail
  (with_reducible refine (Hsc.out).mono ?_)
  rintro _ w1 ⟨rfl, hT⟩
  have HT := Lib.hid hT
  clear hT Hsc
  by_cases hE : E = 0
  rotate_left
  · have b1 : (E == 0) = false := beq_eq_false_iff_ne.2 hE
    have b2 : (E != 0) = true := by simp [hE]
    have hr : Hid (Jr.openJ D f = (D1, none, E)) := by show _ = _; rw [Hr0.out, if_pos hE]
    clear hE
    go_wp2_with fail
    go_ret2
    exact ⟨_, by rw [hr.out]; rfl, by rw [hr.out]; exact ⟨rfl, HT.out⟩⟩
  subst hE
  have hmay := Hmy.out rfl
  have hr1 := Hr0.out
  rw [if_neg (fun e => e rfl)] at hr1
  obtain ⟨d1, h1, e1, u1, f1⟩ := HT.out
  have g1 := g.upd u1
  have hsz := size_c h1 HF.out
  rw [e1] at hsz
  have hnow := h1.ok.now f
  have hrd := read_c h1 HF.out (i := 0) (n := Dk.size D1 f) (by unfold I64; omega) (by unfold Dk.size I64; omega)
  rw [e1, read_all hmay] at hrd
  dsimp only at hrd
  have hse : Dk.size D1 f = ((D1.fs f).now.length : Int) := rfl
  have HD1 := Lib.hid (And.intro h1 (And.intro e1 (And.intro u1 f1)))
  have hrj := read_j (D1.fs f).now hnow w1 g1
  have htc := fun (z : World) (n : Nw w1 z) (m : Int) (hm : I64 m) => truncate_c (h1.nw n) (g1.upd n) (Nat.le_trans (Nat.le_trans HB.out u1.size) n.size) HF.out hm
  rw [e1] at htc
  generalize (D1.fs f).now = s at *
  have Hrj := Lib.hid hrj
  have Hrd := Lib.hid hrd
  have Hsz := Lib.hid hsz
  have Htc := Lib.hid htc
  have Hr1 := Lib.hid hr1
  have Hnow := Lib.hid hnow
  have hlen : (s.length : Int) ≤ 16777216 := by omega
  have hlen0 : (0 : Int) ≤ s.length := by omega
  have hse2 : Hid (Dk.size D1 f = (s.length : Int)) := hse
  clear hrj hrd hsz htc hr1 hnow h1 e1 u1 f1 Hr0 hmay Hmy hse
  have hfr := Jr.recs_len s
  have hfr1 : ((Jr.forms (Jr.recs s)).length : Int) ≤ s.length := by omega
  have hfr0 : (0 : Int) ≤ ((Jr.forms (Jr.recs s)).length : Nat) := by omega
  have Hfr := Lib.hid hfr
  clear hfr
  go_wp2_with fail
  (with_reducible refine (Hsz.out).mono ?_)
  rintro _ _ ⟨rfl, rfl⟩
  go_wp2_with fail
  (with_reducible refine (Hrd.out).mono ?_)
  rintro _ _ ⟨rfl, rfl⟩
  go_wp2_with fail
  (with_reducible refine (Hrj.out).mono ?_)
  rintro _ w3 ⟨v', rfl, o3, n3⟩
  have O3 := Lib.hid o3
  have N3 := Lib.hid n3
  obtain ⟨av, cv, rfl⟩ := own_slD o3
  clear o3 n3 Hrj Hrd Hsz
  have hI : Hid (I64 ((Jr.forms (Jr.recs s)).length : Nat)) := by show I64 _; unfold I64; omega
  by_cases hlt : (Jr.forms (Jr.recs s)).length < s.length
  rotate_left
  · have hr : Hid (Jr.openJ D f = (D1, some ⟨f, Jr.recs s, false⟩, 0)) := by show _ = _; rw [Hr1.out, if_neg hlt]
    have hd : decide ((Jr.forms (Jr.recs s)).length < s.length) = false := decide_eq_false hlt
    have hz : Hid (OpenTo B d D1 _ _ w _) := open_made HB.out (fun k hk => (HD1.out.1.foot_lt hk).2) HD1.out.2.1 HD1.out.2.2.1 HD1.out.2.2.2 N3.out O3.out (HD1.out.1.nw N3.out) rfl (Upd.refl _ _) (fun k hk => Or.inl hk) hfile.out (by have := Hfr.out; have := Hnow.out; omega)
    clear hlt
    go_wp2_with fail
    go_ret2
    exact ⟨_, by rw [hr.out]; rfl, by rw [hr.out]; exact hz.out⟩
  have hd : decide ((Jr.forms (Jr.recs s)).length < s.length) = true := decide_eq_true hlt
  have hr1 := Hr1.out
  rw [if_pos hlt] at hr1
  have htc := Htc.out w3 N3.out _ hI.out
  generalize Dk.truncate D1 f ((Jr.forms (Jr.recs s)).length : Nat) = S2 at *
  obtain ⟨D2, E2⟩ := S2
  dsimp only at hr1 htc
  have Htc2 := Lib.hid htc
  have Hr2 := Lib.hid hr1
  clear hr1 htc hlt Htc Hr1
  go_wp2_with fail
  (with_reducible refine (Htc2.out).mono ?_)
  rintro _ w4 ⟨rfl, hT4⟩
  obtain ⟨d4, h4, e4, u4, f4⟩ := hT4
  by_cases hE : E2 = 0
  · subst hE
    have hr : Hid (Jr.openJ D f = (D2, some ⟨f, Jr.recs s, false⟩, 0)) := by show _ = _; rw [Hr2.out, if_neg (fun e => e rfl)]
    have hz : Hid (OpenTo B d D2 _ _ w _) := open_made HB.out (fun k hk => (HD1.out.1.foot_lt hk).2) HD1.out.2.1 HD1.out.2.2.1 HD1.out.2.2.2 N3.out O3.out h4 e4 u4 f4 hfile.out (by have := Hfr.out; have := Hnow.out; omega)
    clear h4 u4 f4
    go_wp2_with fail
    go_ret2
    exact ⟨_, by rw [hr.out]; rfl, by rw [hr.out]; exact hz.out⟩
  · have b1 : (E2 == 0) = false := beq_eq_false_iff_ne.2 hE
    have b2 : (E2 != 0) = true := by simp [hE]
    have hr : Hid (Jr.openJ D f = (D2, none, E2)) := by show _ = _; rw [Hr2.out, if_pos hE]
    have hz : Hid (DiskTo B d D2 w w4) := DiskTo.then_ H.out HD1.out.1 HD1.out.2.1 HD1.out.2.2.1 HD1.out.2.2.2 (DiskTo.after N3.out ⟨d4, h4, e4, u4, f4⟩)
    clear h4 u4 f4 hE
    go_wp2_with fail
    go_ret2
    exact ⟨_, by rw [hr.out]; rfl, by rw [hr.out]; exact ⟨rfl, hz.out⟩⟩
end Go.Proofs.YtagmlemlagbfkaaGreatDoor
namespace Go.Proofs.YtagmlemlagbfkaaGreatDoor
open Go.RowKit
set_option linter.unusedVariables false
set_option linter.unusedSimpArgs false
attribute [local irreducible] Calls

/-- A disk, perhaps a journal on it (its block, its state), all of it made since w; the blocks F are none of theirs. -/
def GS (w : World) (db : Nat) (jp : Option (Nat × Jr.Jn)) (D : Dk.Disk) (F : Nat → Prop) (z : World) : Prop :=
  ∃ d, d.db = db ∧ DiskAt w.heap.size z d D ∧ Nw w z ∧ (∀ k, F k → k < z.heap.size ∧ ¬ d.foot k) ∧
    ∀ p, jp = some p → ∃ x, x.jb = p.1 ∧ JrnAt w.heap.size z db x p.2 ∧ (∀ k, d.foot k → ¬ x.foot k) ∧ ∀ k, F k → ¬ x.foot k
def ptrJ : Option (Nat × Jr.Jn) → Value
  | none => .pointer none
  | some p => .pointer (some ⟨p.1, 0, none⟩)
section
variable {w : World} {db : Nat} {jp : Option (Nat × Jr.Jn)} {D D' : Dk.Disk} {F F' S : Nat → Prop} {z z' : World}
theorem GS.nw0 (h : GS w db jp D F z) : Nw w z := by obtain ⟨d, _, _, h, _⟩ := h; exact h
theorem GS.gl (h : GS w db jp D F z) (g : Gl w) : Gl z := g.upd h.nw0
theorem GS.upd (h : GS w db jp D F z) (u : Upd S z z') (hs : ∀ k, S k → (F k ∧ w.heap.size ≤ k) ∨ z.heap.size ≤ k) : GS w db jp D F z' := by
  obtain ⟨d, e, h1, h2, h3, h4⟩ := h
  have hz := u.size
  have hw := h2.size
  refine ⟨d, e, h1.upd u (fun k hk s => ?_), h2.trans' u (fun k hk s => ?_), fun k hk => ⟨by have := (h3 k hk).1; omega, (h3 k hk).2⟩, fun p hp => ?_⟩
  · rcases hs k s with a | a
    · exact (h3 k a.1).2 hk
    · have := (h1.foot_lt hk).2; omega
  · rcases hs k s with a | a <;> omega
  · obtain ⟨x, e2, h5, h6, h7⟩ := h4 p hp
    refine ⟨x, e2, h5.upd u (fun k hk s => ?_), h6, h7⟩
    rcases hs k s with a | a
    · exact h7 k a.1 hk
    · have := (h5.foot_lt hk).2; omega
theorem GS.nw (h : GS w db jp D F z) (u : Nw z z') : GS w db jp D F z' := h.upd u (fun k s => s.elim)
/-- Blocks that have come since are kept from now on. -/
theorem GS.keep (h : GS w db jp D F z) (u : Nw z z') (hF : ∀ k, F' k → F k ∨ (z.heap.size ≤ k ∧ k < z'.heap.size)) : GS w db jp D F' z' := by
  obtain ⟨d, e, h1, h2, h3, h4⟩ := h
  have hz := u.size
  refine ⟨d, e, h1.nw u, h2.trans u, fun k hk => ?_, fun p hp => ?_⟩
  · rcases hF k hk with a | a
    · exact ⟨by have := (h3 k a).1; omega, (h3 k a).2⟩
    · exact ⟨a.2, fun e => by have := (h1.foot_lt e).2; omega⟩
  · obtain ⟨x, e2, h5, h6, h7⟩ := h4 p hp
    refine ⟨x, e2, h5.nw u, h6, fun k hk e3 => ?_⟩
    rcases hF k hk with a | a
    · exact h7 k a e3
    · have := (h5.foot_lt e3).2; omega
/-- A call of the disk alone. -/
theorem gs_disk {d : DiskR} (e : d.db = db) (h1 : DiskAt w.heap.size z d D) (h2 : Nw w z) (h3 : ∀ k, F k → k < z.heap.size ∧ ¬ d.foot k)
    (h4 : ∀ p, jp = some p → ∃ x, x.jb = p.1 ∧ JrnAt w.heap.size z db x p.2 ∧ (∀ k, d.foot k → ¬ x.foot k) ∧ ∀ k, F k → ¬ x.foot k) (t : DiskTo w.heap.size d D' z z') : GS w db jp D' F z' ∧ Upd (fun k => ¬ F k ∧ w.heap.size ≤ k) z z' := by
  obtain ⟨d', k1, k2, k3, k4⟩ := t
  have hz := k3.size
  have hw := h2.size
  refine ⟨⟨d', k2.trans e, k1, h2.trans' k3 (fun k hk s => by have := (h1.foot_lt s).1; omega), fun k hk => ⟨by have := (h3 k hk).1; omega, fun s => ?_⟩, fun p hp => ?_⟩, k3.mono (fun k _ s => ⟨fun f => (h3 k f).2 s, (h1.foot_lt s).1⟩)⟩
  · rcases k4 k s with a | a
    · exact (h3 k hk).2 a
    · have := (h3 k hk).1; omega
  · obtain ⟨x, e2, h5, h6, h7⟩ := h4 p hp
    refine ⟨x, e2, h5.upd k3 (fun k hk s => h6 k s hk), fun k hk s => ?_, h7⟩
    rcases k4 k hk with a | a
    · exact h6 k a s
    · have := (h5.foot_lt s).2; omega
/-- A call of the journal. -/
theorem gs_jrn {p : Nat × Jr.Jn} {j' : Jr.Jn} {d : DiskR} {x : JrnR} (e : d.db = db) (e2 : x.jb = p.1) (h1 : DiskAt w.heap.size z d D) (h2 : Nw w z) (h3 : ∀ k, F k → k < z.heap.size ∧ ¬ d.foot k)
    (h5 : JrnAt w.heap.size z db x p.2) (h7 : ∀ k, F k → ¬ x.foot k) (t : JTo w.heap.size d x D' j' z z') : GS w db (some (p.1, j')) D' F z' ∧ Upd (fun k => ¬ F k ∧ w.heap.size ≤ k) z z' := by
  obtain ⟨d', x', k1, k2, k3, k4, k5⟩ := t
  have hz := k4.size
  have hw := h2.size
  have hlo : ∀ k, d.foot k ∨ x.foot k → w.heap.size ≤ k := fun k s => s.elim (fun s => (h1.foot_lt s).1) (fun s => (h5.foot_lt s).1)
  have hno : ∀ k, F k → ¬ (d'.foot k ∨ x'.foot k) := fun k hk s => by
    rcases k5 k s with (a | a) | a
    · exact (h3 k hk).2 a
    · exact h7 k hk a
    · have := (h3 k hk).1; omega
  refine ⟨⟨d', k2.trans e, k1.disk, h2.trans' k4 (fun k hk s => by have := hlo k s; omega), fun k hk => ⟨by have := (h3 k hk).1; omega, fun s => hno k hk (Or.inl s)⟩, fun q hq => ?_⟩, k4.mono (fun k _ s => ⟨fun f => s.elim (h3 k f).2 (h7 k f), hlo k s⟩)⟩
  obtain rfl := Option.some.inj hq
  exact ⟨x', k3.trans e2, by have := k1.jrn; rw [k2.trans e] at this; exact this, k1.ap, fun k hk s => hno k hk (Or.inr s)⟩
theorem GS.forget (h : GS w db jp D F z) : GS w db none D F z := by
  obtain ⟨d, e, h1, h2, h3, h4⟩ := h
  exact ⟨d, e, h1, h2, h3, fun p hp => by cases hp⟩
theorem GS.parts {p : Nat × Jr.Jn} (h : GS w db (some p) D F z) : ∃ d x, d.db = db ∧ x.jb = p.1 ∧ JSys w.heap.size z d x D p.2 := by
  obtain ⟨d, e, h1, h2, h3, h4⟩ := h
  obtain ⟨x, e2, h5, h6, h7⟩ := h4 p rfl
  exact ⟨d, x, e, e2, ⟨h1, by rw [e]; exact h5, h6⟩⟩
theorem GS.dpart (h : GS w db jp D F z) : ∃ d, d.db = db ∧ DiskAt w.heap.size z d D := by
  obtain ⟨d, e, h1, h2, h3, h4⟩ := h
  exact ⟨d, e, h1⟩
theorem GS.ok (h : GS w db jp D F z) : Dk.Ok D := by obtain ⟨d, _, h⟩ := h.dpart; exact h.ok
/-! ### The calls -/
abbrev Moves (w : World) (F : Nat → Prop) (z z' : World) : Prop := Upd (fun k => ¬ F k ∧ w.heap.size ≤ k) z z'
theorem new_t (w : World) (g : Gl w) : Calls Tryz.prog 36 #[] w fun e z => ∃ db, e = .returned (.pointer (some ⟨db, 0, none⟩)) ∧ GS w db none Dk.new (fun _ => False) z :=
  (dnew_c w g).mono fun e z ⟨r, he, h, u⟩ => ⟨r.db, he, r, rfl, h, u, fun k hk => hk.elim, fun p hp => by cases hp⟩
/-- What Open makes. -/
def OS (w : World) (db : Nat) (D' : Dk.Disk) (jo : Option Jr.Jn) (F : Nat → Prop) (pv : Value) (z : World) : Prop :=
  ∃ jp : Option (Nat × Jr.Jn), jp.map (·.2) = jo ∧ pv = ptrJ jp ∧ GS w db jp D' F z
theorem open_t (h : GS w db jp D F z) (g : Gl w) {f : Int} (hf : I64 f) :
    Calls Tryz.prog 105 #[.pointer (some ⟨db, 0, none⟩), .int .i64 f] z fun e z' => ∃ pv, e = .returned (.tuple #[pv, .int .i64 (Jr.openJ D f).2.2]) ∧ OS w db (Jr.openJ D f).1 (Jr.openJ D f).2.1 F pv z' ∧ Moves w F z z' := by
  have hall := h
  obtain ⟨d, e, h1, h2, h3, h4⟩ := h
  subst e
  refine (Open_c h1 (hall.gl g) h2.size hf).mono fun e z' ⟨pv, he, ht⟩ => ⟨pv, he, ?_⟩
  unfold OpenTo at ht
  cases hj : (Jr.openJ D f).2.1 with
  | none =>
    rw [hj] at ht
    obtain ⟨hp, ht⟩ := ht
    obtain ⟨k1, k2⟩ := gs_disk (jp := none) rfl h1 h2 h3 (fun p hp => by cases hp) ht
    exact ⟨⟨none, rfl, hp, k1⟩, k2⟩
  | some j =>
    rw [hj] at ht
    obtain ⟨d', x, hp, k1, k2, k3, k4, k5⟩ := ht
    have hz := k3.size
    have hw := h2.size
    refine ⟨⟨some (x.jb, j), rfl, hp, d', k2, k1.disk, h2.trans' k3 (fun k hk s => by have := (h1.foot_lt s).1; omega), fun k hk => ⟨by have := (h3 k hk).1; omega, fun s => ?_⟩, fun p hp => ?_⟩, k3.mono (fun k _ s => ⟨fun f => (h3 k f).2 s, (h1.foot_lt s).1⟩)⟩
    · rcases k4 k s with a | a
      · exact (h3 k hk).2 a
      · have := (h3 k hk).1; omega
    · obtain rfl := Option.some.inj hp
      exact ⟨x, rfl, by have := k1.jrn; rw [k2] at this; exact this, k1.ap, fun k hk s => by have := (h3 k hk).1; have := k5 k s; omega⟩
theorem append_t {p : Nat × Jr.Jn} (h : GS w db (some p) D F z) (g : Gl w) (s : List UInt8) (hs : s.length ≤ 1000000) :
    Calls Tryz.prog 111 #[.pointer (some ⟨p.1, 0, none⟩), .string ⟨s.toArray⟩] z fun e z' => e = .returned (.int .i64 (Jr.append D p.2 s).2.2) ∧ GS w db (some (p.1, (Jr.append D p.2 s).2.1)) (Jr.append D p.2 s).1 F z' ∧ Moves w F z z' := by
  have hall := h
  obtain ⟨d, e, h1, h2, h3, h4⟩ := h
  obtain ⟨x, e2, h5, h6, h7⟩ := h4 p rfl
  rw [← e2]
  refine (Append_c (B := w.heap.size) (d := d) (x := x) (j := p.2) ⟨h1, by rw [e]; exact h5, h6⟩ (hall.gl g) h2.size s hs).mono fun e' z' ⟨he, t⟩ => ⟨he, ?_⟩
  have := gs_jrn e e2 h1 h2 h3 h5 h7 t
  rw [← e2] at this
  exact this
theorem jsync_t {p : Nat × Jr.Jn} (h : GS w db (some p) D F z) (g : Gl w) :
    Calls Tryz.prog 112 #[.pointer (some ⟨p.1, 0, none⟩)] z fun e z' => e = .returned (.int .i64 (Jr.syncJ D p.2).2.2) ∧ GS w db (some (p.1, (Jr.syncJ D p.2).2.1)) (Jr.syncJ D p.2).1 F z' ∧ Moves w F z z' := by
  have hall := h
  obtain ⟨d, e, h1, h2, h3, h4⟩ := h
  obtain ⟨x, e2, h5, h6, h7⟩ := h4 p rfl
  rw [← e2]
  refine (JSync_c (B := w.heap.size) (d := d) (x := x) (j := p.2) ⟨h1, by rw [e]; exact h5, h6⟩ (hall.gl g) h2.size).mono fun e' z' ⟨he, t⟩ => ⟨he, ?_⟩
  have := gs_jrn e e2 h1 h2 h3 h5 h7 t
  rw [← e2] at this
  exact this
theorem all_t {p : Nat × Jr.Jn} (h : GS w db (some p) D F z) (g : Gl w) : Calls Tryz.prog 107 #[.pointer (some ⟨p.1, 0, none⟩)] z fun e z' => ∃ v', e = .returned v' ∧ z'.ownsRow z.heap.size tStrJ 1 v' p.2.recs.length (p.2.recs.map bsV) ∧ Nw z z' := by
  have hg := h.gl g
  obtain ⟨d, x, e, e2, h⟩ := h.parts
  rw [← e2]
  exact All_c h.jrn hg
theorem start_t (h : GS w db jp D F z) : Calls Tryz.prog 49 #[.pointer (some ⟨db, 0, none⟩)] z fun e z' => e = .returned (.tuple #[]) ∧ GS w db jp (Dk.start D) F z' ∧ Moves w F z z' := by
  obtain ⟨d, e, h1, h2, h3, h4⟩ := h
  subst e
  exact (start_c h1).mono fun e z' ⟨he, t⟩ => ⟨he, gs_disk rfl h1 h2 h3 h4 t⟩
theorem arm_t (h : GS w db jp D F z) (g : Gl w) {n : Int} (hn : I64 n) (lo hi : Nat) (v : Value) (keep : List Int) (hkI : ∀ x ∈ keep, I64 x) (hs : Sl lo hi z v (keep.map intD)) (hL : keep.length ≤ 1000000000) :
    Calls Tryz.prog 47 #[.pointer (some ⟨db, 0, none⟩), .int .i64 n, v] z fun e z' => e = .returned (.tuple #[]) ∧ GS w db jp (Dk.arm D n keep) F z' ∧ Moves w F z z' := by
  have hall := h
  obtain ⟨d, e, h1, h2, h3, h4⟩ := h
  subst e
  exact (arm_c h1 (hall.gl g) hn lo hi v keep hkI hs hL).mono fun e z' ⟨he, t⟩ => ⟨he, gs_disk rfl h1 h2 h3 h4 t⟩
/-- keep lies ahead of w: nothing that a call here does turns it. -/
theorem crash_t (h : GS w db jp D F z) (g : Gl w) (lo hi : Nat) (hhi : hi ≤ w.heap.size) (v : Value) (keep : List Int) (hkI : ∀ x ∈ keep, I64 x) (hs : Sl lo hi w v (keep.map intD)) :
    Calls Tryz.prog 48 #[.pointer (some ⟨db, 0, none⟩), v] z fun e z' => e = .returned (.tuple #[]) ∧ GS w db jp (Dk.crash D keep) F z' ∧ Moves w F z z' := by
  have hall := h
  obtain ⟨d, e, h1, h2, h3, h4⟩ := h
  subst e
  refine (crash_c h1 (hall.gl g) h2.size lo hi v keep (fun y u => (hs.nw h2).upd u (fun k _ hk s => ?_)) hkI).mono fun e z' ⟨he, t⟩ => ⟨he, gs_disk rfl h1 h2 h3 h4 t⟩
  have := (h1.foot_lt (k := k) (by rcases s with s | s; exact Or.inl s; exact Or.inr (Or.inl s))).1
  omega
end
end Go.Proofs.YtagmlemlagbfkaaGreatDoor
namespace Go.Proofs.YtagmlemlagbfkaaGreatDoor
open Go.RowKit
set_option linter.unusedVariables false
set_option linter.unusedSimpArgs false
attribute [local irreducible] Calls

theorem I64_s {n : Int} (h : -1000000 ≤ n ∧ n ≤ 1000000) : I64 n := by unfold I64; omega
theorem OS.some_ {w : World} {db : Nat} {D' : Dk.Disk} {j : Jr.Jn} {F : Nat → Prop} {pv : Value} {z : World} (h : OS w db D' (some j) F pv z) : ∃ jb, pv = .pointer (some ⟨jb, 0, none⟩) ∧ GS w db (some (jb, j)) D' F z := by
  obtain ⟨jp, h1, h2, h3⟩ := h
  cases jp with
  | none => cases h1
  | some p =>
    obtain ⟨jb, j'⟩ := p
    obtain rfl : j' = j := by simpa using h1
    exact ⟨jb, h2, h3⟩
theorem OS.none_ {w : World} {db : Nat} {D' : Dk.Disk} {F : Nat → Prop} {pv : Value} {z : World} (h : OS w db D' none F pv z) : pv = .pointer none ∧ GS w db none D' F z := by
  obtain ⟨jp, h1, h2, h3⟩ := h
  cases jp with
  | none => exact ⟨h2, h3⟩
  | some p => cases h1
/-- The journal's blocks are kept from now on. -/
theorem GS.freeze {w : World} {db : Nat} {p : Nat × Jr.Jn} {D : Dk.Disk} {F : Nat → Prop} {z : World} (h : GS w db (some p) D F z) : ∃ x, x.jb = p.1 ∧ JrnAt w.heap.size z db x p.2 ∧ GS w db none D (fun k => F k ∨ x.foot k) z := by
  obtain ⟨d, e, h1, h2, h3, h4⟩ := h
  obtain ⟨x, e2, h5, h6, h7⟩ := h4 p rfl
  exact ⟨x, e2, h5, d, e, h1, h2, fun k hk => hk.elim (h3 k) (fun s => ⟨(h5.foot_lt s).2, fun q => h6 k q s⟩), fun q hq => by cases hq⟩
end Go.Proofs.YtagmlemlagbfkaaGreatDoor
namespace Go.Proofs.YtagmlemlagbfkaaGreatDoor
open Go.RowKit
set_option linter.unusedVariables false
set_option linter.unusedSimpArgs false
attribute [local irreducible] Calls

abbrev tFet : TypeId := 189
structure FtR where
  fb : Nat
  jb : Nat
  cv : Value
  kv : Value
  ov : Value
def FtR.foot (x : FtR) (k : Nat) : Prop := k = x.fb ∨ x.cv.ownBlock = some k ∨ x.kv.ownBlock = some k ∨ x.ov.ownBlock = some k
/-- In the blocks from B on lies the fetch x: its contents, its manifest, the prints that have come. -/
structure FtAt (B : Nat) (w : World) (x : FtR) (cs : List (List UInt8)) (m : Ck.Man) (cm : List Int) : Prop where
  hb : nG ≤ B
  fb : B ≤ x.fb
  blk : w.heap[x.fb]? = some (.cells #[.pointer (some ⟨x.jb, 0, none⟩), x.cv, .int .i64 m.print, .int .i64 m.size, x.kv, x.ov] tFet (0, 0))
  oc : w.ownsRow B tStrMU 1 x.cv cs.length (cs.map bsMU)
  ok : w.ownsRow B 3 1 x.kv m.chunks.length (m.chunks.map intD)
  oo : w.ownsRow B 3 1 x.ov cm.length (cm.map intD)
  ne : ∀ k, x.kv.ownBlock = some k → x.ov.ownBlock ≠ some k
section
variable {B : Nat} {w w' : World} {x : FtR} {cs : List (List UInt8)} {m : Ck.Man} {cm : List Int}
theorem FtAt.foot_lt (h : FtAt B w x cs m cm) {k : Nat} (hk : x.foot k) : B ≤ k ∧ k < w.heap.size := by
  rcases hk with rfl | hk | hk | hk
  · exact ⟨h.fb, lt_of_block h.blk⟩
  · exact h.oc.lt k hk
  · exact h.ok.lt k hk
  · exact h.oo.lt k hk
theorem FtAt.upd {S : Nat → Prop} (h : FtAt B w x cs m cm) (u : Upd S w w') (hs : ∀ k, x.foot k → ¬ S k) : FtAt B w' x cs m cm :=
  ⟨h.hb, h.fb, u.keep h.blk (hs _ (Or.inl rfl)), owns_upd' h.oc u (fun k e => hs k (Or.inr (Or.inl e))), owns_upd' h.ok u (fun k e => hs k (Or.inr (Or.inr (Or.inl e)))), owns_upd' h.oo u (fun k e => hs k (Or.inr (Or.inr (Or.inr e)))), h.ne⟩
theorem FtAt.nw (h : FtAt B w x cs m cm) (u : Nw w w') : FtAt B w' x cs m cm := h.upd u (fun _ _ s => s)
theorem FtAt.base {B' : Nat} (h : FtAt B w x cs m cm) (hb : nG ≤ B') (hB : B' ≤ B) : FtAt B' w x cs m cm :=
  ⟨hb, Nat.le_trans hB h.fb, h.blk, owns_base h.oc hB, owns_base h.ok hB, owns_base h.oo hB, h.ne⟩
theorem FtAt.cells (h : FtAt B w x cs m cm) :
    w.cell? ⟨x.fb, 0, none⟩ = some (.pointer (some ⟨x.jb, 0, none⟩)) ∧ w.cell? ⟨x.fb, 1, none⟩ = some x.cv ∧ w.cell? ⟨x.fb, 2, none⟩ = some (.int .i64 m.print) ∧ w.cell? ⟨x.fb, 3, none⟩ = some (.int .i64 m.size) ∧ w.cell? ⟨x.fb, 4, none⟩ = some x.kv ∧ w.cell? ⟨x.fb, 5, none⟩ = some x.ov := by
  refine ⟨?_, ?_, ?_, ?_, ?_, ?_⟩ <;> (rw [cells_cell h.blk]; rfl)
/-- A block of one kind of cells is none of another kind. -/
theorem own_ne2 {w : World} {B1 B2 n1 n2 : Nat} {s1 s2 : Nat} {e1 e2 : TypeId} {v1 v2 : Value} {x1 x2 : List Value} (h1 : w.ownsRow B1 e1 s1 v1 n1 x1) (h2 : w.ownsRow B2 e2 s2 v2 n2 x2) (hne : e1 ≠ e2) {k : Nat} (k1 : v1.ownBlock = some k) (k2 : v2.ownBlock = some k) : False := by
  obtain ⟨_, c1, h1⟩ := own_block h1 k1
  obtain ⟨_, c2, h2⟩ := own_block h2 k2
  rw [h1] at h2
  injection h2 with h2
  injection h2 with _ h2
  exact hne h2
set_option maxRecDepth 100000 in
theorem fmissing_c (h : FtAt B w x cs m cm) (g : Gl w) (hk : m.chunks.length ≤ 1000000) (hm : cm.length ≤ 1000000) :
    Calls Tryz.prog 41 #[.pointer (some ⟨x.fb, 0, none⟩)] w fun e w' => ∃ v', e = .returned v' ∧ w'.ownsRow w.heap.size 3 1 v' (Ft.miss m.chunks cm).length ((Ft.miss m.chunks cm).map intD) ∧ Nw w w' := by
  obtain ⟨c0, c1, c2, c3, c4, c5⟩ := h.cells
  have nd : Nw w w.drew := (Upd.refl _ _).drew
  have HM : Hid (Calls Tryz.prog 108 #[.agg #[.int .i64 m.print, .int .i64 m.size, x.kv], x.ov] w.drew fun e y => ∃ v', e = .returned v' ∧ (y.cell? ⟨x.fb, 2, none⟩ = some (.int .i64 m.print) ∧ y.cell? ⟨x.fb, 3, none⟩ = some (.int .i64 m.size) ∧ y.cell? ⟨x.fb, 4, none⟩ = some x.kv ∧ y.cell? ⟨x.fb, 5, none⟩ = some x.ov) ∧
      Hid (y.ownsRow w.heap.size 3 1 v' (Ft.miss m.chunks cm).length ((Ft.miss m.chunks cm).map intD) ∧ Nw w y)) := by
    refine (missing_c _ _ _ _ m.print m.size x.kv m.chunks x.ov cm _ (g.upd nd) (Sl.of_owns (h.nw nd).ok) (Sl.of_owns (h.nw nd).oo) hk hm).mono ?_
    rintro e y ⟨v', rfl, o, u⟩
    obtain ⟨_, _, d2, d3, d4, d5⟩ := (h.nw (nd.trans u)).cells
    exact ⟨v', rfl, ⟨d2, d3, d4, d5⟩, owns_base o nd.size, nd.trans u⟩
  obtain ⟨ak, ck, hkv⟩ := own_slG h.ok
  obtain ⟨ao, co, hov⟩ := own_slG h.oo
  rw [hkv] at c4 HM
  rw [hov] at c5 HM
  clear h hkv hov
  go_enter Tryz.func41, Tryz.ntmps41
  go_wp2_with fail
  go_region_held3 (fun y => y.cell? ⟨x.fb, 2, none⟩ = some (.int .i64 m.print) ∧ y.cell? ⟨x.fb, 3, none⟩ = some (.int .i64 m.size) ∧ y.cell? ⟨x.fb, 4, none⟩ = some (.slice ak m.chunks.length ck) ∧ y.cell? ⟨x.fb, 5, none⟩ = some (.slice ao cm.length co)) (first | exact ⟨c2, c3, c4, c5⟩ | assumption | go_keep) (first | (go_at_call 108; (with_reducible refine HM.out.mono ?_); rintro _ y2 ⟨v3, rfl, cy2, HO3⟩))
  obtain ⟨a4, c4', rfl⟩ := own_slG HO3.out.1
  clear cy2 HM c0 c1 c2 c3 c4 c5
  go_wp2_with fail
  go_ret
  exact ⟨_, rfl, HO3.out⟩
theorem ftext_results (tmps : Array Value) (w : World) : (results Tryz.f44 tmps).run Tryz.prog w = .ok (.tuple #[tmps.getD 2 undef, tmps.getD 3 undef]) w := by
  simp [results, Tryz.results44, go_sem]
/-- What Text returns. -/
def ftx (cs : List (List UInt8)) (m : Ck.Man) (cm : List Int) : List UInt8 × Int := if Ft.miss m.chunks cm = [] then (textAtU cs m.print, 0) else ([], 33)
set_option maxHeartbeats 1000000 in
set_option maxRecDepth 100000 in
theorem ftext_c (h : FtAt B w x cs m cm) (g : Gl w) (hk : m.chunks.length ≤ 1000000) (hm : cm.length ≤ 1000000) (hcs : cs.length ≤ 90) :
    Calls Tryz.prog 44 #[.pointer (some ⟨x.fb, 0, none⟩)] w fun e w' => e = .returned (.tuple #[.string ⟨(ftx cs m cm).1.toArray⟩, .int .i64 (ftx cs m cm).2]) ∧ Nw w w' := by
  have HM := Lib.hid (fmissing_c h g hk hm)
  have HH := Lib.hid h
  have hml := Ft.miss_len m.chunks cm
  have hml1 : ((Ft.miss m.chunks cm).length : Int) ≤ 1000000 := by omega
  have HT := Lib.hid (fun (y : World) (u : Nw w y) => ctext_wU _ _ x.cv cs m.print y (Sl.of_owns (h.nw u).oc) hcs)
  obtain ⟨ac, cc, hcv⟩ := own_slG h.oc
  rw [hcv] at HT
  by_cases he : Ft.miss m.chunks cm = []
  · have h1 : Hid (ftx cs m cm = (textAtU cs m.print, 0)) := if_pos he
    have hl0 : (Ft.miss m.chunks cm).length = 0 := by rw [he]; rfl
    have d1 : decide (0 < (Ft.miss m.chunks cm).length) = false := decide_eq_false (by omega)
    have HL := Lib.hid hl0
    have HCV := Lib.hid hcv
    clear h he hl0 hml hcv
    generalize (Ft.miss m.chunks cm).length = ml at *
    go_enter Tryz.func44, Tryz.ntmps44
    go_wp2_with fail
    (with_reducible refine (HM.out).mono ?_)
    rintro _ w2 ⟨v2, rfl, o2, u2⟩
    obtain ⟨a2, c2', rfl⟩ := own_slG o2
    obtain ⟨c0, c1, c2, c3, c4, c5⟩ := (HH.out.nw u2).cells
    rw [HCV.out] at c1
    have d2 : ∀ i : Later w2, i.1.cell? ⟨x.fb, 1, none⟩ = some (.slice ac cs.length cc) := fun i => later_cell i c1
    have d3 : ∀ i : Later w2, i.1.cell? ⟨x.fb, 2, none⟩ = some (.int .i64 m.print) := fun i => later_cell i c2
    have U2 := Lib.hid u2
    clear o2 u2 HM c0 c3 c4 c5 HH
    go_wp2_with fail
    refine wp_region_nw (by kernel_rfl) (by kernel_rfl) ?_
    repeat (go_big_quiet_step ((go_at_call 71; exact later_call (HT.out _ (U2.out.trans (Later.nw _))))))
    refine wpQuiet_nil ?_
    intro w3 u3
    replace u3 := later_out u3
    go_wp2_with fail
    (try simp only [Exit.inBlock, Exit.then])
    refine bodyPost_ret (ftext_results _ _) rfl ?_
    rw [h1.out]
    exact ⟨rfl, U2.out.trans u3⟩
  · have h1 : Hid (ftx cs m cm = ([], 33)) := if_neg he
    have hl0 : 0 < (Ft.miss m.chunks cm).length := List.length_pos_iff.2 he
    have d1 : decide (0 < (Ft.miss m.chunks cm).length) = true := decide_eq_true hl0
    clear h he hml hcv HT HH hl0
    generalize (Ft.miss m.chunks cm).length = ml at *
    go_enter Tryz.func44, Tryz.ntmps44
    go_wp2_with fail
    (with_reducible refine (HM.out).mono ?_)
    rintro _ w2 ⟨v2, rfl, o2, u2⟩
    obtain ⟨a2, c2', rfl⟩ := own_slG o2
    have U2 := Lib.hid u2
    clear o2 u2 HM
    go_wp2_with fail
    (try simp only [Exit.inBlock, Exit.then])
    refine bodyPost_ret (ftext_results _ _) rfl ?_
    rw [h1.out]
    exact ⟨rfl, U2.out⟩
end
end Go.Proofs.YtagmlemlagbfkaaGreatDoor
namespace Go.Proofs.YtagmlemlagbfkaaGreatDoor
open Go.RowKit
set_option linter.unusedVariables false
set_option linter.unusedSimpArgs false
attribute [local irreducible] Calls

theorem nw_cell {w w' : World} (u : Nw w w') {a : Addr} {v : Value} (h : w.cell? a = some v) : w'.cell? a = some v := later_cell ⟨w', u⟩ h
theorem GS.upd_keep {w : World} {db : Nat} {jp : Option (Nat × Jr.Jn)} {D : Dk.Disk} {F F' S : Nat → Prop} {z z' : World} (h : GS w db jp D F z) (u : Upd S z z') (hs : ∀ k, S k → (F k ∧ w.heap.size ≤ k) ∨ z.heap.size ≤ k) (hF : ∀ k, F' k → F k ∨ (z.heap.size ≤ k ∧ k < z'.heap.size)) : GS w db jp D F' z' := by
  obtain ⟨d, e, h1, h2, h3, h4⟩ := h
  have hz := u.size
  have hw := h2.size
  refine ⟨d, e, h1.upd u (fun k hk s => ?_), h2.trans' u (fun k hk s => ?_), fun k hk => ?_, fun p hp => ?_⟩
  · rcases hs k s with a | a
    · exact (h3 k a.1).2 hk
    · have := (h1.foot_lt hk).2; omega
  · rcases hs k s with a | a <;> omega
  · rcases hF k hk with a | a
    · exact ⟨by have := (h3 k a).1; omega, (h3 k a).2⟩
    · exact ⟨a.2, fun e => by have := (h1.foot_lt e).2; omega⟩
  · obtain ⟨x, e2, h5, h6, h7⟩ := h4 p hp
    refine ⟨x, e2, h5.upd u (fun k hk s => ?_), h6, fun k hk e3 => ?_⟩
    · rcases hs k s with a | a
      · exact h7 k a.1 hk
      · have := (h5.foot_lt hk).2; omega
    · rcases hF k hk with a | a
      · exact h7 k a e3
      · have := (h5.foot_lt e3).2; omega
/-- A fetch x on the journal j, on the disk db; all of it made since w, apart from the blocks F. -/
structure FS (w : World) (db : Nat) (x : FtR) (j : Jr.Jn) (cs : List (List UInt8)) (m : Ck.Man) (D : Dk.Disk) (F : Nat → Prop) (z : World) : Prop where
  gs : GS w db (some (x.jb, j)) D (fun k => F k ∨ x.foot k) z
  ft : FtAt w.heap.size z x cs m (Ft.come cs j)
  ap : ∀ k, F k → ¬ x.foot k
section
variable {w : World} {db : Nat} {x : FtR} {j j' : Jr.Jn} {cs : List (List UInt8)} {m : Ck.Man} {D D' : Dk.Disk} {F S : Nat → Prop} {z z' : World}
theorem FS.nw0 (h : FS w db x j cs m D F z) : Nw w z := h.gs.nw0
theorem FS.gl (h : FS w db x j cs m D F z) (g : Gl w) : Gl z := g.upd h.nw0
theorem FS.nw (h : FS w db x j cs m D F z) (u : Nw z z') : FS w db x j cs m D F z' := ⟨h.gs.nw u, h.ft.nw u, h.ap⟩
theorem FS.upd (h : FS w db x j cs m D F z) (u : Upd S z z') (hs : ∀ k, S k → (F k ∧ w.heap.size ≤ k) ∨ z.heap.size ≤ k) : FS w db x j cs m D F z' :=
  ⟨h.gs.upd u (fun k s => (hs k s).imp (fun a => ⟨Or.inl a.1, a.2⟩) id), h.ft.upd u (fun k hk s => (hs k s).elim (fun a => h.ap k a.1 hk) (fun a => by have := (h.ft.foot_lt hk).2; omega)), h.ap⟩
/-- Blocks that have come since are kept from now on. -/
theorem FS.keep {F' : Nat → Prop} (h : FS w db x j cs m D F z) (u : Nw z z') (hF : ∀ k, F' k → F k ∨ (z.heap.size ≤ k ∧ k < z'.heap.size)) : FS w db x j cs m D F' z' := by
  refine ⟨h.gs.keep u (fun k hk => ?_), h.ft.nw u, fun k hk e => ?_⟩
  · rcases hk with hk | hk
    · exact (hF k hk).imp Or.inl id
    · exact Or.inl (Or.inr hk)
  · rcases hF k hk with a | a
    · exact h.ap k a e
    · have := (h.ft.foot_lt e).2; omega
theorem FS.forget (h : FS w db x j cs m D F z) : GS w db none D F z := (h.gs.forget).keep (Upd.refl _ _) (fun k hk => Or.inl (Or.inl hk))
theorem FS.ok (h : FS w db x j cs m D F z) : Dk.Ok D := h.gs.ok
theorem FS.recs (h : FS w db x j cs m D F z) : j.recs.length ≤ 16777216 := by
  obtain ⟨d, y, _, _, h2⟩ := h.gs.parts
  exact h2.jrn.len
theorem come_len (cs : List (List UInt8)) (j : Jr.Jn) : (Ft.come cs j).length = j.recs.length := List.length_map _
/-- What a journal's or a disk's call leaves. -/
theorem FS.of_gs (h : FS w db x j cs m D F z) (u : Moves w (fun k => F k ∨ x.foot k) z z') (h' : GS w db (some (x.jb, j')) D' (fun k => F k ∨ x.foot k) z') (e : Ft.come cs j' = Ft.come cs j) : FS w db x j' cs m D' F z' ∧ Moves w F z z' :=
  ⟨⟨h', by rw [e]; exact h.ft.upd u (fun k hk s => s.1 (Or.inr hk)), h.ap⟩, u.mono (fun k _ s => ⟨fun f => s.1 (Or.inl f), s.2⟩)⟩
theorem fmissing_t (h : FS w db x j cs m D F z) (g : Gl w) (hk : m.chunks.length ≤ 1000000) (hr : j.recs.length ≤ 1000000) :
    Calls Tryz.prog 41 #[.pointer (some ⟨x.fb, 0, none⟩)] z fun e z' => ∃ v', e = .returned v' ∧ z'.ownsRow z.heap.size 3 1 v' (Ft.gone cs m j).length ((Ft.gone cs m j).map intD) ∧ Nw z z' :=
  fmissing_c h.ft (h.gl g) hk (by rw [come_len]; exact hr)
theorem ftext_t (h : FS w db x j cs m D F z) (g : Gl w) (hk : m.chunks.length ≤ 1000000) (hr : j.recs.length ≤ 1000000) (hcs : cs.length ≤ 90) :
    Calls Tryz.prog 44 #[.pointer (some ⟨x.fb, 0, none⟩)] z fun e z' => e = .returned (.tuple #[.string ⟨(Ft.ftext cs m j).1.toArray⟩, .int .i64 (Ft.ftext cs m j).2]) ∧ Nw z z' :=
  ftext_c h.ft (h.gl g) hk (by rw [come_len]; exact hr) hcs
set_option maxRecDepth 100000 in
theorem fsync_t (h : FS w db x j cs m D F z) (g : Gl w) :
    Calls Tryz.prog 46 #[.pointer (some ⟨x.fb, 0, none⟩)] z fun e z' => e = .returned (.int .i64 (Jr.syncJ D j).2.2) ∧ FS w db x (Jr.syncJ D j).2.1 cs m (Jr.syncJ D j).1 F z' ∧ Moves w F z z' := by
  obtain ⟨c0, _, _, _, _, _⟩ := h.ft.cells
  have HJ := Lib.hid (jsync_t h.gs g)
  have HH := Lib.hid h
  clear h
  go_enter Tryz.func46, Tryz.ntmps46
  go_wp2_with fail
  (with_reducible refine (HJ.out).mono ?_)
  rintro _ w2 ⟨rfl, s2, u2⟩
  have hz := Lib.hid (HH.out.of_gs u2 s2 (by unfold Ft.come; rw [Ft.sync_recs]))
  clear s2 u2 HJ
  go_wp2_with fail
  go_ret
  exact ⟨rfl, hz.out⟩
/-- A print more has come. -/
theorem FtAt.more {B : Nat} {w z2 : World} {x : FtR} {cm : List Int} {p : Int} {v' : Value} (h : FtAt B w x cs m cm) (o2 : z2.ownsRow B 3 1 v' (cm.length + 1) (cm.map intD ++ [.int .i64 p])) (u2 : Upd (fun k => x.ov.ownBlock = some k) w z2)
    (hb : ∀ k, v'.ownBlock = some k → x.ov.ownBlock = some k ∨ w.heap.size ≤ k) :
    FtAt B (z2.setCell ⟨x.fb, 5, none⟩ v') { x with ov := v' } cs m (cm ++ [p]) ∧ Upd (fun k => k = x.fb ∨ x.ov.ownBlock = some k) w (z2.setCell ⟨x.fb, 5, none⟩ v') ∧ ∀ k, FtR.foot { x with ov := v' } k → x.foot k ∨ (w.heap.size ≤ k ∧ k < (z2.setCell ⟨x.fb, 5, none⟩ v').heap.size) := by
  have hfb := h.fb
  have hgb := h.hb
  have hne : x.ov.ownBlock ≠ some x.fb := fun e => by
    obtain ⟨_, c, hc⟩ := own_block h.oo e
    rw [h.blk] at hc
    injection hc with hc
    injection hc with _ hc
    exact absurd hc (by decide)
  have hltb := lt_of_block h.blk
  have bl := setCell_block (u2.keep h.blk hne) 5 v'
  have U : Upd (fun k => k = x.fb ∨ x.ov.ownBlock = some k) w (z2.setCell ⟨x.fb, 5, none⟩ v') := (u2.mono (fun k _ e => Or.inr e)).setCell (S := fun k => k = x.fb ∨ x.ov.ownBlock = some k) (p := ⟨x.fb, 5, none⟩) (Or.inl (Or.inl rfl)) (by show nG ≤ x.fb; omega) v'
  have o3 : (z2.setCell ⟨x.fb, 5, none⟩ v').ownsRow B 3 1 v' (cm.length + 1) (cm.map intD ++ [.int .i64 p]) := owns_upd' o2 ((Upd.refl (fun k => k = x.fb) z2).set1 (by omega) 5 v') (fun k e e2 => by
    rcases hb k e with e3 | e3
    · exact hne (by rw [e3, e2])
    · omega)
  have ncb : ∀ k, x.cv.ownBlock = some k → ¬ (k = x.fb ∨ x.ov.ownBlock = some k) := fun k e s => by
    rcases s with s | s
    · obtain ⟨_, c, hc⟩ := own_block h.oc e
      rw [s, h.blk] at hc
      injection hc with hc
      injection hc with _ hc
      exact absurd hc (by decide)
    · exact own_ne2 h.oc h.oo (by decide) e s
  have nkb : ∀ k, x.kv.ownBlock = some k → ¬ (k = x.fb ∨ x.ov.ownBlock = some k) := fun k e s => by
    rcases s with s | s
    · obtain ⟨_, c, hc⟩ := own_block h.ok e
      rw [s, h.blk] at hc
      injection hc with hc
      injection hc with _ hc
      exact absurd hc (by decide)
    · exact h.ne k e s
  refine ⟨⟨h.hb, h.fb, by simpa using bl, owns_upd' h.oc U ncb, owns_upd' h.ok U nkb, ?_, fun k e e2 => ?_⟩, U, fun k hk => ?_⟩
  · rw [List.length_append, List.map_append]; exact o3
  · rcases hb k e2 with e3 | e3
    · exact h.ne k e e3
    · have := (h.ok.lt k e).2; omega
  · rcases hk with hk | hk | hk | hk
    · exact Or.inl (Or.inl hk)
    · exact Or.inl (Or.inr (Or.inl hk))
    · exact Or.inl (Or.inr (Or.inr (Or.inl hk)))
    · rcases hb k hk with e3 | e3
      · exact Or.inl (Or.inr (Or.inr (Or.inr e3)))
      · exact Or.inr ⟨e3, (o3.lt k hk).2⟩
end
end Go.Proofs.YtagmlemlagbfkaaGreatDoor
namespace Go.Proofs.YtagmlemlagbfkaaGreatDoor
open Go.RowKit
set_option linter.unusedVariables false
set_option linter.unusedSimpArgs false
attribute [local irreducible] Calls

/-- What Take leaves. -/
def TakeD (w : World) (db : Nat) (x : FtR) (j : Jr.Jn) (cs : List (List UInt8)) (m : Ck.Man) (D : Dk.Disk) (F : Nat → Prop) (i : Int) (t : List UInt8) (z : World) (e : Ending) (z' : World) : Prop :=
  e = .returned (.int .i64 (Ft.take D cs m j i t).2.2) ∧ ∃ x' : FtR, x'.fb = x.fb ∧ FS w db x' (Ft.take D cs m j i t).2.1 cs m (Ft.take D cs m j i t).1 F z' ∧ Moves w F z z'
section
variable {w : World} {db : Nat} {x : FtR} {j j' : Jr.Jn} {cs : List (List UInt8)} {m : Ck.Man} {D D' : Dk.Disk} {F S : Nat → Prop} {z z' : World} {i : Int} {t : List UInt8}
theorem TakeD.no_ {n : Int} (h : FS w db x j cs m D F z) (e : Ft.take D cs m j i t = (D, j, n)) (u : Nw z z') : TakeD w db x j cs m D F i t z (.returned (.int .i64 n)) z' := by
  unfold TakeD
  rw [e]
  exact ⟨rfl, x, rfl, h.nw u, Nw.upd _ u⟩
theorem TakeD.err {n : Int} {x : FtR} (h : FS w db x j cs m D F z) (e : Ft.take D cs m j i t = Jr.append D j t) (e2 : (Jr.append D j t).2.2 = n) (hn : n ≠ 0) (u0 : Nw z z') {z'' : World} (u : Moves w (fun k => F k ∨ x.foot k) z' z'')
    (h' : GS w db (some (x.jb, (Jr.append D j t).2.1)) (Jr.append D j t).1 (fun k => F k ∨ x.foot k) z'') : TakeD w db x j cs m D F i t z (.returned (.int .i64 n)) z'' := by
  unfold TakeD
  rw [e, e2]
  have hr : Ft.come cs (Jr.append D j t).2.1 = Ft.come cs j := by
    rcases Ft.append_recs D j t with ⟨h1, _⟩ | ⟨_, h2⟩
    · rw [e2] at h1; exact absurd h1 hn
    · unfold Ft.come; rw [h2]
  obtain ⟨k1, k2⟩ := (h.nw u0).of_gs u h' hr
  exact ⟨rfl, x, rfl, k1, Nw.trans u0 k2⟩
theorem TakeD.ok {x : FtR} {p : Int} {v' : Value} {z1 z2 z3 : World} (h : FS w db x j cs m D F z) (e : Ft.take D cs m j i t = Jr.append D j t) (e2 : (Jr.append D j t).2.2 = 0) (hp : Ft.prOf cs t = p) (u0 : Nw z z1) (u : Moves w (fun k => F k ∨ x.foot k) z1 z2)
    (h' : GS w db (some (x.jb, (Jr.append D j t).2.1)) (Jr.append D j t).1 (fun k => F k ∨ x.foot k) z2)
    (o2 : z3.ownsRow w.heap.size 3 1 v' ((Ft.come cs j).length + 1) ((Ft.come cs j).map intD ++ [.int .i64 p])) (u2 : Upd (fun k => x.ov.ownBlock = some k) z2 z3)
    (hb : ∀ k, v'.ownBlock = some k → x.ov.ownBlock = some k ∨ z2.heap.size ≤ k) : TakeD w db x j cs m D F i t z (.returned (.int .i64 0)) (z3.setCell ⟨x.fb, 5, none⟩ v') := by
  unfold TakeD
  rw [e, e2]
  have hr : Ft.come cs (Jr.append D j t).2.1 = Ft.come cs j ++ [p] := by
    rcases Ft.append_recs D j t with ⟨_, h2⟩ | ⟨h1, _⟩
    · unfold Ft.come; rw [h2, List.map_append, ← hp]; rfl
    · exact absurd e2 h1
  have hft : FtAt w.heap.size z2 x cs m (Ft.come cs j) := (h.ft.nw u0).upd u (fun k hk s => s.1 (Or.inr hk))
  obtain ⟨k1, k2, k3⟩ := hft.more o2 u2 hb
  have hz := u2.size
  have hov : ∀ k, (k = x.fb ∨ x.ov.ownBlock = some k) → x.foot k := fun k s => s.imp id (fun s => Or.inr (Or.inr s))
  refine ⟨rfl, { x with ov := v' }, rfl, ⟨h'.upd_keep k2 (fun k s => Or.inl ⟨Or.inr (hov k s), (hft.foot_lt (hov k s)).1⟩) (fun k hk => ?_), by rw [hr]; exact k1, fun k hk s => ?_⟩, (Nw.trans u0 (u.mono (S' := fun k => ¬ F k ∧ w.heap.size ≤ k) (fun k _ s => ⟨fun f => s.1 (Or.inl f), s.2⟩))).trans' k2 (fun k hk s => ⟨fun f => h.ap k f (hov k s), (hft.foot_lt (hov k s)).1⟩)⟩
  · rcases hk with hk | hk
    · exact Or.inl (Or.inl hk)
    · exact (k3 k hk).imp Or.inr id
  · rcases k3 k s with a | a
    · exact h.ap k hk a
    · obtain ⟨d, _, hd, _, h3, _⟩ := h'
      have := (h3 k (Or.inl hk)).1; omega
set_option maxHeartbeats 4000000 in
set_option maxRecDepth 100000 in
theorem take_t (h : FS w db x j cs m D F z) (g : Gl w) (hk : m.chunks.length ≤ 1000000) (hr : j.recs.length ≤ 1000000) (hcs : cs.length ≤ 90) (hn : cs.Nodup) (hi : I64 i) (ht : t.length ≤ 1000000) :
    Calls Tryz.prog 42 #[.pointer (some ⟨x.fb, 0, none⟩), .int .i64 i, .string ⟨t.toArray⟩] z (TakeD w db x j cs m D F i t z) := by
  obtain ⟨c0, c1, c2, c3, c4, c5⟩ := h.ft.cells
  have hg := h.gl g
  have HH := Lib.hid h
  have HI := Lib.hid hi
  have HCk := Lib.hid (fun (y : World) (u : Nw z y) => check_c _ _ _ _ x.cv cs m.print m.size x.kv m.chunks i hi t y (Sl.of_owns (h.nw u).ft.oc) hcs (Sl.of_owns (h.nw u).ft.ok) hk)
  have HCo := Lib.hid (fun (y : World) (p : Int) (u : Nw z y) => contains_iN _ _ x.ov (Ft.come cs j) p y (Sl.of_owns (h.nw u).ft.oo) (by rw [come_len]; exact hr))
  have HKc := Lib.hid (int_cells (Sl.of_owns h.ft.ok))
  obtain ⟨ac, cc, hcv⟩ := own_slG h.ft.oc
  obtain ⟨ak, ck, hkv⟩ := own_slG h.ft.ok
  obtain ⟨ao, co, hov⟩ := own_slG h.ft.oo
  rw [hcv] at c1 HCk
  rw [hkv] at c4 HCk HKc
  rw [hov] at c5 HCo
  have hk1 : (m.chunks.length : Int) ≤ 1000000 := by omega
  have HCV := Lib.hid hcv
  have HKV := Lib.hid hkv
  have HOV := Lib.hid hov
  clear h hcv hkv hov
  unfold I64 at hi
  obtain ⟨hi1, hi2⟩ := hi
  by_cases h0 : i < 0
  · have d0 : decide (i < 0) = true := decide_eq_true h0
    have hfin := Lib.hid (fun (y : World) (u : Nw z y) => TakeD.no_ (t := t) HH.out (n := 3) (by unfold Ft.take; rw [if_pos (Or.inl h0)]) u)
    clear h0 HCk HCo HKc
    go_enter Tryz.func42, Tryz.ntmps42
    go_wp2_with fail
    go_ret
    exact hfin.out _ (Upd.refl _ _)
  have d0 : decide (i < 0) = false := decide_eq_false h0
  by_cases h1 : (m.chunks.length : Int) ≤ i
  · have d1 : decide ((m.chunks.length : Int) ≤ i) = true := decide_eq_true h1
    have hfin := Lib.hid (fun (y : World) (u : Nw z y) => TakeD.no_ (t := t) HH.out (n := 3) (by unfold Ft.take; rw [if_pos (Or.inr h1)]) u)
    clear h0 h1 HCk HCo HKc
    go_enter Tryz.func42, Tryz.ntmps42
    go_wp2_with fail
    go_ret
    exact hfin.out _ (Upd.refl _ _)
  have d1 : decide ((m.chunks.length : Int) ≤ i) = false := decide_eq_false h1
  obtain ⟨n, rfl⟩ : ∃ n : Nat, i = n := ⟨i.toNat, by omega⟩
  have hnl : n < m.chunks.length := by omega
  have hnl1 : (n : Int) < m.chunks.length := by omega
  have HT0 : Hid (∀ r, Ft.take D cs m j n t = r ↔ (if Ft.checkM cs m.chunks n t = false then (D, j, 28) else if m.chunks[n] ∈ Ft.come cs j then (D, j, 0) else Jr.append D j t) = r) := fun r => by
    unfold Ft.take
    rw [if_neg (by omega)]
    simp [hnl]
  have m1 : ∀ k : Later z, k.1.cell? ⟨x.fb, 1, none⟩ = some (.slice ac cs.length cc) := fun k => later_cell k c1
  have m2 : ∀ k : Later z, k.1.cell? ⟨x.fb, 2, none⟩ = some (.int .i64 m.print) := fun k => later_cell k c2
  have m3 : ∀ k : Later z, k.1.cell? ⟨x.fb, 3, none⟩ = some (.int .i64 m.size) := fun k => later_cell k c3
  have m4 : ∀ k : Later z, k.1.cell? ⟨x.fb, 4, none⟩ = some (.slice ak m.chunks.length ck) := fun k => later_cell k c4
  have HCh : Hid (Ft.checkM cs m.chunks n t = true → Ft.prOf cs t = m.chunks[n]) := fun h => by
    unfold Ft.checkM at h
    simp only [Bool.and_eq_true, decide_eq_true_eq] at h
    obtain ⟨_, h2, h3⟩ := h
    have e : m.chunks.getD (n : Int).toNat 0 = m.chunks[n] := by simp [hnl]
    rw [e] at h2 h3
    rw [← h3]
    exact Ft.print_of hn h2
  clear h0 h1
  cases hq : Ft.checkM cs m.chunks n t with
  | false =>
    have hfin := Lib.hid (fun (y : World) (u : Nw z y) => TakeD.no_ (t := t) (i := n) HH.out (n := 28) ((HT0.out _).2 (if_pos hq)) u)
    rw [hq] at HCk
    clear HT0 HCh hq HCo HKc
    go_enter Tryz.func42, Tryz.ntmps42
    go_wp2_with fail
    refine wp_region_nw (by kernel_rfl) (by kernel_rfl) ?_
    repeat (go_big_quiet_step ((go_at_call 110; exact later_call (HCk.out _ (Later.nw _)))))
    refine wpQuiet_nil ?_
    intro w2 u2
    replace u2 := later_out u2
    go_wp2_with fail
    go_ret
    exact hfin.out _ u2
  | true =>
    have hp := HCh.out hq
    rcases HKc.out with ⟨_, _, e, _, hnil | ⟨b, off, e2, _, _, hcell⟩⟩
    · simp [hnil] at hnl
    injection e with e3 e4 e5
    subst e3 e5
    subst e2
    have k0 := hcell n hnl
    have HT1 : Hid (∀ r, Ft.take D cs m j n t = r ↔ (if m.chunks[n] ∈ Ft.come cs j then (D, j, 0) else Jr.append D j t) = r) := fun r => by
      rw [HT0.out, if_neg (by rw [hq]; decide)]
    rw [hq] at HCk
    have HP := Lib.hid hp
    clear HT0 HCh hq hcell HKc hp
    generalize m.chunks[n] = p at *
    by_cases hc : p ∈ Ft.come cs j
    · have hfin := Lib.hid (fun (y : World) (u : Nw z y) => TakeD.no_ (t := t) (i := n) HH.out (n := 0) ((HT1.out _).2 (if_pos hc)) u)
      have hy := Lib.hid (fun (y : World) (u : Nw z y) => (show Calls Tryz.prog 103 #[.slice ao (Ft.come cs j).length co, .int .i64 p] y fun e w' => e = .returned (.bool true) ∧ Nw y w' from by have := HCo.out y p u; rw [decide_eq_true hc] at this; exact this))
      clear HT1 hc HCo
      go_enter Tryz.func42, Tryz.ntmps42
      go_wp2_with fail
      refine wp_region_nw (by kernel_rfl) (by kernel_rfl) ?_
      repeat (go_big_quiet_step ((go_at_call 110; exact later_call (HCk.out _ (Later.nw _)))))
      refine wpQuiet_nil ?_
      intro w2 u2
      replace u2 := later_out u2
      have c4' := nw_cell u2 c4
      have c5' := nw_cell u2 c5
      have k0' := nw_cell u2 k0
      have hy2 := Lib.hid (hy.out w2 u2)
      have U2 := Lib.hid u2
      clear hy u2
      go_wp2_with fail
      (with_reducible refine (hy2.out).mono ?_)
      rintro _ w3 ⟨rfl, u3⟩
      have U3 := Lib.hid (U2.out.trans u3)
      clear u3 hy2
      go_wp2_with fail
      go_ret
      exact hfin.out _ U3.out
    · have hy := Lib.hid (fun (y : World) (u : Nw z y) => (show Calls Tryz.prog 103 #[.slice ao (Ft.come cs j).length co, .int .i64 p] y fun e w' => e = .returned (.bool false) ∧ Nw y w' from by have := HCo.out y p u; rw [decide_eq_false hc] at this; exact this))
      have HA : Hid (Ft.take D cs m j n t = Jr.append D j t) := (HT1.out _).2 (if_neg hc)
      have HAp := Lib.hid (fun (y : World) (u : Nw z y) => append_t (HH.out.nw u).gs g t ht)
      have hcl := come_len cs j
      have hcl1 : ((Ft.come cs j).length : Int) ≤ 1000000 := by omega
      clear HT1 hc HCo hcl
      go_enter Tryz.func42, Tryz.ntmps42
      go_wp2_with fail
      refine wp_region_nw (by kernel_rfl) (by kernel_rfl) ?_
      repeat (go_big_quiet_step ((go_at_call 110; exact later_call (HCk.out _ (Later.nw _)))))
      refine wpQuiet_nil ?_
      intro w2 u2
      replace u2 := later_out u2
      have c4' := nw_cell u2 c4
      have c5' := nw_cell u2 c5
      have k0' := nw_cell u2 k0
      have hy2 := Lib.hid (hy.out w2 u2)
      have U2 := Lib.hid u2
      clear hy u2
      go_wp2_with fail
      (with_reducible refine (hy2.out).mono ?_)
      rintro _ w3 ⟨rfl, u3⟩
      have U3 := Lib.hid (U2.out.trans u3)
      have c0' := nw_cell U3.out c0
      have ha := Lib.hid (HAp.out w3 U3.out)
      clear u3 hy2 HAp c4' c5' k0'
      go_wp2_with fail
      (with_reducible refine (ha.out).mono ?_)
      rintro _ w4 ⟨rfl, s4, u4⟩
      have HS4 := Lib.hid s4
      have HU4 := Lib.hid u4
      have h4 : FtAt w.heap.size w4 x cs m (Ft.come cs j) := (HH.out.nw U3.out).ft.upd u4 (fun k hk s => s.1 (Or.inr hk))
      obtain ⟨_, _, _, _, _, c5'⟩ := h4.cells
      rw [HOV.out] at c5'
      have f5' := cells_frozen h4.blk 5
      have H4 := Lib.hid h4
      clear s4 u4 ha h4
      generalize hAp : Jr.append D j t = R at *
      by_cases he : R.2.2 = 0
      · have d2 : (R.2.2 == 0) = true := by simp [he]
        have d3 : (R.2.2 != 0) = false := by simp [he]
        have HO : Hid (w4.ownsRow w.heap.size 3 1 (.slice ao (Ft.come cs j).length co) (Ft.come cs j).length ((Ft.come cs j).map intD)) := by rw [← HOV.out]; exact H4.out.oo
        have hz4 : w.heap.size ≤ w4.heap.size := by have := H4.out.fb; have := lt_of_block H4.out.blk; omega
        have hgw : nG ≤ w.heap.size := H4.out.hb
        have HE := Lib.hid he
        clear he
        go_wp2_with (at_builtin; refine wpList_appL rfl _ _ 22 rfl w.heap.size 3 _ 1 8 Tryz.underlying22 infoIntU rfl (by decide) _ _ _ rfl HO.out [.int .i64 p] rfl rfl ?c1 ?c2 ?c3 hz4 hgw ?_)
        case c1 => intro u hu; rw [List.mem_singleton.1 hu]; rfl
        case c2 => unfold maxLen; omega
        case c3 => omega
        intro v' w9 o9 u9 hob
        obtain ⟨a9, c9, rfl⟩ := own_slG o9
        rw [← HOV.out] at u9 hob
        have hne : x.ov.ownBlock ≠ some x.fb := fun e => by
          obtain ⟨_, c, hc⟩ := own_block H4.out.oo e
          rw [H4.out.blk] at hc
          injection hc with hc
          injection hc with _ hc
          exact absurd hc (by decide)
        have kb := u9.keep H4.out.blk hne
        have q1 := cells_cell kb 5
        have q2 := cells_frozen kb 5
        simp only [List.getElem?_toArray, List.getElem?_cons_succ, List.getElem?_cons_zero] at q1
        subst hAp
        have hfin := Lib.hid (TakeD.ok HH.out HA.out HE.out HP.out U3.out HU4.out HS4.out o9 u9 hob)
        clear o9 u9 hob kb hne
        go_wp2_with fail
        go_ret
        exact hfin.out
      · have d2 : (R.2.2 == 0) = false := by simp [he]
        have d3 : (R.2.2 != 0) = true := by simp [he]
        subst hAp
        have hfin := Lib.hid (TakeD.err HH.out HA.out rfl he U3.out HU4.out HS4.out)
        clear he c5' f5'
        generalize (Jr.append D j t).2.2 = n2 at *
        go_wp2_with fail
        go_ret
        exact hfin.out
end
end Go.Proofs.YtagmlemlagbfkaaGreatDoor
namespace Go.Proofs.YtagmlemlagbfkaaGreatDoor
open Go.RowKit
set_option linter.unusedVariables false
set_option linter.unusedSimpArgs false
attribute [local irreducible] Calls

theorem fopen_results (tmps : Array Value) (w : World) : (results Tryz.f38 tmps).run Tryz.prog w = .ok (.tuple #[tmps.getD 8 undef, tmps.getD 9 undef]) w := by
  simp [results, Tryz.results38, go_sem]
/-- What Open leaves. -/
def FOD (w : World) (db : Nat) (cs : List (List UInt8)) (m : Ck.Man) (R : Dk.Disk × Option Jr.Jn × Int) (F : Nat → Prop) (z : World) (e : Ending) (z' : World) : Prop :=
  ∃ pv, e = .returned (.tuple #[pv, .int .i64 R.2.2]) ∧ Moves w F z z' ∧
    ((R.2.1 = none ∧ pv = .pointer none ∧ GS w db none R.1 F z') ∨ ∃ j x, R.2.1 = some j ∧ pv = .pointer (some ⟨FtR.fb x, 0, none⟩) ∧ FS w db x j cs m R.1 F z')
theorem GS.sz {w : World} {db : Nat} {jp : Option (Nat × Jr.Jn)} {D : Dk.Disk} {F : Nat → Prop} {z : World} (h : GS w db jp D F z) : ∀ k, F k → k < z.heap.size := by
  obtain ⟨d, _, _, _, h3, _⟩ := h
  exact fun k hk => (h3 k hk).1
/-- The blocks of a slice that reads as a list. -/
theorem Sl.kept {lo hi : Nat} {w z z' : World} {F : Nat → Prop} {v : Value} {xs : List Value} (h : Sl lo hi z v xs) (u : Moves w F z z') (hF : ∀ k, lo ≤ k → k < hi → F k ∨ k < w.heap.size) : Sl lo hi z' v xs :=
  h.upd u (fun k h1 h2 s => (hF k h1 h2).elim (fun f => s.1 f) (fun f => by have := s.2; omega))
theorem owns_kept {w z z' : World} {F : Nat → Prop} {B sz n : Nat} {e : TypeId} {v : Value} {xs : List Value} (h : z.ownsRow B e sz v n xs) (u : Moves w F z z') (hF : ∀ k, v.ownBlock = some k → F k ∨ k < w.heap.size) : z'.ownsRow B e sz v n xs :=
  owns_upd' h u (fun k e s => (hF k e).elim (fun f => s.1 f) (fun f => by have := s.2; omega))
section
variable {w : World} {db : Nat} {jp : Option (Nat × Jr.Jn)} {cs : List (List UInt8)} {m : Ck.Man} {D D' : Dk.Disk} {F S : Nat → Prop} {z z' : World} {f : Int}
theorem FOD.no_ {R : Dk.Disk × Option Jr.Jn × Int} {n : Int} (h : GS w db jp R.1 F z') (u : Moves w F z z') (e1 : R.2.1 = none) (e2 : R.2.2 = n) : FOD w db cs m R F z (.returned (.tuple #[.pointer none, .int .i64 n])) z' := by
  refine ⟨_, by rw [e2], u, Or.inl ⟨e1, rfl, h.forget⟩⟩
theorem FOD.yes {R : Dk.Disk × Option Jr.Jn × Int} {j : Jr.Jn} {jb : Nat} {x : FtR} {z1 : World} (h : GS w db (some (jb, j)) R.1 F z1) (u : Moves w F z z1) (u1 : Nw z1 z') (ft : FtAt z1.heap.size z' x cs m (Ft.come cs j)) (hx : x.jb = jb) (e1 : R.2.1 = some j) (e2 : R.2.2 = 0) : FOD w db cs m R F z (.returned (.tuple #[.pointer (some ⟨x.fb, 0, none⟩), .int .i64 0])) z' := by
  subst hx
  have hnw := h.nw0
  have hs := h.sz
  have hb : nG ≤ w.heap.size := by obtain ⟨_, _, hd, _⟩ := h; exact hd.hb
  refine ⟨_, by rw [e2], u.nw u1, Or.inr ⟨j, x, e1, rfl, ⟨h.keep u1 (fun k hk => ?_), ft.base hb hnw.size, fun k hk s => ?_⟩⟩⟩
  · rcases hk with hk | hk
    · exact Or.inl hk
    · exact Or.inr (ft.foot_lt hk)
  · have := hs k hk; have := (ft.foot_lt s).1; omega
def comeN (cs : List (List UInt8)) (l : List (List UInt8)) (n : Nat) : List Int := (l.take n).map (Ft.prOf cs)
theorem comeN_succ {cs : List (List UInt8)} {l : List (List UInt8)} {n : Nat} (h : n < l.length) : comeN cs l (n + 1) = comeN cs l n ++ [Ft.prOf cs l[n]] := by
  unfold comeN; rw [List.take_succ_eq_append_getElem h, List.map_append]; rfl
theorem comeN_all (cs : List (List UInt8)) (j : Jr.Jn) : comeN cs j.recs j.recs.length = Ft.come cs j := by unfold comeN; rw [List.take_length]; rfl
theorem comeN_len {cs : List (List UInt8)} {l : List (List UInt8)} {n : Nat} (h : n ≤ l.length) : (comeN cs l n).length = n := by unfold comeN; rw [List.length_map, List.length_take, Nat.min_eq_left h]
theorem ft_made {w3 y1 w5 : World} {jb : Nat} {p zz : Int} {l : List Int} {sl cv' kv : Value} (hb : nG ≤ w3.heap.size) (u1 : Nw w3 y1) (oc : y1.ownsRow w3.heap.size tStrMU 1 cv' cs.length (cs.map bsMU))
    (u5 : Nw (y1.alloc (.cells #[.pointer (some ⟨jb, 0, none⟩), cv', .int .i64 p, .int .i64 zz, sl, .slice none 0 0] tFet)) w5) (ok : w5.ownsRow (y1.heap.size + 1) 3 1 kv l.length (l.map intD)) :
    FtAt w3.heap.size (w5.setCell ⟨y1.heap.size, 4, none⟩ kv) ⟨y1.heap.size, jb, cv', kv, .slice none 0 0⟩ cs ⟨p, zz, l⟩ [] ∧ Nw w3 (w5.setCell ⟨y1.heap.size, 4, none⟩ kv) := by
  have hz := u1.size
  have na := nw_alloc y1 (.cells #[.pointer (some ⟨jb, 0, none⟩), cv', .int .i64 p, .int .i64 zz, sl, .slice none 0 0] tFet)
  have bl := u5.keep (heap_new y1 (.cells #[.pointer (some ⟨jb, 0, none⟩), cv', .int .i64 p, .int .i64 zz, sl, .slice none 0 0] tFet))
  have U : Upd (fun k => k = y1.heap.size) w5 (w5.setCell ⟨y1.heap.size, 4, none⟩ kv) := (Upd.refl _ _).set1 (by omega) 4 kv
  refine ⟨⟨hb, hz, by simpa using setCell_block bl 4 kv, owns_upd' (owns_upd' oc (na.trans u5) (fun _ _ e => e)) U (fun k e e2 => by have := (oc.lt k e).2; omega), owns_base (owns_upd' ok U (fun k e e2 => by have := (ok.lt k e).1; omega)) (by omega), World.ownsRow_nil _ _ _ _, fun k e e2 => by cases e2⟩, ((u1.trans na).trans u5).trans' U (fun k hk e => by omega)⟩
set_option maxHeartbeats 4000000 in
set_option maxRecDepth 100000 in
theorem fopen_t (h : GS w db jp D F z) (g : Gl w) (hf : I64 f) {B : Nat} {v : Value} (hv : z.ownsRow B tStrMU 1 v cs.length (cs.map bsMU)) (hvF : ∀ k, v.ownBlock = some k → F k ∨ k < w.heap.size) {lo hi : Nat} {cv : Value} (hc : Sl lo hi z cv (m.chunks.map intD)) (hcF : ∀ k, lo ≤ k → k < hi → F k ∨ k < w.heap.size)
    (hl : CntOkU cs) (hn : cs.Nodup) (hl2 : m.chunks.length ≤ 1000000) :
    Calls Tryz.prog 38 #[.pointer (some ⟨db, 0, none⟩), .int .i64 f, v, .agg #[.int .i64 m.print, .int .i64 m.size, cv]] z (FOD w db cs m (Ft.fopen D f cs m) F z) := by
  have hgz := h.gl g
  have hgb := hgz.big
  obtain ⟨p, zz, l⟩ := m
  dsimp only at hc hl2 ⊢
  obtain ⟨a, cap, rfl, -, -⟩ := int_cells hc
  have n1 := nw_alloc z (.cells #[.int .i64 p, .int .i64 zz, .slice a l.length cap] tManU)
  have b1 := heap_new z (.cells #[.int .i64 p, .int .i64 zz, .slice a l.length cap] tManU)
  have h1 := h.nw n1
  have HR := Lib.hid (right_c _ _ lo hi v cs p zz _ l _ (hgz.upd n1) (Sl.of_owns (owns_upd' hv n1 (fun _ _ e => e))) hl hn (hc.nw n1) hl2)
  obtain ⟨av, cav, rfl⟩ := own_slG hv
  have HN := Lib.hid n1
  have HB := Lib.hid (fun (y : World) (u : Nw (z.alloc (.cells #[.int .i64 p, .int .i64 zz, .slice a l.length cap] tManU)) y) => u.keep b1)
  have HZ := Lib.hid (show z.heap.size < (z.alloc (.cells #[.int .i64 p, .int .i64 zz, .slice a l.length cap] tManU)).heap.size from lt_of_block b1)
  have HG := Lib.hid h1
  have HG0 := Lib.hid h
  have HV := Lib.hid hv
  have HVF := Lib.hid hvF
  have HCS := Lib.hid hc
  have HCF := Lib.hid hcF
  have HL := Lib.hid hl
  have k0 : (z.alloc (.cells #[.int .i64 p, .int .i64 zz, .slice a l.length cap] tManU)).cell? ⟨z.heap.size, 0, none⟩ = some (.int .i64 p) := by rw [cells_cell b1]; rfl
  clear hv hc n1 b1 h h1 hvF hcF hl
  have hdef : ∀ b, Ft.rightM cs ⟨p, zz, l⟩ = b → Ft.fopen D f cs ⟨p, zz, l⟩ = (if b = false then (D, none, 1) else if (Jr.openJ D f).2.2 ≠ 0 then ((Jr.openJ D f).1, none, (Jr.openJ D f).2.2) else match (Jr.openJ D f).2.1 with
      | none => ((Jr.openJ D f).1, none, 28)
      | some j => if Ft.fitsJ cs ⟨p, zz, l⟩ j then ((Jr.openJ D f).1, some j, 0) else ((Jr.openJ D f).1, none, 28)) := fun b hb => by rw [← hb]; rfl
  cases hq : Ft.rightM cs ⟨p, zz, l⟩ with
  | false =>
    have e := hdef _ hq
    rw [if_pos rfl] at e
    have E := Lib.hid e
    rw [hq] at HR
    clear e hdef hq
    go_enter Tryz.func38, Tryz.ntmps38
    go_wp2_with fail
    (with_reducible refine (HR.out).mono ?_)
    rintro _ w2 ⟨rfl, u2⟩
    have U2 := Lib.hid u2
    clear u2 HR
    go_wp2_with fail
    (try simp only [Exit.inBlock, Exit.then])
    refine bodyPost_ret (fopen_results _ _) rfl ?_
    rw [E.out]
    exact FOD.no_ (HG.out.nw U2.out) (Nw.upd _ (HN.out.trans U2.out)) rfl rfl
  | true =>
    have e := hdef _ hq
    rw [if_neg (by decide)] at e
    have E := Lib.hid e
    rw [hq] at HR
    clear e hdef hq
    have HO := Lib.hid (fun (y : World) (u : Nw (z.alloc (.cells #[.int .i64 p, .int .i64 zz, .slice a l.length cap] tManU)) y) => open_t (HG0.out.keep (F' := fun k => F k ∨ k = z.heap.size) (HN.out.trans u) (fun k hk => hk.imp id (fun e => by have := HZ.out; have := u.size; omega))) g hf)
    go_enter Tryz.func38, Tryz.ntmps38
    go_wp2_with fail
    (with_reducible refine (HR.out).mono ?_)
    rintro _ w2 ⟨rfl, u2⟩
    have U2 := Lib.hid u2
    have ho := Lib.hid (HO.out w2 u2)
    clear u2 HR HO
    go_wp2_with fail
    (with_reducible refine (ho.out).mono ?_)
    rintro _ w3 ⟨pv, rfl, o3, u3⟩
    have hmv : Moves w F z w3 := (Nw.upd _ (HN.out.trans U2.out)).trans (u3.mono (fun k _ s => ⟨fun e => s.1 (Or.inl e), s.2⟩))
    have hv3 := owns_kept (owns_upd' HV.out (HN.out.trans U2.out) (fun _ _ e => e)) u3 (fun k e => (HVF.out k e).imp Or.inl id)
    have hc3 := (HCS.out.nw (HN.out.trans U2.out)).kept u3 (fun k h1 h2 => (HCF.out k h1 h2).imp Or.inl id)
    have hb3 := u3.keep (HB.out w2 U2.out) (fun s => s.1 (Or.inr rfl))
    have HMV := Lib.hid hmv
    have HV3 := Lib.hid hv3
    have HC3 := Lib.hid hc3
    have HB3 := Lib.hid hb3
    have hoe := Ft.open_err D f
    have O3 := Lib.hid o3
    clear u3 ho hmv hv3 hc3 hb3 o3
    generalize Jr.openJ D f = R at *
    obtain ⟨D', jo, err⟩ := R
    dsimp only at *
    cases jo with
    | none =>
      have he : err ≠ 0 := fun e => by have := hoe.1 e; cases this
      have d2 : (err == 0) = false := by simp [he]
      have d3 : (err != 0) = true := by simp [he]
      obtain ⟨rfl, s3⟩ := O3.out.none_
      have hfin : Hid (FOD w db cs ⟨p, zz, l⟩ (Ft.fopen D f cs ⟨p, zz, l⟩) F z (.returned (.tuple #[.pointer none, .int .i64 err])) w3) := by
        show FOD _ _ _ _ _ _ _ _ _
        rw [E.out, if_pos he]
        exact FOD.no_ (s3.keep (Upd.refl _ _) (fun k hk => Or.inl (Or.inl hk))) HMV.out rfl rfl
      clear he hoe s3 O3 E
      go_wp2_with fail
      (try simp only [Exit.inBlock, Exit.then])
      refine bodyPost_ret (fopen_results _ _) rfl ?_
      exact hfin.out
    | some j =>
      have he : err = 0 := hoe.2 rfl
      subst he
      obtain ⟨jb, rfl, s3⟩ := O3.out.some_
      rw [if_neg (by decide)] at E
      have S3 := Lib.hid s3
      have hg3 := s3.gl g
      have G3 := Lib.hid hg3
      have nd : Nw w3 w3.drew := (Upd.refl _ _).drew
      have cl : ∀ y, Nw w3 y → y.cell? ⟨z.heap.size, 0, none⟩ = some (.int .i64 p) ∧ y.cell? ⟨z.heap.size, 1, none⟩ = some (.int .i64 zz) ∧ y.cell? ⟨z.heap.size, 2, none⟩ = some (.slice a l.length cap) := fun y u => ⟨by rw [cells_cell (Nw.keep u HB3.out)]; rfl, by rw [cells_cell (Nw.keep u HB3.out)]; rfl, by rw [cells_cell (Nw.keep u HB3.out)]; rfl⟩
      have hF : Calls Tryz.prog 83 #[.slice av cs.length cav] w3.drew fun e y => ∃ a2 c2, e = .returned (.slice a2 cs.length c2) ∧ (y.cell? ⟨z.heap.size, 0, none⟩ = some (.int .i64 p) ∧ y.cell? ⟨z.heap.size, 1, none⟩ = some (.int .i64 zz) ∧ y.cell? ⟨z.heap.size, 2, none⟩ = some (.slice a l.length cap)) ∧
          Hid (y.ownsRow w3.heap.size tStrMU 1 (.slice a2 cs.length c2) cs.length (cs.map bsMU) ∧ Nw w3 y) := by
        refine (clone_mU B _ cs _ (hg3.upd nd) (owns_upd' HV3.out nd (fun _ _ e => e)) (by have := HL.out.n; omega)).mono ?_
        rintro e y ⟨v2, rfl, o2, u2⟩
        obtain ⟨a2, c2, rfl⟩ := own_slG o2
        exact ⟨a2, c2, rfl, cl y (nd.trans u2), o2, nd.trans u2⟩
      have HF := Lib.hid hF
      obtain ⟨q0, q1, q2⟩ := cl _ nd
      have CL := Lib.hid cl
      clear hF cl s3 O3 hoe hg3
      go_wp2_with fail
      go_region_held3 (fun y => y.cell? ⟨z.heap.size, 0, none⟩ = some (.int .i64 p) ∧ y.cell? ⟨z.heap.size, 1, none⟩ = some (.int .i64 zz) ∧ y.cell? ⟨z.heap.size, 2, none⟩ = some (.slice a l.length cap)) (first | exact ⟨q0, q1, q2⟩ | assumption | go_keep) (first | (go_at_call 83; (with_reducible refine HF.out.mono ?_); rintro _ y1 ⟨a3, c3, rfl, cy1, HM⟩))
      have hm := HM.out
      have hz1 := hm.2.size
      have na := nw_alloc y1 (.cells #[.pointer (some ⟨jb, 0, none⟩), .slice a3 cs.length c3, .int .i64 p, .int .i64 zz, .slice a l.length cap, .slice none 0 0] tFet)
      have nb := heap_new y1 (.cells #[.pointer (some ⟨jb, 0, none⟩), .slice a3 cs.length c3, .int .i64 p, .int .i64 zz, .slice a l.length cap, .slice none 0 0] tFet)
      obtain ⟨_, _, r2⟩ := CL.out _ (hm.2.trans na)
      have HCl := Lib.hid (clone_i _ _ _ l _ (G3.out.upd (hm.2.trans na)) (HC3.out.nw (hm.2.trans na)) (by omega))
      have NB := Lib.hid nb
      clear cy1 HF q0 q1 q2 nb hm
      go_wp2_with fail
      (with_reducible refine (HCl.out).mono ?_)
      rintro _ w5 ⟨kv, rfl, o5, u5⟩
      obtain ⟨ak, ck, rfl⟩ := own_slG o5
      have kb := u5.keep NB.out
      have r3 := cells_cell kb 4
      simp only [List.getElem?_toArray, List.getElem?_cons_succ, List.getElem?_cons_zero] at r3
      have f3 := cells_frozen kb 4
      rw [World.size_alloc] at o5
      obtain ⟨fa, nw6⟩ := ft_made (jb := jb) (p := p) (zz := zz) (sl := .slice a l.length cap) (by have := G3.out.big; omega) HM.out.2 HM.out.1 u5 o5
      have FA := Lib.hid fa
      have N6 := Lib.hid nw6
      have HAll := Lib.hid (all_t (S3.out.nw nw6) g)
      clear o5 u5 kb fa nw6 NB HCl na
      go_wp2_with fail
      (with_reducible refine (HAll.out).mono ?_)
      rintro _ w7 ⟨v7, rfl, o7, u7⟩
      obtain ⟨a7, c7, rfl⟩ := own_slG o7
      have N7 := Lib.hid (N6.out.trans u7)
      have F7 := Lib.hid (FA.out.nw u7)
      have HO7 := Lib.hid o7
      have hfb1 := FA.out.fb
      have hfb2 := lt_of_block FA.out.blk
      dsimp only at hfb1 hfb2
      have hrl := (by obtain ⟨d', y, _, _, h2⟩ := S3.out.parts; exact h2.jrn.len : j.recs.length ≤ 16777216)
      have hrl1 : (j.recs.length : Int) ≤ 16777216 := by omega
      have HPr := Lib.hid (fun (y : World) (s : List UInt8) (u : Nw w3 y) => cprint_wU _ _ _ cs s y (Sl.of_owns (owns_upd' HV3.out u (fun _ _ e => e))) HL.out.n)
      have HCo := Lib.hid (fun (y : World) (q : Int) (u : Nw w3 y) => contains_iN _ _ _ l q y (HC3.out.nw u) hl2)
      have F70 : Hid (∃ x : FtR, x.fb = y1.heap.size ∧ x.jb = jb ∧ (∀ k, x.ov.ownBlock = some k → w7.heap.size ≤ k) ∧ FtAt w3.heap.size w7 x cs ⟨p, zz, l⟩ (comeN cs j.recs 0)) := ⟨_, rfl, rfl, (fun k e => by cases e), F7.out⟩
      clear o7 u7 HAll FA F7 N6 r2 HM r3 f3 hz1
      generalize y1.heap.size = fb at *
      go_wp2_with fail
      go_loopw [45] (fun iv wr => ∃ n : Nat, n ≤ j.recs.length ∧ iv = .int .i64 (n : Int) ∧ Hid (∃ x : FtR, x.fb = fb ∧ x.jb = jb ∧ (∀ k, x.ov.ownBlock = some k → w7.heap.size ≤ k) ∧ FtAt w3.heap.size wr x cs ⟨p, zz, l⟩ (comeN cs j.recs n)) ∧ Hid (∀ q ∈ comeN cs j.recs n, q ∈ l) ∧ Hid (Upd (fun k => k = fb) w7 wr)) (fun iv _ => j.recs.length - (intOf iv).toNat)
      case atStart => exact ⟨0, Nat.zero_le _, rfl, F70, (fun q hq => by unfold comeN at hq; simp at hq), Upd.refl _ _⟩
      case round =>
        obtain ⟨n, hn, rfl, FX, HA, U⟩ := hrel
        by_cases hlt : n < j.recs.length
        · have HN7 : Nw w3 wr := N7.out.trans' U.out (fun k hk e => by omega)
          rcases strs_cellsU (Sl.of_owns (owns_upd' HO7.out U.out (fun k e s => by have := (HO7.out.lt k e).1; omega))) with ⟨_, _, e, hnil | ⟨b, off, e2, hcell⟩⟩
          · simp [hnil] at hlt
          injection e with e3 e4 e5
          subst e3 e5
          subst e2
          have c0 : wr.cell? ⟨b, off + n, none⟩ = some (.string ⟨j.recs[n].toArray⟩) := hcell n hlt
          have hlt1 : (n : Int) < j.recs.length := by omega
          have hct := comeN_succ (cs := cs) hlt
          have Hct := Lib.hid hct
          have NW : Nw w3 wr := HN7
          have hp2 := Lib.hid (HPr.out wr j.recs[n] NW)
          have hNW := Lib.hid NW
          clear hcell hct
          have hpd : Ft.prOf cs j.recs[n] = idxI (fun x => decide (x = j.recs[n])) cs := rfl
          rw [← hpd] at hp2
          have hmem : j.recs[n] ∈ j.recs := List.getElem_mem hlt
          have HMem : Hid (Ft.prOf cs j.recs[n] ∉ l → Ft.fitsJ cs ⟨p, zz, l⟩ j = false) := fun hno => by
            cases hc : Ft.fitsJ cs ⟨p, zz, l⟩ j with
            | false => rfl
            | true =>
              unfold Ft.fitsJ Ft.come at hc
              rw [List.all_eq_true] at hc
              exact absurd (of_decide_eq_true (hc _ (List.mem_map.2 ⟨_, hmem, rfl⟩))) hno
          clear hpd hmem
          generalize Ft.prOf cs j.recs[n] = q at *
          generalize j.recs[n] = s at *
          go_wp2_with fail
          (with_reducible refine (hp2.out).mono ?_)
          rintro _ w8 ⟨rfl, u8⟩
          have N8 := Lib.hid (hNW.out.trans u8)
          have U8 := Lib.hid (U.out.nw u8)
          have HU8 := Lib.hid u8
          obtain ⟨_, _, r2⟩ := CL.out w8 N8.out
          have hy := Lib.hid (HCo.out w8 q N8.out)
          clear u8 hp2 c0 NW
          by_cases hin : q ∈ l
          · rw [decide_eq_true hin] at hy
            obtain ⟨x, hx1, hx2, hx3, fx⟩ := FX.out
            subst hx1
            have HX3 := Lib.hid hx3
            clear hx3
            have HIN := Lib.hid hin
            have FX8 := Lib.hid (fx.nw HU8.out)
            have hov := own_slG fx.oo
            clear hin fx FX
            go_wp2_with fail
            (with_reducible refine (hy.out).mono ?_)
            rintro _ w9 ⟨rfl, u9⟩
            have N9 := Lib.hid (N8.out.trans u9)
            have U9 := Lib.hid (U8.out.nw u9)
            have FX9 := Lib.hid (FX8.out.nw u9)
            obtain ⟨ao, co, hov⟩ := hov
            rw [comeN_len (Nat.le_of_lt hlt)] at hov
            have h5 := FX9.out.cells.2.2.2.2.2
            rw [hov] at h5
            have HO : Hid (w9.ownsRow w3.heap.size 3 1 (.slice ao n co) n ((comeN cs j.recs n).map intD)) := by
              have := FX9.out.oo
              rw [hov, comeN_len (Nat.le_of_lt hlt)] at this
              exact this
            have hz9 : w3.heap.size ≤ w9.heap.size := N9.out.size
            have hgw := FX9.out.hb
            have HOV := Lib.hid hov
            clear hov hy u9 FX8 HCo HPr
            go_wp2_with (at_builtin; refine wpList_appL rfl _ _ 22 rfl w3.heap.size 3 _ 1 8 Tryz.underlying22 infoIntU rfl (by decide) _ _ _ rfl HO.out [.int .i64 q] rfl rfl ?c1 ?c2 ?c3 hz9 hgw ?_)
            case c1 => intro u hu; rw [List.mem_singleton.1 hu]; rfl
            case c2 => unfold maxLen; omega
            case c3 => omega
            intro v' w10 o10 u10 hob
            obtain ⟨a10, c10, rfl⟩ := own_slG o10
            rw [← HOV.out] at u10 hob
            have hne : x.ov.ownBlock ≠ some x.fb := fun e => by
              obtain ⟨_, c, hc⟩ := own_block FX9.out.oo e
              rw [FX9.out.blk] at hc
              injection hc with hc
              injection hc with _ hc
              exact absurd hc (by decide)
            have kb := u10.keep FX9.out.blk hne
            have q1 := cells_cell kb 5
            have q2 := cells_frozen kb 5
            simp only [List.getElem?_toArray, List.getElem?_cons_succ, List.getElem?_cons_zero] at q1
            have hlen : (comeN cs j.recs n).length = n := comeN_len (Nat.le_of_lt hlt)
            obtain ⟨g1, g2, g3⟩ := FX9.out.more (p := q) (v' := .slice a10 (n + 1) c10) (by rw [hlen]; exact o10) u10 hob
            have hfx : Hid (∃ y : FtR, y.fb = x.fb ∧ y.jb = jb ∧ (∀ k, y.ov.ownBlock = some k → w7.heap.size ≤ k) ∧ FtAt w3.heap.size (w10.setCell ⟨x.fb, 5, none⟩ (.slice a10 (n + 1) c10)) y cs ⟨p, zz, l⟩ (comeN cs j.recs (n + 1))) := ⟨{ x with ov := .slice a10 (n + 1) c10 }, rfl, hx2, (fun k e => (hob k e).elim (HX3.out k) (fun h => by have := U9.out.size; omega)), by rw [Hct.out]; exact g1⟩
            have hA : Hid (∀ r ∈ comeN cs j.recs (n + 1), r ∈ l) := fun r hr => by
              rw [Hct.out] at hr
              rcases List.mem_append.1 hr with hr | hr
              · exact HA.out r hr
              · rw [List.mem_singleton.1 hr]; exact HIN.out
            have hU := Lib.hid (U9.out.trans' g2 (fun k hk e => e.elim id (fun e => by have := HX3.out k e; omega)))
            clear o10 u10 hob kb hne g1 g2 g3 hlen hx2
            go_wp2_with fail
            go_roundw
            case rel => exact ⟨n + 1, by omega, by go_num, hfx, hA, hU⟩
            case measure => simp [intOf]; omega
          · rw [decide_eq_false hin] at hy
            have hfin : Hid (∀ y, Nw w3 y → FOD w db cs ⟨p, zz, l⟩ (Ft.fopen D f cs ⟨p, zz, l⟩) F z (.returned (.tuple #[.pointer none, .int .i64 28])) y) := fun y u => by
              rw [E.out]
              simp only [HMem.out hin, Bool.false_eq_true, if_false]
              exact FOD.no_ (R := (D', none, 28)) ((S3.out.keep (Upd.refl _ _) (fun k hk => Or.inl (Or.inl hk))).nw u) (HMV.out.nw u) rfl rfl
            clear FX HA E S3 HMem hin HCo HPr
            go_wp2_with fail
            (with_reducible refine (hy.out).mono ?_)
            rintro _ w9 ⟨rfl, u9⟩
            have N9 := Lib.hid (N8.out.trans u9)
            clear hy u9
            go_wp2_with fail
            (try simp only [Exit.inBlock, Exit.then])
            refine bodyPost_ret (fopen_results _ _) rfl ?_
            exact hfin.out _ N9.out
        · obtain rfl : n = j.recs.length := by omega
          obtain ⟨x, hx1, hx2, _, fx⟩ := FX.out
          rw [comeN_all] at fx
          have hall : Ft.fitsJ cs ⟨p, zz, l⟩ j = true := by
            have h := HA.out
            rw [comeN_all] at h
            unfold Ft.fitsJ
            rw [List.all_eq_true]
            exact fun q hq => decide_eq_true (h q hq)
          have hfin : Hid (FOD w db cs ⟨p, zz, l⟩ (Ft.fopen D f cs ⟨p, zz, l⟩) F z (.returned (.tuple #[.pointer (some ⟨fb, 0, none⟩), .int .i64 0])) wr) := by
            show FOD _ _ _ _ _ _ _ _ _
            rw [E.out]
            simp only [hall, if_true]
            rw [← hx1]
            exact FOD.yes (R := (D', some j, 0)) (S3.out.keep (Upd.refl _ _) (fun k hk => Or.inl (Or.inl hk))) HMV.out (N7.out.trans' U.out (fun k hk e => by omega)) fx hx2 rfl rfl
          clear fx hx1 hx2 hall FX HA E S3
          go_wp2_with fail
          (try simp only [Exit.inBlock, Exit.then])
          refine bodyPost_ret (fopen_results _ _) rfl ?_
          exact hfin.out
end
end Go.Proofs.YtagmlemlagbfkaaGreatDoor
