/- The contract of the journal's Open. -/
import Derived.Test.YtiambnllidingaaGreatDoorJrn4
namespace Go.Proofs.YtiambnllidingaaGreatDoor
open Go.RowKit
set_option linter.unusedVariables false
set_option linter.unusedSimpArgs false
attribute [local irreducible] Calls

theorem sync_may {D : Dk.Disk} {f : Int} (h : (Dk.sync D f).2 = 0) : Dk.may (Dk.sync D f).1 f = 0 := by
  by_cases h1 : Dk.may (Dk.come D) f = 0
  · by_cases h2 : 0 < (Dk.come D).lost
    · have e : Dk.sync D f = ({ Dk.come D with lost := (Dk.come D).lost - 1 }, 9) := by unfold Dk.sync; rw [if_neg (by omega), if_pos h2]
      rw [e] at h; cases h
    · have e : Dk.sync D f = (Dk.settle (Dk.come D) f ((Dk.come D).fs f).now, 0) := by unfold Dk.sync; rw [if_neg (by omega), if_neg h2]
      rw [e]
      exact h1
  · have e : Dk.sync D f = (Dk.come D, Dk.may (Dk.come D) f) := by unfold Dk.sync; rw [if_pos h1]
    rw [e] at h
    exact absurd h h1
theorem read_all {D : Dk.Disk} {f : Int} (h : Dk.may D f = 0) : Dk.read D f 0 (Dk.size D f) = ((D.fs f).now, 0) := by
  unfold Dk.read Dk.size
  rw [if_neg (by omega), if_neg (by omega)]
  simp
/-- What Open makes of a disk: a journal, or none. -/
def OpenTo (B : Nat) (d : DiskR) (D' : Dk.Disk) (jo : Option Jr.Jn) (pv : Value) (w w' : World) : Prop :=
  match jo with
  | none => pv = .pointer none ∧ DiskTo B d D' w w'
  | some j => ∃ d' x, pv = .pointer (some ⟨x.jb, 0, none⟩) ∧ JSys B w' d' x D' j ∧ d'.db = d.db ∧ Upd d.foot w w' ∧ (∀ k, d'.foot k → d.foot k ∨ w.heap.size ≤ k) ∧ ∀ k, x.foot k → w.heap.size ≤ k
theorem open_made {B : Nat} {w w1 w3 w4 : World} {d d1 d4 : DiskR} {D4 : Dk.Disk} {f : Int} {R : List (List UInt8)} {v' : Value} (hB : B ≤ w.heap.size) (hd1 : ∀ k, d1.foot k → k < w1.heap.size) (e1 : d1.db = d.db) (u1 : Upd d.foot w w1) (f1 : ∀ k, d1.foot k → d.foot k ∨ w.heap.size ≤ k)
    (n3 : Nw w1 w3) (o3 : w3.ownsRow w1.heap.size tStrJ 1 v' R.length (R.map bsV)) (h4 : DiskAt B w4 d4 D4) (e4 : d4.db = d1.db) (u4 : Upd d1.foot w3 w4) (f4 : ∀ k, d4.foot k → d1.foot k ∨ w3.heap.size ≤ k) (hf : 0 ≤ f ∧ f ≤ 15) (hR : (Jr.forms R).length ≤ 16777216) :
    OpenTo B d D4 (some ⟨f, R, false⟩) (.pointer (some ⟨w4.heap.size, 0, none⟩)) w (w4.alloc (.cells #[.pointer (some ⟨d.db, 0, none⟩), .int .i64 f, v', .int .i64 ((Jr.forms R).length : Nat), .bool false] tJrn)) := by
  have n5 := nw_alloc w4 (.cells #[.pointer (some ⟨d.db, 0, none⟩), .int .i64 f, v', .int .i64 ((Jr.forms R).length : Nat), .bool false] tJrn)
  have k5 := heap_new w4 (.cells #[.pointer (some ⟨d.db, 0, none⟩), .int .i64 f, v', .int .i64 ((Jr.forms R).length : Nat), .bool false] tJrn)
  have s1 := u1.size
  have s3 := n3.size
  have s4 := u4.size
  have hv : ∀ k, v'.ownBlock = some k → w1.heap.size ≤ k ∧ k < w3.heap.size := fun k hk => by
    obtain ⟨a, cs, b⟩ := own_blockD o3 hk
    exact ⟨a, lt_of_block b⟩
  have o4 := owns_updD o3 u4 (fun k hk e => by have := hv k hk; have := hd1 k e; omega)
  have o5 := owns_base (owns_updD o4 n5 (fun _ _ e => e)) (base' := B) (by omega)
  have hlt := fun k hk => (h4.foot_lt (k := k) hk).2
  refine ⟨d4, ⟨w4.heap.size, v'⟩, rfl, ⟨h4.nw n5, ⟨h4.hb, by show B ≤ w4.heap.size; omega, ?_, o5, ⟨hf, hR⟩⟩, fun k hk e => ?_⟩, e4.trans e1, ?_, fun k hk => ?_, fun k hk => ?_⟩
  · unfold jrnC
    rw [e4.trans e1]
    exact k5
  · rcases e with e | e
    · have := hlt k hk; dsimp only at e; omega
    · have := hv k e
      rcases f4 k hk with e2 | e2
      · have := hd1 k e2; omega
      · omega
  · exact ((u1.nw n3).trans' u4 (fun k hk e => (f1 k e).elim id (fun e2 => by omega))).nw n5
  · rcases f4 k hk with e | e
    · exact f1 k e
    · exact Or.inr (by omega)
  · rcases hk with e | e
    · dsimp only at e; omega
    · have := hv k e; omega
set_option maxHeartbeats 1000000 in
set_option maxRecDepth 100000 in
theorem Open_c {B : Nat} {w : World} {d : DiskR} {D : Dk.Disk} (h : DiskAt B w d D) (g : Gl w) (hB : B ≤ w.heap.size) {f : Int} (hf : I64 f) :
    Calls Tryz.prog 11 #[.pointer (some ⟨d.db, 0, none⟩), .int .i64 f] w fun e w' => ∃ pv, e = .returned (.tuple #[pv, .int .i64 (Jr.openJ D f).2.2]) ∧ OpenTo B d (Jr.openJ D f).1 (Jr.openJ D f).2.1 pv w w' := by
  have hgb := g.big
  have H := Lib.hid h
  have HB := Lib.hid hB
  have HF := Lib.hid hf
  by_cases h0 : f < 0
  · have hr : Hid (Jr.openJ D f = (D, none, 1)) := by show _ = _; unfold Jr.openJ; rw [if_pos (Or.inl h0)]
    clear h hB hf
    go_enter Tryz.func11, Tryz.ntmps11
    go_wp2_with fail
    go_ret2
    exact ⟨_, by rw [hr.out]; rfl, by rw [hr.out]; exact ⟨rfl, DiskTo.refl H.out⟩⟩
  by_cases h15 : 15 < f
  · have hr : Hid (Jr.openJ D f = (D, none, 1)) := by show _ = _; unfold Jr.openJ; rw [if_pos (Or.inr h15)]
    clear h hB hf
    go_enter Tryz.func11, Tryz.ntmps11
    go_wp2_with fail
    go_ret2
    exact ⟨_, by rw [hr.out]; rfl, by rw [hr.out]; exact ⟨rfl, DiskTo.refl H.out⟩⟩
  have hr0 : Jr.openJ D f = if (Dk.sync D f).2 ≠ 0 then ((Dk.sync D f).1, none, (Dk.sync D f).2)
    else if (Jr.forms (Jr.recs ((Dk.sync D f).1.fs f).now)).length < ((Dk.sync D f).1.fs f).now.length then
    (if (Dk.truncate (Dk.sync D f).1 f (Jr.forms (Jr.recs ((Dk.sync D f).1.fs f).now)).length).2 ≠ 0 then ((Dk.truncate (Dk.sync D f).1 f (Jr.forms (Jr.recs ((Dk.sync D f).1.fs f).now)).length).1, none, (Dk.truncate (Dk.sync D f).1 f (Jr.forms (Jr.recs ((Dk.sync D f).1.fs f).now)).length).2)
      else ((Dk.truncate (Dk.sync D f).1 f (Jr.forms (Jr.recs ((Dk.sync D f).1.fs f).now)).length).1, some ⟨f, Jr.recs ((Dk.sync D f).1.fs f).now, false⟩, 0))
    else ((Dk.sync D f).1, some ⟨f, Jr.recs ((Dk.sync D f).1.fs f).now, false⟩, 0) := by
    unfold Jr.openJ; rw [if_neg (by omega)]
  have hfile : Hid (0 ≤ f ∧ f ≤ 15) := by show _ ∧ _; omega
  have hsc := sync_c h g hB hf
  have hmy := @sync_may D f
  generalize Dk.sync D f = S at *
  obtain ⟨D1, E⟩ := S
  dsimp only at hr0 hsc hmy
  have Hsc := Lib.hid hsc
  have Hr0 := Lib.hid hr0
  have Hmy := Lib.hid hmy
  clear hr0 hsc hmy h hB hf
  go_enter Tryz.func11, Tryz.ntmps11
  go_wp2_with fail
  (with_reducible refine (Hsc.out).mono ?_)
  rintro _ w1 ⟨rfl, hT⟩
  have HT := Lib.hid hT
  clear hT Hsc
  by_cases hE : E = 0
  rotate_left
  · have b1 : (E == 0) = false := beq_eq_false_iff_ne.2 hE
    have b2 : (E != 0) = true := by simp [hE]
    have hr : Hid (Jr.openJ D f = (D1, none, E)) := by show _ = _; rw [Hr0.out, if_pos hE]
    clear hE
    go_wp2_with fail
    go_ret2
    exact ⟨_, by rw [hr.out]; rfl, by rw [hr.out]; exact ⟨rfl, HT.out⟩⟩
  subst hE
  have hmay := Hmy.out rfl
  have hr1 := Hr0.out
  rw [if_neg (fun e => e rfl)] at hr1
  obtain ⟨d1, h1, e1, u1, f1⟩ := HT.out
  have g1 := g.upd u1
  have hsz := size_c h1 HF.out
  rw [e1] at hsz
  have hnow := h1.ok.now f
  have hrd := read_c h1 HF.out (i := 0) (n := Dk.size D1 f) (by unfold I64; omega) (by unfold Dk.size I64; omega)
  rw [e1, read_all hmay] at hrd
  dsimp only at hrd
  have hse : Dk.size D1 f = ((D1.fs f).now.length : Int) := rfl
  have HD1 := Lib.hid (And.intro h1 (And.intro e1 (And.intro u1 f1)))
  have hrj := read_j (D1.fs f).now hnow w1 g1
  have htc := fun (z : World) (n : Nw w1 z) (m : Int) (hm : I64 m) => truncate_c (h1.nw n) (g1.upd n) (Nat.le_trans (Nat.le_trans HB.out u1.size) n.size) HF.out hm
  rw [e1] at htc
  generalize (D1.fs f).now = s at *
  have Hrj := Lib.hid hrj
  have Hrd := Lib.hid hrd
  have Hsz := Lib.hid hsz
  have Htc := Lib.hid htc
  have Hr1 := Lib.hid hr1
  have Hnow := Lib.hid hnow
  have hlen : (s.length : Int) ≤ 16777216 := by omega
  have hlen0 : (0 : Int) ≤ s.length := by omega
  have hse2 : Hid (Dk.size D1 f = (s.length : Int)) := hse
  clear hrj hrd hsz htc hr1 hnow h1 e1 u1 f1 Hr0 hmay Hmy hse
  have hfr := Jr.recs_len s
  have hfr1 : ((Jr.forms (Jr.recs s)).length : Int) ≤ s.length := by omega
  have hfr0 : (0 : Int) ≤ ((Jr.forms (Jr.recs s)).length : Nat) := by omega
  have Hfr := Lib.hid hfr
  clear hfr
  go_wp2_with fail
  (with_reducible refine (Hsz.out).mono ?_)
  rintro _ _ ⟨rfl, rfl⟩
  go_wp2_with fail
  (with_reducible refine (Hrd.out).mono ?_)
  rintro _ _ ⟨rfl, rfl⟩
  go_wp2_with fail
  (with_reducible refine (Hrj.out).mono ?_)
  rintro _ w3 ⟨v', rfl, o3, n3⟩
  have O3 := Lib.hid o3
  have N3 := Lib.hid n3
  obtain ⟨av, cv, rfl⟩ := own_slD o3
  clear o3 n3 Hrj Hrd Hsz
  have hI : Hid (I64 ((Jr.forms (Jr.recs s)).length : Nat)) := by show I64 _; unfold I64; omega
  by_cases hlt : (Jr.forms (Jr.recs s)).length < s.length
  rotate_left
  · have hr : Hid (Jr.openJ D f = (D1, some ⟨f, Jr.recs s, false⟩, 0)) := by show _ = _; rw [Hr1.out, if_neg hlt]
    have hd : decide ((Jr.forms (Jr.recs s)).length < s.length) = false := decide_eq_false hlt
    have hz : Hid (OpenTo B d D1 _ _ w _) := open_made HB.out (fun k hk => (HD1.out.1.foot_lt hk).2) HD1.out.2.1 HD1.out.2.2.1 HD1.out.2.2.2 N3.out O3.out (HD1.out.1.nw N3.out) rfl (Upd.refl _ _) (fun k hk => Or.inl hk) hfile.out (by have := Hfr.out; have := Hnow.out; omega)
    clear hlt
    go_wp2_with fail
    go_ret2
    exact ⟨_, by rw [hr.out]; rfl, by rw [hr.out]; exact hz.out⟩
  have hd : decide ((Jr.forms (Jr.recs s)).length < s.length) = true := decide_eq_true hlt
  have hr1 := Hr1.out
  rw [if_pos hlt] at hr1
  have htc := Htc.out w3 N3.out _ hI.out
  generalize Dk.truncate D1 f ((Jr.forms (Jr.recs s)).length : Nat) = S2 at *
  obtain ⟨D2, E2⟩ := S2
  dsimp only at hr1 htc
  have Htc2 := Lib.hid htc
  have Hr2 := Lib.hid hr1
  clear hr1 htc hlt Htc Hr1
  go_wp2_with fail
  (with_reducible refine (Htc2.out).mono ?_)
  rintro _ w4 ⟨rfl, hT4⟩
  obtain ⟨d4, h4, e4, u4, f4⟩ := hT4
  by_cases hE : E2 = 0
  · subst hE
    have hr : Hid (Jr.openJ D f = (D2, some ⟨f, Jr.recs s, false⟩, 0)) := by show _ = _; rw [Hr2.out, if_neg (fun e => e rfl)]
    have hz : Hid (OpenTo B d D2 _ _ w _) := open_made HB.out (fun k hk => (HD1.out.1.foot_lt hk).2) HD1.out.2.1 HD1.out.2.2.1 HD1.out.2.2.2 N3.out O3.out h4 e4 u4 f4 hfile.out (by have := Hfr.out; have := Hnow.out; omega)
    clear h4 u4 f4
    go_wp2_with fail
    go_ret2
    exact ⟨_, by rw [hr.out]; rfl, by rw [hr.out]; exact hz.out⟩
  · have b1 : (E2 == 0) = false := beq_eq_false_iff_ne.2 hE
    have b2 : (E2 != 0) = true := by simp [hE]
    have hr : Hid (Jr.openJ D f = (D2, none, E2)) := by show _ = _; rw [Hr2.out, if_pos hE]
    have hz : Hid (DiskTo B d D2 w w4) := DiskTo.then_ H.out HD1.out.1 HD1.out.2.1 HD1.out.2.2.1 HD1.out.2.2.2 (DiskTo.after N3.out ⟨d4, h4, e4, u4, f4⟩)
    clear h4 u4 f4 hE
    go_wp2_with fail
    go_ret2
    exact ⟨_, by rw [hr.out]; rfl, by rw [hr.out]; exact ⟨rfl, hz.out⟩⟩
end Go.Proofs.YtiambnllidingaaGreatDoor
