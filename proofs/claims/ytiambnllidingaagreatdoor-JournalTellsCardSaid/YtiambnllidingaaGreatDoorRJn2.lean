/- The reference's journal (layer 3): Append, Open. -/
import Derived.Test.YtiambnllidingaaGreatDoorRJn1
namespace Go.Proofs.YtiambnllidingaaGreatDoor
open Go.RowKit
set_option linter.unusedVariables false
set_option linter.unusedSimpArgs false
attribute [local irreducible] Calls

section
variable {B : Nat} {w w' w2 : World} {r : RdR} {x : RjR} {D D' : Dk.Disk} {j j' : Jr.Jn}
set_option maxHeartbeats 2000000 in
set_option maxRecDepth 100000 in
theorem Append_q (h : RSys B w r x D j) (g : Gl w) (hB : B ≤ w.heap.size) (s : List UInt8) (hs : s.length ≤ 1000000) :
    Calls Tryz.prog 16 #[.pointer (some ⟨x.kb, 0, none⟩), .string ⟨s.toArray⟩] w fun e w' => e = .returned (.int .i64 (Jr.append D j s).2.2) ∧ RSTo B r x (Jr.append D j s).1 (Jr.append D j s).2.1 w w' := by
  have hgb := g.big
  have hfm := Lib.hid (fun z => Form_q s (by omega) z)
  have hfl := Jr.form_len s (by omega)
  have hfl1 : ((Jr.form s).length : Int) ≤ 1000043 := by omega
  have hfl0 : (0 : Int) ≤ (Jr.form s).length := by omega
  have hbl := h.jrn.ok.bytes
  have hbl1 : ((Jr.forms j.recs).length : Int) ≤ 16777216 := by omega
  have hsl1 : (s.length : Int) ≤ 1000000 := by omega
  obtain ⟨c0, c1, c2, c3⟩ := h.jrn.cells
  have H := Lib.hid h
  have HB := Lib.hid hB
  have Hfl := Lib.hid hfl
  clear h hfl hbl hs hB
  cases hb : j.broken with
  | true =>
    rw [hb] at c3
    have hr : Hid (Jr.append D j s = (D, j, 7)) := by show _ = _; unfold Jr.append; rw [if_pos hb]
    clear hb
    go_enter Tryz.func16, Tryz.ntmps16
    go_wp2_with fail
    go_ret
    exact ⟨by rw [hr.out] <;> rfl, by rw [hr.out]; exact RSTo.of_nw H.out (Upd.refl _ _)⟩
  | false =>
  rw [hb] at c3
  have hr0 : Jr.append D j s = if 20000 < s.length then (D, j, 3) else if 1048576 < (Jr.forms j.recs).length + (Jr.form s).length then (D, j, 6) else if (Dk.write D j.file (Jr.forms j.recs).length (Jr.form s)).2 ≠ 0 then ((Dk.write D j.file (Jr.forms j.recs).length (Jr.form s)).1, { j with broken := true }, (Dk.write D j.file (Jr.forms j.recs).length (Jr.form s)).2)
      else ((Dk.write D j.file (Jr.forms j.recs).length (Jr.form s)).1, { j with recs := j.recs ++ [s] }, 0) := by
    unfold Jr.append; rw [if_neg (by rw [hb]; decide)]
  clear hb
  by_cases h1 : 20000 < s.length
  · have hr : Hid (Jr.append D j s = (D, j, 3)) := by show _ = _; rw [hr0, if_pos h1]
    have h1' : (20000 : Int) < s.length := by omega
    clear hr0 h1
    go_enter Tryz.func16, Tryz.ntmps16
    go_wp2_with fail
    go_ret
    exact ⟨by rw [hr.out] <;> rfl, by rw [hr.out]; exact RSTo.of_nw H.out (Upd.refl _ _)⟩
  have h1' : ¬ (20000 : Int) < s.length := by omega
  rw [if_neg h1] at hr0
  clear h1
  have hfs := Lib.hid (Forms_q _ _ _ j.recs w (Sl.of_owns H.out.jrn.own) H.out.jrn.ok.bytes)
  obtain ⟨al, cl, hlv⟩ := own_slD H.out.jrn.own
  rw [hlv] at c2 hfs
  have Hlv := Lib.hid hlv
  clear hlv
  go_enter Tryz.func16, Tryz.ntmps16
  go_wp2_with fail
  (with_reducible refine (hfs.out).mono ?_)
  rintro _ w1 ⟨rfl, u1⟩
  have U1 := Lib.hid u1
  clear u1 hfs
  go_wp2_with fail
  (with_reducible refine (hfm.out _).mono ?_)
  rintro _ w2 ⟨rfl, u2⟩
  have U2 := Lib.hid (U1.out.trans u2)
  clear u2 U1
  by_cases h2 : 1048576 < (Jr.forms j.recs).length + (Jr.form s).length
  · have hr : Hid (Jr.append D j s = (D, j, 6)) := by show _ = _; rw [hr0, if_pos h2]
    have h2' : (1048576 : Int) < ((Jr.forms j.recs).length : Int) + (Jr.form s).length := by omega
    clear hr0 h2
    go_wp2_with fail
    go_ret
    exact ⟨by rw [hr.out] <;> rfl, by rw [hr.out]; exact RSTo.of_nw H.out U2.out⟩
  have h2' : ¬ (1048576 : Int) < ((Jr.forms j.recs).length : Int) + (Jr.form s).length := by omega
  rw [if_neg h2] at hr0
  have Hr0 := Lib.hid hr0
  have H2 := Lib.hid h2
  have k2 := H.out.nw U2.out
  have l0 : ∀ i : Later w2, i.1.cell? ⟨x.kb, 0, none⟩ = some (.pointer (some ⟨r.rb, 0, none⟩)) := fun i => (k2.jrn.nw i.nw).cells.1
  have l1 : ∀ i : Later w2, i.1.cell? ⟨x.kb, 1, none⟩ = some (.int .i64 j.file) := fun i => (k2.jrn.nw i.nw).cells.2.1
  clear hr0 h2
  go_wp2_with fail
  refine wp_region_nw_tail 11 (by kernel_rfl) (by kernel_rfl) ?_
  simp only [List.take_succ_cons, List.take_zero, List.drop_succ_cons, List.drop_zero]
  repeat (go_big_quiet_step ((go_at_call 65; exact later_call (hfm.out _))))
  refine wpQuiet_nil ?_
  intro w3 u3
  replace u3 := later_out u3
  have U3 := Lib.hid (U2.out.trans u3)
  have h3 := H.out.nw U3.out
  have hw := write_rd h3.disk (g.upd U3.out) (Nat.le_trans HB.out U3.out.size) (f := j.file) (i := ((Jr.forms j.recs).length : Nat)) (by have := h3.jrn.ok.file; unfold I64; omega) (by unfold I64; omega) (Jr.form s) (by have := H2.out; omega)
  have Hw := Lib.hid hw
  have H3 := Lib.hid h3
  clear hw h3 l0 l1 u3 c0 c1 c2 c3 k2
  go_wp2_with fail
  (with_reducible refine (Hw.out).mono ?_)
  rintro _ w4 ⟨rfl, hT⟩
  have hd := RSTo.disk H3.out hT
  obtain ⟨r4, k1, k2, k3, k4⟩ := hd
  have Hto := Lib.hid (RSTo.after U3.out (RSTo.disk_only H3.out hT))
  have K1 := Lib.hid k1
  have HS4 := Lib.hid (Nat.le_trans HB.out (Nat.le_trans U3.out.size k3.size))
  have f3 := cells_frozen k1.jrn.blk 3
  have f2 := cells_frozen k1.jrn.blk 2
  obtain ⟨_, _, c2, c3⟩ := k1.jrn.cells
  clear hT Hw k1 k2 k3 k4
  generalize (Dk.write D j.file (Jr.forms j.recs).length (Jr.form s)).2 = E at *
  generalize (Dk.write D j.file (Jr.forms j.recs).length (Jr.form s)).1 = D4 at *
  by_cases h0 : E = 0
  rotate_left
  · have b1 : (E == 0) = false := beq_eq_false_iff_ne.2 h0
    have b2 : (E != 0) = true := by simp [h0]
    have hr : Hid (Jr.append D j s = (D4, { j with broken := true }, E)) := by show _ = _; rw [Hr0.out, if_pos h0]
    have hz : Hid (RSTo B r x D4 { j with broken := true } w (w4.setCell ⟨x.kb, 3, none⟩ (.bool true))) := RSTo.then_ Hto.out (fun r2 x2 a e1 e2 => by
      have := RSTo.bad a true
      rw [e2] at this
      exact this)
    clear h0
    go_wp2_with fail
    go_ret
    exact ⟨by rw [hr.out] <;> rfl, by rw [hr.out]; exact hz.out⟩
  have b1 : (E == 0) = true := beq_iff_eq.2 h0
  have b2 : (E != 0) = false := by simp [h0]
  have hr : Hid (Jr.append D j s = (D4, { j with recs := j.recs ++ [s] }, 0)) := by show _ = _; rw [Hr0.out, if_neg (fun e => e h0)]
  rw [Hlv.out] at c2
  have n5 := nw_alloc w4 (.cells #[] tStrJ)
  have o5 := owns_emptyD w4 tStrJ 1
  have hsl := (Sl.of_owns K1.out.jrn.own).nw n5
  rw [Hlv.out] at hsl
  have Hsl := Lib.hid hsl
  have c2a := (K1.out.jrn.nw n5).cells.2.2.1
  rw [Hlv.out] at c2a
  clear c2
  have hgw4 : nG ≤ w4.heap.size := Nat.le_trans K1.out.jrn.hb HS4.out
  have hn4 : j.recs.length + 1 ≤ 16777217 := by have := K1.out.jrn.len; omega
  have N5 := Lib.hid n5
  have hfl2 : (Jr.forms (j.recs ++ [s])).length ≤ 16777216 := by rw [Jr.forms_snoc, List.length_append]; have := H2.out; omega
  have Hfl2 := Lib.hid hfl2
  clear h0 Hr0 hsl n5 hfl2
  go_wp2_with (at_builtin; go_loud (refine wpList_catA rfl _ _ 46 rfl w4.heap.size B _ tStrJ _ 16 Tryz.underlying46 infoStrJ rfl _ _ _ _ _ rfl o5 rfl Hsl.out ?c1 ?c2 ?c3 ?c4 ?_))
  case c1 =>
    intro u hu
    obtain ⟨x, _, rfl⟩ := List.mem_map.1 hu
    rfl
  case c2 => unfold maxLen; rw [List.length_map]; omega
  case c3 => rw [List.length_map]; omega
  case c4 => simp
  intro v' w6 hown hgrow hob
  have u6 : Nw w4 w6 := N5.out.grown hgrow (fun k hk => ⟨Or.inr (hob k hk).1, by have := (hob k hk).1; omega⟩)
  (try simp only [List.nil_append, List.length_map, Nat.zero_add] at hown)
  have Ho := Lib.hid hown
  obtain ⟨a6, c6, rfl⟩ := own_slD hown
  have U6 := Lib.hid u6
  have hW6 : w4.heap.size ≤ w6.heap.size := u6.size
  clear hown hgrow hob u6 o5
  go_wp2_with (at_builtin; refine wpList_appL rfl _ _ 46 rfl w4.heap.size tStrJ _ 1 16 Tryz.underlying46 infoStrJ rfl (by decide) _ _ _ rfl Ho.out [bsV s] rfl rfl ?c1 ?c2 ?c3 hW6 hgw4 ?_)
  case c1 => intro u hu; rw [List.mem_singleton.1 hu]; rfl
  case c2 => unfold maxLen; omega
  case c3 => omega
  intro v7 w7 o7 u7 hob7
  have u8 : Nw w4 w7 := U6.out.trans' u7 (fun k hk e => by have := (Ho.out.lt k e).1; omega)
  have c2' : w7.cell? ⟨x.kb, 2, none⟩ = some x.lv := (K1.out.jrn.nw u8).cells.2.2.1
  have f2' := cells_frozen (K1.out.jrn.nw u8).blk 2
  have hz : Hid (RSTo B r x D4 { j with recs := j.recs ++ [s] } w (w7.setCell ⟨x.kb, 2, none⟩ v7)) := RSTo.then_ Hto.out (fun r2 x2 a e1 e2 => by
    have := RSTo.recs a u8 (Nat.le_refl _) HS4.out (R := j.recs ++ [s]) (v' := v7) (by rw [List.length_append, List.map_append]; exact o7) Hfl2.out
    rw [e2] at this
    exact this)
  obtain ⟨a7, c7, rfl⟩ := own_slD o7
  clear o7 u7 hob7 u8
  go_wp2_with fail
  go_ret
  exact ⟨by rw [hr.out] <;> rfl, by rw [hr.out]; exact hz.out⟩
/-- What Open makes of a disk: a journal, or none. -/
def ROpenTo (B : Nat) (r : RdR) (D' : Dk.Disk) (jo : Option Jr.Jn) (pv : Value) (w w' : World) : Prop :=
  match jo with
  | none => pv = .pointer none ∧ RDTo B r D' w w'
  | some j => ∃ r' x, pv = .pointer (some ⟨x.kb, 0, none⟩) ∧ RSys B w' r' x D' j ∧ r'.rb = r.rb ∧ Upd r.foot w w' ∧ (∀ k, r'.foot k → r.foot k ∨ w.heap.size ≤ k) ∧ ∀ k, x.foot k → w.heap.size ≤ k
/-- The journal's block is made, and then the disk may be turned. -/
theorem ropen_made {w1 w3 w4 : World} {r1 : RdR} {D1 : Dk.Disk} {f : Int} {R : List (List UInt8)} {v' : Value} (hB : B ≤ w.heap.size) (e1 : r1.rb = r.rb) (u1 : Upd r.foot w w1) (f1 : ∀ k, r1.foot k → r.foot k ∨ w.heap.size ≤ k) (h1 : RDAt B w1 r1 D1)
    (n3 : Nw w1 w3) (o3 : w3.ownsRow w1.heap.size tStrJ 1 v' R.length (R.map bsV)) (n4 : Nw (w3.alloc (.cells #[.pointer (some ⟨r.rb, 0, none⟩), .int .i64 f, v', .bool false] tRJrn)) w4) (hf : 0 ≤ f ∧ f ≤ 15) (hR : (Jr.forms R).length ≤ 16777216) :
    ∃ x, x.kb = w3.heap.size ∧ x.lv = v' ∧ RSys B w4 r1 x D1 ⟨f, R, false⟩ ∧ ∀ k, x.foot k → w1.heap.size ≤ k ∧ w.heap.size ≤ k := by
  have n5 := nw_alloc w3 (.cells #[.pointer (some ⟨r.rb, 0, none⟩), .int .i64 f, v', .bool false] tRJrn)
  have k5 := heap_new w3 (.cells #[.pointer (some ⟨r.rb, 0, none⟩), .int .i64 f, v', .bool false] tRJrn)
  have s1 := u1.size
  have s3 := n3.size
  refine ⟨⟨w3.heap.size, v'⟩, rfl, rfl, ⟨h1.nw ((n3.trans n5).trans n4), ⟨h1.hb, by dsimp only; omega, ?_, owns_base (owns_updD o3 (n5.trans n4) (fun _ _ e => e)) (by omega), ⟨hf, hR⟩⟩⟩, fun k hk => ?_⟩
  · have := n4.keep k5
    unfold rjC
    rw [e1]
    exact this
  · rcases hk with e | e
    · dsimp only at e; omega
    · have := (own_blockD o3 e).1; omega
set_option maxHeartbeats 2000000 in
set_option maxRecDepth 100000 in
theorem Open_q (h : RDAt B w r D) (g : Gl w) (hB : B ≤ w.heap.size) {f : Int} (hf : I64 f) :
    Calls Tryz.prog 12 #[.pointer (some ⟨r.rb, 0, none⟩), .int .i64 f] w fun e w' => ∃ pv, e = .returned (.tuple #[pv, .int .i64 (Jr.openJ D f).2.2]) ∧ ROpenTo B r (Jr.openJ D f).1 (Jr.openJ D f).2.1 pv w w' := by
  have hgb := g.big
  have H := Lib.hid h
  have HB := Lib.hid hB
  have HF := Lib.hid hf
  by_cases h0 : f < 0
  · have hr : Hid (Jr.openJ D f = (D, none, 1)) := by show _ = _; unfold Jr.openJ; rw [if_pos (Or.inl h0)]
    clear h hB hf
    go_enter Tryz.func12, Tryz.ntmps12
    go_wp2_with fail
    go_ret2
    exact ⟨_, by rw [hr.out] <;> rfl, by rw [hr.out]; exact ⟨rfl, RDTo.of_nw H.out (Upd.refl _ _)⟩⟩
  by_cases h15 : 15 < f
  · have hr : Hid (Jr.openJ D f = (D, none, 1)) := by show _ = _; unfold Jr.openJ; rw [if_pos (Or.inr h15)]
    clear h hB hf
    go_enter Tryz.func12, Tryz.ntmps12
    go_wp2_with fail
    go_ret2
    exact ⟨_, by rw [hr.out] <;> rfl, by rw [hr.out]; exact ⟨rfl, RDTo.of_nw H.out (Upd.refl _ _)⟩⟩
  have hr0 : Jr.openJ D f = if (Dk.sync D f).2 ≠ 0 then ((Dk.sync D f).1, none, (Dk.sync D f).2)
    else if (Jr.forms (Jr.recs ((Dk.sync D f).1.fs f).now)).length < ((Dk.sync D f).1.fs f).now.length then
    (if (Dk.truncate (Dk.sync D f).1 f (Jr.forms (Jr.recs ((Dk.sync D f).1.fs f).now)).length).2 ≠ 0 then ((Dk.truncate (Dk.sync D f).1 f (Jr.forms (Jr.recs ((Dk.sync D f).1.fs f).now)).length).1, none, (Dk.truncate (Dk.sync D f).1 f (Jr.forms (Jr.recs ((Dk.sync D f).1.fs f).now)).length).2)
      else ((Dk.truncate (Dk.sync D f).1 f (Jr.forms (Jr.recs ((Dk.sync D f).1.fs f).now)).length).1, some ⟨f, Jr.recs ((Dk.sync D f).1.fs f).now, false⟩, 0))
    else ((Dk.sync D f).1, some ⟨f, Jr.recs ((Dk.sync D f).1.fs f).now, false⟩, 0) := by
    unfold Jr.openJ; rw [if_neg (by omega)]
  have hfile : Hid (0 ≤ f ∧ f ≤ 15) := by show _ ∧ _; omega
  have hsc := sync_rd h g hB hf
  have hmy := @sync_may D f
  generalize Dk.sync D f = S at *
  obtain ⟨D1, E⟩ := S
  dsimp only at hr0 hsc hmy
  have Hsc := Lib.hid hsc
  have Hr0 := Lib.hid hr0
  have Hmy := Lib.hid hmy
  clear hr0 hsc hmy h hB hf
  go_enter Tryz.func12, Tryz.ntmps12
  go_wp2_with fail
  (with_reducible refine (Hsc.out).mono ?_)
  rintro _ w1 ⟨rfl, hT⟩
  have HT := Lib.hid hT
  clear hT Hsc
  by_cases hE : E = 0
  rotate_left
  · have b1 : (E == 0) = false := beq_eq_false_iff_ne.2 hE
    have b2 : (E != 0) = true := by simp [hE]
    have hr : Hid (Jr.openJ D f = (D1, none, E)) := by show _ = _; rw [Hr0.out, if_pos hE]
    clear hE
    go_wp2_with fail
    go_ret2
    exact ⟨_, by rw [hr.out] <;> rfl, by rw [hr.out]; exact ⟨rfl, HT.out⟩⟩
  subst hE
  have hmay := Hmy.out rfl
  have hr1 := Hr0.out
  rw [if_neg (fun e => e rfl)] at hr1
  obtain ⟨r1, h1, e1, u1, f1⟩ := HT.out
  have g1 := g.upd u1
  have hsz := size_r h1 f
  rw [e1] at hsz
  have hnow := h1.ok.now f
  have hrd := fun (z : World) (u : Nw w1 z) => read_rd (h1.nw u) HF.out (i := 0) (n := Dk.size D1 f) (by unfold I64; omega) (by unfold Dk.size I64; omega)
  rw [e1, read_all hmay] at hrd
  dsimp only at hrd
  have hse : Dk.size D1 f = ((D1.fs f).now.length : Int) := rfl
  have HD1 := Lib.hid (And.intro h1 (And.intro e1 (And.intro u1 f1)))
  have hrj := fun (z : World) (u : Nw w1 z) => Records_q (D1.fs f).now hnow z (g1.upd u)
  generalize (D1.fs f).now = s at *
  have Hrj := Lib.hid hrj
  have Hrd := Lib.hid hrd
  have Hsz := Lib.hid hsz
  have Hr1 := Lib.hid hr1
  have Hnow := Lib.hid hnow
  have hlen : (s.length : Int) ≤ 16777216 := by omega
  have hlen0 : (0 : Int) ≤ s.length := by omega
  have hse2 : Hid (Dk.size D1 f = (s.length : Int)) := hse
  clear hrj hrd hsz hr1 hnow h1 e1 u1 f1 Hr0 hmay Hmy hse
  have hfr := Jr.recs_len s
  have hfr1 : ((Jr.forms (Jr.recs s)).length : Int) ≤ s.length := by omega
  have hfr0 : (0 : Int) ≤ ((Jr.forms (Jr.recs s)).length : Nat) := by omega
  have Hfr := Lib.hid hfr
  clear hfr
  go_wp2_with fail
  (with_reducible refine (Hsz.out).mono ?_)
  rintro _ w2 ⟨rfl, u2⟩
  go_wp2_with fail
  (with_reducible refine (Hrd.out _ u2).mono ?_)
  rintro _ w3 ⟨rfl, u3⟩
  have U3 := Lib.hid (u2.trans u3)
  clear u2 u3
  go_wp2_with fail
  (with_reducible refine (Hrj.out _ U3.out).mono ?_)
  rintro _ w4 ⟨v', rfl, o4, u4⟩
  have N4 := Lib.hid (U3.out.trans u4)
  have O4 := Lib.hid (owns_base o4 U3.out.size)
  obtain ⟨av, cv, rfl⟩ := own_slD o4
  clear o4 u4 Hrj Hrd Hsz
  have k5 := heap_new w4 (.cells #[.pointer (some ⟨r.rb, 0, none⟩), .int .i64 f, .slice av (Jr.recs s).length cv, .bool false] tRJrn)
  have n5 := nw_alloc w4 (.cells #[.pointer (some ⟨r.rb, 0, none⟩), .int .i64 f, .slice av (Jr.recs s).length cv, .bool false] tRJrn)
  have hfq := Lib.hid (Forms_q _ _ _ (Jr.recs s) _ (Sl.of_owns (owns_updD O4.out n5 (fun _ _ e => e))) (by have := Hfr.out; have := Hnow.out; omega))
  clear k5 n5
  go_wp2_with fail
  (with_reducible refine (hfq.out).mono ?_)
  rintro _ w6 ⟨rfl, u6⟩
  obtain ⟨x, kx, lx, S6, fx⟩ := ropen_made HB.out HD1.out.2.1 HD1.out.2.2.1 HD1.out.2.2.2 HD1.out.1 N4.out O4.out u6 hfile.out (by have := Hfr.out; have := Hnow.out; omega)
  have HS6 := Lib.hid (And.intro S6 (And.intro kx fx))
  have U6 := Lib.hid ((N4.out.trans (nw_alloc w4 _)).trans u6)
  clear S6 kx lx fx u6 hfq
  have hI : Hid (I64 ((Jr.forms (Jr.recs s)).length : Nat)) := by show I64 _; unfold I64; omega
  by_cases hlt : (Jr.forms (Jr.recs s)).length < s.length
  rotate_left
  · have hr : Hid (Jr.openJ D f = (D1, some ⟨f, Jr.recs s, false⟩, 0)) := by show _ = _; rw [Hr1.out, if_neg hlt]
    have hd : decide ((Jr.forms (Jr.recs s)).length < s.length) = false := decide_eq_false hlt
    have hd2 : ¬ ((Jr.forms (Jr.recs s)).length : Int) < s.length := by omega
    have hz : Hid (ROpenTo B r D1 (some ⟨f, Jr.recs s, false⟩) (.pointer (some ⟨w4.heap.size, 0, none⟩)) w w6) := ⟨r1, x, by rw [HS6.out.2.1], HS6.out.1, HD1.out.2.1, HD1.out.2.2.1.nw U6.out, HD1.out.2.2.2, fun k hk => (HS6.out.2.2 k hk).2⟩
    clear hlt
    go_wp2_with fail
    go_ret2
    exact ⟨_, by rw [hr.out] <;> rfl, by rw [hr.out]; exact hz.out⟩
  have hd : decide ((Jr.forms (Jr.recs s)).length < s.length) = true := decide_eq_true hlt
  have hd2 : ((Jr.forms (Jr.recs s)).length : Int) < s.length := by omega
  have hr1 := Hr1.out
  rw [if_pos hlt] at hr1
  have htc := truncate_rd HS6.out.1.disk (g.upd (HD1.out.2.2.1.nw U6.out)) (Nat.le_trans HB.out (HD1.out.2.2.1.nw U6.out).size) HF.out (n := ((Jr.forms (Jr.recs s)).length : Nat)) hI.out
  rw [HD1.out.2.1] at htc
  generalize Dk.truncate D1 f ((Jr.forms (Jr.recs s)).length : Nat) = S2 at *
  obtain ⟨D2, E2⟩ := S2
  dsimp only at hr1 htc
  have Htc2 := Lib.hid htc
  have Hr2 := Lib.hid hr1
  clear hr1 htc hlt Hr1
  go_wp2_with fail
  (with_reducible refine (Htc2.out).mono ?_)
  rintro _ w7 ⟨rfl, hT7⟩
  obtain ⟨r7, k7, e7, u7, f7⟩ := RSTo.disk HS6.out.1 hT7
  have hsz6 : w.heap.size ≤ w6.heap.size := (HD1.out.2.2.1.nw U6.out).size
  have hf7 : ∀ k, r7.foot k → r.foot k ∨ w.heap.size ≤ k := fun k hk => by
    rcases f7 k hk with a | a
    · exact HD1.out.2.2.2 k a
    · exact Or.inr (by omega)
  have hu7 : Upd r.foot w w7 := (HD1.out.2.2.1.nw U6.out).trans' u7 (fun k hk e => (HD1.out.2.2.2 k e).resolve_right (by omega))
  have H7 := Lib.hid (And.intro k7 (And.intro (e7.trans HD1.out.2.1) (And.intro hu7 hf7)))
  clear k7 e7 u7 f7 hf7 hu7 hT7 Htc2
  by_cases hE : E2 = 0
  · subst hE
    have hr : Hid (Jr.openJ D f = (D2, some ⟨f, Jr.recs s, false⟩, 0)) := by show _ = _; rw [Hr2.out, if_neg (fun e => e rfl)]
    have hz : Hid (ROpenTo B r D2 (some ⟨f, Jr.recs s, false⟩) (.pointer (some ⟨w4.heap.size, 0, none⟩)) w w7) := ⟨r7, x, by rw [HS6.out.2.1], H7.out.1, H7.out.2.1, H7.out.2.2.1, H7.out.2.2.2, fun k hk => (HS6.out.2.2 k hk).2⟩
    go_wp2_with fail
    go_ret2
    exact ⟨_, by rw [hr.out] <;> rfl, by rw [hr.out]; exact hz.out⟩
  · have b1 : (E2 == 0) = false := beq_eq_false_iff_ne.2 hE
    have b2 : (E2 != 0) = true := by simp [hE]
    have hr : Hid (Jr.openJ D f = (D2, none, E2)) := by show _ = _; rw [Hr2.out, if_pos hE]
    have hz : Hid (RDTo B r D2 w w7) := ⟨r7, H7.out.1.disk, H7.out.2.1, H7.out.2.2.1, H7.out.2.2.2⟩
    clear hE
    go_wp2_with fail
    go_ret2
    exact ⟨_, by rw [hr.out] <;> rfl, by rw [hr.out]; exact ⟨rfl, hz.out⟩⟩
end
end Go.Proofs.YtiambnllidingaaGreatDoor
