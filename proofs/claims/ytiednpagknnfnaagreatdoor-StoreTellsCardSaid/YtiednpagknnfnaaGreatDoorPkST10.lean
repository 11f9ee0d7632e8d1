/- The reference's journal (layer 3): Append, Open. The walk of the statement JournalStays. The and so on. -/
import Derived.Test.YtiednpagknnfnaaGreatDoorPkST9
import Derived.Test.YtiednpagknnfnaaGreatDoorPkST2
import Derived.Test.YtiednpagknnfnaaGreatDoorPkST3
set_option linter.unusedVariables false
set_option linter.unusedSimpArgs false
namespace Go.Proofs.YtiednpagknnfnaaGreatDoor
open Go.RowKit
attribute [local irreducible] Calls
section
variable {B : Nat} {w w' w2 : World} {r : RdR} {x : RjR} {D D' : Dk.Disk} {j j' : Jr.Jn}
set_option maxHeartbeats 2000000 in
set_option maxRecDepth 100000 in
theorem Append_q (h : RSys B w r x D j) (g : Gl w) (hB : B ≤ w.heap.size) (s : List UInt8) (hs : s.length ≤ 1000000) :
    Calls Tryz.prog 113 #[.pointer (some ⟨x.kb, 0, none⟩), .string ⟨s.toArray⟩] w fun e w' => e = .returned (.int .i64 (Jr.append D j s).2.2) ∧ RSTo B r x (Jr.append D j s).1 (Jr.append D j s).2.1 w w' := by
  have hgb := g.big
  have hfm := Lib.hid (fun z => Form_q s (by omega) z)
  have hfl := Jr.form_len s (by omega)
  have hfl1 : ((Jr.form s).length : Int) ≤ 1000043 := by omega
  have hfl0 : (0 : Int) ≤ (Jr.form s).length := by omega
  have hbl := h.jrn.ok.bytes
  have hbl1 : ((Jr.forms j.recs).length : Int) ≤ 16777216 := by omega
  have hsl1 : (s.length : Int) ≤ 1000000 := by omega
  obtain ⟨c0, c1, c2, c3⟩ := h.jrn.cells
  have H := Lib.hid h
  have HB := Lib.hid hB
  have Hfl := Lib.hid hfl
  clear h hfl hbl hs hB
  cases hb : j.broken with
  | true =>
    rw [hb] at c3
    have hr : Hid (Jr.append D j s = (D, j, 7)) := by show _ = _; unfold Jr.append; rw [if_pos hb]
    clear hb
    go_enter Tryz.func113, Tryz.ntmps113
    go_wp2_with fail
    go_ret
    exact ⟨by rw [hr.out] <;> rfl, by rw [hr.out]; exact RSTo.of_nw H.out (Upd.refl _ _)⟩
  | false =>
  rw [hb] at c3
  have hr0 : Jr.append D j s = if 20000 < s.length then (D, j, 3) else if 1048576 < (Jr.forms j.recs).length + (Jr.form s).length then (D, j, 6) else if (Dk.write D j.file (Jr.forms j.recs).length (Jr.form s)).2 ≠ 0 then ((Dk.write D j.file (Jr.forms j.recs).length (Jr.form s)).1, { j with broken := true }, (Dk.write D j.file (Jr.forms j.recs).length (Jr.form s)).2)
      else ((Dk.write D j.file (Jr.forms j.recs).length (Jr.form s)).1, { j with recs := j.recs ++ [s] }, 0) := by
    unfold Jr.append; rw [if_neg (by rw [hb]; decide)]
  clear hb
  by_cases h1 : 20000 < s.length
  · have hr : Hid (Jr.append D j s = (D, j, 3)) := by show _ = _; rw [hr0, if_pos h1]
    have h1' : (20000 : Int) < s.length := by omega
    clear hr0 h1
    go_enter Tryz.func113, Tryz.ntmps113
    go_wp2_with fail
    go_ret
    exact ⟨by rw [hr.out] <;> rfl, by rw [hr.out]; exact RSTo.of_nw H.out (Upd.refl _ _)⟩
  have h1' : ¬ (20000 : Int) < s.length := by omega
  rw [if_neg h1] at hr0
  clear h1
  have hfs := Lib.hid (Forms_q _ _ _ j.recs w (Sl.of_owns H.out.jrn.own) H.out.jrn.ok.bytes)
  obtain ⟨al, cl, hlv⟩ := own_slD H.out.jrn.own
  rw [hlv] at c2 hfs
  have Hlv := Lib.hid hlv
  clear hlv
  go_enter Tryz.func113, Tryz.ntmps113
  go_wp2_with fail
  (with_reducible refine (hfs.out).mono ?_)
  rintro _ w1 ⟨rfl, u1⟩
  have U1 := Lib.hid u1
  clear u1 hfs
  go_wp2_with fail
  (with_reducible refine (hfm.out _).mono ?_)
  rintro _ w2 ⟨rfl, u2⟩
  have U2 := Lib.hid (U1.out.trans u2)
  clear u2 U1
  by_cases h2 : 1048576 < (Jr.forms j.recs).length + (Jr.form s).length
  · have hr : Hid (Jr.append D j s = (D, j, 6)) := by show _ = _; rw [hr0, if_pos h2]
    have h2' : (1048576 : Int) < ((Jr.forms j.recs).length : Int) + (Jr.form s).length := by omega
    clear hr0 h2
    go_wp2_with fail
    go_ret
    exact ⟨by rw [hr.out] <;> rfl, by rw [hr.out]; exact RSTo.of_nw H.out U2.out⟩
  have h2' : ¬ (1048576 : Int) < ((Jr.forms j.recs).length : Int) + (Jr.form s).length := by omega
  rw [if_neg h2] at hr0
  have Hr0 := Lib.hid hr0
  have H2 := Lib.hid h2
  have k2 := H.out.nw U2.out
  have l0 : ∀ i : Later w2, i.1.cell? ⟨x.kb, 0, none⟩ = some (.pointer (some ⟨r.rb, 0, none⟩)) := fun i => (k2.jrn.nw i.nw).cells.1
  have l1 : ∀ i : Later w2, i.1.cell? ⟨x.kb, 1, none⟩ = some (.int .i64 j.file) := fun i => (k2.jrn.nw i.nw).cells.2.1
  clear hr0 h2
  go_wp2_with fail
  refine wp_region_nw_tail 11 (by kernel_rfl) (by kernel_rfl) ?_
  simp only [List.take_succ_cons, List.take_zero, List.drop_succ_cons, List.drop_zero]
  repeat (go_big_quiet_step ((go_at_call 106; exact later_call (hfm.out _))))
  refine wpQuiet_nil ?_
  intro w3 u3
  replace u3 := later_out u3
  have U3 := Lib.hid (U2.out.trans u3)
  have h3 := H.out.nw U3.out
  have hw := write_rd h3.disk (g.upd U3.out) (Nat.le_trans HB.out U3.out.size) (f := j.file) (i := ((Jr.forms j.recs).length : Nat)) (by have := h3.jrn.ok.file; unfold I64; omega) (by unfold I64; omega) (Jr.form s) (by have := H2.out; omega)
  have Hw := Lib.hid hw
  have H3 := Lib.hid h3
  clear hw h3 l0 l1 u3 c0 c1 c2 c3 k2
  go_wp2_with fail
  (with_reducible refine (Hw.out).mono ?_)
  rintro _ w4 ⟨rfl, hT⟩
  have hd := RSTo.disk H3.out hT
  obtain ⟨r4, k1, k2, k3, k4⟩ := hd
  have Hto := Lib.hid (RSTo.after U3.out (RSTo.disk_only H3.out hT))
  have K1 := Lib.hid k1
  have HS4 := Lib.hid (Nat.le_trans HB.out (Nat.le_trans U3.out.size k3.size))
  have f3 := cells_frozen k1.jrn.blk 3
  have f2 := cells_frozen k1.jrn.blk 2
  obtain ⟨_, _, c2, c3⟩ := k1.jrn.cells
  clear hT Hw k1 k2 k3 k4
  generalize (Dk.write D j.file (Jr.forms j.recs).length (Jr.form s)).2 = E at *
  generalize (Dk.write D j.file (Jr.forms j.recs).length (Jr.form s)).1 = D4 at *
  by_cases h0 : E = 0
  rotate_left
  · have b1 : (E == 0) = false := beq_eq_false_iff_ne.2 h0
    have b2 : (E != 0) = true := by simp [h0]
    have hr : Hid (Jr.append D j s = (D4, { j with broken := true }, E)) := by show _ = _; rw [Hr0.out, if_pos h0]
    have hz : Hid (RSTo B r x D4 { j with broken := true } w (w4.setCell ⟨x.kb, 3, none⟩ (.bool true))) := RSTo.then_ Hto.out (fun r2 x2 a e1 e2 => by
      have := RSTo.bad a true
      rw [e2] at this
      exact this)
    clear h0
    go_wp2_with fail
    go_ret
    exact ⟨by rw [hr.out] <;> rfl, by rw [hr.out]; exact hz.out⟩
  have b1 : (E == 0) = true := beq_iff_eq.2 h0
  have b2 : (E != 0) = false := by simp [h0]
  have hr : Hid (Jr.append D j s = (D4, { j with recs := j.recs ++ [s] }, 0)) := by show _ = _; rw [Hr0.out, if_neg (fun e => e h0)]
  rw [Hlv.out] at c2
  have n5 := nw_alloc w4 (.cells #[] tStrJ)
  have o5 := owns_emptyD w4 tStrJ 1
  have hsl := (Sl.of_owns K1.out.jrn.own).nw n5
  rw [Hlv.out] at hsl
  have Hsl := Lib.hid hsl
  have c2a := (K1.out.jrn.nw n5).cells.2.2.1
  rw [Hlv.out] at c2a
  clear c2
  have hgw4 : nG ≤ w4.heap.size := Nat.le_trans K1.out.jrn.hb HS4.out
  have hn4 : j.recs.length + 1 ≤ 16777217 := by have := K1.out.jrn.len; omega
  have N5 := Lib.hid n5
  have hfl2 : (Jr.forms (j.recs ++ [s])).length ≤ 16777216 := by rw [Jr.forms_snoc, List.length_append]; have := H2.out; omega
  have Hfl2 := Lib.hid hfl2
  clear h0 Hr0 hsl n5 hfl2
  go_wp2_with (at_builtin; go_loud (refine wpList_catA rfl _ _ 38 rfl w4.heap.size B _ tStrJ _ 16 Tryz.underlying38 infoStrJ rfl _ _ _ _ _ rfl o5 rfl Hsl.out ?c1 ?c2 ?c3 ?c4 ?_))
  case c1 =>
    intro u hu
    obtain ⟨x, _, rfl⟩ := List.mem_map.1 hu
    rfl
  case c2 => unfold maxLen; rw [List.length_map]; omega
  case c3 => rw [List.length_map]; omega
  case c4 => simp
  intro v' w6 hown hgrow hob
  have u6 : Nw w4 w6 := N5.out.grown hgrow (fun k hk => ⟨Or.inr (hob k hk).1, by have := (hob k hk).1; omega⟩)
  (try simp only [List.nil_append, List.length_map, Nat.zero_add] at hown)
  have Ho := Lib.hid hown
  obtain ⟨a6, c6, rfl⟩ := own_slD hown
  have U6 := Lib.hid u6
  have hW6 : w4.heap.size ≤ w6.heap.size := u6.size
  clear hown hgrow hob u6 o5
  go_wp2_with (at_builtin; refine wpList_appL rfl _ _ 38 rfl w4.heap.size tStrJ _ 1 16 Tryz.underlying38 infoStrJ rfl (by decide) _ _ _ rfl Ho.out [bsV s] rfl rfl ?c1 ?c2 ?c3 hW6 hgw4 ?_)
  case c1 => intro u hu; rw [List.mem_singleton.1 hu]; rfl
  case c2 => unfold maxLen; omega
  case c3 => omega
  intro v7 w7 o7 u7 hob7
  have u8 : Nw w4 w7 := U6.out.trans' u7 (fun k hk e => by have := (Ho.out.lt k e).1; omega)
  have c2' : w7.cell? ⟨x.kb, 2, none⟩ = some x.lv := (K1.out.jrn.nw u8).cells.2.2.1
  have f2' := cells_frozen (K1.out.jrn.nw u8).blk 2
  have hz : Hid (RSTo B r x D4 { j with recs := j.recs ++ [s] } w (w7.setCell ⟨x.kb, 2, none⟩ v7)) := RSTo.then_ Hto.out (fun r2 x2 a e1 e2 => by
    have := RSTo.recs a u8 (Nat.le_refl _) HS4.out (R := j.recs ++ [s]) (v' := v7) (by rw [List.length_append, List.map_append]; exact o7) Hfl2.out
    rw [e2] at this
    exact this)
  obtain ⟨a7, c7, rfl⟩ := own_slD o7
  clear o7 u7 hob7 u8
  go_wp2_with fail
  go_ret
  exact ⟨by rw [hr.out] <;> rfl, by rw [hr.out]; exact hz.out⟩
def ROpenTo (B : Nat) (r : RdR) (D' : Dk.Disk) (jo : Option Jr.Jn) (pv : Value) (w w' : World) : Prop :=
  match jo with
  | none => pv = .pointer none ∧ RDTo B r D' w w'
  | some j => ∃ r' x, pv = .pointer (some ⟨x.kb, 0, none⟩) ∧ RSys B w' r' x D' j ∧ r'.rb = r.rb ∧ Upd r.foot w w' ∧ (∀ k, r'.foot k → r.foot k ∨ w.heap.size ≤ k) ∧ ∀ k, x.foot k → w.heap.size ≤ k
theorem ropen_made {w1 w3 w4 : World} {r1 : RdR} {D1 : Dk.Disk} {f : Int} {R : List (List UInt8)} {v' : Value} (hB : B ≤ w.heap.size) (e1 : r1.rb = r.rb) (u1 : Upd r.foot w w1) (f1 : ∀ k, r1.foot k → r.foot k ∨ w.heap.size ≤ k) (h1 : RDAt B w1 r1 D1)
    (n3 : Nw w1 w3) (o3 : w3.ownsRow w1.heap.size tStrJ 1 v' R.length (R.map bsV)) (n4 : Nw (w3.alloc (.cells #[.pointer (some ⟨r.rb, 0, none⟩), .int .i64 f, v', .bool false] tRJrn)) w4) (hf : 0 ≤ f ∧ f ≤ 15) (hR : (Jr.forms R).length ≤ 16777216) :
    ∃ x, x.kb = w3.heap.size ∧ x.lv = v' ∧ RSys B w4 r1 x D1 ⟨f, R, false⟩ ∧ ∀ k, x.foot k → w1.heap.size ≤ k ∧ w.heap.size ≤ k := by
  have n5 := nw_alloc w3 (.cells #[.pointer (some ⟨r.rb, 0, none⟩), .int .i64 f, v', .bool false] tRJrn)
  have k5 := heap_new w3 (.cells #[.pointer (some ⟨r.rb, 0, none⟩), .int .i64 f, v', .bool false] tRJrn)
  have s1 := u1.size
  have s3 := n3.size
  refine ⟨⟨w3.heap.size, v'⟩, rfl, rfl, ⟨h1.nw ((n3.trans n5).trans n4), ⟨h1.hb, by dsimp only; omega, ?_, owns_base (owns_updD o3 (n5.trans n4) (fun _ _ e => e)) (by omega), ⟨hf, hR⟩⟩⟩, fun k hk => ?_⟩
  · have := n4.keep k5
    unfold rjC
    rw [e1]
    exact this
  · rcases hk with e | e
    · dsimp only at e; omega
    · have := (own_blockD o3 e).1; omega
set_option maxHeartbeats 2000000 in
set_option maxRecDepth 100000 in
theorem Open_q (h : RDAt B w r D) (g : Gl w) (hB : B ≤ w.heap.size) {f : Int} (hf : I64 f) :
    Calls Tryz.prog 34 #[.pointer (some ⟨r.rb, 0, none⟩), .int .i64 f] w fun e w' => ∃ pv, e = .returned (.tuple #[pv, .int .i64 (Jr.openJ D f).2.2]) ∧ ROpenTo B r (Jr.openJ D f).1 (Jr.openJ D f).2.1 pv w w' := by
  have hgb := g.big
  have H := Lib.hid h
  have HB := Lib.hid hB
  have HF := Lib.hid hf
  by_cases h0 : f < 0
  · have hr : Hid (Jr.openJ D f = (D, none, 1)) := by show _ = _; unfold Jr.openJ; rw [if_pos (Or.inl h0)]
    clear h hB hf
    go_enter Tryz.func34, Tryz.ntmps34
    go_wp2_with fail
    go_ret2
    exact ⟨_, by rw [hr.out] <;> rfl, by rw [hr.out]; exact ⟨rfl, RDTo.of_nw H.out (Upd.refl _ _)⟩⟩
  by_cases h15 : 15 < f
  · have hr : Hid (Jr.openJ D f = (D, none, 1)) := by show _ = _; unfold Jr.openJ; rw [if_pos (Or.inr h15)]
    clear h hB hf
    go_enter Tryz.func34, Tryz.ntmps34
    go_wp2_with fail
    go_ret2
    exact ⟨_, by rw [hr.out] <;> rfl, by rw [hr.out]; exact ⟨rfl, RDTo.of_nw H.out (Upd.refl _ _)⟩⟩
  have hr0 : Jr.openJ D f = if (Dk.sync D f).2 ≠ 0 then ((Dk.sync D f).1, none, (Dk.sync D f).2)
    else if (Jr.forms (Jr.recs ((Dk.sync D f).1.fs f).now)).length < ((Dk.sync D f).1.fs f).now.length then
    (if (Dk.truncate (Dk.sync D f).1 f (Jr.forms (Jr.recs ((Dk.sync D f).1.fs f).now)).length).2 ≠ 0 then ((Dk.truncate (Dk.sync D f).1 f (Jr.forms (Jr.recs ((Dk.sync D f).1.fs f).now)).length).1, none, (Dk.truncate (Dk.sync D f).1 f (Jr.forms (Jr.recs ((Dk.sync D f).1.fs f).now)).length).2)
      else ((Dk.truncate (Dk.sync D f).1 f (Jr.forms (Jr.recs ((Dk.sync D f).1.fs f).now)).length).1, some ⟨f, Jr.recs ((Dk.sync D f).1.fs f).now, false⟩, 0))
    else ((Dk.sync D f).1, some ⟨f, Jr.recs ((Dk.sync D f).1.fs f).now, false⟩, 0) := by
    unfold Jr.openJ; rw [if_neg (by omega)]
  have hfile : Hid (0 ≤ f ∧ f ≤ 15) := by show _ ∧ _; omega
  have hsc := sync_rd h g hB hf
  have hmy := @sync_may D f
  generalize Dk.sync D f = S at *
  obtain ⟨D1, E⟩ := S
  dsimp only at hr0 hsc hmy
  have Hsc := Lib.hid hsc
  have Hr0 := Lib.hid hr0
  have Hmy := Lib.hid hmy
  clear hr0 hsc hmy h hB hf
  go_enter Tryz.func34, Tryz.ntmps34
  go_wp2_with fail
  (with_reducible refine (Hsc.out).mono ?_)
  rintro _ w1 ⟨rfl, hT⟩
  have HT := Lib.hid hT
  clear hT Hsc
  by_cases hE : E = 0
  rotate_left
  · have b1 : (E == 0) = false := beq_eq_false_iff_ne.2 hE
    have b2 : (E != 0) = true := by simp [hE]
    have hr : Hid (Jr.openJ D f = (D1, none, E)) := by show _ = _; rw [Hr0.out, if_pos hE]
    clear hE
    go_wp2_with fail
    go_ret2
    exact ⟨_, by rw [hr.out] <;> rfl, by rw [hr.out]; exact ⟨rfl, HT.out⟩⟩
  subst hE
  have hmay := Hmy.out rfl
  have hr1 := Hr0.out
  rw [if_neg (fun e => e rfl)] at hr1
  obtain ⟨r1, h1, e1, u1, f1⟩ := HT.out
  have g1 := g.upd u1
  have hsz := size_r h1 f
  rw [e1] at hsz
  have hnow := h1.ok.now f
  have hrd := fun (z : World) (u : Nw w1 z) => read_rd (h1.nw u) HF.out (i := 0) (n := Dk.size D1 f) (by unfold I64; omega) (by unfold Dk.size I64; omega)
  rw [e1, read_all hmay] at hrd
  dsimp only at hrd
  have hse : Dk.size D1 f = ((D1.fs f).now.length : Int) := rfl
  have HD1 := Lib.hid (And.intro h1 (And.intro e1 (And.intro u1 f1)))
  have hrj := fun (z : World) (u : Nw w1 z) => Records_q (D1.fs f).now hnow z (g1.upd u)
  generalize (D1.fs f).now = s at *
  have Hrj := Lib.hid hrj
  have Hrd := Lib.hid hrd
  have Hsz := Lib.hid hsz
  have Hr1 := Lib.hid hr1
  have Hnow := Lib.hid hnow
  have hlen : (s.length : Int) ≤ 16777216 := by omega
  have hlen0 : (0 : Int) ≤ s.length := by omega
  have hse2 : Hid (Dk.size D1 f = (s.length : Int)) := hse
  clear hrj hrd hsz hr1 hnow h1 e1 u1 f1 Hr0 hmay Hmy hse
  have hfr := Jr.recs_len s
  have hfr1 : ((Jr.forms (Jr.recs s)).length : Int) ≤ s.length := by omega
  have hfr0 : (0 : Int) ≤ ((Jr.forms (Jr.recs s)).length : Nat) := by omega
  have Hfr := Lib.hid hfr
  clear hfr
  go_wp2_with fail
  (with_reducible refine (Hsz.out).mono ?_)
  rintro _ w2 ⟨rfl, u2⟩
  go_wp2_with fail
  (with_reducible refine (Hrd.out _ u2).mono ?_)
  rintro _ w3 ⟨rfl, u3⟩
  have U3 := Lib.hid (u2.trans u3)
  clear u2 u3
  go_wp2_with fail
  (with_reducible refine (Hrj.out _ U3.out).mono ?_)
  rintro _ w4 ⟨v', rfl, o4, u4⟩
  have N4 := Lib.hid (U3.out.trans u4)
  have O4 := Lib.hid (owns_base o4 U3.out.size)
  obtain ⟨av, cv, rfl⟩ := own_slD o4
  clear o4 u4 Hrj Hrd Hsz
  have k5 := heap_new w4 (.cells #[.pointer (some ⟨r.rb, 0, none⟩), .int .i64 f, .slice av (Jr.recs s).length cv, .bool false] tRJrn)
  have n5 := nw_alloc w4 (.cells #[.pointer (some ⟨r.rb, 0, none⟩), .int .i64 f, .slice av (Jr.recs s).length cv, .bool false] tRJrn)
  have hfq := Lib.hid (Forms_q _ _ _ (Jr.recs s) _ (Sl.of_owns (owns_updD O4.out n5 (fun _ _ e => e))) (by have := Hfr.out; have := Hnow.out; omega))
  clear k5 n5
  go_wp2_with fail
  (with_reducible refine (hfq.out).mono ?_)
  rintro _ w6 ⟨rfl, u6⟩
  obtain ⟨x, kx, lx, S6, fx⟩ := ropen_made HB.out HD1.out.2.1 HD1.out.2.2.1 HD1.out.2.2.2 HD1.out.1 N4.out O4.out u6 hfile.out (by have := Hfr.out; have := Hnow.out; omega)
  have HS6 := Lib.hid (And.intro S6 (And.intro kx fx))
  have U6 := Lib.hid ((N4.out.trans (nw_alloc w4 _)).trans u6)
  clear S6 kx lx fx u6 hfq
  have hI : Hid (I64 ((Jr.forms (Jr.recs s)).length : Nat)) := by show I64 _; unfold I64; omega
  by_cases hlt : (Jr.forms (Jr.recs s)).length < s.length
  rotate_left
  · have hr : Hid (Jr.openJ D f = (D1, some ⟨f, Jr.recs s, false⟩, 0)) := by show _ = _; rw [Hr1.out, if_neg hlt]
    have hd : decide ((Jr.forms (Jr.recs s)).length < s.length) = false := decide_eq_false hlt
    have hd2 : ¬ ((Jr.forms (Jr.recs s)).length : Int) < s.length := by omega
    have hz : Hid (ROpenTo B r D1 (some ⟨f, Jr.recs s, false⟩) (.pointer (some ⟨w4.heap.size, 0, none⟩)) w w6) := ⟨r1, x, by rw [HS6.out.2.1], HS6.out.1, HD1.out.2.1, HD1.out.2.2.1.nw U6.out, HD1.out.2.2.2, fun k hk => (HS6.out.2.2 k hk).2⟩
    clear hlt
    go_wp2_with fail
    go_ret2
    exact ⟨_, by rw [hr.out] <;> rfl, by rw [hr.out]; exact hz.out⟩
  have hd : decide ((Jr.forms (Jr.recs s)).length < s.length) = true := decide_eq_true hlt
  have hd2 : ((Jr.forms (Jr.recs s)).length : Int) < s.length := by omega
  have hr1 := Hr1.out
  rw [if_pos hlt] at hr1
  have htc := truncate_rd HS6.out.1.disk (g.upd (HD1.out.2.2.1.nw U6.out)) (Nat.le_trans HB.out (HD1.out.2.2.1.nw U6.out).size) HF.out (n := ((Jr.forms (Jr.recs s)).length : Nat)) hI.out
  rw [HD1.out.2.1] at htc
  generalize Dk.truncate D1 f ((Jr.forms (Jr.recs s)).length : Nat) = S2 at *
  obtain ⟨D2, E2⟩ := S2
  dsimp only at hr1 htc
  have Htc2 := Lib.hid htc
  have Hr2 := Lib.hid hr1
  clear hr1 htc hlt Hr1
  go_wp2_with fail
  (with_reducible refine (Htc2.out).mono ?_)
  rintro _ w7 ⟨rfl, hT7⟩
  obtain ⟨r7, k7, e7, u7, f7⟩ := RSTo.disk HS6.out.1 hT7
  have hsz6 : w.heap.size ≤ w6.heap.size := (HD1.out.2.2.1.nw U6.out).size
  have hf7 : ∀ k, r7.foot k → r.foot k ∨ w.heap.size ≤ k := fun k hk => by
    rcases f7 k hk with a | a
    · exact HD1.out.2.2.2 k a
    · exact Or.inr (by omega)
  have hu7 : Upd r.foot w w7 := (HD1.out.2.2.1.nw U6.out).trans' u7 (fun k hk e => (HD1.out.2.2.2 k e).resolve_right (by omega))
  have H7 := Lib.hid (And.intro k7 (And.intro (e7.trans HD1.out.2.1) (And.intro hu7 hf7)))
  clear k7 e7 u7 f7 hf7 hu7 hT7 Htc2
  by_cases hE : E2 = 0
  · subst hE
    have hr : Hid (Jr.openJ D f = (D2, some ⟨f, Jr.recs s, false⟩, 0)) := by show _ = _; rw [Hr2.out, if_neg (fun e => e rfl)]
    have hz : Hid (ROpenTo B r D2 (some ⟨f, Jr.recs s, false⟩) (.pointer (some ⟨w4.heap.size, 0, none⟩)) w w7) := ⟨r7, x, by rw [HS6.out.2.1], H7.out.1, H7.out.2.1, H7.out.2.2.1, H7.out.2.2.2, fun k hk => (HS6.out.2.2 k hk).2⟩
    go_wp2_with fail
    go_ret2
    exact ⟨_, by rw [hr.out] <;> rfl, by rw [hr.out]; exact hz.out⟩
  · have b1 : (E2 == 0) = false := beq_eq_false_iff_ne.2 hE
    have b2 : (E2 != 0) = true := by simp [hE]
    have hr : Hid (Jr.openJ D f = (D2, none, E2)) := by show _ = _; rw [Hr2.out, if_pos hE]
    have hz : Hid (RDTo B r D2 w w7) := ⟨r7, H7.out.1.disk, H7.out.2.1, H7.out.2.2.1, H7.out.2.2.2⟩
    clear hE
    go_wp2_with fail
    go_ret2
    exact ⟨_, by rw [hr.out] <;> rfl, by rw [hr.out]; exact ⟨rfl, hz.out⟩⟩
end
theorem GS.upd_keep {w : World} {db : Nat} {jp : Option (Nat × Jr.Jn)} {D : Dk.Disk} {F F' S : Nat → Prop} {z z' : World} (h : GS w db jp D F z) (u : Upd S z z') (hs : ∀ k, S k → (F k ∧ w.heap.size ≤ k) ∨ z.heap.size ≤ k) (hF : ∀ k, F' k → F k ∨ (z.heap.size ≤ k ∧ k < z'.heap.size)) : GS w db jp D F' z' := by
  have hz := u.size
  obtain ⟨d, e, h1, h2, h3, h4⟩ := h
  have hw := h2.size
  refine ⟨d, e, h1.upd u (fun k hk s => ?_), h2.trans' u (fun k hk s => ?_), fun k hk => ?_, fun p hp => ?_⟩
  · rcases hs k s with a | a
    · exact (h3 k a.1).2 hk
    · have := (h1.foot_lt hk).2; omega
  · rcases hs k s with a | a <;> omega
  · rcases hF k hk with a | a
    · exact ⟨by have := (h3 k a).1; omega, (h3 k a).2⟩
    · exact ⟨a.2, fun e => by have := (h1.foot_lt e).2; omega⟩
  · obtain ⟨x, e2, h5, h6, h7⟩ := h4 p hp
    refine ⟨x, e2, h5.upd u (fun k hk s => ?_), h6, fun k hk e3 => ?_⟩
    · rcases hs k s with a | a
      · exact h7 k a.1 hk
      · have := (h5.foot_lt hk).2; omega
    · rcases hF k hk with a | a
      · exact h7 k a e3
      · have := (h5.foot_lt e3).2; omega
def RX (w : World) (rb : Nat) (kq : Option (Nat × Jr.Jn)) (D : Dk.Disk) (R : Nat → Prop) (z : World) : Prop :=
  ∃ r, r.rb = rb ∧ RDAt w.heap.size z r D ∧ Nw w z ∧ (∀ k, r.foot k → R k) ∧ ∀ p, kq = some p → ∃ x, x.kb = p.1 ∧ RJAt w.heap.size z rb x p.2 ∧ ∀ k, x.foot k → R k
def TS (w : World) (db : Nat) (jp : Option (Nat × Jr.Jn)) (D : Dk.Disk) (rb : Nat) (kq : Option (Nat × Jr.Jn)) (E : Dk.Disk) (F : Nat → Prop) (z : World) : Prop :=
  ∃ R, GS w db jp D (fun k => R k ∨ F k) z ∧ RX w rb kq E R z ∧ ∀ k, F k → ¬ R k
section
variable {w : World} {db rb : Nat} {jp jp' kq kq' : Option (Nat × Jr.Jn)} {D D' E E' : Dk.Disk} {R F F' : Nat → Prop} {z z' : World}
theorem RX.upd {S : Nat → Prop} (h : RX w rb kq E R z) (u : Upd S z z') (hs : ∀ k, R k → ¬ S k) (hw : ∀ k, S k → w.heap.size ≤ k) : RX w rb kq E R z' := by
  obtain ⟨r, e, h1, h2, h3, h4⟩ := h
  refine ⟨r, e, h1.upd u (fun k hk => hs k (h3 k hk)), h2.trans' u (fun k hk s => by have := hw k s; omega), h3, fun p hp => ?_⟩
  obtain ⟨x, e2, h5, h6⟩ := h4 p hp
  exact ⟨x, e2, h5.upd u (fun k hk => hs k (h6 k hk)), h6⟩
theorem TS.gl (h : TS w db jp D rb kq E F z) (g : Gl w) : Gl z := by obtain ⟨R, h, _⟩ := h; exact h.gl g
theorem TS.nw0 (h : TS w db jp D rb kq E F z) : Nw w z := by obtain ⟨R, h, _⟩ := h; exact h.nw0
theorem TS.nw (h : TS w db jp D rb kq E F z) (u : Nw z z') : TS w db jp D rb kq E F z' := by
  obtain ⟨R, h1, h2, h3⟩ := h
  exact ⟨R, h1.nw u, h2.upd u (fun k _ s => s) (fun k s => s.elim), h3⟩
theorem TS.keep (h : TS w db jp D rb kq E F z) (u : Nw z z') (hF : ∀ k, F' k → F k ∨ (z.heap.size ≤ k ∧ k < z'.heap.size)) : TS w db jp D rb kq E F' z' := by
  obtain ⟨R, h1, h2, h3⟩ := h
  have hR : ∀ k, R k → k < z.heap.size := fun k hk => by
    obtain ⟨d, _, _, _, h, _⟩ := h1
    exact (h k (Or.inl hk)).1
  refine ⟨R, h1.keep u (fun k hk => ?_), h2.upd u (fun k _ s => s) (fun k s => s.elim), fun k hk hr => ?_⟩
  · rcases hk with hk | hk
    · exact Or.inl (Or.inl hk)
    · exact (hF k hk).imp Or.inr id
  · rcases hF k hk with s | s
    · exact h3 k s hr
    · have := hR k hr; omega
theorem TS.forget (h : TS w db jp D rb kq E F z) : TS w db none D rb none E F z := by
  obtain ⟨R, h1, ⟨r, e, k1, k2, k3, k4⟩, h3⟩ := h
  exact ⟨R, h1.forget, ⟨r, e, k1, k2, k3, fun p hp => by cases hp⟩, h3⟩
theorem TS.prog (h : TS w db jp D rb kq E F z) {Q : Ending → Prop} {P : Program} {f : FuncId} {args : Array Value}
    (c : ∀ R, GS w db jp D R z → Calls P f args z fun e z' => Q e ∧ GS w db jp' D' R z' ∧ Moves w R z z') : Calls P f args z fun e z' => Q e ∧ TS w db jp' D' rb kq E F z' ∧ Moves w F z z' := by
  obtain ⟨R, h1, h2, h3⟩ := h
  exact (c _ h1).mono fun e z' ⟨q, k1, k2⟩ => ⟨q, ⟨R, k1, h2.upd k2 (fun k hk s => s.1 (Or.inl hk)) (fun k s => s.2), h3⟩, k2.mono (fun k _ s => ⟨fun f => s.1 (Or.inr f), s.2⟩)⟩
theorem TS.rdisk {r : RdR} {R : Nat → Prop} (h1 : GS w db jp D (fun k => R k ∨ F k) z) (hF : ∀ k, F k → ¬ R k) (e : r.rb = rb) (k1 : RDAt w.heap.size z r E) (k2 : Nw w z) (k3 : ∀ k, r.foot k → R k) (k4 : ∀ p, kq = some p → ∃ x, x.kb = p.1 ∧ RJAt w.heap.size z rb x p.2 ∧ ∀ k, x.foot k → R k)
    (t : RDTo w.heap.size r E' z z') : TS w db jp D rb kq E' F z' ∧ Moves w F z z' := by
  obtain ⟨r', a, b, c, d⟩ := t
  have hlo : ∀ k, r.foot k → w.heap.size ≤ k := fun k hk => (k1.foot_lt hk).1
  have hFz : ∀ k, F k → k < z.heap.size := fun k hk => by
    obtain ⟨d, _, _, _, h, _⟩ := h1
    exact (h k (Or.inr hk)).1
  have hnew : ∀ p, kq = some p → ∃ x, x.kb = p.1 ∧ RJAt w.heap.size z' rb x p.2 ∧ ∀ k, x.foot k → R k := fun p hp => by
    obtain ⟨x, e2, h5, h6⟩ := k4 p hp
    exact ⟨x, e2, h5.upd c (fun k hk s => rj_apart k1 h5 s hk), h6⟩
  refine ⟨⟨fun k => R k ∨ r'.foot k, h1.upd_keep c (fun k s => Or.inl ⟨Or.inl (k3 k s), hlo k s⟩) (fun k hk => ?_), ⟨r', b.trans e, a, k2.trans' c (fun k hk s => by have := hlo k s; omega), fun k hk => Or.inr hk, fun p hp => ?_⟩, fun k hk hr => ?_⟩, c.mono (fun k _ s => ⟨fun f => hF k f (k3 k s), hlo k s⟩)⟩
  · rcases hk with (hk | hk) | hk
    · exact Or.inl (Or.inl hk)
    · rcases d k hk with s | s
      · exact Or.inl (Or.inl (k3 k s))
      · exact Or.inr ⟨s, (a.foot_lt hk).2⟩
    · exact Or.inl (Or.inr hk)
  · obtain ⟨x, e2, h5, h6⟩ := hnew p hp
    exact ⟨x, e2, h5, fun k hk => Or.inl (h6 k hk)⟩
  · rcases hr with hr | hr
    · exact hF k hk hr
    · rcases d k hr with s | s
      · exact hF k hk (k3 k s)
      · have := hFz k hk; omega
theorem TS.rjrn {p : Nat × Jr.Jn} {j' : Jr.Jn} {r : RdR} {x : RjR} {R : Nat → Prop} (h1 : GS w db jp D (fun k => R k ∨ F k) z) (hF : ∀ k, F k → ¬ R k) (e : r.rb = rb) (e2 : x.kb = p.1) (k1 : RDAt w.heap.size z r E) (k2 : Nw w z) (k3 : ∀ k, r.foot k → R k) (k4 : RJAt w.heap.size z rb x p.2) (k5 : ∀ k, x.foot k → R k)
    (t : RSTo w.heap.size r x E' j' z z') : TS w db jp D rb (some (p.1, j')) E' F z' ∧ Moves w F z z' := by
  obtain ⟨r', x', a, b, c, d, f⟩ := t
  have hlo : ∀ k, r.foot k ∨ x.foot k → w.heap.size ≤ k := fun k hk => hk.elim (fun s => (k1.foot_lt s).1) (fun s => (k4.foot_lt s).1)
  have hR : ∀ k, r.foot k ∨ x.foot k → R k := fun k hk => hk.elim (k3 k) (k5 k)
  have hFz : ∀ k, F k → k < z.heap.size := fun k hk => by
    obtain ⟨d, _, _, _, h, _⟩ := h1
    exact (h k (Or.inr hk)).1
  have hlt : ∀ k, r'.foot k ∨ x'.foot k → k < z'.heap.size := fun k hk => hk.elim (fun s => (a.disk.foot_lt s).2) (fun s => (a.jrn.foot_lt s).2)
  refine ⟨⟨fun k => r'.foot k ∨ x'.foot k, h1.upd_keep d (fun k s => Or.inl ⟨Or.inl (hR k s), hlo k s⟩) (fun k hk => ?_), ⟨r', b.trans e, a.disk, k2.trans' d (fun k hk s => by have := hlo k s; omega), fun k hk => Or.inl hk, fun q hq => ?_⟩, fun k hk hr => ?_⟩, d.mono (fun k _ s => ⟨fun f => hF k f (hR k s), hlo k s⟩)⟩
  · rcases hk with hk | hk
    · rcases f k hk with s | s
      · exact Or.inl (Or.inl (hR k s))
      · exact Or.inr ⟨s, hlt k hk⟩
    · exact Or.inl (Or.inr hk)
  · obtain rfl := Option.some.inj hq
    exact ⟨x', c.trans e2, by have := a.jrn; rw [b, e] at this; exact this, fun k hk => Or.inr hk⟩
  · rcases f k hr with s | s
    · exact hF k hk (hR k s)
    · have := hFz k hk; omega
theorem rstart_t (h : TS w db jp D rb kq E F z) : Calls Tryz.prog 20 #[.pointer (some ⟨rb, 0, none⟩)] z fun e z' => e = .returned (.tuple #[]) ∧ TS w db jp D rb kq (Dk.start E) F z' ∧ Moves w F z z' := by
  obtain ⟨R, h1, ⟨r, e, k1, k2, k3, k4⟩, hF⟩ := h
  subst e
  exact (start_rd k1).mono fun e z' ⟨he, t⟩ => ⟨he, TS.rdisk h1 hF rfl k1 k2 k3 k4 t⟩
theorem rlose_t (h : TS w db jp D rb kq E F z) {n : Int} (hn : I64 n) : Calls Tryz.prog 14 #[.pointer (some ⟨rb, 0, none⟩), .int .i64 n] z fun e z' => e = .returned (.tuple #[]) ∧ TS w db jp D rb kq (Dk.lose E n) F z' ∧ Moves w F z z' := by
  obtain ⟨R, h1, ⟨r, e, k1, k2, k3, k4⟩, hF⟩ := h
  subst e
  exact (lose_rd k1 hn).mono fun e z' ⟨he, t⟩ => ⟨he, TS.rdisk h1 hF rfl k1 k2 k3 k4 t⟩
theorem rarm_t (h : TS w db jp D rb kq E F z) (g : Gl w) {n : Int} (hn : I64 n) (lo hi : Nat) (hhi : hi ≤ w.heap.size) (v : Value) (keep : List Int) (hkI : ∀ x ∈ keep, I64 x) (hs : Sl lo hi z v (keep.map intD)) (hL : keep.length ≤ 1000000000) :
    Calls Tryz.prog 16 #[.pointer (some ⟨rb, 0, none⟩), .int .i64 n, v] z fun e z' => e = .returned (.tuple #[]) ∧ TS w db jp D rb kq (Dk.arm E n keep) F z' ∧ Moves w F z z' := by
  have hg := h.gl g
  obtain ⟨R, h1, ⟨r, e, k1, k2, k3, k4⟩, hF⟩ := h
  subst e
  exact (arm_rd k1 hg hn lo hi hhi v keep hkI hs hL).mono fun e z' ⟨he, t⟩ => ⟨he, TS.rdisk h1 hF rfl k1 k2 k3 k4 t⟩
theorem rcrash_t (h : TS w db jp D rb kq E F z) (g : Gl w) (lo hi : Nat) (hhi : hi ≤ w.heap.size) (v : Value) (keep : List Int) (hkI : ∀ x ∈ keep, I64 x) (hs : Sl lo hi w v (keep.map intD)) :
    Calls Tryz.prog 18 #[.pointer (some ⟨rb, 0, none⟩), v] z fun e z' => e = .returned (.tuple #[]) ∧ TS w db jp D rb kq (Dk.crash E keep) F z' ∧ Moves w F z z' := by
  have hg := h.gl g
  obtain ⟨R, h1, ⟨r, e, k1, k2, k3, k4⟩, hF⟩ := h
  subst e
  refine (crash_r k1 hg k2.size lo hi v keep (fun y u => (hs.nw k2).upd u (fun k _ hk s => ?_)) hkI).mono fun e z' ⟨he, t⟩ => ⟨he, TS.rdisk h1 hF rfl k1 k2 k3 k4 t⟩
  have := (k1.foot_lt (k := k) (Or.inl s)).1
  omega
theorem rread_t (h : TS w db jp D rb kq E F z) {f i n : Int} (hf : I64 f) (hi : I64 i) (hn : I64 n) :
    Calls Tryz.prog 24 #[.pointer (some ⟨rb, 0, none⟩), .int .i64 f, .int .i64 i, .int .i64 n] z fun e z' => e = .returned (.tuple #[.string ⟨(Dk.read E f i n).1.toArray⟩, .int .i64 (Dk.read E f i n).2]) ∧ TS w db jp D rb kq E F z' := by
  have hn0 := fun z' (u : Nw z z') => h.nw u
  obtain ⟨R, h1, ⟨r, e, k1, k2, k3, k4⟩, hF⟩ := h
  subst e
  exact (read_rd k1 hf hi hn).mono fun e z' ⟨he, t⟩ => ⟨he, hn0 _ t⟩
theorem rsize_t (h : TS w db jp D rb kq E F z) (f : Int) :
    Calls Tryz.prog 22 #[.pointer (some ⟨rb, 0, none⟩), .int .i64 f] z fun e z' => e = .returned (.int .i64 (Dk.size E f)) ∧ TS w db jp D rb kq E F z' := by
  have hn0 := fun z' (u : Nw z z') => h.nw u
  obtain ⟨R, h1, ⟨r, e, k1, k2, k3, k4⟩, hF⟩ := h
  subst e
  exact (size_r k1 f).mono fun e z' ⟨he, t⟩ => ⟨he, hn0 _ t⟩
theorem rjsync_t {p : Nat × Jr.Jn} (h : TS w db jp D rb (some p) E F z) (g : Gl w) :
    Calls Tryz.prog 114 #[.pointer (some ⟨p.1, 0, none⟩)] z fun e z' => e = .returned (.int .i64 (Jr.syncJ E p.2).2.2) ∧ TS w db jp D rb (some (p.1, (Jr.syncJ E p.2).2.1)) (Jr.syncJ E p.2).1 F z' ∧ Moves w F z z' := by
  have hg := h.gl g
  obtain ⟨R, h1, ⟨r, e, k1, k2, k3, k4⟩, hF⟩ := h
  obtain ⟨x, e2, k5, k6⟩ := k4 p rfl
  subst e
  rw [← e2]
  refine (JSync_q (x := x) (j := p.2) ⟨k1, k5⟩ hg k2.size).mono fun e' z' ⟨he, t⟩ => ⟨he, ?_⟩
  have := TS.rjrn h1 hF rfl e2 k1 k2 k3 k5 k6 t
  rw [← e2] at this
  exact this
theorem rappend_t {p : Nat × Jr.Jn} (h : TS w db jp D rb (some p) E F z) (g : Gl w) (s : List UInt8) (hs : s.length ≤ 1000000) :
    Calls Tryz.prog 113 #[.pointer (some ⟨p.1, 0, none⟩), .string ⟨s.toArray⟩] z fun e z' => e = .returned (.int .i64 (Jr.append E p.2 s).2.2) ∧ TS w db jp D rb (some (p.1, (Jr.append E p.2 s).2.1)) (Jr.append E p.2 s).1 F z' ∧ Moves w F z z' := by
  have hg := h.gl g
  obtain ⟨R, h1, ⟨r, e, k1, k2, k3, k4⟩, hF⟩ := h
  obtain ⟨x, e2, k5, k6⟩ := k4 p rfl
  subst e
  rw [← e2]
  refine (Append_q (x := x) (j := p.2) ⟨k1, k5⟩ hg k2.size s hs).mono fun e' z' ⟨he, t⟩ => ⟨he, ?_⟩
  have := TS.rjrn h1 hF rfl e2 k1 k2 k3 k5 k6 t
  rw [← e2] at this
  exact this
theorem ropen_t (h : TS w db jp D rb kq E F z) (g : Gl w) {f : Int} (hf : I64 f) :
    Calls Tryz.prog 34 #[.pointer (some ⟨rb, 0, none⟩), .int .i64 f] z fun e z' => ∃ kq' : Option (Nat × Jr.Jn), kq'.map (·.2) = (Jr.openJ E f).2.1 ∧ e = .returned (.tuple #[ptrJ kq', .int .i64 (Jr.openJ E f).2.2]) ∧ TS w db jp D rb kq' (Jr.openJ E f).1 F z' ∧ Moves w F z z' := by
  have hg := h.gl g
  obtain ⟨R, h1, ⟨r, e, k1, k2, k3, k4⟩, hF⟩ := h
  subst e
  refine (Open_q k1 hg k2.size hf).mono fun e z' ⟨pv, he, ht⟩ => ?_
  unfold ROpenTo at ht
  cases hj : (Jr.openJ E f).2.1 with
  | none =>
    rw [hj] at ht
    obtain ⟨hp, ht⟩ := ht
    exact ⟨none, rfl, by rw [he, hp]; rfl, TS.rdisk (kq := none) h1 hF rfl k1 k2 k3 (fun p hp => by cases hp) ht⟩
  | some j =>
    rw [hj] at ht
    obtain ⟨r', x, hp, a, b, c, d, f'⟩ := ht
    have hFz : ∀ k, F k → k < z.heap.size := fun k hk => by
      obtain ⟨d, _, _, _, h, _⟩ := h1
      exact (h k (Or.inr hk)).1
    refine ⟨some (x.kb, j), rfl, by rw [he, hp]; rfl, ⟨fun k => R k ∨ r'.foot k ∨ x.foot k, h1.upd_keep c (fun k s => Or.inl ⟨Or.inl (k3 k s), (k1.foot_lt s).1⟩) (fun k hk => ?_), ⟨r', b, a.disk, k2.trans' c (fun k hk s => by have := (k1.foot_lt s).1; omega), fun k hk => Or.inr (Or.inl hk), fun p hp => ?_⟩, fun k hk hr => ?_⟩, c.mono (fun k _ s => ⟨fun f => hF k f (k3 k s), (k1.foot_lt s).1⟩)⟩
    · rcases hk with (hk | hk | hk) | hk
      · exact Or.inl (Or.inl hk)
      · rcases d k hk with s | s
        · exact Or.inl (Or.inl (k3 k s))
        · exact Or.inr ⟨s, (a.disk.foot_lt hk).2⟩
      · exact Or.inr ⟨f' k hk, (a.jrn.foot_lt hk).2⟩
      · exact Or.inl (Or.inr hk)
    · obtain rfl := Option.some.inj hp
      exact ⟨x, rfl, by have := a.jrn; rw [b] at this; exact this, fun k hk => Or.inr (Or.inr hk)⟩
    · have := hFz k hk
      rcases hr with hr | hr | hr
      · exact hF k hk hr
      · rcases d k hr with s | s
        · exact hF k hk (k3 k s)
        · omega
      · have := f' k hr; omega
theorem TS.list {p : Nat × Jr.Jn} (h : TS w db jp D rb (some p) E F z) : ∃ v, z.cell? ⟨p.1, 2, none⟩ = some v ∧ z.ownsRow w.heap.size tStrJ 1 v p.2.recs.length (p.2.recs.map bsV) := by
  obtain ⟨R, h1, ⟨r, e, k1, k2, k3, k4⟩, hF⟩ := h
  obtain ⟨x, e2, k5, k6⟩ := k4 p rfl
  exact ⟨x.lv, by rw [← e2]; exact k5.cells.2.2.1, k5.own⟩
theorem ts_new (h1 : GS w db none D (fun _ => False) z) {r : RdR} (k1 : RDAt z.heap.size z' r E) (u : Nw z z') : TS w db none D r.rb none E (fun _ => False) z' := by
  have hz := h1.nw0.size
  obtain ⟨d, hd⟩ := h1.dpart
  obtain ⟨l, a, b⟩ := k1.files
  exact ⟨r.foot, h1.keep u (fun k hk => Or.inr (k1.foot_lt (hk.resolve_right id))), ⟨r, rfl, ⟨hd.2.hb, Nat.le_trans hz k1.rb, k1.blk, ⟨l, owns_base a hz, b⟩, owns_base k1.queue hz, owns_base k1.keep hz, k1.ok, k1.kI⟩, h1.nw0.trans u, fun k hk => hk, fun p hp => by cases hp⟩, fun k hk => hk.elim⟩
theorem tlose_t (h : TS w db jp D rb kq E F z) {n : Int} (hn : I64 n) : Calls Tryz.prog 13 #[.pointer (some ⟨db, 0, none⟩), .int .i64 n] z fun e z' => e = .returned (.tuple #[]) ∧ TS w db jp (Dk.lose D n) rb kq E F z' ∧ Moves w F z z' :=
  h.prog fun R h1 => lose_t h1 hn
theorem tstart_t (h : TS w db jp D rb kq E F z) : Calls Tryz.prog 19 #[.pointer (some ⟨db, 0, none⟩)] z fun e z' => e = .returned (.tuple #[]) ∧ TS w db jp (Dk.start D) rb kq E F z' ∧ Moves w F z z' :=
  h.prog fun R h1 => start_t h1
theorem tarm_t (h : TS w db jp D rb kq E F z) (g : Gl w) {n : Int} (hn : I64 n) (lo hi : Nat) (v : Value) (keep : List Int) (hkI : ∀ x ∈ keep, I64 x) (hs : Sl lo hi z v (keep.map intD)) (hL : keep.length ≤ 1000000000) :
    Calls Tryz.prog 15 #[.pointer (some ⟨db, 0, none⟩), .int .i64 n, v] z fun e z' => e = .returned (.tuple #[]) ∧ TS w db jp (Dk.arm D n keep) rb kq E F z' ∧ Moves w F z z' :=
  h.prog fun R h1 => arm_t h1 g hn lo hi v keep hkI hs hL
theorem tcrash_t (h : TS w db jp D rb kq E F z) (g : Gl w) (lo hi : Nat) (hhi : hi ≤ w.heap.size) (v : Value) (keep : List Int) (hkI : ∀ x ∈ keep, I64 x) (hs : Sl lo hi w v (keep.map intD)) :
    Calls Tryz.prog 17 #[.pointer (some ⟨db, 0, none⟩), v] z fun e z' => e = .returned (.tuple #[]) ∧ TS w db jp (Dk.crash D keep) rb kq E F z' ∧ Moves w F z z' :=
  h.prog fun R h1 => crash_t h1 g lo hi hhi v keep hkI hs
theorem tread_t (h : TS w db jp D rb kq E F z) {f i n : Int} (hf : I64 f) (hi : I64 i) (hn : I64 n) :
    Calls Tryz.prog 23 #[.pointer (some ⟨db, 0, none⟩), .int .i64 f, .int .i64 i, .int .i64 n] z fun e z' => e = .returned (.tuple #[.string ⟨(Dk.read D f i n).1.toArray⟩, .int .i64 (Dk.read D f i n).2]) ∧ z = z' := by
  obtain ⟨R, h1, h2⟩ := h
  exact read_t h1 hf hi hn
theorem tsize_t (h : TS w db jp D rb kq E F z) {f : Int} (hf : I64 f) :
    Calls Tryz.prog 21 #[.pointer (some ⟨db, 0, none⟩), .int .i64 f] z fun e z' => e = .returned (.int .i64 (Dk.size D f)) ∧ z = z' := by
  obtain ⟨R, h1, h2⟩ := h
  exact size_t h1 hf
theorem tsize_i64 (h : TS w db jp D rb kq E F z) (f : Int) : I64 (Dk.size D f) := by
  obtain ⟨R, h1, h2⟩ := h
  have := h1.ok.now f
  unfold Dk.size I64
  omega
end
end Go.Proofs.YtiednpagknnfnaaGreatDoor
namespace Go.Proofs.YtiednpagknnfnaaGreatDoor
open Go.RowKit
open Sg (opE doneE)
attribute [local irreducible] Calls CallsIn
namespace Sg
theorem perform_eq (D : Dk.Disk) (j : Jr.Jn) (S : Sta) (o : Ops) : perform D j S o =
    if (Jr.append D j (opE o)).2.2 ≠ 0 then ((Jr.append D j (opE o)).1, (Jr.append D j (opE o)).2.1, S, (Jr.append D j (opE o)).2.2) else
    if (Jr.syncJ (Jr.append D j (opE o)).1 (Jr.append D j (opE o)).2.1).2.2 ≠ 0 then ((Jr.syncJ (Jr.append D j (opE o)).1 (Jr.append D j (opE o)).2.1).1, (Jr.syncJ (Jr.append D j (opE o)).1 (Jr.append D j (opE o)).2.1).2.1, S, (Jr.syncJ (Jr.append D j (opE o)).1 (Jr.append D j (opE o)).2.1).2.2) else
    contI S o 1 (Jr.syncJ (Jr.append D j (opE o)).1 (Jr.append D j (opE o)).2.1).1 (Jr.syncJ (Jr.append D j (opE o)).1 (Jr.append D j (opE o)).2.1).2.1 := by
  unfold perform contI half
  split
  · rfl
  · rfl
theorem cont_eq (D : Dk.Disk) (j : Jr.Jn) (S : Sta) (o : Ops) : contI S o 1 D j =
    if (Jr.append D j doneE).2.2 ≠ 0 then ((Jr.append D j doneE).1, (Jr.append D j doneE).2.1, S, (Jr.append D j doneE).2.2) else
    if (Jr.syncJ (Jr.append D j doneE).1 (Jr.append D j doneE).2.1).2.2 ≠ 0 then ((Jr.syncJ (Jr.append D j doneE).1 (Jr.append D j doneE).2.1).1, (Jr.syncJ (Jr.append D j doneE).1 (Jr.append D j doneE).2.1).2.1, S, (Jr.syncJ (Jr.append D j doneE).1 (Jr.append D j doneE).2.1).2.2) else
    ((Jr.syncJ (Jr.append D j doneE).1 (Jr.append D j doneE).2.1).1, (Jr.syncJ (Jr.append D j doneE).1 (Jr.append D j doneE).2.1).2.1, after S o, 0) := by
  show (if (half D j doneE).2.2 ≠ 0 then _ else _) = _
  unfold half
  split
  · rfl
  · rfl
end Sg
structure RsR where
  sb : Nat
  kb : Nat
  v : SvR
  P : Nat → Prop
def RsR.foot (y : RsR) (k : Nat) : Prop := k = y.sb ∨ y.P k
structure RsAt (B : Nat) (z : World) (y : RsR) (S : Sg.Sta) : Prop where
  blk : z.heap[y.sb]? = some (.cells #[.pointer (some ⟨y.kb, 0, none⟩), y.v.tv, y.v.hv, y.v.pv] tRSt (0, 0))
  sv : SvAt B y.P z y.v S
  lo : ∀ k, y.foot k → B ≤ k ∧ k < z.heap.size
  ne : ¬ y.P y.sb
theorem RsAt.upd {B : Nat} {z z' : World} {y : RsR} {S : Sg.Sta} {U : Nat → Prop} (h : RsAt B z y S) (u : Upd U z z') (hs : ∀ k, y.foot k → ¬ U k) : RsAt B z' y S :=
  ⟨u.keep h.blk (hs _ (Or.inl rfl)), h.sv.upd u (fun k hk => hs k (Or.inr hk)), fun k hk => ⟨(h.lo k hk).1, by have := u.size; have := (h.lo k hk).2; omega⟩, h.ne⟩
theorem RsAt.cells {B : Nat} {z : World} {y : RsR} {S : Sg.Sta} (h : RsAt B z y S) : z.cell? ⟨y.sb, 0, none⟩ = some (.pointer (some ⟨y.kb, 0, none⟩)) ∧ z.cell? ⟨y.sb, 1, none⟩ = some y.v.tv ∧ z.cell? ⟨y.sb, 2, none⟩ = some y.v.hv ∧ z.cell? ⟨y.sb, 3, none⟩ = some y.v.pv := by
  refine ⟨?_, ?_, ?_, ?_⟩ <;> (rw [cells_cell h.blk]; rfl)
structure RS (w : World) (db : Nat) (jp : Option (Nat × Jr.Jn)) (D : Dk.Disk) (rb : Nat) (y : RsR) (k : Jr.Jn) (E : Dk.Disk) (Q : Sg.Sta) (F : Nat → Prop) (z : World) : Prop where
  ts : TS w db jp D rb (some (y.kb, k)) E (fun b => F b ∨ y.foot b) z
  st : RsAt w.heap.size z y Q
  ap : ∀ b, F b → ¬ y.foot b
theorem TS.updF {w : World} {db rb : Nat} {jp kq : Option (Nat × Jr.Jn)} {D E : Dk.Disk} {F U : Nat → Prop} {z z' : World} (h : TS w db jp D rb kq E F z) (u : Upd U z z') (hs : ∀ k, U k → F k ∧ w.heap.size ≤ k) : TS w db jp D rb kq E F z' := by
  obtain ⟨R, h1, h2, h3⟩ := h
  exact ⟨R, h1.upd u (fun k s => Or.inl ⟨Or.inr (hs k s).1, (hs k s).2⟩), h2.upd u (fun k hk s => h3 k (hs k s).1 hk) (fun k s => (hs k s).2), h3⟩
theorem TS.lt {w : World} {db rb : Nat} {jp kq : Option (Nat × Jr.Jn)} {D E : Dk.Disk} {F : Nat → Prop} {z : World} (h : TS w db jp D rb kq E F z) (k : Nat) (hk : F k) : k < z.heap.size := by
  obtain ⟨R, ⟨d, _, _, _, h3, _⟩, _, _⟩ := h
  exact (h3 k (Or.inr hk)).1
section
variable {w : World} {db rb : Nat} {jp : Option (Nat × Jr.Jn)} {D E E' : Dk.Disk} {y : RsR} {k k' : Jr.Jn} {Q : Sg.Sta} {F U : Nat → Prop} {z z' : World}
theorem RS.gl (h : RS w db jp D rb y k E Q F z) (g : Gl w) : Gl z := g.upd h.ts.nw0
theorem RS.nw (h : RS w db jp D rb y k E Q F z) (u : Nw z z') : RS w db jp D rb y k E Q F z' := ⟨h.ts.nw u, h.st.upd u (fun _ _ s => s), h.ap⟩
theorem RS.call (h : RS w db jp D rb y k E Q F z) (t : TS w db jp D rb (some (y.kb, k')) E' (fun b => F b ∨ y.foot b) z') (m : Moves w (fun b => F b ∨ y.foot b) z z') : RS w db jp D rb y k' E' Q F z' ∧ Moves w F z z' :=
  ⟨⟨t, h.st.upd m (fun b hb e => e.1 (Or.inr hb)), h.ap⟩, m.mono (fun b _ e => ⟨fun f => e.1 (Or.inl f), e.2⟩)⟩
theorem RS.setS (h : RS w db jp D rb y k E Q F z) (hgw : w.heap.size ≤ z.heap.size) {v' : SvR} {Q' : Sg.Sta} {z1 z2 : World} (u : Nw z z1) (hs : SvAt w.heap.size (fun b => y.P b ∨ (z.heap.size ≤ b ∧ b < z1.heap.size)) z1 v' Q')
    (hb : z2.heap[y.sb]? = some (.cells #[.pointer (some ⟨y.kb, 0, none⟩), v'.tv, v'.hv, v'.pv] tRSt (0, 0))) (u2 : Upd (fun b => b = y.sb) z1 z2) :
    RS w db jp D rb ⟨y.sb, y.kb, v', fun b => y.P b ∨ (z.heap.size ≤ b ∧ b < z1.heap.size)⟩ k E Q' F z2 ∧ Moves w F z z2 := by
  have hsb := h.st.lo y.sb (Or.inl rfl)
  have hz1 := u.size
  have hz2 := u2.size
  have hne : ∀ b, (y.P b ∨ (z.heap.size ≤ b ∧ b < z1.heap.size)) → ¬ b = y.sb := fun b hb e => by
    rcases hb with hb | hb
    · exact h.st.ne (e ▸ hb)
    · omega
  refine ⟨⟨?_, ⟨hb, hs.upd u2 hne, fun b hb => ?_, fun hb => hne _ hb rfl⟩, fun b hf hb => ?_⟩, (Nw.upd _ u).trans (u2.mono (fun b _ e => by rw [e]; exact ⟨fun f => h.ap _ f (Or.inl rfl), hsb.1⟩))⟩
  · refine (h.ts.keep (F' := fun b => F b ∨ RsR.foot ⟨y.sb, y.kb, v', fun b => y.P b ∨ (z.heap.size ≤ b ∧ b < z1.heap.size)⟩ b) u (fun b hb => ?_)).updF u2 (fun b e => ?_)
    · rcases hb with hb | hb | hb | hb
      · exact Or.inl (Or.inl hb)
      · exact Or.inl (Or.inr (Or.inl hb))
      · exact Or.inl (Or.inr (Or.inr hb))
      · exact Or.inr hb
    · exact ⟨Or.inr (Or.inl e), by rw [e]; exact hsb.1⟩
  · rcases hb with hb | hb | hb
    · have hb : b = y.sb := hb
      omega
    · have := h.st.lo b (Or.inr hb); omega
    · omega
  · rcases hb with hb | hb | hb
    · exact h.ap b hf (Or.inl hb)
    · exact h.ap b hf (Or.inr hb)
    · have := h.ts.lt b (Or.inl hf); omega
end
def RopD (w : World) (db : Nat) (jp : Option (Nat × Jr.Jn)) (D : Dk.Disk) (rb : Nat) (y : RsR) (r : Dk.Disk × Jr.Jn × Sg.Sta) (F : Nat → Prop) (z z' : World) : Prop := ∃ y' : RsR, y'.sb = y.sb ∧ y'.kb = y.kb ∧ RS w db jp D rb y' r.2.1 r.1 r.2.2 F z' ∧ Moves w F z z'
set_option maxHeartbeats 8000000 in
set_option maxRecDepth 100000 in
theorem rperform_t {w : World} {db rb : Nat} {jp : Option (Nat × Jr.Jn)} {D E : Dk.Disk} {y : RsR} {k : Jr.Jn} {Q : Sg.Sta} {F : Nat → Prop} {z : World} (g : Gl w) (h : RS w db jp D rb y k E Q F z) {o : Sg.Ops} (ha : Sg.adm Q o) (hb : Sg.big Q + 1 ≤ 1000) (ho : (opE o).length ≤ 20000) :
    Calls Tryz.prog 70 #[.pointer (some ⟨y.sb, 0, none⟩), .string ⟨(opE o).toArray⟩] z fun e z' => e = .returned (.int .i64 (Sg.perform E k Q o).2.2.2) ∧ RopD w db jp D rb y ((Sg.perform E k Q o).1, (Sg.perform E k Q o).2.1, (Sg.perform E k Q o).2.2.1) F z z' := by
  have hr := Sg.perform_eq E k Q o
  obtain ⟨r, hr0⟩ : ∃ r, r = Sg.perform E k Q o := ⟨_, rfl⟩
  rw [← hr0] at hr ⊢
  have hwb := g.big
  obtain ⟨c0, _, _, _⟩ := h.st.cells
  have hA1 := rappend_t h.ts g (opE o) (by omega)
  have hdone : ∀ (E' : Dk.Disk) (k' : Jr.Jn) (e : Int) (z' : World), r = (E', k', Q, e) → RS w db jp D rb y k' E' Q F z' ∧ Moves w F z z' → RopD w db jp D rb y (r.1, r.2.1, r.2.2.1) F z z' := fun _ _ _ _ e ⟨h1, h2⟩ => by rw [e]; exact ⟨y, rfl, rfl, h1, h2⟩
  have HDone := Lib.hid hdone
  have HAf := Lib.hid (fun (z4 : World) (h4 : SvAt w.heap.size y.P z4 y.v Q) (g4 : Gl z4) (hs : w.heap.size ≤ z4.heap.size) => rAfter_c hwb hs g4 h4 ha hb ho)
  have HCont := Lib.hid (fun E k => Sg.cont_eq E k Q o)
  clear hdone hr0
  obtain ⟨⟨E1, k1, e1⟩, hq1⟩ : ∃ q, q = Jr.append E k (opE o) := ⟨_, rfl⟩
  rw [← hq1] at hr hA1
  dsimp only at hr hA1
  have HA1 := Lib.hid hA1
  have H := Lib.hid h
  have HR := Lib.hid hr
  clear hq1 hA1 h hr ha hb ho
  generalize (⟨(opE o).toArray⟩ : ByteArray) = op at *
  go_enter Tryz.func70, Tryz.ntmps70
  go_wp2_with fail
  (with_reducible refine (HA1.out).mono ?_)
  rintro _ w1 ⟨rfl, t1, m1⟩
  obtain ⟨h1, n1⟩ := H.out.call t1 m1
  obtain ⟨d0, _, _, _⟩ := h1.st.cells
  have H1 := Lib.hid h1
  have N1 := Lib.hid n1
  clear t1 m1 h1 n1 c0
  by_cases h0 : e1 = 0
  · subst h0
    have hr := HR.out.trans (if_neg (by simp))
    have hC := rjsync_t (p := (y.kb, k1)) H1.out.ts g
    obtain ⟨⟨E2, k2, e2⟩, hq⟩ : ∃ q, q = Jr.syncJ E1 k1 := ⟨_, rfl⟩
    dsimp only at hC
    rw [← hq] at hr hC
    dsimp only at hr hC
    have HC2 := Lib.hid hC
    have HR2 := Lib.hid hr
    clear hq hC hr
    go_wp2_with fail
    (with_reducible refine (HC2.out).mono ?_)
    rintro _ w2 ⟨rfl, t2, m2⟩
    obtain ⟨h2, n2⟩ := H1.out.call t2 m2
    have N2 := Lib.hid (N1.out.trans n2)
    obtain ⟨d0, d1, d2, d3⟩ := h2.st.cells
    have H2 := Lib.hid h2
    clear t2 m2 h2 n2
    by_cases h0 : e2 = 0
    · subst h0
      have hr := (HR2.out.trans (if_neg (by simp))).trans (HCont.out _ _)
      have hC := rappend_t (p := (y.kb, k2)) H2.out.ts g doneE (by decide)
      obtain ⟨⟨E3, k3, e3⟩, hq⟩ : ∃ q, q = Jr.append E2 k2 doneE := ⟨_, rfl⟩
      dsimp only at hC
      rw [← hq] at hr hC
      dsimp only at hr hC
      unfold doneE at hC
      have HC3 := Lib.hid hC
      have HR3 := Lib.hid hr
      clear hq hC hr
      go_wp2_with fail
      (with_reducible refine (HC3.out).mono ?_)
      rintro _ w3 ⟨rfl, t3, m3⟩
      obtain ⟨h3, n3⟩ := H2.out.call t3 m3
      have N3 := Lib.hid (N2.out.trans n3)
      obtain ⟨d0, d1, d2, d3⟩ := h3.st.cells
      have H3 := Lib.hid h3
      clear t3 m3 h3 n3
      by_cases h0 : e3 = 0
      · subst h0
        have hr := HR3.out.trans (if_neg (by simp))
        have hC := rjsync_t (p := (y.kb, k3)) H3.out.ts g
        obtain ⟨⟨E4, k4, e4⟩, hq⟩ : ∃ q, q = Jr.syncJ E3 k3 := ⟨_, rfl⟩
        dsimp only at hC
        rw [← hq] at hr hC
        dsimp only at hr hC
        have HC4 := Lib.hid hC
        have HR4 := Lib.hid hr
        clear hq hC hr
        go_wp2_with fail
        (with_reducible refine (HC4.out).mono ?_)
        rintro _ w4 ⟨rfl, t4, m4⟩
        obtain ⟨h4, n4⟩ := H3.out.call t4 m4
        have N4 := Lib.hid (N3.out.trans n4)
        obtain ⟨d0, d1, d2, d3⟩ := h4.st.cells
        have H4 := Lib.hid h4
        clear t4 m4 h4 n4
        by_cases h0 : e4 = 0
        · subst h0
          have hE := Lib.hid (HR4.out.trans (if_neg (by simp)))
          have hz4 := H4.out.ts.nw0.size
          have hAf := HAf.out w4 H4.out.st.sv (H4.out.gl g) hz4
          unfold AfD SvR.val at hAf
          have HAf4 := Lib.hid hAf
          clear hAf HAf
          go_wp2_with fail
          (with_reducible refine (HAf4.out).mono ?_)
          rintro _ w5 ⟨⟨tv', hv', pv'⟩, rfl, hs5, u5⟩
          obtain ⟨ta, tc, et⟩ := own_slS hs5.t
          obtain ⟨ha, hc, eh⟩ := own_slS hs5.h
          obtain ⟨C, eC, hpo, hit⟩ := hs5.p
          obtain ⟨pa, pc, ep⟩ := own_slS hpo
          dsimp only at et eh ep
          subst et eh ep
          generalize (Sg.after Q o).tx.length = mt at *
          generalize (Sg.after Q o).th.length = mh at *
          generalize hm3 : C.length = mp at *
          have hb5 := Nw.keep u5 H4.out.st.blk
          have hz5 := u5.size
          have hsb := H4.out.st.lo y.sb (Or.inl rfl)
          have x1 : w5.cell? ⟨y.sb, 1, none⟩ = some y.v.tv := by rw [cells_cell hb5]; rfl
          have x2 : w5.cell? ⟨y.sb, 2, none⟩ = some y.v.hv := by rw [cells_cell hb5]; rfl
          have x3 : w5.cell? ⟨y.sb, 3, none⟩ = some y.v.pv := by rw [cells_cell hb5]; rfl
          have f1 := cells_frozen hb5 1
          have f2 := cells_frozen hb5 2
          have f3 := cells_frozen hb5 3
          have HBf := Lib.hid (setCell_block (setCell_block (setCell_block hb5 1 (.slice ta mt tc)) 2 (.slice ha mh hc)) 3 (.slice pa mp pc))
          have HUf := Lib.hid (Upd.set1 (Upd.set1 (Upd.set1 (Upd.refl _ w5) (b := y.sb) (by omega) 1 (.slice ta mt tc)) (b := y.sb) (by omega) 2 (.slice ha mh hc)) (b := y.sb) (by omega) 3 (.slice pa mp pc))
          have HS5 := Lib.hid hs5
          have HU5 := Lib.hid u5
          clear hb5 hs5 u5 HAf4 eC hpo hit
          go_wp2_with fail
          go_ret
          obtain ⟨k1, k2⟩ := H4.out.setS hz4 HU5.out HS5.out HBf.out HUf.out
          rw [hE.out]
          exact ⟨rfl, ⟨y.sb, y.kb, ⟨.slice ta mt tc, .slice ha mh hc, .slice pa mp pc⟩, fun b => y.P b ∨ (w4.heap.size ≤ b ∧ b < w5.heap.size)⟩, rfl, rfl, k1, N4.out.trans k2⟩
        · have hE := Lib.hid (HR4.out.trans (if_pos h0))
          have h0' : (e4 == 0) = false := beq_eq_false_iff_ne.2 h0
          go_wp2_with fail
          go_ret
          exact ⟨by rw [hE.out]; rfl, HDone.out _ _ _ _ hE.out ⟨H4.out, N4.out⟩⟩
      · have hE := Lib.hid (HR3.out.trans (if_pos h0))
        have h0' : (e3 == 0) = false := beq_eq_false_iff_ne.2 h0
        go_wp2_with fail
        go_ret
        exact ⟨by rw [hE.out]; rfl, HDone.out _ _ _ _ hE.out ⟨H3.out, N3.out⟩⟩
    · have hE := Lib.hid (HR2.out.trans (if_pos h0))
      have h0' : (e2 == 0) = false := beq_eq_false_iff_ne.2 h0
      go_wp2_with fail
      go_ret
      exact ⟨by rw [hE.out]; rfl, HDone.out _ _ _ _ hE.out ⟨H2.out, N2.out⟩⟩
  · have hE := Lib.hid (HR.out.trans (if_pos h0))
    have h0' : (e1 == 0) = false := beq_eq_false_iff_ne.2 h0
    go_wp2_with fail
    go_ret
    exact ⟨by rw [hE.out]; rfl, HDone.out _ _ _ _ hE.out ⟨H1.out, N1.out⟩⟩
end Go.Proofs.YtiednpagknnfnaaGreatDoor
namespace Go.Proofs.YtiednpagknnfnaaGreatDoor
open Go.RowKit
open Sg (opE doneE)
attribute [local irreducible] Calls CallsIn
section
variable {w : World} {db rb : Nat} {jp : Option (Nat × Jr.Jn)} {D E : Dk.Disk} {y : RsR} {k : Jr.Jn} {Q : Sg.Sta} {F : Nat → Prop} {z : World}
theorem RopD.same (h : RS w db jp D rb y k E Q F z) {z' : World} (u : Nw z z') : RopD w db jp D rb y (E, k, Q) F z z' := ⟨y, rfl, rfl, h.nw u, Nw.upd _ u⟩
theorem RopD.pre {r : Dk.Disk × Jr.Jn × Sg.Sta} {z1 z' : World} (u : Nw z z1) (h : RopD w db jp D rb y r F z1 z') : RopD w db jp D rb y r F z z' := by
  obtain ⟨y', e1, e2, h1, h2⟩ := h
  exact ⟨y', e1, e2, h1, (Nw.upd _ u).trans h2⟩
set_option maxHeartbeats 4000000 in
set_option maxRecDepth 100000 in
theorem rput_t (g : Gl w) (h : RS w db jp D rb y k E Q F z) {t : List UInt8} (ht : t.length ≤ 19000) (hb : Sg.big Q + 1 ≤ 1000) :
    Calls Tryz.prog 42 #[.pointer (some ⟨y.sb, 0, none⟩), .string ⟨t.toArray⟩] z fun e z' => e = .returned (.tuple #[.int .i64 (Sg.put E k Q t).n, .int .i64 (Sg.put E k Q t).e]) ∧ RopD w db jp D rb y ((Sg.put E k Q t).D, (Sg.put E k Q t).j, (Sg.put E k Q t).S) F z z' := by
  have hFi := rFind_c h.st.sv t
  have HTl := Lib.hid (show Q.tx.length = Q.th.length from h.st.sv.g.len)
  have ht2 : (t.length : Int) ≤ 19000 := by omega
  have ht3 : ¬ ((19000 : Int) < t.length) := by omega
  have hPf := fun (z1 : World) (u : Nw z z1) (hf : Sg.find Q t = none) => rperform_t g (h.nw u) (o := .put t) hf hb (by simp [opE]; omega)
  obtain ⟨ta, tc, et⟩ := own_slS h.st.sv.t
  obtain ⟨ha, hc, eh⟩ := own_slS h.st.sv.h
  obtain ⟨C, eC, hpo, hit⟩ := h.st.sv.p
  obtain ⟨pa, pc, ep⟩ := own_slS hpo
  have hlC : C.length = Q.pf.length := by rw [eC, List.length_map]
  rw [hlC] at ep
  clear hlC hpo hit eC
  obtain ⟨sb, kb, ⟨tv, hv, pv⟩, P⟩ := y
  dsimp only at et eh ep
  subst et eh ep
  obtain ⟨c0, c1, c2, c3⟩ := h.st.cells
  dsimp only at c0 c1 c2 c3
  unfold SvR.val at hFi
  have H := Lib.hid h
  have HFi := Lib.hid hFi
  have htI : (Q.tx.length : Int) ≤ 1000 := by have := h.st.sv.len; omega
  cases hf : Sg.find Q t with
  | some n =>
    have hE := Lib.hid (show Sg.put E k Q t = (E, k, Q, (n : Int), 0) by unfold Sg.put; rw [hf])
    rw [hf] at HFi
    dsimp only [Option.getD_some, Option.isSome_some] at HFi
    clear h hFi hPf hf
    go_enter Tryz.func42, Tryz.ntmps42
    go_wp2_with fail
    (with_reducible refine (HFi.out).mono ?_)
    rintro _ w1 ⟨rfl, u1⟩
    go_wp2_with fail
    go_ret2
    rw [hE.out]
    exact ⟨rfl, RopD.same H.out u1⟩
  | none =>
    have hE := Lib.hid (show Sg.put E k Q t = Sg.withN Q.th.length (Sg.perform E k Q (.put t)) by unfold Sg.put; rw [hf])
    have hP := fun z1 u => hPf z1 u hf
    have hcat := cat_one 112 t
    simp only [opE] at hP
    rw [hf] at HFi
    dsimp only [Option.getD_none, Option.isSome_none] at HFi
    generalize (⟨(112 :: t).toArray⟩ : ByteArray) = op at hP hcat
    have HP := Lib.hid hP
    have hsm : ¬ (9223372036854775807 < 1 + t.length) := by omega
    obtain ⟨r, hr⟩ : ∃ r, r = Sg.perform E k Q (.put t) := ⟨_, rfl⟩
    rw [← hr] at HP hE
    obtain ⟨E', k', Q', e'⟩ := r
    dsimp only at HP
    clear h hFi hPf hf hP hr
    go_enter Tryz.func42, Tryz.ntmps42
    go_wp2_with fail
    (with_reducible refine (HFi.out).mono ?_)
    rintro _ w1 ⟨rfl, u1⟩
    have HP1 := Lib.hid (HP.out w1 u1)
    obtain ⟨d0, d1, d2, d3⟩ := (H.out.nw u1).st.cells
    dsimp only at d0 d1 d2 d3
    have HU1 := Lib.hid u1
    clear HP HFi c0 c1 c2 c3 u1
    by_cases h0 : e' = 0
    · subst h0
      go_wp2_with fail
      (with_reducible refine (HP1.out).mono ?_)
      rintro _ w2 ⟨rfl, hs2⟩
      go_wp2_with fail
      go_ret2
      rw [hE.out]
      refine ⟨?_, hs2.pre HU1.out⟩
      rw [HTl.out]; rfl
    · have h0' : (e' == 0) = false := beq_eq_false_iff_ne.2 h0
      go_wp2_with fail
      (with_reducible refine (HP1.out).mono ?_)
      rintro _ w2 ⟨rfl, hs2⟩
      go_wp2_with fail
      go_ret2
      rw [hE.out]
      refine ⟨?_, hs2.pre HU1.out⟩
      simp [Sg.withN, Sg.Res.n, Sg.Res.e, h0]
set_option maxHeartbeats 4000000 in
set_option maxRecDepth 100000 in
theorem rdrop_t (g : Gl w) (h : RS w db jp D rb y k E Q F z) {n : List UInt8} (hn : n.length ≤ 19000) (hb : Sg.big Q + 1 ≤ 1000) :
    Calls Tryz.prog 44 #[.pointer (some ⟨y.sb, 0, none⟩), .string ⟨n.toArray⟩] z fun e z' => e = .returned (.int .i64 (Sg.drop E k Q n).e) ∧ RopD w db jp D rb y ((Sg.drop E k Q n).D, (Sg.drop E k Q n).j, (Sg.drop E k Q n).S) F z z' := by
  have hFi := rProfile_c (h.gl g).big h.st.sv n
  have hPf := fun (z1 : World) (u : Nw z z1) => rperform_t g (h.nw u) (o := .drop n) trivial hb (by simp [opE]; omega)
  obtain ⟨ta, tc, et⟩ := own_slS h.st.sv.t
  obtain ⟨ha, hc, eh⟩ := own_slS h.st.sv.h
  obtain ⟨C, eC, hpo, hit⟩ := h.st.sv.p
  obtain ⟨pa, pc, ep⟩ := own_slS hpo
  have hlC : C.length = Q.pf.length := by rw [eC, List.length_map]
  rw [hlC] at ep
  clear hlC hpo hit eC
  obtain ⟨sb, kb, ⟨tv, hv, pv⟩, P⟩ := y
  dsimp only at et eh ep
  subst et eh ep
  obtain ⟨c0, c1, c2, c3⟩ := h.st.cells
  dsimp only at c0 c1 c2 c3
  unfold SvR.val at hFi
  have H := Lib.hid h
  cases hf : Sg.prof Q n with
  | none =>
    have hE := Lib.hid (show Sg.drop E k Q n = (E, k, Q, 0, 4) by unfold Sg.drop; rw [hf])
    rw [hf] at hFi
    dsimp only [Option.elim_none, Option.isSome_none, bsV] at hFi
    have HFi := Lib.hid hFi
    clear h hFi hPf hf
    go_enter Tryz.func44, Tryz.ntmps44
    go_wp2_with fail
    (with_reducible refine (HFi.out).mono ?_)
    rintro _ w1 ⟨iv, rfl, hi, u1⟩
    obtain ⟨ia, ic, rfl⟩ := own_slS hi.1
    go_wp2_with fail
    go_ret
    rw [hE.out]
    exact ⟨rfl, RopD.same H.out (u1.trans (nw_alloc _ _))⟩
  | some p =>
    have hE := Lib.hid (show Sg.drop E k Q n = Sg.withN 0 (Sg.perform E k Q (.drop n)) by unfold Sg.drop; rw [hf])
    have hcat := cat_one 100 n
    simp only [opE] at hPf
    rw [hf] at hFi
    dsimp only [Option.elim_some, Option.isSome_some, bsV] at hFi
    have HFi := Lib.hid hFi
    generalize (⟨(100 :: n).toArray⟩ : ByteArray) = op at hPf hcat
    have HP := Lib.hid hPf
    have hsm : ¬ (9223372036854775807 < 1 + n.length) := by omega
    obtain ⟨r, hr⟩ : ∃ r, r = Sg.perform E k Q (.drop n) := ⟨_, rfl⟩
    rw [← hr] at HP hE
    obtain ⟨E', k', Q', e'⟩ := r
    dsimp only at HP
    clear h hFi hPf hf hr
    go_enter Tryz.func44, Tryz.ntmps44
    go_wp2_with fail
    (with_reducible refine (HFi.out).mono ?_)
    rintro _ w1 ⟨iv, rfl, hi, u1⟩
    obtain ⟨ia, ic, rfl⟩ := own_slS hi.1
    have n2 := nw_alloc w1 (.cells #[.string ⟨p.nm.toArray⟩, .slice ia p.its.length ic] tPf)
    obtain ⟨w2, hw2⟩ : ∃ q, q = w1.alloc (.cells #[.string ⟨p.nm.toArray⟩, .slice ia p.its.length ic] tPf) := ⟨_, rfl⟩
    rw [← hw2] at n2
    have HW2 := Lib.hid hw2
    have HP1 := Lib.hid (HP.out w2 (u1.trans n2))
    have HU1 := Lib.hid (u1.trans n2)
    clear HP HFi u1 hi n2 hw2
    go_upto_region 2 with fail
    rw [← HW2.out]
    clear HW2
    go_wp2_with fail
    (with_reducible refine (HP1.out).mono ?_)
    rintro _ w3 ⟨rfl, hs3⟩
    go_wp2_with fail
    go_ret
    rw [hE.out]
    exact ⟨rfl, hs3.pre HU1.out⟩
end
end Go.Proofs.YtiednpagknnfnaaGreatDoor
namespace Go.Proofs.YtiednpagknnfnaaGreatDoor
open Go.RowKit
open Sg (opE doneE)
attribute [local irreducible] Calls CallsIn
namespace Sg
def cntS (Q : Sta) (i : Nat) : Nat := ((List.range i).filter fun (m : Nat) => !used Q m && thereN Q m).length
theorem cntS_end (Q : Sta) : (spare Q).length = cntS Q Q.th.length := by
  unfold spare numbers cntS
  rw [List.filter_filter]
theorem cntS_succ (Q : Sta) (i : Nat) : cntS Q (i + 1) = cntS Q i + (if (!used Q i && thereN Q i) = true then 1 else 0) := by
  unfold cntS
  rw [List.range_succ, List.filter_append, List.length_append]
  cases h : (!used Q i && thereN Q i) <;> simp [List.filter, h]
theorem cntS_le (Q : Sta) (i : Nat) : cntS Q i ≤ i := by
  unfold cntS
  exact Nat.le_trans (List.length_filter_le _ _) (by simp)
end Sg
section
variable {w : World} {db rb : Nat} {jp : Option (Nat × Jr.Jn)} {D E : Dk.Disk} {y : RsR} {k : Jr.Jn} {Q : Sg.Sta} {F : Nat → Prop} {z : World}
set_option maxHeartbeats 4000000 in
set_option maxRecDepth 100000 in
theorem rsweep_t (g : Gl w) (h : RS w db jp D rb y k E Q F z) (hb : Sg.big Q + 1 ≤ 1000) :
    Calls Tryz.prog 45 #[.pointer (some ⟨y.sb, 0, none⟩)] z fun e z' => e = .returned (.tuple #[.int .i64 (Sg.sweep E k Q).n, .int .i64 (Sg.sweep E k Q).e]) ∧ RopD w db jp D rb y ((Sg.sweep E k Q).D, (Sg.sweep E k Q).j, (Sg.sweep E k Q).S) F z z' := by
  have HUs := Lib.hid (fun (z1 : World) (u : Nw z z1) n => rUsed_c (h.st.sv.nw u) n)
  have HPf := Lib.hid (fun (z1 : World) (u : Nw z z1) => rperform_t g (h.nw u) (o := .sweep) trivial hb (by simp [opE]))
  have HHc := Lib.hid (show ∀ i (hi : i < Q.th.length), ∃ b a c, y.v.hv = .slice (some ⟨b, 0, none⟩) a c ∧ z.cell? ⟨b, i, none⟩ = some (.bool Q.th[i]) from fun i hi => by
    obtain ⟨a, c, e1, e2⟩ := h.st.sv.hcell
    obtain ⟨b, rfl, e3⟩ := e2 i hi
    exact ⟨b, _, _, e1, e3⟩)
  have hlen := h.st.sv.len
  obtain ⟨ta, tc, et⟩ := own_slS h.st.sv.t
  obtain ⟨ha, hc, eh⟩ := own_slS h.st.sv.h
  obtain ⟨C, eC, hpo, hit⟩ := h.st.sv.p
  obtain ⟨pa, pc, ep⟩ := own_slS hpo
  have hlC : C.length = Q.pf.length := by rw [eC, List.length_map]
  rw [hlC] at ep
  clear hlC hpo hit eC
  obtain ⟨sb, kb, ⟨tv, hv, pv⟩, P⟩ := y
  dsimp only at et eh ep
  subst et eh ep
  obtain ⟨c0, c1, c2, c3⟩ := h.st.cells
  dsimp only at c0 c1 c2 c3
  unfold SvR.val at HUs
  dsimp only [opE] at *
  have H := Lib.hid h
  have hl1 : (Q.th.length : Int) ≤ 1000 := by omega
  have HEnd := Lib.hid (Sg.cntS_end Q)
  clear h hlen
  go_enter Tryz.func45, Tryz.ntmps45
  go_wp2_with fail
  go_loopw [4, 5] (fun cv iv wr => ∃ i : Nat, i ≤ Q.th.length ∧ iv = .int .i64 (i : Int) ∧ cv = .int .i64 (Sg.cntS Q i : Int) ∧ Hid (Nw z wr)) (fun _ iv _ => Q.th.length - (intOf iv).toNat)
  case atStart => exact ⟨0, Nat.zero_le _, rfl, rfl, Upd.refl _ _⟩
  case round =>
    obtain ⟨i, hi, rfl, rfl, hu⟩ := hrel
    obtain ⟨d0, d1, d2, d3⟩ := (H.out.nw hu.out).st.cells
    dsimp only at d0 d1 d2 d3
    by_cases hlt : i < Q.th.length
    · obtain ⟨b, a', c', e, hcell⟩ := HHc.out i hlt
      cases e
      have hcell := nw_cellS hu.out hcell
      have hsc := Sg.cntS_succ Q i
      have hth : Sg.thereN Q i = Q.th[i] := there_at hlt
      rw [hth] at hsc
      have hcl := Sg.cntS_le Q i
      have hci : (Sg.cntS Q i : Int) ≤ 1000 := by omega
      have HU := Lib.hid (HUs.out _ hu.out (i : Int))
      have HLt := Lib.hid hlt
      have hcast : ((i : Nat) : Int) = (i : Int) := rfl
      clear hth hcl
      generalize Q.th[i] = th at *
      cases th with
      | false =>
        have HSc := Lib.hid (show Sg.cntS Q (i + 1) = Sg.cntS Q i by rw [hsc, Bool.and_false]; rfl)
        clear hsc
        go_wp2_with fail
        go_roundw
        case rel => exact ⟨i + 1, HLt.out, by simp, by rw [HSc.out], hu⟩
        case measure =>
          have := HLt.out
          simp only [intOf]
          omega
      | true =>
        rw [Bool.and_true] at hsc
        cases hus : Sg.used Q (i : Int) with
        | true =>
          rw [hus] at HU
          have HSc := Lib.hid (show Sg.cntS Q (i + 1) = Sg.cntS Q i by rw [hsc, hus]; rfl)
          clear hsc hus
          go_wp2_with (go_at_call 75; with_reducible refine HU.out.mono ?_; rintro _ w2 ⟨rfl, u2⟩)
          go_roundw
          case rel => exact ⟨i + 1, HLt.out, by simp, by rw [HSc.out], hu.out.trans u2⟩
          case measure =>
            have := HLt.out
            simp only [intOf]
            omega
        | false =>
          rw [hus] at HU
          have HSc := Lib.hid (show Sg.cntS Q (i + 1) = Sg.cntS Q i + 1 by rw [hsc, hus]; rfl)
          clear hsc hus
          go_wp2_with (go_at_call 75; with_reducible refine HU.out.mono ?_; rintro _ w2 ⟨rfl, u2⟩)
          go_roundw
          case rel => exact ⟨i + 1, HLt.out, by simp, by rw [HSc.out]; simp, hu.out.trans u2⟩
          case measure =>
            have := HLt.out
            simp only [intOf]
            omega
    · obtain rfl : i = Q.th.length := by omega
      have hcl := Sg.cntS_le Q Q.th.length
      by_cases h0 : Sg.cntS Q Q.th.length = 0
      · have hE := Lib.hid (show Sg.sweep E k Q = (E, k, Q, 0, 0) by unfold Sg.sweep; rw [if_pos (List.length_eq_zero_iff.1 (by rw [HEnd.out]; exact h0))])
        have h0' : ((Sg.cntS Q Q.th.length : Int) == 0) = true := beq_iff_eq.2 (by omega)
        have HH0 := Lib.hid h0
        clear h0
        go_wp2_with fail
        go_ret2
        rw [hE.out]
        exact ⟨rfl, RopD.same H.out hu.out⟩
      · have hE := Lib.hid (show Sg.sweep E k Q = Sg.withN (Sg.cntS Q Q.th.length) (Sg.perform E k Q .sweep) by
          unfold Sg.sweep
          rw [if_neg (fun e => h0 (by rw [← HEnd.out, e]; rfl)), HEnd.out])
        have h0' : ((Sg.cntS Q Q.th.length : Int) == 0) = false := beq_eq_false_iff_ne.2 (by omega)
        have HP := Lib.hid (HPf.out _ hu.out)
        obtain ⟨r, hr⟩ : ∃ r, r = Sg.perform E k Q .sweep := ⟨_, rfl⟩
        rw [← hr] at HP hE
        obtain ⟨E', k', Q', e'⟩ := r
        dsimp only at HP
        clear h0 hr HPf
        by_cases h1 : e' = 0
        · subst h1
          go_wp2_with fail
          (with_reducible refine (HP.out).mono ?_)
          rintro _ w2 ⟨rfl, hs2⟩
          go_wp2_with fail
          go_ret2
          rw [hE.out]
          exact ⟨rfl, hs2.pre hu.out⟩
        · have h1' : (e' == 0) = false := beq_eq_false_iff_ne.2 h1
          go_wp2_with fail
          (with_reducible refine (HP.out).mono ?_)
          rintro _ w2 ⟨rfl, hs2⟩
          go_wp2_with fail
          go_ret2
          rw [hE.out]
          refine ⟨?_, hs2.pre hu.out⟩
          simp [Sg.withN, Sg.Res.n, Sg.Res.e, h1]
set_option maxHeartbeats 4000000 in
set_option maxRecDepth 100000 in
theorem rset_t (g : Gl w) (h : RS w db jp D rb y k E Q F z) {p : Sg.Pf} {v : Value} {lo hi : Nat} (hv : SlS 5 lo hi z v (p.its.map itC)) (hn : p.nm.length ≤ 1000000) (hl : p.its.length ≤ 1000) (hx : ∀ x ∈ p.its, ItArg x) (hb : Sg.big Q + 1 ≤ 1000) :
    Calls Tryz.prog 43 #[.pointer (some ⟨y.sb, 0, none⟩), .agg #[.string ⟨p.nm.toArray⟩, v]] z fun e z' => e = .returned (.int .i64 (Sg.set E k Q p).e) ∧ RopD w db jp D rb y ((Sg.set E k Q p).D, (Sg.set E k Q p).j, (Sg.set E k Q p).S) F z z' := by
  have hgb := (h.gl g).big
  have hsl := fun (y : World) (u : Nw z y) => hv.nw u
  obtain ⟨va, vc, rfl, hm, hcl⟩ := items_open hv
  have n1 := nw_alloc z (.cells #[.string ⟨p.nm.toArray⟩, .slice va p.its.length vc] 47)
  have b1 := heap_new z (.cells #[.string ⟨p.nm.toArray⟩, .slice va p.its.length vc] 47)
  obtain ⟨w1, hw1⟩ : ∃ y, y = z.alloc (.cells #[.string ⟨p.nm.toArray⟩, .slice va p.its.length vc] 47) := ⟨_, rfl⟩
  rw [← hw1] at n1 b1
  have HRi := Lib.hid (rRight_c (hsl w1 n1) hn hl hx)
  have HTx := Lib.hid (fun (z1 : World) (u : Nw z z1) (n : Int) (hn : I64 n) => rText_c (h.st.sv.nw u) hn)
  have HSe := Lib.hid (fun (z1 : World) (u : Nw z z1) (hr : Sg.rightP p = true) (ht : ∀ x ∈ p.its, Sg.there Q x.pr = true) => rSetText_c (hsl z1 u) (p := p) (by have := (right_len hr).1; omega) (right_len hr).2.1 (fun x hx => by
    obtain ⟨q1, q2, q3, q4, q5⟩ := (right_len hr).2.2 x hx
    have := there_small h.st.sv (ht x hx)
    exact ⟨by omega, q2, q3, q4, by omega⟩))
  have HLn := Lib.hid (fun (hr : Sg.rightP p = true) (ht : ∀ x ∈ p.its, Sg.there Q x.pr = true) => show (opE (.set p)).length ≤ 20000 by
    have h3 := accI_len (p := p) (by have := (right_len hr).1; omega) (right_len hr).2.1 (fun x hx => by
      obtain ⟨q1, q2, q3, q4, q5⟩ := (right_len hr).2.2 x hx
      have := there_small h.st.sv (ht x hx)
      exact ⟨by omega, q2, q3, q4, by omega⟩) p.its.length
    rw [accI_all] at h3
    simp only [opE, List.length_cons]
    omega)
  have HPf := Lib.hid (fun (z1 : World) (u : Nw z z1) (hr : Sg.rightP p = true) (ht : ∀ x ∈ p.its, Sg.there Q x.pr = true) => rperform_t g (h.nw u) (o := .set p) ⟨hr, ht⟩ hb (HLn.out hr ht))
  have c0 : w1.cell? ⟨z.heap.size, 0, none⟩ = some (.string ⟨p.nm.toArray⟩) := by rw [cells_cell b1]; rfl
  have c1 : w1.cell? ⟨z.heap.size, 1, none⟩ = some (.slice va p.its.length vc) := by rw [cells_cell b1]; rfl
  have hl1 : (p.its.length : Int) ≤ 1000 := by omega
  have HCl := Lib.hid hcl
  have HX := Lib.hid hx
  have HN1 := Lib.hid n1
  have HB1 := Lib.hid b1
  have HW1 := Lib.hid hw1
  clear hsl hv hm hcl hx n1 b1 hw1 hl HLn
  obtain ⟨ta, tc, et⟩ := own_slS h.st.sv.t
  obtain ⟨ha, hc, eh⟩ := own_slS h.st.sv.h
  obtain ⟨C, eC, hpo, hit⟩ := h.st.sv.p
  obtain ⟨pa, pc, ep⟩ := own_slS hpo
  have hlC : C.length = Q.pf.length := by rw [eC, List.length_map]
  rw [hlC] at ep
  clear hlC hpo hit eC
  obtain ⟨sb, kb, ⟨tv, hv, pv⟩, P⟩ := y
  dsimp only at et eh ep
  subst et eh ep
  unfold SvR.val at HTx
  dsimp only at *
  have H := Lib.hid h
  clear h
  cases hr : Sg.rightP p with
  | false =>
    have hE := Lib.hid (show Sg.set E k Q p = (E, k, Q, 0, 1) by unfold Sg.set; rw [if_pos hr])
    rw [hr] at HRi
    clear hr HTx HSe HPf
    go_enter Tryz.func43, Tryz.ntmps43
    go_upto_region 1 with fail
    rw [← HW1.out]
    clear HW1
    go_wp2_with fail
    (with_reducible refine (HRi.out).mono ?_)
    rintro _ w2 ⟨rfl, u2⟩
    go_wp2_with fail
    go_ret
    rw [hE.out]
    exact ⟨rfl, RopD.same H.out (HN1.out.trans u2)⟩
  | true =>
    have HE := Lib.hid (show Sg.set E k Q p = if (p.its.all fun x => Sg.there Q x.pr) = false then (E, k, Q, 0, 4) else Sg.withN 0 (Sg.perform E k Q (.set p)) by unfold Sg.set; rw [if_neg (by rw [hr]; decide)])
    have HSe' := Lib.hid (fun z1 u => HSe.out z1 u hr)
    have HPf' := Lib.hid (fun z1 u => HPf.out z1 u hr)
    rw [hr] at HRi
    clear hr HSe HPf
    go_enter Tryz.func43, Tryz.ntmps43
    go_upto_region 1 with fail
    rw [← HW1.out]
    clear HW1
    go_wp2_with fail
    (with_reducible refine (HRi.out).mono ?_)
    rintro _ w2 ⟨rfl, u2⟩
    have HU2 := Lib.hid u2
    clear u2 HRi c0 c1
    go_wp2_with fail
    go_loopw [5] (fun iv wr => ∃ i : Nat, i ≤ p.its.length ∧ iv = .int .i64 (i : Int) ∧ Hid (∀ m (hm : m < p.its.length), m < i → Sg.there Q p.its[m].pr = true) ∧ Hid (Nw w2 wr)) (fun iv _ => p.its.length - (intOf iv).toNat)
    case atStart => exact ⟨0, Nat.zero_le _, rfl, (fun m hm h => by omega), Upd.refl _ _⟩
    case round =>
      obtain ⟨i, hi, rfl, hok, hu⟩ := hrel
      have U := (HN1.out.trans HU2.out).trans hu.out
      by_cases hlt : i < p.its.length
      · rcases HCl.out with h | ⟨ib, ioff, rfl, hib, hcc⟩
        · omega
        obtain ⟨_, _, _, _, d4⟩ := hcc i hlt
        have hst := (H.out.nw U).st
        have l0 : ∀ j : Later wr, j.1.cell? ⟨sb, 1, none⟩ = some (.slice ta Q.tx.length tc) := fun j => by rw [cells_cell (Nw.keep j.nw hst.blk)]; rfl
        have l1 : ∀ j : Later wr, j.1.cell? ⟨sb, 2, none⟩ = some (.slice ha Q.th.length hc) := fun j => by rw [cells_cell (Nw.keep j.nw hst.blk)]; rfl
        have l2 : ∀ j : Later wr, j.1.cell? ⟨sb, 3, none⟩ = some (.slice pa Q.pf.length pc) := fun j => by rw [cells_cell (Nw.keep j.nw hst.blk)]; rfl
        have l3 : ∀ j : Later wr, j.1.cell? ⟨z.heap.size, 1, none⟩ = some (.slice (some ⟨ib, ioff, none⟩) p.its.length vc) := fun j => by rw [cells_cell (Nw.keep (hu.out.trans j.nw) (Nw.keep HU2.out HB1.out))]; rfl
        have l4 : ∀ j : Later wr, j.1.cell? ⟨ib, ioff + i * 5 + 4, none⟩ = some (.int .i64 p.its[i].pr) := fun j => nw_cellS (U.trans j.nw) d4
        have c1 : wr.cell? ⟨z.heap.size, 1, none⟩ = some (.slice (some ⟨ib, ioff, none⟩) p.its.length vc) := by rw [cells_cell (Nw.keep (HU2.out.trans hu.out) HB1.out)]; rfl
        have harg := (HX.out _ (List.getElem_mem hlt)).pr
        have HTi := Lib.hid (fun (z1 : World) (u : Nw wr z1) => HTx.out z1 (U.trans u) p.its[i].pr harg)
        have HU := Lib.hid U
        have HLt := Lib.hid hlt
        have hcn : (i : Int) ≤ 1000 := by omega
        have HNx := Lib.hid (show Sg.there Q p.its[i].pr = true → ∀ m (hm : m < p.its.length), m < i + 1 → Sg.there Q p.its[m].pr = true from fun ht m hm hlt2 => by
          rcases Nat.lt_or_ge m i with h1 | h1
          · exact hok.out m hm h1
          · obtain rfl : m = i := by omega
            exact ht)
        have HBad := Lib.hid (show Sg.there Q p.its[i].pr = false → (p.its.all fun x => Sg.there Q x.pr) = false from fun ht => List.all_eq_false.2 ⟨_, List.getElem_mem hlt, Bool.eq_false_iff.1 ht⟩)
        clear hok hst U harg hcc d4
        generalize p.its[i].pr = pr at *
        cases hth : Sg.there Q pr with
        | false =>
          have hE := Lib.hid (HE.out.trans (if_pos (HBad.out hth)))
          rw [hth] at HTi
          clear hth
          go_upto_region 6 with fail
          refine wp_region_nw (by kernel_rfl) (by kernel_rfl) ?_
          repeat (go_big_quiet_step ((go_at_call 72; exact later_call (HTi.out _ (Later.nw _)))))
          refine wpQuiet_nil ?_
          intro w5 u5
          replace u5 := later_out u5
          go_wp2_with fail
          go_ret
          rw [hE.out]
          exact ⟨rfl, RopD.same H.out (HU.out.trans u5)⟩
        | true =>
          have hN := Lib.hid (HNx.out hth)
          rw [hth] at HTi
          clear hth
          go_upto_region 6 with fail
          refine wp_region_nw (by kernel_rfl) (by kernel_rfl) ?_
          repeat (go_big_quiet_step ((go_at_call 72; exact later_call (HTi.out _ (Later.nw _)))))
          refine wpQuiet_nil ?_
          intro w5 u5
          replace u5 := later_out u5
          go_wp2_with fail
          go_roundw
          case rel => exact ⟨i + 1, HLt.out, by simp, hN, hu.out.trans u5⟩
          case measure =>
            have := HLt.out
            simp only [intOf]
            omega
      · have hall : ∀ x ∈ p.its, Sg.there Q x.pr = true := fun x hx => by
          obtain ⟨m, hm, rfl⟩ := List.getElem_of_mem hx
          exact hok.out m hm (by omega)
        have hE := Lib.hid (HE.out.trans (if_neg (by rw [List.all_eq_true.2 hall]; decide)))
        have HS := Lib.hid (HSe'.out wr U hall)
        have HP := Lib.hid (fun z1 u => HPf'.out z1 u hall)
        obtain ⟨r, hr⟩ : ∃ r, r = Sg.perform E k Q (.set p) := ⟨_, rfl⟩
        rw [← hr] at HP hE
        obtain ⟨E', k', Q', e'⟩ := r
        dsimp only at HP
        generalize (⟨(opE (.set p)).toArray⟩ : ByteArray) = op at *
        have c0 : wr.cell? ⟨z.heap.size, 0, none⟩ = some (.string ⟨p.nm.toArray⟩) := by rw [cells_cell (Nw.keep (HU2.out.trans hu.out) HB1.out)]; rfl
        have c1 : wr.cell? ⟨z.heap.size, 1, none⟩ = some (.slice va p.its.length vc) := by rw [cells_cell (Nw.keep (HU2.out.trans hu.out) HB1.out)]; rfl
        have HU := Lib.hid U
        clear hr hok hall HSe' HPf' HE HTx HCl U
        go_wp2_with fail
        (with_reducible refine (HS.out).mono ?_)
        rintro _ w3 ⟨rfl, u3⟩
        have HP3 := Lib.hid (HP.out w3 (HU.out.trans u3))
        have HU3 := Lib.hid u3
        clear HP HS u3
        go_wp2_with fail
        (with_reducible refine (HP3.out).mono ?_)
        rintro _ w4 ⟨rfl, hs4⟩
        go_wp2_with fail
        go_ret
        rw [hE.out]
        exact ⟨rfl, hs4.pre (HU.out.trans HU3.out)⟩
end
end Go.Proofs.YtiednpagknnfnaaGreatDoor
namespace Go.Proofs.YtiednpagknnfnaaGreatDoor
open Go.RowKit
open Sg (opE doneE recE Gd)
attribute [local irreducible] Calls CallsIn
section
variable {w : World} {db rb : Nat} {jp : Option (Nat × Jr.Jn)} {D E : Dk.Disk} {y : RsR} {j : Jr.Jn} {S : Sg.Sta} {F : Nat → Prop} {z : World}
set_option maxHeartbeats 4000000 in
set_option maxRecDepth 100000 in
theorem did_t (g : Gl w) (h : RS w db jp D rb y j E S F z) {k n : Int} (hk : I64 k) {s : List UInt8} (hs : s.length ≤ 19000) {p : Sg.Pf} {v kv : Value} {lo hi : Nat} (hv : SlS 5 lo hi z v (p.its.map itC)) (hn : p.nm.length ≤ 1000000) (hl : p.its.length ≤ 1000) (hx : ∀ x ∈ p.its, ItArg x) (hb : Sg.big S + 1 ≤ 1000) :
    Calls Tryz.prog 12 #[.pointer (some ⟨y.sb, 0, none⟩), .agg #[.int .i64 k, .string ⟨s.toArray⟩, .int .i64 n, .string ⟨p.nm.toArray⟩, v, kv]] z fun e z' => e = .returned (.tuple #[.int .i64 (Sg.act E j S k s p).n, .int .i64 (Sg.act E j S k s p).e]) ∧ RopD w db jp D rb y ((Sg.act E j S k s p).D, (Sg.act E j S k s p).j, (Sg.act E j S k s p).S) F z z' := by
  obtain ⟨va, vc, rfl, _, _⟩ := items_open hv
  have n1 := nw_alloc z (.cells #[.int .i64 k, .string ⟨s.toArray⟩, .int .i64 n, .string ⟨p.nm.toArray⟩, .slice va p.its.length vc, kv] 50)
  have H1 := h.nw n1
  have hPut := Lib.hid (rput_t g H1 (t := s) hs hb)
  have hSet := Lib.hid (rset_t g H1 (hv.nw n1) hn hl hx hb)
  have hDrop := Lib.hid (rdrop_t g H1 (n := s) hs hb)
  have hSw := Lib.hid (rsweep_t g H1 hb)
  have HN := Lib.hid n1
  have hon : ∀ (r : Dk.Disk × Jr.Jn × Sg.Sta) (z' : World), RopD w db jp D rb y r F (z.alloc (.cells #[.int .i64 k, .string ⟨s.toArray⟩, .int .i64 n, .string ⟨p.nm.toArray⟩, .slice va p.its.length vc, kv] 50)) z' → RopD w db jp D rb y r F z z' := fun _ _ h => h.pre n1
  have HOn := Lib.hid hon
  clear h hv H1 n1 hon hb hn hl hs hx
  by_cases k0 : k = 0
  · subst k0
    have hE := Lib.hid (show Sg.act E j S 0 s p = Sg.put E j S s by unfold Sg.act; rw [if_pos rfl])
    rw [hE.out]
    clear hSet hDrop hSw hE
    go_enter Tryz.func12, Tryz.ntmps12
    go_wp2_with (go_at_call 42; with_reducible refine hPut.out.mono ?_; rintro _ w2 ⟨rfl, hD⟩)
    go_ret2
    exact ⟨rfl, HOn.out _ _ hD⟩
  have b0 : (k == 0) = false := by simp [k0]
  by_cases k1 : k = 1
  · subst k1
    have hE := Lib.hid (show Sg.act E j S 1 s p = Sg.set E j S p by unfold Sg.act; rw [if_neg (by decide), if_pos rfl])
    have hE2 := Lib.hid (set_n E j S p)
    rw [hE.out]
    clear hPut hDrop hSw hE
    go_enter Tryz.func12, Tryz.ntmps12
    go_wp2_with (go_at_call 43; with_reducible refine hSet.out.mono ?_; rintro _ w2 ⟨rfl, hD⟩)
    go_ret2
    rw [hE2.out]
    exact ⟨rfl, HOn.out _ _ hD⟩
  have b1 : (k == 1) = false := by simp [k1]
  by_cases k2 : k = 2
  · subst k2
    have hE := Lib.hid (show Sg.act E j S 2 s p = Sg.drop E j S s by unfold Sg.act; rw [if_neg (by decide), if_neg (by decide), if_pos rfl])
    have hE2 := Lib.hid (drop_n E j S s)
    rw [hE.out]
    clear hPut hSet hSw hE
    go_enter Tryz.func12, Tryz.ntmps12
    go_wp2_with (go_at_call 44; with_reducible refine hDrop.out.mono ?_; rintro _ w2 ⟨rfl, hD⟩)
    go_ret2
    rw [hE2.out]
    exact ⟨rfl, HOn.out _ _ hD⟩
  have b2 : (k == 2) = false := by simp [k2]
  have hE := Lib.hid (show Sg.act E j S k s p = Sg.sweep E j S by unfold Sg.act; rw [if_neg k0, if_neg k1, if_neg k2])
  rw [hE.out]
  clear hPut hSet hDrop hE k0 k1 k2
  go_enter Tryz.func12, Tryz.ntmps12
  go_wp2_with (go_at_call 45; with_reducible refine hSw.out.mono ?_; rintro _ w2 ⟨rfl, hD⟩)
  go_ret2
  exact ⟨rfl, HOn.out _ _ hD⟩
end
def ROpenD (w : World) (db : Nat) (jp : Option (Nat × Jr.Jn)) (D : Dk.Disk) (rb : Nat) (E : Dk.Disk) (f : Int) (rs : List (Option Sg.Ops)) (F : Nat → Prop) (z : World) (e : Ending) (z' : World) : Prop :=
  ((Jr.openJ E f).2.1 = none ∧ e = .returned (.tuple #[.pointer none, .int .i64 (Jr.openJ E f).2.2]) ∧ TS w db jp D rb none (Jr.openJ E f).1 F z' ∧ Moves w F z z') ∨
  ((Jr.openJ E f).2.1 = some ⟨f, rs.map recE, false⟩ ∧ ∃ y : RsR, e = .returned (.tuple #[.pointer (some ⟨y.sb, 0, none⟩), .int .i64 0]) ∧ RS w db jp D rb y ⟨f, rs.map recE, false⟩ (Jr.openJ E f).1 (Sg.of rs) F z' ∧ Moves w F z z')
set_option maxHeartbeats 4000000 in
set_option maxRecDepth 100000 in
theorem rsopen_t {w : World} {db rb : Nat} {jp kq : Option (Nat × Jr.Jn)} {D E : Dk.Disk} {F : Nat → Prop} {z : World} (g : Gl w) (h : TS w db jp D rb kq E F z) {f : Int} (hf : I64 f) {rs : List (Option Sg.Ops)}
    (hc : ((Jr.openJ E f).2.1 = none ∧ (Jr.openJ E f).2.2 ≠ 0) ∨ ((Jr.openJ E f).2.1 = some ⟨f, rs.map recE, false⟩ ∧ (Jr.openJ E f).2.2 = 0 ∧ Gd rs ∧ rs.length ≤ 400 ∧ ∀ r ∈ rs, (recE r).length ≤ 2000)) :
    Calls Tryz.prog 9 #[.pointer (some ⟨rb, 0, none⟩), .int .i64 f] z (ROpenD w db jp D rb E f rs F z) := by
  have hO := ropen_t h g hf
  have hzw := h.nw0.size
  have hgb := g.big
  rcases hc with ⟨h1, h2⟩ | ⟨h1, h2, h3, h4, h5⟩
  · have H1 := Lib.hid h1
    have hO' : Calls Tryz.prog 34 #[.pointer (some ⟨rb, 0, none⟩), .int .i64 f] z fun e z' => e = .returned (.tuple #[.pointer none, .int .i64 (Jr.openJ E f).2.2]) ∧ TS w db jp D rb none (Jr.openJ E f).1 F z' ∧ Moves w F z z' := hO.mono fun e z' ⟨jq, q1, q2, q3, hm⟩ => by
      rw [h1] at q1
      obtain rfl : jq = none := by cases jq with | none => rfl | some y => cases q1
      exact ⟨q2, q3, hm⟩
    obtain ⟨er, her⟩ : ∃ er, er = (Jr.openJ E f).2.2 := ⟨_, rfl⟩
    rw [← her] at hO' h2
    have HO := Lib.hid hO'
    have HEr := Lib.hid her
    have h2' : (er == 0) = false := beq_eq_false_iff_ne.2 h2
    clear hO hO' her h h1
    go_enter Tryz.func9, Tryz.ntmps9
    go_wp2_with fail
    (with_reducible refine (HO.out).mono ?_)
    rintro _ w1 ⟨rfl, hg1, hm1⟩
    go_wp2_with fail
    go_ret2
    exact Or.inl ⟨H1.out, (by first | rfl | (rw [← HEr.out]; rfl)), hg1, hm1⟩
  · have H1 := Lib.hid h1
    have hO' : Calls Tryz.prog 34 #[.pointer (some ⟨rb, 0, none⟩), .int .i64 f] z fun e z' => ∃ kb, e = .returned (.tuple #[.pointer (some ⟨kb, 0, none⟩), .int .i64 0]) ∧ TS w db jp D rb (some (kb, ⟨f, rs.map recE, false⟩)) (Jr.openJ E f).1 F z' ∧ Moves w F z z' := hO.mono fun e z' ⟨jq, q1, q2, q3, hm⟩ => by
      rw [h1] at q1
      cases jq with
      | none => cases q1
      | some q =>
        obtain ⟨kb, jn⟩ := q
        have e1 : jn = _ := Option.some.inj q1
        subst e1
        rw [h2] at q2
        exact ⟨kb, q2, q3, hm⟩
    have HO := Lib.hid hO'
    have HGd := Lib.hid h3
    have HSz := Lib.hid h5
    clear hO hO' h h1 h2 h3 h5
    go_enter Tryz.func9, Tryz.ntmps9
    go_wp2_with fail
    (with_reducible refine (HO.out).mono ?_)
    rintro _ w1 ⟨kb, rfl, ht1, hm1⟩
    have hs1 := hm1.size
    obtain ⟨lv, hlc, hown⟩ := ht1.list
    dsimp only at hlc hown
    rw [List.length_map] at hown
    obtain ⟨la, lc, rfl⟩ := own_slS hown
    have HOf := Lib.hid (rOf_c (B := w.heap.size) hgb (by omega) (g.upd ht1.nw0) hown HGd.out h4 HSz.out)
    unfold SvR.val at HOf
    have HT := Lib.hid ht1
    have HM := Lib.hid hm1
    clear ht1 hm1 hown HO
    go_wp2_with fail
    (with_reducible refine (HOf.out).mono ?_)
    rintro _ w2 ⟨⟨tv, hv, pv⟩, rfl, hs2, u2⟩
    obtain ⟨ta, tc, et⟩ := own_slS hs2.t
    obtain ⟨ha, hc, eh⟩ := own_slS hs2.h
    obtain ⟨C, eC, hpo, hit⟩ := hs2.p
    obtain ⟨pa, pc, ep⟩ := own_slS hpo
    dsimp only at et eh ep
    subst et eh ep
    clear eC hpo hit
    have hz2 := u2.size
    have n3 := nw_alloc w2 (.cells #[.pointer (some ⟨kb, 0, none⟩), .slice ta (Sg.of rs).tx.length tc, .slice ha (Sg.of rs).th.length hc, .slice pa C.length pc] tRSt)
    have b3 := heap_new w2 (.cells #[.pointer (some ⟨kb, 0, none⟩), .slice ta (Sg.of rs).tx.length tc, .slice ha (Sg.of rs).th.length hc, .slice pa C.length pc] tRSt)
    have hRS : RS w db jp D rb ⟨w2.heap.size, kb, ⟨.slice ta (Sg.of rs).tx.length tc, .slice ha (Sg.of rs).th.length hc, .slice pa C.length pc⟩, fun b => w1.heap.size ≤ b ∧ b < w2.heap.size⟩ ⟨f, rs.map recE, false⟩ (Jr.openJ E f).1 (Sg.of rs) F (w2.alloc (.cells #[.pointer (some ⟨kb, 0, none⟩), .slice ta (Sg.of rs).tx.length tc, .slice ha (Sg.of rs).th.length hc, .slice pa C.length pc] tRSt)) := by
      refine ⟨HT.out.keep (u2.trans n3) (fun b hb => ?_), ⟨b3, hs2.nw n3, fun b hb => ?_, fun hb => ?_⟩, fun b hf hb => ?_⟩
      · rw [World.size_alloc]
        rcases hb with hb | hb | hb
        · exact Or.inl hb
        · have hb : b = w2.heap.size := hb
          exact Or.inr (by omega)
        · have hb : w1.heap.size ≤ b ∧ b < w2.heap.size := hb
          exact Or.inr (by omega)
      · rw [World.size_alloc]
        rcases hb with hb | hb
        · have hb : b = w2.heap.size := hb
          omega
        · have hb : w1.heap.size ≤ b ∧ b < w2.heap.size := hb
          omega
      · have hb : w1.heap.size ≤ w2.heap.size ∧ w2.heap.size < w2.heap.size := hb
        omega
      · have hlt := HT.out.lt b hf
        rcases hb with hb | hb
        · have hb : b = w2.heap.size := hb
          omega
        · have hb : w1.heap.size ≤ b ∧ b < w2.heap.size := hb
          omega
    have HRS := Lib.hid hRS
    have HU := Lib.hid (HM.out.trans (Nw.upd _ (u2.trans n3)))
    clear hRS hs2 u2 n3 b3
    go_wp2_with fail
    go_ret2
    exact Or.inr ⟨H1.out, _, rfl, HRS.out, HU.out⟩
end Go.Proofs.YtiednpagknnfnaaGreatDoor
namespace Go.Proofs.YtiednpagknnfnaaGreatDoor
open Go.RowKit
attribute [local irreducible] Calls CallsIn
theorem ItsAt.sl {B : Nat} {P : Nat → Prop} {z : World} {v : Value} {l : List Sg.It} (h : ItsAt B P z v l) (hl : l.length ≤ 1000) : SlS 5 B z.heap.size z v (l.map itC) :=
  SlS.of_owns h.1 (by rw [List.length_map]) (by omega) (fun y hy => by obtain ⟨d, _, rfl⟩ := List.mem_map.1 hy; rfl)
set_option maxHeartbeats 4000000 in
set_option maxRecDepth 100000 in
theorem same_prof_c {p : Sg.Pf} {z : World} {v1 v2 : Value} {lo1 hi1 lo2 hi2 : Nat} (h1 : SlS 5 lo1 hi1 z v1 (p.its.map itC)) (h2 : SlS 5 lo2 hi2 z v2 (p.its.map itC)) (hl : p.its.length ≤ 1000) :
    Calls Tryz.prog 40 #[.agg #[.string ⟨p.nm.toArray⟩, v1], .agg #[.string ⟨p.nm.toArray⟩, v2]] z fun e z' => e = .returned (.bool true) ∧ Nw z z' := by
  obtain ⟨va, vc, rfl, _, hcl⟩ := items_open h1
  obtain ⟨ua, uc, rfl, _, hcl2⟩ := items_open h2
  have n1 := nw_alloc z (.cells #[.string ⟨p.nm.toArray⟩, .slice va p.its.length vc] tPf)
  have b1 := heap_new z (.cells #[.string ⟨p.nm.toArray⟩, .slice va p.its.length vc] tPf)
  have n2 := nw_alloc (z.alloc (.cells #[.string ⟨p.nm.toArray⟩, .slice va p.its.length vc] tPf)) (.cells #[.string ⟨p.nm.toArray⟩, .slice ua p.its.length uc] tPf)
  have b2 := heap_new (z.alloc (.cells #[.string ⟨p.nm.toArray⟩, .slice va p.its.length vc] tPf)) (.cells #[.string ⟨p.nm.toArray⟩, .slice ua p.its.length uc] tPf)
  have b1' := Nw.keep n2 b1
  have n12 := n1.trans n2
  rw [World.size_alloc] at b2
  obtain ⟨w2, hw2⟩ : ∃ y, y = (z.alloc (.cells #[.string ⟨p.nm.toArray⟩, .slice va p.its.length vc] tPf)).alloc (.cells #[.string ⟨p.nm.toArray⟩, .slice ua p.its.length uc] tPf) := ⟨_, rfl⟩
  rw [← hw2] at n12 b1' b2
  have a0 : w2.cell? ⟨z.heap.size, 0, none⟩ = some (.string ⟨p.nm.toArray⟩) := by rw [cells_cell b1']; rfl
  have a1 : w2.cell? ⟨z.heap.size, 1, none⟩ = some (.slice va p.its.length vc) := by rw [cells_cell b1']; rfl
  have a2 : w2.cell? ⟨z.heap.size + 1, 0, none⟩ = some (.string ⟨p.nm.toArray⟩) := by rw [cells_cell b2]; rfl
  have a3 : w2.cell? ⟨z.heap.size + 1, 1, none⟩ = some (.slice ua p.its.length uc) := by rw [cells_cell b2]; rfl
  have HC1 := Lib.hid hcl
  have HC2 := Lib.hid hcl2
  have HN := Lib.hid n12
  have HB1 := Lib.hid b1'
  have HB2 := Lib.hid b2
  have HW := Lib.hid hw2
  have hl1 : (p.its.length : Int) ≤ 1000 := by omega
  clear h1 h2 hcl hcl2 n1 n2 b1 b2 b1' n12 hw2 hl
  generalize (⟨p.nm.toArray⟩ : ByteArray) = nm at *
  go_enter Tryz.func40, Tryz.ntmps40
  go_upto_region 1 with fail
  rw [← HW.out]
  clear HW
  go_wp2_with fail
  go_loopw [5] (fun iv wr => ∃ i : Nat, i ≤ p.its.length ∧ iv = .int .i64 (i : Int) ∧ Hid (Nw w2 wr)) (fun iv _ => p.its.length - (intOf iv).toNat)
  case atStart => exact ⟨0, Nat.zero_le _, rfl, Upd.refl _ _⟩
  case round =>
    obtain ⟨i, hi, rfl, hu⟩ := hrel
    have c1 : wr.cell? ⟨z.heap.size, 1, none⟩ = some (.slice va p.its.length vc) := nw_cellS hu.out a1
    have c3 : wr.cell? ⟨z.heap.size + 1, 1, none⟩ = some (.slice ua p.its.length uc) := nw_cellS hu.out a3
    by_cases hlt : i < p.its.length
    · rcases HC1.out with h | ⟨ib, ioff, rfl, hib, hcc⟩
      · omega
      rcases HC2.out with h | ⟨kb, koff, rfl, hkb, hdd⟩
      · omega
      have U := HN.out.trans hu.out
      obtain ⟨d0, d1, d2, d3, d4⟩ := hcc i hlt
      obtain ⟨f0, f1, f2, f3, f4⟩ := hdd i hlt
      generalize p.its[i] = x at *
      obtain ⟨xn, a, b, c, pr⟩ := x
      dsimp only at *
      have l1 : ∀ j : Later wr, j.1.cell? ⟨z.heap.size, 1, none⟩ = some (.slice (some ⟨ib, ioff, none⟩) p.its.length vc) := fun j => nw_cellS j.nw c1
      have l3 : ∀ j : Later wr, j.1.cell? ⟨z.heap.size + 1, 1, none⟩ = some (.slice (some ⟨kb, koff, none⟩) p.its.length uc) := fun j => nw_cellS j.nw c3
      have g0 : ∀ j : Later wr, j.1.cell? ⟨ib, ioff + i * 5, none⟩ = some (.string ⟨xn.toArray⟩) := fun j => nw_cellS (U.trans j.nw) d0
      have g1 : ∀ j : Later wr, j.1.cell? ⟨ib, ioff + i * 5 + 1, none⟩ = some (.int .i64 a) := fun j => nw_cellS (U.trans j.nw) d1
      have g2 : ∀ j : Later wr, j.1.cell? ⟨ib, ioff + i * 5 + 2, none⟩ = some (.int .i64 b) := fun j => nw_cellS (U.trans j.nw) d2
      have g3 : ∀ j : Later wr, j.1.cell? ⟨ib, ioff + i * 5 + 3, none⟩ = some (.int .i64 c) := fun j => nw_cellS (U.trans j.nw) d3
      have g4 : ∀ j : Later wr, j.1.cell? ⟨ib, ioff + i * 5 + 4, none⟩ = some (.int .i64 pr) := fun j => nw_cellS (U.trans j.nw) d4
      have k0 : ∀ j : Later wr, j.1.cell? ⟨kb, koff + i * 5, none⟩ = some (.string ⟨xn.toArray⟩) := fun j => nw_cellS (U.trans j.nw) f0
      have k1 : ∀ j : Later wr, j.1.cell? ⟨kb, koff + i * 5 + 1, none⟩ = some (.int .i64 a) := fun j => nw_cellS (U.trans j.nw) f1
      have k2 : ∀ j : Later wr, j.1.cell? ⟨kb, koff + i * 5 + 2, none⟩ = some (.int .i64 b) := fun j => nw_cellS (U.trans j.nw) f2
      have k3 : ∀ j : Later wr, j.1.cell? ⟨kb, koff + i * 5 + 3, none⟩ = some (.int .i64 c) := fun j => nw_cellS (U.trans j.nw) f3
      have k4 : ∀ j : Later wr, j.1.cell? ⟨kb, koff + i * 5 + 4, none⟩ = some (.int .i64 pr) := fun j => nw_cellS (U.trans j.nw) f4
      generalize (⟨xn.toArray⟩ : ByteArray) = xs at *
      have HLt := Lib.hid hlt
      clear d0 d1 d2 d3 d4 f0 f1 f2 f3 f4 hcc hdd U
      go_upto_region 6 with fail
      refine wp_region_nw (by kernel_rfl) (by kernel_rfl) ?_
      repeat (go_big_quiet_step ((fail)))
      refine wpQuiet_nil ?_
      intro w5 u5
      replace u5 := later_out u5
      go_wp2_with fail
      go_roundw
      case rel => exact ⟨i + 1, HLt.out, by simp, hu.out.trans u5⟩
      case measure =>
        have := HLt.out
        simp only [intOf]
        omega
    · go_wp2_with fail
      go_ret
      exact ⟨rfl, HN.out.trans hu.out⟩
end Go.Proofs.YtiednpagknnfnaaGreatDoor
