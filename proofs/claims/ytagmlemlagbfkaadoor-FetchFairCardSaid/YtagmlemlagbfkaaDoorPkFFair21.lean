/- fetch.Open. -/
import Derived.Test.YtagmlemlagbfkaaDoorPkFFair20
namespace Go.Proofs.YtagmlemlagbfkaaDoor
open Go.RowKit
set_option linter.unusedVariables false
set_option linter.unusedSimpArgs false
attribute [local irreducible] Calls

theorem fopen_results (tmps : Array Value) (w : World) : (results Tryd.f9 tmps).run Tryd.prog w = .ok (.tuple #[tmps.getD 8 undef, tmps.getD 9 undef]) w := by
  simp [results, Tryd.results9, go_sem]
/-- What Open leaves. -/
def FOD (w : World) (db : Nat) (cs : List (List UInt8)) (m : Ck.Man) (R : Dk.Disk × Option Jr.Jn × Int) (F : Nat → Prop) (z : World) (e : Ending) (z' : World) : Prop :=
  ∃ pv, e = .returned (.tuple #[pv, .int .i64 R.2.2]) ∧ Moves w F z z' ∧
    ((R.2.1 = none ∧ pv = .pointer none ∧ GS w db none R.1 F z') ∨ ∃ j x, R.2.1 = some j ∧ pv = .pointer (some ⟨FtR.fb x, 0, none⟩) ∧ FS w db x j cs m R.1 F z')
theorem GS.sz {w : World} {db : Nat} {jp : Option (Nat × Jr.Jn)} {D : Dk.Disk} {F : Nat → Prop} {z : World} (h : GS w db jp D F z) : ∀ k, F k → k < z.heap.size := by
  obtain ⟨d, _, _, _, h3, _⟩ := h
  exact fun k hk => (h3 k hk).1
/-- The blocks of a slice that reads as a list. -/
theorem Sl.kept {lo hi : Nat} {w z z' : World} {F : Nat → Prop} {v : Value} {xs : List Value} (h : Sl lo hi z v xs) (u : Moves w F z z') (hF : ∀ k, lo ≤ k → k < hi → F k ∨ k < w.heap.size) : Sl lo hi z' v xs :=
  h.upd u (fun k h1 h2 s => (hF k h1 h2).elim (fun f => s.1 f) (fun f => by have := s.2; omega))
theorem owns_kept {w z z' : World} {F : Nat → Prop} {B sz n : Nat} {e : TypeId} {v : Value} {xs : List Value} (h : z.ownsRow B e sz v n xs) (u : Moves w F z z') (hF : ∀ k, v.ownBlock = some k → F k ∨ k < w.heap.size) : z'.ownsRow B e sz v n xs :=
  owns_upd' h u (fun k e s => (hF k e).elim (fun f => s.1 f) (fun f => by have := s.2; omega))
section
variable {w : World} {db : Nat} {jp : Option (Nat × Jr.Jn)} {cs : List (List UInt8)} {m : Ck.Man} {D D' : Dk.Disk} {F S : Nat → Prop} {z z' : World} {f : Int}
theorem FOD.no_ {R : Dk.Disk × Option Jr.Jn × Int} {n : Int} (h : GS w db jp R.1 F z') (u : Moves w F z z') (e1 : R.2.1 = none) (e2 : R.2.2 = n) : FOD w db cs m R F z (.returned (.tuple #[.pointer none, .int .i64 n])) z' := by
  refine ⟨_, by rw [e2], u, Or.inl ⟨e1, rfl, h.forget⟩⟩
theorem FOD.yes {R : Dk.Disk × Option Jr.Jn × Int} {j : Jr.Jn} {jb : Nat} {x : FtR} {z1 : World} (h : GS w db (some (jb, j)) R.1 F z1) (u : Moves w F z z1) (u1 : Nw z1 z') (ft : FtAt z1.heap.size z' x cs m (Ft.come cs j)) (hx : x.jb = jb) (e1 : R.2.1 = some j) (e2 : R.2.2 = 0) : FOD w db cs m R F z (.returned (.tuple #[.pointer (some ⟨x.fb, 0, none⟩), .int .i64 0])) z' := by
  subst hx
  have hnw := h.nw0
  have hs := h.sz
  have hb : nG ≤ w.heap.size := by obtain ⟨_, _, hd, _⟩ := h; exact hd.hb
  refine ⟨_, by rw [e2], u.nw u1, Or.inr ⟨j, x, e1, rfl, ⟨h.keep u1 (fun k hk => ?_), ft.base hb hnw.size, fun k hk s => ?_⟩⟩⟩
  · rcases hk with hk | hk
    · exact Or.inl hk
    · exact Or.inr (ft.foot_lt hk)
  · have := hs k hk; have := (ft.foot_lt s).1; omega
def comeN (cs : List (List UInt8)) (l : List (List UInt8)) (n : Nat) : List Int := (l.take n).map (Ft.prOf cs)
theorem comeN_succ {cs : List (List UInt8)} {l : List (List UInt8)} {n : Nat} (h : n < l.length) : comeN cs l (n + 1) = comeN cs l n ++ [Ft.prOf cs l[n]] := by
  unfold comeN; rw [List.take_succ_eq_append_getElem h, List.map_append]; rfl
theorem comeN_all (cs : List (List UInt8)) (j : Jr.Jn) : comeN cs j.recs j.recs.length = Ft.come cs j := by unfold comeN; rw [List.take_length]; rfl
theorem comeN_len {cs : List (List UInt8)} {l : List (List UInt8)} {n : Nat} (h : n ≤ l.length) : (comeN cs l n).length = n := by unfold comeN; rw [List.length_map, List.length_take, Nat.min_eq_left h]
theorem ft_made {w3 y1 w5 : World} {jb : Nat} {p zz : Int} {l : List Int} {sl cv' kv : Value} (hb : nG ≤ w3.heap.size) (u1 : Nw w3 y1) (oc : y1.ownsRow w3.heap.size tStrMU 1 cv' cs.length (cs.map bsMU))
    (u5 : Nw (y1.alloc (.cells #[.pointer (some ⟨jb, 0, none⟩), cv', .int .i64 p, .int .i64 zz, sl, .slice none 0 0] tFet)) w5) (ok : w5.ownsRow (y1.heap.size + 1) 3 1 kv l.length (l.map intD)) :
    FtAt w3.heap.size (w5.setCell ⟨y1.heap.size, 4, none⟩ kv) ⟨y1.heap.size, jb, cv', kv, .slice none 0 0⟩ cs ⟨p, zz, l⟩ [] ∧ Nw w3 (w5.setCell ⟨y1.heap.size, 4, none⟩ kv) := by
  have hz := u1.size
  have na := nw_alloc y1 (.cells #[.pointer (some ⟨jb, 0, none⟩), cv', .int .i64 p, .int .i64 zz, sl, .slice none 0 0] tFet)
  have bl := u5.keep (heap_new y1 (.cells #[.pointer (some ⟨jb, 0, none⟩), cv', .int .i64 p, .int .i64 zz, sl, .slice none 0 0] tFet))
  have U : Upd (fun k => k = y1.heap.size) w5 (w5.setCell ⟨y1.heap.size, 4, none⟩ kv) := (Upd.refl _ _).set1 (by omega) 4 kv
  refine ⟨⟨hb, hz, by simpa using setCell_block bl 4 kv, owns_upd' (owns_upd' oc (na.trans u5) (fun _ _ e => e)) U (fun k e e2 => by have := (oc.lt k e).2; omega), owns_base (owns_upd' ok U (fun k e e2 => by have := (ok.lt k e).1; omega)) (by omega), World.ownsRow_nil _ _ _ _, fun k e e2 => by cases e2⟩, ((u1.trans na).trans u5).trans' U (fun k hk e => by omega)⟩
set_option maxHeartbeats 4000000 in
set_option maxRecDepth 100000 in
theorem fopen_t (h : GS w db jp D F z) (g : Gl w) (hf : I64 f) {B : Nat} {v : Value} (hv : z.ownsRow B tStrMU 1 v cs.length (cs.map bsMU)) (hvF : ∀ k, v.ownBlock = some k → F k ∨ k < w.heap.size) {lo hi : Nat} {cv : Value} (hc : Sl lo hi z cv (m.chunks.map intD)) (hcF : ∀ k, lo ≤ k → k < hi → F k ∨ k < w.heap.size)
    (hl : CntOkU cs) (hn : cs.Nodup) (hl2 : m.chunks.length ≤ 1000000) :
    Calls Tryd.prog 9 #[.pointer (some ⟨db, 0, none⟩), .int .i64 f, v, .agg #[.int .i64 m.print, .int .i64 m.size, cv]] z (FOD w db cs m (Ft.fopen D f cs m) F z) := by
  have hgz := h.gl g
  have hgb := hgz.big
  obtain ⟨p, zz, l⟩ := m
  dsimp only at hc hl2 ⊢
  obtain ⟨a, cap, rfl, -, -⟩ := int_cells hc
  have n1 := nw_alloc z (.cells #[.int .i64 p, .int .i64 zz, .slice a l.length cap] tManU)
  have b1 := heap_new z (.cells #[.int .i64 p, .int .i64 zz, .slice a l.length cap] tManU)
  have h1 := h.nw n1
  have HR := Lib.hid (right_c _ _ lo hi v cs p zz _ l _ (hgz.upd n1) (Sl.of_owns (owns_upd' hv n1 (fun _ _ e => e))) hl hn (hc.nw n1) hl2)
  obtain ⟨av, cav, rfl⟩ := own_slG hv
  have HN := Lib.hid n1
  have HB := Lib.hid (fun (y : World) (u : Nw (z.alloc (.cells #[.int .i64 p, .int .i64 zz, .slice a l.length cap] tManU)) y) => u.keep b1)
  have HZ := Lib.hid (show z.heap.size < (z.alloc (.cells #[.int .i64 p, .int .i64 zz, .slice a l.length cap] tManU)).heap.size from lt_of_block b1)
  have HG := Lib.hid h1
  have HG0 := Lib.hid h
  have HV := Lib.hid hv
  have HVF := Lib.hid hvF
  have HCS := Lib.hid hc
  have HCF := Lib.hid hcF
  have HL := Lib.hid hl
  have k0 : (z.alloc (.cells #[.int .i64 p, .int .i64 zz, .slice a l.length cap] tManU)).cell? ⟨z.heap.size, 0, none⟩ = some (.int .i64 p) := by rw [cells_cell b1]; rfl
  clear hv hc n1 b1 h h1 hvF hcF hl
  have hdef : ∀ b, Ft.rightM cs ⟨p, zz, l⟩ = b → Ft.fopen D f cs ⟨p, zz, l⟩ = (if b = false then (D, none, 1) else if (Jr.openJ D f).2.2 ≠ 0 then ((Jr.openJ D f).1, none, (Jr.openJ D f).2.2) else match (Jr.openJ D f).2.1 with
      | none => ((Jr.openJ D f).1, none, 28)
      | some j => if Ft.fitsJ cs ⟨p, zz, l⟩ j then ((Jr.openJ D f).1, some j, 0) else ((Jr.openJ D f).1, none, 28)) := fun b hb => by rw [← hb]; rfl
  cases hq : Ft.rightM cs ⟨p, zz, l⟩ with
  | false =>
    have e := hdef _ hq
    rw [if_pos rfl] at e
    have E := Lib.hid e
    rw [hq] at HR
    clear e hdef hq
    go_enter Tryd.func9, Tryd.ntmps9
    go_wp2_with fail
    (with_reducible refine (HR.out).mono ?_)
    rintro _ w2 ⟨rfl, u2⟩
    have U2 := Lib.hid u2
    clear u2 HR
    go_wp2_with fail
    (try simp only [Exit.inBlock, Exit.then])
    refine bodyPost_ret (fopen_results _ _) rfl ?_
    rw [E.out]
    exact FOD.no_ (HG.out.nw U2.out) (Nw.upd _ (HN.out.trans U2.out)) rfl rfl
  | true =>
    have e := hdef _ hq
    rw [if_neg (by decide)] at e
    have E := Lib.hid e
    rw [hq] at HR
    clear e hdef hq
    have HO := Lib.hid (fun (y : World) (u : Nw (z.alloc (.cells #[.int .i64 p, .int .i64 zz, .slice a l.length cap] tManU)) y) => open_t (HG0.out.keep (F' := fun k => F k ∨ k = z.heap.size) (HN.out.trans u) (fun k hk => hk.imp id (fun e => by have := HZ.out; have := u.size; omega))) g hf)
    go_enter Tryd.func9, Tryd.ntmps9
    go_wp2_with fail
    (with_reducible refine (HR.out).mono ?_)
    rintro _ w2 ⟨rfl, u2⟩
    have U2 := Lib.hid u2
    have ho := Lib.hid (HO.out w2 u2)
    clear u2 HR HO
    go_wp2_with fail
    (with_reducible refine (ho.out).mono ?_)
    rintro _ w3 ⟨pv, rfl, o3, u3⟩
    have hmv : Moves w F z w3 := (Nw.upd _ (HN.out.trans U2.out)).trans (u3.mono (fun k _ s => ⟨fun e => s.1 (Or.inl e), s.2⟩))
    have hv3 := owns_kept (owns_upd' HV.out (HN.out.trans U2.out) (fun _ _ e => e)) u3 (fun k e => (HVF.out k e).imp Or.inl id)
    have hc3 := (HCS.out.nw (HN.out.trans U2.out)).kept u3 (fun k h1 h2 => (HCF.out k h1 h2).imp Or.inl id)
    have hb3 := u3.keep (HB.out w2 U2.out) (fun s => s.1 (Or.inr rfl))
    have HMV := Lib.hid hmv
    have HV3 := Lib.hid hv3
    have HC3 := Lib.hid hc3
    have HB3 := Lib.hid hb3
    have hoe := Ft.open_err D f
    have O3 := Lib.hid o3
    clear u3 ho hmv hv3 hc3 hb3 o3
    generalize Jr.openJ D f = R at *
    obtain ⟨D', jo, err⟩ := R
    dsimp only at *
    cases jo with
    | none =>
      have he : err ≠ 0 := fun e => by have := hoe.1 e; cases this
      have d2 : (err == 0) = false := by simp [he]
      have d3 : (err != 0) = true := by simp [he]
      obtain ⟨rfl, s3⟩ := O3.out.none_
      have hfin : Hid (FOD w db cs ⟨p, zz, l⟩ (Ft.fopen D f cs ⟨p, zz, l⟩) F z (.returned (.tuple #[.pointer none, .int .i64 err])) w3) := by
        show FOD _ _ _ _ _ _ _ _ _
        rw [E.out, if_pos he]
        exact FOD.no_ (s3.keep (Upd.refl _ _) (fun k hk => Or.inl (Or.inl hk))) HMV.out rfl rfl
      clear he hoe s3 O3 E
      go_wp2_with fail
      (try simp only [Exit.inBlock, Exit.then])
      refine bodyPost_ret (fopen_results _ _) rfl ?_
      exact hfin.out
    | some j =>
      have he : err = 0 := hoe.2 rfl
      subst he
      obtain ⟨jb, rfl, s3⟩ := O3.out.some_
      rw [if_neg (by decide)] at E
      have S3 := Lib.hid s3
      have hg3 := s3.gl g
      have G3 := Lib.hid hg3
      have nd : Nw w3 w3.drew := (Upd.refl _ _).drew
      have cl : ∀ y, Nw w3 y → y.cell? ⟨z.heap.size, 0, none⟩ = some (.int .i64 p) ∧ y.cell? ⟨z.heap.size, 1, none⟩ = some (.int .i64 zz) ∧ y.cell? ⟨z.heap.size, 2, none⟩ = some (.slice a l.length cap) := fun y u => ⟨by rw [cells_cell (Nw.keep u HB3.out)]; rfl, by rw [cells_cell (Nw.keep u HB3.out)]; rfl, by rw [cells_cell (Nw.keep u HB3.out)]; rfl⟩
      have hF : Calls Tryd.prog 21 #[.slice av cs.length cav] w3.drew fun e y => ∃ a2 c2, e = .returned (.slice a2 cs.length c2) ∧ (y.cell? ⟨z.heap.size, 0, none⟩ = some (.int .i64 p) ∧ y.cell? ⟨z.heap.size, 1, none⟩ = some (.int .i64 zz) ∧ y.cell? ⟨z.heap.size, 2, none⟩ = some (.slice a l.length cap)) ∧
          Hid (y.ownsRow w3.heap.size tStrMU 1 (.slice a2 cs.length c2) cs.length (cs.map bsMU) ∧ Nw w3 y) := by
        refine (clone_mU B _ cs _ (hg3.upd nd) (owns_upd' HV3.out nd (fun _ _ e => e)) (by have := HL.out.n; omega)).mono ?_
        rintro e y ⟨v2, rfl, o2, u2⟩
        obtain ⟨a2, c2, rfl⟩ := own_slG o2
        exact ⟨a2, c2, rfl, cl y (nd.trans u2), o2, nd.trans u2⟩
      have HF := Lib.hid hF
      obtain ⟨q0, q1, q2⟩ := cl _ nd
      have CL := Lib.hid cl
      clear hF cl s3 O3 hoe hg3
      go_wp2_with fail
      go_region_held3 (fun y => y.cell? ⟨z.heap.size, 0, none⟩ = some (.int .i64 p) ∧ y.cell? ⟨z.heap.size, 1, none⟩ = some (.int .i64 zz) ∧ y.cell? ⟨z.heap.size, 2, none⟩ = some (.slice a l.length cap)) (first | exact ⟨q0, q1, q2⟩ | assumption | go_keep) (first | (go_at_call 21; (with_reducible refine HF.out.mono ?_); rintro _ y1 ⟨a3, c3, rfl, cy1, HM⟩))
      have hm := HM.out
      have hz1 := hm.2.size
      have na := nw_alloc y1 (.cells #[.pointer (some ⟨jb, 0, none⟩), .slice a3 cs.length c3, .int .i64 p, .int .i64 zz, .slice a l.length cap, .slice none 0 0] tFet)
      have nb := heap_new y1 (.cells #[.pointer (some ⟨jb, 0, none⟩), .slice a3 cs.length c3, .int .i64 p, .int .i64 zz, .slice a l.length cap, .slice none 0 0] tFet)
      obtain ⟨_, _, r2⟩ := CL.out _ (hm.2.trans na)
      have HCl := Lib.hid (clone_i _ _ _ l _ (G3.out.upd (hm.2.trans na)) (HC3.out.nw (hm.2.trans na)) (by omega))
      have NB := Lib.hid nb
      clear cy1 HF q0 q1 q2 nb hm
      go_wp2_with fail
      (with_reducible refine (HCl.out).mono ?_)
      rintro _ w5 ⟨kv, rfl, o5, u5⟩
      obtain ⟨ak, ck, rfl⟩ := own_slG o5
      have kb := u5.keep NB.out
      have r3 := cells_cell kb 4
      simp only [List.getElem?_toArray, List.getElem?_cons_succ, List.getElem?_cons_zero] at r3
      have f3 := cells_frozen kb 4
      rw [World.size_alloc] at o5
      obtain ⟨fa, nw6⟩ := ft_made (jb := jb) (p := p) (zz := zz) (sl := .slice a l.length cap) (by have := G3.out.big; omega) HM.out.2 HM.out.1 u5 o5
      have FA := Lib.hid fa
      have N6 := Lib.hid nw6
      have HAll := Lib.hid (all_t (S3.out.nw nw6) g)
      clear o5 u5 kb fa nw6 NB HCl na
      go_wp2_with fail
      (with_reducible refine (HAll.out).mono ?_)
      rintro _ w7 ⟨v7, rfl, o7, u7⟩
      obtain ⟨a7, c7, rfl⟩ := own_slG o7
      have N7 := Lib.hid (N6.out.trans u7)
      have F7 := Lib.hid (FA.out.nw u7)
      have HO7 := Lib.hid o7
      have hfb1 := FA.out.fb
      have hfb2 := lt_of_block FA.out.blk
      dsimp only at hfb1 hfb2
      have hrl := (by obtain ⟨d', y, _, _, h2⟩ := S3.out.parts; exact h2.jrn.len : j.recs.length ≤ 16777216)
      have hrl1 : (j.recs.length : Int) ≤ 16777216 := by omega
      have HPr := Lib.hid (fun (y : World) (s : List UInt8) (u : Nw w3 y) => cprint_wU _ _ _ cs s y (Sl.of_owns (owns_upd' HV3.out u (fun _ _ e => e))) HL.out.n)
      have HCo := Lib.hid (fun (y : World) (q : Int) (u : Nw w3 y) => contains_iN _ _ _ l q y (HC3.out.nw u) hl2)
      have F70 : Hid (∃ x : FtR, x.fb = y1.heap.size ∧ x.jb = jb ∧ (∀ k, x.ov.ownBlock = some k → w7.heap.size ≤ k) ∧ FtAt w3.heap.size w7 x cs ⟨p, zz, l⟩ (comeN cs j.recs 0)) := ⟨_, rfl, rfl, (fun k e => by cases e), F7.out⟩
      clear o7 u7 HAll FA F7 N6 r2 HM r3 f3 hz1
      generalize y1.heap.size = fb at *
      go_wp2_with fail
      go_loopw [45] (fun iv wr => ∃ n : Nat, n ≤ j.recs.length ∧ iv = .int .i64 (n : Int) ∧ Hid (∃ x : FtR, x.fb = fb ∧ x.jb = jb ∧ (∀ k, x.ov.ownBlock = some k → w7.heap.size ≤ k) ∧ FtAt w3.heap.size wr x cs ⟨p, zz, l⟩ (comeN cs j.recs n)) ∧ Hid (∀ q ∈ comeN cs j.recs n, q ∈ l) ∧ Hid (Upd (fun k => k = fb) w7 wr)) (fun iv _ => j.recs.length - (intOf iv).toNat)
      case atStart => exact ⟨0, Nat.zero_le _, rfl, F70, (fun q hq => by unfold comeN at hq; simp at hq), Upd.refl _ _⟩
      case round =>
        obtain ⟨n, hn, rfl, FX, HA, U⟩ := hrel
        by_cases hlt : n < j.recs.length
        · have HN7 : Nw w3 wr := N7.out.trans' U.out (fun k hk e => by omega)
          rcases strs_cellsU (Sl.of_owns (owns_upd' HO7.out U.out (fun k e s => by have := (HO7.out.lt k e).1; omega))) with ⟨_, _, e, hnil | ⟨b, off, e2, hcell⟩⟩
          · simp [hnil] at hlt
          injection e with e3 e4 e5
          subst e3 e5
          subst e2
          have c0 : wr.cell? ⟨b, off + n, none⟩ = some (.string ⟨j.recs[n].toArray⟩) := hcell n hlt
          have hlt1 : (n : Int) < j.recs.length := by omega
          have hct := comeN_succ (cs := cs) hlt
          have Hct := Lib.hid hct
          have NW : Nw w3 wr := HN7
          have hp2 := Lib.hid (HPr.out wr j.recs[n] NW)
          have hNW := Lib.hid NW
          clear hcell hct
          have hpd : Ft.prOf cs j.recs[n] = idxI (fun x => decide (x = j.recs[n])) cs := rfl
          rw [← hpd] at hp2
          have hmem : j.recs[n] ∈ j.recs := List.getElem_mem hlt
          have HMem : Hid (Ft.prOf cs j.recs[n] ∉ l → Ft.fitsJ cs ⟨p, zz, l⟩ j = false) := fun hno => by
            cases hc : Ft.fitsJ cs ⟨p, zz, l⟩ j with
            | false => rfl
            | true =>
              unfold Ft.fitsJ Ft.come at hc
              rw [List.all_eq_true] at hc
              exact absurd (of_decide_eq_true (hc _ (List.mem_map.2 ⟨_, hmem, rfl⟩))) hno
          clear hpd hmem
          generalize Ft.prOf cs j.recs[n] = q at *
          generalize j.recs[n] = s at *
          go_wp2_with fail
          (with_reducible refine (hp2.out).mono ?_)
          rintro _ w8 ⟨rfl, u8⟩
          have N8 := Lib.hid (hNW.out.trans u8)
          have U8 := Lib.hid (U.out.nw u8)
          have HU8 := Lib.hid u8
          obtain ⟨_, _, r2⟩ := CL.out w8 N8.out
          have hy := Lib.hid (HCo.out w8 q N8.out)
          clear u8 hp2 c0 NW
          by_cases hin : q ∈ l
          · rw [decide_eq_true hin] at hy
            obtain ⟨x, hx1, hx2, hx3, fx⟩ := FX.out
            subst hx1
            have HX3 := Lib.hid hx3
            clear hx3
            have HIN := Lib.hid hin
            have FX8 := Lib.hid (fx.nw HU8.out)
            have hov := own_slG fx.oo
            clear hin fx FX
            go_wp2_with fail
            (with_reducible refine (hy.out).mono ?_)
            rintro _ w9 ⟨rfl, u9⟩
            have N9 := Lib.hid (N8.out.trans u9)
            have U9 := Lib.hid (U8.out.nw u9)
            have FX9 := Lib.hid (FX8.out.nw u9)
            obtain ⟨ao, co, hov⟩ := hov
            rw [comeN_len (Nat.le_of_lt hlt)] at hov
            have h5 := FX9.out.cells.2.2.2.2.2
            rw [hov] at h5
            have HO : Hid (w9.ownsRow w3.heap.size 3 1 (.slice ao n co) n ((comeN cs j.recs n).map intD)) := by
              have := FX9.out.oo
              rw [hov, comeN_len (Nat.le_of_lt hlt)] at this
              exact this
            have hz9 : w3.heap.size ≤ w9.heap.size := N9.out.size
            have hgw := FX9.out.hb
            have HOV := Lib.hid hov
            clear hov hy u9 FX8 HCo HPr
            go_wp2_with (at_builtin; refine wpList_appL rfl _ _ 24 rfl w3.heap.size 3 _ 1 8 Tryd.underlying24 infoIntU rfl (by decide) _ _ _ rfl HO.out [.int .i64 q] rfl rfl ?c1 ?c2 ?c3 hz9 hgw ?_)
            case c1 => intro u hu; rw [List.mem_singleton.1 hu]; rfl
            case c2 => unfold maxLen; omega
            case c3 => omega
            intro v' w10 o10 u10 hob
            obtain ⟨a10, c10, rfl⟩ := own_slG o10
            rw [← HOV.out] at u10 hob
            have hne : x.ov.ownBlock ≠ some x.fb := fun e => by
              obtain ⟨_, c, hc⟩ := own_block FX9.out.oo e
              rw [FX9.out.blk] at hc
              injection hc with hc
              injection hc with _ hc
              exact absurd hc (by decide)
            have kb := u10.keep FX9.out.blk hne
            have q1 := cells_cell kb 5
            have q2 := cells_frozen kb 5
            simp only [List.getElem?_toArray, List.getElem?_cons_succ, List.getElem?_cons_zero] at q1
            have hlen : (comeN cs j.recs n).length = n := comeN_len (Nat.le_of_lt hlt)
            obtain ⟨g1, g2, g3⟩ := FX9.out.more (p := q) (v' := .slice a10 (n + 1) c10) (by rw [hlen]; exact o10) u10 hob
            have hfx : Hid (∃ y : FtR, y.fb = x.fb ∧ y.jb = jb ∧ (∀ k, y.ov.ownBlock = some k → w7.heap.size ≤ k) ∧ FtAt w3.heap.size (w10.setCell ⟨x.fb, 5, none⟩ (.slice a10 (n + 1) c10)) y cs ⟨p, zz, l⟩ (comeN cs j.recs (n + 1))) := ⟨{ x with ov := .slice a10 (n + 1) c10 }, rfl, hx2, (fun k e => (hob k e).elim (HX3.out k) (fun h => by have := U9.out.size; omega)), by rw [Hct.out]; exact g1⟩
            have hA : Hid (∀ r ∈ comeN cs j.recs (n + 1), r ∈ l) := fun r hr => by
              rw [Hct.out] at hr
              rcases List.mem_append.1 hr with hr | hr
              · exact HA.out r hr
              · rw [List.mem_singleton.1 hr]; exact HIN.out
            have hU := Lib.hid (U9.out.trans' g2 (fun k hk e => e.elim id (fun e => by have := HX3.out k e; omega)))
            clear o10 u10 hob kb hne g1 g2 g3 hlen hx2
            go_wp2_with fail
            go_roundw
            case rel => exact ⟨n + 1, by omega, by go_num, hfx, hA, hU⟩
            case measure => simp [intOf]; omega
          · rw [decide_eq_false hin] at hy
            have hfin : Hid (∀ y, Nw w3 y → FOD w db cs ⟨p, zz, l⟩ (Ft.fopen D f cs ⟨p, zz, l⟩) F z (.returned (.tuple #[.pointer none, .int .i64 28])) y) := fun y u => by
              rw [E.out]
              simp only [HMem.out hin, Bool.false_eq_true, if_false]
              exact FOD.no_ (R := (D', none, 28)) ((S3.out.keep (Upd.refl _ _) (fun k hk => Or.inl (Or.inl hk))).nw u) (HMV.out.nw u) rfl rfl
            clear FX HA E S3 HMem hin HCo HPr
            go_wp2_with fail
            (with_reducible refine (hy.out).mono ?_)
            rintro _ w9 ⟨rfl, u9⟩
            have N9 := Lib.hid (N8.out.trans u9)
            clear hy u9
            go_wp2_with fail
            (try simp only [Exit.inBlock, Exit.then])
            refine bodyPost_ret (fopen_results _ _) rfl ?_
            exact hfin.out _ N9.out
        · obtain rfl : n = j.recs.length := by omega
          obtain ⟨x, hx1, hx2, _, fx⟩ := FX.out
          rw [comeN_all] at fx
          have hall : Ft.fitsJ cs ⟨p, zz, l⟩ j = true := by
            have h := HA.out
            rw [comeN_all] at h
            unfold Ft.fitsJ
            rw [List.all_eq_true]
            exact fun q hq => decide_eq_true (h q hq)
          have hfin : Hid (FOD w db cs ⟨p, zz, l⟩ (Ft.fopen D f cs ⟨p, zz, l⟩) F z (.returned (.tuple #[.pointer (some ⟨fb, 0, none⟩), .int .i64 0])) wr) := by
            show FOD _ _ _ _ _ _ _ _ _
            rw [E.out]
            simp only [hall, if_true]
            rw [← hx1]
            exact FOD.yes (R := (D', some j, 0)) (S3.out.keep (Upd.refl _ _) (fun k hk => Or.inl (Or.inl hk))) HMV.out (N7.out.trans' U.out (fun k hk e => by omega)) fx hx2 rfl rfl
          clear fx hx1 hx2 hall FX HA E S3
          go_wp2_with fail
          (try simp only [Exit.inBlock, Exit.then])
          refine bodyPost_ret (fopen_results _ _) rfl ?_
          exact hfin.out
end
end Go.Proofs.YtagmlemlagbfkaaDoor
