/- Both sides: a program's store and a reference's store, each with its journal on its disk. Both and so on. -/
import Derived.Test.YtiednpagknnfnaaGreatDoorPkST11
import Derived.Test.YtiednpagknnfnaaGreatDoorPkST2
import Derived.Test.YtiednpagknnfnaaGreatDoorPkST3
import Derived.Test.YtiednpagknnfnaaGreatDoorPkST5
set_option linter.unusedVariables false
set_option linter.unusedSimpArgs false
namespace Go.Proofs.YtiednpagknnfnaaGreatDoor
open Go.RowKit
attribute [local irreducible] Calls CallsIn
structure T2 (w : World) (db rb : Nat) (x : SgR) (j : Jr.Jn) (D : Dk.Disk) (S : Sg.Sta) (y : RsR) (k : Jr.Jn) (E : Dk.Disk) (Q : Sg.Sta) (F : Nat → Prop) (z : World) : Prop where
  rs : RS w db (some (x.jb, j)) D rb y k E Q (fun b => F b ∨ x.foot b) z
  st : SgAt w.heap.size z x S
  ap : ∀ b, F b → ¬ x.foot b
section
variable {w : World} {db rb : Nat} {x : SgR} {j : Jr.Jn} {D E : Dk.Disk} {S Q : Sg.Sta} {y : RsR} {k : Jr.Jn} {F : Nat → Prop} {z : World}
theorem T2.nw0 (h : T2 w db rb x j D S y k E Q F z) : Nw w z := h.rs.ts.nw0
theorem T2.nw {z' : World} (h : T2 w db rb x j D S y k E Q F z) (u : Nw z z') : T2 w db rb x j D S y k E Q F z' := ⟨h.rs.nw u, h.st.nw u, h.ap⟩
theorem T2.prog (h : T2 w db rb x j D S y k E Q F z) {Qe : Ending → Prop} {P : Program} {f : FuncId} {args : Array Value} {r : Sg.Res}
    (c : ∀ R, SS w db x j S D R z → Calls P f args z fun e z' => Qe e ∧ OpD w db x.sb r R z z') : Calls P f args z fun e z' => Qe e ∧ (∃ x' : SgR, x'.sb = x.sb ∧ T2 w db rb x' r.j r.D r.S y k E Q F z') ∧ Moves w F z z' := by
  obtain ⟨R, hgs, hrx, hap⟩ := h.rs.ts
  have hss : SS w db x j S D (fun b => R b ∨ F b ∨ y.foot b) z := by
    refine ⟨hgs.keep (Upd.refl _ _) (fun b hb => Or.inl ?_), h.st, fun b hb hx => ?_⟩
    · rcases hb with (hb | hb | hb) | hb
      · exact Or.inl hb
      · exact Or.inr (Or.inl (Or.inl hb))
      · exact Or.inr (Or.inr hb)
      · exact Or.inr (Or.inl (Or.inr hb))
    · rcases hb with hb | hb | hb
      · exact hap b (Or.inl (Or.inr hx)) hb
      · exact h.ap b hb hx
      · exact h.rs.ap b (Or.inr hx) hb
  refine (c _ hss).mono fun e z' ⟨q, x', e1, hs, m⟩ => ⟨q, ⟨x', e1, ⟨⟨⟨R, ?_, ?_, fun b hb hr => ?_⟩, ?_, fun b hb hy => ?_⟩, hs.st, fun b hb => hs.ap b (Or.inr (Or.inl hb))⟩⟩, m.mono (fun b _ s => ⟨fun f => s.1 (Or.inr (Or.inl f)), s.2⟩)⟩
  · refine hs.gs.keep (Upd.refl _ _) (fun b hb => Or.inl ?_)
    rcases hb with hb | (hb | hb) | hb
    · exact Or.inl (Or.inl hb)
    · exact Or.inl (Or.inr (Or.inl hb))
    · exact Or.inr hb
    · exact Or.inl (Or.inr (Or.inr hb))
  · exact hrx.upd m (fun b hb s => s.1 (Or.inl hb)) (fun b s => s.2)
  · rcases hb with (hb | hb) | hb
    · exact hap b (Or.inl (Or.inl hb)) hr
    · exact hs.ap b (Or.inl hr) hb
    · exact hap b (Or.inr hb) hr
  · exact h.rs.st.upd m (fun b hb s => s.1 (Or.inr (Or.inr hb)))
  · rcases hb with hb | hb
    · exact h.rs.ap b (Or.inl hb) hy
    · exact hs.ap b (Or.inr (Or.inr hy)) hb
theorem T2.refc (h : T2 w db rb x j D S y k E Q F z) {Qe : Ending → Prop} {P : Program} {f : FuncId} {args : Array Value} {r : Dk.Disk × Jr.Jn × Sg.Sta}
    (c : ∀ F, RS w db (some (x.jb, j)) D rb y k E Q F z → Calls P f args z fun e z' => Qe e ∧ RopD w db (some (x.jb, j)) D rb y r F z z') : Calls P f args z fun e z' => Qe e ∧ (∃ y' : RsR, y'.sb = y.sb ∧ T2 w db rb x j D S y' r.2.1 r.1 r.2.2 F z') ∧ Moves w F z z' :=
  (c _ h.rs).mono fun e z' ⟨q, y', e1, e2, hs, m⟩ => ⟨q, ⟨y', e1, ⟨hs, h.st.upd m (fun b hb s => s.1 (Or.inr hb)), h.ap⟩⟩, m.mono (fun b _ s => ⟨fun f => s.1 (Or.inl f), s.2⟩)⟩
theorem T2.forget (h : T2 w db rb x j D S y k E Q F z) : TS w db none D rb none E F z :=
  h.rs.ts.forget.keep (Upd.refl _ _) (fun b hb => Or.inl (Or.inl (Or.inl hb)))
def Open1 (w : World) (db : Nat) (D : Dk.Disk) (rb : Nat) (E : Dk.Disk) (f : Int) (rs : List (Option Sg.Ops)) (F : Nat → Prop) (z : World) (e : Ending) (z' : World) : Prop :=
  ((Jr.openJ D f).2.1 = none ∧ e = .returned (.tuple #[.pointer none, .int .i64 (Jr.openJ D f).2.2]) ∧ TS w db none (Jr.openJ D f).1 rb none E F z' ∧ Moves w F z z') ∨
  ((Jr.openJ D f).2.1 = some ⟨f, rs.map Sg.recE, false⟩ ∧ ∃ x : SgR, e = .returned (.tuple #[.pointer (some ⟨x.sb, 0, none⟩), .int .i64 0]) ∧ TS w db (some (x.jb, ⟨f, rs.map Sg.recE, false⟩)) (Jr.openJ D f).1 rb none E (fun b => F b ∨ x.foot b) z' ∧ SgAt w.heap.size z' x (Sg.of rs) ∧ (∀ b, F b → ¬ x.foot b) ∧ Moves w F z z')
theorem sopen2_t (g : Gl w) (h : TS w db none D rb none E F z) {f : Int} (hf : I64 f) {rs : List (Option Sg.Ops)}
    (hc : ((Jr.openJ D f).2.1 = none ∧ (Jr.openJ D f).2.2 ≠ 0) ∨ ((Jr.openJ D f).2.1 = some ⟨f, rs.map Sg.recE, false⟩ ∧ (Jr.openJ D f).2.2 = 0 ∧ Sg.Gd rs ∧ rs.length ≤ 400 ∧ ∀ r ∈ rs, (Sg.recE r).length ≤ 2000)) :
    Calls Tryz.prog 8 #[.pointer (some ⟨db, 0, none⟩), .int .i64 f] z (Open1 w db D rb E f rs F z) := by
  obtain ⟨R, hgs, hrx, hap⟩ := h
  refine (sopen_t g hgs hf hc).mono fun e z' hd => ?_
  rcases hd with ⟨h1, h2, h3, h4⟩ | ⟨h1, x, h2, h3, h4⟩
  · exact Or.inl ⟨h1, h2, ⟨R, h3, hrx.upd h4 (fun b hb s => s.1 (Or.inl hb)) (fun b s => s.2), hap⟩, h4.mono (fun b _ s => ⟨fun q => s.1 (Or.inr q), s.2⟩)⟩
  · refine Or.inr ⟨h1, x, h2, ⟨R, h3.gs.keep (Upd.refl _ _) (fun b hb => Or.inl ?_), hrx.upd h4 (fun b hb s => s.1 (Or.inl hb)) (fun b s => s.2), fun b hb hr => ?_⟩, h3.st, fun b hb => h3.ap b (Or.inr hb), h4.mono (fun b _ s => ⟨fun q => s.1 (Or.inr q), s.2⟩)⟩
    · rcases hb with hb | hb | hb
      · exact Or.inl (Or.inl hb)
      · exact Or.inl (Or.inr hb)
      · exact Or.inr hb
    · rcases hb with hb | hb
      · exact hap b hb hr
      · exact h3.ap b (Or.inl hr) hb
end
section
variable {w : World} {db rb : Nat} {x : SgR} {j : Jr.Jn} {D E : Dk.Disk} {S : Sg.Sta} {F : Nat → Prop} {z : World}
theorem rsopen2_t (g : Gl w) (h : TS w db (some (x.jb, j)) D rb none E (fun b => F b ∨ x.foot b) z) (hs : SgAt w.heap.size z x S) (ha : ∀ b, F b → ¬ x.foot b) {f : Int} (hf : I64 f) {rs : List (Option Sg.Ops)}
    (h1 : (Jr.openJ E f).2.1 = some ⟨f, rs.map Sg.recE, false⟩) (h2 : (Jr.openJ E f).2.2 = 0) (h3 : Sg.Gd rs) (h4 : rs.length ≤ 400) (h5 : ∀ r ∈ rs, (Sg.recE r).length ≤ 2000) :
    Calls Tryz.prog 9 #[.pointer (some ⟨rb, 0, none⟩), .int .i64 f] z fun e z' => ∃ y : RsR, e = .returned (.tuple #[.pointer (some ⟨y.sb, 0, none⟩), .int .i64 0]) ∧ T2 w db rb x j D S y ⟨f, rs.map Sg.recE, false⟩ (Jr.openJ E f).1 (Sg.of rs) F z' ∧ Moves w F z z' := by
  refine (rsopen_t g h hf (Or.inr ⟨h1, h2, h3, h4, h5⟩)).mono fun e z' hd => ?_
  rcases hd with ⟨k1, _⟩ | ⟨_, y, k2, k3, k4⟩
  · rw [h1] at k1; cases k1
  · exact ⟨y, k2, ⟨k3, hs.upd k4 (fun b hb s => s.1 (Or.inr hb)), ha⟩, k4.mono (fun b _ s => ⟨fun q => s.1 (Or.inl q), s.2⟩)⟩
theorem rsopen0_t (g : Gl w) (h : TS w db none D rb none E F z) {f : Int} (hf : I64 f) (h1 : (Jr.openJ E f).2.1 = none) (h2 : (Jr.openJ E f).2.2 ≠ 0) :
    Calls Tryz.prog 9 #[.pointer (some ⟨rb, 0, none⟩), .int .i64 f] z fun e z' => e = .returned (.tuple #[.pointer none, .int .i64 (Jr.openJ E f).2.2]) ∧ TS w db none D rb none (Jr.openJ E f).1 F z' ∧ Moves w F z z' := by
  refine (rsopen_t (rs := []) g h hf (Or.inl ⟨h1, h2⟩)).mono fun e z' hd => ?_
  rcases hd with ⟨_, k2, k3, k4⟩ | ⟨k1, _⟩
  · exact ⟨k2, k3, k4⟩
  · rw [h1] at k1; cases k1
end
end Go.Proofs.YtiednpagknnfnaaGreatDoor
namespace Go.Proofs.YtiednpagknnfnaaGreatDoor.Sg
open Fm (Str)
theorem half_big : ∀ (n : Nat) (l : List (Option Ops)), l.length = n → 2 * big (fold l).2 + (if (fold l).1.isSome then 1 else 0) ≤ n := by
  intro n
  induction n with
  | zero =>
    intro l h
    rw [List.length_eq_zero_iff.1 h]
    decide
  | succ n ih =>
    intro l h
    have e : l = l.take n ++ [l[n]'(by omega)] := by rw [List.take_append_getElem]; rw [List.take_of_length_le (by omega)]
    have h1 := ih (l.take n) (by rw [List.length_take]; omega)
    rw [e, fold_snoc]
    cases hr : l[n]'(by omega) with
    | some o =>
      show 2 * big (fold (l.take n)).2 + 1 ≤ n + 1
      omega
    | none =>
      cases hq : (fold (l.take n)).1 with
      | none =>
        have : step (fold (l.take n)) none = (none, (fold (l.take n)).2) := by unfold step; rw [hq]
        rw [this]
        show 2 * big (fold (l.take n)).2 + 0 ≤ n + 1
        omega
      | some o =>
        have : step (fold (l.take n)) none = (none, after (fold (l.take n)).2 o) := by unfold step; rw [hq]
        rw [this]
        rw [hq] at h1
        have := big_after (fold (l.take n)).2 o
        show 2 * big (after (fold (l.take n)).2 o) + 0 ≤ n + 1
        simp only [Option.isSome_some, if_true] at h1
        omega
theorem big_half (l : List (Option Ops)) : 2 * big (of l) ≤ l.length := by
  have := half_big _ l rfl
  unfold of
  omega
theorem opened2 {D : Dk.Disk} {f : Int} {rs : List (Option Ops)} {n : Nat} (h : Hf D ⟨f, rs.map recE, false⟩ f rs) (hg : Gd rs) (hl : rs.length ≤ 2 * n) : Wl D ⟨f, rs.map recE, false⟩ (of rs) f n :=
  ⟨gd_g hg, by have := big_half rs; omega, rs, h, hg, hl, fun _ => rfl⟩
end Go.Proofs.YtiednpagknnfnaaGreatDoor.Sg
namespace Go.Proofs.YtiednpagknnfnaaGreatDoor
open Go.RowKit
attribute [local irreducible] Calls CallsIn
def LS (w : World) (db rb : Nat) (n : Nat) (F : Nat → Prop) (pv ev qv fv : Value) (z : World) : Prop :=
  ∃ (D : Dk.Disk) (e : Int), ev = .int .i64 e ∧ fv = .int .i64 e ∧
    ((pv = .pointer none ∧ qv = .pointer none ∧ e ≠ 0 ∧ TS w db none D rb none D F z ∧ Sg.Wf D 5 n) ∨
     (e = 0 ∧ ∃ (x : SgR) (y : RsR) (j : Jr.Jn) (S : Sg.Sta), pv = .pointer (some ⟨x.sb, 0, none⟩) ∧ qv = .pointer (some ⟨y.sb, 0, none⟩) ∧ T2 w db rb x j D S y j D S F z ∧ Sg.Wl D j S 5 n))
theorem LS.done {w : World} {db rb n : Nat} {F : Nat → Prop} {pv ev qv fv : Value} {z : World} (h : LS w db rb n F pv ev qv fv z) : ∃ D, TS w db none D rb none D F z ∧ Sg.Wf D 5 n := by
  obtain ⟨D, e, _, _, h | ⟨_, x, y, j, S, _, _, h1, h2⟩⟩ := h
  · exact ⟨D, h.2.2.2⟩
  · exact ⟨D, h1.forget, h2.file⟩
theorem open_both {D : Dk.Disk} {n : Nat} (h : Sg.Wf D 5 n) : ((Jr.openJ D 5).2.1 = none ∧ (Jr.openJ D 5).2.2 ≠ 0 ∧ Sg.Wf (Jr.openJ D 5).1 5 n) ∨
    ∃ rs, (Jr.openJ D 5).2.1 = some ⟨5, rs.map Sg.recE, false⟩ ∧ (Jr.openJ D 5).2.2 = 0 ∧ Sg.Gd rs ∧ rs.length ≤ 2 * n ∧ (∀ r ∈ rs, (Sg.recE r).length ≤ 2000) ∧ Sg.Wl (Jr.openJ D 5).1 ⟨5, rs.map Sg.recE, false⟩ (Sg.of rs) 5 n := by
  rcases h.open_ (by omega) with h | ⟨rs, h1, h2, h3, h4, h5⟩
  · exact Or.inl h
  · obtain ⟨sure, hi⟩ := h5.inv
    exact Or.inr ⟨rs, h1, h2, h3, h4, fun r hr => hi.small _ (List.mem_map_of_mem hr), Sg.opened2 h5 h3 h4⟩
theorem mopen_t {w : World} {db rb n : Nat} {D : Dk.Disk} {F : Nat → Prop} {z : World} (g : Gl w) (h : TS w db none D rb none D F z) (hw : Sg.Wf D 5 n) (hn : n ≤ 100) :
    Calls Tryz.prog 8 #[.pointer (some ⟨db, 0, none⟩), .int .i64 5] z fun e z' => ∃ pv er, e = .returned (.tuple #[pv, .int .i64 er]) ∧
      Calls Tryz.prog 9 #[.pointer (some ⟨rb, 0, none⟩), .int .i64 5] z' fun e2 z2 => ∃ qv, e2 = .returned (.tuple #[qv, .int .i64 er]) ∧ LS w db rb n F pv (.int .i64 er) qv (.int .i64 er) z2 ∧ Moves w F z z2 := by
  have h5 : I64 5 := by unfold I64; omega
  rcases open_both hw with ⟨o1, o2, o3⟩ | ⟨rs, o1, o2, o3, o4, o5, o6⟩
  · refine (sopen2_t (rs := []) g h h5 (Or.inl ⟨o1, o2⟩)).mono fun e z' hd => ?_
    rcases hd with ⟨_, k2, k3, k4⟩ | ⟨k1, _⟩
    · refine ⟨_, _, k2, (rsopen0_t g k3 h5 o1 o2).mono fun e2 z2 ⟨m1, m2, m3⟩ => ⟨_, m1, ⟨_, _, rfl, rfl, Or.inl ⟨rfl, rfl, o2, m2, o3⟩⟩, k4.trans m3⟩⟩
    · rw [o1] at k1; cases k1
  · refine (sopen2_t g h h5 (Or.inr ⟨o1, o2, o3, by omega, o5⟩)).mono fun e z' hd => ?_
    rcases hd with ⟨k1, _⟩ | ⟨_, x, k2, k3, k4, k5, k6⟩
    · rw [o1] at k1; cases k1
    · refine ⟨_, _, k2, (rsopen2_t g k3 k4 k5 h5 o1 o2 o3 (by omega) o5).mono fun e2 z2 ⟨y, m1, m2, m3⟩ => ⟨_, m1, ⟨_, _, rfl, rfl, Or.inr ⟨rfl, x, y, _, _, rfl, rfl, m2, o6⟩⟩, k6.trans m3⟩⟩
theorem Sg.Wl.lose {D : Dk.Disk} {j : Jr.Jn} {S : Sg.Sta} {f : Int} {n : Nat} (h : Sg.Wl D j S f n) {k : Int} (hk : k ≤ 9223372036854775807) : Sg.Wl (Dk.lose D k) j S f n := by
  obtain ⟨h1, h2, rs, ⟨⟨sure, hi⟩, a, b, c⟩, h4⟩ := h
  exact ⟨h1, h2, rs, ⟨⟨sure, hi.of_fs (Dk.lose_ok hi.ok hk) rfl⟩, a, b, c⟩, h4⟩
theorem Sg.Wl.arm {D : Dk.Disk} {j : Jr.Jn} {S : Sg.Sta} {f : Int} {n : Nat} (h : Sg.Wl D j S f n) {k : Int} (hk : k ≤ 9223372036854775807) (keep : List Int) : Sg.Wl (Dk.arm D k keep) j S f n := by
  obtain ⟨h1, h2, rs, ⟨⟨sure, hi⟩, a, b, c⟩, h4⟩ := h
  exact ⟨h1, h2, rs, ⟨⟨sure, hi.of_fs (Dk.arm_ok hi.ok hk keep) rfl⟩, a, b, c⟩, h4⟩
section
variable {w : World} {db rb : Nat} {x : SgR} {j k : Jr.Jn} {D D' E E' : Dk.Disk} {S Q : Sg.Sta} {y : RsR} {F F' : Nat → Prop} {z z' : World} {n m : Nat} {pv e0 qv f0 : Value}
theorem T2.disk (h : T2 w db rb x j D S y k E Q F z) (t : TS w db (some (x.jb, j)) D' rb (some (y.kb, k)) E' (fun b => (F b ∨ x.foot b) ∨ y.foot b) z') (u : Moves w (fun b => (F b ∨ x.foot b) ∨ y.foot b) z z') :
    T2 w db rb x j D' S y k E' Q F z' ∧ Moves w F z z' :=
  ⟨⟨⟨t, h.rs.st.upd u (fun b hb s => s.1 (Or.inr hb)), h.rs.ap⟩, h.st.upd u (fun b hb s => s.1 (Or.inl (Or.inr hb))), h.ap⟩, u.mono (fun b _ s => ⟨fun f => s.1 (Or.inl (Or.inl f)), s.2⟩)⟩
theorem T2.keep (h : T2 w db rb x j D S y k E Q F z) (u : Nw z z') (hF : ∀ b, F' b → F b ∨ (z.heap.size ≤ b ∧ b < z'.heap.size)) : T2 w db rb x j D S y k E Q F' z' := by
  have hx : ∀ b, x.foot b → b < z.heap.size := fun b hb => (h.st.lt b hb).2
  have hy : ∀ b, y.foot b → b < z.heap.size := fun b hb => (h.rs.st.lo b hb).2
  refine ⟨⟨h.rs.ts.keep u (fun b hb => ?_), h.rs.st.upd u (fun _ _ s => s), fun b hb => ?_⟩, h.st.nw u, fun b hb => ?_⟩
  · rcases hb with (hb | hb) | hb
    · exact (hF b hb).imp (fun q => Or.inl (Or.inl q)) id
    · exact Or.inl (Or.inl (Or.inr hb))
    · exact Or.inl (Or.inr hb)
  · rcases hb with hb | hb
    · rcases hF b hb with q | q
      · exact h.rs.ap b (Or.inl q)
      · intro s; have := hy b s; omega
    · exact h.rs.ap b (Or.inr hb)
  · rcases hF b hb with q | q
    · exact h.ap b q
    · intro s; have := hx b s; omega
theorem LS.keep (h : LS w db rb n F pv e0 qv f0 z) (hm : n ≤ m) (u : Nw z z') (hF : ∀ b, F' b → F b ∨ (z.heap.size ≤ b ∧ b < z'.heap.size)) : LS w db rb m F' pv e0 qv f0 z' := by
  obtain ⟨D, e, h1, h2, h | ⟨h3, x, y, j, S, h4, h5, h6, h7⟩⟩ := h
  · exact ⟨D, e, h1, h2, Or.inl ⟨h.1, h.2.1, h.2.2.1, h.2.2.2.1.keep u hF, h.2.2.2.2.mono hm⟩⟩
  · exact ⟨D, e, h1, h2, Or.inr ⟨h3, x, y, j, S, h4, h5, h6.keep u hF, h7.mono hm⟩⟩
theorem LS.nw0 (h : LS w db rb n F pv e0 qv f0 z) : Nw w z := by
  obtain ⟨D, h, _⟩ := h.done
  exact h.nw0
theorem LS.event {P : Program} {f1 f2 : FuncId} {av bv : Array Value} {ev : Dk.Disk → Dk.Disk} (h : LS w db rb n F pv e0 qv f0 z)
    (hf : ∀ D, Sg.Wf D 5 n → Sg.Wf (ev D) 5 n) (hl : ∀ D j S, Sg.Wl D j S 5 n → Sg.Wl (ev D) j S 5 n)
    (c1 : ∀ jp kq D E F z, TS w db jp D rb kq E F z → Calls P f1 av z fun e z' => e = .returned (.tuple #[]) ∧ TS w db jp (ev D) rb kq E F z' ∧ Moves w F z z')
    (c2 : ∀ jp kq D E F z, TS w db jp D rb kq E F z → Calls P f2 bv z fun e z' => e = .returned (.tuple #[]) ∧ TS w db jp D rb kq (ev E) F z' ∧ Moves w F z z') :
    Calls P f1 av z fun e z' => e = .returned (.tuple #[]) ∧ Moves w F z z' ∧ Calls P f2 bv z' fun e z2 => e = .returned (.tuple #[]) ∧ LS w db rb n F pv e0 qv f0 z2 ∧ Moves w F z z2 := by
  obtain ⟨D, e, h1, h2, ⟨k1, k2, k3, k4, k5⟩ | ⟨h3, x, y, j, S, h4, h5, h6, h7⟩⟩ := h
  · exact (c1 _ _ _ _ _ _ k4).mono fun e' z' ⟨r, t, u⟩ => ⟨r, u, (c2 _ _ _ _ _ _ t).mono fun e2 z2 ⟨r2, t2, u2⟩ => ⟨r2, ⟨_, e, h1, h2, Or.inl ⟨k1, k2, k3, t2, hf _ k5⟩⟩, u.trans u2⟩⟩
  · refine (c1 _ _ _ _ _ _ h6.rs.ts).mono fun e' z' ⟨r, t, u⟩ => ?_
    obtain ⟨t1, u1⟩ := h6.disk t u
    refine ⟨r, u1, (c2 _ _ _ _ _ _ t1.rs.ts).mono fun e2 z2 ⟨r2, t2, u2⟩ => ?_⟩
    obtain ⟨t3, u3⟩ := t1.disk t2 u2
    exact ⟨r2, ⟨_, e, h1, h2, Or.inr ⟨h3, x, y, j, S, h4, h5, t3, hl _ _ _ h7⟩⟩, u1.trans u3⟩
theorem mlose_t (h : LS w db rb n F pv e0 qv f0 z) {a : Int} (ha : I64 a) :
    Calls Tryz.prog 13 #[.pointer (some ⟨db, 0, none⟩), .int .i64 a] z fun e z' => e = .returned (.tuple #[]) ∧ Moves w F z z' ∧
      Calls Tryz.prog 14 #[.pointer (some ⟨rb, 0, none⟩), .int .i64 a] z' fun e z2 => e = .returned (.tuple #[]) ∧ LS w db rb n F pv e0 qv f0 z2 ∧ Moves w F z z2 := by
  have hk : a ≤ 9223372036854775807 := by unfold I64 at ha; omega
  exact h.event (ev := fun D => Dk.lose D a) (fun D q => q.lose hk) (fun D j S q => Sg.Wl.lose q hk) (fun _ _ _ _ _ _ t => tlose_t t ha) (fun _ _ _ _ _ _ t => rlose_t t ha)
theorem marm_t (h : LS w db rb n F pv e0 qv f0 z) (g : Gl w) {a : Int} (ha : I64 a) {lo hi : Nat} (hhi : hi ≤ w.heap.size) (v : Value) (keep : List Int) (hkI : ∀ x ∈ keep, I64 x) (hs : ∀ z, Nw w z → Sl lo hi z v (keep.map intD)) (hL : keep.length ≤ 1000000000) :
    Calls Tryz.prog 15 #[.pointer (some ⟨db, 0, none⟩), .int .i64 a, v] z fun e z' => e = .returned (.tuple #[]) ∧ Moves w F z z' ∧
      Calls Tryz.prog 16 #[.pointer (some ⟨rb, 0, none⟩), .int .i64 a, v] z' fun e z2 => e = .returned (.tuple #[]) ∧ LS w db rb n F pv e0 qv f0 z2 ∧ Moves w F z z2 := by
  have hk : a ≤ 9223372036854775807 := by unfold I64 at ha; omega
  exact h.event (ev := fun D => Dk.arm D a keep) (fun D q => q.arm hk keep) (fun D j S q => Sg.Wl.arm q hk keep) (fun _ _ _ _ _ _ t => tarm_t t g ha lo hi v keep hkI (hs _ t.nw0) hL) (fun _ _ _ _ _ _ t => rarm_t t g ha lo hi hhi v keep hkI (hs _ t.nw0) hL)
def TX (w : World) (db rb n : Nat) (F : Nat → Prop) (z : World) : Prop := ∃ D, TS w db none D rb none D F z ∧ Sg.Wf D 5 n
theorem mcrash_t (h : TX w db rb n F z) (g : Gl w) {lo hi : Nat} (hhi : hi ≤ w.heap.size) (v : Value) (keep : List Int) (hkI : ∀ x ∈ keep, I64 x) (hs : Sl lo hi w v (keep.map intD)) :
    Calls Tryz.prog 17 #[.pointer (some ⟨db, 0, none⟩), v] z fun e z' => e = .returned (.tuple #[]) ∧ Moves w F z z' ∧
      Calls Tryz.prog 18 #[.pointer (some ⟨rb, 0, none⟩), v] z' fun e z2 => e = .returned (.tuple #[]) ∧ TX w db rb n F z2 ∧ Moves w F z z2 := by
  obtain ⟨D, h1, h2⟩ := h
  exact (tcrash_t h1 g lo hi hhi v keep hkI hs).mono fun e' z' ⟨r, t, u⟩ => ⟨r, u, (rcrash_t t g lo hi hhi v keep hkI hs).mono fun e2 z2 ⟨r2, t2, u2⟩ => ⟨r2, ⟨_, t2, h2.crash keep⟩, u.trans u2⟩⟩
theorem mstart_t (h : TX w db rb n F z) :
    Calls Tryz.prog 19 #[.pointer (some ⟨db, 0, none⟩)] z fun e z' => e = .returned (.tuple #[]) ∧ Moves w F z z' ∧
      Calls Tryz.prog 20 #[.pointer (some ⟨rb, 0, none⟩)] z' fun e z2 => e = .returned (.tuple #[]) ∧ TX w db rb n F z2 ∧ Moves w F z z2 := by
  obtain ⟨D, h1, h2⟩ := h
  exact (tstart_t h1).mono fun e' z' ⟨r, t, u⟩ => ⟨r, u, (rstart_t t).mono fun e2 z2 ⟨r2, t2, u2⟩ => ⟨r2, ⟨_, t2, h2.start⟩, u.trans u2⟩⟩
theorem mopen2_t (h : TX w db rb n F z) (g : Gl w) (hn : n ≤ 100) :
    Calls Tryz.prog 8 #[.pointer (some ⟨db, 0, none⟩), .int .i64 5] z fun e z' => ∃ pv er, e = .returned (.tuple #[pv, .int .i64 er]) ∧
      Calls Tryz.prog 9 #[.pointer (some ⟨rb, 0, none⟩), .int .i64 5] z' fun e2 z2 => ∃ qv, e2 = .returned (.tuple #[qv, .int .i64 er]) ∧ LS w db rb n F pv (.int .i64 er) qv (.int .i64 er) z2 ∧ Moves w F z z2 := by
  obtain ⟨D, h1, h2⟩ := h
  exact mopen_t g h1 h2 hn
theorem mdo_t (g : GmS w) (h : T2 w db rb x j D S y j D S F z) (hW : Sg.Wl D j S 5 n) (hn : n ≤ 40) {a b : Int} (ha : I64 a) {s : List UInt8} (hs : s.length ≤ 1000) {p : Sg.Pf} {v kv : Value} {lo hi : Nat} (hhi : hi ≤ w.heap.size) (hv : ∀ z, Nw w z → SlS 5 lo hi z v (p.its.map itC)) (hp : (Sg.pfE p).length ≤ 1900) (hnm : p.nm.length ≤ 1000000) (hl : p.its.length ≤ 1000) (hx : ∀ x ∈ p.its, ItArg x) :
    Calls Tryz.prog 11 #[.pointer (some ⟨x.sb, 0, none⟩), .agg #[.int .i64 a, .string ⟨s.toArray⟩, .int .i64 b, .string ⟨p.nm.toArray⟩, v, kv]] z fun e z' => ∃ r t : Int, e = .returned (.tuple #[.int .i64 r, .int .i64 t]) ∧ Moves w F z z' ∧
      Calls Tryz.prog 12 #[.pointer (some ⟨y.sb, 0, none⟩), .agg #[.int .i64 a, .string ⟨s.toArray⟩, .int .i64 b, .string ⟨p.nm.toArray⟩, v, kv]] z' fun e z2 => e = .returned (.tuple #[.int .i64 r, .int .i64 t]) ∧ LS w db rb (n + 1) F (.pointer (some ⟨x.sb, 0, none⟩)) (.int .i64 0) (.pointer (some ⟨y.sb, 0, none⟩)) (.int .i64 0) z2 ∧ Moves w F z z2 := by
  have hb := hW.big
  refine (h.prog (fun R hR => do_t g hR (k := a) (n := b) ha (s := s) (by omega) (kv := kv) (hv z h.nw0) hnm hl hx (by omega))).mono fun e z' ⟨e1, ⟨x', ex, t1⟩, u1⟩ => ⟨_, _, e1, u1, ?_⟩
  refine (t1.refc (fun R hR => did_t g.g hR (k := a) (n := b) ha (s := s) (by omega) (kv := kv) (hv z' t1.nw0) hnm hl hx (by omega))).mono fun e2 z2 ⟨e3, ⟨y', ey, t2⟩, u2⟩ => ⟨e3, ?_, u1.trans u2⟩
  exact ⟨_, 0, rfl, rfl, Or.inr ⟨rfl, x', y', _, _, by rw [ex], by rw [ey], t2, (Sg.act_wl hW (by omega) hn a hs hp).1⟩⟩
end
end Go.Proofs.YtiednpagknnfnaaGreatDoor
namespace Go.Proofs.YtiednpagknnfnaaGreatDoor
open Go.RowKit
attribute [local irreducible] Calls CallsIn
namespace Sg
def s1 : Sta := after nil (.put [97])
def s2 : Sta := after s1 (.put [98])
def s3 : Sta := after s2 (.set ⟨[120], [geo 1]⟩)
def s4 : Sta := after s3 .sweep
def s5 : Sta := after s4 (.put [97])
theorem f1 : find nil [97] = none := by decide
theorem f2 : find s1 [98] = none := by decide
theorem f3 : find s2 [97] = some 0 := by decide
theorem r1 : rightP ⟨[120], [geo 1]⟩ = true := by decide
theorem r0 : rightP ⟨[120], [geo 0]⟩ = true := by decide
theorem t2 : there s2 1 = true := by decide
theorem p3 : spare s3 = [0] := by decide
theorem n4 : numbers s4 = [1] := by decide
theorem f4 : find s4 [97] = none := by decide
theorem l4 : s4.th.length = 2 := by decide
theorem t51 : there s5 1 = true := by decide
end Sg
theorem geoArg (n : Int) (h : I64 n) : ItArg (geo n) := ⟨(show 3 ≤ 1000000 by omega), (show I64 1 by unfold I64; omega), (show I64 0 by unfold I64; omega), (show I64 0 by unfold I64; omega), h⟩
theorem geo_len1 : (Sg.pfE ⟨[120], [geo 1]⟩).length ≤ 1900 := by
  have h1 : (Wire.textE [120]).length ≤ 1 + 22 := Fm.textE_len [120] (by decide)
  have h3 : (Wire.textE [103, 101, 111]).length ≤ 3 + 22 := Fm.textE_len [103, 101, 111] (by decide)
  have h4 : (Wire.numE 1).length ≤ 21 := Fm.num_len (n := 1) (by constructor <;> omega)
  have h5 : (Wire.numE 0).length ≤ 21 := Fm.num_len (n := 0) (by constructor <;> omega)
  rw [show Sg.pfE ⟨[120], [geo 1]⟩ = Wire.textE [120] ++ (Wire.numE 1 ++ ((Wire.textE [103, 101, 111] ++ (Wire.numE 1 ++ (Wire.numE 0 ++ (Wire.numE 0 ++ Wire.numE 1)))) ++ [])) from rfl]
  simp only [List.length_append, List.length_nil]
  omega
set_option maxHeartbeats 4000000 in
set_option maxRecDepth 100000 in
theorem smallS_c (w : World) (g : GmS w) : Calls Tryz.prog 4 #[] w fun e w' => e = .returned (.bool true) ∧ Nw w w' := by
  have hf : (0 : Int) ≤ 0 ∧ (0 : Int) < 16 := by omega
  have h0 := Lib.hid (new_t w g.g)
  have G := Lib.hid g
  have i1 : I64 1 := by unfold I64; omega
  have i0 : I64 0 := by unfold I64; omega
  have hgb := g.g.big
  clear g
  go_enter Tryz.func4, Tryz.ntmps4
  go_wp2_with fail
  (with_reducible refine (h0.out).mono ?_)
  rintro _ z0 ⟨db, rfl, hg0⟩
  have h1 := Lib.hid (openC G.out hg0 hf)
  clear hg0 h0
  go_wp2_with fail
  (with_reducible refine (h1.out).mono ?_)
  rintro _ z1 ⟨sb, rfl, c1, m1⟩
  clear h1 m1
  have h2' := putC G.out c1 hf (by omega) (t := [97]) (by decide) Sg.f1
  rw [show ((Sg.nil.th.length : Nat) : Int) = 0 from rfl, show Sg.after Sg.nil (.put [97]) = Sg.s1 from rfl] at h2'
  have h2 := Lib.hid h2'
  clear c1 h2'
  go_wp2_with fail
  (with_reducible refine (h2.out).mono ?_)
  rintro _ z2 ⟨rfl, c2, m2⟩
  clear h2 m2
  have h3' := putC G.out c2 hf (by omega) (t := [98]) (by decide) Sg.f2
  rw [show ((Sg.s1.th.length : Nat) : Int) = 1 from rfl, show Sg.after Sg.s1 (.put [98]) = Sg.s2 from rfl] at h3'
  have h3 := Lib.hid h3'
  clear c2 h3'
  go_wp2_with fail
  (with_reducible refine (h3.out).mono ?_)
  rintro _ z3 ⟨rfl, c3, m3⟩
  clear h3 m3
  have h4 := Lib.hid (putO G.out c3 (by omega) (t := [97]) (by decide) Sg.f3)
  clear c3
  go_wp2_with fail
  (with_reducible refine (h4.out).mono ?_)
  rintro _ z4 ⟨rfl, c4, m4⟩
  clear h4 m4
  have hz4 := c4.nw0.size
  have h5 := Lib.hid (profile_c [120] 1 z4 (by omega))
  have C4 := Lib.hid c4
  clear c4
  go_wp2_with fail
  (with_reducible refine (h5.out).mono ?_)
  rintro _ z5 ⟨v5, rfl, hv5, u5⟩
  clear h5
  have h6' := setC G.out (C4.out.nw u5) hf (by omega) (p := ⟨[120], [geo 1]⟩) geo_len1 Sg.r1 (fun x hx => by rw [List.mem_singleton.1 hx]; exact Sg.t2) hv5 (fun x hx => by rw [List.mem_singleton.1 hx]; exact geoArg 1 i1)
  rw [show Sg.after Sg.s2 (.set ⟨[120], [geo 1]⟩) = Sg.s3 from rfl] at h6'
  have h6 := Lib.hid h6'
  clear hv5 u5 C4 h6'
  go_wp2_with fail
  (with_reducible refine (h6.out).mono ?_)
  rintro _ z6 ⟨rfl, c6, m6⟩
  clear h6 m6
  have h7' := sweepC G.out c6 hf (by omega) (by rw [Sg.p3]; simp)
  rw [Sg.p3, show Sg.after Sg.s3 .sweep = Sg.s4 from rfl] at h7'
  have h7 := Lib.hid (show Calls Tryz.prog 28 #[.pointer (some ⟨sb, 0, none⟩)] z6 (fun e z' => e = .returned (.tuple #[.int .i64 1, .int .i64 0]) ∧ CS w db 0 (fun _ => False) sb Sg.s4 (0 + 1 + 1 + 1 + 1) z' ∧ Moves w (fun _ => False) z6 z') from h7')
  clear c6 h7'
  go_wp2_with fail
  (with_reducible refine (h7.out).mono ?_)
  rintro _ z7 ⟨rfl, c7, m7⟩
  clear h7 m7
  obtain ⟨x7, e7, g7⟩ := c7.st
  have h8' := sNumbers_c g7
  rw [e7, show numI Sg.s4 = [1] by unfold numI; rw [Sg.n4]; rfl] at h8'
  have h8 := Lib.hid h8'
  have C7 := Lib.hid c7
  clear c7 h8' e7 g7
  go_wp2_with fail
  (with_reducible refine (h8.out).mono ?_)
  rintro _ z8 ⟨v8, rfl, ho8, u8⟩
  clear h8
  rcases ho8.2 with ⟨rfl, hn8⟩ | ⟨g8, cap8, cur8, rfl, hbg8, _⟩
  · exact absurd hn8 (by decide)
  have hs8 := C7.out.nw0.size
  have hg8 := ho8.lt g8 rfl
  have c8 : CS w db 0 (fun k => k = g8) sb Sg.s4 (0 + 1 + 1 + 1 + 1) z8 := C7.out.keep u8 (fun k hk => Or.inr (by rw [hk]; exact hg8))
  have h9' := putC G.out c8 hf (by omega) (t := [97]) (by decide) Sg.f4
  rw [show ((Sg.s4.th.length : Nat) : Int) = 2 by rw [Sg.l4]; rfl, show Sg.after Sg.s4 (.put [97]) = Sg.s5 from rfl] at h9'
  have h9 := Lib.hid h9'
  have HO8 := Lib.hid ho8
  clear C7 u8 h9' ho8 c8
  go_wp2_with fail
  (with_reducible refine (h9.out).mono ?_)
  rintro _ z9 ⟨rfl, c9, m9⟩
  clear h9
  have HO9 := Lib.hid (owns_upd' HO8.out m9 (fun k hk e => e.1 (by simpa [Value.ownBlock] using hk.symm)))
  have hz9 := c9.nw0.size
  have h10 := Lib.hid (profile_c [120] 0 z9 (by omega))
  have C9 := Lib.hid c9
  clear c9 m9 HO8
  go_wp2_with fail
  (with_reducible refine (h10.out).mono ?_)
  rintro _ z10 ⟨v10, rfl, hv10, u10⟩
  clear h10
  have h11 := Lib.hid (setN G.out (C9.out.nw u10) (by omega) (p := ⟨[120], [geo 0]⟩) Sg.r0 (show ([geo 0].all fun x => Sg.there Sg.s5 x.pr) = false by decide) hv10 (fun x hx => by rw [List.mem_singleton.1 hx]; exact geoArg 0 i0))
  have HO10 := Lib.hid (owns_upd' HO9.out u10 (fun _ _ e => e))
  clear hv10 u10 C9 HO9
  go_wp2_with fail
  (with_reducible refine (h11.out).mono ?_)
  rintro _ z11 ⟨rfl, c11, m11⟩
  clear h11
  have HO11 := owns_upd' HO10.out m11 (fun k hk e => e.1 (by simpa [Value.ownBlock] using hk.symm))
  have d8 := HO11.cells (g := g8) rfl 0 (.int .i64 1) rfl
  rw [add_plain] at d8
  have HN := Lib.hid c11.nw0
  obtain ⟨x11, e11, g11⟩ := c11.st
  have h12' := sText_c g11 i1
  rw [e11, show Sg.there Sg.s5 1 = true from Sg.t51] at h12'
  have h12 := Lib.hid (show Calls Tryz.prog 30 #[.pointer (some ⟨sb, 0, none⟩), .int .i64 1] z11 (fun e z' => e = .returned (.tuple #[.string ⟨#[98]⟩, .bool true]) ∧ z11 = z') from h12')
  clear c11 m11 HO11 h12' e11 g11 HO10
  go_wp2_with fail
  (with_reducible refine (h12.out).mono ?_)
  rintro _ _ ⟨rfl, rfl⟩
  clear h12
  go_wp2_with fail
  go_ret
  exact ⟨rfl, HN.out⟩
end Go.Proofs.YtiednpagknnfnaaGreatDoor
namespace Go.Proofs.YtiednpagknnfnaaGreatDoor
open Go.RowKit
attribute [local irreducible] Calls CallsIn
theorem itE_few {x : Sg.It} (h : ItArg x) (hn : x.nm.length ≤ 60) : (Sg.itE x).length ≤ 166 := by
  obtain ⟨_, h1, h2, h3, h4⟩ := h
  have t := Fm.textE_len x.nm (by omega)
  have a := Fm.num_len h1
  have b := Fm.num_len h2
  have c := Fm.num_len h3
  have d := Fm.num_len h4
  unfold Sg.itE
  simp only [List.length_append]
  omega
theorem itsE_few : ∀ {l : List Sg.It}, (∀ x ∈ l, ItArg x) → (∀ x ∈ l, x.nm.length ≤ 60) → (Sg.itsE l).length ≤ 166 * l.length
  | [], _, _ => Nat.le_refl _
  | y :: l, h, hn => by
    have h1 := itE_few (h y (List.mem_cons_self ..)) (hn y (List.mem_cons_self ..))
    have h2 := itsE_few (l := l) (fun x hx => h x (List.mem_cons_of_mem _ hx)) (fun x hx => hn x (List.mem_cons_of_mem _ hx))
    have e : Sg.itsE (y :: l) = Sg.itE y ++ Sg.itsE l := rfl
    rw [e, List.length_append, List.length_cons]
    omega
theorem pfE_few {p : Sg.Pf} (hl : p.its.length ≤ 6) (hn : p.nm.length ≤ 60) (hx : ∀ x ∈ p.its, ItArg x) (hk : ∀ x ∈ p.its, x.nm.length ≤ 60) : (Sg.pfE p).length ≤ 1900 := by
  have t := Fm.textE_len p.nm (by omega)
  have a := Fm.num_len (n := (p.its.length : Int)) (by constructor <;> omega)
  have b := itsE_few hx hk
  unfold Sg.pfE
  simp only [List.length_append]
  omega
section
variable {w : World} {db : Nat} {f : Int} {F : Nat → Prop} {sb : Nat} {S : Sg.Sta} {n : Nat} {z : World}
end
end Go.Proofs.YtiednpagknnfnaaGreatDoor
