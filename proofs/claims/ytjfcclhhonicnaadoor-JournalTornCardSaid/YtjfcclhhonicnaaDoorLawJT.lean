/- The walk of the statement JournalTorn. -/
import Derived.Test.YtjfcclhhonicnaaDoorLawJL0
import Derived.Test.YtjfcclhhonicnaaDoorJrnTp
import Derived.Lib.ConvBytes
namespace Go.Proofs.YtjfcclhhonicnaaDoor
open Go.RowKit
set_option linter.unusedVariables false
set_option linter.unusedSimpArgs false
attribute [local irreducible] Calls

/-- While the records are appended. -/
def TnI (w : World) (db jb B : Nat) (S : List (List UInt8)) (k : Nat) (ev : Value) (z : World) : Prop :=
  ∃ D, GS w db (some (jb, ⟨0, S.take k, false⟩)) D (fun i => ev.ownBlock = some i) z ∧ Jr.Calm D ∧ (D.fs 0).now = Jr.forms (S.take k) ∧ (D.fs 1).now = [] ∧ z.ownsRow B tIntD 1 ev k ((Jr.endsOf S k).map intD) ∧ B ≤ z.heap.size
/-- A block of bytes: the conversion's row. -/
def ByB (w : World) (b : Nat) (x : List UInt8) : Prop :=
  ∃ (cs : Array Value) (m : Nat), w.heap[b]? = some (.cells cs 5 (m, m + 1)) ∧ x.length ≤ m ∧ cs.size = m ∧ ∀ i (h : i < x.length), cs[i]? = some (.int .u8 (x[i].toNat : Int))
theorem ByB.upd {S : Nat → Prop} {w w' : World} {b : Nat} {x : List UInt8} (h : ByB w b x) (u : Upd S w w') (hs : ¬ S b) : ByB w' b x := by
  obtain ⟨cs, m, h1, h2⟩ := h
  exact ⟨cs, m, u.keep h1 hs, h2⟩
theorem ByB.cell {w : World} {b : Nat} {x : List UInt8} (h : ByB w b x) (i : Nat) (hi : i < x.length) : w.cell? ⟨b, i, none⟩ = some (.int .u8 (x[i].toNat : Int)) := by
  obtain ⟨cs, m, h1, h2, h3, h4⟩ := h
  rw [cells_cell h1, h4 i hi]
theorem ByB.free {w : World} {b : Nat} {x : List UInt8} (h : ByB w b x) (i : Nat) (hi : i < x.length) : w.frozen? ⟨b, i, none⟩ = false := by
  obtain ⟨cs, m, h1, h2, h3, h4⟩ := h
  simp [World.frozen?, h1]
  omega
theorem ByB.set {w : World} {b : Nat} {x : List UInt8} (h : ByB w b x) (hg : nG ≤ b) (i : Nat) : ByB (w.setCell ⟨b, i, none⟩ (.int .u8 0)) b (x.set i 0) ∧ Upd (fun k => k = b) w (w.setCell ⟨b, i, none⟩ (.int .u8 0)) := by
  obtain ⟨cs, m, h1, h2, h3, h4⟩ := h
  refine ⟨⟨_, m, setCell_block h1 i _, by rw [List.length_set]; exact h2, by simp [h3], fun k hk => ?_⟩, Upd.set1 (Upd.refl _ _) hg i _⟩
  rw [List.length_set] at hk
  rw [Array.getElem?_setIfInBounds]
  by_cases e : i = k
  · subst e
    rw [if_pos rfl, if_pos (by omega)]
    simp
  · rw [if_neg e, h4 k hk]
    simp [List.getElem_set, e]
theorem ByB.lt {w : World} {b : Nat} {x : List UInt8} (h : ByB w b x) : b < w.heap.size := by
  obtain ⟨cs, m, h1, _⟩ := h
  exact lt_of_block h1
/-- While bytes become 0. -/
def ZrI (w : World) (b : Nat) (A : List (List UInt8)) (z : World) : Prop := ∃ x, ByB z b x ∧ Jr.Tn x (Jr.forms A) ∧ x.length = (Jr.forms A).length ∧ Nw w z
/-- '[]byte(s)'. -/
theorem bytes_of (s : List UInt8) (w : World) : ∃ cap z, s.length ≤ cap ∧ (convert 9 36 (.string ⟨s.toArray⟩)).run Tryd.prog w = .ok (.slice (some ⟨w.heap.size, 0, none⟩) s.length cap) z ∧ ByB z w.heap.size s ∧ Nw w z := by
  have hsz : (⟨s.toArray⟩ : ByteArray).size = s.length := by simp [ByteArray.size]
  have hrun := Lib.run_convert_string_bytes (P := Tryd.prog) w 9 36 5 ⟨s.toArray⟩ Tryd.underlying9 Tryd.underlying36 Tryd.underlying5
  rw [hsz] at hrun
  have hc := grownCap_ge w s.length 0 5
  refine ⟨_, _, hc, hrun, ⟨_, _, Lib.bytesWorld_at_new w 5 ⟨s.toArray⟩, ?_, rfl, fun i hi => ?_⟩, ?_⟩
  · simp [Lib.bytesCells]
  · simp [Lib.bytesCells, Array.getElem?_append, hi]
  · refine ⟨rfl, rfl, rfl, by rw [Lib.bytesWorld_size]; omega, fun k hk _ => Lib.bytesWorld_at_old w _ _ k hk⟩
theorem string_of {w : World} {b : Nat} {x : List UInt8} (h : ByB w b x) {n : Nat} (hn : n ≤ x.length) (cap : Nat) : (convert 36 9 (.slice (some ⟨b, 0, none⟩) n cap)).run Tryd.prog w = .ok (.string ⟨(x.take n).toArray⟩) w := by
  have hl : (x.take n).length = n := by rw [List.length_take]; omega
  have := run_convert_bytes_back (P := Tryd.prog) w 36 9 5 ⟨b, 0, none⟩ cap (x.take n) Tryd.underlying36 Tryd.underlying5 Tryd.underlying9 (fun j hj => by
    rw [add_plain, Nat.zero_add, h.cell j (by omega), List.getElem_take])
  rw [hl] at this
  exact this
/-- 'make([]byte, n)', the bytes unnamed. -/
theorem wpList_makeZ {P : Program} {w : World} {ops : Array Oper} {rest : List Oper} {o : Oper} {a : Act} {Q : Exit → Act → World → Prop} (hgd : o.guard = none) (l c : Operand) (t e : TypeId) (hop : o.op = Op.makeSlice t l c) (ht : P.underlying t = some (.slice e)) (hinfo : (P.info? e).map (fun i => (i.zero, i.size, i.bytes)) = some (some (.int .u8 0), 1, 1))
    (n : Nat) (hl : a.eval l = .int .i64 n) (hc : a.eval c = .int .i64 n) (hn : n ≤ 281474976710656)
    (h : ∀ (Z : List UInt8) w', Z.length = n → w'.heap[w.heap.size]? = some (.cells (Lib.byteCells Z).toArray e (0, 0)) → Nw w w' → wpList P ops Q rest (a.put o.dst (.slice (some ⟨w.heap.size, 0, none⟩) n n)) w') : wpList P ops Q (o :: rest) a w :=
  wpList_makeB hgd l c t e hop ht hinfo n hl hc hn fun w' h1 h2 => h _ w' List.length_replicate h1 h2
theorem slice_upto (s : List UInt8) {n : Nat} (hn : n ≤ s.length) (z : World) : (Instr.slice 9 (.string ⟨s.toArray⟩) none (some (.int .i64 (n : Nat))) none).run Tryd.prog z = .ok (.string ⟨(s.take n).toArray⟩) z := by
  have := run_slice_string_h (P := Tryd.prog) z 9 ⟨s.toArray⟩ Tryd.underlying9 .i64 (n : Nat) (by omega) (by rw [bs_size, bs_list]; omega)
  rw [this]
  refine congrArg (fun y => Result.ok (Value.string y) z) ?_
  rw [Int.toNat_natCast, bs_extract, List.drop_zero, Nat.sub_zero]
set_option maxHeartbeats 4000000 in
set_option maxRecDepth 100000 in
theorem journalTorn_c (v0 v2 : Value) (A : List (List UInt8)) (size : Int) (zero : List Int) (w : World) (g : Gl w) (h0 : Sl 0 w.heap.size w v0 (A.map (fun s => Value.string ⟨s.toArray⟩))) (hsize : I64 size)
    (h2 : Sl 0 w.heap.size w v2 (zero.map intD)) (i2 : ∀ x ∈ zero, I64 x) :
    Calls Tryd.prog 3 #[v0, .int .i64 size, v2] w fun e w' => e = .returned (.bool true) ∧ Nw w w' := by
  have hs := Lib.hid (small_c w g)
  have htex := Lib.hid (fun z (u : Nw w z) => texts_j 0 w.heap.size v0 A z (h0.nw u))
  obtain ⟨a0, c0, rfl, m0, _⟩ := str_cells h0
  obtain ⟨a2, c2, rfl, m2, _⟩ := int_cells h2
  unfold maxLen at m0 m2
  have m2' : (zero.length : Int) ≤ 9223372036854775807 := by omega
  have HA := Lib.hid (And.intro h0 (And.intro h2 (And.intro i2 hsize)))
  clear h0 h2 i2 m0 m2 hsize
  go_enter Tryd.func3, Tryd.ntmps3
  go_wp2_with fail
  (with_reducible refine (hs.out).mono ?_)
  rintro _ w1 ⟨rfl, u1⟩
  have U1 := Lib.hid u1
  have htex2 := Lib.hid (htex.out w1 u1)
  clear hs htex u1
  go_wp2_with fail
  (with_reducible refine (htex2.out).mono ?_)
  rintro _ _ ⟨rfl, rfl⟩
  cases hB : textsB A with
  | false =>
    clear hB
    go_wp2_with fail
    go_ret
    exact ⟨rfl, U1.out⟩
  | true =>
  have hT := Lib.hid (textsB_iff.1 hB)
  clear hB
  by_cases ho : (50 : Int) < zero.length
  · go_wp2_with fail
    go_ret
    exact ⟨rfl, U1.out⟩
  have g1 := g.upd U1.out
  have hn := Lib.hid (new_t w1 g1)
  clear htex2
  go_wp2_with fail
  (with_reducible refine (hn.out).mono ?_)
  rintro _ w2 ⟨db, rfl, s2⟩
  obtain ⟨D1, oe, ocalm, onow⟩ := Jr.calm_new.open_ (f := 0) (by omega)
  have hfs1 : (D1.fs 1).now = [] := (congrArg (fun x : Dk.Disk × Option Jr.Jn × Int => (x.1.fs 1).now) oe).symm.trans rfl
  have hop := open_t s2 g1 (f := 0) (I64_s (by decide))
  rw [oe] at hop
  have Hop := Lib.hid hop
  clear hn s2 hop oe
  go_wp2_with fail
  (with_reducible refine (Hop.out).mono ?_)
  rintro _ w3 ⟨pv, rfl, o3, _⟩
  obtain ⟨jb, rfl, s3⟩ := o3.some_
  have hI0 : Hid (TnI w1 db jb w3.heap.size A 0 (.slice none 0 0) w3) :=
    ⟨D1, s3.keep (Upd.refl _ _) (fun k hk => by cases hk), ocalm, onow, hfs1, World.ownsRow_nil _ _ _ _, Nat.le_refl _⟩
  have hC8 : (A.length : Int) ≤ 8 := by have := hT.out.2; omega
  have hgw : nG ≤ w3.heap.size := (s3.gl g1).big
  have hwB := Lib.hid (s3.nw0.size)
  clear Hop o3 s3 ocalm onow hfs1
  go_wp2_with fail
  go_loopw [11, 12] (fun ev iv wr => ∃ k : Nat, k ≤ A.length ∧ iv = .int .i64 k ∧ Hid (TnI w1 db jb w3.heap.size A k ev wr)) (fun _ iv _ => A.length - (intOf iv).toNat)
  case atStart => exact ⟨0, Nat.zero_le _, rfl, hI0.out⟩
  case round =>
    obtain ⟨k, hk, rfl, HI⟩ := hrel
    obtain ⟨D, G, CA, N0, N1, oe, hBz⟩ := HI.out
    obtain ⟨ae, ce, rfl⟩ := own_slD oe
    have HG := Lib.hid G
    have HC := Lib.hid (And.intro CA (And.intro N0 N1))
    have HO := Lib.hid (And.intro oe hBz)
    have uw := U1.out.trans G.nw0
    obtain ⟨a', cap', ev, _, hcells⟩ := str_cells (HA.out.1.nw uw)
    simp only [Value.slice.injEq, true_and] at ev
    obtain ⟨rfl, rfl⟩ := ev
    clear G CA N0 N1 oe hBz uw HI
    by_cases hlt : k < A.length
    · rcases hcells with hnil | ⟨b, off, rfl, hbw, hbz, hcell⟩
      · rw [hnil] at hlt; simp at hlt
      have x0 := hcell k hlt
      have q5 := hT.out.1 A[k] (List.getElem_mem hlt)
      have htk : A.take (k + 1) = A.take k ++ [A[k]] := List.take_succ_eq_append_getElem hlt
      have hfl := Jr.forms_small (l := A.take k) (n := 8) (fun a ha => hT.out.1 a (List.mem_of_mem_take ha)) (by rw [List.length_take]; omega)
      obtain ⟨D5, e5, c5, n5, f5⟩ := HC.out.1.append (f := 0) (by omega) HC.out.2.1 (s := A[k]) (by omega) (by omega)
      have hap := append_t HG.out g1 A[k] (by omega)
      dsimp only at hap
      rw [e5, ← htk] at hap
      rw [← htk] at n5
      have Hap := Lib.hid hap
      have H5 := Lib.hid (And.intro c5 (And.intro n5 ((congrArg (·.now) (f5 1 (by decide))).trans HC.out.2.2)))
      have hk8 : k ≤ 8 := by omega
      clear hcell hap e5 c5 n5 f5 htk
      generalize A[k] = ss at *
      go_wp2_with fail
      (with_reducible refine (Hap.out).mono ?_)
      rintro _ w5 ⟨rfl, G5, m5⟩
      have HG5 := Lib.hid G5
      have O5 := Lib.hid (And.intro (owns_updD HO.out.1 m5 (fun k hk e => e.1 hk)) (Nat.le_trans HO.out.2 m5.size))
      have hsz := size_t G5 (f := 0) (I64_s (by decide))
      have hse : Dk.size D5 0 = (Jr.endOf A k : Nat) := by unfold Dk.size Jr.endOf; rw [H5.out.2.1]
      rw [hse] at hsz
      have Hsz := Lib.hid hsz
      have hW5 : w3.heap.size ≤ w5.heap.size := O5.out.2
      clear G5 m5 hsz hse Hap
      go_wp2_with fail
      (with_reducible refine (Hsz.out).mono ?_)
      rintro _ _ ⟨rfl, rfl⟩
      go_wp2_with (at_builtin; refine wpList_appL rfl _ _ 23 rfl w3.heap.size tIntD _ 1 8 Tryd.underlying23 infoIntD rfl (by decide) _ _ _ rfl O5.out.1 [intD (Jr.endOf A k : Nat)] rfl rfl ?c1 ?c2 ?c3 hW5 hgw ?_)
      case c1 => intro u hu; rw [List.mem_singleton.1 hu]; rfl
      case c2 => unfold maxLen; omega
      case c3 => omega
      intro v6 w6 h6 u6 hob
      have hz : Hid (TnI w1 db jb w3.heap.size A (k + 1) v6 w6) :=
        ⟨D5, HG5.out.upd_keep u6 (fun i hi => Or.inl ⟨hi, by have := (O5.out.1.lt i hi).1; have := hwB.out; omega⟩) (fun i hi => (hob i hi).imp id (fun e => by obtain ⟨a, cs, b⟩ := own_blockD h6 hi; exact ⟨e, lt_of_block b⟩)), H5.out.1, H5.out.2.1, H5.out.2.2, by rw [Jr.endsOf_succ, List.map_append]; exact h6, Nat.le_trans hW5 u6.size⟩
      clear h6 u6 hob
      go_wp2_with fail
      go_roundw
      case rel => exact ⟨k + 1, by omega, by go_num, hz.out⟩
      case measure => simp [intOf]; omega
    · obtain rfl : k = A.length := by omega
      rw [List.take_length] at HC HG
      have hfl := Jr.forms_small (l := A) (n := 8) (fun a ha => hT.out.1 a ha) (by omega)
      have hsz := size_t HG.out (f := 0) (I64_s (by decide))
      have hse : Dk.size D 0 = ((Jr.forms A).length : Nat) := by unfold Dk.size; rw [HC.out.2.1]
      have hrd := read_t HG.out (f := 0) (i := 0) (n := ((Jr.forms A).length : Nat)) (I64_s (by decide)) (I64_s (by decide)) (I64_s (by omega))
      have hr2 := read_all (HC.out.1.may (f := 0) (by omega))
      rw [hse, HC.out.2.1] at hr2
      rw [hr2] at hrd
      rw [hse] at hsz
      have Hsz := Lib.hid hsz
      have Hrd := Lib.hid hrd
      clear hsz hse hrd hr2 hcells
      go_wp2_with fail
      (with_reducible refine (Hsz.out).mono ?_)
      rintro _ _ ⟨rfl, rfl⟩
      go_wp2_with fail
      (with_reducible refine (Hrd.out).mono ?_)
      rintro _ _ ⟨rfl, rfl⟩
      rename World => wE
      obtain ⟨bc, z, hbc, hcv, hby, uz⟩ := bytes_of (Jr.forms A) wE
      have hZ0 : Hid (ZrI wE wE.heap.size A z) := ⟨_, hby, Jr.tn_refl _, rfl, uz⟩
      have hgE : nG ≤ wE.heap.size := (HG.out.gl g1).big
      have hN : (Jr.forms A).length ≤ 1944 := by omega
      obtain ⟨N, hNe⟩ : ∃ N, N = (Jr.forms A).length := ⟨_, rfl⟩
      have hNi : (N : Int) ≤ 1944 := by omega
      rw [← hNe] at hcv
      have HN := Lib.hid hNe
      have Hbc := Lib.hid hbc
      clear hby uz hN hNe hbc hfl
      go_wp2_with fail
      go_loopw [16] (fun iv wr => ∃ i : Nat, i ≤ N ∧ iv = .int .i64 i ∧ Hid (ZrI wE wE.heap.size A wr)) (fun iv _ => N - (intOf iv).toNat)
      case atStart => exact ⟨0, Nat.zero_le _, rfl, hZ0.out⟩
      case round =>
        obtain ⟨i, hi, rfl, HZ⟩ := hrel
        obtain ⟨x, X1, X2, X3, X4⟩ := HZ.out
        have HX := Lib.hid (And.intro X1 (And.intro X2 (And.intro X3 X4)))
        have uw := U1.out.trans (HG.out.nw0.trans X4)
        obtain ⟨a', cap', ev, _, hcells⟩ := int_cells (HA.out.2.1.nw uw)
        simp only [Value.slice.injEq, true_and] at ev
        obtain ⟨rfl, rfl⟩ := ev
        clear X1 X2 X3 X4 uw HZ
        go_upto_region 20 with fail
        go_cut [76] from 68 to 76 (fun c wx => c = .bool (decide (i < N) && decide (zero.length ≠ 0)) ∧ wx = wr)
        case first =>
          by_cases h1 : i < N
          · have h1' : (i : Int) < N := by omega
            by_cases h2 : zero.length = 0
            · have h2' : (zero.length : Int) = 0 := by omega
              have hr : Hid ((decide (i < N) && decide (zero.length ≠ 0)) = false) := by show _ = _; simp [h2]
              clear h2 hcells
              go_wp2_with fail
              go_meet
              exact ⟨by rw [hr.out], rfl⟩
            · have h2' : (0 : Int) < zero.length := by omega
              have hr : Hid ((decide (i < N) && decide (zero.length ≠ 0)) = true) := by show _ = _; simp [h1, h2]
              clear h2 hcells
              go_wp2_with fail
              go_meet
              exact ⟨by rw [hr.out]; exact congrArg Value.bool (decide_eq_true (by omega)), rfl⟩
          · have h1' : ¬ (i : Int) < N := by omega
            have hr : Hid ((decide (i < N) && decide (zero.length ≠ 0)) = false) := by show _ = _; simp [h1]
            clear h1 hcells
            go_wp2_with fail
            go_meet
            exact ⟨by rw [hr.out], rfl⟩
        case rest =>
        obtain ⟨hcc, hwc⟩ := hcut
        subst hwc
        rename World => wr
        cases hgo : (decide (i < N) && decide (zero.length ≠ 0)) with
        | true =>
          rw [hgo] at hcc
          subst hcc
          obtain ⟨hlt, hz0⟩ := Bool.and_eq_true_iff.1 hgo
          have hlt := of_decide_eq_true hlt
          have hz0 := of_decide_eq_true hz0
          clear hgo
          have hz1 : (0 : Int) < zero.length := by omega
          rcases hcells with hnil | ⟨bk, ok, rfl, _, _, hkc⟩
          · rw [hnil] at hz0; simp at hz0
          have hklt : (i / 64) % zero.length < zero.length := Nat.mod_lt _ (by omega)
          have hix : (i : Int) / 64 % (zero.length : Int) = (((i / 64) % zero.length : Nat) : Int) := by push_cast; rfl
          generalize (i / 64) % zero.length = d at *
          have z0 := hkc _ hklt
          have hke : ((zero.length : Int) == 0) = false := beq_eq_false_iff_ne.2 (by omega)
          have hbx := and1 zero[d]
          have hd1 : (d : Int) < zero.length := by omega
          have hd0 : (0 : Int) ≤ d := by omega
          clear hkc
          generalize zero[d] = y at *
          have hiN : (i : Int) ≤ 1944 := by omega
          have hi1 : (i : Int) < N := by omega
          by_cases hy : y % 2 = 1
          · have hb0 : bits .and .i64 y 1 = 1 := by rw [hbx]; omega
            have hxi : i < x.length := by rw [HX.out.2.2.1, ← HN.out]; exact hlt
            have xc := HX.out.1.cell i hxi
            have xf := HX.out.1.free i hxi
            have hset := HX.out.1.set hgE i
            have Hs := Lib.hid hset
            clear hset hbx hy
            have hz : Hid (ZrI wE wE.heap.size A (wr.setCell ⟨wE.heap.size, i, none⟩ (.int .u8 0))) := ⟨x.set i 0, Hs.out.1, Jr.tn_set HX.out.2.1 i, by rw [List.length_set]; exact HX.out.2.2.1, HX.out.2.2.2.trans' Hs.out.2 (fun k hk e => by omega)⟩
            go_wp2_with fail
            go_roundw
            case rel => exact ⟨i + 1, by omega, by go_num, hz.out⟩
            case measure => simp [intOf]; omega
          · have hb0 : bits .and .i64 y 1 = 0 := by rw [hbx]; omega
            clear hbx hy
            have hz : Hid (ZrI wE wE.heap.size A wr) := ⟨x, HX.out⟩
            go_wp2_with fail
            go_roundw
            case rel => exact ⟨i + 1, by omega, by go_num, hz.out⟩
            case measure => simp [intOf]; omega
        | false =>
          rw [hgo] at hcc
          subst hcc
          clear hgo hcells
          have hxl := HX.out.2.2.1
          rw [← HN.out] at hxl
          obtain ⟨m, hm⟩ : ∃ m : Nat, max 0 (min size (N : Int)) = (m : Int) := ⟨(max 0 (min size (N : Int))).toNat, by omega⟩
          have hmN : m ≤ N := by omega
          have hmc : (m : Int) ≤ bc := by have := Hbc.out; have := HN.out; omega
          have hst := string_of HX.out.1 (n := m) (by omega) bc
          obtain ⟨torn, hto⟩ : ∃ torn, torn = x.take m := ⟨_, rfl⟩
          have htn := Jr.tn_take HX.out.2.1 m
          have htl : Hid (torn.length ≤ 1944) := by show _ ≤ _; rw [hto, List.length_take]; omega
          rw [← hto] at hst htn
          have HTn := Lib.hid htn
          have hm0 : (0 : Int) ≤ m := by omega
          rename World => wF
          have GF := Lib.hid (HG.out.nw HX.out.2.2.2)
          have OF := Lib.hid (And.intro (owns_updD HO.out.1 HX.out.2.2.2 (fun _ _ e => e)) (Nat.le_trans HO.out.2 HX.out.2.2.2.size))
          have HP0 : Hid (Jr.forms (A.take 0) <+: torn ∧ Nw wF wF) := ⟨List.nil_prefix, Upd.refl _ _⟩
          clear hto htn hxl HX HO HG
          go_wp2_with fail
          have hA0 : (0 : Int) ≤ A.length := by omega
          go_loopw [18] (fun iv wr => ∃ k : Nat, k ≤ A.length ∧ iv = .int .i64 k ∧ Hid (Jr.forms (A.take k) <+: torn ∧ Nw wF wr)) (fun iv _ => A.length - (intOf iv).toNat)
          case atStart => exact ⟨0, Nat.zero_le _, rfl, HP0.out⟩
          case round =>
            obtain ⟨k, hk, rfl, HP⟩ := hrel
            have GK := Lib.hid (GF.out.nw HP.out.2)
            have OK := Lib.hid (owns_updD OF.out.1 HP.out.2 (fun _ _ e => e))
            obtain ⟨a', cap', ev, _, hcells⟩ := int_cells (Sl.of_owns OK.out)
            rw [Jr.endsOf_len] at ev
            simp only [Value.slice.injEq, true_and] at ev
            obtain ⟨rfl, rfl⟩ := ev
            go_upto_region 26 with fail
            go_cut [127] from 100 to 127 (fun c wx => c = .bool (decide (k < A.length) && Jr.holdsB A torn k) ∧ Nw wr wx)
            case first =>
              have hA1 : (A.length : Int) ≤ 9223372036854775807 := by omega
              by_cases h1 : k < A.length
              rotate_left
              · have h1' : decide ((k : Int) < A.length) = false := decide_eq_false (by omega)
                have hr : Hid ((decide (k < A.length) && Jr.holdsB A torn k) = false) := by show _ = _; rw [decide_eq_false h1]; rfl
                have h1n : decide (k < A.length) = false := decide_eq_false h1
                clear hcells h1
                go_wp2_with fail
                refine wp_region_nw (by kernel_rfl) (by kernel_rfl) ?_
                repeat (go_big_quiet_step ((fail)))
                refine wpQuiet_nil ?_
                intro wq uq
                replace uq := later_out uq
                go_wp2_with fail
                go_meet
                exact ⟨by rw [hr.out], uq⟩
              have h1' : decide ((k : Int) < A.length) = true := decide_eq_true (by omega)
              have h1i : (k : Int) < A.length := by omega
              have h1n : decide (k < A.length) = true := decide_eq_true h1
              rcases hcells with hnil | ⟨be, oe, rfl, _, _, hkc⟩
              · have h9 : A.length = 0 := by have h9 := congrArg List.length hnil; rwa [Jr.endsOf_len] at h9
                omega
              have x0 := hkc k (by rw [Jr.endsOf_len]; exact h1)
              rw [Jr.endsOf_get] at x0
              have y0 := fun i : Later wr => later_cell i x0
              have hel : Jr.endOf A k ≤ (Jr.forms A).length := by have := congrArg List.length (Jr.forms_take_add A (k + 1)); rw [List.length_append] at this; unfold Jr.endOf; omega
              have hfl := Jr.forms_small (l := A) (n := 8) (fun a ha => hT.out.1 a ha) (by omega)
              have hsl2 : ∀ z : World, (Instr.slice 9 (.string ⟨(Jr.forms A).toArray⟩) none (some (.int .i64 (Jr.endOf A k : Nat))) none).run Tryd.prog z = .ok (.string ⟨((Jr.forms A).take (Jr.endOf A k)).toArray⟩) z := fun z => slice_upto _ hel z
              have hhold : Jr.holdsB A torn k = (decide (Jr.endOf A k ≤ torn.length) && (torn.take (Jr.endOf A k) == (Jr.forms A).take (Jr.endOf A k))) := rfl
              have htl2 := htl.out
              have hti : (torn.length : Int) ≤ 1944 := by omega
              have hei : (Jr.endOf A k : Int) ≤ 1944 := by omega
              have hr1 : Hid (decide (k < A.length) = true) := decide_eq_true h1
              clear hkc x0 h1 htl2 hel hfl
              generalize Jr.endOf A k = e at *
              by_cases h2 : e ≤ torn.length
              rotate_left
              · have h2' : decide ((e : Int) ≤ torn.length) = false := decide_eq_false (by omega)
                have hr : Hid ((decide (k < A.length) && Jr.holdsB A torn k) = false) := by show _ = _; rw [hhold, decide_eq_false h2]; simp
                have h2n : decide (e ≤ torn.length) = false := decide_eq_false h2
                clear h2 hhold
                go_wp2_with fail
                refine wp_region_nw (by kernel_rfl) (by kernel_rfl) ?_
                repeat (go_big_quiet_step ((fail)))
                refine wpQuiet_nil ?_
                intro wq uq
                replace uq := later_out uq
                go_wp2_with fail
                go_meet
                exact ⟨by rw [hr.out], uq⟩
              have h2' : decide ((e : Int) ≤ torn.length) = true := decide_eq_true (by omega)
              have h2n : decide (e ≤ torn.length) = true := decide_eq_true h2
              have hsl1 : ∀ z : World, (Instr.slice 9 (.string ⟨torn.toArray⟩) none (some (.int .i64 (e : Nat))) none).run Tryd.prog z = .ok (.string ⟨(torn.take e).toArray⟩) z := fun z => slice_upto _ h2 z
              rw [decide_eq_true h2, Bool.true_and] at hhold
              have Hh := Lib.hid hhold
              clear h2 hhold
              generalize (Jr.forms A).take e = X2 at *
              generalize torn.take e = X1 at *
              cases h3 : (X1 == X2) with
              | false =>
                have hr : Hid ((decide (k < A.length) && Jr.holdsB A torn k) = false) := by show _ = _; rw [Hh.out, h3]; simp
                go_wp2_with fail
                refine wp_region_nw (by kernel_rfl) (by kernel_rfl) ?_
                repeat (go_big_quiet_step ((fail)))
                refine wpQuiet_nil ?_
                intro wq uq
                replace uq := later_out uq
                go_wp2_with fail
                go_meet
                exact ⟨by rw [hr.out], uq⟩
              | true =>
                have hr : Hid ((decide (k < A.length) && Jr.holdsB A torn k) = true) := by show _ = _; rw [Hh.out, h3, hr1.out]; rfl
                go_wp2_with fail
                refine wp_region_nw (by kernel_rfl) (by kernel_rfl) ?_
                repeat (go_big_quiet_step ((fail)))
                refine wpQuiet_nil ?_
                intro wq uq
                replace uq := later_out uq
                go_wp2_with fail
                go_meet
                exact ⟨by rw [hr.out], uq⟩
            case rest =>
            obtain ⟨hcc, uq⟩ := hcut
            rename World => wq
            clear hcells
            cases hgo : (decide (k < A.length) && Jr.holdsB A torn k) with
            | true =>
              rw [hgo] at hcc
              subst hcc
              obtain ⟨hlt, hho⟩ := Bool.and_eq_true_iff.1 hgo
              have hlt := of_decide_eq_true hlt
              have hz : Hid (Jr.forms (A.take (k + 1)) <+: torn ∧ Nw wF wq) := ⟨Jr.holdsB_iff.1 hho, HP.out.2.trans uq⟩
              clear hgo hho uq
              go_wp2_with fail
              go_roundw
              case rel => exact ⟨k + 1, by omega, by go_num, hz.out⟩
              case measure => simp [intOf]; omega
            | false =>
              rw [hgo] at hcc
              subst hcc
              have hrec := Jr.many_eq HTn.out (fun a ha => by have := hT.out.1 a ha; omega) hk HP.out.1 (by
                rcases Bool.and_eq_false_iff.1 hgo with h | h
                · exact Or.inl (by have := of_decide_eq_false h; omega)
                · exact Or.inr h)
              have hLa : ∀ a ∈ A.take k, a.length ≤ 200 := fun a ha => hT.out.1 a (List.mem_of_mem_take ha)
              have hsl := sl_take (HA.out.1.nw (U1.out.trans (GK.out.nw0.trans uq))) (m := k) hk
              have hkc : k ≤ c0 := by
                rcases HA.out.1 with ⟨a', c', e, hn⟩ | ⟨b, off, c', e, q2, q3, q4, q5, q6, q7⟩
                · rw [List.map_eq_nil_iff] at hn
                  rw [hn] at hk; simp at hk; omega
                · simp only [List.length_map, Value.slice.injEq] at e
                  obtain ⟨_, _, rfl⟩ := e
                  rw [List.length_map] at q2
                  omega
              have hlen : (A.take k).length = k := by rw [List.length_take]; omega
              have hfl := Jr.forms_small (l := A.take k) (n := 8) hLa (by omega)
              have hkn : k ≤ 8 := by omega
              have hLe : A.take (A.take k).length = A.take k := by rw [hlen]
              generalize A.take k = L at *
              subst hlen
              have HLe := Lib.hid hLe
              clear hLe
              obtain ⟨e1, e2, e3, _⟩ := HC.out.1.write (f := 1) (n := 0) (s := torn) (by omega) (by have := htl.out; omega)
              have hw := write_t (GK.out.nw uq) g1 (f := 1) (i := ((0 : Nat) : Int)) (I64_s (by decide)) (I64_s (by decide)) torn (by have := htl.out; omega)
              rw [e1] at hw
              rw [HC.out.2.2, Jr.put_nil] at e3
              generalize (Dk.write D 1 ((0 : Nat) : Int) torn).1 = D6 at *
              have Hw : Hid (Calls Tryd.prog 12 #[.pointer (some ⟨db, 0, none⟩), .int .i64 1, .int .i64 0, .string ⟨torn.toArray⟩] wq _) := hw
              obtain ⟨D7, o1, o2, o3⟩ := e2.open_ (f := 1) (by omega)
              rw [e3, hrec] at o1 o3
              have HO1 := Lib.hid (And.intro o1 (And.intro o2 o3))
              have Hfl := Lib.hid (And.intro hfl hLa)
              have Hsl := Lib.hid hsl
              have Uq := Lib.hid (U1.out.trans (GK.out.nw0.trans uq))
              clear hw e1 e2 e3 o1 o2 o3 hgo hrec hsl uq hfl hLa HC
              go_wp2_with fail
              (with_reducible refine (Hw.out).mono ?_)
              rintro _ w5 ⟨rfl, s5, _⟩
              have ho := open_t s5 g1 (f := 1) (I64_s (by decide))
              rw [HO1.out.1] at ho
              have Ho := Lib.hid ho
              clear ho Hw
              go_wp2_with fail
              (with_reducible refine (Ho.out).mono ?_)
              rintro _ w6 ⟨pv, rfl, o6, _⟩
              obtain ⟨jk, rfl, s6⟩ := o6.some_
              have G6 := Lib.hid s6
              have Hall := Lib.hid (fun z (u : Nw w6 z) => all_t (G6.out.nw u) g1)
              dsimp only at Hall
              have u6w := s6.nw0
              have Hst := Lib.hid (fun (z : World) (v : Value) (h : z.ownsRow w6.heap.size tStrJ 1 v L.length (L.map bsV)) (u : Nw w6 z) => SameTextsQ _ _ _ _ _ _ L L z (Sl.of_owns h) (by have := sl_take (HA.out.1.nw ((U1.out.trans u6w).trans u)) (m := L.length) hk; rw [HLe.out] at this; exact this))
              have hkc1 : (L.length : Int) ≤ c0 := by omega
              clear o6 s6 Ho
              go_wp2_with fail
              go_region_held_law (fun _ => True) (trivial) (first
                | (go_at_call 14; (with_reducible refine (Hall.out _ (by repeat (first | exact Upd.refl _ _ | refine Upd.drew ?_))).mono ?_); rintro _ w7 ⟨v7, rfl, o7, u7⟩; have O7 := Lib.hid o7; have u7' : Nw w6 w7 := (Upd.refl _ w6).drew.trans u7; obtain ⟨a7, c7, rfl⟩ := own_slD o7)
                | (go_at_call 13; (with_reducible refine (Hst.out _ _ O7.out u7').mono ?_); rintro _ w8 ⟨rfl, u8⟩))
              have G8 := Lib.hid (G6.out.nw (u7'.trans u8))
              obtain ⟨D9, p1, p2, p3, _⟩ := HO1.out.2.1.append (f := 1) (by omega) HO1.out.2.2 (s := [110, 101, 120, 116]) (by decide) (by have := Hfl.out.1; omega)
              have hap := append_t G8.out g1 [110, 101, 120, 116] (by decide)
              dsimp only at hap
              rw [p1] at hap
              have Hap := Lib.hid hap
              clear hap p1 p2 p3 u7' u8 u7 O7 o7 Hst Hall
              go_wp2_with fail
              (with_reducible refine (Hap.out).mono ?_)
              rintro _ w9 ⟨rfl, G9, _⟩
              have HG9 := Lib.hid G9
              have hl := len_t G9
              have k1 := get_t G9 ((L.length : Nat) : Int) (I64_s (by omega))
              have k2 := get_t G9 (((L.length : Nat) : Int) + 1) (I64_s (by omega))
              have k3 := get_t G9 (-1) (I64_s (by omega))
              dsimp only at hl k1 k2 k3
              rw [show (L ++ [[110, 101, 120, 116]] : List (List UInt8)).length = L.length + 1 by simp] at hl
              rw [show getJ (L ++ [[110, 101, 120, 116]]) ((L.length : Nat) : Int) = [110, 101, 120, 116] by unfold getJ; rw [if_neg (by simp; omega)]; simp] at k1
              rw [show getJ (L ++ [[110, 101, 120, 116]]) (((L.length : Nat) : Int) + 1) = [] by unfold getJ; rw [if_pos (by simp)]] at k2
              rw [show getJ (L ++ [[110, 101, 120, 116]]) (-1) = [] by unfold getJ; rw [if_pos (by simp)]] at k3
              have Hl := Lib.hid hl
              have K1 := Lib.hid k1
              have K2 := Lib.hid k2
              have K3 := Lib.hid k3
              clear hl k1 k2 k3 G9 Hap
              go_wp2_with fail
              (with_reducible refine (Hl.out).mono ?_)
              rintro _ _ ⟨rfl, rfl⟩
              go_wp2_with fail
              (with_reducible refine (K1.out).mono ?_)
              rintro _ _ ⟨rfl, rfl⟩
              go_wp2_with fail
              (with_reducible refine (K2.out).mono ?_)
              rintro _ _ ⟨rfl, rfl⟩
              go_wp2_with fail
              (with_reducible refine (K3.out).mono ?_)
              rintro _ _ ⟨rfl, rfl⟩
              go_wp2_with (at_make; refine wpList_open (by rfl) ?_; refine wpList_makeZ rfl _ _ 36 5 rfl Tryd.underlying36 infoByte 20001 rfl rfl (by decide) ?_)
              intro Z w10 hZl hb10 u10
              have hcv := run_convert_bytes_back (P := Tryd.prog) w10 36 9 5 ⟨w9.heap.size, 0, none⟩ 20001 Z Tryd.underlying36 Tryd.underlying5 Tryd.underlying9 (fun j hj => by
                rw [add_plain, cells_cell hb10, Nat.zero_add]
                simpa using byteCells_get Z j hj)
              rw [hZl] at hcv
              have hlg := append_t (HG9.out.nw u10) g1 Z (by omega)
              dsimp only at hlg
              rw [Jr.append_long _ _ rfl (by omega)] at hlg
              have Hlg := Lib.hid hlg
              clear hlg hb10 hZl
              go_wp2_with fail
              (with_reducible refine (Hlg.out).mono ?_)
              rintro _ w11 ⟨rfl, G11, _⟩
              have hfin := Lib.hid (U1.out.trans G11.nw0)
              clear G11
              go_wp2_with fail
              go_ret
              exact ⟨rfl, hfin.out⟩
end Go.Proofs.YtjfcclhhonicnaaDoor
