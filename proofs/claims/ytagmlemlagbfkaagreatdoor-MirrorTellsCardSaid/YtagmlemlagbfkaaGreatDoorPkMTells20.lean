/- Chapter 37: a ring, two books, two mirrors and a view side by side; a ring, a mirror, a book. The contracts of package content that chapter 37 needs: size, Right, Print, Add. -/
import Derived.Test.YtagmlemlagbfkaaGreatDoorPkMTells17
import Derived.Test.YtagmlemlagbfkaaGreatDoorPkMTells18
import Derived.Test.YtagmlemlagbfkaaGreatDoorPkMTells19
import Derived.Test.YtagmlemlagbfkaaGreatDoorPkMTells14
import Derived.Test.YtagmlemlagbfkaaGreatDoorPkMTells10
namespace Go.Proofs.YtagmlemlagbfkaaGreatDoor
open Go.RowKit
set_option linter.unusedVariables false
set_option linter.unusedSimpArgs false
attribute [local irreducible] Calls

theorem MirAt.base {B B' : Nat} {w : World} {x : MirR} {m : Mi.Mir} (h : MirAt B w x m) (hB : B' ≤ B) (hg : nG ≤ B') : MirAt B' w x m :=
  ⟨hg, Nat.le_trans hB h.mb, h.blk, fun i hi => owns_base (h.sown i hi) hB, owns_base h.cown hB, h.dis, h.len, h.mode, h.oks, h.cok⟩
structure MsR where
  rb : Nat
  ba : Nat
  bb : Nat
  ma : Nat
  mb : Nat
  vb : Nat
structure MsX where
  L : List Bk.Seal
  a : Bk.Book
  b : Bk.Book
  m : Mi.Mir
  n : Mi.Mir
  v : List Bk.Sgn
section
variable {W : World} {p : MsR} {key : Int} {x : MsX} {F : Nat → Prop} {z z' : World}
theorem At.oneMir {N : Nat} {c : Nat → Res} {m : Mi.Mir} (h : At W N c F z) (hg : nG ≤ W.heap.size) {r' : MirR} (u : Nw z z') (hr : MirAt z.heap.size z' r' m) : At W (N + 1) (setC c N (MirC W.heap.size r'.mb m)) F z' :=
  h.push u (MirC.stab W.heap.size r'.mb m) (f' := r'.foot) ⟨r', rfl, hr.base h.nw0.size hg, rfl⟩ (fun j hj => (hr.foot_lt hj).1)
theorem mnew_ok (k : Int) (hk : 0 ≤ k ∧ k < 5) (w : World) (g : Gl w) : Calls Tryz.prog 66 #[.int .i64 k] w fun e w' => ∃ r : MirR, e = .returned (.pointer (some ⟨r.mb, 0, none⟩)) ∧ MirAt w.heap.size w' r (Mi.fresh k) ∧ Nw w w' := by
  refine (mnew_w k (by unfold I64; omega) w g).mono ?_
  rintro e w' (⟨-, -, h⟩ | ⟨h, -⟩)
  · exact h
  · exact absurd hk h
/-! ### Append, Feed, Answer, Ask -/
end
/-! ### The example's ring, mirror and book -/
structure StR where
  rb : Nat
  mb : Nat
  bb : Nat
def cSt (B : Nat) (p : StR) (L : List Bk.Seal) (m : Mi.Mir) (b : Bk.Book) : Nat → Res
  | 0 => RingC B p.rb L
  | 1 => MirC B p.mb m
  | _ => BookC B p.bb p.rb b
abbrev St3 (W : World) (p : StR) (L : List Bk.Seal) (m : Mi.Mir) (b : Bk.Book) (k : Nat) (F : Nat → Prop) (z : World) : Prop := At W k (cSt W.heap.size p L m b) F z
section
variable {W : World} {p : StR} {L : List Bk.Seal} {m : Mi.Mir} {b : Bk.Book} {F : Nat → Prop} {z z' : World}
theorem st_ring (g : Gl W) {q : RingR} (hq : RingAt W.heap.size z q []) (u : Nw W z) : St3 W ⟨q.rb, 0, 0⟩ [] (Mi.fresh 0) (Bk.new 0) 1 (fun _ => False) z := by
  refine ((At.start W (fun _ _ _ => True)).oneRing g.big u hq hq).same fun i hi => ?_
  obtain rfl : i = 0 := by omega
  simp [setC, cSt]
theorem st_mir (h : St3 W p L m b 1 F z) (g : Gl W) (k : Int) (hk : 0 ≤ k ∧ k < 5) : Calls Tryz.prog 66 #[.int .i64 k] z fun e z' => ∃ mb, e = .returned (.pointer (some ⟨mb, 0, none⟩)) ∧ St3 W { p with mb := mb } L (Mi.fresh k) b 2 F z' := by
  refine (mnew_ok k hk z (h.gl g)).mono ?_
  rintro e w' ⟨r, rfl, hr, u⟩
  refine ⟨r.mb, rfl, (h.oneMir g.big u hr).same fun i hi => ?_⟩
  match i, hi with
  | 0, _ => simp [setC, cSt]
  | 1, _ => simp [setC, cSt]
theorem st_book (h : St3 W p L m b 2 F z) (g : Gl W) (k : Int) (hk : Bk.isKey k = true) : Calls Tryz.prog 67 #[.pointer (some ⟨p.rb, 0, none⟩), .int .i64 k] z fun e z' => ∃ bb, e = .returned (.tuple #[.pointer (some ⟨bb, 0, none⟩), .int .i64 0]) ∧ St3 W { p with bb := bb } L m (Bk.new k) 3 F z' := by
  refine (new_b' p.rb k hk z (h.gl g)).mono ?_
  rintro e w' ⟨r, rfl, hr, u⟩
  refine ⟨r.bb, rfl, (h.oneBook g.big u hr).same fun i hi => ?_⟩
  match i, hi with
  | 0, _ => simp [setC, cSt]
  | 1, _ => simp [setC, cSt]
  | 2, _ => simp [setC, cSt]
theorem st_app (h : St3 W p L m b 3 F z) (g : Gl W) (s : ByteArray) (t : List UInt8) (hs : s.data.toList = t) (ht : t.length ≤ 1000000) :
    Calls Tryz.prog 68 #[.pointer (some ⟨p.bb, 0, none⟩), .string s] z fun e w' => e = .returned (.tuple #[.int .i64 (Bk.append b t).1.1, .int .i64 (Bk.append b t).1.2]) ∧ St3 W p L m (Bk.append b t).2 3 F w' ∧ MovesN W F z w' := by
  refine (at_append (r := 0) (i := 2) (rb := p.rb) (bb := p.bb) (Lr := L) (b := b) h g (by decide) (by decide) (by decide) rfl rfl s t hs ht).mono ?_
  rintro e w' ⟨he, ha, mv⟩
  refine ⟨he, ha.same ?_, mv⟩
  intro i hi
  match i, hi with
  | 0, _ => simp [c3, setC, cSt]
  | 1, _ => simp [c3, setC, cSt]
  | 2, _ => simp [c3, setC, cSt]
theorem st_feed (h : St3 W p L m b 3 F z) (g : Gl W) (ks cs : List (List UInt8)) (now : Int) (hn : I64 now) (hL : L.length + ks.length ≤ 700000) (hl1 : (m.l 1).length + 1 ≤ 1000000) (hl2 : (m.l 2).length + ks.length ≤ 1000000) (hcl : cs.length ≤ 1000000 ∧ ∀ s ∈ cs, s.length ≤ 1000000) (hkl : ∀ s ∈ ks, s.length ≤ 1000000)
    (kv vc : Value) (Bc : Nat) (hkv : ∀ z', MovesN W F z z' → ∃ lo hi, Sl lo hi z' kv (ks.map bsM)) (hcv : ∀ z', MovesN W F z z' → z'.ownsRow Bc tStrM 1 vc cs.length (cs.map bsM)) :
    Calls Tryz.prog 69 #[.pointer (some ⟨p.mb, 0, none⟩), .pointer (some ⟨p.bb, 0, none⟩), kv, vc, .int .i64 now] z fun e z' =>
      e = .returned (.int .i64 (Mi.feed L b m ks cs now).1) ∧ St3 W p (Mi.feed L b m ks cs now).2.1 (Mi.feed L b m ks cs now).2.2.2 (Mi.feed L b m ks cs now).2.2.1 3 F z' ∧ MovesN W F z z' := by
  have e : c3 W.heap.size ⟨3, 0, 2, 1, p.rb, p.bb, p.mb⟩ (cSt W.heap.size p L m b) L b m = cSt W.heap.size p L m b := c3_self rfl rfl rfl
  have hp : FdI.Ok ⟨3, 0, 2, 1, p.rb, p.bb, p.mb⟩ := ⟨by show (0 : Nat) < 3; decide, by show (2 : Nat) < 3; decide, by show (1 : Nat) < 3; decide, by show (0 : Nat) ≠ 2; decide, by show (0 : Nat) ≠ 1; decide, by show (2 : Nat) ≠ 1; decide⟩
  refine (feed_w hp (c := cSt W.heap.size p L m b) (by rw [e]; exact h) g ks cs now hn hL hl1 hl2 hcl hkl kv vc Bc hkv hcv).mono ?_
  rintro e' w' ⟨he, ha, mv⟩
  refine ⟨he, ha.same ?_, mv⟩
  intro i hi
  match i, hi with
  | 0, _ => simp [c3, setC, cSt]
  | 1, _ => simp [c3, setC, cSt]
  | 2, _ => simp [c3, setC, cSt]
theorem st_head (h : St3 W p L m b 3 F z) (g : Gl W) (now : Int) (hn : I64 now) (hL : L.length ≤ 1000000) : Calls Tryz.prog 124 #[.pointer (some ⟨p.bb, 0, none⟩), .int .i64 now] z fun e z' =>
    e = .returned (.tuple #[.agg #[.int .i64 (Bk.head L b now).1.1.key, .string ⟨(Bk.head L b now).1.1.text.toArray⟩, .int .i64 (Bk.head L b now).1.1.mark], .int .i64 (Bk.head L b now).1.2]) ∧ St3 W p (Bk.head L b now).2.1 m (Bk.head L b now).2.2 3 F z' ∧ MovesN W F z z' := by
  refine (at_head (r := 0) (i := 2) (rb := p.rb) (bb := p.bb) (Lr := L) (b := b) h g (by decide) (by decide) (by decide) rfl rfl now hn hL (y := (Bk.head L b now).1.1) (e0 := (Bk.head L b now).1.2) (L' := (Bk.head L b now).2.1) (b' := (Bk.head L b now).2.2) rfl).mono ?_
  rintro e w' ⟨he, ha, mv⟩
  refine ⟨he, ha.same ?_, mv⟩
  intro i hi
  match i, hi with
  | 0, _ => simp [c3, setC, cSt]
  | 1, _ => simp [c3, setC, cSt]
  | 2, _ => simp [c3, setC, cSt]
theorem st_mirAt (h : St3 W p L m b 3 F z) : ∃ r, r.mb = p.mb ∧ MirAt W.heap.size z r m := at_mirAt (i := 1) h (by decide) rfl
end
end Go.Proofs.YtagmlemlagbfkaaGreatDoor
namespace Go.Proofs.YtagmlemlagbfkaaGreatDoor
open Go.RowKit
set_option linter.unusedVariables false
set_option linter.unusedSimpArgs false
attribute [local irreducible] Calls

/-- A list of contents in memory. -/
structure CntOk (l : List (List UInt8)) : Prop where
  n : l.length ≤ 40
  s : ∀ t ∈ l, t.length ≤ 100
theorem strs_cells {lo hi : Nat} {w : World} {v : Value} {l : List (List UInt8)} (h : Sl lo hi w v (l.map bsM)) :
    ∃ a cap, v = .slice a l.length cap ∧ (l = [] ∨ ∃ b off, a = some ⟨b, off, none⟩ ∧ ∀ i (hi : i < l.length), w.cell? ⟨b, off + i, none⟩ = some (.string ⟨l[i].toArray⟩)) := by
  obtain ⟨a, cap, rfl, -, hc⟩ := h.open_
  refine ⟨a, cap, by rw [List.length_map], ?_⟩
  rcases hc with ⟨-, -, hnil⟩ | ⟨b, off, rfl, -, -, -, hc⟩
  · exact Or.inl (List.map_eq_nil_iff.1 hnil)
  · refine Or.inr ⟨b, off, rfl, fun i hi => ?_⟩
    rw [hc i (by rw [List.length_map]; exact hi), List.getElem?_map, List.getElem?_eq_getElem hi]
    rfl
def csum (l : List (List UInt8)) : Nat := (l.map List.length).sum
theorem csum_take (l : List (List UInt8)) (i : Nat) (h : i < l.length) : csum (l.take (i + 1)) = csum (l.take i) + l[i].length := by
  unfold csum
  rw [List.take_succ_eq_append_getElem h, List.map_append, List.sum_append]; simp
theorem csum_le {l : List (List UInt8)} (h : ∀ t ∈ l, t.length ≤ 100) : csum l ≤ l.length * 100 := by
  induction l with
  | nil => exact Nat.le_refl _
  | cons t l ih =>
    have h1 := h t (by simp)
    have h2 := ih (fun s hs => h s (by simp [hs]))
    unfold csum at h2 ⊢
    rw [List.map_cons, List.sum_cons, List.length_cons]
    omega
set_option maxRecDepth 100000 in
theorem csize_w (lo hi : Nat) (v : Value) (l : List (List UInt8)) (w : World) (hv : Sl lo hi w v (l.map bsM)) (hl : CntOk l) :
    Calls Tryz.prog 84 #[v] w fun e w' => e = .returned (.int .i64 (csum l : Nat)) ∧ Nw w w' := by
  obtain ⟨a, cap, rfl, hc⟩ := strs_cells hv
  have HC := Lib.hid hc
  have hl1 : (l.length : Int) ≤ 40 := by have := hl.n; omega
  have HL := Lib.hid hl
  clear hv hc hl
  go_enter Tryz.func84, Tryz.ntmps84
  go_wp2_with fail
  go_loopw [3, 8] (fun sv iv wr => ∃ i : Nat, i ≤ l.length ∧ iv = .int .i64 (i : Int) ∧ sv = .int .i64 (csum (l.take i) : Nat) ∧ csum (l.take i) ≤ i * 100 ∧ Hid (Nw w wr)) (fun _ iv _ => l.length - (intOf iv).toNat)
  case atStart => exact ⟨0, Nat.zero_le _, rfl, rfl, by simp [csum], Upd.refl _ _⟩
  case round =>
    obtain ⟨i, hi, rfl, rfl, hs, HU⟩ := hrel
    by_cases hlt : i < l.length
    · have hlt1 : (i : Int) < l.length := by omega
      rcases HC.out with hnil | ⟨b, off, rfl, hcell⟩
      · simp [hnil] at hlt
      have c0 : wr.cell? ⟨b, off + i, none⟩ = some (.string ⟨l[i].toArray⟩) := later_cell ⟨wr, HU.out⟩ (hcell i hlt)
      have h100 := HL.out.s l[i] (List.getElem_mem hlt)
      have HS : Hid (csum (l.take (i + 1)) = csum (l.take i) + l[i].length) := csum_take l i hlt
      have h101 : (l[i].length : Int) ≤ 100 := by omega
      have hs1 : (csum (l.take i) : Int) ≤ 4000 := by omega
      clear hcell
      generalize csum (l.take i) = S at *
      generalize l[i] = x at *
      go_wp2_with fail
      go_roundw
      case rel => exact ⟨i + 1, by omega, by go_num, by rw [HS.out]; go_num, by rw [HS.out]; omega, HU⟩
      case measure => simp [intOf]; omega
    · obtain rfl : i = l.length := by omega
      go_wp2_with fail
      go_ret
      rw [List.take_length]
      exact ⟨rfl, HU.out⟩
theorem str_keyA (s : List UInt8) (h : s.length ≤ 100) : ∃ kl, keyOf Tryz.prog tStr (.string ⟨s.toArray⟩) = some kl := ⟨_, WideMaps.keyOf_string_mk Tryz.underlying9 (by rw [bs_size, bs_list]; unfold maxLen; omega)⟩
def seenS (l : List (List UInt8)) : List (Value × Value) := l.map fun s => (.string ⟨s.toArray⟩, .bool true)
theorem bs_inj {a b : List UInt8} (h : (Value.string ⟨a.toArray⟩) = .string ⟨b.toArray⟩) : a = b := by
  injection h with h
  injection h with h
  have := congrArg Array.toList h
  simpa using this
set_option maxRecDepth 100000 in
theorem right_w37 (lo0 hi0 : Nat) (v : Value) (l : List (List UInt8)) (w : World) (g : Gl w) (hv : Sl lo0 hi0 w v (l.map bsM)) (hl : CntOk l) (hn : l.Nodup) :
    Calls Tryz.prog 81 #[v] w fun e w' => e = .returned (.bool true) ∧ Nw w w' := by
  obtain ⟨a, cap, rfl, hc⟩ := strs_cells hv
  have hgb := g.big
  have n1 := nw_alloc w (.map #[] 0)
  have m1 := MapL.made Tryz.prog tStr w
  have hmm := @run_makeMap Tryz.prog
  obtain ⟨mb, hmb⟩ : ∃ mb, w.heap.size = mb := ⟨_, rfl⟩
  obtain ⟨w1, hw1⟩ : ∃ w1, w.alloc (.map #[] 0) = w1 := ⟨_, rfl⟩
  have HW1 := Lib.hid hw1
  rw [hw1] at n1 m1
  rw [hmb] at m1
  have Hmb := Lib.hid hmb
  have hJ0 : Hid (MapL Tryz.prog tStr w1 mb (seenS (l.take 0)) ∧ Nw w w1) := ⟨m1, n1⟩
  have HC := Lib.hid hc
  have HV := Lib.hid hv
  have HN := Lib.hid hn
  have hl1 : (l.length : Int) ≤ 40 := by have := hl.n; omega
  have HL := Lib.hid hl
  have hsz := csum_le hl.s
  have hsz1 : (csum l : Int) ≤ 4000 := by have := hl.n; omega
  have hszd : decide ((csum l : Int) ≤ 1048576) = true := decide_eq_true (by omega)
  clear hv hc hl hn m1 n1 hmb hw1 hsz
  go_enter Tryz.func81, Tryz.ntmps81
  go_upto_region 2 with fail
  rw [HW1.out]
  (try rw [Hmb.out])
  go_wp2_with fail
  go_loopw [9] (fun iv wr => ∃ i : Nat, i ≤ l.length ∧ iv = .int .i64 (i : Int) ∧ Hid (MapL Tryz.prog tStr wr mb (seenS (l.take i)) ∧ Nw w wr)) (fun iv _ => l.length - (intOf iv).toNat)
  case atStart => exact ⟨0, Nat.zero_le _, rfl, hJ0.out⟩
  case round =>
    obtain ⟨i, hi, rfl, HJ⟩ := hrel
    by_cases hlt : i < l.length
    · have hlt1 : (i : Int) < l.length := by omega
      rcases HC.out with hnil | ⟨b, off, rfl, hcell⟩
      · simp [hnil] at hlt
      have c0 : wr.cell? ⟨b, off + i, none⟩ = some (.string ⟨l[i].toArray⟩) := later_cell ⟨wr, HJ.out.2⟩ (hcell i hlt)
      have h100 := HL.out.s l[i] (List.getElem_mem hlt)
      obtain ⟨kl, hkl⟩ := str_keyA l[i] h100
      obtain ⟨w3, hst, hm3, u3⟩ := HJ.out.1.store_new strKeyed Tryz.underlying231 (by have := Hmb.out; omega) hkl (fun p hp e => by
        obtain ⟨s, hs, rfl⟩ := List.mem_map.1 hp
        have hx := bs_inj e
        subst hx
        obtain ⟨k, hk, hk2⟩ := List.mem_iff_getElem.1 hs
        rw [List.length_take] at hk
        rw [List.getElem_take] at hk2
        exact List.pairwise_iff_getElem.1 HN.out k i (by omega) hlt (by omega) hk2) (.bool true)
      have Hst := Lib.hid hst
      have hz : Hid (MapL Tryz.prog tStr w3 mb (seenS (l.take (i + 1))) ∧ Nw w w3) := by
        refine ⟨?_, HJ.out.2.trans' u3 (fun k hk e => by have := Hmb.out; omega)⟩
        unfold seenS
        rw [List.take_succ_eq_append_getElem hlt, List.map_append]
        exact hm3
      clear hcell hst hm3 u3 hkl HJ
      generalize l[i] = x at *
      go_wp2_with (at_mapUpdate; refine wpList_storeL rfl _ _ _ 231 rfl _ _ _ rfl rfl rfl Hst.out ?_)
      go_roundw
      case rel => exact ⟨i + 1, by omega, by go_num, hz.out⟩
      case measure => simp [intOf]; omega
    · obtain rfl : i = l.length := by omega
      have hm := HJ.out.1
      rw [List.take_length] at hm
      have HM := Lib.hid hm
      have HU := Lib.hid HJ.out.2
      have hsl : (seenS l).length = l.length := by unfold seenS; rw [List.length_map]
      have hcs := Lib.hid (csize_w lo0 hi0 _ l wr (HV.out.nw HU.out) HL.out)
      have hll : ((l.length : Int) == (l.length : Int)) = true := beq_self_eq_true _
      generalize seenS l = SS at *
      clear HJ hm
      go_wp2_with (at_len; refine wpList_lenL _ rfl _ 231 tStr 4 rfl Tryz.underlying231 mb SS rfl HM.out ?_)
      (with_reducible refine (hcs.out).mono ?_)
      rintro _ w5 ⟨rfl, u5⟩
      have HF := Lib.hid (HU.out.trans u5)
      clear u5 hcs
      go_wp2_with fail
      go_ret
      exact ⟨rfl, HF.out⟩
set_option maxRecDepth 100000 in
theorem index_s (lo0 hi0 : Nat) (v : Value) (l : List (List UInt8)) (t : List UInt8) (w : World) (hv : Sl lo0 hi0 w v (l.map bsM)) (hl : l.length ≤ 40) :
    Calls Tryz.prog 139 #[v, .string ⟨t.toArray⟩] w fun e w' => e = .returned (.int .i64 (idxI (fun x => decide (x = t)) l)) ∧ Nw w w' := by
  obtain ⟨a, cap, rfl, hc⟩ := strs_cells hv
  have HC := Lib.hid hc
  have hl1 : (l.length : Int) ≤ 40 := by omega
  clear hv hc
  go_enter Tryz.func139, Tryz.ntmps139
  go_wp2_with fail
  go_loopw [8] (fun i wr => ∃ n : Nat, n ≤ l.length ∧ i = .int .i64 (n : Int) ∧ Hid (∀ j (h : j < l.length), j < n → (decide (l[j] = t)) = false) ∧ Hid (Nw w wr)) (fun i _ => l.length - (intOf i).toNat)
  case atStart => exact ⟨0, Nat.zero_le _, rfl, fun j _ h => absurd h (Nat.not_lt_zero _), Upd.refl _ _⟩
  case round =>
    obtain ⟨n, hn, rfl, hall, HU⟩ := hrel
    by_cases hlt : n < l.length
    · have hlt1 : (n : Int) < l.length := by omega
      rcases HC.out with hnil | ⟨b, off, rfl, hcell⟩
      · simp [hnil] at hlt
      have c0 : wr.cell? ⟨b, off + n, none⟩ = some (.string ⟨l[n].toArray⟩) := later_cell ⟨wr, HU.out⟩ (hcell n hlt)
      have hnext : l[n] ≠ t → Hid (∀ j (h : j < l.length), j < n + 1 → (decide (l[j] = t)) = false) := fun e j h hj => by
        by_cases ej : j = n
        · subst ej; exact decide_eq_false e
        · exact hall.out j h (by omega)
      have hstop : l[n] = t → Hid (idxI (fun x => decide (x = t)) l = n) := fun e => idx_hit hlt (decide_eq_true e) hall.out
      clear hcell
      generalize l[n] = x at *
      by_cases he : x = t
      · have hr := hstop he
        have htt : (t == x) = true := by simp [he]
        clear hstop hnext he
        go_wp2_with fail
        go_ret
        rw [hr.out]
        exact ⟨rfl, HU.out⟩
      · have hz := hnext he
        have htt : (t == x) = false := by simp; exact fun e => he e.symm
        clear hstop hnext he
        go_wp2_with fail
        go_roundw
        case rel => exact ⟨n + 1, by omega, by go_num, hz, HU⟩
        case measure => simp [intOf]; omega
    · obtain rfl : n = l.length := by omega
      have hr : Hid (idxI (fun x => decide (x = t)) l = -1) := idx_miss (fun j h => hall.out j h h)
      clear hall
      go_wp2_with fail
      go_ret
      rw [hr.out]
      exact ⟨rfl, HU.out⟩
set_option maxRecDepth 100000 in
theorem cprint_w (lo0 hi0 : Nat) (v : Value) (l : List (List UInt8)) (t : List UInt8) (w : World) (hv : Sl lo0 hi0 w v (l.map bsM)) (hl : l.length ≤ 40) :
    Calls Tryz.prog 82 #[v, .string ⟨t.toArray⟩] w fun e w' => e = .returned (.int .i64 (idxI (fun x => decide (x = t)) l)) ∧ Nw w w' := by
  have hi := Lib.hid (index_s lo0 hi0 v l t w hv hl)
  obtain ⟨a, cap, rfl, -⟩ := strs_cells hv
  clear hv
  generalize idxI (fun x => decide (x = t)) l = ix at *
  go_enter Tryz.func82, Tryz.ntmps82
  go_wp2_with fail
  (with_reducible refine (hi.out).mono ?_)
  rintro _ w1 ⟨rfl, u1⟩
  go_wp2_with fail
  go_ret
  exact ⟨rfl, u1⟩
theorem idx_in {l : List (List UInt8)} {t : List UInt8} (h : t ∈ l) : 0 ≤ idxI (fun x => decide (x = t)) l := by
  have := idx_any (fun x => decide (x = t)) l
  rw [List.any_eq_true.2 ⟨t, h, by simp⟩] at this
  exact of_decide_eq_true this
theorem idx_out {l : List (List UInt8)} {t : List UInt8} (h : t ∉ l) : idxI (fun x => decide (x = t)) l = -1 :=
  idx_miss (fun j hj => decide_eq_false (fun e => h (e ▸ List.getElem_mem hj)))
theorem cadd_results (tmps : Array Value) (w : World) : (results Tryz.f23 tmps).run Tryz.prog w = .ok (.tuple #[tmps.getD 4 undef, tmps.getD 5 undef, tmps.getD 6 undef]) w := by
  simp [results, Tryz.results23, go_sem]
set_option maxHeartbeats 2000000 in
set_option maxRecDepth 100000 in
theorem cadd_w (B : Nat) (v : Value) (l : List (List UInt8)) (t : List UInt8) (w : World) (g : Gl w) (hv : w.ownsRow B tStrM 1 v l.length (l.map bsM)) (hl : CntOk l) (hl2 : l.length ≤ 39) (hn : l.Nodup) (ht : t.length ≤ 100) :
    Calls Tryz.prog 23 #[v, .string ⟨t.toArray⟩] w fun e w' => ∃ v' n, e = .returned (.tuple #[v', .int .i64 n, .int .i64 0]) ∧ w'.ownsRow w.heap.size tStrM 1 v' (Mi.addC l t).length ((Mi.addC l t).map bsM) ∧ Nw w w' := by
  have hgb := g.big
  have hsl := Sl.of_owns hv
  have HR := Lib.hid (right_w37 _ _ v l w g hsl hl hn)
  have HP := Lib.hid (fun (z : World) (u : Nw w z) => cprint_w _ _ v l t z (hsl.nw u) hl.n)
  have HS := Lib.hid (fun (z : World) (u : Nw w z) => csize_w _ _ v l z (hsl.nw u) hl)
  have HC := Lib.hid (fun (z : World) (u : Nw w z) => clone_m B v l z (g.upd u) (owns_upd' hv u (fun _ _ e => e)) (by omega))
  obtain ⟨a, cap, rfl⟩ := own_slG hv
  have hcs := csum_le hl.s
  have hcs1 : (csum l : Int) ≤ 4000 := by omega
  have hl1 : (l.length : Int) ≤ 39 := by omega
  have ht1 : (t.length : Int) ≤ 100 := by omega
  have hI := Lib.hid (fun h : t ∈ l => idx_in h)
  have hO := Lib.hid (fun h : t ∉ l => idx_out h)
  clear hv hsl hcs
  generalize csum l = S at *
  generalize idxI (fun x => decide (x = t)) l = ix at *
  go_enter Tryz.func23, Tryz.ntmps23
  go_wp2_with fail
  (with_reducible refine (HR.out).mono ?_)
  rintro _ w1 ⟨rfl, u1⟩
  have HP1 := Lib.hid (HP.out w1 u1)
  clear HR HP
  go_wp2_with fail
  (with_reducible refine (HP1.out).mono ?_)
  rintro _ w2 ⟨rfl, u2⟩
  have HU2 := Lib.hid (u1.trans u2)
  clear HP1 u1 u2
  by_cases hm : t ∈ l
  · have h0 := hI.out hm
    have HA : Hid (Mi.addC l t = l) := by show _ = _; unfold Mi.addC; rw [if_pos hm]
    have d0 : decide (0 ≤ ix) = true := decide_eq_true h0
    have hc := Lib.hid (HC.out w2 HU2.out)
    clear hI hO HS HC hm h0
    go_wp2_with fail
    (with_reducible refine (hc.out).mono ?_)
    rintro _ w3 ⟨v', rfl, o3, u3⟩
    obtain ⟨a3, c3, rfl⟩ := own_slG o3
    have hz : Hid (w3.ownsRow w.heap.size tStrM 1 (.slice a3 l.length c3) l.length (l.map bsM) ∧ Nw w w3) := ⟨owns_base o3 HU2.out.size, HU2.out.trans u3⟩
    clear o3 u3 hc
    go_wp2_with fail
    (try simp only [Exit.inBlock, Exit.then])
    refine bodyPost_ret (cadd_results _ _) rfl ?_
    rw [HA.out]
    exact ⟨_, _, rfl, hz.out⟩
  · have h0 := hO.out hm
    have HA : Hid (Mi.addC l t = l ++ [t]) := by show _ = _; unfold Mi.addC; rw [if_neg hm]
    subst h0
    have hs := Lib.hid (HS.out w2 HU2.out)
    clear hI hO HS hm
    go_wp2_with fail
    (with_reducible refine (hs.out).mono ?_)
    rintro _ w3 ⟨rfl, u3⟩
    have HU3 := Lib.hid (HU2.out.trans u3)
    have hc := Lib.hid (HC.out w3 HU3.out)
    clear u3 hs HC
    go_wp2_with fail
    (with_reducible refine (hc.out).mono ?_)
    rintro _ w4 ⟨v', rfl, o4, u4⟩
    have HU4 := Lib.hid (HU3.out.trans u4)
    have HO4 := Lib.hid o4
    have hs34 : w3.heap.size ≤ w4.heap.size := u4.size
    have hgw : nG ≤ w3.heap.size := by have := HU3.out.size; omega
    obtain ⟨a4, c4, rfl⟩ := own_slG o4
    clear o4 u4 hc
    go_wp2_with (at_builtin; (refine wpList_appL rfl _ _ 30 rfl w3.heap.size tStrM _ 1 16 Tryz.underlying30 infoStrM rfl (by decide) _ _ _ rfl HO4.out [Value.string ⟨t.toArray⟩] rfl rfl ?c1 ?c2 ?c3 hs34 hgw ?_))
    case c1 => intro u hu; rw [List.mem_singleton.1 hu]; rfl
    case c2 => unfold maxLen; omega
    case c3 => omega
    intro v' w5 o5 u5 hob
    obtain ⟨a5, c5, rfl⟩ := own_slG o5
    have hz : Hid (w5.ownsRow w.heap.size tStrM 1 (.slice a5 (l.length + 1) c5) (l ++ [t]).length ((l ++ [t]).map bsM) ∧ Nw w w5) := by
      refine ⟨?_, HU4.out.trans' u5 (fun k hk e => by have := (HO4.out.lt k e).1; have := HU3.out.size; omega)⟩
      have := owns_base o5 HU3.out.size
      rw [List.length_append, List.map_append]
      exact this
    clear o5 u5 hob
    go_wp2_with fail
    (try simp only [Exit.inBlock, Exit.then])
    refine bodyPost_ret (cadd_results _ _) rfl ?_
    rw [HA.out]
    exact ⟨_, _, rfl, hz.out⟩
end Go.Proofs.YtagmlemlagbfkaaGreatDoor
