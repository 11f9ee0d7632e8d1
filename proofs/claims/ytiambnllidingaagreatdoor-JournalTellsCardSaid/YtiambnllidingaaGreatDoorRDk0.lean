/- The reference's disk (layer 2) in memory: a list of files, a list of pending sectors; get, Size, may, fits, pending. -/
import Derived.Test.YtiambnllidingaaGreatDoorDsk5
import Derived.Test.YtiambnllidingaaGreatDoorRef
namespace Go.Proofs.YtiambnllidingaaGreatDoor
open Go.RowKit
set_option linter.unusedVariables false
set_option linter.unusedSimpArgs false
attribute [local irreducible] Calls

abbrev tRDisk : TypeId := 91
abbrev tRSec : TypeId := 109
abbrev tRFile : TypeId := 111
def rfL (p : Int × Dk.Fil) : List Value := [.int .i64 p.1, .string ⟨p.2.now.toArray⟩, .string ⟨p.2.last.toArray⟩]
def flatR (l : List (Int × Dk.Fil)) : List Value := (l.map rfL).flatten
theorem flatR_snoc (l : List (Int × Dk.Fil)) (p : Int × Dk.Fil) : flatR (l ++ [p]) = flatR l ++ rfL p := by simp [flatR]
/-- The files of the list are those that fs says. -/
structure SaysR (l : List (Int × Dk.Fil)) (fs : Int → Dk.Fil) : Prop where
  nd : (l.map (·.1)).Nodup
  each : ∀ p ∈ l, (0 ≤ p.1 ∧ p.1 < 16) ∧ fs p.1 = p.2
  none : ∀ f, (∀ p ∈ l, p.1 ≠ f) → fs f = Dk.noFil
theorem SaysR.new : SaysR [] (fun _ => Dk.noFil) := ⟨List.nodup_nil, (fun p hp => by cases hp), fun _ _ => rfl⟩
theorem SaysR.len {l : List (Int × Dk.Fil)} {fs : Int → Dk.Fil} (h : SaysR l fs) : l.length ≤ 16 := by
  have := Dk.nodup_le 16 (l.map fun p => p.1.toNat) (by
    have h1 := h.nd
    rw [List.nodup_iff_pairwise_ne, List.pairwise_map] at h1 ⊢
    refine h1.imp_of_mem fun {a b} ha hb hab e => hab ?_
    have := (h.each a ha).1
    have := (h.each b hb).1
    omega) (fun x hx => by
      obtain ⟨p, hp, rfl⟩ := List.mem_map.1 hx
      have := (h.each p hp).1
      omega)
  rwa [List.length_map] at this
def putR (l : List (Int × Dk.Fil)) (f : Int) (x : Dk.Fil) : List (Int × Dk.Fil) := l.filter (fun p => !(p.1 == f)) ++ [(f, x)]
theorem SaysR.put {l : List (Int × Dk.Fil)} {fs : Int → Dk.Fil} (h : SaysR l fs) {f : Int} (hf : 0 ≤ f ∧ f < 16) (x : Dk.Fil) : SaysR (putR l f x) (Dk.setF fs f x) := by
  have hm : ∀ p, p ∈ putR l f x ↔ (p ∈ l ∧ p.1 ≠ f) ∨ p = (f, x) := fun p => by simp [putR]
  refine ⟨?_, fun p hp => ?_, fun g hg => ?_⟩
  · unfold putR
    rw [List.map_append, List.nodup_append]
    refine ⟨List.Nodup.sublist ((List.filter_sublist).map _) h.nd, by simp, fun a ha b hb e => ?_⟩
    obtain ⟨p, hp, rfl⟩ := List.mem_map.1 ha
    simp at hp hb
    exact hp.2 (by omega)
  · rcases (hm p).1 hp with ⟨h1, h2⟩ | rfl
    · exact ⟨(h.each p h1).1, by rw [Dk.setF_ne _ _ h2]; exact (h.each p h1).2⟩
    · exact ⟨hf, by rw [Dk.setF_self]⟩
  · have hne : g ≠ f := fun e => hg (f, x) ((hm _).2 (Or.inr rfl)) e.symm
    rw [Dk.setF_ne _ _ hne]
    refine h.none g (fun p hp e => ?_)
    by_cases hpf : p.1 = f
    · exact hne (by omega)
    · exact hg p ((hm p).2 (Or.inl ⟨hp, hpf⟩)) e
/-- Where the reference's disk lies. -/
structure RdR where
  rb : Nat
  fv : Value
  qv : Value
  kv : Value
def RdR.foot (r : RdR) (k : Nat) : Prop := k = r.rb ∨ r.fv.ownBlock = some k ∨ r.qv.ownBlock = some k ∨ r.kv.ownBlock = some k
def rdC (r : RdR) (D : Dk.Disk) : Array Value := #[r.fv, r.qv, .int .i64 D.lost, .bool D.down, .int .i64 D.armed, r.kv]
def FilesR (B : Nat) (w : World) (v : Value) (fs : Int → Dk.Fil) : Prop := ∃ l, w.ownsRow B tRFile 3 v l.length (flatR l) ∧ SaysR l fs
/-- In the blocks from B on lies the reference's disk r, in the state D. -/
structure RDAt (B : Nat) (w : World) (r : RdR) (D : Dk.Disk) : Prop where
  hb : nG ≤ B
  rb : B ≤ r.rb
  blk : w.heap[r.rb]? = some (.cells (rdC r D) tRDisk (0, 0))
  files : FilesR B w r.fv D.fs
  queue : w.ownsRow B tRSec 2 r.qv D.q.length (flatQ D.q)
  keep : w.ownsRow B tIntD 1 r.kv D.keep.length (D.keep.map intD)
  ok : Dk.Ok D
  kI : ∀ x ∈ D.keep, I64 x
section
variable {B : Nat} {w w' : World} {r : RdR} {D D' : Dk.Disk}
theorem RDAt.foot_lt (h : RDAt B w r D) {k : Nat} (hk : r.foot k) : B ≤ k ∧ k < w.heap.size := by
  rcases hk with rfl | hk | hk | hk
  · exact ⟨h.rb, lt_of_block h.blk⟩
  · obtain ⟨l, h1, _⟩ := h.files
    exact h1.lt k hk
  · exact h.queue.lt k hk
  · exact h.keep.lt k hk
theorem FilesR.upd {S : Nat → Prop} {v : Value} {fs : Int → Dk.Fil} (h : FilesR B w v fs) (u : Upd S w w') (hs : ∀ k, v.ownBlock = some k → ¬ S k) : FilesR B w' v fs := by
  obtain ⟨l, h1, h2⟩ := h
  exact ⟨l, owns_updD h1 u hs, h2⟩
theorem RDAt.upd {S : Nat → Prop} (h : RDAt B w r D) (u : Upd S w w') (hs : ∀ k, r.foot k → ¬ S k) : RDAt B w' r D :=
  ⟨h.hb, h.rb, u.keep h.blk (hs _ (Or.inl rfl)), h.files.upd u (fun k hk => hs k (Or.inr (Or.inl hk))), owns_updD h.queue u (fun k hk => hs k (Or.inr (Or.inr (Or.inl hk)))),
    owns_updD h.keep u (fun k hk => hs k (Or.inr (Or.inr (Or.inr hk)))), h.ok, h.kI⟩
theorem RDAt.nw (h : RDAt B w r D) (u : Nw w w') : RDAt B w' r D := h.upd u (fun _ _ s => s)
theorem RDAt.cells (h : RDAt B w r D) :
    w.cell? ⟨r.rb, 0, none⟩ = some r.fv ∧ w.cell? ⟨r.rb, 1, none⟩ = some r.qv ∧ w.cell? ⟨r.rb, 2, none⟩ = some (.int .i64 D.lost) ∧ w.cell? ⟨r.rb, 3, none⟩ = some (.bool D.down) ∧
    w.cell? ⟨r.rb, 4, none⟩ = some (.int .i64 D.armed) ∧ w.cell? ⟨r.rb, 5, none⟩ = some r.kv := by
  refine ⟨?_, ?_, ?_, ?_, ?_, ?_⟩ <;> (rw [cells_cell h.blk]; rfl)
theorem RDAt.frozen (h : RDAt B w r D) (i : Nat) : w.frozen? ⟨r.rb, i, none⟩ = false := cells_frozen h.blk i
theorem own_typ {T T' : TypeId} {sz sz' : Nat} {v v' : Value} {n n' : Nat} {xs xs' : List Value} (h : w.ownsRow B T sz v n xs) (h' : w.ownsRow B T' sz' v' n' xs') (hT : T ≠ T') {k : Nat} (hk : v.ownBlock = some k) : v'.ownBlock ≠ some k := fun e => by
  obtain ⟨_, cs, e1⟩ := own_blockD h hk
  obtain ⟨_, cs', e2⟩ := own_blockD h' e
  rw [e1] at e2
  injection e2 with e2
  injection e2 with _ e2
  exact hT e2
theorem own_blk {T T' : TypeId} {sz : Nat} {v : Value} {n : Nat} {xs : List Value} {b : Nat} {cs : Array Value} (h : w.ownsRow B T sz v n xs) (h' : w.heap[b]? = some (.cells cs T' (0, 0))) (hT : T ≠ T') : v.ownBlock ≠ some b := fun e => by
  obtain ⟨_, cs', e2⟩ := own_blockD h e
  rw [h'] at e2
  injection e2 with e2
  injection e2 with _ e2
  exact hT e2.symm
/-- What a call leaves of it. -/
def RDTo (B : Nat) (r : RdR) (D' : Dk.Disk) (w w' : World) : Prop :=
  ∃ r', RDAt B w' r' D' ∧ r'.rb = r.rb ∧ Upd r.foot w w' ∧ ∀ j, r'.foot j → r.foot j ∨ w.heap.size ≤ j
theorem RDTo.of_nw (h : RDAt B w r D) (u : Nw w w') : RDTo B r D w w' := ⟨r, h.nw u, rfl, Nw.upd _ u, fun j hj => Or.inl hj⟩
theorem RDTo.nw {w2 : World} (h : RDTo B r D' w w') (u : Nw w' w2) : RDTo B r D' w w2 := by
  obtain ⟨r', h1, h2, h3, h4⟩ := h
  exact ⟨r', h1.nw u, h2, h3.nw u, h4⟩
theorem RDTo.after {w0 : World} (u : Nw w0 w) (h : RDTo B r D' w w') : RDTo B r D' w0 w' := by
  obtain ⟨r', h1, h2, h3, h4⟩ := h
  exact ⟨r', h1, h2, Nw.trans u h3, fun j hj => (h4 j hj).imp id (fun e => by have := u.size; omega)⟩
theorem RDTo.then_ {w2 : World} {r1 : RdR} {D1 : Dk.Disk} (h0 : RDAt B w r D) (h1 : RDAt B w' r1 D1) (e : r1.rb = r.rb) (u1 : Upd r.foot w w') (f1 : ∀ j, r1.foot j → r.foot j ∨ w.heap.size ≤ j) (h2 : RDTo B r1 D' w' w2) : RDTo B r D' w w2 := by
  obtain ⟨r', k1, k2, k3, k4⟩ := h2
  have hz := u1.size
  refine ⟨r', k1, k2.trans e, u1.trans' k3 (fun k hk s => (f1 k s).resolve_right (by omega)), fun j hj => ?_⟩
  rcases k4 j hj with a | a
  · exact f1 j a
  · exact Or.inr (by omega)
end
theorem rfL_cells {lo hi : Nat} {w : World} {v : Value} {X : List (Int × Dk.Fil)} (h : SlS 3 lo hi w v (X.map rfL)) :
    ∃ a cap, v = .slice a X.length cap ∧ X.length ≤ maxLen ∧ (X = [] ∨ ∃ b off, a = some ⟨b, off, none⟩ ∧ b < hi ∧ b < w.heap.size ∧ ∀ i (h : i < X.length), w.cell? ⟨b, off + i * 3, none⟩ = some (.int .i64 X[i].1) ∧ w.cell? ⟨b, off + i * 3 + 1, none⟩ = some (.string ⟨X[i].2.now.toArray⟩) ∧ w.cell? ⟨b, off + i * 3 + 2, none⟩ = some (.string ⟨X[i].2.last.toArray⟩)) := by
  obtain ⟨a, cap, rfl, hm, h⟩ := h.open_
  rw [List.length_map] at hm
  refine ⟨a, cap, by rw [List.length_map], hm, ?_⟩
  rcases h with h | ⟨b, off, rfl, _, hb1, hb, hc⟩
  · exact Or.inl (List.map_eq_nil_iff.1 h)
  · refine Or.inr ⟨b, off, rfl, hb1, hb, fun i hi => ?_⟩
    have h2 := (hc i (by simpa using hi)).2
    simp only [List.getElem_map] at h2
    exact ⟨by rw [← Nat.add_zero (off + i * 3), h2 0 (by simp [rfL])]; rfl, by rw [h2 1 (by simp [rfL])]; rfl, by rw [h2 2 (by simp [rfL])]; rfl⟩
theorem rf_sls {B : Nat} {w : World} {v : Value} {L : List (Int × Dk.Fil)} (h : w.ownsRow B tRFile 3 v L.length (flatR L)) : SlS 3 B w.heap.size w v (L.map rfL) :=
  SlS.of_owns h (by simp) (by omega) (fun y hy => by
    obtain ⟨z, _, rfl⟩ := List.mem_map.1 hy
    rfl)
theorem rs_sls {B : Nat} {w : World} {v : Value} {L : List (Int × Int)} (h : w.ownsRow B tRSec 2 v L.length (flatQ L)) : SlS 2 B w.heap.size w v (L.map secL) :=
  SlS.of_owns h (by simp) (by omega) (fun y hy => by
    obtain ⟨z, _, rfl⟩ := List.mem_map.1 hy
    rfl)
section
variable {B : Nat} {w : World} {r : RdR} {D : Dk.Disk}
theorem get_results {w : World} {bp : Nat} {tmps : Array Value} {v0 v1 v2 : Value} {T : TypeId} {fz : Nat × Nat} (h : w.heap[bp]? = some (.cells #[v0, v1, v2] T fz)) (ht : tmps.getD 4 undef = .pointer (some ⟨bp, 0, none⟩)) :
    (results Tryz.f72 tmps).run Tryz.prog w = .ok (.agg #[v0, v1, v2]) w := by
  have c0 : w.cell? ⟨bp, 0, none⟩ = some v0 := by rw [cells_cell h]; rfl
  have c1 : w.cell? ⟨bp, 1, none⟩ = some v1 := by rw [cells_cell h]; rfl
  have c2 : w.cell? ⟨bp, 2, none⟩ = some v2 := by rw [cells_cell h]; rfl
  clear h
  have ht2 : tmps[4]?.getD undef = .pointer (some ⟨bp, 0, none⟩) := by simpa using ht
  clear ht
  simp [results, Tryz.results72, go_sem, ht2, c0, c1, c2]
def filO (f : Int) (x : Dk.Fil) : Value := .agg #[.int .i64 f, .string ⟨x.now.toArray⟩, .string ⟨x.last.toArray⟩]
set_option maxRecDepth 100000 in
theorem get_r (h : RDAt B w r D) (f : Int) :
    Calls Tryz.prog 72 #[.pointer (some ⟨r.rb, 0, none⟩), .int .i64 f] w fun e w' => e = .returned (.agg #[.int .i64 f, .string ⟨(D.fs f).now.toArray⟩, .string ⟨(D.fs f).last.toArray⟩]) ∧ Nw w w' := by
  have n1 := nw_alloc w (.cells #[.int .i64 0, .string ⟨#[]⟩, .string ⟨#[]⟩] tRFile)
  have k1 := heap_new w (.cells #[.int .i64 0, .string ⟨#[]⟩, .string ⟨#[]⟩] tRFile)
  have h1' := h.nw n1
  obtain ⟨l, h1, h2⟩ := h1'.files
  obtain ⟨c0, _⟩ := h1'.cells
  obtain ⟨a, cap, hv, _, hc⟩ := rfL_cells (rf_sls h1)
  have hl := h2.len
  have hl1 : (l.length : Int) ≤ 16 := by omega
  have hl0 : (0 : Int) ≤ l.length := by omega
  rw [hv] at c0
  have Hc := Lib.hid hc
  have H2 := Lib.hid h2
  have hI0 : Hid (∀ j (h : j < l.length), j < 0 → l[j].1 ≠ f) := fun j h hj => by omega
  clear h h1 h2 hc hv hl h1' k1 n1
  go_enter Tryz.func72, Tryz.ntmps72
  go_wp2_with fail
  go_loop [5] (fun iv => ∃ n : Nat, n ≤ l.length ∧ iv = .int .i64 n ∧ Hid (∀ j (h : j < l.length), j < n → l[j].1 ≠ f)) (fun iv => l.length - (intOf iv).toNat)
  case atStart => exact ⟨0, Nat.zero_le _, rfl, hI0.out⟩
  case round =>
    obtain ⟨n, hn, rfl, hno⟩ := hrel
    by_cases hlt : n < l.length
    · rcases Hc.out with hnil | ⟨b, off, rfl, _, _, hcell⟩
      · rw [hnil] at hlt; simp at hlt
      obtain ⟨d0, d1, d2⟩ := hcell n hlt
      have hfirst : Hid (l[n].1 = f → D.fs f = l[n].2) := fun e => by
        have := (H2.out.each l[n] (List.getElem_mem hlt)).2
        rw [e] at this
        exact this
      have hnext : Hid (l[n].1 ≠ f → ∀ j (h : j < l.length), j < n + 1 → l[j].1 ≠ f) := fun e j h hj => by
        by_cases ej : j = n
        · subst ej; exact e
        · exact hno.out j h (by omega)
      clear hcell
      generalize l[n] = x at *
      obtain ⟨xf, xn, xl⟩ := x
      dsimp only at d0 d1 d2
      by_cases hk : xf = f
      · have hkb : (xf == f) = true := beq_iff_eq.2 hk
        have hr := Lib.hid (hfirst.out hk)
        clear hnext hfirst
        subst hk
        go_wp2_with fail
        (try simp only [Exit.inBlock, Exit.then])
        refine bodyPost_ret (get_results (heap_new w _) rfl) rfl ⟨by rw [hr.out], nw_alloc w _⟩
      · have hkb : (xf == f) = false := beq_eq_false_iff_ne.2 hk
        have hr := Lib.hid (hnext.out hk)
        clear hfirst hnext hk
        go_wp2_with fail
        go_round
        case rel => exact ⟨n + 1, by omega, by go_num, hr⟩
        case measure => simp [intOf]; omega
    · have hr : Hid (D.fs f = Dk.noFil) := H2.out.none f (fun p hp e => by
        obtain ⟨j, hj, rfl⟩ := List.mem_iff_getElem.1 hp
        exact hno.out j hj (by omega) e)
      go_wp2_with fail
      (try simp only [Exit.inBlock, Exit.then])
      refine bodyPost_ret (get_results (heap_new w _) rfl) rfl ⟨by rw [hr.out]; rfl, nw_alloc w _⟩
set_option maxRecDepth 100000 in
theorem may_r (h : RDAt B w r D) (f : Int) :
    Calls Tryz.prog 71 #[.pointer (some ⟨r.rb, 0, none⟩), .int .i64 f] w fun e w' => e = .returned (.int .i64 (Dk.may D f)) ∧ w = w' := by
  obtain ⟨_, _, _, c3, _⟩ := h.cells
  cases hd : D.down with
  | true =>
    have hr : Hid (Dk.may D f = 8) := by show _ = _; unfold Dk.may; rw [hd]; rfl
    rw [hd] at c3
    clear h hd
    go_enter Tryz.func71, Tryz.ntmps71
    go_wp2_with fail
    go_ret
    exact ⟨by rw [hr.out] <;> rfl, rfl⟩
  | false =>
    rw [hd] at c3
    by_cases h1 : f < 0
    · have hr : Hid (Dk.may D f = 1) := by show _ = _; unfold Dk.may; rw [hd, if_neg (by decide), if_pos (Or.inl h1)]
      clear h hd
      go_enter Tryz.func71, Tryz.ntmps71
      go_wp2_with fail
      go_ret
      exact ⟨by rw [hr.out] <;> rfl, rfl⟩
    by_cases h2 : 15 < f
    · have hr : Hid (Dk.may D f = 1) := by show _ = _; unfold Dk.may; rw [hd, if_neg (by decide), if_pos (Or.inr (by omega))]
      clear h hd
      go_enter Tryz.func71, Tryz.ntmps71
      go_wp2_with fail
      go_ret
      exact ⟨by rw [hr.out] <;> rfl, rfl⟩
    · have hr : Hid (Dk.may D f = 0) := by show _ = _; unfold Dk.may; rw [hd, if_neg (by decide), if_neg (by omega)]
      clear h hd
      go_enter Tryz.func71, Tryz.ntmps71
      go_wp2_with fail
      go_ret
      exact ⟨by rw [hr.out] <;> rfl, rfl⟩
theorem rfield1 (f : Int) (x : Dk.Fil) (w : World) : (Instr.field tRFile (.agg #[.int .i64 f, .string ⟨x.now.toArray⟩, .string ⟨x.last.toArray⟩]) 1).run Tryz.prog w = .ok (.string ⟨x.now.toArray⟩) w := by kernel_rfl
set_option maxRecDepth 100000 in
theorem size_r (h : RDAt B w r D) (f : Int) :
    Calls Tryz.prog 32 #[.pointer (some ⟨r.rb, 0, none⟩), .int .i64 f] w fun e w' => e = .returned (.int .i64 (Dk.size D f)) ∧ Nw w w' := by
  have hg := Lib.hid (get_r h f)
  have hl := (h.ok.now f)
  have hl1 : ((D.fs f).now.length : Int) ≤ 16777216 := by omega
  have hr : Hid (Dk.size D f = (D.fs f).now.length) := rfl
  have hf1 := rfield1 f (D.fs f)
  have Hf := Lib.hid hf1
  clear h hl hf1
  generalize (D.fs f).now = N at *
  generalize (D.fs f).last = M at *
  rw [hr.out]
  clear hr
  go_enter Tryz.func32, Tryz.ntmps32
  go_wp2_with fail
  (with_reducible refine (hg.out).mono ?_)
  rintro _ w1 ⟨rfl, u1⟩
  go_wp2_with (with_reducible refine wpList_fieldL (o := ⟨some 8, _, _, _, _, _⟩) rfl _ tRFile 1 rfl _ _ (Hf.out _) (by with_unfolding_all rfl) ?_)
  go_ret
  exact ⟨rfl, u1⟩
theorem fits_r (i : Int) (hi : I64 i) (s : List UInt8) (hs : s.length ≤ 1000000000) (w : World) :
    Calls Tryz.prog 105 #[.int .i64 i, .string ⟨s.toArray⟩] w fun e w' => e = .returned (.bool (decide (Dk.wErr i s.length = 0))) ∧ w = w' := by
  by_cases h1 : i < 0
  · have hr : Hid (decide (Dk.wErr i s.length = 0) = false) := by show _ = _; unfold Dk.wErr; rw [if_pos h1]; rfl
    go_enter Tryz.func105, Tryz.ntmps105
    go_wp2_with fail
    go_ret
    exact ⟨by rw [hr.out] <;> rfl, rfl⟩
  have h1' : 0 ≤ i := by omega
  by_cases h2 : 16777216 < i
  · have hr : Hid (decide (Dk.wErr i s.length = 0) = false) := by show _ = _; unfold Dk.wErr; rw [if_neg h1, if_pos (Or.inl h2)]; rfl
    go_enter Tryz.func105, Tryz.ntmps105
    go_wp2_with fail
    go_ret
    exact ⟨by rw [hr.out] <;> rfl, rfl⟩
  have h2' : i ≤ 16777216 := by omega
  have hsl : (s.length : Int) ≤ 1000000000 := by omega
  by_cases h3 : i + s.length ≤ 16777216
  · have hr : Hid (decide (Dk.wErr i s.length = 0) = true) := by show _ = _; unfold Dk.wErr; rw [if_neg h1, if_neg (by omega)]; rfl
    clear h1 h2
    go_enter Tryz.func105, Tryz.ntmps105
    go_wp2_with fail
    go_ret
    exact ⟨by rw [hr.out] <;> rfl, rfl⟩
  · have hr : Hid (decide (Dk.wErr i s.length = 0) = false) := by show _ = _; unfold Dk.wErr; rw [if_neg h1, if_pos (Or.inr (by omega))]; rfl
    clear h1 h2
    go_enter Tryz.func105, Tryz.ntmps105
    go_wp2_with fail
    go_ret
    exact ⟨by rw [hr.out] <;> rfl, rfl⟩
set_option maxHeartbeats 1000000 in
set_option maxRecDepth 100000 in
theorem pending_r (h : RDAt B w r D) (f n : Int) :
    Calls Tryz.prog 132 #[.pointer (some ⟨r.rb, 0, none⟩), .int .i64 f, .int .i64 n] w fun e w' => e = .returned (.bool (decide ((f, n) ∈ D.q))) ∧ w = w' := by
  obtain ⟨_, c1, _⟩ := h.cells
  obtain ⟨a, cap, hv, _, hc⟩ := secD_cells (rs_sls h.queue)
  have hl := h.ok.q_len
  have hl1 : (D.q.length : Int) ≤ 4194304 := by omega
  have hl0 : (0 : Int) ≤ D.q.length := by omega
  rw [hv] at c1
  have Hc := Lib.hid hc
  generalize D.q = q at *
  have hI0 : Hid (∀ j (h : j < q.length), j < 0 → q[j] ≠ (f, n)) := fun j h hj => by omega
  clear h hc hv hl
  go_enter Tryz.func132, Tryz.ntmps132
  go_wp2_with fail
  go_loop [7] (fun iv => ∃ m : Nat, m ≤ q.length ∧ iv = .int .i64 m ∧ Hid (∀ j (h : j < q.length), j < m → q[j] ≠ (f, n))) (fun iv => q.length - (intOf iv).toNat)
  case atStart => exact ⟨0, Nat.zero_le _, rfl, hI0.out⟩
  case round =>
    obtain ⟨m, hm, rfl, hno⟩ := hrel
    by_cases hlt : m < q.length
    · rcases Hc.out with hnil | ⟨b, off, rfl, _, _, hcell⟩
      · rw [hnil] at hlt; simp at hlt
      obtain ⟨d0, d1⟩ := hcell m hlt
      have hfirst : Hid (q[m] = (f, n) → decide ((f, n) ∈ q) = true) := fun e => decide_eq_true (e ▸ List.getElem_mem hlt)
      have hnext : Hid (q[m] ≠ (f, n) → ∀ j (h : j < q.length), j < m + 1 → q[j] ≠ (f, n)) := fun e j h hj => by
        by_cases ej : j = m
        · subst ej; exact e
        · exact hno.out j h (by omega)
      clear hcell
      generalize q[m] = x at *
      obtain ⟨xf, xn⟩ := x
      dsimp only at d0 d1
      by_cases hk : xf = f
      · have hkb : (xf == f) = true := beq_iff_eq.2 hk
        by_cases hk2 : xn = n
        · have hkb2 : (xn == n) = true := beq_iff_eq.2 hk2
          have hr := Lib.hid (hfirst.out (by rw [hk, hk2]))
          clear hnext hfirst
          subst hk hk2
          go_wp2_with fail
          go_ret
          exact ⟨by rw [hr.out] <;> rfl, rfl⟩
        · have hkb2 : (xn == n) = false := beq_eq_false_iff_ne.2 hk2
          have hr := Lib.hid (hnext.out (fun e => hk2 (Prod.mk.inj e).2))
          clear hfirst hnext hk hk2
          go_wp2_with fail
          go_round
          case rel => exact ⟨m + 1, by omega, by go_num, hr⟩
          case measure => simp [intOf]; omega
      · have hkb : (xf == f) = false := beq_eq_false_iff_ne.2 hk
        have hr := Lib.hid (hnext.out (fun e => hk (Prod.mk.inj e).1))
        clear hfirst hnext hk
        go_wp2_with fail
        go_round
        case rel => exact ⟨m + 1, by omega, by go_num, hr⟩
        case measure => simp [intOf]; omega
    · have hr : Hid (decide ((f, n) ∈ q) = false) := by
        refine decide_eq_false fun hp => ?_
        obtain ⟨j, hj, e⟩ := List.mem_iff_getElem.1 hp
        exact hno.out j hj (by omega) e
      go_wp2_with fail
      go_ret
      exact ⟨by rw [hr.out] <;> rfl, rfl⟩
end
end Go.Proofs.YtiambnllidingaaGreatDoor
