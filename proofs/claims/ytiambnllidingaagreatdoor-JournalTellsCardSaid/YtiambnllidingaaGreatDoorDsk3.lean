/- maps.DeleteFunc at the set of pending sectors; the contract of the disk's settle. -/
import Derived.Test.YtiambnllidingaaGreatDoorDsk2
import Derived.StillTailTactics
namespace Go.Proofs.YtiambnllidingaaGreatDoor
open Go.RowKit
set_option linter.unusedVariables false
set_option linter.unusedSimpArgs false
attribute [local irreducible] Calls

theorem call_set1 : ∀ args w, (callFunc 119 args).run Tryz.prog w = .ok (.enter 119 args) w := enters_of Tryz.func119 (by kernel_rfl) rfl
theorem call_set2 : ∀ args w, (callFunc 121 args).run Tryz.prog w = .ok (.enter 121 args) w := enters_of Tryz.func121 (by kernel_rfl) rfl
/-- 'p.file == f'. -/
theorem set1P (x : Int × Int) (f : Int) (b1 : Nat) (w : World) (h1 : w.heap[b1]? = some (.cells #[.int .i64 f] tIntD (0, 0))) :
    Calls Tryz.prog 119 #[.agg #[.int .i64 x.1, .int .i64 x.2], .pointer (some ⟨b1, 0, none⟩)] w fun e w' => e = .returned (.bool (decide (x.1 = f))) ∧ Nw w w' := by
  have n1 := nw_alloc w (.cells #[.int .i64 x.1, .int .i64 x.2] tSec)
  have c1 : w.cell? ⟨b1, 0, none⟩ = some (.int .i64 f) := by rw [cells_cell h1]; rfl
  have c1' := later_cell ⟨_, n1⟩ c1
  obtain ⟨xk, xt⟩ := x
  dsimp only at *
  by_cases hk : xk = f
  · have dk : (xk == f) = true := beq_iff_eq.2 hk
    have hr : Hid (decide (xk = f) = true) := by show _ = _; simp [hk]
    clear hk h1
    go_enter Tryz.func119, Tryz.ntmps119
    go_wp2_with fail
    go_ret
    exact ⟨ret_bool hr.out.symm, n1⟩
  · have dk : (xk == f) = false := beq_eq_false_iff_ne.2 hk
    have hr : Hid (decide (xk = f) = false) := by show _ = _; simp [hk]
    clear hk h1
    go_enter Tryz.func119, Tryz.ntmps119
    go_wp2_with fail
    go_ret
    exact ⟨ret_bool hr.out.symm, n1⟩
theorem set2P (x : Int × Int) (v : Bool) (f : Int) (b1 : Nat) (w : World) (h1 : w.heap[b1]? = some (.cells #[.int .i64 f] tIntD (0, 0))) :
    Calls Tryz.prog 121 #[.agg #[.int .i64 x.1, .int .i64 x.2], .bool v, .pointer (some ⟨b1, 0, none⟩)] w fun e w' => e = .returned (.bool (decide (x.1 = f))) ∧ Nw w w' := by
  have n1 := nw_alloc w (.cells #[.int .i64 x.1, .int .i64 x.2] tSec)
  have c1 : w.cell? ⟨b1, 0, none⟩ = some (.int .i64 f) := by rw [cells_cell h1]; rfl
  have c1' := later_cell ⟨_, n1⟩ c1
  obtain ⟨xk, xt⟩ := x
  dsimp only at *
  by_cases hk : xk = f
  · have dk : (xk == f) = true := beq_iff_eq.2 hk
    have hr : Hid (decide (xk = f) = true) := by show _ = _; simp [hk]
    clear hk h1
    go_enter Tryz.func121, Tryz.ntmps121
    go_wp2_with fail
    go_ret
    exact ⟨ret_bool hr.out.symm, n1⟩
  · have dk : (xk == f) = false := beq_eq_false_iff_ne.2 hk
    have hr : Hid (decide (xk = f) = false) := by show _ = _; simp [hk]
    clear hk h1
    go_enter Tryz.func121, Tryz.ntmps121
    go_wp2_with fail
    go_ret
    exact ⟨ret_bool hr.out.symm, n1⟩
/-- 'delete(m, k)' at the operation, by its run. -/
theorem wpList_dropL {P : Program} {w w' : World} {ops : Array Oper} {rest : List Oper} {o : Oper} {a : Act} {Q : Exit → Act → World → Prop} (hg : o.guard = none) (hd : o.dst = none) (m x : Operand) (t k : TypeId) (hop : o.op = .call { callee := .builtin .delete, args := #[m, x], argTypes := #[t, k] })
    (vm key : Value) (hm : a.eval m = vm) (hx : a.eval x = key) (hrun : (Builtin.delete_ #[t, k] o.type #[vm, key]).run P w = .ok (.tuple #[]) w') (h : wpList P ops Q rest a w') : wpList P ops Q (o :: rest) a w := by
  refine wpList_plain hg fun K hK => ?_
  unfold Oper.wp
  simp [execOp, hop, resolve, invoke, builtin, hm, hx, hrun, Result.andThen]
  refine hK _ _ ?_
  rw [hd]
  exact h
/-- While the set is ranged over: of the sectors of the file those that have come are gone. -/
structure DelS (w : World) (sm rr : Nat) (q : List (Int × Int)) (f : Int) (z : World) : Prop where
  rng : ∃ l done, RangeS Tryz.prog tSec z sm rr l done ∧ (∀ p ∈ l, p ∈ q.map secE) ∧ (∀ p ∈ q, p.1 ≠ f → secE p ∈ l) ∧ ∀ p ∈ q, p.1 = f → done (secV p) → secE p ∉ l
  upd : Upd (fun k => k = sm) w z
theorem secE_inj {p q : Int × Int} (h : secE p = secE q) : p = q := secV_inj (Prod.mk.inj h).1
set_option maxHeartbeats 2000000 in
set_option maxRecDepth 100000 in
theorem delSet (c1 sm : Nat) (q : List (Int × Int)) (f : Int) (w : World) (hgb : nG ≤ w.heap.size) (h : SetL w sm q) (hG : nG ≤ sm) (hbox : w.heap[c1]? = some (.cells #[.int .i64 f] tIntD (0, 0))) (hne : c1 ≠ sm) (hq : ∀ p ∈ q, I64 p.1 ∧ I64 p.2) (hnd : q.Nodup) :
    Calls Tryz.prog 120 #[.map (some sm), .func (.func 121) #[] #[.pointer (some ⟨c1, 0, none⟩)]] w fun e w' => e = .returned (.tuple #[]) ∧ SetL w' sm (q.filter fun p => !decide (p.1 = f)) ∧ Upd (fun k => k = sm) w w' := by
  have hlt := h.lt
  have Hbox := Lib.hid hbox
  have Hq := Lib.hid hq
  have Hnd := Lib.hid hnd
  have H := Lib.hid h
  clear hbox hq hnd h
  go_enter Tryz.func120, Tryz.ntmps120
  go_wp2_with (at_range; refine wpList_rangeS rfl _ 84 4 rfl Tryz.underlying84 rfl H.out ?_)
  intro w1 hrg n1
  have HD : Hid (DelS w sm w.heap.size q f w1) := ⟨⟨_, _, hrg, fun p hp => hp, fun p hp _ => List.mem_map.2 ⟨p, hp, rfl⟩, fun p _ _ e => e.elim⟩, Nw.upd _ n1⟩
  clear hrg n1
  go_wp2_with fail
  go_loopw [4] (fun _ wr => Hid (DelS w sm w.heap.size q f wr)) (fun _ wr => wr.rangeLeft sm w.heap.size)
  case atStart => exact HD.out
  case round =>
    have HD := Lib.hid hrel.out
    obtain ⟨⟨l, done, hrg, hs1, hs2, hs3⟩, hu⟩ := hrel.out
    have hrg' := hrg
    clear hrel
    go_wp2_with (at_next; refine wpList_nextS rfl _ rfl rfl hrg' ?_ ?_ ?_)
    · exact hgb
    · intro hall
      have hset : Hid (SetL wr sm (q.filter fun p => !decide (p.1 = f))) := by
        refine MapL.of_mem hrg.map (List.pairwise_map.2 ((Hnd.out.filter _).imp (fun hne e => hne (secE_inj e)))) (fun p => ?_)
        constructor
        · intro hp
          obtain ⟨x, hx, rfl⟩ := List.mem_map.1 hp
          obtain ⟨hx1, hx2⟩ := List.mem_filter.1 hx
          exact hs2 x hx1 (by simpa using hx2)
        · intro hp
          obtain ⟨x, hx, rfl⟩ := List.mem_map.1 (hs1 p hp)
          refine List.mem_map.2 ⟨x, List.mem_filter.2 ⟨hx, by rw [decide_eq_false (fun e => hs3 x hx e (hall _ _ hp) hp)]; rfl⟩, rfl⟩
      have HU := Lib.hid hu
      clear hall hs1 hs2 hs3 hrg hrg' hu
      go_wp2_with fail
      go_end0
      exact ⟨rfl, hset.out, HU.out⟩
    · intro ka va w6 hpm hrg6 u6 hlt6 hen
      obtain ⟨x, hx, e⟩ := List.mem_map.1 (hs1 _ hpm)
      obtain ⟨hx1, hx2⟩ := Hq.out x hx
      obtain ⟨e1, e2⟩ := Prod.mk.inj e
      subst e1 e2
      have n7 := nw_alloc w6 (.cells #[.int .i64 x.1, .int .i64 x.2] tSec)
      have k7 := heap_new w6 (.cells #[.int .i64 x.1, .int .i64 x.2] tSec)
      have U6 : Upd (fun k => k = sm) w w6 := hu.trans' u6 (fun j hj e => by omega)
      have hb7 := Nw.keep n7 (U6.keep Hbox.out hne)
      have hnext : ∀ w8, Nw (w6.alloc (.cells #[.int .i64 x.1, .int .i64 x.2] tSec)) w8 → RangeS Tryz.prog tSec w8 sm w.heap.size l (fun y => done y ∨ y = secV x) ∧ w8.rangeLeft sm w.heap.size = w6.rangeLeft sm w.heap.size ∧ Upd (fun k => k = sm) w w8 := fun w8 u8 => by
        obtain ⟨a1, a2⟩ := hrg6.upd n7 id id
        obtain ⟨b1, b2⟩ := a1.upd u8 id id
        exact ⟨b1, b2.trans a2, (U6.nw n7).nw u8⟩
      have hgo : x.1 ≠ f → ∀ w8, Nw (w6.alloc (.cells #[.int .i64 x.1, .int .i64 x.2] tSec)) w8 → Hid (DelS w sm w.heap.size q f w8) ∧ w8.rangeLeft sm w.heap.size < wr.rangeLeft sm w.heap.size := fun hf w8 u8 => by
        obtain ⟨b1, b2, b3⟩ := hnext w8 u8
        refine ⟨⟨⟨l, _, b1, hs1, hs2, fun p hp e hd => ?_⟩, b3⟩, by omega⟩
        rcases hd with hd | hd
        · exact hs3 p hp e hd
        · exact absurd e (by rw [secV_inj hd]; exact hf)
      have hdel : x.1 = f → ∀ w8, Nw (w6.alloc (.cells #[.int .i64 x.1, .int .i64 x.2] tSec)) w8 → ∃ w9, (Builtin.delete_ #[84, tSec] 0 #[.map (some sm), .agg #[.int .i64 x.1, .int .i64 x.2]]).run Tryz.prog w8 = .ok (.tuple #[]) w9 ∧ Hid (DelS w sm w.heap.size q f w9) ∧ w9.rangeLeft sm w.heap.size < wr.rangeLeft sm w.heap.size := fun hf w8 u8 => by
        obtain ⟨b1, b2, b3⟩ := hnext w8 u8
        obtain ⟨kl, hkl⟩ := sec_key hx1 hx2
        obtain ⟨w9, l', hrun, hr9, hm9, u9, hl9⟩ := b1.drop (ty := 0) secKeyed Tryz.underlying84 hG hkl
        refine ⟨w9, hrun, ⟨⟨l', _, hr9, fun p hp => hs1 p ((hm9 p).1 hp).1, fun p hp hpf => (hm9 _).2 ⟨hs2 p hp hpf, fun e => hpf (by rw [secV_inj e]; exact hf)⟩, fun p hp e hd hin => ?_⟩, b3.trans u9⟩, by omega⟩
        obtain ⟨h1, h2⟩ := (hm9 _).1 hin
        rcases hd with hd | hd
        · exact hs3 p hp e hd h1
        · exact h2 hd
      have hc := set2P x true f c1 _ hb7
      obtain ⟨xf, xn⟩ := x
      dsimp only [secV] at *
      have K7 := Lib.hid k7
      have Hc := Lib.hid hc
      have Hgo := Lib.hid hgo
      have Hdel := Lib.hid hdel
      clear hnext hgo hdel hc k7 hb7 hrg hrg' hs1 hs2 hs3 hu hrg6 hpm e
      by_cases hf : xf = f
      · have hd := Lib.hid (Hdel.out hf)
        have hdc : decide (xf = f) = true := decide_eq_true hf
        rw [hdc] at Hc
        clear Hgo Hdel hf hdc
        go_wp2_with (first | (go_at_call 121; ((with_reducible refine Hc.out.mono ?_); rintro _ w8 ⟨rfl, u8⟩; obtain ⟨_, _⟩ := cell2D (Nw.keep u8 K7.out); obtain ⟨w9, hrun, hD9, hl9⟩ := hd.out w8 u8)) | (at_delete; refine wpList_dropL rfl rfl _ _ 84 tSec rfl _ _ rfl rfl hrun ?_))
        go_roundw
        case rel => exact hD9
        case measure => exact hl9
      · have hd := Lib.hid (Hgo.out hf)
        have hdc : decide (xf = f) = false := decide_eq_false hf
        rw [hdc] at Hc
        clear Hgo Hdel hf hdc
        go_wp2_with (go_at_call 121; ((with_reducible refine Hc.out.mono ?_); rintro _ w8 ⟨rfl, u8⟩; obtain ⟨hD9, hl9⟩ := hd.out w8 u8))
        go_roundw
        case rel => exact hD9
        case measure => exact hl9
/-! ### settle -/
theorem DiskAt.laterD {B : Nat} {w : World} {r : DiskR} {D : Dk.Disk} (h : DiskAt B w r D) : (∀ i : Later w, i.1.cell? ⟨r.db, 0, none⟩ = some (.map (some r.fm))) ∧ (∀ i : Later w, i.1.cell? ⟨r.db, 1, none⟩ = some r.qv) ∧ (∀ i : Later w, i.1.cell? ⟨r.db, 2, none⟩ = some (.map (some r.sm))) :=
  ⟨fun i => (h.nw i.nw).cells.1, fun i => (h.nw i.nw).cells.2.1, fun i => (h.nw i.nw).cells.2.2.1⟩
/-- The disk's parts after the three steps of settle. -/
theorem settle_done {B db fm sm : Nat} {qv kv v' : Value} {W w3 w4 w5 w7 : World} {D : Dk.Disk} {f : Int} {s : List UInt8} (h1 : DiskAt B W ⟨db, fm, sm, qv, kv⟩ D) (hs : s.length ≤ 16777216) (u3 : Nw W w3) (u4 : Upd (fun k => k = fm) w3 w4) (hf4 : FilesL w4 fm (Dk.setF D.fs f ⟨s, s⟩))
    (o5 : w5.ownsRow B tSec 2 v' (D.q.filter fun p => !decide (p.1 = f)).length (flatQ (D.q.filter fun p => !decide (p.1 = f)))) (u5 : Upd (fun k => qv.ownBlock = some k) w4 w5) (ho5 : ∀ k, v'.ownBlock = some k → qv.ownBlock = some k)
    (u7 : Upd (fun k => k = sm) (w5.setCell ⟨db, 1, none⟩ v') w7) (s7 : SetL w7 sm (D.q.filter fun p => !decide (p.1 = f))) : DiskTo B ⟨db, fm, sm, qv, kv⟩ (Dk.settle D f s) W w7 := by
  obtain ⟨a1, a2, a3, a4, a5, a6, a7, a8, a9⟩ := h1.apart
  dsimp only at a1 a2 a3 a4 a5 a6 a7 a8 a9
  have hne := h1.ne
  have hdb := h1.db
  have hhb := h1.hb
  dsimp only at hne hdb
  have u6 : Upd (fun k => k = db) w5 (w5.setCell ⟨db, 1, none⟩ v') := Upd.set1 (Upd.refl _ _) (by omega) 1 v'
  have b5 := u5.keep (u4.keep (u3.keep h1.blk) a1) a3
  refine ⟨⟨db, fm, sm, v', kv⟩, ⟨h1.hb, h1.db, h1.fm, h1.sm, h1.ne, ?_, ?_, s7, ?_, ?_, Dk.settle_ok h1.ok f hs, h1.kI⟩, rfl, ?_, ?_⟩
  · have := setCell_block b5 1 v'
    exact u7.keep this a2
  · exact ((hf4.upd u5 a4).upd u6 (fun e => a1 e.symm)).upd u7 hne
  · refine owns_updD (owns_updD o5 u6 (fun k hk e => ?_)) u7 (fun k hk e => ?_)
    · subst e; exact a3 (ho5 _ hk)
    · subst e; exact a5 (ho5 _ hk)
  · refine owns_updD (owns_updD (owns_updD (owns_updD (owns_updD h1.keep u3 (fun _ _ e => e)) u4 (fun k hk e => ?_)) u5 (fun k hk e => ?_)) u6 (fun k hk e => ?_)) u7 (fun k hk e => ?_)
    · subst e; exact a7 hk
    · exact a9 k e hk
    · subst e; exact a6 hk
    · subst e; exact a8 hk
  · exact ((((Nw.upd _ u3).trans' u4 (fun k _ e => Or.inr (Or.inl e))).trans' u5 (fun k _ e => Or.inr (Or.inr (Or.inr (Or.inl e))))).trans' u6 (fun k _ e => Or.inl e)).trans' u7 (fun k _ e => Or.inr (Or.inr (Or.inl e)))
  · rintro j (e | e | e | e | e)
    · exact Or.inl (Or.inl e)
    · exact Or.inl (Or.inr (Or.inl e))
    · exact Or.inl (Or.inr (Or.inr (Or.inl e)))
    · exact Or.inl (Or.inr (Or.inr (Or.inr (Or.inl (ho5 _ e)))))
    · exact Or.inl (Or.inr (Or.inr (Or.inr (Or.inr e))))
theorem q_I64 {D : Dk.Disk} (h : Dk.Ok D) : ∀ p ∈ D.q, I64 p.1 ∧ I64 p.2 := fun p hp => by
  have := h.q p hp
  unfold I64
  omega
set_option maxHeartbeats 2000000 in
set_option maxRecDepth 100000 in
theorem settle_c {B : Nat} {w : World} {r : DiskR} {D : Dk.Disk} (h : DiskAt B w r D) (g : Gl w) {f : Int} (hf : I64 f) (s : List UInt8) (hs : s.length ≤ 16777216) (hB : B ≤ w.heap.size) :
    Calls Tryz.prog 91 #[.pointer (some ⟨r.db, 0, none⟩), .int .i64 f, .string ⟨s.toArray⟩] w fun e w' => e = .returned (.tuple #[]) ∧ DiskTo B r (Dk.settle D f s) w w' := by
  have hgb := g.big
  have n1 := nw_alloc w (.cells #[.int .i64 f] tIntD)
  have k1 := heap_new w (.cells #[.int .i64 f] tIntD)
  have s1 : (w.alloc (.cells #[.int .i64 f] tIntD)).heap.size = w.heap.size + 1 := by simp
  have h1 := h.nw n1
  have hlt : ∀ j, r.foot j → j < w.heap.size := fun j hj => (h.foot_lt hj).2
  obtain ⟨l0, l1, l2⟩ := h1.laterD
  have lb : ∀ i : Later (w.alloc (.cells #[.int .i64 f] tIntD)), i.1.cell? ⟨w.heap.size, 0, none⟩ = some (.int .i64 f) := fun i => by rw [cells_cell (i.nw.keep k1)]; rfl
  have H1 := Lib.hid h1
  have K1 := Lib.hid k1
  have Hlt := Lib.hid hlt
  have hqI := q_I64 H1.out.ok
  have hql := H1.out.ok.q_len
  have hnd := H1.out.ok.nd
  obtain ⟨db, fm, sm, qv, kv⟩ := r
  obtain ⟨aq, cq, hqv⟩ := own_slD H1.out.queue
  dsimp only at hqv
  subst hqv
  dsimp only at *
  have HqI := Lib.hid hqI
  have Hql := Lib.hid hql
  have Hnd := Lib.hid hnd
  have Hs := Lib.hid hs
  clear h h1 k1 hlt hqI hql hnd hs
  go_enter Tryz.func91, Tryz.ntmps91
  go_wp2_with fail
  refine wp_region_nw_tail 8 (by kernel_rfl) (by kernel_rfl) ?_
  simp only [List.take_succ_cons, List.take_zero, List.drop_succ_cons, List.drop_zero]
  repeat (go_big_quiet_step ((fail)))
  refine wpQuiet_nil ?_
  intro w3 u3
  replace u3 := later_out u3
  have h3 := H1.out.nw u3
  obtain ⟨w4, hst, hf4, u4⟩ := h3.files.put (by have := h3.fm; have := h3.hb; dsimp only at *; omega) hf ⟨s, s⟩
  obtain ⟨a1, a2, a3, a4, a5, a6, a7, a8, a9⟩ := h3.apart
  dsimp only [filV] at hst a1 a2 a3 a4 a5 a6 a7 a8 a9 hf4 u4
  have k4 := u4.keep (u3.keep K1.out) (fun e => by have := Hlt.out fm (Or.inr (Or.inl rfl)); omega)
  have b4 := u4.keep h3.blk a1
  have q4 := owns_updD h3.queue u4 (fun k hk e => by subst e; exact a4 hk)
  have s4 := h3.set.upd u4 (fun e => h3.ne e.symm)
  have d4 := delSecs 119 w.heap.size call_set1 (fun x => decide (x.1 = f)) B _ D.q w4 h3.hb (by have := Hql.out; omega) q4 (fun W x u hx => set1P x f w.heap.size W (u.keep k4 (fun e => by have := Hlt.out w.heap.size (Or.inr (Or.inr (Or.inr (Or.inl e)))); omega)))
  have x1 : w4.cell? ⟨db, 1, none⟩ = some (.slice aq D.q.length cq) := by rw [cells_cell b4]; rfl
  have D4 := Lib.hid d4
  have Hst := Lib.hid hst
  have Hf4 := Lib.hid hf4
  have B4 := Lib.hid b4
  have K4 := Lib.hid k4
  have S4 := Lib.hid s4
  have Ha := Lib.hid (And.intro a3 (And.intro a5 h3.ne))
  have Hsm := Lib.hid h3.sm
  have Hhb := Lib.hid h3.hb
  have Hlt2 : Hid (db < w.heap.size) := Hlt.out db (Or.inl rfl)
  have hgd : Hid (nG ≤ db) := Nat.le_trans h3.hb h3.db
  clear d4 hst hf4 b4 k4 q4 s4 a1 a2 a3 a4 a5 a6 a7 a8 a9 h3 l0 l1 l2 lb
  go_wp2_with (at_mapUpdate; refine wpList_storeL rfl _ _ _ tFiles rfl _ _ _ rfl rfl rfl Hst.out ?_)
  go_wp2_with fail
  (with_reducible refine (D4.out).mono ?_)
  rintro _ w5 ⟨v', rfl, o5, u5, ho5⟩
  have b5 := u5.keep B4.out Ha.out.1
  have k5 := u5.keep K4.out (fun e => by have := Hlt.out w.heap.size (Or.inr (Or.inr (Or.inr (Or.inl e)))); omega)
  have y1 : w5.cell? ⟨db, 1, none⟩ = some (.slice aq D.q.length cq) := by rw [cells_cell b5]; rfl
  have y2 : w5.cell? ⟨db, 2, none⟩ = some (.map (some sm)) := by rw [cells_cell b5]; rfl
  have f1 := cells_frozen b5 1
  have u6 : Upd (fun k => k = db) w5 (w5.setCell ⟨db, 1, none⟩ v') := Upd.set1 (Upd.refl _ _) hgd.out 1 v'
  have s6 := (S4.out.upd u5 Ha.out.2.1).upd u6 (fun e => by have := DiskAt.apart H1.out; exact this.2.1 e.symm)
  have k6 := u6.keep k5 (fun e => by have := Hlt2.out; omega)
  have d7 := delSet w.heap.size sm D.q f (w5.setCell ⟨db, 1, none⟩ v') (Nat.le_trans hgb (Nat.le_trans n1.size (Nat.le_trans u3.size (Nat.le_trans u4.size (Nat.le_trans u5.size (by simp [World.setCell])))))) s6 (Nat.le_trans Hhb.out Hsm.out) k6 (fun e => by have := Hlt.out sm (Or.inr (Or.inr (Or.inl rfl))); omega) HqI.out Hnd.out
  have D7 := Lib.hid d7
  have O5 := Lib.hid o5
  obtain ⟨av, cv, rfl⟩ := own_slD o5
  clear d7 k6 s6 u6 b5 k5 D4 o5
  go_wp2_with fail
  (with_reducible refine (D7.out).mono ?_)
  rintro _ w7 ⟨rfl, s7, u7⟩
  go_wp2_with fail
  go_end0
  exact ⟨rfl, DiskTo.after n1 (settle_done H1.out Hs.out u3 u4 Hf4.out O5.out u5 ho5 u7 s7)⟩
end Go.Proofs.YtiambnllidingaaGreatDoor
