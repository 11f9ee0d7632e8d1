/- maps.DeleteFunc at the set of pending sectors; the contract of the disk's settle. A region that draws its order and both reads cells and, later, writes them: a load may be taken first though one of the region's last operations writes its cell, if that operation waits for the load. The condition on the world is asked only until that operation has come up. A region that draws its order, reads cells and writes them: as in Ord, with two conditions on the world, the one asked until operation number k has come up, the other one always. -/
import Derived.Test.YtagmlemlagbfkaaGreatDoorPkFSurv6
import Derived.StillTailTactics
import Derived.Test.YtagmlemlagbfkaaGreatDoorPkFSurv0
import Derived.OrdersHeld
import Derived.StillTail
import Derived.Deep.AppendLies
namespace Go.Proofs.YtagmlemlagbfkaaGreatDoor
open Go.RowKit
set_option linter.unusedVariables false
set_option linter.unusedSimpArgs false
attribute [local irreducible] Calls

theorem call_set1 : ∀ args w, (callFunc 219 args).run Tryz.prog w = .ok (.enter 219 args) w := enters_of Tryz.func219 (by kernel_rfl) rfl
/-- 'p.file == f'. -/
theorem set1P (x : Int × Int) (f : Int) (b1 : Nat) (w : World) (h1 : w.heap[b1]? = some (.cells #[.int .i64 f] tIntD (0, 0))) :
    Calls Tryz.prog 219 #[.agg #[.int .i64 x.1, .int .i64 x.2], .pointer (some ⟨b1, 0, none⟩)] w fun e w' => e = .returned (.bool (decide (x.1 = f))) ∧ Nw w w' := by
  have n1 := nw_alloc w (.cells #[.int .i64 x.1, .int .i64 x.2] tSec)
  have c1 : w.cell? ⟨b1, 0, none⟩ = some (.int .i64 f) := by rw [cells_cell h1]; rfl
  have c1' := later_cell ⟨_, n1⟩ c1
  obtain ⟨xk, xt⟩ := x
  dsimp only at *
  by_cases hk : xk = f
  · have dk : (xk == f) = true := beq_iff_eq.2 hk
    have hr : Hid (decide (xk = f) = true) := by show _ = _; simp [hk]
    clear hk h1
    go_enter Tryz.func219, Tryz.ntmps219
    go_wp2_with fail
    go_ret
    exact ⟨ret_bool hr.out.symm, n1⟩
  · have dk : (xk == f) = false := beq_eq_false_iff_ne.2 hk
    have hr : Hid (decide (xk = f) = false) := by show _ = _; simp [hk]
    clear hk h1
    go_enter Tryz.func219, Tryz.ntmps219
    go_wp2_with fail
    go_ret
    exact ⟨ret_bool hr.out.symm, n1⟩
theorem set2P (x : Int × Int) (v : Bool) (f : Int) (b1 : Nat) (w : World) (h1 : w.heap[b1]? = some (.cells #[.int .i64 f] tIntD (0, 0))) :
    Calls Tryz.prog 221 #[.agg #[.int .i64 x.1, .int .i64 x.2], .bool v, .pointer (some ⟨b1, 0, none⟩)] w fun e w' => e = .returned (.bool (decide (x.1 = f))) ∧ Nw w w' := by
  have n1 := nw_alloc w (.cells #[.int .i64 x.1, .int .i64 x.2] tSec)
  have c1 : w.cell? ⟨b1, 0, none⟩ = some (.int .i64 f) := by rw [cells_cell h1]; rfl
  have c1' := later_cell ⟨_, n1⟩ c1
  obtain ⟨xk, xt⟩ := x
  dsimp only at *
  by_cases hk : xk = f
  · have dk : (xk == f) = true := beq_iff_eq.2 hk
    have hr : Hid (decide (xk = f) = true) := by show _ = _; simp [hk]
    clear hk h1
    go_enter Tryz.func221, Tryz.ntmps221
    go_wp2_with fail
    go_ret
    exact ⟨ret_bool hr.out.symm, n1⟩
  · have dk : (xk == f) = false := beq_eq_false_iff_ne.2 hk
    have hr : Hid (decide (xk = f) = false) := by show _ = _; simp [hk]
    clear hk h1
    go_enter Tryz.func221, Tryz.ntmps221
    go_wp2_with fail
    go_ret
    exact ⟨ret_bool hr.out.symm, n1⟩
/-- 'delete(m, k)' at the operation, by its run. -/
theorem wpList_dropL {P : Program} {w w' : World} {ops : Array Oper} {rest : List Oper} {o : Oper} {a : Act} {Q : Exit → Act → World → Prop} (hg : o.guard = none) (hd : o.dst = none) (m x : Operand) (t k : TypeId) (hop : o.op = .call { callee := .builtin .delete, args := #[m, x], argTypes := #[t, k] })
    (vm key : Value) (hm : a.eval m = vm) (hx : a.eval x = key) (hrun : (Builtin.delete_ #[t, k] o.type #[vm, key]).run P w = .ok (.tuple #[]) w') (h : wpList P ops Q rest a w') : wpList P ops Q (o :: rest) a w := by
  refine wpList_plain hg fun K hK => ?_
  unfold Oper.wp
  simp [execOp, hop, resolve, invoke, builtin, hm, hx, hrun, Result.andThen]
  refine hK _ _ ?_
  rw [hd]
  exact h
/-- While the set is ranged over: of the sectors of the file those that have come are gone. -/
structure DelS (w : World) (sm rr : Nat) (q : List (Int × Int)) (f : Int) (z : World) : Prop where
  rng : ∃ l done, RangeS Tryz.prog tSec z sm rr l done ∧ (∀ p ∈ l, p ∈ q.map secE) ∧ (∀ p ∈ q, p.1 ≠ f → secE p ∈ l) ∧ ∀ p ∈ q, p.1 = f → done (secV p) → secE p ∉ l
  upd : Upd (fun k => k = sm) w z
theorem secE_inj {p q : Int × Int} (h : secE p = secE q) : p = q := secV_inj (Prod.mk.inj h).1
set_option maxHeartbeats 2000000 in
set_option maxRecDepth 100000 in
theorem delSet (c1 sm : Nat) (q : List (Int × Int)) (f : Int) (w : World) (hgb : nG ≤ w.heap.size) (h : SetL w sm q) (hG : nG ≤ sm) (hbox : w.heap[c1]? = some (.cells #[.int .i64 f] tIntD (0, 0))) (hne : c1 ≠ sm) (hq : ∀ p ∈ q, I64 p.1 ∧ I64 p.2) (hnd : q.Nodup) :
    Calls Tryz.prog 220 #[.map (some sm), .func (.func 221) #[] #[.pointer (some ⟨c1, 0, none⟩)]] w fun e w' => e = .returned (.tuple #[]) ∧ SetL w' sm (q.filter fun p => !decide (p.1 = f)) ∧ Upd (fun k => k = sm) w w' := by
  have hlt := h.lt
  have Hbox := Lib.hid hbox
  have Hq := Lib.hid hq
  have Hnd := Lib.hid hnd
  have H := Lib.hid h
  clear hbox hq hnd h
  go_enter Tryz.func220, Tryz.ntmps220
  go_wp2_with (at_range; refine wpList_rangeS rfl _ 179 4 rfl Tryz.underlying179 rfl H.out ?_)
  intro w1 hrg n1
  have HD : Hid (DelS w sm w.heap.size q f w1) := ⟨⟨_, _, hrg, fun p hp => hp, fun p hp _ => List.mem_map.2 ⟨p, hp, rfl⟩, fun p _ _ e => e.elim⟩, Nw.upd _ n1⟩
  clear hrg n1
  go_wp2_with fail
  go_loopw [4] (fun _ wr => Hid (DelS w sm w.heap.size q f wr)) (fun _ wr => wr.rangeLeft sm w.heap.size)
  case atStart => exact HD.out
  case round =>
    have HD := Lib.hid hrel.out
    obtain ⟨⟨l, done, hrg, hs1, hs2, hs3⟩, hu⟩ := hrel.out
    have hrg' := hrg
    clear hrel
    go_wp2_with (at_next; refine wpList_nextS rfl _ rfl rfl hrg' ?_ ?_ ?_)
    · exact hgb
    · intro hall
      have hset : Hid (SetL wr sm (q.filter fun p => !decide (p.1 = f))) := by
        refine MapL.of_mem hrg.map (List.pairwise_map.2 ((Hnd.out.filter _).imp (fun hne e => hne (secE_inj e)))) (fun p => ?_)
        constructor
        · intro hp
          obtain ⟨x, hx, rfl⟩ := List.mem_map.1 hp
          obtain ⟨hx1, hx2⟩ := List.mem_filter.1 hx
          exact hs2 x hx1 (by simpa using hx2)
        · intro hp
          obtain ⟨x, hx, rfl⟩ := List.mem_map.1 (hs1 p hp)
          refine List.mem_map.2 ⟨x, List.mem_filter.2 ⟨hx, by rw [decide_eq_false (fun e => hs3 x hx e (hall _ _ hp) hp)]; rfl⟩, rfl⟩
      have HU := Lib.hid hu
      clear hall hs1 hs2 hs3 hrg hrg' hu
      go_wp2_with fail
      go_end0
      exact ⟨rfl, hset.out, HU.out⟩
    · intro ka va w6 hpm hrg6 u6 hlt6 hen
      obtain ⟨x, hx, e⟩ := List.mem_map.1 (hs1 _ hpm)
      obtain ⟨hx1, hx2⟩ := Hq.out x hx
      obtain ⟨e1, e2⟩ := Prod.mk.inj e
      subst e1 e2
      have n7 := nw_alloc w6 (.cells #[.int .i64 x.1, .int .i64 x.2] tSec)
      have k7 := heap_new w6 (.cells #[.int .i64 x.1, .int .i64 x.2] tSec)
      have U6 : Upd (fun k => k = sm) w w6 := hu.trans' u6 (fun j hj e => by omega)
      have hb7 := Nw.keep n7 (U6.keep Hbox.out hne)
      have hnext : ∀ w8, Nw (w6.alloc (.cells #[.int .i64 x.1, .int .i64 x.2] tSec)) w8 → RangeS Tryz.prog tSec w8 sm w.heap.size l (fun y => done y ∨ y = secV x) ∧ w8.rangeLeft sm w.heap.size = w6.rangeLeft sm w.heap.size ∧ Upd (fun k => k = sm) w w8 := fun w8 u8 => by
        obtain ⟨a1, a2⟩ := hrg6.upd n7 id id
        obtain ⟨b1, b2⟩ := a1.upd u8 id id
        exact ⟨b1, b2.trans a2, (U6.nw n7).nw u8⟩
      have hgo : x.1 ≠ f → ∀ w8, Nw (w6.alloc (.cells #[.int .i64 x.1, .int .i64 x.2] tSec)) w8 → Hid (DelS w sm w.heap.size q f w8) ∧ w8.rangeLeft sm w.heap.size < wr.rangeLeft sm w.heap.size := fun hf w8 u8 => by
        obtain ⟨b1, b2, b3⟩ := hnext w8 u8
        refine ⟨⟨⟨l, _, b1, hs1, hs2, fun p hp e hd => ?_⟩, b3⟩, by omega⟩
        rcases hd with hd | hd
        · exact hs3 p hp e hd
        · exact absurd e (by rw [secV_inj hd]; exact hf)
      have hdel : x.1 = f → ∀ w8, Nw (w6.alloc (.cells #[.int .i64 x.1, .int .i64 x.2] tSec)) w8 → ∃ w9, (Builtin.delete_ #[179, tSec] 0 #[.map (some sm), .agg #[.int .i64 x.1, .int .i64 x.2]]).run Tryz.prog w8 = .ok (.tuple #[]) w9 ∧ Hid (DelS w sm w.heap.size q f w9) ∧ w9.rangeLeft sm w.heap.size < wr.rangeLeft sm w.heap.size := fun hf w8 u8 => by
        obtain ⟨b1, b2, b3⟩ := hnext w8 u8
        obtain ⟨kl, hkl⟩ := sec_key hx1 hx2
        obtain ⟨w9, l', hrun, hr9, hm9, u9, hl9⟩ := b1.drop (ty := 0) secKeyed Tryz.underlying179 hG hkl
        refine ⟨w9, hrun, ⟨⟨l', _, hr9, fun p hp => hs1 p ((hm9 p).1 hp).1, fun p hp hpf => (hm9 _).2 ⟨hs2 p hp hpf, fun e => hpf (by rw [secV_inj e]; exact hf)⟩, fun p hp e hd hin => ?_⟩, b3.trans u9⟩, by omega⟩
        obtain ⟨h1, h2⟩ := (hm9 _).1 hin
        rcases hd with hd | hd
        · exact hs3 p hp e hd h1
        · exact h2 hd
      have hc := set2P x true f c1 _ hb7
      obtain ⟨xf, xn⟩ := x
      dsimp only [secV] at *
      have K7 := Lib.hid k7
      have Hc := Lib.hid hc
      have Hgo := Lib.hid hgo
      have Hdel := Lib.hid hdel
      clear hnext hgo hdel hc k7 hb7 hrg hrg' hs1 hs2 hs3 hu hrg6 hpm e
      by_cases hf : xf = f
      · have hd := Lib.hid (Hdel.out hf)
        have hdc : decide (xf = f) = true := decide_eq_true hf
        rw [hdc] at Hc
        clear Hgo Hdel hf hdc
        go_wp2_with (first | (go_at_call 221; ((with_reducible refine Hc.out.mono ?_); rintro _ w8 ⟨rfl, u8⟩; obtain ⟨_, _⟩ := cell2D (Nw.keep u8 K7.out); obtain ⟨w9, hrun, hD9, hl9⟩ := hd.out w8 u8)) | (at_delete; refine wpList_dropL rfl rfl _ _ 179 tSec rfl _ _ rfl rfl hrun ?_))
        go_roundw
        case rel => exact hD9
        case measure => exact hl9
      · have hd := Lib.hid (Hgo.out hf)
        have hdc : decide (xf = f) = false := decide_eq_false hf
        rw [hdc] at Hc
        clear Hgo Hdel hf hdc
        go_wp2_with (go_at_call 221; ((with_reducible refine Hc.out.mono ?_); rintro _ w8 ⟨rfl, u8⟩; obtain ⟨hD9, hl9⟩ := hd.out w8 u8))
        go_roundw
        case rel => exact hD9
        case measure => exact hl9
/-! ### settle -/
theorem DiskAt.laterD {B : Nat} {w : World} {r : DiskR} {D : Dk.Disk} (h : DiskAt B w r D) : (∀ i : Later w, i.1.cell? ⟨r.db, 0, none⟩ = some (.map (some r.fm))) ∧ (∀ i : Later w, i.1.cell? ⟨r.db, 1, none⟩ = some r.qv) ∧ (∀ i : Later w, i.1.cell? ⟨r.db, 2, none⟩ = some (.map (some r.sm))) :=
  ⟨fun i => (h.nw i.nw).cells.1, fun i => (h.nw i.nw).cells.2.1, fun i => (h.nw i.nw).cells.2.2.1⟩
/-- The disk's parts after the three steps of settle. -/
theorem settle_done {B db fm sm : Nat} {qv kv v' : Value} {W w3 w4 w5 w7 : World} {D : Dk.Disk} {f : Int} {s : List UInt8} (h1 : DiskAt B W ⟨db, fm, sm, qv, kv⟩ D) (hs : s.length ≤ 16777216) (u3 : Nw W w3) (u4 : Upd (fun k => k = fm) w3 w4) (hf4 : FilesL w4 fm (Dk.setF D.fs f ⟨s, s⟩))
    (o5 : w5.ownsRow B tSec 2 v' (D.q.filter fun p => !decide (p.1 = f)).length (flatQ (D.q.filter fun p => !decide (p.1 = f)))) (u5 : Upd (fun k => qv.ownBlock = some k) w4 w5) (ho5 : ∀ k, v'.ownBlock = some k → qv.ownBlock = some k)
    (u7 : Upd (fun k => k = sm) (w5.setCell ⟨db, 1, none⟩ v') w7) (s7 : SetL w7 sm (D.q.filter fun p => !decide (p.1 = f))) : DiskTo B ⟨db, fm, sm, qv, kv⟩ (Dk.settle D f s) W w7 := by
  obtain ⟨a1, a2, a3, a4, a5, a6, a7, a8, a9⟩ := h1.apart
  dsimp only at a1 a2 a3 a4 a5 a6 a7 a8 a9
  have hne := h1.ne
  have hdb := h1.db
  have hhb := h1.hb
  dsimp only at hne hdb
  have u6 : Upd (fun k => k = db) w5 (w5.setCell ⟨db, 1, none⟩ v') := Upd.set1 (Upd.refl _ _) (by omega) 1 v'
  have b5 := u5.keep (u4.keep (u3.keep h1.blk) a1) a3
  refine ⟨⟨db, fm, sm, v', kv⟩, ⟨h1.hb, h1.db, h1.fm, h1.sm, h1.ne, ?_, ?_, s7, ?_, ?_, Dk.settle_ok h1.ok f hs, h1.kI⟩, rfl, ?_, ?_⟩
  · have := setCell_block b5 1 v'
    exact u7.keep this a2
  · exact ((hf4.upd u5 a4).upd u6 (fun e => a1 e.symm)).upd u7 hne
  · refine owns_updD (owns_updD o5 u6 (fun k hk e => ?_)) u7 (fun k hk e => ?_)
    · subst e; exact a3 (ho5 _ hk)
    · subst e; exact a5 (ho5 _ hk)
  · refine owns_updD (owns_updD (owns_updD (owns_updD (owns_updD h1.keep u3 (fun _ _ e => e)) u4 (fun k hk e => ?_)) u5 (fun k hk e => ?_)) u6 (fun k hk e => ?_)) u7 (fun k hk e => ?_)
    · subst e; exact a7 hk
    · exact a9 k e hk
    · subst e; exact a6 hk
    · subst e; exact a8 hk
  · exact ((((Nw.upd _ u3).trans' u4 (fun k _ e => Or.inr (Or.inl e))).trans' u5 (fun k _ e => Or.inr (Or.inr (Or.inr (Or.inl e))))).trans' u6 (fun k _ e => Or.inl e)).trans' u7 (fun k _ e => Or.inr (Or.inr (Or.inl e)))
  · rintro j (e | e | e | e | e)
    · exact Or.inl (Or.inl e)
    · exact Or.inl (Or.inr (Or.inl e))
    · exact Or.inl (Or.inr (Or.inr (Or.inl e)))
    · exact Or.inl (Or.inr (Or.inr (Or.inr (Or.inl (ho5 _ e)))))
    · exact Or.inl (Or.inr (Or.inr (Or.inr (Or.inr e))))
theorem q_I64 {D : Dk.Disk} (h : Dk.Ok D) : ∀ p ∈ D.q, I64 p.1 ∧ I64 p.2 := fun p hp => by
  have := h.q p hp
  unfold I64
  omega
set_option maxHeartbeats 2000000 in
set_option maxRecDepth 100000 in
theorem settle_c {B : Nat} {w : World} {r : DiskR} {D : Dk.Disk} (h : DiskAt B w r D) (g : Gl w) {f : Int} (hf : I64 f) (s : List UInt8) (hs : s.length ≤ 16777216) (hB : B ≤ w.heap.size) :
    Calls Tryz.prog 198 #[.pointer (some ⟨r.db, 0, none⟩), .int .i64 f, .string ⟨s.toArray⟩] w fun e w' => e = .returned (.tuple #[]) ∧ DiskTo B r (Dk.settle D f s) w w' := by
  have hgb := g.big
  have n1 := nw_alloc w (.cells #[.int .i64 f] tIntD)
  have k1 := heap_new w (.cells #[.int .i64 f] tIntD)
  have s1 : (w.alloc (.cells #[.int .i64 f] tIntD)).heap.size = w.heap.size + 1 := by simp
  have h1 := h.nw n1
  have hlt : ∀ j, r.foot j → j < w.heap.size := fun j hj => (h.foot_lt hj).2
  obtain ⟨l0, l1, l2⟩ := h1.laterD
  have lb : ∀ i : Later (w.alloc (.cells #[.int .i64 f] tIntD)), i.1.cell? ⟨w.heap.size, 0, none⟩ = some (.int .i64 f) := fun i => by rw [cells_cell (i.nw.keep k1)]; rfl
  have H1 := Lib.hid h1
  have K1 := Lib.hid k1
  have Hlt := Lib.hid hlt
  have hqI := q_I64 H1.out.ok
  have hql := H1.out.ok.q_len
  have hnd := H1.out.ok.nd
  obtain ⟨db, fm, sm, qv, kv⟩ := r
  obtain ⟨aq, cq, hqv⟩ := own_slD H1.out.queue
  dsimp only at hqv
  subst hqv
  dsimp only at *
  have HqI := Lib.hid hqI
  have Hql := Lib.hid hql
  have Hnd := Lib.hid hnd
  have Hs := Lib.hid hs
  clear h h1 k1 hlt hqI hql hnd hs
  go_enter Tryz.func198, Tryz.ntmps198
  go_wp2_with fail
  refine wp_region_nw_tail 8 (by kernel_rfl) (by kernel_rfl) ?_
  simp only [List.take_succ_cons, List.take_zero, List.drop_succ_cons, List.drop_zero]
  repeat (go_big_quiet_step ((fail)))
  refine wpQuiet_nil ?_
  intro w3 u3
  replace u3 := later_out u3
  have h3 := H1.out.nw u3
  obtain ⟨w4, hst, hf4, u4⟩ := h3.files.put (by have := h3.fm; have := h3.hb; dsimp only at *; omega) hf ⟨s, s⟩
  obtain ⟨a1, a2, a3, a4, a5, a6, a7, a8, a9⟩ := h3.apart
  dsimp only [filV] at hst a1 a2 a3 a4 a5 a6 a7 a8 a9 hf4 u4
  have k4 := u4.keep (u3.keep K1.out) (fun e => by have := Hlt.out fm (Or.inr (Or.inl rfl)); omega)
  have b4 := u4.keep h3.blk a1
  have q4 := owns_updD h3.queue u4 (fun k hk e => by subst e; exact a4 hk)
  have s4 := h3.set.upd u4 (fun e => h3.ne e.symm)
  have d4 := delSecs 219 w.heap.size call_set1 (fun x => decide (x.1 = f)) B _ D.q w4 h3.hb (by have := Hql.out; omega) q4 (fun W x u hx => set1P x f w.heap.size W (u.keep k4 (fun e => by have := Hlt.out w.heap.size (Or.inr (Or.inr (Or.inr (Or.inl e)))); omega)))
  have x1 : w4.cell? ⟨db, 1, none⟩ = some (.slice aq D.q.length cq) := by rw [cells_cell b4]; rfl
  have D4 := Lib.hid d4
  have Hst := Lib.hid hst
  have Hf4 := Lib.hid hf4
  have B4 := Lib.hid b4
  have K4 := Lib.hid k4
  have S4 := Lib.hid s4
  have Ha := Lib.hid (And.intro a3 (And.intro a5 h3.ne))
  have Hsm := Lib.hid h3.sm
  have Hhb := Lib.hid h3.hb
  have Hlt2 : Hid (db < w.heap.size) := Hlt.out db (Or.inl rfl)
  have hgd : Hid (nG ≤ db) := Nat.le_trans h3.hb h3.db
  clear d4 hst hf4 b4 k4 q4 s4 a1 a2 a3 a4 a5 a6 a7 a8 a9 h3 l0 l1 l2 lb
  go_wp2_with (at_mapUpdate; refine wpList_storeL rfl _ _ _ tFiles rfl _ _ _ rfl rfl rfl Hst.out ?_)
  go_wp2_with fail
  (with_reducible refine (D4.out).mono ?_)
  rintro _ w5 ⟨v', rfl, o5, u5, ho5⟩
  have b5 := u5.keep B4.out Ha.out.1
  have k5 := u5.keep K4.out (fun e => by have := Hlt.out w.heap.size (Or.inr (Or.inr (Or.inr (Or.inl e)))); omega)
  have y1 : w5.cell? ⟨db, 1, none⟩ = some (.slice aq D.q.length cq) := by rw [cells_cell b5]; rfl
  have y2 : w5.cell? ⟨db, 2, none⟩ = some (.map (some sm)) := by rw [cells_cell b5]; rfl
  have f1 := cells_frozen b5 1
  have u6 : Upd (fun k => k = db) w5 (w5.setCell ⟨db, 1, none⟩ v') := Upd.set1 (Upd.refl _ _) hgd.out 1 v'
  have s6 := (S4.out.upd u5 Ha.out.2.1).upd u6 (fun e => by have := DiskAt.apart H1.out; exact this.2.1 e.symm)
  have k6 := u6.keep k5 (fun e => by have := Hlt2.out; omega)
  have d7 := delSet w.heap.size sm D.q f (w5.setCell ⟨db, 1, none⟩ v') (Nat.le_trans hgb (Nat.le_trans n1.size (Nat.le_trans u3.size (Nat.le_trans u4.size (Nat.le_trans u5.size (by simp [World.setCell])))))) s6 (Nat.le_trans Hhb.out Hsm.out) k6 (fun e => by have := Hlt.out sm (Or.inr (Or.inr (Or.inl rfl))); omega) HqI.out Hnd.out
  have D7 := Lib.hid d7
  have O5 := Lib.hid o5
  obtain ⟨av, cv, rfl⟩ := own_slD o5
  clear d7 k6 s6 u6 b5 k5 D4 o5
  go_wp2_with fail
  (with_reducible refine (D7.out).mono ?_)
  rintro _ w7 ⟨rfl, s7, u7⟩
  go_wp2_with fail
  go_end0
  exact ⟨rfl, DiskTo.after n1 (settle_done H1.out Hs.out u3 u4 Hf4.out O5.out u5 ho5 u7 s7)⟩
end Go.Proofs.YtagmlemlagbfkaaGreatDoor
namespace Go.Proofs.YtagmlemlagbfkaaGreatDoor
open Go.RowKit
set_option linter.unusedVariables false
set_option linter.unusedSimpArgs false

section
variable {P : Program} {ops : Array Oper} {Q : Exit → Act → World → Prop} {md : Region.Mode} {S : World → Prop} {k : Nat}

/-- What has come up has come up behind all that it waits for. -/
def Closed (md : Region.Mode) (ops : Array Oper) (listed : Array Bool) : Prop := ∀ j oj, ops[j]? = some oj → listed.getD j false = true → ∀ e ∈ oj.after, Region.binds md e = true → listed.getD e.on false = true
def closedB (md : Region.Mode) (ops : Array Oper) (listed : Array Bool) : Bool :=
  (List.range ops.size).all fun j => !listed.getD j false || (match ops[j]? with | some oj => oj.after.all fun e => !Region.binds md e || listed.getD e.on false | none => true)
theorem closed_of {listed : Array Bool} (h : closedB md ops listed = true) : Closed md ops listed := by
  intro j oj hj hl e he hb
  unfold closedB at h
  rw [List.all_eq_true] at h
  have h1 := h j (List.mem_range.2 (Array.getElem?_eq_some_iff.1 hj).1)
  rw [hl, hj] at h1
  simp only [Bool.not_true, Bool.false_or] at h1
  have h2 := Array.all_eq_true'.1 h1 e he
  rw [hb] at h2
  simpa using h2
theorem Closed.set {i : Nat} {listed : Array Bool} (inv : Closed md ops listed) (hi : i ∈ Region.ready md ops listed) : Closed md ops (listed.setIfInBounds i true) := by
  obtain ⟨_, oi, hoi, hall⟩ := mem_ready.1 hi
  intro j oj hj hl e he hb
  by_cases hij : i = j
  · subst hij
    have : oj = oi := Option.some.inj (hj.symm.trans hoi)
    subst this
    exact getD_set_true (hall e he hb)
  · rw [getD_set_ne false hij] at hl
    exact getD_set_true (inv j oj hj hl e he hb)
/-- Number k waits for number i, by way of others. -/
def leads (md : Region.Mode) (ops : Array Oper) : Nat → List Nat → Nat → Bool
  | k, [], i => Region.waitsFor md ops k i
  | k, j :: p, i => Region.waitsFor md ops k j && leads md ops j p i
theorem leads_spec {listed : Array Bool} (hc : Closed md ops listed) {i : Nat} : ∀ (p : List Nat) (k : Nat), leads md ops k p i = true → listed.getD k false = true → listed.getD i false = true
  | [], k, h, hk => by
    obtain ⟨oj, hoj, e, he, hb, hon⟩ := Region.waitsFor_spec h
    have := hc k oj hoj hk e he hb
    rwa [hon] at this
  | j :: p, k, h, hk => by
    unfold leads at h
    rw [Bool.and_eq_true] at h
    obtain ⟨oj, hoj, e, he, hb, hon⟩ := Region.waitsFor_spec h.1
    have := hc k oj hoj hk e he hb
    rw [hon] at this
    exact leads_spec hc p j h.2 this
/-- Whatever order is picked from here on, and S holds behind every operation till number k has come up. -/
def wpAnyG (P : Program) (md : Region.Mode) (ops : Array Oper) (Q : Exit → Act → World → Prop) (S : World → Prop) (k : Nat) : Nat → Array Bool → Act → World → Prop
  | 0, listed, a, w => Region.ready md ops listed = [] ∧ Q .normal a w
  | fuel + 1, listed, a, w =>
    (Region.ready md ops listed = [] → Q .normal a w) ∧
    ∀ i ∈ Region.ready md ops listed, wpOp P ops Q i (fun a' w' => ((listed.setIfInBounds i true).getD k false = false → S w') ∧ wpAnyG P md ops Q S k fuel (listed.setIfInBounds i true) a' w') a w
/-- Whichever comes up next. -/
def AllG (P : Program) (md : Region.Mode) (ops : Array Oper) (Q : Exit → Act → World → Prop) (S : World → Prop) (k : Nat) (fuel : Nat) (listed : Array Bool) (a : Act) (w : World) (rs : List Nat) : Prop :=
  ∀ i ∈ rs, wpOp P ops Q i (fun a' w' => ((listed.setIfInBounds i true).getD k false = false → S w') ∧ wpAnyG P md ops Q S k fuel (listed.setIfInBounds i true) a' w') a w
theorem AllG.nil {fuel : Nat} {listed : Array Bool} {a : Act} {w : World} : AllG P md ops Q S k fuel listed a w [] := fun _ h => by cases h
theorem AllG.cons {fuel : Nat} {listed : Array Bool} {a : Act} {w : World} {i : Nat} {o : Oper} {rs : List Nat} (ho : ops[i]? = some o)
    (h : ∀ K' : Act → World → Prop, Hid (∀ a w, ((listed.setIfInBounds i true).getD k false = false → S w) → wpAnyG P md ops Q S k fuel (listed.setIfInBounds i true) a w → K' a w) → if Region.wanted o (yielded ops a.tmps) = true then Oper.wp P o a w K' Q else K' (a.put o.dst undef) w)
    (hs : AllG P md ops Q S k fuel listed a w rs) : AllG P md ops Q S k fuel listed a w (i :: rs) := fun j hj => by
  rcases List.mem_cons.1 hj with rfl | hj
  · exact wpOp_step ho (fun K' hK => h K' (fun a w hS hW => hK a w ⟨hS, hW⟩))
  · exact hs j hj
end
end Go.Proofs.YtagmlemlagbfkaaGreatDoor
namespace Go.Proofs.YtagmlemlagbfkaaGreatDoor
open Go.RowKit
set_option linter.unusedVariables false
set_option linter.unusedSimpArgs false

section
variable {P : Program} {ops : Array Oper} {Q : Exit → Act → World → Prop} {md : Region.Mode} {S1 S2 : World → Prop} {k : Nat}
/-- What is known of the world behind the operations that have come up. -/
def SH (k : Nat) (S1 S2 : World → Prop) (listed : Array Bool) (w : World) : Prop := (listed.getD k false = false → S1 w) ∧ S2 w
theorem SH.iff {i : Nat} (hik : i ≠ k) (listed : Array Bool) (w : World) : SH k S1 S2 (listed.setIfInBounds i true) w ↔ SH k S1 S2 listed w := by
  unfold SH
  rw [getD_set_ne false hik]
def wpAnyH (P : Program) (md : Region.Mode) (ops : Array Oper) (Q : Exit → Act → World → Prop) (k : Nat) (S1 S2 : World → Prop) : Nat → Array Bool → Act → World → Prop
  | 0, listed, a, w => Region.ready md ops listed = [] ∧ Q .normal a w
  | fuel + 1, listed, a, w =>
    (Region.ready md ops listed = [] → Q .normal a w) ∧
    ∀ i ∈ Region.ready md ops listed, wpOp P ops Q i (fun a' w' => SH k S1 S2 (listed.setIfInBounds i true) w' ∧ wpAnyH P md ops Q k S1 S2 fuel (listed.setIfInBounds i true) a' w') a w
theorem wpAny_of_H : ∀ (fuel : Nat) (listed : Array Bool) (a : Act) (w : World), wpAnyH P md ops Q k S1 S2 fuel listed a w → wpAny P md ops Q fuel listed a w
  | 0, _, _, _, h => h
  | fuel + 1, _, _, _, h => ⟨h.1, fun i hi => wpOp_mono (fun a' w' h' => wpAny_of_H fuel _ a' w' h'.2) (h.2 i hi)⟩
theorem wpAnyH_first {S' : World → Prop} {i : Nat} {oi : Oper} {v : Value} (hi : ops[i]? = some oi) (hik : i ≠ k) (hsel : ∀ (j : Nat) (o : Oper) cs b, ops[j]? = some o → o.op ≠ .select cs b)
    (hQ : ∀ c a w, Q (.panic c) (a.put oi.dst v) w → Q (.panic c) a w) (hT : ∀ listed w, Closed md ops listed → listed.getD i true = false → SH k S1 S2 listed w → S' w) :
    ∀ (fuel : Nat) (listed : Array Bool) (a : Act) (w : World),
      (∀ j oj, ops[j]? = some oj → j ≠ i → listed.getD j true = false → (∀ e ∈ oj.after, Region.binds md e = true → e.on ≠ i) → oi.apart ops oj = true) →
      Closed md ops listed → i ∈ Region.ready md ops listed → YieldsIf P ops S' oi v a → SH k S1 S2 listed w →
      wpAnyH P md ops Q k S1 S2 fuel (listed.setIfInBounds i true) (a.put oi.dst v) w → wpAnyH P md ops Q k S1 S2 (fuel + 1) listed a w := by
  intro fuel
  induction fuel with
  | zero =>
    intro listed a w _ hc hr hy hS H
    refine ⟨fun h => (by rw [h] at hr; cases hr), fun j hj => ?_⟩
    by_cases hji : j = i
    · subst hji
      exact hy.wpOp hi (hT _ _ hc (mem_ready.1 hr).1 hS) ⟨(SH.iff hik _ _).2 hS, H⟩
    · have := ready_mono hj hji
      rw [H.1] at this
      cases this
  | succ fuel ih =>
    intro listed a w hfree hc hr hy hS H
    refine ⟨fun h => (by rw [h] at hr; cases hr), fun j hj => ?_⟩
    by_cases hji : j = i
    · subst hji
      exact hy.wpOp hi (hT _ _ hc (mem_ready.1 hr).1 hS) ⟨(SH.iff hik _ _).2 hS, H⟩
    · have h1 := H.2 j (ready_mono hj hji)
      obtain ⟨hjun, oj, hoj, hall⟩ := mem_ready.1 hj
      have hiun := (mem_ready.1 hr).1
      have hnot : ∀ e ∈ oj.after, Region.binds md e = true → e.on ≠ i := fun e he hb heq => by
        have h1 := hall e he hb
        rw [heq, getD_both hiun] at h1
        cases h1
      have h2 := wpOp_putIf hoj (hfree j oj hoj hji hjun hnot) (fun cs b => hsel i oi cs b hi) (fun cs b => hsel j oj cs b hoj) hQ hy h1
      have hfree' : ∀ k ok, ops[k]? = some ok → k ≠ i → (listed.setIfInBounds j true).getD k true = false →
          (∀ e ∈ ok.after, Region.binds md e = true → e.on ≠ i) → oi.apart ops ok = true := fun k ok hk hki hun hno => by
        refine hfree k ok hk hki ?_ hno
        by_cases hjk : j = k
        · subst hjk; exact hjun
        · rw [getD_set_ne true hjk] at hun; exact hun
      refine wpOp_mono (fun a' w' h3 => ?_) h2
      have hS' : SH k S1 S2 (listed.setIfInBounds j true) w' := by
        have := h3.2.1
        rw [Array.setIfInBounds_comm _ _ (Ne.symm hji)] at this
        exact (SH.iff hik _ _).1 this
      refine ⟨hS', ih (listed.setIfInBounds j true) a' w' hfree' (hc.set hj) (ready_mono hr (Ne.symm hji)) h3.1 hS' ?_⟩
      rw [Array.setIfInBounds_comm _ _ hji]
      exact h3.2.2
/-- Take number i first: it yields in whatever world. -/
theorem wpAnyH_pure {i : Nat} {oi : Oper} {v : Value} {fuel : Nat} {listed : Array Bool} {a : Act} {w : World} (hi : ops[i]? = some oi) (hik : (i == k) = false)
    (hs : Region.noSelect ops = true) (hf : Region.free md ops listed i = true) (hr : (Region.ready md ops listed).contains i = true) (hc : closedB md ops listed = true)
    (hQ : ∀ c a w, Q (.panic c) (a.put oi.dst v) w → Q (.panic c) a w) (hw : Region.wanted oi (yielded ops a.tmps) = true) (hy : ∀ w, (execOp a.eval oi).run P w = .ok (.value v) w) (hS : SH k S1 S2 listed w)
    (h : wpAnyH P md ops Q k S1 S2 fuel (listed.setIfInBounds i true) (a.put oi.dst v) w) : wpAnyH P md ops Q k S1 S2 (fuel + 1) listed a w :=
  wpAnyH_first (S' := fun _ => True) hi (by simpa using hik) (Region.noSelect_spec hs) hQ (fun _ _ _ _ _ => trivial) fuel listed a w (Region.free_spec hi hf) (closed_of hc) (by simpa using hr) (Or.inl ⟨hw, fun w _ => hy w⟩) hS h
/-- Take number i first: it yields in the worlds of S1 and S2, and number k waits for it. -/
theorem wpAnyH_load1 {i : Nat} {oi : Oper} {v : Value} {fuel : Nat} {listed : Array Bool} {a : Act} {w : World} (p : List Nat) (hi : ops[i]? = some oi) (hik : (i == k) = false) (hp : leads md ops k p i = true)
    (hs : Region.noSelect ops = true) (hf : Region.free md ops listed i = true) (hr : (Region.ready md ops listed).contains i = true) (hc : closedB md ops listed = true)
    (hQ : ∀ c a w, Q (.panic c) (a.put oi.dst v) w → Q (.panic c) a w) (hw : Region.wanted oi (yielded ops a.tmps) = true) (hy : ∀ w, S1 w → S2 w → (execOp a.eval oi).run P w = .ok (.value v) w) (hS : SH k S1 S2 listed w)
    (h : wpAnyH P md ops Q k S1 S2 fuel (listed.setIfInBounds i true) (a.put oi.dst v) w) : wpAnyH P md ops Q k S1 S2 (fuel + 1) listed a w :=
  wpAnyH_first (S' := fun w => S1 w ∧ S2 w) hi (by simpa using hik) (Region.noSelect_spec hs) hQ (fun l w hcl hun hSw => ⟨hSw.1 (by
    cases hb : l.getD k false with
    | false => rfl
    | true =>
      have := leads_spec hcl p k hp hb
      rw [getD_both hun] at this
      cases this), hSw.2⟩) fuel listed a w (Region.free_spec hi hf) (closed_of hc) (by simpa using hr) (Or.inl ⟨hw, fun w h => hy w h.1 h.2⟩) hS h
/-- Take number i first: it yields in the worlds of S2. -/
theorem wpAnyH_load2 {i : Nat} {oi : Oper} {v : Value} {fuel : Nat} {listed : Array Bool} {a : Act} {w : World} (hi : ops[i]? = some oi) (hik : (i == k) = false)
    (hs : Region.noSelect ops = true) (hf : Region.free md ops listed i = true) (hr : (Region.ready md ops listed).contains i = true) (hc : closedB md ops listed = true)
    (hQ : ∀ c a w, Q (.panic c) (a.put oi.dst v) w → Q (.panic c) a w) (hw : Region.wanted oi (yielded ops a.tmps) = true) (hy : ∀ w, S2 w → (execOp a.eval oi).run P w = .ok (.value v) w) (hS : SH k S1 S2 listed w)
    (h : wpAnyH P md ops Q k S1 S2 fuel (listed.setIfInBounds i true) (a.put oi.dst v) w) : wpAnyH P md ops Q k S1 S2 (fuel + 1) listed a w :=
  wpAnyH_first (S' := S2) hi (by simpa using hik) (Region.noSelect_spec hs) hQ (fun l w _ _ hSw => hSw.2) fuel listed a w (Region.free_spec hi hf) (closed_of hc) (by simpa using hr) (Or.inl ⟨hw, hy⟩) hS h
/-- The beginning. -/
theorem wp_region_H {id : Nat} {a : Act} {w : World} (k : Nat) (S1 S2 : World → Prop) (hm : P.follows .mixedOrders = true) (h : wpAnyH P .any ops Q k S1 S2 ops.size (Array.replicate ops.size false) a w.drew) : (Code.region id ops true).wp P Q a w :=
  wp_region_any hm (wpAny_of_H _ _ _ _ h)
/-- The one that comes up next. -/
theorem wpAnyH_one {fuel : Nat} {listed : Array Bool} {a : Act} {w : World} {i : Nat} {o : Oper} (hr : Region.ready md ops listed = [i]) (ho : ops[i]? = some o)
    (h : ∀ K' : Act → World → Prop, Hid (∀ a w, SH k S1 S2 (listed.setIfInBounds i true) w → wpAnyH P md ops Q k S1 S2 fuel (listed.setIfInBounds i true) a w → K' a w) → if Region.wanted o (yielded ops a.tmps) = true then Oper.wp P o a w K' Q else K' (a.put o.dst undef) w) :
    wpAnyH P md ops Q k S1 S2 (fuel + 1) listed a w :=
  ⟨(fun h0 => by rw [hr] at h0; cases h0), fun j hj => by
    rw [hr] at hj
    obtain rfl := List.mem_singleton.1 hj
    exact wpOp_step ho (fun K' hK => h K' (fun a w hS hW => hK a w ⟨hS, hW⟩))⟩
theorem wpAnyH_done {listed : Array Bool} {a : Act} {w : World} (hr : Region.ready md ops listed = []) (h : Q .normal a w) :
    ∀ fuel, wpAnyH P md ops Q k S1 S2 fuel listed a w
  | 0 => ⟨hr, h⟩
  | _ + 1 => ⟨fun _ => h, by rw [hr]; simp⟩
end
end Go.Proofs.YtagmlemlagbfkaaGreatDoor
