/- The contract of the disk's write. -/
import Derived.Test.YtagmlemlagbfkaaGreatDoorPkFSurv7
import Derived.Deep.CutRange
import Derived.Deep.AppendLies
import Derived.WideKeyEntry
namespace Go.Proofs.YtagmlemlagbfkaaGreatDoor
open Go.RowKit Go.MapKept
open Go.Maps (Keyed)
set_option linter.unusedVariables false
set_option linter.unusedSimpArgs false
attribute [local irreducible] Calls

/-- 'append(s, x)' at a step of a region that draws its order: s is the call's own since W0, of which only blocks in T have changed. -/
theorem step_appD {P : Program} {w : World} {ops : Array Oper} {o : Oper} {a : Act} {K : Act → World → Prop} {Q : Exit → Act → World → Prop} {E : Prop} (hgd : o.guard = none) (s x : Operand) (t : TypeId)
    (ho : o.op = .call { callee := .builtin .append, args := #[s, x], argTypes := #[t, t] })
    (base : Nat) (e : TypeId) (z : Value) (size bytes : Nat) (ht : P.underlying t = some (.slice e)) (hinfo : (P.info? e).map (fun i => (i.zero, i.size, i.bytes)) = some (some z, size, bytes)) (hzs : z.cells.size = size) (hsz : 0 < size)
    (v : Value) (n : Nat) (xs : List Value) (hs : a.eval s = v) (W0 : World) (T : Nat → Prop) (hown : W0.ownsRow base e size v n xs) (u : Upd T W0 w) (hT : ∀ k, v.ownBlock = some k → ¬ T k)
    (nb : Nat) (news : List Value) (hx : a.eval x = .slice (some ⟨nb, 0, none⟩) 1 1) (hb : w.heap[nb]? = some (.cells news.toArray e (0, 0))) (hl : news.length = size) (h1 : ∀ u ∈ news, u.oneCell' = true)
    (h63 : n + 1 ≤ maxLen) (hbytes : (n + 1) * bytes ≤ 140737488355328) (hbase : base ≤ W0.heap.size) (hnG : nG ≤ base)
    (h : ∀ g cap w', w'.ownsRow base e size (.slice (some ⟨g, 0, none⟩) (n + 1) cap) (n + 1) (xs ++ news) → Upd (fun k => v.ownBlock = some k) w w' → (v.ownBlock = some g ∨ W0.heap.size ≤ g) → K (a.put o.dst (.slice (some ⟨g, 0, none⟩) (n + 1) cap)) w') :
    if Region.wanted o (yielded ops a.tmps) = true then Oper.wp P o a w K Q else E := by
  obtain ⟨i0, hi, hz0, hz1, hz2⟩ := info_parts hinfo
  have hsz2 := u.size
  refine step_append_lies _ hgd s x t ho base e i0 z size bytes ht hi hz0 hz1 hz2 hzs hsz v n xs hs (owns_updD hown u hT) ⟨nb, 0, none⟩ 1 1 news hx (by omega) ?_ h1 (by omega) h63 hbytes (by omega) w.heap.size rfl fun g cap w' h2 h3 h4 h5 => ?_
  · intro j u hu
    rw [add_plain, cells_cell hb, Nat.zero_add]
    simpa using hu
  · refine h g cap w' h2 ((Upd.refl _ w).grown h3 fun k hk => ⟨Or.inl hk, ?_⟩) (h4.imp id (fun e => by omega))
    have := (hown.lt k hk).1
    omega
/-- 'd.set[p] = true' in two steps: the entry is made, and filled. -/
theorem SetL.entry {w : World} {b : Nat} {q : List (Int × Int)} (h : SetL w b q) (hg : nG ≤ b) {p : Int × Int} (h1 : I64 p.1) (h2 : I64 p.2) (hn : p ∉ q) :
    ∃ (st : Nat) (w1 w2 : World), (Instr.mapEntry tSet (.map (some b)) (secV p)).run Tryz.prog w = .ok (.tuple #[.bool false, .int .i64 st]) w1 ∧ (Instr.entryStore tSet (.map (some b)) (.int .i64 st) (.bool true)).run Tryz.prog w1 = .ok () w2 ∧ SetL w2 b (q ++ [p]) ∧ Upd (· = b) w w2 ∧ Upd (· = b) w w1 := by
  obtain ⟨es, clock, hb, hpm, hk, hs⟩ := h
  obtain ⟨kl, hkl⟩ := sec_key h1 h2
  have hz : ∀ w, (zeroValue 4).run Tryz.prog w = .ok (.bool false) w := fun w => by kernel_rfl
  have ht := Tryz.underlying179
  have hno : ∀ x ∈ es.toList, x.key ≠ secV p := fun x hx e => by
    obtain ⟨y, hy, e2⟩ := List.mem_map.1 (hpm.mem_iff.1 (List.mem_map.2 ⟨x, hx, rfl⟩))
    have := (Prod.mk.inj e2).1
    exact hn (secV_inj (this.trans e) ▸ hy)
  have hlt := lt_of_block hb
  rcases secKeyed.find w hkl es.toList (fun x hx => hk (x.key, x.val) (hpm.mem_iff.1 (List.mem_map.2 ⟨x, hx, rfl⟩))) with ⟨q1, q2⟩ | ⟨j, e0, q1, q2, q3⟩
  · have hst := (stamped_iff es clock).1 hs
    have hb1 : ({ w with heap := w.heap.setIfInBounds b (.map (es.push ⟨secV p, .bool false, clock⟩) (clock + 1)) } : World).heap[b]? = some (.map (es.push ⟨secV p, .bool false, clock⟩) (clock + 1)) := by simp [Array.getElem?_setIfInBounds, hlt]
    refine ⟨clock, { w with heap := w.heap.setIfInBounds b (.map (es.push ⟨secV p, .bool false, clock⟩) (clock + 1)) }, { w with heap := (w.heap.setIfInBounds b (.map (es.push ⟨secV p, .bool false, clock⟩) (clock + 1))).setIfInBounds b (.map (es.push ⟨secV p, .bool true, clock⟩) (clock + 1)) }, ?_, ?_, ?_, ?_, Upd.setBlock hg _⟩
    · simp [Instr.mapEntry, run_underlying ht, MapKept.run_getObj_map hb, secKeyed.check w false hkl, q1, hz, MapKept.run_setObj_map _ hb, Result.andThen, goInt]
    · have hidx : (es.push ⟨secV p, .bool false, clock⟩).findIdx? (fun e => ((e.born : Nat) : Int) == ((clock : Nat) : Int)) = some es.size := by
        rw [Go.WideElems.findIdx_arr]
        exact Go.WideElems.findIdx_born (l := (es.push ⟨secV p, .bool false, clock⟩).toList) (j := es.size) (e0 := ⟨secV p, .bool false, clock⟩) (by
          simp only [Array.toList_push, List.map_append, List.map_cons, List.map_nil]
          refine List.nodup_append.2 ⟨hst.2.1, by simp, fun a ha c hc e1 => ?_⟩
          simp only [List.mem_singleton] at hc
          obtain ⟨x, hx, rfl⟩ := List.mem_map.1 ha
          have := hst.1 x hx
          omega) (by simp)
      have hmod : (es.push ⟨secV p, .bool false, clock⟩).modify es.size (fun e => { e with val := .bool true }) = es.push ⟨secV p, .bool true, clock⟩ := by
        apply Array.ext'
        rw [Array.toList_modify, Array.toList_push, Array.toList_push, ← Array.length_toList, Go.WideElems.modify_last]
      simp [Instr.entryStore, MapKept.run_getObj_map hb1, asInt, asIntOf, hidx, hmod, MapKept.run_setObj_map _ hb1, Result.andThen]
    · refine ⟨es.push ⟨secV p, .bool true, clock⟩, clock + 1, by simp [Array.getElem?_setIfInBounds, hlt], ?_, ?_, stamped_push hs q2⟩
      · rw [List.map_append]
        have := hpm.append_right [(secV p, Value.bool true)]
        simpa [secE] using this
      · intro x hx
        rw [List.map_append] at hx
        rcases List.mem_append.1 hx with hx | hx
        · exact hk x hx
        · rw [List.mem_singleton.1 hx]; exact ⟨kl, hkl⟩
    · exact (Upd.setBlock hg _).trans (Upd.setBlock (w := { w with heap := w.heap.setIfInBounds b (.map (es.push ⟨secV p, .bool false, clock⟩) (clock + 1)) }) hg _)
  · exact absurd q3 (hno e0 (List.mem_of_getElem? q2))
theorem step_mapEntry {P : Program} {w w' : World} {ops : Array Oper} {o : Oper} {a : Act} {K : Act → World → Prop} {Q : Exit → Act → World → Prop} {E : Prop} (hgd : o.guard = none) (t : TypeId) (m x : Operand) (hop : o.op = Op.mapEntry t m x)
    (vm key v : Value) (hm : a.eval m = vm) (hx : a.eval x = key) (hrun : (Instr.mapEntry t vm key).run P w = .ok v w') (h : K (a.put o.dst v) w') : if Region.wanted o (yielded ops a.tmps) = true then Oper.wp P o a w K Q else E := by
  rw [if_pos (by simp [Region.wanted, hgd])]
  unfold Oper.wp
  simp [execOp, hop, hm, hx, hrun, Result.andThen]
  exact h
theorem step_entryStore {P : Program} {w w' : World} {ops : Array Oper} {o : Oper} {a : Act} {K : Act → World → Prop} {Q : Exit → Act → World → Prop} {E : Prop} (hgd : o.guard = none) (t : TypeId) (m x y : Operand) (hop : o.op = Op.entryStore t m x y)
    (vm st v : Value) (hm : a.eval m = vm) (hx : a.eval x = st) (hy : a.eval y = v) (hrun : (Instr.entryStore t vm st v).run P w = .ok () w') (h : K (a.put o.dst undef) w') : if Region.wanted o (yielded ops a.tmps) = true then Oper.wp P o a w K Q else E := by
  rw [if_pos (by simp [Region.wanted, hgd])]
  unfold Oper.wp
  simp [execOp, hop, hm, hx, hy, hrun, Result.andThen]
  exact h
theorem infoSec : (Tryz.prog.info? tSec).map (fun i => (i.zero, i.size, i.bytes)) = some (some (.agg #[.int .i64 0, .int .i64 0]), 2, 16) := by kernel_rfl
/-- What is left when a sector has been noted. -/
theorem note_done {B db fm sm : Nat} {qv kv v' : Value} {W ws w7 : World} {E : Dk.Disk} {p : Int × Int} (h : DiskAt B W ⟨db, fm, sm, qv, kv⟩ E) (hown : ws.ownsRow B tSec 2 v' (E.q.length + 1) (flatQ E.q ++ secL p)) (uS : Upd (fun k => qv.ownBlock = some k) W ws) (oS : ∀ k, v'.ownBlock = some k → qv.ownBlock = some k ∨ W.heap.size ≤ k)
    (u7 : Upd (fun k => k = sm) (ws.setCell ⟨db, 1, none⟩ v') w7) (s7 : SetL w7 sm (E.q ++ [p])) (hk : Dk.Ok { E with q := E.q ++ [p] }) : DiskTo B ⟨db, fm, sm, qv, kv⟩ { E with q := E.q ++ [p] } W w7 := by
  obtain ⟨a1, a2, a3, a4, a5, a6, a7, a8, a9⟩ := h.apart
  dsimp only at a1 a2 a3 a4 a5 a6 a7 a8 a9
  have hne := h.ne
  have hdb := h.db
  have hhb := h.hb
  have hlt : ∀ j, DiskR.foot ⟨db, fm, sm, qv, kv⟩ j → j < W.heap.size := fun j hj => (h.foot_lt hj).2
  dsimp only at hne hdb
  have u6 : Upd (fun k => k = db) ws (ws.setCell ⟨db, 1, none⟩ v') := Upd.set1 (Upd.refl _ _) (by omega) 1 v'
  have b5 := uS.keep h.blk a3
  have hno : ∀ k, v'.ownBlock = some k → k ≠ db ∧ k ≠ sm := fun k hk2 => by
    rcases oS k hk2 with e | e
    · exact ⟨fun e2 => a3 (e2 ▸ e), fun e2 => a5 (e2 ▸ e)⟩
    · have h1 := hlt db (Or.inl rfl)
      have h2 := hlt sm (Or.inr (Or.inr (Or.inl rfl)))
      exact ⟨by omega, by omega⟩
  refine ⟨⟨db, fm, sm, v', kv⟩, ⟨h.hb, h.db, h.fm, h.sm, h.ne, ?_, ?_, s7, ?_, ?_, hk, h.kI⟩, rfl, ?_, ?_⟩
  · have := setCell_block b5 1 v'
    exact u7.keep this a2
  · exact ((h.files.upd uS a4).upd u6 (fun e => a1 e.symm)).upd u7 hne
  · dsimp only
    rw [List.length_append, List.length_singleton, flatQ_snoc]
    exact owns_updD (owns_updD hown u6 (fun k hk2 e => (hno k hk2).1 e)) u7 (fun k hk2 e => (hno k hk2).2 e)
  · refine owns_updD (owns_updD (owns_updD h.keep uS (fun k hk2 e => ?_)) u6 (fun k hk2 e => ?_)) u7 (fun k hk2 e => ?_)
    · exact a9 k e hk2
    · subst e; exact a6 hk2
    · subst e; exact a8 hk2
  · exact ((uS.mono (fun k _ e => Or.inr (Or.inr (Or.inr (Or.inl e))))).trans' u6 (fun k _ e => Or.inl e)).trans' u7 (fun k _ e => Or.inr (Or.inr (Or.inl e)))
  · rintro j (e | e | e | e | e)
    · exact Or.inl (Or.inl e)
    · exact Or.inl (Or.inr (Or.inl e))
    · exact Or.inl (Or.inr (Or.inr (Or.inl e)))
    · exact (oS _ e).imp (fun e => Or.inr (Or.inr (Or.inr (Or.inl e)))) id
    · exact Or.inl (Or.inr (Or.inr (Or.inr (Or.inr e))))
/-- One call after the other. -/
theorem DiskTo.then_ {B : Nat} {w w1 w2 : World} {r r' : DiskR} {D D1 D2 : Dk.Disk} (h0 : DiskAt B w r D) (h1 : DiskAt B w1 r' D1) (hdb : r'.db = r.db) (u1 : Upd r.foot w w1) (f1 : ∀ j, r'.foot j → r.foot j ∨ w.heap.size ≤ j) (h2 : DiskTo B r' D2 w1 w2) : DiskTo B r D2 w w2 := by
  obtain ⟨r2, k1, k2, k3, k4⟩ := h2
  have hlt := u1.size
  refine ⟨r2, k1, k2.trans hdb, u1.trans' k3 (fun k hk e => (f1 k e).elim id (fun e2 => by omega)), fun j hj => ?_⟩
  rcases k4 j hj with e | e
  · exact f1 j e
  · exact Or.inr (by omega)
/-- The map of files is stored into. -/
theorem DiskAt.putF {B : Nat} {w w' : World} {r : DiskR} {D D' : Dk.Disk} (h : DiskAt B w r D) (u : Upd (fun k => k = r.fm) w w') (hf : FilesL w' r.fm D'.fs) (e2 : D'.q = D.q) (e3 : D'.keep = D.keep) (e4 : D'.lost = D.lost) (e5 : D'.down = D.down) (e6 : D'.armed = D.armed) (hk : Dk.Ok D') : DiskAt B w' r D' := by
  obtain ⟨a1, a2, a3, a4, a5, a6, a7, a8, a9⟩ := h.apart
  refine ⟨h.hb, h.db, h.fm, h.sm, h.ne, ?_, hf, ?_, ?_, ?_, hk, by rw [e3]; exact h.kI⟩
  · have := u.keep h.blk a1
    unfold diskC at this ⊢
    rw [e4, e5, e6]; exact this
  · rw [e2]; exact h.set.upd u (fun e => h.ne e.symm)
  · rw [e2]; exact owns_updD h.queue u (fun k hk2 e => by subst e; exact a4 hk2)
  · rw [e3]; exact owns_updD h.keep u (fun k hk2 e => by subst e; exact a7 hk2)
set_option maxHeartbeats 4000000 in
set_option maxRecDepth 100000 in
theorem write0_c {B : Nat} {w : World} {r : DiskR} {D : Dk.Disk} (h : DiskAt B w r D) (g : Gl w) (hB : B ≤ w.heap.size) {f i : Int} (hf : I64 f) (hi : I64 i) (s : List UInt8) (hs : s.length ≤ 1000000000) :
    Calls Tryz.prog 200 #[.pointer (some ⟨r.db, 0, none⟩), .int .i64 f, .int .i64 i, .string ⟨s.toArray⟩] w fun e w' => e = .returned (.int .i64 (Dk.write0 D f i s).2) ∧ DiskTo B r (Dk.write0 D f i s).1 w w' := by
  have hgb := g.big
  have hm := Lib.hid (may_c h f)
  have hsz : (s.length : Int) ≤ 1000000000 := by omega
  have hs0 : (0 : Int) ≤ s.length := by omega
  have H := Lib.hid h
  by_cases hm0 : Dk.may D f = 0
  rotate_left
  · have hr : Hid (Dk.write0 D f i s = (D, Dk.may D f)) := by show _ = _; unfold Dk.write0; rw [if_pos hm0]
    have d0 : (Dk.may D f == 0) = false := beq_eq_false_iff_ne.2 hm0
    have d1 : (Dk.may D f != 0) = true := by simp [hm0]
    clear hm0 h hs hi hf
    go_enter Tryz.func200, Tryz.ntmps200
    go_wp2_with fail
    (with_reducible refine (hm.out).mono ?_)
    rintro _ _ ⟨rfl, rfl⟩
    go_wp2_with fail
    go_ret
    exact ⟨by rw [hr.out]; rfl, by rw [hr.out]; exact DiskTo.refl H.out⟩
  have hfile := (Dk.may_file hm0).2
  have hr0 : Dk.write0 D f i s = if Dk.wErr i s.length ≠ 0 then (D, Dk.wErr i s.length) else (Dk.add D f i.toNat s, 0) := by unfold Dk.write0; rw [if_neg (by omega)]
  rw [hm0] at hm
  clear hm0
  by_cases h1 : i < 0
  · have hr : Hid (Dk.write0 D f i s = (D, 1)) := by
      have : Dk.wErr i s.length = 1 := by unfold Dk.wErr; rw [if_pos h1]
      show _ = _; rw [hr0, this, if_pos (by decide)]
    clear h hs hi hf hr0 hfile
    go_enter Tryz.func200, Tryz.ntmps200
    go_wp2_with fail
    (with_reducible refine (hm.out).mono ?_)
    rintro _ _ ⟨rfl, rfl⟩
    go_wp2_with fail
    go_ret
    exact ⟨by rw [hr.out]; rfl, by rw [hr.out]; exact DiskTo.refl H.out⟩
  by_cases h2 : 16777216 < i
  · have hr : Hid (Dk.write0 D f i s = (D, 6)) := by
      have : Dk.wErr i s.length = 6 := by unfold Dk.wErr; rw [if_neg h1, if_pos (Or.inl h2)]
      show _ = _; rw [hr0, this, if_pos (by decide)]
    clear h hs hi hf hr0 hfile
    go_enter Tryz.func200, Tryz.ntmps200
    go_wp2_with fail
    (with_reducible refine (hm.out).mono ?_)
    rintro _ _ ⟨rfl, rfl⟩
    go_wp2_with fail
    go_ret
    exact ⟨by rw [hr.out]; rfl, by rw [hr.out]; exact DiskTo.refl H.out⟩
  have hi2 : i ≤ 16777216 := by omega
  have hi0 : 0 ≤ i := by omega
  by_cases h3 : 16777216 - i < s.length
  · have hr : Hid (Dk.write0 D f i s = (D, 6)) := by
      have : Dk.wErr i s.length = 6 := by unfold Dk.wErr; rw [if_neg h1, if_pos (Or.inr h3)]
      show _ = _; rw [hr0, this, if_pos (by decide)]
    clear h hs hi hf hr0 h1 h2 hfile
    go_enter Tryz.func200, Tryz.ntmps200
    go_wp2_with fail
    (with_reducible refine (hm.out).mono ?_)
    rintro _ _ ⟨rfl, rfl⟩
    go_wp2_with fail
    go_ret
    exact ⟨by rw [hr.out]; rfl, by rw [hr.out]; exact DiskTo.refl H.out⟩
  have hr1 : Dk.write0 D f i s = (Dk.add D f i.toNat s, 0) := by
    have : Dk.wErr i s.length = 0 := by unfold Dk.wErr; rw [if_neg h1, if_neg (by omega)]
    rw [hr0, this, if_neg (by decide)]
  by_cases h4 : s = []
  · have hr : Hid (Dk.write0 D f i s = (D, 0)) := by show _ = _; rw [hr1]; unfold Dk.add; rw [if_pos h4]
    subst h4
    clear h hs hi hf hr0 hr1 h1 h2 hfile
    go_enter Tryz.func200, Tryz.ntmps200
    go_wp2_with fail
    (with_reducible refine (hm.out).mono ?_)
    rintro _ _ ⟨rfl, rfl⟩
    go_wp2_with fail
    go_ret
    exact ⟨by rw [hr.out]; rfl, by rw [hr.out]; exact DiskTo.refl H.out⟩
  obtain ⟨i, rfl⟩ : ∃ m : Nat, i = m := ⟨i.toNat, by omega⟩
  have hin : i + s.length ≤ 16777216 := by omega
  have hpos : 0 < s.length := List.length_pos_iff.2 h4
  have hr : Hid (Dk.write0 D f i s = (Dk.add D f i s, 0)) := by show _ = _; rw [hr1]; rfl
  have hall : Hid (Dk.addK D f i s (Dk.secs i s.length).length = Dk.add D f i s) := Dk.addK_all h4
  have hOk : Hid (∀ k, Dk.Ok (Dk.addK D f i s k)) := fun k => Dk.addK_ok h.ok h4 hfile hin k
  have hsucc : Hid (∀ k, k < (Dk.secs i s.length).length → Dk.addK D f i s (k + 1) = _) := fun k hk => Dk.addK_succ hk
  have hK : Hid ((Dk.secs i s.length).length = (i + s.length - 1) / 64 + 1 - i / 64) := Dk.secs_len i s.length
  have hte : s.isEmpty = false := by cases s with | nil => exact absurd rfl h4 | cons _ _ => rfl
  have hte2 : (s == ([] : List UInt8)) = false := by cases s with | nil => exact absurd rfl h4 | cons _ _ => rfl
  obtain ⟨c0, _, _, _, _, _, _⟩ := h.cells
  have hl := h.files.look hf
  have hnow := h.ok.now f
  unfold filV at hl
  have hfs : Hid (∀ k, (Dk.addK D f i s k).fs = Dk.setF D.fs f ⟨Dk.put (D.fs f).now i s, (D.fs f).last⟩) := fun k => rfl
  generalize (D.fs f).now = N at *
  generalize (D.fs f).last = L at *
  have Hl := Lib.hid hl
  have n1 := nw_alloc w (.cells #[.string ⟨N.toArray⟩, .string ⟨L.toArray⟩] tFile)
  have k1 := heap_new w (.cells #[.string ⟨N.toArray⟩, .string ⟨L.toArray⟩] tFile)
  have hp := put_c N s i (w.alloc (.cells #[.string ⟨N.toArray⟩, .string ⟨L.toArray⟩] tFile)) (g.upd n1) hnow hin
  have Hp := Lib.hid hp
  have K1 := Lib.hid k1
  obtain ⟨_, _⟩ := cell2D k1
  have Hin := Lib.hid hin
  have b1 : (i : Int) + s.length ≤ 16777216 := by omega
  have b2 : (1 : Int) ≤ s.length := by omega
  have Hpos := Lib.hid hpos
  have Hfile := Lib.hid hfile
  have Hs := Lib.hid hs
  clear hl hnow hp k1 hin hpos hfile hs h4 hr0 hr1 h1 h2 h3 hs0 h
  go_enter Tryz.func200, Tryz.ntmps200
  go_wp2_with fail
  (with_reducible refine (hm.out).mono ?_)
  rintro _ _ ⟨rfl, rfl⟩
  go_wp2_with (at_lookup; refine wpList_lookL rfl _ _ tFiles false rfl _ _ _ rfl rfl Hl.out ?_)
  (with_reducible refine (Hp.out).mono ?_)
  rintro _ w2 ⟨rfl, u2⟩
  generalize Dk.put N i s = P at *
  have k2 := Nw.keep u2 K1.out
  obtain ⟨_, _⟩ := cell2D k2
  have f0 := cells_frozen k2 0
  have h2 := (H.out.nw n1).nw u2
  have hxb : ¬ r.foot w.heap.size := fun e => by have := (H.out.foot_lt e).2; omega
  have x3 : Upd (fun k => k = w.heap.size) w2 (w2.setCell ⟨w.heap.size, 0, none⟩ (.string ⟨P.toArray⟩)) := Upd.set1 (Upd.refl _ _) hgb 0 _
  have h3 := h2.upd x3 (fun k hk e => by subst e; exact hxb hk)
  have k3 : (w2.setCell ⟨w.heap.size, 0, none⟩ (.string ⟨P.toArray⟩)).heap[w.heap.size]? = some (.cells #[.string ⟨P.toArray⟩, .string ⟨L.toArray⟩] tFile (0, 0)) := setCell_block k2 0 _
  have l0 := h3.laterD.1
  have lb : ∀ j : Later (w2.setCell ⟨w.heap.size, 0, none⟩ (.string ⟨P.toArray⟩)), j.1.cell? ⟨w.heap.size, 0, none⟩ = some (.string ⟨P.toArray⟩) ∧ j.1.cell? ⟨w.heap.size, 1, none⟩ = some (.string ⟨L.toArray⟩) := fun j => cell2D (j.nw.keep k3)
  have lb0 := fun j => (lb j).1
  have lb1 := fun j => (lb j).2
  have U3 : Hid (Nw w (w2.setCell ⟨w.heap.size, 0, none⟩ (.string ⟨P.toArray⟩))) := (n1.trans u2).trans' x3 (fun k hk e => by omega)
  have H3 := Lib.hid h3
  clear h2 h3 k3 lb x3 Hp
  go_wp2_with fail
  refine wp_region_nw_tail 6 (by kernel_rfl) (by kernel_rfl) ?_
  simp only [List.take_succ_cons, List.take_zero, List.drop_succ_cons, List.drop_zero]
  repeat (go_big_quiet_step ((fail)))
  refine wpQuiet_nil ?_
  intro w4 u4
  replace u4 := later_out u4
  have h4 := H3.out.nw u4
  obtain ⟨w5, hst, hf5, u5⟩ := h4.files.put (Nat.le_trans h4.hb h4.fm) hf ⟨P, L⟩
  rw [← hfs.out 0] at hf5
  have U5 : Hid (Upd (fun k => k = r.fm) w w5) := (Nw.trans (U3.out.trans u4) u5)
  have h5 : DiskAt B w5 r (Dk.addK D f i s 0) := h4.putF u5 hf5 rfl rfl rfl rfl rfl (hOk.out 0)
  have HT : Hid (DiskTo B r (Dk.addK D f i s 0) w w5) := ⟨r, h5, rfl, U5.out.mono (fun k _ e => Or.inr (Or.inl e)), fun j hj => Or.inl hj⟩
  dsimp only [filV] at hst
  have Hst := Lib.hid hst
  clear hst hf5 h4 h5 l0 lb0 lb1 U3 H3 Hl c0 f0 k2
  go_wp2_with (at_mapUpdate; refine wpList_storeL rfl _ _ _ tFiles rfl _ _ _ rfl rfl rfl Hst.out ?_)
  go_wp2_with fail
  go_loopw [11] (fun iv wr => ∃ k : Nat, k ≤ (Dk.secs i s.length).length ∧ iv = .int .i64 ((i / 64 + k : Nat) : Int) ∧ Hid (DiskTo B r (Dk.addK D f i s k) w wr)) (fun iv _ => i / 64 + (Dk.secs i s.length).length - (intOf iv).toNat)
  case atStart => exact ⟨0, Nat.zero_le _, by show Value.int _ _ = Value.int _ _; congr 1, HT.out⟩
  case round =>
    obtain ⟨k, hk, rfl, HD⟩ := hrel
    by_cases hlt : k < (Dk.secs i s.length).length
    · have hle : ((i / 64 + k : Nat) : Int) ≤ ((i : Int) + s.length - 1) / 64 := by
        have := hK.out; have := Hpos.out; omega
      have hn18 : i / 64 + k < 262144 := by have := hK.out; have := Hin.out; have := Hpos.out; omega
      have hsc := hsucc.out k hlt
      have hOk1 := hOk.out (k + 1)
      obtain ⟨r', h', hrb, u', hft⟩ := HD.out
      have hI1 : I64 f := hf
      have hI2 : I64 ((i / 64 + k : Nat) : Int) := by unfold I64; omega
      have hqle := h'.ok.q_len
      have hnxt : Dk.Ok { Dk.addK D f i s k with q := Dk.addS (Dk.addK D f i s k).q (f, ((i / 64 + k : Nat) : Int)) } := by rw [← hsc]; exact hOk1
      have hfin : ∀ z, DiskTo B r' { Dk.addK D f i s k with q := Dk.addS (Dk.addK D f i s k).q (f, ((i / 64 + k : Nat) : Int)) } wr z → Hid (DiskTo B r (Dk.addK D f i s (k + 1)) w z) := fun z hz => by
        show DiskTo _ _ _ _ _
        rw [hsc]
        exact DiskTo.then_ H.out h' hrb u' hft hz
      have Hfin := Lib.hid hfin
      have hN : Hid (((i / 64 + k : Nat) : Int) + 1 = ((i / 64 + (k + 1) : Nat) : Int)) := by show _ = _; omega
      generalize hE : Dk.addK D f i s k = E at *
      have hn0 : ((i / 64 + k : Nat) : Int) < 262144 := by omega
      generalize hnn : i / 64 + k = n at *
      have n1 := nw_alloc wr (.cells #[.int .i64 f, .int .i64 n] tSec)
      have k1 := heap_new wr (.cells #[.int .i64 f, .int .i64 n] tSec)
      have h1 := h'.nw n1
      obtain ⟨db, fm, sm, qv, kv⟩ := r'
      obtain ⟨aq, cq, hqv⟩ := own_slD h'.queue
      dsimp only at hqv hrb
      subst hqv hrb
      have l2 := h1.laterD.2.2
      have l1 := h1.laterD.2.1
      have lb : ∀ j : Later (wr.alloc (.cells #[.int .i64 f, .int .i64 n] tSec)), j.1.cell? ⟨wr.heap.size, 0, none⟩ = some (.int .i64 f) ∧ j.1.cell? ⟨wr.heap.size, 1, none⟩ = some (.int .i64 n) := fun j => cell2D (j.nw.keep k1)
      have lb0 := fun j => (lb j).1
      have lb1 := fun j => (lb j).2
      have hlk := fun j : Later (wr.alloc (.cells #[.int .i64 f, .int .i64 n] tSec)) => ((h1.nw j.nw).set).look (p := (f, (n : Int))) hI1 hI2
      dsimp only [secV] at hlk l2 l1
      have H1 := Lib.hid h1
      have hH' := Lib.hid h'
      have K1 := Lib.hid k1
      have Hqle := Lib.hid hqle
      have Hnn := Lib.hid hnn
      cases hin2 : decide ((f, (n : Int)) ∈ E.q) with
      | true =>
        rw [hin2] at hlk
        have hin3 := of_decide_eq_true hin2
        have hz2 : Hid (∀ z, Nw (wr.alloc (.cells #[.int .i64 f, .int .i64 n] tSec)) z → Hid (DiskTo B r (Dk.addK D f i s (k + 1)) w z)) := fun z uz => Hfin.out z (by
          rw [Dk.addS_in hin3]
          exact DiskTo.of_nw hH'.out (n1.trans uz))
        clear hin2 hin3 h1 h' k1 hqle lb hnxt hfin hE hnn hsc hOk1 u' hft HD l1 Hfin
        go_wp2_with fail
        refine wp_region_nw (by kernel_rfl) (by kernel_rfl) ?_
        repeat (go_big_quiet_step ((fail)))
        refine wpQuiet_nil ?_
        intro w6 u6
        replace u6 := later_out u6
        have hz3 := hz2.out _ u6
        go_wp2_with fail
        go_roundw
        case rel => exact ⟨k + 1, by omega, by rw [← hN.out], hz3⟩
        case measure => have := Hnn.out; simp [intOf]; omega
      | false =>
        rw [hin2] at hlk
        have hin3 := of_decide_eq_false hin2
        rw [Dk.addS_out hin3] at Hfin hnxt
        have Hnxt := Lib.hid hnxt
        have Hin3 := Lib.hid hin3
        have hI := Lib.hid (And.intro hI1 hI2)
        clear hin2 hin3 h1 h' k1 hqle lb hnxt hfin hE hnn hsc hOk1 u' hft HD hI1 hI2
        go_wp2_with fail
        refine wp_region_nw (by kernel_rfl) (by kernel_rfl) ?_
        repeat (go_big_quiet_step ((fail)))
        refine wpQuiet_nil ?_
        intro w6 u6
        replace u6 := later_out u6
        have h6 := H1.out.nw u6
        obtain ⟨_, x1, x2, _, _, _, _⟩ := h6.cells
        obtain ⟨y0, y1⟩ := cell2D (Nw.keep u6 K1.out)
        have k6 := Nw.keep u6 K1.out
        dsimp only at x1 x2
        have H6 := Lib.hid h6
        have hgb6 : nG ≤ B := h6.hb
        have hB6 : B ≤ w6.heap.size := by have := h6.db; have := lt_of_block h6.blk; dsimp only at *; omega
        have q6 := Lib.hid h6.queue
        have K6 := Lib.hid k6
        have hpb : (Value.slice aq E.q.length cq).ownBlock ≠ some wr.heap.size := fun e => by
          have := (hH'.out.foot_lt (Or.inr (Or.inr (Or.inr (Or.inl e))))).2; omega
        have HSall : Hid (∀ z, Upd (fun j => (Value.slice aq E.q.length cq).ownBlock = some j) w6 z → (z.cell? ⟨r.db, 1, none⟩ = some (.slice aq E.q.length cq) ∧ True) ∧ (z.cell? ⟨r.db, 2, none⟩ = some (.map (some sm)) ∧ z.cell? ⟨wr.heap.size, 0, none⟩ = some (.int .i64 f) ∧ z.cell? ⟨wr.heap.size, 1, none⟩ = some (.int .i64 n)) ∧ z.frozen? ⟨r.db, 1, none⟩ = false) := fun z uz => by
          have hbz := uz.keep H6.out.blk (DiskAt.apart H6.out).2.2.1
          have hkz := uz.keep K6.out hpb
          obtain ⟨z0, z1⟩ := cell2D hkz
          refine ⟨⟨?_, trivial⟩, ⟨?_, z0, z1⟩, cells_frozen hbz 1⟩
          · rw [cells_cell hbz]; rfl
          · rw [cells_cell hbz]; rfl
        have HSd := HSall.out w6.drew (Upd.refl _ _).drew
        have HSa := fun o => HSall.out (w6.drew.alloc o) ((Upd.refl _ _).drew.alloc o)
        have hs0 : SH 15 (fun z => z.cell? ⟨r.db, 1, none⟩ = some (.slice aq E.q.length cq) ∧ True) (fun z => z.cell? ⟨r.db, 2, none⟩ = some (.map (some sm)) ∧ z.cell? ⟨wr.heap.size, 0, none⟩ = some (.int .i64 f) ∧ z.cell? ⟨wr.heap.size, 1, none⟩ = some (.int .i64 n)) (Array.replicate 19 false) w6.drew := ⟨fun _ => HSd.1, HSd.2.1⟩
        clear h6 k6 l1 l2 lb0 lb1 hlk K1 H1
        go_wp2_with fail
        refine wp_region_H 15 (fun z => z.cell? ⟨r.db, 1, none⟩ = some (.slice aq E.q.length cq) ∧ True) (fun z => z.cell? ⟨r.db, 2, none⟩ = some (.map (some sm)) ∧ z.cell? ⟨wr.heap.size, 0, none⟩ = some (.int .i64 f) ∧ z.cell? ⟨wr.heap.size, 1, none⟩ = some (.int .i64 n)) (by kernel_rfl) ?_
        refine wpAnyH_pure (i := 0) (v := ?_) rfl (by kernel_rfl) (by kernel_rfl) (by kernel_rfl) (by kernel_rfl) (by kernel_rfl) (fun _ _ _ h => h) (by rfl) ?_ (⟨fun _ => HSd.1, HSd.2.1⟩) ?_
        rotate_left 1
        · (intro zz; go_simp; first | done | with_reducible rfl)
        (try simp only [Act.put, List.setIfInBounds_toArray, List.set_cons_zero, List.set_cons_succ])
        refine wpAnyH_pure (i := 1) (v := ?_) rfl (by kernel_rfl) (by kernel_rfl) (by kernel_rfl) (by kernel_rfl) (by kernel_rfl) (fun _ _ _ h => h) (by rfl) ?_ (⟨fun _ => HSd.1, HSd.2.1⟩) ?_
        rotate_left 1
        · (intro zz; go_simp; first | done | with_reducible rfl)
        (try simp only [Act.put, List.setIfInBounds_toArray, List.set_cons_zero, List.set_cons_succ])
        refine wpAnyH_pure (i := 2) (v := ?_) rfl (by kernel_rfl) (by kernel_rfl) (by kernel_rfl) (by kernel_rfl) (by kernel_rfl) (fun _ _ _ h => h) (by rfl) ?_ (⟨fun _ => HSd.1, HSd.2.1⟩) ?_
        rotate_left 1
        · (intro zz; go_simp; first | done | with_reducible rfl)
        (try simp only [Act.put, List.setIfInBounds_toArray, List.set_cons_zero, List.set_cons_succ])
        refine wpAnyH_pure (i := 3) (v := ?_) rfl (by kernel_rfl) (by kernel_rfl) (by kernel_rfl) (by kernel_rfl) (by kernel_rfl) (fun _ _ _ h => h) (by rfl) ?_ (⟨fun _ => HSd.1, HSd.2.1⟩) ?_
        rotate_left 1
        · (intro zz; go_simp; first | done | with_reducible rfl)
        (try simp only [Act.put, List.setIfInBounds_toArray, List.set_cons_zero, List.set_cons_succ])
        refine wpAnyH_load2 (i := 4) (v := ?_) rfl (by kernel_rfl) (by kernel_rfl) (by kernel_rfl) (by kernel_rfl) (by kernel_rfl) (fun _ _ _ h => h) (by rfl) ?_ (⟨fun _ => HSd.1, HSd.2.1⟩) ?_
        rotate_left 1
        · (intro zz hS2; obtain ⟨_, _, _⟩ := hS2; go_simp; first | done | with_reducible rfl)
        (try simp only [Act.put, List.setIfInBounds_toArray, List.set_cons_zero, List.set_cons_succ])
        refine wpAnyH_load2 (i := 5) (v := ?_) rfl (by kernel_rfl) (by kernel_rfl) (by kernel_rfl) (by kernel_rfl) (by kernel_rfl) (fun _ _ _ h => h) (by rfl) ?_ (⟨fun _ => HSd.1, HSd.2.1⟩) ?_
        rotate_left 1
        · (intro zz hS2; obtain ⟨_, _, _⟩ := hS2; go_simp; first | done | with_reducible rfl)
        (try simp only [Act.put, List.setIfInBounds_toArray, List.set_cons_zero, List.set_cons_succ])
        refine wpAnyH_pure (i := 6) (v := ?_) rfl (by kernel_rfl) (by kernel_rfl) (by kernel_rfl) (by kernel_rfl) (by kernel_rfl) (fun _ _ _ h => h) (by rfl) ?_ (⟨fun _ => HSd.1, HSd.2.1⟩) ?_
        rotate_left 1
        · (intro zz; go_simp; first | done | with_reducible rfl)
        (try simp only [Act.put, List.setIfInBounds_toArray, List.set_cons_zero, List.set_cons_succ])
        refine wpAnyH_pure (i := 7) (v := ?_) rfl (by kernel_rfl) (by kernel_rfl) (by kernel_rfl) (by kernel_rfl) (by kernel_rfl) (fun _ _ _ h => h) (by rfl) ?_ (⟨fun _ => HSd.1, HSd.2.1⟩) ?_
        rotate_left 1
        · (intro zz; go_simp; first | done | with_reducible rfl)
        (try simp only [Act.put, List.setIfInBounds_toArray, List.set_cons_zero, List.set_cons_succ])
        refine wpAnyH_pure (i := 8) (v := ?_) rfl (by kernel_rfl) (by kernel_rfl) (by kernel_rfl) (by kernel_rfl) (by kernel_rfl) (fun _ _ _ h => h) (by rfl) ?_ (⟨fun _ => HSd.1, HSd.2.1⟩) ?_
        rotate_left 1
        · (intro zz; go_simp; first | done | with_reducible rfl)
        (try simp only [Act.put, List.setIfInBounds_toArray, List.set_cons_zero, List.set_cons_succ])
        refine wpAnyH_load1 (i := 9) (v := ?_) [] rfl (by kernel_rfl) (by kernel_rfl) (by kernel_rfl) (by kernel_rfl) (by kernel_rfl) (by kernel_rfl) (fun _ _ _ h => h) (by rfl) ?_ (⟨fun _ => HSd.1, HSd.2.1⟩) ?_
        rotate_left 1
        · (intro zz hS1 hS2; obtain ⟨_, _⟩ := hS1; obtain ⟨_, _, _⟩ := hS2; go_simp; first | done | with_reducible rfl)
        (try simp only [Act.put, List.setIfInBounds_toArray, List.set_cons_zero, List.set_cons_succ])
        refine wpAnyH_load2 (i := 10) (v := ?_) rfl (by kernel_rfl) (by kernel_rfl) (by kernel_rfl) (by kernel_rfl) (by kernel_rfl) (fun _ _ _ h => h) (by rfl) ?_ (⟨fun _ => HSd.1, HSd.2.1⟩) ?_
        rotate_left 1
        · (intro zz hS2; obtain ⟨_, _, _⟩ := hS2; go_simp; first | done | with_reducible rfl)
        (try simp only [Act.put, List.setIfInBounds_toArray, List.set_cons_zero, List.set_cons_succ])
        refine wpAnyH_one (i := 11) (by kernel_rfl) rfl (fun K hK => ?_)
        go_simp
        refine hK.out _ _ ⟨fun _ => (HSa _).1, (HSa _).2.1⟩ ?_
        clear hK K
        (try simp only [Act.put, List.setIfInBounds_toArray, List.set_cons_zero, List.set_cons_succ])
        refine wpAnyH_one (i := 12) (by kernel_rfl) rfl (fun K hK => ?_)
        have hq4 : E.q.length + 1 ≤ maxLen := by have := Hqle.out; unfold maxLen; omega
        have hq5 : (E.q.length + 1) * 16 ≤ 140737488355328 := by have := Hqle.out; omega
        refine step_appD rfl _ _ 180 rfl B tSec _ 2 16 Tryz.underlying180 infoSec rfl (by decide) (.slice aq E.q.length cq) E.q.length (flatQ E.q) rfl w6 (fun _ => False) q6.out ((Upd.refl _ _).drew.alloc _) (fun _ _ e => e) _ (secL (f, (n : Int))) rfl (by first | exact heap_new _ _ | exact heap_at (by simp)) rfl (by intro u hu; simp only [secL, List.mem_cons, List.not_mem_nil, or_false] at hu; rcases hu with rfl | rfl <;> rfl) hq4 hq5 hB6 hgb6 ?_
        intro gs cs ws hownS uS oS
        have uW : Upd (fun j => (Value.slice aq E.q.length cq).ownBlock = some j) w6 ws := Upd.trans (((Upd.refl _ _).drew).alloc _) uS
        have hS := HSall.out ws uW
        refine hK.out _ _ ⟨fun _ => hS.1, hS.2.1⟩ ?_
        clear hK K
        (try simp only [Act.put, List.setIfInBounds_toArray, List.set_cons_zero, List.set_cons_succ])
        refine wpAnyH_pure (i := 13) (v := ?_) rfl (by kernel_rfl) (by kernel_rfl) (by kernel_rfl) (by kernel_rfl) (by kernel_rfl) (fun _ _ _ h => h) (by rfl) ?_ (⟨fun _ => hS.1, hS.2.1⟩) ?_
        rotate_left 1
        · (intro zz; go_simp; first | done | with_reducible rfl)
        (try simp only [Act.put, List.setIfInBounds_toArray, List.set_cons_zero, List.set_cons_succ])
        refine wpAnyH_pure (i := 14) (v := ?_) rfl (by kernel_rfl) (by kernel_rfl) (by kernel_rfl) (by kernel_rfl) (by kernel_rfl) (fun _ _ _ h => h) (by rfl) ?_ (⟨fun _ => hS.1, hS.2.1⟩) ?_
        rotate_left 1
        · (intro zz; go_simp; first | done | with_reducible rfl)
        (try simp only [Act.put, List.setIfInBounds_toArray, List.set_cons_zero, List.set_cons_succ])
        have z1 := hS.1.1
        have zf := hS.2.2
        have hdb6 := H6.out.db
        dsimp only at hdb6
        have u15 : Upd (fun j => j = r.db) ws (ws.setCell ⟨r.db, 1, none⟩ (.slice (some ⟨gs, 0, none⟩) (E.q.length + 1) cs)) := Upd.set1 (Upd.refl _ _) (by omega) 1 _
        obtain ⟨a1, a2, a3, a4, a5, a6, a7, a8, a9⟩ := DiskAt.apart H6.out
        dsimp only at a1 a2 a3 a4 a5 a6 a7 a8 a9
        have hb15 := setCell_block (uW.keep H6.out.blk a3) 1 (.slice (some ⟨gs, 0, none⟩) (E.q.length + 1) cs)
        have hpdb : wr.heap.size ≠ r.db := fun e => by have := (hH'.out.foot_lt (Or.inl rfl)).2; dsimp only at this; omega
        have hpsm : wr.heap.size ≠ sm := fun e => by have := (hH'.out.foot_lt (Or.inr (Or.inr (Or.inl rfl)))).2; dsimp only at this; omega
        have hk15 := u15.keep (uW.keep K6.out hpb) hpdb
        have s15 := (H6.out.set.upd uW a5).upd u15 (fun e => a2 e.symm)
        have hgsm : nG ≤ sm := Nat.le_trans hgb6 H6.out.sm
        obtain ⟨st, w16, w18, he, hs, s18, u18, u16⟩ := SetL.entry s15 hgsm hI.out.1 hI.out.2 Hin3.out
        have hc15 : ∀ {z : World} {T : Nat → Prop}, Upd T (ws.setCell ⟨r.db, 1, none⟩ (.slice (some ⟨gs, 0, none⟩) (E.q.length + 1) cs)) z → (∀ j, T j → j = sm) → z.cell? ⟨r.db, 2, none⟩ = some (.map (some sm)) ∧ z.cell? ⟨wr.heap.size, 0, none⟩ = some (.int .i64 f) ∧ z.cell? ⟨wr.heap.size, 1, none⟩ = some (.int .i64 n) := fun {z T} uz hT => by
          have q1 := uz.keep hb15 (fun e => a2 (hT _ e))
          obtain ⟨q2, q3⟩ := cell2D (uz.keep hk15 (fun e => hpsm (hT _ e)))
          exact ⟨by rw [cells_cell q1]; rfl, q2, q3⟩
        have hS15 := hc15 (Upd.refl (fun _ => False) _) (fun _ e => e.elim)
        have hS16 := hc15 u16 (fun _ e => e)
        have hS18 := hc15 u18 (fun _ e => e)
        have hoS : ∀ k, (Value.slice (some ⟨gs, 0, none⟩) (E.q.length + 1) cs).ownBlock = some k → (Value.slice aq E.q.length cq).ownBlock = some k ∨ w6.heap.size ≤ k := fun k e => by
          obtain rfl : gs = k := by simpa [Value.ownBlock] using e
          exact oS
        have hz3 := Hfin.out w18 (DiskTo.after (n1.trans u6) (note_done H6.out hownS uW hoS u18 s18 Hnxt.out))
        have He := Lib.hid he
        have Hs18 := Lib.hid hs
        clear he hs hb15 hk15 s15 hc15 hownS uS oS hoS s18 hS q6 Hin3 Hnxt Hfin
        dsimp only [secV] at *
        refine wpAnyH_one (i := 15) (by kernel_rfl) rfl (fun K hK => ?_)
        go_simp
        refine hK.out _ _ ⟨fun e => absurd (show true = false from e) (by decide), hS15⟩ ?_
        clear hK K
        (try simp only [Act.put, List.setIfInBounds_toArray, List.set_cons_zero, List.set_cons_succ])
        refine wpAnyH_one (i := 16) (by kernel_rfl) rfl (fun K hK => ?_)
        refine step_mapEntry rfl tSet _ _ rfl _ _ _ rfl rfl He.out ?_
        refine hK.out _ _ ⟨fun e => absurd (show true = false from e) (by decide), hS16⟩ ?_
        clear hK K
        (try simp only [Act.put, List.setIfInBounds_toArray, List.set_cons_zero, List.set_cons_succ])
        refine wpAnyH_pure (i := 17) (v := ?_) rfl (by kernel_rfl) (by kernel_rfl) (by kernel_rfl) (by kernel_rfl) (by kernel_rfl) (fun _ _ _ h => h) (by rfl) ?_ (⟨fun e => absurd (show true = false from e) (by decide), hS16⟩) ?_
        rotate_left 1
        · (intro zz; go_simp; first | done | with_reducible rfl)
        (try simp only [Act.put, List.setIfInBounds_toArray, List.set_cons_zero, List.set_cons_succ])
        refine wpAnyH_one (i := 18) (by kernel_rfl) rfl (fun K hK => ?_)
        refine step_entryStore rfl tSet _ _ _ rfl _ _ _ rfl rfl rfl Hs18.out ?_
        refine hK.out _ _ ⟨fun e => absurd (show true = false from e) (by decide), hS18⟩ ?_
        clear hK K
        (try simp only [Act.put, List.setIfInBounds_toArray, List.set_cons_zero, List.set_cons_succ])
        refine wpAnyH_done (by kernel_rfl) ?_ _
        go_wp2_with fail
        go_roundw
        case rel => exact ⟨k + 1, by omega, by rw [← hN.out], hz3⟩
        case measure => have := Hnn.out; simp [intOf]; omega
    · obtain rfl : k = (Dk.secs i s.length).length := by omega
      have hle : ¬ ((i / 64 + (Dk.secs i s.length).length : Nat) : Int) ≤ ((i : Int) + s.length - 1) / 64 := by
        have := hK.out; have := Hpos.out; omega
      have hz3 := HD.out
      rw [hall.out] at hz3
      have Hz3 := Lib.hid hz3
      clear hz3
      go_wp2_with fail
      go_ret
      exact ⟨by rw [hr.out]; rfl, by rw [hr.out]; exact Hz3.out⟩
end Go.Proofs.YtagmlemlagbfkaaGreatDoor
