/- The reference's disk (layer 2): set, add. -/
import Derived.Test.YtiambnllidingaaGreatDoorRDk1
namespace Go.Proofs.YtiambnllidingaaGreatDoor
open Go.RowKit
set_option linter.unusedVariables false
set_option linter.unusedSimpArgs false
attribute [local irreducible] Calls

theorem infoRFile : (Tryz.prog.info? tRFile).map (fun i => (i.zero, i.size, i.bytes)) = some (some (.agg #[.int .i64 0, .string ⟨#[]⟩, .string ⟨#[]⟩]), 3, 40) := by kernel_rfl
theorem rfL_one (p : Int × Dk.Fil) : ∀ u ∈ rfL p, u.oneCell' = true := by
  intro u hu
  simp only [rfL, List.mem_cons, List.not_mem_nil, or_false] at hu
  rcases hu with rfl | rfl | rfl <;> rfl
section
variable {B : Nat} {w w1 : World} {r : RdR} {D D' : Dk.Disk}
/-- What a call leaves that replaces the list of files alone. -/
def RDS (B : Nat) (r : RdR) (D' : Dk.Disk) (w w' : World) : Prop :=
  ∃ fv', RDAt B w' ⟨r.rb, fv', r.qv, r.kv⟩ D' ∧ Upd (fun k => k = r.rb) w w' ∧ ∀ k, fv'.ownBlock = some k → r.fv.ownBlock = some k ∨ w.heap.size ≤ k
theorem RDS.to (h : RDS B r D' w w1) : RDTo B r D' w w1 := by
  obtain ⟨fv', h1, h2, h3⟩ := h
  refine ⟨_, h1, rfl, h2.mono (fun k _ e => Or.inl e), ?_⟩
  rintro j (e | e | e | e)
  · exact Or.inl (Or.inl e)
  · exact (h3 j e).imp (fun e => Or.inr (Or.inl e)) id
  · exact Or.inl (Or.inr (Or.inr (Or.inl e)))
  · exact Or.inl (Or.inr (Or.inr (Or.inr e)))
theorem RDS.after {w0 : World} (u : Nw w0 w) (h : RDS B r D' w w1) : RDS B r D' w0 w1 := by
  obtain ⟨fv', h1, h2, h3⟩ := h
  exact ⟨fv', h1, Nw.trans u h2, fun k hk => (h3 k hk).imp id (fun e => by have := u.size; omega)⟩
/-- A new list of files is put into the disk's block. -/
theorem files_done {v' : Value} {B0 : Nat} {l' : List (Int × Dk.Fil)} (h : RDAt B w r D) (u : Nw w w1) (hB0 : w.heap.size ≤ B0) (hown : w1.ownsRow B0 tRFile 3 v' l'.length (flatR l')) (hB : B ≤ w.heap.size) (hs : SaysR l' D'.fs)
    (e1 : D'.q = D.q) (e2 : D'.lost = D.lost) (e3 : D'.down = D.down) (e4 : D'.armed = D.armed) (e5 : D'.keep = D.keep) (hk : Dk.Ok D') : RDS B r D' w (w1.setCell ⟨r.rb, 0, none⟩ v') := by
  have h1 := h.nw u
  have hg : nG ≤ r.rb := Nat.le_trans h.hb h.rb
  have us : Upd (fun k => k = r.rb) w1 (w1.setCell ⟨r.rb, 0, none⟩ v') := Upd.set1 (Upd.refl _ _) hg 0 _
  have hrw := (h.foot_lt (Or.inl rfl)).2
  refine ⟨v', ⟨h.hb, h.rb, ?_, ?_, ?_, ?_, hk, by rw [e5]; exact h.kI⟩, Nw.trans u us, fun j e => Or.inr (Nat.le_trans hB0 (hown.lt j e).1)⟩
  · have := setCell_block h1.blk 0 v'
    unfold rdC at this ⊢
    rw [e2, e3, e4]
    exact this
  · exact ⟨l', owns_base (owns_updD hown us (fun k hk e => by have := (hown.lt k hk).1; omega)) (Nat.le_trans hB hB0), hs⟩
  · rw [e1]
    exact owns_updD h1.queue us (fun k hk e => own_blk h1.queue h1.blk (by decide) (by rw [← e]; exact hk))
  · rw [e5]
    exact owns_updD h1.keep us (fun k hk e => own_blk h1.keep h1.blk (by decide) (by rw [← e]; exact hk))
/-- While the other files are copied. -/
def SetI (w : World) (l : List (Int × Dk.Fil)) (f : Int) (k : Nat) (v : Value) (z : World) : Prop :=
  z.ownsRow (w.heap.size + 1) tRFile 3 v ((l.take k).filter (fun p => !(p.1 == f))).length (flatR ((l.take k).filter (fun p => !(p.1 == f)))) ∧ Nw w z
set_option maxHeartbeats 2000000 in
set_option maxRecDepth 100000 in
theorem set_r (h : RDAt B w r D) (g : Gl w) (hB : B ≤ w.heap.size) {f : Int} (hf : 0 ≤ f ∧ f < 16) (x : Dk.Fil) (hk : Dk.Ok { D with fs := Dk.setF D.fs f x }) :
    Calls Tryz.prog 108 #[.pointer (some ⟨r.rb, 0, none⟩), .agg #[.int .i64 f, .string ⟨x.now.toArray⟩, .string ⟨x.last.toArray⟩]] w fun e w' => e = .returned (.tuple #[]) ∧ RDS B r { D with fs := Dk.setF D.fs f x } w w' := by
  have hgb := g.big
  obtain ⟨l, hl, hsl⟩ := h.files
  have hl16 := hsl.len
  obtain ⟨a, cap, hv, _, _⟩ := rfL_cells (rf_sls hl)
  have hl1 : (l.length : Int) ≤ 16 := by omega
  have n1 := nw_alloc w (.cells #[.int .i64 f, .string ⟨x.now.toArray⟩, .string ⟨x.last.toArray⟩] tRFile)
  have k1 := heap_new w (.cells #[.int .i64 f, .string ⟨x.now.toArray⟩, .string ⟨x.last.toArray⟩] tRFile)
  have hI0 : Hid (SetI w l f 0 (.slice none 0 0) (w.alloc (.cells #[.int .i64 f, .string ⟨x.now.toArray⟩, .string ⟨x.last.toArray⟩] tRFile))) := ⟨World.ownsRow_nil _ _ _ _, n1⟩
  have H := Lib.hid (And.intro h (And.intro hl (And.intro hsl (And.intro hB hk))))
  have K1 : Hid (∀ z, Nw (w.alloc (.cells #[.int .i64 f, .string ⟨x.now.toArray⟩, .string ⟨x.last.toArray⟩] tRFile)) z → z.heap[w.heap.size]? = some (.cells #[.int .i64 f, .string ⟨x.now.toArray⟩, .string ⟨x.last.toArray⟩] tRFile (0, 0))) := fun z u => u.keep k1
  have hbx := Lib.hid k1
  have Hv := Lib.hid hv
  clear h hl hsl hB hk n1 k1 hv hl16
  go_enter Tryz.func108, Tryz.ntmps108
  go_wp2_with fail
  go_loopw [4, 5] (fun v iv wr => ∃ k : Nat, k ≤ l.length ∧ iv = .int .i64 k ∧ Hid (SetI w l f k v wr ∧ wr.heap[w.heap.size]? = some (.cells #[.int .i64 f, .string ⟨x.now.toArray⟩, .string ⟨x.last.toArray⟩] tRFile (0, 0)))) (fun _ iv _ => l.length - (intOf iv).toNat)
  case atStart => exact ⟨0, Nat.zero_le _, rfl, hI0.out, hbx.out⟩
  case round =>
    obtain ⟨k, hk, rfl, HI⟩ := hrel
    obtain ⟨av, cv, rfl⟩ := own_slD HI.out.1.1
    have h' := H.out.1.nw HI.out.1.2
    obtain ⟨c0, _⟩ := h'.cells
    have f0 := h'.frozen 0
    rw [Hv.out] at c0
    obtain ⟨a', cap', ev, _, hcell⟩ := rfL_cells (rf_sls (owns_updD H.out.2.1 HI.out.1.2 (fun _ _ e => e)))
    rw [Hv.out] at ev
    simp only [Value.slice.injEq, true_and] at ev
    obtain ⟨rfl, rfl⟩ := ev
    clear h'
    by_cases hlt : k < l.length
    · rcases hcell with hnil | ⟨b, off, rfl, _, _, hc⟩
      · rw [hnil] at hlt; simp at hlt
      obtain ⟨d0, d1, d2⟩ := hc k hlt
      have htk : l.take (k + 1) = l.take k ++ [l[k]] := List.take_succ_eq_append_getElem hlt
      have Htk := Lib.hid htk
      have hfl : ((l.take k).filter (fun p => !(p.1 == f))).length ≤ 16 := Nat.le_trans (List.length_filter_le _ _) (by rw [List.length_take]; omega)
      have Hfl := Lib.hid hfl
      have y0 := fun i : Later wr => later_cell i d0
      have yc := fun i : Later wr => later_cell i c0
      have yb := fun i : Later wr => (show i.1.cell? ⟨w.heap.size, 0, none⟩ = some (.int .i64 f) by rw [cells_cell (i.nw.keep HI.out.2)]; rfl)
      clear hc htk hfl
      generalize l[k] = y at *
      obtain ⟨yf, yn, yl⟩ := y
      dsimp only at d0 d1 d2 y0
      by_cases hyf : yf = f
      · have hz : Hid (∀ z, Nw wr z → SetI w l f (k + 1) (.slice av ((l.take k).filter (fun p => !(p.1 == f))).length cv) z) := fun z u => by
          unfold SetI
          rw [Htk.out, List.filter_append]
          have : List.filter (fun p : Int × Dk.Fil => !(p.1 == f)) [(yf, ⟨yn, yl⟩)] = [] := by simp [hyf]
          rw [this, List.append_nil]
          exact ⟨owns_updD HI.out.1.1 u (fun _ _ e => e), HI.out.1.2.trans u⟩
        have hb : (yf != f) = false := by simp [hyf]
        have hb2 : (yf == f) = true := by simp [hyf]
        clear hyf
        go_wp2_with fail
        refine wp_region_nw (by kernel_rfl) (by kernel_rfl) ?_
        repeat (go_big_quiet_step ((fail)))
        refine wpQuiet_nil ?_
        intro wq uq
        replace uq := later_out uq
        have hz2 := Lib.hid (And.intro (hz.out wq uq) (uq.keep HI.out.2))
        clear hz uq
        go_wp2_with fail
        go_roundw
        case rel => exact ⟨k + 1, by omega, by go_num, hz2.out⟩
        case measure => simp [intOf]; omega
      · have hz : Hid (∀ v' z', z'.ownsRow (w.heap.size + 1) tRFile 3 v' (((l.take k).filter (fun p => !(p.1 == f))).length + 1) (flatR ((l.take k).filter (fun p => !(p.1 == f))) ++ rfL (yf, ⟨yn, yl⟩)) → Nw w z' → SetI w l f (k + 1) v' z') := fun v' z' h1 h2 => by
          unfold SetI
          rw [Htk.out, List.filter_append]
          have : List.filter (fun p : Int × Dk.Fil => !(p.1 == f)) [(yf, ⟨yn, yl⟩)] = [(yf, ⟨yn, yl⟩)] := by simp [hyf]
          rw [this, List.length_append, flatR_snoc]
          exact ⟨h1, h2⟩
        have hb : (yf != f) = true := by simp [hyf]
        have hb2 : (yf == f) = false := by simp [hyf]
        clear hyf
        go_wp2_with fail
        refine wp_region_nw (by kernel_rfl) (by kernel_rfl) ?_
        repeat (go_big_quiet_step ((fail)))
        refine wpQuiet_nil ?_
        intro wq uq
        replace uq := later_out uq
        have c0q := (⟨wq, uq⟩ : Later wr)
        have e0 := yc ⟨wq, uq⟩
        have e1 := y0 ⟨wq, uq⟩
        have e2 := later_cell (⟨wq, uq⟩ : Later wr) d1
        have e3 := later_cell (⟨wq, uq⟩ : Later wr) d2
        dsimp only at e0 e1 e2 e3
        have Hq := Lib.hid (And.intro (owns_updD HI.out.1.1 uq (fun _ _ e => e)) (And.intro (HI.out.1.2.trans uq) (uq.keep HI.out.2)))
        have hWq : w.heap.size + 1 ≤ wq.heap.size := lt_of_block Hq.out.2.2
        have hgb1 : nG ≤ w.heap.size + 1 := by omega
        clear uq y0 yc yb c0q c0 d0 d1 d2
        go_wp2_with (at_builtin; refine wpList_appL rfl _ _ 88 rfl (w.heap.size + 1) tRFile _ 3 40 Tryz.underlying88 infoRFile rfl (by decide) _ _ _ rfl Hq.out.1 (rfL (yf, ⟨yn, yl⟩)) rfl rfl (rfL_one _) ?c2 ?c3 hWq hgb1 ?_)
        case c2 => have := Hfl.out; unfold maxLen; omega
        case c3 => have := Hfl.out; omega
        intro v' w6 o6 u6 hob
        have hz2 : Hid (SetI w l f (k + 1) v' w6 ∧ w6.heap[w.heap.size]? = some (.cells #[.int .i64 f, .string ⟨x.now.toArray⟩, .string ⟨x.last.toArray⟩] tRFile (0, 0))) :=
          ⟨hz.out v' w6 o6 (Hq.out.2.1.trans' u6 (fun j hj e => by have := (Hq.out.1.lt j e).1; omega)), u6.keep Hq.out.2.2 (fun e => by have := (Hq.out.1.lt _ e).1; omega)⟩
        clear hz o6 u6 hob
        go_wp2_with fail
        go_roundw
        case rel => exact ⟨k + 1, by omega, by go_num, hz2.out⟩
        case measure => simp [intOf]; omega
    · obtain rfl : k = l.length := by omega
      have hgw : nG ≤ w.heap.size + 1 := by omega
      obtain ⟨q0, q1, q2⟩ : wr.cell? ⟨w.heap.size, 0, none⟩ = some (.int .i64 f) ∧ wr.cell? ⟨w.heap.size, 1, none⟩ = some (.string ⟨x.now.toArray⟩) ∧ wr.cell? ⟨w.heap.size, 2, none⟩ = some (.string ⟨x.last.toArray⟩) := by
        refine ⟨?_, ?_, ?_⟩ <;> (rw [cells_cell HI.out.2]; rfl)
      have hWr : w.heap.size + 1 ≤ wr.heap.size := lt_of_block HI.out.2
      have hfl : ((l.take l.length).filter (fun p => !(p.1 == f))).length ≤ 16 := Nat.le_trans (List.length_filter_le _ _) (by rw [List.length_take]; omega)
      have Hfl := Lib.hid hfl
      have hrbg : nG ≤ r.rb := Nat.le_trans H.out.1.hb H.out.1.rb
      clear hcell hfl
      go_wp2_with (at_builtin; refine wpList_appL rfl _ _ 88 rfl (w.heap.size + 1) tRFile _ 3 40 Tryz.underlying88 infoRFile rfl (by decide) _ _ _ rfl HI.out.1.1 (rfL (f, x)) rfl rfl (rfL_one _) ?c2 ?c3 hWr hgw ?_)
      case c2 => have := Hfl.out; unfold maxLen; omega
      case c3 => have := Hfl.out; omega
      intro v' w6 o6 u6 hob
      obtain ⟨a6, c6, rfl⟩ := own_slD o6
      have hI1 := HI.out.1.1
      rw [List.take_length] at hI1
      have U6 : Nw w w6 := HI.out.1.2.trans' u6 (fun j hj e => by have := (hI1.lt j e).1; omega)
      have c06 := (H.out.1.nw U6).cells.1
      have f06 := (H.out.1.nw U6).frozen 0
      have hdone := files_done (D' := { D with fs := Dk.setF D.fs f x }) (l' := putR l f x) H.out.1 U6 (Nat.le_succ _) (by unfold putR; rw [flatR_snoc, List.length_append]; exact o6) H.out.2.2.2.1 (H.out.2.2.1.put hf x) rfl rfl rfl rfl rfl H.out.2.2.2.2
      have Hd := Lib.hid hdone
      clear hdone o6 u6 hob U6 HI q0 q1 q2 hI1
      go_wp2_with fail
      go_end0
      exact ⟨rfl, Hd.out⟩
/-- A sector is noted. -/
theorem note_done_r {ws : World} {v' : Value} {p : Int × Int} {T : Nat → Prop} (h : RDAt B w r D) (us : Upd (fun k => r.qv.ownBlock = some k) w ws) (hown : ws.ownsRow B tRSec 2 v' (D.q.length + 1) (flatQ D.q ++ secL p)) (hob : ∀ k, v'.ownBlock = some k → r.qv.ownBlock = some k ∨ w.heap.size ≤ k)
    (hk : Dk.Ok { D with q := D.q ++ [p] }) : RDTo B r { D with q := D.q ++ [p] } w (ws.setCell ⟨r.rb, 1, none⟩ v') := by
  have hg : nG ≤ r.rb := Nat.le_trans h.hb h.rb
  have e2 : Upd (fun k => k = r.rb) ws (ws.setCell ⟨r.rb, 1, none⟩ v') := Upd.set1 (Upd.refl _ _) hg 1 _
  have hrq : r.qv.ownBlock ≠ some r.rb := own_blk h.queue h.blk (by decide)
  obtain ⟨lf, hlf, hsf⟩ := h.files
  have hrf : r.fv.ownBlock ≠ some r.rb := own_blk hlf h.blk (by decide)
  have hrk : r.kv.ownBlock ≠ some r.rb := own_blk h.keep h.blk (by decide)
  have hvr : v'.ownBlock ≠ some r.rb := fun e => by
    rcases hob _ e with e | e
    · exact hrq e
    · have := (h.foot_lt (Or.inl rfl)).2; omega
  refine ⟨⟨r.rb, r.fv, v', r.kv⟩, ⟨h.hb, h.rb, ?_, ?_, ?_, ?_, hk, h.kI⟩, rfl, ?_, ?_⟩
  · exact setCell_block (us.keep h.blk hrq) 1 v'
  · exact ⟨lf, owns_updD (owns_updD hlf us (fun k hk e => own_typ hlf h.queue (by decide) hk e)) e2 (fun k hk e => hrf (by rw [← e]; exact hk)), hsf⟩
  · have := owns_updD hown e2 (fun k hk e => hvr (by rw [← e]; exact hk))
    dsimp only
    rw [List.length_append, flatQ_snoc]
    exact this
  · exact owns_updD (owns_updD h.keep us (fun k hk e => own_typ h.keep h.queue (by decide) hk e)) e2 (fun k hk e => hrk (by rw [← e]; exact hk))
  · exact (us.mono (fun k _ e => Or.inr (Or.inr (Or.inl e)))).trans' e2 (fun k _ e => Or.inl e)
  · rintro j (e | e | e | e)
    · exact Or.inl (Or.inl e)
    · exact Or.inl (Or.inr (Or.inl e))
    · exact (hob j e).imp (fun e => Or.inr (Or.inr (Or.inl e))) id
    · exact Or.inl (Or.inr (Or.inr (Or.inr e)))
theorem infoRSec : (Tryz.prog.info? tRSec).map (fun i => (i.zero, i.size, i.bytes)) = some (some (.agg #[.int .i64 0, .int .i64 0]), 2, 16) := by kernel_rfl
set_option maxHeartbeats 4000000 in
set_option maxRecDepth 100000 in
theorem add_r (h : RDAt B w r D) (g : Gl w) (hB : B ≤ w.heap.size) {f : Int} (hf : 0 ≤ f ∧ f < 16) {i : Nat} (s : List UInt8) (hi : i + s.length ≤ 16777216) :
    Calls Tryz.prog 106 #[.pointer (some ⟨r.rb, 0, none⟩), .int .i64 f, .int .i64 i, .string ⟨s.toArray⟩] w fun e w' => e = .returned (.tuple #[]) ∧ RDTo B r (Dk.add D f i s) w w' := by
  have hgb := g.big
  by_cases hs : s = []
  · subst hs
    have hr : Hid (RDTo B r (Dk.add D f i []) w w) := RDTo.of_nw h (Upd.refl _ _)
    clear h
    go_enter Tryz.func106, Tryz.ntmps106
    go_wp2_with fail
    (try simp only [Exit.inBlock, Exit.then])
    refine bodyPost_ret (results_none rfl _ _ _) rfl ?_
    exact ⟨rfl, hr.out⟩
  have hse : s.isEmpty = false := by cases s with | nil => exact absurd rfl hs | cons _ _ => rfl
  have hse2 : (s == ([] : List UInt8)) = false := by cases s with | nil => exact absurd rfl hs | cons _ _ => rfl
  have hsl := List.length_pos_iff.2 hs
  have HK := Lib.hid (fun k => Dk.addK_ok h.ok (f := f) hs hf hi k)
  have Hall := Lib.hid (Dk.addK_all (D := D) (f := f) (i := i) hs)
  have hg1 := Lib.hid (get_r h f)
  have H := Lib.hid (And.intro h (And.intro hB hi))
  have hnl : Hid ((D.fs f).now.length ≤ 16777216) := h.ok.now f
  obtain ⟨fi, hfe⟩ : ∃ x, x = D.fs f := ⟨_, rfl⟩
  have Hfe := Lib.hid hfe
  rw [← hfe] at hg1 hnl
  obtain ⟨N, M⟩ := fi
  dsimp only at hg1 hnl
  obtain ⟨m, hm⟩ : ∃ m, m = (Dk.secs i s.length).length := ⟨_, rfl⟩
  have hml := hm
  rw [Dk.secs_len] at hml
  have hme : ((i : Int) + s.length - 1) / 64 = (((i + s.length - 1) / 64 : Nat) : Int) := by omega
  have hms : Hid (i / 64 + m = (i + s.length - 1) / 64 + 1) := by show _ = _; rw [hml]; omega
  have hm3 : (i + s.length - 1) / 64 ≤ 262144 := by omega
  obtain ⟨la, hla⟩ : ∃ la, la = (i + s.length - 1) / 64 := ⟨_, rfl⟩
  rw [← hla] at hme hms hm3
  have hla3 : (la : Int) ≤ 262144 := by omega
  have hi6 : (i : Int) / 64 = ((i / 64 : Nat) : Int) := by omega
  obtain ⟨fa, hfa⟩ : ∃ fa, fa = i / 64 := ⟨_, rfl⟩
  rw [← hfa] at hi6 hms
  have hfa3 : (fa : Int) ≤ 262144 := by omega
  have Hfa := Lib.hid hfa
  have Hm := Lib.hid hm
  have hbi : (i : Int) + s.length ≤ 16777216 := by omega
  have hb1 : (1 : Int) ≤ s.length := by omega
  clear h hs hm hml hla hfe hfa hi hsl
  go_enter Tryz.func106, Tryz.ntmps106
  go_wp2_with fail
  (with_reducible refine (hg1.out).mono ?_)
  rintro _ w1 ⟨rfl, u1⟩
  have n2 := nw_alloc w1 (.cells #[.int .i64 f, .string ⟨N.toArray⟩, .string ⟨M.toArray⟩] tRFile)
  have k2 := heap_new w1 (.cells #[.int .i64 f, .string ⟨N.toArray⟩, .string ⟨M.toArray⟩] tRFile)
  have K2 := Lib.hid (And.intro n2 k2)
  have U1 := Lib.hid u1
  have hgl1 := g.upd u1
  have hP := Lib.hid (Put_r N s i _ (hgl1.upd n2) hnl.out H.out.2.2)
  clear n2 k2 u1 hg1
  go_wp2_with fail
  (with_reducible refine (hP.out).mono ?_)
  rintro _ w3 ⟨rfl, u3⟩
  have B3 := u3.keep K2.out.2
  obtain ⟨b30, b31, b32⟩ : w3.cell? ⟨w1.heap.size, 0, none⟩ = some (.int .i64 f) ∧ w3.cell? ⟨w1.heap.size, 1, none⟩ = some (.string ⟨N.toArray⟩) ∧ w3.cell? ⟨w1.heap.size, 2, none⟩ = some (.string ⟨M.toArray⟩) := by
    refine ⟨?_, ?_, ?_⟩ <;> (rw [cells_cell B3]; rfl)
  have b3f := cells_frozen B3 1
  have hG3 := hgl1.upd (K2.out.1.trans u3)
  have hgw1 : nG ≤ w1.heap.size := hgl1.big
  obtain ⟨w4, hw4⟩ : ∃ z, z = w3.setCell ⟨w1.heap.size, 1, none⟩ (.string ⟨(Dk.put N i s).toArray⟩) := ⟨_, rfl⟩
  have u4 : Nw w w4 := ((U1.out.trans K2.out.1).trans u3).trans' (by rw [hw4]; exact Upd.set1 (Upd.refl _ _) hgw1 1 _) (fun k hk e => by have := U1.out.size; omega)
  have hk0 : Dk.Ok { D with fs := Dk.setF D.fs f ⟨Dk.put N i s, M⟩ } := by
    have := HK.out 0
    unfold Dk.addK at this
    rw [← Hfe.out] at this
    exact this
  have hset := set_r (H.out.1.nw u4) (g.upd u4) (Nat.le_trans H.out.2.1 u4.size) hf ⟨Dk.put N i s, M⟩ hk0
  have he0 : ({ D with fs := Dk.setF D.fs f ⟨Dk.put N i s, M⟩ } : Dk.Disk) = Dk.addK D f i s 0 := by
    unfold Dk.addK
    rw [← Hfe.out]
    rfl
  rw [he0, hw4] at hset
  have Hset := Lib.hid hset
  have U4 := Lib.hid u4
  rw [hw4] at U4
  clear hset he0 hk0 u4 hw4 u3 B3 hP K2
  go_wp2_with fail
  (with_reducible refine (Hset.out).mono ?_)
  rintro _ w5 ⟨rfl, h5⟩
  have hI0 : Hid (RDTo B r (Dk.addK D f i s 0) w w5) := RDTo.after U4.out h5.to
  clear Hset h5 U4 b30 b31 b32 b3f
  go_wp2_with fail
  go_loopw [9] (fun iv wr => ∃ k n : Nat, Hid (n = fa + k) ∧ k ≤ m ∧ iv = .int .i64 (n : Nat) ∧ Hid (RDTo B r (Dk.addK D f i s k) w wr)) (fun iv _ => la + 1 - (intOf iv).toNat)
  case atStart => exact ⟨0, fa, rfl, Nat.zero_le _, rfl, hI0.out⟩
  case round =>
    obtain ⟨k, n, Hn, hk, rfl, HI⟩ := hrel
    obtain ⟨⟨rb1, fv, qv, kv⟩, h1, h2, h3, h4⟩ := HI.out
    dsimp only at h2
    subst h2
    obtain ⟨aq, cq, hqv⟩ := own_slD h1.queue
    dsimp only at hqv
    subst hqv
    obtain ⟨_, c1, _⟩ := h1.cells
    dsimp only at c1
    have hBw := Nat.le_trans H.out.2.1 h3.size
    have hgB := h1.hb
    have hq4 := h1.ok.q_len
    have HH := Lib.hid (And.intro h1 (And.intro h3 h4))
    have hp := pending_r h1 f (n : Int)
    dsimp only at hp
    have Hq4 := Lib.hid hq4
    clear h1 h3 h4 hq4
    by_cases hlt : k < m
    · have hn1 : (n : Int) ≤ la := by have := hms.out; have := Hn.out; omega
      have hsucc := Dk.addK_succ (D := D) (f := f) (i := i) (s := s) (k := k) (by rw [← Hm.out]; exact hlt)
      rw [← Hfa.out, ← Hn.out] at hsucc
      cases hin : decide ((f, (n : Int)) ∈ (Dk.addK D f i s k).q) with
      | true =>
        rw [hin] at hp
        rw [Dk.addS_in (of_decide_eq_true hin)] at hsucc
        have Hp := Lib.hid hp
        have hz : Hid (RDTo B r (Dk.addK D f i s (k + 1)) w wr) := by
          show RDTo _ _ _ _ _
          rw [hsucc]; exact HI.out
        clear hp hin hsucc
        generalize Dk.addK D f i s k = Dk1 at *
        go_wp2_with fail
        (with_reducible refine (Hp.out).mono ?_)
        rintro _ _ ⟨rfl, rfl⟩
        go_wp2_with fail
        go_roundw
        case rel => exact ⟨k + 1, n + 1, (by show _ = _; have := Hn.out; omega), by omega, by go_num, hz.out⟩
        case measure => simp [intOf]; omega
      | false =>
        rw [hin] at hp
        rw [Dk.addS_out (of_decide_eq_false hin)] at hsucc
        have Hp := Lib.hid hp
        have hk1 := HK.out (k + 1)
        rw [hsucc] at hk1
        have Hs := Lib.hid (And.intro hsucc hk1)
        clear hp hin hsucc hk1
        generalize hE : Dk.addK D f i s (k + 1) = Dk2 at *
        have HE := Lib.hid hE
        clear hE
        generalize Dk.addK D f i s k = Dk1 at *
        go_wp2_with fail
        (with_reducible refine (Hp.out).mono ?_)
        rintro _ _ ⟨rfl, rfl⟩
        go_wp2_with (at_builtin; refine wpList_appL rfl _ _ 89 rfl B tRSec _ 2 16 Tryz.underlying89 infoRSec rfl (by decide) _ _ _ rfl HH.out.1.queue (secL (f, (n : Int))) rfl rfl ?c1 ?c2 ?c3 hBw hgB ?_)
        case c1 =>
          intro u hu
          simp only [secL, List.mem_cons, List.not_mem_nil, or_false] at hu
          rcases hu with rfl | rfl <;> rfl
        case c2 => have := Hq4.out; unfold maxLen; omega
        case c3 => have := Hq4.out; omega
        intro v' w6 o6 u6 hob
        obtain ⟨a6, c6, rfl⟩ := own_slD o6
        have b6 := u6.keep HH.out.1.blk (own_blk HH.out.1.queue HH.out.1.blk (by decide))
        have f16 := cells_frozen b6 1
        have c16 : w6.cell? ⟨r.rb, 1, none⟩ = some (.slice aq Dk1.q.length cq) := by rw [cells_cell b6]; rfl
        have hd := note_done_r (T := fun _ => True) HH.out.1 u6 o6 hob Hs.out.2
        have hz : Hid (RDTo B r Dk2 w (w6.setCell ⟨r.rb, 1, none⟩ (.slice a6 (Dk1.q.length + 1) c6))) := by
          show RDTo _ _ _ _ _
          rw [Hs.out.1]
          exact RDTo.then_ H.out.1 HH.out.1 rfl HH.out.2.1 HH.out.2.2 hd
        clear hd b6 o6 u6 hob
        go_wp2_with fail
        go_roundw
        case rel => exact ⟨k + 1, n + 1, (by show _ = _; have := Hn.out; omega), by omega, by go_num, (by show RDTo _ _ _ _ _; rw [HE.out]; exact hz.out)⟩
        case measure => simp [intOf]; omega
    · obtain rfl : k = m := by omega
      have hn1 : ¬ (n : Int) ≤ la := by have := hms.out; have := Hn.out; omega
      have hz : Hid (RDTo B r (Dk.add D f i s) w wr) := by
        show RDTo _ _ _ _ _
        rw [← Hall.out, ← Hm.out]; exact HI.out
      clear hp
      go_wp2_with fail
      go_end0
      exact ⟨rfl, hz.out⟩
end
end Go.Proofs.YtiambnllidingaaGreatDoor
