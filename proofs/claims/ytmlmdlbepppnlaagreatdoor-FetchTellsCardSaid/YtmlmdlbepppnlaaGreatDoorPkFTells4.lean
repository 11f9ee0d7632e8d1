/- The reference's disk (layer 2): survive, Crash. -/
import Derived.Test.YtmlmdlbepppnlaaGreatDoorPkFTells3
import Derived.Test.YtmlmdlbepppnlaaGreatDoorPkFTells1
import Derived.Deep.RegionHeldLaw
namespace Go.Proofs.YtmlmdlbepppnlaaGreatDoor
open Go.RowKit
set_option linter.unusedVariables false
set_option linter.unusedSimpArgs false
attribute [local irreducible] Calls

namespace Dk
/-- What survives of a sector. -/
def surv1 (fs : Int → Fil) (p : Int × Int) : Int → Fil :=
  if 64 * p.2.toNat < (fs p.1).now.length then setF fs p.1 ⟨(fs p.1).now, put (fs p.1).last (64 * p.2.toNat) (((fs p.1).now.drop (64 * p.2.toNat)).take 64)⟩ else fs
theorem setF_same (fs : Int → Fil) (f : Int) : setF fs f (fs f) = fs := by
  funext g
  unfold setF
  split
  · rename_i e; rw [e]
  · rfl
theorem survive_odd {keep : List Int} {i : Nat} {fs : Int → Fil} {p : Int × Int} (h : odd keep i = true) : survive keep fs p i = surv1 fs p := by
  unfold survive surv1
  by_cases hl : 64 * p.2.toNat < (fs p.1).now.length
  · rw [if_pos ⟨h, hl⟩, if_pos hl]
  · rw [if_neg (fun e => hl e.2), if_neg hl]
end Dk
theorem Put_g (sb tb : ByteArray) (s t : List UInt8) (i' : Int) (i : Nat) (h1 : sb.data.toList = s) (h2 : tb.data.toList = t) (h3 : i' = i) (w : World) (g : Gl w) (hs : s.length ≤ 16777216) (hi : i + t.length ≤ 16777216) :
    Calls Tryz.prog 84 #[.string sb, .int .i64 i', .string tb] w fun e w' => e = .returned (.string ⟨(Dk.put s i t).toArray⟩) ∧ Nw w w' := by
  subst h1 h2 h3
  rw [← bs_eta sb, ← bs_eta tb, bs_list, bs_list]
  exact Put_r sb.data.toList tb.data.toList i w g hs hi
section
variable {B : Nat} {w w1 : World} {r : RdR} {D D' : Dk.Disk}
set_option maxHeartbeats 4000000 in
set_option maxRecDepth 100000 in
theorem survive_r (h : RDAt B w r D) (g : Gl w) (hB : B ≤ w.heap.size) {f : Int} (hf : 0 ≤ f ∧ f < 16) {n : Nat} (hn : n ≤ 262144) (hk : Dk.Ok { D with fs := Dk.surv1 D.fs (f, (n : Int)) }) :
    Calls Tryz.prog 58 #[.pointer (some ⟨r.rb, 0, none⟩), .agg #[.int .i64 f, .int .i64 n]] w fun e w' => e = .returned (.tuple #[]) ∧ RDS B r { D with fs := Dk.surv1 D.fs (f, (n : Int)) } w w' := by
  have hgb := g.big
  have n1 := nw_alloc w (.cells #[.int .i64 f, .int .i64 n] tRSec)
  have k1 := heap_new w (.cells #[.int .i64 f, .int .i64 n] tRSec)
  have hg1 := Lib.hid (get_r (h.nw n1) f)
  have hnl := h.ok.now f
  have hll := h.ok.last f
  obtain ⟨fi, hfe⟩ : ∃ x, x = D.fs f := ⟨_, rfl⟩
  have hsv : Dk.surv1 D.fs (f, (n : Int)) = Dk.setF D.fs f (if 64 * n < fi.now.length then ⟨fi.now, Dk.put fi.last (64 * n) ((fi.now.drop (64 * n)).take 64)⟩ else fi) := by
    unfold Dk.surv1
    dsimp only
    rw [hfe, Int.toNat_natCast]
    split
    · rfl
    · rw [Dk.setF_same]
  rw [hsv] at hk
  have Hsv := Lib.hid hsv
  rw [← hfe] at hg1 hnl hll
  obtain ⟨N, M⟩ := fi
  dsimp only at hg1 hnl hll hk
  have H := Lib.hid (And.intro h (And.intro hB hk))
  have K1 := Lib.hid (And.intro n1 k1)
  have Hnl := Lib.hid (And.intro hnl hll)
  have hn1 : (n : Int) ≤ 262144 := by omega
  have hN1 : (N.length : Int) ≤ 16777216 := by omega
  clear h hB n1 k1 hfe hsv hk hnl hll
  go_enter Tryz.func58, Tryz.ntmps58
  go_wp2_with fail
  (with_reducible refine (hg1.out).mono ?_)
  rintro _ w2 ⟨rfl, u2⟩
  have n3 := nw_alloc w2 (.cells #[.int .i64 f, .string ⟨N.toArray⟩, .string ⟨M.toArray⟩] tRFile)
  have k3 := heap_new w2 (.cells #[.int .i64 f, .string ⟨N.toArray⟩, .string ⟨M.toArray⟩] tRFile)
  have b2 := u2.keep K1.out.2
  obtain ⟨w3, hw3⟩ : ∃ z, z = w2.alloc (.cells #[.int .i64 f, .string ⟨N.toArray⟩, .string ⟨M.toArray⟩] tRFile) := ⟨_, rfl⟩
  rw [← hw3] at n3 k3
  have b3 := n3.keep b2
  have U3 := Lib.hid ((K1.out.1.trans u2).trans n3)
  have hw2 : w.heap.size < w2.heap.size := lt_of_block b2
  have hgw2 : nG ≤ w2.heap.size := by omega
  obtain ⟨c0, c1⟩ := cell2D b2
  have K3 := Lib.hid (And.intro k3 b3)
  have HW3 := Lib.hid hw3
  clear n3 k3 b2 b3 hw3 u2 hg1
  by_cases hlt : 64 * n < N.length
  rotate_left
  · have h1 : ¬ (64 : Int) * n < N.length := by omega
    have hset := set_r (H.out.1.nw U3.out) (g.upd U3.out) (Nat.le_trans H.out.2.1 U3.out.size) hf ⟨N, M⟩ (by have := H.out.2.2; rw [if_neg hlt] at this; exact this)
    have hres : Hid (∀ z, RDS B r { D with fs := Dk.setF D.fs f ⟨N, M⟩ } w3 z → RDS B r { D with fs := Dk.surv1 D.fs (f, (n : Int)) } w z) := fun z hz => by
      rw [Hsv.out, if_neg hlt]
      exact hz.after U3.out
    rw [HW3.out] at hset
    have Hset := Lib.hid hset
    rw [HW3.out] at hres
    clear hset hlt
    go_wp2_with fail
    (with_reducible refine (Hset.out).mono ?_)
    rintro _ w5 ⟨rfl, h5⟩
    have hz := Lib.hid (hres.out _ h5)
    clear h5
    go_wp2_with fail
    go_end0
    exact ⟨rfl, hz.out⟩
  · have h1 : (64 : Int) * n < N.length := by omega
    have Hlt := Lib.hid hlt
    have hset := fun (z : World) (u : Nw w z) => set_r (H.out.1.nw u) (g.upd u) (Nat.le_trans H.out.2.1 u.size) hf ⟨N, Dk.put M (64 * n) ((N.drop (64 * n)).take 64)⟩ (by have := H.out.2.2; rw [if_pos hlt] at this; exact this)
    have hres : Hid (∀ w4 z, Nw w w4 → RDS B r { D with fs := Dk.setF D.fs f ⟨N, Dk.put M (64 * n) ((N.drop (64 * n)).take 64)⟩ } w4 z → RDS B r { D with fs := Dk.surv1 D.fs (f, (n : Int)) } w z) := fun w4 z u hz => by
      rw [Hsv.out, if_pos hlt]
      exact hz.after u
    have hext : (({ data := N.toArray } : ByteArray).extract ((64 : Int) * n).toNat (min ((64 : Int) * n + 64) (N.length : Int)).toNat).data.toList = (N.drop (64 * n)).take 64 := by
      rw [bs_extract, bs_list]
      rw [show ((64 : Int) * n).toNat = 64 * n by omega]
      by_cases hc : n * 64 + 64 ≤ N.length
      · rw [show (min ((64 : Int) * n + 64) (N.length : Int)).toNat - 64 * n = 64 by omega]
      · rw [List.take_of_length_le (by rw [List.length_drop]; omega), List.take_of_length_le (by rw [List.length_drop]; omega)]
    have Hset := Lib.hid hset
    have Hext := Lib.hid hext
    clear hset hext hlt
    go_upto_region 3 with fail
    rw [← HW3.out]
    obtain ⟨e0, e1, e2⟩ : w3.cell? ⟨w2.heap.size, 0, none⟩ = some (.int .i64 f) ∧ w3.cell? ⟨w2.heap.size, 1, none⟩ = some (.string ⟨N.toArray⟩) ∧ w3.cell? ⟨w2.heap.size, 2, none⟩ = some (.string ⟨M.toArray⟩) := by
      refine ⟨?_, ?_, ?_⟩ <;> (rw [cells_cell K3.out.1]; rfl)
    obtain ⟨_, e3⟩ := cell2D K3.out.2
    have y1 := fun i : Later w3 => later_cell i e1
    have y2 := fun i : Later w3 => later_cell i e2
    have y3 := fun i : Later w3 => later_cell i e3
    have hs0 : 0 ≤ (64 : Int) * n := by omega
    have hs1 : (64 : Int) * n ≤ min ((64 : Int) * n + 64) N.length := by omega
    have hs2 : min ((64 : Int) * n + 64) (N.length : Int) ≤ N.length := by omega
    have hw1 : IntKind.i64.wrap ((64 : Int) * n) = (64 : Int) * n := by rw [IntKind.wrap_i64]; omega
    have hw2' : IntKind.i64.wrap ((64 : Int) * n + 64) = (64 : Int) * n + 64 := by rw [IntKind.wrap_i64]; omega
    have hput := fun j : Later w3 => Put_g ⟨M.toArray⟩ _ M ((N.drop (64 * n)).take 64) ((64 : Int) * n) (64 * n) (bs_list M) Hext.out (by omega) j.1 (g.upd (U3.out.trans j.nw)) (by have := Hnl.out.2; omega) (by rw [List.length_take, List.length_drop]; omega)
    have Hput := Lib.hid hput
    clear hput e0 e1 e2 e3 c0 c1
    refine wp_region_nw_tail 20 (by kernel_rfl) (by kernel_rfl) ?_
    simp only [List.take_succ_cons, List.take_zero, List.drop_succ_cons, List.drop_zero]
    repeat (go_big_quiet_step ((go_at_call 84; exact later_call (Hput.out _))))
    refine wpQuiet_nil ?_
    intro w4 u4
    replace u4 := later_out u4
    have k4 := u4.keep K3.out.1
    obtain ⟨e0, e1, e2⟩ : w4.cell? ⟨w2.heap.size, 0, none⟩ = some (.int .i64 f) ∧ w4.cell? ⟨w2.heap.size, 1, none⟩ = some (.string ⟨N.toArray⟩) ∧ w4.cell? ⟨w2.heap.size, 2, none⟩ = some (.string ⟨M.toArray⟩) := by
      refine ⟨?_, ?_, ?_⟩ <;> (rw [cells_cell k4]; rfl)
    have f2 := cells_frozen k4 2
    generalize Dk.put M (64 * n) ((N.drop (64 * n)).take 64) = P at *
    have u5 : Nw w (w4.setCell ⟨w2.heap.size, 2, none⟩ (.string ⟨P.toArray⟩)) := (U3.out.trans u4).trans' (Upd.set1 (Upd.refl _ _) hgw2 2 _) (fun k hk e => by omega)
    have hset := Lib.hid (Hset.out _ u5)
    have U5 := Lib.hid u5
    clear k4 u4 u5 y1 y2 y3 Hput Hset
    go_wp2_with fail
    (with_reducible refine (hset.out).mono ?_)
    rintro _ w6 ⟨rfl, h6⟩
    have hz := Lib.hid (hres.out _ _ U5.out h6)
    clear h6
    go_wp2_with fail
    go_end0
    exact ⟨rfl, hz.out⟩
/-- A cell of the disk's block that holds a number or a truth. -/
theorem RDAt.scal (h : RDAt B w r D) (i : Nat) (v : Value) (he : (rdC r D).setIfInBounds i v = rdC r D') (e1 : D'.fs = D.fs) (e2 : D'.q = D.q) (e3 : D'.keep = D.keep) (hk : Dk.Ok D') :
    RDAt B (w.setCell ⟨r.rb, i, none⟩ v) r D' ∧ Upd (fun k => k = r.rb) w (w.setCell ⟨r.rb, i, none⟩ v) := by
  have hg : nG ≤ r.rb := Nat.le_trans h.hb h.rb
  have us : Upd (fun k => k = r.rb) w (w.setCell ⟨r.rb, i, none⟩ v) := Upd.set1 (Upd.refl _ _) hg i _
  obtain ⟨l, hl, hs⟩ := h.files
  refine ⟨⟨h.hb, h.rb, by rw [← he]; exact setCell_block h.blk i v, ?_, ?_, ?_, hk, by rw [e3]; exact h.kI⟩, us⟩
  · rw [e1]; exact h.files.upd us (fun k hk e => own_blk hl h.blk (by decide) (by rw [← e]; exact hk))
  · rw [e2]; exact owns_updD h.queue us (fun k hk e => own_blk h.queue h.blk (by decide) (by rw [← e]; exact hk))
  · rw [e3]; exact owns_updD h.keep us (fun k hk e => own_blk h.keep h.blk (by decide) (by rw [← e]; exact hk))
/-- While sectors survive. -/
def CrI (B : Nat) (w : World) (r : RdR) (D : Dk.Disk) (keep : List Int) (k : Nat) (z : World) : Prop :=
  ∃ fv, RDAt B z ⟨r.rb, fv, r.qv, r.kv⟩ (Dk.crashK D keep k) ∧ Upd (fun k => k = r.rb) w z ∧ ∀ k, fv.ownBlock = some k → r.fv.ownBlock = some k ∨ w.heap.size ≤ k
/-- The files behind a crash. -/
def lastR (l : List (Int × Dk.Fil)) : List (Int × Dk.Fil) := l.map fun p => (p.1, ⟨p.2.last, p.2.last⟩)
theorem lastR_says {l : List (Int × Dk.Fil)} {fs : Int → Dk.Fil} (h : SaysR l fs) : SaysR (lastR l) (fun f => ⟨(fs f).last, (fs f).last⟩) := by
  refine ⟨?_, fun p hp => ?_, fun f hf => ?_⟩
  · unfold lastR
    rw [List.map_map]
    exact h.nd
  · obtain ⟨q, hq, rfl⟩ := List.mem_map.1 hp
    obtain ⟨h1, h2⟩ := h.each q hq
    exact ⟨h1, by dsimp only; rw [h2]⟩
  · have := h.none f (fun p hp e => hf _ (List.mem_map.2 ⟨p, hp, rfl⟩) e)
    rw [this]; rfl
def OutI (w3 : World) (l : List (Int × Dk.Fil)) (k : Nat) (v : Value) (z : World) : Prop :=
  z.ownsRow w3.heap.size tRFile 3 v k (flatR (lastR (l.take k))) ∧ Nw w3 z
theorem survives_no (fs : Int → Dk.Fil) : ∀ (q : List (Int × Int)) (i : Nat), Dk.survives [] q i fs = fs := by
  intro q
  induction q with
  | nil => intro i; rfl
  | cons p q ih =>
    intro i
    show Dk.survives [] q (i + 1) (Dk.survive [] fs p i) = fs
    rw [Dk.odd_not (by unfold Dk.odd; rfl)]
    exact ih (i + 1)
/-- The new list of files, and no pending sector. -/
theorem crash_fin {v' : Value} {B0 : Nat} {l' : List (Int × Dk.Fil)} (h : RDAt B w r D) (u : Nw w w1) (hB0 : w.heap.size ≤ B0) (hown : w1.ownsRow B0 tRFile 3 v' l'.length (flatR l')) (hB : B ≤ w.heap.size) (hs : SaysR l' D'.fs)
    (e1 : D'.q = []) (e2 : D'.lost = D.lost) (e3 : D'.down = D.down) (e4 : D'.armed = D.armed) (e5 : D'.keep = D.keep) (hk : Dk.Ok D') :
    RDTo B r D' w ((w1.setCell ⟨r.rb, 0, none⟩ v').setCell ⟨r.rb, 1, none⟩ (.slice none 0 0)) := by
  have h1 := h.nw u
  have hg : nG ≤ r.rb := Nat.le_trans h.hb h.rb
  have us : Upd (fun k => k = r.rb) w1 (w1.setCell ⟨r.rb, 0, none⟩ v') := Upd.set1 (Upd.refl _ _) hg 0 _
  have us2 : Upd (fun k => k = r.rb) (w1.setCell ⟨r.rb, 0, none⟩ v') ((w1.setCell ⟨r.rb, 0, none⟩ v').setCell ⟨r.rb, 1, none⟩ (.slice none 0 0)) := Upd.set1 (Upd.refl _ _) hg 1 _
  have hU := us.trans us2
  have hrw := (h.foot_lt (Or.inl rfl)).2
  refine ⟨⟨r.rb, v', .slice none 0 0, r.kv⟩, ⟨h.hb, h.rb, ?_, ?_, ?_, ?_, hk, by rw [e5]; exact h.kI⟩, rfl, (Nw.trans u hU).mono (fun k _ e => Or.inl e), ?_⟩
  · have := setCell_block (setCell_block h1.blk 0 v') 1 (.slice none 0 0)
    unfold rdC at this ⊢
    rw [e2, e3, e4]
    exact this
  · exact ⟨l', owns_base (owns_updD hown hU (fun k hk e => by have := (hown.lt k hk).1; omega)) (Nat.le_trans hB hB0), hs⟩
  · rw [e1]; exact World.ownsRow_nil _ _ _ _
  · rw [e5]
    exact owns_updD h1.keep hU (fun k hk e => own_blk h1.keep h1.blk (by decide) (by rw [← e]; exact hk))
  · rintro j (e | e | e | e)
    · exact Or.inl (Or.inl e)
    · exact Or.inr (Nat.le_trans hB0 (hown.lt j e).1)
    · cases e
    · exact Or.inl (Or.inr (Or.inr (Or.inr e)))
set_option maxHeartbeats 4000000 in
set_option maxRecDepth 100000 in
theorem crash_r (h : RDAt B w r D) (g : Gl w) (hB : B ≤ w.heap.size) (lo hi : Nat) (kvv : Value) (keep : List Int) (hk : ∀ z, Upd (fun j => j = r.rb) w z → Sl lo hi z kvv (keep.map intD)) (hkI : ∀ x ∈ keep, I64 x) :
    Calls Tryz.prog 30 #[.pointer (some ⟨r.rb, 0, none⟩), kvv] w fun e w' => e = .returned (.tuple #[]) ∧ RDTo B r (Dk.crash D keep) w w' := by
  have hgb := g.big
  obtain ⟨_, _, _, c3, c4, _⟩ := h.cells
  have f3 := h.frozen 3
  have H := Lib.hid h
  cases hd : D.down with
  | true =>
    have hr : Hid (RDTo B r (Dk.crash D keep) w w) := by
      show RDTo _ _ _ _ _
      unfold Dk.crash
      rw [hd, if_pos rfl]
      exact RDTo.of_nw h (Upd.refl _ _)
    rw [hd] at c3
    clear h hd
    go_enter Tryz.func30, Tryz.ntmps30
    go_wp2_with fail
    (try simp only [Exit.inBlock, Exit.then])
    refine bodyPost_ret (results_none rfl _ _ _) rfl ?_
    exact ⟨rfl, hr.out⟩
  | false =>
    rw [hd] at c3
    have Hce := Lib.hid (Dk.crash_eq hd keep)
    have hrbg : nG ≤ r.rb := Nat.le_trans h.hb h.rb
    obtain ⟨ak, ck, hkv, hkm, _⟩ := int_cells (hk w (Upd.refl _ _))
    subst hkv
    unfold maxLen at hkm
    have hkl : (keep.length : Int) ≤ 9223372036854775807 := by omega
    have hql := h.ok.q_len
    have hql1 : (D.q.length : Int) ≤ 4194304 := by omega
    obtain ⟨s1, v1⟩ := h.scal (D' := { D with down := true }) 3 (.bool true) rfl rfl rfl rfl ⟨h.ok.now, h.ok.last, h.ok.q, h.ok.nd, h.ok.lost, h.ok.armed⟩
    obtain ⟨s2, v2⟩ := s1.scal (D' := Dk.crashK D keep 0) 4 (.int .i64 0) rfl rfl rfl rfl (Dk.crashK_ok h.ok keep 0)
    have e4 : (w.setCell ⟨r.rb, 3, none⟩ (.bool true)).cell? ⟨r.rb, 4, none⟩ = some (.int .i64 D.armed) := s1.cells.2.2.2.2.1
    have e4f : (w.setCell ⟨r.rb, 3, none⟩ (.bool true)).frozen? ⟨r.rb, 4, none⟩ = false := s1.frozen 4
    have H0 : Hid (CrI B w r D keep 0 ((w.setCell ⟨r.rb, 3, none⟩ (.bool true)).setCell ⟨r.rb, 4, none⟩ (.int .i64 0))) := ⟨r.fv, s2, v1.trans v2, fun k hk => Or.inl hk⟩
    have Hk := Lib.hid hk
    have HkI := Lib.hid hkI
    have HB := Lib.hid hB
    clear h hd hk hkI hB hkm hql s1 s2 v1 v2
    go_enter Tryz.func30, Tryz.ntmps30
    go_wp2_with fail
    go_loopw [4] (fun iv wr => ∃ k : Nat, k ≤ D.q.length ∧ iv = .int .i64 k ∧ Hid (CrI B w r D keep k wr)) (fun iv _ => D.q.length - (intOf iv).toNat)
    case atStart => exact ⟨0, Nat.zero_le _, rfl, H0.out⟩
    case round =>
      obtain ⟨k, hk, rfl, HI⟩ := hrel
      obtain ⟨fv, h1, h2, h3⟩ := HI.out
      obtain ⟨aq, cq, hqv, _, hcell⟩ := secD_cells (rs_sls h1.queue)
      obtain ⟨_, c1, _⟩ := h1.cells
      dsimp only at hqv c1
      rw [hqv] at c1
      have hlen : (Dk.crashK D keep k).q.length = D.q.length := rfl
      rw [hlen] at c1
      have HH := Lib.hid (And.intro h1 (And.intro h2 h3))
      obtain ⟨ak2, ck2, e2, _, hkc⟩ := int_cells (Hk.out wr h2)
      simp only [Value.slice.injEq, true_and] at e2
      obtain ⟨rfl, rfl⟩ := e2
      clear h1 h2 h3 HI hlen hqv
      by_cases hgo : k < D.q.length ∧ 0 < keep.length
      · obtain ⟨hlt, hk0⟩ := hgo
        have hk1 : (0 : Int) < keep.length := by omega
        rcases hcell with hnil | ⟨b, off, rfl, _, _, hc⟩
        · exfalso
          have : D.q = [] := hnil
          rw [this] at hlt; simp at hlt
        obtain ⟨d0, d1⟩ := hc k hlt
        have e0 : (Dk.crashK D keep k).q[k] = D.q[k] := rfl
        rw [e0] at d0 d1
        rcases hkc with hnil | ⟨bk, ok, rfl, _, _, hkc⟩
        · rw [hnil] at hk0; simp at hk0
        have hklt : k % keep.length < keep.length := Nat.mod_lt _ (by omega)
        have z0 := hkc _ hklt
        have hke : ((keep.length : Int) == 0) = false := beq_eq_false_iff_ne.2 (by omega)
        have hbx := and1 keep[k % keep.length]
        have hodd : Dk.odd keep k = decide (keep[k % keep.length] % 2 = 1) := by
          unfold Dk.odd
          rw [decide_eq_true (show keep ≠ [] from fun e => by rw [e] at hk0; simp at hk0), Bool.true_and, List.getD_eq_getElem?_getD, List.getElem?_eq_getElem hklt]
          rfl
        have hfs := Dk.crashK_succ (keep := keep) hlt
        have hnext : Hid (Dk.crashK D keep (k + 1) = { Dk.crashK D keep k with fs := Dk.survive keep (Dk.crashK D keep k).fs D.q[k] k }) := by
          show _ = _
          rw [← hfs]; rfl
        have hp := H.out.ok.q (D.q[k]) (List.getElem_mem hlt)
        have hOk1 := Lib.hid (Dk.crashK_ok H.out.ok keep (k + 1))
        clear hkc hc e0 hfs
        generalize keep[k % keep.length] = x at *
        generalize D.q[k] = p at *
        obtain ⟨pf, pn⟩ := p
        dsimp only at d0 d1 hp
        by_cases hx : x % 2 = 1
        rotate_left
        · have hod : Hid (Dk.odd keep k = false) := by show _ = _; rw [hodd, decide_eq_false hx]
          have hb0 : bits .and .i64 x 1 = 0 := by rw [hbx]; omega
          have hz : Hid (CrI B w r D keep (k + 1) wr) := by
            refine ⟨fv, ?_, HH.out.2.1, HH.out.2.2⟩
            rw [hnext.out, Dk.odd_not hod.out]
            exact HH.out.1
          clear hodd hx hbx hp hnext
          go_wp2_with fail
          go_roundw
          case rel => exact ⟨k + 1, by omega, by go_num, hz.out⟩
          case measure => simp [intOf]; omega
        · have hod : Hid (Dk.odd keep k = true) := by show _ = _; rw [hodd, decide_eq_true hx]
          have hb0 : bits .and .i64 x 1 = 1 := by rw [hbx]; omega
          obtain ⟨m, rfl⟩ : ∃ m : Nat, pn = m := ⟨pn.toNat, by omega⟩
          have hsv := survive_r HH.out.1 (g.upd HH.out.2.1) (Nat.le_trans HB.out HH.out.2.1.size) (f := pf) ⟨hp.1, hp.2.1⟩ (n := m) (by omega) (by have := hOk1.out; rw [hnext.out, Dk.survive_odd hod.out] at this; exact this)
          have hz : Hid (∀ z, RDS B ⟨r.rb, fv, r.qv, r.kv⟩ { Dk.crashK D keep k with fs := Dk.surv1 (Dk.crashK D keep k).fs (pf, (m : Int)) } wr z → CrI B w r D keep (k + 1) z) := fun z hz => by
            obtain ⟨fv', k1, k2, k3⟩ := hz
            refine ⟨fv', ?_, HH.out.2.1.trans k2, fun j hj => ?_⟩
            · rw [hnext.out, Dk.survive_odd hod.out]
              exact k1
            · rcases k3 j hj with e | e
              · exact HH.out.2.2 j e
              · exact Or.inr (Nat.le_trans HH.out.2.1.size e)
          have Hsv := Lib.hid hsv
          clear hodd hx hbx hp hnext hsv
          go_wp2_with fail
          (with_reducible refine (Hsv.out).mono ?_)
          rintro _ w6 ⟨rfl, h6⟩
          have hz2 := Lib.hid (hz.out _ h6)
          clear h6 hz
          go_wp2_with fail
          go_roundw
          case rel => exact ⟨k + 1, by omega, by go_num, hz2.out⟩
          case measure => simp [intOf]; omega
      · have hfs : (Dk.crashK D keep D.q.length).fs = (Dk.crashK D keep k).fs := by
          by_cases hkq : k < D.q.length
          · have : keep = [] := List.length_eq_zero_iff.1 (by omega)
            subst this
            unfold Dk.crashK
            dsimp only
            rw [survives_no, survives_no]
          · obtain rfl : k = D.q.length := by omega
            rfl
        have hcr := Hce.out
        rw [hfs] at hcr
        have Hcr := Lib.hid hcr
        obtain ⟨l, hl, hsl⟩ := HH.out.1.files
        have hl16 := hsl.len
        obtain ⟨af, cf, hfv, _, hcF⟩ := rfL_cells (rf_sls hl)
        have HcF := Lib.hid hcF
        clear hcF
        dsimp only at hfv
        have hl1 : (l.length : Int) ≤ 16 := by omega
        have HL := Lib.hid (And.intro hl (And.intro hsl hfv))
        have hJ0 : Hid (OutI wr l 0 (.slice none 0 0) wr) := ⟨World.ownsRow_nil _ _ _ _, Upd.refl _ _⟩
        have hgX : nG ≤ wr.heap.size := (g.upd HH.out.2.1).big
        have hgo2 : ¬ (k : Int) < D.q.length ∨ ((k : Int) < D.q.length ∧ (keep.length : Int) = 0) := by omega
        obtain ⟨wX, rfl⟩ : ∃ x, x = wr := ⟨_, rfl⟩
        clear hcell hkc hfs hcr hl hsl hl16 hfv hgo
        rcases hgo2 with hgo2 | ⟨hgo2, hgo3⟩
        · go_wp2_with fail
          go_loopw [5, 6] (fun v iv wr => ∃ m : Nat, m ≤ l.length ∧ iv = .int .i64 m ∧ Hid (OutI wX l m v wr)) (fun _ iv _ => l.length - (intOf iv).toNat)
          case atStart => exact ⟨0, Nat.zero_le _, rfl, hJ0.out⟩
          case round =>
            obtain ⟨m, hm, rfl, HJ⟩ := hrel
            clear c1
            obtain ⟨av, cv, rfl⟩ := own_slD HJ.out.1
            have h' := HH.out.1.nw HJ.out.2
            obtain ⟨c0, c1, _⟩ := h'.cells
            have f0 := h'.frozen 0
            dsimp only at c0 c1 f0
            rw [HL.out.2.2] at c0
            by_cases hlt : m < l.length
            · rcases HcF.out with hnil | ⟨b, off, rfl, hbX, _, hc⟩
              · rw [hnil] at hlt; simp at hlt
              obtain ⟨d0, d1, d2⟩ := hc m hlt
              have htk : l.take (m + 1) = l.take m ++ [l[m]] := List.take_succ_eq_append_getElem hlt
              have Htk := Lib.hid htk
              have hml : m ≤ 16 := by omega
              have hrbX := (HH.out.1.foot_lt (Or.inl rfl)).2
              have hne : ∀ k, k < wX.heap.size → ¬ (Value.slice av m cv).ownBlock = some k := fun k hk e => by have := (HJ.out.1.lt k e).1; omega
              have HS : Hid (∀ z, Upd (fun k => (Value.slice av m cv).ownBlock = some k) wr z → z.cell? ⟨r.rb, 0, none⟩ = some (.slice (some ⟨b, off, none⟩) l.length cf) ∧ z.cell? ⟨b, off + m * 3, none⟩ = some (.int .i64 l[m].1) ∧ z.cell? ⟨b, off + m * 3 + 2, none⟩ = some (.string ⟨l[m].2.last.toArray⟩)) := fun z uz => by
                have hX : ∀ i, z.cell? ⟨b, i, none⟩ = wX.cell? ⟨b, i, none⟩ := fun i => (World.cell?_of_block (a := ⟨b, i, none⟩) (uz.block b (by have := HJ.out.2.size; omega) (Or.inr (hne b hbX)))).trans (World.cell?_of_block (a := ⟨b, i, none⟩) (HJ.out.2.block b hbX (Or.inr id)))
                refine ⟨?_, (hX _).trans d0, (hX _).trans d2⟩
                rw [cells_cell (uz.keep h'.blk (hne _ hrbX)), ← HL.out.2.2]; rfl
              clear hc htk h' c1 f0 d0 d1 d2 hne hrbX
              generalize l[m] = y at *
              obtain ⟨yf, yn, yl⟩ := y
              dsimp only at HS
              go_wp2_with fail
              go_region_held_law (fun z => z.cell? ⟨r.rb, 0, none⟩ = some (.slice (some ⟨b, off, none⟩) l.length cf) ∧ z.cell? ⟨b, off + m * 3, none⟩ = some (.int .i64 yf) ∧ z.cell? ⟨b, off + m * 3 + 2, none⟩ = some (.string ⟨yl.toArray⟩)) (with_reducible first | exact HS.out _ (by repeat (first | exact Upd.refl _ _ | assumption | refine Upd.drew ?_ | refine Upd.alloc ?_ _))) (first | (refine step_appD rfl _ _ 67 rfl wX.heap.size tRFile _ 3 40 Tryz.underlying67 infoRFile rfl (by decide) (.slice av m cv) m (flatR (lastR (l.take m))) rfl wr (fun _ => False) HJ.out.1 ((Upd.refl _ _).drew.alloc _) (fun _ _ e => e) _ (rfL (yf, ⟨yl, yl⟩)) rfl (heap_new _ _) rfl (rfL_one _) (by unfold maxLen; omega) (by omega) HJ.out.2.size hgX ?_; intro gs cs ws hownS uS oS; have tS : Upd (fun k => (Value.slice av m cv).ownBlock = some k) wr ws := Upd.trans (((Upd.refl _ wr).drew).alloc _) uS))
              have hz2 : Hid (OutI wX l (m + 1) (.slice (some ⟨gs, 0, none⟩) (m + 1) cs) ws) := by
                refine ⟨?_, HJ.out.2.trans' tS (fun j hj e => by have := (HJ.out.1.lt j e).1; omega)⟩
                rw [Htk.out]
                have : lastR (l.take m ++ [(yf, ⟨yn, yl⟩)]) = lastR (l.take m) ++ [(yf, ⟨yl, yl⟩)] := by simp [lastR]
                rw [this, flatR_snoc]
                exact hownS
              clear hownS uS tS oS
              go_wp2_with fail
              go_roundw
              case rel => exact ⟨m + 1, by omega, by go_num, hz2.out⟩
              case measure => simp [intOf]; omega
            · obtain rfl : m = l.length := by omega
              have hI1 := HJ.out.1
              rw [List.take_length] at hI1
              have b1 := setCell_block h'.blk 0 (.slice av l.length cv)
              have e1 : (wr.setCell ⟨r.rb, 0, none⟩ (.slice av l.length cv)).cell? ⟨r.rb, 1, none⟩ = some r.qv := by rw [cells_cell b1]; rfl
              have e1f : (wr.setCell ⟨r.rb, 0, none⟩ (.slice av l.length cv)).frozen? ⟨r.rb, 1, none⟩ = false := cells_frozen b1 1
              have hlr : (lastR l).length = l.length := by simp [lastR]
              have hok : Dk.Ok (Dk.crash D keep) := Dk.crash_ok H.out.ok keep
              have hfin := crash_fin (D' := Dk.crash D keep) (l' := lastR l) (v' := .slice av l.length cv) HH.out.1 HJ.out.2 (Nat.le_refl _) (by rw [hlr]; exact hI1) (Nat.le_trans HB.out HH.out.2.1.size) (by rw [Hcr.out]; exact lastR_says HL.out.2.1) (by rw [Hcr.out]) (by rw [Hcr.out]; rfl) (by rw [Hcr.out]; rfl) (by rw [Hcr.out]; rfl) (by rw [Hcr.out]; rfl) hok
              have hdone := Lib.hid (RDTo.then_ H.out HH.out.1 rfl (HH.out.2.1.mono (fun k _ e => Or.inl e)) (by
                rintro j (e | e | e | e)
                · exact Or.inl (Or.inl e)
                · exact (HH.out.2.2 j e).imp (fun e => Or.inr (Or.inl e)) id
                · exact Or.inl (Or.inr (Or.inr (Or.inl e)))
                · exact Or.inl (Or.inr (Or.inr (Or.inr e)))) hfin)
              clear hI1 b1 hlr hok hfin h' HJ
              go_wp2_with fail
              go_end0
              exact ⟨rfl, hdone.out⟩
        · go_wp2_with fail
          go_loopw [5, 6] (fun v iv wr => ∃ m : Nat, m ≤ l.length ∧ iv = .int .i64 m ∧ Hid (OutI wX l m v wr)) (fun _ iv _ => l.length - (intOf iv).toNat)
          case atStart => exact ⟨0, Nat.zero_le _, rfl, hJ0.out⟩
          case round =>
            obtain ⟨m, hm, rfl, HJ⟩ := hrel
            clear c1
            obtain ⟨av, cv, rfl⟩ := own_slD HJ.out.1
            have h' := HH.out.1.nw HJ.out.2
            obtain ⟨c0, c1, _⟩ := h'.cells
            have f0 := h'.frozen 0
            dsimp only at c0 c1 f0
            rw [HL.out.2.2] at c0
            by_cases hlt : m < l.length
            · rcases HcF.out with hnil | ⟨b, off, rfl, hbX, _, hc⟩
              · rw [hnil] at hlt; simp at hlt
              obtain ⟨d0, d1, d2⟩ := hc m hlt
              have htk : l.take (m + 1) = l.take m ++ [l[m]] := List.take_succ_eq_append_getElem hlt
              have Htk := Lib.hid htk
              have hml : m ≤ 16 := by omega
              have hrbX := (HH.out.1.foot_lt (Or.inl rfl)).2
              have hne : ∀ k, k < wX.heap.size → ¬ (Value.slice av m cv).ownBlock = some k := fun k hk e => by have := (HJ.out.1.lt k e).1; omega
              have HS : Hid (∀ z, Upd (fun k => (Value.slice av m cv).ownBlock = some k) wr z → z.cell? ⟨r.rb, 0, none⟩ = some (.slice (some ⟨b, off, none⟩) l.length cf) ∧ z.cell? ⟨b, off + m * 3, none⟩ = some (.int .i64 l[m].1) ∧ z.cell? ⟨b, off + m * 3 + 2, none⟩ = some (.string ⟨l[m].2.last.toArray⟩)) := fun z uz => by
                have hX : ∀ i, z.cell? ⟨b, i, none⟩ = wX.cell? ⟨b, i, none⟩ := fun i => (World.cell?_of_block (a := ⟨b, i, none⟩) (uz.block b (by have := HJ.out.2.size; omega) (Or.inr (hne b hbX)))).trans (World.cell?_of_block (a := ⟨b, i, none⟩) (HJ.out.2.block b hbX (Or.inr id)))
                refine ⟨?_, (hX _).trans d0, (hX _).trans d2⟩
                rw [cells_cell (uz.keep h'.blk (hne _ hrbX)), ← HL.out.2.2]; rfl
              clear hc htk h' c1 f0 d0 d1 d2 hne hrbX
              generalize l[m] = y at *
              obtain ⟨yf, yn, yl⟩ := y
              dsimp only at HS
              go_wp2_with fail
              go_region_held_law (fun z => z.cell? ⟨r.rb, 0, none⟩ = some (.slice (some ⟨b, off, none⟩) l.length cf) ∧ z.cell? ⟨b, off + m * 3, none⟩ = some (.int .i64 yf) ∧ z.cell? ⟨b, off + m * 3 + 2, none⟩ = some (.string ⟨yl.toArray⟩)) (with_reducible first | exact HS.out _ (by repeat (first | exact Upd.refl _ _ | assumption | refine Upd.drew ?_ | refine Upd.alloc ?_ _))) (first | (refine step_appD rfl _ _ 67 rfl wX.heap.size tRFile _ 3 40 Tryz.underlying67 infoRFile rfl (by decide) (.slice av m cv) m (flatR (lastR (l.take m))) rfl wr (fun _ => False) HJ.out.1 ((Upd.refl _ _).drew.alloc _) (fun _ _ e => e) _ (rfL (yf, ⟨yl, yl⟩)) rfl (heap_new _ _) rfl (rfL_one _) (by unfold maxLen; omega) (by omega) HJ.out.2.size hgX ?_; intro gs cs ws hownS uS oS; have tS : Upd (fun k => (Value.slice av m cv).ownBlock = some k) wr ws := Upd.trans (((Upd.refl _ wr).drew).alloc _) uS))
              have hz2 : Hid (OutI wX l (m + 1) (.slice (some ⟨gs, 0, none⟩) (m + 1) cs) ws) := by
                refine ⟨?_, HJ.out.2.trans' tS (fun j hj e => by have := (HJ.out.1.lt j e).1; omega)⟩
                rw [Htk.out]
                have : lastR (l.take m ++ [(yf, ⟨yn, yl⟩)]) = lastR (l.take m) ++ [(yf, ⟨yl, yl⟩)] := by simp [lastR]
                rw [this, flatR_snoc]
                exact hownS
              clear hownS uS tS oS
              go_wp2_with fail
              go_roundw
              case rel => exact ⟨m + 1, by omega, by go_num, hz2.out⟩
              case measure => simp [intOf]; omega
            · obtain rfl : m = l.length := by omega
              have hI1 := HJ.out.1
              rw [List.take_length] at hI1
              have b1 := setCell_block h'.blk 0 (.slice av l.length cv)
              have e1 : (wr.setCell ⟨r.rb, 0, none⟩ (.slice av l.length cv)).cell? ⟨r.rb, 1, none⟩ = some r.qv := by rw [cells_cell b1]; rfl
              have e1f : (wr.setCell ⟨r.rb, 0, none⟩ (.slice av l.length cv)).frozen? ⟨r.rb, 1, none⟩ = false := cells_frozen b1 1
              have hlr : (lastR l).length = l.length := by simp [lastR]
              have hok : Dk.Ok (Dk.crash D keep) := Dk.crash_ok H.out.ok keep
              have hfin := crash_fin (D' := Dk.crash D keep) (l' := lastR l) (v' := .slice av l.length cv) HH.out.1 HJ.out.2 (Nat.le_refl _) (by rw [hlr]; exact hI1) (Nat.le_trans HB.out HH.out.2.1.size) (by rw [Hcr.out]; exact lastR_says HL.out.2.1) (by rw [Hcr.out]) (by rw [Hcr.out]; rfl) (by rw [Hcr.out]; rfl) (by rw [Hcr.out]; rfl) (by rw [Hcr.out]; rfl) hok
              have hdone := Lib.hid (RDTo.then_ H.out HH.out.1 rfl (HH.out.2.1.mono (fun k _ e => Or.inl e)) (by
                rintro j (e | e | e | e)
                · exact Or.inl (Or.inl e)
                · exact (HH.out.2.2 j e).imp (fun e => Or.inr (Or.inl e)) id
                · exact Or.inl (Or.inr (Or.inr (Or.inl e)))
                · exact Or.inl (Or.inr (Or.inr (Or.inr e)))) hfin)
              clear hI1 b1 hlr hok hfin h' HJ
              go_wp2_with fail
              go_end0
              exact ⟨rfl, hdone.out⟩
end
end Go.Proofs.YtmlmdlbepppnlaaGreatDoor
