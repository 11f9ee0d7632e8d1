/- The law package's rec and example. The law package's small. Fleets, states and waves among the arguments. The law package's few; services behind services. Plain: whether a state talks depends on some, all, none; a machine more. Plain: parts of a rollout. -/
import Derived.Test.YtjlgmoemnhmgmaaGreatDoorPkWTells29
import Derived.Test.YtjlgmoemnhmgmaaGreatDoorPkWTells19
import Derived.ChangeArms
namespace Go.Proofs.YtjlgmoemnhmgmaaGreatDoor
open Go.RowKit
set_option linter.unusedVariables false
set_option linter.unusedSimpArgs false
attribute [local irreducible] Calls
open Fm (Ty Vl Str)
open Wv (Svc FL)
def recT (names : List Str) : Ty := .mk 2 (names.map fun s => (s, .mk 0 []))
def recF (s : Str) : List Value := [.string ⟨s.toArray⟩, .int .i64 0, .slice none 0 0]
theorem infoFdW : (Tryz.prog.info? 115).map (fun i => (i.zero, i.size, i.bytes)) = some (some (.agg #[.string .empty, .int .i64 0, .slice none 0 0]), 3, 48) := by kernel_rfl
theorem noTy_at (w : World) : TyAt w (.slice none 0 0) (.mk 0 []) := TyAt.mk (w := w) (k := 0) 0 0 [] (Or.inl ⟨_, _, rfl, rfl⟩) (by unfold I64; omega) (fun c hc => by cases hc) (fun c hc => by cases hc)
theorem recT_at {w : World} {B n : Nat} {fv : Value} {names : List Str} (hn : n = names.length) (h : w.ownsRow B 115 3 fv n (names.map recF).flatten) (hl : ∀ s ∈ names, s.length ≤ maxLen) : TyAt w fv (recT names) := by
  have hs := SlS.of_owns h (by rw [List.length_map]; exact hn) (by omega) (fun y hy => by obtain ⟨s, _, rfl⟩ := List.mem_map.1 hy; rfl)
  have := TyAt.mk (w := w) (fv := fv) (k := 2) B w.heap.size (names.map fun s => (s, Value.slice none 0 0, Ty.mk 0 [])) (by rw [List.map_map]; exact hs) (by unfold I64; omega) (fun c hc => by
    obtain ⟨s, hs, rfl⟩ := List.mem_map.1 hc
    exact hl s hs) (fun c hc => by
    obtain ⟨s, hs, rfl⟩ := List.mem_map.1 hc
    exact noTy_at w)
  rw [List.map_map] at this
  exact this
theorem rec_results (tmps : Array Value) (w : World) (p : Nat) (x y : Value) (h2 : tmps.getD 2 undef = .pointer (some ⟨p, 0, none⟩)) (hb : w.heap[p]? = some (.cells #[x, y] tTy (0, 0))) :
    (results Tryz.f52 tmps).run Tryz.prog w = .ok (.agg #[x, y]) w := by
  have c0 : w.cell? ⟨p, 0, none⟩ = some x := by rw [cells_cell hb]; rfl
  have c1 : w.cell? ⟨p, 1, none⟩ = some y := by rw [cells_cell hb]; rfl
  rw [Array.getD_eq_getD_getElem?] at h2
  simp [results, Tryz.results52, go_sem, h2, c0, c1]
set_option maxHeartbeats 8000000 in
set_option maxRecDepth 100000 in
theorem rec_c (b off cap : Nat) (names : List Str) (w : World) (hgb : nG ≤ w.heap.size) (hb : b < w.heap.size) (h : ∀ i (h : i < names.length), w.cell? ⟨b, off + i, none⟩ = some (.string ⟨(names[i]).toArray⟩)) (hn8 : names.length ≤ 8) (hl : ∀ s ∈ names, s.length ≤ maxLen) :
    Calls Tryz.prog 52 #[.slice (some ⟨b, off, none⟩) names.length cap] w fun e w' => ∃ a c, e = .returned (.agg #[.int .i64 2, .slice a names.length c]) ∧ Hid (w'.ownsRow w.heap.size 115 3 (.slice a names.length c) names.length (names.map recF).flatten ∧ Nw w w') := by
  have n1 := nw_alloc w (.cells #[.int .i64 0, .slice none 0 0] tTy)
  have b1 := heap_new w (.cells #[.int .i64 0, .slice none 0 0] tTy)
  have n2 := nw_alloc (w.alloc (.cells #[.int .i64 0, .slice none 0 0] tTy)) (.cells #[.int .i64 2, .slice none 0 0] tTy)
  have b2 := heap_new (w.alloc (.cells #[.int .i64 0, .slice none 0 0] tTy)) (.cells #[.int .i64 2, .slice none 0 0] tTy)
  obtain ⟨W, hW⟩ : ∃ z, z = (w.alloc (.cells #[.int .i64 0, .slice none 0 0] tTy)).alloc (.cells #[.int .i64 2, .slice none 0 0] tTy) := ⟨_, rfl⟩
  rw [← hW] at n2 b2
  rw [World.size_alloc] at b2
  have hWs : W.heap.size = w.heap.size + 2 := by rw [hW]; simp
  have HW := Lib.hid hW
  have HN := Lib.hid (n1.trans n2)
  have HB1 := Lib.hid (Nw.keep n2 b1)
  have HB2 := Lib.hid b2
  have HWS : Hid (nG ≤ w.heap.size ∧ W.heap.size = w.heap.size + 2) := ⟨hgb, hWs⟩
  have HCE := Lib.hid h
  have HBL : Hid (b < w.heap.size) := hb
  have HLN := Lib.hid hl
  have hn81 : (names.length : Int) ≤ 8 := by omega
  clear n1 b1 n2 b2 hW hWs hgb h hb hl
  go_enter Tryz.func52, Tryz.ntmps52
  go_upto_region 2 with fail
  rw [← HW.out]
  clear HW
  go_wp2_with fail
  go_loopw [4] (fun iv wr => ∃ (n : Nat) (fv : Value), n ≤ names.length ∧ iv = .int .i64 (n : Int) ∧ Hid (wr.heap[w.heap.size + 1]? = some (.cells #[.int .i64 2, fv] tTy (0, 0)) ∧ wr.ownsRow W.heap.size 115 3 fv n ((names.take n).map recF).flatten ∧ Upd (fun k => k = w.heap.size + 1) W wr)) (fun iv _ => names.length - (intOf iv).toNat)
  case atStart => exact ⟨0, _, Nat.zero_le _, rfl, HB2.out, World.ownsRow_nil _ _ _ _, Upd.refl _ _⟩
  case round =>
    obtain ⟨n, fv, hn, rfl, HI⟩ := hrel
    obtain ⟨fa, fc, rfl⟩ := own_slW HI.out.2.1
    by_cases hlt : n < names.length
    · have hlt1 : (n : Int) < names.length := by omega
      have hn0 : decide ((n : Int) < 0) = false := decide_eq_false (by omega)
      obtain ⟨wd, hwd⟩ : ∃ z, z = wr.drew := ⟨_, rfl⟩
      have HWD : Hid (Nw wr wd) := by rw [hwd]; exact (Upd.refl _ wr).drew
      have HT := Lib.hid (List.take_succ_eq_append_getElem hlt)
      have HUW : Hid (Nw w wr) := HN.out.trans' HI.out.2.2 (S := fun _ => False) (fun k (hk : k < w.heap.size) (e : k = w.heap.size + 1) => by show False; omega)
      have hcn := HCE.out n hlt
      have hsl := HLN.out _ (List.getElem_mem hlt)
      have HS : Hid (∀ y, Nw wr y → y.cell? ⟨w.heap.size + 1, 1, none⟩ = some (.slice fa n fc) ∧ y.cell? ⟨b, off + n, none⟩ = some (.string ⟨(names[n]).toArray⟩) ∧ True) := fun y u => ⟨by rw [cells_cell (Nw.keep u HI.out.1)]; rfl, nw_cellF (HUW.out.trans u) hcn, trivial⟩
      have HCN := Lib.hid hcn
      clear hcn
      generalize names[n] = nm at *
      go_upto_region 5 with fail
      have HS0 := Lib.hid (HS.out wd HWD.out)
      refine wp_region_G (fun y => y.cell? ⟨w.heap.size + 1, 1, none⟩ = some (.slice fa n fc) ∧ y.cell? ⟨b, off + n, none⟩ = some (.string ⟨nm.toArray⟩) ∧ True) 10 (by kernel_rfl) ?_
      rw [← hwd]
      clear hwd
      refine wpAnyG_pure (i := 0) (v := ?_) rfl (by kernel_rfl) (by kernel_rfl) (by kernel_rfl) (by kernel_rfl) (by kernel_rfl) (fun _ _ _ h => h) (by kernel_rfl) ?_ (fun _ => HS0.out) ?_
      rotate_left 1
      · (intro zz; go_simp; first | done | with_reducible rfl)
      (try simp only [Act.put, List.setIfInBounds_toArray, List.set_cons_zero, List.set_cons_succ])
      refine wpAnyG_load (i := 1) (v := ?_) [] rfl (by kernel_rfl) (by kernel_rfl) (by kernel_rfl) (by kernel_rfl) (by kernel_rfl) (by kernel_rfl) (fun _ _ _ h => h) (by kernel_rfl) ?_ (fun _ => HS0.out) ?_
      rotate_left 1
      · (intro zz hS; obtain ⟨_, _, _⟩ := hS; go_simp; first | done | with_reducible rfl)
      (try simp only [Act.put, List.setIfInBounds_toArray, List.set_cons_zero, List.set_cons_succ])
      refine wpAnyG_pure (i := 2) (v := ?_) rfl (by kernel_rfl) (by kernel_rfl) (by kernel_rfl) (by kernel_rfl) (by kernel_rfl) (fun _ _ _ h => h) (by kernel_rfl) ?_ (fun _ => HS0.out) ?_
      rotate_left 1
      · (intro zz; go_simp; first | done | with_reducible rfl)
      (try simp only [Act.put, List.setIfInBounds_toArray, List.set_cons_zero, List.set_cons_succ])
      refine wpAnyG_pure (i := 3) (v := ?_) rfl (by kernel_rfl) (by kernel_rfl) (by kernel_rfl) (by kernel_rfl) (by kernel_rfl) (fun _ _ _ h => h) (by kernel_rfl) ?_ (fun _ => HS0.out) ?_
      rotate_left 1
      · (intro zz; go_simp; first | done | with_reducible rfl)
      (try simp only [Act.put, List.setIfInBounds_toArray, List.set_cons_zero, List.set_cons_succ])
      refine wpAnyG_pure (i := 4) (v := ?_) rfl (by kernel_rfl) (by kernel_rfl) (by kernel_rfl) (by kernel_rfl) (by kernel_rfl) (fun _ _ _ h => h) (by kernel_rfl) ?_ (fun _ => HS0.out) ?_
      rotate_left 1
      · (intro zz; go_simp; first | done | with_reducible rfl)
      (try simp only [Act.put, List.setIfInBounds_toArray, List.set_cons_zero, List.set_cons_succ])
      refine wpAnyG_load (i := 5) (v := ?_) [] rfl (by kernel_rfl) (by kernel_rfl) (by kernel_rfl) (by kernel_rfl) (by kernel_rfl) (by kernel_rfl) (fun _ _ _ h => h) (by kernel_rfl) ?_ (fun _ => HS0.out) ?_
      rotate_left 1
      · (intro zz hS; obtain ⟨_, _, _⟩ := hS; go_simp; first | done | with_reducible rfl)
      (try simp only [Act.put, List.setIfInBounds_toArray, List.set_cons_zero, List.set_cons_succ])
      refine wpAnyG_pure (i := 6) (v := ?_) rfl (by kernel_rfl) (by kernel_rfl) (by kernel_rfl) (by kernel_rfl) (by kernel_rfl) (fun _ _ _ h => h) (by kernel_rfl) ?_ (fun _ => HS0.out) ?_
      rotate_left 1
      · (intro zz; go_simp; first | done | with_reducible rfl)
      (try simp only [Act.put, List.setIfInBounds_toArray, List.set_cons_zero, List.set_cons_succ])
      refine wpAnyG_ready [7] (by kernel_rfl) (by simp) ?_
      refine AllG.cons rfl (fun K hK => ?_) AllG.nil
      go_simp
      have n7 := nw_alloc wd (.cells #[.string ⟨nm.toArray⟩, .int .i64 0, .slice none 0 0] 115)
      have HU7 := Lib.hid (HWD.out.trans n7)
      refine hK.out _ _ (fun _ => HS.out _ HU7.out) ?_
      clear hK K
      (try simp only [Act.put, List.setIfInBounds_toArray, List.set_cons_zero, List.set_cons_succ])
      have hown7 := owns_upd' HI.out.2.1 HU7.out (fun _ _ e => e)
      have hWr : W.heap.size ≤ (wd.alloc (.cells #[.string ⟨nm.toArray⟩, .int .i64 0, .slice none 0 0] 115)).heap.size := Nat.le_trans HI.out.2.2.size HU7.out.size
      have hgW : nG ≤ W.heap.size := by have := HWS.out; omega
      refine wpAnyG_ready [8] (by kernel_rfl) (by simp) ?_
      refine AllG.cons rfl (fun K hK => ?_) AllG.nil
      refine step_catC rfl _ _ 48 rfl 115 _ 3 48 Tryz.underlying48 infoFdW rfl (by decide) W.heap.size hWr hgW _ _ _ rfl hown7 ⟨wd.heap.size, 0, none⟩ 1 1 (recF nm) rfl rfl ?n1 ?n2 (by decide) ?n3 ?n4 ?_
      case n1 => exact World.news_of_block (heap_new wd _)
      case n2 => unfold recF; intro u hu; simp only [List.mem_cons, List.mem_nil_iff, or_false] at hu; rcases hu with rfl | rfl | rfl <;> rfl
      case n3 => unfold maxLen; omega
      case n4 => omega
      intro g9 cap9 w9 o9 u9 hob
      have hB3 := u9.keep (Nw.keep HU7.out HI.out.1) (fun e => by have := (hown7.lt _ e).1; have := HWS.out; omega)
      have c9 : w9.cell? ⟨w.heap.size + 1, 1, none⟩ = some (.slice fa n fc) := by rw [cells_cell hB3]; rfl
      have f9 : w9.frozen? ⟨w.heap.size + 1, 1, none⟩ = false := cells_frozen hB3 1
      have u90 : Upd (fun k => k = w.heap.size + 1) W w9 := (HI.out.2.2.nw HU7.out).trans' u9 (fun k hk e => by have := (hown7.lt _ e).1; omega)
      have HB9 : Hid ((w9.setCell ⟨w.heap.size + 1, 1, none⟩ (.slice (some ⟨g9, 0, none⟩) (n + 1) cap9)).heap[w.heap.size + 1]? = some (.cells #[.int .i64 2, .slice (some ⟨g9, 0, none⟩) (n + 1) cap9] tTy (0, 0))) := by
        have := setCell_block hB3 1 (.slice (some ⟨g9, 0, none⟩) (n + 1) cap9)
        show _ = _
        simpa using this
      have us : Upd (fun k => k = w.heap.size + 1) w9 (w9.setCell ⟨w.heap.size + 1, 1, none⟩ (.slice (some ⟨g9, 0, none⟩) (n + 1) cap9)) := (Upd.refl _ w9).set1 (by have := HWS.out; omega) 1 _
      have HO9 : Hid ((w9.setCell ⟨w.heap.size + 1, 1, none⟩ (.slice (some ⟨g9, 0, none⟩) (n + 1) cap9)).ownsRow W.heap.size 115 3 (.slice (some ⟨g9, 0, none⟩) (n + 1) cap9) (n + 1) ((names.take (n + 1)).map recF).flatten) := by
        show World.ownsRow _ _ _ _ _ _ _
        rw [HT.out, List.map_append, List.flatten_append]
        refine owns_upd' ?_ us (fun k hk e => by have := (own_block o9 hk).1; have := HWS.out; omega)
        simpa using o9
      have HU9 : Hid (Upd (fun k => k = w.heap.size + 1) W (w9.setCell ⟨w.heap.size + 1, 1, none⟩ (.slice (some ⟨g9, 0, none⟩) (n + 1) cap9))) := u90.trans' us (fun k hk e => e)
      have HS9 : Hid (w9.cell? ⟨w.heap.size + 1, 1, none⟩ = some (.slice fa n fc) ∧ w9.cell? ⟨b, off + n, none⟩ = some (.string ⟨nm.toArray⟩) ∧ True) := ⟨c9, nw_cellF ((HUW.out.trans HU7.out).trans' u9 (S := fun _ => False) (fun k (hk : k < w.heap.size) e => by show False; have := (hown7.lt _ e).1; have := HWS.out; omega)) HCN.out, trivial⟩
      refine hK.out _ _ (fun _ => HS9.out) ?_
      clear hK K
      (try simp only [Act.put, List.setIfInBounds_toArray, List.set_cons_zero, List.set_cons_succ])
      clear u90 us o9 u9 hob hB3 hown7
      refine wpAnyG_ready [9] (by kernel_rfl) (by simp) ?_
      refine AllG.cons rfl (fun K hK => ?_) AllG.nil
      go_simp
      refine hK.out _ _ (fun _ => HS9.out) ?_
      clear hK K
      (try simp only [Act.put, List.setIfInBounds_toArray, List.set_cons_zero, List.set_cons_succ])
      refine wpAnyG_ready [10] (by kernel_rfl) (by simp) ?_
      refine AllG.cons rfl (fun K hK => ?_) AllG.nil
      go_simp
      refine hK.out _ _ (fun e => absurd (show true = false from e) (by decide)) ?_
      clear hK K
      (try simp only [Act.put, List.setIfInBounds_toArray, List.set_cons_zero, List.set_cons_succ])
      refine wpAnyG_done (by kernel_rfl) ?_ _
      go_wp2_with fail
      go_roundw
      case rel => exact ⟨n + 1, _, by omega, by go_num, ⟨HB9.out, HO9.out, HU9.out⟩⟩
      case measure => simp [intOf]; omega
    · obtain rfl : n = names.length := by omega
      have hlt1 : ¬ ((names.length : Nat) : Int) < names.length := by omega
      have hK2 := HI.out.2.2.keep HB1.out (fun e => by omega)
      have hK3 := HI.out.1
      have c20 : wr.cell? ⟨w.heap.size, 0, none⟩ = some (.int .i64 0) := by rw [cells_cell hK2]; rfl
      have c21 : wr.cell? ⟨w.heap.size, 1, none⟩ = some (.slice none 0 0) := by rw [cells_cell hK2]; rfl
      have f20 := cells_frozen hK2 0
      have f21 := cells_frozen hK2 1
      have c30 : wr.cell? ⟨w.heap.size + 1, 0, none⟩ = some (.int .i64 2) := by rw [cells_cell hK3]; rfl
      have c31 : wr.cell? ⟨w.heap.size + 1, 1, none⟩ = some (.slice fa names.length fc) := by rw [cells_cell hK3]; rfl
      have HK2 := Lib.hid hK2
      have u1 : Upd (fun k => k = w.heap.size) wr ((wr.setCell ⟨w.heap.size, 0, none⟩ (.int .i64 2)).setCell ⟨w.heap.size, 1, none⟩ (.slice fa names.length fc)) := ((Upd.refl _ wr).set1 HWS.out.1 0 _).set1 HWS.out.1 1 _
      have hown := owns_upd' HI.out.2.1 u1 (fun k hk e => by have := (own_block HI.out.2.1 hk).1; have := HWS.out; omega)
      rw [List.take_length] at hown
      have HTY := Lib.hid (owns_base hown (show w.heap.size ≤ W.heap.size by have := HWS.out; omega))
      have HNF : Hid (Nw w ((wr.setCell ⟨w.heap.size, 0, none⟩ (.int .i64 2)).setCell ⟨w.heap.size, 1, none⟩ (.slice fa names.length fc))) := (HN.out.trans' HI.out.2.2 (S := fun _ => False) (fun k (hk : k < w.heap.size) (e : k = w.heap.size + 1) => by show False; omega)).trans' u1 (S := fun _ => False) (fun k (hk : k < w.heap.size) (e : k = w.heap.size) => by show False; omega)
      clear hK2 hK3 u1 hown
      go_wp2_with fail
      refine bodyPost_ret (rec_results _ _ w.heap.size (.int .i64 2) (.slice fa names.length fc) rfl ?_) rfl ?_
      · have h1 := setCell_block HK2.out 0 (.int .i64 2)
        have h2 := setCell_block h1 1 (.slice fa names.length fc)
        simpa using h2
      · exact ⟨fa, fc, rfl, HTY.out, HNF.out⟩
/-- The documentation's fleet. -/
def oneX : Ty := recT [[120]]
def twoX : Ty := recT [[120], [121]]
def exF : FL := ⟨[⟨[97], [1], oneX, oneX⟩, ⟨[98], [], oneX, oneX⟩], [⟨[97], [1], twoX, oneX⟩, ⟨[98], [], oneX, twoX⟩], [0, 0, 1]⟩
theorem ex_results (tmps : Array Value) (w : World) (p : Nat) (x y z : Value) (h2 : tmps.getD 0 undef = .pointer (some ⟨p, 0, none⟩)) (hb : w.heap[p]? = some (.cells #[x, y, z] tFl (0, 0))) :
    (results Tryz.f28 tmps).run Tryz.prog w = .ok (.agg #[x, y, z]) w := by
  have c0 : w.cell? ⟨p, 0, none⟩ = some x := by rw [cells_cell hb]; rfl
  have c1 : w.cell? ⟨p, 1, none⟩ = some y := by rw [cells_cell hb]; rfl
  have c2 : w.cell? ⟨p, 2, none⟩ = some z := by rw [cells_cell hb]; rfl
  rw [Array.getD_eq_getD_getElem?] at h2
  simp [results, Tryz.results28, go_sem, h2, c0, c1, c2]
/-- The two services of the example, in memory. -/
theorem ex_svc {w : World} {b a : Nat} {w1 w2 r1 r2 : Ty} {f1 g1 f2 g2 : Option Addr} {fc1 gc1 fc2 gc2 : Nat} (hA : w.heap[a]? = some (.cells #[.int .i64 1] 3 (0, 0)))
    (h : w.heap[b]? = some (.cells #[.string ⟨#[97]⟩, .slice (some ⟨a, 0, none⟩) 1 1, .int .i64 w1.kind, .slice f1 w1.fs.length fc1, .int .i64 r1.kind, .slice g1 r1.fs.length gc1, .string ⟨#[98]⟩, .slice none 0 0, .int .i64 w2.kind, .slice f2 w2.fs.length fc2, .int .i64 r2.kind, .slice g2 r2.fs.length gc2] tSv (0, 0)))
    (t1 : TyAt w (.slice f1 w1.fs.length fc1) w1) (t2 : TyAt w (.slice g1 r1.fs.length gc1) r1) (t3 : TyAt w (.slice f2 w2.fs.length fc2) w2) (t4 : TyAt w (.slice g2 r2.fs.length gc2) r2) :
    SvC w (some ⟨b, 0, none⟩) [⟨[97], [1], w1, r1⟩, ⟨[98], [], w2, r2⟩] := by
  refine Or.inr ⟨b, 0, rfl, (Array.getElem?_eq_some_iff.1 h).1, fun i hi => ?_⟩
  have hi2 : i = 0 ∨ i = 1 := by simp at hi; omega
  rcases hi2 with rfl | rfl
  · refine ⟨some ⟨a, 0, none⟩, f1, g1, 1, fc1, gc1, ⟨by rw [cells_cell h]; rfl, by rw [cells_cell h]; rfl, by rw [cells_cell h]; rfl, by rw [cells_cell h]; rfl, by rw [cells_cell h]; rfl, by rw [cells_cell h]; rfl⟩, ⟨(show 1 ≤ maxLen by unfold maxLen; decide), (show 1 ≤ maxLen by unfold maxLen; decide), Or.inr ⟨a, 0, rfl, (Array.getElem?_eq_some_iff.1 hA).1, fun j hj => ?_⟩, t1, t2⟩⟩
    have : j = 0 := by simp at hj; omega
    subst this
    rw [cells_cell hA]; rfl
  · exact ⟨none, f2, g2, 0, fc2, gc2, ⟨by rw [cells_cell h]; rfl, by rw [cells_cell h]; rfl, by rw [cells_cell h]; rfl, by rw [cells_cell h]; rfl, by rw [cells_cell h]; rfl, by rw [cells_cell h]; rfl⟩, ⟨(show 1 ≤ maxLen by unfold maxLen; decide), (show 0 ≤ maxLen from Nat.zero_le _), Or.inl rfl, t3, t4⟩⟩
set_option maxHeartbeats 8000000 in
set_option maxRecDepth 100000 in
theorem example_c (w : World) (hgb : nG ≤ w.heap.size) :
    Calls Tryz.prog 28 #[] w fun e w' => ∃ oa na ra oc nc rc, e = .returned (.agg #[.slice oa 2 oc, .slice na 2 nc, .slice ra 3 rc]) ∧ Hid (FlAt w' oa na ra oc nc exF ∧ Nw w w') := by
  have n1 := nw_alloc w (.cells #[.slice none 0 0, .slice none 0 0, .slice none 0 0] tFl)
  have b1 := heap_new w (.cells #[.slice none 0 0, .slice none 0 0, .slice none 0 0] tFl)
  have n2 := nw_alloc (w.alloc (.cells #[.slice none 0 0, .slice none 0 0, .slice none 0 0] tFl)) (.cells #[.string ⟨#[120]⟩] 9)
  have b2 := heap_new (w.alloc (.cells #[.slice none 0 0, .slice none 0 0, .slice none 0 0] tFl)) (.cells #[.string ⟨#[120]⟩] 9)
  obtain ⟨W, hW⟩ : ∃ z, z = (w.alloc (.cells #[.slice none 0 0, .slice none 0 0, .slice none 0 0] tFl)).alloc (.cells #[.string ⟨#[120]⟩] 9) := ⟨_, rfl⟩
  rw [← hW] at n2 b2
  rw [World.size_alloc] at b2
  have hWs : W.heap.size = w.heap.size + 2 := by rw [hW]; simp
  have hr1 : Hid (Calls Tryz.prog 52 #[.slice (some ⟨w.heap.size + 1, 0, none⟩) 1 1] W fun e w' => ∃ a c, e = .returned (.agg #[.int .i64 2, .slice a 1 c]) ∧ Hid (w'.ownsRow W.heap.size 115 3 (.slice a 1 c) 1 (([[120]] : List Str).map recF).flatten ∧ Nw W w')) := rec_c (w.heap.size + 1) 0 1 [[120]] W (by omega) (by omega) (fun i hi => by
    have : i = 0 := by simp at hi; omega
    subst this
    rw [cells_cell b2]; rfl) (by decide) (fun s hs => by rw [List.mem_singleton.1 hs]; unfold maxLen; decide)
  have HW := Lib.hid hW
  have HWS : Hid (nG ≤ w.heap.size ∧ W.heap.size = w.heap.size + 2) := ⟨hgb, hWs⟩
  have HB1 := Lib.hid (Nw.keep n2 b1)
  have HN := Lib.hid (n1.trans n2)
  clear n1 b1 n2 b2 hW hWs hgb
  go_enter Tryz.func28, Tryz.ntmps28
  go_wp2_with (go_at_call 52; rw [← HW.out])
  clear HW
  (with_reducible refine (hr1.out).mono ?_)
  rintro _ w1 ⟨a1, c1, rfl, H1⟩
  clear hr1
  have m1 := nw_alloc w1 (.cells #[.int .i64 2, .slice a1 1 c1] tTy)
  have d1 := heap_new w1 (.cells #[.int .i64 2, .slice a1 1 c1] tTy)
  have m2 := nw_alloc (w1.alloc (.cells #[.int .i64 2, .slice a1 1 c1] tTy)) (.cells #[.string ⟨#[120]⟩, .string ⟨#[121]⟩] 9)
  have d2 := heap_new (w1.alloc (.cells #[.int .i64 2, .slice a1 1 c1] tTy)) (.cells #[.string ⟨#[120]⟩, .string ⟨#[121]⟩] 9)
  obtain ⟨W2, hW2⟩ : ∃ z, z = (w1.alloc (.cells #[.int .i64 2, .slice a1 1 c1] tTy)).alloc (.cells #[.string ⟨#[120]⟩, .string ⟨#[121]⟩] 9) := ⟨_, rfl⟩
  rw [← hW2] at m2 d2
  rw [World.size_alloc] at d2
  have hW2s : W2.heap.size = w1.heap.size + 2 := by rw [hW2]; simp
  have hge : W.heap.size ≤ w1.heap.size := H1.out.2.size
  have hr2 : Hid (Calls Tryz.prog 52 #[.slice (some ⟨w1.heap.size + 1, 0, none⟩) 2 2] W2 fun e w' => ∃ a c, e = .returned (.agg #[.int .i64 2, .slice a 2 c]) ∧ Hid (w'.ownsRow W2.heap.size 115 3 (.slice a 2 c) 2 (([[120], [121]] : List Str).map recF).flatten ∧ Nw W2 w')) := rec_c (w1.heap.size + 1) 0 2 [[120], [121]] W2 (by have := HWS.out; omega) (by omega) (fun i hi => by
    have : i = 0 ∨ i = 1 := by simp at hi; omega
    rcases this with rfl | rfl
    · rw [cells_cell d2]; rfl
    · rw [cells_cell d2]; rfl) (by decide) (fun s hs => by
      simp only [List.mem_cons, List.mem_nil_iff, or_false] at hs
      rcases hs with rfl | rfl <;> (unfold maxLen; decide))
  have HW2 := Lib.hid hW2
  have HD1 := Lib.hid (Nw.keep m2 d1)
  have HM := Lib.hid (m1.trans m2)
  have HZ2 : Hid (W2.heap.size = w1.heap.size + 2 ∧ W.heap.size ≤ w1.heap.size) := ⟨hW2s, hge⟩
  clear m1 d1 m2 d2 hW2 hW2s hge
  go_wp2_with (go_at_call 52; rw [← HW2.out])
  clear HW2
  (with_reducible refine (hr2.out).mono ?_)
  rintro _ w2 ⟨a2, c2, rfl, H2⟩
  clear hr2
  have k1 := Nw.keep H2.out.2 HD1.out
  have x0 : w2.cell? ⟨w1.heap.size, 0, none⟩ = some (.int .i64 2) := by rw [cells_cell k1]; rfl
  have x1 : w2.cell? ⟨w1.heap.size, 1, none⟩ = some (.slice a1 1 c1) := by rw [cells_cell k1]; rfl
  have k0 := Nw.keep ((H1.out.2.trans HM.out).trans H2.out.2) HB1.out
  have y0 : w2.cell? ⟨w.heap.size, 0, none⟩ = some (.slice none 0 0) := by rw [cells_cell k0]; rfl
  have y1 : w2.cell? ⟨w.heap.size, 1, none⟩ = some (.slice none 0 0) := by rw [cells_cell k0]; rfl
  have y2 : w2.cell? ⟨w.heap.size, 2, none⟩ = some (.slice none 0 0) := by rw [cells_cell k0]; rfl
  have f0 := cells_frozen k0 0
  have f1 := cells_frozen k0 1
  have f2 := cells_frozen k0 2
  have hlt1 : w1.heap.size < w2.heap.size := by have := H2.out.2.size; have := HZ2.out; omega
  have hlt0 : w.heap.size < w2.heap.size := by have := HZ2.out; have := HWS.out; omega
  obtain ⟨A, hA⟩ : ∃ z, z = w2.alloc (.cells #[.int .i64 2, .slice a2 2 c2] tTy) := ⟨_, rfl⟩
  have nA : Nw w2 A := by rw [hA]; exact nw_alloc w2 _
  have bA : A.heap[w2.heap.size]? = some (.cells #[.int .i64 2, .slice a2 2 c2] tTy (0, 0)) := by rw [hA]; exact heap_new w2 _
  obtain ⟨B, hB⟩ : ∃ z, z = A.alloc (.cells #[.int .i64 1] 3) := ⟨_, rfl⟩
  have nB : Nw A B := by rw [hB]; exact nw_alloc A _
  have bB : B.heap[A.heap.size]? = some (.cells #[.int .i64 1] 3 (0, 0)) := by rw [hB]; exact heap_new A _
  obtain ⟨C, hC⟩ : ∃ z, z = B.alloc (.cells #[.string ⟨#[97]⟩, .slice (some ⟨A.heap.size, 0, none⟩) 1 1, .int .i64 2, .slice a1 1 c1, .int .i64 2, .slice a1 1 c1, .string ⟨#[98]⟩, .slice none 0 0, .int .i64 2, .slice a1 1 c1, .int .i64 2, .slice a1 1 c1] tSv) := ⟨_, rfl⟩
  have nC : Nw B C := by rw [hC]; exact nw_alloc B _
  have bC : C.heap[B.heap.size]? = some (.cells #[.string ⟨#[97]⟩, .slice (some ⟨A.heap.size, 0, none⟩) 1 1, .int .i64 2, .slice a1 1 c1, .int .i64 2, .slice a1 1 c1, .string ⟨#[98]⟩, .slice none 0 0, .int .i64 2, .slice a1 1 c1, .int .i64 2, .slice a1 1 c1] tSv (0, 0)) := by rw [hC]; exact heap_new B _
  obtain ⟨D, hD⟩ : ∃ z, z = C.alloc (.cells #[.int .i64 1] 3) := ⟨_, rfl⟩
  have nD : Nw C D := by rw [hD]; exact nw_alloc C _
  have bD : D.heap[C.heap.size]? = some (.cells #[.int .i64 1] 3 (0, 0)) := by rw [hD]; exact heap_new C _
  obtain ⟨E, hE⟩ : ∃ z, z = D.alloc (.cells #[.string ⟨#[97]⟩, .slice (some ⟨C.heap.size, 0, none⟩) 1 1, .int .i64 2, .slice a2 2 c2, .int .i64 2, .slice a1 1 c1, .string ⟨#[98]⟩, .slice none 0 0, .int .i64 2, .slice a1 1 c1, .int .i64 2, .slice a2 2 c2] tSv) := ⟨_, rfl⟩
  have nE : Nw D E := by rw [hE]; exact nw_alloc D _
  have bE : E.heap[D.heap.size]? = some (.cells #[.string ⟨#[97]⟩, .slice (some ⟨C.heap.size, 0, none⟩) 1 1, .int .i64 2, .slice a2 2 c2, .int .i64 2, .slice a1 1 c1, .string ⟨#[98]⟩, .slice none 0 0, .int .i64 2, .slice a1 1 c1, .int .i64 2, .slice a2 2 c2] tSv (0, 0)) := by rw [hE]; exact heap_new D _
  obtain ⟨F, hF⟩ : ∃ z, z = E.alloc (.cells #[.int .i64 0, .int .i64 0, .int .i64 1] 3) := ⟨_, rfl⟩
  have nF : Nw E F := by rw [hF]; exact nw_alloc E _
  have bF : F.heap[E.heap.size]? = some (.cells #[.int .i64 0, .int .i64 0, .int .i64 1] 3 (0, 0)) := by rw [hF]; exact heap_new E _
  have HA := Lib.hid hA
  have HB := Lib.hid hB
  have HC := Lib.hid hC
  have HD := Lib.hid hD
  have HE := Lib.hid hE
  have HF := Lib.hid hF
  have n2B := nA.trans nB
  have n2D := n2B.trans (nC.trans nD)
  have n2F := n2D.trans (nE.trans nF)
  have u0 := nw_cellF n2B x0
  have u1 := nw_cellF n2B x1
  have v0 := nw_cellF n2D x0
  have v1 := nw_cellF n2D x1
  have bA2 := Nw.keep ((nB.trans nC).trans nD) bA
  have t0 : D.cell? ⟨w2.heap.size, 0, none⟩ = some (.int .i64 2) := by rw [cells_cell bA2]; rfl
  have t1 : D.cell? ⟨w2.heap.size, 1, none⟩ = some (.slice a2 2 c2) := by rw [cells_cell bA2]; rfl
  have kF := Nw.keep n2F k0
  have z0 := nw_cellF n2F y0
  have z1 := nw_cellF n2F y1
  have z2 := nw_cellF n2F y2
  have g0 := cells_frozen kF 0
  have g1 := cells_frozen kF 1
  have g2 := cells_frozen kF 2
  have HKF := Lib.hid kF
  have HBB := Lib.hid (Nw.keep (((nC.trans nD).trans nE).trans nF) bB)
  have HBC := Lib.hid (Nw.keep ((nD.trans nE).trans nF) bC)
  have HBD := Lib.hid (Nw.keep (nE.trans nF) bD)
  have HBE := Lib.hid (Nw.keep nF bE)
  have HBF := Lib.hid bF
  have HNF := Lib.hid n2F
  have HSZ : Hid (w2.heap.size ≤ A.heap.size ∧ A.heap.size ≤ B.heap.size ∧ B.heap.size ≤ C.heap.size ∧ C.heap.size ≤ D.heap.size ∧ D.heap.size ≤ E.heap.size) := ⟨nA.size, nB.size, nC.size, nD.size, nE.size⟩
  clear hA hB hC hD hE hF nA nB nC nD nE nF bA bB bC bD bE bF n2B n2D n2F bA2 kF x0 x1 y0 y1 y2 f0 f1 f2 k0 k1
  go_wp2_with (first | rw [← HA.out] | rw [← HB.out] | rw [← HC.out] | rw [← HD.out] | rw [← HE.out] | rw [← HF.out])
  have hgw := HWS.out.1
  have u1 : Upd (fun k => k = w.heap.size) F (((F.setCell ⟨w.heap.size, 0, none⟩ (.slice (some ⟨B.heap.size, 0, none⟩) 2 2)).setCell ⟨w.heap.size, 1, none⟩ (.slice (some ⟨D.heap.size, 0, none⟩) 2 2)).setCell ⟨w.heap.size, 2, none⟩ (.slice (some ⟨E.heap.size, 0, none⟩) 3 3)) := (((Upd.refl _ F).set1 hgw 0 _).set1 hgw 1 _).set1 hgw 2 _
  have hb : (((F.setCell ⟨w.heap.size, 0, none⟩ (.slice (some ⟨B.heap.size, 0, none⟩) 2 2)).setCell ⟨w.heap.size, 1, none⟩ (.slice (some ⟨D.heap.size, 0, none⟩) 2 2)).setCell ⟨w.heap.size, 2, none⟩ (.slice (some ⟨E.heap.size, 0, none⟩) 3 3)).heap[w.heap.size]? = some (.cells #[.slice (some ⟨B.heap.size, 0, none⟩) 2 2, .slice (some ⟨D.heap.size, 0, none⟩) 2 2, .slice (some ⟨E.heap.size, 0, none⟩) 3 3] tFl (0, 0)) := by
    have h1 := setCell_block HKF.out 0 (.slice (some ⟨B.heap.size, 0, none⟩) 2 2)
    have h2 := setCell_block h1 1 (.slice (some ⟨D.heap.size, 0, none⟩) 2 2)
    have h3 := setCell_block h2 2 (.slice (some ⟨E.heap.size, 0, none⟩) 3 3)
    simpa using h3
  generalize ((F.setCell ⟨w.heap.size, 0, none⟩ (.slice (some ⟨B.heap.size, 0, none⟩) 2 2)).setCell ⟨w.heap.size, 1, none⟩ (.slice (some ⟨D.heap.size, 0, none⟩) 2 2)).setCell ⟨w.heap.size, 2, none⟩ (.slice (some ⟨E.heap.size, 0, none⟩) 3 3) = G at *
  have hsz := HSZ.out
  have hws := HWS.out.2
  have hz2 := HZ2.out
  have jB := u1.keep HBB.out (fun e => by omega)
  have jC := u1.keep HBC.out (fun e => by omega)
  have jD := u1.keep HBD.out (fun e => by omega)
  have jE := u1.keep HBE.out (fun e => by omega)
  have jF := u1.keep HBF.out (fun e => by omega)
  have uG : Upd (fun k => k = w.heap.size) w2 G := (Nw.upd _ HNF.out).trans u1
  have o1 := owns_upd' (owns_upd' H1.out.1 (HM.out.trans H2.out.2) (fun _ _ e => e)) uG (fun k hk e => by have := (own_block H1.out.1 hk).1; omega)
  have o2 := owns_upd' H2.out.1 uG (fun k hk e => by have := (own_block H2.out.1 hk).1; omega)
  have hln : ∀ s ∈ ([[120], [121]] : List Str), s.length ≤ maxLen := fun s hs => by
    simp only [List.mem_cons, List.mem_nil_iff, or_false] at hs
    rcases hs with rfl | rfl <;> (unfold maxLen; decide)
  have T1 : TyAt G (.slice a1 oneX.fs.length c1) oneX := recT_at rfl o1 (fun s hs => hln s (by simp only [List.mem_cons, List.mem_nil_iff, or_false] at hs ⊢; exact Or.inl hs))
  have T2 : TyAt G (.slice a2 twoX.fs.length c2) twoX := recT_at rfl o2 hln
  have hNw : Nw w G := ((HN.out.trans H1.out.2).trans (HM.out.trans H2.out.2)).trans' uG (S := fun _ => False) (fun k (hk : k < w.heap.size) (e : k = w.heap.size) => by show False; omega)
  refine bodyPost_ret (ex_results _ _ w.heap.size _ _ _ rfl hb) rfl ?_
  refine ⟨some ⟨B.heap.size, 0, none⟩, some ⟨D.heap.size, 0, none⟩, some ⟨E.heap.size, 0, none⟩, 2, 2, 3, rfl, ⟨?_, ?_, ?_, by unfold maxLen; decide, by unfold maxLen; decide, by unfold maxLen; decide, by decide, by decide⟩, hNw⟩
  · exact ex_svc jB jC T1 T1 T1 T1
  · exact ex_svc jD jE T2 T1 T1 T2
  · refine Or.inr ⟨E.heap.size, 0, rfl, (Array.getElem?_eq_some_iff.1 jF).1, fun j hj => ?_⟩
    have : j = 0 ∨ j = 1 ∨ j = 2 := by simp [exF] at hj; omega
    rcases this with rfl | rfl | rfl <;> (rw [cells_cell jF]; rfl)
end Go.Proofs.YtjlgmoemnhmgmaaGreatDoor
namespace Go.Proofs.YtjlgmoemnhmgmaaGreatDoor
open Go.RowKit
set_option linter.unusedVariables false
set_option linter.unusedSimpArgs false
attribute [local irreducible] Calls
open Fm (Ty Vl Str)
open Wv (Svc FL)

theorem exR : Wv.right exF = true := by decide +kernel
theorem exM0 : Wv.mixed exF [] = (0, 0, false) := by decide +kernel
theorem exM1 : Wv.mixed exF [true] = (0, 0, false) := by decide +kernel
theorem exM2 : Wv.mixed exF [false, false, true] = (0, 2, true) := by decide +kernel
theorem exP1 : Wv.planF exF 1 [] = ([⟨[0], 0⟩, ⟨[1], 0⟩, ⟨[2], 0⟩], 0) := by decide +kernel
theorem exP2 : Wv.planF exF 5 [0, 7] = ([⟨[0, 1], 0⟩, ⟨[2], 7⟩], 0) := by decide +kernel
theorem exRn : Wv.runF exF [⟨[2], 0⟩, ⟨[0, 1], 0⟩] 2 [] = ([], 27) := by decide +kernel
theorem exS : Sm exF := ⟨by decide, by decide, by decide, by decide, by decide⟩
theorem WvO.wvc {B : Nat} {w : World} {a : Option Addr} {n c : Nat} {ws : List Wv.Wave} (h : WvO B w (.slice a n c) ws) : WvC w a ws ∧ n = ws.length ∧ ws.length ≤ maxLen := by
  obtain ⟨C, h1, h2, h3⟩ := h
  obtain ⟨a', c', e, hm, hc⟩ := (SlS.of_owns h2 (by rw [List.length_map]) (by omega) (fun y hy => by obtain ⟨s, _, rfl⟩ := List.mem_map.1 hy; rfl)).open_
  rw [List.length_map] at e hm
  have hl : ws.length = C.length := by rw [← h1, List.length_map]
  injection e with e1 e2 e3
  subst e1
  refine ⟨?_, by omega, by omega⟩
  rcases hc with hnil | ⟨b, off, rfl, _, _, hb, hcl⟩
  · exact Or.inl (by rw [← h1, List.map_eq_nil_iff.1 hnil]; rfl)
  · refine Or.inr ⟨b, off, rfl, hb, fun i hi => ?_⟩
    have hi2 : i < C.length := by omega
    have hg : ws[i] = (C[i]).2.2 := by subst h1; rw [List.getElem_map]
    have h4 := (hcl i (by rw [List.length_map]; exact hi2)).2
    simp only [List.getElem_map] at h4
    obtain ⟨h5, h6⟩ := h3 C[i] (List.getElem_mem hi2)
    rw [hg]
    exact ⟨(C[i]).1, (C[i]).2.1, h4 0 (by omega), h4 1 (by omega), ic_of_own h5, by unfold maxLen; omega⟩
theorem ints_ic {w : World} {b n : Nat} {l : List Int} {arr : Array Value} {T : TypeId} (h : w.heap[b]? = some (.cells arr T (0, 0))) (ha : ∀ i (h : i < l.length), arr[i]? = some (.int .i64 l[i])) : IC w (some ⟨b, 0, none⟩) l :=
  Or.inr ⟨b, 0, rfl, (Array.getElem?_eq_some_iff.1 h).1, fun i hi => by rw [cells_cell h, Nat.zero_add]; exact ha i hi⟩
theorem bools_bc {w : World} {b : Nat} {l : List Bool} {arr : Array Value} {T : TypeId} (h : w.heap[b]? = some (.cells arr T (0, 0))) (ha : ∀ i (h : i < l.length), arr[i]? = some (.bool l[i])) : BC w (some ⟨b, 0, none⟩) l :=
  Or.inr ⟨b, 0, rfl, (Array.getElem?_eq_some_iff.1 h).1, fun i hi => by rw [cells_cell h, Nat.zero_add]; exact ha i hi⟩
theorem wv_wc {w : World} {b : Nat} {ws : List Wv.Wave} {arr : Array Value} {T : TypeId} (h : w.heap[b]? = some (.cells arr T (0, 0))) (ha : ∀ i (h : i < ws.length), ∃ ma mc, arr[i * 2]? = some (.slice ma ws[i].ms.length mc) ∧ arr[i * 2 + 1]? = some (.int .i64 ws[i].after) ∧ IC w ma ws[i].ms ∧ ws[i].ms.length ≤ maxLen) : WvC w (some ⟨b, 0, none⟩) ws :=
  Or.inr ⟨b, 0, rfl, (Array.getElem?_eq_some_iff.1 h).1, fun i hi => by
    obtain ⟨ma, mc, h1, h2, h3, h4⟩ := ha i hi
    exact ⟨ma, mc, by rw [cells_cell h, Nat.zero_add]; exact h1, by rw [cells_cell h, Nat.zero_add]; exact h2, h3, h4⟩⟩
theorem ic_one {w : World} {b : Nat} {x : Int} {T : TypeId} (h : w.heap[b]? = some (.cells #[.int .i64 x] T (0, 0))) : IC w (some ⟨b, 0, none⟩) [x] := ints_ic (n := 0) h (fun i hi => by
  have : i = 0 := by simp at hi; omega
  subst this; rfl)
theorem ic_two {w : World} {b : Nat} {x y : Int} {T : TypeId} (h : w.heap[b]? = some (.cells #[.int .i64 x, .int .i64 y] T (0, 0))) : IC w (some ⟨b, 0, none⟩) [x, y] := ints_ic (n := 0) h (fun i hi => by
  have : i = 0 ∨ i = 1 := by simp at hi; omega
  rcases this with rfl | rfl <;> rfl)
theorem ml_le {n : Nat} (h : n ≤ 100) : n ≤ maxLen := by unfold maxLen; omega
set_option maxHeartbeats 16000000 in
set_option maxRecDepth 100000 in
theorem small_c (w : World) (g : Gm w) : Calls Tryz.prog 8 #[] w fun e w' => e = .returned (.bool true) ∧ Nw w w' := by
  have hex := Lib.hid (example_c w g.g.big)
  have HG : Hid (∀ y, Nw w y → Gm y) := fun y u => g.upd u
  have HGB : Hid (nG ≤ w.heap.size) := g.g.big
  clear g
  go_enter Tryz.func8, Tryz.ntmps8
  go_wp2_with fail
  (with_reducible refine (hex.out).mono ?_)
  rintro _ w1 ⟨oa, na, ra, oc, nc, rc, rfl, H1⟩
  clear hex
  obtain ⟨A, hA⟩ : ∃ z, z = w1.alloc (.cells #[.slice oa 2 oc, .slice na 2 nc, .slice ra 3 rc] tFl) := ⟨_, rfl⟩
  have nA : Nw w1 A := by rw [hA]; exact nw_alloc w1 _
  have bA : A.heap[w1.heap.size]? = some (.cells #[.slice oa 2 oc, .slice na 2 nc, .slice ra 3 rc] tFl (0, 0)) := by rw [hA]; exact heap_new w1 _
  have HA := Lib.hid hA
  have HNA := Lib.hid (H1.out.2.trans nA)
  have HX : Hid (∀ y, Nw A y → y.cell? ⟨w1.heap.size, 0, none⟩ = some (.slice oa 2 oc) ∧ y.cell? ⟨w1.heap.size, 1, none⟩ = some (.slice na 2 nc) ∧ y.cell? ⟨w1.heap.size, 2, none⟩ = some (.slice ra 3 rc)) := fun y u => ⟨by rw [cells_cell (Nw.keep u bA)]; rfl, by rw [cells_cell (Nw.keep u bA)]; rfl, by rw [cells_cell (Nw.keep u bA)]; rfl⟩
  have HF : Hid (∀ y, Nw A y → FlAt y oa na ra oc nc exF) := fun y u => H1.out.1.nw (nA.trans u)
  have HGA : Hid (∀ y, Nw A y → Gm y) := fun y u => HG.out y (HNA.out.trans u)
  have hm0 : Hid (Calls Tryz.prog 10 #[.agg #[.slice oa 2 oc, .slice na 2 nc, .slice ra 3 rc], .slice none 0 0] A fun e w' => e = .returned (.tuple #[.int .i64 0, .int .i64 0, .bool false]) ∧ Nw A w') := by
    have := Mixed_c oa na ra none oc nc rc 0 exF [] A (HGA.out A (Upd.refl _ _)) (HF.out A (Upd.refl _ _)) exS (Or.inl rfl) (by decide)
    rw [exM0] at this
    exact this
  obtain ⟨x0, x1, x2⟩ := HX.out A (Upd.refl _ _)
  clear hA nA bA
  go_wp2_with (rw [← HA.out])
  (with_reducible refine (hm0.out).mono ?_)
  rintro _ w2 ⟨rfl, u2⟩
  have U2 := Lib.hid u2
  clear u2 hm0 HA x0 x1 x2
  obtain ⟨x0, x1, x2⟩ := HX.out w2 U2.out
  obtain ⟨B, hB⟩ : ∃ z, z = w2.alloc (.cells #[.bool true] 4) := ⟨_, rfl⟩
  have nB : Nw w2 B := by rw [hB]; exact nw_alloc w2 _
  have bB : B.heap[w2.heap.size]? = some (.cells #[.bool true] 4 (0, 0)) := by rw [hB]; exact heap_new w2 _
  have HB := Lib.hid hB
  have hm1 : Hid (Calls Tryz.prog 10 #[.agg #[.slice oa 2 oc, .slice na 2 nc, .slice ra 3 rc], .slice (some ⟨w2.heap.size, 0, none⟩) 1 1] B fun e w' => e = .returned (.tuple #[.int .i64 0, .int .i64 0, .bool false]) ∧ Nw B w') := by
    have := Mixed_c oa na ra (some ⟨w2.heap.size, 0, none⟩) oc nc rc 1 exF [true] B (HGA.out B (U2.out.trans nB)) (HF.out B (U2.out.trans nB)) exS (bools_bc bB (fun i hi => by
      have : i = 0 := by simp at hi; omega
      subst this; rfl)) (by decide)
    rw [exM1] at this
    exact this
  have UB := Lib.hid (U2.out.trans nB)
  clear hB nB bB
  go_wp2_with (rw [← HB.out])
  (with_reducible refine (hm1.out).mono ?_)
  rintro _ w3 ⟨rfl, u3⟩
  have U3 := Lib.hid (UB.out.trans u3)
  clear u3 hm1 HB x0 x1 x2
  obtain ⟨x0, x1, x2⟩ := HX.out w3 U3.out
  obtain ⟨C, hC⟩ : ∃ z, z = w3.alloc (.cells #[.bool false, .bool false, .bool true] 4) := ⟨_, rfl⟩
  have nC : Nw w3 C := by rw [hC]; exact nw_alloc w3 _
  have bC : C.heap[w3.heap.size]? = some (.cells #[.bool false, .bool false, .bool true] 4 (0, 0)) := by rw [hC]; exact heap_new w3 _
  have HC := Lib.hid hC
  have hm2 : Hid (Calls Tryz.prog 10 #[.agg #[.slice oa 2 oc, .slice na 2 nc, .slice ra 3 rc], .slice (some ⟨w3.heap.size, 0, none⟩) 3 3] C fun e w' => e = .returned (.tuple #[.int .i64 0, .int .i64 2, .bool true]) ∧ Nw C w') := by
    have := Mixed_c oa na ra (some ⟨w3.heap.size, 0, none⟩) oc nc rc 3 exF [false, false, true] C (HGA.out C (U3.out.trans nC)) (HF.out C (U3.out.trans nC)) exS (bools_bc bC (fun i hi => by
      have : i = 0 ∨ i = 1 ∨ i = 2 := by simp at hi; omega
      rcases this with rfl | rfl | rfl <;> rfl)) (by decide)
    rw [exM2] at this
    exact this
  have UC := Lib.hid (U3.out.trans nC)
  clear hC nC bC
  go_wp2_with (rw [← HC.out])
  (with_reducible refine (hm2.out).mono ?_)
  rintro _ w4 ⟨rfl, u4⟩
  have U4 := Lib.hid (UC.out.trans u4)
  clear u4 hm2 HC x0 x1 x2
  obtain ⟨x0, x1, x2⟩ := HX.out w4 U4.out
  have hp1 : Hid (Calls Tryz.prog 14 #[.agg #[.slice oa 2 oc, .slice na 2 nc, .slice ra 3 rc], .int .i64 1, .slice none 0 0] w4 (PlanW w4 ([⟨[0], 0⟩, ⟨[1], 0⟩, ⟨[2], 0⟩], 0))) := by
    have := Plan_c oa na ra none oc nc rc 0 exF 1 [] w4 (HGA.out w4 U4.out) (HF.out w4 U4.out) exS (Or.inl rfl) (by decide) (by decide)
    rw [exP1] at this
    exact this
  unfold PlanW at hp1
  go_wp2_with fail
  (with_reducible refine (hp1.out).mono ?_)
  rintro _ w5 ⟨v5, rfl, H5⟩
  obtain ⟨a5, c5, rfl⟩ := H5.out.1.sl
  have U5 := Lib.hid (U4.out.trans H5.out.2)
  clear hp1 x0 x1 x2
  obtain ⟨x0, x1, x2⟩ := HX.out w5 U5.out
  obtain ⟨D, hD⟩ : ∃ z, z = w5.alloc (.cells #[.int .i64 0, .int .i64 7] 3) := ⟨_, rfl⟩
  have nD : Nw w5 D := by rw [hD]; exact nw_alloc w5 _
  have bD : D.heap[w5.heap.size]? = some (.cells #[.int .i64 0, .int .i64 7] 3 (0, 0)) := by rw [hD]; exact heap_new w5 _
  have HD := Lib.hid hD
  have UD := Lib.hid (U5.out.trans nD)
  have hp2 : Hid (Calls Tryz.prog 14 #[.agg #[.slice oa 2 oc, .slice na 2 nc, .slice ra 3 rc], .int .i64 5, .slice (some ⟨w5.heap.size, 0, none⟩) 2 2] D (PlanW D ([⟨[0, 1], 0⟩, ⟨[2], 7⟩], 0))) := by
    have := Plan_c oa na ra (some ⟨w5.heap.size, 0, none⟩) oc nc rc 2 exF 5 [0, 7] D (HGA.out D UD.out) (HF.out D UD.out) exS (ints_ic (n := 0) bD (fun i hi => by
      have : i = 0 ∨ i = 1 := by simp at hi; omega
      rcases this with rfl | rfl <;> rfl)) (by decide) (by decide)
    rw [exP2] at this
    exact this
  unfold PlanW at hp2
  have H5D := Lib.hid (H5.out.1.nw nD)
  clear hD nD bD
  go_wp2_with (rw [← HD.out])
  (with_reducible refine (hp2.out).mono ?_)
  rintro _ w6 ⟨v6, rfl, H6⟩
  obtain ⟨a6, c6, rfl⟩ := H6.out.1.sl
  have U6 := Lib.hid (UD.out.trans H6.out.2)
  have H56 := Lib.hid (H5D.out.nw H6.out.2)
  clear hp2 HD x0 x1 x2
  obtain ⟨x0, x1, x2⟩ := HX.out w6 U6.out
  obtain ⟨E1, hE1⟩ : ∃ z, z = w6.alloc (.cells #[.int .i64 2] 3) := ⟨_, rfl⟩
  have nE1 : Nw w6 E1 := by rw [hE1]; exact nw_alloc w6 _
  have bE1 : E1.heap[w6.heap.size]? = some (.cells #[.int .i64 2] 3 (0, 0)) := by rw [hE1]; exact heap_new w6 _
  obtain ⟨E2, hE2⟩ : ∃ z, z = E1.alloc (.cells #[.int .i64 0, .int .i64 1] 3) := ⟨_, rfl⟩
  have nE2 : Nw E1 E2 := by rw [hE2]; exact nw_alloc E1 _
  have bE2 : E2.heap[E1.heap.size]? = some (.cells #[.int .i64 0, .int .i64 1] 3 (0, 0)) := by rw [hE2]; exact heap_new E1 _
  obtain ⟨E3, hE3⟩ : ∃ z, z = E2.alloc (.cells #[.slice (some ⟨w6.heap.size, 0, none⟩) 1 1, .int .i64 0, .slice (some ⟨E1.heap.size, 0, none⟩) 2 2, .int .i64 0] tWv) := ⟨_, rfl⟩
  have nE3 : Nw E2 E3 := by rw [hE3]; exact nw_alloc E2 _
  have bE3 : E3.heap[E2.heap.size]? = some (.cells #[.slice (some ⟨w6.heap.size, 0, none⟩) 1 1, .int .i64 0, .slice (some ⟨E1.heap.size, 0, none⟩) 2 2, .int .i64 0] tWv (0, 0)) := by rw [hE3]; exact heap_new E2 _
  have HE1 := Lib.hid hE1
  have HE2 := Lib.hid hE2
  have HE3 := Lib.hid hE3
  have UE := Lib.hid (U6.out.trans (nE1.trans (nE2.trans nE3)))
  have hru : Hid (Calls Tryz.prog 12 #[.agg #[.slice oa 2 oc, .slice na 2 nc, .slice ra 3 rc], .slice (some ⟨E2.heap.size, 0, none⟩) 2 2, .int .i64 2, .slice none 0 0] E3 (RunD E3 ([], 27))) := by
    have hwc : WvC E3 (some ⟨E2.heap.size, 0, none⟩) [⟨[2], 0⟩, ⟨[0, 1], 0⟩] := wv_wc bE3 (fun i hi => by
      have : i = 0 ∨ i = 1 := by simp at hi; omega
      rcases this with rfl | rfl
      · exact ⟨_, _, rfl, rfl, ic_one (Nw.keep (nE2.trans nE3) bE1), ml_le (by show 1 ≤ 100; decide)⟩
      · exact ⟨_, _, rfl, rfl, ic_two (Nw.keep nE3 bE2), ml_le (by show 2 ≤ 100; decide)⟩)
    have := Run_c oa na ra (some ⟨E2.heap.size, 0, none⟩) none oc nc rc 2 0 exF [⟨[2], 0⟩, ⟨[0, 1], 0⟩] 2 [] E3 (HGA.out E3 UE.out) (HF.out E3 UE.out) exS hwc (by decide) (by decide) (Or.inl rfl) (by decide)
    rw [exRn] at this
    exact this
  unfold RunD at hru
  have H5E := Lib.hid (H56.out.nw (nE1.trans (nE2.trans nE3)))
  have H6E := Lib.hid (H6.out.1.nw (nE1.trans (nE2.trans nE3)))
  clear hE1 hE2 hE3 nE1 nE2 nE3 bE1 bE2 bE3
  go_wp2_with (first | rw [← HE1.out] | rw [← HE2.out] | rw [← HE3.out])
  (with_reducible refine (hru.out).mono ?_)
  rintro _ w7 ⟨v7, rfl, o7, u7⟩
  obtain ⟨a7, c7, rfl⟩ := own_slW o7
  have U7 := Lib.hid (UE.out.trans u7)
  have H57 := Lib.hid (H5E.out.nw u7)
  have H67 := Lib.hid (H6E.out.nw u7)
  clear hru HE1 HE2 HE3 x0 x1 x2 o7 u7
  obtain ⟨x0, x1, x2⟩ := HX.out w7 U7.out
  have hrt : Hid (Calls Tryz.prog 18 #[.agg #[.slice oa 2 oc, .slice na 2 nc, .slice ra 3 rc]] w7 fun e w' => e = .returned (.bool true) ∧ Nw w7 w') := by
    have := wvRight_c oa na ra oc nc rc exF w7 (HGA.out w7 U7.out) (HF.out w7 U7.out) exS.o exS.n exS.r exS.so exS.sn
    rw [exR] at this
    exact this
  go_wp2_with fail
  (with_reducible refine (hrt.out).mono ?_)
  rintro _ w8 ⟨rfl, u8⟩
  have U8 := Lib.hid (U7.out.trans u8)
  have H58 := Lib.hid (H57.out.nw u8)
  have H68 := Lib.hid (H67.out.nw u8)
  clear hrt u8 x0 x1 x2
  obtain ⟨F1, hF1⟩ : ∃ z, z = w8.alloc (.cells #[.int .i64 0] 3) := ⟨_, rfl⟩
  have nF1 : Nw w8 F1 := by rw [hF1]; exact nw_alloc w8 _
  have bF1 : F1.heap[w8.heap.size]? = some (.cells #[.int .i64 0] 3 (0, 0)) := by rw [hF1]; exact heap_new w8 _
  obtain ⟨F2, hF2⟩ : ∃ z, z = F1.alloc (.cells #[.int .i64 1] 3) := ⟨_, rfl⟩
  have nF2 : Nw F1 F2 := by rw [hF2]; exact nw_alloc F1 _
  have bF2 : F2.heap[F1.heap.size]? = some (.cells #[.int .i64 1] 3 (0, 0)) := by rw [hF2]; exact heap_new F1 _
  obtain ⟨F3, hF3⟩ : ∃ z, z = F2.alloc (.cells #[.int .i64 2] 3) := ⟨_, rfl⟩
  have nF3 : Nw F2 F3 := by rw [hF3]; exact nw_alloc F2 _
  have bF3 : F3.heap[F2.heap.size]? = some (.cells #[.int .i64 2] 3 (0, 0)) := by rw [hF3]; exact heap_new F2 _
  obtain ⟨F4, hF4⟩ : ∃ z, z = F3.alloc (.cells #[.slice (some ⟨w8.heap.size, 0, none⟩) 1 1, .int .i64 0, .slice (some ⟨F1.heap.size, 0, none⟩) 1 1, .int .i64 0, .slice (some ⟨F2.heap.size, 0, none⟩) 1 1, .int .i64 0] tWv) := ⟨_, rfl⟩
  have nF4 : Nw F3 F4 := by rw [hF4]; exact nw_alloc F3 _
  have bF4 : F4.heap[F3.heap.size]? = some (.cells #[.slice (some ⟨w8.heap.size, 0, none⟩) 1 1, .int .i64 0, .slice (some ⟨F1.heap.size, 0, none⟩) 1 1, .int .i64 0, .slice (some ⟨F2.heap.size, 0, none⟩) 1 1, .int .i64 0] tWv (0, 0)) := by rw [hF4]; exact heap_new F3 _
  have HF1 := Lib.hid hF1
  have HF2 := Lib.hid hF2
  have HF3 := Lib.hid hF3
  have HF4 := Lib.hid hF4
  have nF := nF1.trans (nF2.trans (nF3.trans nF4))
  have UF := Lib.hid (U8.out.trans nF)
  have hs1 : Hid (Calls Tryz.prog 17 #[.slice a5 3 c5, .slice (some ⟨F3.heap.size, 0, none⟩) 3 3] F4 fun e w' => e = .returned (.bool true) ∧ Nw F4 w') := by
    have hwc : WvC F4 (some ⟨F3.heap.size, 0, none⟩) [⟨[0], 0⟩, ⟨[1], 0⟩, ⟨[2], 0⟩] := wv_wc bF4 (fun i hi => by
      have : i = 0 ∨ i = 1 ∨ i = 2 := by simp at hi; omega
      rcases this with rfl | rfl | rfl
      · exact ⟨_, _, rfl, rfl, ic_one (Nw.keep (nF2.trans (nF3.trans nF4)) bF1), ml_le (by show 1 ≤ 100; decide)⟩
      · exact ⟨_, _, rfl, rfl, ic_one (Nw.keep (nF3.trans nF4) bF2), ml_le (by show 1 ≤ 100; decide)⟩
      · exact ⟨_, _, rfl, rfl, ic_one (Nw.keep nF4 bF3), ml_le (by show 1 ≤ 100; decide)⟩)
    exact Same_c a5 _ c5 3 [⟨[0], 0⟩, ⟨[1], 0⟩, ⟨[2], 0⟩] [⟨[0], 0⟩, ⟨[1], 0⟩, ⟨[2], 0⟩] F4 (H58.out.nw nF).wvc.1 hwc (ml_le (by decide)) (ml_le (by decide))
  have H6F := Lib.hid (H68.out.nw nF)
  clear hF1 hF2 hF3 hF4 nF1 nF2 nF3 nF4 bF1 bF2 bF3 bF4 nF
  go_wp2_with (first | rw [← HF1.out] | rw [← HF2.out] | rw [← HF3.out] | rw [← HF4.out])
  (with_reducible refine (hs1.out).mono ?_)
  rintro _ w9 ⟨rfl, u9⟩
  have U9 := Lib.hid (UF.out.trans u9)
  have H69 := Lib.hid (H6F.out.nw u9)
  clear hs1 u9 HF1 HF2 HF3 HF4
  obtain ⟨G1, hG1⟩ : ∃ z, z = w9.alloc (.cells #[.int .i64 0, .int .i64 1] 3) := ⟨_, rfl⟩
  have nG1 : Nw w9 G1 := by rw [hG1]; exact nw_alloc w9 _
  have bG1 : G1.heap[w9.heap.size]? = some (.cells #[.int .i64 0, .int .i64 1] 3 (0, 0)) := by rw [hG1]; exact heap_new w9 _
  obtain ⟨G2, hG2⟩ : ∃ z, z = G1.alloc (.cells #[.int .i64 2] 3) := ⟨_, rfl⟩
  have nG2 : Nw G1 G2 := by rw [hG2]; exact nw_alloc G1 _
  have bG2 : G2.heap[G1.heap.size]? = some (.cells #[.int .i64 2] 3 (0, 0)) := by rw [hG2]; exact heap_new G1 _
  obtain ⟨G3, hG3⟩ : ∃ z, z = G2.alloc (.cells #[.slice (some ⟨w9.heap.size, 0, none⟩) 2 2, .int .i64 0, .slice (some ⟨G1.heap.size, 0, none⟩) 1 1, .int .i64 7] tWv) := ⟨_, rfl⟩
  have nG3 : Nw G2 G3 := by rw [hG3]; exact nw_alloc G2 _
  have bG3 : G3.heap[G2.heap.size]? = some (.cells #[.slice (some ⟨w9.heap.size, 0, none⟩) 2 2, .int .i64 0, .slice (some ⟨G1.heap.size, 0, none⟩) 1 1, .int .i64 7] tWv (0, 0)) := by rw [hG3]; exact heap_new G2 _
  have HG1 := Lib.hid hG1
  have HG2 := Lib.hid hG2
  have HG3 := Lib.hid hG3
  have nG := nG1.trans (nG2.trans nG3)
  have UG := Lib.hid (U9.out.trans nG)
  have hs2 : Hid (Calls Tryz.prog 17 #[.slice a6 2 c6, .slice (some ⟨G2.heap.size, 0, none⟩) 2 2] G3 fun e w' => e = .returned (.bool true) ∧ Nw G3 w') := by
    have hwc : WvC G3 (some ⟨G2.heap.size, 0, none⟩) [⟨[0, 1], 0⟩, ⟨[2], 7⟩] := wv_wc bG3 (fun i hi => by
      have : i = 0 ∨ i = 1 := by simp at hi; omega
      rcases this with rfl | rfl
      · exact ⟨_, _, rfl, rfl, ic_two (Nw.keep (nG2.trans nG3) bG1), ml_le (by show 2 ≤ 100; decide)⟩
      · exact ⟨_, _, rfl, rfl, ic_one (Nw.keep nG3 bG2), ml_le (by show 1 ≤ 100; decide)⟩)
    exact Same_c a6 _ c6 2 [⟨[0, 1], 0⟩, ⟨[2], 7⟩] [⟨[0, 1], 0⟩, ⟨[2], 7⟩] G3 (H69.out.nw nG).wvc.1 hwc (ml_le (by decide)) (ml_le (by decide))
  clear hG1 hG2 hG3 nG1 nG2 nG3 bG1 bG2 bG3 nG
  go_wp2_with (first | rw [← HG1.out] | rw [← HG2.out] | rw [← HG3.out])
  (with_reducible refine (hs2.out).mono ?_)
  rintro _ w10 ⟨rfl, u10⟩
  have UZ := Lib.hid (HNA.out.trans (UG.out.trans u10))
  clear u10
  go_wp2_with fail
  go_ret
  exact ⟨rfl, UZ.out⟩
end Go.Proofs.YtjlgmoemnhmgmaaGreatDoor
namespace Go.Proofs.YtjlgmoemnhmgmaaGreatDoor
open Go.ChangeShapes Go.WideShapes Go.ChangeAt Go.RowKit Go.Joins
set_option linter.unusedVariables false
set_option linter.unusedSimpArgs false
open Fm (Ty Vl Str)
open Wv (Svc FL)

theorem IC.of_sl {lo hi : Nat} {w : World} {v : Value} {l : List Int} (h : Sl lo hi w v (l.map (Value.int .i64))) : ∃ a cap, v = .slice a l.length cap ∧ l.length ≤ maxLen ∧ l.length ≤ cap ∧ IC w a l := by
  rcases h with ⟨a, cap, rfl, h0⟩ | ⟨b, off, cap, rfl, h2, h3, h4, h5, h6, h7⟩
  · have : l = [] := List.map_eq_nil_iff.1 h0
    subst this
    exact ⟨a, cap, rfl, Nat.zero_le _, Nat.zero_le _, Or.inl rfl⟩
  · rw [List.length_map] at h2 ⊢
    refine ⟨_, cap, rfl, by omega, h2, Or.inr ⟨b, off, rfl, h6, fun i hi => ?_⟩⟩
    rw [h7 i (by rw [List.length_map]; exact hi), List.getElem?_map, List.getElem?_eq_getElem hi]; rfl
theorem BC.of_sl {lo hi : Nat} {w : World} {v : Value} {l : List Bool} (h : Sl lo hi w v (l.map Value.bool)) : ∃ a cap, v = .slice a l.length cap ∧ l.length ≤ maxLen ∧ l.length ≤ cap ∧ BC w a l := by
  rcases h with ⟨a, cap, rfl, h0⟩ | ⟨b, off, cap, rfl, h2, h3, h4, h5, h6, h7⟩
  · have : l = [] := List.map_eq_nil_iff.1 h0
    subst this
    exact ⟨a, cap, rfl, Nat.zero_le _, Nat.zero_le _, Or.inl rfl⟩
  · rw [List.length_map] at h2 ⊢
    refine ⟨_, cap, rfl, by omega, h2, Or.inr ⟨b, off, rfl, h6, fun i hi => ?_⟩⟩
    rw [h7 i (by rw [List.length_map]; exact hi), List.getElem?_map, List.getElem?_eq_getElem hi]; rfl
section
variable {H : Type} {enc : TypeId × Value → H} {w : World} {base : Nat} {sp : Nat → Bool} {held : Bool} {n : Nat} {x : DataW H × List MemPlace}
theorem trod_bools_cell {P : Program} {t e : TypeId} {cs : List Value} (ht : P.underlying t = some (.slice e)) (he : P.underlying e = some .bool) (hc : P.cellsOf e = 1) (h : DataW.trod enc P w base sp held n t cs = some x) :
    ∃ (v : Value) (l : List Bool), cs = [v] ∧ Sl 0 w.heap.size w v (l.map Value.bool) := by
  obtain ⟨v, xs, h1, h2, h3⟩ := trod_slice_cells ht hc (by omega) h
  obtain ⟨l, h4, h5⟩ := sl_of_sls h2 Value.bool (fun _ => True) (fun c hc => by
    obtain ⟨m, y, hy⟩ := h3 c hc
    obtain ⟨b, h6, _⟩ := DataW.trod_bool he hy
    exact ⟨b, h6, trivial⟩)
  exact ⟨v, l, h1, h4⟩
/-- A service with what its slices are. -/
structure CS where
  s : Svc
  sa : Option Addr
  sc : Nat
  fa : Option Addr
  fc : Nat
  ga : Option Addr
  gc : Nat
def csL (c : CS) : List Value := [.string ⟨c.s.name.toArray⟩, .slice c.sa c.s.sends.length c.sc, .int .i64 c.s.wr.kind, .slice c.fa c.s.wr.fs.length c.fc, .int .i64 c.s.rd.kind, .slice c.ga c.s.rd.fs.length c.gc]
set_option maxRecDepth 100000 in
theorem trod_svs {cs : List Value} (h : DataW.trod enc Tryz.prog w base sp held n 22 cs = some x) :
    ∃ a cap l, cs = [.slice a l.length cap] ∧ l.length ≤ maxLen ∧ l.length ≤ cap ∧ SvC w a l := by
  obtain ⟨v, xs, h1, h2, h3⟩ := trod_slice_fuel Tryz.underlying22 (sz := 6) (by kernel_rfl) (by omega) h
  obtain ⟨C, rfl, hQ⟩ := list_of_relT (f := csL) (Q := fun c => SvcR w c.s c.sa c.fa c.ga c.fc c.gc) xs (fun c hc => by
    obtain ⟨m2, y, hm2, hy⟩ := h3 c hc
    obtain ⟨xs2, m3, hm3, rfl, hl2, hlen2, hf2⟩ := DataW.trod_struct Tryz.underlying52 hy
    have hc2 : Tryz.prog.cellsOf 52 = 6 := by kernel_rfl
    rw [hc2] at hl2
    match c, hl2 with
    | [d0, d1, d2, d3, d4, d5], _ =>
      match xs2, hlen2 with
      | [q0, q1, q2, q3], _ =>
        have r0 : DataW.trod enc Tryz.prog w base sp held m3 9 [d0] = some q0 := hf2 0 _ rfl
        have r1 : DataW.trod enc Tryz.prog w base sp held m3 23 [d1] = some q1 := hf2 1 _ rfl
        have r2 : DataW.trod enc Tryz.prog w base sp held m3 50 [d2, d3] = some q2 := hf2 2 _ rfl
        have r3 : DataW.trod enc Tryz.prog w base sp held m3 50 [d4, d5] = some q3 := hf2 3 _ rfl
        obtain ⟨s, es, ls⟩ := trod_str_cell Tryz.underlying9 r0
        obtain ⟨sv, l, e1, hs, _⟩ := trod_ints_cell Tryz.underlying23 Tryz.underlying3 (by kernel_rfl) r1
        obtain ⟨fv, t, et, ht⟩ := trod_ty _ r2
        obtain ⟨gv, u, eu, hu⟩ := trod_ty _ r3
        obtain ⟨sa, sc, rfl, hsm, _, hic⟩ := IC.of_sl hs
        obtain ⟨fa, fc, rfl, -, -⟩ := ht.cells
        obtain ⟨ga, gc, rfl, -, -⟩ := hu.cells
        simp only [List.cons.injEq, and_true] at es e1 et eu
        obtain ⟨et1, et2⟩ := et
        obtain ⟨eu1, eu2⟩ := eu
        subst es e1 et1 et2 eu1 eu2
        exact ⟨⟨⟨s, l, t, u⟩, sa, sc, fa, fc, ga, gc⟩, rfl, ⟨ls, hsm, hic, ht, hu⟩⟩)
  subst h1
  rcases h2 with ⟨a, cap, rfl, h0⟩ | ⟨b, off, cap, rfl, g2, g3, g4, g5, g6, g7⟩
  · have : C = [] := List.map_eq_nil_iff.1 h0
    subst this
    exact ⟨a, cap, [], rfl, Nat.zero_le _, Nat.zero_le _, Or.inl rfl⟩
  · rw [List.length_map] at g2
    refine ⟨_, cap, C.map CS.s, by rw [List.length_map, List.length_map], by rw [List.length_map]; omega, by rw [List.length_map]; omega, Or.inr ⟨b, off, rfl, g6, fun i hi => ?_⟩⟩
    rw [List.length_map] at hi
    have h4 := (g7 i (by rw [List.length_map]; exact hi)).2
    simp only [List.getElem_map] at h4 ⊢
    refine ⟨_, _, _, C[i].sc, _, _, ⟨?_, ?_, ?_, ?_, ?_, ?_⟩, hQ _ (List.getElem_mem hi)⟩
    · exact h4 0 (by omega)
    · exact h4 1 (by omega)
    · exact h4 2 (by omega)
    · exact h4 3 (by omega)
    · exact h4 4 (by omega)
    · exact h4 5 (by omega)
set_option maxRecDepth 100000 in
theorem trod_fleet {cs : List Value} (h : DataW.trod enc Tryz.prog w base sp held n 25 cs = some x) :
    ∃ oa na ra oc nc rc f, cs = [.slice oa f.old.length oc, .slice na f.new.length nc, .slice ra f.runs.length rc] ∧ FlAt w oa na ra oc nc f ∧ f.runs.length ≤ rc := by
  obtain ⟨xs, m, hm, rfl, hl, hlen, hf⟩ := DataW.trod_struct Tryz.underlying25 h
  have hc : Tryz.prog.cellsOf 25 = 3 := by kernel_rfl
  rw [hc] at hl
  match cs, hl with
  | [c0, c1, c2], _ =>
    match xs, hlen with
    | [y0, y1, y2], _ =>
      have k0 : DataW.trod enc Tryz.prog w base sp held m 22 [c0] = some y0 := hf 0 _ rfl
      have k1 : DataW.trod enc Tryz.prog w base sp held m 22 [c1] = some y1 := hf 1 _ rfl
      have k2 : DataW.trod enc Tryz.prog w base sp held m 23 [c2] = some y2 := hf 2 _ rfl
      obtain ⟨oa, oc, lo, e0, h01, h02, h03⟩ := trod_svs k0
      obtain ⟨na, nc, ln, e1, h11, h12, h13⟩ := trod_svs k1
      obtain ⟨rv, lr, e2, hs, _⟩ := trod_ints_cell Tryz.underlying23 Tryz.underlying3 (by kernel_rfl) k2
      obtain ⟨ra, rc, rfl, hrm, hrc, hic⟩ := IC.of_sl hs
      simp only [List.cons.injEq, and_true] at e0 e1 e2
      subst e0 e1 e2
      exact ⟨oa, na, ra, oc, nc, rc, ⟨lo, ln, lr⟩, rfl, ⟨h03, h13, hic, h01, h11, hrm, h02, h12⟩, hrc⟩
/-- A wave with what its slice is. -/
structure CWv where
  wv : Wv.Wave
  ma : Option Addr
  mc : Nat
set_option maxRecDepth 100000 in
theorem trod_waves {cs : List Value} (h : DataW.trod enc Tryz.prog w base sp held n 27 cs = some x) :
    ∃ a cap l, cs = [.slice a l.length cap] ∧ l.length ≤ maxLen ∧ l.length ≤ cap ∧ WvC w a l ∧ ∀ x ∈ l, I64 x.after := by
  obtain ⟨v, xs, h1, h2, h3⟩ := trod_slice_fuel Tryz.underlying27 (sz := 2) (by kernel_rfl) (by omega) h
  obtain ⟨C, rfl, hQ⟩ := list_of_relT (f := fun c : CWv => [.slice c.ma c.wv.ms.length c.mc, .int .i64 c.wv.after]) (Q := fun c => (IC w c.ma c.wv.ms ∧ c.wv.ms.length ≤ maxLen) ∧ I64 c.wv.after) xs (fun c hc => by
    obtain ⟨m2, y, hm2, hy⟩ := h3 c hc
    obtain ⟨xs2, m3, hm3, rfl, hl2, hlen2, hf2⟩ := DataW.trod_struct Tryz.underlying62 hy
    have hc2 : Tryz.prog.cellsOf 62 = 2 := by kernel_rfl
    rw [hc2] at hl2
    match c, hl2 with
    | [d0, d1], _ =>
      match xs2, hlen2 with
      | [q0, q1], _ =>
        have r0 : DataW.trod enc Tryz.prog w base sp held m3 23 [d0] = some q0 := hf2 0 _ rfl
        have r1 : DataW.trod enc Tryz.prog w base sp held m3 3 [d1] = some q1 := hf2 1 _ rfl
        obtain ⟨sv, l, e1, hs, _⟩ := trod_ints_cell Tryz.underlying23 Tryz.underlying3 (by kernel_rfl) r0
        obtain ⟨z, e0, w0⟩ := trod_int_cell Tryz.underlying3 r1
        obtain ⟨sa, sc, rfl, hsm, _, hic⟩ := IC.of_sl hs
        simp only [List.cons.injEq, and_true] at e1 e0
        subst e1 e0
        exact ⟨⟨⟨l, z⟩, sa, sc⟩, rfl, ⟨hic, hsm⟩, i64_of_wf w0⟩)
  subst h1
  rcases h2 with ⟨a, cap, rfl, h0⟩ | ⟨b, off, cap, rfl, g2, g3, g4, g5, g6, g7⟩
  · have : C = [] := List.map_eq_nil_iff.1 h0
    subst this
    exact ⟨a, cap, [], rfl, Nat.zero_le _, Nat.zero_le _, Or.inl rfl, fun x hx => by cases hx⟩
  · rw [List.length_map] at g2
    refine ⟨_, cap, C.map CWv.wv, by rw [List.length_map, List.length_map], by rw [List.length_map]; omega, by rw [List.length_map]; omega, Or.inr ⟨b, off, rfl, g6, fun i hi => ?_⟩, fun x hx => ?_⟩
    · rw [List.length_map] at hi
      have h4 := (g7 i (by rw [List.length_map]; exact hi)).2
      simp only [List.getElem_map] at h4 ⊢
      exact ⟨_, C[i].mc, h4 0 (by omega), h4 1 (by omega), (hQ _ (List.getElem_mem hi)).1.1, (hQ _ (List.getElem_mem hi)).1.2⟩
    · obtain ⟨c, hc, rfl⟩ := List.mem_map.1 hx
      exact (hQ c hc).2
end
end Go.Proofs.YtjlgmoemnhmgmaaGreatDoor
namespace Go.Proofs.YtjlgmoemnhmgmaaGreatDoor
open Go.RowKit
set_option linter.unusedVariables false
set_option linter.unusedSimpArgs false
attribute [local irreducible] Calls
open Fm (Ty Vl Str)
open Wv (Svc FL)

/-- 'append(out, xs...)' at a step of a region that draws its order: out an own slice, xs known cells, or none. -/
theorem step_catS {P : Program} {w : World} {ops : Array Oper} {o : Oper} {a : Act} {K : Act → World → Prop} {Q : Exit → Act → World → Prop} {E : Prop} (hgd : o.guard = none) (s x : Operand) (t : TypeId)
    (ho : o.op = .call { callee := .builtin .append, args := #[s, x], argTypes := #[t, t] })
    (e : TypeId) (z : Value) (size bytes : Nat) (ht : P.underlying t = some (.slice e)) (hinfo : (P.info? e).map (fun i => (i.zero, i.size, i.bytes)) = some (some z, size, bytes)) (hzs : z.cells.size = size) (hsz : 0 < size)
    (B : Nat) (hB : B ≤ w.heap.size) (hg : nG ≤ B) (v : Value) (n : Nat) (xs : List Value) (hs : a.eval s = v) (hown : w.ownsRow B e size v n xs)
    (ao : Option Addr) (m c : Nat) (news : List Value) (hx : a.eval x = .slice ao m c) (hl : news.length = m * size) (hsrc : m = 0 ∨ ∃ ad, ao = some ad ∧ ∀ j u, news[j]? = some u → w.cell? (ad.add j) = some u) (h1 : ∀ u ∈ news, u.oneCell' = true)
    (h63 : n + m ≤ maxLen) (hbytes : (n + m) * bytes ≤ 140737488355328)
    (h : ∀ v' w', w'.ownsRow B e size v' (n + m) (xs ++ news) → Upd (fun k => v.ownBlock = some k) w w' → K (a.put o.dst v') w') :
    if Region.wanted o (yielded ops a.tmps) = true then Oper.wp P o a w K Q else E := by
  by_cases hm : m = 0
  · subst hm
    have hnil : news = [] := List.eq_nil_of_length_eq_zero (by rw [hl, Nat.zero_mul])
    subst hnil
    obtain ⟨i0, hi0, hz0, hz1, hz2⟩ := info_parts hinfo
    have hw : Region.wanted o (yielded ops a.tmps) = true := by simp [Region.wanted, hgd]
    rw [if_pos hw]
    have hr : (Builtin.append_ #[t, t] o.type #[v, .slice ao 0 c]).run P w = .ok v w := by
      rcases hown.2 with ⟨rfl, rfl⟩ | ⟨g, cap, cur, rfl, _, _, hnc, _⟩
      · cases ao <;> simp [Builtin.append_, run_underlying ht, sizeOf, typeInfo, hi0, Builtin.lenOf, Builtin.firstCells, loadCells, loadCellsFrom]
      · cases ao <;> simp [Builtin.append_, run_underlying ht, sizeOf, typeInfo, hi0, Builtin.lenOf, Builtin.firstCells, hnc, storeCells, loadCells, loadCellsFrom]
    unfold Oper.wp execOp
    simp only [ho, resolve, invoke, builtin, Sem.run_bind, Sem.run_pure, Result.andThen_ok, List.map_toArray, List.map_cons, List.map_nil, hs, hx, hr]
    exact h v w (by simpa using hown) (Upd.refl _ _)
  · rcases hsrc with h0 | ⟨ad, rfl, hc⟩
    · exact absurd h0 hm
    · exact step_catC hgd s x t ho e z size bytes ht hinfo hzs hsz B hB hg v n xs hs hown ad m c news hx hl hc h1 (by omega) h63 hbytes fun g cap w' o9 u9 _ => h _ w' o9 u9
def CS.ok (w : World) (c : CS) : Prop := SvcR w c.s c.sa c.fa c.ga c.fc c.gc
theorem csL_len (C : List CS) : (C.map csL).flatten.length = C.length * 6 := by
  induction C with
  | nil => rfl
  | cons c C ih => rw [List.map_cons, List.flatten_cons, List.length_append, ih, List.length_cons]; show 6 + _ = _; omega
theorem SvC.list {w : World} {a : Option Addr} {l : List Svc} (h : SvC w a l) : ∃ C : List CS, C.map CS.s = l ∧ (∀ c ∈ C, c.ok w) ∧ (C.length = 0 ∨ ∃ ad, a = some ad ∧ ∀ j u, (C.map csL).flatten[j]? = some u → w.cell? (ad.add j) = some u) := by
  rcases h with rfl | ⟨b, off, rfl, hb, hc⟩
  · exact ⟨[], rfl, (fun c hc => by cases hc), Or.inl rfl⟩
  · have h2 : ∀ i (h : i < l.length), ∃ c : CS, c.s = l[i] ∧ c.ok w ∧ SvcK w b (off + i * 6) c.s c.sa c.fa c.ga c.sc c.fc c.gc := fun i hi => by
      obtain ⟨sa, fa, ga, sc, fc, gc, h1, h2⟩ := hc i hi
      exact ⟨⟨l[i], sa, sc, fa, fc, ga, gc⟩, rfl, h2, h1⟩
    let F : Nat → CS := fun i => if hi : i < l.length then Classical.choose (h2 i hi) else ⟨Wv.noS, none, 0, none, 0, none, 0⟩
    have hF : ∀ i (h : i < l.length), (F i).s = l[i] ∧ (F i).ok w ∧ SvcK w b (off + i * 6) (F i).s (F i).sa (F i).fa (F i).ga (F i).sc (F i).fc (F i).gc := fun i hi => by
      show (if hi : i < l.length then _ else _ : CS).s = _ ∧ _
      simp only [F, hi, dite_true]
      exact Classical.choose_spec (h2 i hi)
    refine ⟨(List.range l.length).map F, ?_, fun c hc => ?_, Or.inr ⟨⟨b, off, none⟩, rfl, fun j u hu => ?_⟩⟩
    · apply List.ext_getElem
      · simp
      · intro i h3 h4
        simp only [List.getElem_map, List.getElem_range]
        exact (hF i h4).1
    · obtain ⟨i, hi, rfl⟩ := List.mem_map.1 hc
      exact (hF i (List.mem_range.1 hi)).2.1
    · have hlen : j < l.length * 6 := by
        have := (List.getElem?_eq_some_iff.1 hu).1
        rw [csL_len] at this
        simpa using this
      have hi : j / 6 < l.length := by omega
      have hj : j % 6 < 6 := by omega
      have e : j = j / 6 * 6 + j % 6 := by omega
      rw [e, flat_at _ (j / 6) (j % 6) (fun x hx => by obtain ⟨c, _, rfl⟩ := List.mem_map.1 hx; rfl) hj (by simpa using hi)] at hu
      simp only [List.getElem_map, List.getElem_range] at hu
      obtain ⟨_, _, k0, k1, k2, k3, k4, k5⟩ := hF (j / 6) hi
      rw [add_plain]
      have e2 : off + j = off + j / 6 * 6 + j % 6 := by omega
      rw [e2]
      generalize j % 6 = r at *
      unfold csL at hu
      have hr : r = 0 ∨ r = 1 ∨ r = 2 ∨ r = 3 ∨ r = 4 ∨ r = 5 := by omega
      rcases hr with rfl | rfl | rfl | rfl | rfl | rfl
      · rw [Nat.add_zero, k0]; simpa using hu
      · rw [k1]; simpa using hu
      · rw [k2]; simpa using hu
      · rw [k3]; simpa using hu
      · rw [k4]; simpa using hu
      · rw [k5]; simpa using hu
theorem WvC.take {w : World} {a : Option Addr} {l : List Wv.Wave} (h : WvC w a l) (n : Nat) : WvC w a (l.take n) := by
  rcases h with h | ⟨b, off, e, hb, hc⟩
  · exact Or.inl (by rw [h]; exact List.take_nil)
  · refine Or.inr ⟨b, off, e, hb, fun i hi => ?_⟩
    have hi' : i < l.length := by rw [List.length_take] at hi; omega
    have := hc i hi'
    simp only [List.getElem_take]
    exact this
theorem sm_few {f : FL} (h : Wv.fewF f = true) : Sm f ∧ f.runs.length ≤ 8 ∧ f.old.length ≤ 4 ∧ f.new.length ≤ 4 := by
  unfold Wv.fewF Wv.fewSs at h
  simp only [Bool.and_eq_true, decide_eq_true_eq] at h
  obtain ⟨⟨⟨h1, h2⟩, h3, h4⟩, h5⟩ := h
  have key : ∀ (l : List Svc), (l.take 5).all Wv.fewS = true → l.length ≤ 4 → ∀ s ∈ l, s.sends.length ≤ 1000 := fun l ha hl s hs => by
    rw [List.take_of_length_le (by omega)] at ha
    have := List.all_eq_true.1 ha s hs
    unfold Wv.fewS at this
    simp only [Bool.and_eq_true, decide_eq_true_eq] at this
    omega
  exact ⟨⟨by omega, by omega, by omega, key _ h1 h2, key _ h3 h4⟩, h5, h2, h4⟩
theorem ws_few {l : List Wv.Wave} (h : Wv.fewW l = true) : l.length ≤ 10 ∧ ∀ x ∈ l, x.ms.length ≤ 10 := by
  unfold Wv.fewW at h
  simp only [Bool.and_eq_true, decide_eq_true_eq] at h
  refine ⟨h.2, fun x hx => ?_⟩
  have h1 := h.1
  rw [List.take_of_length_le (by omega)] at h1
  simpa using List.all_eq_true.1 h1 x hx
def fewL (f : FL) (ws : List Wv.Wave) (holds : List Int) : Bool := Wv.fewF f && Wv.fewW ws && decide (holds.length ≤ 10)
set_option maxHeartbeats 4000000 in
set_option maxRecDepth 100000 in
theorem few_c (oa na ra wa ha : Option Addr) (oc nc rc wvc hc : Nat) (f : FL) (ws : List Wv.Wave) (holds : List Int) (w : World) (h : FlAt w oa na ra oc nc f) (hws : WvC w wa ws) (hwl : ws.length ≤ maxLen) (hhl : holds.length ≤ maxLen) :
    Calls Tryz.prog 9 #[.agg (flV oa na ra oc nc rc f), .slice wa ws.length wvc, .slice ha holds.length hc] w fun e w' => e = .returned (.bool (fewL f ws holds)) ∧ Nw w w' := by
  unfold flV
  have n1 := nw_alloc w (.cells #[.slice oa f.old.length oc, .slice na f.new.length nc, .slice ra f.runs.length rc] tFl)
  have b1 := heap_new w (.cells #[.slice oa f.old.length oc, .slice na f.new.length nc, .slice ra f.runs.length rc] tFl)
  obtain ⟨W, hW⟩ : ∃ z, z = w.alloc (.cells #[.slice oa f.old.length oc, .slice na f.new.length nc, .slice ra f.runs.length rc] tFl) := ⟨_, rfl⟩
  rw [← hW] at n1 b1
  have HW := Lib.hid hW
  have HN := Lib.hid n1
  have x0 : W.cell? ⟨w.heap.size, 0, none⟩ = some (.slice oa f.old.length oc) := by rw [cells_cell b1]; rfl
  have x1 : W.cell? ⟨w.heap.size, 1, none⟩ = some (.slice na f.new.length nc) := by rw [cells_cell b1]; rfl
  have x2 : W.cell? ⟨w.heap.size, 2, none⟩ = some (.slice ra f.runs.length rc) := by rw [cells_cell b1]; rfl
  have hc1 := Lib.hid (Few_c oa na ra oc nc rc f W (h.nw n1))
  have HC2 := Lib.hid (fun (y : World) (u : Nw W y) => FewWaves_c wa wvc ws y (WvC.nw hws (n1.trans u)) hwl)
  have HFF : Hid (fewL f ws holds = (Wv.fewF f && Wv.fewW ws && decide (holds.length ≤ 10))) := rfl
  unfold maxLen at hhl
  have hlr1 : (holds.length : Int) ≤ 9223372036854775807 := by omega
  unfold flV at hc1
  clear n1 b1 hW h hws
  go_enter Tryz.func9, Tryz.ntmps9
  go_upto_region 1 with fail
  rw [← HW.out]
  clear HW
  cases h1 : Wv.fewF f with
  | false =>
    rw [h1] at hc1 HFF
    go_wp2_with fail
    (with_reducible refine (hc1.out).mono ?_)
    rintro _ w2 ⟨rfl, u2⟩
    have HU := Lib.hid (HN.out.trans u2)
    clear u2
    go_wp2_with fail
    go_ret
    exact ⟨by rw [HFF.out]; rfl, HU.out⟩
  | true =>
  rw [h1] at hc1 HFF
  go_wp2_with fail
  (with_reducible refine (hc1.out).mono ?_)
  rintro _ w2 ⟨rfl, u2⟩
  have HU := Lib.hid (HN.out.trans u2)
  have hc2 := Lib.hid (HC2.out w2 u2)
  clear u2 x0 x1 x2 hc1 h1
  cases h2 : Wv.fewW ws with
  | false =>
    rw [h2] at hc2 HFF
    go_wp2_with fail
    (with_reducible refine (hc2.out).mono ?_)
    rintro _ w3 ⟨rfl, u3⟩
    have HU3 := Lib.hid (HU.out.trans u3)
    clear u3
    go_wp2_with fail
    go_ret
    exact ⟨by rw [HFF.out]; rfl, HU3.out⟩
  | true =>
  rw [h2] at hc2 HFF
  go_wp2_with fail
  (with_reducible refine (hc2.out).mono ?_)
  rintro _ w3 ⟨rfl, u3⟩
  have HU3 := Lib.hid (HU.out.trans u3)
  clear u3 hc2 h2
  go_wp2_with fail
  go_ret
  exact ⟨by rw [HFF.out]; simp; omega, HU3.out⟩
end Go.Proofs.YtjlgmoemnhmgmaaGreatDoor
namespace Go.Proofs.YtjlgmoemnhmgmaaGreatDoor
set_option linter.unusedVariables false
set_option linter.unusedSimpArgs false

namespace Wv
theorem gD {α : Type} {l : List α} {i : Nat} {d : α} (h : i < l.length) : l.getD i d = l[i] := by rw [List.getD_eq_getElem?_getD, List.getElem?_eq_getElem h]; rfl
theorem find_congrW {p q : Nat → Bool} : ∀ {l : List Nat}, (∀ x ∈ l, p x = q x) → l.find? p = l.find? q
  | [], _ => rfl
  | a :: l, h => by
    rw [List.find?_cons, List.find?_cons, h a (List.mem_cons_self ..), find_congrW (fun x hx => h x (List.mem_cons_of_mem _ hx))]
theorem findSome_congrW {α : Type} {g g' : Nat → Option α} : ∀ {l : List Nat}, (∀ x ∈ l, g x = g' x) → l.findSome? g = l.findSome? g'
  | [], _ => rfl
  | a :: l, h => by
    rw [List.findSome?_cons, List.findSome?_cons, h a (List.mem_cons_self ..), findSome_congrW (fun x hx => h x (List.mem_cons_of_mem _ hx))]
theorem firstBad_congr {f : FL} {d d' : List Bool} (h : ∀ i, i < f.runs.length → ver d i = ver d' i) : firstBad f d = firstBad f d' := by
  unfold firstBad badRow
  refine findSome_congrW fun i hi => ?_
  congr 1
  refine find_congrW fun k hk => ?_
  unfold bad
  rw [h i (List.mem_range.1 hi), h k (List.mem_range.1 hk)]
/-! ### Some, all, none -/
def pres (f : FL) (d : List Bool) (s : Nat) (v : Bool) : Prop := ∃ i, i < f.runs.length ∧ run f i = s ∧ ver d i = v
theorem bad_some {f : FL} {d : List Bool} : (firstBad f d).isSome = true ↔ ∃ s v s' v', pres f d s v ∧ pres f d s' v' ∧ can f s v s' v' = false := by
  constructor
  · intro h
    rcases Option.isSome_iff_exists.1 h with ⟨p, hp⟩
    have h2 : ¬ ∀ i, i < f.runs.length → ∀ k, k < f.runs.length → bad f d i k = false := fun h3 => by rw [first_none_iff.2 h3] at hp; cases hp
    simp only [Classical.not_forall] at h2
    obtain ⟨i, hi, k, hk, hb⟩ := h2
    exact ⟨_, _, _, _, ⟨i, hi, rfl, rfl⟩, ⟨k, hk, rfl, rfl⟩, by unfold bad at hb; simpa using hb⟩
  · rintro ⟨s, v, s', v', ⟨i, hi, rfl, rfl⟩, ⟨k, hk, rfl, rfl⟩, hc⟩
    cases hf : firstBad f d with
    | some p => rfl
    | none =>
      have := first_none_iff.1 hf i hi k hk
      unfold bad at this
      rw [hc] at this; cases this
theorem least {p : Nat → Prop} : ∀ n, p n → ∃ m, p m ∧ m ≤ n ∧ ∀ k, p k → m ≤ k := by
  intro n
  induction n using Nat.strongRecOn with
  | ind n ih =>
    intro h
    by_cases h2 : ∃ k, k < n ∧ p k
    · obtain ⟨k, hk, hp⟩ := h2
      obtain ⟨m, h3, h4, h5⟩ := ih k hk hp
      exact ⟨m, h3, by omega, h5⟩
    · exact ⟨n, h, Nat.le_refl _, fun k hk => by
        rcases Nat.lt_or_ge k n with h3 | h3
        · exact absurd ⟨k, h3, hk⟩ h2
        · exact h3⟩
/-! ### A machine more -/
end Wv
end Go.Proofs.YtjlgmoemnhmgmaaGreatDoor
namespace Go.Proofs.YtjlgmoemnhmgmaaGreatDoor
set_option linter.unusedVariables false
set_option linter.unusedSimpArgs false

namespace Wv
theorem runL_pre {f : FL} {q : Int} {h : List Int} : ∀ {ws : List Wave} {d : List Bool} {mo m : List Int} {c : Int}, runL f q h ws d mo = (m, c) → mo.length ≤ m.length ∧ m.take mo.length = mo
  | [], d, mo, m, c, e => by
    unfold runL at e
    injection e with e1 e2
    subst e1
    exact ⟨Nat.le_refl _, List.take_length⟩
  | w :: r, d, mo, m, c, e => by
    unfold runL at e
    split at e
    · injection e with e1 e2; subst e1; exact ⟨Nat.le_refl _, List.take_length⟩
    · split at e
      · injection e with e1 e2; subst e1; exact ⟨Nat.le_refl _, List.take_length⟩
      · split at e
        · injection e with e1 e2; subst e1; exact ⟨Nat.le_refl _, List.take_length⟩
        · obtain ⟨h1, h2⟩ := runL_pre e
          rw [List.length_append, List.length_singleton] at h1 h2
          refine ⟨by omega, ?_⟩
          have := congrArg (List.take mo.length) h2
          rwa [List.take_take, Nat.min_eq_left (by omega), List.take_left' rfl] at this
theorem runL_take {f : FL} {q : Int} {h : List Int} : ∀ {ws : List Wave} {d : List Bool} {mo m : List Int} (i : Nat), runL f q h ws d mo = (m, 0) → i ≤ ws.length → runL f q h (ws.take i) d mo = (m.take (mo.length + i), 0)
  | ws, d, mo, m, 0, e, hi => by
    rw [List.take_zero, Nat.add_zero, (runL_pre e).2]; rfl
  | [], d, mo, m, i + 1, e, hi => by simp at hi
  | w :: r, d, mo, m, i + 1, e, hi => by
    rw [List.take_succ_cons]
    unfold runL at e ⊢
    split at e
    · injection e with e1 e2; cases e2
    · rename_i h1
      rw [if_neg h1]
      split at e
      · injection e with e1 e2; cases e2
      · rename_i h2
        rw [if_neg h2]
        split at e
        · injection e with e1 e2; cases e2
        · rename_i h3
          rw [if_neg h3, runL_take i e (by simpa using hi), List.length_append, List.length_singleton]
          congr 2; omega
/-! ### Formats that are read both ways -/
end Wv
end Go.Proofs.YtjlgmoemnhmgmaaGreatDoor
