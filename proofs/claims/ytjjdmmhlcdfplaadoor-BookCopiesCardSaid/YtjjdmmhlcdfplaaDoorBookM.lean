/- The contracts of the ring's Copy and of the book's Copy. -/
import Derived.Test.YtjjdmmhlcdfplaaDoorBookH
import Derived.Test.YtjjdmmhlcdfplaaDoorMapR
import Derived.Shelf.SlMaps.Clone
namespace Go.Proofs.YtjjdmmhlcdfplaaDoor
open Go.RowKit
open Go.Maps (Keyed)
set_option linter.unusedVariables false
set_option linter.unusedSimpArgs false
attribute [local irreducible] Calls

set_option maxHeartbeats 2000000 in
set_option maxRecDepth 100000 in
theorem mclone_c (b : Nat) (l : List (Value × Value)) (w : World) (h : MapL Tryd.prog tSealed w b l) :
    Calls Tryd.prog 45 #[.map (some b)] w fun e w' => e = .returned (.map (some w.heap.size)) ∧ MapL Tryd.prog tSealed w' w.heap.size l ∧ Nw w w' := by
  obtain ⟨es, clock, hb, h1, h2, h3⟩ := h
  have hq := fun w => run_eql_map_nil_sl (P := Tryd.prog) w 75 _ _ (some b) Tryd.underlying75
  have u := nw_alloc w (.map es clock)
  have k := heap_new w (.map es clock)
  have hm : MapL Tryd.prog tSealed (w.alloc (.map es clock)) w.heap.size l := ⟨es, clock, k, h1, h2, h3⟩
  have Hm := Lib.hid hm
  clear hm k
  go_enter Tryd.func45, Tryd.ntmps45
  go_wp2_with fail
  rw [run_callFunc_extern Tryd.func58 (by kernel_rfl) (by kernel_rfl) (by kernel_rfl) (e := Extern.MapsClone.clone) (by kernel_rfl), run_maps_clone_sl w 75 hb]
  simp only [Result.andThen]
  rw [Oper.upon_value]
  go_wp2_with fail
  rw [run_typeAssert_map_sl _ 75 20 _ _ _ Tryd.underlying75]
  simp only [Result.andThen]
  rw [Oper.upon_value]
  go_wp2_with fail
  go_ret
  exact ⟨rfl, Hm.out, u⟩
theorem strB_one (l : List (List UInt8)) : ∀ u ∈ l.map strB, u.oneCell' = true := by
  intro u hu
  obtain ⟨x, _, rfl⟩ := List.mem_map.1 hu
  rfl
set_option maxRecDepth 100000 in
theorem clone_str (B : Nat) (v : Value) (L : List (List UInt8)) (w : World) (g : Gl w) (h : w.ownsRow B tStr 1 v L.length (L.map strB)) (hL : L.length ≤ 1000000) :
    Calls Tryd.prog 46 #[v] w fun e w' => ∃ v', e = .returned v' ∧ w'.ownsRow w.heap.size tStr 1 v' L.length (L.map strB) ∧ Nw w w' := by
  have hgb := g.big
  have h' := h
  have HL := Lib.hid hL; clear hL
  have hnil := fun (w : World) (a : Option Addr) (n c : Nat) => Lib.run_eql_slice_nil (P := Tryd.prog) w 46 _ a n c 0 0 Tryd.underlying46
  rcases h.2 with ⟨rfl, hn⟩ | ⟨gg, cap, cur, rfl, _, _, _⟩
  · have hn' := Lib.hid hn
    obtain rfl : L = [] := List.length_eq_zero_iff.1 hn
    clear h h' hn
    go_enter Tryd.func46, Tryd.ntmps46
    go_wp2_with fail
    go_ret
    exact ⟨_, rfl, ⟨by simp, Or.inl ⟨rfl, rfl⟩⟩, Upd.refl _ _⟩
  · have Hn := Lib.hid (h'.alloc (.cells #[] tStr))
    clear h h'
    have n1 := nw_alloc w (.cells #[] tStr)
    have o1 := owns_empty w tStr 1
    go_enter Tryd.func46, Tryd.ntmps46
    go_wp2_with (at_builtin; refine wpList_cat rfl _ _ 46 rfl w.heap.size B tStr _ 1 16 Tryd.underlying46 infoStr' rfl (by decide) _ _ _ _ _ _ rfl o1 rfl Hn.out ?c1 ?c2 ?c3 ?c4 ?_)
    case c1 => exact strB_one L
    case c2 => have := HL.out; unfold maxLen; omega
    case c3 => have := HL.out; omega
    case c4 => simp
    intro v' w2 hown hgrow hob
    have u2 : Nw w w2 := n1.grown hgrow (fun k hk => ⟨Or.inr (hob k hk).1, by have := (hob k hk).1; omega⟩)
    go_wp2_with fail
    go_ret
    refine ⟨_, rfl, ?_, u2⟩
    simpa using hown
theorem own_slice' {B sz : Nat} {e : TypeId} {w : World} {v : Value} {n : Nat} {xs : List Value} (h : w.ownsRow B e sz v n xs) : ∃ a cap, v = .slice a n cap := by
  rcases h.2 with ⟨h1, h2⟩ | ⟨g, cap, cur, h1, _⟩
  · exact ⟨none, 0, by rw [h1, h2]⟩
  · exact ⟨_, _, h1⟩
/-- The ring's Copy. -/
theorem copy_s (B : Nat) (r : RingR) (L : List Bk.Seal) (w : World) (g : Gl w) (h : RingAt B w r L) (hL : L.length ≤ 1000000) :
    Calls Tryd.prog 26 #[.pointer (some ⟨r.rb, 0, none⟩)] w fun e w' => ∃ r', e = .returned (.pointer (some ⟨r'.rb, 0, none⟩)) ∧ RingAt w.heap.size w' r' L ∧ Nw w w' := by
  have hgb := g.big
  have cG : ∀ z, Nw w z → z.cell? ⟨r.rb, 0, none⟩ = some r.ev ∧ z.cell? ⟨r.rb, 1, none⟩ = some (.map (some r.mb)) := fun z u => ⟨(h.nw u).c0, (h.nw u).c1⟩
  have sF : ∀ z, Nw w z → Calls Tryd.prog 39 #[r.ev] z fun e w' => ∃ a' c', e = .returned (.slice a' L.length c') ∧ w'.ownsRow w.heap.size tSealed 2 (.slice a' L.length c') L.length ((L.map sealL).flatten) ∧ Nw w w' ∧ Nw z w' := fun z u =>
    (clone_s B r.ev L z (g.upd u) (h.nw u).own hL).mono fun e w' ⟨v', h1, h2, h3⟩ => by
      obtain ⟨a', c', rfl⟩ := own_slice' h2
      exact ⟨a', c', h1, owns_base h2 u.size, u.trans h3, h3⟩
  have mF : ∀ z, Nw w z → Calls Tryd.prog 45 #[.map (some r.mb)] z fun e w' => ∃ m', e = .returned (.map (some m')) ∧ w.heap.size ≤ m' ∧ MapL Tryd.prog tSealed w' m' (markL L) ∧ Nw w w' ∧ Nw z w' := fun z u =>
    (mclone_c r.mb (markL L) z (h.nw u).map).mono fun e w' ⟨h1, h2, h3⟩ => ⟨_, h1, u.size, h2, u.trans h3, h3⟩
  obtain ⟨d0, d1⟩ := cG w (Upd.refl _ _)
  have CG := Lib.hid cG
  have SF := Lib.hid sF
  have MF := Lib.hid mF
  have Hnd := Lib.hid h.nd
  have Hkey := Lib.hid h.key
  clear cG sF mF
  go_enter Tryd.func26, Tryd.ntmps26
  go_wp2_with fail
  go_region_held3 (fun z => z.cell? ⟨r.rb, 0, none⟩ = some r.ev ∧ z.cell? ⟨r.rb, 1, none⟩ = some (.map (some r.mb))) (first | exact CG.out _ (by assumption) | exact CG.out _ (Upd.refl _ _).drew | exact CG.out _ (Upd.alloc (by assumption) _)) (first | (go_at_call 39; (with_reducible refine (SF.out _ (by first | exact (Upd.refl _ _).drew | assumption)).mono ?_); rintro _ w3 ⟨a', c', rfl, ho, u3, v3⟩) | (go_at_call 45; (with_reducible refine (MF.out _ (by first | exact (Upd.refl _ _).drew | assumption)).mono ?_); rintro _ w4 ⟨m', rfl, hm1, hm, u4, v4⟩))
  have n := nw_alloc w4 (.cells #[.slice a' L.length c', .map (some m')] tRing)
  have hfin : RingAt w.heap.size (w4.alloc (.cells #[.slice a' L.length c', .map (some m')] tRing)) ⟨w4.heap.size, m', .slice a' L.length c'⟩ L :=
    ⟨hgb, u4.size, hm1, heap_new w4 _, owns_upd (owns_upd ho v4 (fun _ _ _ s => s)) n (fun _ _ _ s => s), hm.nw n, Hnd.out, Hkey.out⟩
  have Hfin := Lib.hid hfin
  have u5 := Nw.trans u4 n
  clear hfin n hm ho
  go_wp2_with fail
  go_ret
  exact ⟨⟨w4.heap.size, m', .slice a' L.length c'⟩, rfl, Hfin.out, u5⟩
def bookCv (rb : Nat) (key : Int) (ev : Value) (fb : Nat) (last told : Int) : Array Value :=
  #[.pointer (some ⟨rb, 0, none⟩), .int .i64 key, ev, .map (some fb), .bool (decide (0 ≤ last)), .int .i64 (if last < 0 then 0 else last), .int .i64 told]
set_option maxHeartbeats 2000000 in
set_option maxRecDepth 100000 in
/-- The book's Copy. -/
theorem copy_b (B rb2 : Nat) (br : BookR) (rb : Nat) (b : Bk.Book) (w : World) (g : Gl w) (h : BookAt B w br rb b) :
    Calls Tryd.prog 27 #[.pointer (some ⟨br.bb, 0, none⟩), .pointer (some ⟨rb2, 0, none⟩)] w fun e w' => ∃ c, e = .returned (.pointer (some ⟨c.bb, 0, none⟩)) ∧ BookAt w.heap.size w' c rb2 b ∧ Nw w w' := by
  have hgb := g.big
  obtain ⟨a, cap, hev⟩ := h.slice
  have hmm := @run_makeMap Tryd.prog
  obtain ⟨_, _, c2, c3, _, _, _⟩ := h.cells
  rw [hev] at c2
  have n1 := nw_alloc w (.cells (bookC br rb b) tBook)
  have k1 := heap_new w (.cells (bookC br rb b) tBook)
  unfold bookC at n1 k1
  rw [hev] at n1 k1
  have h1 := h.nw n1
  have e2 := h1.cells.2.2.1
  rw [hev] at e2
  have ho1 := owns_upd h.own n1 (fun _ _ _ s => s)
  rw [hev] at ho1
  have Hev := Lib.hid hev
  clear hev
  have K1 := Lib.hid k1
  clear k1
  have cs := clone_str B (.slice a b.es.length cap) b.es _ (g.upd n1) ho1 (by have := h.len; omega)
  generalize hhd : decide (0 ≤ b.last) = hd at *
  generalize hmo : (if b.last < 0 then (0 : Int) else b.last) = mo at *
  have Hhd := Lib.hid hhd
  have Hmo := Lib.hid hmo
  clear hhd hmo
  clear ho1
  go_enter Tryd.func27, Tryd.ntmps27
  go_wp2_with fail
  (with_reducible refine (cs).mono ?_)
  rintro _ w2 ⟨v', rfl, ho2, u2⟩
  obtain ⟨a', cap', rfl⟩ := own_slice' ho2
  have K2 := Lib.hid (u2.keep K1.out)
  have h2 := h1.nw u2
  have hs2 : w.heap.size < w2.heap.size := lt_of_block K2.out
  have hbl : br.bb < w.heap.size := lt_of_block h.blk
  have hbn : ¬ br.bb = w.heap.size := by omega
  have f0 := cells_frozen K2.out 0
  have f2 := cells_frozen K2.out 2
  have f3 := cells_frozen K2.out 3
  have x0 : w2.cell? ⟨w.heap.size, 0, none⟩ = some (.pointer (some ⟨rb, 0, none⟩)) := by rw [cells_cell K2.out]; rfl
  have x2 : w2.cell? ⟨w.heap.size, 2, none⟩ = some (.slice a b.es.length cap) := by rw [cells_cell K2.out]; rfl
  have x3 : w2.cell? ⟨w.heap.size, 3, none⟩ = some (.map (some br.fb)) := by rw [cells_cell K2.out]; rfl
  have q3 : Upd (fun x => x = w.heap.size) w2 (((w2.setCell ⟨w.heap.size, 0, none⟩ (.pointer (some ⟨rb2, 0, none⟩))).setCell ⟨w.heap.size, 2, none⟩ (.slice a' b.es.length cap')).setCell ⟨w.heap.size, 3, none⟩ (.map (some w2.heap.size))) :=
    Upd.set1 (Upd.set1 (Upd.set1 (Upd.refl _ _) hgb 0 _) hgb 2 _) hgb 3 _
  have k3 : (((w2.setCell ⟨w.heap.size, 0, none⟩ (.pointer (some ⟨rb2, 0, none⟩))).setCell ⟨w.heap.size, 2, none⟩ (.slice a' b.es.length cap')).setCell ⟨w.heap.size, 3, none⟩ (.map (some w2.heap.size))).heap[w.heap.size]? = some (.cells #[.pointer (some ⟨rb2, 0, none⟩), .int .i64 b.key, .slice a' b.es.length cap', .map (some w2.heap.size), .bool hd, .int .i64 mo, .int .i64 b.told] tBook (0, 0)) :=
    setCell_block (setCell_block (setCell_block K2.out 0 (.pointer (some ⟨rb2, 0, none⟩))) 2 (.slice a' b.es.length cap')) 3 (.map (some w2.heap.size))
  have hsz : (((w2.setCell ⟨w.heap.size, 0, none⟩ (.pointer (some ⟨rb2, 0, none⟩))).setCell ⟨w.heap.size, 2, none⟩ (.slice a' b.es.length cap')).setCell ⟨w.heap.size, 3, none⟩ (.map (some w2.heap.size))).heap.size = w2.heap.size := by simp [World.setCell]
  have y4 : ((((w2.setCell ⟨w.heap.size, 0, none⟩ (.pointer (some ⟨rb2, 0, none⟩))).setCell ⟨w.heap.size, 2, none⟩ (.slice a' b.es.length cap')).setCell ⟨w.heap.size, 3, none⟩ (.map (some w2.heap.size))).alloc (.map #[] 0)).cell? ⟨br.bb, 3, none⟩ = some (.map (some br.fb)) :=
    ((h2.upd q3 (fun k hk e => by have := (h.foot_lt hk).2; omega)).nw (nw_alloc _ _)).cells.2.2.2.1
  have hm4 : MapL Tryd.prog tStr ((((w2.setCell ⟨w.heap.size, 0, none⟩ (.pointer (some ⟨rb2, 0, none⟩))).setCell ⟨w.heap.size, 2, none⟩ (.slice a' b.es.length cap')).setCell ⟨w.heap.size, 3, none⟩ (.map (some w2.heap.size))).alloc (.map #[] 0)) br.fb (mapF b.es) :=
    ((h2.upd q3 (fun k hk e => by have := (h.foot_lt hk).2; omega)).nw (nw_alloc _ _)).map
  have hc4 := MapL.made Tryd.prog tStr (((w2.setCell ⟨w.heap.size, 0, none⟩ (.pointer (some ⟨rb2, 0, none⟩))).setCell ⟨w.heap.size, 2, none⟩ (.slice a' b.es.length cap')).setCell ⟨w.heap.size, 3, none⟩ (.map (some w2.heap.size)))
  rw [hsz] at hc4
  have k4 := Nw.keep (nw_alloc _ (.map #[] 0)) k3
  have u4 : Nw w ((((w2.setCell ⟨w.heap.size, 0, none⟩ (.pointer (some ⟨rb2, 0, none⟩))).setCell ⟨w.heap.size, 2, none⟩ (.slice a' b.es.length cap')).setCell ⟨w.heap.size, 3, none⟩ (.map (some w2.heap.size))).alloc (.map #[] 0)) :=
    Nw.trans ((n1.trans u2).trans' q3 (fun j hj e => by omega)) (nw_alloc _ _)
  have o4 := owns_upd' (owns_upd' ho2 q3 (fun k hk e => by have h5 := (own_block ho2 hk).1; simp at h5; omega)) (nw_alloc _ (.map #[] 0)) (fun _ _ s => s)
  have Hx := Lib.hid hsz
  have Hm4 := Lib.hid hm4
  have Hc4 := Lib.hid hc4
  have K4 := Lib.hid k4
  have U4 := Lib.hid u4
  have O4 := Lib.hid o4
  have hO : ∀ k, w2.heap.size ≤ k → (Value.slice a' b.es.length cap').ownBlock ≠ some k := fun k hk e => by
    obtain ⟨_, cs, hh⟩ := own_block ho2 e
    have := lt_of_block hh
    omega
  have hb3 : br.fb < w.heap.size := (h.foot_lt (Or.inr (Or.inl rfl))).2
  clear cs e2 c2 c3 q3 k3 hsz hm4 hc4 k4 u4 o4 ho2 h1 h2 n1 u2 K1
  go_wp2_with (at_range; refine wpList_rangeL rfl _ 80 3 rfl Tryd.underlying80 rfl Hm4.out ?_)
  intro w5 hrg n5
  obtain ⟨rr, hrr⟩ : ∃ rr, w2.heap.size + 1 = rr := ⟨_, rfl⟩
  rw [hrr] at hrg ⊢
  have hr5 : w2.heap.size < rr := by omega
  have c5 := Hc4.out.nw n5
  have K5 := Lib.hid (Nw.keep n5 K4.out)
  have U5 := Lib.hid (Nw.trans U4.out n5)
  have O5 : Hid (w5.ownsRow w.heap.size tStr 1 (.slice a' b.es.length cap') b.es.length (b.es.map strB)) := owns_base (owns_upd' O4.out n5 (fun _ _ s => s)) (by simp)
  have Hrr := Lib.hid hrr
  clear hrr K4 U4 O4 Hc4 Hm4 n5 y4 x0 x2 x3 f0 f2 f3 K2 Hx Hrr
  go_wp2_with fail
  go_loopw [6] (fun _ wr => ∃ d, RangeL Tryd.prog tStr wr br.fb rr (mapF b.es) d ∧ MapL Tryd.prog tStr wr w2.heap.size d ∧ Hid (wr.heap[w.heap.size]? = some (.cells #[.pointer (some ⟨rb2, 0, none⟩), .int .i64 b.key, .slice a' b.es.length cap', .map (some w2.heap.size), .bool hd, .int .i64 mo, .int .i64 b.told] tBook (0, 0))) ∧ Hid (Nw w wr) ∧ Hid (wr.ownsRow w.heap.size tStr 1 (.slice a' b.es.length cap') b.es.length (b.es.map strB))) (fun _ wr => wr.rangeLeft br.fb rr)
  case atStart => exact ⟨[], hrg, c5, K5, U5, O5⟩
  case round =>
    obtain ⟨d, hrg, hc, K, U, O⟩ := hrel
    go_wp2_with (at_next; refine wpList_nextL rfl _ rfl rfl hrg ?_ ?_ ?_)
    · omega
    · intro hp
      go_wp2_with fail
      go_ret
      refine ⟨⟨w.heap.size, w2.heap.size, .slice a' b.es.length cap'⟩, rfl, ⟨hgb, Nat.le_refl _, Nat.le_of_lt hs2, ?_, O.out, hc.perm hp.symm, h.keys, h.len, h.last, h.told, h.key⟩, U.out⟩
      have hK := K.out
      rw [← Hhd.out, ← Hmo.out] at hK
      exact hK
    · intro ka va w6 hpm hno hrg6 u6 hlt hen
      obtain ⟨kk, ii, hmem, e⟩ := mapF_mem.1 hpm
      obtain ⟨kl, hkl⟩ := hrg.keyed hpm
      obtain ⟨e1, e2⟩ := Prod.mk.inj e
      subst e1 e2
      have hc6 := hc.upd u6 (by show ¬ w2.heap.size = rr; omega)
      have k6 := u6.keep K.out (by show ¬ w.heap.size = rr; omega)
      obtain ⟨w7, hst, hm7, u7⟩ := hc6.store_new strKeyed Tryd.underlying80 (by omega) hkl (fun p hp e => hno p.1 p.2 hp e) (.int .i64 ii)
      have hrg7 := hrg6.upd u7 (by show ¬ br.fb = w2.heap.size; omega) (by show ¬ rr = w2.heap.size; omega)
      have x3 : w6.cell? ⟨w.heap.size, 3, none⟩ = some (.map (some w2.heap.size)) := by rw [cells_cell k6]; rfl
      have K7 := Lib.hid (u7.keep k6 (by show ¬ w.heap.size = w2.heap.size; omega))
      have U7 := Lib.hid (((U.out : Nw w wr).trans' u6 (fun j hj e => by omega)).trans' u7 (fun j hj e => by omega) : Nw w w7)
      have O7 : Hid (w7.ownsRow w.heap.size tStr 1 (.slice a' b.es.length cap') b.es.length (b.es.map strB)) := owns_upd' (owns_upd' O.out u6 (fun k hk e => hO rr (by omega) (e ▸ hk))) u7 (fun k hk e => hO w2.heap.size (by omega) (e ▸ hk))
      dsimp only [strB] at hst hen hm7 hrg7 ⊢
      have Hst := Lib.hid hst
      have Hm7 := Lib.hid hm7
      have Hrg7 := Lib.hid hrg7
      clear hst hm7 hrg7 hc6 k6 hrg6 hrg hc K U O hno hpm hkl
      go_wp2_with (at_mapUpdate; refine wpList_storeL rfl _ _ _ 80 rfl _ _ _ rfl rfl rfl Hst.out ?_)
      go_wp2_with fail
      go_roundw
      case rel => exact ⟨_, Hrg7.out.1, Hm7.out⟩
      case measure => have := Hrg7.out.2; omega
end Go.Proofs.YtjjdmmhlcdfplaaDoor
