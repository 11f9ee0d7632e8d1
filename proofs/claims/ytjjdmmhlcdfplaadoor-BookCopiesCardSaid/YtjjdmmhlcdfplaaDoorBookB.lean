/- The contract of the book's Append. -/
import Derived.Test.YtjjdmmhlcdfplaaDoorBookA
namespace Go.Proofs.YtjjdmmhlcdfplaaDoor
open Go.RowKit
open Go.Maps (Keyed)
set_option linter.unusedVariables false
set_option linter.unusedSimpArgs false
attribute [local irreducible] Calls

theorem infoStr' : (Tryd.prog.info? tStr).map (fun i => (i.zero, i.size, i.bytes)) = some (some (.string ⟨#[]⟩), 1, 16) := by kernel_rfl
theorem key_len (t : List UInt8) : (Cl.key t).1.length ≤ t.length := by
  cases h : Cl.key t with
  | mk k ok =>
    cases ok with
    | false =>
      have : k = [] := by
        unfold Cl.key at h
        split at h
        · simp at h
        · simp at h; exact h
      subst this
      exact Nat.zero_le _
    | true =>
      obtain ⟨r, e⟩ : ∃ r, t = Wire.textE k ++ r := by
        unfold Cl.key at h
        split at h
        · rename_i k' r e
          obtain rfl : k' = k := by simpa using h
          exact ⟨r, Wire.rText_inv e⟩
        · simp at h
      show k.length ≤ t.length
      rw [e]; simp only [Wire.textE, List.length_append]; omega
def AppendPost (B : Nat) (r : BookR) (rb : Nat) (b : Bk.Book) (t : List UInt8) (w : World) (e : Ending) (w' : World) : Prop :=
  ∃ r', e = .returned (.tuple #[.int .i64 (Bk.append b t).1.1, .int .i64 (Bk.append b t).1.2]) ∧ BookAt B w' r' rb (Bk.append b t).2 ∧ r'.bb = r.bb ∧ Upd r.foot w w' ∧ ∀ j, r'.foot j → r.foot j ∨ w.heap.size ≤ j
/-- The map behind 'if _, there := b.first[key]; !there { b.first[key] = n }'. -/
theorem first_there {es : List (List UInt8)} {t : List UInt8} {i : Nat} (h : ((Cl.key t).1, i) ∈ Bk.firstL es) : mapF (es ++ [t]) = mapF es := by
  unfold mapF; rw [Bk.first_snoc, Bk.addF, if_pos (Bk.any_key.2 ⟨i, h⟩)]
theorem first_new {es : List (List UInt8)} {t : List UInt8} (h : ∀ i, ((Cl.key t).1, i) ∉ Bk.firstL es) : mapF (es ++ [t]) = mapF es ++ [(strB (Cl.key t).1, .int .i64 es.length)] := by
  unfold mapF
  rw [Bk.first_snoc, Bk.addF, if_neg (fun e => by obtain ⟨i, hi⟩ := Bk.any_key.1 e; exact h i hi), List.map_append]; rfl
/-- What the store of the new slice into the book leaves. -/
theorem book_done {B rb gg cap2 : Nat} {r : BookR} {b : Bk.Book} {t : List UInt8} {w w3 w4 : World} (h : BookAt B w r rb b) (hBw : B ≤ w.heap.size) (u3 : Upd (· = r.fb) w w3) (hm : MapL Tryd.prog tStr w3 r.fb (mapF (b.es ++ [t])))
    (hown : w4.ownsRow B tStr 1 (.slice (some ⟨gg, 0, none⟩) (b.es.length + 1) cap2) (b.es.length + 1) (b.es.map strB ++ [strB t])) (o : Obj) (hgrow : (w3.alloc o).grownBy w4 r.ev.ownBlock) (hat : r.ev.ownBlock = some gg ∨ gg = w3.heap.size + 1)
    (hk : (Cl.key t).2 = true) (ht : t.length ≤ 20000) (hl : b.es.length < 200000) :
    w4.cell? ⟨r.bb, 2, none⟩ = some r.ev ∧ w4.frozen? ⟨r.bb, 2, none⟩ = false ∧
    BookAt B (w4.setCell ⟨r.bb, 2, none⟩ (.slice (some ⟨gg, 0, none⟩) (b.es.length + 1) cap2)) ⟨r.bb, r.fb, .slice (some ⟨gg, 0, none⟩) (b.es.length + 1) cap2⟩ rb { b with es := b.es ++ [t] } ∧
    Upd r.foot w (w4.setCell ⟨r.bb, 2, none⟩ (.slice (some ⟨gg, 0, none⟩) (b.es.length + 1) cap2)) ∧ ∀ j, BookR.foot ⟨r.bb, r.fb, .slice (some ⟨gg, 0, none⟩) (b.es.length + 1) cap2⟩ j → r.foot j ∨ w.heap.size ≤ j := by
  have hnG := h.hb
  have hbb := h.bb
  have hne1 : r.ev.ownBlock ≠ some r.bb := by
    intro e
    obtain ⟨_, cs, hh⟩ := own_block h.own e
    rw [h.blk] at hh
    simp [tBook, tStr] at hh
  have hne2 : r.ev.ownBlock ≠ some r.fb := by
    intro e
    obtain ⟨_, cs, hh⟩ := own_block h.own e
    obtain ⟨es, clock, hm, _⟩ := h.map
    rw [hh] at hm
    cases hm
  have hne3 : ¬ r.bb = r.fb := by
    intro e
    obtain ⟨es, clock, hm, _⟩ := h.map
    have := h.blk
    rw [e, hm] at this
    cases this
  have hbl := lt_of_block h.blk
  have hsz := u3.size
  have hgb : gg ≠ r.bb := by
    rintro rfl
    rcases hat with e | e
    · exact hne1 e
    · omega
  have n1 := nw_alloc w3 o
  have k3 := u3.keep h.blk hne3
  have k4 := grown_keep hgrow (Nw.keep n1 k3) hne1
  have u4 : Upd r.foot w w4 := ((u3.mono (S' := r.foot) (fun k _ e => Or.inr (Or.inl e))).nw n1).grown hgrow (fun k hk => ⟨Or.inl (Or.inr (Or.inr hk)), by have := (own_block h.own hk).1; omega⟩)
  have q : Upd (fun x => x = r.bb) w4 (w4.setCell ⟨r.bb, 2, none⟩ (.slice (some ⟨gg, 0, none⟩) (b.es.length + 1) cap2)) := Upd.set1 (Upd.refl _ _) (by omega) 2 _
  refine ⟨by rw [cells_cell k4]; rfl, cells_frozen k4 2, ⟨h.hb, h.bb, h.fb, setCell_block k4 2 _, ?_, ?_, ?_, ?_, h.last, h.told, h.key⟩, u4.trans' q (fun k _ e => Or.inl e), ?_⟩
  · have := owns_upd' hown q (fun k hk e => by
      have : gg = k := by simpa [Value.ownBlock] using hk
      omega)
    simpa using this
  · obtain ⟨es, clock, hm, rr⟩ := hm
    exact ⟨es, clock, q.keep (grown_keep hgrow (Nw.keep n1 hm) hne2) (fun e => hne3 e.symm), rr⟩
  · intro u hu
    rcases List.mem_append.1 hu with hu | hu
    · exact h.keys u hu
    · rw [List.mem_singleton.1 hu]; exact ⟨hk, ht⟩
  · simp; omega
  · rintro j (rfl | rfl | hj)
    · exact Or.inl (Or.inl rfl)
    · exact Or.inl (Or.inr (Or.inl rfl))
    · have : gg = j := by simpa [Value.ownBlock] using hj
      subst this
      rcases hat with e | e
      · exact Or.inl (Or.inr (Or.inr e))
      · exact Or.inr (by omega)
set_option maxHeartbeats 2000000 in
set_option maxRecDepth 100000 in
theorem append_b (B : Nat) (r : BookR) (rb : Nat) (b : Bk.Book) (t : List UInt8) (w : World) (g : Gl w) (h : BookAt B w r rb b) (hB : B ≤ w.heap.size) (ht : t.length ≤ 140737488351232) :
    Calls Tryd.prog 22 #[.pointer (some ⟨r.bb, 0, none⟩), .string ⟨t.toArray⟩] w (AppendPost B r rb b t w) := by
  obtain ⟨a, cap, hev⟩ := h.slice
  obtain ⟨i0, hi0, hz0, hz1, hz2⟩ := info_parts infoStr'
  have Hlen := Lib.hid h.len
  have hap : Bk.append b t = (if (Cl.key t).2 = false then (((0 : Int), (2 : Int)), b)
    else if 20000 < t.length then ((0, 3), b)
    else if 200000 ≤ b.es.length then ((0, 6), b)
    else (((b.es.length : Int), 0), { b with es := b.es ++ [t] }) : (Int × Int) × Bk.Book) := rfl
  have Hap := Lib.hid hap; clear hap
  have hne3 : ¬ r.bb = r.fb := by
    intro e
    obtain ⟨es, clock, hm, _⟩ := h.map
    have := h.blk
    rw [e, hm] at this
    cases this
  have hnf : ∀ k, r.ev.ownBlock = some k → ¬ k = r.fb := by
    rintro k hk rfl
    obtain ⟨_, cs, hh⟩ := own_block h.own hk
    obtain ⟨es, clock, hm, _⟩ := h.map
    rw [hh] at hm
    cases hm
  have Hev := Lib.hid hev; clear hev
  have hgf : nG ≤ r.fb := Nat.le_trans h.hb h.fb
  have hkl : (Cl.key t).1.length ≤ t.length := key_len t
  go_enter Tryd.func22, Tryd.ntmps22
  go_wp2_with fail
  (with_reducible refine (key_c ⟨t.toArray⟩ t (bs_list _) (by omega) _ g).mono ?_)
  rintro _ w1 ⟨rfl, u1⟩
  have h1 := h.nw u1
  have hB1 : B ≤ w1.heap.size := Nat.le_trans hB u1.size
  clear g
  cases hok : (Cl.key t).2 with
  | false =>
    have hr : Hid (Bk.append b t = ((0, 2), b)) := by show _ = _; rw [Hap.out, if_pos hok]
    clear hok
    go_wp2_with fail
    go_ret2
    exact ⟨r, by rw [hr.out]; rfl, by rw [hr.out]; exact h1, rfl, u1.mono (fun _ _ s => s.elim), fun j hj => Or.inl hj⟩
  | true =>
  by_cases ht1 : 20000 < t.length
  · have hr : Hid (Bk.append b t = ((0, 3), b)) := by show _ = _; rw [Hap.out, if_neg (by rw [hok]; simp), if_pos ht1]
    clear hok
    go_wp2_with fail
    go_ret2
    exact ⟨r, by rw [hr.out]; rfl, by rw [hr.out]; exact h1, rfl, u1.mono (fun _ _ s => s.elim), fun j hj => Or.inl hj⟩
  have ht2 : t.length ≤ 20000 := by omega
  have c2 : w1.cell? ⟨r.bb, 2, none⟩ = some (.slice a b.es.length cap) := by rw [h1.cells.2.2.1, Hev.out]
  by_cases hl : 200000 ≤ b.es.length
  · have hr : Hid (Bk.append b t = ((0, 6), b)) := by show _ = _; rw [Hap.out, if_neg (by rw [hok]; simp), if_neg ht1, if_pos hl]
    clear hok
    have hl2 : (200000 : Int) ≤ (b.es.length : Int) := by omega
    clear hl
    go_wp2_with fail
    go_ret2
    exact ⟨r, by rw [hr.out]; rfl, by rw [hr.out]; exact h1, rfl, u1.mono (fun _ _ s => s.elim), fun j hj => Or.inl hj⟩
  have hl3 : b.es.length < 200000 := by omega
  have Hl2 := Lib.hid hl3; clear hl3
  have hd0 : decide ((200000 : Int) ≤ (b.es.length : Int)) = false := decide_eq_false (by omega)
  have hr : Hid (Bk.append b t = (((b.es.length : Int), (0 : Int)), { b with es := b.es ++ [t] })) := by show _ = _; rw [Hap.out, if_neg (by rw [hok]; simp), if_neg ht1, if_neg hl]
  have c3 := h1.cells.2.2.2.1
  clear hl
  rcases h1.look (Cl.key t).1 (by omega) with ⟨i, hi, hrun⟩ | ⟨hno, hrun⟩
  · have hm3 : MapL Tryd.prog tStr w1 r.fb (mapF (b.es ++ [t])) := by rw [first_there hi]; exact h1.map
    have u3 : Upd (· = r.fb) w1 w1 := Upd.refl _ _
    have hok' := Lib.hid hok
    have hev := Hev.out
    have Hrun := Lib.hid hrun; clear hrun
    have c2 : w1.cell? ⟨r.bb, 2, none⟩ = some (.slice a b.es.length cap) := by rw [cells_cell (u3.keep h1.blk hne3)]; show some r.ev = _; rw [hev]
    have o3 : w1.ownsRow B tStr 1 (.slice a b.es.length cap) b.es.length (b.es.map strB) := by rw [← hev]; exact owns_upd' h1.own u3 hnf
    have hs3 := u3.size
    have HEV := Lib.hid hev
    clear hev
    go_wp2_with (first | (at_lookup; refine wpList_lookL rfl _ _ 80 true rfl _ _ _ rfl rfl Hrun.out ?_) | fail | (at_builtin; refine wpList_append_lies _ rfl _ _ _ rfl B tStr i0 _ 1 16 Tryd.underlying46 hi0 hz0 hz1 hz2 rfl (by omega) _ _ _ rfl (o3.alloc _) ⟨w1.heap.size, 0, none⟩ 1 1 [strB t] rfl rfl ?c0 ?c1 (by omega) ?c2 ?c3 ?c4 (w1.heap.size + 1) (by simp) ?_))
    case c0 => exact World.news_of_block (cs := #[strB t]) (t := tStr) (fr := (0, 0)) (heap_new w1 _)
    case c1 => intro u hu; rw [List.mem_singleton.1 hu]; rfl
    case c2 => have := Hl2.out; unfold maxLen; omega
    case c3 => have := Hl2.out; omega
    case c4 => simp; omega
    intro gg cap2 w4 hown4 hgrow hat hlt4
    have hd := book_done (cap2 := cap2) (o := .cells #[strB t] tStr) h1 hB1 u3 hm3 hown4 (by rw [HEV.out]; exact hgrow) (by rw [HEV.out]; exact hat) hok ht2 (by have := Hl2.out; omega)
    rw [HEV.out] at hd
    obtain ⟨d1, d2, d3, d4, d5⟩ := hd
    have D3 := Lib.hid d3
    have D4 := Lib.hid d4
    have D5 := Lib.hid d5
    clear d3 d4 d5 hown4 hgrow hat hlt4 c2 o3
    go_wp2_with fail
    go_ret2
    refine ⟨⟨r.bb, r.fb, .slice (some ⟨gg, 0, none⟩) (b.es.length + 1) cap2⟩, by rw [hr.out]; rfl, by rw [hr.out]; exact D3.out, rfl, Nw.trans u1 D4.out, fun j hj => (D5.out j hj).imp id (fun e => by have := u1.size; omega)⟩
  · obtain ⟨w3, hst, hm3', u3⟩ := h1.map.store_new strKeyed Tryd.underlying80 hgf (key := strB (Cl.key t).1) (WideMaps.keyOf_string_mk Tryd.underlying9 (by rw [bs_size, bs_list]; unfold maxLen; omega)) (fun p hp e => by
      obtain ⟨k2, i, hi, rfl⟩ := mapF_mem.1 hp
      rw [strB_inj e] at hi
      exact hno i hi) (.int .i64 b.es.length)
    have hm3 : MapL Tryd.prog tStr w3 r.fb (mapF (b.es ++ [t])) := by rw [first_new hno]; exact hm3'
    dsimp only [strB] at hst
    clear hm3'
    have hev := Hev.out
    have Hrun := Lib.hid hrun; clear hrun
    have Hst := Lib.hid hst; clear hst
    have c2 : w3.cell? ⟨r.bb, 2, none⟩ = some (.slice a b.es.length cap) := by rw [cells_cell (u3.keep h1.blk hne3)]; show some r.ev = _; rw [hev]
    have o3 : w3.ownsRow B tStr 1 (.slice a b.es.length cap) b.es.length (b.es.map strB) := by rw [← hev]; exact owns_upd' h1.own u3 hnf
    have hs3 := u3.size
    have HEV := Lib.hid hev
    clear hev
    go_wp2_with (first | (at_lookup; refine wpList_lookL rfl _ _ 80 true rfl _ _ _ rfl rfl Hrun.out ?_) | (at_mapUpdate; refine wpList_storeL rfl _ _ _ 80 rfl _ _ _ rfl rfl rfl Hst.out ?_) | (at_builtin; refine wpList_append_lies _ rfl _ _ _ rfl B tStr i0 _ 1 16 Tryd.underlying46 hi0 hz0 hz1 hz2 rfl (by omega) _ _ _ rfl (o3.alloc _) ⟨w3.heap.size, 0, none⟩ 1 1 [strB t] rfl rfl ?c0 ?c1 (by omega) ?c2 ?c3 ?c4 (w3.heap.size + 1) (by simp) ?_))
    case c0 => exact World.news_of_block (cs := #[strB t]) (t := tStr) (fr := (0, 0)) (heap_new w3 _)
    case c1 => intro u hu; rw [List.mem_singleton.1 hu]; rfl
    case c2 => have := Hl2.out; unfold maxLen; omega
    case c3 => have := Hl2.out; omega
    case c4 => simp; omega
    intro gg cap2 w4 hown4 hgrow hat hlt4
    have hd := book_done (cap2 := cap2) (o := .cells #[strB t] tStr) h1 hB1 u3 hm3 hown4 (by rw [HEV.out]; exact hgrow) (by rw [HEV.out]; exact hat) hok ht2 (by have := Hl2.out; omega)
    rw [HEV.out] at hd
    obtain ⟨d1, d2, d3, d4, d5⟩ := hd
    have D3 := Lib.hid d3
    have D4 := Lib.hid d4
    have D5 := Lib.hid d5
    clear d3 d4 d5 hown4 hgrow hat hlt4 c2 o3
    go_wp2_with fail
    go_ret2
    refine ⟨⟨r.bb, r.fb, .slice (some ⟨gg, 0, none⟩) (b.es.length + 1) cap2⟩, by rw [hr.out]; rfl, by rw [hr.out]; exact D3.out, rfl, Nw.trans u1 D4.out, fun j hj => (D5.out j hj).imp id (fun e => by have := u1.size; omega)⟩
end Go.Proofs.YtjjdmmhlcdfplaaDoor
