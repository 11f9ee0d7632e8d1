/- The contract of the mirror's Answer. -/
import Derived.Test.YtagmlemlagbfkaaGreatDoorPkMTells15
import Derived.Test.YtagmlemlagbfkaaGreatDoorPkMTells16
namespace Go.Proofs.YtagmlemlagbfkaaGreatDoor
open Go.RowKit
set_option linter.unusedVariables false
set_option linter.unusedSimpArgs false
attribute [local irreducible] Calls

abbrev tAns : TypeId := 44
theorem ans_results {w : World} {b1 : Nat} {tmps : Array Value} {v0 v1 v2 : Value} {T : TypeId} {fz : Nat × Nat} (h : w.heap[b1]? = some (.cells #[v0, v1, v2] T fz)) (ht : tmps.getD 4 undef = .pointer (some ⟨b1, 0, none⟩)) :
    (results Tryz.f13 tmps).run Tryz.prog w = .ok (.agg #[v0, v1, v2]) w := by
  have c0 : w.cell? ⟨b1, 0, none⟩ = some v0 := by rw [cells_cell h]; rfl
  have c1 : w.cell? ⟨b1, 1, none⟩ = some v1 := by rw [cells_cell h]; rfl
  have c2 : w.cell? ⟨b1, 2, none⟩ = some v2 := by rw [cells_cell h]; rfl
  clear h
  have ht2 : tmps[4]?.getD undef = .pointer (some ⟨b1, 0, none⟩) := by simpa using ht
  clear ht
  simp [results, Tryz.results13, go_sem, ht2, c0, c1, c2]
/-- What Answer returns. -/
def AnsTo (w : World) (x : Mi.Ans) (e : Ending) (w' : World) : Prop := ∃ v', e = .returned (.agg #[v', .string ⟨x.text.toArray⟩, .bool x.has]) ∧ w'.ownsRow w.heap.size tSigned 3 v' x.claims.length (flatS x.claims) ∧ Nw w w'
theorem ans_out {w w' : World} {b1 : Nat} {a : Act} {v0 v1 v2 : Value} {T : TypeId} {fz : Nat × Nat} {x : Mi.Ans} (h : w'.heap[b1]? = some (.cells #[v0, v1, v2] T fz)) (ht : a.tmps.getD 4 undef = .pointer (some ⟨b1, 0, none⟩)) (hd : a.defers = [])
    (e1 : v1 = .string ⟨x.text.toArray⟩) (e2 : v2 = .bool x.has) (ho : w'.ownsRow w.heap.size tSigned 3 v0 x.claims.length (flatS x.claims)) (u : Nw w w') : bodyPost Tryz.prog Tryz.f13 (AnsTo w x) .ret a w' :=
  bodyPost_ret (ans_results h ht) hd ⟨v0, by rw [e1, e2], ho, u⟩
/-- One signature of an own row is forged. -/
theorem own_forge {B : Nat} {w : World} {a : Option Addr} {cap : Nat} {s : Bk.Sgn} (h : w.ownsRow B tSigned 3 (.slice a 1 cap) 1 (flatS [s])) (hg : nG ≤ B) :
    ∃ g, a = some ⟨g, 0, none⟩ ∧ B ≤ g ∧ w.frozen? ⟨g, 1, none⟩ = false ∧ (w.cell? ⟨g, 0, none⟩ = some (.int .i64 s.key) ∧ w.cell? ⟨g, 1, none⟩ = some (.string ⟨s.text.toArray⟩) ∧ w.cell? ⟨g, 2, none⟩ = some (.int .i64 s.mark)) ∧
      (w.setCell ⟨g, 1, none⟩ (.string ⟨(s.text ++ [120]).toArray⟩)).ownsRow B tSigned 3 (.slice a 1 cap) 1 (flatS [Mi.forge s]) ∧ Upd (fun k => k = g) w (w.setCell ⟨g, 1, none⟩ (.string ⟨(s.text ++ [120]).toArray⟩)) := by
  rcases h.2 with ⟨h1, h2⟩ | ⟨g, cap', cur, h1, hb, hgb, hc, hm, hsz, htk⟩
  · cases h2
  · simp only [Value.slice.injEq, true_and] at h1
    obtain ⟨rfl, rfl⟩ := h1
    have e : flatS [s] = [.int .i64 s.key, .string ⟨s.text.toArray⟩, .int .i64 s.mark] := by simp [flatS, sgl]
    rw [e] at htk
    have hcell : ∀ j, j < 3 → cur[j]? = ([.int .i64 s.key, .string ⟨s.text.toArray⟩, .int .i64 s.mark] : List Value)[j]? := fun j hj => by
      rw [← htk, List.getElem?_take, if_pos (by omega)]
      simp
    have b3 := setCell_block hgb 1 (.string ⟨(s.text ++ [120]).toArray⟩)
    refine ⟨g, rfl, hb, cells_frozen hgb 1, ⟨?_, ?_, ?_⟩, ⟨by simp [flatS, sgl], Or.inr ⟨g, cap, _, rfl, hb, b3, hc, hm, by simpa using hsz, ?_⟩⟩, Upd.set1 (Upd.refl _ _) (by omega) 1 _⟩
    · rw [cells_cell hgb, hcell 0 (by omega)]; rfl
    · rw [cells_cell hgb, hcell 1 (by omega)]; rfl
    · rw [cells_cell hgb, hcell 2 (by omega)]; rfl
    · have hs3 : 3 ≤ cur.size := by
        have := congrArg List.length htk
        simp at this; omega
      have e2 : flatS [Mi.forge s] = [.int .i64 s.key, .string ⟨(s.text ++ [120]).toArray⟩, .int .i64 s.mark] := by simp [flatS, sgl, Mi.forge]
      rw [e2]
      refine List.ext_getElem? fun j => ?_
      rw [List.getElem?_take]
      by_cases hj : j < 3
      · rw [if_pos (by omega), Array.getElem?_toList, Array.getElem?_setIfInBounds]
        obtain rfl | rfl | rfl : j = 0 ∨ j = 1 ∨ j = 2 := by omega
        · rw [if_neg (by decide), hcell 0 (by omega)]; rfl
        · rw [if_pos rfl, if_pos (by omega)]; rfl
        · rw [if_neg (by decide), hcell 2 (by omega)]; rfl
      · rw [if_neg (by omega)]
        rw [List.getElem?_eq_none (by simp; omega)]
theorem own_caps {B sz : Nat} {e : TypeId} {w : World} {v : Value} {n : Nat} {xs : List Value} (h : w.ownsRow B e sz v n xs) {a : Option Addr} {c : Nat} (hv : v = .slice a n c) : n ≤ c ∧ c ≤ maxLen ∧ (a = none ∨ ∃ b off, a = some ⟨b, off, none⟩) := by
  subst hv
  rcases h.2 with ⟨h1, h2⟩ | ⟨g, cap', cur, h1, _, _, h2, h3, _⟩
  · simp only [Value.slice.injEq] at h1
    obtain ⟨rfl, _, rfl⟩ := h1
    exact ⟨by omega, Nat.zero_le _, Or.inl rfl⟩
  · simp only [Value.slice.injEq, true_and] at h1
    obtain ⟨rfl, rfl⟩ := h1
    exact ⟨h2, h3, Or.inr ⟨_, _, rfl⟩⟩
theorem sl_told {lo hi : Nat} {w : World} {a : Option Addr} {c : Nat} {L : List (List UInt8)} (h : Sl lo hi w (.slice a L.length c) (L.map bsM)) (mode : Int) : Sl lo hi w (.slice a (Mi.told mode L).length c) ((Mi.told mode L).map bsM) := by
  by_cases hT : Mi.told mode L = []
  · rw [hT]; exact Or.inl ⟨_, _, rfl, rfl⟩
  · have hl := Mi.told_len mode L
    have hp := List.length_pos_iff.2 hT
    rcases h with ⟨a', c', e, hn⟩ | ⟨b, off, cap, e, h2, h3, h4, h5, h6, h7⟩
    · rw [List.map_eq_nil_iff] at hn
      refine absurd ?_ hT
      rw [hn]
      unfold Mi.told
      split <;> rfl
    · rw [List.length_map] at e h2
      simp only [Value.slice.injEq, true_and] at e
      obtain ⟨rfl, rfl⟩ := e
      refine Or.inr ⟨b, off, c, by rw [List.length_map], by rw [List.length_map]; omega, h3, h4, h5, h6, fun i hi => ?_⟩
      rw [List.length_map] at hi
      rw [h7 i (by rw [List.length_map]; omega), List.getElem?_map, List.getElem?_map]
      unfold Mi.told at hi ⊢
      split at hi
      · rw [if_pos (by assumption), List.getElem?_take, if_pos (by rw [List.length_take] at hi; omega)]
      · rw [if_neg (by assumption)]
theorem textC_len {L : List (List UInt8)} {n : Nat} (h : ∀ s ∈ L, s.length ≤ n) (i : Int) : (Mi.textC L i).1.length ≤ n := by
  unfold Mi.textC
  split
  · exact Nat.zero_le _
  · dsimp only
    rw [List.getD_eq_getElem?_getD]
    cases e : L[i.toNat]? with
    | none => exact Nat.zero_le _
    | some s => exact h s (List.mem_of_getElem? e)
section
variable {B : Nat} {w : World} {x : MirR} {m : Mi.Mir}
/-- The state behind the first part: a in the block ab, the result's box rb. -/
structure AnsSt (w wt : World) (rb ab : Nat) (v : Value) (l : List Bk.Sgn) (t : List UInt8) (has : Bool) : Prop where
  nw : Nw w wt
  hrb : w.heap.size ≤ rb
  hab : w.heap.size ≤ ab
  ne : rb ≠ ab
  rblk : ∃ v0 v1 v2, wt.heap[rb]? = some (.cells #[v0, v1, v2] tAns (0, 0))
  ablk : wt.heap[ab]? = some (.cells #[v, .string ⟨t.toArray⟩, .bool has] tAns (0, 0))
  own : wt.ownsRow w.heap.size tSigned 3 v l.length (flatS l)
theorem AnsSt.far {w wt : World} {rb ab : Nat} {v : Value} {l : List Bk.Sgn} {t : List UInt8} {has : Bool} (h : AnsSt w wt rb ab v l t has) {k : Nat} (hk : v.ownBlock = some k) : k ≠ rb ∧ k ≠ ab := by
  obtain ⟨_, cs, e⟩ := own_block h.own hk
  obtain ⟨v0, v1, v2, e2⟩ := h.rblk
  constructor
  · rintro rfl
    rw [e] at e2
    injection e2 with e2
    injection e2 with _ e2
    exact absurd e2 (by decide)
  · rintro rfl
    have e3 := h.ablk
    rw [e] at e3
    injection e3 with e3
    injection e3 with _ e3
    exact absurd e3 (by decide)
/-- The end: the result's box takes what lies in a. -/
theorem AnsSt.fin {w wt : World} {rb ab : Nat} {v : Value} {l : List Bk.Sgn} {t : List UInt8} {has : Bool} (h : AnsSt w wt rb ab v l t has) (hg : nG ≤ w.heap.size) {a : Act} (ht : a.tmps.getD 4 undef = .pointer (some ⟨rb, 0, none⟩)) (hd : a.defers = []) {y : Mi.Ans} (hy : y = ⟨l, t, has⟩) :
    bodyPost Tryz.prog Tryz.f13 (AnsTo w y) .ret a (((wt.setCell ⟨rb, 0, none⟩ v).setCell ⟨rb, 1, none⟩ (.string ⟨t.toArray⟩)).setCell ⟨rb, 2, none⟩ (.bool has)) := by
  subst hy
  obtain ⟨v0, v1, v2, e2⟩ := h.rblk
  have q : Upd (fun k => k = rb) wt (((wt.setCell ⟨rb, 0, none⟩ v).setCell ⟨rb, 1, none⟩ (.string ⟨t.toArray⟩)).setCell ⟨rb, 2, none⟩ (.bool has)) := Upd.set1 (Upd.set1 (Upd.set1 (Upd.refl _ _) (Nat.le_trans hg h.hrb) 0 _) (Nat.le_trans hg h.hrb) 1 _) (Nat.le_trans hg h.hrb) 2 _
  have b3 := setCell_block (setCell_block (setCell_block e2 0 v) 1 (.string ⟨t.toArray⟩)) 2 (.bool has)
  refine ans_out b3 ht hd rfl rfl (owns_upd' h.own q (fun k hk e => (h.far hk).1 e)) (h.nw.trans' q (fun k hk e => by have := h.hrb; omega))
/-- One signature in it is forged. -/
theorem AnsSt.forged {w wt : World} {rb ab : Nat} {a : Option Addr} {cap : Nat} {s : Bk.Sgn} {t : List UInt8} {has : Bool} (h : AnsSt w wt rb ab (.slice a 1 cap) [s] t has) (hg : nG ≤ w.heap.size) :
    ∃ g, a = some ⟨g, 0, none⟩ ∧ wt.frozen? ⟨g, 1, none⟩ = false ∧ (wt.cell? ⟨g, 0, none⟩ = some (.int .i64 s.key) ∧ wt.cell? ⟨g, 1, none⟩ = some (.string ⟨s.text.toArray⟩) ∧ wt.cell? ⟨g, 2, none⟩ = some (.int .i64 s.mark)) ∧
      AnsSt w (wt.setCell ⟨g, 1, none⟩ (.string ⟨(s.text ++ [120]).toArray⟩)) rb ab (.slice a 1 cap) [Mi.forge s] t has := by
  obtain ⟨g, e1, hb, hf, hc, ho, u⟩ := own_forge h.own hg
  have hfar := h.far (k := g) (by rw [e1]; rfl)
  obtain ⟨v0, v1, v2, e2⟩ := h.rblk
  exact ⟨g, e1, hf, hc, ⟨h.nw.trans' u (fun k hk e => by omega), h.hrb, h.hab, h.ne, ⟨v0, v1, v2, u.keep e2 (Ne.symm hfar.1)⟩, u.keep h.ablk (Ne.symm hfar.2), ho⟩⟩
/-- The text is turned. -/
theorem AnsSt.text {w wt : World} {rb ab : Nat} {v : Value} {l : List Bk.Sgn} {t : List UInt8} {has : Bool} (h : AnsSt w wt rb ab v l t has) (hg : nG ≤ w.heap.size) (t' : List UInt8) : AnsSt w (wt.setCell ⟨ab, 1, none⟩ (.string ⟨t'.toArray⟩)) rb ab v l t' has := by
  have u : Upd (fun k => k = ab) wt (wt.setCell ⟨ab, 1, none⟩ (.string ⟨t'.toArray⟩)) := Upd.set1 (Upd.refl _ _) (Nat.le_trans hg h.hab) 1 _
  obtain ⟨v0, v1, v2, e2⟩ := h.rblk
  have b3 := setCell_block h.ablk 1 (.string ⟨t'.toArray⟩)
  exact ⟨h.nw.trans' u (fun k hk e => by have := h.hab; omega), h.hrb, h.hab, h.ne, ⟨v0, v1, v2, u.keep e2 h.ne⟩, b3, owns_upd' h.own u (fun k hk e => (h.far hk).2 e)⟩
theorem AnsSt.nw' {w wt z : World} {rb ab : Nat} {v : Value} {l : List Bk.Sgn} {t : List UInt8} {has : Bool} (h : AnsSt w wt rb ab v l t has) (u : Nw wt z) : AnsSt w z rb ab v l t has := by
  obtain ⟨v0, v1, v2, e2⟩ := h.rblk
  exact ⟨h.nw.trans u, h.hrb, h.hab, h.ne, ⟨v0, v1, v2, Nw.keep u e2⟩, Nw.keep u h.ablk, owns_upd' h.own u (fun _ _ e => e)⟩
theorem AnsSt.has {w wt : World} {rb ab : Nat} {v : Value} {l : List Bk.Sgn} {t : List UInt8} {has : Bool} (h : AnsSt w wt rb ab v l t has) (hg : nG ≤ w.heap.size) (b : Bool) : AnsSt w (wt.setCell ⟨ab, 2, none⟩ (.bool b)) rb ab v l t b := by
  have u : Upd (fun k => k = ab) wt (wt.setCell ⟨ab, 2, none⟩ (.bool b)) := Upd.set1 (Upd.refl _ _) (Nat.le_trans hg h.hab) 2 _
  obtain ⟨v0, v1, v2, e2⟩ := h.rblk
  have b3 := setCell_block h.ablk 2 (.bool b)
  exact ⟨h.nw.trans' u (fun k hk e => by have := h.hab; omega), h.hrb, h.hab, h.ne, ⟨v0, v1, v2, u.keep e2 h.ne⟩, b3, owns_upd' h.own u (fun k hk e => (h.far hk).2 e)⟩
theorem AnsSt.cells {w wt : World} {rb ab : Nat} {v : Value} {l : List Bk.Sgn} {t : List UInt8} {has : Bool} (h : AnsSt w wt rb ab v l t has) :
    (wt.cell? ⟨ab, 0, none⟩ = some v ∧ wt.cell? ⟨ab, 1, none⟩ = some (.string ⟨t.toArray⟩) ∧ wt.cell? ⟨ab, 2, none⟩ = some (.bool has)) ∧ (∀ i, wt.frozen? ⟨ab, i, none⟩ = false) ∧ ∀ i, wt.frozen? ⟨rb, i, none⟩ = false := by
  obtain ⟨v0, v1, v2, e2⟩ := h.rblk
  exact ⟨cell3 h.ablk, cells_frozen h.ablk, cells_frozen e2⟩
set_option maxHeartbeats 4000000 in
set_option maxRecDepth 100000 in
theorem answer_w (h : MirAt B w x m) (g : Gl w) (q : Mi.Ques) (hq : QOk q) : Calls Tryz.prog 13 #[.pointer (some ⟨x.mb, 0, none⟩), qV q] w (AnsTo w (Mi.answer m q)) := by
  have hgb := g.big
  have n1 := nw_alloc w (qObj q)
  have k1 := heap_new w (qObj q)
  have s1 : (w.alloc (qObj q)).heap.size = w.heap.size + 1 := by simp
  have n2 := nw_alloc (w.alloc (qObj q)) (.cells #[.slice none 0 0, .string ⟨#[]⟩, .bool false] tAns)
  have k2 := heap_new (w.alloc (qObj q)) (.cells #[.slice none 0 0, .string ⟨#[]⟩, .bool false] tAns)
  rw [s1] at k2
  replace k1 := n2.keep k1
  have u2 := n1.trans n2
  have s2 : ((w.alloc (qObj q)).alloc (.cells #[.slice none 0 0, .string ⟨#[]⟩, .bool false] tAns)).heap.size = w.heap.size + 2 := by simp
  obtain ⟨w1, hw1⟩ : ∃ w1, (w.alloc (qObj q)).alloc (.cells #[.slice none 0 0, .string ⟨#[]⟩, .bool false] tAns) = w1 := ⟨_, rfl⟩
  have HW1 : Hid ((w.alloc (.cells #[.int .i64 q.kind, .int .i64 q.n, .string ⟨q.text.toArray⟩] tQue)).alloc (.cells #[.slice none 0 0, .string ⟨#[]⟩, .bool false] tAns) = w1) := hw1
  rw [hw1] at k1 k2 u2 s2
  clear hw1 n1 n2 s1
  have h1 := h.nw u2
  obtain ⟨q0, q1, q2⟩ := cell3 k1
  have hfd := Lib.hid (find_w h1 (g.upd u2) q hq)
  have K1 := Lib.hid k1
  have K2 := Lib.hid k2
  have N1 := Lib.hid u2
  have H1 := Lib.hid h1
  have S2 := Lib.hid s2
  have hll := Mi.find_len m q
  have hls : Hid (∀ s ∈ Mi.find m q, SmS s) := fun s hs => by obtain ⟨i, hi, hm⟩ := Mi.find_mem hs; exact h.oks i hi s hm
  have hans0 : Hid (Mi.answer m q = if m.mode = 4 then ⟨(Mi.find m q).map Mi.forge, if (if q.kind = 3 then Mi.textC (Mi.told m.mode m.cs) q.n else ([], false)).2 then (if q.kind = 3 then Mi.textC (Mi.told m.mode m.cs) q.n else ([], false)).1 ++ [120] else (if q.kind = 3 then Mi.textC (Mi.told m.mode m.cs) q.n else ([], false)).1, (if q.kind = 3 then Mi.textC (Mi.told m.mode m.cs) q.n else ([], false)).2⟩ else ⟨Mi.find m q, (if q.kind = 3 then Mi.textC (Mi.told m.mode m.cs) q.n else ([], false)).1, (if q.kind = 3 then Mi.textC (Mi.told m.mode m.cs) q.n else ([], false)).2⟩) := by show _ = _; rfl
  have HQ := Lib.hid hq
  clear k1 k2 u2 h1 s2 h hq
  generalize Mi.find m q = l at *
  unfold qV
  go_enter Tryz.func13, Tryz.ntmps13
  go_upto_region 1 with fail
  rw [HW1.out]
  go_wp2_with fail
  (with_reducible refine (hfd.out).mono ?_)
  rintro _ w2 ⟨vl, rfl, ol, u3⟩
  obtain ⟨av, cv, rfl⟩ := own_slG ol
  have n4 := nw_alloc w2 (.cells #[.slice av l.length cv, .string ⟨#[]⟩, .bool false] tAns)
  have k4 := heap_new w2 (.cells #[.slice av l.length cv, .string ⟨#[]⟩, .bool false] tAns)
  obtain ⟨w3, hw3⟩ : ∃ w3, w2.alloc (.cells #[.slice av l.length cv, .string ⟨#[]⟩, .bool false] tAns) = w3 := ⟨_, rfl⟩
  have HW3 : Hid (w2.alloc (.cells #[.slice av l.length cv, .string ⟨#[]⟩, .bool false] tAns) = w3) := hw3
  rw [hw3] at n4 k4
  clear hw3
  have u4 := u3.trans n4
  have hsz2 : w1.heap.size ≤ w2.heap.size := u3.size
  have hs2 := S2.out
  have hst : AnsSt w w3 (w.heap.size + 1) w2.heap.size (.slice av l.length cv) l [] false := ⟨N1.out.trans u4, by omega, by omega, by omega, ⟨_, _, _, Nw.keep u4 K2.out⟩, k4, owns_upd' (owns_base ol (by omega)) n4 (fun _ _ e => e)⟩
  obtain ⟨rb, hrb⟩ : ∃ rb, w.heap.size + 1 = rb := ⟨_, rfl⟩
  obtain ⟨ab, hab⟩ : ∃ ab, w2.heap.size = ab := ⟨_, rfl⟩
  have HS3 := Lib.hid hst
  obtain ⟨q0', q1', q2'⟩ := cell3 (Nw.keep u4 K1.out)
  obtain ⟨c0, _, _, _, c4⟩ := (H1.out.nw u4).cells
  have G3 := Lib.hid (g.upd (N1.out.trans u4))
  have H3 := Lib.hid (H1.out.nw u4)
  clear hst u3 u4 n4 k4 ol q0 q1 q2 hsz2 hs2
  go_upto_region 2 with fail
  rw [HW3.out]
  rw [hrb] at HS3
  rw [hab] at HS3
  (try rw [hrb, hab])
  clear hrb hab HW1 HW3
  obtain ⟨wt, rfl⟩ : ∃ z, z = w3 := ⟨_, rfl⟩
  by_cases h3 : q.kind = 3
  · have d3 : (q.kind == 3) = true := by simp [h3]
    obtain ⟨aC, cC, eC⟩ := own_slG H3.out.cown
    have hslc := Sl.of_owns H3.out.cown
    rw [eC] at c4 hslc
    have hcl : Hid (m.cs.length ≤ 1000000 ∧ ∀ s ∈ m.cs, s.length ≤ 1000000) := ⟨H3.out.len.2, H3.out.cok⟩
    have hcap : m.cs.length ≤ cC ∧ cC ≤ maxLen ∧ (aC = none ∨ ∃ b off, aC = some ⟨b, off, none⟩) := own_caps H3.out.cown eC
    have htw := fun (z : World) (u : Nw wt z) => toldT_w x.mb m.mode aC _ _ _ (told_length m.mode m.cs) z (later_cell ⟨z, u⟩ c0) hcap.1 hcap.2.1 hcap.2.2
    have htx := fun (z : World) (u : Nw wt z) => ctext_w _ _ _ (Mi.told m.mode m.cs) z ((sl_told hslc m.mode).nw u) q.n HQ.out.n
    have Htw := Lib.hid (fun i : Later wt => htw i.1 i.nw)
    have Htx := Lib.hid (fun i : Later wt => htx i.1 i.nw)
    have htl0 : Hid ((Mi.textC (Mi.told m.mode m.cs) q.n).1.length ≤ 1000000) := textC_len (fun s hs => hcl.out.2 s (Mi.told_mem hs)) q.n
    clear htw htx hcap hslc
    generalize Mi.told m.mode m.cs = T at *
    obtain ⟨t, has, ht⟩ : ∃ (t : List UInt8) (has : Bool), Mi.textC T q.n = (t, has) := ⟨_, _, rfl⟩
    have htl : t.length ≤ 1000000 := by have := htl0.out; rw [ht] at this; exact this
    have hans : Hid (Mi.answer m q = if m.mode = 4 then ⟨l.map Mi.forge, if has then t ++ [120] else t, has⟩ else ⟨l, t, has⟩) := by
      show _ = _; rw [hans0.out, if_pos h3, ht]
    rw [ht] at Htx
    dsimp only at Htx
    have htl1 : (t.length : Int) ≤ 1000000 := by omega
    have HLs := hls
    have e1 := fun i : Later wt => later_cell i c0
    have e4 := fun i : Later wt => later_cell i c4
    have eq1 := fun i : Later wt => later_cell i q1'
    obtain ⟨⟨a0, a1, a2⟩, fa, -⟩ := HS3.out.cells
    clear hans0 ht hls htl0 htl
    have hSd : ∀ z, Nw wt z → z.cell? ⟨x.mb, 4, none⟩ = some (.slice aC m.cs.length cC) ∧ z.cell? ⟨w.heap.size, 1, none⟩ = some (.int .i64 q.n) := fun z u => ⟨later_cell ⟨z, u⟩ c4, later_cell ⟨z, u⟩ q1'⟩
    have HSd := Lib.hid hSd
    have hD := hSd wt.drew (Upd.refl _ _).drew
    clear e1 e4 eq1 c4 q1' hSd
    go_upto_region 3 with fail
    refine wp_region_H 13 (fun z => z.cell? ⟨x.mb, 4, none⟩ = some (.slice aC m.cs.length cC) ∧ z.cell? ⟨w.heap.size, 1, none⟩ = some (.int .i64 q.n)) (fun _ => True) (by kernel_rfl) ?_
    refine wpAnyH_pure (i := 0) (v := ?_) rfl (by kernel_rfl) (by kernel_rfl) (by kernel_rfl) (by kernel_rfl) (by kernel_rfl) (fun _ _ _ h => h) (by rfl) ?_ (⟨fun _ => hD, trivial⟩) ?_
    rotate_left 1
    · (intro zz; go_simp; first | done | with_reducible rfl)
    (try simp only [Act.put, List.setIfInBounds_toArray, List.set_cons_zero, List.set_cons_succ])
    refine wpAnyH_pure (i := 1) (v := ?_) rfl (by kernel_rfl) (by kernel_rfl) (by kernel_rfl) (by kernel_rfl) (by kernel_rfl) (fun _ _ _ h => h) (by rfl) ?_ (⟨fun _ => hD, trivial⟩) ?_
    rotate_left 1
    · (intro zz; go_simp; first | done | with_reducible rfl)
    (try simp only [Act.put, List.setIfInBounds_toArray, List.set_cons_zero, List.set_cons_succ])
    refine wpAnyH_pure (i := 2) (v := ?_) rfl (by kernel_rfl) (by kernel_rfl) (by kernel_rfl) (by kernel_rfl) (by kernel_rfl) (fun _ _ _ h => h) (by rfl) ?_ (⟨fun _ => hD, trivial⟩) ?_
    rotate_left 1
    · (intro zz; go_simp; first | done | with_reducible rfl)
    (try simp only [Act.put, List.setIfInBounds_toArray, List.set_cons_zero, List.set_cons_succ])
    refine wpAnyH_pure (i := 3) (v := ?_) rfl (by kernel_rfl) (by kernel_rfl) (by kernel_rfl) (by kernel_rfl) (by kernel_rfl) (fun _ _ _ h => h) (by rfl) ?_ (⟨fun _ => hD, trivial⟩) ?_
    rotate_left 1
    · (intro zz; go_simp; first | done | with_reducible rfl)
    (try simp only [Act.put, List.setIfInBounds_toArray, List.set_cons_zero, List.set_cons_succ])
    refine wpAnyH_load1 (i := 4) (v := ?_) [] rfl (by kernel_rfl) (by kernel_rfl) (by kernel_rfl) (by kernel_rfl) (by kernel_rfl) (by kernel_rfl) (fun _ _ _ h => h) (by rfl) ?_ (⟨fun _ => hD, trivial⟩) ?_
    rotate_left 1
    · (intro zz hS1 hS2; clear hS2; obtain ⟨_, _⟩ := hS1; go_simp; first | done | with_reducible rfl)
    (try simp only [Act.put, List.setIfInBounds_toArray, List.set_cons_zero, List.set_cons_succ])
    refine wpAnyH_pure (i := 6) (v := ?_) rfl (by kernel_rfl) (by kernel_rfl) (by kernel_rfl) (by kernel_rfl) (by kernel_rfl) (fun _ _ _ h => h) (by rfl) ?_ (⟨fun _ => hD, trivial⟩) ?_
    rotate_left 1
    · (intro zz; go_simp; first | done | with_reducible rfl)
    (try simp only [Act.put, List.setIfInBounds_toArray, List.set_cons_zero, List.set_cons_succ])
    refine wpAnyH_load1 (i := 7) (v := ?_) [] rfl (by kernel_rfl) (by kernel_rfl) (by kernel_rfl) (by kernel_rfl) (by kernel_rfl) (by kernel_rfl) (fun _ _ _ h => h) (by rfl) ?_ (⟨fun _ => hD, trivial⟩) ?_
    rotate_left 1
    · (intro zz hS1 hS2; clear hS2; obtain ⟨_, _⟩ := hS1; go_simp; first | done | with_reducible rfl)
    (try simp only [Act.put, List.setIfInBounds_toArray, List.set_cons_zero, List.set_cons_succ])
    refine wpAnyH_one (i := 5) (by kernel_rfl) rfl (fun K hK => ?_)
    have hC5 := Htw.out ⟨wt.drew, (Upd.refl _ wt).drew⟩
    go_simp
    (with_reducible refine (hC5).mono ?_)
    rintro _ w5 ⟨rfl, u5⟩
    have n5 : Nw wt w5 := Nw.drew' u5
    have hS5 := HSd.out w5 n5
    refine hK.out _ _ ⟨fun _ => hS5, trivial⟩ ?_
    clear hK K
    (try simp only [Act.put, List.setIfInBounds_toArray, List.set_cons_zero, List.set_cons_succ])
    refine wpAnyH_one (i := 8) (by kernel_rfl) rfl (fun K hK => ?_)
    have hC6 := Htx.out ⟨w5, n5⟩
    go_simp
    (with_reducible refine (hC6).mono ?_)
    rintro _ w6 ⟨rfl, u6⟩
    have hS6 := HSd.out w6 (n5.trans u6)
    refine hK.out _ _ ⟨fun _ => hS6, trivial⟩ ?_
    clear hK K
    (try simp only [Act.put, List.setIfInBounds_toArray, List.set_cons_zero, List.set_cons_succ])
    refine wpAnyH_pure (i := 9) (v := ?_) rfl (by kernel_rfl) (by kernel_rfl) (by kernel_rfl) (by kernel_rfl) (by kernel_rfl) (fun _ _ _ h => h) (by rfl) ?_ (⟨fun _ => hS6, trivial⟩) ?_
    rotate_left 1
    · (intro zz; go_simp; first | done | with_reducible rfl)
    (try simp only [Act.put, List.setIfInBounds_toArray, List.set_cons_zero, List.set_cons_succ])
    refine wpAnyH_pure (i := 10) (v := ?_) rfl (by kernel_rfl) (by kernel_rfl) (by kernel_rfl) (by kernel_rfl) (by kernel_rfl) (fun _ _ _ h => h) (by rfl) ?_ (⟨fun _ => hS6, trivial⟩) ?_
    rotate_left 1
    · (intro zz; go_simp; first | done | with_reducible rfl)
    (try simp only [Act.put, List.setIfInBounds_toArray, List.set_cons_zero, List.set_cons_succ])
    refine wpAnyH_pure (i := 11) (v := ?_) rfl (by kernel_rfl) (by kernel_rfl) (by kernel_rfl) (by kernel_rfl) (by kernel_rfl) (fun _ _ _ h => h) (by rfl) ?_ (⟨fun _ => hS6, trivial⟩) ?_
    rotate_left 1
    · (intro zz; go_simp; first | done | with_reducible rfl)
    (try simp only [Act.put, List.setIfInBounds_toArray, List.set_cons_zero, List.set_cons_succ])
    refine wpAnyH_pure (i := 12) (v := ?_) rfl (by kernel_rfl) (by kernel_rfl) (by kernel_rfl) (by kernel_rfl) (by kernel_rfl) (fun _ _ _ h => h) (by rfl) ?_ (⟨fun _ => hS6, trivial⟩) ?_
    rotate_left 1
    · (intro zz; go_simp; first | done | with_reducible rfl)
    (try simp only [Act.put, List.setIfInBounds_toArray, List.set_cons_zero, List.set_cons_succ])
    have st6 := HS3.out.nw' (n5.trans u6)
    have st7 := st6.text hgb t
    have st8 := st7.has hgb has
    obtain ⟨⟨_, y1, _⟩, fy, -⟩ := st6.cells
    obtain ⟨⟨_, _, y2⟩, fy7, -⟩ := st7.cells
    have fy1 := fy 1
    have fy2 := fy7 2
    have C0 : Hid (∀ z, Upd (fun k => k = ab) w6 z → z.cell? ⟨x.mb, 0, none⟩ = some (.int .i64 m.mode)) := fun z u => by
      have hb := (H3.out.nw (n5.trans u6)).blk
      have hlt := lt_of_block H3.out.blk
      have hab2 := HS3.out.ablk
      rw [cells_cell (u.keep hb (fun e => by
        have h1 := (H3.out.nw (n5.trans u6)).blk
        have h2 := st6.ablk
        rw [e] at h1
        rw [h1] at h2
        injection h2 with h2
        injection h2 with _ h2
        exact absurd h2 (by decide)))]
      rfl
    have HT := Lib.hid st8
    have c0 := C0.out _ ((Upd.set1 (Upd.refl _ w6) (Nat.le_trans hgb st6.hab) 1 (.string ⟨t.toArray⟩)).set1 (Nat.le_trans hgb st6.hab) 2 (.bool has))
    clear st6 st7 st8 fy fy7 hC6 u6 hC5 hS6 u5 n5 hS5 hD
    refine wpAnyH_one (i := 13) (by kernel_rfl) rfl (fun K hK => ?_)
    go_simp
    refine hK.out _ _ ⟨fun e => absurd (show true = false from e) (by decide), trivial⟩ ?_
    clear hK K
    (try simp only [Act.put, List.setIfInBounds_toArray, List.set_cons_zero, List.set_cons_succ])
    refine wpAnyH_pure (i := 14) (v := ?_) rfl (by kernel_rfl) (by kernel_rfl) (by kernel_rfl) (by kernel_rfl) (by kernel_rfl) (fun _ _ _ h => h) (by rfl) ?_ (⟨fun e => absurd (show true = false from e) (by decide), trivial⟩) ?_
    rotate_left 1
    · (intro zz; go_simp; first | done | with_reducible rfl)
    (try simp only [Act.put, List.setIfInBounds_toArray, List.set_cons_zero, List.set_cons_succ])
    refine wpAnyH_one (i := 15) (by kernel_rfl) rfl (fun K hK => ?_)
    go_simp
    refine hK.out _ _ ⟨fun e => absurd (show true = false from e) (by decide), trivial⟩ ?_
    clear hK K
    (try simp only [Act.put, List.setIfInBounds_toArray, List.set_cons_zero, List.set_cons_succ])
    refine wpAnyH_done (by kernel_rfl) ?_ _
    obtain ⟨wt2, hwt2⟩ : ∃ z, (w6.setCell ⟨ab, 1, none⟩ (.string ⟨t.toArray⟩)).setCell ⟨ab, 2, none⟩ (.bool has) = z := ⟨_, rfl⟩
    rw [hwt2] at HT c0 ⊢
    clear hwt2 HSd C0 HS3 y1 y2 fy1 fy2 a0 a1 a2 H3 G3 Htw Htx fa
    have htl := htl1
    clear htl1
    obtain ⟨w8, rfl⟩ : ∃ z, z = wt := ⟨_, rfl⟩
    obtain ⟨wt, rfl⟩ : ∃ z, z = wt2 := ⟨_, rfl⟩
    obtain ⟨⟨a0, a1, a2⟩, fa, fr⟩ := HT.out.cells
    have fa1 := fa 1
    have fr0 := fr 0
    have fr1 := fr 1
    have fr2 := fr 2
    obtain ⟨v0, v1, v2, er⟩ := HT.out.rblk
    obtain ⟨r0, r1, r2⟩ := cell3 er
    clear fa fr er
    by_cases h4 : m.mode = 4
    rotate_left
    · have d4 : (m.mode != 4) = true := by simp [h4]
      have hy : Hid (Mi.answer m q = ⟨l, t, has⟩) := by show _ = _; rw [hans.out, if_neg h4]
      clear h4 hans
      go_wp2_with fail
      (try simp only [Exit.inBlock, Exit.then])
      with_reducible exact HT.out.fin hgb rfl rfl hy.out
    have d4 : (m.mode != 4) = false := by simp [h4]
    have hy : Hid (Mi.answer m q = ⟨l.map Mi.forge, if has then t ++ [120] else t, has⟩) := by show _ = _; rw [hans.out, if_pos h4]
    have hI0 : Hid (AnsSt w wt rb ab (.slice av l.length cv) ((l.take 0).map Mi.forge ++ l.drop 0) t has) := by rw [List.take_zero, List.drop_zero]; exact HT.out
    clear h4 hans r0 r1 r2 fr0 fr1 fr2
    go_wp2_with fail
    go_loopw [37] (fun iv wr => ∃ k : Nat, k ≤ l.length ∧ iv = .int .i64 k ∧ Hid (AnsSt w wr rb ab (.slice av l.length cv) ((l.take k).map Mi.forge ++ l.drop k) t has)) (fun iv _ => l.length - (intOf iv).toNat)
    case atStart => exact ⟨0, Nat.zero_le _, rfl, hI0.out⟩
    case round =>
      obtain ⟨k, hk, rfl, HK⟩ := hrel
      by_cases hlt : k < l.length
      · obtain rfl : k = 0 := by omega
        obtain ⟨s, rfl⟩ : ∃ s, l = [s] := List.length_eq_one_iff.1 (by omega)
        have hst := HK.out
        simp only [List.take_zero, List.map_nil, List.nil_append, List.drop_zero] at hst
        obtain ⟨b0, fb, _⟩ := hst.cells
        obtain ⟨_, _, _⟩ := b0
        obtain ⟨gg, rfl, gf, ⟨g0, g1, g2⟩, hst2⟩ := hst.forged hgb
        have hst1 := (HLs.out s (List.mem_singleton_self _)).t
        have hst3 : (s.text.length : Int) ≤ 1000000 := by omega
        have hz : Hid (AnsSt w (wr.setCell ⟨gg, 1, none⟩ (.string ⟨(s.text ++ [120]).toArray⟩)) rb ab (.slice (some ⟨gg, 0, none⟩) [s].length cv) (([s].take 1).map Mi.forge ++ [s].drop 1) t has) := by
          simp only [List.take_succ_cons, List.take_zero, List.map_cons, List.map_nil, List.drop_succ_cons, List.drop_nil, List.append_nil]
          exact hst2
        clear hst hst2 fb hst1
        have hlt1 : (0 : Int) < ([s].length : Nat) := by simp
        go_wp2_with fail
        go_roundw
        case rel => exact ⟨1, by simp, by go_num, hz.out⟩
        case measure => simp [intOf]
      · obtain rfl : k = l.length := by omega
        have hst := HK.out
        rw [List.take_length, List.drop_length, List.append_nil] at hst
        obtain ⟨wq, rfl⟩ : ∃ z, z = wr := ⟨_, rfl⟩
        obtain ⟨⟨b0, b1, b2⟩, fb, fr⟩ := hst.cells
        have fb1 := fb 1
        have fr0 := fr 0
        have fr1 := fr 1
        have fr2 := fr 2
        obtain ⟨v0, v1, v2, er⟩ := hst.rblk
        obtain ⟨r0, r1, r2⟩ := cell3 er
        have hne1 : rb ≠ ab := hst.ne
        have hne2 : ab ≠ rb := Ne.symm hne1
        clear er
        have HS := Lib.hid hst
        clear fb fr
        cases has with
        | false =>
          have hy2 : Hid (Mi.answer m q = ⟨l.map Mi.forge, t, false⟩) := hy.out
          clear hst HK
          go_wp2_with fail
          (try simp only [Exit.inBlock, Exit.then])
          with_reducible exact HS.out.fin hgb rfl rfl hy2.out
        | true =>
          have hy2 : Hid (Mi.answer m q = ⟨l.map Mi.forge, t ++ [120], true⟩) := hy.out
          have HS2 := Lib.hid (hst.text hgb (t ++ [120]))
          obtain ⟨⟨_, _, _⟩, _, fs⟩ := HS2.out.cells
          have fs0 := fs 0
          have fs1 := fs 1
          have fs2 := fs 2
          clear hst HK fs
          go_wp2_with fail
          (try simp only [Exit.inBlock, Exit.then])
          have hE : (ByteArray.mk t.toArray ++ ByteArray.mk #[120]) = ⟨(t ++ [120]).toArray⟩ := bs_append t [120]
          rw [hE]
          with_reducible exact HS2.out.fin hgb rfl rfl hy2.out
  · have d3 : (q.kind == 3) = false := by simp [h3]
    obtain ⟨t, has, ht⟩ : ∃ (t : List UInt8) (has : Bool), t = [] ∧ has = false := ⟨_, _, rfl, rfl⟩
    have hans : Hid (Mi.answer m q = if m.mode = 4 then ⟨l.map Mi.forge, if has then t ++ [120] else t, has⟩ else ⟨l, t, has⟩) := by
      show _ = _; rw [hans0.out, if_neg h3, ht.1, ht.2]
    have HT : Hid (AnsSt w wt rb ab (.slice av l.length cv) l t has) := by rw [ht.1, ht.2]; exact HS3.out
    have htl : (t.length : Int) ≤ 1000000 := by rw [ht.1]; decide
    have HLs := hls
    clear hans0 h3 ht hls HS3
    obtain ⟨⟨a0, a1, a2⟩, fa, fr⟩ := HT.out.cells
    have fa1 := fa 1
    have fr0 := fr 0
    have fr1 := fr 1
    have fr2 := fr 2
    obtain ⟨v0, v1, v2, er⟩ := HT.out.rblk
    obtain ⟨r0, r1, r2⟩ := cell3 er
    clear fa fr er
    by_cases h4 : m.mode = 4
    rotate_left
    · have d4 : (m.mode != 4) = true := by simp [h4]
      have hy : Hid (Mi.answer m q = ⟨l, t, has⟩) := by show _ = _; rw [hans.out, if_neg h4]
      clear h4 hans
      go_wp2_with fail
      (try simp only [Exit.inBlock, Exit.then])
      with_reducible exact HT.out.fin hgb rfl rfl hy.out
    have d4 : (m.mode != 4) = false := by simp [h4]
    have hy : Hid (Mi.answer m q = ⟨l.map Mi.forge, if has then t ++ [120] else t, has⟩) := by show _ = _; rw [hans.out, if_pos h4]
    have hI0 : Hid (AnsSt w wt rb ab (.slice av l.length cv) ((l.take 0).map Mi.forge ++ l.drop 0) t has) := by rw [List.take_zero, List.drop_zero]; exact HT.out
    clear h4 hans r0 r1 r2 fr0 fr1 fr2
    go_wp2_with fail
    go_loopw [37] (fun iv wr => ∃ k : Nat, k ≤ l.length ∧ iv = .int .i64 k ∧ Hid (AnsSt w wr rb ab (.slice av l.length cv) ((l.take k).map Mi.forge ++ l.drop k) t has)) (fun iv _ => l.length - (intOf iv).toNat)
    case atStart => exact ⟨0, Nat.zero_le _, rfl, hI0.out⟩
    case round =>
      obtain ⟨k, hk, rfl, HK⟩ := hrel
      by_cases hlt : k < l.length
      · obtain rfl : k = 0 := by omega
        obtain ⟨s, rfl⟩ : ∃ s, l = [s] := List.length_eq_one_iff.1 (by omega)
        have hst := HK.out
        simp only [List.take_zero, List.map_nil, List.nil_append, List.drop_zero] at hst
        obtain ⟨b0, fb, _⟩ := hst.cells
        obtain ⟨_, _, _⟩ := b0
        obtain ⟨gg, rfl, gf, ⟨g0, g1, g2⟩, hst2⟩ := hst.forged hgb
        have hst1 := (HLs.out s (List.mem_singleton_self _)).t
        have hst3 : (s.text.length : Int) ≤ 1000000 := by omega
        have hz : Hid (AnsSt w (wr.setCell ⟨gg, 1, none⟩ (.string ⟨(s.text ++ [120]).toArray⟩)) rb ab (.slice (some ⟨gg, 0, none⟩) [s].length cv) (([s].take 1).map Mi.forge ++ [s].drop 1) t has) := by
          simp only [List.take_succ_cons, List.take_zero, List.map_cons, List.map_nil, List.drop_succ_cons, List.drop_nil, List.append_nil]
          exact hst2
        clear hst hst2 fb hst1
        have hlt1 : (0 : Int) < ([s].length : Nat) := by simp
        go_wp2_with fail
        go_roundw
        case rel => exact ⟨1, by simp, by go_num, hz.out⟩
        case measure => simp [intOf]
      · obtain rfl : k = l.length := by omega
        have hst := HK.out
        rw [List.take_length, List.drop_length, List.append_nil] at hst
        obtain ⟨wq, rfl⟩ : ∃ z, z = wr := ⟨_, rfl⟩
        obtain ⟨⟨b0, b1, b2⟩, fb, fr⟩ := hst.cells
        have fb1 := fb 1
        have fr0 := fr 0
        have fr1 := fr 1
        have fr2 := fr 2
        obtain ⟨v0, v1, v2, er⟩ := hst.rblk
        obtain ⟨r0, r1, r2⟩ := cell3 er
        have hne1 : rb ≠ ab := hst.ne
        have hne2 : ab ≠ rb := Ne.symm hne1
        clear er
        have HS := Lib.hid hst
        clear fb fr
        cases has with
        | false =>
          have hy2 : Hid (Mi.answer m q = ⟨l.map Mi.forge, t, false⟩) := hy.out
          clear hst HK
          go_wp2_with fail
          (try simp only [Exit.inBlock, Exit.then])
          with_reducible exact HS.out.fin hgb rfl rfl hy2.out
        | true =>
          have hy2 : Hid (Mi.answer m q = ⟨l.map Mi.forge, t ++ [120], true⟩) := hy.out
          have HS2 := Lib.hid (hst.text hgb (t ++ [120]))
          obtain ⟨⟨_, _, _⟩, _, fs⟩ := HS2.out.cells
          have fs0 := fs 0
          have fs1 := fs 1
          have fs2 := fs 2
          clear hst HK fs
          go_wp2_with fail
          (try simp only [Exit.inBlock, Exit.then])
          have hE : (ByteArray.mk t.toArray ++ ByteArray.mk #[120]) = ⟨(t ++ [120]).toArray⟩ := bs_append t [120]
          rw [hE]
          with_reducible exact HS2.out.fin hgb rfl rfl hy2.out
end
end Go.Proofs.YtagmlemlagbfkaaGreatDoor
