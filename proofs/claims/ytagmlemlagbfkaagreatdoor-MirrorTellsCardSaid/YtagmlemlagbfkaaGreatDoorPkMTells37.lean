/- The contracts of the reference's Genuine, Same and Answer (chapter 37). -/
import Derived.Test.YtagmlemlagbfkaaGreatDoorPkMTells36
import Derived.Test.YtagmlemlagbfkaaGreatDoorPkMTells34
import Derived.Deep.CutBlock
namespace Go.Proofs.YtagmlemlagbfkaaGreatDoor
open Go.RowKit
set_option linter.unusedVariables false
set_option linter.unusedSimpArgs false
attribute [local irreducible] Calls

set_option maxRecDepth 100000 in
theorem ctext_qm (lo hi : Nat) (v : Value) (l : List (List UInt8)) (w : World) (hv : Sl lo hi w v (l.map bsM)) (i : Int) (hi2 : I64 i) :
    Calls Tryz.prog 91 #[v, .int .i64 i] w fun e w' => e = .returned (.tuple #[.string ⟨(Mi.textC l i).1.toArray⟩, .bool (Mi.textC l i).2]) ∧ Nw w w' := by
  obtain ⟨a, cap, rfl, hm, hc⟩ := hv.open_
  rw [List.length_map] at hm hc ⊢
  have hl1 : (l.length : Int) ≤ 9223372036854775807 := by unfold maxLen at hm; omega
  by_cases h0 : i < 0
  · have hd : decide (i < 0) = true := decide_eq_true h0
    have hr : Hid (Mi.textC l i = ([], false)) := by show _ = _; unfold Mi.textC; rw [if_pos (Or.inl h0)]
    clear h0 hc hv
    go_enter Tryz.func91, Tryz.ntmps91
    go_wp2_with fail
    go_ret2
    exact ⟨by rw [hr.out]; rfl, Upd.refl _ _⟩
  have hd : decide (i < 0) = false := decide_eq_false h0
  by_cases h5 : (l.length : Int) ≤ i
  · have hd5 : decide ((l.length : Int) ≤ i) = true := decide_eq_true h5
    have hr : Hid (Mi.textC l i = ([], false)) := by show _ = _; unfold Mi.textC; rw [if_pos (Or.inr h5)]
    clear h0 h5 hc hv
    go_enter Tryz.func91, Tryz.ntmps91
    go_wp2_with fail
    go_ret2
    exact ⟨by rw [hr.out]; rfl, Upd.refl _ _⟩
  have hd5 : decide ((l.length : Int) ≤ i) = false := decide_eq_false h5
  obtain ⟨n, rfl⟩ : ∃ n : Nat, i = n := ⟨i.toNat, by omega⟩
  have hn : n < l.length := by omega
  have hn1 : (n : Int) < l.length := by omega
  have hr : Hid (Mi.textC l n = (l[n], true)) := by
    show _ = _; unfold Mi.textC
    rw [if_neg (by omega), Int.toNat_natCast, List.getD_eq_getElem?_getD, List.getElem?_eq_getElem hn]; rfl
  rcases hc with ⟨_, _, hnil⟩ | ⟨b, off, rfl, _, _, _, hc⟩
  · rw [List.map_eq_nil_iff] at hnil
    rw [hnil] at hn; simp at hn
  have c0 := hc n hn
  rw [List.getElem?_map, List.getElem?_eq_getElem hn] at c0
  have c1 : w.cell? ⟨b, off + n, none⟩ = some (.string ⟨(l[n]).toArray⟩) := c0
  clear h0 h5 hc c0 hv
  go_enter Tryz.func91, Tryz.ntmps91
  go_wp2_with fail
  go_ret2
  exact ⟨by rw [hr.out]; rfl, Upd.refl _ _⟩
set_option maxRecDepth 100000 in
theorem genuine_q (lo hi : Nat) (lv : Value) (cs : List (List UInt8)) (q : Mi.Ques) (hq : QOk q) (cv : Value) (t : List UInt8) (has : Bool) (claims : List Bk.Sgn) (w : World) (g : Gl w) (hl : Sl lo hi w lv (cs.map bsM)) (hcv : ∃ a k c, cv = .slice a k c) :
    Calls Tryz.prog 27 #[lv, .agg #[.int .i64 q.kind, .int .i64 q.n, .string ⟨q.text.toArray⟩], .agg #[cv, .string ⟨t.toArray⟩, .bool has]] w fun e w' => e = .returned (.bool (Mi.genuine cs q ⟨claims, t, has⟩)) ∧ Nw w w' := by
  obtain ⟨ca, ck, cc, rfl⟩ := hcv
  obtain ⟨la, lc, rfl, -⟩ := strs_cells hl
  obtain ⟨k, n, nm⟩ := q
  dsimp only
  have n1 := nw_alloc w (.cells #[.int .i64 k, .int .i64 n, .string ⟨nm.toArray⟩] tQue)
  have k1 := heap_new w (.cells #[.int .i64 k, .int .i64 n, .string ⟨nm.toArray⟩] tQue)
  have s1 : (w.alloc (.cells #[.int .i64 k, .int .i64 n, .string ⟨nm.toArray⟩] tQue)).heap.size = w.heap.size + 1 := by simp
  have n2 := nw_alloc (w.alloc (.cells #[.int .i64 k, .int .i64 n, .string ⟨nm.toArray⟩] tQue)) (.cells #[.slice ca ck cc, .string ⟨t.toArray⟩, .bool has] tAnsG)
  have k2 := heap_new (w.alloc (.cells #[.int .i64 k, .int .i64 n, .string ⟨nm.toArray⟩] tQue)) (.cells #[.slice ca ck cc, .string ⟨t.toArray⟩, .bool has] tAnsG)
  rw [s1] at k2
  replace k1 := Nw.keep n2 k1
  have nn := n1.trans n2
  obtain ⟨w2, hw2⟩ : ∃ w2, (w.alloc (.cells #[.int .i64 k, .int .i64 n, .string ⟨nm.toArray⟩] tQue)).alloc (.cells #[.slice ca ck cc, .string ⟨t.toArray⟩, .bool has] tAnsG) = w2 := ⟨_, rfl⟩
  have HW2 := Lib.hid hw2
  rw [hw2] at k1 k2 nn
  obtain ⟨b, hb⟩ : ∃ b, w.heap.size = b := ⟨_, rfl⟩
  have Hb := Lib.hid hb
  rw [hb] at k1 k2
  have HN := Lib.hid nn
  have K1 := Lib.hid k1
  have K2 := Lib.hid k2
  have htx := Lib.hid (ctext_qm lo hi _ cs w2 (hl.nw nn) n hq.n)
  obtain ⟨GB, hGB⟩ : ∃ GB, Mi.genuine cs ⟨k, n, nm⟩ ⟨claims, t, has⟩ = GB := ⟨_, rfl⟩
  rw [hGB]
  have hgn : Hid (GB = (decide (k = 3) && (has && ((Mi.textC cs n).2 && decide ((Mi.textC cs n).1 = t))))) := by show _ = _; rw [← hGB]; rfl
  clear hGB
  generalize Mi.textC cs n = X at *
  obtain ⟨T, ok⟩ := X
  dsimp only at *
  obtain ⟨a0, a1, -⟩ := cell3 k1
  clear n1 n2 s1 k1 k2 nn hw2 hb hl
  go_enter Tryz.func27, Tryz.ntmps27
  go_upto_region 1 with fail
  rw [HW2.out]
  (try rw [Hb.out])
  go_wp2_with fail
  (with_reducible refine (htx.out).mono ?_)
  rintro _ w3 ⟨rfl, u3⟩
  obtain ⟨b0, b1, -⟩ := cell3 (Nw.keep u3 K1.out)
  obtain ⟨-, b4, b5⟩ := cell3 (Nw.keep u3 K2.out)
  have HF := Lib.hid (HN.out.trans u3)
  clear htx u3 a0 a1
  by_cases hk : k = 3
  rotate_left
  · have d : (k == 3) = false := by simp [hk]
    have hz : Hid (GB = false) := by show _ = _; rw [hgn.out, decide_eq_false hk, Bool.false_and]
    clear hk
    go_wp2_with fail
    go_ret
    rw [hz.out]
    exact ⟨rfl, HF.out⟩
  have d : (k == 3) = true := by simp [hk]
  have hg2 : Hid (GB = (has && (ok && decide (T = t)))) := by show _ = _; rw [hgn.out, decide_eq_true hk, Bool.true_and]
  clear hk
  cases has with
  | false =>
    have hz : Hid (GB = false) := by show _ = _; rw [hg2.out]; rfl
    go_wp2_with fail
    go_ret
    rw [hz.out]
    exact ⟨rfl, HF.out⟩
  | true =>
    cases ok with
    | false =>
      have hz : Hid (GB = false) := by show _ = _; rw [hg2.out]; rfl
      go_wp2_with fail
      go_ret
      rw [hz.out]
      exact ⟨rfl, HF.out⟩
    | true =>
      by_cases ht : T = t
      · have dt : (T == t) = true := by simp [ht]
        have hz : Hid (GB = true) := by show _ = _; rw [hg2.out, decide_eq_true ht]; rfl
        clear ht
        go_wp2_with fail
        go_ret
        rw [hz.out]
        exact ⟨rfl, HF.out⟩
      · have dt : (T == t) = false := by simp [ht]
        have hz : Hid (GB = false) := by show _ = _; rw [hg2.out, decide_eq_false ht]; rfl
        clear ht
        go_wp2_with fail
        go_ret
        rw [hz.out]
        exact ⟨rfl, HF.out⟩
set_option maxRecDepth 100000 in
/-- Two answers with the same content are the same. -/
theorem same37_q {B1 B2 : Nat} (v1 v2 : Value) (A : Mi.Ans) (w : World) (o1 : w.ownsRow B1 tSigned 3 v1 A.claims.length (flatS A.claims)) (o2 : w.ownsRow B2 tSigned 3 v2 A.claims.length (flatS A.claims)) (hl : A.claims.length ≤ 900000) :
    Calls Tryz.prog 26 #[.agg #[v1, .string ⟨A.text.toArray⟩, .bool A.has], .agg #[v2, .string ⟨A.text.toArray⟩, .bool A.has]] w fun e w' => e = .returned (.bool true) ∧ Nw w w' := by
  obtain ⟨a1, c1, rfl⟩ := own_slG o1
  obtain ⟨a2, c2, rfl⟩ := own_slG o2
  have n1 := nw_alloc w (.cells #[.slice a1 A.claims.length c1, .string ⟨A.text.toArray⟩, .bool A.has] tAns)
  have k1 := heap_new w (.cells #[.slice a1 A.claims.length c1, .string ⟨A.text.toArray⟩, .bool A.has] tAns)
  have s1 : (w.alloc (.cells #[.slice a1 A.claims.length c1, .string ⟨A.text.toArray⟩, .bool A.has] tAns)).heap.size = w.heap.size + 1 := by simp
  have n2 := nw_alloc (w.alloc (.cells #[.slice a1 A.claims.length c1, .string ⟨A.text.toArray⟩, .bool A.has] tAns)) (.cells #[.slice a2 A.claims.length c2, .string ⟨A.text.toArray⟩, .bool A.has] tAns)
  have k2 := heap_new (w.alloc (.cells #[.slice a1 A.claims.length c1, .string ⟨A.text.toArray⟩, .bool A.has] tAns)) (.cells #[.slice a2 A.claims.length c2, .string ⟨A.text.toArray⟩, .bool A.has] tAns)
  rw [s1] at k2
  replace k1 := Nw.keep n2 k1
  have nn := n1.trans n2
  obtain ⟨w2, hw2⟩ : ∃ w2, (w.alloc (.cells #[.slice a1 A.claims.length c1, .string ⟨A.text.toArray⟩, .bool A.has] tAns)).alloc (.cells #[.slice a2 A.claims.length c2, .string ⟨A.text.toArray⟩, .bool A.has] tAns) = w2 := ⟨_, rfl⟩
  have HW2 := Lib.hid hw2
  rw [hw2] at k1 k2 nn
  have hsm := Lib.hid (same_v _ _ _ _ _ _ A.claims A.claims w2 (sgn_sls (owns_upd' o1 nn (fun _ _ e => e))) (sgn_sls (owns_upd' o2 nn (fun _ _ e => e))) hl rfl)
  obtain ⟨a0, -, -⟩ := cell3 k1
  obtain ⟨b0, -, -⟩ := cell3 k2
  have K1 := Lib.hid k1
  have K2 := Lib.hid k2
  have HN := Lib.hid nn
  clear n1 n2 s1 k1 k2 nn hw2 o1 o2
  generalize A.claims.length = cn at *
  generalize A.text = T at *
  generalize A.has = hb at *
  clear A
  go_enter Tryz.func26, Tryz.ntmps26
  go_upto_region 1 with fail
  rw [HW2.out]
  go_wp2_with fail
  (with_reducible refine (hsm.out).mono ?_)
  rintro _ w3 ⟨rfl, u3⟩
  obtain ⟨-, e1, e2⟩ := cell3 (Nw.keep u3 K1.out)
  obtain ⟨-, f1, f2⟩ := cell3 (Nw.keep u3 K2.out)
  have HF := Lib.hid (HN.out.trans u3)
  have hTT : (T == T) = true := by simp
  clear hsm u3 a0 b0
  cases hb with
  | false =>
    go_wp2_with fail
    go_ret
    exact ⟨rfl, HF.out⟩
  | true =>
    go_wp2_with fail
    go_ret
    exact ⟨rfl, HF.out⟩
/-! ### Answer -/
theorem qans_results {w : World} {b1 : Nat} {tmps : Array Value} {v0 v1 v2 : Value} {T : TypeId} {fz : Nat × Nat} (h : w.heap[b1]? = some (.cells #[v0, v1, v2] T fz)) (ht : tmps.getD 4 undef = .pointer (some ⟨b1, 0, none⟩)) :
    (results Tryz.f25 tmps).run Tryz.prog w = .ok (.agg #[v0, v1, v2]) w := by
  have c0 : w.cell? ⟨b1, 0, none⟩ = some v0 := by rw [cells_cell h]; rfl
  have c1 : w.cell? ⟨b1, 1, none⟩ = some v1 := by rw [cells_cell h]; rfl
  have c2 : w.cell? ⟨b1, 2, none⟩ = some v2 := by rw [cells_cell h]; rfl
  clear h
  have ht2 : tmps[4]?.getD undef = .pointer (some ⟨b1, 0, none⟩) := by simpa using ht
  clear ht
  simp [results, Tryz.results25, go_sem, ht2, c0, c1, c2]
theorem qans_fin {w wt : World} {rb ab : Nat} {v : Value} {l : List Bk.Sgn} {t : List UInt8} {has : Bool} (h : AnsSt w wt rb ab v l t has) (hg : nG ≤ w.heap.size) {a : Act} (ht : a.tmps.getD 4 undef = .pointer (some ⟨rb, 0, none⟩)) (hd : a.defers = []) {y : Mi.Ans} (hy : y = ⟨l, t, has⟩) :
    bodyPost Tryz.prog Tryz.f25 (AnsTo w y) .ret a (((wt.setCell ⟨rb, 0, none⟩ v).setCell ⟨rb, 1, none⟩ (.string ⟨t.toArray⟩)).setCell ⟨rb, 2, none⟩ (.bool has)) := by
  subst hy
  obtain ⟨v0, v1, v2, e2⟩ := h.rblk
  have q : Upd (fun k => k = rb) wt (((wt.setCell ⟨rb, 0, none⟩ v).setCell ⟨rb, 1, none⟩ (.string ⟨t.toArray⟩)).setCell ⟨rb, 2, none⟩ (.bool has)) := Upd.set1 (Upd.set1 (Upd.set1 (Upd.refl _ _) (Nat.le_trans hg h.hrb) 0 _) (Nat.le_trans hg h.hrb) 1 _) (Nat.le_trans hg h.hrb) 2 _
  have b3 := setCell_block (setCell_block (setCell_block e2 0 v) 1 (.string ⟨t.toArray⟩)) 2 (.bool has)
  exact bodyPost_ret (qans_results b3 ht) hd ⟨v, rfl, owns_upd' h.own q (fun k hk e => (h.far hk).1 e), h.nw.trans' q (fun k hk e => by have := h.hrb; omega)⟩
theorem lastL_succ {α : Type} (p : α → Bool) (T : List α) (j : Nat) (h : j < T.length) : ((T.take (j + 1)).reverse.find? p).toList = if p T[j] = true then [T[j]] else ((T.take j).reverse.find? p).toList := by
  rw [List.take_succ_eq_append_getElem h, List.reverse_append, List.reverse_singleton, List.singleton_append, List.find?_cons]
  cases p T[j] <;> rfl
theorem told_get {α : Type} {mode : Int} {l : List α} {j : Nat} (h : j < (Mi.told mode l).length) (h' : j < l.length) : (Mi.told mode l)[j] = l[j] := by
  unfold Mi.told
  split
  · exact List.getElem_take
  · rfl
section
variable {B : Nat} {w : World} {x : MirR} {m : Mi.Mir}
/-- What the switch leaves. -/
def AnsSw (w : World) (m : Mi.Mir) (q : Mi.Ques) (rb ab : Nat) (wx : World) : Prop := ∃ av cv, AnsSt w wx rb ab (.slice av (Mi.find m q).length cv) (Mi.find m q) (if q.kind = 3 then Mi.textC (Mi.told m.mode m.cs) q.n else ([], false)).1 (if q.kind = 3 then Mi.textC (Mi.told m.mode m.cs) q.n else ([], false)).2
theorem AnsSw.of {w wx : World} {m : Mi.Mir} {q : Mi.Ques} {rb ab : Nat} {l : List Bk.Sgn} {v : Value} (h : AnsSt w wx rb ab v l [] false) (hf : Mi.find m q = l) (h3 : q.kind ≠ 3) : AnsSw w m q rb ab wx := by
  subst hf
  obtain ⟨av, cv, rfl⟩ := own_slG h.own
  refine ⟨av, cv, ?_⟩
  rw [if_neg h3]
  exact h
theorem AnsSw.of3 {w wx : World} {m : Mi.Mir} {q : Mi.Ques} {rb ab : Nat} {t : List UInt8} {has : Bool} (h : AnsSt w wx rb ab (.slice none 0 0) [] t has) (h3 : q.kind = 3) (ht : Mi.textC (Mi.told m.mode m.cs) q.n = (t, has)) : AnsSw w m q rb ab wx := by
  have hf : Mi.find m q = [] := by unfold Mi.find; rw [if_neg (by omega), if_neg (by omega), if_neg (by omega)]
  refine ⟨none, 0, ?_⟩
  rw [if_pos h3, ht, hf]
  exact h
/-- Other claims are told. -/
theorem AnsSt.claims {w wt : World} {rb ab : Nat} {v v' : Value} {l l' : List Bk.Sgn} {t : List UInt8} {has : Bool} (h : AnsSt w wt rb ab v l t has) (hg : nG ≤ w.heap.size) (o : wt.ownsRow w.heap.size tSigned 3 v' l'.length (flatS l')) : AnsSt w (wt.setCell ⟨ab, 0, none⟩ v') rb ab v' l' t has := by
  have u : Upd (fun k => k = ab) wt (wt.setCell ⟨ab, 0, none⟩ v') := Upd.set1 (Upd.refl _ _) (Nat.le_trans hg h.hab) 0 _
  obtain ⟨v0, v1, v2, e2⟩ := h.rblk
  have b3 := setCell_block h.ablk 0 v'
  refine ⟨h.nw.trans' u (fun k hk e => by have := h.hab; omega), h.hrb, h.hab, h.ne, ⟨v0, v1, v2, u.keep e2 h.ne⟩, b3, owns_upd' o u (fun k hk e => ?_)⟩
  subst e
  obtain ⟨_, cs, e⟩ := own_block o hk
  have e3 := h.ablk
  rw [e] at e3
  injection e3 with e3
  injection e3 with _ e3
  exact absurd e3 (by decide)
theorem upd_none {w w' : World} (u : Upd (fun k => (Value.slice none 0 0).ownBlock = some k) w w') : Nw w w' := u.mono (fun k _ e => by cases e)
def lsgn (l : List Bk.Sgn) (b off i : Nat) (z : World) : Prop := ∀ h : i < l.length, z.cell? ⟨b, off + i * 3, none⟩ = some (.int .i64 l[i].key) ∧ z.cell? ⟨b, off + i * 3 + 1, none⟩ = some (.string ⟨l[i].text.toArray⟩) ∧ z.cell? ⟨b, off + i * 3 + 2, none⟩ = some (.int .i64 l[i].mark)
set_option maxHeartbeats 4000000 in
set_option maxRecDepth 100000 in
theorem answer_q (h : QMirAt B w x m) (g : Gl w) (q : Mi.Ques) (hq : QOk q) (hrd : ∀ s ∈ m.l 2, (Cl.read s.text).2 = true) : Calls Tryz.prog 25 #[.pointer (some ⟨x.mb, 0, none⟩), qV q] w (AnsTo w (Mi.answer m q)) := by
  have hgb := g.big
  have n1 := nw_alloc w (qObj q)
  have k1 := heap_new w (qObj q)
  have s1 : (w.alloc (qObj q)).heap.size = w.heap.size + 1 := by simp
  have n2 := nw_alloc (w.alloc (qObj q)) (.cells #[.slice none 0 0, .string ⟨#[]⟩, .bool false] tAns)
  have k2 := heap_new (w.alloc (qObj q)) (.cells #[.slice none 0 0, .string ⟨#[]⟩, .bool false] tAns)
  have s2 : ((w.alloc (qObj q)).alloc (.cells #[.slice none 0 0, .string ⟨#[]⟩, .bool false] tAns)).heap.size = w.heap.size + 2 := by simp
  have n3 := nw_alloc ((w.alloc (qObj q)).alloc (.cells #[.slice none 0 0, .string ⟨#[]⟩, .bool false] tAns)) (.cells #[.slice none 0 0, .string ⟨#[]⟩, .bool false] tAns)
  have k3 := heap_new ((w.alloc (qObj q)).alloc (.cells #[.slice none 0 0, .string ⟨#[]⟩, .bool false] tAns)) (.cells #[.slice none 0 0, .string ⟨#[]⟩, .bool false] tAns)
  rw [s1] at k2
  rw [s2] at k3
  replace k1 := Nw.keep (n2.trans n3) k1
  replace k2 := Nw.keep n3 k2
  have u3 := (n1.trans n2).trans n3
  obtain ⟨w3, hw3⟩ : ∃ w3, ((w.alloc (qObj q)).alloc (.cells #[.slice none 0 0, .string ⟨#[]⟩, .bool false] tAns)).alloc (.cells #[.slice none 0 0, .string ⟨#[]⟩, .bool false] tAns) = w3 := ⟨_, rfl⟩
  have HW3 : Hid (((w.alloc (.cells #[.int .i64 q.kind, .int .i64 q.n, .string ⟨q.text.toArray⟩] tQue)).alloc (.cells #[.slice none 0 0, .string ⟨#[]⟩, .bool false] tAns)).alloc (.cells #[.slice none 0 0, .string ⟨#[]⟩, .bool false] tAns) = w3) := hw3
  rw [hw3] at k1 k2 k3 u3
  clear hw3 n1 n2 n3 s1 s2
  have h3 := h.nw u3
  have hst : AnsSt w w3 (w.heap.size + 1) (w.heap.size + 2) (.slice none 0 0) [] [] false := ⟨u3, by omega, by omega, by omega, ⟨_, _, _, k2⟩, k3, World.ownsRow_nil _ _ _ _⟩
  have HST : Hid (AnsSt w w3 (w.heap.size + 1) (w.heap.size + 2) (.slice none 0 0) [] [] false) := hst
  have H3 := Lib.hid h3
  have G3 := Lib.hid (g.upd u3)
  obtain ⟨q0, q1, q2⟩ := cell3 k1
  have K1 := Lib.hid k1
  have HQ := Lib.hid hq
  have HRD := Lib.hid hrd
  have HB := Lib.hid h
  have hll := Mi.find_len m q
  have HLs : Hid (∀ s ∈ Mi.find m q, SmS s) := fun s hs => by obtain ⟨i, hi, hm⟩ := Mi.find_mem hs; exact h.oks i hi s hm
  have hans0 : Hid (Mi.answer m q = if m.mode = 4 then ⟨(Mi.find m q).map Mi.forge, if (if q.kind = 3 then Mi.textC (Mi.told m.mode m.cs) q.n else ([], false)).2 then (if q.kind = 3 then Mi.textC (Mi.told m.mode m.cs) q.n else ([], false)).1 ++ [120] else (if q.kind = 3 then Mi.textC (Mi.told m.mode m.cs) q.n else ([], false)).1, (if q.kind = 3 then Mi.textC (Mi.told m.mode m.cs) q.n else ([], false)).2⟩ else ⟨Mi.find m q, (if q.kind = 3 then Mi.textC (Mi.told m.mode m.cs) q.n else ([], false)).1, (if q.kind = 3 then Mi.textC (Mi.told m.mode m.cs) q.n else ([], false)).2⟩) := by show _ = _; rfl
  clear hst k1 k2 k3 u3 h3 h hq hrd
  unfold qV
  go_enter Tryz.func25, Tryz.ntmps25
  go_upto_block 0 with fail
  rw [HW3.out]
  obtain ⟨ab, hab⟩ : ∃ ab, w.heap.size + 1 + 1 = ab := ⟨_, rfl⟩
  obtain ⟨rb, hrb⟩ : ∃ rb, w.heap.size + 1 = rb := ⟨_, rfl⟩
  obtain ⟨qb, hqb⟩ : ∃ qb, w.heap.size = qb := ⟨_, rfl⟩
  have HA0 : Hid (AnsSt w w3 rb ab (.slice none 0 0) [] [] false) := by rw [← hab, ← hrb]; exact HST.out
  have HWX0 : Hid (w.heap.size ≤ w3.heap.size) := HST.out.nw.size
  rw [hab, hrb, hqb]
  rw [hqb] at q0 q1 q2
  obtain ⟨c0, c1, c2, c3, c4⟩ := H3.out.cells
  have HQC : Hid (∀ z, Nw w3 z → z.cell? ⟨qb, 1, none⟩ = some (.int .i64 q.n) ∧ z.cell? ⟨qb, 2, none⟩ = some (.string ⟨q.text.toArray⟩)) := fun z u => by rw [← hqb]; exact ⟨(cell3 (Nw.keep u K1.out)).2.1, (cell3 (Nw.keep u K1.out)).2.2⟩
  have HKQ : Hid (qb ≠ ab ∧ w3.heap[qb]? = some (qObj q)) := by rw [← hqb]; exact ⟨by omega, K1.out⟩
  clear HST hab hrb hqb HW3
  go_cut [] from 6 to 147 (fun wx => Hid (AnsSw w m q rb ab wx))
  case first =>
    by_cases h0 : q.kind = 0
    · have d0 : (q.kind == 0) = true := by simp [h0]
      obtain ⟨T, hT⟩ : ∃ T, Mi.told m.mode (m.l 1) = T := ⟨_, rfl⟩
      have hf : Hid (Mi.find m q = if m.mode = 3 then Mi.atL T 0 else Mi.atL T (T.length - 1)) := by show _ = _; unfold Mi.find; rw [if_pos h0, hT]
      have hk3 : Hid (q.kind ≠ 3) := by show _ ≠ _; omega
      have hle := H3.out.len.1 1 (by decide)
      obtain ⟨aH, cH, eH⟩ := own_slG (H3.out.sown 1 (by decide))
      have hcs := sgn_cells (sgn_sls (H3.out.sown 1 (by decide)))
      rw [eH] at c2 hcs
      have hTl := told_length m.mode (m.l 1)
      rw [hT] at hTl
      have hhw := half_q x.mb m.mode (m.l 1).length T.length hTl hle w3 c0
      have HH := Lib.hid hhw
      have hTle : T.length ≤ (m.l 1).length := by rw [← hT]; exact Mi.told_len _ _
      have HTg : Hid (∀ j (h : j < T.length) (h' : j < (m.l 1).length), T[j] = (m.l 1)[j]) := fun j h h' => by subst hT; exact told_get h h'
      have HC0 := Lib.hid hcs
      have HLe := Lib.hid hle
      have c2k := c2
      clear h0 hcs hhw hTl hT c1 c3 c4 q1 q2 hle
      go_wp2_with fail
      (with_reducible refine (HH.out).mono ?_)
      rintro _ w4 ⟨rfl, u4⟩
      have HA := Lib.hid (HA0.out.nw' u4)
      have HWX : Hid (w.heap.size ≤ w4.heap.size) := Nat.le_trans HWX0.out u4.size
      have e0 := later_cell ⟨w4, u4⟩ c0
      have e2 := later_cell ⟨w4, u4⟩ c2
      clear HH c0 c2 c2k
      by_cases hn : T.length = 0
      · have hT0 : T = [] := List.length_eq_zero_iff.1 hn
        have hfy : Hid (Mi.find m q = []) := by
          show _ = _
          rw [hf.out, hT0]
          split <;> rfl
        have hz := Lib.hid (AnsSw.of (l := []) HA.out hfy.out hk3.out)
        rw [hn]
        clear hf hT0
        by_cases h3 : m.mode = 3
        · have d3 : (m.mode == 3) = true := by simp [h3]
          clear h3
          go_wp2_with fail
          go_meet
          exact hz.out
        · have d3 : (m.mode == 3) = false := by simp [h3]
          clear h3
          go_wp2_with fail
          go_meet
          exact hz.out
      rcases HC0.out with ⟨a', cap', ev, -, hcells⟩
      simp only [Value.slice.injEq, true_and] at ev
      obtain ⟨rfl, rfl⟩ := ev
      rcases hcells with hnil | ⟨sb, so, rfl, -, -, hcell⟩
      · rw [hnil] at hTle; exact absurd (Nat.le_zero.1 hTle) hn
      have HCELL : Hid (∀ i, lsgn (m.l 1) sb so i w3) := fun i hi => hcell i hi
      obtain ⟨idx, hidx, hfi⟩ : ∃ idx : Nat, idx = (if m.mode = 3 then 0 else T.length - 1) ∧ Mi.find m q = Mi.atL T idx := by
        refine ⟨_, rfl, ?_⟩
        rw [hf.out]
        split
        · rfl
        · congr 1; omega
      have hidx1 : idx < T.length := by rw [hidx]; split <;> omega
      have hidx2 : idx < (m.l 1).length := by omega
      have hfy : Hid (Mi.find m q = [(m.l 1)[idx]]) := by show _ = _; rw [hfi, Mi.atL_get hidx1, HTg.out idx hidx1 hidx2]
      have HY : Hid (∀ z, Nw w4 z → z.cell? ⟨sb, so + idx * 3, none⟩ = some (.int .i64 (m.l 1)[idx].key) ∧ z.cell? ⟨sb, so + idx * 3 + 1, none⟩ = some (.string ⟨(m.l 1)[idx].text.toArray⟩) ∧ z.cell? ⟨sb, so + idx * 3 + 2, none⟩ = some (.int .i64 (m.l 1)[idx].mark)) := fun z u => by
        obtain ⟨x1, x2, x3⟩ := HCELL.out idx hidx2
        exact ⟨later_cell ⟨z, u4.trans u⟩ x1, later_cell ⟨z, u4.trans u⟩ x2, later_cell ⟨z, u4.trans u⟩ x3⟩
      generalize (m.l 1)[idx] = y at *
      have hidx3 : (idx : Int) < (m.l 1).length := by omega
      have HS : Hid (∀ z, Nw w4 z → z.cell? ⟨ab, 0, none⟩ = some (.slice none 0 0) ∧ z.cell? ⟨x.mb, 2, none⟩ = some (.slice (some ⟨sb, so, none⟩) (m.l 1).length cH) ∧ z.cell? ⟨sb, so + idx * 3, none⟩ = some (.int .i64 y.key) ∧ z.cell? ⟨sb, so + idx * 3 + 1, none⟩ = some (.string ⟨y.text.toArray⟩) ∧ z.cell? ⟨sb, so + idx * 3 + 2, none⟩ = some (.int .i64 y.mark)) := fun z u => ⟨(HA.out.nw' u).cells.1.1, later_cell ⟨z, u⟩ e2, HY.out z u⟩
      have hSd := HS.out w4.drew (Upd.refl _ _).drew
      have hTm : T.length ≤ 1000000 := by have := HLe.out; omega
      obtain ⟨wX, rfl⟩ : ∃ z, z = w4 := ⟨_, rfl⟩
      clear hf hfi HTg hcell HCELL HY HC0
      by_cases h3 : m.mode = 3
      · have d3 : (m.mode == 3) = true := by simp [h3]
        rw [if_pos h3] at hidx
        obtain ⟨mn, hmn⟩ : ∃ mn : Int, min (T.length : Int) 1 = mn := ⟨_, rfl⟩
        have hmn0 := hmn
        have hmn1 : 0 < mn := by omega
        have hmn3 : mn ≤ 1000000 := by omega
        clear h3
        go_upto_region 7 with fail
        have hmn2 : IntKind.i64.wrap (mn - 1) = (idx : Int) := by
          rw [IntKind.wrap_i64]
          omega
        clear hidx hmn hn
        go_upto_region 8 with fail
        refine wp_region_H 13 (fun z => z.cell? ⟨ab, 0, none⟩ = some (.slice none 0 0) ∧ z.cell? ⟨x.mb, 2, none⟩ = some (.slice (some ⟨sb, so, none⟩) (m.l 1).length cH) ∧ z.cell? ⟨sb, so + idx * 3, none⟩ = some (.int .i64 y.key) ∧ z.cell? ⟨sb, so + idx * 3 + 1, none⟩ = some (.string ⟨y.text.toArray⟩) ∧ z.cell? ⟨sb, so + idx * 3 + 2, none⟩ = some (.int .i64 y.mark)) (fun _ => True) (by kernel_rfl) ?_
        refine wpAnyH_pure (i := 0) (v := ?_) rfl (by kernel_rfl) (by kernel_rfl) (by kernel_rfl) (by kernel_rfl) (by kernel_rfl) (fun _ _ _ h => h) (by rfl) ?_ (⟨fun _ => hSd, trivial⟩) ?_
        rotate_left 1
        · (intro zz; go_simp; first | done | with_reducible rfl)
        (try simp only [Act.put, List.setIfInBounds_toArray, List.set_cons_zero, List.set_cons_succ])
        refine wpAnyH_load1 (i := 1) (v := ?_) [] rfl (by kernel_rfl) (by kernel_rfl) (by kernel_rfl) (by kernel_rfl) (by kernel_rfl) (by kernel_rfl) (fun _ _ _ h => h) (by rfl) ?_ (⟨fun _ => hSd, trivial⟩) ?_
        rotate_left 1
        · (intro zz hS1 hS2; clear hS2; obtain ⟨_, _, _, _, _⟩ := hS1; go_simp; first | done | with_reducible rfl)
        (try simp only [Act.put, List.setIfInBounds_toArray, List.set_cons_zero, List.set_cons_succ])
        refine wpAnyH_pure (i := 2) (v := ?_) rfl (by kernel_rfl) (by kernel_rfl) (by kernel_rfl) (by kernel_rfl) (by kernel_rfl) (fun _ _ _ h => h) (by rfl) ?_ (⟨fun _ => hSd, trivial⟩) ?_
        rotate_left 1
        · (intro zz; go_simp; first | done | with_reducible rfl)
        (try simp only [Act.put, List.setIfInBounds_toArray, List.set_cons_zero, List.set_cons_succ])
        refine wpAnyH_pure (i := 3) (v := ?_) rfl (by kernel_rfl) (by kernel_rfl) (by kernel_rfl) (by kernel_rfl) (by kernel_rfl) (fun _ _ _ h => h) (by rfl) ?_ (⟨fun _ => hSd, trivial⟩) ?_
        rotate_left 1
        · (intro zz; go_simp; first | done | with_reducible rfl)
        (try simp only [Act.put, List.setIfInBounds_toArray, List.set_cons_zero, List.set_cons_succ])
        refine wpAnyH_pure (i := 4) (v := ?_) rfl (by kernel_rfl) (by kernel_rfl) (by kernel_rfl) (by kernel_rfl) (by kernel_rfl) (fun _ _ _ h => h) (by rfl) ?_ (⟨fun _ => hSd, trivial⟩) ?_
        rotate_left 1
        · (intro zz; go_simp; first | done | with_reducible rfl)
        (try simp only [Act.put, List.setIfInBounds_toArray, List.set_cons_zero, List.set_cons_succ])
        refine wpAnyH_load1 (i := 5) (v := ?_) [] rfl (by kernel_rfl) (by kernel_rfl) (by kernel_rfl) (by kernel_rfl) (by kernel_rfl) (by kernel_rfl) (fun _ _ _ h => h) (by rfl) ?_ (⟨fun _ => hSd, trivial⟩) ?_
        rotate_left 1
        · (intro zz hS1 hS2; clear hS2; obtain ⟨_, _, _, _, _⟩ := hS1; go_simp; first | done | with_reducible rfl)
        (try simp only [Act.put, List.setIfInBounds_toArray, List.set_cons_zero, List.set_cons_succ])
        refine wpAnyH_pure (i := 6) (v := ?_) rfl (by kernel_rfl) (by kernel_rfl) (by kernel_rfl) (by kernel_rfl) (by kernel_rfl) (fun _ _ _ h => h) (by rfl) ?_ (⟨fun _ => hSd, trivial⟩) ?_
        rotate_left 1
        · (intro zz; go_simp; first | done | with_reducible rfl)
        (try simp only [Act.put, List.setIfInBounds_toArray, List.set_cons_zero, List.set_cons_succ])
        refine wpAnyH_pure (i := 7) (v := ?_) rfl (by kernel_rfl) (by kernel_rfl) (by kernel_rfl) (by kernel_rfl) (by kernel_rfl) (fun _ _ _ h => h) (by rfl) ?_ (⟨fun _ => hSd, trivial⟩) ?_
        rotate_left 1
        · (intro zz; go_simp; first | done | with_reducible rfl)
        (try simp only [Act.put, List.setIfInBounds_toArray, List.set_cons_zero, List.set_cons_succ])
        (try rw [hmn2])
        refine wpAnyH_pure (i := 8) (v := ?_) rfl (by kernel_rfl) (by kernel_rfl) (by kernel_rfl) (by kernel_rfl) (by kernel_rfl) (fun _ _ _ h => h) (by rfl) ?_ (⟨fun _ => hSd, trivial⟩) ?_
        rotate_left 1
        · (intro zz; go_simp; first | done | with_reducible rfl)
        (try simp only [Act.put, List.setIfInBounds_toArray, List.set_cons_zero, List.set_cons_succ])
        refine wpAnyH_load1 (i := 9) (v := ?_) [] rfl (by kernel_rfl) (by kernel_rfl) (by kernel_rfl) (by kernel_rfl) (by kernel_rfl) (by kernel_rfl) (fun _ _ _ h => h) (by rfl) ?_ (⟨fun _ => hSd, trivial⟩) ?_
        rotate_left 1
        · (intro zz hS1 hS2; clear hS2; obtain ⟨_, _, _, _, _⟩ := hS1; go_simp; first | done | with_reducible rfl)
        (try simp only [Act.put, List.setIfInBounds_toArray, List.set_cons_zero, List.set_cons_succ])
        -- from operation 10 on: the signature y is told; HS: what is read, HA: the state
        refine wpAnyH_one (i := 10) (by kernel_rfl) rfl (fun K hK => ?_)
        go_simp
        refine hK.out _ _ ⟨fun _ => HS.out _ ((Upd.refl _ _).drew.alloc _), trivial⟩ ?_
        clear hK K
        (try simp only [Act.put, List.setIfInBounds_toArray, List.set_cons_zero, List.set_cons_succ])
        refine wpAnyH_one (i := 11) (by kernel_rfl) rfl (fun K hK => ?_)
        refine step_appU rfl _ _ 42 rfl w.heap.size tSigned _ 3 32 Tryz.underlying42 infoSgn rfl (by decide) (.slice none 0 0) 0 [] rfl wX (fun _ => False) (World.ownsRow_nil _ _ _ _) ((Upd.refl _ _).drew.alloc _) (fun _ _ e => e) _ (sgl y) rfl (heap_new _ _) rfl (by intro u hu; simp only [sgl, List.mem_cons, List.not_mem_nil, or_false] at hu; rcases hu with rfl | rfl | rfl <;> rfl) (by unfold maxLen; decide) (by decide) HWX.out hgb ?_
        intro gs kn ws hownS uS oS
        have uW : Nw wX ws := ((Upd.refl _ wX).drew.alloc _).trans (upd_none uS)
        have hS := HS.out ws uW
        refine hK.out _ _ ⟨fun _ => hS, trivial⟩ ?_
        clear hK K
        (try simp only [Act.put, List.setIfInBounds_toArray, List.set_cons_zero, List.set_cons_succ])
        refine wpAnyH_pure (i := 12) (v := ?_) rfl (by kernel_rfl) (by kernel_rfl) (by kernel_rfl) (by kernel_rfl) (by kernel_rfl) (fun _ _ _ h => h) (by rfl) ?_ (⟨fun _ => hS, trivial⟩) ?_
        rotate_left 1
        · (intro zz; go_simp; first | done | with_reducible rfl)
        (try simp only [Act.put, List.setIfInBounds_toArray, List.set_cons_zero, List.set_cons_succ])
        have hA := HA.out.nw' uW
        obtain ⟨⟨z0, -, -⟩, fz, -⟩ := hA.cells
        have fz0 := fz 0
        have HZ := Lib.hid (hA.claims (l' := [y]) hgb hownS)
        clear hS hA uS oS hownS uW fz
        refine wpAnyH_one (i := 13) (by kernel_rfl) rfl (fun K hK => ?_)
        go_simp
        refine hK.out _ _ ⟨fun e => absurd (show true = false from e) (by decide), trivial⟩ ?_
        clear hK K
        (try simp only [Act.put, List.setIfInBounds_toArray, List.set_cons_zero, List.set_cons_succ])
        refine wpAnyH_done (by kernel_rfl) ?_ _
        go_wp2_with fail
        go_meet
        exact AnsSw.of HZ.out hfy.out hk3.out
      · have d3 : (m.mode == 3) = false := by simp [h3]
        rw [if_neg h3] at hidx
        obtain ⟨mn, hmn⟩ : ∃ mn : Int, (T.length : Int) = mn := ⟨_, rfl⟩
        have hmn1 : 0 < mn := by omega
        have hmn3 : mn ≤ 1000000 := by omega
        clear h3
        go_upto_region 7 with fail
        (try rw [hmn])
        have hmn2 : IntKind.i64.wrap (mn - 1) = (idx : Int) := by
          rw [IntKind.wrap_i64]
          omega
        clear hidx hmn hn
        go_upto_region 8 with fail
        refine wp_region_H 13 (fun z => z.cell? ⟨ab, 0, none⟩ = some (.slice none 0 0) ∧ z.cell? ⟨x.mb, 2, none⟩ = some (.slice (some ⟨sb, so, none⟩) (m.l 1).length cH) ∧ z.cell? ⟨sb, so + idx * 3, none⟩ = some (.int .i64 y.key) ∧ z.cell? ⟨sb, so + idx * 3 + 1, none⟩ = some (.string ⟨y.text.toArray⟩) ∧ z.cell? ⟨sb, so + idx * 3 + 2, none⟩ = some (.int .i64 y.mark)) (fun _ => True) (by kernel_rfl) ?_
        refine wpAnyH_pure (i := 0) (v := ?_) rfl (by kernel_rfl) (by kernel_rfl) (by kernel_rfl) (by kernel_rfl) (by kernel_rfl) (fun _ _ _ h => h) (by rfl) ?_ (⟨fun _ => hSd, trivial⟩) ?_
        rotate_left 1
        · (intro zz; go_simp; first | done | with_reducible rfl)
        (try simp only [Act.put, List.setIfInBounds_toArray, List.set_cons_zero, List.set_cons_succ])
        refine wpAnyH_load1 (i := 1) (v := ?_) [] rfl (by kernel_rfl) (by kernel_rfl) (by kernel_rfl) (by kernel_rfl) (by kernel_rfl) (by kernel_rfl) (fun _ _ _ h => h) (by rfl) ?_ (⟨fun _ => hSd, trivial⟩) ?_
        rotate_left 1
        · (intro zz hS1 hS2; clear hS2; obtain ⟨_, _, _, _, _⟩ := hS1; go_simp; first | done | with_reducible rfl)
        (try simp only [Act.put, List.setIfInBounds_toArray, List.set_cons_zero, List.set_cons_succ])
        refine wpAnyH_pure (i := 2) (v := ?_) rfl (by kernel_rfl) (by kernel_rfl) (by kernel_rfl) (by kernel_rfl) (by kernel_rfl) (fun _ _ _ h => h) (by rfl) ?_ (⟨fun _ => hSd, trivial⟩) ?_
        rotate_left 1
        · (intro zz; go_simp; first | done | with_reducible rfl)
        (try simp only [Act.put, List.setIfInBounds_toArray, List.set_cons_zero, List.set_cons_succ])
        refine wpAnyH_pure (i := 3) (v := ?_) rfl (by kernel_rfl) (by kernel_rfl) (by kernel_rfl) (by kernel_rfl) (by kernel_rfl) (fun _ _ _ h => h) (by rfl) ?_ (⟨fun _ => hSd, trivial⟩) ?_
        rotate_left 1
        · (intro zz; go_simp; first | done | with_reducible rfl)
        (try simp only [Act.put, List.setIfInBounds_toArray, List.set_cons_zero, List.set_cons_succ])
        refine wpAnyH_pure (i := 4) (v := ?_) rfl (by kernel_rfl) (by kernel_rfl) (by kernel_rfl) (by kernel_rfl) (by kernel_rfl) (fun _ _ _ h => h) (by rfl) ?_ (⟨fun _ => hSd, trivial⟩) ?_
        rotate_left 1
        · (intro zz; go_simp; first | done | with_reducible rfl)
        (try simp only [Act.put, List.setIfInBounds_toArray, List.set_cons_zero, List.set_cons_succ])
        refine wpAnyH_load1 (i := 5) (v := ?_) [] rfl (by kernel_rfl) (by kernel_rfl) (by kernel_rfl) (by kernel_rfl) (by kernel_rfl) (by kernel_rfl) (fun _ _ _ h => h) (by rfl) ?_ (⟨fun _ => hSd, trivial⟩) ?_
        rotate_left 1
        · (intro zz hS1 hS2; clear hS2; obtain ⟨_, _, _, _, _⟩ := hS1; go_simp; first | done | with_reducible rfl)
        (try simp only [Act.put, List.setIfInBounds_toArray, List.set_cons_zero, List.set_cons_succ])
        refine wpAnyH_pure (i := 6) (v := ?_) rfl (by kernel_rfl) (by kernel_rfl) (by kernel_rfl) (by kernel_rfl) (by kernel_rfl) (fun _ _ _ h => h) (by rfl) ?_ (⟨fun _ => hSd, trivial⟩) ?_
        rotate_left 1
        · (intro zz; go_simp; first | done | with_reducible rfl)
        (try simp only [Act.put, List.setIfInBounds_toArray, List.set_cons_zero, List.set_cons_succ])
        refine wpAnyH_pure (i := 7) (v := ?_) rfl (by kernel_rfl) (by kernel_rfl) (by kernel_rfl) (by kernel_rfl) (by kernel_rfl) (fun _ _ _ h => h) (by rfl) ?_ (⟨fun _ => hSd, trivial⟩) ?_
        rotate_left 1
        · (intro zz; go_simp; first | done | with_reducible rfl)
        (try simp only [Act.put, List.setIfInBounds_toArray, List.set_cons_zero, List.set_cons_succ])
        (try rw [hmn2])
        refine wpAnyH_pure (i := 8) (v := ?_) rfl (by kernel_rfl) (by kernel_rfl) (by kernel_rfl) (by kernel_rfl) (by kernel_rfl) (fun _ _ _ h => h) (by rfl) ?_ (⟨fun _ => hSd, trivial⟩) ?_
        rotate_left 1
        · (intro zz; go_simp; first | done | with_reducible rfl)
        (try simp only [Act.put, List.setIfInBounds_toArray, List.set_cons_zero, List.set_cons_succ])
        refine wpAnyH_load1 (i := 9) (v := ?_) [] rfl (by kernel_rfl) (by kernel_rfl) (by kernel_rfl) (by kernel_rfl) (by kernel_rfl) (by kernel_rfl) (fun _ _ _ h => h) (by rfl) ?_ (⟨fun _ => hSd, trivial⟩) ?_
        rotate_left 1
        · (intro zz hS1 hS2; clear hS2; obtain ⟨_, _, _, _, _⟩ := hS1; go_simp; first | done | with_reducible rfl)
        (try simp only [Act.put, List.setIfInBounds_toArray, List.set_cons_zero, List.set_cons_succ])
        -- from operation 10 on: the signature y is told; HS: what is read, HA: the state
        refine wpAnyH_one (i := 10) (by kernel_rfl) rfl (fun K hK => ?_)
        go_simp
        refine hK.out _ _ ⟨fun _ => HS.out _ ((Upd.refl _ _).drew.alloc _), trivial⟩ ?_
        clear hK K
        (try simp only [Act.put, List.setIfInBounds_toArray, List.set_cons_zero, List.set_cons_succ])
        refine wpAnyH_one (i := 11) (by kernel_rfl) rfl (fun K hK => ?_)
        refine step_appU rfl _ _ 42 rfl w.heap.size tSigned _ 3 32 Tryz.underlying42 infoSgn rfl (by decide) (.slice none 0 0) 0 [] rfl wX (fun _ => False) (World.ownsRow_nil _ _ _ _) ((Upd.refl _ _).drew.alloc _) (fun _ _ e => e) _ (sgl y) rfl (heap_new _ _) rfl (by intro u hu; simp only [sgl, List.mem_cons, List.not_mem_nil, or_false] at hu; rcases hu with rfl | rfl | rfl <;> rfl) (by unfold maxLen; decide) (by decide) HWX.out hgb ?_
        intro gs kn ws hownS uS oS
        have uW : Nw wX ws := ((Upd.refl _ wX).drew.alloc _).trans (upd_none uS)
        have hS := HS.out ws uW
        refine hK.out _ _ ⟨fun _ => hS, trivial⟩ ?_
        clear hK K
        (try simp only [Act.put, List.setIfInBounds_toArray, List.set_cons_zero, List.set_cons_succ])
        refine wpAnyH_pure (i := 12) (v := ?_) rfl (by kernel_rfl) (by kernel_rfl) (by kernel_rfl) (by kernel_rfl) (by kernel_rfl) (fun _ _ _ h => h) (by rfl) ?_ (⟨fun _ => hS, trivial⟩) ?_
        rotate_left 1
        · (intro zz; go_simp; first | done | with_reducible rfl)
        (try simp only [Act.put, List.setIfInBounds_toArray, List.set_cons_zero, List.set_cons_succ])
        have hA := HA.out.nw' uW
        obtain ⟨⟨z0, -, -⟩, fz, -⟩ := hA.cells
        have fz0 := fz 0
        have HZ := Lib.hid (hA.claims (l' := [y]) hgb hownS)
        clear hS hA uS oS hownS uW fz
        refine wpAnyH_one (i := 13) (by kernel_rfl) rfl (fun K hK => ?_)
        go_simp
        refine hK.out _ _ ⟨fun e => absurd (show true = false from e) (by decide), trivial⟩ ?_
        clear hK K
        (try simp only [Act.put, List.setIfInBounds_toArray, List.set_cons_zero, List.set_cons_succ])
        refine wpAnyH_done (by kernel_rfl) ?_ _
        go_wp2_with fail
        go_meet
        exact AnsSw.of HZ.out hfy.out hk3.out
    by_cases h1 : q.kind = 1
    · have d0 : (q.kind == 0) = false := by simp [h0]
      have d1 : (q.kind == 1) = true := by simp [h1]
      obtain ⟨T, hT⟩ : ∃ T, Mi.told m.mode (m.l 0) = T := ⟨_, rfl⟩
      have hf : Hid (Mi.find m q = Mi.atL T q.n) := by show _ = _; unfold Mi.find; rw [if_neg h0, if_pos h1, hT]
      have hk3 : Hid (q.kind ≠ 3) := by show _ ≠ _; omega
      have hle := H3.out.len.1 0 (by decide)
      obtain ⟨aH, cH, eH⟩ := own_slG (H3.out.sown 0 (by decide))
      have hcs := sgn_cells (sgn_sls (H3.out.sown 0 (by decide)))
      rw [eH] at c1 hcs
      have hTl := told_length m.mode (m.l 0)
      rw [hT] at hTl
      have HH := Lib.hid (fun t : Later w3 => half_q x.mb m.mode (m.l 0).length T.length hTl hle t.1 (later_cell t c0))
      have hTle : T.length ≤ (m.l 0).length := by rw [← hT]; exact Mi.told_len _ _
      have HTg : Hid (∀ j (h : j < T.length) (h' : j < (m.l 0).length), T[j] = (m.l 0)[j]) := fun j h h' => by subst hT; exact told_get h h'
      have HC0 := Lib.hid hcs
      have HQn := HQ.out.n
      have g1 : ∀ t : Later w3, t.1.cell? ⟨x.mb, 1, none⟩ = some (.slice aH (m.l 0).length cH) := fun t => later_cell t c1
      have g2 : ∀ t : Later w3, t.1.cell? ⟨qb, 1, none⟩ = some (.int .i64 q.n) := fun t => (HQC.out t.1 t.nw).1
      have hTm : T.length ≤ 1000000 := by omega
      obtain ⟨qn, hqn⟩ : ∃ qn, q.n = qn := ⟨_, rfl⟩
      rw [hqn] at hf HQn g2
      by_cases hr : 0 ≤ qn ∧ qn < T.length
      rotate_left
      · have hfy : Hid (Mi.find m q = []) := by show _ = _; rw [hf.out]; exact Mi.atL_out (by omega)
        have hsplit : decide (0 ≤ qn) = false ∨ (decide (0 ≤ qn) = true ∧ decide (qn < (T.length : Int)) = false) := by
          by_cases h : 0 ≤ qn
          · exact Or.inr ⟨decide_eq_true h, decide_eq_false (fun e => hr ⟨h, e⟩)⟩
          · exact Or.inl (decide_eq_false h)
        clear hr h0 h1 hcs hT hTl hf HTg HC0 hqn c2 c3 c4
        rcases hsplit with e1 | ⟨e1, e2⟩
        · go_wp2_with fail
          refine wp_region_nw (by kernel_rfl) (by kernel_rfl) ?_
          repeat (go_big_quiet_step ((fail)))
          refine wpQuiet_nil ?_
          intro w5 u5
          replace u5 := later_out u5
          have hz := Lib.hid (AnsSw.of (l := []) (HA0.out.nw' u5) hfy.out hk3.out)
          clear g1 g2 HH u5
          go_wp2_with fail
          go_meet
          exact hz.out
        · go_wp2_with fail
          refine wp_region_nw (by kernel_rfl) (by kernel_rfl) ?_
          repeat (go_big_quiet_step (((go_at_call 88; exact later_call (HH.out _)))))
          refine wpQuiet_nil ?_
          intro w5 u5
          replace u5 := later_out u5
          have hz := Lib.hid (AnsSw.of (l := []) (HA0.out.nw' u5) hfy.out hk3.out)
          clear g1 g2 HH u5
          go_wp2_with fail
          go_meet
          exact hz.out
      obtain ⟨hr0, hr1⟩ := hr
      obtain ⟨idx, rfl⟩ : ∃ idx : Nat, qn = idx := ⟨qn.toNat, by omega⟩
      have hidx1 : idx < T.length := by omega
      have hidx2 : idx < (m.l 0).length := by omega
      have hfy : Hid (Mi.find m q = [(m.l 0)[idx]]) := by show _ = _; rw [hf.out, Mi.atL_get hidx1, HTg.out idx hidx1 hidx2]
      obtain ⟨a', cap', ev, -, hcells⟩ := hcs
      simp only [Value.slice.injEq, true_and] at ev
      obtain ⟨rfl, rfl⟩ := ev
      rcases hcells with hnil | ⟨sb, so, rfl, -, -, hcell⟩
      · rw [hnil] at hidx2; simp at hidx2
      have HY : Hid (∀ z, Nw w3 z → z.cell? ⟨sb, so + idx * 3, none⟩ = some (.int .i64 (m.l 0)[idx].key) ∧ z.cell? ⟨sb, so + idx * 3 + 1, none⟩ = some (.string ⟨(m.l 0)[idx].text.toArray⟩) ∧ z.cell? ⟨sb, so + idx * 3 + 2, none⟩ = some (.int .i64 (m.l 0)[idx].mark)) := fun z u => by
        obtain ⟨x1, x2, x3⟩ := hcell idx hidx2
        exact ⟨later_cell ⟨z, u⟩ x1, later_cell ⟨z, u⟩ x2, later_cell ⟨z, u⟩ x3⟩
      generalize (m.l 0)[idx] = y at *
      have hidx3 : (idx : Int) < (m.l 0).length := by omega
      have hd1 : decide ((0 : Int) ≤ (idx : Int)) = true := decide_eq_true hr0
      have hd2 : decide ((idx : Int) < (T.length : Int)) = true := decide_eq_true hr1
      have hd3 : decide (idx < T.length) = true := decide_eq_true hidx1
      have HG1 := Lib.hid g1
      have HG2 := Lib.hid g2
      clear hr0 hr1 h0 h1 hT hTl hf HTg HC0 hqn c2 c3 c4 hcell hidx1
      go_wp2_with fail
      refine wp_region_nw (by kernel_rfl) (by kernel_rfl) ?_
      repeat (go_big_quiet_step (((go_at_call 88; exact later_call (HH.out _)))))
      refine wpQuiet_nil ?_
      intro w5 u5
      replace u5 := later_out u5
      have HA := Lib.hid (HA0.out.nw' u5)
      have HWX : Hid (w.heap.size ≤ w5.heap.size) := Nat.le_trans HWX0.out u5.size
      have HS : Hid (∀ z, Nw w5 z → z.cell? ⟨ab, 0, none⟩ = some (.slice none 0 0) ∧ z.cell? ⟨x.mb, 1, none⟩ = some (.slice (some ⟨sb, so, none⟩) (m.l 0).length cH) ∧ z.cell? ⟨qb, 1, none⟩ = some (.int .i64 (idx : Int)) ∧ z.cell? ⟨sb, so + idx * 3, none⟩ = some (.int .i64 y.key) ∧ z.cell? ⟨sb, so + idx * 3 + 1, none⟩ = some (.string ⟨y.text.toArray⟩) ∧ z.cell? ⟨sb, so + idx * 3 + 2, none⟩ = some (.int .i64 y.mark)) := fun z u => ⟨(HA.out.nw' u).cells.1.1, HG1.out ⟨z, u5.trans u⟩, HG2.out ⟨z, u5.trans u⟩, HY.out z (u5.trans u)⟩
      have hSd := HS.out w5.drew (Upd.refl _ _).drew
      obtain ⟨wX, rfl⟩ : ∃ z, z = w5 := ⟨_, rfl⟩
      clear g1 g2 HH HY c1
      go_upto_region 11 with fail
      refine wp_region_H 13 (fun z => z.cell? ⟨ab, 0, none⟩ = some (.slice none 0 0) ∧ z.cell? ⟨x.mb, 1, none⟩ = some (.slice (some ⟨sb, so, none⟩) (m.l 0).length cH) ∧ z.cell? ⟨qb, 1, none⟩ = some (.int .i64 (idx : Int)) ∧ z.cell? ⟨sb, so + idx * 3, none⟩ = some (.int .i64 y.key) ∧ z.cell? ⟨sb, so + idx * 3 + 1, none⟩ = some (.string ⟨y.text.toArray⟩) ∧ z.cell? ⟨sb, so + idx * 3 + 2, none⟩ = some (.int .i64 y.mark)) (fun _ => True) (by kernel_rfl) ?_
      refine wpAnyH_pure (i := 0) (v := ?_) rfl (by kernel_rfl) (by kernel_rfl) (by kernel_rfl) (by kernel_rfl) (by kernel_rfl) (fun _ _ _ h => h) (by rfl) ?_ (⟨fun _ => hSd, trivial⟩) ?_
      rotate_left 1
      · (intro zz; go_simp; first | done | with_reducible rfl)
      (try simp only [Act.put, List.setIfInBounds_toArray, List.set_cons_zero, List.set_cons_succ])
      refine wpAnyH_load1 (i := 1) (v := ?_) [] rfl (by kernel_rfl) (by kernel_rfl) (by kernel_rfl) (by kernel_rfl) (by kernel_rfl) (by kernel_rfl) (fun _ _ _ h => h) (by rfl) ?_ (⟨fun _ => hSd, trivial⟩) ?_
      rotate_left 1
      · (intro zz hS1 hS2; clear hS2; obtain ⟨_, _, _, _, _, _⟩ := hS1; go_simp; first | done | with_reducible rfl)
      (try simp only [Act.put, List.setIfInBounds_toArray, List.set_cons_zero, List.set_cons_succ])
      refine wpAnyH_pure (i := 2) (v := ?_) rfl (by kernel_rfl) (by kernel_rfl) (by kernel_rfl) (by kernel_rfl) (by kernel_rfl) (fun _ _ _ h => h) (by rfl) ?_ (⟨fun _ => hSd, trivial⟩) ?_
      rotate_left 1
      · (intro zz; go_simp; first | done | with_reducible rfl)
      (try simp only [Act.put, List.setIfInBounds_toArray, List.set_cons_zero, List.set_cons_succ])
      refine wpAnyH_pure (i := 3) (v := ?_) rfl (by kernel_rfl) (by kernel_rfl) (by kernel_rfl) (by kernel_rfl) (by kernel_rfl) (fun _ _ _ h => h) (by rfl) ?_ (⟨fun _ => hSd, trivial⟩) ?_
      rotate_left 1
      · (intro zz; go_simp; first | done | with_reducible rfl)
      (try simp only [Act.put, List.setIfInBounds_toArray, List.set_cons_zero, List.set_cons_succ])
      refine wpAnyH_pure (i := 4) (v := ?_) rfl (by kernel_rfl) (by kernel_rfl) (by kernel_rfl) (by kernel_rfl) (by kernel_rfl) (fun _ _ _ h => h) (by rfl) ?_ (⟨fun _ => hSd, trivial⟩) ?_
      rotate_left 1
      · (intro zz; go_simp; first | done | with_reducible rfl)
      (try simp only [Act.put, List.setIfInBounds_toArray, List.set_cons_zero, List.set_cons_succ])
      refine wpAnyH_load1 (i := 5) (v := ?_) [] rfl (by kernel_rfl) (by kernel_rfl) (by kernel_rfl) (by kernel_rfl) (by kernel_rfl) (by kernel_rfl) (fun _ _ _ h => h) (by rfl) ?_ (⟨fun _ => hSd, trivial⟩) ?_
      rotate_left 1
      · (intro zz hS1 hS2; clear hS2; obtain ⟨_, _, _, _, _, _⟩ := hS1; go_simp; first | done | with_reducible rfl)
      (try simp only [Act.put, List.setIfInBounds_toArray, List.set_cons_zero, List.set_cons_succ])
      refine wpAnyH_pure (i := 6) (v := ?_) rfl (by kernel_rfl) (by kernel_rfl) (by kernel_rfl) (by kernel_rfl) (by kernel_rfl) (fun _ _ _ h => h) (by rfl) ?_ (⟨fun _ => hSd, trivial⟩) ?_
      rotate_left 1
      · (intro zz; go_simp; first | done | with_reducible rfl)
      (try simp only [Act.put, List.setIfInBounds_toArray, List.set_cons_zero, List.set_cons_succ])
      refine wpAnyH_load1 (i := 7) (v := ?_) [] rfl (by kernel_rfl) (by kernel_rfl) (by kernel_rfl) (by kernel_rfl) (by kernel_rfl) (by kernel_rfl) (fun _ _ _ h => h) (by rfl) ?_ (⟨fun _ => hSd, trivial⟩) ?_
      rotate_left 1
      · (intro zz hS1 hS2; clear hS2; obtain ⟨_, _, _, _, _, _⟩ := hS1; go_simp; first | done | with_reducible rfl)
      (try simp only [Act.put, List.setIfInBounds_toArray, List.set_cons_zero, List.set_cons_succ])
      refine wpAnyH_pure (i := 8) (v := ?_) rfl (by kernel_rfl) (by kernel_rfl) (by kernel_rfl) (by kernel_rfl) (by kernel_rfl) (fun _ _ _ h => h) (by rfl) ?_ (⟨fun _ => hSd, trivial⟩) ?_
      rotate_left 1
      · (intro zz; go_simp; first | done | with_reducible rfl)
      (try simp only [Act.put, List.setIfInBounds_toArray, List.set_cons_zero, List.set_cons_succ])
      refine wpAnyH_load1 (i := 9) (v := ?_) [] rfl (by kernel_rfl) (by kernel_rfl) (by kernel_rfl) (by kernel_rfl) (by kernel_rfl) (by kernel_rfl) (fun _ _ _ h => h) (by rfl) ?_ (⟨fun _ => hSd, trivial⟩) ?_
      rotate_left 1
      · (intro zz hS1 hS2; clear hS2; obtain ⟨_, _, _, _, _, _⟩ := hS1; go_simp; first | done | with_reducible rfl)
      (try simp only [Act.put, List.setIfInBounds_toArray, List.set_cons_zero, List.set_cons_succ])
      -- from operation 10 on: the signature y is told; HS: what is read, HA: the state
      refine wpAnyH_one (i := 10) (by kernel_rfl) rfl (fun K hK => ?_)
      go_simp
      refine hK.out _ _ ⟨fun _ => HS.out _ ((Upd.refl _ _).drew.alloc _), trivial⟩ ?_
      clear hK K
      (try simp only [Act.put, List.setIfInBounds_toArray, List.set_cons_zero, List.set_cons_succ])
      refine wpAnyH_one (i := 11) (by kernel_rfl) rfl (fun K hK => ?_)
      refine step_appU rfl _ _ 42 rfl w.heap.size tSigned _ 3 32 Tryz.underlying42 infoSgn rfl (by decide) (.slice none 0 0) 0 [] rfl wX (fun _ => False) (World.ownsRow_nil _ _ _ _) ((Upd.refl _ _).drew.alloc _) (fun _ _ e => e) _ (sgl y) rfl (heap_new _ _) rfl (by intro u hu; simp only [sgl, List.mem_cons, List.not_mem_nil, or_false] at hu; rcases hu with rfl | rfl | rfl <;> rfl) (by unfold maxLen; decide) (by decide) HWX.out hgb ?_
      intro gs kn ws hownS uS oS
      have uW : Nw wX ws := ((Upd.refl _ wX).drew.alloc _).trans (upd_none uS)
      have hS := HS.out ws uW
      refine hK.out _ _ ⟨fun _ => hS, trivial⟩ ?_
      clear hK K
      (try simp only [Act.put, List.setIfInBounds_toArray, List.set_cons_zero, List.set_cons_succ])
      refine wpAnyH_pure (i := 12) (v := ?_) rfl (by kernel_rfl) (by kernel_rfl) (by kernel_rfl) (by kernel_rfl) (by kernel_rfl) (fun _ _ _ h => h) (by rfl) ?_ (⟨fun _ => hS, trivial⟩) ?_
      rotate_left 1
      · (intro zz; go_simp; first | done | with_reducible rfl)
      (try simp only [Act.put, List.setIfInBounds_toArray, List.set_cons_zero, List.set_cons_succ])
      have hA := HA.out.nw' uW
      obtain ⟨⟨z0, -, -⟩, fz, -⟩ := hA.cells
      have fz0 := fz 0
      have HZ := Lib.hid (hA.claims (l' := [y]) hgb hownS)
      clear hS hA uS oS hownS uW fz
      refine wpAnyH_one (i := 13) (by kernel_rfl) rfl (fun K hK => ?_)
      go_simp
      refine hK.out _ _ ⟨fun e => absurd (show true = false from e) (by decide), trivial⟩ ?_
      clear hK K
      (try simp only [Act.put, List.setIfInBounds_toArray, List.set_cons_zero, List.set_cons_succ])
      refine wpAnyH_done (by kernel_rfl) ?_ _
      go_wp2_with fail
      go_meet
      exact AnsSw.of HZ.out hfy.out hk3.out
    by_cases h2 : q.kind = 2
    · have d0 : (q.kind == 0) = false := by simp [h0]
      have d1 : (q.kind == 1) = false := by simp [h1]
      have d2 : (q.kind == 2) = true := by simp [h2]
      obtain ⟨T, hT⟩ : ∃ T, Mi.told m.mode (m.l 2) = T := ⟨_, rfl⟩
      have hf : Hid (Mi.find m q = (T.reverse.find? (Mi.good q)).toList) := by show _ = _; unfold Mi.find; rw [if_neg h0, if_neg h1, if_pos h2, hT]
      have hk3 : Hid (q.kind ≠ 3) := by show _ ≠ _; omega
      have hle := H3.out.len.1 2 (by decide)
      obtain ⟨aH, cH, eH⟩ := own_slG (H3.out.sown 2 (by decide))
      have hcs := sgn_cells (sgn_sls (H3.out.sown 2 (by decide)))
      rw [eH] at c3 hcs
      have hTl := told_length m.mode (m.l 2)
      rw [hT] at hTl
      have HHW : Hid (∀ z, z.cell? ⟨x.mb, 0, none⟩ = some (.int .i64 m.mode) → Calls Tryz.prog 88 #[.pointer (some ⟨x.mb, 0, none⟩), .int .i64 ((m.l 2).length : Int)] z fun e w' => e = .returned (.int .i64 (T.length : Int)) ∧ Nw z w') := fun z hc => half_q x.mb m.mode (m.l 2).length T.length hTl hle z hc
      have hTle : T.length ≤ (m.l 2).length := by rw [← hT]; exact Mi.told_len _ _
      have HTg : Hid (∀ j (h : j < T.length) (h' : j < (m.l 2).length), T[j] = (m.l 2)[j]) := fun j h h' => by subst hT; exact told_get h h'
      have HC0 := Lib.hid hcs
      have HOK : Hid (∀ j (h : j < (m.l 2).length), (Cl.read (m.l 2)[j].text).2 = true ∧ (m.l 2)[j].text.length ≤ 1000000) := fun j h => ⟨HRD.out _ (List.getElem_mem h), (HB.out.oks 2 (by decide) _ (List.getElem_mem h)).t⟩
      have HG := Lib.hid g
      have HBc : Hid (∀ z, Nw w z → z.cell? ⟨x.mb, 0, none⟩ = some (.int .i64 m.mode) ∧ z.cell? ⟨x.mb, 3, none⟩ = some (.slice aH (m.l 2).length cH)) := fun z u => by
        obtain ⟨y0, -, -, y3, -⟩ := (HB.out.nw u).cells
        rw [eH] at y3
        exact ⟨y0, y3⟩
      have hTm : T.length ≤ 1000000 := by omega
      have hTi : (T.length : Int) ≤ 1000000 := by omega
      have HK0 : Hid (Upd (fun k => k = ab) w3 w3 ∧ ∃ v, AnsSt w w3 rb ab v ((T.take 0).reverse.find? (Mi.good q)).toList [] false) := ⟨Upd.refl _ _, _, HA0.out⟩
      have hle1 : ((m.l 2).length : Int) ≤ 1000000 := by omega
      clear h0 h1 h2 hcs hT hTl c0 c1 c2 c3 c4 q1 q2 q0
      go_wp2_with fail
      go_loopw [7] (fun iv wr => ∃ j : Nat, j ≤ T.length ∧ iv = .int .i64 (j : Int) ∧ Hid (Upd (fun k => k = ab) w3 wr ∧ ∃ v, AnsSt w wr rb ab v ((T.take j).reverse.find? (Mi.good q)).toList [] false)) (fun iv _ => T.length - (intOf iv).toNat)
      case atStart => exact ⟨0, Nat.zero_le _, rfl, HK0.out⟩
      case round =>
        obtain ⟨j, hj, rfl, HK⟩ := hrel
        have hUp := HK.out.1
        obtain ⟨v, hst⟩ := HK.out.2
        have hnw := hst.nw
        obtain ⟨e0, e3⟩ := HBc.out wr hnw
        have HH := Lib.hid (HHW.out wr e0)
        obtain ⟨av, cv, rfl⟩ := own_slG hst.own
        obtain ⟨⟨f0, -, -⟩, -, -⟩ := hst.cells
        have HST := Lib.hid hst
        have HUP := Lib.hid hUp
        by_cases hlt : j < T.length
        · have hlt1 : (j : Int) < (T.length : Int) := by omega
          have hl2 : j < (m.l 2).length := by omega
          have hl3 : (j : Int) < ((m.l 2).length : Int) := by omega
          have HSu : Hid (((T.take (j + 1)).reverse.find? (Mi.good q)).toList = if Mi.good q (m.l 2)[j] = true then [(m.l 2)[j]] else ((T.take j).reverse.find? (Mi.good q)).toList) := by
            show _ = _
            rw [lastL_succ (Mi.good q) T j hlt, HTg.out j hlt hl2]
          rcases HC0.out with ⟨a', cap', ev, -, hcells⟩
          simp only [Value.slice.injEq, true_and] at ev
          obtain ⟨rfl, rfl⟩ := ev
          rcases hcells with hnil | ⟨sb, so, rfl, -, -, hcell⟩
          · rw [hnil] at hl2; simp at hl2
          have HY : Hid (∀ z, Nw w z → z.cell? ⟨sb, so + j * 3, none⟩ = some (.int .i64 (m.l 2)[j].key) ∧ z.cell? ⟨sb, so + j * 3 + 1, none⟩ = some (.string ⟨(m.l 2)[j].text.toArray⟩) ∧ z.cell? ⟨sb, so + j * 3 + 2, none⟩ = some (.int .i64 (m.l 2)[j].mark)) := by
            have hcB := sgn_cells (sgn_sls (HB.out.sown 2 (by decide)))
            rw [eH] at hcB
            obtain ⟨a2, cap2, ev2, -, hc2⟩ := hcB
            simp only [Value.slice.injEq, true_and] at ev2
            obtain ⟨e1, -⟩ := ev2
            rcases hc2 with hnil | ⟨sb2, so2, e2, -, -, hcell2⟩
            · rw [hnil] at hl2; simp at hl2
            rw [← e1] at e2
            simp only [Option.some.injEq, Addr.mk.injEq, and_true] at e2
            obtain ⟨rfl, rfl⟩ := e2
            intro z u
            obtain ⟨x1, x2, x3⟩ := hcell2 j hl2
            exact ⟨later_cell ⟨z, u⟩ x1, later_cell ⟨z, u⟩ x2, later_cell ⟨z, u⟩ x3⟩
          obtain ⟨hok1, hok2⟩ := HOK.out j hl2
          generalize (m.l 2)[j] = sg at *
          obtain ⟨ck, cn, ct, cx, hrd⟩ : ∃ ck cn ct cx, Cl.read sg.text = (⟨ck, cn, ct, cx⟩, true) := ⟨_, _, _, _, Prod.ext rfl hok1⟩
          have HCR : Hid (∀ z, Nw w z → Calls Tryz.prog 89 #[.string ⟨sg.text.toArray⟩] z fun e w' => e = .returned (.tuple #[.agg #[.int .i64 ck, .int .i64 cn, .int .i64 ct, .string ⟨cx.toArray⟩], .int .i64 0]) ∧ Nw z w') := fun z u =>
            cread_gen ⟨sg.text.toArray⟩ sg.text ⟨ck, cn, ct, cx⟩ true 0 (bs_list _) hrd rfl (by omega) z (HG.out.upd u)
          have HGd : Hid (Mi.good q sg = (decide (cx = q.text) && decide (q.n ≤ cn))) := by show _ = _; unfold Mi.good; rw [hrd]; rfl
          obtain ⟨y0, y1, y2⟩ := HY.out wr hnw
          clear hcell hrd hok1 hok2 hst hUp
          go_wp2_with fail
          (with_reducible refine (HH.out).mono ?_)
          rintro _ w5 ⟨rfl, u5⟩
          have n5 := hnw.trans u5
          obtain ⟨e0', e3'⟩ := HBc.out w5 n5
          obtain ⟨y0', y1', y2'⟩ := HY.out w5 n5
          have HCR5 := Lib.hid (HCR.out w5 n5)
          have HN5 := Lib.hid n5
          have HU5 := Lib.hid u5
          clear HH y0 y1 y2 e0 e3 f0 u5 n5
          go_wp2_with fail
          (with_reducible refine (HCR5.out).mono ?_)
          rintro _ w6 ⟨rfl, u6⟩
          have n6 := nw_alloc w6 (.cells #[.int .i64 ck, .int .i64 cn, .int .i64 ct, .string ⟨cx.toArray⟩] tC)
          have k6 := heap_new w6 (.cells #[.int .i64 ck, .int .i64 cn, .int .i64 ct, .string ⟨cx.toArray⟩] tC)
          have u7 := (HU5.out.trans u6).trans n6
          obtain ⟨w7, hw7⟩ : ∃ w7, w6.alloc (.cells #[.int .i64 ck, .int .i64 cn, .int .i64 ct, .string ⟨cx.toArray⟩] tC) = w7 := ⟨_, rfl⟩
          have HW7 := Lib.hid hw7
          rw [hw7] at k6 u7 n6
          have hst7 := HST.out.nw' u7
          have hU7 : Upd (fun k => k = ab) w3 w7 := HUP.out.nw u7
          have hq7 := hU7.keep HKQ.out.2 HKQ.out.1
          obtain ⟨-, b1, b2⟩ := cell3 hq7
          obtain ⟨-, b4, -, b5⟩ := cell4 k6
          obtain ⟨⟨b6, -, -⟩, hfz, -⟩ := hst7.cells
          have b7 := hfz 0
          obtain ⟨d0', d3'⟩ := HBc.out w7 hst7.nw
          obtain ⟨z0', z1', z2'⟩ := HY.out w7 hst7.nw
          have HBX : Hid (∀ o, (w7.alloc o).cell? ⟨ab, 0, none⟩ = some (.slice av ((T.take j).reverse.find? (Mi.good q)).toList.length cv) ∧ (w7.alloc o).frozen? ⟨ab, 0, none⟩ = false) := fun o => by
            have h := hst7.nw' (nw_alloc w7 o)
            exact ⟨h.cells.1.1, h.cells.2.1 0⟩
          have HST7 := Lib.hid hst7
          have HU7 := Lib.hid hU7
          clear HCR5 u6 u7 n6 k6 hw7 hq7 hfz hst7 hU7 e0' e3' y0' y1' y2' hnw
          go_upto_region 17 with fail
          rw [HW7.out]
          by_cases hgx : cx = q.text
          rotate_left
          · have hb : (cx == q.text) = false := by simp [hgx]
            have hz : Hid (Upd (fun k => k = ab) w3 w7 ∧ ∃ v, AnsSt w w7 rb ab v ((T.take (j + 1)).reverse.find? (Mi.good q)).toList [] false) := by
              rw [HSu.out, HGd.out, decide_eq_false hgx, Bool.false_and, if_neg (by simp)]
              exact ⟨HU7.out, _, HST7.out⟩
            clear hgx
            go_wp2_with fail
            go_roundw
            case rel => exact ⟨j + 1, by omega, by go_num, hz.out⟩
            case measure => simp [intOf]; omega
          have hb : (cx == q.text) = true := by simp [hgx]
          by_cases hgn : q.n ≤ cn
          rotate_left
          · have hb2 : decide (q.n ≤ cn) = false := decide_eq_false hgn
            have hz : Hid (Upd (fun k => k = ab) w3 w7 ∧ ∃ v, AnsSt w w7 rb ab v ((T.take (j + 1)).reverse.find? (Mi.good q)).toList [] false) := by
              rw [HSu.out, HGd.out, decide_eq_false hgn, Bool.and_false, if_neg (by simp)]
              exact ⟨HU7.out, _, HST7.out⟩
            clear hgx hgn
            go_wp2_with fail
            go_roundw
            case rel => exact ⟨j + 1, by omega, by go_num, hz.out⟩
            case measure => simp [intOf]; omega
          have hb2 : decide (q.n ≤ cn) = true := decide_eq_true hgn
          have HFi : Hid (((T.take (j + 1)).reverse.find? (Mi.good q)).toList = [sg]) := by
            show _ = _
            rw [HSu.out, HGd.out, decide_eq_true hgx, decide_eq_true hgn, Bool.and_true, if_pos rfl]
          have HO8 : Hid (AnsSt w ((w7.alloc (.cells #[.int .i64 sg.key, .string ⟨sg.text.toArray⟩, .int .i64 sg.mark] tSigned)).setCell ⟨ab, 0, none⟩ (.slice (some ⟨w7.heap.size, 0, none⟩) 1 1)) rb ab (.slice (some ⟨w7.heap.size, 0, none⟩) 1 1) [sg] [] false ∧ Upd (fun k => k = ab) w3 ((w7.alloc (.cells #[.int .i64 sg.key, .string ⟨sg.text.toArray⟩, .int .i64 sg.mark] tSigned)).setCell ⟨ab, 0, none⟩ (.slice (some ⟨w7.heap.size, 0, none⟩) 1 1))) := by
            have hs7 := HST7.out.nw.size
            refine ⟨(HST7.out.nw' (nw_alloc _ _)).claims (l' := [sg]) hgb ⟨by simp [flatS, sgl], Or.inr ⟨_, _, _, rfl, hs7, heap_new _ _, Nat.le_refl _, by unfold maxLen; decide, by simp, by simp [flatS, sgl]⟩⟩, ?_⟩
            exact Upd.set1 (HU7.out.alloc _) (Nat.le_trans hgb HST7.out.hab) 0 _
          obtain ⟨w8, hw8⟩ : ∃ w8, (w7.alloc (.cells #[.int .i64 sg.key, .string ⟨sg.text.toArray⟩, .int .i64 sg.mark] tSigned)).setCell ⟨ab, 0, none⟩ (.slice (some ⟨w7.heap.size, 0, none⟩) 1 1) = w8 := ⟨_, rfl⟩
          have hz : Hid (Upd (fun k => k = ab) w3 w8 ∧ ∃ v, AnsSt w w8 rb ab v ((T.take (j + 1)).reverse.find? (Mi.good q)).toList [] false) := by
            rw [HFi.out, ← hw8]; exact ⟨HO8.out.2, _, HO8.out.1⟩
          have HW8 := Lib.hid hw8
          obtain ⟨bx1, bx2⟩ := HBX.out (.cells #[.int .i64 sg.key, .string ⟨sg.text.toArray⟩, .int .i64 sg.mark] tSigned)
          clear hgx hgn hw8 HO8
          go_wp2_with fail
          rw [HW8.out]
          go_roundw
          case rel => exact ⟨j + 1, by omega, by go_num, hz.out⟩
          case measure => simp [intOf]; omega
        · obtain rfl : j = T.length := by omega
          have hlt1 : ¬ (T.length : Int) < (T.length : Int) := by omega
          rw [List.take_length, ← hf.out] at hst
          have hz := Lib.hid (AnsSw.of hst rfl hk3.out)
          have HZ2 : Hid (∀ z, Nw wr z → AnsSw w m q rb ab z) := fun z u => AnsSw.of (hst.nw' u) rfl hk3.out
          clear hst hUp
          go_wp2_with fail
          (with_reducible refine (HH.out).mono ?_)
          rintro _ w5 ⟨rfl, u5⟩
          have hz5 := Lib.hid (HZ2.out w5 u5)
          clear HH u5
          go_wp2_with fail
          go_meet
          exact hz5.out
    have d0 : (q.kind == 0) = false := by simp [h0]
    have d1 : (q.kind == 1) = false := by simp [h1]
    have d2 : (q.kind == 2) = false := by simp [h2]
    by_cases h3 : q.kind = 3
    rotate_left
    · have d3 : (q.kind == 3) = false := by simp [h3]
      have hfy : Hid (Mi.find m q = []) := by show _ = _; unfold Mi.find; rw [if_neg h0, if_neg h1, if_neg h2]
      have hz := Lib.hid (AnsSw.of (l := []) HA0.out hfy.out h3)
      clear h0 h1 h2 h3
      go_wp2_with fail
      go_meet
      exact hz.out
    · have d3 : (q.kind == 3) = true := by simp [h3]
      obtain ⟨T, hT⟩ : ∃ T, Mi.told m.mode m.cs = T := ⟨_, rfl⟩
      have hk3 := Lib.hid h3
      have hle := H3.out.len.2
      obtain ⟨aH, cH, eH⟩ := own_slG H3.out.cown
      have hcs := Sl.of_owns H3.out.cown
      rw [eH] at c4 hcs
      have hTl := told_length m.mode m.cs
      rw [hT] at hTl
      have HH := Lib.hid (fun t : Later w3 => half_q x.mb m.mode m.cs.length T.length hTl hle t.1 (later_cell t c0))
      have hTle : T.length ≤ m.cs.length := by rw [← hT]; exact Mi.told_len _ _
      have HTg : Hid (∀ j (h : j < T.length) (h' : j < m.cs.length), T[j] = m.cs[j]) := fun j h h' => by subst hT; exact told_get h h'
      have HC0 := Lib.hid hcs
      have HQn := HQ.out.n
      have g1 : ∀ t : Later w3, t.1.cell? ⟨x.mb, 4, none⟩ = some (.slice aH m.cs.length cH) := fun t => later_cell t c4
      have g2 : ∀ t : Later w3, t.1.cell? ⟨qb, 1, none⟩ = some (.int .i64 q.n) := fun t => (HQC.out t.1 t.nw).1
      have hTm : T.length ≤ 1000000 := by omega
      have HSw : Hid (∀ z t has, AnsSt w z rb ab (.slice none 0 0) [] t has → Mi.textC T q.n = (t, has) → AnsSw w m q rb ab z) := fun z t has h e => AnsSw.of3 h h3 (by rw [hT]; exact e)
      obtain ⟨qn, hqn⟩ : ∃ qn, q.n = qn := ⟨_, rfl⟩
      rw [hqn] at HQn g2 HSw
      by_cases hr : 0 ≤ qn ∧ qn < T.length
      rotate_left
      · have hfy : Hid (Mi.textC T qn = ([], false)) := by show _ = _; unfold Mi.textC; rw [if_pos (by omega)]
        have hsplit : decide (0 ≤ qn) = false ∨ (decide (0 ≤ qn) = true ∧ decide (qn < (T.length : Int)) = false) := by
          by_cases h : 0 ≤ qn
          · exact Or.inr ⟨decide_eq_true h, decide_eq_false (fun e => hr ⟨h, e⟩)⟩
          · exact Or.inl (decide_eq_false h)
        clear hr h0 h1 h2 h3 hcs hT hTl HTg HC0 hqn c1 c2 c3
        rcases hsplit with e1 | ⟨e1, e2⟩
        · go_wp2_with fail
          refine wp_region_nw (by kernel_rfl) (by kernel_rfl) ?_
          repeat (go_big_quiet_step ((fail)))
          refine wpQuiet_nil ?_
          intro w5 u5
          replace u5 := later_out u5
          have hz := Lib.hid (HSw.out w5 _ _ (HA0.out.nw' u5) hfy.out)
          clear g1 g2 HH u5
          go_wp2_with fail
          go_meet
          exact hz.out
        · go_wp2_with fail
          refine wp_region_nw (by kernel_rfl) (by kernel_rfl) ?_
          repeat (go_big_quiet_step (((go_at_call 88; exact later_call (HH.out _)))))
          refine wpQuiet_nil ?_
          intro w5 u5
          replace u5 := later_out u5
          have hz := Lib.hid (HSw.out w5 _ _ (HA0.out.nw' u5) hfy.out)
          clear g1 g2 HH u5
          go_wp2_with fail
          go_meet
          exact hz.out
      obtain ⟨hr0, hr1⟩ := hr
      obtain ⟨idx, rfl⟩ : ∃ idx : Nat, qn = idx := ⟨qn.toNat, by omega⟩
      have hidx1 : idx < T.length := by omega
      have hidx2 : idx < m.cs.length := by omega
      have hfy : Hid (Mi.textC T idx = (m.cs[idx], true)) := by
        show _ = _
        unfold Mi.textC
        rw [if_neg (by omega), Int.toNat_natCast, List.getD_eq_getElem?_getD, List.getElem?_eq_getElem hidx1, ← HTg.out idx hidx1 hidx2]; rfl
      obtain ⟨a', cap', ev, -, hcells⟩ := hcs.open_
      rw [List.length_map] at ev
      simp only [Value.slice.injEq, true_and] at ev
      obtain ⟨rfl, rfl⟩ := ev
      rcases hcells with ⟨-, -, hnil⟩ | ⟨sb, so, rfl, -, -, -, hcell⟩
      · rw [List.map_eq_nil_iff] at hnil; rw [hnil] at hidx2; simp at hidx2
      have y0 := hcell idx (by rw [List.length_map]; exact hidx2)
      rw [List.getElem?_map, List.getElem?_eq_getElem hidx2] at y0
      have HY : Hid (∀ z, Nw w3 z → z.cell? ⟨sb, so + idx, none⟩ = some (.string ⟨(m.cs[idx]).toArray⟩)) := fun z u => later_cell ⟨z, u⟩ y0
      generalize m.cs[idx] = y at *
      have hidx3 : (idx : Int) < m.cs.length := by omega
      have hd1 : decide ((0 : Int) ≤ (idx : Int)) = true := decide_eq_true hr0
      have hd2 : decide ((idx : Int) < (T.length : Int)) = true := decide_eq_true hr1
      have hd3 : decide (idx < T.length) = true := decide_eq_true hidx1
      have HG1 := Lib.hid g1
      have HG2 := Lib.hid g2
      clear hr0 hr1 h0 h1 h2 h3 hT hTl HTg HC0 hqn c1 c2 c3 hcell hidx1 y0
      go_wp2_with fail
      refine wp_region_nw (by kernel_rfl) (by kernel_rfl) ?_
      repeat (go_big_quiet_step (((go_at_call 88; exact later_call (HH.out _)))))
      refine wpQuiet_nil ?_
      intro w5 u5
      replace u5 := later_out u5
      have HA := Lib.hid (HA0.out.nw' u5)
      have HS : Hid (∀ z, Nw w5 z → z.cell? ⟨x.mb, 4, none⟩ = some (.slice (some ⟨sb, so, none⟩) m.cs.length cH) ∧ z.cell? ⟨qb, 1, none⟩ = some (.int .i64 (idx : Int)) ∧ z.cell? ⟨sb, so + idx, none⟩ = some (.string ⟨y.toArray⟩)) := fun z u => ⟨HG1.out ⟨z, u5.trans u⟩, HG2.out ⟨z, u5.trans u⟩, HY.out z (u5.trans u)⟩
      have hSd := HS.out w5.drew (Upd.refl _ _).drew
      obtain ⟨⟨-, z1, z2a⟩, fz, -⟩ := HA.out.cells
      have fz1 := fz 1
      have fz2a := fz 2
      have HZ := Lib.hid (HSw.out _ _ _ (((HA.out.text hgb y).has hgb true).nw' (Upd.refl _ _).drew) hfy.out)
      obtain ⟨wX, rfl⟩ : ∃ z, z = w5 := ⟨_, rfl⟩
      clear g1 g2 HH HY c4 fz
      go_upto_region 21 with fail
      refine wp_region_H 9 (fun z => z.cell? ⟨x.mb, 4, none⟩ = some (.slice (some ⟨sb, so, none⟩) m.cs.length cH) ∧ z.cell? ⟨qb, 1, none⟩ = some (.int .i64 (idx : Int)) ∧ z.cell? ⟨sb, so + idx, none⟩ = some (.string ⟨y.toArray⟩)) (fun _ => True) (by kernel_rfl) ?_
      refine wpAnyH_pure (i := 0) (v := ?_) rfl (by kernel_rfl) (by kernel_rfl) (by kernel_rfl) (by kernel_rfl) (by kernel_rfl) (fun _ _ _ h => h) (by rfl) ?_ (⟨fun _ => hSd, trivial⟩) ?_
      rotate_left 1
      · (intro zz; go_simp; first | done | with_reducible rfl)
      (try simp only [Act.put, List.setIfInBounds_toArray, List.set_cons_zero, List.set_cons_succ])
      refine wpAnyH_pure (i := 1) (v := ?_) rfl (by kernel_rfl) (by kernel_rfl) (by kernel_rfl) (by kernel_rfl) (by kernel_rfl) (fun _ _ _ h => h) (by rfl) ?_ (⟨fun _ => hSd, trivial⟩) ?_
      rotate_left 1
      · (intro zz; go_simp; first | done | with_reducible rfl)
      (try simp only [Act.put, List.setIfInBounds_toArray, List.set_cons_zero, List.set_cons_succ])
      refine wpAnyH_pure (i := 2) (v := ?_) rfl (by kernel_rfl) (by kernel_rfl) (by kernel_rfl) (by kernel_rfl) (by kernel_rfl) (fun _ _ _ h => h) (by rfl) ?_ (⟨fun _ => hSd, trivial⟩) ?_
      rotate_left 1
      · (intro zz; go_simp; first | done | with_reducible rfl)
      (try simp only [Act.put, List.setIfInBounds_toArray, List.set_cons_zero, List.set_cons_succ])
      refine wpAnyH_load1 (i := 3) (v := ?_) [] rfl (by kernel_rfl) (by kernel_rfl) (by kernel_rfl) (by kernel_rfl) (by kernel_rfl) (by kernel_rfl) (fun _ _ _ h => h) (by rfl) ?_ (⟨fun _ => hSd, trivial⟩) ?_
      rotate_left 1
      · (intro zz hS1 hS2; clear hS2; obtain ⟨_, _, _⟩ := hS1; go_simp; first | done | with_reducible rfl)
      (try simp only [Act.put, List.setIfInBounds_toArray, List.set_cons_zero, List.set_cons_succ])
      refine wpAnyH_pure (i := 4) (v := ?_) rfl (by kernel_rfl) (by kernel_rfl) (by kernel_rfl) (by kernel_rfl) (by kernel_rfl) (fun _ _ _ h => h) (by rfl) ?_ (⟨fun _ => hSd, trivial⟩) ?_
      rotate_left 1
      · (intro zz; go_simp; first | done | with_reducible rfl)
      (try simp only [Act.put, List.setIfInBounds_toArray, List.set_cons_zero, List.set_cons_succ])
      refine wpAnyH_load1 (i := 5) (v := ?_) [] rfl (by kernel_rfl) (by kernel_rfl) (by kernel_rfl) (by kernel_rfl) (by kernel_rfl) (by kernel_rfl) (fun _ _ _ h => h) (by rfl) ?_ (⟨fun _ => hSd, trivial⟩) ?_
      rotate_left 1
      · (intro zz hS1 hS2; clear hS2; obtain ⟨_, _, _⟩ := hS1; go_simp; first | done | with_reducible rfl)
      (try simp only [Act.put, List.setIfInBounds_toArray, List.set_cons_zero, List.set_cons_succ])
      refine wpAnyH_pure (i := 6) (v := ?_) rfl (by kernel_rfl) (by kernel_rfl) (by kernel_rfl) (by kernel_rfl) (by kernel_rfl) (fun _ _ _ h => h) (by rfl) ?_ (⟨fun _ => hSd, trivial⟩) ?_
      rotate_left 1
      · (intro zz; go_simp; first | done | with_reducible rfl)
      (try simp only [Act.put, List.setIfInBounds_toArray, List.set_cons_zero, List.set_cons_succ])
      refine wpAnyH_load1 (i := 7) (v := ?_) [] rfl (by kernel_rfl) (by kernel_rfl) (by kernel_rfl) (by kernel_rfl) (by kernel_rfl) (by kernel_rfl) (fun _ _ _ h => h) (by rfl) ?_ (⟨fun _ => hSd, trivial⟩) ?_
      rotate_left 1
      · (intro zz hS1 hS2; clear hS2; obtain ⟨_, _, _⟩ := hS1; go_simp; first | done | with_reducible rfl)
      (try simp only [Act.put, List.setIfInBounds_toArray, List.set_cons_zero, List.set_cons_succ])
      refine wpAnyH_pure (i := 8) (v := ?_) rfl (by kernel_rfl) (by kernel_rfl) (by kernel_rfl) (by kernel_rfl) (by kernel_rfl) (fun _ _ _ h => h) (by rfl) ?_ (⟨fun _ => hSd, trivial⟩) ?_
      rotate_left 1
      · (intro zz; go_simp; first | done | with_reducible rfl)
      (try simp only [Act.put, List.setIfInBounds_toArray, List.set_cons_zero, List.set_cons_succ])
      refine wpAnyH_one (i := 9) (by kernel_rfl) rfl (fun K hK => ?_)
      go_simp
      refine hK.out _ _ ⟨fun e => absurd (show true = false from e) (by decide), trivial⟩ ?_
      clear hK K
      (try simp only [Act.put, List.setIfInBounds_toArray, List.set_cons_zero, List.set_cons_succ])
      refine wpAnyH_done (by kernel_rfl) ?_ _
      go_wp2_with fail
      go_meet
      exact HZ.out
  case rest =>
    obtain ⟨wt, rfl⟩ : ∃ z, z = wc := ⟨_, rfl⟩
    obtain ⟨av, cv, hst⟩ := hcut.out
    have hcok := H3.out.cok
    obtain ⟨t, has, ht⟩ : ∃ (t : List UInt8) (has : Bool), (if q.kind = 3 then Mi.textC (Mi.told m.mode m.cs) q.n else ([], false)) = (t, has) := ⟨_, _, rfl⟩
    have htl : (t.length : Int) ≤ 1000000 := by
      have : t = (if q.kind = 3 then Mi.textC (Mi.told m.mode m.cs) q.n else ([], false)).1 := by rw [ht]
      rw [this]
      split
      · have := textC_len (L := Mi.told m.mode m.cs) (n := 1000000) (fun s hs => hcok s (Mi.told_mem hs)) q.n
        omega
      · simp
    rw [ht] at hst
    have hans : Hid (Mi.answer m q = if m.mode = 4 then ⟨(Mi.find m q).map Mi.forge, if has then t ++ [120] else t, has⟩ else ⟨Mi.find m q, t, has⟩) := by
      show _ = _; rw [hans0.out, ht]
    have c0' := (HB.out.nw hst.nw).cells.1
    have HT : Hid (AnsSt w wt rb ab (.slice av (Mi.find m q).length cv) (Mi.find m q) t has) := hst
    clear hans0 ht hst hcut c0 c1 c2 c3 c4 q0 q1 q2 hcok HA0 HQC HKQ H3 HB HRD
    generalize Mi.find m q = l at *
    obtain ⟨⟨a0, a1, a2⟩, fa, fr⟩ := HT.out.cells
    have fa1 := fa 1
    have fr0 := fr 0
    have fr1 := fr 1
    have fr2 := fr 2
    obtain ⟨v0, v1, v2, er⟩ := HT.out.rblk
    obtain ⟨r0, r1, r2⟩ := cell3 er
    clear fa fr er
    by_cases h4 : m.mode = 4
    rotate_left
    · have d4 : (m.mode == 4) = false := by simp [h4]
      have hy : Hid (Mi.answer m q = ⟨l, t, has⟩) := by show _ = _; rw [hans.out, if_neg h4]
      clear h4 hans
      go_wp2_with fail
      (try simp only [Exit.inBlock, Exit.then])
      with_reducible exact qans_fin HT.out hgb rfl rfl hy.out
    have d4 : (m.mode == 4) = true := by simp [h4]
    have hy : Hid (Mi.answer m q = ⟨l.map Mi.forge, if has then t ++ [120] else t, has⟩) := by show _ = _; rw [hans.out, if_pos h4]
    have hI0 : Hid (AnsSt w wt rb ab (.slice av l.length cv) ((l.take 0).map Mi.forge ++ l.drop 0) t has) := by rw [List.take_zero, List.drop_zero]; exact HT.out
    clear h4 hans r0 r1 r2 fr0 fr1 fr2
    go_wp2_with fail
    go_loopw [10] (fun iv wr => ∃ k : Nat, k ≤ l.length ∧ iv = .int .i64 k ∧ Hid (AnsSt w wr rb ab (.slice av l.length cv) ((l.take k).map Mi.forge ++ l.drop k) t has)) (fun iv _ => l.length - (intOf iv).toNat)
    case atStart => exact ⟨0, Nat.zero_le _, rfl, hI0.out⟩
    case round =>
      obtain ⟨k, hk, rfl, HK⟩ := hrel
      by_cases hlt : k < l.length
      · obtain rfl : k = 0 := by omega
        obtain ⟨s, rfl⟩ : ∃ s, l = [s] := List.length_eq_one_iff.1 (by omega)
        have hst := HK.out
        simp only [List.take_zero, List.map_nil, List.nil_append, List.drop_zero] at hst
        obtain ⟨b0, -, -⟩ := hst.cells.1
        obtain ⟨gg, rfl, gf, ⟨g0, g1, g2⟩, hst2⟩ := hst.forged hgb
        have hst1 := (HLs.out s (List.mem_singleton_self _)).t
        have hst3 : (s.text.length : Int) ≤ 1000000 := by omega
        obtain ⟨wf, hwf⟩ : ∃ wf, (wr.setCell ⟨gg, 1, none⟩ (.string ⟨(s.text ++ [120]).toArray⟩)).drew = wf := ⟨_, rfl⟩
        have hz : Hid (AnsSt w wf rb ab (.slice (some ⟨gg, 0, none⟩) [s].length cv) (([s].take 1).map Mi.forge ++ [s].drop 1) t has) := by
          simp only [List.take_succ_cons, List.take_zero, List.map_cons, List.map_nil, List.drop_succ_cons, List.drop_nil, List.append_nil]
          rw [← hwf]
          exact hst2.nw' (Upd.refl _ _).drew
        have HWF : Hid ((wr.setCell ⟨gg, 1, none⟩ (.string (⟨s.text.toArray⟩ ++ ⟨#[120]⟩))).drew = wf) := by show _ = _; rw [← hwf, ← bs_append s.text [120]]
        have hst4 : ¬ 9223372036854775807 < s.text.length + 1 := by omega
        clear hst hst2 hst1 hwf
        have hlt1 : (0 : Int) < ([s].length : Nat) := by simp
        have hSd : wr.drew.cell? ⟨ab, 0, none⟩ = some (.slice (some ⟨gg, 0, none⟩) [s].length cv) ∧ wr.drew.cell? ⟨gg, 1, none⟩ = some (.string ⟨s.text.toArray⟩) := ⟨b0, g1⟩
        have b0w : wr.cell? ⟨ab, 0, none⟩ = some (.slice (some ⟨gg, 0, none⟩) [s].length cv) := b0
        go_upto_region 27 with fail
        refine wp_region_H 12 (fun z => z.cell? ⟨ab, 0, none⟩ = some (.slice (some ⟨gg, 0, none⟩) [s].length cv) ∧ z.cell? ⟨gg, 1, none⟩ = some (.string ⟨s.text.toArray⟩)) (fun _ => True) (by kernel_rfl) ?_
        refine wpAnyH_pure (i := 0) (v := ?_) rfl (by kernel_rfl) (by kernel_rfl) (by kernel_rfl) (by kernel_rfl) (by kernel_rfl) (fun _ _ _ h => h) (by rfl) ?_ (⟨fun _ => hSd, trivial⟩) ?_
        rotate_left 1
        · (intro zz; go_simp; first | done | with_reducible rfl)
        (try simp only [Act.put, List.setIfInBounds_toArray, List.set_cons_zero, List.set_cons_succ])
        refine wpAnyH_load1 (i := 1) (v := ?_) [] rfl (by kernel_rfl) (by kernel_rfl) (by kernel_rfl) (by kernel_rfl) (by kernel_rfl) (by kernel_rfl) (fun _ _ _ h => h) (by rfl) ?_ (⟨fun _ => hSd, trivial⟩) ?_
        rotate_left 1
        · (intro zz hS1 hS2; clear hS2; obtain ⟨_, _⟩ := hS1; go_simp; first | done | with_reducible rfl)
        (try simp only [Act.put, List.setIfInBounds_toArray, List.set_cons_zero, List.set_cons_succ])
        refine wpAnyH_pure (i := 2) (v := ?_) rfl (by kernel_rfl) (by kernel_rfl) (by kernel_rfl) (by kernel_rfl) (by kernel_rfl) (fun _ _ _ h => h) (by rfl) ?_ (⟨fun _ => hSd, trivial⟩) ?_
        rotate_left 1
        · (intro zz; go_simp; first | done | with_reducible rfl)
        (try simp only [Act.put, List.setIfInBounds_toArray, List.set_cons_zero, List.set_cons_succ])
        refine wpAnyH_pure (i := 3) (v := ?_) rfl (by kernel_rfl) (by kernel_rfl) (by kernel_rfl) (by kernel_rfl) (by kernel_rfl) (fun _ _ _ h => h) (by rfl) ?_ (⟨fun _ => hSd, trivial⟩) ?_
        rotate_left 1
        · (intro zz; go_simp; first | done | with_reducible rfl)
        (try simp only [Act.put, List.setIfInBounds_toArray, List.set_cons_zero, List.set_cons_succ])
        refine wpAnyH_load1 (i := 4) (v := ?_) [] rfl (by kernel_rfl) (by kernel_rfl) (by kernel_rfl) (by kernel_rfl) (by kernel_rfl) (by kernel_rfl) (fun _ _ _ h => h) (by rfl) ?_ (⟨fun _ => hSd, trivial⟩) ?_
        rotate_left 1
        · (intro zz hS1 hS2; clear hS2; obtain ⟨_, _⟩ := hS1; go_simp; first | done | with_reducible rfl)
        (try simp only [Act.put, List.setIfInBounds_toArray, List.set_cons_zero, List.set_cons_succ])
        refine wpAnyH_pure (i := 5) (v := ?_) rfl (by kernel_rfl) (by kernel_rfl) (by kernel_rfl) (by kernel_rfl) (by kernel_rfl) (fun _ _ _ h => h) (by rfl) ?_ (⟨fun _ => hSd, trivial⟩) ?_
        rotate_left 1
        · (intro zz; go_simp; first | done | with_reducible rfl)
        (try simp only [Act.put, List.setIfInBounds_toArray, List.set_cons_zero, List.set_cons_succ])
        refine wpAnyH_pure (i := 6) (v := ?_) rfl (by kernel_rfl) (by kernel_rfl) (by kernel_rfl) (by kernel_rfl) (by kernel_rfl) (fun _ _ _ h => h) (by rfl) ?_ (⟨fun _ => hSd, trivial⟩) ?_
        rotate_left 1
        · (intro zz; go_simp; first | done | with_reducible rfl)
        (try simp only [Act.put, List.setIfInBounds_toArray, List.set_cons_zero, List.set_cons_succ])
        refine wpAnyH_pure (i := 7) (v := ?_) rfl (by kernel_rfl) (by kernel_rfl) (by kernel_rfl) (by kernel_rfl) (by kernel_rfl) (fun _ _ _ h => h) (by rfl) ?_ (⟨fun _ => hSd, trivial⟩) ?_
        rotate_left 1
        · (intro zz; go_simp; first | done | with_reducible rfl)
        (try simp only [Act.put, List.setIfInBounds_toArray, List.set_cons_zero, List.set_cons_succ])
        refine wpAnyH_load1 (i := 8) (v := ?_) [] rfl (by kernel_rfl) (by kernel_rfl) (by kernel_rfl) (by kernel_rfl) (by kernel_rfl) (by kernel_rfl) (fun _ _ _ h => h) (by rfl) ?_ (⟨fun _ => hSd, trivial⟩) ?_
        rotate_left 1
        · (intro zz hS1 hS2; clear hS2; obtain ⟨_, _⟩ := hS1; go_simp; first | done | with_reducible rfl)
        (try simp only [Act.put, List.setIfInBounds_toArray, List.set_cons_zero, List.set_cons_succ])
        refine wpAnyH_pure (i := 9) (v := ?_) rfl (by kernel_rfl) (by kernel_rfl) (by kernel_rfl) (by kernel_rfl) (by kernel_rfl) (fun _ _ _ h => h) (by rfl) ?_ (⟨fun _ => hSd, trivial⟩) ?_
        rotate_left 1
        · (intro zz; go_simp; first | done | with_reducible rfl)
        (try simp only [Act.put, List.setIfInBounds_toArray, List.set_cons_zero, List.set_cons_succ])
        refine wpAnyH_pure (i := 10) (v := ?_) rfl (by kernel_rfl) (by kernel_rfl) (by kernel_rfl) (by kernel_rfl) (by kernel_rfl) (fun _ _ _ h => h) (by rfl) ?_ (⟨fun _ => hSd, trivial⟩) ?_
        rotate_left 1
        · (intro zz; go_simp; first | done | with_reducible rfl)
        (try simp only [Act.put, List.setIfInBounds_toArray, List.set_cons_zero, List.set_cons_succ])
        refine wpAnyH_pure (i := 11) (v := ?_) rfl (by kernel_rfl) (by kernel_rfl) (by kernel_rfl) (by kernel_rfl) (by kernel_rfl) (fun _ _ _ h => h) (by rfl) ?_ (⟨fun _ => hSd, trivial⟩) ?_
        rotate_left 1
        · (intro zz; go_simp; first | done | with_reducible rfl)
        (try simp only [Act.put, List.setIfInBounds_toArray, List.set_cons_zero, List.set_cons_succ])
        refine wpAnyH_one (i := 12) (by kernel_rfl) rfl (fun K hK => ?_)
        go_simp
        refine hK.out _ _ ⟨fun e => absurd (show true = false from e) (by decide), trivial⟩ ?_
        clear hK K
        (try simp only [Act.put, List.setIfInBounds_toArray, List.set_cons_zero, List.set_cons_succ])
        refine wpAnyH_done (by kernel_rfl) ?_ _
        (try rw [HWF.out])
        go_wp2_with fail
        go_roundw
        case rel => exact ⟨1, by simp, by go_num, hz.out⟩
        case measure => simp [intOf]
      · obtain rfl : k = l.length := by omega
        have hst := HK.out
        rw [List.take_length, List.drop_length, List.append_nil] at hst
        obtain ⟨wq, rfl⟩ : ∃ z, z = wr := ⟨_, rfl⟩
        obtain ⟨⟨b0, b1, b2⟩, fb, fr⟩ := hst.cells
        have fb1 := fb 1
        have fr0 := fr 0
        have fr1 := fr 1
        have fr2 := fr 2
        obtain ⟨v0, v1, v2, er⟩ := hst.rblk
        obtain ⟨r0, r1, r2⟩ := cell3 er
        have hne1 : rb ≠ ab := hst.ne
        have hne2 : ab ≠ rb := Ne.symm hne1
        clear er
        have HS := Lib.hid hst
        clear fb fr
        cases has with
        | false =>
          have hy2 : Hid (Mi.answer m q = ⟨l.map Mi.forge, t, false⟩) := hy.out
          clear hst HK
          go_wp2_with fail
          (try simp only [Exit.inBlock, Exit.then])
          with_reducible exact qans_fin HS.out hgb rfl rfl hy2.out
        | true =>
          have hy2 : Hid (Mi.answer m q = ⟨l.map Mi.forge, t ++ [120], true⟩) := hy.out
          have HS2 := Lib.hid (hst.text hgb (t ++ [120]))
          obtain ⟨⟨_, _, _⟩, _, fs⟩ := HS2.out.cells
          have fs0 := fs 0
          have fs1 := fs 1
          have fs2 := fs 2
          clear hst HK fs
          go_wp2_with fail
          (try simp only [Exit.inBlock, Exit.then])
          have hE : (ByteArray.mk t.toArray ++ ByteArray.mk #[120]) = ⟨(t ++ [120]).toArray⟩ := bs_append t [120]
          rw [hE]
          with_reducible exact qans_fin HS2.out hgb rfl rfl hy2.out
end
end Go.Proofs.YtagmlemlagbfkaaGreatDoor
