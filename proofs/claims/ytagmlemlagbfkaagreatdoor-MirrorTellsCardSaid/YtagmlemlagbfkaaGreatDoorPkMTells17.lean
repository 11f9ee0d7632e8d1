/- The contract of the mirror's Feed. The contract of the mirror's Feed: the walk. -/
import Derived.Test.YtagmlemlagbfkaaGreatDoorPkMTells15
import Derived.Test.YtagmlemlagbfkaaGreatDoorPkMTells16
import Derived.WalkMore
namespace Go.Proofs.YtagmlemlagbfkaaGreatDoor
open Go.RowKit
set_option linter.unusedVariables false
set_option linter.unusedSimpArgs false
attribute [local irreducible] Calls

set_option maxRecDepth 100000 in
theorem clone_m (B : Nat) (v : Value) (L : List (List UInt8)) (w : World) (g : Gl w) (h : w.ownsRow B tStrM 1 v L.length (L.map bsM)) (hL : L.length ≤ 1000000) :
    Calls Tryz.prog 83 #[v] w fun e w' => ∃ v', e = .returned v' ∧ w'.ownsRow w.heap.size tStrM 1 v' L.length (L.map bsM) ∧ Nw w w' := by
  have hgb := g.big
  have h' := h
  have HL := Lib.hid hL; clear hL
  have hnil := fun (w : World) (a : Option Addr) (n c : Nat) => Lib.run_eql_slice_nil (P := Tryz.prog) w 30 _ a n c 0 0 Tryz.underlying30
  rcases h.2 with ⟨rfl, hn⟩ | ⟨gg, cap, cur, rfl, _, _, _⟩
  · have hn' := Lib.hid hn
    obtain rfl : L = [] := List.length_eq_zero_iff.1 hn
    clear h h' hn
    go_enter Tryz.func83, Tryz.ntmps83
    go_wp2_with fail
    go_ret
    exact ⟨_, rfl, ⟨by simp, Or.inl ⟨rfl, rfl⟩⟩, Upd.refl _ _⟩
  · have Hn := Lib.hid (h'.alloc (.cells #[] tStrM))
    clear h h'
    have n1 := nw_alloc w (.cells #[] tStrM)
    have o1 := owns_empty w tStrM 1
    go_enter Tryz.func83, Tryz.ntmps83
    go_wp2_with (at_builtin; refine wpList_cat rfl _ _ 30 rfl w.heap.size B tStrM _ 1 16 Tryz.underlying30 infoStrM rfl (by decide) _ _ _ _ _ _ rfl o1 rfl Hn.out ?c1 ?c2 ?c3 ?c4 ?_)
    case c1 => exact bsM_one L
    case c2 => have := HL.out; unfold maxLen; omega
    case c3 => have := HL.out; omega
    case c4 => simp
    intro v' w2 hown hgrow hob
    have u2 : Nw w w2 := n1.grown hgrow (fun k hk => ⟨Or.inr (hob k hk).1, by have := (hob k hk).1; omega⟩)
    go_wp2_with fail
    go_ret
    refine ⟨_, rfl, ?_, u2⟩
    simpa using hown
/-! ### What is signed is small -/
theorem sign_sm {L : List Bk.Seal} {k : Int} {t : List UInt8} (hL : L.length ≤ 1000000) (ht : t.length ≤ 1000000) : SmS (Bk.sign L k t).1 := by
  obtain ⟨h1, h2, h3, h4, h5⟩ := Vw.sign_sgn L k t
  exact ⟨by unfold I64; omega, by unfold I64; omega, by omega⟩
theorem noSgn_sm : SmS Bk.noSgn := ⟨by unfold I64; decide, by unfold I64; decide, by decide⟩
theorem head_sm {L : List Bk.Seal} {b : Bk.Book} {now : Int} (hL : L.length ≤ 1000000) (hb : b.es.length ≤ 200000) (hn : I64 now) : SmS (Bk.head L b now).1.1 := by
  unfold Bk.head
  split
  · exact noSgn_sm
  split
  · exact noSgn_sm
  · exact sign_sm hL (Nat.le_trans (text_len8 _ ⟨by show I64 (1 : Int); unfold I64; decide, by show I64 ((b.es.length : Nat) : Int); unfold I64; omega, hn, by show (0 : Nat) ≤ _; omega⟩) (by decide))
theorem entry_sm {L : List Bk.Seal} {b : Bk.Book} {i : Int} (hL : L.length ≤ 1000000) (hb : ∀ t ∈ b.es, t.length ≤ 20000) (hn : I64 i) : SmS (Bk.entry L b i).1.1 := by
  unfold Bk.entry
  split
  · exact noSgn_sm
  · refine sign_sm hL (Nat.le_trans (text_len8 _ ⟨by show I64 (0 : Int); unfold I64; decide, hn, by show I64 (0 : Int); unfold I64; decide, ?_⟩) (by decide))
    show (b.es.getD i.toNat []).length ≤ _
    rw [List.getD_eq_getElem?_getD]
    cases e : b.es[i.toNat]? with
    | none => show (0 : Nat) ≤ _; omega
    | some s => show s.length ≤ _; have := hb s (List.mem_of_getElem? e); omega
theorem absent_sm {L : List Bk.Seal} {b : Bk.Book} {k : List UInt8} {i : Int} (hL : L.length ≤ 1000000) (hk : k.length ≤ 1000000) (hn : I64 i) : SmS (Bk.absent L b k i).1.1 := by
  unfold Bk.absent
  split
  · exact noSgn_sm
  split
  · exact noSgn_sm
  · exact sign_sm hL (Nat.le_trans (text_len8 _ ⟨by show I64 (2 : Int); unfold I64; decide, hn, by show I64 (0 : Int); unfold I64; decide, by show k.length ≤ _; omega⟩) (by decide))
theorem entry_ln (L : List Bk.Seal) (b : Bk.Book) (i : Int) : (Bk.entry L b i).2.length ≤ L.length + 1 := by
  unfold Bk.entry
  split
  · exact Nat.le_succ _
  · exact Vw.sign_len _ _ _
theorem head_ln (L : List Bk.Seal) (b : Bk.Book) (now : Int) : (Bk.head L b now).2.1.length ≤ L.length + 1 ∧ (Bk.head L b now).2.2.es = b.es := by
  unfold Bk.head
  split
  · exact ⟨Nat.le_succ _, rfl⟩
  split
  · exact ⟨Nat.le_succ _, rfl⟩
  · exact ⟨Vw.sign_len _ _ _, rfl⟩
theorem absent_ln (L : List Bk.Seal) (b : Bk.Book) (k : List UInt8) (i : Int) : (Bk.absent L b k i).2.length ≤ L.length + 1 := by
  unfold Bk.absent
  split
  · exact Nat.le_succ _
  split
  · exact Nat.le_succ _
  · exact Vw.sign_len _ _ _
theorem entL_ln (L : List Bk.Seal) (b : Bk.Book) (m : Mi.Mir) (i n : Nat) : (Mi.entL L b m i n).1.length ≤ L.length + n := by
  induction n with
  | zero => exact Nat.le_refl _
  | succ n ih =>
    have := entry_ln (Mi.entL L b m i n).1 b (i + n)
    show (Bk.entry (Mi.entL L b m i n).1 b (i + n)).2.length ≤ _
    omega
theorem absL_ln (b : Bk.Book) (x : List Bk.Seal × Mi.Mir) (ks : List (List UInt8)) : (Mi.absL b x ks).1.length ≤ x.1.length + ks.length ∧ ((Mi.absL b x ks).2.l 2).length ≤ (x.2.l 2).length + ks.length ∧ (Mi.absL b x ks).2.l 0 = x.2.l 0 ∧ (Mi.absL b x ks).2.l 1 = x.2.l 1 ∧ (Mi.absL b x ks).2.cs = x.2.cs ∧ (Mi.absL b x ks).2.mode = x.2.mode := by
  induction ks generalizing x with
  | nil => exact ⟨Nat.le_refl _, Nat.le_refl _, rfl, rfl, rfl, rfl⟩
  | cons k ks ih =>
    obtain ⟨i1, i2, i3, i4, i5, i6⟩ := ih (Mi.absS b x k)
    have h1 := absent_ln x.1 b k b.es.length
    have e : Mi.absL b x (k :: ks) = Mi.absL b (Mi.absS b x k) ks := rfl
    rw [e]
    have e1 : (Mi.absS b x k).1 = (Bk.absent x.1 b k b.es.length).2 := rfl
    rw [e1] at i1
    rw [List.length_cons]
    have e2 : ((Mi.absS b x k).2.l 2).length ≤ (x.2.l 2).length + 1 ∧ (Mi.absS b x k).2.l 0 = x.2.l 0 ∧ (Mi.absS b x k).2.l 1 = x.2.l 1 ∧ (Mi.absS b x k).2.cs = x.2.cs ∧ (Mi.absS b x k).2.mode = x.2.mode := by
      unfold Mi.absS
      dsimp only
      split
      · rw [Mi.push_self, Mi.push_ne _ _ (by decide), Mi.push_ne _ _ (by decide), List.length_append]
        exact ⟨Nat.le_refl _, rfl, rfl, rfl, rfl⟩
      · exact ⟨Nat.le_succ _, rfl, rfl, rfl, rfl⟩
    exact ⟨by omega, by omega, i3.trans e2.2.1, i4.trans e2.2.2.1, i5.trans e2.2.2.2.1, i6.trans e2.2.2.2.2⟩
/-! ### A ring, a book, a mirror among the things -/
structure FdI where
  N : Nat
  r : Nat
  i : Nat
  k : Nat
  rb : Nat
  bb : Nat
  mb : Nat
structure FdI.Ok (p : FdI) : Prop where
  r : p.r < p.N
  i : p.i < p.N
  k : p.k < p.N
  ri : p.r ≠ p.i
  rk : p.r ≠ p.k
  ik : p.i ≠ p.k
def c3 (B : Nat) (p : FdI) (c : Nat → Res) (Lr : List Bk.Seal) (b : Bk.Book) (m : Mi.Mir) : Nat → Res := setC (setC (setC c p.r (RingC B p.rb Lr)) p.i (BookC B p.bb p.rb b)) p.k (MirC B p.mb m)
section
variable {B : Nat} {p : FdI} {c : Nat → Res} {Lr L' : List Bk.Seal} {b b' : Bk.Book} {m m' : Mi.Mir}
theorem c3_r (hp : p.Ok) : c3 B p c Lr b m p.r = RingC B p.rb Lr := by unfold c3; rw [setC_ne _ _ hp.rk, setC_ne _ _ hp.ri, setC_self]
theorem c3_i (hp : p.Ok) : c3 B p c Lr b m p.i = BookC B p.bb p.rb b := by unfold c3; rw [setC_ne _ _ hp.ik, setC_self]
theorem c3_k (hp : p.Ok) : c3 B p c Lr b m p.k = MirC B p.mb m := by unfold c3; rw [setC_self]
theorem c3_book (hp : p.Ok) : setC (setC (c3 B p c Lr b m) p.r (RingC B p.rb L')) p.i (BookC B p.bb p.rb b') = c3 B p c L' b' m := by
  unfold c3
  rw [setC_comm _ _ _ (Ne.symm hp.rk), setC_comm _ _ _ (Ne.symm hp.ik), setC_comm _ _ _ (Ne.symm hp.ri), setC_setC, setC_setC]
theorem c3_mir : setC (c3 B p c Lr b m) p.k (MirC B p.mb m') = c3 B p c Lr b m' := by unfold c3; rw [setC_setC]
theorem c3_self (hr : c p.r = RingC B p.rb Lr) (hi : c p.i = BookC B p.bb p.rb b) (hk : c p.k = MirC B p.mb m) : c3 B p c Lr b m = c := by
  unfold c3
  rw [← hr, setC_id, ← hi, setC_id, ← hk, setC_id]
end
section
variable {W : World} {N : Nat} {c : Nat → Res} {F : Nat → Prop} {z : World} {mb : Nat} {m : Mi.Mir} {i : Nat}
theorem at_mirOpen (h : At W N c F z) (hi : i < N) (ei : c i = MirC W.heap.size mb m) : ∃ x : MirR, x.mb = mb ∧ MirAt W.heap.size z x m ∧
    ∀ m' z', MirTo W.heap.size x m' z z' → At W N (setC c i (MirC W.heap.size mb m')) F z' ∧ MovesN W F z z' := by
  obtain ⟨f, h⟩ := h
  have hf := h.2.2.1 i hi
  rw [ei] at hf
  obtain ⟨x, a, b, e⟩ := hf
  refine ⟨x, a, b, fun m' z' t => ?_⟩
  obtain ⟨x', t1, t2, t3, t4⟩ := t
  refine h.turn hi (MirC.stab _ _ _) ⟨x'.foot, ⟨x', t1.trans a, t2, rfl⟩, by rw [e]; exact t3, fun j hj => by rw [e]; exact t4 j hj⟩
end
abbrev sgO (s : Bk.Sgn) : Obj := .cells #[.int .i64 s.key, .string ⟨s.text.toArray⟩, .int .i64 s.mark] tSigned
theorem mir_app {B : Nat} {w wa : World} {x : MirR} {m : Mi.Mir} {i bx mb : Nat} {v : Value} {y : Bk.Sgn} (h : MirAt B w x m) (hi : i < 3) (hmb : x.mb = mb) (hx : x.sv i = v) (hbx : w.heap.size ≤ bx) (hb : wa.heap[bx]? = some (sgO y)) (u : Nw w wa) (z : World) (uz : Upd (fun k => v.ownBlock = some k) wa z) :
    (z.cell? ⟨mb, i + 1, none⟩ = some v ∧ z.cell? ⟨bx, 0, none⟩ = some (.int .i64 y.key) ∧ z.cell? ⟨bx, 1, none⟩ = some (.string ⟨y.text.toArray⟩) ∧ z.cell? ⟨bx, 2, none⟩ = some (.int .i64 y.mark)) ∧ z.frozen? ⟨mb, i + 1, none⟩ = false := by
  subst hmb hx
  have hb2 := uz.keep (Nw.keep u h.blk) (h.ne hi)
  obtain ⟨k0, k1, k2⟩ := cell3 (uz.keep hb (fun e => by
    have := (h.foot_lt (Or.inr (Or.inl ⟨i, hi, e⟩))).2; omega))
  refine ⟨⟨?_, k0, k1, k2⟩, cells_frozen hb2 (i + 1)⟩
  rw [cells_cell hb2]
  obtain rfl | rfl | rfl : i = 0 ∨ i = 1 ∨ i = 2 := by omega
  all_goals rfl
end Go.Proofs.YtagmlemlagbfkaaGreatDoor
namespace Go.Proofs.YtagmlemlagbfkaaGreatDoor
open Go.RowKit
set_option linter.unusedVariables false
set_option linter.unusedSimpArgs false
attribute [local irreducible] Calls

section
variable {W : World} {p : FdI} {c : Nat → Res} {L : List Bk.Seal} {b : Bk.Book} {m : Mi.Mir} {F : Nat → Prop} {z : World}
theorem feed_app (hp : p.Ok) (h : At W p.N (c3 W.heap.size p c L b m) F z) {i : Nat} (hi : i < 3) {y : Bk.Sgn} (hy : SmS y) (hl : (m.l i).length + 1 ≤ 1000000) {wa : World} (hwa : z.alloc (sgO y) = wa) : ∃ av cv,
    (∀ z', Upd (fun k => (Value.slice av (m.l i).length cv).ownBlock = some k) wa z' → (z'.cell? ⟨p.mb, i + 1, none⟩ = some (.slice av (m.l i).length cv) ∧ z'.cell? ⟨z.heap.size, 0, none⟩ = some (.int .i64 y.key) ∧ z'.cell? ⟨z.heap.size, 1, none⟩ = some (.string ⟨y.text.toArray⟩) ∧ z'.cell? ⟨z.heap.size, 2, none⟩ = some (.int .i64 y.mark)) ∧ z'.frozen? ⟨p.mb, i + 1, none⟩ = false) ∧
    wa.ownsRow W.heap.size tSigned 3 (.slice av (m.l i).length cv) (m.l i).length (flatS (m.l i)) ∧
    (∀ g cs ws, ws.ownsRow W.heap.size tSigned 3 (.slice (some ⟨g, 0, none⟩) ((m.l i).length + 1) cs) ((m.l i).length + 1) (flatS (m.l i) ++ sgl y) → Upd (fun k => (Value.slice av (m.l i).length cv).ownBlock = some k) wa ws → ((Value.slice av (m.l i).length cv).ownBlock = some g ∨ wa.heap.size ≤ g) →
      At W p.N (c3 W.heap.size p c L b (Mi.push m i y)) F (ws.setCell ⟨p.mb, i + 1, none⟩ (.slice (some ⟨g, 0, none⟩) ((m.l i).length + 1) cs)) ∧ MovesN W F z (ws.setCell ⟨p.mb, i + 1, none⟩ (.slice (some ⟨g, 0, none⟩) ((m.l i).length + 1) cs))) ∧
    nG ≤ W.heap.size ∧ W.heap.size ≤ wa.heap.size := by
  obtain ⟨x, ex, hx, hto⟩ := at_mirOpen h hp.k (c3_k hp)
  obtain ⟨av, cv, esv⟩ := own_slG (hx.sown i hi)
  have na : Nw z wa := hwa ▸ nw_alloc _ _
  have ka : wa.heap[z.heap.size]? = some (sgO y) := hwa ▸ heap_new _ _
  have hsz := h.size
  have hsa := na.size
  refine ⟨av, cv, fun z' uz => mir_app hx hi ex esv (Nat.le_refl _) ka na z' uz, ?_, fun g cs ws ho uS oS => ?_, hx.hb, by omega⟩
  · have := owns_upd' (hx.sown i hi) na (fun _ _ e => e)
    rwa [esv] at this
  · have t := hto (Mi.push m i y) _ (mir_push hx hi hl hy ho (by rw [esv]; exact Nw.trans na uS) (fun k hk => by
      obtain rfl : g = k := by simpa [Value.ownBlock] using hk
      rw [esv]
      exact oS.imp id (fun e => by omega)))
    rw [ex, c3_mir] at t
    exact t
set_option maxHeartbeats 4000000 in
set_option maxRecDepth 100000 in
theorem feed_w (hp : p.Ok) (h : At W p.N (c3 W.heap.size p c L b m) F z) (g : Gl W) (ks cs : List (List UInt8)) (now : Int) (hn : I64 now) (hL : L.length + ks.length ≤ 700000) (hl1 : (m.l 1).length + 1 ≤ 1000000) (hl2 : (m.l 2).length + ks.length ≤ 1000000) (hcl : cs.length ≤ 1000000 ∧ ∀ s ∈ cs, s.length ≤ 1000000) (hkl : ∀ s ∈ ks, s.length ≤ 1000000)
    (kv vc : Value) (Bc : Nat) (hkv : ∀ z', MovesN W F z z' → ∃ lo hi, Sl lo hi z' kv (ks.map bsM)) (hcv : ∀ z', MovesN W F z z' → z'.ownsRow Bc tStrM 1 vc cs.length (cs.map bsM)) :
    Calls Tryz.prog 69 #[.pointer (some ⟨p.mb, 0, none⟩), .pointer (some ⟨p.bb, 0, none⟩), kv, vc, .int .i64 now] z fun e z' =>
      e = .returned (.int .i64 (Mi.feed L b m ks cs now).1) ∧ At W p.N (c3 W.heap.size p c (Mi.feed L b m ks cs now).2.1 (Mi.feed L b m ks cs now).2.2.1 (Mi.feed L b m ks cs now).2.2.2) F z' ∧ MovesN W F z z' := by
  obtain ⟨x, ex, hx, -⟩ := at_mirOpen h hp.k (c3_k hp)
  obtain ⟨bq, -, hb⟩ := at_bookAt h hp.i (c3_i hp)
  have hbk := Lib.hid hb.keys
  have hbl := hb.len
  obtain ⟨c0, -, c2, -, -⟩ := hx.cells
  obtain ⟨a1, k1, es1⟩ := own_slG (hx.sown 1 (by decide))
  rw [ex] at c0 c2
  rw [es1] at c2
  have hm1 : ((m.l 1).length : Int) ≤ 1000000 := by omega
  have hm0 : (0 : Int) ≤ ((m.l 1).length : Int) := by omega
  have H := Lib.hid h
  have G := Lib.hid g
  have HL := Lib.hid (And.intro hL (And.intro hl1 hl2))
  have HC := Lib.hid hcl
  have HKl := Lib.hid hkl
  have HKV := Lib.hid hkv
  have HCV := Lib.hid hcv
  have Hnow := Lib.hid hn
  have Hbl := Lib.hid hbl
  obtain ⟨kav, kcv, rfl⟩ : ∃ a k, kv = .slice a ks.length k := by
    obtain ⟨lo, hi, hs⟩ := hkv z (Upd.refl _ _)
    obtain ⟨a, k, e, -, -⟩ := hs.open_
    rw [List.length_map] at e
    exact ⟨a, k, e⟩
  obtain ⟨cav, ccv, rfl⟩ := own_slG (hcv z (Upd.refl _ _))
  have hf0 : Hid (Mi.feed L b m ks cs now = if m.mode = 1 ∧ m.l 1 ≠ [] then (0, L, b, m)
      else if (Bk.head L b now).1.2 ≠ 0 then ((Bk.head L b now).1.2, (Bk.head L b now).2.1, (Bk.head L b now).2.2, m)
      else (0, (Mi.fed (Bk.head L b now).2.1 (Bk.head L b now).2.2 (Mi.push m 1 (Bk.head L b now).1.1) ks cs).1, (Bk.head L b now).2.2, (Mi.fed (Bk.head L b now).2.1 (Bk.head L b now).2.2 (Mi.push m 1 (Bk.head L b now).1.1) ks cs).2)) := by show _ = _; rfl
  have hksl : (ks.length : Int) ≤ 1000000 := by omega
  clear h g hL hl1 hl2 hcl hkl hkv hcv hx hb hbl es1 ex hn
  by_cases hlag : m.mode = 1 ∧ m.l 1 ≠ []
  · obtain ⟨e1, e2⟩ := hlag
    have hr : Hid (Mi.feed L b m ks cs now = (0, L, b, m)) := by show _ = _; rw [hf0.out, if_pos ⟨e1, e2⟩]
    have d1 : (m.mode == 1) = true := by simp [e1]
    have d2 : decide (0 < (m.l 1).length) = true := decide_eq_true (List.length_pos_iff.2 e2)
    clear hf0 e1 e2
    go_enter Tryz.func69, Tryz.ntmps69
    go_wp2_with fail
    go_ret
    rw [hr.out]
    exact ⟨rfl, H.out, Upd.refl _ _⟩
  have hlagB : Hid ((m.mode == 1) = false ∨ ((m.mode == 1) = true ∧ decide (0 < (m.l 1).length) = false)) := by
    show _ ∨ _
    by_cases e1 : m.mode = 1
    · have e2 : m.l 1 = [] := Classical.byContradiction fun e => hlag ⟨e1, e⟩
      exact Or.inr ⟨by simp [e1], by simp [e2]⟩
    · exact Or.inl (by simp [e1])
  have hf1 : Hid (Mi.feed L b m ks cs now = if (Bk.head L b now).1.2 ≠ 0 then ((Bk.head L b now).1.2, (Bk.head L b now).2.1, (Bk.head L b now).2.2, m)
      else (0, (Mi.fed (Bk.head L b now).2.1 (Bk.head L b now).2.2 (Mi.push m 1 (Bk.head L b now).1.1) ks cs).1, (Bk.head L b now).2.2, (Mi.fed (Bk.head L b now).2.1 (Bk.head L b now).2.2 (Mi.push m 1 (Bk.head L b now).1.1) ks cs).2)) := by show _ = _; rw [hf0.out, if_neg hlag]
  have hysm := head_sm (b := b) (now := now) (by have := HL.out.1; omega : L.length ≤ 1000000) Hbl.out Hnow.out
  obtain ⟨hln1, hes1⟩ := head_ln L b now
  obtain ⟨y, e0, L1, b1, hhd⟩ : ∃ y e0 L1 b1, Bk.head L b now = ((y, e0), L1, b1) := ⟨_, _, _, _, rfl⟩
  have hca := at_head H.out G.out hp.r hp.i hp.ri (c3_r hp) (c3_i hp) now Hnow.out (by have := HL.out.1; omega) hhd
  rw [c3_book hp] at hca
  have HCA := Lib.hid hca
  rw [hhd] at hysm hln1 hes1
  dsimp only at hysm hln1 hes1
  have HY := Lib.hid hysm
  have HLn1 := Lib.hid hln1
  have HB1 : Hid (b1.es.length ≤ 200000 ∧ ∀ t ∈ b1.es, t.length ≤ 20000) := by rw [hes1]; exact ⟨Hbl.out, fun t ht => (hbk.out t ht).2⟩
  have hf2 : Hid (Mi.feed L b m ks cs now = if e0 ≠ 0 then (e0, L1, b1, m) else (0, (Mi.fed L1 b1 (Mi.push m 1 y) ks cs).1, b1, (Mi.fed L1 b1 (Mi.push m 1 y) ks cs).2)) := by show _ = _; rw [hf1.out, hhd]
  clear hca hhd hf0 hf1 hlag hysm hln1 hes1
  go_enter Tryz.func69, Tryz.ntmps69
  go_upto_region 1 with fail
  go_cut [32] from 20 to 32 (fun t32 wx => t32 = .bool false ∧ wx = z)
  case first =>
    rcases hlagB.out with d1 | ⟨d1, d2⟩
    · go_wp2_with fail
      go_meet
      exact ⟨rfl, rfl⟩
    · go_wp2_with fail
      go_meet
      exact ⟨rfl, rfl⟩
  case rest =>
  obtain ⟨rfl, hwx⟩ := hcut
  rw [hwx]
  clear hwx
  go_wp2_with fail
  (with_reducible refine (HCA.out).mono ?_)
  rintro _ w1 ⟨rfl, ha1, mv1⟩
  have MV1 := Lib.hid mv1
  have HA1 := Lib.hid ha1
  clear c0 c2 ha1 mv1 HCA
  by_cases he0 : e0 = 0
  rotate_left
  · have hr : Hid (Mi.feed L b m ks cs now = (e0, L1, b1, m)) := by show _ = _; rw [hf2.out, if_pos he0]
    have hb1 : (e0 != 0) = true := by simp [he0]
    have hb2 : (e0 == 0) = false := by simp [he0]
    have HZ : Hid (At W p.N (c3 W.heap.size p c L1 b1 m) F (w1.alloc (sgO y)) ∧ MovesN W F z (w1.alloc (sgO y))) := ⟨HA1.out.nw (nw_alloc _ _), MV1.out.trans (Nw.upd _ (nw_alloc _ _))⟩
    clear he0 hf2
    go_wp2_with fail
    go_ret
    rw [hr.out]
    exact ⟨rfl, HZ.out⟩
  subst he0
  obtain ⟨m1, hm1d⟩ : ∃ m1, Mi.push m 1 y = m1 := ⟨_, rfl⟩
  have hm1a : m1.l 0 = m.l 0 ∧ m1.l 2 = m.l 2 ∧ m1.cs = m.cs := by rw [← hm1d]; exact ⟨Mi.push_ne _ _ (by decide), Mi.push_ne _ _ (by decide), rfl⟩
  have HM1 := Lib.hid hm1a
  have hf3 : Hid (Mi.feed L b m ks cs now = (0, (Mi.fed L1 b1 m1 ks cs).1, b1, (Mi.fed L1 b1 m1 ks cs).2)) := by show _ = _; rw [hf2.out, if_neg (fun e => e rfl), hm1d]
  obtain ⟨wa, hwa⟩ : ∃ wa, w1.alloc (sgO y) = wa := ⟨_, rfl⟩
  obtain ⟨av, cv, hall, q4, hto, hgw1, hgw2⟩ := feed_app hp HA1.out (i := 1) (by decide) HY.out HL.out.2.1 hwa
  have HWA : Hid (w1.alloc (.cells #[.int .i64 y.key, .string ⟨y.text.toArray⟩, .int .i64 y.mark] tSigned) = wa) := hwa
  (try dsimp only [Nat.reduceAdd] at hall hto)
  have HSall := Lib.hid hall
  have Hto := Lib.hid hto
  have HSd := hall wa.drew (Upd.refl _ _).drew
  have HSa := fun o => hall (wa.drew.alloc o) ((Upd.refl _ _).drew.alloc o)
  have Q4 := Lib.hid q4
  have HGW := Lib.hid (And.intro hgw1 hgw2)
  have HNn : Hid ((m.l 1).length + 1 ≤ maxLen ∧ ((m.l 1).length + 1) * 32 ≤ 140737488355328) := ⟨by have := HL.out.2.1; unfold maxLen; omega, by have := HL.out.2.1; omega⟩
  clear hall q4 hto hgw1 hgw2 hwa
  clear hf2 hm1a
  go_upto_region 6 with fail
  rw [HWA.out]
  refine wp_region_H 10 (fun z' => z'.cell? ⟨p.mb, 2, none⟩ = some (.slice av (m.l 1).length cv) ∧ z'.cell? ⟨w1.heap.size, 0, none⟩ = some (.int .i64 y.key) ∧ z'.cell? ⟨w1.heap.size, 1, none⟩ = some (.string ⟨y.text.toArray⟩) ∧ z'.cell? ⟨w1.heap.size, 2, none⟩ = some (.int .i64 y.mark)) (fun _ => True) (by kernel_rfl) ?_
  refine wpAnyH_pure (i := 0) (v := ?_) rfl (by kernel_rfl) (by kernel_rfl) (by kernel_rfl) (by kernel_rfl) (by kernel_rfl) (fun _ _ _ h => h) (by rfl) ?_ (⟨fun _ => HSd.1, trivial⟩) ?_
  rotate_left 1
  · (intro zz; go_simp; first | done | with_reducible rfl)
  (try simp only [Act.put, List.setIfInBounds_toArray, List.set_cons_zero, List.set_cons_succ])
  refine wpAnyH_pure (i := 1) (v := ?_) rfl (by kernel_rfl) (by kernel_rfl) (by kernel_rfl) (by kernel_rfl) (by kernel_rfl) (fun _ _ _ h => h) (by rfl) ?_ (⟨fun _ => HSd.1, trivial⟩) ?_
  rotate_left 1
  · (intro zz; go_simp; first | done | with_reducible rfl)
  (try simp only [Act.put, List.setIfInBounds_toArray, List.set_cons_zero, List.set_cons_succ])
  refine wpAnyH_pure (i := 2) (v := ?_) rfl (by kernel_rfl) (by kernel_rfl) (by kernel_rfl) (by kernel_rfl) (by kernel_rfl) (fun _ _ _ h => h) (by rfl) ?_ (⟨fun _ => HSd.1, trivial⟩) ?_
  rotate_left 1
  · (intro zz; go_simp; first | done | with_reducible rfl)
  (try simp only [Act.put, List.setIfInBounds_toArray, List.set_cons_zero, List.set_cons_succ])
  refine wpAnyH_pure (i := 3) (v := ?_) rfl (by kernel_rfl) (by kernel_rfl) (by kernel_rfl) (by kernel_rfl) (by kernel_rfl) (fun _ _ _ h => h) (by rfl) ?_ (⟨fun _ => HSd.1, trivial⟩) ?_
  rotate_left 1
  · (intro zz; go_simp; first | done | with_reducible rfl)
  (try simp only [Act.put, List.setIfInBounds_toArray, List.set_cons_zero, List.set_cons_succ])
  refine wpAnyH_load1 (i := 4) (v := ?_) [] rfl (by kernel_rfl) (by kernel_rfl) (by kernel_rfl) (by kernel_rfl) (by kernel_rfl) (by kernel_rfl) (fun _ _ _ h => h) (by rfl) ?_ (⟨fun _ => HSd.1, trivial⟩) ?_
  rotate_left 1
  · (intro zz hS1 hS2; clear hS2; obtain ⟨_, _, _, _⟩ := hS1; go_simp; first | done | with_reducible rfl)
  (try simp only [Act.put, List.setIfInBounds_toArray, List.set_cons_zero, List.set_cons_succ])
  refine wpAnyH_load1 (i := 5) (v := ?_) [] rfl (by kernel_rfl) (by kernel_rfl) (by kernel_rfl) (by kernel_rfl) (by kernel_rfl) (by kernel_rfl) (fun _ _ _ h => h) (by rfl) ?_ (⟨fun _ => HSd.1, trivial⟩) ?_
  rotate_left 1
  · (intro zz hS1 hS2; clear hS2; obtain ⟨_, _, _, _⟩ := hS1; go_simp; first | done | with_reducible rfl)
  (try simp only [Act.put, List.setIfInBounds_toArray, List.set_cons_zero, List.set_cons_succ])
  refine wpAnyH_one (i := 6) (by kernel_rfl) rfl (fun K hK => ?_)
  go_simp
  refine hK.out _ _ ⟨fun _ => (HSa _).1, trivial⟩ ?_
  clear hK K
  (try simp only [Act.put, List.setIfInBounds_toArray, List.set_cons_zero, List.set_cons_succ])
  refine wpAnyH_one (i := 7) (by kernel_rfl) rfl (fun K hK => ?_)
  refine step_appU rfl _ _ 42 rfl W.heap.size tSigned _ 3 32 Tryz.underlying42 infoSgn rfl (by decide) (.slice av (m.l 1).length cv) (m.l 1).length (flatS (m.l 1)) rfl wa (fun _ => False) Q4.out ((Upd.refl _ _).drew.alloc _) (fun _ _ e => e) _ (sgl y) rfl (heap_new _ _) rfl (by intro u hu; simp only [sgl, List.mem_cons, List.not_mem_nil, or_false] at hu; rcases hu with rfl | rfl | rfl <;> rfl) HNn.out.1 HNn.out.2 HGW.out.2 HGW.out.1 ?_
  intro gs kn ws hownS uS oS
  have uW : Upd (fun k => (Value.slice av (m.l 1).length cv).ownBlock = some k) wa ws := Upd.trans (((Upd.refl _ _).drew).alloc _) uS
  have hS := HSall.out ws uW
  refine hK.out _ _ ⟨fun _ => hS.1, trivial⟩ ?_
  clear hK K
  (try simp only [Act.put, List.setIfInBounds_toArray, List.set_cons_zero, List.set_cons_succ])
  refine wpAnyH_pure (i := 8) (v := ?_) rfl (by kernel_rfl) (by kernel_rfl) (by kernel_rfl) (by kernel_rfl) (by kernel_rfl) (fun _ _ _ h => h) (by rfl) ?_ (⟨fun _ => hS.1, trivial⟩) ?_
  rotate_left 1
  · (intro zz; go_simp; first | done | with_reducible rfl)
  (try simp only [Act.put, List.setIfInBounds_toArray, List.set_cons_zero, List.set_cons_succ])
  refine wpAnyH_pure (i := 9) (v := ?_) rfl (by kernel_rfl) (by kernel_rfl) (by kernel_rfl) (by kernel_rfl) (by kernel_rfl) (fun _ _ _ h => h) (by rfl) ?_ (⟨fun _ => hS.1, trivial⟩) ?_
  rotate_left 1
  · (intro zz; go_simp; first | done | with_reducible rfl)
  (try simp only [Act.put, List.setIfInBounds_toArray, List.set_cons_zero, List.set_cons_succ])
  obtain ⟨⟨z1, -, -, -⟩, zf⟩ := hS
  obtain ⟨wn, hwn⟩ : ∃ wn, ws.setCell ⟨p.mb, 2, none⟩ (.slice (some ⟨gs, 0, none⟩) ((m.l 1).length + 1) kn) = wn := ⟨_, rfl⟩
  have HN := Hto.out gs kn ws hownS uW oS
  (try dsimp only [Nat.reduceAdd] at HN)
  rw [hwn] at HN
  have HWN := Lib.hid hwn
  have HN := Lib.hid HN
  clear hwn hownS uS oS uW HSd HSa HSall Hto
  refine wpAnyH_one (i := 10) (by kernel_rfl) rfl (fun K hK => ?_)
  go_simp
  refine hK.out _ _ ⟨fun e => absurd (show true = false from e) (by decide), trivial⟩ ?_
  clear hK K
  (try simp only [Act.put, List.setIfInBounds_toArray, List.set_cons_zero, List.set_cons_succ])
  refine wpAnyH_done (by kernel_rfl) ?_ _
  rw [HWN.out]
  clear HWN z1 zf Q4
  rw [hm1d] at HN
  have HN1 : Hid (At W p.N (c3 W.heap.size p c L1 b1 m1) F wn ∧ MovesN W F z wn) := ⟨HN.out.1, MV1.out.trans HN.out.2⟩
  have HLL1 := Lib.hid (And.intro HLn1.out HL.out)
  clear hm1d HN HA1 MV1 HY HWA HGW HNn H HL HLn1 hlagB
  obtain ⟨x1, ex1, hx1, -⟩ := at_mirOpen HN1.out.1 hp.k (c3_k hp)
  obtain ⟨-, c1, -, -, -⟩ := hx1.cells
  obtain ⟨ae, ke, es0⟩ := own_slG (hx1.sown 0 (by decide))
  rw [ex1] at c1
  rw [es0] at c1
  have hle0 := hx1.len.1 0 (by decide)
  have hle1 : ((m1.l 0).length : Int) ≤ 1000000 := by omega
  have HLE := Lib.hid hle0
  clear hx1 ex1 es0 hle0
  obtain ⟨i0, hi0⟩ : ∃ i0, (m1.l 0).length = i0 := ⟨_, rfl⟩
  rw [hi0] at c1 hle1
  obtain ⟨nE, hnE⟩ : ∃ nE, b1.es.length - i0 = nE := ⟨_, rfl⟩
  have HnE := Lib.hid hnE
  have hf4 : Hid (Mi.feed L b m ks cs now = (0, ((Mi.absL b1 (Mi.entL L1 b1 m1 i0 nE) ks).1, b1, if m1.cs.length < cs.length then { (Mi.absL b1 (Mi.entL L1 b1 m1 i0 nE) ks).2 with cs := cs } else (Mi.absL b1 (Mi.entL L1 b1 m1 i0 nE) ks).2))) := by
    show _ = _; rw [hf3.out]; unfold Mi.fed; rw [hi0, hnE]
  have HI0 := Lib.hid hi0
  have hK0 : Hid (At W p.N (c3 W.heap.size p c (Mi.entL L1 b1 m1 i0 0).1 b1 (Mi.entL L1 b1 m1 i0 0).2) F wn ∧ MovesN W F z wn) := HN1.out
  have hb1l : (b1.es.length : Int) ≤ 200000 := by have := HB1.out.1; omega
  clear hf3 hnE hi0 HN1
  go_wp2_with fail
  go_loopw [13] (fun iv wr => ∃ j : Nat, j ≤ nE ∧ iv = .int .i64 ((i0 : Int) + (j : Int)) ∧ Hid (At W p.N (c3 W.heap.size p c (Mi.entL L1 b1 m1 i0 j).1 b1 (Mi.entL L1 b1 m1 i0 j).2) F wr ∧ MovesN W F z wr)) (fun iv _ => i0 + nE - (intOf iv).toNat)
  case atStart => exact ⟨0, Nat.zero_le _, by simp, hK0.out⟩
  case round =>
    obtain ⟨j, hj, rfl, HK⟩ := hrel
    have hlen := Lib.hid (at_len HK.out.1 hp.i (c3_i hp))
    clear c1
    by_cases hlt : j < nE
    · have hlt1 : (i0 : Int) + (j : Int) < (b1.es.length : Int) := by have := HnE.out; omega
      have hlt2 : i0 + j < b1.es.length := by omega
      have hll := entL_ln L1 b1 m1 i0 j
      obtain ⟨hm0, -, -, -, -⟩ := Mi.entL_l L1 b1 m1 i0 j
      have hsucc : Hid (Mi.entL L1 b1 m1 i0 (j + 1) = Mi.entS (Mi.entL L1 b1 m1 i0 j).1 b1 (Mi.entL L1 b1 m1 i0 j).2 (i0 + j)) := by show _ = _; rfl
      have hHK := HK.out
      clear HK
      generalize Mi.entL L1 b1 m1 i0 j = X at *
      obtain ⟨Lj, mj⟩ := X
      (try dsimp only at hm0)
      (try dsimp only at hll)
      (try dsimp only at hHK)
      (try dsimp only at hsucc)
      have hLj : Lj.length ≤ 1000000 := by have := HLL1.out.1; have := HLL1.out.2.1; omega
      obtain ⟨y, e1, L2, hen⟩ : ∃ y e1 L2, Bk.entry Lj b1 ((i0 : Int) + (j : Int)) = ((y, e1), L2) := ⟨_, _, _, rfl⟩
      have hysm := entry_sm (b := b1) (i := ((i0 : Int) + (j : Int))) hLj HB1.out.2 (by unfold I64; omega)
      rw [hen] at hysm
      (try dsimp only at hysm)
      have hsucc2 : Hid (Mi.entL L1 b1 m1 i0 (j + 1) = (L2, Mi.push mj 0 y)) := by
        show _ = _
        rw [hsucc.out]
        unfold Mi.entS
        have : ((i0 + j : Nat) : Int) = (i0 : Int) + (j : Int) := by omega
        (try dsimp only)
        rw [this, hen]
      have HY := Lib.hid hysm
      have hmjl : Hid ((mj.l 0).length + 1 ≤ 1000000) := by show _ ≤ _; rw [hm0]; have := HI0.out; have := HB1.out.1; omega
      have hHKn : ∀ w', Nw wr w' → At W p.N (c3 W.heap.size p c Lj b1 mj) F w' ∧ MovesN W F z w' := fun w' u => ⟨hHK.1.nw u, hHK.2.trans (Nw.upd _ u)⟩
      have HKN := Lib.hid hHKn
      have HEN := Lib.hid hen
      have HLj := Lib.hid hLj
      have HM0 := Lib.hid hm0
      clear hsucc hHK hHKn hysm hen hLj hll hm0
      go_wp2_with fail
      (with_reducible refine (hlen.out).mono ?_)
      rintro _ w2 ⟨rfl, u2⟩
      have hHK2 := HKN.out w2 u2
      have hca := at_entry hHK2.1 G.out hp.r hp.i hp.ri (c3_r hp) (c3_i hp) ((i0 : Int) + (j : Int)) (by unfold I64; omega) HLj.out HEN.out
      rw [c3_book hp] at hca
      have HCA := Lib.hid hca
      have MV2 := Lib.hid hHK2.2
      clear hca hHK2 u2 hlen
      go_wp2_with fail
      (with_reducible refine (HCA.out).mono ?_)
      rintro _ w3 ⟨rfl, ha3, mv3⟩
      have HA3 := Lib.hid ha3
      have MV3 := Lib.hid (MV2.out.trans mv3)
      obtain ⟨wa, hwa⟩ : ∃ wa, w3.alloc (sgO y) = wa := ⟨_, rfl⟩
      obtain ⟨av, cv, hall, q4, hto, hgw1, hgw2⟩ := feed_app hp HA3.out (i := 0) (by decide) HY.out hmjl.out hwa
      have HWA : Hid (w3.alloc (.cells #[.int .i64 y.key, .string ⟨y.text.toArray⟩, .int .i64 y.mark] tSigned) = wa) := hwa
      (try dsimp only [Nat.reduceAdd] at hall hto)
      have HSall := Lib.hid hall
      have Hto := Lib.hid hto
      have HSd := hall wa.drew (Upd.refl _ _).drew
      have HSa := fun o => hall (wa.drew.alloc o) ((Upd.refl _ _).drew.alloc o)
      have Q4 := Lib.hid q4
      have HGW := Lib.hid (And.intro hgw1 hgw2)
      have HNn : Hid ((mj.l 0).length + 1 ≤ maxLen ∧ ((mj.l 0).length + 1) * 32 ≤ 140737488355328) := ⟨by have := hmjl.out; unfold maxLen; omega, by have := hmjl.out; omega⟩
      clear hall q4 hto hgw1 hgw2 hwa
      clear ha3 mv3 HCA
      go_upto_region 11 with fail
      rw [HWA.out]
      refine wp_region_H 10 (fun z' => z'.cell? ⟨p.mb, 1, none⟩ = some (.slice av (mj.l 0).length cv) ∧ z'.cell? ⟨w3.heap.size, 0, none⟩ = some (.int .i64 y.key) ∧ z'.cell? ⟨w3.heap.size, 1, none⟩ = some (.string ⟨y.text.toArray⟩) ∧ z'.cell? ⟨w3.heap.size, 2, none⟩ = some (.int .i64 y.mark)) (fun _ => True) (by kernel_rfl) ?_
      refine wpAnyH_pure (i := 0) (v := ?_) rfl (by kernel_rfl) (by kernel_rfl) (by kernel_rfl) (by kernel_rfl) (by kernel_rfl) (fun _ _ _ h => h) (by rfl) ?_ (⟨fun _ => HSd.1, trivial⟩) ?_
      rotate_left 1
      · (intro zz; go_simp; first | done | with_reducible rfl)
      (try simp only [Act.put, List.setIfInBounds_toArray, List.set_cons_zero, List.set_cons_succ])
      refine wpAnyH_pure (i := 1) (v := ?_) rfl (by kernel_rfl) (by kernel_rfl) (by kernel_rfl) (by kernel_rfl) (by kernel_rfl) (fun _ _ _ h => h) (by rfl) ?_ (⟨fun _ => HSd.1, trivial⟩) ?_
      rotate_left 1
      · (intro zz; go_simp; first | done | with_reducible rfl)
      (try simp only [Act.put, List.setIfInBounds_toArray, List.set_cons_zero, List.set_cons_succ])
      refine wpAnyH_pure (i := 2) (v := ?_) rfl (by kernel_rfl) (by kernel_rfl) (by kernel_rfl) (by kernel_rfl) (by kernel_rfl) (fun _ _ _ h => h) (by rfl) ?_ (⟨fun _ => HSd.1, trivial⟩) ?_
      rotate_left 1
      · (intro zz; go_simp; first | done | with_reducible rfl)
      (try simp only [Act.put, List.setIfInBounds_toArray, List.set_cons_zero, List.set_cons_succ])
      refine wpAnyH_pure (i := 3) (v := ?_) rfl (by kernel_rfl) (by kernel_rfl) (by kernel_rfl) (by kernel_rfl) (by kernel_rfl) (fun _ _ _ h => h) (by rfl) ?_ (⟨fun _ => HSd.1, trivial⟩) ?_
      rotate_left 1
      · (intro zz; go_simp; first | done | with_reducible rfl)
      (try simp only [Act.put, List.setIfInBounds_toArray, List.set_cons_zero, List.set_cons_succ])
      refine wpAnyH_load1 (i := 4) (v := ?_) [] rfl (by kernel_rfl) (by kernel_rfl) (by kernel_rfl) (by kernel_rfl) (by kernel_rfl) (by kernel_rfl) (fun _ _ _ h => h) (by rfl) ?_ (⟨fun _ => HSd.1, trivial⟩) ?_
      rotate_left 1
      · (intro zz hS1 hS2; clear hS2; obtain ⟨_, _, _, _⟩ := hS1; go_simp; first | done | with_reducible rfl)
      (try simp only [Act.put, List.setIfInBounds_toArray, List.set_cons_zero, List.set_cons_succ])
      refine wpAnyH_load1 (i := 5) (v := ?_) [] rfl (by kernel_rfl) (by kernel_rfl) (by kernel_rfl) (by kernel_rfl) (by kernel_rfl) (by kernel_rfl) (fun _ _ _ h => h) (by rfl) ?_ (⟨fun _ => HSd.1, trivial⟩) ?_
      rotate_left 1
      · (intro zz hS1 hS2; clear hS2; obtain ⟨_, _, _, _⟩ := hS1; go_simp; first | done | with_reducible rfl)
      (try simp only [Act.put, List.setIfInBounds_toArray, List.set_cons_zero, List.set_cons_succ])
      refine wpAnyH_one (i := 6) (by kernel_rfl) rfl (fun K hK => ?_)
      go_simp
      refine hK.out _ _ ⟨fun _ => (HSa _).1, trivial⟩ ?_
      clear hK K
      (try simp only [Act.put, List.setIfInBounds_toArray, List.set_cons_zero, List.set_cons_succ])
      refine wpAnyH_one (i := 7) (by kernel_rfl) rfl (fun K hK => ?_)
      refine step_appU rfl _ _ 42 rfl W.heap.size tSigned _ 3 32 Tryz.underlying42 infoSgn rfl (by decide) (.slice av (mj.l 0).length cv) (mj.l 0).length (flatS (mj.l 0)) rfl wa (fun _ => False) Q4.out ((Upd.refl _ _).drew.alloc _) (fun _ _ e => e) _ (sgl y) rfl (heap_new _ _) rfl (by intro u hu; simp only [sgl, List.mem_cons, List.not_mem_nil, or_false] at hu; rcases hu with rfl | rfl | rfl <;> rfl) HNn.out.1 HNn.out.2 HGW.out.2 HGW.out.1 ?_
      intro gs kn ws hownS uS oS
      have uW : Upd (fun k => (Value.slice av (mj.l 0).length cv).ownBlock = some k) wa ws := Upd.trans (((Upd.refl _ _).drew).alloc _) uS
      have hS := HSall.out ws uW
      refine hK.out _ _ ⟨fun _ => hS.1, trivial⟩ ?_
      clear hK K
      (try simp only [Act.put, List.setIfInBounds_toArray, List.set_cons_zero, List.set_cons_succ])
      refine wpAnyH_pure (i := 8) (v := ?_) rfl (by kernel_rfl) (by kernel_rfl) (by kernel_rfl) (by kernel_rfl) (by kernel_rfl) (fun _ _ _ h => h) (by rfl) ?_ (⟨fun _ => hS.1, trivial⟩) ?_
      rotate_left 1
      · (intro zz; go_simp; first | done | with_reducible rfl)
      (try simp only [Act.put, List.setIfInBounds_toArray, List.set_cons_zero, List.set_cons_succ])
      refine wpAnyH_pure (i := 9) (v := ?_) rfl (by kernel_rfl) (by kernel_rfl) (by kernel_rfl) (by kernel_rfl) (by kernel_rfl) (fun _ _ _ h => h) (by rfl) ?_ (⟨fun _ => hS.1, trivial⟩) ?_
      rotate_left 1
      · (intro zz; go_simp; first | done | with_reducible rfl)
      (try simp only [Act.put, List.setIfInBounds_toArray, List.set_cons_zero, List.set_cons_succ])
      obtain ⟨⟨z1, -, -, -⟩, zf⟩ := hS
      obtain ⟨wn, hwn⟩ : ∃ wn, ws.setCell ⟨p.mb, 1, none⟩ (.slice (some ⟨gs, 0, none⟩) ((mj.l 0).length + 1) kn) = wn := ⟨_, rfl⟩
      have HN := Hto.out gs kn ws hownS uW oS
      (try dsimp only [Nat.reduceAdd] at HN)
      rw [hwn] at HN
      have HWN := Lib.hid hwn
      have HN := Lib.hid HN
      clear hwn hownS uS oS uW HSd HSa HSall Hto
      refine wpAnyH_one (i := 10) (by kernel_rfl) rfl (fun K hK => ?_)
      go_simp
      refine hK.out _ _ ⟨fun e => absurd (show true = false from e) (by decide), trivial⟩ ?_
      clear hK K
      (try simp only [Act.put, List.setIfInBounds_toArray, List.set_cons_zero, List.set_cons_succ])
      refine wpAnyH_done (by kernel_rfl) ?_ _
      rw [HWN.out]
      clear HWN z1 zf Q4
      have hz : Hid (At W p.N (c3 W.heap.size p c (Mi.entL L1 b1 m1 i0 (j + 1)).1 b1 (Mi.entL L1 b1 m1 i0 (j + 1)).2) F wn ∧ MovesN W F z wn) := by rw [hsucc2.out]; exact ⟨HN.out.1, MV3.out.trans HN.out.2⟩
      clear HN HA3 HGW HNn HWA
      go_wp2_with fail
      go_roundw
      case rel => exact ⟨j + 1, by omega, by go_num, hz.out⟩
      case measure => simp [intOf] <;> omega
    · obtain rfl : j = nE := by omega
      have hlt1 : ¬ (i0 : Int) + (j : Int) < (b1.es.length : Int) := by have := HnE.out; omega
      have hlt2 : ¬ i0 + j < b1.es.length := by omega
      have hll := entL_ln L1 b1 m1 i0 j
      obtain ⟨-, -, hm2, -, hmc⟩ := Mi.entL_l L1 b1 m1 i0 j
      have hHK := HK.out
      have hLb : Hid ((Mi.entL L1 b1 m1 i0 j).1.length + ks.length ≤ 1000000 ∧ ((Mi.entL L1 b1 m1 i0 j).2.l 2).length + ks.length ≤ 1000000 ∧ (Mi.entL L1 b1 m1 i0 j).2.cs = m1.cs) := by
        refine ⟨?_, ?_, hmc⟩
        · have h1 := HLL1.out.1; have h2 := HLL1.out.2.1; have h3 := HnE.out; have h4 := HB1.out.1; omega
        · rw [hm2, HM1.out.2.1]; exact HLL1.out.2.2.2
      clear HK hll hm2 hmc
      generalize Mi.entL L1 b1 m1 i0 j = X at *
      obtain ⟨L2, m2⟩ := X
      (try dsimp only at hHK)
      (try dsimp only at hLb)
      have HKN := Lib.hid (fun w' (u : Nw wr w') => (⟨hHK.1.nw u, hHK.2.trans (Nw.upd _ u)⟩ : At W p.N (c3 W.heap.size p c L2 b1 m2) F w' ∧ MovesN W F z w'))
      clear hHK
      obtain ⟨wq, rfl⟩ : ∃ w, w = wr := ⟨_, rfl⟩
      go_wp2_with fail
      (with_reducible refine (hlen.out).mono ?_)
      rintro _ w2 ⟨rfl, u2⟩
      have hI0 : Hid (At W p.N (c3 W.heap.size p c (Mi.absL b1 (L2, m2) (ks.take 0)).1 b1 (Mi.absL b1 (L2, m2) (ks.take 0)).2) F w2 ∧ MovesN W F z w2) := HKN.out w2 u2
      clear HKN u2 hlen
      go_wp2_with fail
      go_loopw [81] (fun iv wr => ∃ k : Nat, k ≤ ks.length ∧ iv = .int .i64 (k : Int) ∧ Hid (At W p.N (c3 W.heap.size p c (Mi.absL b1 (L2, m2) (ks.take k)).1 b1 (Mi.absL b1 (L2, m2) (ks.take k)).2) F wr ∧ MovesN W F z wr)) (fun iv _ => ks.length - (intOf iv).toNat)
      case atStart => exact ⟨0, Nat.zero_le _, rfl, hI0.out⟩
      case round =>
        obtain ⟨k, hk, rfl, HK⟩ := hrel
        by_cases hkt : k < ks.length
        · have hkt1 : (k : Int) < ks.length := by omega
          obtain ⟨lo, hi, hsl⟩ := HKV.out wr HK.out.2
          obtain ⟨a', cap', ev, -, hcells⟩ := hsl.open_
          rw [List.length_map] at ev
          simp only [Value.slice.injEq, true_and] at ev
          obtain ⟨rfl, rfl⟩ := ev
          rcases hcells with ⟨-, -, hnil⟩ | ⟨kb, ko, rfl, -, -, -, hkc⟩
          · rw [List.map_eq_nil_iff] at hnil
            rw [hnil] at hkt; simp at hkt
          have d0 := hkc k (by rw [List.length_map]; exact hkt)
          rw [List.getElem?_map, List.getElem?_eq_getElem hkt] at d0
          have d1 : wr.cell? ⟨kb, ko + k, none⟩ = some (.string ⟨(ks[k]).toArray⟩) := d0
          have hlen := Lib.hid (at_len HK.out.1 hp.i (c3_i hp))
          obtain ⟨hll, hl2, -, -, -, -⟩ := absL_ln b1 (L2, m2) (ks.take k)
          have hsucc := Mi.absL_take b1 (L2, m2) ks k hkt
          have hkk := HKl.out _ (List.getElem_mem hkt)
          have htk : (ks.take k).length = k := by rw [List.length_take]; omega
          have hHK := HK.out
          clear HK hkc d0 hsl
          generalize Mi.absL b1 (L2, m2) (ks.take k) = X at *
          obtain ⟨Lj, mj⟩ := X
          (try dsimp only at hll)
          (try dsimp only at hl2)
          (try dsimp only at hHK)
          have hLj : Hid (Lj.length ≤ 1000000 ∧ (mj.l 2).length + 1 ≤ 1000000) := ⟨by have := hLb.out.1; omega, by have := hLb.out.2.1; omega⟩
          have HKN := Lib.hid (fun w' (u : Nw wr w') => (⟨hHK.1.nw u, hHK.2.trans (Nw.upd _ u)⟩ : At W p.N (c3 W.heap.size p c Lj b1 mj) F w' ∧ MovesN W F z w'))
          obtain ⟨kx, hkx⟩ : ∃ kx, ks[k] = kx := ⟨_, rfl⟩
          rw [hkx] at d1 hsucc hkk
          obtain ⟨y, e1, L3, hen⟩ : ∃ y e1 L3, Bk.absent Lj b1 kx b1.es.length = ((y, e1), L3) := ⟨_, _, _, rfl⟩
          have hysm := absent_sm (b := b1) (i := (b1.es.length : Int)) hLj.out.1 hkk (by have := HB1.out.1; unfold I64; omega)
          rw [hen] at hysm
          (try dsimp only at hysm)
          have hsucc2 : Hid (Mi.absL b1 (L2, m2) (ks.take (k + 1)) = (L3, if e1 = 0 then Mi.push mj 2 y else mj)) := by
            show _ = _
            rw [hsucc]
            unfold Mi.absS
            (try dsimp only)
            rw [hen]
          have HY := Lib.hid hysm
          have HEN := Lib.hid hen
          have Hkk := Lib.hid hkk
          clear hsucc hHK hysm hen hll hl2 hkx hkk htk
          go_wp2_with fail
          (with_reducible refine (hlen.out).mono ?_)
          rintro _ w2 ⟨rfl, u2⟩
          have hHK2 := HKN.out w2 u2
          have hca := at_absent hHK2.1 G.out hp.r hp.i hp.ri (c3_r hp) (c3_i hp) kx (b1.es.length : Int) (by have := HB1.out.1; unfold I64; omega) Hkk.out hLj.out.1 HEN.out
          rw [c3_book hp] at hca
          have HCA := Lib.hid hca
          have MV2 := Lib.hid hHK2.2
          clear hca hHK2 u2 hlen
          go_wp2_with fail
          (with_reducible refine (HCA.out).mono ?_)
          rintro _ w3 ⟨rfl, ha3, mv3⟩
          have HA3 := Lib.hid ha3
          have MV3 := Lib.hid (MV2.out.trans mv3)
          clear ha3 mv3 HCA MV2 d1
          by_cases he1 : e1 = 0
          · subst he1
            obtain ⟨wa, hwa⟩ : ∃ wa, w3.alloc (sgO y) = wa := ⟨_, rfl⟩
            obtain ⟨av, cv, hall, q4, hto, hgw1, hgw2⟩ := feed_app hp HA3.out (i := 2) (by decide) HY.out hLj.out.2 hwa
            have HWA : Hid (w3.alloc (.cells #[.int .i64 y.key, .string ⟨y.text.toArray⟩, .int .i64 y.mark] tSigned) = wa) := hwa
            (try dsimp only [Nat.reduceAdd] at hall hto)
            have HSall := Lib.hid hall
            have Hto := Lib.hid hto
            have HSd := hall wa.drew (Upd.refl _ _).drew
            have HSa := fun o => hall (wa.drew.alloc o) ((Upd.refl _ _).drew.alloc o)
            have Q4 := Lib.hid q4
            have HGW := Lib.hid (And.intro hgw1 hgw2)
            have HNn : Hid ((mj.l 2).length + 1 ≤ maxLen ∧ ((mj.l 2).length + 1) * 32 ≤ 140737488355328) := ⟨by have := hLj.out.2; unfold maxLen; omega, by have := hLj.out.2; omega⟩
            clear hall q4 hto hgw1 hgw2 hwa
            go_upto_region 17 with fail
            rw [HWA.out]
            refine wp_region_H 10 (fun z' => z'.cell? ⟨p.mb, 3, none⟩ = some (.slice av (mj.l 2).length cv) ∧ z'.cell? ⟨w3.heap.size, 0, none⟩ = some (.int .i64 y.key) ∧ z'.cell? ⟨w3.heap.size, 1, none⟩ = some (.string ⟨y.text.toArray⟩) ∧ z'.cell? ⟨w3.heap.size, 2, none⟩ = some (.int .i64 y.mark)) (fun _ => True) (by kernel_rfl) ?_
            refine wpAnyH_pure (i := 0) (v := ?_) rfl (by kernel_rfl) (by kernel_rfl) (by kernel_rfl) (by kernel_rfl) (by kernel_rfl) (fun _ _ _ h => h) (by rfl) ?_ (⟨fun _ => HSd.1, trivial⟩) ?_
            rotate_left 1
            · (intro zz; go_simp; first | done | with_reducible rfl)
            (try simp only [Act.put, List.setIfInBounds_toArray, List.set_cons_zero, List.set_cons_succ])
            refine wpAnyH_pure (i := 1) (v := ?_) rfl (by kernel_rfl) (by kernel_rfl) (by kernel_rfl) (by kernel_rfl) (by kernel_rfl) (fun _ _ _ h => h) (by rfl) ?_ (⟨fun _ => HSd.1, trivial⟩) ?_
            rotate_left 1
            · (intro zz; go_simp; first | done | with_reducible rfl)
            (try simp only [Act.put, List.setIfInBounds_toArray, List.set_cons_zero, List.set_cons_succ])
            refine wpAnyH_pure (i := 2) (v := ?_) rfl (by kernel_rfl) (by kernel_rfl) (by kernel_rfl) (by kernel_rfl) (by kernel_rfl) (fun _ _ _ h => h) (by rfl) ?_ (⟨fun _ => HSd.1, trivial⟩) ?_
            rotate_left 1
            · (intro zz; go_simp; first | done | with_reducible rfl)
            (try simp only [Act.put, List.setIfInBounds_toArray, List.set_cons_zero, List.set_cons_succ])
            refine wpAnyH_pure (i := 3) (v := ?_) rfl (by kernel_rfl) (by kernel_rfl) (by kernel_rfl) (by kernel_rfl) (by kernel_rfl) (fun _ _ _ h => h) (by rfl) ?_ (⟨fun _ => HSd.1, trivial⟩) ?_
            rotate_left 1
            · (intro zz; go_simp; first | done | with_reducible rfl)
            (try simp only [Act.put, List.setIfInBounds_toArray, List.set_cons_zero, List.set_cons_succ])
            refine wpAnyH_load1 (i := 4) (v := ?_) [] rfl (by kernel_rfl) (by kernel_rfl) (by kernel_rfl) (by kernel_rfl) (by kernel_rfl) (by kernel_rfl) (fun _ _ _ h => h) (by rfl) ?_ (⟨fun _ => HSd.1, trivial⟩) ?_
            rotate_left 1
            · (intro zz hS1 hS2; clear hS2; obtain ⟨_, _, _, _⟩ := hS1; go_simp; first | done | with_reducible rfl)
            (try simp only [Act.put, List.setIfInBounds_toArray, List.set_cons_zero, List.set_cons_succ])
            refine wpAnyH_load1 (i := 5) (v := ?_) [] rfl (by kernel_rfl) (by kernel_rfl) (by kernel_rfl) (by kernel_rfl) (by kernel_rfl) (by kernel_rfl) (fun _ _ _ h => h) (by rfl) ?_ (⟨fun _ => HSd.1, trivial⟩) ?_
            rotate_left 1
            · (intro zz hS1 hS2; clear hS2; obtain ⟨_, _, _, _⟩ := hS1; go_simp; first | done | with_reducible rfl)
            (try simp only [Act.put, List.setIfInBounds_toArray, List.set_cons_zero, List.set_cons_succ])
            refine wpAnyH_one (i := 6) (by kernel_rfl) rfl (fun K hK => ?_)
            go_simp
            refine hK.out _ _ ⟨fun _ => (HSa _).1, trivial⟩ ?_
            clear hK K
            (try simp only [Act.put, List.setIfInBounds_toArray, List.set_cons_zero, List.set_cons_succ])
            refine wpAnyH_one (i := 7) (by kernel_rfl) rfl (fun K hK => ?_)
            refine step_appU rfl _ _ 42 rfl W.heap.size tSigned _ 3 32 Tryz.underlying42 infoSgn rfl (by decide) (.slice av (mj.l 2).length cv) (mj.l 2).length (flatS (mj.l 2)) rfl wa (fun _ => False) Q4.out ((Upd.refl _ _).drew.alloc _) (fun _ _ e => e) _ (sgl y) rfl (heap_new _ _) rfl (by intro u hu; simp only [sgl, List.mem_cons, List.not_mem_nil, or_false] at hu; rcases hu with rfl | rfl | rfl <;> rfl) HNn.out.1 HNn.out.2 HGW.out.2 HGW.out.1 ?_
            intro gs kn ws hownS uS oS
            have uW : Upd (fun k => (Value.slice av (mj.l 2).length cv).ownBlock = some k) wa ws := Upd.trans (((Upd.refl _ _).drew).alloc _) uS
            have hS := HSall.out ws uW
            refine hK.out _ _ ⟨fun _ => hS.1, trivial⟩ ?_
            clear hK K
            (try simp only [Act.put, List.setIfInBounds_toArray, List.set_cons_zero, List.set_cons_succ])
            refine wpAnyH_pure (i := 8) (v := ?_) rfl (by kernel_rfl) (by kernel_rfl) (by kernel_rfl) (by kernel_rfl) (by kernel_rfl) (fun _ _ _ h => h) (by rfl) ?_ (⟨fun _ => hS.1, trivial⟩) ?_
            rotate_left 1
            · (intro zz; go_simp; first | done | with_reducible rfl)
            (try simp only [Act.put, List.setIfInBounds_toArray, List.set_cons_zero, List.set_cons_succ])
            refine wpAnyH_pure (i := 9) (v := ?_) rfl (by kernel_rfl) (by kernel_rfl) (by kernel_rfl) (by kernel_rfl) (by kernel_rfl) (fun _ _ _ h => h) (by rfl) ?_ (⟨fun _ => hS.1, trivial⟩) ?_
            rotate_left 1
            · (intro zz; go_simp; first | done | with_reducible rfl)
            (try simp only [Act.put, List.setIfInBounds_toArray, List.set_cons_zero, List.set_cons_succ])
            obtain ⟨⟨z1, -, -, -⟩, zf⟩ := hS
            obtain ⟨wn, hwn⟩ : ∃ wn, ws.setCell ⟨p.mb, 3, none⟩ (.slice (some ⟨gs, 0, none⟩) ((mj.l 2).length + 1) kn) = wn := ⟨_, rfl⟩
            have HN := Hto.out gs kn ws hownS uW oS
            (try dsimp only [Nat.reduceAdd] at HN)
            rw [hwn] at HN
            have HWN := Lib.hid hwn
            have HN := Lib.hid HN
            clear hwn hownS uS oS uW HSd HSa HSall Hto
            refine wpAnyH_one (i := 10) (by kernel_rfl) rfl (fun K hK => ?_)
            go_simp
            refine hK.out _ _ ⟨fun e => absurd (show true = false from e) (by decide), trivial⟩ ?_
            clear hK K
            (try simp only [Act.put, List.setIfInBounds_toArray, List.set_cons_zero, List.set_cons_succ])
            refine wpAnyH_done (by kernel_rfl) ?_ _
            rw [HWN.out]
            clear HWN z1 zf Q4
            have hz : Hid (At W p.N (c3 W.heap.size p c (Mi.absL b1 (L2, m2) (ks.take (k + 1))).1 b1 (Mi.absL b1 (L2, m2) (ks.take (k + 1))).2) F wn ∧ MovesN W F z wn) := by rw [hsucc2.out]; exact ⟨HN.out.1, MV3.out.trans HN.out.2⟩
            clear HN HA3 HGW HNn HWA
            go_wp2_with fail
            go_roundw
            case rel => exact ⟨k + 1, by omega, by go_num, hz.out⟩
            case measure => simp [intOf] <;> omega
          · have hb1 : (e1 == 0) = false := by simp [he1]
            have hz : Hid (At W p.N (c3 W.heap.size p c (Mi.absL b1 (L2, m2) (ks.take (k + 1))).1 b1 (Mi.absL b1 (L2, m2) (ks.take (k + 1))).2) F (w3.alloc (sgO y)) ∧ MovesN W F z (w3.alloc (sgO y))) := by
              rw [hsucc2.out, if_neg he1]; exact ⟨HA3.out.nw (nw_alloc _ _), MV3.out.trans (Nw.upd _ (nw_alloc _ _))⟩
            clear he1 HA3
            go_wp2_with fail
            go_roundw
            case rel => exact ⟨k + 1, by omega, by go_num, hz.out⟩
            case measure => simp [intOf] <;> omega
        · obtain rfl : k = ks.length := by omega
          have hHK := HK.out
          rw [List.take_length] at hHK
          obtain ⟨-, -, -, -, hmc, -⟩ := absL_ln b1 (L2, m2) ks
          have hmc2 : (Mi.absL b1 (L2, m2) ks).2.cs = m1.cs := hmc.trans hLb.out.2.2
          clear HK hmc
          generalize Mi.absL b1 (L2, m2) ks = X at *
          obtain ⟨L3, m3⟩ := X
          (try dsimp only at hHK)
          (try dsimp only at hmc2)
          obtain ⟨x3, ex3, hx3, hto3⟩ := at_mirOpen hHK.1 hp.k (c3_k hp)
          obtain ⟨-, -, -, -, c4⟩ := hx3.cells
          have f4 := cells_frozen hx3.blk 4
          obtain ⟨ac, kc, es4⟩ := own_slG hx3.cown
          rw [ex3] at c4 f4
          rw [es4, hmc2] at c4
          have hmcl : (m1.cs.length : Int) ≤ 1000000 := by have := hx3.len.2; rw [hmc2] at this; omega
          have hcsl : (cs.length : Int) ≤ 1000000 := by have := HC.out.1; omega
          by_cases hgrow : m1.cs.length < cs.length
          · have hg1 : (m1.cs.length : Int) < cs.length := by omega
            have hr : Hid (Mi.feed L b m ks cs now = (0, L3, b1, { m3 with cs := cs })) := by show _ = _; rw [hf4.out, if_pos hgrow]
            have hcl := Lib.hid (clone_m Bc _ cs wr (G.out.upd hHK.1.nw0) (HCV.out wr hHK.2) HC.out.1)
            have Hto3 : Hid (∀ ws v', ws.ownsRow wr.heap.size tStrM 1 v' cs.length (cs.map bsM) → Nw wr ws → At W p.N (c3 W.heap.size p c L3 b1 { m3 with cs := cs }) F (ws.setCell ⟨p.mb, 4, none⟩ v') ∧ MovesN W F z (ws.setCell ⟨p.mb, 4, none⟩ v')) := by
              intro ws v' ho u
              have t := hto3 _ _ (mir_contents hx3 HC.out.1 HC.out.2 ho u)
              rw [ex3, c3_mir] at t
              exact ⟨t.1, hHK.2.trans t.2⟩
            have HX3 : Hid (∀ ws, Nw wr ws → (ws.cell? ⟨p.mb, 4, none⟩ = some (.slice ac m1.cs.length kc)) ∧ ws.frozen? ⟨p.mb, 4, none⟩ = false) := by
              intro ws u
              have h4 := (hx3.nw u)
              have q4 := h4.cells.2.2.2.2
              have q5 := cells_frozen h4.blk 4
              rw [ex3] at q4 q5
              rw [es4, hmc2] at q4
              exact ⟨q4, q5⟩
            clear hf4 hgrow hto3 hx3 ex3 es4 hHK
            go_wp2_with fail
            (with_reducible refine (hcl.out).mono ?_)
            rintro _ w5 ⟨v5, rfl, o5, u5⟩
            obtain ⟨av5, kv5, rfl⟩ := own_slG o5
            obtain ⟨q4, q5⟩ := HX3.out w5 u5
            have HZ := Lib.hid (Hto3.out w5 _ o5 u5)
            clear o5 u5 Hto3 HX3 hcl c4 f4
            go_wp2_with fail
            go_ret
            rw [hr.out]
            exact ⟨rfl, HZ.out⟩
          · have hg1 : ¬ (m1.cs.length : Int) < cs.length := by omega
            have hr : Hid (Mi.feed L b m ks cs now = (0, L3, b1, m3)) := by show _ = _; rw [hf4.out, if_neg hgrow]
            have HZ := Lib.hid hHK
            clear hf4 hgrow hto3 hx3 ex3 es4 hHK
            go_wp2_with fail
            go_ret
            rw [hr.out]
            exact ⟨rfl, HZ.out⟩
end
end Go.Proofs.YtagmlemlagbfkaaGreatDoor
