/- The contract of the mirror's Feed. -/
import Derived.Test.YtkhdnfmnnapjlaaDoorMirB
import Derived.Test.YtkhdnfmnnapjlaaDoorOrd2
import Derived.WalkMore
namespace Go.Proofs.YtkhdnfmnnapjlaaDoor
open Go.RowKit
set_option linter.unusedVariables false
set_option linter.unusedSimpArgs false
attribute [local irreducible] Calls

set_option maxRecDepth 100000 in
theorem clone_m (B : Nat) (v : Value) (L : List (List UInt8)) (w : World) (g : Gl w) (h : w.ownsRow B tStrM 1 v L.length (L.map bsM)) (hL : L.length ≤ 1000000) :
    Calls Tryd.prog 40 #[v] w fun e w' => ∃ v', e = .returned v' ∧ w'.ownsRow w.heap.size tStrM 1 v' L.length (L.map bsM) ∧ Nw w w' := by
  have hgb := g.big
  have h' := h
  have HL := Lib.hid hL; clear hL
  have hnil := fun (w : World) (a : Option Addr) (n c : Nat) => Lib.run_eql_slice_nil (P := Tryd.prog) w 49 _ a n c 0 0 Tryd.underlying49
  rcases h.2 with ⟨rfl, hn⟩ | ⟨gg, cap, cur, rfl, _, _, _⟩
  · have hn' := Lib.hid hn
    obtain rfl : L = [] := List.length_eq_zero_iff.1 hn
    clear h h' hn
    go_enter Tryd.func40, Tryd.ntmps40
    go_wp2_with fail
    go_ret
    exact ⟨_, rfl, ⟨by simp, Or.inl ⟨rfl, rfl⟩⟩, Upd.refl _ _⟩
  · have Hn := Lib.hid (h'.alloc (.cells #[] tStrM))
    clear h h'
    have n1 := nw_alloc w (.cells #[] tStrM)
    have o1 := owns_empty w tStrM 1
    go_enter Tryd.func40, Tryd.ntmps40
    go_wp2_with (at_builtin; refine wpList_cat rfl _ _ 49 rfl w.heap.size B tStrM _ 1 16 Tryd.underlying49 infoStrM rfl (by decide) _ _ _ _ _ _ rfl o1 rfl Hn.out ?c1 ?c2 ?c3 ?c4 ?_)
    case c1 => exact bsM_one L
    case c2 => have := HL.out; unfold maxLen; omega
    case c3 => have := HL.out; omega
    case c4 => simp
    intro v' w2 hown hgrow hob
    have u2 : Nw w w2 := n1.grown hgrow (fun k hk => ⟨Or.inr (hob k hk).1, by have := (hob k hk).1; omega⟩)
    go_wp2_with fail
    go_ret
    refine ⟨_, rfl, ?_, u2⟩
    simpa using hown
/-! ### What is signed is small -/
theorem sign_sm {L : List Bk.Seal} {k : Int} {t : List UInt8} (hL : L.length ≤ 1000000) (ht : t.length ≤ 1000000) : SmS (Bk.sign L k t).1 := by
  obtain ⟨h1, h2, h3, h4, h5⟩ := Vw.sign_sgn L k t
  exact ⟨by unfold I64; omega, by unfold I64; omega, by omega⟩
theorem noSgn_sm : SmS Bk.noSgn := ⟨by unfold I64; decide, by unfold I64; decide, by decide⟩
theorem head_sm {L : List Bk.Seal} {b : Bk.Book} {now : Int} (hL : L.length ≤ 1000000) (hb : b.es.length ≤ 200000) (hn : I64 now) : SmS (Bk.head L b now).1.1 := by
  unfold Bk.head
  split
  · exact noSgn_sm
  split
  · exact noSgn_sm
  · exact sign_sm hL (Nat.le_trans (text_len8 _ ⟨by show I64 (1 : Int); unfold I64; decide, by show I64 ((b.es.length : Nat) : Int); unfold I64; omega, hn, by show (0 : Nat) ≤ _; omega⟩) (by decide))
theorem entry_sm {L : List Bk.Seal} {b : Bk.Book} {i : Int} (hL : L.length ≤ 1000000) (hb : ∀ t ∈ b.es, t.length ≤ 20000) (hn : I64 i) : SmS (Bk.entry L b i).1.1 := by
  unfold Bk.entry
  split
  · exact noSgn_sm
  · refine sign_sm hL (Nat.le_trans (text_len8 _ ⟨by show I64 (0 : Int); unfold I64; decide, hn, by show I64 (0 : Int); unfold I64; decide, ?_⟩) (by decide))
    show (b.es.getD i.toNat []).length ≤ _
    rw [List.getD_eq_getElem?_getD]
    cases e : b.es[i.toNat]? with
    | none => show (0 : Nat) ≤ _; omega
    | some s => show s.length ≤ _; have := hb s (List.mem_of_getElem? e); omega
theorem absent_sm {L : List Bk.Seal} {b : Bk.Book} {k : List UInt8} {i : Int} (hL : L.length ≤ 1000000) (hk : k.length ≤ 1000000) (hn : I64 i) : SmS (Bk.absent L b k i).1.1 := by
  unfold Bk.absent
  split
  · exact noSgn_sm
  split
  · exact noSgn_sm
  · exact sign_sm hL (Nat.le_trans (text_len8 _ ⟨by show I64 (2 : Int); unfold I64; decide, hn, by show I64 (0 : Int); unfold I64; decide, by show k.length ≤ _; omega⟩) (by decide))
theorem entry_ln (L : List Bk.Seal) (b : Bk.Book) (i : Int) : (Bk.entry L b i).2.length ≤ L.length + 1 := by
  unfold Bk.entry
  split
  · exact Nat.le_succ _
  · exact Vw.sign_len _ _ _
theorem head_ln (L : List Bk.Seal) (b : Bk.Book) (now : Int) : (Bk.head L b now).2.1.length ≤ L.length + 1 ∧ (Bk.head L b now).2.2.es = b.es := by
  unfold Bk.head
  split
  · exact ⟨Nat.le_succ _, rfl⟩
  split
  · exact ⟨Nat.le_succ _, rfl⟩
  · exact ⟨Vw.sign_len _ _ _, rfl⟩
theorem absent_ln (L : List Bk.Seal) (b : Bk.Book) (k : List UInt8) (i : Int) : (Bk.absent L b k i).2.length ≤ L.length + 1 := by
  unfold Bk.absent
  split
  · exact Nat.le_succ _
  split
  · exact Nat.le_succ _
  · exact Vw.sign_len _ _ _
theorem entL_ln (L : List Bk.Seal) (b : Bk.Book) (m : Mi.Mir) (i n : Nat) : (Mi.entL L b m i n).1.length ≤ L.length + n := by
  induction n with
  | zero => exact Nat.le_refl _
  | succ n ih =>
    have := entry_ln (Mi.entL L b m i n).1 b (i + n)
    show (Bk.entry (Mi.entL L b m i n).1 b (i + n)).2.length ≤ _
    omega
theorem absL_ln (b : Bk.Book) (x : List Bk.Seal × Mi.Mir) (ks : List (List UInt8)) : (Mi.absL b x ks).1.length ≤ x.1.length + ks.length ∧ ((Mi.absL b x ks).2.l 2).length ≤ (x.2.l 2).length + ks.length ∧ (Mi.absL b x ks).2.l 0 = x.2.l 0 ∧ (Mi.absL b x ks).2.l 1 = x.2.l 1 ∧ (Mi.absL b x ks).2.cs = x.2.cs ∧ (Mi.absL b x ks).2.mode = x.2.mode := by
  induction ks generalizing x with
  | nil => exact ⟨Nat.le_refl _, Nat.le_refl _, rfl, rfl, rfl, rfl⟩
  | cons k ks ih =>
    obtain ⟨i1, i2, i3, i4, i5, i6⟩ := ih (Mi.absS b x k)
    have h1 := absent_ln x.1 b k b.es.length
    have e : Mi.absL b x (k :: ks) = Mi.absL b (Mi.absS b x k) ks := rfl
    rw [e]
    have e1 : (Mi.absS b x k).1 = (Bk.absent x.1 b k b.es.length).2 := rfl
    rw [e1] at i1
    rw [List.length_cons]
    have e2 : ((Mi.absS b x k).2.l 2).length ≤ (x.2.l 2).length + 1 ∧ (Mi.absS b x k).2.l 0 = x.2.l 0 ∧ (Mi.absS b x k).2.l 1 = x.2.l 1 ∧ (Mi.absS b x k).2.cs = x.2.cs ∧ (Mi.absS b x k).2.mode = x.2.mode := by
      unfold Mi.absS
      dsimp only
      split
      · rw [Mi.push_self, Mi.push_ne _ _ (by decide), Mi.push_ne _ _ (by decide), List.length_append]
        exact ⟨Nat.le_refl _, rfl, rfl, rfl, rfl⟩
      · exact ⟨Nat.le_succ _, rfl, rfl, rfl, rfl⟩
    exact ⟨by omega, by omega, i3.trans e2.2.1, i4.trans e2.2.2.1, i5.trans e2.2.2.2.1, i6.trans e2.2.2.2.2⟩
/-! ### A ring, a book, a mirror among the things -/
structure FdI where
  N : Nat
  r : Nat
  i : Nat
  k : Nat
  rb : Nat
  bb : Nat
  mb : Nat
structure FdI.Ok (p : FdI) : Prop where
  r : p.r < p.N
  i : p.i < p.N
  k : p.k < p.N
  ri : p.r ≠ p.i
  rk : p.r ≠ p.k
  ik : p.i ≠ p.k
def c3 (B : Nat) (p : FdI) (c : Nat → Res) (Lr : List Bk.Seal) (b : Bk.Book) (m : Mi.Mir) : Nat → Res := setC (setC (setC c p.r (RingC B p.rb Lr)) p.i (BookC B p.bb p.rb b)) p.k (MirC B p.mb m)
section
variable {B : Nat} {p : FdI} {c : Nat → Res} {Lr L' : List Bk.Seal} {b b' : Bk.Book} {m m' : Mi.Mir}
theorem c3_r (hp : p.Ok) : c3 B p c Lr b m p.r = RingC B p.rb Lr := by unfold c3; rw [setC_ne _ _ hp.rk, setC_ne _ _ hp.ri, setC_self]
theorem c3_i (hp : p.Ok) : c3 B p c Lr b m p.i = BookC B p.bb p.rb b := by unfold c3; rw [setC_ne _ _ hp.ik, setC_self]
theorem c3_k (hp : p.Ok) : c3 B p c Lr b m p.k = MirC B p.mb m := by unfold c3; rw [setC_self]
theorem c3_book (hp : p.Ok) : setC (setC (c3 B p c Lr b m) p.r (RingC B p.rb L')) p.i (BookC B p.bb p.rb b') = c3 B p c L' b' m := by
  unfold c3
  rw [setC_comm _ _ _ (Ne.symm hp.rk), setC_comm _ _ _ (Ne.symm hp.ik), setC_comm _ _ _ (Ne.symm hp.ri), setC_setC, setC_setC]
theorem c3_mir : setC (c3 B p c Lr b m) p.k (MirC B p.mb m') = c3 B p c Lr b m' := by unfold c3; rw [setC_setC]
theorem c3_self (hr : c p.r = RingC B p.rb Lr) (hi : c p.i = BookC B p.bb p.rb b) (hk : c p.k = MirC B p.mb m) : c3 B p c Lr b m = c := by
  unfold c3
  rw [← hr, setC_id, ← hi, setC_id, ← hk, setC_id]
end
section
variable {W : World} {N : Nat} {c : Nat → Res} {F : Nat → Prop} {z : World} {mb : Nat} {m : Mi.Mir} {i : Nat}
theorem at_mirOpen (h : At W N c F z) (hi : i < N) (ei : c i = MirC W.heap.size mb m) : ∃ x : MirR, x.mb = mb ∧ MirAt W.heap.size z x m ∧
    ∀ m' z', MirTo W.heap.size x m' z z' → At W N (setC c i (MirC W.heap.size mb m')) F z' ∧ MovesN W F z z' := by
  obtain ⟨f, h⟩ := h
  have hf := h.2.2.1 i hi
  rw [ei] at hf
  obtain ⟨x, a, b, e⟩ := hf
  refine ⟨x, a, b, fun m' z' t => ?_⟩
  obtain ⟨x', t1, t2, t3, t4⟩ := t
  refine h.turn hi (MirC.stab _ _ _) ⟨x'.foot, ⟨x', t1.trans a, t2, rfl⟩, by rw [e]; exact t3, fun j hj => by rw [e]; exact t4 j hj⟩
end
abbrev sgO (s : Bk.Sgn) : Obj := .cells #[.int .i64 s.key, .string ⟨s.text.toArray⟩, .int .i64 s.mark] tSigned
theorem mir_app {B : Nat} {w wa : World} {x : MirR} {m : Mi.Mir} {i bx mb : Nat} {v : Value} {y : Bk.Sgn} (h : MirAt B w x m) (hi : i < 3) (hmb : x.mb = mb) (hx : x.sv i = v) (hbx : w.heap.size ≤ bx) (hb : wa.heap[bx]? = some (sgO y)) (u : Nw w wa) (z : World) (uz : Upd (fun k => v.ownBlock = some k) wa z) :
    (z.cell? ⟨mb, i + 1, none⟩ = some v ∧ z.cell? ⟨bx, 0, none⟩ = some (.int .i64 y.key) ∧ z.cell? ⟨bx, 1, none⟩ = some (.string ⟨y.text.toArray⟩) ∧ z.cell? ⟨bx, 2, none⟩ = some (.int .i64 y.mark)) ∧ z.frozen? ⟨mb, i + 1, none⟩ = false := by
  subst hmb hx
  have hb2 := uz.keep (Nw.keep u h.blk) (h.ne hi)
  obtain ⟨k0, k1, k2⟩ := cell3 (uz.keep hb (fun e => by
    have := (h.foot_lt (Or.inr (Or.inl ⟨i, hi, e⟩))).2; omega))
  refine ⟨⟨?_, k0, k1, k2⟩, cells_frozen hb2 (i + 1)⟩
  rw [cells_cell hb2]
  obtain rfl | rfl | rfl : i = 0 ∨ i = 1 ∨ i = 2 := by omega
  all_goals rfl
end Go.Proofs.YtkhdnfmnnapjlaaDoor
