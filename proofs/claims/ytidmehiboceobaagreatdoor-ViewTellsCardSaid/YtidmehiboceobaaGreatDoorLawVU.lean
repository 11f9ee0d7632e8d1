/- The program's ring and view and the reference's, side by side: what each call leaves of them. -/
import Derived.Test.YtidmehiboceobaaGreatDoorLawKp
import Derived.Test.YtidmehiboceobaaGreatDoorVCopy
import Derived.Test.YtidmehiboceobaaGreatDoorRefW
import Derived.Test.YtidmehiboceobaaGreatDoorRefZ
namespace Go.Proofs.YtidmehiboceobaaGreatDoor
open Go.RowKit
set_option linter.unusedVariables false
set_option linter.unusedSimpArgs false
attribute [local irreducible] Calls

theorem nodup_le {l m : List Nat} (hn : l.Nodup) (hs : ∀ x ∈ l, x ∈ m) : l.length ≤ m.length := by
  induction l generalizing m with
  | nil => exact Nat.zero_le _
  | cons a t ih =>
    have ha := hs a (List.mem_cons_self ..)
    have hn2 := List.nodup_cons.1 hn
    have h := ih hn2.2 (m := m.erase a) (fun x hx => (List.mem_erase_of_ne (fun e : x = a => hn2.1 (by subst e; exact hx))).2 (hs x (List.mem_cons_of_mem _ hx)))
    rw [List.length_erase_of_mem ha] at h
    have := List.length_pos_of_mem ha
    simp only [List.length_cons]; omega
theorem vok_len {Lr : List Bk.Seal} {key : Int} {L : List Bk.Sgn} (hn : Lr.Nodup) (h : Vw.VOk Lr key L) : L.length ≤ Lr.length := by
  have hnd : (L.map (fun s => s.mark.toNat)).Nodup := by
    refine List.pairwise_map.2 (List.Pairwise.imp_of_mem ?_ h.nodup)
    intro a b ha hb hne e
    obtain ⟨va, ka, _⟩ := h.each a ha
    obtain ⟨vb, kb, _⟩ := h.each b hb
    have la := Vw.valid_lt va
    have lb := Vw.valid_lt vb
    have ea := valid_at hn (s := a) (m := a.mark.toNat) (by omega)
    have eb := valid_at hn (s := b) (m := a.mark.toNat) (by omega)
    rw [va] at ea
    rw [vb] at eb
    have ea := of_decide_eq_true ea.symm
    have eb := of_decide_eq_true eb.symm
    rw [ea] at eb
    injection eb with eb
    injection eb with _ et
    exact hne (Vw.valid_mark va vb (ka.trans kb.symm) et)
  have := nodup_le hnd (m := List.range Lr.length) (fun x hx => by
    obtain ⟨s, hs, rfl⟩ := List.mem_map.1 hx
    have := Vw.valid_lt (h.each s hs).1
    exact List.mem_range.2 (by omega))
  simpa using this
theorem vok_text9 {Lr : List Bk.Seal} {key : Int} {L : List Bk.Sgn} (hk : Bk.isKey key = true) (hl : Lr.length ≤ 1000000) (h : Vw.VOk Lr key L) : ∀ s ∈ L, SgnOk s ∧ s.text.length ≤ 100000 := fun s hs =>
  valid_ok hk hl (h.each s hs).1 (h.each s hs).2.1 (h.each s hs).2.2
theorem vok_log {Lr : List Bk.Seal} {key : Int} {L : List Bk.Sgn} (h : Vw.VOk Lr key L) : ∀ s ∈ L, Vw.isLog s.text = true := fun s hs => (h.each s hs).2.2
/-- The program's ring with all that was signed, the reference's ring, the slice of signatures. -/
def VT0 (W : World) (rb qb : Nat) (Lr : List Bk.Seal) (sv : Value) (S : List Bk.Sgn) (Lq : List Bk.Seal) (z : World) : Prop :=
  ∃ q qq, q.rb = rb ∧ qq.qb = qb ∧ RingAt W.heap.size z q Lr ∧ QRingAt W.heap.size z qq Lq ∧ z.ownsRow W.heap.size tSigned 3 sv S.length (flatS S) ∧ (∀ j, q.foot j → ¬ qq.foot j) ∧ (∀ j, sv.ownBlock = some j → ¬ qq.foot j) ∧ Nw W z
/-- The program's ring and view, the reference's, the slice of signatures, and boxes. -/
def TK (W : World) (rb vb qb cb : Nat) (key : Int) (sv : Value) (S : List Bk.Sgn) (bx : List (Nat × Obj)) (Lr : List Bk.Seal) (L M : List Bk.Sgn) (z : World) : Prop :=
  ∃ q r qq c, q.rb = rb ∧ r.vb = vb ∧ qq.qb = qb ∧ c.cb = cb ∧ RingAt W.heap.size z q Lr ∧ ViewAt W.heap.size z r rb key L ∧ QRingAt W.heap.size z qq Lr ∧ QViewAt W.heap.size z c qb key M ∧ (Vw.VOk Lr key L ∧ Vw.VOk Lr key M ∧ Lr.Nodup ∧ Lr.length ≤ 1000000) ∧ Nw W z ∧
    z.ownsRow W.heap.size tSigned 3 sv S.length (flatS S) ∧ (∀ j, q.foot j → ¬ r.foot j ∧ ¬ c.foot j) ∧ (∀ j, qq.foot j → ¬ r.foot j ∧ ¬ c.foot j) ∧ (∀ j, r.foot j → ¬ c.foot j) ∧ (∀ j, sv.ownBlock = some j → ¬ r.foot j ∧ ¬ c.foot j) ∧ ∀ p ∈ bx, z.heap[p.1]? = some p.2 ∧ ¬ r.foot p.1 ∧ ¬ c.foot p.1
section
variable {W : World} {rb vb qb cb : Nat} {key : Int} {sv : Value} {S : List Bk.Sgn} {bx : List (Nat × Obj)} {Lr Lq : List Bk.Seal} {L M : List Bk.Sgn} {z z' : World}
theorem VT0.nw (h : VT0 W rb qb Lr sv S Lq z) : Nw W z := by obtain ⟨q, qq, _, _, _, _, _, _, _, u⟩ := h; exact u
theorem VT0.go (h : VT0 W rb qb Lr sv S Lq z) (u : Nw z z') : VT0 W rb qb Lr sv S Lq z' := by
  obtain ⟨q, qq, e1, e2, h1, h2, h3, a1, a2, u0⟩ := h
  exact ⟨q, qq, e1, e2, h1.nw u, h2.nw u, owns_upd' h3 u (fun _ _ e => e), a1, a2, u0.trans u⟩
theorem vt0_sign (h : VT0 W rb qb Lr sv S Lq z) (g : Gl z) (k : Int) (t : List UInt8) (hk : I64 k) (ht : t.length ≤ 1000000) (hl : Lq.length ≤ 1000000) :
    Calls Tryz.prog 19 #[.pointer (some ⟨qb, 0, none⟩), .int .i64 k, .string ⟨t.toArray⟩] z fun e w' => e = .returned (.agg #[.int .i64 (Bk.sign Lq k t).1.key, .string ⟨(Bk.sign Lq k t).1.text.toArray⟩, .int .i64 (Bk.sign Lq k t).1.mark]) ∧ VT0 W rb qb Lr sv S (Bk.sign Lq k t).2 w' := by
  obtain ⟨q, qq, rfl, rfl, h1, h2, h3, a1, a2, u0⟩ := h
  refine (sign_q W.heap.size qq Lq k t z g h2 hk (by omega) hl u0.size).mono ?_
  rintro e w' ⟨q', rfl, c1, c2, u, hf⟩
  refine ⟨rfl, q, q', rfl, c2, h1.upd u a1, c1, owns_upd' h3 u a2, fun j hj e => ?_, fun j hj e => ?_, u0.trans' u (fun j hj e => by have := (h2.foot_lt e).1; omega)⟩
  · rcases hf j e with e2 | e2
    · exact a1 j hj e2
    · have := (h1.foot_lt hj).2; omega
  · rcases hf j e with e2 | e2
    · exact a2 j hj e2
    · obtain ⟨_, cs, e3⟩ := own_block h3 hj
      have := lt_of_block e3; omega
theorem TK.first {r : ViewR} {c : QView} {z1 z2 : World} (h : VT0 W rb qb Lr sv S Lr z) (hn : Lr.Nodup) (hl : Lr.length ≤ 1000000) (u1 : Nw z z1) (hr : ViewAt z.heap.size z1 r rb key []) (u2 : Nw z1 z2) (hc : QViewAt z1.heap.size z2 c qb key []) : TK W rb r.vb qb c.cb key sv S [] Lr [] [] z2 := by
  obtain ⟨q, qq, rfl, rfl, h1, h2, h3, a1, a2, u0⟩ := h
  have s0 := u0.size
  have s1 := u1.size
  refine ⟨q, r, qq, c, rfl, rfl, rfl, rfl, (h1.nw u1).nw u2, (hr.nw u2).base s0 h1.hb, (h2.nw u1).nw u2, hc.base (by omega) h1.hb, ⟨Vw.VOk.nil _ _, Vw.VOk.nil _ _, hn, hl⟩, (u0.trans u1).trans u2, owns_upd' (owns_upd' h3 u1 (fun _ _ e => e)) u2 (fun _ _ e => e), fun j hj => ?_, fun j hj => ?_, fun j hj e => ?_, fun j hj => ?_, fun p hp => by cases hp⟩
  · have := (h1.foot_lt hj).2
    exact ⟨fun e => by have := (hr.foot_lt e).1; omega, fun e => by have := (hc.foot_lt e).1; omega⟩
  · have := (h2.foot_lt hj).2
    exact ⟨fun e => by have := (hr.foot_lt e).1; omega, fun e => by have := (hc.foot_lt e).1; omega⟩
  · have := (hr.foot_lt hj).2; have := (hc.foot_lt e).1; omega
  · obtain ⟨_, cs, e3⟩ := own_block h3 hj
    have := lt_of_block e3
    exact ⟨fun e => by have := (hr.foot_lt e).1; omega, fun e => by have := (hc.foot_lt e).1; omega⟩
theorem TK.nw (h : TK W rb vb qb cb key sv S bx Lr L M z) : Nw W z := by
  obtain ⟨q, r, qq, c, _, _, _, _, _, _, _, _, _, u, _⟩ := h; exact u
theorem TK.oks (h : TK W rb vb qb cb key sv S bx Lr L M z) : Vw.VOk Lr key L ∧ Vw.VOk Lr key M ∧ Lr.Nodup ∧ Lr.length ≤ 1000000 := by
  obtain ⟨q, r, qq, c, _, _, _, _, _, _, _, _, o, _⟩ := h; exact o
theorem TK.row (h : TK W rb vb qb cb key sv S bx Lr L M z) : z.ownsRow W.heap.size tSigned 3 sv S.length (flatS S) := by
  obtain ⟨q, r, qq, c, _, _, _, _, _, _, _, _, o, _, w, _⟩ := h; exact w
theorem TK.keyOk (h : TK W rb vb qb cb key sv S bx Lr L M z) : Bk.isKey key = true := by
  obtain ⟨q, r, qq, c, _, _, _, _, _, h2, _⟩ := h; exact h2.key
theorem TK.at (h : TK W rb vb qb cb key sv S bx Lr L M z) (i : Nat) {p : Nat × Obj} (hi : bx[i]? = some p) : z.heap[p.1]? = some p.2 := by
  obtain ⟨q, r, qq, c, _, _, _, _, _, _, _, _, _, _, _, _, _, _, _, hb⟩ := h
  exact (hb p (List.mem_of_getElem? hi)).1
theorem TK.go (h : TK W rb vb qb cb key sv S bx Lr L M z) (u : Nw z z') : TK W rb vb qb cb key sv S bx Lr L M z' := by
  obtain ⟨q, r, qq, c, e0, e1, e2, e3, h1, h2, h3, h4, o, n, w, a1, a2, a3, a4, hb⟩ := h
  exact ⟨q, r, qq, c, e0, e1, e2, e3, h1.nw u, h2.nw u, h3.nw u, h4.nw u, o, n.trans u, owns_upd' w u (fun _ _ e => e), a1, a2, a3, a4, fun p hp => ⟨Nw.keep u (hb p hp).1, (hb p hp).2⟩⟩
theorem TK.drop (h : TK W rb vb qb cb key sv S bx Lr L M z) : TK W rb vb qb cb key sv S [] Lr L M z := by
  obtain ⟨q, r, qq, c, e0, e1, e2, e3, h1, h2, h3, h4, o, n, w, a1, a2, a3, a4, hb⟩ := h
  exact ⟨q, r, qq, c, e0, e1, e2, e3, h1, h2, h3, h4, o, n, w, a1, a2, a3, a4, fun p hp => by cases hp⟩
theorem TK.box (h : TK W rb vb qb cb key sv S bx Lr L M z) (b : Obj) : TK W rb vb qb cb key sv S ((z.heap.size, b) :: bx) Lr L M (z.alloc b) := by
  obtain ⟨q, r, qq, c, e0, e1, e2, e3, h1, h2, h3, h4, o, n, w, a1, a2, a3, a4, hb⟩ := h
  have u := nw_alloc z b
  refine ⟨q, r, qq, c, e0, e1, e2, e3, h1.nw u, h2.nw u, h3.nw u, h4.nw u, o, n.trans u, owns_upd' w u (fun _ _ e => e), a1, a2, a3, a4, fun p hp => ?_⟩
  rcases List.mem_cons.1 hp with rfl | hp
  · exact ⟨heap_new z b, fun e => by have := (h2.foot_lt e).2; dsimp only at this; omega, fun e => by have := (h4.foot_lt e).2; dsimp only at this; omega⟩
  · exact ⟨Nw.keep u (hb p hp).1, (hb p hp).2⟩
theorem tk_acc (h : TK W rb vb qb cb key sv S bx Lr L M z) (g : Gl z) (s : Bk.Sgn) (hs : SgnOk s) (hL : L.length ≤ 900000) {ea : Int} {L' : List Bk.Sgn} (e : Vw.accept Lr key L s = (ea, L')) :
    Calls Tryz.prog 14 #[.pointer (some ⟨vb, 0, none⟩), .agg #[.int .i64 s.key, .string ⟨s.text.toArray⟩, .int .i64 s.mark]] z fun e w' => e = .returned (.int .i64 ea) ∧ TK W rb vb qb cb key sv S bx Lr L' M w' := by
  obtain ⟨q, r, qq, c, rfl, rfl, rfl, rfl, h1, h2, h3, h4, o, n, w, a1, a2, a3, a4, hb⟩ := h
  refine (accept_v _ _ r q key Lr L s z g h1 h2 o.1 hs n.size hL).mono ?_
  rintro _ w' ⟨r', rfl, c1, c2, u, hf⟩
  have ho := Vw.accept_ok o.1 s
  rw [e] at c1 ho ⊢
  have k : ∀ j, j < z.heap.size → ¬ r.foot j → ¬ r'.foot j := fun j hj hn e => (hf j e).elim hn (fun e2 => by omega)
  exact ⟨rfl, q, r', qq, c, rfl, c2, rfl, rfl, h1.upd u (fun j hj => (a1 j hj).1), c1, h3.upd u (fun j hj => (a2 j hj).1), h4.upd u (fun j hj e => a3 j e hj), ⟨ho, o.2⟩, n.trans' u (fun j hj e => by have := (h2.foot_lt e).1; omega), owns_upd' w u (fun j hj => (a4 j hj).1), fun j hj => ⟨k j (h1.foot_lt hj).2 (a1 j hj).1, (a1 j hj).2⟩, fun j hj => ⟨k j (h3.foot_lt hj).2 (a2 j hj).1, (a2 j hj).2⟩, fun j hj e => k j (h4.foot_lt e).2 (fun e2 => a3 j e2 e) hj, fun j hj => ⟨k j (by obtain ⟨_, cs, e3⟩ := own_block w hj; exact lt_of_block e3) (a4 j hj).1, (a4 j hj).2⟩, fun p hp => ⟨u.keep (hb p hp).1 (hb p hp).2.1, k _ (lt_of_block (hb p hp).1) (hb p hp).2.1, (hb p hp).2.2⟩⟩
theorem tk_accq (h : TK W rb vb qb cb key sv S bx Lr L M z) (g : Gl z) (s : Bk.Sgn) (hs : SgnOk s) (hM : M.length ≤ 900000) {ea : Int} {M' : List Bk.Sgn} (e : Vw.accept Lr key M s = (ea, M')) :
    Calls Tryz.prog 23 #[.pointer (some ⟨cb, 0, none⟩), .agg #[.int .i64 s.key, .string ⟨s.text.toArray⟩, .int .i64 s.mark]] z fun e w' => e = .returned (.int .i64 ea) ∧ TK W rb vb qb cb key sv S bx Lr L M' w' := by
  obtain ⟨q, r, qq, c, rfl, rfl, rfl, rfl, h1, h2, h3, h4, o, n, w, a1, a2, a3, a4, hb⟩ := h
  refine (acceptv_q _ _ c qq key Lr M s z g h3 o.2.2.1 o.2.2.2 h4 (vok_log o.2.1) hs n.size hM).mono ?_
  rintro _ w' ⟨c', rfl, c1, c2, u, hf⟩
  have ho := Vw.accept_ok o.2.1 s
  rw [e] at c1 ho ⊢
  have k : ∀ j, j < z.heap.size → ¬ c.foot j → ¬ c'.foot j := fun j hj hn e => (hf j e).elim hn (fun e2 => by omega)
  exact ⟨rfl, q, r, qq, c', rfl, rfl, rfl, c2, h1.upd u (fun j hj => (a1 j hj).2), h2.upd u a3, h3.upd u (fun j hj => (a2 j hj).2), c1, ⟨o.1, ho, o.2.2⟩, n.trans' u (fun j hj e => by have := (h4.foot_lt e).1; omega), owns_upd' w u (fun j hj => (a4 j hj).2), fun j hj => ⟨(a1 j hj).1, k j (h1.foot_lt hj).2 (a1 j hj).2⟩, fun j hj => ⟨(a2 j hj).1, k j (h3.foot_lt hj).2 (a2 j hj).2⟩, fun j hj => k j (h2.foot_lt hj).2 (a3 j hj), fun j hj => ⟨(a4 j hj).1, k j (by obtain ⟨_, cs, e3⟩ := own_block w hj; exact lt_of_block e3) (a4 j hj).2⟩, fun p hp => ⟨u.keep (hb p hp).1 (hb p hp).2.2, (hb p hp).2.1, k _ (lt_of_block (hb p hp).1) (hb p hp).2.2⟩⟩
theorem tk_clash (h : TK W rb vb qb cb key sv S bx Lr L M z) (g : Gl z) (s : Bk.Sgn) (hs : SgnOk s) (hL : L.length ≤ 900000) {y : Bk.Sgn} {b : Bool} (e : Vw.clash L s = (y, b)) :
    Calls Tryz.prog 12 #[.pointer (some ⟨vb, 0, none⟩), .agg #[.int .i64 s.key, .string ⟨s.text.toArray⟩, .int .i64 s.mark]] z fun e w' => e = .returned (.tuple #[.agg #[.int .i64 y.key, .string ⟨y.text.toArray⟩, .int .i64 y.mark], .bool b]) ∧ TK W rb vb qb cb key sv S bx Lr L M w' := by
  have hg := fun z' (u : Nw z z') => h.go u
  obtain ⟨q, r, qq, c, rfl, rfl, rfl, rfl, h1, h2, h3, h4, o, n, w, a1, a2, a3, a4, hb⟩ := h
  have := clash_v _ r q.rb key L s z g h2 (vok_log o.1) hs hL
  rw [e] at this
  exact this.mono fun e w' ⟨c1, c2⟩ => ⟨c1, hg w' c2⟩
theorem tk_clashq (h : TK W rb vb qb cb key sv S bx Lr L M z) (g : Gl z) (s : Bk.Sgn) (hs : SgnOk s) (hM : M.length ≤ 900000) {y : Bk.Sgn} {b : Bool} (e : Vw.clash M s = (y, b)) :
    Calls Tryz.prog 22 #[.pointer (some ⟨cb, 0, none⟩), .agg #[.int .i64 s.key, .string ⟨s.text.toArray⟩, .int .i64 s.mark]] z fun e w' => e = .returned (.tuple #[.agg #[.int .i64 y.key, .string ⟨y.text.toArray⟩, .int .i64 y.mark], .bool b]) ∧ TK W rb vb qb cb key sv S bx Lr L M w' := by
  have hg := fun z' (u : Nw z z') => h.go u
  obtain ⟨q, r, qq, c, rfl, rfl, rfl, rfl, h1, h2, h3, h4, o, n, w, a1, a2, a3, a4, hb⟩ := h
  have := clash_q _ c qq.qb key M z g h4 (vok_log o.2.1) s hs hM
  rw [e] at this
  exact this.mono fun e w' ⟨c1, c2⟩ => ⟨c1, hg w' c2⟩
theorem tk_text (h : TK W rb vb qb cb key sv S bx Lr L M z) (i : Int) (hi : I64 i) {t : List UInt8} {b : Bool} (e : Vw.textAt L i = (t, b)) :
    Calls Tryz.prog 24 #[.pointer (some ⟨vb, 0, none⟩), .int .i64 i] z fun e w' => e = .returned (.tuple #[.string ⟨t.toArray⟩, .bool b]) ∧ TK W rb vb qb cb key sv S bx Lr L M w' := by
  have hg := fun z' (u : Nw z z') => h.go u
  obtain ⟨q, r, qq, c, rfl, rfl, rfl, rfl, h1, h2, h3, h4, o, n, w, a1, a2, a3, a4, hb⟩ := h
  have := text_v _ r q.rb key L z o.1 i hi h2
  rw [e] at this
  exact this.mono fun e w' ⟨c1, c2⟩ => ⟨c1, hg w' c2⟩
theorem tk_textq (h : TK W rb vb qb cb key sv S bx Lr L M z) (g : Gl z) (i : Int) (hM : M.length ≤ 900000) {t : List UInt8} {b : Bool} (e : Vw.textAt M i = (t, b)) :
    Calls Tryz.prog 25 #[.pointer (some ⟨cb, 0, none⟩), .int .i64 i] z fun e w' => e = .returned (.tuple #[.string ⟨t.toArray⟩, .bool b]) ∧ TK W rb vb qb cb key sv S bx Lr L M w' := by
  have hg := fun z' (u : Nw z z') => h.go u
  obtain ⟨q, r, qq, c, rfl, rfl, rfl, rfl, h1, h2, h3, h4, o, n, w, a1, a2, a3, a4, hb⟩ := h
  have := textv_q _ c qq.qb key M z g h4 (vok_log o.2.1) hM i
  rw [e] at this
  exact this.mono fun e w' ⟨c1, c2⟩ => ⟨c1, hg w' c2⟩
theorem tk_abs (h : TK W rb vb qb cb key sv S bx Lr L M z) (k : List UInt8) (hk : k.length ≤ 1000000) {m : Int} {b : Bool} (e : Vw.absentOf L k = (m, b)) :
    Calls Tryz.prog 26 #[.pointer (some ⟨vb, 0, none⟩), .string ⟨k.toArray⟩] z fun e w' => e = .returned (.tuple #[.int .i64 m, .bool b]) ∧ TK W rb vb qb cb key sv S bx Lr L M w' := by
  have hg := fun z' (u : Nw z z') => h.go u
  obtain ⟨q, r, qq, c, rfl, rfl, rfl, rfl, h1, h2, h3, h4, o, n, w, a1, a2, a3, a4, hb⟩ := h
  have := absent_v _ r q.rb key L z o.1 k (by omega) h2
  rw [e] at this
  exact this.mono fun e w' ⟨c1, c2⟩ => ⟨c1, hg w' c2⟩
theorem tk_absq (h : TK W rb vb qb cb key sv S bx Lr L M z) (g : Gl z) (k : List UInt8) (hM : M.length ≤ 900000) {m : Int} {b : Bool} (e : Vw.absentOf M k = (m, b)) :
    Calls Tryz.prog 27 #[.pointer (some ⟨cb, 0, none⟩), .string ⟨k.toArray⟩] z fun e w' => e = .returned (.tuple #[.int .i64 m, .bool b]) ∧ TK W rb vb qb cb key sv S bx Lr L M w' := by
  have hg := fun z' (u : Nw z z') => h.go u
  obtain ⟨q, r, qq, c, rfl, rfl, rfl, rfl, h1, h2, h3, h4, o, n, w, a1, a2, a3, a4, hb⟩ := h
  have := absentv_q _ c qq.qb key M z g h4 (vok_log o.2.1) hM k
  rw [e] at this
  exact this.mono fun e w' ⟨c1, c2⟩ => ⟨c1, hg w' c2⟩
theorem tk_size (h : TK W rb vb qb cb key sv S bx Lr L M z) {m t : Int} (e : Vw.sizeOf L = (m, t)) :
    Calls Tryz.prog 28 #[.pointer (some ⟨vb, 0, none⟩)] z fun e w' => e = .returned (.tuple #[.int .i64 m, .int .i64 t]) ∧ TK W rb vb qb cb key sv S bx Lr L M w' := by
  have hg := fun z' (u : Nw z z') => h.go u
  obtain ⟨q, r, qq, c, rfl, rfl, rfl, rfl, h1, h2, h3, h4, o, n, w, a1, a2, a3, a4, hb⟩ := h
  have := size_v _ r q.rb key L z h2
  rw [e] at this
  exact this.mono fun e w' ⟨c1, c2⟩ => ⟨c1, hg w' c2⟩
theorem tk_sizeq (h : TK W rb vb qb cb key sv S bx Lr L M z) (g : Gl z) (hM : M.length ≤ 900000) {m t : Int} (e : Vw.sizeOf M = (m, t)) :
    Calls Tryz.prog 29 #[.pointer (some ⟨cb, 0, none⟩)] z fun e w' => e = .returned (.tuple #[.int .i64 m, .int .i64 t]) ∧ TK W rb vb qb cb key sv S bx Lr L M w' := by
  have hg := fun z' (u : Nw z z') => h.go u
  obtain ⟨q, r, qq, c, rfl, rfl, rfl, rfl, h1, h2, h3, h4, o, n, w, a1, a2, a3, a4, hb⟩ := h
  have := sizev_q _ c qq.qb key M z g h4 (vok_log o.2.1) hM
  rw [e] at this
  exact this.mono fun e w' ⟨c1, c2⟩ => ⟨c1, hg w' c2⟩
theorem tk_age (h : TK W rb vb qb cb key sv S bx Lr L M z) (i : Int) (hi : I64 i) {a : Int} (e : Vw.age L i = a) :
    Calls Tryz.prog 30 #[.pointer (some ⟨vb, 0, none⟩), .int .i64 i] z fun e w' => e = .returned (.int .i64 a) ∧ TK W rb vb qb cb key sv S bx Lr L M w' := by
  have hg := fun z' (u : Nw z z') => h.go u
  obtain ⟨q, r, qq, c, rfl, rfl, rfl, rfl, h1, h2, h3, h4, o, n, w, a1, a2, a3, a4, hb⟩ := h
  subst e
  exact (age_v _ r q.rb key L z i hi h2 (size_time o.1).2.1).mono fun e w' ⟨c1, c2⟩ => ⟨c1, hg w' c2⟩
theorem tk_ageq (h : TK W rb vb qb cb key sv S bx Lr L M z) (g : Gl z) (i : Int) (hi : I64 i) (hM : M.length ≤ 900000) {a : Int} (e : Vw.age M i = a) :
    Calls Tryz.prog 31 #[.pointer (some ⟨cb, 0, none⟩), .int .i64 i] z fun e w' => e = .returned (.int .i64 a) ∧ TK W rb vb qb cb key sv S bx Lr L M w' := by
  have hg := fun z' (u : Nw z z') => h.go u
  obtain ⟨q, r, qq, c, rfl, rfl, rfl, rfl, h1, h2, h3, h4, o, n, w, a1, a2, a3, a4, hb⟩ := h
  subst e
  exact (agev_q _ c qq.qb key M z g h4 (vok_log o.2.1) hM i hi (size_time o.2.1).2.1).mono fun e w' ⟨c1, c2⟩ => ⟨c1, hg w' c2⟩
theorem tk_known (h : TK W rb vb qb cb key sv S bx Lr L M z) (i : Int) (hi : I64 i) (hL : L.length ≤ 900000) {a : Bool} (e : Vw.known L i = a) :
    Calls Tryz.prog 32 #[.pointer (some ⟨vb, 0, none⟩), .int .i64 i] z fun e w' => e = .returned (.bool a) ∧ TK W rb vb qb cb key sv S bx Lr L M w' := by
  have hg := fun z' (u : Nw z z') => h.go u
  obtain ⟨q, r, qq, c, rfl, rfl, rfl, rfl, h1, h2, h3, h4, o, n, w, a1, a2, a3, a4, hb⟩ := h
  subst e
  exact (known_v _ r q.rb key L z o.1 i hi h2 (by omega)).mono fun e w' ⟨c1, c2⟩ => ⟨c1, hg w' c2⟩
theorem tk_knownq (h : TK W rb vb qb cb key sv S bx Lr L M z) (g : Gl z) (i : Int) (hi : I64 i) (hM : M.length ≤ 900000) {a : Bool} (e : Vw.known M i = a) :
    Calls Tryz.prog 33 #[.pointer (some ⟨cb, 0, none⟩), .int .i64 i] z fun e w' => e = .returned (.bool a) ∧ TK W rb vb qb cb key sv S bx Lr L M w' := by
  have hg := fun z' (u : Nw z z') => h.go u
  obtain ⟨q, r, qq, c, rfl, rfl, rfl, rfl, h1, h2, h3, h4, o, n, w, a1, a2, a3, a4, hb⟩ := h
  subst e
  exact (knownv_q _ c qq.qb key M z g h4 (vok_log o.2.1) hM i hi).mono fun e w' ⟨c1, c2⟩ => ⟨c1, hg w' c2⟩
theorem tk_bytes (h : TK W rb vb qb cb key sv S bx Lr L M z) (g : Gl z) (hL : L.length ≤ 900000) {t : List UInt8} (e : Vw.bytesOf key L = t) :
    Calls Tryz.prog 13 #[.pointer (some ⟨vb, 0, none⟩)] z fun e w' => e = .returned (.string ⟨t.toArray⟩) ∧ TK W rb vb qb cb key sv S bx Lr L M w' := by
  have hg := fun z' (u : Nw z z') => h.go u
  obtain ⟨q, r, qq, c, rfl, rfl, rfl, rfl, h1, h2, h3, h4, o, n, w, a1, a2, a3, a4, hb⟩ := h
  subst e
  exact (bytes_v _ r q.rb key L z g h2 (vok_text9 h2.key o.2.2.2 o.1) hL).mono fun e w' ⟨c1, c2⟩ => ⟨c1, hg w' c2⟩
theorem tk_bytesq (h : TK W rb vb qb cb key sv S bx Lr L M z) (g : Gl z) (hM : M.length ≤ 900000) {t : List UInt8} (e : Vw.bytesOf key M = t) :
    Calls Tryz.prog 34 #[.pointer (some ⟨cb, 0, none⟩)] z fun e w' => e = .returned (.string ⟨t.toArray⟩) ∧ TK W rb vb qb cb key sv S bx Lr L M w' := by
  have hg := fun z' (u : Nw z z') => h.go u
  obtain ⟨q, r, qq, c, rfl, rfl, rfl, rfl, h1, h2, h3, h4, o, n, w, a1, a2, a3, a4, hb⟩ := h
  subst e
  exact (bytesv_q _ c qq.qb key M z g h4 (vok_text9 h2.key o.2.2.2 o.2.1) hM).mono fun e w' ⟨c1, c2⟩ => ⟨c1, hg w' c2⟩
theorem tk_key (h : TK W rb vb qb cb key sv S bx Lr L M z) : Calls Tryz.prog 35 #[.pointer (some ⟨vb, 0, none⟩)] z fun e w' => e = .returned (.int .i64 key) ∧ TK W rb vb qb cb key sv S bx Lr L M w' := by
  have hg := fun z' (u : Nw z z') => h.go u
  obtain ⟨q, r, qq, c, rfl, rfl, rfl, rfl, h1, h2, h3, h4, o, n, w, a1, a2, a3, a4, hb⟩ := h
  exact (key_v _ r q.rb key L z h2).mono fun e w' ⟨c1, c2⟩ => ⟨c1, hg w' c2⟩
theorem tk_claims (h : TK W rb vb qb cb key sv S bx Lr L M z) (g : Gl z) (hL : L.length ≤ 900000) :
    Calls Tryz.prog 17 #[.pointer (some ⟨vb, 0, none⟩)] z fun e w' => ∃ a cap, e = .returned (.slice a L.length cap) ∧ TK W rb vb qb cb key sv S bx Lr L M w' ∧ w'.ownsRow W.heap.size tSigned 3 (.slice a L.length cap) L.length (flatS L) := by
  have hn := h.nw.size
  have hg := fun z' (u : Nw z z') => h.go u
  obtain ⟨q, r, qq, c, rfl, rfl, rfl, rfl, h1, h2, h3, h4, o, n, w, a1, a2, a3, a4, hb⟩ := h
  refine (claims_v _ r q.rb key L z g h2 (by omega)).mono ?_
  rintro e w' ⟨v', rfl, ho, u⟩
  obtain ⟨a, cap, rfl⟩ := own_sl ho
  exact ⟨a, cap, rfl, hg w' u, owns_base ho hn⟩
/-- The reference's slice of accepted claims, where it is loaded. -/
theorem tk_lst (h : TK W rb vb qb cb key sv S bx Lr L M z) : ∃ a cap, z.cell? ⟨cb, 2, none⟩ = some (.slice a M.length cap) ∧ z.ownsRow W.heap.size tSigned 3 (.slice a M.length cap) M.length (flatS M) := by
  obtain ⟨q, r, qq, c, rfl, rfl, rfl, rfl, h1, h2, h3, h4, _⟩ := h
  exact h4.row
theorem tk_read (h : TK W rb vb qb cb key sv S bx Lr L M z) (g : Gl z) (s : List UInt8) (hs : s.length ≤ 800000) :
    Calls Tryz.prog 36 #[.pointer (some ⟨rb, 0, none⟩), .string ⟨s.toArray⟩] z fun e w' => TK W rb vb qb cb key sv S bx Lr L M w' ∧ ((∃ L' r', Vw.readV Lr s = (some L', 0) ∧ e = .returned (.tuple #[.pointer (some ⟨r'.vb, 0, none⟩), .int .i64 0]) ∧ ViewAt z.heap.size w' r' rb (Wire.rNum (some s)).1 L' ∧ Vw.VOk Lr (Wire.rNum (some s)).1 L') ∨
    ((Vw.readV Lr s).1 = none ∧ e = .returned (.tuple #[.pointer none, .int .i64 (Vw.readV Lr s).2]))) := by
  have hg := fun z' (u : Nw z z') => h.go u
  obtain ⟨q, r, qq, c, rfl, rfl, rfl, rfl, h1, h2, h3, h4, o, n, w, a1, a2, a3, a4, hb⟩ := h
  exact (read_v _ q Lr s z g h1 hs).mono fun e w' ⟨c1, c2⟩ => ⟨hg w' c1, c2⟩
theorem tk_readq (h : TK W rb vb qb cb key sv S bx Lr L M z) (g : Gl z) (s : List UInt8) (hs : s.length ≤ 800000) :
    Calls Tryz.prog 37 #[.pointer (some ⟨qb, 0, none⟩), .string ⟨s.toArray⟩] z fun e w' => Nw z w' ∧ ((∃ L' c', Vw.readV Lr s = (some L', 0) ∧ e = .returned (.tuple #[.pointer (some ⟨c'.cb, 0, none⟩), .int .i64 0]) ∧ QViewAt z.heap.size w' c' qb (Wire.rNum (some s)).1 L' ∧ Vw.VOk Lr (Wire.rNum (some s)).1 L') ∨
    ((Vw.readV Lr s).1 = none ∧ e = .returned (.tuple #[.pointer none, .int .i64 (Vw.readV Lr s).2]))) := by
  have hg := fun z' (u : Nw z z') => h.go u
  obtain ⟨q, r, qq, c, rfl, rfl, rfl, rfl, h1, h2, h3, h4, o, n, w, a1, a2, a3, a4, hb⟩ := h
  exact (readv_q _ qq Lr s z g h3 o.2.2.1 o.2.2.2 hs).mono fun e w' ⟨c1, c2⟩ => ⟨c1, c2⟩
/-- A view read, and a view of the reference read, have the same bytes. -/
theorem rd_bytes {B : Nat} {r' : ViewR} {key' : Int} {L' : List Bk.Sgn} (h : ViewAt B z r' rb key' L') (ho : Vw.VOk Lr key' L') (hn : Lr.Nodup) (hl : Lr.length ≤ 900000) (g : Gl z) {t : List UInt8} (e : Vw.bytesOf key' L' = t) :
    Calls Tryz.prog 13 #[.pointer (some ⟨r'.vb, 0, none⟩)] z fun e w' => e = .returned (.string ⟨t.toArray⟩) ∧ Nw z w' := by
  subst e
  have := vok_len hn ho
  exact bytes_v _ r' rb key' L' z g h (vok_text9 h.key (by omega) ho) (by omega)
theorem rd_bytesq {B : Nat} {c' : QView} {key' : Int} {L' : List Bk.Sgn} (h : QViewAt B z c' rb key' L') (ho : Vw.VOk Lr key' L') (hn : Lr.Nodup) (hl : Lr.length ≤ 900000) (g : Gl z) {t : List UInt8} (e : Vw.bytesOf key' L' = t) :
    Calls Tryz.prog 34 #[.pointer (some ⟨c'.cb, 0, none⟩)] z fun e w' => e = .returned (.string ⟨t.toArray⟩) ∧ Nw z w' := by
  subst e
  have := vok_len hn ho
  exact bytesv_q _ c' rb key' L' z g h (vok_text9 h.key (by omega) ho) (by omega)
/-- 'Same(v.Claims(), w.L)': the first call, and what the second one will answer. -/
theorem tk_same (h : TK W rb vb qb cb key sv S bx Lr L L z) (g : Gl z) (hL : L.length ≤ 900000) {aq : Option Addr} {capq : Nat} (hc : z.cell? ⟨cb, 2, none⟩ = some (.slice aq L.length capq)) :
    Calls Tryz.prog 17 #[.pointer (some ⟨vb, 0, none⟩)] z fun e w' => ∃ a cap, e = .returned (.slice a L.length cap) ∧ w'.cell? ⟨cb, 2, none⟩ = some (.slice aq L.length capq) ∧
      Calls Tryz.prog 38 #[.slice a L.length cap, .slice aq L.length capq] w' fun e w2 => e = .returned (.bool true) ∧ w2.cell? ⟨cb, 2, none⟩ = some (.slice aq L.length capq) ∧ Nw W w2 := by
  obtain ⟨q, r, qq, c, rfl, rfl, rfl, rfl, h1, h2, h3, h4, o, n, _⟩ := h
  refine (claims_v _ r q.rb key L z g h2 (by omega)).mono ?_
  rintro e w' ⟨v', rfl, ho, u⟩
  obtain ⟨a, cap, rfl⟩ := own_sl ho
  obtain ⟨aq', capq', c2, row⟩ := h4.row
  rw [c2] at hc
  obtain ⟨rfl, rfl⟩ : aq' = aq ∧ capq' = capq := by simpa using hc
  have row' := owns_upd' row u (fun _ _ e => e)
  exact ⟨a, cap, rfl, later_cell ⟨w', u⟩ c2, (same_v _ _ _ _ _ _ L L w' (sgn_sls ho) (sgn_sls row') hL rfl).mono fun e w2 ⟨d1, d2⟩ => ⟨d1, later_cell ⟨w2, u.trans d2⟩ c2, (n.trans u).trans d2⟩⟩
end
end Go.Proofs.YtidmehiboceobaaGreatDoor
