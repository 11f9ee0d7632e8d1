/- The contract of small: the documentation's example of layer 8, called. -/
import Derived.Test.YtidmehiboceobaaDoorView8
import Derived.Test.YtidmehiboceobaaDoorViewX
namespace Go.Proofs.YtidmehiboceobaaDoor
open Go.RowKit
set_option linter.unusedVariables false
set_option linter.unusedSimpArgs false
attribute [local irreducible] Calls

theorem sgn_ok {s : Bk.Sgn} (h : (-1000000000 ≤ s.key ∧ s.key ≤ 1000000000) ∧ (-1000000000 ≤ s.mark ∧ s.mark ≤ 1000000000) ∧ s.text.length ≤ 1000000) : SgnOk s :=
  ⟨by unfold I64; omega, by omega, by unfold I64; omega⟩
theorem I64_s {n : Int} (h : -1000000000 ≤ n ∧ n ≤ 1000000000) : I64 n := by unfold I64; omega
def SgAt (B : Nat) (w0 : World) (rb : Nat) (bx : List (Nat × Obj)) (Lr : List Bk.Seal) (z : World) : Prop := ∃ q : RingR, q.rb = rb ∧ RingAt B z q Lr ∧ Nw w0 z ∧ ∀ p ∈ bx, ¬ q.foot p.1 ∧ z.heap[p.1]? = some p.2
section
variable {B rb vb : Nat} {w0 z : World} {bx : List (Nat × Obj)}
theorem sign_t {Lr : List Bk.Seal} (h : SgAt B w0 rb bx Lr z) (hB0 : w0.heap.size ≤ B) (g : Gl z) (k : Int) (t : List UInt8) (hk : I64 k) (ht : t.length ≤ 100000000) (hL : Lr.length ≤ 1000000) {sg : Bk.Sgn} {L' : List Bk.Seal} (e : Bk.sign Lr k t = (sg, L')) :
    Calls Tryd.prog 27 #[.pointer (some ⟨rb, 0, none⟩), .int .i64 k, .string ⟨t.toArray⟩] z fun e w' => e = .returned (.agg #[.int .i64 sg.key, .string ⟨sg.text.toArray⟩, .int .i64 sg.mark]) ∧ SgAt B w0 rb bx L' w' := by
  obtain ⟨q, rfl, hq, u, hbx⟩ := h
  have hB : B ≤ z.heap.size := by have h1 := hq.rb; have h2 := lt_of_block hq.blk; omega
  refine (sign_s B q Lr k t z g hq hk (by omega) hL hB).mono ?_
  rintro _ w' ⟨q', rfl, h1, h2, h3, h4⟩
  rw [e] at h1 ⊢
  refine ⟨rfl, q', h2, h1, u.trans' h3 (fun j hj e => by have := (hq.foot_lt e).1; omega), fun p hp => ⟨fun e2 => ?_, h3.keep (hbx p hp).2 (hbx p hp).1⟩⟩
  rcases h4 _ e2 with e3 | e3
  · exact (hbx p hp).1 e3
  · have := lt_of_block (hbx p hp).2; omega
theorem sg_gl {Lr : List Bk.Seal} (h : SgAt B w0 rb bx Lr z) (g : Gl w0) : Gl z := by obtain ⟨_, _, _, u, _⟩ := h; exact g.upd u
theorem SgAt.box {Lr : List Bk.Seal} (h : SgAt B w0 rb bx Lr z) (o : Obj) : SgAt B w0 rb ((z.heap.size, o) :: bx) Lr (z.alloc o) := by
  obtain ⟨q, rfl, hq, u, hbx⟩ := h
  refine ⟨q, rfl, hq.nw (nw_alloc z o), u.alloc o, fun p hp => ?_⟩
  rcases List.mem_cons.1 hp with rfl | hp
  · exact ⟨fun e => by have := (hq.foot_lt e).2; dsimp only at this; omega, heap_new z o⟩
  · exact ⟨(hbx p hp).1, Nw.keep (nw_alloc z o) (hbx p hp).2⟩
theorem sgn_ta (h : SgAt B w0 rb bx [] z) (hB0 : w0.heap.size ≤ B) (g : Gl z) :
    Calls Tryd.prog 27 #[.pointer (some ⟨rb, 0, none⟩), .int .i64 3, .string ⟨#[49, 59, 50, 59, 55, 59, 48, 58, 44]⟩] z fun e w' => e = .returned (.agg #[.int .i64 3, .string ⟨#[49, 59, 50, 59, 55, 59, 48, 58, 44]⟩, .int .i64 0]) ∧ SgAt B w0 rb bx Vw.R1 w' :=
  sign_t h hB0 g 3 Vw.ta (I64_s (by decide)) (by decide) (by decide) Vw.e1
theorem sgn_tb (h : SgAt B w0 rb bx Vw.R1 z) (hB0 : w0.heap.size ≤ B) (g : Gl z) :
    Calls Tryd.prog 27 #[.pointer (some ⟨rb, 0, none⟩), .int .i64 3, .string ⟨#[48, 59, 48, 59, 48, 59, 53, 58, 49, 58, 97, 44, 120, 44]⟩] z fun e w' => e = .returned (.agg #[.int .i64 3, .string ⟨#[48, 59, 48, 59, 48, 59, 53, 58, 49, 58, 97, 44, 120, 44]⟩, .int .i64 1]) ∧ SgAt B w0 rb bx Vw.R2 w' :=
  sign_t h hB0 g 3 Vw.tb (I64_s (by decide)) (by decide) (by decide) Vw.e2
theorem sgn_tc (h : SgAt B w0 rb bx Vw.R2 z) (hB0 : w0.heap.size ≤ B) (g : Gl z) :
    Calls Tryd.prog 27 #[.pointer (some ⟨rb, 0, none⟩), .int .i64 3, .string ⟨#[50, 59, 48, 59, 48, 59, 49, 58, 97, 44]⟩] z fun e w' => e = .returned (.agg #[.int .i64 3, .string ⟨#[50, 59, 48, 59, 48, 59, 49, 58, 97, 44]⟩, .int .i64 2]) ∧ SgAt B w0 rb bx Vw.R3 w' :=
  sign_t h hB0 g 3 Vw.tc (I64_s (by decide)) (by decide) (by decide) Vw.e3
theorem sgn_td (h : SgAt B w0 rb bx Vw.R3 z) (hB0 : w0.heap.size ≤ B) (g : Gl z) :
    Calls Tryd.prog 27 #[.pointer (some ⟨rb, 0, none⟩), .int .i64 3, .string ⟨#[49, 59, 49, 59, 56, 59, 48, 58, 44]⟩] z fun e w' => e = .returned (.agg #[.int .i64 3, .string ⟨#[49, 59, 49, 59, 56, 59, 48, 58, 44]⟩, .int .i64 3]) ∧ SgAt B w0 rb bx Vw.R4 w' :=
  sign_t h hB0 g 3 Vw.td (I64_s (by decide)) (by decide) (by decide) Vw.e4
def VN (B : Nat) (w0 : World) (rb vb : Nat) (bx : List (Nat × Obj)) (L : List Bk.Sgn) (z : World) : Prop := VS B (fun j => ∃ p ∈ bx, p.1 = j) z rb vb Vw.R4 3 L ∧ Nw w0 z ∧ ∀ p ∈ bx, z.heap[p.1]? = some p.2
theorem VN.at {L : List Bk.Sgn} (h : VN B w0 rb vb bx L z) (i : Nat) {p : Nat × Obj} (hi : bx[i]? = some p) : z.heap[p.1]? = some p.2 := h.2.2 p (List.mem_of_getElem? hi)
theorem VN.nw {L : List Bk.Sgn} {z' : World} (h : VN B w0 rb vb bx L z) (u : Nw z z') : VN B w0 rb vb bx L z' := ⟨h.1.nw u, h.2.1.trans u, fun p hp => Nw.keep u (h.2.2 p hp)⟩
theorem VN.box {L : List Bk.Sgn} (h : VN B w0 rb vb bx L z) (o : Obj) : VN B w0 rb vb ((z.heap.size, o) :: bx) L (z.alloc o) := by
  obtain ⟨⟨q, r, h1, h2, h3, h4, h5, h6, h7⟩, u, hbx⟩ := h
  refine ⟨⟨q, r, h1, h2, h3.nw (nw_alloc z o), h4.nw (nw_alloc z o), h5, h6, ?_⟩, u.alloc o, fun p hp => ?_⟩
  · rintro j ⟨p, hp, rfl⟩
    rcases List.mem_cons.1 hp with rfl | hp
    · refine ⟨by simp, fun e => ?_, fun e => ?_⟩
      · have := (h3.foot_lt e).2; dsimp only at this; omega
      · have := (h4.foot_lt e).2; dsimp only at this; omega
    · have := h7 p.1 ⟨p, hp, rfl⟩
      exact ⟨by simp; omega, this.2⟩
  · rcases List.mem_cons.1 hp with rfl | hp
    · exact heap_new z o
    · exact Nw.keep (nw_alloc z o) (hbx p hp)
theorem vn_gl {L : List Bk.Sgn} (h : VN B w0 rb vb bx L z) (g : Gl w0) : Gl z := g.upd h.2.1
theorem new_ta (h : SgAt B w0 rb bx Vw.R4 z) (hB0 : w0.heap.size ≤ B) (g : Gl z) : Calls Tryd.prog 7 #[.pointer (some ⟨rb, 0, none⟩), .int .i64 3] z fun e w' => ∃ vb, e = .returned (.pointer (some ⟨vb, 0, none⟩)) ∧ VN B w0 rb vb bx [] w' := by
  obtain ⟨q, rfl, hq, u, hbx⟩ := h
  refine (new_v q.rb 3 z g).mono ?_
  rintro e w' (⟨_, r, rfl, hv, u2⟩ | ⟨hk, _⟩)
  · exact ⟨r.vb, rfl, vs_new hq u2 hv (by rintro j ⟨p, hp, rfl⟩; exact ⟨lt_of_block (hbx p hp).2, (hbx p hp).1⟩), u.trans u2, fun p hp => Nw.keep u2 (hbx p hp).2⟩
  · exact absurd hk (by decide)
theorem new_tb {L : List Bk.Sgn} (h : VN B w0 rb vb bx L z) (g : Gl z) : Calls Tryd.prog 7 #[.pointer none, .int .i64 3] z fun e w' => e = .returned (.pointer none) ∧ VN B w0 rb vb bx L w' :=
  (new_v0 3 z).mono fun e w' ⟨he, u⟩ => ⟨he, h.nw u⟩
theorem new_tc {L : List Bk.Sgn} (h : VN B w0 rb vb bx L z) (g : Gl z) : Calls Tryd.prog 7 #[.pointer (some ⟨rb, 0, none⟩), .int .i64 200] z fun e w' => e = .returned (.pointer none) ∧ VN B w0 rb vb bx L w' := by
  refine (new_v rb 200 z g).mono ?_
  rintro e w' (⟨hk, _⟩ | ⟨_, rfl, u⟩)
  · exact absurd hk (by decide)
  · exact ⟨rfl, h.nw u⟩
theorem acc_t {L L' : List Bk.Sgn} (h : VN B w0 rb vb bx L z) (hB0 : w0.heap.size ≤ B) (g : Gl z) (s : Bk.Sgn) (hs : SgnOk s) (hL : L.length ≤ 900000) {n : Int} (e : Vw.accept Vw.R4 3 L s = (n, L')) :
    Calls Tryd.prog 14 #[.pointer (some ⟨vb, 0, none⟩), .agg #[.int .i64 s.key, .string ⟨s.text.toArray⟩, .int .i64 s.mark]] z fun e w' => e = .returned (.int .i64 n) ∧ VN B w0 rb vb bx L' w' :=
  (accept_t h.1 h.2.1 hB0 g s hs hL).mono fun e' w' ⟨h1, h2, h3, h4⟩ => by rw [e] at h1 h2; exact ⟨h1, h2, h4, fun p hp => h3.keep (h.2.2 p hp) (fun e => e ⟨p, hp, rfl⟩)⟩
theorem acc_1 (h : VN B w0 rb vb bx [] z) (hB0 : w0.heap.size ≤ B) (g : Gl z) :
    Calls Tryd.prog 14 #[.pointer (some ⟨vb, 0, none⟩), .agg #[.int .i64 3, .string ⟨#[49, 59, 50, 59, 55, 59, 48, 58, 44]⟩, .int .i64 0]] z fun e w' => e = .returned (.int .i64 0) ∧ VN B w0 rb vb bx [Vw.sa] w' :=
  acc_t h hB0 g Vw.sa (sgn_ok (by decide)) (by decide) Vw.a1
theorem acc_2 (h : VN B w0 rb vb bx [Vw.sa] z) (hB0 : w0.heap.size ≤ B) (g : Gl z) :
    Calls Tryd.prog 14 #[.pointer (some ⟨vb, 0, none⟩), .agg #[.int .i64 3, .string ⟨#[48, 59, 48, 59, 48, 59, 53, 58, 49, 58, 97, 44, 120, 44]⟩, .int .i64 1]] z fun e w' => e = .returned (.int .i64 0) ∧ VN B w0 rb vb bx [Vw.sa, Vw.sb] w' :=
  acc_t h hB0 g Vw.sb (sgn_ok (by decide)) (by decide) Vw.a2
theorem acc_3 (h : VN B w0 rb vb bx [Vw.sa, Vw.sb] z) (hB0 : w0.heap.size ≤ B) (g : Gl z) :
    Calls Tryd.prog 14 #[.pointer (some ⟨vb, 0, none⟩), .agg #[.int .i64 3, .string ⟨#[50, 59, 48, 59, 48, 59, 49, 58, 97, 44]⟩, .int .i64 2]] z fun e w' => e = .returned (.int .i64 0) ∧ VN B w0 rb vb bx [Vw.sa, Vw.sb, Vw.sc] w' :=
  acc_t h hB0 g Vw.sc (sgn_ok (by decide)) (by decide) Vw.a3
theorem acc_4 (h : VN B w0 rb vb bx [Vw.sa, Vw.sb, Vw.sc] z) (hB0 : w0.heap.size ≤ B) (g : Gl z) :
    Calls Tryd.prog 14 #[.pointer (some ⟨vb, 0, none⟩), .agg #[.int .i64 3, .string ⟨#[49, 59, 49, 59, 56, 59, 48, 58, 44]⟩, .int .i64 3]] z fun e w' => e = .returned (.int .i64 21) ∧ VN B w0 rb vb bx [Vw.sa, Vw.sb, Vw.sc] w' :=
  acc_t h hB0 g Vw.sd (sgn_ok (by decide)) (by decide) Vw.a4
theorem acc_5 (h : VN B w0 rb vb bx [Vw.sa, Vw.sb, Vw.sc] z) (hB0 : w0.heap.size ≤ B) (g : Gl z) :
    Calls Tryd.prog 14 #[.pointer (some ⟨vb, 0, none⟩), .agg #[.int .i64 3, .string ⟨#[49, 59, 50, 59, 55, 59, 48, 58, 44]⟩, .int .i64 0]] z fun e w' => e = .returned (.int .i64 0) ∧ VN B w0 rb vb bx [Vw.sa, Vw.sb, Vw.sc] w' :=
  acc_t h hB0 g Vw.sa (sgn_ok (by decide)) (by decide) Vw.a5
theorem sm_size (h : VN B w0 rb vb bx [Vw.sa, Vw.sb, Vw.sc] z) (g : Gl z) : Calls Tryd.prog 10 #[.pointer (some ⟨vb, 0, none⟩)] z fun e w' => e = .returned (.tuple #[.int .i64 2, .int .i64 7]) ∧ VN B w0 rb vb bx [Vw.sa, Vw.sb, Vw.sc] w' := by
  refine (show Calls _ _ _ _ (fun e w' => e = .returned (.tuple #[.int .i64 2, .int .i64 7]) ∧ Nw z w') from by have := size_t h.1; rw [Vw.b1] at this; exact this).mono ?_
  rintro e w' ⟨he, u⟩
  exact ⟨he, h.nw u⟩
theorem sm_key (h : VN B w0 rb vb bx [Vw.sa, Vw.sb, Vw.sc] z) (g : Gl z) : Calls Tryd.prog 29 #[.pointer (some ⟨vb, 0, none⟩)] z fun e w' => e = .returned (.int .i64 3) ∧ VN B w0 rb vb bx [Vw.sa, Vw.sb, Vw.sc] w' := by
  refine (key_t h.1).mono ?_
  rintro e w' ⟨he, u⟩
  exact ⟨he, h.nw u⟩
theorem sm_text0 (h : VN B w0 rb vb bx [Vw.sa, Vw.sb, Vw.sc] z) (g : Gl z) : Calls Tryd.prog 11 #[.pointer (some ⟨vb, 0, none⟩), .int .i64 0] z fun e w' => e = .returned (.tuple #[.string ⟨#[49, 58, 97, 44, 120]⟩, .bool true]) ∧ VN B w0 rb vb bx [Vw.sa, Vw.sb, Vw.sc] w' := by
  refine (show Calls _ _ _ _ (fun e w' => e = .returned (.tuple #[.string ⟨#[49, 58, 97, 44, 120]⟩, .bool true]) ∧ Nw z w') from by have := text_t h.1 0 (I64_s (by decide)); rw [Vw.b2] at this; exact this).mono ?_
  rintro e w' ⟨he, u⟩
  exact ⟨he, h.nw u⟩
theorem sm_text1 (h : VN B w0 rb vb bx [Vw.sa, Vw.sb, Vw.sc] z) (g : Gl z) : Calls Tryd.prog 11 #[.pointer (some ⟨vb, 0, none⟩), .int .i64 1] z fun e w' => e = .returned (.tuple #[.string ⟨#[]⟩, .bool false]) ∧ VN B w0 rb vb bx [Vw.sa, Vw.sb, Vw.sc] w' := by
  refine (show Calls _ _ _ _ (fun e w' => e = .returned (.tuple #[.string ⟨#[]⟩, .bool false]) ∧ Nw z w') from by have := text_t h.1 1 (I64_s (by decide)); rw [Vw.b3] at this; exact this).mono ?_
  rintro e w' ⟨he, u⟩
  exact ⟨he, h.nw u⟩
theorem sm_abs_a (h : VN B w0 rb vb bx [Vw.sa, Vw.sb, Vw.sc] z) (g : Gl z) : Calls Tryd.prog 12 #[.pointer (some ⟨vb, 0, none⟩), .string ⟨#[97]⟩] z fun e w' => e = .returned (.tuple #[.int .i64 0, .bool true]) ∧ VN B w0 rb vb bx [Vw.sa, Vw.sb, Vw.sc] w' := by
  refine (show Calls _ _ _ _ (fun e w' => e = .returned (.tuple #[.int .i64 0, .bool true]) ∧ Nw z w') from by have := absent_t h.1 [97] (by decide); rw [Vw.b4] at this; exact this).mono ?_
  rintro e w' ⟨he, u⟩
  exact ⟨he, h.nw u⟩
theorem sm_abs_b (h : VN B w0 rb vb bx [Vw.sa, Vw.sb, Vw.sc] z) (g : Gl z) : Calls Tryd.prog 12 #[.pointer (some ⟨vb, 0, none⟩), .string ⟨#[98]⟩] z fun e w' => e = .returned (.tuple #[.int .i64 0, .bool false]) ∧ VN B w0 rb vb bx [Vw.sa, Vw.sb, Vw.sc] w' := by
  refine (show Calls _ _ _ _ (fun e w' => e = .returned (.tuple #[.int .i64 0, .bool false]) ∧ Nw z w') from by have := absent_t h.1 [98] (by decide); rw [Vw.b5] at this; exact this).mono ?_
  rintro e w' ⟨he, u⟩
  exact ⟨he, h.nw u⟩
theorem sm_clash (h : VN B w0 rb vb bx [Vw.sa, Vw.sb, Vw.sc] z) (g : Gl z) : Calls Tryd.prog 28 #[.pointer (some ⟨vb, 0, none⟩), .agg #[.int .i64 3, .string ⟨#[49, 59, 49, 59, 56, 59, 48, 58, 44]⟩, .int .i64 3]] z fun e w' => e = .returned (.tuple #[.agg #[.int .i64 3, .string ⟨#[49, 59, 50, 59, 55, 59, 48, 58, 44]⟩, .int .i64 0], .bool true]) ∧ VN B w0 rb vb bx [Vw.sa, Vw.sb, Vw.sc] w' := by
  refine (show Calls _ _ _ _ (fun e w' => e = .returned (.tuple #[.agg #[.int .i64 3, .string ⟨#[49, 59, 50, 59, 55, 59, 48, 58, 44]⟩, .int .i64 0], .bool true]) ∧ Nw z w') from by have := clash_t h.1 g Vw.sd (sgn_ok (by decide)) (by decide); rw [Vw.b6] at this; exact this).mono ?_
  rintro e w' ⟨he, u⟩
  exact ⟨he, h.nw u⟩
theorem sm_age9 (h : VN B w0 rb vb bx [Vw.sa, Vw.sb, Vw.sc] z) (g : Gl z) : Calls Tryd.prog 16 #[.pointer (some ⟨vb, 0, none⟩), .int .i64 9] z fun e w' => e = .returned (.int .i64 2) ∧ VN B w0 rb vb bx [Vw.sa, Vw.sb, Vw.sc] w' := by
  refine (show Calls _ _ _ _ (fun e w' => e = .returned (.int .i64 2) ∧ Nw z w') from by have := age_t h.1 9 (I64_s (by decide)); rw [Vw.b7] at this; exact this).mono ?_
  rintro e w' ⟨he, u⟩
  exact ⟨he, h.nw u⟩
theorem sm_age6 (h : VN B w0 rb vb bx [Vw.sa, Vw.sb, Vw.sc] z) (g : Gl z) : Calls Tryd.prog 16 #[.pointer (some ⟨vb, 0, none⟩), .int .i64 6] z fun e w' => e = .returned (.int .i64 (-1)) ∧ VN B w0 rb vb bx [Vw.sa, Vw.sb, Vw.sc] w' := by
  refine (show Calls _ _ _ _ (fun e w' => e = .returned (.int .i64 (-1)) ∧ Nw z w') from by have := age_t h.1 6 (I64_s (by decide)); rw [Vw.b8] at this; exact this).mono ?_
  rintro e w' ⟨he, u⟩
  exact ⟨he, h.nw u⟩
theorem sm_known1 (h : VN B w0 rb vb bx [Vw.sa, Vw.sb, Vw.sc] z) (g : Gl z) : Calls Tryd.prog 13 #[.pointer (some ⟨vb, 0, none⟩), .int .i64 1] z fun e w' => e = .returned (.bool true) ∧ VN B w0 rb vb bx [Vw.sa, Vw.sb, Vw.sc] w' := by
  refine (show Calls _ _ _ _ (fun e w' => e = .returned (.bool true) ∧ Nw z w') from by have := known_t h.1 1 (I64_s (by decide)) (by decide); rw [Vw.b9] at this; exact this).mono ?_
  rintro e w' ⟨he, u⟩
  exact ⟨he, h.nw u⟩
theorem sm_known2 (h : VN B w0 rb vb bx [Vw.sa, Vw.sb, Vw.sc] z) (g : Gl z) : Calls Tryd.prog 13 #[.pointer (some ⟨vb, 0, none⟩), .int .i64 2] z fun e w' => e = .returned (.bool false) ∧ VN B w0 rb vb bx [Vw.sa, Vw.sb, Vw.sc] w' := by
  refine (show Calls _ _ _ _ (fun e w' => e = .returned (.bool false) ∧ Nw z w') from by have := known_t h.1 2 (I64_s (by decide)) (by decide); rw [Vw.b10] at this; exact this).mono ?_
  rintro e w' ⟨he, u⟩
  exact ⟨he, h.nw u⟩
theorem sm_claims (h : VN B w0 rb vb bx [Vw.sa, Vw.sb, Vw.sc] z) (g : Gl z) : Calls Tryd.prog 15 #[.pointer (some ⟨vb, 0, none⟩)] z fun e w' => ∃ a cap, e = .returned (.slice a 3 cap) ∧ VN B w0 rb vb bx [Vw.sa, Vw.sb, Vw.sc] w' := by
  refine (claims_t h.1 g (by decide)).mono ?_
  rintro e w' ⟨v', rfl, ho, u⟩
  obtain ⟨a, cap, rfl⟩ := own_sl ho
  exact ⟨a, cap, rfl, h.nw u⟩
end
set_option maxHeartbeats 8000000 in
set_option maxRecDepth 100000 in
theorem small_v (w : World) (g : Gl w) : Calls Tryd.prog 5 #[] w fun e w' => e = .returned (.bool true) ∧ Nw w w' := by
  have hgb := g.big
  have hB0 := Nat.le_refl w.heap.size
  go_enter Tryd.func5, Tryd.ntmps5
  go_wp2_with fail
  (with_reducible refine (new_s _ g).mono ?_)
  rintro _ w1 ⟨r, rfl, hr, u1⟩
  have x1 : SgAt w.heap.size w r.rb [] [] w1 := ⟨r, rfl, hr, u1, fun p hp => by cases hp⟩
  have g1 := g.upd u1
  generalize r.rb = rb at *
  clear hr u1
  have X1 := Lib.hid x1
  clear x1
  go_wp2_with fail
  (with_reducible refine (sgn_ta X1.out hB0 g1).mono ?_)
  rintro _ w2 ⟨rfl, x⟩
  clear X1 g1
  replace x := x.box (.cells #[.int .i64 3, .string ⟨#[49, 59, 50, 59, 55, 59, 48, 58, 44]⟩, .int .i64 0] tSigned)
  have gg := sg_gl x g
  have X := Lib.hid x
  clear x
  go_wp2_with fail
  (with_reducible refine (sgn_tb X.out hB0 gg).mono ?_)
  rintro _ w3 ⟨rfl, x⟩
  clear X gg
  replace x := x.box (.cells #[.int .i64 3, .string ⟨#[48, 59, 48, 59, 48, 59, 53, 58, 49, 58, 97, 44, 120, 44]⟩, .int .i64 1] tSigned)
  have gg := sg_gl x g
  have X := Lib.hid x
  clear x
  go_wp2_with fail
  (with_reducible refine (sgn_tc X.out hB0 gg).mono ?_)
  rintro _ w4 ⟨rfl, x⟩
  clear X gg
  replace x := x.box (.cells #[.int .i64 3, .string ⟨#[50, 59, 48, 59, 48, 59, 49, 58, 97, 44]⟩, .int .i64 2] tSigned)
  have gg := sg_gl x g
  have X := Lib.hid x
  clear x
  go_wp2_with fail
  (with_reducible refine (sgn_td X.out hB0 gg).mono ?_)
  rintro _ w5 ⟨rfl, x⟩
  clear X gg
  replace x := x.box (.cells #[.int .i64 3, .string ⟨#[49, 59, 49, 59, 56, 59, 48, 58, 44]⟩, .int .i64 3] tSigned)
  have gg := sg_gl x g
  have X := Lib.hid x
  clear x
  go_wp2_with fail
  (with_reducible refine (new_ta X.out hB0 gg).mono ?_)
  rintro _ w6 ⟨vb, rfl, y⟩
  clear X gg
  have gg := vn_gl y g
  have Y := Lib.hid y
  obtain ⟨_, _, _⟩ := cell3 (Y.out.at 0 rfl)
  obtain ⟨_, _, _⟩ := cell3 (Y.out.at 1 rfl)
  obtain ⟨_, _, _⟩ := cell3 (Y.out.at 2 rfl)
  obtain ⟨_, _, _⟩ := cell3 (Y.out.at 3 rfl)
  clear y
  go_wp2_with fail
  (with_reducible refine (new_tb Y.out gg).mono ?_)
  rintro _ w7 ⟨rfl, y⟩
  clear Y gg
  have gg := vn_gl y g
  have Y := Lib.hid y
  obtain ⟨_, _, _⟩ := cell3 (Y.out.at 0 rfl)
  obtain ⟨_, _, _⟩ := cell3 (Y.out.at 1 rfl)
  obtain ⟨_, _, _⟩ := cell3 (Y.out.at 2 rfl)
  obtain ⟨_, _, _⟩ := cell3 (Y.out.at 3 rfl)
  clear y
  go_wp2_with fail
  (with_reducible refine (new_tc Y.out gg).mono ?_)
  rintro _ w8 ⟨rfl, y⟩
  clear Y gg
  have gg := vn_gl y g
  have Y := Lib.hid y
  obtain ⟨_, _, _⟩ := cell3 (Y.out.at 0 rfl)
  obtain ⟨_, _, _⟩ := cell3 (Y.out.at 1 rfl)
  obtain ⟨_, _, _⟩ := cell3 (Y.out.at 2 rfl)
  obtain ⟨_, _, _⟩ := cell3 (Y.out.at 3 rfl)
  clear y
  go_wp2_with fail
  (with_reducible refine (acc_1 Y.out hB0 gg).mono ?_)
  rintro _ w9 ⟨rfl, y⟩
  clear Y gg
  have gg := vn_gl y g
  have Y := Lib.hid y
  obtain ⟨_, _, _⟩ := cell3 (Y.out.at 0 rfl)
  obtain ⟨_, _, _⟩ := cell3 (Y.out.at 1 rfl)
  obtain ⟨_, _, _⟩ := cell3 (Y.out.at 2 rfl)
  obtain ⟨_, _, _⟩ := cell3 (Y.out.at 3 rfl)
  clear y
  go_wp2_with fail
  (with_reducible refine (acc_2 Y.out hB0 gg).mono ?_)
  rintro _ w10 ⟨rfl, y⟩
  clear Y gg
  have gg := vn_gl y g
  have Y := Lib.hid y
  obtain ⟨_, _, _⟩ := cell3 (Y.out.at 0 rfl)
  obtain ⟨_, _, _⟩ := cell3 (Y.out.at 1 rfl)
  obtain ⟨_, _, _⟩ := cell3 (Y.out.at 2 rfl)
  obtain ⟨_, _, _⟩ := cell3 (Y.out.at 3 rfl)
  clear y
  go_wp2_with fail
  (with_reducible refine (acc_3 Y.out hB0 gg).mono ?_)
  rintro _ w11 ⟨rfl, y⟩
  clear Y gg
  have gg := vn_gl y g
  have Y := Lib.hid y
  obtain ⟨_, _, _⟩ := cell3 (Y.out.at 0 rfl)
  obtain ⟨_, _, _⟩ := cell3 (Y.out.at 1 rfl)
  obtain ⟨_, _, _⟩ := cell3 (Y.out.at 2 rfl)
  obtain ⟨_, _, _⟩ := cell3 (Y.out.at 3 rfl)
  clear y
  go_wp2_with fail
  (with_reducible refine (acc_4 Y.out hB0 gg).mono ?_)
  rintro _ w12 ⟨rfl, y⟩
  clear Y gg
  have gg := vn_gl y g
  have Y := Lib.hid y
  obtain ⟨_, _, _⟩ := cell3 (Y.out.at 0 rfl)
  obtain ⟨_, _, _⟩ := cell3 (Y.out.at 1 rfl)
  obtain ⟨_, _, _⟩ := cell3 (Y.out.at 2 rfl)
  obtain ⟨_, _, _⟩ := cell3 (Y.out.at 3 rfl)
  clear y
  go_wp2_with fail
  (with_reducible refine (acc_5 Y.out hB0 gg).mono ?_)
  rintro _ w13 ⟨rfl, y⟩
  clear Y gg
  have gg := vn_gl y g
  have Y := Lib.hid y
  obtain ⟨_, _, _⟩ := cell3 (Y.out.at 0 rfl)
  obtain ⟨_, _, _⟩ := cell3 (Y.out.at 1 rfl)
  obtain ⟨_, _, _⟩ := cell3 (Y.out.at 2 rfl)
  obtain ⟨_, _, _⟩ := cell3 (Y.out.at 3 rfl)
  clear y
  go_wp2_with fail
  (with_reducible refine (sm_size Y.out gg).mono ?_)
  rintro _ w14 ⟨rfl, y⟩
  clear Y gg
  have gg := vn_gl y g
  have Y := Lib.hid y
  obtain ⟨_, _, _⟩ := cell3 (Y.out.at 0 rfl)
  obtain ⟨_, _, _⟩ := cell3 (Y.out.at 1 rfl)
  obtain ⟨_, _, _⟩ := cell3 (Y.out.at 2 rfl)
  obtain ⟨_, _, _⟩ := cell3 (Y.out.at 3 rfl)
  clear y
  go_wp2_with fail
  (with_reducible refine (sm_text0 Y.out gg).mono ?_)
  rintro _ w15 ⟨rfl, y⟩
  clear Y gg
  have gg := vn_gl y g
  have Y := Lib.hid y
  obtain ⟨_, _, _⟩ := cell3 (Y.out.at 0 rfl)
  obtain ⟨_, _, _⟩ := cell3 (Y.out.at 1 rfl)
  obtain ⟨_, _, _⟩ := cell3 (Y.out.at 2 rfl)
  obtain ⟨_, _, _⟩ := cell3 (Y.out.at 3 rfl)
  clear y
  go_wp2_with fail
  (with_reducible refine (sm_text1 Y.out gg).mono ?_)
  rintro _ w16 ⟨rfl, y⟩
  clear Y gg
  have gg := vn_gl y g
  have Y := Lib.hid y
  obtain ⟨_, _, _⟩ := cell3 (Y.out.at 0 rfl)
  obtain ⟨_, _, _⟩ := cell3 (Y.out.at 1 rfl)
  obtain ⟨_, _, _⟩ := cell3 (Y.out.at 2 rfl)
  obtain ⟨_, _, _⟩ := cell3 (Y.out.at 3 rfl)
  clear y
  go_wp2_with fail
  (with_reducible refine (sm_abs_a Y.out gg).mono ?_)
  rintro _ w17 ⟨rfl, y⟩
  clear Y gg
  have gg := vn_gl y g
  have Y := Lib.hid y
  obtain ⟨_, _, _⟩ := cell3 (Y.out.at 0 rfl)
  obtain ⟨_, _, _⟩ := cell3 (Y.out.at 1 rfl)
  obtain ⟨_, _, _⟩ := cell3 (Y.out.at 2 rfl)
  obtain ⟨_, _, _⟩ := cell3 (Y.out.at 3 rfl)
  clear y
  go_wp2_with fail
  (with_reducible refine (sm_abs_b Y.out gg).mono ?_)
  rintro _ w18 ⟨rfl, y⟩
  clear Y gg
  have gg := vn_gl y g
  have Y := Lib.hid y
  obtain ⟨_, _, _⟩ := cell3 (Y.out.at 0 rfl)
  obtain ⟨_, _, _⟩ := cell3 (Y.out.at 1 rfl)
  obtain ⟨_, _, _⟩ := cell3 (Y.out.at 2 rfl)
  obtain ⟨_, _, _⟩ := cell3 (Y.out.at 3 rfl)
  clear y
  go_wp2_with fail
  (with_reducible refine (sm_clash Y.out gg).mono ?_)
  rintro _ w19 ⟨rfl, y⟩
  clear Y gg
  replace y := y.box (.cells #[.int .i64 3, .string ⟨#[49, 59, 50, 59, 55, 59, 48, 58, 44]⟩, .int .i64 0] tSigned)
  have gg := vn_gl y g
  have Y := Lib.hid y
  obtain ⟨_, _, _⟩ := cell3 (Y.out.at 0 rfl)
  obtain ⟨_, _, _⟩ := cell3 (Y.out.at 1 rfl)
  obtain ⟨_, _, _⟩ := cell3 (Y.out.at 2 rfl)
  obtain ⟨_, _, _⟩ := cell3 (Y.out.at 3 rfl)
  obtain ⟨_, _, _⟩ := cell3 (Y.out.at 4 rfl)
  clear y
  go_wp2_with fail
  (with_reducible refine (sm_age9 Y.out gg).mono ?_)
  rintro _ w20 ⟨rfl, y⟩
  clear Y gg
  have gg := vn_gl y g
  have Y := Lib.hid y
  obtain ⟨_, _, _⟩ := cell3 (Y.out.at 0 rfl)
  obtain ⟨_, _, _⟩ := cell3 (Y.out.at 1 rfl)
  obtain ⟨_, _, _⟩ := cell3 (Y.out.at 2 rfl)
  obtain ⟨_, _, _⟩ := cell3 (Y.out.at 3 rfl)
  obtain ⟨_, _, _⟩ := cell3 (Y.out.at 4 rfl)
  clear y
  go_wp2_with fail
  (with_reducible refine (sm_age6 Y.out gg).mono ?_)
  rintro _ w21 ⟨rfl, y⟩
  clear Y gg
  have gg := vn_gl y g
  have Y := Lib.hid y
  obtain ⟨_, _, _⟩ := cell3 (Y.out.at 0 rfl)
  obtain ⟨_, _, _⟩ := cell3 (Y.out.at 1 rfl)
  obtain ⟨_, _, _⟩ := cell3 (Y.out.at 2 rfl)
  obtain ⟨_, _, _⟩ := cell3 (Y.out.at 3 rfl)
  obtain ⟨_, _, _⟩ := cell3 (Y.out.at 4 rfl)
  clear y
  go_wp2_with fail
  (with_reducible refine (sm_known1 Y.out gg).mono ?_)
  rintro _ w22 ⟨rfl, y⟩
  clear Y gg
  have gg := vn_gl y g
  have Y := Lib.hid y
  obtain ⟨_, _, _⟩ := cell3 (Y.out.at 0 rfl)
  obtain ⟨_, _, _⟩ := cell3 (Y.out.at 1 rfl)
  obtain ⟨_, _, _⟩ := cell3 (Y.out.at 2 rfl)
  obtain ⟨_, _, _⟩ := cell3 (Y.out.at 3 rfl)
  obtain ⟨_, _, _⟩ := cell3 (Y.out.at 4 rfl)
  clear y
  go_wp2_with fail
  (with_reducible refine (sm_known2 Y.out gg).mono ?_)
  rintro _ w23 ⟨rfl, y⟩
  clear Y gg
  have gg := vn_gl y g
  have Y := Lib.hid y
  obtain ⟨_, _, _⟩ := cell3 (Y.out.at 0 rfl)
  obtain ⟨_, _, _⟩ := cell3 (Y.out.at 1 rfl)
  obtain ⟨_, _, _⟩ := cell3 (Y.out.at 2 rfl)
  obtain ⟨_, _, _⟩ := cell3 (Y.out.at 3 rfl)
  obtain ⟨_, _, _⟩ := cell3 (Y.out.at 4 rfl)
  clear y
  go_wp2_with fail
  (with_reducible refine (sm_claims Y.out gg).mono ?_)
  rintro _ w24 ⟨a, cap, rfl, y⟩
  clear Y gg
  have gg := vn_gl y g
  have Y := Lib.hid y
  obtain ⟨_, _, _⟩ := cell3 (Y.out.at 0 rfl)
  obtain ⟨_, _, _⟩ := cell3 (Y.out.at 1 rfl)
  obtain ⟨_, _, _⟩ := cell3 (Y.out.at 2 rfl)
  obtain ⟨_, _, _⟩ := cell3 (Y.out.at 3 rfl)
  obtain ⟨_, _, _⟩ := cell3 (Y.out.at 4 rfl)
  clear y
  go_wp2_with fail
  (with_reducible refine (sm_key Y.out gg).mono ?_)
  rintro _ w25 ⟨rfl, y⟩
  clear Y gg
  have gg := vn_gl y g
  have Y := Lib.hid y
  obtain ⟨_, _, _⟩ := cell3 (Y.out.at 0 rfl)
  obtain ⟨_, _, _⟩ := cell3 (Y.out.at 1 rfl)
  obtain ⟨_, _, _⟩ := cell3 (Y.out.at 2 rfl)
  obtain ⟨_, _, _⟩ := cell3 (Y.out.at 3 rfl)
  obtain ⟨_, _, _⟩ := cell3 (Y.out.at 4 rfl)
  clear y
  go_wp2_with fail
  go_ret
  exact ⟨rfl, Y.out.2.1⟩
end Go.Proofs.YtidmehiboceobaaDoor
