/- Chapter 37: a ring, two books, two mirrors and a view side by side; a ring, a mirror, a book. -/
import Derived.Test.YtkhdnfmnnapjlaaGreatDoorMirE
import Derived.Test.YtkhdnfmnnapjlaaGreatDoorMirG
import Derived.Test.YtkhdnfmnnapjlaaGreatDoorMirK
namespace Go.Proofs.YtkhdnfmnnapjlaaGreatDoor
open Go.RowKit
set_option linter.unusedVariables false
set_option linter.unusedSimpArgs false
attribute [local irreducible] Calls

theorem MirAt.base {B B' : Nat} {w : World} {x : MirR} {m : Mi.Mir} (h : MirAt B w x m) (hB : B' ≤ B) (hg : nG ≤ B') : MirAt B' w x m :=
  ⟨hg, Nat.le_trans hB h.mb, h.blk, fun i hi => owns_base (h.sown i hi) hB, owns_base h.cown hB, h.dis, h.len, h.mode, h.oks, h.cok⟩
structure MsR where
  rb : Nat
  ba : Nat
  bb : Nat
  ma : Nat
  mb : Nat
  vb : Nat
structure MsX where
  L : List Bk.Seal
  a : Bk.Book
  b : Bk.Book
  m : Mi.Mir
  n : Mi.Mir
  v : List Bk.Sgn
def cMs (B : Nat) (p : MsR) (key : Int) (x : MsX) : Nat → Res
  | 0 => RingC B p.rb x.L
  | 1 => BookC B p.ba p.rb x.a
  | 2 => BookC B p.bb p.rb x.b
  | 3 => MirC B p.ma x.m
  | 4 => MirC B p.mb x.n
  | _ => ViewC B p.vb p.rb key x.v
abbrev Ms (W : World) (p : MsR) (key : Int) (x : MsX) (k : Nat) (F : Nat → Prop) (z : World) : Prop := At W k (cMs W.heap.size p key x) F z
section
variable {W : World} {p : MsR} {key : Int} {x : MsX} {F : Nat → Prop} {z z' : World}
theorem ms_ring (g : Gl W) {q : RingR} (hq : RingAt W.heap.size z q []) (u : Nw W z) : Ms W ⟨q.rb, 0, 0, 0, 0, 0⟩ key ⟨[], Bk.new 0, Bk.new 0, Mi.fresh 0, Mi.fresh 0, []⟩ 1 (fun _ => False) z := by
  refine ((At.start W (fun _ _ _ => True)).oneRing g.big u hq hq).same fun i hi => ?_
  obtain rfl : i = 0 := by omega
  simp [setC, cMs]
theorem ms_bookA (h : Ms W p key x 1 F z) (g : Gl W) (k : Int) (hk : Bk.isKey k = true) : Calls Tryz.prog 42 #[.pointer (some ⟨p.rb, 0, none⟩), .int .i64 k] z fun e z' => ∃ b, e = .returned (.tuple #[.pointer (some ⟨b, 0, none⟩), .int .i64 0]) ∧ Ms W { p with ba := b } key { x with a := Bk.new k } 2 F z' := by
  refine (new_b' p.rb k hk z (h.gl g)).mono ?_
  rintro e w' ⟨r, rfl, hr, u⟩
  refine ⟨r.bb, rfl, (h.oneBook g.big u hr).same fun i hi => ?_⟩
  match i, hi with
  | 0, _ => simp [setC, cMs]
  | 1, _ => simp [setC, cMs]
theorem ms_bookB (h : Ms W p key x 2 F z) (g : Gl W) (k : Int) (hk : Bk.isKey k = true) : Calls Tryz.prog 42 #[.pointer (some ⟨p.rb, 0, none⟩), .int .i64 k] z fun e z' => ∃ b, e = .returned (.tuple #[.pointer (some ⟨b, 0, none⟩), .int .i64 0]) ∧ Ms W { p with bb := b } key { x with b := Bk.new k } 3 F z' := by
  refine (new_b' p.rb k hk z (h.gl g)).mono ?_
  rintro e w' ⟨r, rfl, hr, u⟩
  refine ⟨r.bb, rfl, (h.oneBook g.big u hr).same fun i hi => ?_⟩
  match i, hi with
  | 0, _ => simp [setC, cMs]
  | 1, _ => simp [setC, cMs]
  | 2, _ => simp [setC, cMs]
theorem At.oneMir {N : Nat} {c : Nat → Res} {m : Mi.Mir} (h : At W N c F z) (hg : nG ≤ W.heap.size) {r' : MirR} (u : Nw z z') (hr : MirAt z.heap.size z' r' m) : At W (N + 1) (setC c N (MirC W.heap.size r'.mb m)) F z' :=
  h.push u (MirC.stab W.heap.size r'.mb m) (f' := r'.foot) ⟨r', rfl, hr.base h.nw0.size hg, rfl⟩ (fun j hj => (hr.foot_lt hj).1)
theorem mnew_ok (k : Int) (hk : 0 ≤ k ∧ k < 5) (w : World) (g : Gl w) : Calls Tryz.prog 23 #[.int .i64 k] w fun e w' => ∃ r : MirR, e = .returned (.pointer (some ⟨r.mb, 0, none⟩)) ∧ MirAt w.heap.size w' r (Mi.fresh k) ∧ Nw w w' := by
  refine (mnew_w k (by unfold I64; omega) w g).mono ?_
  rintro e w' (⟨-, -, h⟩ | ⟨h, -⟩)
  · exact h
  · exact absurd hk h
theorem ms_mirA (h : Ms W p key x 3 F z) (g : Gl W) : Calls Tryz.prog 23 #[.int .i64 0] z fun e z' => ∃ b, e = .returned (.pointer (some ⟨b, 0, none⟩)) ∧ Ms W { p with ma := b } key { x with m := Mi.fresh 0 } 4 F z' := by
  refine (mnew_ok 0 (by decide) z (h.gl g)).mono ?_
  rintro e w' ⟨r, rfl, hr, u⟩
  refine ⟨r.mb, rfl, (h.oneMir g.big u hr).same fun i hi => ?_⟩
  match i, hi with
  | 0, _ => simp [setC, cMs]
  | 1, _ => simp [setC, cMs]
  | 2, _ => simp [setC, cMs]
  | 3, _ => simp [setC, cMs]
theorem ms_mirB (h : Ms W p key x 4 F z) (g : Gl W) : Calls Tryz.prog 23 #[.int .i64 0] z fun e z' => ∃ b, e = .returned (.pointer (some ⟨b, 0, none⟩)) ∧ Ms W { p with mb := b } key { x with n := Mi.fresh 0 } 5 F z' := by
  refine (mnew_ok 0 (by decide) z (h.gl g)).mono ?_
  rintro e w' ⟨r, rfl, hr, u⟩
  refine ⟨r.mb, rfl, (h.oneMir g.big u hr).same fun i hi => ?_⟩
  match i, hi with
  | 0, _ => simp [setC, cMs]
  | 1, _ => simp [setC, cMs]
  | 2, _ => simp [setC, cMs]
  | 3, _ => simp [setC, cMs]
  | 4, _ => simp [setC, cMs]
theorem ms_view (h : Ms W p key x 5 F z) (g : Gl W) (hk : Bk.isKey key = true) : Calls Tryz.prog 12 #[.pointer (some ⟨p.rb, 0, none⟩), .int .i64 key] z fun e z' => ∃ b, e = .returned (.pointer (some ⟨b, 0, none⟩)) ∧ Ms W { p with vb := b } key { x with v := [] } 6 F z' := by
  refine (new_v p.rb key z (h.gl g)).mono ?_
  rintro e w' (⟨_, r, rfl, hr, u⟩ | ⟨h0, _⟩)
  · refine ⟨r.vb, rfl, (h.oneView g.big u hr).same fun i hi => ?_⟩
    match i, hi with
    | 0, _ => simp [setC, cMs]
    | 1, _ => simp [setC, cMs]
    | 2, _ => simp [setC, cMs]
    | 3, _ => simp [setC, cMs]
    | 4, _ => simp [setC, cMs]
    | 5, _ => simp [setC, cMs]
  · rw [hk] at h0; cases h0
/-! ### Append, Feed, Answer, Ask -/
theorem ms_appA (h : Ms W p key x 6 F z) (g : Gl W) (s : ByteArray) (t : List UInt8) (hs : s.data.toList = t) (ht : t.length ≤ 1000000) :
    Calls Tryz.prog 43 #[.pointer (some ⟨p.ba, 0, none⟩), .string s] z fun e w' => e = .returned (.tuple #[.int .i64 (Bk.append x.a t).1.1, .int .i64 (Bk.append x.a t).1.2]) ∧ Ms W p key { x with a := (Bk.append x.a t).2 } 6 F w' ∧ MovesN W F z w' := by
  refine (at_append (r := 0) (i := 1) (rb := p.rb) (bb := p.ba) (Lr := x.L) (b := x.a) h g (by decide) (by decide) (by decide) rfl rfl s t hs ht).mono ?_
  rintro e w' ⟨he, ha, mv⟩
  refine ⟨he, ha.same ?_, mv⟩
  intro i hi
  match i, hi with
  | 0, _ => simp [c3, setC, cMs]
  | 1, _ => simp [c3, setC, cMs]
  | 2, _ => simp [c3, setC, cMs]
  | 3, _ => simp [c3, setC, cMs]
  | 4, _ => simp [c3, setC, cMs]
  | 5, _ => simp [c3, setC, cMs]
theorem ms_appB (h : Ms W p key x 6 F z) (g : Gl W) (s : ByteArray) (t : List UInt8) (hs : s.data.toList = t) (ht : t.length ≤ 1000000) :
    Calls Tryz.prog 43 #[.pointer (some ⟨p.bb, 0, none⟩), .string s] z fun e w' => e = .returned (.tuple #[.int .i64 (Bk.append x.b t).1.1, .int .i64 (Bk.append x.b t).1.2]) ∧ Ms W p key { x with b := (Bk.append x.b t).2 } 6 F w' ∧ MovesN W F z w' := by
  refine (at_append (r := 0) (i := 2) (rb := p.rb) (bb := p.bb) (Lr := x.L) (b := x.b) h g (by decide) (by decide) (by decide) rfl rfl s t hs ht).mono ?_
  rintro e w' ⟨he, ha, mv⟩
  refine ⟨he, ha.same ?_, mv⟩
  intro i hi
  match i, hi with
  | 0, _ => simp [c3, setC, cMs]
  | 1, _ => simp [c3, setC, cMs]
  | 2, _ => simp [c3, setC, cMs]
  | 3, _ => simp [c3, setC, cMs]
  | 4, _ => simp [c3, setC, cMs]
  | 5, _ => simp [c3, setC, cMs]
theorem ms_feedA (h : Ms W p key x 6 F z) (g : Gl W) (ks cs : List (List UInt8)) (now : Int) (hn : I64 now) (hL : x.L.length + ks.length ≤ 700000) (hl1 : (x.m.l 1).length + 1 ≤ 1000000) (hl2 : (x.m.l 2).length + ks.length ≤ 1000000) (hcl : cs.length ≤ 1000000 ∧ ∀ s ∈ cs, s.length ≤ 1000000) (hkl : ∀ s ∈ ks, s.length ≤ 1000000)
    (kv vc : Value) (Bc : Nat) (hkv : ∀ z', MovesN W F z z' → ∃ lo hi, Sl lo hi z' kv (ks.map bsM)) (hcv : ∀ z', MovesN W F z z' → z'.ownsRow Bc tStrM 1 vc cs.length (cs.map bsM)) :
    Calls Tryz.prog 24 #[.pointer (some ⟨p.ma, 0, none⟩), .pointer (some ⟨p.ba, 0, none⟩), kv, vc, .int .i64 now] z fun e z' =>
      e = .returned (.int .i64 (Mi.feed x.L x.a x.m ks cs now).1) ∧ Ms W p key { x with L := (Mi.feed x.L x.a x.m ks cs now).2.1, a := (Mi.feed x.L x.a x.m ks cs now).2.2.1, m := (Mi.feed x.L x.a x.m ks cs now).2.2.2 } 6 F z' ∧ MovesN W F z z' := by
  have e : c3 W.heap.size ⟨6, 0, 1, 3, p.rb, p.ba, p.ma⟩ (cMs W.heap.size p key x) x.L x.a x.m = cMs W.heap.size p key x := c3_self rfl rfl rfl
  have hp : FdI.Ok ⟨6, 0, 1, 3, p.rb, p.ba, p.ma⟩ := ⟨by show (0 : Nat) < 6; decide, by show (1 : Nat) < 6; decide, by show (3 : Nat) < 6; decide, by show (0 : Nat) ≠ 1; decide, by show (0 : Nat) ≠ 3; decide, by show (1 : Nat) ≠ 3; decide⟩
  refine (feed_w hp (c := cMs W.heap.size p key x) (by rw [e]; exact h) g ks cs now hn hL hl1 hl2 hcl hkl kv vc Bc hkv hcv).mono ?_
  rintro e' w' ⟨he, ha, mv⟩
  refine ⟨he, ha.same ?_, mv⟩
  intro i hi
  match i, hi with
  | 0, _ => simp [c3, setC, cMs]
  | 1, _ => simp [c3, setC, cMs]
  | 2, _ => simp [c3, setC, cMs]
  | 3, _ => simp [c3, setC, cMs]
  | 4, _ => simp [c3, setC, cMs]
  | 5, _ => simp [c3, setC, cMs]
theorem ms_feedB (h : Ms W p key x 6 F z) (g : Gl W) (ks cs : List (List UInt8)) (now : Int) (hn : I64 now) (hL : x.L.length + ks.length ≤ 700000) (hl1 : (x.n.l 1).length + 1 ≤ 1000000) (hl2 : (x.n.l 2).length + ks.length ≤ 1000000) (hcl : cs.length ≤ 1000000 ∧ ∀ s ∈ cs, s.length ≤ 1000000) (hkl : ∀ s ∈ ks, s.length ≤ 1000000)
    (kv vc : Value) (Bc : Nat) (hkv : ∀ z', MovesN W F z z' → ∃ lo hi, Sl lo hi z' kv (ks.map bsM)) (hcv : ∀ z', MovesN W F z z' → z'.ownsRow Bc tStrM 1 vc cs.length (cs.map bsM)) :
    Calls Tryz.prog 24 #[.pointer (some ⟨p.mb, 0, none⟩), .pointer (some ⟨p.bb, 0, none⟩), kv, vc, .int .i64 now] z fun e z' =>
      e = .returned (.int .i64 (Mi.feed x.L x.b x.n ks cs now).1) ∧ Ms W p key { x with L := (Mi.feed x.L x.b x.n ks cs now).2.1, b := (Mi.feed x.L x.b x.n ks cs now).2.2.1, n := (Mi.feed x.L x.b x.n ks cs now).2.2.2 } 6 F z' ∧ MovesN W F z z' := by
  have e : c3 W.heap.size ⟨6, 0, 2, 4, p.rb, p.bb, p.mb⟩ (cMs W.heap.size p key x) x.L x.b x.n = cMs W.heap.size p key x := c3_self rfl rfl rfl
  have hp : FdI.Ok ⟨6, 0, 2, 4, p.rb, p.bb, p.mb⟩ := ⟨by show (0 : Nat) < 6; decide, by show (2 : Nat) < 6; decide, by show (4 : Nat) < 6; decide, by show (0 : Nat) ≠ 2; decide, by show (0 : Nat) ≠ 4; decide, by show (2 : Nat) ≠ 4; decide⟩
  refine (feed_w hp (c := cMs W.heap.size p key x) (by rw [e]; exact h) g ks cs now hn hL hl1 hl2 hcl hkl kv vc Bc hkv hcv).mono ?_
  rintro e' w' ⟨he, ha, mv⟩
  refine ⟨he, ha.same ?_, mv⟩
  intro i hi
  match i, hi with
  | 0, _ => simp [c3, setC, cMs]
  | 1, _ => simp [c3, setC, cMs]
  | 2, _ => simp [c3, setC, cMs]
  | 3, _ => simp [c3, setC, cMs]
  | 4, _ => simp [c3, setC, cMs]
  | 5, _ => simp [c3, setC, cMs]
theorem ms_ansA (h : Ms W p key x 6 F z) (g : Gl W) (q : Mi.Ques) (hq : QOk q) : Calls Tryz.prog 11 #[.pointer (some ⟨p.ma, 0, none⟩), qV q] z (AnsTo z (Mi.answer x.m q)) := by
  obtain ⟨r, e1, hr⟩ := at_mirAt (i := 3) (mb := p.ma) (m := x.m) h (by decide) rfl
  rw [← e1]
  exact answer_w hr (h.gl g) q hq
theorem ms_ansB (h : Ms W p key x 6 F z) (g : Gl W) (q : Mi.Ques) (hq : QOk q) : Calls Tryz.prog 11 #[.pointer (some ⟨p.mb, 0, none⟩), qV q] z (AnsTo z (Mi.answer x.n q)) := by
  obtain ⟨r, e1, hr⟩ := at_mirAt (i := 4) (mb := p.mb) (m := x.n) h (by decide) rfl
  rw [← e1]
  exact answer_w hr (h.gl g) q hq
theorem ms_ask (h : Ms W p key x 6 F z) (g : Gl W) (hv : Vw.VOk x.L key x.v) (hl : x.L.length ≤ 900000)
    (an : List Mi.Ans) (av : Value) (vis : Nat → Value) (hA : ∀ z', MovesN W F z z' → AnsSl vis z' av an) (hs : ∀ a ∈ an, ∀ s ∈ a.claims, SgnOk s) (hal : an.length ≤ 1000000) (now bound : Int) (hn : I64 now) (hbd : I64 bound) :
    Calls Tryz.prog 15 #[.pointer (some ⟨p.vb, 0, none⟩), av, .int .i64 now, .int .i64 bound] z fun e z' =>
      e = .returned (.tuple #[sgnV (Mi.ask x.L key x.v an).old, sgnV (Mi.ask x.L key x.v an).odd, .int .i64 (Mi.askE (Mi.ask x.L key x.v an) now bound)]) ∧ Ms W p key { x with v := (Mi.ask x.L key x.v an).L } 6 F z' ∧ MovesN W F z z' := by
  refine (ask_w (r := 0) (i := 5) (rb := p.rb) (vb := p.vb) h g (by decide) (by decide) (by decide) rfl rfl hv hl an av vis hA hs hal now bound hn hbd).mono ?_
  rintro e w' ⟨he, ha, mv⟩
  refine ⟨he, ha.same ?_, mv⟩
  intro i hi
  match i, hi with
  | 0, _ => simp [c3, setC, cMs]
  | 1, _ => simp [c3, setC, cMs]
  | 2, _ => simp [c3, setC, cMs]
  | 3, _ => simp [c3, setC, cMs]
  | 4, _ => simp [c3, setC, cMs]
  | 5, _ => simp [c3, setC, cMs]
theorem ms_ringAt {k : Nat} (h : Ms W p key x k F z) (hk : 0 < k) : ∃ q, q.rb = p.rb ∧ RingAt W.heap.size z q x.L := at_ringAt h hk rfl
end
/-! ### The example's ring, mirror and book -/
structure StR where
  rb : Nat
  mb : Nat
  bb : Nat
def cSt (B : Nat) (p : StR) (L : List Bk.Seal) (m : Mi.Mir) (b : Bk.Book) : Nat → Res
  | 0 => RingC B p.rb L
  | 1 => MirC B p.mb m
  | _ => BookC B p.bb p.rb b
abbrev St3 (W : World) (p : StR) (L : List Bk.Seal) (m : Mi.Mir) (b : Bk.Book) (k : Nat) (F : Nat → Prop) (z : World) : Prop := At W k (cSt W.heap.size p L m b) F z
section
variable {W : World} {p : StR} {L : List Bk.Seal} {m : Mi.Mir} {b : Bk.Book} {F : Nat → Prop} {z z' : World}
theorem st_ring (g : Gl W) {q : RingR} (hq : RingAt W.heap.size z q []) (u : Nw W z) : St3 W ⟨q.rb, 0, 0⟩ [] (Mi.fresh 0) (Bk.new 0) 1 (fun _ => False) z := by
  refine ((At.start W (fun _ _ _ => True)).oneRing g.big u hq hq).same fun i hi => ?_
  obtain rfl : i = 0 := by omega
  simp [setC, cSt]
theorem st_mir (h : St3 W p L m b 1 F z) (g : Gl W) (k : Int) (hk : 0 ≤ k ∧ k < 5) : Calls Tryz.prog 23 #[.int .i64 k] z fun e z' => ∃ mb, e = .returned (.pointer (some ⟨mb, 0, none⟩)) ∧ St3 W { p with mb := mb } L (Mi.fresh k) b 2 F z' := by
  refine (mnew_ok k hk z (h.gl g)).mono ?_
  rintro e w' ⟨r, rfl, hr, u⟩
  refine ⟨r.mb, rfl, (h.oneMir g.big u hr).same fun i hi => ?_⟩
  match i, hi with
  | 0, _ => simp [setC, cSt]
  | 1, _ => simp [setC, cSt]
theorem st_book (h : St3 W p L m b 2 F z) (g : Gl W) (k : Int) (hk : Bk.isKey k = true) : Calls Tryz.prog 42 #[.pointer (some ⟨p.rb, 0, none⟩), .int .i64 k] z fun e z' => ∃ bb, e = .returned (.tuple #[.pointer (some ⟨bb, 0, none⟩), .int .i64 0]) ∧ St3 W { p with bb := bb } L m (Bk.new k) 3 F z' := by
  refine (new_b' p.rb k hk z (h.gl g)).mono ?_
  rintro e w' ⟨r, rfl, hr, u⟩
  refine ⟨r.bb, rfl, (h.oneBook g.big u hr).same fun i hi => ?_⟩
  match i, hi with
  | 0, _ => simp [setC, cSt]
  | 1, _ => simp [setC, cSt]
  | 2, _ => simp [setC, cSt]
theorem st_app (h : St3 W p L m b 3 F z) (g : Gl W) (s : ByteArray) (t : List UInt8) (hs : s.data.toList = t) (ht : t.length ≤ 1000000) :
    Calls Tryz.prog 43 #[.pointer (some ⟨p.bb, 0, none⟩), .string s] z fun e w' => e = .returned (.tuple #[.int .i64 (Bk.append b t).1.1, .int .i64 (Bk.append b t).1.2]) ∧ St3 W p L m (Bk.append b t).2 3 F w' ∧ MovesN W F z w' := by
  refine (at_append (r := 0) (i := 2) (rb := p.rb) (bb := p.bb) (Lr := L) (b := b) h g (by decide) (by decide) (by decide) rfl rfl s t hs ht).mono ?_
  rintro e w' ⟨he, ha, mv⟩
  refine ⟨he, ha.same ?_, mv⟩
  intro i hi
  match i, hi with
  | 0, _ => simp [c3, setC, cSt]
  | 1, _ => simp [c3, setC, cSt]
  | 2, _ => simp [c3, setC, cSt]
theorem st_feed (h : St3 W p L m b 3 F z) (g : Gl W) (ks cs : List (List UInt8)) (now : Int) (hn : I64 now) (hL : L.length + ks.length ≤ 700000) (hl1 : (m.l 1).length + 1 ≤ 1000000) (hl2 : (m.l 2).length + ks.length ≤ 1000000) (hcl : cs.length ≤ 1000000 ∧ ∀ s ∈ cs, s.length ≤ 1000000) (hkl : ∀ s ∈ ks, s.length ≤ 1000000)
    (kv vc : Value) (Bc : Nat) (hkv : ∀ z', MovesN W F z z' → ∃ lo hi, Sl lo hi z' kv (ks.map bsM)) (hcv : ∀ z', MovesN W F z z' → z'.ownsRow Bc tStrM 1 vc cs.length (cs.map bsM)) :
    Calls Tryz.prog 24 #[.pointer (some ⟨p.mb, 0, none⟩), .pointer (some ⟨p.bb, 0, none⟩), kv, vc, .int .i64 now] z fun e z' =>
      e = .returned (.int .i64 (Mi.feed L b m ks cs now).1) ∧ St3 W p (Mi.feed L b m ks cs now).2.1 (Mi.feed L b m ks cs now).2.2.2 (Mi.feed L b m ks cs now).2.2.1 3 F z' ∧ MovesN W F z z' := by
  have e : c3 W.heap.size ⟨3, 0, 2, 1, p.rb, p.bb, p.mb⟩ (cSt W.heap.size p L m b) L b m = cSt W.heap.size p L m b := c3_self rfl rfl rfl
  have hp : FdI.Ok ⟨3, 0, 2, 1, p.rb, p.bb, p.mb⟩ := ⟨by show (0 : Nat) < 3; decide, by show (2 : Nat) < 3; decide, by show (1 : Nat) < 3; decide, by show (0 : Nat) ≠ 2; decide, by show (0 : Nat) ≠ 1; decide, by show (2 : Nat) ≠ 1; decide⟩
  refine (feed_w hp (c := cSt W.heap.size p L m b) (by rw [e]; exact h) g ks cs now hn hL hl1 hl2 hcl hkl kv vc Bc hkv hcv).mono ?_
  rintro e' w' ⟨he, ha, mv⟩
  refine ⟨he, ha.same ?_, mv⟩
  intro i hi
  match i, hi with
  | 0, _ => simp [c3, setC, cSt]
  | 1, _ => simp [c3, setC, cSt]
  | 2, _ => simp [c3, setC, cSt]
theorem st_head (h : St3 W p L m b 3 F z) (g : Gl W) (now : Int) (hn : I64 now) (hL : L.length ≤ 1000000) : Calls Tryz.prog 57 #[.pointer (some ⟨p.bb, 0, none⟩), .int .i64 now] z fun e z' =>
    e = .returned (.tuple #[.agg #[.int .i64 (Bk.head L b now).1.1.key, .string ⟨(Bk.head L b now).1.1.text.toArray⟩, .int .i64 (Bk.head L b now).1.1.mark], .int .i64 (Bk.head L b now).1.2]) ∧ St3 W p (Bk.head L b now).2.1 m (Bk.head L b now).2.2 3 F z' ∧ MovesN W F z z' := by
  refine (at_head (r := 0) (i := 2) (rb := p.rb) (bb := p.bb) (Lr := L) (b := b) h g (by decide) (by decide) (by decide) rfl rfl now hn hL (y := (Bk.head L b now).1.1) (e0 := (Bk.head L b now).1.2) (L' := (Bk.head L b now).2.1) (b' := (Bk.head L b now).2.2) rfl).mono ?_
  rintro e w' ⟨he, ha, mv⟩
  refine ⟨he, ha.same ?_, mv⟩
  intro i hi
  match i, hi with
  | 0, _ => simp [c3, setC, cSt]
  | 1, _ => simp [c3, setC, cSt]
  | 2, _ => simp [c3, setC, cSt]
theorem st_mirAt (h : St3 W p L m b 3 F z) : ∃ r, r.mb = p.mb ∧ MirAt W.heap.size z r m := at_mirAt (i := 1) h (by decide) rfl
end
end Go.Proofs.YtkhdnfmnnapjlaaGreatDoor
