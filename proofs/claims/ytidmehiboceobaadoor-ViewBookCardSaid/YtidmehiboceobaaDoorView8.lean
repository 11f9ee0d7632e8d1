/- Ring and view together in memory, apart from blocks that are to be kept; Accept there. The documentation's example. -/
import Derived.Test.YtidmehiboceobaaDoorView7
namespace Go.Proofs.YtidmehiboceobaaDoor
open Go.RowKit
set_option linter.unusedVariables false
set_option linter.unusedSimpArgs false
attribute [local irreducible] Calls

section
variable {B B' : Nat} {w w' : World} {q : RingR} {r : ViewR} {rb vb : Nat} {key : Int} {Lr : List Bk.Seal} {L : List Bk.Sgn} {F F' : Nat → Prop}
theorem ViewAt.base (h : ViewAt B w r rb key L) (hB : B' ≤ B) (hg : nG ≤ B') : ViewAt B' w r rb key L :=
  ⟨hg, Nat.le_trans hB h.vb, Nat.le_trans hB h.eb, Nat.le_trans hB h.ab, h.ne, h.blk, owns_base h.sown hB, owns_base h.cown hB, h.emap, h.amap, h.key⟩
theorem RingAt.base8 (h : RingAt B w q Lr) (hB : B' ≤ B) (hg : nG ≤ B') : RingAt B' w q Lr :=
  ⟨hg, Nat.le_trans hB h.rb, Nat.le_trans hB h.mb, h.blk, owns_base h.own hB, h.map, h.nd, h.key⟩
/-- A ring at rb and a view at vb, from B on, apart from one another and from the blocks F. -/
def VS (B : Nat) (F : Nat → Prop) (w : World) (rb vb : Nat) (Lr : List Bk.Seal) (key : Int) (L : List Bk.Sgn) : Prop :=
  ∃ q r, q.rb = rb ∧ r.vb = vb ∧ RingAt B w q Lr ∧ ViewAt B w r rb key L ∧ Vw.VOk Lr key L ∧ (∀ j, q.foot j → ¬ r.foot j) ∧ ∀ j, F j → j < w.heap.size ∧ ¬ q.foot j ∧ ¬ r.foot j
theorem VS.nw (h : VS B F w rb vb Lr key L) (u : Nw w w') : VS B F w' rb vb Lr key L := by
  obtain ⟨q, r, h1, h2, h3, h4, h5, h6, h7⟩ := h
  exact ⟨q, r, h1, h2, h3.nw u, h4.nw u, h5, h6, fun j hj => ⟨Nat.lt_of_lt_of_le (h7 j hj).1 u.size, (h7 j hj).2⟩⟩
theorem VS.upd {S : Nat → Prop} (h : VS B F w rb vb Lr key L) (u : Upd S w w') (hS : ∀ q r, q.rb = rb → r.vb = vb → RingAt B w q Lr → ViewAt B w r rb key L → ∀ j, q.foot j ∨ r.foot j → ¬ S j) : VS B F w' rb vb Lr key L := by
  obtain ⟨q, r, h1, h2, h3, h4, h5, h6, h7⟩ := h
  have hh := hS q r h1 h2 h3 h4
  exact ⟨q, r, h1, h2, h3.upd u (fun j hj => hh j (Or.inl hj)), h4.upd u (fun j hj => hh j (Or.inr hj)), h5, h6, fun j hj => ⟨Nat.lt_of_lt_of_le (h7 j hj).1 u.size, (h7 j hj).2⟩⟩
theorem VS.less (h : VS B F w rb vb Lr key L) (hF : ∀ j, F' j → F j) : VS B F' w rb vb Lr key L := by
  obtain ⟨q, r, h1, h2, h3, h4, h5, h6, h7⟩ := h
  exact ⟨q, r, h1, h2, h3, h4, h5, h6, fun j hj => h7 j (hF j hj)⟩
theorem VS.ok (h : VS B F w rb vb Lr key L) : Vw.VOk Lr key L := by obtain ⟨q, r, h1, h2, h3, h4, h5, h6, h7⟩ := h; exact h5
theorem VS.keyOk (h : VS B F w rb vb Lr key L) : Bk.isKey key = true := by obtain ⟨q, r, h1, h2, h3, h4, h5, h6, h7⟩ := h; exact h4.key
theorem vs_new (hq : RingAt B w q Lr) (u : Nw w w') (hr : ViewAt w.heap.size w' r q.rb key []) (hF : ∀ j, F j → j < w.heap.size ∧ ¬ q.foot j) : VS B F w' q.rb r.vb Lr key [] := by
  have hB : B ≤ w.heap.size := by have h1 := hq.rb; have h2 := lt_of_block hq.blk; omega
  refine ⟨q, r, rfl, rfl, hq.nw u, hr.base hB hq.hb, Vw.VOk.nil _ _, fun j hj e => ?_, fun j hj => ⟨Nat.lt_of_lt_of_le (hF j hj).1 u.size, (hF j hj).2, fun e => ?_⟩⟩
  · have := (hq.foot_lt hj).2; have := (hr.foot_lt e).1; omega
  · have := (hF j hj).1; have := (hr.foot_lt e).1; omega
/-- What Accept does there: all else that was there from w0 on, and the blocks F, are kept. -/
theorem accept_t {w0 : World} (h : VS B F w rb vb Lr key L) (u0 : Nw w0 w) (hB0 : w0.heap.size ≤ B) (g : Gl w) (s : Bk.Sgn) (hs : SgnOk s) (hL : L.length ≤ 900000) :
    Calls Tryd.prog 14 #[.pointer (some ⟨vb, 0, none⟩), .agg #[.int .i64 s.key, .string ⟨s.text.toArray⟩, .int .i64 s.mark]] w fun e w' =>
      e = .returned (.int .i64 (Vw.accept Lr key L s).1) ∧ VS B F w' rb vb Lr key (Vw.accept Lr key L s).2 ∧ Upd (fun j => ¬ F j) w w' ∧ Nw w0 w' := by
  obtain ⟨q, r, rfl, rfl, h3, h4, h5, h6, h7⟩ := h
  have hB : B ≤ w.heap.size := by have h1 := h3.rb; have h2 := lt_of_block h3.blk; omega
  refine (accept_v B B r q key Lr L s w g h3 h4 h5 hs hB hL).mono ?_
  rintro e w' ⟨r', rfl, hv, hvb, u, hf⟩
  refine ⟨rfl, ⟨q, r', rfl, hvb, h3.upd u (fun j hj => h6 j hj), hv, Vw.accept_ok h5 s, fun j hj e => ?_, fun j hj => ⟨Nat.lt_of_lt_of_le (h7 j hj).1 u.size, (h7 j hj).2.1, fun e => ?_⟩⟩, u.mono (fun j _ hj hF => (h7 j hF).2.2 hj), u0.trans' u (fun j hj e => ?_)⟩
  · rcases hf j e with e2 | e2
    · exact h6 j hj e2
    · have := (h3.foot_lt hj).2; omega
  · rcases hf j e with e2 | e2
    · exact (h7 j hj).2.2 e2
    · have := (h7 j hj).1; omega
  · have := (h4.foot_lt e).1; omega
theorem size_t (h : VS B F w rb vb Lr key L) : Calls Tryd.prog 10 #[.pointer (some ⟨vb, 0, none⟩)] w fun e w' => e = .returned (.tuple #[.int .i64 (Vw.sizeOf L).1, .int .i64 (Vw.sizeOf L).2]) ∧ Nw w w' := by
  obtain ⟨q, r, rfl, rfl, h3, h4, h5, h6, h7⟩ := h
  exact size_v B r q.rb key L w h4
theorem key_t (h : VS B F w rb vb Lr key L) : Calls Tryd.prog 29 #[.pointer (some ⟨vb, 0, none⟩)] w fun e w' => e = .returned (.int .i64 key) ∧ Nw w w' := by
  obtain ⟨q, r, rfl, rfl, h3, h4, h5, h6, h7⟩ := h
  exact key_v B r q.rb key L w h4
theorem text_t (h : VS B F w rb vb Lr key L) (i : Int) (hi : I64 i) : Calls Tryd.prog 11 #[.pointer (some ⟨vb, 0, none⟩), .int .i64 i] w fun e w' => e = .returned (.tuple #[.string ⟨(Vw.textAt L i).1.toArray⟩, .bool (Vw.textAt L i).2]) ∧ Nw w w' := by
  obtain ⟨q, r, rfl, rfl, h3, h4, h5, h6, h7⟩ := h
  exact text_v B r q.rb key L w h5 i hi h4
theorem absent_t (h : VS B F w rb vb Lr key L) (k : List UInt8) (hk : k.length ≤ 140737488351232) : Calls Tryd.prog 12 #[.pointer (some ⟨vb, 0, none⟩), .string ⟨k.toArray⟩] w fun e w' => e = .returned (.tuple #[.int .i64 (Vw.absentOf L k).1, .bool (Vw.absentOf L k).2]) ∧ Nw w w' := by
  obtain ⟨q, r, rfl, rfl, h3, h4, h5, h6, h7⟩ := h
  exact absent_v B r q.rb key L w h5 k hk h4
theorem known_t (h : VS B F w rb vb Lr key L) (n : Int) (hn : I64 n) (hL : L.length ≤ 900000) : Calls Tryd.prog 13 #[.pointer (some ⟨vb, 0, none⟩), .int .i64 n] w fun e w' => e = .returned (.bool (Vw.known L n)) ∧ Nw w w' := by
  obtain ⟨q, r, rfl, rfl, h3, h4, h5, h6, h7⟩ := h
  exact known_v B r q.rb key L w h5 n hn h4 (by omega)
theorem size_time {Lr : List Bk.Seal} (h : Vw.VOk Lr key L) : -1 ≤ (Vw.sizeOf L).2 ∧ (Vw.sizeOf L).2 ≤ 1073741824 ∧ 0 ≤ (Vw.sizeOf L).1 ∧ (Vw.sizeOf L).1 ≤ 1073741824 := by
  suffices ∀ (M : List Bk.Sgn) (x : Int × Int), (∀ s ∈ M, Vw.isLog s.text = true) → (-1 ≤ x.2 ∧ x.2 ≤ 1073741824 ∧ 0 ≤ x.1 ∧ x.1 ≤ 1073741824) → (-1 ≤ (M.foldl Vw.sizeStep x).2 ∧ (M.foldl Vw.sizeStep x).2 ≤ 1073741824 ∧ 0 ≤ (M.foldl Vw.sizeStep x).1 ∧ (M.foldl Vw.sizeStep x).1 ≤ 1073741824) from
    this L (0, -1) (fun s hs => (h.each s hs).2.2) (by dsimp only; omega)
  intro M
  induction M with
  | nil => intro x _ hx; exact hx
  | cons s M ih =>
    intro x hM hx
    refine ih _ (fun t ht => hM t (List.mem_cons_of_mem _ ht)) ?_
    obtain ⟨b1, b2, b3, b4, b5, b6, b7⟩ := Cl.right_bounds (Vw.log_spec (hM s (List.mem_cons_self ..))).1
    unfold Vw.sizeStep
    split
    · exact ⟨by dsimp only; omega, by dsimp only; omega, by dsimp only; omega, by dsimp only; omega⟩
    · exact hx
theorem age_t (h : VS B F w rb vb Lr key L) (n : Int) (hn : I64 n) : Calls Tryd.prog 16 #[.pointer (some ⟨vb, 0, none⟩), .int .i64 n] w fun e w' => e = .returned (.int .i64 (Vw.age L n)) ∧ Nw w w' := by
  obtain ⟨q, r, rfl, rfl, h3, h4, h5, h6, h7⟩ := h
  exact age_v B r q.rb key L w n hn h4 (size_time h5).2.1
theorem claims_t (h : VS B F w rb vb Lr key L) (g : Gl w) (hL : L.length ≤ 900000) : Calls Tryd.prog 15 #[.pointer (some ⟨vb, 0, none⟩)] w fun e w' => ∃ v', e = .returned v' ∧ w'.ownsRow w.heap.size tSigned 3 v' L.length (flatS L) ∧ Nw w w' := by
  obtain ⟨q, r, rfl, rfl, h3, h4, h5, h6, h7⟩ := h
  exact claims_v B r q.rb key L w g h4 (by omega)
theorem clash_t (h : VS B F w rb vb Lr key L) (g : Gl w) (s : Bk.Sgn) (hs : SgnOk s) (hL : L.length ≤ 900000) :
    Calls Tryd.prog 28 #[.pointer (some ⟨vb, 0, none⟩), .agg #[.int .i64 s.key, .string ⟨s.text.toArray⟩, .int .i64 s.mark]] w fun e w' => e = .returned (.tuple #[sgnV (Vw.clash L s).1, .bool (Vw.clash L s).2]) ∧ Nw w w' := by
  obtain ⟨q, r, rfl, rfl, h3, h4, h5, h6, h7⟩ := h
  exact clash_v B r q.rb key L s w g h4 (fun s hs => (h5.each s hs).2.2) hs hL
end
end Go.Proofs.YtidmehiboceobaaDoor
