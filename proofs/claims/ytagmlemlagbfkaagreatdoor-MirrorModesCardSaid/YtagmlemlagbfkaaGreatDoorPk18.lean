/- The contract of the mirror's Ask. -/
import Derived.Test.YtagmlemlagbfkaaGreatDoorPk14
namespace Go.Proofs.YtagmlemlagbfkaaGreatDoor
open Go.RowKit
set_option linter.unusedVariables false
set_option linter.unusedSimpArgs false
attribute [local irreducible] Calls

abbrev ssO (s : Bk.Sgn) : Obj := .cells #[.int .i64 s.key, .string ⟨s.text.toArray⟩, .int .i64 s.mark] tSigned
abbrev zsO : Obj := .cells #[.int .i64 0, .string ⟨#[]⟩, .int .i64 0] tSigned
theorem Upd.setInK {S : Nat → Prop} {w w' : World} {b : Nat} (u : Upd S w w') (hb : S b) (hg : nG ≤ b) (i : Nat) (v : Value) : Upd S w (w'.setCell ⟨b, i, none⟩ v) :=
  u.trans ((Upd.set1 (Upd.refl (fun k => k = b) w') hg i v).mono (fun k _ e => e ▸ hb))
/-! ### A slice of answers -/
/-- The state: the ring, the view, the boxes of what is told (lb, lc) and of the results (rb8, rb9). -/
structure AskI (W : World) (N : Nat) (c : Nat → Res) (F : Nat → Prop) (z : World) (i vb rb : Nat) (Lr : List Bk.Seal) (key : Int) (r : Mi.AskR) (wr : World) : Prop where
  fam : At W N (setC c i (ViewC W.heap.size vb rb key r.L)) (fun j => F j ∨ (z.heap.size ≤ j ∧ j < z.heap.size + 4)) wr
  mv : MovesN W F z wr
  ok : Vw.VOk Lr key r.L
  b0 : wr.heap[z.heap.size]? = some zsO
  b1 : wr.heap[z.heap.size + 1]? = some zsO
  b2 : wr.heap[z.heap.size + 2]? = some (ssO r.old)
  b3 : wr.heap[z.heap.size + 3]? = some (ssO r.odd)
section
variable {W : World} {N : Nat} {c : Nat → Res} {F : Nat → Prop} {z wr w' : World} {i vb rb : Nat} {Lr : List Bk.Seal} {key : Int} {r : Mi.AskR}
theorem AskI.nw (h : AskI W N c F z i vb rb Lr key r wr) (u : Nw wr w') : AskI W N c F z i vb rb Lr key r w' :=
  ⟨h.fam.nw u, h.mv.trans (Nw.upd _ u), h.ok, Nw.keep u h.b0, Nw.keep u h.b1, Nw.keep u h.b2, Nw.keep u h.b3⟩
theorem AskI.as {r' : Mi.AskR} (h : AskI W N c F z i vb rb Lr key r wr) (e : r' = r) : AskI W N c F z i vb rb Lr key r' wr := e ▸ h
/-- The view is turned. -/
theorem AskI.turn (h : AskI W N c F z i vb rb Lr key r wr) {r' : Mi.AskR} (ho : r'.old = r.old) (hd : r'.odd = r.odd) (hv : Vw.VOk Lr key r'.L)
    (ha : At W N (setC (setC c i (ViewC W.heap.size vb rb key r.L)) i (ViewC W.heap.size vb rb key r'.L)) (fun j => F j ∨ (z.heap.size ≤ j ∧ j < z.heap.size + 4)) w') (mv : MovesN W (fun j => F j ∨ (z.heap.size ≤ j ∧ j < z.heap.size + 4)) wr w') : AskI W N c F z i vb rb Lr key r' w' := by
  rw [setC_setC] at ha
  exact ⟨ha, h.mv.trans (mv.mono (fun k _ e => ⟨fun f => e.1 (Or.inl f), e.2⟩)), hv, mv.keep h.b0 (fun e => e.1 (Or.inr ⟨by omega, by omega⟩)), mv.keep h.b1 (fun e => e.1 (Or.inr ⟨by omega, by omega⟩)), by rw [ho]; exact mv.keep h.b2 (fun e => e.1 (Or.inr ⟨by omega, by omega⟩)), by rw [hd]; exact mv.keep h.b3 (fun e => e.1 (Or.inr ⟨by omega, by omega⟩))⟩
/-- The end. -/
theorem AskI.fin (h : AskI W N c F z i vb rb Lr key r wr) (hW : W.heap.size ≤ z.heap.size) (hg : nG ≤ z.heap.size) {Z : World}
    (hZ : Z = (((((wr.setCell ⟨z.heap.size, 0, none⟩ (.int .i64 r.old.key)).setCell ⟨z.heap.size, 1, none⟩ (.string ⟨r.old.text.toArray⟩)).setCell ⟨z.heap.size, 2, none⟩ (.int .i64 r.old.mark)).setCell ⟨z.heap.size + 1, 0, none⟩ (.int .i64 r.odd.key)).setCell ⟨z.heap.size + 1, 1, none⟩ (.string ⟨r.odd.text.toArray⟩)).setCell ⟨z.heap.size + 1, 2, none⟩ (.int .i64 r.odd.mark)) :
    Z.heap[z.heap.size]? = some (ssO r.old) ∧ Z.heap[z.heap.size + 1]? = some (ssO r.odd) ∧ At W N (setC c i (ViewC W.heap.size vb rb key r.L)) F Z ∧ MovesN W F z Z := by
  subst hZ
  have q1 : Upd (fun k => k = z.heap.size) wr (((wr.setCell ⟨z.heap.size, 0, none⟩ (.int .i64 r.old.key)).setCell ⟨z.heap.size, 1, none⟩ (.string ⟨r.old.text.toArray⟩)).setCell ⟨z.heap.size, 2, none⟩ (.int .i64 r.old.mark)) := Upd.set1 (Upd.set1 (Upd.set1 (Upd.refl _ _) (by omega) 0 _) (by omega) 1 _) (by omega) 2 _
  have k1 := set3 (v0 := .int .i64 r.old.key) (v1 := .string ⟨r.old.text.toArray⟩) (v2 := .int .i64 r.old.mark) h.b0
  generalize ((wr.setCell ⟨z.heap.size, 0, none⟩ (.int .i64 r.old.key)).setCell ⟨z.heap.size, 1, none⟩ (.string ⟨r.old.text.toArray⟩)).setCell ⟨z.heap.size, 2, none⟩ (.int .i64 r.old.mark) = Y at *
  have q2 : Upd (fun k => k = z.heap.size + 1) Y (((Y.setCell ⟨z.heap.size + 1, 0, none⟩ (.int .i64 r.odd.key)).setCell ⟨z.heap.size + 1, 1, none⟩ (.string ⟨r.odd.text.toArray⟩)).setCell ⟨z.heap.size + 1, 2, none⟩ (.int .i64 r.odd.mark)) := Upd.set1 (Upd.set1 (Upd.set1 (Upd.refl _ _) (by omega) 0 _) (by omega) 1 _) (by omega) 2 _
  have k2 := set3 (v0 := .int .i64 r.odd.key) (v1 := .string ⟨r.odd.text.toArray⟩) (v2 := .int .i64 r.odd.mark) (q1.keep h.b1 (by omega))
  have Q := (q1.mono (S' := fun k => k = z.heap.size ∨ k = z.heap.size + 1) (fun k _ e => Or.inl e)).trans (q2.mono (fun k _ e => Or.inr e))
  exact ⟨q2.keep k1 (by omega), k2, h.fam.upd_keep Q (fun k e => Or.inl ⟨Or.inr (by rcases e with rfl | rfl <;> omega), by rcases e with rfl | rfl <;> omega⟩) (fun k e => Or.inl (Or.inl e)), h.mv.trans' Q (fun k hk e => by rcases e with e | e <;> omega)⟩
end
section
variable {W : World} {N : Nat} {c : Nat → Res} {F : Nat → Prop} {z : World} {r i vb rb : Nat} {Lr : List Bk.Seal} {key : Int} {L : List Bk.Sgn}
end
end Go.Proofs.YtagmlemlagbfkaaGreatDoor
