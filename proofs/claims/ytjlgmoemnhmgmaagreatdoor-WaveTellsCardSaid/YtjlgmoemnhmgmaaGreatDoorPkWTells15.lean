/- For format.read of a record. -/
import Derived.Test.YtjlgmoemnhmgmaaGreatDoorPkWTells12
namespace Go.Proofs.YtjlgmoemnhmgmaaGreatDoor
open Go.RowKit Go.MapKept
set_option linter.unusedVariables false
set_option linter.unusedSimpArgs false
attribute [local irreducible] Calls
open Fm (Ty Vl Str nameB rightTy rightVl)

theorem vb_push2 {B m : Nat} {y wa wb wd we : World} {nv vv nv' vv' xn xv : Value} {N : List Str} {C : List VC} {s : Str} {v : Vl} (h : VB B y nv vv N C) (hs : s.length ≤ maxLen) (hm : ∀ k, nv.ownBlock = some k ∨ vv.ownBlock = some k → k < m) (hBm : B ≤ m) (hmy : m ≤ y.heap.size)
    (hx : VlAt (fun k => m ≤ k) y xn xv v) (u0 : Nw y wa) (o1 : wb.ownsRow B 9 1 nv' (N.length + 1) (N.map sF ++ [sF s])) (ua : Upd (fun k => nv.ownBlock = some k) wa wb) (hb1 : ∀ k, nv'.ownBlock = some k → nv.ownBlock = some k ∨ wa.heap.size ≤ k)
    (u2 : Nw wb wd) (o2 : we.ownsRow B tVl 4 vv' (C.length + 1) ((C.map vcL).flatten ++ vcL ⟨xn, xv, v⟩)) (ue : Upd (fun k => vv.ownBlock = some k) wd we) (hb2 : ∀ k, vv'.ownBlock = some k → vv.ownBlock = some k ∨ wd.heap.size ≤ k) :
    VB B we nv' vv' (N ++ [s]) (C ++ [⟨xn, xv, v⟩]) ∧ Upd (fun k => nv.ownBlock = some k ∨ vv.ownBlock = some k) y we := by
  have z0 := u0.size
  refine VB.push h hs (Nat.le_trans hBm hmy) u0 o1 ua hb1 (Upd.refl _ _) ?_ u2 o2 ue hb2
  have h1 : VlAt (fun k => m ≤ k ∧ k < wa.heap.size) wa xn xv v := (hx.nw u0).mono (fun k hk hp => ⟨hp, hk⟩)
  refine (h1.upd ua (fun k hp e => by have := hm k (Or.inl e); omega)).mono (fun k hk hp => ⟨by omega, fun e => ?_, fun e => by have := hm k (Or.inr e); omega⟩)
  rcases hb1 k e with e2 | e2
  · have := hm k (Or.inl e2); omega
  · omega
/-- Not all fields are there. -/
theorem all_no {d : Nat} {l : List (Str × Str)} {L : List (Str × Ty)} {f : Str × Ty} (hf : f ∈ L) (h : ((Fm.getE l f.1).isSome && (oneR d l f).isSome) = false) : ¬ (L.all (fun f => (Fm.getE l f.1).isSome && (oneR d l f).isSome) = true) := fun e => by
  rw [List.all_eq_true] at e
  rw [e f hf] at h
  cases h
end Go.Proofs.YtjlgmoemnhmgmaaGreatDoor
