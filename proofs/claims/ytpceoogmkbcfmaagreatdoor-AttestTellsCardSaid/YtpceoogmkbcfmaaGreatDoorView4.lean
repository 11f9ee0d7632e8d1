/- The contract of the view's Accept. -/
import Derived.Test.YtpceoogmkbcfmaaGreatDoorView2
import Derived.Test.YtpceoogmkbcfmaaGreatDoorView3
import Derived.Deep.AppendLies
import Derived.Test.YtpceoogmkbcfmaaGreatDoorOrd
import Derived.Deep.CutRange
namespace Go.Proofs.YtpceoogmkbcfmaaGreatDoor
open Go.RowKit
open Go.Maps (Keyed)
set_option linter.unusedVariables false
set_option linter.unusedSimpArgs false
attribute [local irreducible] Calls

theorem read_i64 (l : List UInt8) : I64C (Cl.read l).1 := by
  cases h : (Cl.read l).2 with
  | true =>
    obtain ⟨b1, b2, b3, b4, b5, b6, b7⟩ := Cl.right_bounds (Cl.read_inv (s := l) (c := (Cl.read l).1) (by rw [← h])).1
    exact ⟨by unfold I64; omega, by unfold I64; omega, by unfold I64; omega, by omega⟩
  | false =>
    rw [Cl.read_no h]
    exact ⟨by show I64 0; unfold I64; omega, by show I64 0; unfold I64; omega, by show I64 0; unfold I64; omega, Nat.zero_le _⟩
section
variable {B : Nat} {w : World} {r : ViewR} {rb : Nat} {key : Int} {L : List Bk.Sgn}
end
theorem heap_at {w : World} {o : Obj} {k : Nat} (h : w.heap.size = k) : (w.alloc o).heap[k]? = some o := by subst h; exact heap_new w o
theorem heap_at2 {w : World} {o o' : Obj} {k : Nat} (h : w.heap.size = k) : ((w.alloc o).alloc o').heap[k]? = some o := by
  subst h
  exact (heap_alloc _ _ _ (by simp)).trans (heap_new w o)
/-- 'append(s, x)' at a step of a region that draws its order: s is the call's own since W0, of which only blocks in T have changed. -/
theorem step_appU {P : Program} {w : World} {ops : Array Oper} {o : Oper} {a : Act} {K : Act → World → Prop} {Q : Exit → Act → World → Prop} {E : Prop} (hgd : o.guard = none) (s x : Operand) (t : TypeId)
    (ho : o.op = .call { callee := .builtin .append, args := #[s, x], argTypes := #[t, t] })
    (base : Nat) (e : TypeId) (z : Value) (size bytes : Nat) (ht : P.underlying t = some (.slice e)) (hinfo : (P.info? e).map (fun i => (i.zero, i.size, i.bytes)) = some (some z, size, bytes)) (hzs : z.cells.size = size) (hsz : 0 < size)
    (v : Value) (n : Nat) (xs : List Value) (hs : a.eval s = v) (W0 : World) (T : Nat → Prop) (hown : W0.ownsRow base e size v n xs) (u : Upd T W0 w) (hT : ∀ k, v.ownBlock = some k → ¬ T k)
    (nb : Nat) (news : List Value) (hx : a.eval x = .slice (some ⟨nb, 0, none⟩) 1 1) (hb : w.heap[nb]? = some (.cells news.toArray e (0, 0))) (hl : news.length = size) (h1 : ∀ u ∈ news, u.oneCell' = true)
    (h63 : n + 1 ≤ maxLen) (hbytes : (n + 1) * bytes ≤ 140737488355328) (hbase : base ≤ W0.heap.size) (hnG : nG ≤ base)
    (h : ∀ g cap w', w'.ownsRow base e size (.slice (some ⟨g, 0, none⟩) (n + 1) cap) (n + 1) (xs ++ news) → Upd (fun k => v.ownBlock = some k) w w' → (v.ownBlock = some g ∨ W0.heap.size ≤ g) → K (a.put o.dst (.slice (some ⟨g, 0, none⟩) (n + 1) cap)) w') :
    if Region.wanted o (yielded ops a.tmps) = true then Oper.wp P o a w K Q else E := by
  obtain ⟨i0, hi, hz0, hz1, hz2⟩ := info_parts hinfo
  have hsz2 := u.size
  refine step_append_lies _ hgd s x t ho base e i0 z size bytes ht hi hz0 hz1 hz2 hzs hsz v n xs hs (owns_upd' hown u hT) ⟨nb, 0, none⟩ 1 1 news hx (by omega) ?_ h1 (by omega) h63 hbytes (by omega) w.heap.size rfl fun g cap w' h2 h3 h4 h5 => ?_
  · intro j u hu
    rw [add_plain, cells_cell hb, Nat.zero_add]
    simpa using hu
  · refine h g cap w' h2 ((Upd.refl _ w).grown h3 fun k hk => ⟨Or.inl hk, ?_⟩) (h4.imp id (fun e => by omega))
    have := (hown.lt k hk).1
    omega
section
variable {B : Nat} {w W z z' : World} {r : ViewR} {rb : Nat} {key : Int} {L : List Bk.Sgn} {s : Bk.Sgn} {cb : Nat} {sv cv : Value}
theorem ent_same (hk : (Vw.claimOf s).kind ≠ 0) : entV (L ++ [s]) = entV L := by
  unfold entV
  rw [Vw.entA_snoc, Vw.entOf, if_neg hk]; simp
theorem abs_same (hk : (Vw.claimOf s).kind ≠ 2) : absV (L ++ [s]) = absV L := by
  unfold absV
  rw [Vw.absA_snoc, Vw.absAStep, if_neg hk]
theorem size_same (hk : ¬ ((Vw.claimOf s).kind = 1 ∧ (Vw.sizeOf L).2 < (Vw.claimOf s).time)) : Vw.sizeOf (L ++ [s]) = Vw.sizeOf L := by
  rw [Vw.sizeOf_snoc, Vw.sizeStep, if_neg hk]
theorem size_new (hk : (Vw.claimOf s).kind = 1 ∧ (Vw.sizeOf L).2 < (Vw.claimOf s).time) : Vw.sizeOf (L ++ [s]) = ((Vw.claimOf s).n, (Vw.claimOf s).time) := by
  rw [Vw.sizeOf_snoc, Vw.sizeStep, if_pos hk]
end
end Go.Proofs.YtpceoogmkbcfmaaGreatDoor
