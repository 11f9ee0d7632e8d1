/- The rows of the store's statements list two tables of utf8 beside the others: what they give the walks, and the witness' world, laid by a law. The values of the statements of layer 1, in memory: a Value, a slice of Values. -/
import Derived.Test.YtkldcnikeoofiaaGreatDoorPkSS0
import Derived.Lay
namespace Go.Proofs.YtkldcnikeoofiaaGreatDoor
open Go.ChangeShapes Go.WideShapes Go.ChangeAt Go.RowKit
set_option linter.unusedVariables false
set_option linter.unusedSimpArgs false

theorem gl_of_laidB {W : World} (h : laidMetH Tryz.prog Rows.storeKeepsRow.laid W) : Gl W := by
  rw [MakeChecks.laidMetH_plain _ _ _ (by kernel_rfl)] at h
  have h1 := h.tail.tail
  have h2 := h1.tail.tail
  have h3 := h2.tail
  have ht : Lib.TabIs Tryz.prog W "internal/strconv.uint64pow10" .u64 Lib.pow10Tab := by
    have h1' : laidMet Tryz.prog (("internal/strconv.uint64pow10", Lib.tabData .u64 Lib.pow10Tab) :: Rows.storeKeepsRow.laid.tail.tail.tail) W := by rw [← pow_eq]; exact h1
    exact Lib.tabIs_of_head gTab tTab Tryz.underlying380 Tryz.underlying313 cU64 cTab h1'
  obtain ⟨a, s, hv, _⟩ := laid_sentinel h3 gSyn tErr2 Tryz.underlying117 rowErr Tryz.underlying409 Tryz.underlying411 rfl rfl Tryz.underlying9 cErr cStr
  obtain ⟨a', s', hv', _⟩ := laid_sentinel h2 gRng tErr1 Tryz.underlying117 rowErr Tryz.underlying409 Tryz.underlying411 rfl rfl Tryz.underlying9 cErr cStr
  have b1 := lt_of_var gTab ht
  have b2 := lt_of_var gSyn hv
  have b3 := lt_of_var gRng hv'
  exact ⟨by unfold nG; omega, ht, ⟨_, _, hv⟩, ⟨_, _, hv'⟩⟩
noncomputable def laidWorldB (os : Os) : World := World.laidAll Tryz.prog os Rows.storeKeepsRow.laid
theorem laid_metB (os : Os) (args : Array Value) : laidMet Tryz.prog Rows.storeKeepsRow.laid ((laidWorldB os).forCall (fun _ _ => 0) ⟨#[], args, []⟩).memory :=
  laidMet_laidAll _ (by kernel_rfl) (by kernel_rfl)
theorem shapedB (os : Os) (args : Array Value) : ((laidWorldB os).forCall (fun _ _ => 0) ⟨#[], args, []⟩).Shaped Tryz.prog :=
  World.shaped_of_ZipB (by kernel_rfl) (by kernel_rfl)
theorem witness_rowZ {H : Type} {enc : TypeId × Value → H} {C : Checked} {os : Os} {f : FuncId} {fn : Func} {s : OpenSpec} {conds : List PathCond} {apart : Bool} {laid : List (String × DataW Unit)} (modest : Bool) (w0 : World) (args : Array Value) (hos : w0.os = os)
    (hs : (w0.forCall (fun _ _ => 0) ⟨#[], args, []⟩).Shaped C.prog) (hok : Input.okWideB C.prog (w0.forCall (fun _ _ => 0) ⟨#[], args, []⟩) f ⟨#[], args, []⟩ = true)
    (hrow : s.preRow enc C.prog fn conds apart laid (w0.forCall (fun _ _ => 0) ⟨#[], args, []⟩).memory args) :
    ∃ (w : World) (tape : Tape) (i : Input), w.os = os ∧ (w.forCall tape i).Shaped C.prog ∧ i.vars = [] ∧ Input.okWide C.prog (w.forCall tape i) .any w.heap.size f i ∧
      s.preRow enc C.prog fn conds apart laid (w.forCall tape i).memory i.args ∧ ({ modest := modest } : Assume).holds C.prog (lone (Frame.enter C.prog f i.args .normal) [] (w.forCall tape i)) :=
  ⟨w0, fun _ _ => 0, ⟨#[], args, []⟩, hos, hs, (Input.okWide_of_okWideB (base := 0) hok).1, (Input.okWide_of_okWideB hok).2, hrow, by
    simp only [Assume.holds]
    exact ⟨by simp, by simp, fun _ => Modest.zero, by simp, by simp⟩⟩
end Go.Proofs.YtkldcnikeoofiaaGreatDoor
namespace Go.Proofs.YtkldcnikeoofiaaGreatDoor
open Go.ChangeShapes Go.WideShapes Go.ChangeAt Go.RowKit Go.Joins
set_option linter.unusedVariables false
set_option linter.unusedSimpArgs false

structure Val where
  kind : Int
  n : Int
  s : List UInt8
  l : List Int
  t : List (List UInt8)
/-- The cells cs are those of x. -/
def IsVal (hi : Nat) (w : World) (cs : List Value) (x : Val) : Prop :=
  ∃ vl vt, cs = [.int .i64 x.kind, .int .i64 x.n, .string ⟨x.s.toArray⟩, vl, vt] ∧ Sl 0 hi w vl (x.l.map (Value.int .i64)) ∧ Sl 0 hi w vt (x.t.map fun s => Value.string ⟨s.toArray⟩) ∧ I64 x.kind ∧ I64 x.n ∧ ∀ m ∈ x.l, I64 m
theorem IsVal.nw {hi : Nat} {w w' : World} {cs : List Value} {x : Val} (h : IsVal hi w cs x) (u : Nw w w') : IsVal hi w' cs x := by
  obtain ⟨vl, vt, h1, h2, h3, h4⟩ := h
  exact ⟨vl, vt, h1, h2.nw u, h3.nw u, h4⟩
def Vals (hi : Nat) (w : World) (v : Value) (l : List Val) : Prop :=
  ∃ xs, SlS 5 0 hi w v xs ∧ l.length = xs.length ∧ ∀ i (h1 : i < xs.length) (h2 : i < l.length), IsVal hi w xs[i] l[i]
theorem Vals.nw {hi : Nat} {w w' : World} {v : Value} {l : List Val} (h : Vals hi w v l) (u : Nw w w') : Vals hi w' v l := by
  obtain ⟨xs, h1, h2, h3⟩ := h
  exact ⟨xs, h1.nw u, h2, fun i a b => (h3 i a b).nw u⟩

section
variable {H : Type} {enc : TypeId × Value → H} {w : World} {base : Nat} {sp : Nat → Bool} {held : Bool} {n : Nat} {x : DataW H × List MemPlace}
end
end Go.Proofs.YtkldcnikeoofiaaGreatDoor
