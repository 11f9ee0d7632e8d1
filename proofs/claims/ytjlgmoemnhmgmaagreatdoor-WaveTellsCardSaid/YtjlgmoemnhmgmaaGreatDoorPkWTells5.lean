/- Plain: what is written for a type and read for another one. -/
import Derived.Test.YtjlgmoemnhmgmaaGreatDoorPkWTells4
namespace Go.Proofs.YtjlgmoemnhmgmaaGreatDoor
set_option linter.unusedVariables false
set_option linter.unusedSimpArgs false

namespace Fm
def okI : Nat → Vl → Prop
  | 0, _ => True
  | d + 1, v => Wire.Int64 v.n ∧ ∀ x ∈ v.vals, okI d x
theorem okI_no : ∀ d, okI d noV := by
  intro d
  cases d with
  | zero => trivial
  | succ d => exact ⟨⟨by decide, by decide⟩, fun x hx => by cases hx⟩
def exactP : Nat → Ty → Vl → Prop
  | 0, _, _ => False
  | d + 1, t, v => v.names.length = t.fs.length ∧ v.vals.length = t.fs.length ∧ ∀ i (h : i < t.fs.length), exactP d (t.fs[i]).2 (v.vals.getD i noV)
/-! ### Look-ups -/
theorem lookup_mem {l : List (Str × Ty)} {s : Str} {t : Ty} (h : lookup l s = some t) : (s, t) ∈ l := by
  unfold lookup at h
  rw [Option.map_eq_some_iff] at h
  obtain ⟨f, h1, h2⟩ := h
  have h3 := List.find?_some h1
  have h4 := List.mem_of_find?_eq_some h1
  have e : f.1 = s := of_decide_eq_true h3
  rw [← e, ← h2]
  exact List.mem_reverse.1 h4
theorem lookup_none {l : List (Str × Ty)} {s : Str} (h : lookup l s = none) : ∀ f ∈ l, f.1 ≠ s := fun f hf e => by
  unfold lookup at h
  rw [Option.map_eq_none_iff] at h
  have := List.find?_eq_none.1 h f (List.mem_reverse.2 hf)
  exact this (decide_eq_true e)
theorem nodup_snd {β : Type} {l : List (Str × β)} (h : (l.map (·.1)).Nodup) {s : Str} {x y : β} (h1 : (s, x) ∈ l) (h2 : (s, y) ∈ l) : x = y := by
  induction l with
  | nil => cases h1
  | cons a l ih =>
    rw [List.map_cons, List.nodup_cons] at h
    rcases List.mem_cons.1 h1 with e1 | h1
    · rcases List.mem_cons.1 h2 with e2 | h2
      · rw [← e1] at e2; exact (Prod.ext_iff.1 e2).2.symm
      · exact absurd (List.mem_map.2 ⟨_, h2, by rw [← e1]⟩) h.1
    · rcases List.mem_cons.1 h2 with e2 | h2
      · exact absurd (List.mem_map.2 ⟨_, h1, by rw [← e2]⟩) h.1
      · exact ih h.2 h1 h2
theorem getE_mem {l : List (Str × Str)} {s b : Str} (h : getE l s = some b) : (s, b) ∈ l := by
  unfold getE at h
  rw [Option.map_eq_some_iff] at h
  obtain ⟨f, h1, h2⟩ := h
  have h3 := List.find?_some h1
  have e : f.1 = s := of_decide_eq_true h3
  rw [← e, ← h2]
  exact List.mem_of_find?_eq_some h1
theorem getE_none {l : List (Str × Str)} {s : Str} (h : getE l s = none) : ∀ f ∈ l, f.1 ≠ s := fun f hf e => by
  unfold getE at h
  rw [Option.map_eq_none_iff] at h
  exact List.find?_eq_none.1 h f hf (decide_eq_true e)
theorem getE_some {l : List (Str × Str)} (h : (l.map (·.1)).Nodup) {s b : Str} (hm : (s, b) ∈ l) : getE l s = some b := by
  cases hl : getE l s with
  | none => exact absurd rfl (getE_none hl _ hm)
  | some u => rw [nodup_snd h (getE_mem hl) hm]
theorem idx_at {l : List Str} {i : Nat} (hi : i < l.length) (hn : l.Nodup) : idx l[i] l = i := by
  refine idx_hit hi (decide_eq_true rfl) (fun j hj hji => decide_eq_false (fun e => ?_))
  exact (List.pairwise_iff_getElem.1 hn) j i hj hi hji e
theorem idx_cases (s : Str) (l : List Str) : (idx s l = -1 ∧ s ∉ l) ∨ ∃ i, ∃ h : i < l.length, idx s l = i ∧ l[i] = s := by
  unfold idx idxI
  cases h : l.findIdx? (fun x => decide (x = s)) with
  | none =>
    refine Or.inl ⟨rfl, fun hm => ?_⟩
    rw [List.findIdx?_eq_none_iff] at h
    have := h s hm
    simp at this
  | some i =>
    obtain ⟨hi, hp, _⟩ := List.findIdx?_eq_some_iff_getElem.1 h
    exact Or.inr ⟨i, hi, rfl, of_decide_eq_true hp⟩
theorem idx_mem {s : Str} {l : List Str} : 0 ≤ idx s l ↔ s ∈ l := by
  rcases idx_cases s l with ⟨h, hn⟩ | ⟨i, hi, h, e⟩
  · rw [h]; exact ⟨fun h => by omega, fun h => absurd h hn⟩
  · rw [h]; exact ⟨fun _ => e ▸ List.getElem_mem hi, fun _ => by omega⟩
theorem at_map {v : Vl} {β : Type} {l : List (Str × β)} {g : Str × β → Vl} (h1 : v.names = l.map (·.1)) (h2 : v.vals = l.map g) (hn : (l.map (·.1)).Nodup) {f : Str × β} (hf : f ∈ l) : 0 ≤ idx f.1 v.names ∧ v.at_ f.1 = g f := by
  obtain ⟨i, hi, rfl⟩ := List.mem_iff_getElem.1 hf
  have e : idx (l[i]).1 v.names = i := by
    rw [h1]
    have := idx_at (l := l.map (·.1)) (i := i) (by simpa using hi) hn
    simpa using this
  refine ⟨by rw [e]; omega, ?_⟩
  unfold Vl.at_
  rw [e, h2]
  simp [hi]
theorem at_mem {v : Vl} {s : Str} (hl : v.names.length = v.vals.length) (h : 0 ≤ idx s v.names) : v.at_ s ∈ v.vals := by
  rcases idx_cases s v.names with ⟨e, _⟩ | ⟨i, hi, e, _⟩
  · omega
  · unfold Vl.at_
    rw [e]
    have : i < v.vals.length := by omega
    simp [this]
/-! ### Facts of right values -/
structure Rv (d : Nat) (v : Vl) : Prop where
  len : v.names.length = v.vals.length
  le : v.names.length ≤ 8
  asc : asc v.names = true
  all : ∀ x ∈ v.vals, rightVl d x = true
  k : v.kind = 0 ∨ v.kind = 1 ∨ v.kind = 2
  flat : v.kind ≠ 2 → v.names = [] ∧ v.vals = []
  n1 : v.kind = 1 → v.n = 0 ∨ v.n = 1
  n2 : v.kind = 2 → v.n = 0
theorem rv_iff {d : Nat} {v : Vl} : rightVl (d + 1) v = true ↔ Rv d v := by
  unfold rightVl
  constructor
  · intro h
    split at h
    · next hk =>
      simp only [Bool.and_eq_true, List.isEmpty_iff, Bool.or_eq_true, decide_eq_true_eq] at h
      obtain ⟨⟨h1, h2⟩, h3⟩ := h
      refine ⟨by rw [h1, h2]; rfl, by rw [h1]; exact Nat.zero_le _, by rw [h1]; rfl, fun x hx => (by rw [h2] at hx; cases hx), by omega, fun _ => ⟨h1, h2⟩, fun e => by omega, fun e => by omega⟩
    · next hk =>
      simp only [Bool.and_eq_true, decide_eq_true_eq, List.all_eq_true] at h
      obtain ⟨⟨⟨⟨⟨h1, h2⟩, h3⟩, h4⟩, h5⟩, h6⟩ := h
      exact ⟨h3, h4, h5, h6, Or.inr (Or.inr h1), fun e => absurd h1 e, fun e => by omega, fun _ => h2⟩
  · intro h
    split
    · next hk =>
      obtain ⟨h1, h2⟩ := h.flat (by omega)
      have := h.n1
      simp only [Bool.and_eq_true, List.isEmpty_iff, Bool.or_eq_true, decide_eq_true_eq]
      exact ⟨⟨h1, h2⟩, by rcases hk with hk | hk; exact Or.inl (Or.inl hk); rcases h.n1 hk with e | e; exact Or.inl (Or.inr e); exact Or.inr e⟩
    · next hk =>
      have h2 : v.kind = 2 := by have := h.k; omega
      simp only [Bool.and_eq_true, decide_eq_true_eq, List.all_eq_true]
      exact ⟨⟨⟨⟨⟨h2, h.n2 h2⟩, h.len⟩, h.le⟩, h.asc⟩, h.all⟩
structure Fit (d : Nat) (t : Ty) (v : Vl) : Prop where
  k : t.kind = v.kind
  i : ∀ f ∈ t.fs, 0 ≤ idx f.1 v.names
  s : ∀ f ∈ t.fs, fits d f.2 (v.at_ f.1) = true
theorem fit_iff {d : Nat} {t : Ty} {v : Vl} : fits (d + 1) t v = true ↔ Fit d t v := by
  unfold fits
  simp only [Bool.and_eq_true, decide_eq_true_eq, List.all_eq_true]
  exact ⟨fun h => ⟨h.1, fun f hf => (h.2 f hf).1, fun f hf => (h.2 f hf).2⟩, fun h => ⟨h.k, fun f hf => ⟨h.i f hf, h.s f hf⟩⟩⟩
structure Sb (d : Nat) (a b : Ty) : Prop where
  k : a.kind = b.kind
  s : ∀ f ∈ b.fs, ∃ t, lookup a.fs f.1 = some t ∧ sub d t f.2 = true
theorem sb_iff {d : Nat} {a b : Ty} : sub (d + 1) a b = true ↔ Sb d a b := by
  unfold sub
  simp only [Bool.and_eq_true, decide_eq_true_eq, List.all_eq_true]
  constructor
  · rintro ⟨h1, h2⟩
    refine ⟨h1, fun f hf => ?_⟩
    have := h2 f hf
    cases hl : lookup a.fs f.1 with
    | none => rw [hl] at this; cases this
    | some t => rw [hl] at this; exact ⟨t, rfl, this⟩
  · intro h
    refine ⟨h.k, fun f hf => ?_⟩
    obtain ⟨t, h1, h2⟩ := h.s f hf
    rw [h1]; exact h2
/-! ### Writing and reading -/
theorem textE_len (s : Str) (h : s.length ≤ 1000000) : (Wire.textE s).length ≤ s.length + 22 := by
  unfold Wire.textE
  have := Wire.itoa_le20 (v := s.length) (by omega) (by omega)
  simp only [List.length_append, List.length_cons, List.length_nil]
  omega
def W : Nat → Nat
  | 0 => 0
  | d + 1 => 44 + 8 * (64 + W d)
theorem flat_len {α : Type} {f : α → Str} {B : Nat} : ∀ {l : List α}, (∀ x ∈ l, (f x).length ≤ B) → (l.map f).flatten.length ≤ l.length * B := by
  intro l
  induction l with
  | nil => intro _; simp
  | cons a l ih =>
    intro h
    have h1 := h a (List.mem_cons_self ..)
    have h2 := ih (fun x hx => h x (List.mem_cons_of_mem _ hx))
    rw [List.map_cons, List.flatten_cons, List.length_append, List.length_cons, Nat.add_mul, Nat.one_mul]
    omega
theorem num_len {n : Int} (h : Wire.Int64 n) : (Wire.numE n).length ≤ 21 := by
  unfold Wire.numE Wire.intE
  have := Wire.itoa_le20 h.1 h.2
  split
  · simp
  · simp; omega
theorem int_len {n : Int} (h : Wire.Int64 n) : (Wire.intE n).length ≤ 21 := by
  unfold Wire.intE
  have := Wire.itoa_le20 h.1 h.2
  simp; omega
theorem W4 : W 4 ≤ 400000 := by decide
theorem W_mono {d e : Nat} (h : d ≤ e) : W d ≤ W e := by
  induction h with
  | refl => exact Nat.le_refl _
  | step _ ih =>
    refine Nat.le_trans ih ?_
    show W _ ≤ 44 + 8 * (64 + W _)
    omega
theorem okI_at {d : Nat} {v : Vl} (h : okI (d + 1) v) (s : Str) : okI d (v.at_ s) := by
  unfold Vl.at_
  rw [List.getD_eq_getElem?_getD]
  cases hc : v.vals[(idx s v.names).toNat]? with
  | none => exact okI_no d
  | some x => exact h.2 x (List.mem_of_getElem? hc)
theorem write_len : ∀ {d : Nat} {t : Ty} {v : Vl}, d ≤ 4 → rightTy d t = true → okI d v → (writeF d t v).length ≤ W d := by
  intro d
  induction d with
  | zero => intro t v _ _ _; exact Nat.zero_le _
  | succ d ih =>
    intro t v hd ht hv
    have hr := rt_iff.1 ht
    have hw : W d ≤ 400000 := Nat.le_trans (W_mono (show d ≤ 4 by omega)) W4
    have hk := num_len (n := t.kind) ⟨by have := hr.k0; omega, by have := hr.k3; omega⟩
    have hi := int_len hv.1
    have hn := num_len hv.1
    have hf : ((t.fs.map fun f => Wire.textE f.1 ++ Wire.textE (writeF d f.2 (v.at_ f.1))).flatten).length ≤ t.fs.length * (64 + W d) := flat_len (fun f hf => by
      have h1 := name_len (hr.name f hf)
      have h2 := ih (t := f.2) (v := v.at_ f.1) (by omega) (hr.sub f hf) (okI_at hv _)
      have h3 := textE_len f.1 (by omega)
      have h4 := textE_len (writeF d f.2 (v.at_ f.1)) (by omega)
      rw [List.length_append]; omega)
    have h8 : t.fs.length * (64 + W d) ≤ 8 * (64 + W d) := Nat.mul_le_mul_right _ hr.len
    show (Wire.numE t.kind ++ if t.kind = 0 then Wire.intE v.n else if t.kind = 1 then Wire.numE v.n else _).length ≤ 44 + 8 * (64 + W d)
    rw [List.length_append]
    split
    · omega
    · split
      · omega
      · omega
theorem ent_written : ∀ (F acc : List (Str × Str)), (∀ f ∈ F, f.1.length ≤ 1000000 ∧ f.2.length ≤ 1000000) → asc (F.map (·.1)) = true → (∀ z, acc.getLast? = some z → ∀ f ∈ F, lt z.1 f.1 = true) →
    entG acc (some ((F.map fun f => Wire.textE f.1 ++ Wire.textE f.2).flatten)) = some (acc ++ F) := by
  intro F
  induction F with
  | nil => intro acc _ _ _; rw [List.map_nil, List.flatten_nil, entG_end, List.append_nil]
  | cons f F ih =>
    intro acc hl ha hz
    obtain ⟨l1, l2⟩ := hl f (List.mem_cons_self ..)
    have e : ((f :: F).map fun f => Wire.textE f.1 ++ Wire.textE f.2).flatten = Wire.textE f.1 ++ (Wire.textE f.2 ++ (F.map fun f => Wire.textE f.1 ++ Wire.textE f.2).flatten) := by simp
    rw [e]
    have b1 := Wire.rText_back (s := f.1) (r := Wire.textE f.2 ++ (F.map fun f => Wire.textE f.1 ++ Wire.textE f.2).flatten) (by omega)
    have b2 := Wire.rText_back (s := f.2) (r := (F.map fun f => Wire.textE f.1 ++ Wire.textE f.2).flatten) (by omega)
    generalize hR : (F.map fun f => Wire.textE f.1 ++ Wire.textE f.2).flatten = R at *
    cases hX : Wire.textE f.1 ++ (Wire.textE f.2 ++ R) with
    | nil =>
      have := congrArg List.length hX
      simp [Wire.textE] at this
    | cons c r =>
      rw [hX] at b1
      rw [entG_step, b1]
      dsimp only
      rw [b2]
      dsimp only
      have hlow : lowE acc f.1 = false := by
        unfold lowE
        cases hg : acc.getLast? with
        | none => rfl
        | some z => show (!lt z.1 f.1) = false; rw [hz z hg f (List.mem_cons_self ..)]; rfl
      rw [hlow]
      simp only [Option.isNone_some, Bool.false_eq_true, if_false]
      rw [ih (acc ++ [(f.1, f.2)]) (fun x hx => hl x (List.mem_cons_of_mem _ hx)) (asc_tail ha) (fun z hg x hx => by
        rw [List.getLast?_append] at hg
        simp at hg
        subst hg
        exact asc_lt (by simpa using ha) x.1 (List.mem_map.2 ⟨x, hx, rfl⟩))]
      simp
theorem read_write : ∀ {d : Nat} {a b : Ty} {v : Vl}, d ≤ 4 → rightTy d a = true → rightTy d b = true → rightVl d v = true → fits d a v = true → okI d v → readF d b (writeF d a v) = if sub d a b = true then some (proj d b v) else none := by
  intro d
  induction d with
  | zero => intro a b v _ h; cases h
  | succ d ih =>
    intro a b v hd ha hb hv hf hi
    have ra := rt_iff.1 ha
    have rb := rt_iff.1 hb
    have rv := rv_iff.1 hv
    have ft := fit_iff.1 hf
    have hw : W d ≤ 400000 := Nat.le_trans (W_mono (show d ≤ 4 by omega)) W4
    have hread : ∀ X, Wire.rNum (some (Wire.numE a.kind ++ X)) = (a.kind, some X) := fun X => Wire.rNum_back ⟨by have := ra.k0; omega, by have := ra.k3; omega⟩ ra.k0
    rw [writeF.eq_2, readF.eq_2, hread]
    dsimp only
    simp only [Option.isNone_some, Bool.false_eq_true, false_or]
    by_cases hk : a.kind = b.kind
    rotate_left
    · rw [if_pos hk, if_neg (fun h => hk (sb_iff.1 h).k)]
    rw [if_neg (fun h => h hk)]
    by_cases h0 : b.kind = 0
    · rw [if_pos h0, if_pos (hk.trans h0)]
      have hbf := rb.rec_ (by omega)
      have := Wire.rInt_back (n := v.n) (r := []) hi.1
      rw [List.append_nil] at this
      rw [this]
      dsimp only
      rw [if_pos rfl, if_pos (sb_iff.2 ⟨hk, fun f hf => by rw [hbf] at hf; cases hf⟩)]
      congr 1
      refine Vl.ext h0.symm ?_ ?_ ?_
      · show v.n = if b.kind = 2 then 0 else v.n
        rw [if_neg (by omega)]
      · show [] = b.fs.map _; rw [hbf]; rfl
      · show [] = b.fs.map _; rw [hbf]; rfl
    rw [if_neg h0, if_neg (fun e => h0 (hk.symm.trans e))]
    by_cases h1 : b.kind = 1
    · rw [if_pos h1, if_pos (hk.trans h1)]
      have hbf := rb.rec_ (by omega)
      have hn := rv.n1 (by rw [← ft.k, hk, h1])
      have := Wire.rNum_back (n := v.n) (r := []) hi.1 (by omega)
      rw [List.append_nil] at this
      rw [this]
      dsimp only
      rw [if_pos ⟨rfl, by omega⟩, if_pos (sb_iff.2 ⟨hk, fun f hf => by rw [hbf] at hf; cases hf⟩)]
      congr 1
      refine Vl.ext h1.symm ?_ ?_ ?_
      · show v.n = if b.kind = 2 then 0 else v.n
        rw [if_neg (by omega)]
      · show [] = b.fs.map _; rw [hbf]; rfl
      · show [] = b.fs.map _; rw [hbf]; rfl
    rw [if_neg h1, if_neg (fun e => h1 (hk.symm.trans e))]
    have h2 : b.kind = 2 := by have := rb.k0; have := rb.k3; omega
    have nda := asc_nodup ra.asc
    -- the entries
    have hE : entG [] (some ((a.fs.map fun f => Wire.textE f.1 ++ Wire.textE (writeF d f.2 (v.at_ f.1))).flatten)) = some (a.fs.map fun f => (f.1, writeF d f.2 (v.at_ f.1))) := by
      have := ent_written (a.fs.map fun f => (f.1, writeF d f.2 (v.at_ f.1))) [] (fun f hf => by
        obtain ⟨g, hg, rfl⟩ := List.mem_map.1 hf
        have h1 := name_len (ra.name g hg)
        have h2 := write_len (t := g.2) (v := v.at_ g.1) (by omega) (ra.sub g hg) (okI_at hi _)
        exact ⟨by dsimp only; omega, by dsimp only; omega⟩) (by rw [List.map_map]; exact ra.asc) (fun z hz => by cases hz)
      rw [List.map_map, List.nil_append] at this
      exact this
    rw [hE]
    dsimp only
    have ndE : ((a.fs.map fun f => (f.1, writeF d f.2 (v.at_ f.1))).map (·.1)).Nodup := by rw [List.map_map]; exact nda
    -- each field of b
    have hfield : ∀ f ∈ b.fs, (lookup a.fs f.1 = none ∧ getE (a.fs.map fun f => (f.1, writeF d f.2 (v.at_ f.1))) f.1 = none) ∨ ∃ t, lookup a.fs f.1 = some t ∧ getE (a.fs.map fun f => (f.1, writeF d f.2 (v.at_ f.1))) f.1 = some (writeF d t (v.at_ f.1)) ∧
        readF d f.2 (writeF d t (v.at_ f.1)) = if sub d t f.2 = true then some (proj d f.2 (v.at_ f.1)) else none := fun f hf => by
      cases hl : lookup a.fs f.1 with
      | none =>
        refine Or.inl ⟨rfl, ?_⟩
        cases hg : getE (a.fs.map fun f => (f.1, writeF d f.2 (v.at_ f.1))) f.1 with
        | none => rfl
        | some x =>
          obtain ⟨g, hg1, hg2⟩ := List.mem_map.1 (getE_mem hg)
          exact absurd (Prod.ext_iff.1 hg2).1 (lookup_none hl g hg1)
      | some t =>
        have hm := lookup_mem hl
        refine Or.inr ⟨t, rfl, getE_some ndE (List.mem_map.2 ⟨_, hm, rfl⟩), ?_⟩
        have hix := ft.i _ hm
        exact ih (by omega) (ra.sub _ hm) (rb.sub _ hf) (rv.all _ (at_mem rv.len hix)) (ft.s _ hm) (okI_at hi _)
    have hall : (b.fs.all fun f => (getE (a.fs.map fun f => (f.1, writeF d f.2 (v.at_ f.1))) f.1).isSome && (readF d f.2 ((getE (a.fs.map fun f => (f.1, writeF d f.2 (v.at_ f.1))) f.1).getD [])).isSome) = sub (d + 1) a b := by
      unfold sub
      rw [decide_eq_true hk, Bool.true_and]
      rw [Bool.eq_iff_iff, List.all_eq_true, List.all_eq_true]
      refine forall_congr' fun f => forall_congr' fun hf => ?_
      rcases hfield f hf with ⟨h1, h2⟩ | ⟨t, h1, h2, h3⟩
      · rw [h1, h2]; simp
      · rw [h1, h2]
        simp only [Option.isSome_some, Bool.true_and, Option.getD_some]
        rw [h3]
        cases sub d t f.2 <;> simp
    rw [hall]
    cases hs : sub (d + 1) a b with
    | false => simp
    | true =>
      simp only [if_true]
      congr 1
      refine Vl.ext rfl ?_ rfl ?_
      · show (0 : Int) = if b.kind = 2 then 0 else v.n
        rw [if_pos h2]
      · show (b.fs.map _) = b.fs.map _
        refine List.map_congr_left fun f hf => ?_
        obtain ⟨t, ht1, ht2⟩ := (sb_iff.1 hs).s f hf
        rcases hfield f hf with ⟨h1, h2⟩ | ⟨t', h1, h2, h3⟩
        · rw [h1] at ht1; cases ht1
        · rw [h1] at ht1
          obtain rfl := Option.some.inj ht1
          rw [h2, Option.getD_some, h3, if_pos ht2]
          rfl
/-! ### Subtypes -/
/-! ### Zero values -/
theorem zero_ok : ∀ {d : Nat} {t : Ty}, rightTy d t = true → rightVl d (zero d t) = true ∧ fits d t (zero d t) = true ∧ okI d (zero d t) := by
  intro d
  induction d with
  | zero => intro t h; cases h
  | succ d ih =>
    intro t h
    have hr := rt_iff.1 h
    have hat : ∀ f ∈ t.fs, 0 ≤ idx f.1 (zero (d + 1) t).names ∧ (zero (d + 1) t).at_ f.1 = zero d f.2 := fun f hf => at_map (v := zero (d + 1) t) (g := fun f => zero d f.2) rfl rfl (asc_nodup hr.asc) hf
    refine ⟨rv_iff.2 ⟨?_, ?_, hr.asc, fun x hx => ?_, ?_, fun hk => ?_, fun _ => Or.inl rfl, fun _ => rfl⟩, fit_iff.2 ⟨rfl, fun f hf => (hat f hf).1, fun f hf => by rw [(hat f hf).2]; exact (ih (hr.sub f hf)).2.1⟩, ⟨⟨by show (-9223372036854775808 : Int) ≤ 0; decide, by show (0 : Int) ≤ 9223372036854775807; decide⟩, fun x hx => ?_⟩⟩
    · show (t.fs.map _).length = (t.fs.map _).length; simp
    · show (t.fs.map _).length ≤ 8; rw [List.length_map]; exact hr.len
    · obtain ⟨f, hf, rfl⟩ := List.mem_map.1 hx
      exact (ih (hr.sub f hf)).1
    · show t.kind = 0 ∨ t.kind = 1 ∨ t.kind = 2; have := hr.k0; have := hr.k3; omega
    · have := hr.rec_ hk
      exact ⟨by show t.fs.map _ = []; rw [this]; rfl, by show t.fs.map _ = []; rw [this]; rfl⟩
    · obtain ⟨f, hf, rfl⟩ := List.mem_map.1 hx
      exact (ih (hr.sub f hf)).2.2
/-! ### What is read -/
theorem read_ok : ∀ {d : Nat} {t : Ty} {s : Str} {w : Vl}, rightTy d t = true → readF d t s = some w → rightVl d w = true ∧ fits d t w = true ∧ okI d w ∧ exactP d t w := by
  intro d
  induction d with
  | zero => intro t s w h; cases h
  | succ d ih =>
    intro t s w ht h
    have hr := rt_iff.1 ht
    unfold readF at h
    dsimp only at h
    split at h
    · cases h
    split at h
    · next h0 =>
      split at h
      · obtain rfl := Option.some.inj h
        have hi := Wire.rNumber_i64 (Wire.rNum (some s)).2 59 (-9223372036854775808)
        have hfs := hr.rec_ (by omega)
        exact ⟨rv_iff.2 ⟨rfl, Nat.zero_le _, rfl, (fun x hx => by cases hx), Or.inl rfl, fun _ => ⟨rfl, rfl⟩, (fun e => absurd e (by show ¬ (0 : Int) = 1; decide)), (fun e => absurd e (by show ¬ (0 : Int) = 2; decide))⟩, fit_iff.2 ⟨h0, (fun f hf => by rw [hfs] at hf; cases hf), (fun f hf => by rw [hfs] at hf; cases hf)⟩, ⟨hi, (fun x hx => by cases hx)⟩, ⟨by rw [hfs]; rfl, by rw [hfs]; rfl, fun i hi => by rw [hfs] at hi; cases hi⟩⟩
      · cases h
    split at h
    · next h1 =>
      split at h
      · next hn =>
        obtain rfl := Option.some.inj h
        have hi := Wire.rNumber_i64 (Wire.rNum (some s)).2 59 0
        have hl := Wire.rNumber_least (Wire.rNum (some s)).2 59 0 (by decide)
        have hfs := hr.rec_ (by omega)
        have hn2 : (Wire.rNum (Wire.rNum (some s)).2).1 ≤ 1 := hn.2
        have hl2 : 0 ≤ (Wire.rNum (Wire.rNum (some s)).2).1 := hl
        exact ⟨rv_iff.2 ⟨rfl, Nat.zero_le _, rfl, (fun x hx => by cases hx), Or.inr (Or.inl rfl), fun _ => ⟨rfl, rfl⟩, (fun e => by show (Wire.rNum (Wire.rNum (some s)).2).1 = 0 ∨ (Wire.rNum (Wire.rNum (some s)).2).1 = 1; omega), (fun e => absurd e (by show ¬ (1 : Int) = 2; decide))⟩, fit_iff.2 ⟨h1, (fun f hf => by rw [hfs] at hf; cases hf), (fun f hf => by rw [hfs] at hf; cases hf)⟩, ⟨hi, (fun x hx => by cases hx)⟩, ⟨by rw [hfs]; rfl, by rw [hfs]; rfl, fun i hi => by rw [hfs] at hi; cases hi⟩⟩
      · cases h
    · next hk0 hk1 =>
      split at h
      · cases h
      · next l hl =>
        split at h
        · next hall =>
          obtain rfl := Option.some.inj h
          have h2 : t.kind = 2 := by have := hr.k0; have := hr.k3; omega
          rw [List.all_eq_true] at hall
          have hsub : ∀ f ∈ t.fs, ∃ x, readF d f.2 ((getE l f.1).getD []) = some x := fun f hf => by
            have := hall f hf
            rw [Bool.and_eq_true] at this
            exact Option.isSome_iff_exists.1 this.2
          have hg : ∀ f ∈ t.fs, rightVl d ((readF d f.2 ((getE l f.1).getD [])).getD noV) = true ∧ fits d f.2 ((readF d f.2 ((getE l f.1).getD [])).getD noV) = true ∧ okI d ((readF d f.2 ((getE l f.1).getD [])).getD noV) ∧ exactP d f.2 ((readF d f.2 ((getE l f.1).getD [])).getD noV) := fun f hf => by
            obtain ⟨x, hx⟩ := hsub f hf
            rw [hx]
            exact ih (hr.sub f hf) hx
          have hat : ∀ f ∈ t.fs, _ := fun f hf => at_map (v := .mk t.kind 0 (t.fs.map (·.1)) (t.fs.map fun f => (readF d f.2 ((getE l f.1).getD [])).getD noV)) (g := fun f => (readF d f.2 ((getE l f.1).getD [])).getD noV) rfl rfl (asc_nodup hr.asc) hf
          refine ⟨rv_iff.2 ⟨?_, ?_, hr.asc, fun x hx => ?_, Or.inr (Or.inr h2), fun hk => absurd h2 hk, fun _ => Or.inl rfl, fun _ => rfl⟩, fit_iff.2 ⟨rfl, fun f hf => (hat f hf).1, fun f hf => by rw [(hat f hf).2]; exact (hg f hf).2.1⟩, ⟨⟨by show (-9223372036854775808 : Int) ≤ 0; decide, by show (0 : Int) ≤ 9223372036854775807; decide⟩, fun x hx => ?_⟩, ⟨?_, ?_, fun i hi => ?_⟩⟩
          · show (t.fs.map _).length = (t.fs.map _).length; simp
          · show (t.fs.map _).length ≤ 8; rw [List.length_map]; exact hr.len
          · obtain ⟨f, hf, rfl⟩ := List.mem_map.1 hx
            exact (hg f hf).1
          · obtain ⟨f, hf, rfl⟩ := List.mem_map.1 hx
            exact (hg f hf).2.2.1
          · show (t.fs.map _).length = _; simp
          · show (t.fs.map _).length = _; simp
          · have e : (Vl.mk t.kind 0 (t.fs.map (·.1)) (t.fs.map fun f => (readF d f.2 ((getE l f.1).getD [])).getD noV)).vals.getD i noV = (readF d (t.fs[i]).2 ((getE l (t.fs[i]).1).getD [])).getD noV := by
              show (t.fs.map _).getD i noV = _
              simp [hi]
            rw [e]
            exact (hg _ (List.getElem_mem hi)).2.2.2
        · cases h
end Fm
end Go.Proofs.YtjlgmoemnhmgmaaGreatDoor
