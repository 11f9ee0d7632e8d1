/- Layer 3 (journal) in plain words: what is true of a journal's file whatever fails, crashes and is lost (P3.6). No program stands in this text. -/
import Derived.Test.YtiambnllidingaaGreatDoorJrnTn
namespace Go.Proofs.YtiambnllidingaaGreatDoor.Jr
open Go.Lib Go.RowKit
open Dk (Disk Fil)
set_option linter.unusedVariables false
set_option linter.unusedSimpArgs false

theorem get_pre {a b : List UInt8} (h : a <+: b) {k : Nat} (hk : k < a.length) : b[k]? = a[k]? := by
  obtain ⟨r, rfl⟩ := h
  rw [List.getElem?_append_left hk]
theorem pre_get {a b : List UInt8} (hl : a.length ≤ b.length) (h : ∀ k, k < a.length → b[k]? = a[k]?) : a <+: b := by
  rw [List.prefix_iff_eq_take]
  refine List.ext_getElem? (fun k => ?_)
  rw [List.getElem?_take]
  by_cases hk : k < a.length
  · rw [if_pos hk, h k hk]
  · rw [if_neg hk, List.getElem?_eq_none (by omega)]
/-- A sector of N is put into what is left of N. -/
theorem put_tn {s N L : List UInt8} {i : Nat} (h : Tn s N) (h1 : L <+: s) (h2 : L <+: N) (hi : i < N.length) : Tn (Dk.put s i ((N.drop i).take 64)) N ∧ L <+: Dk.put s i ((N.drop i).take 64) := by
  have hl : ((N.drop i).take 64).length = min 64 (N.length - i) := by rw [List.length_take, List.length_drop]
  have hne : (N.drop i).take 64 ≠ [] := fun e => by rw [e] at hl; simp at hl; omega
  have hlen := Dk.put_len s i _ hne
  have hg := Dk.put_get s i _ hne
  rw [tn_iff] at h
  have hin : ∀ k, i ≤ k → k < i + ((N.drop i).take 64).length → ((N.drop i).take 64)[k - i]? = N[k]? := fun k h3 h4 => by
    rw [List.getElem?_take, if_pos (by omega), List.getElem?_drop]
    congr 1
    omega
  refine ⟨?_, ?_⟩
  · rw [tn_iff]
    refine ⟨by omega, fun k hk => ?_⟩
    rw [hg k]
    split
    · split
      · rename_i h4; exact h.2 k h4
      · exact Or.inr rfl
    · split
      · rename_i h3 h4; exact Or.inl (hin k (by omega) h4)
      · rename_i h3 h4; exact h.2 k (by omega)
  · have hll := h1.length_le
    refine pre_get (by omega) (fun k hk => ?_)
    rw [hg k]
    split
    · rw [if_pos (by omega)]; exact get_pre h1 hk
    · split
      · rename_i h3 h4
        rw [hin k (by omega) h4]; exact get_pre h2 hk
      · exact get_pre h1 hk
theorem survives_tn {keep : List Int} {f : Int} {N L : List UInt8} (h2 : L <+: N) : ∀ (q : List (Int × Int)) (i : Nat) (fs : Int → Fil), (fs f).now = N → Tn (fs f).last N → L <+: (fs f).last →
    Tn (Dk.survives keep q i fs f).last N ∧ L <+: (Dk.survives keep q i fs f).last := by
  intro q
  induction q with
  | nil => intro i fs _ h3 h4; exact ⟨h3, h4⟩
  | cons p q ih =>
    intro i fs h1 h3 h4
    have hs : Tn (Dk.survive keep fs p i f).last N ∧ L <+: (Dk.survive keep fs p i f).last := by
      unfold Dk.survive
      split
      · rename_i hc
        by_cases e : f = p.1
        · subst e
          rw [Dk.setF_self]
          dsimp only
          rw [h1] at hc ⊢
          exact put_tn h3 h4 h2 hc.2
        · rw [Dk.setF_ne _ _ e]
          exact ⟨h3, h4⟩
      · exact ⟨h3, h4⟩
    exact ih (i + 1) _ (by rw [Dk.survive_now]; exact h1) hs.1 hs.2
/-- Whatever fails: the file is what is left of the list's forms, and its durable part, a beginning of it, has all that was made sure of. -/
structure Inv (D : Disk) (f : Int) (all sure : List (List UInt8)) : Prop where
  ok : Dk.Ok D
  tn : Tn (D.fs f).now (forms all)
  pre : (D.fs f).last <+: (D.fs f).now
  has : forms sure <+: (D.fs f).last
  small : ∀ a ∈ all, a.length ≤ 2000
  sub : sure <+: all
variable {D : Disk} {f : Int} {all sure : List (List UInt8)}
theorem Inv.of_fs {D' : Disk} (h : Inv D f all sure) (hk : Dk.Ok D') (e : D'.fs = D.fs) : Inv D' f all sure := ⟨hk, by rw [e]; exact h.tn, by rw [e]; exact h.pre, by rw [e]; exact h.has, h.small, h.sub⟩
theorem Inv.more (h : Inv D f all sure) {s : List UInt8} (hs : s.length ≤ 2000) : Inv D f (all ++ [s]) sure :=
  ⟨h.ok, by rw [forms_snoc]; exact tn_more h.tn, h.pre, h.has, fun a ha => by
    rcases List.mem_append.1 ha with ha | ha
    · exact h.small a ha
    · rw [List.mem_singleton.1 ha]; exact hs, h.sub.trans (List.prefix_append _ _)⟩
theorem Inv.crash (h : Inv D f all sure) (keep : List Int) : Inv (Dk.crash D keep) f all sure := by
  have hk := Dk.crash_ok h.ok keep
  unfold Dk.crash at hk ⊢
  split
  · exact h
  · rename_i hd
    rw [if_neg hd] at hk
    obtain ⟨h1, h2⟩ := survives_tn (keep := keep) h.pre D.q 0 D.fs rfl (tn_pre h.pre) (List.prefix_refl _)
    exact ⟨hk, tn_trans h1 h.tn, List.prefix_refl _, h.has.trans h2, h.small, h.sub⟩
theorem counted_fs (D : Disk) : (Dk.counted D).fs = D.fs := by unfold Dk.counted; split <;> rfl
theorem counted_q (D : Disk) : (Dk.counted D).q = D.q := by unfold Dk.counted; split <;> rfl
theorem counted_lost (D : Disk) : (Dk.counted D).lost = D.lost := by unfold Dk.counted; split <;> rfl
theorem counted_down (D : Disk) : (Dk.counted D).down = D.down := by unfold Dk.counted; split <;> rfl
theorem counted_keep (D : Disk) : (Dk.counted D).keep = D.keep := by unfold Dk.counted; split <;> rfl
theorem Inv.counted (h : Inv D f all sure) : Inv (Dk.counted D) f all sure := h.of_fs (Dk.counted_ok h.ok) (counted_fs D)
theorem Inv.come (h : Inv D f all sure) : Inv (Dk.come D) f all sure := by
  unfold Dk.come
  split
  · exact h.counted.crash _
  · exact h.counted
theorem put_end (s t : List UInt8) : Dk.put s s.length t = s ++ t := by
  unfold Dk.put
  split
  · rename_i h; rw [h, List.append_nil]
  · rw [List.take_length, Nat.sub_self, List.drop_eq_nil_of_le (by omega)]
    simp
theorem form_ne (s : List UInt8) : form s ≠ [] := fun e => by have := form_pos s; rw [e] at this; cases this
/-- A record's form is added at the end. -/
theorem Inv.write0 (h : Inv D f all sure) (hn : (D.fs f).now = forms all) {s : List UInt8} (hs : s.length ≤ 2000) :
    Inv (Dk.write0 D f (forms all).length (form s)).1 f (all ++ [s]) sure ∧ ((Dk.write0 D f (forms all).length (form s)).2 = 0 → ((Dk.write0 D f (forms all).length (form s)).1.fs f).now = forms (all ++ [s])) := by
  have hk := Dk.write0_ok h.ok f (forms all).length (form s)
  have hm := h.more hs
  unfold Dk.write0 at hk ⊢
  split
  · rename_i h1
    exact ⟨hm, fun e => absurd e h1⟩
  · rename_i h1
    rw [if_neg h1] at hk
    split
    · rename_i h2
      exact ⟨hm, fun e => absurd e h2⟩
    · rename_i h2
      rw [if_neg h2] at hk
      have e1 : ((Dk.add D f (((forms all).length : Int)).toNat (form s)).fs f) = ⟨forms all ++ form s, (D.fs f).last⟩ := by
        unfold Dk.add
        rw [if_neg (form_ne s)]
        dsimp only
        rw [Dk.setF_self, hn, Int.toNat_natCast, put_end]
      refine ⟨⟨hk, ?_, ?_, ?_, hm.small, hm.sub⟩, fun _ => ?_⟩
      · rw [e1, forms_snoc]; exact tn_refl _
      · rw [e1, ← hn]; exact h.pre.trans (List.prefix_append _ _)
      · rw [e1]; exact h.has
      · rw [e1, forms_snoc]
theorem Inv.write (h : Inv D f all sure) (hn : (D.fs f).now = forms all) {s : List UInt8} (hs : s.length ≤ 2000) :
    Inv (Dk.write D f (forms all).length (form s)).1 f (all ++ [s]) sure ∧ ((Dk.write D f (forms all).length (form s)).2 = 0 → ((Dk.write D f (forms all).length (form s)).1.fs f).now = forms (all ++ [s])) := by
  obtain ⟨h1, h2⟩ := h.counted.write0 (by rw [counted_fs]; exact hn) hs
  unfold Dk.write
  split
  · exact ⟨h1.crash _, fun e => by cases e⟩
  · exact ⟨h1, h2⟩
/-- What a write of a form returns. -/
theorem write_err {n : Nat} {s : List UInt8} (hf : 0 ≤ f ∧ f < 16) (hn : n + s.length ≤ 16777216) : (Dk.write D f n s).2 = 0 ∨ (Dk.write D f n s).2 = 8 := by
  unfold Dk.write
  split
  · exact Or.inr rfl
  · unfold Dk.write0
    have hw : Dk.wErr (n : Int) s.length = 0 := by
      unfold Dk.wErr
      rw [if_neg (by omega), if_neg (by omega)]
    split
    · unfold Dk.may
      split
      · exact Or.inr rfl
      · rw [if_neg (by omega)]; exact Or.inl rfl
    · split
      · rename_i h2; exact absurd hw h2
      · exact Or.inl rfl
theorem write_up {n : Nat} {s : List UInt8} (hf : 0 ≤ f ∧ f < 16) (hn : n + s.length ≤ 16777216) (hd : D.down = false) (ha : D.armed = 0) :
    (Dk.write D f n s).2 = 0 ∧ (Dk.write D f n s).1 = Dk.add D f n s := by
  have hc : Dk.counted D = D := by unfold Dk.counted; rw [if_pos (Or.inr ha)]
  unfold Dk.write Dk.ends
  rw [hc, hd, ha]
  rw [if_neg (by decide)]
  unfold Dk.write0
  have hm : Dk.may D f = 0 := by unfold Dk.may; rw [hd, if_neg (by decide), if_neg (by omega)]
  have hw : Dk.wErr (n : Int) s.length = 0 := by
    unfold Dk.wErr
    rw [if_neg (by omega), if_neg (by omega)]
  rw [hm, if_neg (by decide), hw, if_neg (by decide)]
  simp
theorem come_down {D : Disk} (h : (Dk.come D).down = false) : Dk.ends D = false ∧ Dk.come D = Dk.counted D ∧ D.down = false := by
  unfold Dk.come at h ⊢
  cases he : Dk.ends D with
  | true =>
    rw [he] at h
    simp only [if_true] at h
    have hd : (Dk.counted D).down = false := by
      rw [counted_down]
      unfold Dk.ends at he
      cases hx : D.down with
      | true => rw [hx] at he; simp at he
      | false => rfl
    unfold Dk.crash at h
    rw [hd] at h
    simp at h
  | false =>
    rw [he, if_neg (by decide)] at h
    rw [counted_down] at h
    exact ⟨rfl, by rw [if_neg (by decide)], h⟩
/-- A sync that is done makes sure of all. -/
theorem sync_done (h : (Dk.sync D f).2 = 0) : ((Dk.sync D f).1.fs f).now = (D.fs f).now ∧ ((Dk.sync D f).1.fs f).last = (D.fs f).now ∧ (Dk.sync D f).1.down = false ∧ 0 ≤ f ∧ f < 16 := by
  unfold Dk.sync at h ⊢
  split at h
  · rename_i h1; exact absurd h h1
  · rename_i h1
    have hm := Dk.may_file (Decidable.not_not.1 h1)
    rw [if_neg h1]
    split at h
    · cases h
    · rename_i h2
      rw [if_neg h2]
      have hc := (come_down hm.1).2.1
      unfold Dk.settle
      dsimp only
      rw [Dk.setF_self, hc, counted_fs]
      exact ⟨rfl, rfl, by rw [← hc]; exact hm.1, hm.2⟩
theorem Inv.settle (h : Inv D f all sure) (hk : Dk.Ok (Dk.settle D f (D.fs f).now)) : Inv (Dk.settle D f (D.fs f).now) f all sure := by
  refine ⟨hk, ?_, ?_, ?_, h.small, h.sub⟩ <;> unfold Dk.settle <;> dsimp only <;> rw [Dk.setF_self]
  · exact h.tn
  · exact List.prefix_refl _
  · exact h.has.trans h.pre
theorem Inv.sync (h : Inv D f all sure) : Inv (Dk.sync D f).1 f all sure := by
  have hk := Dk.sync_ok h.ok f
  have hc := h.come
  unfold Dk.sync at hk ⊢
  split
  · exact hc
  · rename_i h1
    rw [if_neg h1] at hk
    split
    · rename_i h2
      rw [if_pos h2] at hk
      exact hc.of_fs hk rfl
    · rename_i h2
      rw [if_neg h2] at hk
      exact hc.settle hk
theorem sync_err (hf : 0 ≤ f ∧ f < 16) : (Dk.sync D f).2 = 0 ∨ (Dk.sync D f).2 = 8 ∨ (Dk.sync D f).2 = 9 := by
  unfold Dk.sync
  split
  · unfold Dk.may
    split
    · exact Or.inr (Or.inl rfl)
    · rw [if_neg (by omega)]; exact Or.inl rfl
  · split
    · exact Or.inr (Or.inr rfl)
    · exact Or.inl rfl
theorem sync_up (hf : 0 ≤ f ∧ f < 16) (hd : D.down = false) (ha : D.armed = 0) : (Dk.sync D f).2 = (if 0 < D.lost then 9 else 0) ∧ (Dk.sync D f).1.armed = 0 ∧ (Dk.sync D f).1.down = false ∧ (Dk.sync D f).1.lost = (if 0 < D.lost then D.lost - 1 else D.lost) := by
  have hc : Dk.come D = D := by
    unfold Dk.come Dk.ends Dk.counted
    rw [ha, hd]
    simp
  have hm : Dk.may D f = 0 := by unfold Dk.may; rw [hd, if_neg (by decide), if_neg (by omega)]
  unfold Dk.sync
  rw [hc, hm, if_neg (by decide)]
  split
  · exact ⟨rfl, ha, hd, rfl⟩
  · exact ⟨rfl, ha, hd, rfl⟩
/-- The file is cut after its records. -/
theorem trunc_done {n : Int} (hn : 0 ≤ n) (h : (Dk.truncate D f n).2 = 0) : ((Dk.truncate D f n).1.fs f).now = (D.fs f).now.take n.toNat ∧ ((Dk.truncate D f n).1.fs f).last = (D.fs f).now.take n.toNat ∧ (Dk.truncate D f n).1.down = false := by
  unfold Dk.truncate at h ⊢
  split at h
  · rename_i h1; exact absurd h h1
  · rename_i h1
    have hm := Dk.may_file (Decidable.not_not.1 h1)
    rw [if_neg h1]
    split at h
    · cases h
    · rename_i h2
      rw [if_neg h2]
      have hc := (come_down hm.1).2.1
      unfold Dk.settle
      dsimp only
      rw [Dk.setF_self, hc, counted_fs]
      exact ⟨rfl, rfl, by rw [← hc]; exact hm.1⟩
theorem come_now (D : Disk) (f : Int) (h : (D.fs f).last = (D.fs f).now) : ((Dk.come D).fs f).now = (D.fs f).now := by
  unfold Dk.come
  split
  · unfold Dk.crash
    split
    · rw [counted_fs]
    · dsimp only
      rw [counted_fs, counted_q]
      obtain ⟨h1, h2⟩ := survives_tn (keep := D.keep) (f := f) (List.prefix_refl (D.fs f).now) D.q 0 D.fs rfl (by rw [h]; exact tn_refl _) (by rw [h]; exact List.prefix_refl _)
      have := (tn_iff.1 h1).1
      exact (h2.eq_of_length_le this).symm
  · rw [counted_fs]
theorem trunc_err {n : Int} (hf : 0 ≤ f ∧ f < 16) (hn : 0 ≤ n) (hl : (D.fs f).last = (D.fs f).now) (hle : n ≤ (D.fs f).now.length) : (Dk.truncate D f n).2 = 0 ∨ (Dk.truncate D f n).2 = 8 := by
  have hc := come_now D f hl
  unfold Dk.truncate
  split
  · unfold Dk.may
    split
    · exact Or.inr rfl
    · rw [if_neg (by omega)]; exact Or.inl rfl
  · rw [if_neg (by rw [hc]; omega)]
    exact Or.inl rfl
theorem trunc_up {n : Int} (hf : 0 ≤ f ∧ f < 16) (hd : D.down = false) (ha : D.armed = 0) (hn : 0 ≤ n) (hle : n ≤ (D.fs f).now.length) : (Dk.truncate D f n).2 = 0 ∧ (Dk.truncate D f n).1.armed = 0 ∧ (Dk.truncate D f n).1.lost = D.lost := by
  have hc : Dk.come D = D := by
    unfold Dk.come Dk.ends Dk.counted
    rw [ha, hd]
    simp
  have hm : Dk.may D f = 0 := by unfold Dk.may; rw [hd, if_neg (by decide), if_neg (by omega)]
  unfold Dk.truncate
  rw [hc, hm, if_neg (by decide), if_neg (by omega)]
  exact ⟨rfl, ha, rfl⟩
theorem take_forms {A : List (List UInt8)} {m : Nat} (h : m ≤ A.length) : (A.take m).length = m := by rw [List.length_take]; omega
theorem Inv.lists (h : Inv D f all sure) : ∃ m, m ≤ all.length ∧ recs (D.fs f).now = all.take m ∧ sure.length ≤ m := by
  obtain ⟨m, h1, h2, h3, h4⟩ := recs_tn h.tn h.small
  refine ⟨m, h1, h2, h4 sure.length h.sub.length_le ?_⟩
  have e := List.prefix_iff_eq_take.1 h.sub
  rw [← e]
  exact h.has.trans h.pre
/-- What Open leaves, and returns. -/
theorem Inv.open_ (h : Inv D f all sure) (hf : 0 ≤ f ∧ f < 16) :
    ((openJ D f).2.1 = none ∧ ((openJ D f).2.2 = 8 ∨ (openJ D f).2.2 = 9) ∧ Inv (openJ D f).1 f all sure) ∨
    ∃ l, (openJ D f).2.1 = some ⟨f, l, false⟩ ∧ (openJ D f).2.2 = 0 ∧ l <+: all ∧ sure <+: l ∧ Inv (openJ D f).1 f l l ∧ ((openJ D f).1.fs f).now = forms l ∧ (openJ D f).1.down = false := by
  have hs := h.sync
  unfold openJ
  rw [if_neg (by omega)]
  rcases sync_err (D := D) hf with h0 | h0
  · obtain ⟨e1, e2, e3, _⟩ := sync_done h0
    rw [if_neg (by rw [h0]; decide), e1]
    obtain ⟨m, hm, hr, hsm⟩ := h.lists
    rw [hr]
    have hpre : all.take m <+: all := List.take_prefix _ _
    have hsl : sure <+: all.take m := by
      rw [List.prefix_iff_eq_take.1 h.sub]
      exact List.take_prefix_take_left (by omega)
    have hsmall : ∀ a ∈ all.take m, a.length ≤ 2000 := fun a ha => h.small a (List.mem_of_mem_take ha)
    have hfp : forms (all.take m) <+: (D.fs f).now := by rw [← hr]; exact recs_pre _
    have htake : (D.fs f).now.take (forms (all.take m)).length = forms (all.take m) := (List.prefix_iff_eq_take.1 hfp).symm
    split
    · rename_i hlt
      rcases trunc_err (D := (Dk.sync D f).1) (n := ((forms (all.take m)).length : Int)) hf (by omega) (by rw [e1, e2]) (by rw [e1]; omega) with h8 | h8
      · obtain ⟨t1, t2, t3⟩ := trunc_done (by omega) h8
        rw [if_neg (by rw [h8]; decide)]
        rw [e1, Int.toNat_natCast, htake] at t1 t2
        exact Or.inr ⟨all.take m, rfl, rfl, hpre, hsl, ⟨Dk.truncate_ok hs.ok _ _, by rw [t1]; exact tn_refl _, by rw [t1, t2]; exact List.prefix_refl _, by rw [t2]; exact List.prefix_refl _, hsmall, List.prefix_refl _⟩, t1, t3⟩
      · rw [if_pos (by rw [h8]; decide)]
        refine Or.inl ⟨rfl, Or.inl h8, ?_⟩
        have hc := hs.come
        have hk := Dk.truncate_ok hs.ok f ((forms (all.take m)).length : Int)
        unfold Dk.truncate at h8 hk ⊢
        split at h8
        · rename_i h9
          rw [if_pos h9]; exact hc
        · split at h8 <;> cases h8
    · rename_i hlt
      have hle := hfp.length_le
      have heq : forms (all.take m) = (D.fs f).now := hfp.eq_of_length (by omega)
      exact Or.inr ⟨all.take m, rfl, rfl, hpre, hsl, ⟨hs.ok, by rw [e1, heq]; exact tn_refl _, by rw [e1, e2]; exact List.prefix_refl _, by rw [e2, heq]; exact List.prefix_refl _, hsmall, List.prefix_refl _⟩, by rw [e1, heq], e3⟩
  · rw [if_pos (by omega)]
    exact Or.inl ⟨rfl, h0, hs⟩
/-- With nothing lost, and no crash, it can be opened. -/
theorem open_up (h : Inv D f all sure) (hf : 0 ≤ f ∧ f < 16) (hd : D.down = false) (ha : D.armed = 0) (hl : D.lost = 0) : (openJ D f).2.2 = 0 ∧ (openJ D f).1.armed = 0 ∧ (openJ D f).1.lost = 0 := by
  have hs := sync_up hf hd ha
  rw [if_neg (by omega)] at hs
  rw [if_neg (by omega)] at hs
  obtain ⟨e1, e2, e3, _⟩ := sync_done hs.1
  unfold openJ
  rw [if_neg (by omega), hs.1, if_neg (by decide)]
  split
  · rename_i hlt
    have ht := trunc_up (D := (Dk.sync D f).1) (n := ((forms (recs ((Dk.sync D f).1.fs f).now)).length : Int)) hf e3 hs.2.1 (by omega) (by omega)
    rw [ht.1, if_neg (by decide)]
    exact ⟨rfl, ht.2.1, by rw [ht.2.2, hs.2.2.2, hl]⟩
  · exact ⟨rfl, hs.2.1, by rw [hs.2.2.2, hl]⟩
end Go.Proofs.YtiambnllidingaaGreatDoor.Jr
