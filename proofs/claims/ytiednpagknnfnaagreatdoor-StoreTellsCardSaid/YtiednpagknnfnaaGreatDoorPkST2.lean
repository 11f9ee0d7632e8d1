/- Layer 3 (journal) in plain words: what is true of a journal's file whatever fails, crashes and is and so on. -/
import Derived.Test.YtiednpagknnfnaaGreatDoorPkST1
import Derived.Test.YtiednpagknnfnaaGreatDoorPkST0
import Derived.WalkMore
import Derived.Laws.CopyOwn
set_option linter.unusedVariables false
set_option linter.unusedSimpArgs false
namespace Go.Proofs.YtiednpagknnfnaaGreatDoor.Jr
open Go.Lib Go.RowKit
open Dk (Disk Fil)
theorem get_pre {a b : List UInt8} (h : a <+: b) {k : Nat} (hk : k < a.length) : b[k]? = a[k]? := by
  obtain ⟨r, rfl⟩ := h
  rw [List.getElem?_append_left hk]
theorem pre_get {a b : List UInt8} (hl : a.length ≤ b.length) (h : ∀ k, k < a.length → b[k]? = a[k]?) : a <+: b := by
  rw [List.prefix_iff_eq_take]
  refine List.ext_getElem? (fun k => ?_)
  rw [List.getElem?_take]
  by_cases hk : k < a.length
  · rw [if_pos hk, h k hk]
  · rw [if_neg hk, List.getElem?_eq_none (by omega)]
theorem put_tn {s N L : List UInt8} {i : Nat} (h : Tn s N) (h1 : L <+: s) (h2 : L <+: N) (hi : i < N.length) : Tn (Dk.put s i ((N.drop i).take 64)) N ∧ L <+: Dk.put s i ((N.drop i).take 64) := by
  have hl : ((N.drop i).take 64).length = min 64 (N.length - i) := by rw [List.length_take, List.length_drop]
  have hne : (N.drop i).take 64 ≠ [] := fun e => by rw [e] at hl; simp at hl; omega
  have hlen := Dk.put_len s i _ hne
  have hg := Dk.put_get s i _ hne
  rw [tn_iff] at h
  have hin : ∀ k, i ≤ k → k < i + ((N.drop i).take 64).length → ((N.drop i).take 64)[k - i]? = N[k]? := fun k h3 h4 => by
    rw [List.getElem?_take, if_pos (by omega), List.getElem?_drop]
    congr 1
    omega
  refine ⟨?_, ?_⟩
  · rw [tn_iff]
    refine ⟨by omega, fun k hk => ?_⟩
    rw [hg k]
    split
    · split
      · rename_i h4; exact h.2 k h4
      · exact Or.inr rfl
    · split
      · rename_i h3 h4; exact Or.inl (hin k (by omega) h4)
      · rename_i h3 h4; exact h.2 k (by omega)
  · have hll := h1.length_le
    refine pre_get (by omega) (fun k hk => ?_)
    rw [hg k]
    split
    · rw [if_pos (by omega)]; exact get_pre h1 hk
    · split
      · rename_i h3 h4
        rw [hin k (by omega) h4]; exact get_pre h2 hk
      · exact get_pre h1 hk
theorem survives_tn {keep : List Int} {f : Int} {N L : List UInt8} (h2 : L <+: N) : ∀ (q : List (Int × Int)) (i : Nat) (fs : Int → Fil), (fs f).now = N → Tn (fs f).last N → L <+: (fs f).last →
    Tn (Dk.survives keep q i fs f).last N ∧ L <+: (Dk.survives keep q i fs f).last := by
  intro q
  induction q with
  | nil => intro i fs _ h3 h4; exact ⟨h3, h4⟩
  | cons p q ih =>
    intro i fs h1 h3 h4
    have hs : Tn (Dk.survive keep fs p i f).last N ∧ L <+: (Dk.survive keep fs p i f).last := by
      unfold Dk.survive
      split
      · rename_i hc
        by_cases e : f = p.1
        · subst e
          rw [Dk.setF_self]
          dsimp only
          rw [h1] at hc ⊢
          exact put_tn h3 h4 h2 hc.2
        · rw [Dk.setF_ne _ _ e]
          exact ⟨h3, h4⟩
      · exact ⟨h3, h4⟩
    exact ih (i + 1) _ (by rw [Dk.survive_now]; exact h1) hs.1 hs.2
structure Inv (D : Disk) (f : Int) (all sure : List (List UInt8)) : Prop where
  ok : Dk.Ok D
  tn : Tn (D.fs f).now (forms all)
  pre : (D.fs f).last <+: (D.fs f).now
  has : forms sure <+: (D.fs f).last
  small : ∀ a ∈ all, a.length ≤ 2000
  sub : sure <+: all
variable {D : Disk} {f : Int} {all sure : List (List UInt8)}
theorem Inv.of_fs {D' : Disk} (h : Inv D f all sure) (hk : Dk.Ok D') (e : D'.fs = D.fs) : Inv D' f all sure := ⟨hk, by rw [e]; exact h.tn, by rw [e]; exact h.pre, by rw [e]; exact h.has, h.small, h.sub⟩
theorem Inv.more (h : Inv D f all sure) {s : List UInt8} (hs : s.length ≤ 2000) : Inv D f (all ++ [s]) sure :=
  ⟨h.ok, by rw [forms_snoc]; exact tn_more h.tn, h.pre, h.has, fun a ha => by
    rcases List.mem_append.1 ha with ha | ha
    · exact h.small a ha
    · rw [List.mem_singleton.1 ha]; exact hs, h.sub.trans (List.prefix_append _ _)⟩
theorem Inv.crash (h : Inv D f all sure) (keep : List Int) : Inv (Dk.crash D keep) f all sure := by
  have hk := Dk.crash_ok h.ok keep
  unfold Dk.crash at hk ⊢
  split
  · exact h
  · rename_i hd
    rw [if_neg hd] at hk
    obtain ⟨h1, h2⟩ := survives_tn (keep := keep) h.pre D.q 0 D.fs rfl (tn_pre h.pre) (List.prefix_refl _)
    exact ⟨hk, tn_trans h1 h.tn, List.prefix_refl _, h.has.trans h2, h.small, h.sub⟩
theorem counted_fs (D : Disk) : (Dk.counted D).fs = D.fs := by unfold Dk.counted; split <;> rfl
theorem counted_q (D : Disk) : (Dk.counted D).q = D.q := by unfold Dk.counted; split <;> rfl
theorem counted_down (D : Disk) : (Dk.counted D).down = D.down := by unfold Dk.counted; split <;> rfl
theorem counted_keep (D : Disk) : (Dk.counted D).keep = D.keep := by unfold Dk.counted; split <;> rfl
theorem Inv.counted (h : Inv D f all sure) : Inv (Dk.counted D) f all sure := h.of_fs (Dk.counted_ok h.ok) (counted_fs D)
theorem Inv.come (h : Inv D f all sure) : Inv (Dk.come D) f all sure := by
  unfold Dk.come
  split
  · exact h.counted.crash _
  · exact h.counted
theorem put_end (s t : List UInt8) : Dk.put s s.length t = s ++ t := by
  unfold Dk.put
  split
  · rename_i h; rw [h, List.append_nil]
  · rw [List.take_length, Nat.sub_self, List.drop_eq_nil_of_le (by omega)]
    simp
theorem form_ne (s : List UInt8) : form s ≠ [] := fun e => by have := form_pos s; rw [e] at this; cases this
theorem Inv.write0 (h : Inv D f all sure) (hn : (D.fs f).now = forms all) {s : List UInt8} (hs : s.length ≤ 2000) :
    Inv (Dk.write0 D f (forms all).length (form s)).1 f (all ++ [s]) sure ∧ ((Dk.write0 D f (forms all).length (form s)).2 = 0 → ((Dk.write0 D f (forms all).length (form s)).1.fs f).now = forms (all ++ [s])) := by
  have hk := Dk.write0_ok h.ok f (forms all).length (form s)
  have hm := h.more hs
  unfold Dk.write0 at hk ⊢
  split
  · rename_i h1
    exact ⟨hm, fun e => absurd e h1⟩
  · rename_i h1
    rw [if_neg h1] at hk
    split
    · rename_i h2
      exact ⟨hm, fun e => absurd e h2⟩
    · rename_i h2
      rw [if_neg h2] at hk
      have e1 : ((Dk.add D f (((forms all).length : Int)).toNat (form s)).fs f) = ⟨forms all ++ form s, (D.fs f).last⟩ := by
        unfold Dk.add
        rw [if_neg (form_ne s)]
        dsimp only
        rw [Dk.setF_self, hn, Int.toNat_natCast, put_end]
      refine ⟨⟨hk, ?_, ?_, ?_, hm.small, hm.sub⟩, fun _ => ?_⟩
      · rw [e1, forms_snoc]; exact tn_refl _
      · rw [e1, ← hn]; exact h.pre.trans (List.prefix_append _ _)
      · rw [e1]; exact h.has
      · rw [e1, forms_snoc]
theorem Inv.write (h : Inv D f all sure) (hn : (D.fs f).now = forms all) {s : List UInt8} (hs : s.length ≤ 2000) :
    Inv (Dk.write D f (forms all).length (form s)).1 f (all ++ [s]) sure ∧ ((Dk.write D f (forms all).length (form s)).2 = 0 → ((Dk.write D f (forms all).length (form s)).1.fs f).now = forms (all ++ [s])) := by
  obtain ⟨h1, h2⟩ := h.counted.write0 (by rw [counted_fs]; exact hn) hs
  unfold Dk.write
  split
  · exact ⟨h1.crash _, fun e => by cases e⟩
  · exact ⟨h1, h2⟩
theorem write_up {n : Nat} {s : List UInt8} (hf : 0 ≤ f ∧ f < 16) (hn : n + s.length ≤ 16777216) (hd : D.down = false) (ha : D.armed = 0) :
    (Dk.write D f n s).2 = 0 ∧ (Dk.write D f n s).1 = Dk.add D f n s := by
  have hc : Dk.counted D = D := by unfold Dk.counted; rw [if_pos (Or.inr ha)]
  unfold Dk.write Dk.ends
  rw [hc, hd, ha]
  rw [if_neg (by decide)]
  unfold Dk.write0
  have hm : Dk.may D f = 0 := by unfold Dk.may; rw [hd, if_neg (by decide), if_neg (by omega)]
  have hw : Dk.wErr (n : Int) s.length = 0 := by
    unfold Dk.wErr
    rw [if_neg (by omega), if_neg (by omega)]
  rw [hm, if_neg (by decide), hw, if_neg (by decide)]
  simp
theorem come_down {D : Disk} (h : (Dk.come D).down = false) : Dk.ends D = false ∧ Dk.come D = Dk.counted D ∧ D.down = false := by
  unfold Dk.come at h ⊢
  cases he : Dk.ends D with
  | true =>
    rw [he] at h
    simp only [if_true] at h
    have hd : (Dk.counted D).down = false := by
      rw [counted_down]
      unfold Dk.ends at he
      cases hx : D.down with
      | true => rw [hx] at he; simp at he
      | false => rfl
    unfold Dk.crash at h
    rw [hd] at h
    simp at h
  | false =>
    rw [he, if_neg (by decide)] at h
    rw [counted_down] at h
    exact ⟨rfl, by rw [if_neg (by decide)], h⟩
theorem sync_done (h : (Dk.sync D f).2 = 0) : ((Dk.sync D f).1.fs f).now = (D.fs f).now ∧ ((Dk.sync D f).1.fs f).last = (D.fs f).now ∧ (Dk.sync D f).1.down = false ∧ 0 ≤ f ∧ f < 16 := by
  unfold Dk.sync at h ⊢
  split at h
  · rename_i h1; exact absurd h h1
  · rename_i h1
    have hm := Dk.may_file (Decidable.not_not.1 h1)
    rw [if_neg h1]
    split at h
    · cases h
    · rename_i h2
      rw [if_neg h2]
      have hc := (come_down hm.1).2.1
      unfold Dk.settle
      dsimp only
      rw [Dk.setF_self, hc, counted_fs]
      exact ⟨rfl, rfl, by rw [← hc]; exact hm.1, hm.2⟩
theorem Inv.settle (h : Inv D f all sure) (hk : Dk.Ok (Dk.settle D f (D.fs f).now)) : Inv (Dk.settle D f (D.fs f).now) f all sure := by
  refine ⟨hk, ?_, ?_, ?_, h.small, h.sub⟩ <;> unfold Dk.settle <;> dsimp only <;> rw [Dk.setF_self]
  · exact h.tn
  · exact List.prefix_refl _
  · exact h.has.trans h.pre
theorem Inv.sync (h : Inv D f all sure) : Inv (Dk.sync D f).1 f all sure := by
  have hk := Dk.sync_ok h.ok f
  have hc := h.come
  unfold Dk.sync at hk ⊢
  split
  · exact hc
  · rename_i h1
    rw [if_neg h1] at hk
    split
    · rename_i h2
      rw [if_pos h2] at hk
      exact hc.of_fs hk rfl
    · rename_i h2
      rw [if_neg h2] at hk
      exact hc.settle hk
theorem sync_err (hf : 0 ≤ f ∧ f < 16) : (Dk.sync D f).2 = 0 ∨ (Dk.sync D f).2 = 8 ∨ (Dk.sync D f).2 = 9 := by
  unfold Dk.sync
  split
  · unfold Dk.may
    split
    · exact Or.inr (Or.inl rfl)
    · rw [if_neg (by omega)]; exact Or.inl rfl
  · split
    · exact Or.inr (Or.inr rfl)
    · exact Or.inl rfl
theorem sync_up (hf : 0 ≤ f ∧ f < 16) (hd : D.down = false) (ha : D.armed = 0) : (Dk.sync D f).2 = (if 0 < D.lost then 9 else 0) ∧ (Dk.sync D f).1.armed = 0 ∧ (Dk.sync D f).1.down = false ∧ (Dk.sync D f).1.lost = (if 0 < D.lost then D.lost - 1 else D.lost) := by
  have hc : Dk.come D = D := by
    unfold Dk.come Dk.ends Dk.counted
    rw [ha, hd]
    simp
  have hm : Dk.may D f = 0 := by unfold Dk.may; rw [hd, if_neg (by decide), if_neg (by omega)]
  unfold Dk.sync
  rw [hc, hm, if_neg (by decide)]
  split
  · exact ⟨rfl, ha, hd, rfl⟩
  · exact ⟨rfl, ha, hd, rfl⟩
theorem trunc_done {n : Int} (hn : 0 ≤ n) (h : (Dk.truncate D f n).2 = 0) : ((Dk.truncate D f n).1.fs f).now = (D.fs f).now.take n.toNat ∧ ((Dk.truncate D f n).1.fs f).last = (D.fs f).now.take n.toNat ∧ (Dk.truncate D f n).1.down = false := by
  unfold Dk.truncate at h ⊢
  split at h
  · rename_i h1; exact absurd h h1
  · rename_i h1
    have hm := Dk.may_file (Decidable.not_not.1 h1)
    rw [if_neg h1]
    split at h
    · cases h
    · rename_i h2
      rw [if_neg h2]
      have hc := (come_down hm.1).2.1
      unfold Dk.settle
      dsimp only
      rw [Dk.setF_self, hc, counted_fs]
      exact ⟨rfl, rfl, by rw [← hc]; exact hm.1⟩
theorem come_now (D : Disk) (f : Int) (h : (D.fs f).last = (D.fs f).now) : ((Dk.come D).fs f).now = (D.fs f).now := by
  unfold Dk.come
  split
  · unfold Dk.crash
    split
    · rw [counted_fs]
    · dsimp only
      rw [counted_fs, counted_q]
      obtain ⟨h1, h2⟩ := survives_tn (keep := D.keep) (f := f) (List.prefix_refl (D.fs f).now) D.q 0 D.fs rfl (by rw [h]; exact tn_refl _) (by rw [h]; exact List.prefix_refl _)
      have := (tn_iff.1 h1).1
      exact (h2.eq_of_length_le this).symm
  · rw [counted_fs]
theorem trunc_err {n : Int} (hf : 0 ≤ f ∧ f < 16) (hn : 0 ≤ n) (hl : (D.fs f).last = (D.fs f).now) (hle : n ≤ (D.fs f).now.length) : (Dk.truncate D f n).2 = 0 ∨ (Dk.truncate D f n).2 = 8 := by
  have hc := come_now D f hl
  unfold Dk.truncate
  split
  · unfold Dk.may
    split
    · exact Or.inr rfl
    · rw [if_neg (by omega)]; exact Or.inl rfl
  · rw [if_neg (by rw [hc]; omega)]
    exact Or.inl rfl
theorem trunc_up {n : Int} (hf : 0 ≤ f ∧ f < 16) (hd : D.down = false) (ha : D.armed = 0) (hn : 0 ≤ n) (hle : n ≤ (D.fs f).now.length) : (Dk.truncate D f n).2 = 0 ∧ (Dk.truncate D f n).1.armed = 0 ∧ (Dk.truncate D f n).1.lost = D.lost := by
  have hc : Dk.come D = D := by
    unfold Dk.come Dk.ends Dk.counted
    rw [ha, hd]
    simp
  have hm : Dk.may D f = 0 := by unfold Dk.may; rw [hd, if_neg (by decide), if_neg (by omega)]
  unfold Dk.truncate
  rw [hc, hm, if_neg (by decide), if_neg (by omega)]
  exact ⟨rfl, ha, rfl⟩
theorem Inv.lists (h : Inv D f all sure) : ∃ m, m ≤ all.length ∧ recs (D.fs f).now = all.take m ∧ sure.length ≤ m := by
  obtain ⟨m, h1, h2, h3, h4⟩ := recs_tn h.tn h.small
  refine ⟨m, h1, h2, h4 sure.length h.sub.length_le ?_⟩
  have e := List.prefix_iff_eq_take.1 h.sub
  rw [← e]
  exact h.has.trans h.pre
theorem Inv.open_ (h : Inv D f all sure) (hf : 0 ≤ f ∧ f < 16) :
    ((openJ D f).2.1 = none ∧ ((openJ D f).2.2 = 8 ∨ (openJ D f).2.2 = 9) ∧ Inv (openJ D f).1 f all sure) ∨
    ∃ l, (openJ D f).2.1 = some ⟨f, l, false⟩ ∧ (openJ D f).2.2 = 0 ∧ l <+: all ∧ sure <+: l ∧ Inv (openJ D f).1 f l l ∧ ((openJ D f).1.fs f).now = forms l ∧ (openJ D f).1.down = false := by
  have hs := h.sync
  unfold openJ
  rw [if_neg (by omega)]
  rcases sync_err (D := D) hf with h0 | h0
  · obtain ⟨e1, e2, e3, _⟩ := sync_done h0
    rw [if_neg (by rw [h0]; decide), e1]
    obtain ⟨m, hm, hr, hsm⟩ := h.lists
    rw [hr]
    have hpre : all.take m <+: all := List.take_prefix _ _
    have hsl : sure <+: all.take m := by
      rw [List.prefix_iff_eq_take.1 h.sub]
      exact List.take_prefix_take_left (by omega)
    have hsmall : ∀ a ∈ all.take m, a.length ≤ 2000 := fun a ha => h.small a (List.mem_of_mem_take ha)
    have hfp : forms (all.take m) <+: (D.fs f).now := by rw [← hr]; exact recs_pre _
    have htake : (D.fs f).now.take (forms (all.take m)).length = forms (all.take m) := (List.prefix_iff_eq_take.1 hfp).symm
    split
    · rename_i hlt
      rcases trunc_err (D := (Dk.sync D f).1) (n := ((forms (all.take m)).length : Int)) hf (by omega) (by rw [e1, e2]) (by rw [e1]; omega) with h8 | h8
      · obtain ⟨t1, t2, t3⟩ := trunc_done (by omega) h8
        rw [if_neg (by rw [h8]; decide)]
        rw [e1, Int.toNat_natCast, htake] at t1 t2
        exact Or.inr ⟨all.take m, rfl, rfl, hpre, hsl, ⟨Dk.truncate_ok hs.ok _ _, by rw [t1]; exact tn_refl _, by rw [t1, t2]; exact List.prefix_refl _, by rw [t2]; exact List.prefix_refl _, hsmall, List.prefix_refl _⟩, t1, t3⟩
      · rw [if_pos (by rw [h8]; decide)]
        refine Or.inl ⟨rfl, Or.inl h8, ?_⟩
        have hc := hs.come
        have hk := Dk.truncate_ok hs.ok f ((forms (all.take m)).length : Int)
        unfold Dk.truncate at h8 hk ⊢
        split at h8
        · rename_i h9
          rw [if_pos h9]; exact hc
        · split at h8 <;> cases h8
    · rename_i hlt
      have hle := hfp.length_le
      have heq : forms (all.take m) = (D.fs f).now := hfp.eq_of_length (by omega)
      exact Or.inr ⟨all.take m, rfl, rfl, hpre, hsl, ⟨hs.ok, by rw [e1, heq]; exact tn_refl _, by rw [e1, e2]; exact List.prefix_refl _, by rw [e2, heq]; exact List.prefix_refl _, hsmall, List.prefix_refl _⟩, by rw [e1, heq], e3⟩
  · rw [if_pos (by omega)]
    exact Or.inl ⟨rfl, h0, hs⟩
end Go.Proofs.YtiednpagknnfnaaGreatDoor.Jr
namespace Go.Proofs.YtiednpagknnfnaaGreatDoor.Jr
open Dk (Disk)
structure Calm (D : Disk) : Prop where
  down : D.down = false
  armed : D.armed = 0
  lost : D.lost = 0
theorem calm_new : Calm Dk.new := ⟨rfl, rfl, rfl⟩
theorem Calm.write {D : Disk} (h : Calm D) {f : Int} (hf : 0 ≤ f ∧ f < 16) {n : Nat} {s : List UInt8} (hn : n + s.length ≤ 16777216) :
    (Dk.write D f n s).2 = 0 ∧ Calm (Dk.write D f n s).1 ∧ ((Dk.write D f n s).1.fs f).now = Dk.put (D.fs f).now n s ∧ ∀ g, g ≠ f → ((Dk.write D f n s).1.fs g) = D.fs g := by
  obtain ⟨h1, h2⟩ := write_up (f := f) (n := n) (s := s) hf hn h.down h.armed
  rw [h2]
  refine ⟨h1, ?_⟩
  unfold Dk.add
  split
  · rename_i e
    exact ⟨h, by rw [e]; unfold Dk.put; rw [if_pos rfl], fun _ _ => rfl⟩
  · refine ⟨⟨h.down, h.armed, h.lost⟩, ?_, fun g hg => ?_⟩
    · dsimp only; rw [Dk.setF_self]
    · dsimp only; rw [Dk.setF_ne _ _ hg]
theorem Calm.open_ {D : Disk} (h : Calm D) {f : Int} (hf : 0 ≤ f ∧ f < 16) :
    ∃ D', openJ D f = (D', some ⟨f, recs (D.fs f).now, false⟩, 0) ∧ Calm D' ∧ (D'.fs f).now = forms (recs (D.fs f).now) := by
  obtain ⟨s1, s2, s3, s4⟩ := sync_up (f := f) hf h.down h.armed
  rw [h.lost, if_neg (by omega)] at s1 s4
  obtain ⟨t1, t2, t3, _⟩ := sync_done s1
  have hl := recs_len (D.fs f).now
  unfold openJ
  rw [if_neg (by omega), s1, if_neg (by omega), t1]
  by_cases hlt : (forms (recs (D.fs f).now)).length < (D.fs f).now.length
  · rw [if_pos hlt]
    obtain ⟨q1, q2, q3⟩ := trunc_up (D := (Dk.sync D f).1) (f := f) (n := ((forms (recs (D.fs f).now)).length : Nat)) hf s3 s2 (by omega) (by rw [t1]; omega)
    obtain ⟨r1, r2, r3⟩ := trunc_done (D := (Dk.sync D f).1) (f := f) (n := ((forms (recs (D.fs f).now)).length : Nat)) (by omega) q1
    rw [q1, if_neg (by omega)]
    refine ⟨_, rfl, ⟨r3, q2, q3.trans s4⟩, ?_⟩
    rw [r1, t1, Int.toNat_natCast]
    obtain ⟨r, e, _⟩ := recs_split _ (D.fs f).now (Nat.le_refl _)
    conv => lhs; arg 2; rw [e]
    rw [List.take_left]
  · rw [if_neg hlt]
    refine ⟨_, rfl, ⟨s3, s2, s4⟩, ?_⟩
    rw [t1]
    exact ((recs_pre _).eq_of_length (by omega)).symm
end Go.Proofs.YtiednpagknnfnaaGreatDoor.Jr
namespace Go.Proofs.YtiednpagknnfnaaGreatDoor.Sg
open Fm (Str)
open Dk (Disk)
open Jr (Jn append syncJ openJ Inv forms form)
def half (D : Disk) (j : Jn) (s : Str) : Disk × Jn × Int :=
  if (append D j s).2.2 ≠ 0 then append D j s else syncJ (append D j s).1 (append D j s).2.1
def perform (D : Disk) (j : Jn) (S : Sta) (o : Ops) : Disk × Jn × Sta × Int :=
  if (half D j (opE o)).2.2 ≠ 0 then ((half D j (opE o)).1, (half D j (opE o)).2.1, S, (half D j (opE o)).2.2)
  else if (half (half D j (opE o)).1 (half D j (opE o)).2.1 doneE).2.2 ≠ 0 then
    ((half (half D j (opE o)).1 (half D j (opE o)).2.1 doneE).1, (half (half D j (opE o)).1 (half D j (opE o)).2.1 doneE).2.1, S, (half (half D j (opE o)).1 (half D j (opE o)).2.1 doneE).2.2)
  else ((half (half D j (opE o)).1 (half D j (opE o)).2.1 doneE).1, (half (half D j (opE o)).1 (half D j (opE o)).2.1 doneE).2.1, after S o, 0)
abbrev Res := Disk × Jn × Sta × Int × Int
def Res.D (r : Res) : Disk := r.1
def Res.j (r : Res) : Jn := r.2.1
def Res.S (r : Res) : Sta := r.2.2.1
def Res.n (r : Res) : Int := r.2.2.2.1
def Res.e (r : Res) : Int := r.2.2.2.2
def withN (n : Int) (p : Disk × Jn × Sta × Int) : Res := (p.1, p.2.1, p.2.2.1, (if p.2.2.2 = 0 then n else 0), p.2.2.2)
def put (D : Disk) (j : Jn) (S : Sta) (t : Str) : Res :=
  match find S t with
  | some n => (D, j, S, n, 0)
  | none => withN S.th.length (perform D j S (.put t))
def set (D : Disk) (j : Jn) (S : Sta) (p : Pf) : Res :=
  if rightP p = false then (D, j, S, 0, 1)
  else if (p.its.all fun x => there S x.pr) = false then (D, j, S, 0, 4)
  else withN 0 (perform D j S (.set p))
def drop (D : Disk) (j : Jn) (S : Sta) (n : Str) : Res :=
  match prof S n with
  | none => (D, j, S, 0, 4)
  | some _ => withN 0 (perform D j S (.drop n))
def sweep (D : Disk) (j : Jn) (S : Sta) : Res :=
  if spare S = [] then (D, j, S, 0, 0) else withN (spare S).length (perform D j S .sweep)
def act (D : Disk) (j : Jn) (S : Sta) (k : Int) (s : Str) (p : Pf) : Res :=
  if k = 0 then put D j S s else if k = 1 then set D j S p else if k = 2 then drop D j S s else sweep D j S
structure Hf (D : Disk) (j : Jn) (f : Int) (rs : List (Option Ops)) : Prop where
  inv : ∃ sure, Inv D f (rs.map recE) sure
  file : j.file = f
  pre : ∃ m, j.recs = (rs.take m).map recE
  whole : j.broken = false → j.recs = rs.map recE ∧ (D.fs f).now = forms (rs.map recE)
variable {D : Disk} {j : Jn} {f : Int} {rs : List (Option Ops)}
theorem Hf.append (h : Hf D j f rs) (hf : 0 ≤ f ∧ f < 16) (hl : rs.length ≤ 100) {r : Option Ops} (hs : (recE r).length ≤ 2000) :
    ∃ rs', (rs' = rs ∨ rs' = rs ++ [r]) ∧ Hf (Jr.append D j (recE r)).1 (Jr.append D j (recE r)).2.1 f rs' ∧
      ((Jr.append D j (recE r)).2.2 = 0 → rs' = rs ++ [r] ∧ (Jr.append D j (recE r)).2.1.broken = false) ∧ ((Jr.append D j (recE r)).2.2 ≠ 0 → (Jr.append D j (recE r)).2.1.broken = true) ∧
      (Jr.Calm D → j.broken = false → (Jr.append D j (recE r)).2.2 = 0 ∧ Jr.Calm (Jr.append D j (recE r)).1) := by
  obtain ⟨⟨sure, hi⟩, hj, ⟨m, hm⟩, hw⟩ := h
  cases hb : j.broken with
  | true =>
    have e : Jr.append D j (recE r) = (D, j, 7) := by unfold Jr.append; rw [if_pos hb]
    rw [e]
    exact ⟨rs, Or.inl rfl, ⟨⟨sure, hi⟩, hj, ⟨m, hm⟩, hw⟩, (fun e => by cases e), (fun _ => hb), fun _ e => by cases e⟩
  | false =>
    obtain ⟨h1, h2⟩ := hw hb
    have hfl := Jr.forms_len (n := 2000) hi.small (by omega)
    have hfr : (forms (rs.map recE)).length ≤ 204300 := Nat.le_trans hfl (by rw [List.length_map]; exact Nat.le_trans (Nat.mul_le_mul_right _ hl) (by decide))
    have hf2 := Jr.form_len (recE r) (by omega)
    obtain ⟨i1, i2⟩ := hi.write h2 (s := recE r) hs
    rw [show rs.map recE ++ [recE r] = (rs ++ [r]).map recE by simp] at i1 i2
    have hu : Jr.append D j (recE r) = if (Dk.write D f (forms (rs.map recE)).length (form (recE r))).2 ≠ 0 then ((Dk.write D f (forms (rs.map recE)).length (form (recE r))).1, { j with broken := true }, (Dk.write D f (forms (rs.map recE)).length (form (recE r))).2)
        else ((Dk.write D f (forms (rs.map recE)).length (form (recE r))).1, { j with recs := j.recs ++ [recE r] }, 0) := by
      unfold Jr.append
      rw [if_neg (by rw [hb]; decide), if_neg (by omega), h1, if_neg (by omega), hj]
    have hcalm : Jr.Calm D → (Dk.write D f (forms (rs.map recE)).length (form (recE r))).2 = 0 ∧ Jr.Calm (Dk.write D f (forms (rs.map recE)).length (form (recE r))).1 := fun hc => by
      obtain ⟨c1, c2, _⟩ := hc.write hf (n := (forms (rs.map recE)).length) (s := form (recE r)) (by omega)
      exact ⟨c1, c2⟩
    rw [hu]
    split
    · rename_i e0
      refine ⟨rs ++ [r], Or.inr rfl, ⟨⟨sure, i1⟩, hj, ⟨rs.length, ?_⟩, fun e => by cases e⟩, (fun e => absurd e e0), (fun _ => rfl), fun hc _ => absurd (hcalm hc).1 e0⟩
      rw [List.take_left']
      · exact h1
      · rfl
    · rename_i e0
      have e0 := Decidable.not_not.1 e0
      refine ⟨rs ++ [r], Or.inr rfl, ⟨⟨sure, i1⟩, hj, ⟨rs.length + 1, ?_⟩, fun _ => ⟨?_, i2 e0⟩⟩, (fun _ => ⟨rfl, hb⟩), (fun e => absurd rfl e), fun hc _ => ⟨rfl, (hcalm hc).2⟩⟩
      · show j.recs ++ [recE r] = _
        rw [h1, List.take_of_length_le (by simp)]; simp
      · show j.recs ++ [recE r] = _
        rw [h1]; simp
theorem Hf.sync (h : Hf D j f rs) (hf : 0 ≤ f ∧ f < 16) :
    Hf (syncJ D j).1 (syncJ D j).2.1 f rs ∧ ((syncJ D j).2.2 = 0 → (syncJ D j).2.1.broken = false) ∧ ((syncJ D j).2.2 ≠ 0 → (syncJ D j).2.1.broken = true) ∧
      (Jr.Calm D → j.broken = false → (syncJ D j).2.2 = 0 ∧ Jr.Calm (syncJ D j).1) := by
  obtain ⟨⟨sure, hi⟩, hj, ⟨m, hm⟩, hw⟩ := h
  cases hb : j.broken with
  | true =>
    have e : syncJ D j = (D, j, 7) := by unfold Jr.syncJ; rw [if_pos hb]
    rw [e]
    exact ⟨⟨⟨sure, hi⟩, hj, ⟨m, hm⟩, hw⟩, (fun e => by cases e), (fun _ => hb), fun _ e => by cases e⟩
  | false =>
    obtain ⟨h1, h2⟩ := hw hb
    have e : syncJ D j = ((Dk.sync D f).1, { j with broken := decide ((Dk.sync D f).2 ≠ 0) }, (Dk.sync D f).2) := by unfold Jr.syncJ; rw [if_neg (by rw [hb]; decide), hj]
    rw [e]
    refine ⟨⟨⟨sure, hi.sync⟩, hj, ⟨m, hm⟩, fun hbr => ⟨h1, ?_⟩⟩, fun e0 => ?_, fun e0 => ?_, fun hc _ => ?_⟩
    · have e0 : (Dk.sync D f).2 = 0 := Decidable.not_not.1 (of_decide_eq_false hbr)
      dsimp only
      rw [(Jr.sync_done e0).1]; exact h2
    · dsimp only at e0 ⊢; simp [e0]
    · dsimp only at e0 ⊢; simp [e0]
    · obtain ⟨s1, s2, s3, s4⟩ := Jr.sync_up (f := f) hf hc.down hc.armed
      rw [hc.lost, if_neg (by omega)] at s1 s4
      exact ⟨s1, ⟨s3, s2, by rw [s4]⟩⟩
theorem Hf.half (h : Hf D j f rs) (hf : 0 ≤ f ∧ f < 16) (hl : rs.length ≤ 100) {r : Option Ops} (hs : (recE r).length ≤ 2000) :
    ∃ rs', (rs' = rs ∨ rs' = rs ++ [r]) ∧ Hf (Sg.half D j (recE r)).1 (Sg.half D j (recE r)).2.1 f rs' ∧
      ((Sg.half D j (recE r)).2.2 = 0 → rs' = rs ++ [r] ∧ (Sg.half D j (recE r)).2.1.broken = false) ∧ ((Sg.half D j (recE r)).2.2 ≠ 0 → (Sg.half D j (recE r)).2.1.broken = true) ∧
      (Jr.Calm D → j.broken = false → (Sg.half D j (recE r)).2.2 = 0 ∧ Jr.Calm (Sg.half D j (recE r)).1) := by
  obtain ⟨rs', h1, h2, h3, h4, h5⟩ := h.append hf hl hs
  unfold Sg.half
  split
  · rename_i e0
    exact ⟨rs', h1, h2, (fun e => absurd e e0), (fun _ => h4 e0), fun hc hb => absurd (h5 hc hb).1 e0⟩
  · rename_i e0
    have e0 := Decidable.not_not.1 e0
    obtain ⟨s1, s2, s3, s4⟩ := h2.sync hf
    exact ⟨rs', h1, s1, (fun e => ⟨(h3 e0).1, s2 e⟩), s3, fun hc hb => s4 (h5 hc hb).2 (h3 e0).2⟩
structure Wl (D : Disk) (j : Jn) (S : Sta) (f : Int) (n : Nat) : Prop where
  g : G S
  big : big S ≤ n
  hf : ∃ rs, Hf D j f rs ∧ Gd rs ∧ rs.length ≤ 2 * n ∧ (j.broken = false → S = of rs)
variable {S : Sta} {n : Nat}
theorem Wl.mono {m : Nat} (h : Wl D j S f n) (hm : n ≤ m) : Wl D j S f m := by
  obtain ⟨h1, h2, rs, h3, h4, h5, h6⟩ := h
  exact ⟨h1, by omega, rs, h3, h4, by omega, h6⟩
theorem Wl.perform (h : Wl D j S f n) (hf : 0 ≤ f ∧ f < 16) (hn : n ≤ 40) {o : Ops} (ho : adm S o) (hs : (opE o).length ≤ 2000) :
    Wl (Sg.perform D j S o).1 (Sg.perform D j S o).2.1 (Sg.perform D j S o).2.2.1 f (n + 1) ∧ ((Sg.perform D j S o).2.2.2 = 0 → (Sg.perform D j S o).2.2.1 = after S o) ∧ ((Sg.perform D j S o).2.2.2 ≠ 0 → (Sg.perform D j S o).2.2.1 = S) ∧
      (Jr.Calm D → j.broken = false → (Sg.perform D j S o).2.2.2 = 0 ∧ Jr.Calm (Sg.perform D j S o).1 ∧ (Sg.perform D j S o).2.1.broken = false) := by
  obtain ⟨g, hb, rs, h1, h2, h3, h4⟩ := h
  have hbr : j.broken = true → half D j (opE o) = (D, j, 7) := fun hb => by
    have e : Jr.append D j (opE o) = (D, j, 7) := by unfold Jr.append; rw [if_pos hb]
    unfold half
    rw [e, if_pos (show (7 : Int) ≠ 0 by decide)]
  cases hb0 : j.broken with
  | true =>
    unfold Sg.perform
    rw [hbr hb0, if_pos (show (7 : Int) ≠ 0 by decide)]
    exact ⟨⟨g, (by show Sg.big S ≤ n + 1; omega), rs, h1, h2, by omega, h4⟩, (fun e => by cases e), (fun _ => rfl), fun _ e => by cases e⟩
  | false =>
  have hS := h4 hb0
  obtain ⟨rs1, a1, a2, a3, a4, a5⟩ := h1.half hf (by omega) (r := some o) hs
  have hg1 : Gd rs1 := by
    rcases a1 with rfl | rfl
    · exact h2
    · exact gd_snoc h2 (fun o' e => by obtain rfl := Option.some.inj e; rw [← hS]; exact ho)
  have hl1 : rs1.length ≤ rs.length + 1 := by rcases a1 with rfl | rfl <;> simp
  unfold Sg.perform
  simp only [show recE (some o) = opE o from rfl] at a2 a3 a4 a5
  split
  · rename_i e0
    exact ⟨⟨g, (by show Sg.big S ≤ n + 1; omega), rs1, a2, hg1, by omega, fun e => absurd (a4 e0) (by rw [e]; decide)⟩, (fun e => absurd e e0), (fun _ => rfl), fun hc hb => absurd (a5 hc hb0).1 e0⟩
  · rename_i e0
    have e0 := Decidable.not_not.1 e0
    obtain ⟨rfl, a6⟩ := a3 e0
    obtain ⟨rs2, b1, b2, b3, b4, b5⟩ := a2.half hf (by omega) (r := none) (by simp [recE, doneE])
    have hg2 : Gd rs2 := by
      rcases b1 with rfl | rfl
      · exact hg1
      · exact gd_snoc hg1 (fun o' e => by cases e)
    have hl2 : rs2.length ≤ rs.length + 2 := by rcases b1 with rfl | rfl <;> simp
    simp only [show recE none = doneE from rfl] at b2 b3 b4 b5
    split
    · rename_i e1
      exact ⟨⟨g, (by show Sg.big S ≤ n + 1; omega), rs2, b2, hg2, by omega, fun e => absurd (b4 e1) (by rw [e]; decide)⟩, (fun e => absurd e e1), (fun _ => rfl), fun hc hb => absurd (b5 (a5 hc hb0).2 a6).1 e1⟩
    · rename_i e1
      have e1 := Decidable.not_not.1 e1
      obtain ⟨rfl, b6⟩ := b3 e1
      refine ⟨⟨g.after ho, (by have := big_after S o; show Sg.big (after S o) ≤ n + 1; omega), _, b2, hg2, by omega, fun _ => ?_⟩, (fun _ => rfl), (fun e => absurd rfl e), fun hc hb => ⟨rfl, (b5 (a5 hc hb0).2 a6).2, b6⟩⟩
      rw [show rs ++ [some o] ++ [none] = rs ++ [some o, none] by simp, of_done, hS]
theorem act_wl (h : Wl D j S f n) (hf : 0 ≤ f ∧ f < 16) (hn : n ≤ 40) (k : Int) {s : Str} {p : Pf} (hs : s.length ≤ 1000) (hp : (pfE p).length ≤ 1900) :
    Wl (act D j S k s p).D (act D j S k s p).j (act D j S k s p).S f (n + 1) ∧ (Jr.Calm D → j.broken = false → Jr.Calm (act D j S k s p).D ∧ (act D j S k s p).j.broken = false) := by
  have pf : ∀ {o : Ops} (ho : adm S o) (hs : (opE o).length ≤ 2000) (m : Int), Wl (withN m (perform D j S o)).D (withN m (perform D j S o)).j (withN m (perform D j S o)).S f (n + 1) ∧
      (Jr.Calm D → j.broken = false → Jr.Calm (withN m (perform D j S o)).D ∧ (withN m (perform D j S o)).j.broken = false) := fun ho hs m => by
    obtain ⟨h1, _, _, h2⟩ := h.perform hf hn ho hs
    exact ⟨h1, fun hc hb => ⟨(h2 hc hb).2.1, (h2 hc hb).2.2⟩⟩
  have same : ∀ (m e : Int), Wl (D, j, S, m, e).1 j S f (n + 1) ∧ (Jr.Calm D → j.broken = false → Jr.Calm D ∧ j.broken = false) := fun m e => ⟨h.mono (by omega), fun hc hb => ⟨hc, hb⟩⟩
  unfold act
  split
  · unfold put
    cases hq : find S s with
    | some i => exact same i 0
    | none => exact pf (o := .put s) hq (by simp [opE]; omega) _
  split
  · unfold set
    split
    · exact same 0 1
    · rename_i hr
      split
      · exact same 0 4
      · rename_i hi
        refine pf (o := .set p) ⟨by simpa using hr, fun x hx => ?_⟩ (by simp [opE]; omega) _
        have hi : (p.its.all fun x => there S x.pr) = true := by simpa using hi
        exact List.all_eq_true.1 hi x hx
  split
  · unfold drop
    cases hq : prof S s with
    | none => exact same 0 4
    | some q => exact pf (o := .drop s) trivial (by simp [opE]; omega) _
  · unfold sweep
    split
    · exact same 0 0
    · exact pf (o := .sweep) trivial (by simp [opE]) _
def Wf (D : Disk) (f : Int) (n : Nat) : Prop := ∃ rs sure, Inv D f (rs.map recE) sure ∧ Gd rs ∧ rs.length ≤ 2 * n
theorem Wl.file (h : Wl D j S f n) : Wf D f n := by
  obtain ⟨_, _, rs, h1, h2, h3, _⟩ := h
  obtain ⟨sure, h4⟩ := h1.inv
  exact ⟨rs, sure, h4, h2, h3⟩
theorem wf_new (f : Int) : Wf Dk.new f 0 := ⟨[], [], ⟨Dk.new_ok, Jr.tn_refl _, List.prefix_refl _, List.prefix_refl _, (fun a ha => by cases ha), List.prefix_refl _⟩, gd_nil, Nat.le_refl _⟩
theorem Wf.mono {m : Nat} (h : Wf D f n) (hm : n ≤ m) : Wf D f m := by
  obtain ⟨rs, sure, h1, h2, h3⟩ := h
  exact ⟨rs, sure, h1, h2, by omega⟩
theorem Wf.lose (h : Wf D f n) {k : Int} (hk : k ≤ 9223372036854775807) : Wf (Dk.lose D k) f n := by
  obtain ⟨rs, sure, h1, h2⟩ := h
  exact ⟨rs, sure, h1.of_fs (Dk.lose_ok h1.ok hk) rfl, h2⟩
theorem Wf.arm (h : Wf D f n) {k : Int} (hk : k ≤ 9223372036854775807) (keep : List Int) : Wf (Dk.arm D k keep) f n := by
  obtain ⟨rs, sure, h1, h2⟩ := h
  exact ⟨rs, sure, h1.of_fs (Dk.arm_ok h1.ok hk keep) rfl, h2⟩
theorem Wf.start (h : Wf D f n) : Wf (Dk.start D) f n := by
  obtain ⟨rs, sure, h1, h2⟩ := h
  exact ⟨rs, sure, h1.of_fs (Dk.start_ok h1.ok) rfl, h2⟩
theorem Wf.crash (h : Wf D f n) (keep : List Int) : Wf (Dk.crash D keep) f n := by
  obtain ⟨rs, sure, h1, h2⟩ := h
  exact ⟨rs, sure, h1.crash keep, h2⟩
theorem map_prefix {l : List Str} (h : l <+: rs.map recE) : l = (rs.take l.length).map recE := by
  rw [List.map_take]
  exact List.prefix_iff_eq_take.1 h
theorem Wf.open_ (h : Wf D f n) (hf : 0 ≤ f ∧ f < 16) :
    ((openJ D f).2.1 = none ∧ (openJ D f).2.2 ≠ 0 ∧ Wf (openJ D f).1 f n) ∨
    ∃ rs, (openJ D f).2.1 = some ⟨f, rs.map recE, false⟩ ∧ (openJ D f).2.2 = 0 ∧ Gd rs ∧ rs.length ≤ 2 * n ∧ Hf (openJ D f).1 ⟨f, rs.map recE, false⟩ f rs := by
  obtain ⟨rs, sure, h1, h2, h3⟩ := h
  rcases h1.open_ hf with ⟨e1, e2, e3⟩ | ⟨l, e1, e2, e3, e4, e5, e6, e7⟩
  · exact Or.inl ⟨e1, by rcases e2 with e2 | e2 <;> rw [e2] <;> decide, rs, sure, e3, h2, h3⟩
  · have hl := map_prefix e3
    have hlen := e3.length_le
    rw [List.length_map] at hlen
    refine Or.inr ⟨rs.take l.length, by rw [e1, ← hl], e2, gd_take h2 _, by rw [List.length_take]; omega, ⟨⟨l, ?_⟩, rfl, ⟨l.length, ?_⟩, fun _ => ⟨rfl, ?_⟩⟩⟩
    · rw [← hl]; exact e5
    · rw [List.take_take, Nat.min_self]
    · rw [← hl]; exact e6
theorem opened (h : Hf D ⟨f, rs.map recE, false⟩ f rs) (hg : Gd rs) (hl : rs.length ≤ 2 * n) : Wl D ⟨f, rs.map recE, false⟩ (of rs) f (2 * n) :=
  ⟨gd_g hg, Nat.le_trans (gd_big hg) hl, rs, h, hg, by omega, fun _ => rfl⟩
end Go.Proofs.YtiednpagknnfnaaGreatDoor.Sg
namespace Go.Proofs.YtiednpagknnfnaaGreatDoor
open Go.RowKit
def Bld (B b : Nat) (l : List UInt8) (w : World) : Prop := Lib.IsBuilder 142 5 B b (Lib.byteCells l) w
theorem bSize : (Tryz.prog.info? 142).map (·.size) = some 2 := by kernel_rfl
theorem bLies : liesAt Tryz.prog Tryz.prog.depth 142 (2 / Tryz.prog.cellsOf 142) 0 142 1 = true := by kernel_rfl
theorem bInfoByte : (Tryz.prog.info? 5).map (fun i => (i.zero, i.size, i.bytes)) = some (some (.int .u8 0), 1, 1) := by kernel_rfl
set_option maxHeartbeats 1000000 in
set_option maxRecDepth 100000 in
theorem copyCheck_used (b : Nat) (w : World) (h0 : w.cell? ⟨b, 0, none⟩ = some (.pointer (some ⟨b, 0, none⟩))) :
    Calls Tryz.prog 121 #[.pointer (some ⟨b, 0, none⟩)] w fun e w' => e = .returned (.tuple #[]) ∧ w' = w := by
  obtain ⟨j, hj, _⟩ := Option.map_eq_some_iff.1 bSize
  go_enter Tryz.func121, Tryz.ntmps121
  go_wp2
  rw [Lib.run_neq_ptr_same w _ Tryz.underlying140 hj]
  go_wp2
  go_end0
  exact ⟨rfl, rfl⟩
set_option maxHeartbeats 1000000 in
set_option maxRecDepth 100000 in
theorem copyCheck_fresh (b : Nat) (w : World) (h0 : w.cell? ⟨b, 0, none⟩ = some (.pointer none)) (hsh : w.shape? b = some (142, 2)) (hfz : w.frozen? ⟨b, 0, none⟩ = false) :
    Calls Tryz.prog 121 #[.pointer (some ⟨b, 0, none⟩)] w fun e w' => e = .returned (.tuple #[]) ∧ w' = w.setCell ⟨b, 0, none⟩ (.pointer (some ⟨b, 0, none⟩)) := by
  obtain ⟨j, hj, hjs⟩ := Option.map_eq_some_iff.1 bSize
  go_enter Tryz.func121, Tryz.ntmps121
  go_wp2
  rw [Lib.run_to_unsafe w ⟨b, 0, none⟩ Tryz.underlying140 Tryz.underlying186 hj (by rw [hjs]; decide) hsh (Nat.zero_lt_succ 1)]
  simp only [Result.andThen]
  rw [Oper.upon_value]
  go_wp2
  rw [run_callFunc_extern Tryz.func148 (by kernel_rfl) (by kernel_rfl) (by kernel_rfl) (e := Extern.AbiNoEscape.same) (by kernel_rfl)]
  rw [Lib.run_noEscape]
  simp only [Result.andThen]
  rw [Oper.upon_value]
  go_wp2
  rw [Lib.run_from_unsafe w ⟨b, 0, none⟩ Tryz.underlying186 Tryz.underlying140 hj hsh bLies]
  simp only [Result.andThen]
  rw [Oper.upon_value]
  go_wp2
  go_end0
  exact ⟨rfl, rfl⟩
theorem copyCheck_c (B b : Nat) (bs : List Value) (w : World) (h : Lib.IsBuilder 142 5 B b bs w) :
    Calls Tryz.prog 121 #[.pointer (some ⟨b, 0, none⟩)] w fun e w' => e = .returned (.tuple #[]) ∧ (Lib.BuilderAt 142 5 B b (.pointer (some ⟨b, 0, none⟩)) bs w' ∧ Below B w w') := by
  rcases h with h | h
  · refine (copyCheck_fresh b w h.cell0 h.shape h.frozen0).mono ?_
    rintro e w' ⟨rfl, rfl⟩
    exact ⟨rfl, h.used _, (Below.refl B w).setCell (p := ⟨b, 0, none⟩) h.1 _⟩
  · refine (copyCheck_used b w h.cell0).mono ?_
    rintro e w' ⟨rfl, rfl⟩
    exact ⟨rfl, h, Below.refl B _⟩
set_option maxHeartbeats 1000000 in
set_option maxRecDepth 100000 in
theorem WriteString_c (B b : Nat) (l : List UInt8) (s : ByteArray) (m : List UInt8) (hm : s.data.toList = m) (w : World) (h : Bld B b l w) (hlen : l.length + m.length ≤ 140737488355328) (hBw : B ≤ w.heap.size) :
    Calls Tryz.prog 82 #[.pointer (some ⟨b, 0, none⟩), .string s] w fun e w' => e = .returned (.tuple #[.int .i64 m.length, .nilIface]) ∧ (Bld B b (l ++ m) w' ∧ Below B w w') := by
  obtain ⟨i0, hi, hz0, hz1, hz2⟩ := info_parts bInfoByte
  subst hm
  have Hsz := Lib.hid (bs_size s)
  have Hbl := Lib.hid (Lib.byteCells_length l)
  go_enter Tryz.func82, Tryz.ntmps82
  go_wp2_with (go_at_call 121; refine (copyCheck_c B b _ _ h).mono ?_)
  rintro e w1 ⟨rfl, h1, hb1⟩
  obtain ⟨hB, v, hbk, hown, hne⟩ := h1
  have c0 : w1.cell? ⟨b, 0, none⟩ = some (.pointer (some ⟨b, 0, none⟩)) := by rw [Lib.cell_of_heap hbk]; rfl
  have c1 : w1.cell? ⟨b, 1, none⟩ = some v := by rw [Lib.cell_of_heap hbk]; rfl
  go_wp2_with (at_builtin; refine Lib.wpList_append_own_string _ rfl _ _ 135 9 rfl B 5 i0 Tryz.underlying135 Tryz.underlying9 hi hz0 hz1 hz2 _ _ _ rfl hown s rfl ?c3 ?c4 ?c5 ?_)
  case c3 => unfold maxLen; have := Hsz.out; have := Hbl.out; omega
  case c4 => have := Hsz.out; have := Hbl.out; omega
  case c5 => have := hb1.size; omega
  intro v' w2 hown' hgrow _
  have hlt : b < w1.heap.size := lt_of_block hbk
  have hb2 : w2.heap[b]? = some (.cells #[.pointer (some ⟨b, 0, none⟩), v] 142 (0, 0)) := by
    rw [hgrow.block b hlt (fun e => hne e.symm)]
    exact hbk
  have d0 : w2.cell? ⟨b, 0, none⟩ = some (.pointer (some ⟨b, 0, none⟩)) := by rw [Lib.cell_of_heap hb2]; rfl
  have d1 : w2.cell? ⟨b, 1, none⟩ = some v := by rw [Lib.cell_of_heap hb2]; rfl
  have f1 : w2.frozen? ⟨b, 1, none⟩ = false := Lib.frozen_of_heap hb2 1
  obtain ⟨ao, n', cap, rfl⟩ : ∃ ao n' cap, v' = .slice ao n' cap := by
    rcases hown'.2 with ⟨hv, _⟩ | ⟨g, cap, cur, hv, _⟩
    · exact ⟨_, _, _, hv⟩
    · exact ⟨_, _, _, hv⟩
  go_wp2
  go_ret2
  rw [Hsz.out]
  refine ⟨rfl, Or.inr ?_, ?_⟩
  · refine Lib.BuilderAt.put (T := 142) (e := 5) hB hb2 (bs' := Lib.byteCells (l ++ s.data.toList)) ?_ (by decide)
    rw [Lib.byteCells_length, Lib.byteCells_append, List.length_append, ← Hsz.out, ← Hbl.out]
    exact hown'
  · exact (hb1.grown hgrow (by have := hb1.size; omega) (fun k hk => (hown.lt k hk).1)).setCell (p := ⟨b, 1, none⟩) hB _
theorem String_c (B b : Nat) (l : List UInt8) (w : World) (h : Bld B b l w) (hBw : B ≤ w.heap.size) :
    Calls Tryz.prog 85 #[.pointer (some ⟨b, 0, none⟩)] w fun e w' => e = .returned (.string ⟨l.toArray⟩) ∧ Below B w w' :=
  Tryz.Builder_String_any B b l w h hBw
end Go.Proofs.YtiednpagknnfnaaGreatDoor
namespace Go.Proofs.YtiednpagknnfnaaGreatDoor
open Go.RowKit
attribute [local irreducible] Calls
theorem Int_e (n : Int) (w : World) (g : Gl w) (h : I64 n) :
    Calls Tryz.prog 123 #[.int .i64 n] w fun e w' => e = .returned (.string ⟨(Wire.intE n).toArray⟩) ∧ Nw w w' := by
  have hl := itoa_le h
  go_enter Tryz.func123, Tryz.ntmps123
  go_wp2_with fail
  (with_reducible refine (Itoa_c n _ g h).mono ?_)
  rintro _ w1 ⟨rfl, u1⟩
  go_wp2_with fail
  go_ret
  exact ⟨rfl, u1⟩
theorem Num_e (n : Int) (w : World) (g : Gl w) (h : I64 n) :
    Calls Tryz.prog 84 #[.int .i64 n] w fun e w' => e = .returned (.string ⟨(Wire.numE n).toArray⟩) ∧ Nw w w' := by
  by_cases hn : n < 0
  · go_enter Tryz.func84, Tryz.ntmps84
    go_wp2_with fail
    go_ret
    rw [show Wire.numE n = [] from if_pos hn]
    exact ⟨rfl, Upd.refl _ _⟩
  · go_enter Tryz.func84, Tryz.ntmps84
    go_wp2_with fail
    (with_reducible refine (Int_e n _ g h).mono ?_)
    rintro _ w1 ⟨rfl, u1⟩
    go_wp2_with fail
    go_ret
    rw [show Wire.numE n = Wire.intE n from if_neg (by omega)]
    exact ⟨rfl, u1⟩
theorem Text_e (s : ByteArray) (l : List UInt8) (hs : s.data.toList = l) (w : World) (g : Gl w) (h : l.length ≤ 140737488351232) :
    Calls Tryz.prog 83 #[.string s] w fun e w' => e = .returned (.string ⟨(Wire.textE l).toArray⟩) ∧ Nw w w' := by
  have hz := bs_size s
  rw [hs] at hz
  have hi : I64 s.size := by unfold I64; omega
  have hl := itoa_le hi
  have Hz := Lib.hid hz
  replace hz : s.size ≤ 140737488351232 := by omega
  go_enter Tryz.func83, Tryz.ntmps83
  go_wp2_with fail
  (with_reducible refine (Itoa_c _ _ g hi).mono ?_)
  rintro _ w1 ⟨rfl, u1⟩
  go_wp2_with fail
  go_ret
  refine ⟨ret_bs ?_, u1⟩
  simp only [bs_append_list, bs_list, hs, Hz.out]
  rfl
end Go.Proofs.YtiednpagknnfnaaGreatDoor
namespace Go.Proofs.YtiednpagknnfnaaGreatDoor
open Go.RowKit
attribute [local irreducible] Calls
theorem int_cells {lo hi : Nat} {w : World} {v : Value} {l : List Int} (h : Sl lo hi w v (l.map intD)) :
    ∃ a cap, v = .slice a l.length cap ∧ l.length ≤ maxLen ∧ (l = [] ∨ ∃ b off, a = some ⟨b, off, none⟩ ∧ b < hi ∧ b < w.heap.size ∧ ∀ i (h : i < l.length), w.cell? ⟨b, off + i, none⟩ = some (.int .i64 l[i])) := by
  obtain ⟨a, cap, rfl, hm, h⟩ := h.open_
  rw [List.length_map] at hm
  refine ⟨a, cap, by rw [List.length_map], hm, ?_⟩
  rcases h with ⟨_, _, h⟩ | ⟨b, off, rfl, _, hb1, hb, hc⟩
  · exact Or.inl (by simpa using h)
  · refine Or.inr ⟨b, off, rfl, hb1, hb, fun i hi => ?_⟩
    have h2 := hc i (by simpa using hi)
    rw [h2, List.getElem?_map, List.getElem?_eq_getElem hi]; rfl
theorem and1 (x : Int) : bits .and .i64 x 1 = x % 2 := by
  have e : (BitVec.ofInt IntKind.i64.bits x &&& BitVec.ofInt IntKind.i64.bits 1).toNat = (x % 2).toNat := by
    rw [BitVec.toNat_and]
    have h1 : (BitVec.ofInt IntKind.i64.bits 1).toNat = 1 := by decide
    rw [h1, Nat.and_one_is_mod, BitVec.toNat_ofInt]
    simp only [IntKind.bits]
    omega
  show IntKind.i64.wrap ((BitVec.ofInt IntKind.i64.bits x &&& BitVec.ofInt IntKind.i64.bits 1).toNat : Int) = _
  rw [e, IntKind.wrap_i64]
  omega
theorem put_g (sb tb : ByteArray) (s t : List UInt8) (i' : Int) (i : Nat) (h1 : sb.data.toList = s) (h2 : tb.data.toList = t) (h3 : i' = i) (w : World) (g : Gl w) (hs : s.length ≤ 16777216) (hi : i + t.length ≤ 16777216) :
    Calls Tryz.prog 47 #[.string sb, .int .i64 i', .string tb] w fun e w' => e = .returned (.string ⟨(Dk.put s i t).toArray⟩) ∧ Nw w w' := by
  subst h3
  have := put_c s t i w g hs hi
  rw [← h1, ← h2, bs_eta, bs_eta] at this
  rw [← h1, ← h2]
  exact this
theorem later_fil {w : World} {b : Nat} {a0 a1 : Value} {T : TypeId} (h : w.heap[b]? = some (.cells #[a0, a1] T (0, 0))) :
    (∀ i : Later w, i.1.cell? ⟨b, 0, none⟩ = some a0) ∧ ∀ i : Later w, i.1.cell? ⟨b, 1, none⟩ = some a1 :=
  ⟨fun i => (cell2D (i.nw.keep h)).1, fun i => (cell2D (i.nw.keep h)).2⟩
theorem DiskAt.same {B : Nat} {w : World} {r : DiskR} {D D' : Dk.Disk} (h : DiskAt B w r D) (e1 : D'.fs = D.fs) (e2 : D'.q = D.q) (e3 : D'.keep = D.keep) (e4 : D'.lost = D.lost) (e5 : D'.down = D.down) (e6 : D'.armed = D.armed) (hk : Dk.Ok D') : DiskAt B w r D' :=
  h.putF (Upd.refl _ _) (by rw [e1]; exact h.files) e2 e3 e4 e5 e6 hk
theorem wpList_storeL0 {P : Program} {w w' : World} {ops : Array Oper} {rest : List Oper} {o : Oper} {a : Act} {Q : Exit → Act → World → Prop} (hd : o.dst = none) (hg : o.guard = none) (m x y : Operand) (t : TypeId) (hop : o.op = Op.mapUpdate t m x y)
    (vm key v : Value) (hm : a.eval m = vm) (hx : a.eval x = key) (hy : a.eval y = v) (hrun : (Instr.mapUpdate t vm key v).run P w = .ok () w') (h : wpList P ops Q rest a w') : wpList P ops Q (o :: rest) a w := by
  refine wpList_plain hg fun K hK => ?_
  unfold Oper.wp
  simp [execOp, hop, hm, hx, hy, hrun, Result.andThen]
  refine hK _ _ ?_
  rw [hd]
  exact h
structure CrashS (W : World) (fm rr : Nat) (F : Int → Dk.Fil) (z : World) : Prop where
  rng : ∃ l done gs, RangeS Tryz.prog tIntD z fm rr l done ∧ SaysF l gs ∧ (∀ f, gs f = F f ∨ gs f = ⟨(F f).last, (F f).last⟩) ∧ ∀ f, done (.int .i64 f) → gs f = ⟨(F f).last, (F f).last⟩
  upd : Upd (fun k => k = fm) W z
theorem crash_done {B db fm sm : Nat} {qv kv : Value} {W z : World} {C D' : Dk.Disk} (h : DiskAt B W ⟨db, fm, sm, qv, kv⟩ C) (u : Upd (fun k => k = fm) W z) (hf : FilesL z fm D'.fs) (eq : D'.q = []) (ek : D'.keep = C.keep) (e4 : D'.lost = C.lost) (e5 : D'.down = C.down) (e6 : D'.armed = C.armed) (hk : Dk.Ok D') :
    DiskTo B ⟨db, fm, sm, qv, kv⟩ D' W (((z.alloc (.map #[] 0)).setCell ⟨db, 1, none⟩ (.slice none 0 0)).setCell ⟨db, 2, none⟩ (.map (some z.heap.size))) := by
  obtain ⟨a1, a2, a3, a4, a5, a6, a7, a8, a9⟩ := h.apart
  dsimp only at a1 a2 a3 a4 a5 a6 a7 a8 a9
  have hlt := fun j hj => (h.foot_lt (k := j) hj).2
  have hdb := hlt db (Or.inl rfl)
  have hfm := hlt fm (Or.inr (Or.inl rfl))
  have hs := u.size
  have hdB := h.db
  have hB := h.hb
  dsimp only at hdB
  have n1 := nw_alloc z (.map #[] 0)
  have u2 : Upd (fun k => k = db) (z.alloc (.map #[] 0)) ((z.alloc (.map #[] 0)).setCell ⟨db, 1, none⟩ (.slice none 0 0)) := Upd.set1 (Upd.refl _ _) (by omega) 1 _
  have u3 : Upd (fun k => k = db) ((z.alloc (.map #[] 0)).setCell ⟨db, 1, none⟩ (.slice none 0 0)) (((z.alloc (.map #[] 0)).setCell ⟨db, 1, none⟩ (.slice none 0 0)).setCell ⟨db, 2, none⟩ (.map (some z.heap.size))) := Upd.set1 (Upd.refl _ _) (by omega) 2 _
  have b1 := n1.keep (u.keep h.blk a1)
  have b3 := setCell_block (setCell_block b1 1 (.slice none 0 0)) 2 (.map (some z.heap.size))
  refine ⟨⟨db, fm, z.heap.size, .slice none 0 0, kv⟩, ⟨h.hb, h.db, h.fm, by show B ≤ z.heap.size; omega, by show fm ≠ z.heap.size; omega, ?_, ?_, ?_, ?_, ?_, hk, by rw [ek]; exact h.kI⟩, rfl, ?_, ?_⟩
  · unfold diskC at b3 ⊢
    rw [e4, e5, e6]; exact b3
  · exact ((hf.upd n1 id).upd u2 (fun e => a1 e.symm)).upd u3 (fun e => a1 e.symm)
  · rw [eq]
    exact ((SetL.made z).upd u2 (fun e => by omega)).upd u3 (fun e => by omega)
  · rw [eq]; exact World.ownsRow_nil _ _ _ _
  · rw [ek]
    exact owns_updD (owns_updD (owns_updD (owns_updD h.keep u (fun k hk e => by subst e; exact a7 hk)) n1 (fun _ _ e => e)) u2 (fun k hk e => by subst e; exact a6 hk)) u3 (fun k hk e => by subst e; exact a6 hk)
  · exact (((u.mono (fun k _ e => Or.inr (Or.inl e))).nw n1).trans' u2 (fun k _ e => Or.inl e)).trans' u3 (fun k _ e => Or.inl e)
  · rintro j (e | e | e | e | e)
    · exact Or.inl (Or.inl e)
    · exact Or.inl (Or.inr (Or.inl e))
    · exact Or.inr (by dsimp only at e; omega)
    · cases e
    · exact Or.inl (Or.inr (Or.inr (Or.inr (Or.inr e))))
theorem two_set (w : World) (b : Nat) (cs : Array Value) (T : TypeId) (h : w.heap[b]? = some (.cells cs T (0, 0))) (v0 v1 v2 : Value) (h1 : cs[1]? = some v1) (h2 : cs[2]? = some v2) :
    w.cell? ⟨b, 1, none⟩ = some v1 ∧ w.frozen? ⟨b, 1, none⟩ = false ∧ (w.setCell ⟨b, 1, none⟩ v0).cell? ⟨b, 2, none⟩ = some v2 ∧ (w.setCell ⟨b, 1, none⟩ v0).frozen? ⟨b, 2, none⟩ = false := by
  have k := setCell_block h 1 v0
  refine ⟨by rw [cells_cell h]; exact h1, cells_frozen h 1, ?_, cells_frozen k 2⟩
  rw [cells_cell k, Array.getElem?_setIfInBounds]
  rw [if_neg (by decide)]; exact h2
set_option maxHeartbeats 4000000 in
set_option maxRecDepth 100000 in
theorem crash_c {B : Nat} {w : World} {r : DiskR} {D : Dk.Disk} (h : DiskAt B w r D) (g : Gl w) (hB : B ≤ w.heap.size) (lo hi : Nat) (kvv : Value) (keep : List Int) (hk : ∀ z, Upd (fun j => j = r.db ∨ j = r.fm) w z → Sl lo hi z kvv (keep.map intD)) (hkI : ∀ x ∈ keep, I64 x) :
    Calls Tryz.prog 17 #[.pointer (some ⟨r.db, 0, none⟩), kvv] w fun e w' => e = .returned (.tuple #[]) ∧ DiskTo B r (Dk.crash D keep) w w' := by
  have hgb := g.big
  obtain ⟨_, c1, _, _, c4, c5, _⟩ := h.cells
  have f4 := h.frozen 4
  have H := Lib.hid h
  cases hd : D.down with
  | true =>
    rw [hd] at c4
    have hr : Hid (Dk.crash D keep = D) := by show _ = _; unfold Dk.crash; rw [if_pos hd]
    clear hd h hk
    go_enter Tryz.func17, Tryz.ntmps17
    go_wp2_with fail
    (try simp only [Exit.inBlock, Exit.then])
    refine bodyPost_ret (results_none rfl _ _ _) rfl ?_
    exact ⟨rfl, by rw [hr.out]; exact DiskTo.refl H.out⟩
  | false =>
  rw [hd] at c4
  have hr : Hid (Dk.crash D keep = _) := Dk.crash_eq hd keep
  obtain ⟨aq, cq, hqv⟩ := own_slD h.queue
  obtain ⟨ak, ck, hkv, hkm, _⟩ := int_cells (hk w (Upd.refl _ _))
  subst hkv
  unfold maxLen at hkm
  have hkm2 : (keep.length : Int) ≤ 9223372036854775807 := by omega
  have hkm1 : (0 : Int) ≤ keep.length := by omega
  have Hkm := Lib.hid hkm
  have s1 := h.store (D' := { D with down := true }) 4 (.bool true) rfl rfl rfl rfl ⟨h.ok.now, h.ok.last, h.ok.q, h.ok.nd, h.ok.lost, h.ok.armed⟩
  obtain ⟨s1, v1⟩ := s1
  have s2 := s1.store (D' := Dk.crashK D keep 0) 5 (.int .i64 0) rfl rfl rfl rfl (Dk.crashK_ok h.ok keep 0)
  obtain ⟨s2, v2⟩ := s2
  have e5 : (w.setCell ⟨r.db, 4, none⟩ (.bool true)).cell? ⟨r.db, 5, none⟩ = some (.int .i64 D.armed) := s1.cells.2.2.2.2.2.1
  have e5f : (w.setCell ⟨r.db, 4, none⟩ (.bool true)).frozen? ⟨r.db, 5, none⟩ = false := s1.frozen 5
  have e1 : ((w.setCell ⟨r.db, 4, none⟩ (.bool true)).setCell ⟨r.db, 5, none⟩ (.int .i64 0)).cell? ⟨r.db, 1, none⟩ = some r.qv := s2.cells.2.1
  rw [hqv] at e1 c1
  have hql := h.ok.q_len
  have Hql := Lib.hid hql
  have hqm : (D.q.length : Int) ≤ 4194304 := by omega
  have H0 : Hid (DiskAt B ((w.setCell ⟨r.db, 4, none⟩ (.bool true)).setCell ⟨r.db, 5, none⟩ (.int .i64 0)) r (Dk.crashK D keep 0)) := s2
  have U0 : Hid (Upd (fun j => j = r.db ∨ j = r.fm) w ((w.setCell ⟨r.db, 4, none⟩ (.bool true)).setCell ⟨r.db, 5, none⟩ (.int .i64 0))) := (v1.mono (fun _ _ e => Or.inl e)).trans' v2 (fun _ _ e => Or.inl e)
  have Hd := Lib.hid hd
  have Hk := Lib.hid hk
  have HkI := Lib.hid hkI
  clear h s1 s2 v1 v2 hql hkm hd hk hkI
  go_enter Tryz.func17, Tryz.ntmps17
  go_wp2_with fail
  go_loopw [25] (fun iv wr => ∃ k : Nat, k ≤ D.q.length ∧ iv = .int .i64 k ∧ Hid (DiskAt B wr r (Dk.crashK D keep k)) ∧ Hid (Upd (fun j => j = r.db ∨ j = r.fm) w wr)) (fun iv _ => D.q.length - (intOf iv).toNat)
  case atStart => exact ⟨0, Nat.zero_le _, rfl, H0.out, U0.out⟩
  case round =>
    obtain ⟨k, hk, rfl, HD, HU⟩ := hrel
    by_cases hlt : k < D.q.length
    · have h' := HD.out
      obtain ⟨a', c', es, _, hcell⟩ := secD_cells (sec_sls h'.queue)
      have es2 : aq = a' ∧ cq = c' := by
        rw [hqv] at es
        simpa [Dk.crashK] using es
      obtain ⟨rfl, rfl⟩ := es2
      have hlt' : k < (Dk.crashK D keep k).q.length := hlt
      rcases hcell with hnil | ⟨b, o, rfl, _, hbb, hc⟩
      · exfalso
        have : D.q = [] := hnil
        rw [this] at hlt; simp at hlt
      obtain ⟨d0, d1⟩ := hc k hlt'
      have hp := h'.ok.q (D.q[k]) (List.getElem_mem hlt)
      have hfs := Dk.crashK_succ (keep := keep) hlt
      have hOk1 := Dk.crashK_ok H.out.ok keep (k + 1)
      have hpI := q_I64 h'.ok (D.q[k]) (List.getElem_mem hlt)
      have e0 : (Dk.crashK D keep k).q[k] = D.q[k] := rfl
      rw [e0] at d0 d1
      have hnow := h'.ok.now D.q[k].1
      have hlook := fun (z : World) (uz : Nw wr z) => (h'.nw uz).files.look hpI.1
      generalize D.q[k] = p at *
      obtain ⟨pf, pn⟩ := p
      dsimp only at d0 d1 hp hfs hpI hnow hlook
      unfold filV at hlook
      generalize hF : (Dk.crashK D keep k).fs pf = F at *
      obtain ⟨N, L⟩ := F
      dsimp only at hnow hlook
      have n1 := nw_alloc wr (.cells #[.int .i64 pf, .int .i64 pn] tSec)
      have k1 := heap_new wr (.cells #[.int .i64 pf, .int .i64 pn] tSec)
      have HS2 : Hid (∀ z, Nw (wr.alloc (.cells #[.int .i64 pf, .int .i64 pn] tSec)) z → z.cell? ⟨r.db, 0, none⟩ = some (.map (some r.fm)) ∧ z.cell? ⟨wr.heap.size, 0, none⟩ = some (.int .i64 pf) ∧ z.cell? ⟨wr.heap.size, 1, none⟩ = some (.int .i64 pn) ∧ (Instr.lookup tFiles (.map (some r.fm)) (.int .i64 pf) false).run Tryz.prog z = .ok (.agg #[.string ⟨N.toArray⟩, .string ⟨L.toArray⟩]) z) := fun z uz => by
        obtain ⟨z0, z1⟩ := cell2D (Nw.keep uz k1)
        exact ⟨(h'.nw (n1.trans uz)).cells.1, z0, z1, hlook z (n1.trans uz)⟩
      have hw : IntKind.i64.wrap (pn * 64) = pn * 64 := by rw [IntKind.wrap_i64]; omega
      have hpn0 : 0 ≤ pn := hp.2.2.1
      have hpn1 : pn < 262144 := hp.2.2.2
      have HSd := HS2.out _ ((Upd.refl _ _).drew)
      have K1 := Lib.hid k1
      have Hfs := Lib.hid hfs
      have Hnow := Lib.hid hnow
      have HpI := Lib.hid hpI
      have HF := Lib.hid hF
      clear hc hlook k1 hfs hOk1 hnow hpI hF hp es e0 h'
      go_wp2_with fail
      refine wp_region_H 11 (fun z => True ∧ True) (fun z => z.cell? ⟨r.db, 0, none⟩ = some (.map (some r.fm)) ∧ z.cell? ⟨wr.heap.size, 0, none⟩ = some (.int .i64 pf) ∧ z.cell? ⟨wr.heap.size, 1, none⟩ = some (.int .i64 pn) ∧ (Instr.lookup tFiles (.map (some r.fm)) (.int .i64 pf) false).run Tryz.prog z = .ok (.agg #[.string ⟨N.toArray⟩, .string ⟨L.toArray⟩]) z) (by kernel_rfl) ?_
      refine wpAnyH_pure (i := 0) (v := ?_) rfl (by kernel_rfl) (by kernel_rfl) (by kernel_rfl) (by kernel_rfl) (by kernel_rfl) (fun _ _ _ h => h) (by rfl) ?_ (⟨fun _ => ⟨trivial, trivial⟩, HSd⟩) ?_
      rotate_left 1
      · (intro zz; go_simp; first | done | with_reducible rfl)
      (try simp only [Act.put, List.setIfInBounds_toArray, List.set_cons_zero, List.set_cons_succ])
      refine wpAnyH_pure (i := 1) (v := ?_) rfl (by kernel_rfl) (by kernel_rfl) (by kernel_rfl) (by kernel_rfl) (by kernel_rfl) (fun _ _ _ h => h) (by rfl) ?_ (⟨fun _ => ⟨trivial, trivial⟩, HSd⟩) ?_
      rotate_left 1
      · (intro zz; go_simp; first | done | with_reducible rfl)
      (try simp only [Act.put, List.setIfInBounds_toArray, List.set_cons_zero, List.set_cons_succ])
      refine wpAnyH_pure (i := 2) (v := ?_) rfl (by kernel_rfl) (by kernel_rfl) (by kernel_rfl) (by kernel_rfl) (by kernel_rfl) (fun _ _ _ h => h) (by rfl) ?_ (⟨fun _ => ⟨trivial, trivial⟩, HSd⟩) ?_
      rotate_left 1
      · (intro zz; go_simp; first | done | with_reducible rfl)
      (try simp only [Act.put, List.setIfInBounds_toArray, List.set_cons_zero, List.set_cons_succ])
      refine wpAnyH_load2 (i := 3) (v := ?_) rfl (by kernel_rfl) (by kernel_rfl) (by kernel_rfl) (by kernel_rfl) (by kernel_rfl) (fun _ _ _ h => h) (by rfl) ?_ (⟨fun _ => ⟨trivial, trivial⟩, HSd⟩) ?_
      rotate_left 1
      · (intro zz hS2; obtain ⟨_, _, _, _⟩ := hS2; go_simp; first | done | with_reducible rfl)
      (try simp only [Act.put, List.setIfInBounds_toArray, List.set_cons_zero, List.set_cons_succ])
      refine wpAnyH_pure (i := 4) (v := ?_) rfl (by kernel_rfl) (by kernel_rfl) (by kernel_rfl) (by kernel_rfl) (by kernel_rfl) (fun _ _ _ h => h) (by rfl) ?_ (⟨fun _ => ⟨trivial, trivial⟩, HSd⟩) ?_
      rotate_left 1
      · (intro zz; go_simp; first | done | with_reducible rfl)
      (try simp only [Act.put, List.setIfInBounds_toArray, List.set_cons_zero, List.set_cons_succ])
      refine wpAnyH_load2 (i := 5) (v := ?_) rfl (by kernel_rfl) (by kernel_rfl) (by kernel_rfl) (by kernel_rfl) (by kernel_rfl) (fun _ _ _ h => h) (by rfl) ?_ (⟨fun _ => ⟨trivial, trivial⟩, HSd⟩) ?_
      rotate_left 1
      · (intro zz hS2; obtain ⟨_, _, _, _⟩ := hS2; go_simp; first | done | with_reducible rfl)
      (try simp only [Act.put, List.setIfInBounds_toArray, List.set_cons_zero, List.set_cons_succ])
      refine wpAnyH_load2 (i := 6) (v := ?_) rfl (by kernel_rfl) (by kernel_rfl) (by kernel_rfl) (by kernel_rfl) (by kernel_rfl) (fun _ _ _ h => h) (by rfl) ?_ (⟨fun _ => ⟨trivial, trivial⟩, HSd⟩) ?_
      rotate_left 1
      · (intro zz hS2; obtain ⟨_, _, _, _⟩ := hS2; go_simp; first | done | with_reducible rfl)
      (try simp only [Act.put, List.setIfInBounds_toArray, List.set_cons_zero, List.set_cons_succ])
      refine wpAnyH_pure (i := 7) (v := ?_) rfl (by kernel_rfl) (by kernel_rfl) (by kernel_rfl) (by kernel_rfl) (by kernel_rfl) (fun _ _ _ h => h) (by rfl) ?_ (⟨fun _ => ⟨trivial, trivial⟩, HSd⟩) ?_
      rotate_left 1
      · (intro zz; go_simp; first | done | with_reducible rfl)
      (try simp only [Act.put, List.setIfInBounds_toArray, List.set_cons_zero, List.set_cons_succ])
      refine wpAnyH_load2 (i := 8) (v := ?_) rfl (by kernel_rfl) (by kernel_rfl) (by kernel_rfl) (by kernel_rfl) (by kernel_rfl) (fun _ _ _ h => h) (by rfl) ?_ (⟨fun _ => ⟨trivial, trivial⟩, HSd⟩) ?_
      rotate_left 1
      · (intro zz hS2; obtain ⟨_, _, _, _⟩ := hS2; go_simp; first | done | with_reducible rfl)
      (try simp only [Act.put, List.setIfInBounds_toArray, List.set_cons_zero, List.set_cons_succ])
      refine wpAnyH_pure (i := 9) (v := ?_) rfl (by kernel_rfl) (by kernel_rfl) (by kernel_rfl) (by kernel_rfl) (by kernel_rfl) (fun _ _ _ h => h) (by rfl) ?_ (⟨fun _ => ⟨trivial, trivial⟩, HSd⟩) ?_
      rotate_left 1
      · (intro zz; go_simp; first | done | with_reducible rfl)
      (try simp only [Act.put, List.setIfInBounds_toArray, List.set_cons_zero, List.set_cons_succ])
      refine wpAnyH_one (i := 10) (by kernel_rfl) rfl (fun K hK => ?_)
      go_simp
      refine hK.out _ _ ⟨fun _ => ⟨trivial, trivial⟩, HS2.out _ (((Upd.refl _ _).alloc _).drew)⟩ ?_
      clear hK K
      (try simp only [Act.put, List.setIfInBounds_toArray, List.set_cons_zero, List.set_cons_succ])
      refine wpAnyH_one (i := 11) (by kernel_rfl) rfl (fun K hK => ?_)
      go_simp
      refine hK.out _ _ ⟨fun _ => ⟨trivial, trivial⟩, HS2.out _ (((Upd.refl _ _).alloc _).drew)⟩ ?_
      clear hK K
      (try simp only [Act.put, List.setIfInBounds_toArray, List.set_cons_zero, List.set_cons_succ])
      refine wpAnyH_one (i := 12) (by kernel_rfl) rfl (fun K hK => ?_)
      go_simp
      refine hK.out _ _ ⟨fun _ => ⟨trivial, trivial⟩, HS2.out _ (((Upd.refl _ _).alloc _).drew)⟩ ?_
      clear hK K
      (try simp only [Act.put, List.setIfInBounds_toArray, List.set_cons_zero, List.set_cons_succ])
      refine wpAnyH_done (by kernel_rfl) ?_ _
      obtain ⟨W2, hW2, n2, k2⟩ : ∃ W2, ((wr.alloc (.cells #[.int .i64 pf, .int .i64 pn] tSec)).alloc (.cells #[.string ⟨N.toArray⟩, .string ⟨L.toArray⟩] tFile)).drew = W2 ∧ Nw wr W2 ∧ W2.heap[wr.heap.size + 1]? = some (.cells #[.string ⟨N.toArray⟩, .string ⟨L.toArray⟩] tFile (0, 0)) := ⟨_, rfl, (n1.alloc _).drew, by
        have := heap_new (wr.alloc (.cells #[.int .i64 pf, .int .i64 pn] tSec)) (.cells #[.string ⟨N.toArray⟩, .string ⟨L.toArray⟩] tFile)
        rw [show (wr.alloc (.cells #[.int .i64 pf, .int .i64 pn] tSec)).heap.size = wr.heap.size + 1 by simp] at this
        exact this⟩
      rw [hW2]
      have k1' : W2.heap[wr.heap.size]? = some (.cells #[.int .i64 pf, .int .i64 pn] tSec (0, 0)) := by rw [← hW2]; exact Nw.keep (((Upd.refl _ _).alloc _).drew) K1.out
      obtain ⟨_, _⟩ := cell2D k2
      obtain ⟨_, _⟩ := cell2D k1'
      have hsl := Hk.out W2 (HU.out.trans (Nw.upd _ n2))
      obtain ⟨a2, c2, e2, _, hkc⟩ := int_cells hsl
      have e3 : ak = a2 ∧ ck = c2 := by simpa using e2
      obtain ⟨rfl, rfl⟩ := e3
      have K1' := Lib.hid k1'
      have K2 := Lib.hid k2
      clear hW2 hsl e2 k1' k2 HSd
      have HD2 := Lib.hid (HD.out.nw n2)
      have HU2 : Hid (Upd (fun j => j = r.db ∨ j = r.fm) w W2) := HU.out.nw n2
      have hOk1 : Hid (Dk.Ok (Dk.crashK D keep (k + 1))) := Dk.crashK_ok H.out.ok keep (k + 1)
      have hskip : Dk.survive keep (Dk.crashK D keep k).fs (pf, pn) k = (Dk.crashK D keep k).fs → Hid (DiskAt B W2 r (Dk.crashK D keep (k + 1))) := fun e =>
        HD2.out.same (by rw [Hfs.out, e]) rfl rfl rfl rfl rfl hOk1.out
      have Hskip := Lib.hid hskip
      clear hskip
      by_cases hk0 : keep.length = 0
      · have hz : (keep.length : Int) = 0 := by omega
        have hod : Hid (Dk.odd keep k = false) := by show _ = _; unfold Dk.odd; rw [List.length_eq_zero_iff.1 hk0]; rfl
        clear hkc hk0
        have hz3 := Hskip.out (Dk.odd_not hod.out)
        clear Hskip
        go_wp2_with fail
        go_roundw
        case rel => exact ⟨k + 1, by omega, by go_num, hz3, HU2⟩
        case measure => simp [intOf]; omega
      · rcases hkc with hnil | ⟨bk, ok, rfl, _, _, hkc⟩
        · rw [hnil] at hk0; simp at hk0
        have hklt : k % keep.length < keep.length := Nat.mod_lt _ (by omega)
        have z0 := hkc _ hklt
        have hke : ((keep.length : Int) == 0) = false := beq_eq_false_iff_ne.2 (by omega)
        have hbx := and1 keep[k % keep.length]
        have hodd : Dk.odd keep k = decide (keep[k % keep.length] % 2 = 1) := by
          unfold Dk.odd
          rw [decide_eq_true (show keep ≠ [] from fun e => by rw [e] at hk0; simp at hk0), Bool.true_and, List.getD_eq_getElem?_getD, List.getElem?_eq_getElem hklt]
          rfl
        clear hkc
        generalize keep[k % keep.length] = x at *
        by_cases hx : x % 2 = 1
        rotate_left
        · have hod : Hid (Dk.odd keep k = false) := by show _ = _; rw [hodd, decide_eq_false hx]
          have hb0 : bits .and .i64 x 1 = 0 := by rw [hbx]; omega
          clear hodd hx hbx
          have hz3 := Hskip.out (Dk.odd_not hod.out)
          clear Hskip
          go_wp2_with fail
          go_roundw
          case rel => exact ⟨k + 1, by omega, by go_num, hz3, HU2⟩
          case measure => simp [intOf]; omega
        have hod : Hid (Dk.odd keep k = true) := by show _ = _; rw [hodd, decide_eq_true hx]
        have hb0 : bits .and .i64 x 1 = 1 := by rw [hbx]; omega
        clear hodd hx hbx
        obtain ⟨m, rfl⟩ : ∃ m : Nat, pn = m := ⟨pn.toNat, by omega⟩
        by_cases hfar : (N.length : Int) ≤ (m : Int) * 64
        · have hfn : Hid (((Dk.crashK D keep k).fs (pf, (m : Int)).1).now.length ≤ 64 * (pf, (m : Int)).2.toNat) := by
            show _ ≤ _
            dsimp only
            rw [HF.out]
            show N.length ≤ _
            omega
          have hz3 := Hskip.out (Dk.far_not hfn.out)
          clear Hskip
          go_wp2_with fail
          go_roundw
          case rel => exact ⟨k + 1, by omega, by go_num, hz3, HU2⟩
          case measure => simp [intOf]; omega
        have hml : (m : Int) * 64 < N.length := by omega
        have hnl := Hnow.out
        have hbI : (N.length : Int) ≤ 16777216 := by omega
        have hw2 : IntKind.i64.wrap ((m : Int) * 64 + 64) = (m : Int) * 64 + 64 := by rw [IntKind.wrap_i64]; omega
        have hs1 : (m : Int) * 64 ≤ min ((m : Int) * 64 + 64) N.length := by omega
        have hs2 : min ((m : Int) * 64 + 64) (N.length : Int) ≤ N.length := by omega
        have hs0 : 0 ≤ (m : Int) * 64 := by omega
        have hext : (({ data := N.toArray } : ByteArray).extract ((m : Int) * 64).toNat (min ((m : Int) * 64 + 64) (N.length : Int)).toNat).data.toList = (N.drop (64 * m)).take 64 := by
          rw [bs_extract, bs_list]
          rw [show ((m : Int) * 64).toNat = 64 * m by omega]
          by_cases hc : m * 64 + 64 ≤ N.length
          · rw [show (min ((m : Int) * 64 + 64) (N.length : Int)).toNat - 64 * m = 64 by omega]
          · rw [List.take_of_length_le (by rw [List.length_drop]; omega), List.take_of_length_le (by rw [List.length_drop]; omega)]
        have hL := HD2.out.ok.last pf
        rw [HF.out] at hL
        dsimp only at hL
        have hput := fun j : Later W2 => put_g ⟨L.toArray⟩ _ L ((N.drop (64 * m)).take 64) ((m : Int) * 64) (64 * m) (bs_list L) hext (by omega) j.1 (g.upd (HU2.out.nw j.nw)) hL (by rw [List.length_take, List.length_drop]; omega)
        have hsv : Hid ((Dk.crashK D keep (k + 1)).fs = Dk.setF (Dk.crashK D keep k).fs pf ⟨N, Dk.put L (64 * m) ((N.drop (64 * m)).take 64)⟩) := by
          show _ = _
          have hff : (Dk.crashK D keep k).fs (pf, (m : Int)).1 = ⟨N, L⟩ := HF.out
          have := Dk.survive_yes (keep := keep) (i := k) (fs := (Dk.crashK D keep k).fs) (p := (pf, (m : Int))) hod.out (by rw [hff]; dsimp only; omega)
          rw [Hfs.out, this, hff]
          dsimp only
          rw [show ((m : Int)).toNat = m by omega]
        have Hput := Lib.hid hput
        obtain ⟨l60, l61⟩ := later_fil K2.out
        have Hext := Lib.hid hext
        have Hs := Lib.hid (And.intro hs0 (And.intro hs1 (And.intro hs2 (And.intro hw2 (And.intro l60 l61)))))
        have hge : decide ((N.length : Int) ≤ (m : Int) * 64) = false := decide_eq_false hfar
        have Hml := Lib.hid hml
        clear hnl hext hL hput Hskip hod hfar hs0 hs1 hs2 hw2 l60 l61 hbI hml
        clear hpn0 hpn1
        go_upto_region 7 with fail
        obtain ⟨hs0, hs1, hs2, hw2, l60, l61⟩ := Hs.out
        clear Hs
        refine wp_region_nw_tail 15 (by kernel_rfl) (by kernel_rfl) ?_
        simp only [List.take_succ_cons, List.take_zero, List.drop_succ_cons, List.drop_zero]
        repeat (go_big_quiet_step ((go_at_call 47; exact later_call (Hput.out _))))
        refine wpQuiet_nil ?_
        intro w3 u3
        replace u3 := later_out u3
        generalize Dk.put L (64 * m) ((N.drop (64 * m)).take 64) = P at *
        have k3 := Nw.keep u3 K2.out
        obtain ⟨_, _⟩ := cell2D k3
        have f31 := cells_frozen k3 1
        have hbx : ¬ (wr.heap.size + 1 = r.db ∨ wr.heap.size + 1 = r.fm) ∧ ¬ r.foot (wr.heap.size + 1) := by
          have h1 := fun j hj => (HD.out.foot_lt (k := j) hj).2
          refine ⟨?_, fun e => by have := h1 _ e; omega⟩
          rintro (e | e)
          · have := h1 _ (Or.inl rfl); omega
          · have := h1 _ (Or.inr (Or.inl rfl)); omega
        have x4 : Upd (fun j => j = wr.heap.size + 1) w3 (w3.setCell ⟨wr.heap.size + 1, 1, none⟩ (.string ⟨P.toArray⟩)) := Upd.set1 (Upd.refl _ _) (by have := HU.out.size; omega) 1 _
        have k4 := setCell_block k3 1 (.string ⟨P.toArray⟩)
        have k15 := x4.keep (Nw.keep u3 K1'.out) (by omega)
        have h4 := (HD2.out.nw u3).upd x4 (fun j hj e => by subst e; exact hbx.2 hj)
        have hU4 : Upd (fun j => j = r.db ∨ j = r.fm) w (w3.setCell ⟨wr.heap.size + 1, 1, none⟩ (.string ⟨P.toArray⟩)) := (HU2.out.nw u3).trans' x4 (fun j hj e => by have := HU.out.size; omega)
        have l0 := h4.laterD.1
        obtain ⟨l50, l51⟩ := later_fil k15
        have k4' : (w3.setCell ⟨wr.heap.size + 1, 1, none⟩ (.string ⟨P.toArray⟩)).heap[wr.heap.size + 1]? = some (.cells #[.string ⟨N.toArray⟩, .string ⟨P.toArray⟩] tFile (0, 0)) := k4
        obtain ⟨l62, l63⟩ := later_fil k4'
        have H4 := Lib.hid h4
        have HU4 := Lib.hid hU4
        clear x4 k4 k15 h4 hU4 k4' l60 l61
        go_wp2_with fail
        refine wp_region_nw_tail 7 (by kernel_rfl) (by kernel_rfl) ?_
        simp only [List.take_succ_cons, List.take_zero, List.drop_succ_cons, List.drop_zero]
        repeat (go_big_quiet_step ((fail)))
        refine wpQuiet_nil ?_
        intro w5 u5
        replace u5 := later_out u5
        have h5 := H4.out.nw u5
        obtain ⟨w6, hst, hf6, u6⟩ := h5.files.put (Nat.le_trans h5.hb h5.fm) HpI.out.1 ⟨N, P⟩
        rw [← hsv.out] at hf6
        have h6 : Hid (DiskAt B w6 r (Dk.crashK D keep (k + 1))) := h5.putF u6 hf6 rfl rfl rfl rfl rfl hOk1.out
        have hU6 : Hid (Upd (fun j => j = r.db ∨ j = r.fm) w w6) := (HU4.out.nw u5).trans' u6 (fun j hj e => Or.inr e)
        dsimp only [filV] at hst
        have Hst := Lib.hid hst
        clear hst hf6 h5 l0 l50 l51 l62 l63
        go_wp2_with (at_mapUpdate; refine wpList_storeL rfl _ _ _ tFiles rfl _ _ _ rfl rfl rfl Hst.out ?_)
        go_wp2_with fail
        go_roundw
        case rel => exact ⟨k + 1, by omega, by go_num, h6, hU6⟩
        case measure => simp [intOf]; omega
    · obtain rfl : k = D.q.length := by omega
      obtain ⟨wX, rfl⟩ : ∃ x, x = wr := ⟨_, rfl⟩
      obtain ⟨db, fm, sm, qv, kv⟩ := r
      dsimp only at *
      subst hqv
      have hd1 := HD.out
      obtain ⟨x0, _⟩ := hd1.cells
      obtain ⟨l0, hm0, hs0⟩ := hd1.files
      dsimp only at x0 hm0
      generalize hF : (Dk.crashK D keep D.q.length).fs = F at *
      have HF := Lib.hid hF
      have Hm0 := Lib.hid hm0
      have Hs0 := Lib.hid hs0
      have hfm : fm < wX.heap.size := (hd1.foot_lt (Or.inr (Or.inl rfl))).2
      have hdb : db < wX.heap.size := (hd1.foot_lt (Or.inl rfl)).2
      have hne : db ≠ fm := hd1.apart.1
      have hfG : nG ≤ fm := Nat.le_trans hd1.hb hd1.fm
      have hXG : nG ≤ wX.heap.size := by omega
      have Hn := Lib.hid (And.intro hfm (And.intro hdb (And.intro hne (And.intro hfG hXG))))
      clear hd1 hm0 hs0 hF hfm hdb hne hfG hXG hgb
      go_wp2_with (at_range; refine wpList_rangeS rfl _ tFiles tFile rfl Tryz.underlying71 rfl Hm0.out ?_)
      intro w1 hrg n1
      have HC : Hid (CrashS wX fm wX.heap.size F w1) := ⟨⟨_, _, F, hrg, Hs0.out, fun f => Or.inl rfl, fun f e => e.elim⟩, Nw.upd _ n1⟩
      clear hrg n1
      go_wp2_with fail
      go_loopw [9] (fun _ wr => Hid (CrashS wX fm wX.heap.size F wr)) (fun _ wr => wr.rangeLeft fm wX.heap.size)
      case atStart => exact HC.out
      case round =>
        have HC := Lib.hid hrel.out
        obtain ⟨⟨l, done, gs, hrg, hs1, hs2, hs3⟩, hu⟩ := hrel.out
        obtain ⟨hfm, hdb, hne, hfG, hXG⟩ := Hn.out
        have hrg' := hrg
        clear hrel
        go_wp2_with (at_next; refine wpList_nextS rfl _ rfl rfl hrg' ?_ ?_ ?_)
        · exact hXG
        · intro hall
          have hgs : gs = fun f => ⟨(F f).last, (F f).last⟩ := funext fun f => by
            by_cases hin : ∀ p ∈ l, p.1 ≠ .int .i64 f
            · rcases hs2 f with e | e
              · rw [hs1.none f hin] at e ⊢
                rw [← e]; rfl
              · exact e
            · obtain ⟨p, hp⟩ := Classical.not_forall.1 hin
              obtain ⟨hp, hpf⟩ := Classical.not_imp.1 hp
              have hpf : p.1 = .int .i64 f := Classical.not_not.1 hpf
              exact hs3 f (by rw [← hpf]; exact hall _ _ hp)
          have hfl : FilesL wr fm gs := ⟨l, hrg.map, hs1⟩
          rw [hgs] at hfl
          have hT : Hid (DiskTo B ⟨db, fm, sm, .slice aq D.q.length cq, kv⟩ (Dk.crash D keep) w (((wr.alloc (.map #[] 0)).setCell ⟨db, 1, none⟩ (.slice none 0 0)).setCell ⟨db, 2, none⟩ (.map (some wr.heap.size)))) := by
            show DiskTo _ _ _ _ _
            have hok : Dk.Ok (Dk.crash D keep) := Dk.crash_ok H.out.ok keep
            rw [hr.out] at hok ⊢
            refine DiskTo.then_ H.out HD.out rfl (HU.out.mono (fun j _ e => ?_)) (fun j e => Or.inl e) ?_
            · rcases e with e | e
              · exact Or.inl e
              · exact Or.inr (Or.inl e)
            · exact crash_done HD.out hu hfl rfl rfl rfl rfl rfl hok
          have bk := (nw_alloc wr (.map #[] 0)).keep (hu.keep HD.out.blk hne)
          obtain ⟨y1, y2, y3, y4⟩ := two_set _ db _ _ bk (.slice none 0 0) _ _ rfl rfl
          clear hall hs1 hs2 hs3 hrg hrg' hu hfl hgs bk x0
          have hmm := @run_makeMap Tryz.prog
          go_wp2_with fail
          go_end0
          exact ⟨rfl, hT.out⟩
        · intro ka va w6 hpm hrg6 u6 hlt6 hen
          obtain ⟨f, hf, e⟩ := hs1.each _ hpm
          obtain ⟨e1, e2⟩ := Prod.mk.inj e
          subst e1 e2
          have hin := hpm
          unfold filV at hpm hen hin
          have hlast : (gs f).last = (F f).last := by
            rcases hs2 f with e | e <;> rw [e]
          have U6 : Upd (fun k => k = fm) wX w6 := hu.trans' u6 (fun j hj e => by omega)
          have n7 := nw_alloc w6 (.cells #[.string ⟨(gs f).now.toArray⟩, .string ⟨(gs f).last.toArray⟩] tFile)
          have k7 := heap_new w6 (.cells #[.string ⟨(gs f).now.toArray⟩, .string ⟨(gs f).last.toArray⟩] tFile)
          have b7 := n7.keep (U6.keep HD.out.blk hne)
          have l0 : ∀ i : Later (w6.alloc (.cells #[.string ⟨(gs f).now.toArray⟩, .string ⟨(gs f).last.toArray⟩] tFile)), i.1.cell? ⟨db, 0, none⟩ = some (.map (some fm)) := fun i => by rw [cells_cell (i.nw.keep b7)]; rfl
          have l1 := (later_fil k7).2
          have hfin : ∀ w8, Nw (w6.alloc (.cells #[.string ⟨(gs f).now.toArray⟩, .string ⟨(gs f).last.toArray⟩] tFile)) w8 → ∃ w9, (Instr.mapUpdate tFiles (.map (some fm)) (.int .i64 f) (.agg #[.string ⟨(gs f).last.toArray⟩, .string ⟨(gs f).last.toArray⟩])).run Tryz.prog w8 = .ok () w9 ∧ Hid (CrashS wX fm wX.heap.size F w9) ∧ w9.rangeLeft fm wX.heap.size < wr.rangeLeft fm wX.heap.size := fun w8 u8 => by
            obtain ⟨c1, c2⟩ := hrg6.upd n7 id id
            obtain ⟨d1, d2⟩ := c1.upd u8 id id
            obtain ⟨w9, l', hrun, hr9, hm9, u9, hl9⟩ := d1.put intKeyD Tryz.underlying71 hfG hin (int_keyD hf) (filV ⟨(gs f).last, (gs f).last⟩)
            refine ⟨w9, hrun, ⟨⟨l', _, _, hr9, hs1.put hf _ hm9, fun g => ?_, fun g hg => ?_⟩, ((U6.nw n7).nw u8).trans u9⟩, by omega⟩
            · by_cases hgf : g = f
              · subst hgf
                rw [Dk.setF_self, hlast]; exact Or.inr rfl
              · rw [Dk.setF_ne _ _ hgf]; exact hs2 g
            · by_cases hgf : g = f
              · subst hgf
                rw [Dk.setF_self, hlast]
              · rw [Dk.setF_ne _ _ hgf]
                rcases hg with hg | hg
                · exact hs3 g hg
                · exact absurd (Value.int.inj hg).2 hgf
          have Hfin := Lib.hid hfin
          clear hfin hs1 hs2 hs3 hrg hrg' hrg6 hu u6 hpm hin n7 k7 b7 e hlast
          generalize gs f = G at *
          obtain ⟨gn, gl⟩ := G
          dsimp only at *
          go_wp2_with fail
          refine wp_region_nw_tail 10 (by kernel_rfl) (by kernel_rfl) ?_
          simp only [List.take_succ_cons, List.take_zero, List.drop_succ_cons, List.drop_zero]
          repeat (go_big_quiet_step ((fail)))
          refine wpQuiet_nil ?_
          intro w8 u8
          replace u8 := later_out u8
          obtain ⟨w9, hst, hC9, hl9⟩ := Hfin.out w8 u8
          have Hst := Lib.hid hst
          clear hst l0 l1
          go_wp2_with (at_mapUpdate; refine wpList_storeL0 rfl rfl _ _ _ tFiles rfl _ _ _ rfl rfl rfl Hst.out ?_)
          go_roundw
          case rel => exact hC9
          case measure => exact hl9
theorem wpList_catA {P : Program} {w : World} {ops : Array Oper} {rest : List Oper} {o : Oper} {a : Act} {Q : Exit → Act → World → Prop} (hgd : o.guard = none) (s x : Operand) (t : TypeId)
    (ho : o.op = .call { callee := .builtin .append, args := #[s, x], argTypes := #[t, t] })
    (base lo hi : Nat) (e : TypeId) (z : Value) (bytes : Nat) (ht : P.underlying t = some (.slice e)) (hinfo : (P.info? e).map (fun i => (i.zero, i.size, i.bytes)) = some (some z, 1, bytes)) (hzs : z.cells.size = 1)
    (v vx : Value) (n : Nat) (xs news : List Value) (hs : a.eval s = v) (hown : w.ownsRow base e 1 v n xs) (hx : a.eval x = vx) (hsrc : Sl lo hi w vx news)
    (h1 : ∀ u ∈ news, u.oneCell' = true) (h63 : n + news.length ≤ maxLen) (hbytes : (n + news.length) * bytes ≤ 140737488355328) (hbase : base ≤ w.heap.size)
    (h : ∀ v' w', w'.ownsRow base e 1 v' (n + news.length) (xs ++ news) → w.grownBy w' v.ownBlock → (∀ k, v.ownBlock = some k → base ≤ k ∧ k < w.heap.size) → wpList P ops Q rest (a.put o.dst v') w') : wpList P ops Q (o :: rest) a w := by
  obtain ⟨i0, hi0, hz0, hz1, hz2⟩ := info_parts hinfo
  rcases hsrc with ⟨ao, cap, rfl, rfl⟩ | ⟨b, off, cap, rfl, hc, hm, _, _, hb, hcell⟩
  · refine wpList_plain hgd fun K hK => ?_
    have hr : (Builtin.append_ #[t, t] o.type #[v, .slice ao 0 cap]).run P w = .ok v w := by
      rcases hown.2 with ⟨rfl, rfl⟩ | ⟨g, cap, cur, rfl, _, _, hnc, _⟩
      · cases ao <;> simp [Builtin.append_, run_underlying ht, sizeOf, typeInfo, hi0, Builtin.lenOf, Builtin.firstCells, loadCells, loadCellsFrom]
      · cases ao <;> simp [Builtin.append_, run_underlying ht, sizeOf, typeInfo, hi0, Builtin.lenOf, Builtin.firstCells, hnc, storeCells, loadCells, loadCellsFrom]
    unfold Oper.wp execOp
    simp only [ho, resolve, invoke, builtin, Sem.run_bind, Sem.run_pure, Result.andThen_ok, List.map_toArray, List.map_cons, List.map_nil, hs, hx, hr]
    exact hK _ _ (h v w (by simpa using hown) ⟨rfl, rfl, rfl, Nat.le_refl _, fun _ _ _ => rfl⟩ hown.lt)
  · refine wpList_append_own _ hgd s x t ho base e i0 z 1 bytes ht hi0 hz0 hz1 hz2 hzs (by decide) v n xs hs hown ⟨b, off, none⟩ news.length cap news hx (by simp) ?_ h1 h63 hbytes hbase fun v' w' h2 h3 _ => h v' w' h2 h3 hown.lt
    intro j u hu
    have hj := (List.getElem?_eq_some_iff.1 hu).1
    rw [add_plain, hcell j hj]
    exact hu
theorem infoIntD : (Tryz.prog.info? tIntD).map (fun i => (i.zero, i.size, i.bytes)) = some (some (.int .i64 0), 1, 8) := by kernel_rfl
theorem owns_emptyD (w : World) (e : TypeId) (sz : Nat) : (w.alloc (.cells #[] e)).ownsRow w.heap.size e sz (.slice (some ⟨w.heap.size, 0, none⟩) 0 0) 0 [] := by
  refine ⟨by simp, Or.inr ⟨w.heap.size, 0, #[], rfl, Nat.le_refl _, heap_new w _, Nat.le_refl _, Nat.zero_le _, by simp, by simp⟩⟩
set_option maxRecDepth 100000 in
theorem clone_i (lo hi : Nat) (v : Value) (L : List Int) (w : World) (g : Gl w) (h : Sl lo hi w v (L.map intD)) (hL : L.length ≤ 1000000000) :
    Calls Tryz.prog 46 #[v] w fun e w' => ∃ v', e = .returned v' ∧ w'.ownsRow w.heap.size tIntD 1 v' L.length (L.map intD) ∧ Nw w w' := by
  have hgb := g.big
  have HL := Lib.hid hL; clear hL
  obtain ⟨a, cap, rfl, _, hc⟩ := int_cells h
  have hnil := fun (w : World) (a : Option Addr) (n c : Nat) => Lib.run_eql_slice_nil (P := Tryz.prog) w 48 _ a n c 0 0 Tryz.underlying48
  cases a with
  | none =>
    have hn : L = [] := by
      rcases hc with h | ⟨b, off, e, _⟩
      · exact h
      · cases e
    subst hn
    clear h hc
    go_enter Tryz.func46, Tryz.ntmps46
    go_wp2_with fail
    go_ret
    exact ⟨_, rfl, World.ownsRow_nil _ _ _ _, Upd.refl _ _⟩
  | some ad =>
    have n1 := nw_alloc w (.cells #[] tIntD)
    have Hn := Lib.hid (h.nw n1)
    clear h hc
    have o1 := owns_emptyD w tIntD 1
    go_enter Tryz.func46, Tryz.ntmps46
    go_wp2_with (at_builtin; refine wpList_catA rfl _ _ 48 rfl w.heap.size lo hi tIntD _ 8 Tryz.underlying48 infoIntD rfl _ _ _ _ _ rfl o1 rfl Hn.out ?c1 ?c2 ?c3 ?c4 ?_)
    case c1 =>
      intro u hu
      obtain ⟨x, _, rfl⟩ := List.mem_map.1 hu
      rfl
    case c2 => have := HL.out; unfold maxLen; rw [List.length_map]; omega
    case c3 => have := HL.out; rw [List.length_map]; omega
    case c4 => simp
    intro v' w2 hown hgrow hob
    have u2 : Nw w w2 := n1.grown hgrow (fun k hk => ⟨Or.inr (hob k hk).1, by have := (hob k hk).1; omega⟩)
    go_wp2_with fail
    go_ret
    refine ⟨_, rfl, ?_, u2⟩
    simpa using hown
theorem arm_done {B : Nat} {w z : World} {r : DiskR} {D : Dk.Disk} (h : DiskAt B w r D) (u : Nw w z) {n : Int} (hn : n ≤ 9223372036854775807) {keep : List Int} (hkI : ∀ x ∈ keep, I64 x) {v' : Value} (ho : z.ownsRow w.heap.size tIntD 1 v' keep.length (keep.map intD)) :
    DiskTo B r (Dk.arm D n keep) w ((z.setCell ⟨r.db, 5, none⟩ (.int .i64 (max n 0))).setCell ⟨r.db, 6, none⟩ v') := by
  have hk := Dk.arm_ok h.ok hn keep
  have hz := h.nw u
  have hlt := fun j hj => (h.foot_lt (k := j) hj).2
  have hdb := hlt r.db (Or.inl rfl)
  have hdB := h.db
  have hB := h.hb
  have hv : ∀ k, v'.ownBlock = some k → w.heap.size ≤ k := fun k e => (own_blockD ho e).1
  have hne : v'.ownBlock ≠ some r.db := fun e => by have := hv _ e; omega
  obtain ⟨a1, a2, a3, a4, a5, a6, a7, a8, a9⟩ := h.apart
  have u1 : Upd (fun k => k = r.db) z (z.setCell ⟨r.db, 5, none⟩ (.int .i64 (max n 0))) := Upd.set1 (Upd.refl _ _) (by omega) 5 _
  have u2 : Upd (fun k => k = r.db) (z.setCell ⟨r.db, 5, none⟩ (.int .i64 (max n 0))) ((z.setCell ⟨r.db, 5, none⟩ (.int .i64 (max n 0))).setCell ⟨r.db, 6, none⟩ v') := Upd.set1 (Upd.refl _ _) (by omega) 6 _
  have U := u1.trans u2
  have b2 := setCell_block (setCell_block hz.blk 5 (.int .i64 (max n 0))) 6 v'
  refine ⟨⟨r.db, r.fm, r.sm, r.qv, v'⟩, ⟨h.hb, h.db, h.fm, h.sm, h.ne, b2, hz.files.upd U (fun e => a1 e.symm), hz.set.upd U (fun e => a2 e.symm), owns_updD hz.queue U (fun k hk e => by subst e; exact a3 hk),
    owns_updD (owns_base ho (by omega)) U (fun k hk e => by subst e; exact hne hk), hk, hkI⟩, rfl, ((Nw.upd _ u).trans' U (fun k _ e => Or.inl e)), ?_⟩
  rintro j (e | e | e | e | e)
  · exact Or.inl (Or.inl e)
  · exact Or.inl (Or.inr (Or.inl e))
  · exact Or.inl (Or.inr (Or.inr (Or.inl e)))
  · exact Or.inl (Or.inr (Or.inr (Or.inr (Or.inl e))))
  · exact Or.inr (hv j e)
set_option maxRecDepth 100000 in
theorem arm_c {B : Nat} {w : World} {r : DiskR} {D : Dk.Disk} (h : DiskAt B w r D) (g : Gl w) {n : Int} (hn : I64 n) (lo hi : Nat) (v : Value) (keep : List Int) (hkI : ∀ x ∈ keep, I64 x) (hs : Sl lo hi w v (keep.map intD)) (hL : keep.length ≤ 1000000000) :
    Calls Tryz.prog 15 #[.pointer (some ⟨r.db, 0, none⟩), .int .i64 n, v] w fun e w' => e = .returned (.tuple #[]) ∧ DiskTo B r (Dk.arm D n keep) w w' := by
  have hc := Lib.hid (clone_i lo hi v keep w g hs hL)
  have H := Lib.hid h
  have HI := Lib.hid hkI
  have HN := Lib.hid hn
  clear h hkI hL hs hn
  go_enter Tryz.func15, Tryz.ntmps15
  go_wp2_with fail
  (with_reducible refine (hc.out).mono ?_)
  rintro _ w1 ⟨v', rfl, o1, n1⟩
  obtain ⟨av, cv, rfl⟩ := own_slD o1
  have hz := H.out.nw n1
  obtain ⟨_, _, _, _, _, c5, _⟩ := hz.cells
  have f5 := hz.frozen 5
  have k5 := setCell_block hz.blk 5 (.int .i64 (max n 0))
  have c6 : (w1.setCell ⟨r.db, 5, none⟩ (.int .i64 (max n 0))).cell? ⟨r.db, 6, none⟩ = some r.kv := by rw [cells_cell k5]; rfl
  have f6 := cells_frozen k5 6
  have hT := Lib.hid (arm_done H.out n1 HN.out.2 HI.out o1)
  clear hz k5 o1
  go_wp2_with fail
  go_end0
  exact ⟨rfl, hT.out⟩
theorem keep_sl {B : Nat} {w : World} {r : DiskR} {D : Dk.Disk} (h : DiskAt B w r D) : ∀ z, Upd (fun j => j = r.db ∨ j = r.fm) w z → Sl B w.heap.size z r.kv (D.keep.map intD) := fun z u => by
  obtain ⟨a1, a2, a3, a4, a5, a6, a7, a8, a9⟩ := h.apart
  have ho := owns_updD h.keep u (fun k hk e => by
    rcases e with rfl | rfl
    · exact a6 hk
    · exact a7 hk)
  rcases Sl.of_owns ho with e | ⟨b, off, cap, h1, h2, h3, h4, h5, h6, h7⟩
  · exact Or.inl e
  · refine Or.inr ⟨b, off, cap, h1, h2, h3, h4, ?_, h6, h7⟩
    refine (h.foot_lt (k := b) (Or.inr (Or.inr (Or.inr (Or.inr ?_))))).2
    obtain ⟨hl, ho2⟩ := ho
    rcases ho2 with ⟨e, _⟩ | ⟨gb, cp, cur, e, _⟩
    · rw [e] at h1; simp at h1
    · rw [e] at h1 ⊢
      simp at h1
      simp [Value.ownBlock, h1]
theorem write0_keep (D : Dk.Disk) (f i : Int) (s : List UInt8) : (Dk.write0 D f i s).1.keep = D.keep := by
  unfold Dk.write0
  split
  · rfl
  · split
    · rfl
    · dsimp only
      unfold Dk.add
      split <;> rfl
theorem counted_keep (D : Dk.Disk) : (Dk.counted D).keep = D.keep := by
  unfold Dk.counted
  split <;> rfl
set_option maxHeartbeats 1000000 in
set_option maxRecDepth 100000 in
theorem write_c {B : Nat} {w : World} {r : DiskR} {D : Dk.Disk} (h : DiskAt B w r D) (g : Gl w) (hB : B ≤ w.heap.size) {f i : Int} (hf : I64 f) (hi : I64 i) (s : List UInt8) (hs : s.length ≤ 1000000000) :
    Calls Tryz.prog 119 #[.pointer (some ⟨r.db, 0, none⟩), .int .i64 f, .int .i64 i, .string ⟨s.toArray⟩] w fun e w' => e = .returned (.int .i64 (Dk.write D f i s).2) ∧ DiskTo B r (Dk.write D f i s).1 w w' := by
  have hgb := g.big
  have he := Lib.hid (ends_c h)
  have H := Lib.hid h
  have HB := Lib.hid hB
  have HS := Lib.hid (And.intro hf (And.intro hi hs))
  clear h hB hs hf hi
  go_enter Tryz.func119, Tryz.ntmps119
  go_wp2_with fail
  (with_reducible refine (he.out).mono ?_)
  rintro _ w1 ⟨rfl, hT1⟩
  obtain ⟨r1, h1, e1, u1, f1⟩ := hT1
  have hw := write0_c h1 (g.upd u1) (Nat.le_trans HB.out u1.size) HS.out.1 HS.out.2.1 s HS.out.2.2
  rw [e1] at hw
  have Hw := Lib.hid hw
  have H1 := Lib.hid (And.intro h1 (And.intro u1 f1))
  clear hw he h1 u1 f1
  generalize hE : Dk.ends D = E at *
  go_wp2_with fail
  (with_reducible refine (Hw.out).mono ?_)
  rintro _ w2 ⟨rfl, hT2⟩
  obtain ⟨r2, h2, e2, u2, f2⟩ := hT2
  have e3 := e2.trans e1
  have H2 : Hid (DiskTo B r (Dk.write0 (Dk.counted D) f i s).1 w w2) := DiskTo.then_ H.out H1.out.1 e1 H1.out.2.1 H1.out.2.2 ⟨r2, h2, e2, u2, f2⟩
  cases E with
  | false =>
    have hr : Hid (Dk.write D f i s = Dk.write0 (Dk.counted D) f i s) := by show _ = _; unfold Dk.write; rw [hE, if_neg (by decide)]
    clear hE h2 u2 f2
    go_wp2_with fail
    go_ret
    exact ⟨by rw [hr.out]; rfl, by rw [hr.out]; exact H2.out⟩
  | true =>
    have hr : Hid (Dk.write D f i s = (Dk.crash (Dk.write0 (Dk.counted D) f i s).1 (Dk.write0 (Dk.counted D) f i s).1.keep, 8)) := by show _ = _; unfold Dk.write; rw [hE, if_pos rfl, write0_keep]
    have c6 := h2.cells.2.2.2.2.2.2
    rw [e3] at c6
    have g2 := (g.upd H1.out.2.1).upd u2
    have hc := crash_c h2 g2 (Nat.le_trans HB.out (Nat.le_trans H1.out.2.1.size u2.size)) B w2.heap.size r2.kv (Dk.write0 (Dk.counted D) f i s).1.keep (keep_sl h2) h2.kI
    rw [e3] at hc
    obtain ⟨ak, ck, hkv⟩ := own_slD h2.keep
    rw [hkv] at hc c6
    have Hc := Lib.hid hc
    have h2' := Lib.hid (And.intro h2 (And.intro u2 f2))
    clear hc h2 u2 f2 hE
    go_wp2_with fail
    (with_reducible refine (Hc.out).mono ?_)
    rintro _ w3 ⟨rfl, hT3⟩
    go_wp2_with fail
    go_ret
    exact ⟨by rw [hr.out]; rfl, by rw [hr.out]; exact DiskTo.then_ H.out h2'.out.1 e3 (H1.out.2.1.trans' h2'.out.2.1 (fun k hk e => (H1.out.2.2 k e).elim id (fun e4 => by omega))) (fun j hj => (h2'.out.2.2 j hj).elim (fun e4 => H1.out.2.2 j e4) (fun e4 => Or.inr (Nat.le_trans H1.out.2.1.size e4))) hT3⟩
structure Came (B : Nat) (w : World) (r : DiskR) (D D1 : Dk.Disk) (w1 : World) (r1 : DiskR) : Prop where
  at0 : DiskAt B w r D
  at1 : DiskAt B w1 r1 D1
  db : r1.db = r.db
  upd : Upd r.foot w w1
  foot : ∀ j, r1.foot j → r.foot j ∨ w.heap.size ≤ j
theorem Came.to {B : Nat} {w w1 : World} {r r1 : DiskR} {D D1 : Dk.Disk} (h : Came B w r D D1 w1 r1) : DiskTo B r D1 w w1 := ⟨r1, h.at1, h.db, h.upd, h.foot⟩
theorem Came.then_ {B : Nat} {w w1 w2 : World} {r r1 : DiskR} {D D1 D2 : Dk.Disk} (h : Came B w r D D1 w1 r1) (h2 : DiskTo B r1 D2 w1 w2) : DiskTo B r D2 w w2 := DiskTo.then_ h.at0 h.at1 h.db h.upd h.foot h2
theorem DiskTo.came {B : Nat} {w w1 : World} {r : DiskR} {D D1 : Dk.Disk} (h0 : DiskAt B w r D) (h : DiskTo B r D1 w w1) : ∃ r1, Came B w r D D1 w1 r1 := by
  obtain ⟨r1, a, b, c, d⟩ := h
  exact ⟨r1, h0, a, b, c, d⟩
set_option maxHeartbeats 1000000 in
set_option maxRecDepth 100000 in
theorem sync_c {B : Nat} {w : World} {r : DiskR} {D : Dk.Disk} (h : DiskAt B w r D) (g : Gl w) (hB : B ≤ w.heap.size) {f : Int} (hf : I64 f) :
    Calls Tryz.prog 58 #[.pointer (some ⟨r.db, 0, none⟩), .int .i64 f] w fun e w' => e = .returned (.int .i64 (Dk.sync D f).2) ∧ DiskTo B r (Dk.sync D f).1 w w' := by
  have hgb := g.big
  have he := Lib.hid (ends_c h)
  have H := Lib.hid h
  have HB := Lib.hid hB
  have HF := Lib.hid hf
  clear h hB hf
  go_enter Tryz.func58, Tryz.ntmps58
  go_wp2_with fail
  (with_reducible refine (he.out).mono ?_)
  rintro _ w1 ⟨rfl, hT1⟩
  obtain ⟨r1, hcm⟩ := DiskTo.came H.out hT1
  have C1 := Lib.hid hcm
  clear hT1 he hcm
  generalize hE : Dk.ends D = E at *
  cases E with
  | true =>
    have hcome : Hid (Dk.crash (Dk.counted D) (Dk.counted D).keep = Dk.come D) := by show _ = _; unfold Dk.come; rw [hE, if_pos rfl, counted_keep]
    have c6 := C1.out.at1.cells.2.2.2.2.2.2
    rw [C1.out.db] at c6
    have hc := crash_c C1.out.at1 (g.upd C1.out.upd) (Nat.le_trans HB.out C1.out.upd.size) B w1.heap.size r1.kv (Dk.counted D).keep (keep_sl C1.out.at1) C1.out.at1.kI
    rw [C1.out.db] at hc
    obtain ⟨ak, ck, hkv⟩ := own_slD C1.out.at1.keep
    rw [hkv] at hc c6
    have Hc := Lib.hid hc
    clear hc hE
    go_wp2_with fail
    (with_reducible refine Hc.out.mono ?_)
    rintro _ w2 ⟨rfl, hT2⟩
    rw [hcome.out] at hT2
    obtain ⟨r2, hcm⟩ := DiskTo.came H.out (C1.out.then_ hT2)
    have C2 := Lib.hid hcm
    clear hT2 hcm Hc c6 hkv
    have hm := may_c C2.out.at1 f
    rw [C2.out.db] at hm
    have Hm := Lib.hid hm
    have hr0 : Dk.sync D f = if Dk.may (Dk.come D) f ≠ 0 then (Dk.come D, Dk.may (Dk.come D) f) else if 0 < (Dk.come D).lost then ({ Dk.come D with lost := (Dk.come D).lost - 1 }, 9) else (Dk.settle (Dk.come D) f ((Dk.come D).fs f).now, 0) := rfl
    generalize hD' : Dk.come D = D' at *
    clear hm hD'
    by_cases hm0 : Dk.may D' f = 0
    rotate_left
    · have hr : Hid (Dk.sync D f = (D', Dk.may D' f)) := by show _ = _; rw [hr0, if_pos hm0]
      have d0 : (Dk.may D' f == 0) = false := beq_eq_false_iff_ne.2 hm0
      have d1 : (Dk.may D' f != 0) = true := by simp [hm0]
      clear hm0 hr0
      go_wp2_with fail
      (with_reducible refine Hm.out.mono ?_)
      rintro _ _ ⟨rfl, rfl⟩
      go_wp2_with fail
      go_ret
      exact ⟨by rw [hr.out]; rfl, by rw [hr.out]; exact C2.out.to⟩
    rw [hm0] at Hm
    have c3 := C2.out.at1.cells.2.2.2.1
    rw [C2.out.db] at c3
    have hlo := C2.out.at1.ok.lost
    by_cases hl : 0 < D'.lost
    · have hr : Hid (Dk.sync D f = ({ D' with lost := D'.lost - 1 }, 9)) := by show _ = _; rw [hr0, if_neg (by omega), if_pos hl]
      have hT := DiskTo.set (D' := { D' with lost := D'.lost - 1 }) C2.out.at1 3 (.int .i64 (D'.lost - 1)) rfl rfl rfl rfl ⟨C2.out.at1.ok.now, C2.out.at1.ok.last, C2.out.at1.ok.q, C2.out.at1.ok.nd, ⟨by dsimp only; omega, by dsimp only; omega⟩, C2.out.at1.ok.armed⟩
      have HT := Lib.hid (C2.out.then_ hT)
      rw [C2.out.db] at HT
      have f3 := C2.out.at1.frozen 3
      rw [C2.out.db] at f3
      have hl1 : 0 ≤ D'.lost - 1 := by omega
      have hl2 : D'.lost ≤ 9223372036854775807 := hlo.2
      clear hT hr0 hm0 hlo
      go_wp2_with fail
      (with_reducible refine Hm.out.mono ?_)
      rintro _ _ ⟨rfl, rfl⟩
      go_wp2_with fail
      go_ret
      exact ⟨by rw [hr.out]; rfl, by rw [hr.out]; exact HT.out⟩
    have hr : Hid (Dk.sync D f = (Dk.settle D' f (D'.fs f).now, 0)) := by show _ = _; rw [hr0, if_neg (by omega), if_neg hl]
    have c0 := C2.out.at1.cells.1
    rw [C2.out.db] at c0
    have hlk := C2.out.at1.files.look HF.out
    unfold filV at hlk
    have hfn := Lib.hid (field_now (D'.fs f) w2)
    have hst := settle_c C2.out.at1 (g.upd C2.out.upd) HF.out (D'.fs f).now (C2.out.at1.ok.now f) (Nat.le_trans HB.out C2.out.upd.size)
    rw [C2.out.db] at hst
    have Hlk := Lib.hid hlk
    have Hst := Lib.hid hst
    clear hlk hst hr0 hm0 hlo
    go_wp2_with fail
    (with_reducible refine Hm.out.mono ?_)
    rintro _ _ ⟨rfl, rfl⟩
    go_wp2_with (first | (at_lookup; refine wpList_lookL rfl _ _ tFiles false rfl _ _ _ rfl rfl Hlk.out ?_) | (with_reducible refine wpList_fieldL (o := ⟨some 40, _, _, _, _, _⟩) rfl _ tFile 0 rfl _ _ hfn.out (by with_unfolding_all rfl) ?_))
    (with_reducible refine Hst.out.mono ?_)
    rintro _ w4 ⟨rfl, hT4⟩
    go_wp2_with fail
    go_ret
    exact ⟨by rw [hr.out]; rfl, by rw [hr.out]; exact C2.out.then_ hT4⟩
  | false =>
    have hcome : Dk.counted D = Dk.come D := by unfold Dk.come; rw [hE, if_neg (by decide)]
    obtain ⟨w2, rfl⟩ : ∃ z, z = w1 := ⟨_, rfl⟩
    obtain ⟨r2, hcm⟩ := DiskTo.came H.out (by have := C1.out.to; rw [hcome] at this; exact this)
    have C2 := Lib.hid hcm
    clear hcm hE C1 hcome
    have hm := may_c C2.out.at1 f
    rw [C2.out.db] at hm
    have Hm := Lib.hid hm
    have hr0 : Dk.sync D f = if Dk.may (Dk.come D) f ≠ 0 then (Dk.come D, Dk.may (Dk.come D) f) else if 0 < (Dk.come D).lost then ({ Dk.come D with lost := (Dk.come D).lost - 1 }, 9) else (Dk.settle (Dk.come D) f ((Dk.come D).fs f).now, 0) := rfl
    generalize hD' : Dk.come D = D' at *
    clear hm hD'
    by_cases hm0 : Dk.may D' f = 0
    rotate_left
    · have hr : Hid (Dk.sync D f = (D', Dk.may D' f)) := by show _ = _; rw [hr0, if_pos hm0]
      have d0 : (Dk.may D' f == 0) = false := beq_eq_false_iff_ne.2 hm0
      have d1 : (Dk.may D' f != 0) = true := by simp [hm0]
      clear hm0 hr0
      go_wp2_with fail
      (with_reducible refine Hm.out.mono ?_)
      rintro _ _ ⟨rfl, rfl⟩
      go_wp2_with fail
      go_ret
      exact ⟨by rw [hr.out]; rfl, by rw [hr.out]; exact C2.out.to⟩
    rw [hm0] at Hm
    have c3 := C2.out.at1.cells.2.2.2.1
    rw [C2.out.db] at c3
    have hlo := C2.out.at1.ok.lost
    by_cases hl : 0 < D'.lost
    · have hr : Hid (Dk.sync D f = ({ D' with lost := D'.lost - 1 }, 9)) := by show _ = _; rw [hr0, if_neg (by omega), if_pos hl]
      have hT := DiskTo.set (D' := { D' with lost := D'.lost - 1 }) C2.out.at1 3 (.int .i64 (D'.lost - 1)) rfl rfl rfl rfl ⟨C2.out.at1.ok.now, C2.out.at1.ok.last, C2.out.at1.ok.q, C2.out.at1.ok.nd, ⟨by dsimp only; omega, by dsimp only; omega⟩, C2.out.at1.ok.armed⟩
      have HT := Lib.hid (C2.out.then_ hT)
      rw [C2.out.db] at HT
      have f3 := C2.out.at1.frozen 3
      rw [C2.out.db] at f3
      have hl1 : 0 ≤ D'.lost - 1 := by omega
      have hl2 : D'.lost ≤ 9223372036854775807 := hlo.2
      clear hT hr0 hm0 hlo
      go_wp2_with fail
      (with_reducible refine Hm.out.mono ?_)
      rintro _ _ ⟨rfl, rfl⟩
      go_wp2_with fail
      go_ret
      exact ⟨by rw [hr.out]; rfl, by rw [hr.out]; exact HT.out⟩
    have hr : Hid (Dk.sync D f = (Dk.settle D' f (D'.fs f).now, 0)) := by show _ = _; rw [hr0, if_neg (by omega), if_neg hl]
    have c0 := C2.out.at1.cells.1
    rw [C2.out.db] at c0
    have hlk := C2.out.at1.files.look HF.out
    unfold filV at hlk
    have hfn := Lib.hid (field_now (D'.fs f) w2)
    have hst := settle_c C2.out.at1 (g.upd C2.out.upd) HF.out (D'.fs f).now (C2.out.at1.ok.now f) (Nat.le_trans HB.out C2.out.upd.size)
    rw [C2.out.db] at hst
    have Hlk := Lib.hid hlk
    have Hst := Lib.hid hst
    clear hlk hst hr0 hm0 hlo
    go_wp2_with fail
    (with_reducible refine Hm.out.mono ?_)
    rintro _ _ ⟨rfl, rfl⟩
    go_wp2_with (first | (at_lookup; refine wpList_lookL rfl _ _ tFiles false rfl _ _ _ rfl rfl Hlk.out ?_) | (with_reducible refine wpList_fieldL (o := ⟨some 40, _, _, _, _, _⟩) rfl _ tFile 0 rfl _ _ hfn.out (by with_unfolding_all rfl) ?_))
    (with_reducible refine Hst.out.mono ?_)
    rintro _ w4 ⟨rfl, hT4⟩
    go_wp2_with fail
    go_ret
    exact ⟨by rw [hr.out]; rfl, by rw [hr.out]; exact C2.out.then_ hT4⟩
set_option maxHeartbeats 1000000 in
set_option maxRecDepth 100000 in
theorem truncate_c {B : Nat} {w : World} {r : DiskR} {D : Dk.Disk} (h : DiskAt B w r D) (g : Gl w) (hB : B ≤ w.heap.size) {f n : Int} (hf : I64 f) (hn : I64 n) :
    Calls Tryz.prog 60 #[.pointer (some ⟨r.db, 0, none⟩), .int .i64 f, .int .i64 n] w fun e w' => e = .returned (.int .i64 (Dk.truncate D f n).2) ∧ DiskTo B r (Dk.truncate D f n).1 w w' := by
  have hgb := g.big
  have he := Lib.hid (ends_c h)
  have H := Lib.hid h
  have HB := Lib.hid hB
  have HF := Lib.hid hf
  have HN := Lib.hid hn
  clear h hB hf hn
  go_enter Tryz.func60, Tryz.ntmps60
  go_wp2_with fail
  (with_reducible refine (he.out).mono ?_)
  rintro _ w1 ⟨rfl, hT1⟩
  obtain ⟨r1, hcm⟩ := DiskTo.came H.out hT1
  have C1 := Lib.hid hcm
  clear hT1 he hcm
  generalize hE : Dk.ends D = E at *
  cases E with
  | true =>
    have hcome : Hid (Dk.crash (Dk.counted D) (Dk.counted D).keep = Dk.come D) := by show _ = _; unfold Dk.come; rw [hE, if_pos rfl, counted_keep]
    have c6 := C1.out.at1.cells.2.2.2.2.2.2
    rw [C1.out.db] at c6
    have hc := crash_c C1.out.at1 (g.upd C1.out.upd) (Nat.le_trans HB.out C1.out.upd.size) B w1.heap.size r1.kv (Dk.counted D).keep (keep_sl C1.out.at1) C1.out.at1.kI
    rw [C1.out.db] at hc
    obtain ⟨ak, ck, hkv⟩ := own_slD C1.out.at1.keep
    rw [hkv] at hc c6
    have Hc := Lib.hid hc
    clear hc hE
    go_wp2_with fail
    (with_reducible refine Hc.out.mono ?_)
    rintro _ w2 ⟨rfl, hT2⟩
    rw [hcome.out] at hT2
    obtain ⟨r2, hcm⟩ := DiskTo.came H.out (C1.out.then_ hT2)
    have C2 := Lib.hid hcm
    clear hT2 hcm Hc c6 hkv
    have hm := may_c C2.out.at1 f
    rw [C2.out.db] at hm
    have Hm := Lib.hid hm
    have hr0 : Dk.truncate D f n = if Dk.may (Dk.come D) f ≠ 0 then (Dk.come D, Dk.may (Dk.come D) f) else if n < 0 ∨ ((((Dk.come D).fs f).now.length : Nat) : Int) < n then (Dk.come D, 1) else (Dk.settle (Dk.come D) f (((Dk.come D).fs f).now.take n.toNat), 0) := rfl
    generalize hD' : Dk.come D = D' at *
    clear hm hD'
    by_cases hm0 : Dk.may D' f = 0
    rotate_left
    · have hr : Hid (Dk.truncate D f n = (D', Dk.may D' f)) := by show _ = _; rw [hr0, if_pos hm0]
      have d0 : (Dk.may D' f == 0) = false := beq_eq_false_iff_ne.2 hm0
      have d1 : (Dk.may D' f != 0) = true := by simp [hm0]
      clear hm0 hr0
      go_wp2_with fail
      (with_reducible refine Hm.out.mono ?_)
      rintro _ _ ⟨rfl, rfl⟩
      go_wp2_with fail
      go_ret
      exact ⟨by rw [hr.out]; rfl, by rw [hr.out]; exact C2.out.to⟩
    rw [hm0] at Hm
    rw [if_neg (by omega)] at hr0
    clear hm0
    by_cases hn0 : n < 0
    · have hr : Hid (Dk.truncate D f n = (D', 1)) := by show _ = _; rw [hr0, if_pos (Or.inl hn0)]
      clear hr0
      go_wp2_with fail
      (with_reducible refine Hm.out.mono ?_)
      rintro _ _ ⟨rfl, rfl⟩
      go_wp2_with fail
      go_ret
      exact ⟨by rw [hr.out]; rfl, by rw [hr.out]; exact C2.out.to⟩
    have hsz := size_c C2.out.at1 HF.out
    rw [C2.out.db] at hsz
    have hse : Dk.size D' f = ((D'.fs f).now.length : Int) := rfl
    have Hsz := Lib.hid hsz
    clear hsz
    by_cases hn1 : ((D'.fs f).now.length : Int) < n
    · have hr : Hid (Dk.truncate D f n = (D', 1)) := by show _ = _; rw [hr0, if_pos (Or.inr hn1)]
      rw [← hse] at hn1
      clear hr0 hse
      go_wp2_with fail
      (with_reducible refine Hm.out.mono ?_)
      rintro _ _ ⟨rfl, rfl⟩
      go_wp2_with fail
      (with_reducible refine Hsz.out.mono ?_)
      rintro _ _ ⟨rfl, rfl⟩
      go_wp2_with fail
      go_ret
      exact ⟨by rw [hr.out]; rfl, by rw [hr.out]; exact C2.out.to⟩
    have hr : Hid (Dk.truncate D f n = (Dk.settle D' f ((D'.fs f).now.take n.toNat), 0)) := by show _ = _; rw [hr0, if_neg (by omega)]
    have c0 := C2.out.at1.cells.1
    rw [C2.out.db] at c0
    have hlk := C2.out.at1.files.look HF.out
    unfold filV at hlk
    have hfn := Lib.hid (field_now (D'.fs f) w2)
    have hnow := C2.out.at1.ok.now f
    have hst := settle_c C2.out.at1 (g.upd C2.out.upd) HF.out ((D'.fs f).now.take n.toNat) (by rw [List.length_take]; omega) (Nat.le_trans HB.out C2.out.upd.size)
    rw [C2.out.db] at hst
    have hxt : (({ data := (D'.fs f).now.toArray } : ByteArray).extract 0 n.toNat) = ⟨((D'.fs f).now.take n.toNat).toArray⟩ := by rw [bs_extract]; simp
    rw [← hxt] at hst
    have hn1' : ¬ Dk.size D' f < n := by rw [hse]; exact hn1
    have hn2 : n ≤ ((D'.fs f).now.length : Int) := by omega
    have Hlk := Lib.hid hlk
    have Hst := Lib.hid hst
    clear hlk hst hr0 hxt hnow hn1 hse
    go_wp2_with fail
    (with_reducible refine Hm.out.mono ?_)
    rintro _ _ ⟨rfl, rfl⟩
    go_wp2_with fail
    (with_reducible refine Hsz.out.mono ?_)
    rintro _ _ ⟨rfl, rfl⟩
    go_wp2_with (first | (at_lookup; refine wpList_lookL rfl _ _ tFiles false rfl _ _ _ rfl rfl Hlk.out ?_) | (with_reducible refine wpList_fieldL (o := ⟨some 39, _, _, _, _, _⟩) rfl _ tFile 0 rfl _ _ hfn.out (by with_unfolding_all rfl) ?_))
    (with_reducible refine Hst.out.mono ?_)
    rintro _ w4 ⟨rfl, hT4⟩
    go_wp2_with fail
    go_ret
    exact ⟨by rw [hr.out]; rfl, by rw [hr.out]; exact C2.out.then_ hT4⟩
  | false =>
    have hcome : Dk.counted D = Dk.come D := by unfold Dk.come; rw [hE, if_neg (by decide)]
    obtain ⟨w2, rfl⟩ : ∃ z, z = w1 := ⟨_, rfl⟩
    obtain ⟨r2, hcm⟩ := DiskTo.came H.out (by have := C1.out.to; rw [hcome] at this; exact this)
    have C2 := Lib.hid hcm
    clear hcm hE C1 hcome
    have hm := may_c C2.out.at1 f
    rw [C2.out.db] at hm
    have Hm := Lib.hid hm
    have hr0 : Dk.truncate D f n = if Dk.may (Dk.come D) f ≠ 0 then (Dk.come D, Dk.may (Dk.come D) f) else if n < 0 ∨ ((((Dk.come D).fs f).now.length : Nat) : Int) < n then (Dk.come D, 1) else (Dk.settle (Dk.come D) f (((Dk.come D).fs f).now.take n.toNat), 0) := rfl
    generalize hD' : Dk.come D = D' at *
    clear hm hD'
    by_cases hm0 : Dk.may D' f = 0
    rotate_left
    · have hr : Hid (Dk.truncate D f n = (D', Dk.may D' f)) := by show _ = _; rw [hr0, if_pos hm0]
      have d0 : (Dk.may D' f == 0) = false := beq_eq_false_iff_ne.2 hm0
      have d1 : (Dk.may D' f != 0) = true := by simp [hm0]
      clear hm0 hr0
      go_wp2_with fail
      (with_reducible refine Hm.out.mono ?_)
      rintro _ _ ⟨rfl, rfl⟩
      go_wp2_with fail
      go_ret
      exact ⟨by rw [hr.out]; rfl, by rw [hr.out]; exact C2.out.to⟩
    rw [hm0] at Hm
    rw [if_neg (by omega)] at hr0
    clear hm0
    by_cases hn0 : n < 0
    · have hr : Hid (Dk.truncate D f n = (D', 1)) := by show _ = _; rw [hr0, if_pos (Or.inl hn0)]
      clear hr0
      go_wp2_with fail
      (with_reducible refine Hm.out.mono ?_)
      rintro _ _ ⟨rfl, rfl⟩
      go_wp2_with fail
      go_ret
      exact ⟨by rw [hr.out]; rfl, by rw [hr.out]; exact C2.out.to⟩
    have hsz := size_c C2.out.at1 HF.out
    rw [C2.out.db] at hsz
    have hse : Dk.size D' f = ((D'.fs f).now.length : Int) := rfl
    have Hsz := Lib.hid hsz
    clear hsz
    by_cases hn1 : ((D'.fs f).now.length : Int) < n
    · have hr : Hid (Dk.truncate D f n = (D', 1)) := by show _ = _; rw [hr0, if_pos (Or.inr hn1)]
      rw [← hse] at hn1
      clear hr0 hse
      go_wp2_with fail
      (with_reducible refine Hm.out.mono ?_)
      rintro _ _ ⟨rfl, rfl⟩
      go_wp2_with fail
      (with_reducible refine Hsz.out.mono ?_)
      rintro _ _ ⟨rfl, rfl⟩
      go_wp2_with fail
      go_ret
      exact ⟨by rw [hr.out]; rfl, by rw [hr.out]; exact C2.out.to⟩
    have hr : Hid (Dk.truncate D f n = (Dk.settle D' f ((D'.fs f).now.take n.toNat), 0)) := by show _ = _; rw [hr0, if_neg (by omega)]
    have c0 := C2.out.at1.cells.1
    rw [C2.out.db] at c0
    have hlk := C2.out.at1.files.look HF.out
    unfold filV at hlk
    have hfn := Lib.hid (field_now (D'.fs f) w2)
    have hnow := C2.out.at1.ok.now f
    have hst := settle_c C2.out.at1 (g.upd C2.out.upd) HF.out ((D'.fs f).now.take n.toNat) (by rw [List.length_take]; omega) (Nat.le_trans HB.out C2.out.upd.size)
    rw [C2.out.db] at hst
    have hxt : (({ data := (D'.fs f).now.toArray } : ByteArray).extract 0 n.toNat) = ⟨((D'.fs f).now.take n.toNat).toArray⟩ := by rw [bs_extract]; simp
    rw [← hxt] at hst
    have hn1' : ¬ Dk.size D' f < n := by rw [hse]; exact hn1
    have hn2 : n ≤ ((D'.fs f).now.length : Int) := by omega
    have Hlk := Lib.hid hlk
    have Hst := Lib.hid hst
    clear hlk hst hr0 hxt hnow hn1 hse
    go_wp2_with fail
    (with_reducible refine Hm.out.mono ?_)
    rintro _ _ ⟨rfl, rfl⟩
    go_wp2_with fail
    (with_reducible refine Hsz.out.mono ?_)
    rintro _ _ ⟨rfl, rfl⟩
    go_wp2_with (first | (at_lookup; refine wpList_lookL rfl _ _ tFiles false rfl _ _ _ rfl rfl Hlk.out ?_) | (with_reducible refine wpList_fieldL (o := ⟨some 39, _, _, _, _, _⟩) rfl _ tFile 0 rfl _ _ hfn.out (by with_unfolding_all rfl) ?_))
    (with_reducible refine Hst.out.mono ?_)
    rintro _ w4 ⟨rfl, hT4⟩
    go_wp2_with fail
    go_ret
    exact ⟨by rw [hr.out]; rfl, by rw [hr.out]; exact C2.out.then_ hT4⟩
theorem sum_step {m : Int} (h0 : 0 ≤ m) (h1 : m < 2147483647) (c : Nat) (hc : c < 256) (k : Nat) (hk : (k : Int) ≤ 1000000000) :
    (wrap64 (m + wrap64 (wrap64 (c : Int) * ((k : Int) + 1)))).tmod 2147483647 = (m + (c : Int) * ((k : Int) + 1)) % 2147483647 := by
  have a0 : 0 ≤ (c : Int) * ((k : Int) + 1) := Int.mul_nonneg (by omega) (by omega)
  have a1 : (c : Int) * ((k : Int) + 1) ≤ 255 * ((k : Int) + 1) := Int.mul_le_mul_of_nonneg_right (by omega) (by omega)
  have e0 : wrap64 (c : Int) = c := by unfold wrap64; omega
  rw [e0]
  generalize (c : Int) * ((k : Int) + 1) = x at *
  have e1 : wrap64 x = x := by unfold wrap64; omega
  rw [e1]
  have e2 : wrap64 (m + x) = m + x := by unfold wrap64; omega
  rw [e2, Int.tmod_eq_emod_of_nonneg (by omega)]
set_option maxRecDepth 100000 in
theorem Sum_c (s : List UInt8) (hs : s.length ≤ 1000000000) (w : World) :
    Calls Tryz.prog 97 #[.string ⟨s.toArray⟩] w fun e w' => e = .returned (.int .i64 (Jr.sumN s)) ∧ w = w' := by
  have hs1 : (s.length : Int) ≤ 1000000000 := by omega
  have hs0 : (0 : Int) ≤ s.length := by omega
  clear hs
  go_enter Tryz.func97, Tryz.ntmps97
  go_wp2_with fail
  go_loopw [3, 7] (fun nv iv wr => ∃ k : Nat, k ≤ s.length ∧ iv = .int .i64 k ∧ nv = .int .i64 (Jr.sumN (s.take k)) ∧ w = wr) (fun _ iv _ => s.length - (intOf iv).toNat)
  case atStart => exact ⟨0, Nat.zero_le _, rfl, rfl, rfl⟩
  case round =>
    obtain ⟨k, hk, rfl, rfl, rfl⟩ := hrel
    have hb := Jr.sumN_bd (s.take k)
    by_cases hlt : k < s.length
    · have hn : Jr.sumN (s.take (k + 1)) = (Jr.sumN (s.take k) + s[k].toNat * ((k : Int) + 1)) % 2147483647 := by
        rw [List.take_succ_eq_append_getElem hlt, Jr.sumN_snoc, List.length_take, Nat.min_eq_left (Nat.le_of_lt hlt)]
      have hc : s[k].toNat < 256 := s[k].toNat_lt
      go_wp2_with fail
      go_roundw
      case rel => 
        refine ⟨k + 1, by omega, by go_num, ?_, trivial⟩
        rw [hn]
        exact congrArg (Value.int .i64) (sum_step hb.1 hb.2 s[k].toNat hc k (by omega))
      case measure => simp [intOf]; omega
    · obtain rfl : k = s.length := by omega
      have ht : s.take s.length = s := List.take_length
      rw [ht]
      go_wp2_with fail
      go_ret
      exact ⟨rfl, rfl⟩
set_option maxRecDepth 100000 in
theorem form_c (s : List UInt8) (hs : s.length ≤ 1000000000) (w : World) (g : Gl w) :
    Calls Tryz.prog 96 #[.string ⟨s.toArray⟩] w fun e w' => e = .returned (.string ⟨(Jr.form s).toArray⟩) ∧ Nw w w' := by
  have ht := Lib.hid (Text_e ⟨s.toArray⟩ s (bs_list s) w g (by omega))
  have hb := Jr.sumN_bd s
  have hf := Jr.form_len s (by omega)
  unfold Jr.form at hf
  rw [List.length_append] at hf
  have hf1 : (Wire.textE s).length ≤ 1000000043 := by omega
  have hf2 : (Wire.numE (Jr.sumN s)).length ≤ 1000000043 := by omega
  have hu := Lib.hid (fun z => Sum_c s hs z)
  have hI : Hid (I64 (Jr.sumN s)) := by show I64 _; unfold I64; omega
  clear hs hb hf
  go_enter Tryz.func96, Tryz.ntmps96
  go_wp2_with fail
  (with_reducible refine (ht.out).mono ?_)
  rintro _ w1 ⟨rfl, u1⟩
  go_wp2_with fail
  (with_reducible refine (hu.out _).mono ?_)
  rintro _ _ ⟨rfl, rfl⟩
  go_wp2_with fail
  (with_reducible refine (Num_e _ _ (g.upd u1) hI.out).mono ?_)
  rintro _ w2 ⟨rfl, u2⟩
  go_wp2_with fail
  go_ret
  refine ⟨ret_bs ?_, u1.trans u2⟩
  simp only [bs_append_list, bs_list]
  rfl
abbrev tStrJ : TypeId := 9
theorem infoStrJ : (Tryz.prog.info? tStrJ).map (fun i => (i.zero, i.size, i.bytes)) = some (some (.string ⟨#[]⟩), 1, 16) := by kernel_rfl
theorem rText_fst (st : Wire.St) : (Wire.rText st).1.length ≤ (st.getD []).length := by
  cases h : (Wire.rText st).2 with
  | none => rw [Wire.rText_fail h]; simp
  | some r' =>
    cases st with
    | none => simp [Wire.rText, Wire.rNumber] at h
    | some r =>
      have := Wire.rText_inv (r := r) (r' := r') (t := (Wire.rText (some r)).1) (by rw [← h])
      have e := congrArg List.length this
      simp only [List.length_append, Wire.textE, List.length_cons] at e
      simp only [Option.getD_some]
      omega
def ReadI (s : List UInt8) (w wr : World) (lv : Value) (n : Nat) : Prop :=
  ∃ R rest, s = Jr.forms R ++ rest ∧ Jr.recs s = R ++ Jr.recs rest ∧ n = (Jr.forms R).length ∧ wr.ownsRow w.heap.size tStrJ 1 lv R.length (R.map bsV) ∧ Nw w wr
def ReadDone (s : List UInt8) (w wr : World) (lv : Value) (n : Nat) : Prop :=
  n = (Jr.forms (Jr.recs s)).length ∧ wr.ownsRow w.heap.size tStrJ 1 lv (Jr.recs s).length ((Jr.recs s).map bsV) ∧ Nw w wr
theorem ReadI.done {s : List UInt8} {w wr : World} {lv : Value} {n : Nat} {R : List (List UInt8)} {rest : List UInt8} (e1 : s = Jr.forms R ++ rest) (e2 : Jr.recs s = R ++ Jr.recs rest) (e3 : n = (Jr.forms R).length) (e4 : wr.ownsRow w.heap.size tStrJ 1 lv R.length (R.map bsV)) (e5 : Nw w wr)
    (h : Jr.one rest = none) {wz : World} (u : Nw wr wz) : ReadDone s w wz lv n := by
  rw [Jr.recs_none h, List.append_nil] at e2
  unfold ReadDone
  rw [e2]
  exact ⟨e3, owns_updD e4 u (fun _ _ e => e), e5.trans u⟩
theorem one_far {rest : List UInt8} (h : 20000 < (Wire.rText (some rest)).1.length) : Jr.one rest = none := by
  unfold Jr.one; rw [if_neg (by omega)]
theorem one_num {rest : List UInt8} (h : ¬ (Wire.rNum (Wire.rText (some rest)).2).1 = Jr.sumN (Wire.rText (some rest)).1) : Jr.one rest = none := by
  unfold Jr.one; rw [if_neg (fun e => h e.2.2)]
theorem one_is {rest t : List UInt8} (h : Jr.one rest = some t) : t = (Wire.rText (some rest)).1 := by
  unfold Jr.one at h
  split at h
  · injection h with h; exact h.symm
  · cases h
theorem one_short {rest : List UInt8} (h : rest.length < (Jr.form (Wire.rText (some rest)).1).length) : Jr.one rest = none := by
  cases ho : Jr.one rest with
  | none => rfl
  | some t =>
    obtain ⟨r, e, _⟩ := Jr.one_inv ho
    rw [← one_is ho, e, List.length_append] at h
    omega
theorem one_other {rest : List UInt8} (h : ¬ rest.take (Jr.form (Wire.rText (some rest)).1).length = Jr.form (Wire.rText (some rest)).1) : Jr.one rest = none := by
  cases ho : Jr.one rest with
  | none => rfl
  | some t =>
    obtain ⟨r, e, _⟩ := Jr.one_inv ho
    refine absurd ?_ h
    rw [← one_is ho, e, List.take_left']
    rfl
set_option maxHeartbeats 1000000 in
set_option maxRecDepth 100000 in
theorem read_j (s : List UInt8) (hs : s.length ≤ 16777216) (w : World) (g : Gl w) :
    Calls Tryz.prog 59 #[.string ⟨s.toArray⟩] w fun e w' => ∃ v', e = .returned (.tuple #[v', .int .i64 (Jr.forms (Jr.recs s)).length]) ∧ w'.ownsRow w.heap.size tStrJ 1 v' (Jr.recs s).length ((Jr.recs s).map bsV) ∧ Nw w w' := by
  have hgb := g.big
  have hs1 : (s.length : Int) ≤ 16777216 := by omega
  have hs0 : (0 : Int) ≤ s.length := by omega
  have HS := Lib.hid hs
  clear hs
  have h0 : Hid (ReadI s w w (.slice none 0 0) 0) := ⟨[], s, rfl, rfl, rfl, World.ownsRow_nil _ _ _ _, Upd.refl _ _⟩
  go_enter Tryz.func59, Tryz.ntmps59
  go_wp2_with fail
  go_step3
  go_wp2_with fail
  go_step3
  go_wp2_with fail
  go_loopw [4, 5] (fun lv bv wr => ∃ n : Nat, bv = .int .i64 n ∧ Hid (ReadI s w wr lv n)) (fun _ bv _ => s.length - (intOf bv).toNat)
  case atStart => exact ⟨0, rfl, h0.out⟩
  case round =>
    obtain ⟨n, rfl, HI⟩ := hrel
    obtain ⟨R, rest, e1, e2, e3, e4, e5⟩ := HI.out
    have hnl : n + rest.length = s.length := by rw [e3, e1, List.length_append]
    obtain ⟨al, cl, rfl⟩ := own_slD e4
    have hR := Jr.len_forms R
    have hRl : R.length ≤ 16777216 := by have := HS.out; omega
    have HRl := Lib.hid hRl
    have Hown := Lib.hid e4
    have HU := Lib.hid e5
    have E1 := Lib.hid e1
    have E2 := Lib.hid e2
    have E3 := Lib.hid e3
    have Hnl := Lib.hid hnl
    clear hR hRl e4 e5 e2 e3
    by_cases hlt : n < s.length
    rotate_left
    · have hz : Hid (ReadDone s w wr (.slice al R.length cl) n) := by
        have hr : rest = [] := List.length_eq_zero_iff.1 (by omega)
        exact ReadI.done E1.out E2.out E3.out Hown.out HU.out (by rw [hr]; exact Jr.one_nil) (Upd.refl _ _)
      clear HI Hown E1 E2 E3 e1 Hnl
      go_wp2_with fail
      (try rw [Exit.noGoto_ret])
      go_ret2
      exact ⟨_, by rw [hz.out.1]; rfl, hz.out.2.1, hz.out.2.2⟩
    have hdrop : s.drop n = rest := by rw [e1, E3.out, List.drop_left]
    have gr := g.upd HU.out
    clear e1
    have hsl : Hid ((({ data := s.toArray } : ByteArray).extract n s.length).data.toList = rest) := by
      show _ = _
      rw [bs_extract, bs_list, ← hdrop, ← Hnl.out]
      exact List.take_of_length_le (by rw [hdrop]; omega)
    have hop := Open_r _ rest hsl.out wr gr
    have hrl : rest.length ≤ 16777216 := by have := HS.out; omega
    have Hop := Lib.hid hop
    have Hrl := Lib.hid hrl
    clear hdrop hop hrl hsl
    go_wp2_with fail
    (with_reducible refine (Hop.out).mono ?_)
    rintro _ w1 ⟨b, rfl, hb, hr1, n1⟩
    have g1 := gr.upd n1
    have Hb := Lib.hid hb
    clear hb Hop
    go_wp2_with fail
    (with_reducible refine (Text_r b (some rest) w1 g1 hr1 (by have := Hrl.out; simp only [Option.getD_some]; omega)).mono ?_)
    rintro _ w2 ⟨rfl, hr2, u2⟩
    have g2 := g1.upd u2
    have htl := rText_fst (some rest)
    have hst := Wire.rText_le (some rest)
    simp only [Option.getD_some] at htl hst
    have Hst := Lib.hid hst
    clear hst hr1
    go_wp2_with fail
    (with_reducible refine (Num_r b _ w2 g2 hr2 (by have := Hst.out; have := Hrl.out; omega)).mono ?_)
    rintro _ w3 ⟨rfl, _, u3⟩
    have g3 := g2.upd u3
    have hone : ∀ t nn : _, t = (Wire.rText (some rest)).1 → nn = (Wire.rNum (Wire.rText (some rest)).2).1 → (20000 < t.length → Jr.one rest = none) ∧ (¬ nn = Jr.sumN t → Jr.one rest = none) ∧ (rest.length < (Jr.form t).length → Jr.one rest = none) ∧ (¬ rest.take (Jr.form t).length = Jr.form t → Jr.one rest = none) := by
      rintro t nn rfl rfl
      exact ⟨one_far, one_num, one_short, one_other⟩
    have hone2 := Lib.hid (hone _ _ rfl rfl)
    have Htl := Lib.hid htl
    clear hone htl Hst hr2
    generalize (Wire.rNum (Wire.rText (some rest)).2).1 = nn at *
    generalize (Wire.rText (some rest)).1 = t at *
    have hfc := form_c t (by have := Htl.out; have := Hrl.out; omega) w3 g3
    have Hfc := Lib.hid hfc
    have Hfp := Lib.hid (Jr.form_pos t)
    have hfl := Jr.form_len t (by have := Htl.out; have := Hrl.out; omega)
    have U3 : Hid (Nw wr w3) := (n1.trans' u2 (fun j hj e => by subst e; have := Hb.out; omega)).trans' u3 (fun j hj e => by subst e; have := Hb.out; omega)
    have hfl1 : ((Jr.form t).length : Int) ≤ 16777300 := by have := Htl.out; have := Hrl.out; omega
    have hfl0 : (0 : Int) ≤ (Jr.form t).length := by omega
    clear hfc n1 u2 u3 hfl
    go_wp2_with fail
    (with_reducible refine (Hfc.out).mono ?_)
    rintro _ w4 ⟨rfl, u4⟩
    have U4 := Lib.hid (U3.out.trans u4)
    have hdone : Hid (Jr.one rest = none → Hid (ReadDone s w w4 (.slice al R.length cl) n)) := fun h => ReadI.done E1.out E2.out E3.out Hown.out HU.out h U4.out
    have hsum := Lib.hid (Sum_c t (by have := Htl.out; have := Hrl.out; omega))
    have ht1 : (t.length : Int) ≤ 16777216 := by have := Htl.out; have := Hrl.out; omega
    clear u4 Hfc
    by_cases hf1 : 20000 < t.length
    · have hf1' : (20000 : Int) < t.length := by omega
      have hz := hdone.out (hone2.out.1 hf1)
      clear hdone
      go_wp2_with fail
      (try rw [Exit.noGoto_ret])
      go_ret2
      exact ⟨_, by rw [hz.out.1]; rfl, hz.out.2.1, hz.out.2.2⟩
    have hf1' : ¬ (20000 : Int) < t.length := by omega
    have Hf1 := Lib.hid hf1
    clear hf1
    by_cases hf2 : nn = Jr.sumN t
    rotate_left
    · have hb1 : (nn == Jr.sumN t) = false := beq_eq_false_iff_ne.2 hf2
      have hb2 : (nn != Jr.sumN t) = true := by simp [hf2]
      have hz := hdone.out (hone2.out.2.1 hf2)
      clear hdone
      go_wp2_with fail
      (with_reducible refine (hsum.out _).mono ?_)
      rintro _ _ ⟨rfl, rfl⟩
      go_wp2_with fail
      (try rw [Exit.noGoto_ret])
      go_ret2
      exact ⟨_, by rw [hz.out.1]; rfl, hz.out.2.1, hz.out.2.2⟩
    have hb1 : (nn == Jr.sumN t) = true := beq_iff_eq.2 hf2
    have hb2 : (nn != Jr.sumN t) = false := by simp [hf2]
    clear hf2
    by_cases hf3 : rest.length < (Jr.form t).length
    · have h3 : (s.length : Int) - n < (Jr.form t).length := by have := Hnl.out; omega
      have hz := hdone.out (hone2.out.2.2.1 hf3)
      clear hdone hf3
      go_wp2_with fail
      (with_reducible refine (hsum.out _).mono ?_)
      rintro _ _ ⟨rfl, rfl⟩
      go_wp2_with fail
      (try rw [Exit.noGoto_ret])
      go_ret2
      exact ⟨_, by rw [hz.out.1]; rfl, hz.out.2.1, hz.out.2.2⟩
    have h3 : ¬ (s.length : Int) - n < (Jr.form t).length := by have := Hnl.out; omega
    have h4 : (n : Int) + (Jr.form t).length ≤ s.length := by have := Hnl.out; omega
    have h5 : n + (Jr.form t).length ≤ s.length := by have := Hnl.out; omega
    have hext : (({ data := s.toArray } : ByteArray).extract n (n + (Jr.form t).length)).data.toList = rest.take (Jr.form t).length := by
      rw [bs_extract, bs_list, E1.out, E3.out, List.drop_left, Nat.add_sub_cancel_left]
    have hj0 : (0 : Int) ≤ (n : Int) + (Jr.form t).length := by omega
    have htn : ((n : Int) + (Jr.form t).length).toNat = n + (Jr.form t).length := by omega
    have hsl2 : ∀ z : World, (Instr.slice 9 (.string ⟨s.toArray⟩) (some (.int .i64 n)) (some (.int .i64 ((n : Int) + (Jr.form t).length))) none).run Tryz.prog z = .ok (.string ⟨(rest.take (Jr.form t).length).toArray⟩) z := fun z => by
      have := run_slice_string (P := Tryz.prog) z 9 ⟨s.toArray⟩ .i64 .i64 (n : Int) ((n : Int) + (Jr.form t).length) Tryz.underlying9 (by omega) (by omega) (by rw [bs_size, bs_list]; exact h4)
      rw [htn, Int.toNat_natCast, ← bs_eta ((⟨s.toArray⟩ : ByteArray).extract n (n + (Jr.form t).length)), hext] at this
      exact this
    clear hf3 hj0 htn hext
    by_cases hf4 : rest.take (Jr.form t).length = Jr.form t
    rotate_left
    · have hz := hdone.out (hone2.out.2.2.2 hf4)
      have hq : (rest.take (Jr.form t).length == Jr.form t) = false := beq_eq_false_iff_ne.2 hf4
      generalize rest.take (Jr.form t).length = X at *
      clear hdone
      go_wp2_with fail
      (with_reducible refine (hsum.out _).mono ?_)
      rintro _ _ ⟨rfl, rfl⟩
      go_wp2_with fail
      (try rw [Exit.noGoto_ret])
      go_ret2
      exact ⟨_, by rw [hz.out.1]; rfl, hz.out.2.1, hz.out.2.2⟩
    rw [hf4] at hsl2
    have hrest : rest = Jr.form t ++ rest.drop (Jr.form t).length := by
      conv => lhs; rw [← List.take_append_drop (Jr.form t).length rest, hf4]
    have ho4 := Lib.hid (owns_updD Hown.out U4.out (fun _ _ e => e))
    have hnext : Hid (∀ v' w5, w5.ownsRow w.heap.size tStrJ 1 v' (R.length + 1) (R.map bsV ++ [bsV t]) → Nw w w5 → ReadI s w w5 v' (n + (Jr.form t).length)) := fun v' w5 o5 u5 => by
      refine ⟨R ++ [t], rest.drop (Jr.form t).length, ?_, ?_, ?_, ?_, u5⟩
      · rw [Jr.forms_snoc, List.append_assoc, ← hrest]; exact E1.out
      · rw [E2.out, List.append_assoc, hrest, Jr.recs_form (by have := Hf1.out; omega)]
        simp
      · rw [Jr.forms_snoc, List.length_append, ← E3.out]
      · rw [List.length_append, List.map_append]; exact o5
    have hW : w.heap.size ≤ w4.heap.size := Nat.le_trans HU.out.size U4.out.size
    have HWn := Lib.hid (HU.out.trans U4.out)
    clear hf4 hrest hdone
    go_wp2_with (first | (go_at_call 97; ((with_reducible refine (hsum.out _).mono ?_); rintro _ _ ⟨rfl, rfl⟩)) | (at_builtin; refine wpList_appL rfl _ _ 38 rfl w.heap.size tStrJ _ 1 16 Tryz.underlying38 infoStrJ rfl (by decide) _ _ _ rfl ho4.out [bsV t] rfl rfl ?c1 ?c2 ?c3 hW hgb ?_))
    case c1 => intro u hu; rw [List.mem_singleton.1 hu]; rfl
    case c2 => have := HRl.out; unfold maxLen; omega
    case c3 => have := HRl.out; omega
    intro v' w5 o5 u5 hob
    have hn5 := Lib.hid (hnext.out v' w5 o5 (HWn.out.trans' u5 (fun j hj e => by have := (ho4.out.lt j e).1; omega)))
    clear o5 u5 hob
    go_wp2_with fail
    go_roundw
    case rel => exact ⟨n + (Jr.form t).length, by go_num, hn5.out⟩
    case measure => have := Hfp.out; simp [intOf]; omega
section
variable {P : Program} {w : World} {ops : Array Oper} {rest : List Oper} {o : Oper} {a : Act} {Q : Exit → Act → World → Prop}
theorem wpList_makeE (hgd : o.guard = none) (l c : Operand) (t e : TypeId) (z : Value) (bytes : Nat) (hop : o.op = Op.makeSlice t l c) (ht : P.underlying t = some (.slice e)) (hinfo : (P.info? e).map (fun i => (i.zero, i.size, i.bytes)) = some (some z, 1, bytes))
    (n : Nat) (hl : a.eval l = .int .i64 n) (hc : a.eval c = .int .i64 n) (hn : n ≤ 281474976710656) (hb : n * bytes ≤ 281474976710656)
    (h : ∀ w', w'.heap[w.heap.size]? = some (.cells (madeCells z.cells n) e (0, 0)) → Nw w w' → wpList P ops Q rest (a.put o.dst (.slice (some ⟨w.heap.size, 0, none⟩) n n)) w') : wpList P ops Q (o :: rest) a w := by
  obtain ⟨i0, hi, hz0, hz1, hz2⟩ := info_parts hinfo
  have hrun := run_make (P := P) w t e i0 z ht hi hz0 .i64 .i64 n n (by omega) (Int.le_refl _) (by rw [hz2, Int.mul_comm]; have h2 := Int.ofNat_le.2 hb; rw [Int.natCast_mul] at h2; exact h2) (by omega)
  rw [Int.toNat_natCast, hz1, Nat.mul_one] at hrun
  refine wpList_plain hgd fun K hK => ?_
  unfold Oper.wp
  simp [execOp, hop, hl, hc, hrun, Result.andThen]
  exact hK _ _ (h _ (heap_new w _) (nw_alloc w _))
theorem wpList_copyE (hgd : o.guard = none) (d s : Operand) (dT sT : TypeId) (ho : o.op = .call { callee := .builtin .copy, args := #[d, s], argTypes := #[dT, sT] }) (elem : TypeId) (hu : P.underlying dT = some (.slice elem)) (hsz : (P.info? elem).map (·.size) = some 1)
    (g n : Nat) (hd : a.eval d = .slice (some ⟨g, 0, none⟩) n n) (vs : Value) (B : Nat) (xs : List Value) (hs : a.eval s = vs) (hsrc : w.ownsRow B elem 1 vs n xs) (cur : Array Value) (T : TypeId) (hg : w.heap[g]? = some (.cells cur T (0, 0))) (hcur : cur.size = n) (h1 : ∀ v ∈ xs, v.oneCell' = true) (hG : nG ≤ g)
    (h : ∀ w', w'.heap[g]? = some (.cells xs.toArray T (0, 0)) → Upd (fun x => x = g) w w' → wpList P ops Q rest (a.put o.dst (goInt n)) w') : wpList P ops Q (o :: rest) a w := by
  obtain ⟨hl, hsrc2⟩ := hsrc
  rcases hsrc2 with ⟨rfl, rfl⟩ | ⟨gs, cap, cs, rfl, hb, hgs, hc, hm, hsz2, htk⟩
  · obtain rfl : xs = [] := List.eq_nil_of_length_eq_zero (by simpa using hl)
    refine wpList_copy_nothing hgd d s dT sT ho elem hu hsz _ _ _ _ _ _ hd hs (by simp) ?_
    refine h w ?_ (Upd.refl _ _)
    rw [hg, Array.eq_empty_of_size_eq_zero hcur]
  · have hlx : xs.length = n := by rw [hl, Nat.mul_one]
    refine wpList_copy_own hgd d s dT sT ho elem hu hsz g 0 n n ⟨gs, 0, none⟩ n cap hd hs cur T hg xs (by simp [hlx]) ?_ (by omega) h1 ?_
    · intro j v hv
      have hj : j < n := by rw [← hlx]; exact (List.getElem?_eq_some_iff.1 hv).1
      rw [add_plain, cells_cell hgs, Nat.zero_add]
      rw [← htk, List.getElem?_take, if_pos (by omega)] at hv
      simpa using hv
    · have e : (cur.toList.take 0 ++ (xs ++ cur.toList.drop (0 + xs.length))) = xs := by
        rw [List.take_zero, List.nil_append, Nat.zero_add, hlx, List.drop_of_length_le (by simp [hcur]), List.append_nil]
      rw [e, hlx]
      refine h _ (setRow_heap w g _ _ T _ hg) ⟨rfl, rfl, rfl, by simp [World.setRow], fun k hk hn => setRow_other w g k _ ?_⟩
      rintro rfl
      rcases hn with hn | hn
      · omega
      · exact hn rfl
end
abbrev tJrn : TypeId := 124
structure JrnR where
  jb : Nat
  rv : Value
def JrnR.foot (x : JrnR) (k : Nat) : Prop := k = x.jb ∨ x.rv.ownBlock = some k
def jrnC (db : Nat) (x : JrnR) (j : Jr.Jn) : Array Value := #[.pointer (some ⟨db, 0, none⟩), .int .i64 j.file, x.rv, .int .i64 ((Jr.forms j.recs).length : Nat), .bool j.broken]
structure JrnOk (j : Jr.Jn) : Prop where
  file : 0 ≤ j.file ∧ j.file ≤ 15
  bytes : (Jr.forms j.recs).length ≤ 16777216
structure JrnAt (B : Nat) (w : World) (db : Nat) (x : JrnR) (j : Jr.Jn) : Prop where
  hb : nG ≤ B
  jb : B ≤ x.jb
  blk : w.heap[x.jb]? = some (.cells (jrnC db x j) tJrn (0, 0))
  own : w.ownsRow B tStrJ 1 x.rv j.recs.length (j.recs.map bsV)
  ok : JrnOk j
section
variable {B db : Nat} {w w' : World} {x : JrnR} {j : Jr.Jn}
theorem JrnAt.foot_lt (h : JrnAt B w db x j) {k : Nat} (hk : x.foot k) : B ≤ k ∧ k < w.heap.size := by
  rcases hk with rfl | hk
  · exact ⟨h.jb, lt_of_block h.blk⟩
  · obtain ⟨h1, cs, h2⟩ := own_blockD h.own hk
    exact ⟨h1, lt_of_block h2⟩
theorem JrnAt.upd {S : Nat → Prop} (h : JrnAt B w db x j) (u : Upd S w w') (hs : ∀ k, x.foot k → ¬ S k) : JrnAt B w' db x j :=
  ⟨h.hb, h.jb, u.keep h.blk (hs _ (Or.inl rfl)), owns_updD h.own u (fun k hk => hs k (Or.inr hk)), h.ok⟩
theorem JrnAt.nw (h : JrnAt B w db x j) (u : Nw w w') : JrnAt B w' db x j := h.upd u (fun _ _ s => s)
theorem JrnAt.ne (h : JrnAt B w db x j) : x.rv.ownBlock ≠ some x.jb := fun e => by
  obtain ⟨_, cs, e2⟩ := own_blockD h.own e
  rw [h.blk] at e2
  injection e2 with e2
  injection e2 with _ e2
  exact absurd e2 (by decide)
theorem JrnAt.cells (h : JrnAt B w db x j) :
    w.cell? ⟨x.jb, 0, none⟩ = some (.pointer (some ⟨db, 0, none⟩)) ∧ w.cell? ⟨x.jb, 1, none⟩ = some (.int .i64 j.file) ∧ w.cell? ⟨x.jb, 2, none⟩ = some x.rv ∧ w.cell? ⟨x.jb, 3, none⟩ = some (.int .i64 ((Jr.forms j.recs).length : Nat)) ∧ w.cell? ⟨x.jb, 4, none⟩ = some (.bool j.broken) := by
  refine ⟨?_, ?_, ?_, ?_, ?_⟩ <;> (rw [cells_cell h.blk]; rfl)
theorem JrnAt.len (h : JrnAt B w db x j) : j.recs.length ≤ 16777216 := Nat.le_trans (Jr.len_forms _) h.ok.bytes
set_option maxRecDepth 100000 in
theorem All_c (h : JrnAt B w db x j) (g : Gl w) : Calls Tryz.prog 32 #[.pointer (some ⟨x.jb, 0, none⟩)] w fun e w' => ∃ v', e = .returned v' ∧ w'.ownsRow w.heap.size tStrJ 1 v' j.recs.length (j.recs.map bsV) ∧ Nw w w' := by
  have hgb := g.big
  obtain ⟨_, _, c2, _, _⟩ := h.cells
  obtain ⟨a, c, hv⟩ := own_slD h.own
  have hl := h.len
  have hl1 : (j.recs.length : Int) ≤ 16777216 := by omega
  have hl0 : (0 : Int) ≤ j.recs.length := by omega
  rw [hv] at c2
  have H := Lib.hid h
  have Hl := Lib.hid hl
  clear h hl
  go_enter Tryz.func32, Tryz.ntmps32
  go_wp2_with (at_make; refine wpList_makeE rfl _ _ 38 tStrJ _ 16 rfl Tryz.underlying38 infoStrJ j.recs.length rfl rfl ?m1 ?m2 ?_)
  case m1 => have := Hl.out; omega
  case m2 => have := Hl.out; omega
  intro w1 k1 n1
  have o1 := owns_updD H.out.own n1 (fun _ _ e => e)
  rw [hv] at o1
  have c2' := ((H.out.nw n1).cells).2.2.1
  rw [hv] at c2'
  have O1 := Lib.hid o1
  have K1 := Lib.hid k1
  clear o1 k1
  go_wp2_with (refine wpList_copyE rfl _ _ 38 38 rfl tStrJ Tryz.underlying38 (by kernel_rfl) w.heap.size j.recs.length rfl (.slice a j.recs.length c) B (j.recs.map bsV) rfl O1.out _ tStrJ K1.out ?k1 ?k2 hgb ?_)
  case k1 => rw [size_madeCells]
  case k2 => intro u hu; obtain ⟨y, _, rfl⟩ := List.mem_map.1 hu; rfl
  intro w2 k2 u2
  have K2 := Lib.hid k2
  have U2 : Hid (Nw w w2) := n1.trans' u2 (fun k hk e => by omega)
  clear k2 u2
  go_wp2_with fail
  go_ret
  refine ⟨_, rfl, ⟨by simp, Or.inr ⟨w.heap.size, _, _, rfl, Nat.le_refl _, K2.out, Nat.le_refl _, by have := Hl.out; unfold maxLen; omega, by simp, ?_⟩⟩, U2.out⟩
  rw [Nat.mul_one]
  exact List.take_of_length_le (by simp)
end
structure JSys (B : Nat) (w : World) (d : DiskR) (x : JrnR) (D : Dk.Disk) (j : Jr.Jn) : Prop where
  disk : DiskAt B w d D
  jrn : JrnAt B w d.db x j
  ap : ∀ k, d.foot k → ¬ x.foot k
def JTo (B : Nat) (d : DiskR) (x : JrnR) (D' : Dk.Disk) (j' : Jr.Jn) (w w' : World) : Prop :=
  ∃ d' x', JSys B w' d' x' D' j' ∧ d'.db = d.db ∧ x'.jb = x.jb ∧ Upd (fun k => d.foot k ∨ x.foot k) w w' ∧ ∀ k, d'.foot k ∨ x'.foot k → (d.foot k ∨ x.foot k) ∨ w.heap.size ≤ k
section
variable {B : Nat} {w w' w2 : World} {d : DiskR} {x : JrnR} {D D' : Dk.Disk} {j j' : Jr.Jn}
theorem JSys.nw (h : JSys B w d x D j) (u : Nw w w') : JSys B w' d x D j := ⟨h.disk.nw u, h.jrn.nw u, h.ap⟩
theorem JTo.refl (h : JSys B w d x D j) : JTo B d x D j w w := ⟨d, x, h, rfl, rfl, Upd.refl _ _, fun k hk => Or.inl hk⟩
theorem JTo.of_nw (h : JSys B w d x D j) (u : Nw w w') : JTo B d x D j w w' := ⟨d, x, h.nw u, rfl, rfl, Nw.upd _ u, fun k hk => Or.inl hk⟩
theorem JSys.disk_to (h : JSys B w d x D j) (t : DiskTo B d D' w w') : JTo B d x D' j w w' := by
  obtain ⟨d', h1, h2, h3, h4⟩ := t
  refine ⟨d', x, ⟨h1, by rw [h2]; exact h.jrn.upd h3 (fun k hk hd => h.ap k hd hk), fun k hk hx => ?_⟩, h2, rfl, h3.mono (fun k _ e => Or.inl e), fun k hk => ?_⟩
  · rcases h4 k hk with e | e
    · exact h.ap k e hx
    · have := (h.jrn.foot_lt hx).2; omega
  · rcases hk with hk | hk
    · exact (h4 k hk).imp Or.inl id
    · exact Or.inl (Or.inr hk)
theorem JTo.then_ {w1 : World} {d1 : DiskR} {x1 : JrnR} (hd : d1.db = d.db) (hx : x1.jb = x.jb) (u : Upd (fun k => d.foot k ∨ x.foot k) w w1) (hf : ∀ k, d1.foot k ∨ x1.foot k → (d.foot k ∨ x.foot k) ∨ w.heap.size ≤ k) (t : JTo B d1 x1 D' j' w1 w2) : JTo B d x D' j' w w2 := by
  obtain ⟨d2, x2, k1, k2, k3, k4, k5⟩ := t
  have hs := u.size
  refine ⟨d2, x2, k1, k2.trans hd, k3.trans hx, u.trans' k4 (fun k hk e => (hf k e).elim id (fun e2 => by omega)), fun k hk => ?_⟩
  rcases k5 k hk with e | e
  · exact hf k e
  · exact Or.inr (by omega)
theorem JSys.store (h : JSys B w d x D j) {j' : Jr.Jn} (i : Nat) (v : Value) (hc : (jrnC d.db x j).setIfInBounds i v = jrnC d.db x j') (e1 : j'.recs = j.recs) (e2 : j'.file = j.file) : JTo B d x D j' w (w.setCell ⟨x.jb, i, none⟩ v) := by
  have hjb := h.jrn.jb
  have hb := h.jrn.hb
  have u : Upd (fun k => k = x.jb) w (w.setCell ⟨x.jb, i, none⟩ v) := Upd.set1 (Upd.refl _ _) (by omega) i v
  refine ⟨d, x, ⟨h.disk.upd u (fun k hk e => h.ap k hk (Or.inl e)), ⟨h.jrn.hb, h.jrn.jb, ?_, ?_, ⟨by rw [e2]; exact h.jrn.ok.file, by rw [e1]; exact h.jrn.ok.bytes⟩⟩, h.ap⟩, rfl, rfl, u.mono (fun k _ e => Or.inr (Or.inl e)), fun k hk => Or.inl hk⟩
  · rw [← hc]; exact setCell_block h.jrn.blk i v
  · rw [e1]; exact owns_updD h.jrn.own u (fun k hk e => by subst e; exact h.jrn.ne hk)
theorem JrnOk.i64 (h : JrnOk j) : I64 j.file := by have := h.file; unfold I64; omega
set_option maxRecDepth 100000 in
theorem JSync_c (h : JSys B w d x D j) (g : Gl w) (hB : B ≤ w.heap.size) : Calls Tryz.prog 79 #[.pointer (some ⟨x.jb, 0, none⟩)] w fun e w' => e = .returned (.int .i64 (Jr.syncJ D j).2.2) ∧ JTo B d x (Jr.syncJ D j).1 (Jr.syncJ D j).2.1 w w' := by
  have hgb := g.big
  obtain ⟨c0, c1, _, _, c4⟩ := h.jrn.cells
  have H := Lib.hid h
  cases hb : j.broken with
  | true =>
    rw [hb] at c4
    have hr : Hid (Jr.syncJ D j = (D, j, 7)) := by show _ = _; unfold Jr.syncJ; rw [if_pos hb]
    clear hb h c0 c1
    go_enter Tryz.func79, Tryz.ntmps79
    go_wp2_with fail
    go_ret
    exact ⟨by rw [hr.out]; rfl, by rw [hr.out]; exact JTo.refl H.out⟩
  | false =>
    rw [hb] at c4
    have hr : Hid (Jr.syncJ D j = ((Dk.sync D j.file).1, { j with broken := decide ((Dk.sync D j.file).2 ≠ 0) }, (Dk.sync D j.file).2)) := by show _ = _; unfold Jr.syncJ; rw [if_neg (by rw [hb]; decide)]
    have l0 : ∀ i : Later w, i.1.cell? ⟨x.jb, 0, none⟩ = some (.pointer (some ⟨d.db, 0, none⟩)) := fun i => (H.out.jrn.nw i.nw).cells.1
    have l1 : ∀ i : Later w, i.1.cell? ⟨x.jb, 1, none⟩ = some (.int .i64 j.file) := fun i => (H.out.jrn.nw i.nw).cells.2.1
    have Hb := Lib.hid hb
    have HB := Lib.hid hB
    clear hb h hB
    go_enter Tryz.func79, Tryz.ntmps79
    go_wp2_with fail
    refine wp_region_nw_tail 8 (by kernel_rfl) (by kernel_rfl) ?_
    simp only [List.take_succ_cons, List.take_zero, List.drop_succ_cons, List.drop_zero]
    repeat (go_big_quiet_step ((fail)))
    refine wpQuiet_nil ?_
    intro w1 u1
    replace u1 := later_out u1
    have hs1 := sync_c (H.out.nw u1).disk (g.upd u1) (Nat.le_trans HB.out u1.size) H.out.jrn.ok.i64
    have Hs1 := Lib.hid hs1
    clear hs1 l0 l1
    go_wp2_with fail
    (with_reducible refine (Hs1.out).mono ?_)
    rintro _ w2 ⟨rfl, hT⟩
    have hj := (H.out.nw u1).disk_to hT
    obtain ⟨d2, x2, k1, k2, k3, k4, k5⟩ := hj
    have f4 := cells_frozen k1.jrn.blk 4
    have q4 := k1.jrn.cells.2.2.2.2
    rw [k3] at f4 q4
    have hfin := fun (b : Bool) => JTo.then_ k2 k3 (Upd.trans (Nw.upd _ u1) k4) (fun k hk => (k5 k hk).imp id (fun e => Nat.le_trans u1.size e)) (JSys.store k1 (j' := { j with broken := b }) 4 (.bool b) rfl rfl rfl)
    rw [k3] at hfin
    have Hfin := Lib.hid hfin
    clear hfin k1 k4 k5 hT u1
    generalize (Dk.sync D j.file).2 = E at *
    by_cases h0 : E = 0
    · have b1 : (E == 0) = true := beq_iff_eq.2 h0
      have b2 : (E != 0) = false := by simp [h0]
      have hz := Hfin.out false
      have hdz : Hid (decide (E ≠ 0) = false) := by show _ = _; exact decide_eq_false (fun e => e h0)
      clear h0 Hfin
      have Hz := Lib.hid hz
      clear hz
      go_wp2_with fail
      go_ret
      exact ⟨by rw [hr.out]; rfl, by rw [hr.out, hdz.out]; exact Hz.out⟩
    · have b1 : (E == 0) = false := beq_eq_false_iff_ne.2 h0
      have b2 : (E != 0) = true := by simp [h0]
      have hz := Hfin.out true
      have hdz : Hid (decide (E ≠ 0) = true) := by show _ = _; exact decide_eq_true h0
      clear h0 Hfin
      have Hz := Lib.hid hz
      clear hz
      go_wp2_with fail
      go_ret
      exact ⟨by rw [hr.out]; rfl, by rw [hr.out, hdz.out]; exact Hz.out⟩
end
theorem app_done {B : Nat} {W ws : World} {d : DiskR} {x : JrnR} {D : Dk.Disk} {j : Jr.Jn} {s : List UInt8} {v' : Value} (h : JSys B W d x D j) (hl : (Jr.forms j.recs).length + (Jr.form s).length ≤ 16777216)
    (hown : ws.ownsRow B tStrJ 1 v' (j.recs.length + 1) (j.recs.map bsV ++ [bsV s])) (uS : Upd (fun k => x.rv.ownBlock = some k) W ws) (oS : ∀ k, v'.ownBlock = some k → x.rv.ownBlock = some k ∨ W.heap.size ≤ k) :
    JTo B d x D { j with recs := j.recs ++ [s] } W ((ws.setCell ⟨x.jb, 2, none⟩ v').setCell ⟨x.jb, 3, none⟩ (.int .i64 (((Jr.forms j.recs).length : Nat) + ((Jr.form s).length : Nat)))) := by
  have hjb := h.jrn.jb
  have hb := h.jrn.hb
  have hlt := fun k hk => (h.jrn.foot_lt (k := k) hk).2
  have hjl := hlt x.jb (Or.inl rfl)
  have hdl := fun k hk => (h.disk.foot_lt (k := k) hk).2
  have u1 : Upd (fun k => k = x.jb) ws (ws.setCell ⟨x.jb, 2, none⟩ v') := Upd.set1 (Upd.refl _ _) (by omega) 2 v'
  have u2 : Upd (fun k => k = x.jb) (ws.setCell ⟨x.jb, 2, none⟩ v') ((ws.setCell ⟨x.jb, 2, none⟩ v').setCell ⟨x.jb, 3, none⟩ (.int .i64 (((Jr.forms j.recs).length : Nat) + ((Jr.form s).length : Nat)))) := Upd.set1 (Upd.refl _ _) (by omega) 3 _
  have U := u1.trans u2
  have b3 := setCell_block (setCell_block (uS.keep h.jrn.blk h.jrn.ne) 2 v') 3 (.int .i64 (((Jr.forms j.recs).length : Nat) + ((Jr.form s).length : Nat)))
  refine ⟨d, ⟨x.jb, v'⟩, ⟨(h.disk.upd uS (fun k hk e => h.ap k hk (Or.inr e))).upd U (fun k hk e => h.ap k hk (Or.inl e)), ⟨h.jrn.hb, h.jrn.jb, ?_, ?_, ⟨h.jrn.ok.file, ?_⟩⟩, fun k hk e => ?_⟩, rfl, rfl, ?_, fun k hk => ?_⟩
  · have e : (Jr.forms (j.recs ++ [s])).length = (Jr.forms j.recs).length + (Jr.form s).length := by rw [Jr.forms_snoc, List.length_append]
    unfold jrnC at b3 ⊢
    dsimp only
    rw [e]
    exact b3
  · refine owns_updD ?_ U (fun k hk e => ?_)
    · dsimp only
      rw [List.length_append, List.map_append]; exact hown
    · subst e
      rcases oS _ hk with e | e
      · exact h.jrn.ne e
      · omega
  · dsimp only
    rw [Jr.forms_snoc, List.length_append]; exact hl
  · rcases e with e | e
    · exact h.ap k hk (Or.inl e)
    · rcases oS _ e with e | e
      · exact h.ap k hk (Or.inr e)
      · have := hdl k hk; omega
  · exact (uS.mono (fun k _ e => Or.inr (Or.inr e))).trans' U (fun k _ e => Or.inr (Or.inl e))
  · rcases hk with hk | hk | hk
    · exact Or.inl (Or.inl hk)
    · exact Or.inl (Or.inr (Or.inl hk))
    · exact (oS _ hk).imp (fun e => Or.inr (Or.inr e)) id
set_option maxHeartbeats 1000000 in
set_option maxRecDepth 100000 in
theorem Append_c {B : Nat} {w : World} {d : DiskR} {x : JrnR} {D : Dk.Disk} {j : Jr.Jn} (h : JSys B w d x D j) (g : Gl w) (hB : B ≤ w.heap.size) (s : List UInt8) (hs : s.length ≤ 1000000) :
    Calls Tryz.prog 78 #[.pointer (some ⟨x.jb, 0, none⟩), .string ⟨s.toArray⟩] w fun e w' => e = .returned (.int .i64 (Jr.append D j s).2.2) ∧ JTo B d x (Jr.append D j s).1 (Jr.append D j s).2.1 w w' := by
  have hgb := g.big
  have hfc := Lib.hid (form_c s (by omega) w g)
  have hfl := Jr.form_len s (by omega)
  have hfl1 : ((Jr.form s).length : Int) ≤ 1000043 := by omega
  have hfl0 : (0 : Int) ≤ (Jr.form s).length := by omega
  have hbl := h.jrn.ok.bytes
  have hbl1 : ((Jr.forms j.recs).length : Int) ≤ 16777216 := by omega
  have hsl1 : (s.length : Int) ≤ 1000000 := by omega
  have H := Lib.hid h
  have HB := Lib.hid hB
  have Hfl := Lib.hid hfl
  clear h hfl hbl hs hB
  go_enter Tryz.func78, Tryz.ntmps78
  go_wp2_with fail
  (with_reducible refine (hfc.out).mono ?_)
  rintro _ w1 ⟨rfl, u1⟩
  have h1 := H.out.nw u1
  obtain ⟨c0, c1, c2, c3, c4⟩ := h1.jrn.cells
  have H1 := Lib.hid h1
  have U1 := Lib.hid u1
  clear h1 u1 hfc
  cases hb : j.broken with
  | true =>
    rw [hb] at c4
    have hr : Hid (Jr.append D j s = (D, j, 7)) := by show _ = _; unfold Jr.append; rw [if_pos hb]
    clear hb
    go_wp2_with fail
    go_ret
    exact ⟨by rw [hr.out]; rfl, by rw [hr.out]; exact JTo.of_nw H.out U1.out⟩
  | false =>
  rw [hb] at c4
  have hr0 : Jr.append D j s = if 20000 < s.length then (D, j, 3) else if 1048576 < (Jr.forms j.recs).length + (Jr.form s).length then (D, j, 6) else if (Dk.write D j.file (Jr.forms j.recs).length (Jr.form s)).2 ≠ 0 then ((Dk.write D j.file (Jr.forms j.recs).length (Jr.form s)).1, { j with broken := true }, (Dk.write D j.file (Jr.forms j.recs).length (Jr.form s)).2)
      else ((Dk.write D j.file (Jr.forms j.recs).length (Jr.form s)).1, { j with recs := j.recs ++ [s] }, 0) := by
    unfold Jr.append; rw [if_neg (by rw [hb]; decide)]
  have Hbk := Lib.hid hb
  clear hb
  by_cases h1 : 20000 < s.length
  · have hr : Hid (Jr.append D j s = (D, j, 3)) := by show _ = _; rw [hr0, if_pos h1]
    have h1' : (20000 : Int) < s.length := by omega
    clear hr0 h1
    go_wp2_with fail
    go_ret
    exact ⟨by rw [hr.out]; rfl, by rw [hr.out]; exact JTo.of_nw H.out U1.out⟩
  have h1' : ¬ (20000 : Int) < s.length := by omega
  rw [if_neg h1] at hr0
  clear h1
  by_cases h2 : 1048576 < (Jr.forms j.recs).length + (Jr.form s).length
  · have hr : Hid (Jr.append D j s = (D, j, 6)) := by show _ = _; rw [hr0, if_pos h2]
    have h2' : (1048576 : Int) < ((Jr.forms j.recs).length : Int) + (Jr.form s).length := by omega
    clear hr0 h2
    go_wp2_with fail
    go_ret
    exact ⟨by rw [hr.out]; rfl, by rw [hr.out]; exact JTo.of_nw H.out U1.out⟩
  have h2' : ¬ (1048576 : Int) < ((Jr.forms j.recs).length : Int) + (Jr.form s).length := by omega
  rw [if_neg h2] at hr0
  have Hr0 := Lib.hid hr0
  have H2 := Lib.hid h2
  clear hr0 h2
  have l0 : ∀ i : Later w1, i.1.cell? ⟨x.jb, 0, none⟩ = some (.pointer (some ⟨d.db, 0, none⟩)) := fun i => (H1.out.jrn.nw i.nw).cells.1
  have l1 : ∀ i : Later w1, i.1.cell? ⟨x.jb, 1, none⟩ = some (.int .i64 j.file) := fun i => (H1.out.jrn.nw i.nw).cells.2.1
  have l3 : ∀ i : Later w1, i.1.cell? ⟨x.jb, 3, none⟩ = some (.int .i64 ((Jr.forms j.recs).length : Nat)) := fun i => (H1.out.jrn.nw i.nw).cells.2.2.2.1
  go_wp2_with fail
  refine wp_region_nw_tail 13 (by kernel_rfl) (by kernel_rfl) ?_
  simp only [List.take_succ_cons, List.take_zero, List.drop_succ_cons, List.drop_zero]
  repeat (go_big_quiet_step ((fail)))
  refine wpQuiet_nil ?_
  intro w3 u3
  replace u3 := later_out u3
  have U3 := Lib.hid (U1.out.trans u3)
  have h3 := H1.out.nw u3
  have hw := write_c h3.disk (g.upd U3.out) (Nat.le_trans HB.out U3.out.size) (f := j.file) (i := ((Jr.forms j.recs).length : Nat)) h3.jrn.ok.i64 (by unfold I64; omega) (Jr.form s) (by have := H2.out; omega)
  have Hw := Lib.hid hw
  have H3 := Lib.hid h3
  clear hw h3 l0 l1 l3 u3 c0 c1 c2 c3 c4
  go_wp2_with fail
  (with_reducible refine (Hw.out).mono ?_)
  rintro _ w4 ⟨rfl, hT⟩
  obtain ⟨d2, x2, k1, k2, k3, k4, k5⟩ := H3.out.disk_to hT
  have hthen : ∀ (D' : Dk.Disk) (j' : Jr.Jn) (z : World), JTo B d2 x2 D' j' w4 z → JTo B d x D' j' w z := fun D' j' z t => JTo.then_ k2 k3 (Upd.trans (Nw.upd _ U3.out) k4) (fun k hk => (k5 k hk).imp id (fun e => Nat.le_trans U3.out.size e)) t
  have Hthen := Lib.hid hthen
  have K1 := Lib.hid k1
  have HS4 := Lib.hid (Nat.le_trans HB.out (Nat.le_trans U3.out.size k4.size))
  have f4 := cells_frozen k1.jrn.blk 4
  obtain ⟨_, _, c2, c3, q4⟩ := k1.jrn.cells
  rw [k3] at f4 q4 c2 c3
  have K3 := Lib.hid k3
  clear hthen hT Hw k1 k2 k3 k4 k5
  generalize (Dk.write D j.file (Jr.forms j.recs).length (Jr.form s)).2 = E at *
  generalize (Dk.write D j.file (Jr.forms j.recs).length (Jr.form s)).1 = D4 at *
  by_cases h0 : E = 0
  rotate_left
  · have b1 : (E == 0) = false := beq_eq_false_iff_ne.2 h0
    have b2 : (E != 0) = true := by simp [h0]
    have hr : Hid (Jr.append D j s = (D4, { j with broken := true }, E)) := by show _ = _; rw [Hr0.out, if_pos h0]
    have hst := JSys.store K1.out (j' := { j with broken := true }) 4 (.bool true) rfl rfl rfl
    rw [K3.out] at hst
    have Hz := Lib.hid (Hthen.out _ _ _ hst)
    clear h0 hst Hthen
    go_wp2_with fail
    go_ret
    exact ⟨by rw [hr.out]; rfl, by rw [hr.out]; exact Hz.out⟩
  have b1 : (E == 0) = true := beq_iff_eq.2 h0
  have b2 : (E != 0) = false := by simp [h0]
  have hr : Hid (Jr.append D j s = (D4, { j with recs := j.recs ++ [s] }, 0)) := by show _ = _; rw [Hr0.out, if_neg (fun e => e h0)]
  clear h0 Hr0
  obtain ⟨aj, cj, hrv⟩ := own_slD K1.out.jrn.own
  rw [hrv] at c2
  have hgB : nG ≤ B := K1.out.jrn.hb
  have hB4 := HS4.out
  have HSall : Hid (∀ z, Upd (fun k => (Value.slice aj j.recs.length cj).ownBlock = some k) w4 z → (z.cell? ⟨x.jb, 2, none⟩ = some (.slice aj j.recs.length cj) ∧ z.cell? ⟨x.jb, 3, none⟩ = some (.int .i64 ((Jr.forms j.recs).length : Nat))) ∧ z.frozen? ⟨x.jb, 2, none⟩ = false) := fun z uz => by
    have hbz := uz.keep K1.out.jrn.blk (by rw [← hrv]; exact K1.out.jrn.ne)
    rw [K3.out] at hbz
    refine ⟨⟨?_, ?_⟩, cells_frozen hbz 2⟩
    · rw [cells_cell hbz]; show some x2.rv = _; rw [hrv]
    · rw [cells_cell hbz]; rfl
  have HSd := HSall.out w4.drew (Upd.refl _ _).drew
  have HSa := fun o => HSall.out (w4.drew.alloc o) ((Upd.refl _ _).drew.alloc o)
  have q4o := K1.out.jrn.own
  rw [hrv] at q4o
  have Q4 := Lib.hid q4o
  have hn4 : j.recs.length + 1 ≤ maxLen := by have := K1.out.jrn.len; unfold maxLen; omega
  have hn5 : (j.recs.length + 1) * 16 ≤ 140737488355328 := by have := K1.out.jrn.len; omega
  have HN := Lib.hid (And.intro hn4 hn5)
  have Hrv := Lib.hid hrv
  clear q4o hn4 hn5 hrv q4 f4
  go_wp2_with fail
  refine wp_region_H 18 (fun z => z.cell? ⟨x.jb, 2, none⟩ = some (.slice aj j.recs.length cj) ∧ z.cell? ⟨x.jb, 3, none⟩ = some (.int .i64 ((Jr.forms j.recs).length : Nat))) (fun _ => True) (by kernel_rfl) ?_
  refine wpAnyH_pure (i := 0) (v := ?_) rfl (by kernel_rfl) (by kernel_rfl) (by kernel_rfl) (by kernel_rfl) (by kernel_rfl) (fun _ _ _ h => h) (by rfl) ?_ (⟨fun _ => HSd.1, trivial⟩) ?_
  rotate_left 1
  · (intro zz; go_simp; first | done | with_reducible rfl)
  (try simp only [Act.put, List.setIfInBounds_toArray, List.set_cons_zero, List.set_cons_succ])
  refine wpAnyH_pure (i := 1) (v := ?_) rfl (by kernel_rfl) (by kernel_rfl) (by kernel_rfl) (by kernel_rfl) (by kernel_rfl) (fun _ _ _ h => h) (by rfl) ?_ (⟨fun _ => HSd.1, trivial⟩) ?_
  rotate_left 1
  · (intro zz; go_simp; first | done | with_reducible rfl)
  (try simp only [Act.put, List.setIfInBounds_toArray, List.set_cons_zero, List.set_cons_succ])
  refine wpAnyH_pure (i := 2) (v := ?_) rfl (by kernel_rfl) (by kernel_rfl) (by kernel_rfl) (by kernel_rfl) (by kernel_rfl) (fun _ _ _ h => h) (by rfl) ?_ (⟨fun _ => HSd.1, trivial⟩) ?_
  rotate_left 1
  · (intro zz; go_simp; first | done | with_reducible rfl)
  (try simp only [Act.put, List.setIfInBounds_toArray, List.set_cons_zero, List.set_cons_succ])
  refine wpAnyH_pure (i := 3) (v := ?_) rfl (by kernel_rfl) (by kernel_rfl) (by kernel_rfl) (by kernel_rfl) (by kernel_rfl) (fun _ _ _ h => h) (by rfl) ?_ (⟨fun _ => HSd.1, trivial⟩) ?_
  rotate_left 1
  · (intro zz; go_simp; first | done | with_reducible rfl)
  (try simp only [Act.put, List.setIfInBounds_toArray, List.set_cons_zero, List.set_cons_succ])
  refine wpAnyH_pure (i := 4) (v := ?_) rfl (by kernel_rfl) (by kernel_rfl) (by kernel_rfl) (by kernel_rfl) (by kernel_rfl) (fun _ _ _ h => h) (by rfl) ?_ (⟨fun _ => HSd.1, trivial⟩) ?_
  rotate_left 1
  · (intro zz; go_simp; first | done | with_reducible rfl)
  (try simp only [Act.put, List.setIfInBounds_toArray, List.set_cons_zero, List.set_cons_succ])
  refine wpAnyH_load1 (i := 5) (v := ?_) [8] rfl (by kernel_rfl) (by kernel_rfl) (by kernel_rfl) (by kernel_rfl) (by kernel_rfl) (by kernel_rfl) (fun _ _ _ h => h) (by rfl) ?_ (⟨fun _ => HSd.1, trivial⟩) ?_
  rotate_left 1
  · (intro zz hS1 hS2; clear hS2; obtain ⟨_, _⟩ := hS1; go_simp; first | done | with_reducible rfl)
  (try simp only [Act.put, List.setIfInBounds_toArray, List.set_cons_zero, List.set_cons_succ])
  refine wpAnyH_pure (i := 6) (v := ?_) rfl (by kernel_rfl) (by kernel_rfl) (by kernel_rfl) (by kernel_rfl) (by kernel_rfl) (fun _ _ _ h => h) (by rfl) ?_ (⟨fun _ => HSd.1, trivial⟩) ?_
  rotate_left 1
  · (intro zz; go_simp; first | done | with_reducible rfl)
  (try simp only [Act.put, List.setIfInBounds_toArray, List.set_cons_zero, List.set_cons_succ])
  refine wpAnyH_pure (i := 9) (v := ?_) rfl (by kernel_rfl) (by kernel_rfl) (by kernel_rfl) (by kernel_rfl) (by kernel_rfl) (fun _ _ _ h => h) (by rfl) ?_ (⟨fun _ => HSd.1, trivial⟩) ?_
  rotate_left 1
  · (intro zz; go_simp; first | done | with_reducible rfl)
  (try simp only [Act.put, List.setIfInBounds_toArray, List.set_cons_zero, List.set_cons_succ])
  refine wpAnyH_pure (i := 10) (v := ?_) rfl (by kernel_rfl) (by kernel_rfl) (by kernel_rfl) (by kernel_rfl) (by kernel_rfl) (fun _ _ _ h => h) (by rfl) ?_ (⟨fun _ => HSd.1, trivial⟩) ?_
  rotate_left 1
  · (intro zz; go_simp; first | done | with_reducible rfl)
  (try simp only [Act.put, List.setIfInBounds_toArray, List.set_cons_zero, List.set_cons_succ])
  refine wpAnyH_pure (i := 11) (v := ?_) rfl (by kernel_rfl) (by kernel_rfl) (by kernel_rfl) (by kernel_rfl) (by kernel_rfl) (fun _ _ _ h => h) (by rfl) ?_ (⟨fun _ => HSd.1, trivial⟩) ?_
  rotate_left 1
  · (intro zz; go_simp; first | done | with_reducible rfl)
  (try simp only [Act.put, List.setIfInBounds_toArray, List.set_cons_zero, List.set_cons_succ])
  refine wpAnyH_load1 (i := 12) (v := ?_) [] rfl (by kernel_rfl) (by kernel_rfl) (by kernel_rfl) (by kernel_rfl) (by kernel_rfl) (by kernel_rfl) (fun _ _ _ h => h) (by rfl) ?_ (⟨fun _ => HSd.1, trivial⟩) ?_
  rotate_left 1
  · (intro zz hS1 hS2; clear hS2; obtain ⟨_, _⟩ := hS1; go_simp; first | done | with_reducible rfl)
  (try simp only [Act.put, List.setIfInBounds_toArray, List.set_cons_zero, List.set_cons_succ])
  refine wpAnyH_pure (i := 13) (v := ?_) rfl (by kernel_rfl) (by kernel_rfl) (by kernel_rfl) (by kernel_rfl) (by kernel_rfl) (fun _ _ _ h => h) (by rfl) ?_ (⟨fun _ => HSd.1, trivial⟩) ?_
  rotate_left 1
  · (intro zz; go_simp; first | done | with_reducible rfl)
  (try simp only [Act.put, List.setIfInBounds_toArray, List.set_cons_zero, List.set_cons_succ])
  refine wpAnyH_pure (i := 14) (v := ?_) rfl (by kernel_rfl) (by kernel_rfl) (by kernel_rfl) (by kernel_rfl) (by kernel_rfl) (fun _ _ _ h => h) (by rfl) ?_ (⟨fun _ => HSd.1, trivial⟩) ?_
  rotate_left 1
  · (intro zz; go_simp; first | done | with_reducible rfl)
  (try simp only [Act.put, List.setIfInBounds_toArray, List.set_cons_zero, List.set_cons_succ])
  refine wpAnyH_pure (i := 15) (v := ?_) rfl (by kernel_rfl) (by kernel_rfl) (by kernel_rfl) (by kernel_rfl) (by kernel_rfl) (fun _ _ _ h => h) (by rfl) ?_ (⟨fun _ => HSd.1, trivial⟩) ?_
  rotate_left 1
  · (intro zz; go_simp; first | done | with_reducible rfl)
  (try simp only [Act.put, List.setIfInBounds_toArray, List.set_cons_zero, List.set_cons_succ])
  refine wpAnyH_one (i := 7) (by kernel_rfl) rfl (fun K hK => ?_)
  go_simp
  refine hK.out _ _ ⟨fun _ => (HSa _).1, trivial⟩ ?_
  clear hK K
  (try simp only [Act.put, List.setIfInBounds_toArray, List.set_cons_zero, List.set_cons_succ])
  refine wpAnyH_one (i := 8) (by kernel_rfl) rfl (fun K hK => ?_)
  refine step_appD rfl _ _ 38 rfl B tStrJ _ 1 16 Tryz.underlying38 infoStrJ rfl (by decide) (.slice aj j.recs.length cj) j.recs.length (j.recs.map bsV) rfl w4 (fun _ => False) Q4.out ((Upd.refl _ _).drew.alloc _) (fun _ _ e => e) _ [bsV s] rfl (heap_new _ _) rfl (by intro u hu; rw [List.mem_singleton.1 hu]; rfl) HN.out.1 HN.out.2 hB4 hgB ?_
  intro gs cs ws hownS uS oS
  have uW : Upd (fun k => (Value.slice aj j.recs.length cj).ownBlock = some k) w4 ws := Upd.trans (((Upd.refl _ _).drew).alloc _) uS
  have hS := HSall.out ws uW
  refine hK.out _ _ ⟨fun _ => hS.1, trivial⟩ ?_
  clear hK K
  (try simp only [Act.put, List.setIfInBounds_toArray, List.set_cons_zero, List.set_cons_succ])
  refine wpAnyH_pure (i := 16) (v := ?_) rfl (by kernel_rfl) (by kernel_rfl) (by kernel_rfl) (by kernel_rfl) (by kernel_rfl) (fun _ _ _ h => h) (by rfl) ?_ (⟨fun _ => hS.1, trivial⟩) ?_
  rotate_left 1
  · (intro zz; go_simp; first | done | with_reducible rfl)
  (try simp only [Act.put, List.setIfInBounds_toArray, List.set_cons_zero, List.set_cons_succ])
  refine wpAnyH_pure (i := 17) (v := ?_) rfl (by kernel_rfl) (by kernel_rfl) (by kernel_rfl) (by kernel_rfl) (by kernel_rfl) (fun _ _ _ h => h) (by rfl) ?_ (⟨fun _ => hS.1, trivial⟩) ?_
  rotate_left 1
  · (intro zz; go_simp; first | done | with_reducible rfl)
  (try simp only [Act.put, List.setIfInBounds_toArray, List.set_cons_zero, List.set_cons_succ])
  have z1 := hS.1.1
  have zf := hS.2
  have hblk := uW.keep K1.out.jrn.blk (by rw [← Hrv.out]; exact K1.out.jrn.ne)
  rw [K3.out] at hblk
  have hb2 := setCell_block hblk 2 (.slice (some ⟨gs, 0, none⟩) (j.recs.length + 1) cs)
  have z3 : (ws.setCell ⟨x.jb, 2, none⟩ (.slice (some ⟨gs, 0, none⟩) (j.recs.length + 1) cs)).cell? ⟨x.jb, 3, none⟩ = some (.int .i64 ((Jr.forms j.recs).length : Nat)) := by rw [cells_cell hb2]; rfl
  have zf3 := cells_frozen hb2 3
  have hdone := app_done K1.out (s := s) (by have := H2.out; omega) hownS (by rw [Hrv.out]; exact uW) (fun k hk => by
    obtain rfl : gs = k := by simpa [Value.ownBlock] using hk
    rw [Hrv.out]; exact oS)
  rw [K3.out] at hdone
  have hwr : IntKind.i64.wrap (((Jr.forms j.recs).length : Int) + (Jr.form s).length) = ((Jr.forms j.recs).length : Int) + (Jr.form s).length := by rw [IntKind.wrap_i64]; omega
  rw [← hwr] at hdone
  have Hz := Lib.hid (Hthen.out _ _ _ hdone)
  clear hwr
  clear hdone hownS uS oS hblk hb2 hS HSd HSa
  refine wpAnyH_one (i := 18) (by kernel_rfl) rfl (fun K hK => ?_)
  go_simp
  refine hK.out _ _ ⟨fun e => absurd (show true = false from e) (by decide), trivial⟩ ?_
  clear hK K
  (try simp only [Act.put, List.setIfInBounds_toArray, List.set_cons_zero, List.set_cons_succ])
  refine wpAnyH_pure (i := 19) (v := ?_) rfl (by kernel_rfl) (by kernel_rfl) (by kernel_rfl) (by kernel_rfl) (by kernel_rfl) (fun _ _ _ h => h) (by rfl) ?_ (⟨fun e => absurd (show true = false from e) (by decide), trivial⟩) ?_
  rotate_left 1
  · (intro zz; go_simp; first | done | with_reducible rfl)
  (try simp only [Act.put, List.setIfInBounds_toArray, List.set_cons_zero, List.set_cons_succ])
  refine wpAnyH_pure (i := 20) (v := ?_) rfl (by kernel_rfl) (by kernel_rfl) (by kernel_rfl) (by kernel_rfl) (by kernel_rfl) (fun _ _ _ h => h) (by rfl) ?_ (⟨fun e => absurd (show true = false from e) (by decide), trivial⟩) ?_
  rotate_left 1
  · (intro zz; go_simp; first | done | with_reducible rfl)
  (try simp only [Act.put, List.setIfInBounds_toArray, List.set_cons_zero, List.set_cons_succ])
  refine wpAnyH_one (i := 21) (by kernel_rfl) rfl (fun K hK => ?_)
  go_simp
  refine hK.out _ _ ⟨fun e => absurd (show true = false from e) (by decide), trivial⟩ ?_
  clear hK K
  (try simp only [Act.put, List.setIfInBounds_toArray, List.set_cons_zero, List.set_cons_succ])
  refine wpAnyH_done (by kernel_rfl) ?_ _
  go_wp2_with fail
  go_ret
  exact ⟨by rw [hr.out]; rfl, by rw [hr.out]; exact Hz.out⟩
theorem sync_may {D : Dk.Disk} {f : Int} (h : (Dk.sync D f).2 = 0) : Dk.may (Dk.sync D f).1 f = 0 := by
  by_cases h1 : Dk.may (Dk.come D) f = 0
  · by_cases h2 : 0 < (Dk.come D).lost
    · have e : Dk.sync D f = ({ Dk.come D with lost := (Dk.come D).lost - 1 }, 9) := by unfold Dk.sync; rw [if_neg (by omega), if_pos h2]
      rw [e] at h; cases h
    · have e : Dk.sync D f = (Dk.settle (Dk.come D) f ((Dk.come D).fs f).now, 0) := by unfold Dk.sync; rw [if_neg (by omega), if_neg h2]
      rw [e]
      exact h1
  · have e : Dk.sync D f = (Dk.come D, Dk.may (Dk.come D) f) := by unfold Dk.sync; rw [if_pos h1]
    rw [e] at h
    exact absurd h h1
theorem read_all {D : Dk.Disk} {f : Int} (h : Dk.may D f = 0) : Dk.read D f 0 (Dk.size D f) = ((D.fs f).now, 0) := by
  unfold Dk.read Dk.size
  rw [if_neg (by omega), if_neg (by omega)]
  simp
def OpenTo (B : Nat) (d : DiskR) (D' : Dk.Disk) (jo : Option Jr.Jn) (pv : Value) (w w' : World) : Prop :=
  match jo with
  | none => pv = .pointer none ∧ DiskTo B d D' w w'
  | some j => ∃ d' x, pv = .pointer (some ⟨x.jb, 0, none⟩) ∧ JSys B w' d' x D' j ∧ d'.db = d.db ∧ Upd d.foot w w' ∧ (∀ k, d'.foot k → d.foot k ∨ w.heap.size ≤ k) ∧ ∀ k, x.foot k → w.heap.size ≤ k
theorem open_made {B : Nat} {w w1 w3 w4 : World} {d d1 d4 : DiskR} {D4 : Dk.Disk} {f : Int} {R : List (List UInt8)} {v' : Value} (hB : B ≤ w.heap.size) (hd1 : ∀ k, d1.foot k → k < w1.heap.size) (e1 : d1.db = d.db) (u1 : Upd d.foot w w1) (f1 : ∀ k, d1.foot k → d.foot k ∨ w.heap.size ≤ k)
    (n3 : Nw w1 w3) (o3 : w3.ownsRow w1.heap.size tStrJ 1 v' R.length (R.map bsV)) (h4 : DiskAt B w4 d4 D4) (e4 : d4.db = d1.db) (u4 : Upd d1.foot w3 w4) (f4 : ∀ k, d4.foot k → d1.foot k ∨ w3.heap.size ≤ k) (hf : 0 ≤ f ∧ f ≤ 15) (hR : (Jr.forms R).length ≤ 16777216) :
    OpenTo B d D4 (some ⟨f, R, false⟩) (.pointer (some ⟨w4.heap.size, 0, none⟩)) w (w4.alloc (.cells #[.pointer (some ⟨d.db, 0, none⟩), .int .i64 f, v', .int .i64 ((Jr.forms R).length : Nat), .bool false] tJrn)) := by
  have n5 := nw_alloc w4 (.cells #[.pointer (some ⟨d.db, 0, none⟩), .int .i64 f, v', .int .i64 ((Jr.forms R).length : Nat), .bool false] tJrn)
  have k5 := heap_new w4 (.cells #[.pointer (some ⟨d.db, 0, none⟩), .int .i64 f, v', .int .i64 ((Jr.forms R).length : Nat), .bool false] tJrn)
  have s1 := u1.size
  have s3 := n3.size
  have s4 := u4.size
  have hv : ∀ k, v'.ownBlock = some k → w1.heap.size ≤ k ∧ k < w3.heap.size := fun k hk => by
    obtain ⟨a, cs, b⟩ := own_blockD o3 hk
    exact ⟨a, lt_of_block b⟩
  have o4 := owns_updD o3 u4 (fun k hk e => by have := hv k hk; have := hd1 k e; omega)
  have o5 := owns_base (owns_updD o4 n5 (fun _ _ e => e)) (base' := B) (by omega)
  have hlt := fun k hk => (h4.foot_lt (k := k) hk).2
  refine ⟨d4, ⟨w4.heap.size, v'⟩, rfl, ⟨h4.nw n5, ⟨h4.hb, by show B ≤ w4.heap.size; omega, ?_, o5, ⟨hf, hR⟩⟩, fun k hk e => ?_⟩, e4.trans e1, ?_, fun k hk => ?_, fun k hk => ?_⟩
  · unfold jrnC
    rw [e4.trans e1]
    exact k5
  · rcases e with e | e
    · have := hlt k hk; dsimp only at e; omega
    · have := hv k e
      rcases f4 k hk with e2 | e2
      · have := hd1 k e2; omega
      · omega
  · exact ((u1.nw n3).trans' u4 (fun k hk e => (f1 k e).elim id (fun e2 => by omega))).nw n5
  · rcases f4 k hk with e | e
    · exact f1 k e
    · exact Or.inr (by omega)
  · rcases hk with e | e
    · dsimp only at e; omega
    · have := hv k e; omega
set_option maxHeartbeats 1000000 in
set_option maxRecDepth 100000 in
theorem Open_c {B : Nat} {w : World} {d : DiskR} {D : Dk.Disk} (h : DiskAt B w d D) (g : Gl w) (hB : B ≤ w.heap.size) {f : Int} (hf : I64 f) :
    Calls Tryz.prog 31 #[.pointer (some ⟨d.db, 0, none⟩), .int .i64 f] w fun e w' => ∃ pv, e = .returned (.tuple #[pv, .int .i64 (Jr.openJ D f).2.2]) ∧ OpenTo B d (Jr.openJ D f).1 (Jr.openJ D f).2.1 pv w w' := by
  have hgb := g.big
  have H := Lib.hid h
  have HB := Lib.hid hB
  have HF := Lib.hid hf
  by_cases h0 : f < 0
  · have hr : Hid (Jr.openJ D f = (D, none, 1)) := by show _ = _; unfold Jr.openJ; rw [if_pos (Or.inl h0)]
    clear h hB hf
    go_enter Tryz.func31, Tryz.ntmps31
    go_wp2_with fail
    go_ret2
    exact ⟨_, by rw [hr.out]; rfl, by rw [hr.out]; exact ⟨rfl, DiskTo.refl H.out⟩⟩
  by_cases h15 : 15 < f
  · have hr : Hid (Jr.openJ D f = (D, none, 1)) := by show _ = _; unfold Jr.openJ; rw [if_pos (Or.inr h15)]
    clear h hB hf
    go_enter Tryz.func31, Tryz.ntmps31
    go_wp2_with fail
    go_ret2
    exact ⟨_, by rw [hr.out]; rfl, by rw [hr.out]; exact ⟨rfl, DiskTo.refl H.out⟩⟩
  have hr0 : Jr.openJ D f = if (Dk.sync D f).2 ≠ 0 then ((Dk.sync D f).1, none, (Dk.sync D f).2)
    else if (Jr.forms (Jr.recs ((Dk.sync D f).1.fs f).now)).length < ((Dk.sync D f).1.fs f).now.length then
    (if (Dk.truncate (Dk.sync D f).1 f (Jr.forms (Jr.recs ((Dk.sync D f).1.fs f).now)).length).2 ≠ 0 then ((Dk.truncate (Dk.sync D f).1 f (Jr.forms (Jr.recs ((Dk.sync D f).1.fs f).now)).length).1, none, (Dk.truncate (Dk.sync D f).1 f (Jr.forms (Jr.recs ((Dk.sync D f).1.fs f).now)).length).2)
      else ((Dk.truncate (Dk.sync D f).1 f (Jr.forms (Jr.recs ((Dk.sync D f).1.fs f).now)).length).1, some ⟨f, Jr.recs ((Dk.sync D f).1.fs f).now, false⟩, 0))
    else ((Dk.sync D f).1, some ⟨f, Jr.recs ((Dk.sync D f).1.fs f).now, false⟩, 0) := by
    unfold Jr.openJ; rw [if_neg (by omega)]
  have hfile : Hid (0 ≤ f ∧ f ≤ 15) := by show _ ∧ _; omega
  have hsc := sync_c h g hB hf
  have hmy := @sync_may D f
  generalize Dk.sync D f = S at *
  obtain ⟨D1, E⟩ := S
  dsimp only at hr0 hsc hmy
  have Hsc := Lib.hid hsc
  have Hr0 := Lib.hid hr0
  have Hmy := Lib.hid hmy
  clear hr0 hsc hmy h hB hf
  go_enter Tryz.func31, Tryz.ntmps31
  go_wp2_with fail
  (with_reducible refine (Hsc.out).mono ?_)
  rintro _ w1 ⟨rfl, hT⟩
  have HT := Lib.hid hT
  clear hT Hsc
  by_cases hE : E = 0
  rotate_left
  · have b1 : (E == 0) = false := beq_eq_false_iff_ne.2 hE
    have b2 : (E != 0) = true := by simp [hE]
    have hr : Hid (Jr.openJ D f = (D1, none, E)) := by show _ = _; rw [Hr0.out, if_pos hE]
    clear hE
    go_wp2_with fail
    go_ret2
    exact ⟨_, by rw [hr.out]; rfl, by rw [hr.out]; exact ⟨rfl, HT.out⟩⟩
  subst hE
  have hmay := Hmy.out rfl
  have hr1 := Hr0.out
  rw [if_neg (fun e => e rfl)] at hr1
  obtain ⟨d1, h1, e1, u1, f1⟩ := HT.out
  have g1 := g.upd u1
  have hsz := size_c h1 HF.out
  rw [e1] at hsz
  have hnow := h1.ok.now f
  have hrd := read_c h1 HF.out (i := 0) (n := Dk.size D1 f) (by unfold I64; omega) (by unfold Dk.size I64; omega)
  rw [e1, read_all hmay] at hrd
  dsimp only at hrd
  have hse : Dk.size D1 f = ((D1.fs f).now.length : Int) := rfl
  have HD1 := Lib.hid (And.intro h1 (And.intro e1 (And.intro u1 f1)))
  have hrj := read_j (D1.fs f).now hnow w1 g1
  have htc := fun (z : World) (n : Nw w1 z) (m : Int) (hm : I64 m) => truncate_c (h1.nw n) (g1.upd n) (Nat.le_trans (Nat.le_trans HB.out u1.size) n.size) HF.out hm
  rw [e1] at htc
  generalize (D1.fs f).now = s at *
  have Hrj := Lib.hid hrj
  have Hrd := Lib.hid hrd
  have Hsz := Lib.hid hsz
  have Htc := Lib.hid htc
  have Hr1 := Lib.hid hr1
  have Hnow := Lib.hid hnow
  have hlen : (s.length : Int) ≤ 16777216 := by omega
  have hlen0 : (0 : Int) ≤ s.length := by omega
  have hse2 : Hid (Dk.size D1 f = (s.length : Int)) := hse
  clear hrj hrd hsz htc hr1 hnow h1 e1 u1 f1 Hr0 hmay Hmy hse
  have hfr := Jr.recs_len s
  have hfr1 : ((Jr.forms (Jr.recs s)).length : Int) ≤ s.length := by omega
  have hfr0 : (0 : Int) ≤ ((Jr.forms (Jr.recs s)).length : Nat) := by omega
  have Hfr := Lib.hid hfr
  clear hfr
  go_wp2_with fail
  (with_reducible refine (Hsz.out).mono ?_)
  rintro _ _ ⟨rfl, rfl⟩
  go_wp2_with fail
  (with_reducible refine (Hrd.out).mono ?_)
  rintro _ _ ⟨rfl, rfl⟩
  go_wp2_with fail
  (with_reducible refine (Hrj.out).mono ?_)
  rintro _ w3 ⟨v', rfl, o3, n3⟩
  have O3 := Lib.hid o3
  have N3 := Lib.hid n3
  obtain ⟨av, cv, rfl⟩ := own_slD o3
  clear o3 n3 Hrj Hrd Hsz
  have hI : Hid (I64 ((Jr.forms (Jr.recs s)).length : Nat)) := by show I64 _; unfold I64; omega
  by_cases hlt : (Jr.forms (Jr.recs s)).length < s.length
  rotate_left
  · have hr : Hid (Jr.openJ D f = (D1, some ⟨f, Jr.recs s, false⟩, 0)) := by show _ = _; rw [Hr1.out, if_neg hlt]
    have hd : decide ((Jr.forms (Jr.recs s)).length < s.length) = false := decide_eq_false hlt
    have hz : Hid (OpenTo B d D1 _ _ w _) := open_made HB.out (fun k hk => (HD1.out.1.foot_lt hk).2) HD1.out.2.1 HD1.out.2.2.1 HD1.out.2.2.2 N3.out O3.out (HD1.out.1.nw N3.out) rfl (Upd.refl _ _) (fun k hk => Or.inl hk) hfile.out (by have := Hfr.out; have := Hnow.out; omega)
    clear hlt
    go_wp2_with fail
    go_ret2
    exact ⟨_, by rw [hr.out]; rfl, by rw [hr.out]; exact hz.out⟩
  have hd : decide ((Jr.forms (Jr.recs s)).length < s.length) = true := decide_eq_true hlt
  have hr1 := Hr1.out
  rw [if_pos hlt] at hr1
  have htc := Htc.out w3 N3.out _ hI.out
  generalize Dk.truncate D1 f ((Jr.forms (Jr.recs s)).length : Nat) = S2 at *
  obtain ⟨D2, E2⟩ := S2
  dsimp only at hr1 htc
  have Htc2 := Lib.hid htc
  have Hr2 := Lib.hid hr1
  clear hr1 htc hlt Htc Hr1
  go_wp2_with fail
  (with_reducible refine (Htc2.out).mono ?_)
  rintro _ w4 ⟨rfl, hT4⟩
  obtain ⟨d4, h4, e4, u4, f4⟩ := hT4
  by_cases hE : E2 = 0
  · subst hE
    have hr : Hid (Jr.openJ D f = (D2, some ⟨f, Jr.recs s, false⟩, 0)) := by show _ = _; rw [Hr2.out, if_neg (fun e => e rfl)]
    have hz : Hid (OpenTo B d D2 _ _ w _) := open_made HB.out (fun k hk => (HD1.out.1.foot_lt hk).2) HD1.out.2.1 HD1.out.2.2.1 HD1.out.2.2.2 N3.out O3.out h4 e4 u4 f4 hfile.out (by have := Hfr.out; have := Hnow.out; omega)
    clear h4 u4 f4
    go_wp2_with fail
    go_ret2
    exact ⟨_, by rw [hr.out]; rfl, by rw [hr.out]; exact hz.out⟩
  · have b1 : (E2 == 0) = false := beq_eq_false_iff_ne.2 hE
    have b2 : (E2 != 0) = true := by simp [hE]
    have hr : Hid (Jr.openJ D f = (D2, none, E2)) := by show _ = _; rw [Hr2.out, if_pos hE]
    have hz : Hid (DiskTo B d D2 w w4) := DiskTo.then_ H.out HD1.out.1 HD1.out.2.1 HD1.out.2.2.1 HD1.out.2.2.2 (DiskTo.after N3.out ⟨d4, h4, e4, u4, f4⟩)
    clear h4 u4 f4 hE
    go_wp2_with fail
    go_ret2
    exact ⟨_, by rw [hr.out]; rfl, by rw [hr.out]; exact ⟨rfl, hz.out⟩⟩
theorem conv1 (w : World) (x : Int) (h0 : 0 ≤ x) (h1 : x < 256) :
    (convert 135 9 (.slice (some ⟨w.heap.size, 0, none⟩) 1 1)).run Tryz.prog (w.alloc (.cells #[.int .u8 x] 5)) = .ok (.string ⟨#[UInt8.ofNat x.toNat]⟩) (w.alloc (.cells #[.int .u8 x] 5)) := by
  refine run_convert_bytes_back (P := Tryz.prog) _ 135 9 5 ⟨w.heap.size, 0, none⟩ 1 [UInt8.ofNat x.toNat] Tryz.underlying135 Tryz.underlying5 Tryz.underlying9 fun j hj => ?_
  have hj0 : j = 0 := by simpa using hj
  subst hj0
  rw [add_plain, cells_cell (heap_new w _)]
  simp
  omega
theorem decDigits_step {u : Nat} (h : ¬ u < 10) : Lib.decDigits u = Lib.decDigits (u / 10) ++ [UInt8.ofNat (48 + u % 10)] := by
  conv => lhs; rw [Lib.decDigits, dif_neg h]
theorem decDigits_len {u : Nat} (h : u ≤ 9223372036854775808) : (Lib.decDigits u).length ≤ 21 := by
  have h2 : I64 (-(u : Int)) := by unfold I64; omega
  have := itoa_le h2
  by_cases h0 : u = 0
  · subst h0; rw [Lib.decDigits_one (by omega)]; simp
  · rw [Lib.itoa_neg u (by omega)] at this; simp at this; omega
set_option maxHeartbeats 400000 in
set_option maxRecDepth 100000 in
theorem digits_q (k : Nat) : ∀ (u : Nat) (n : Int) (w : World), u < k → n = -(u : Int) → u ≤ 9223372036854775808 →
    Calls Tryz.prog 144 #[.int .i64 n] w fun e w' => e = .returned (.string ⟨(Lib.decDigits u).toArray⟩) ∧ Nw w w' := by
  induction k with
  | zero => intro u n w hu; omega
  | succ k ih =>
    intro u n w hu hn hb
    have h0 : n ≤ 0 := by omega
    have h1 : -9223372036854775808 ≤ n := by omega
    have hd : n.tmod 10 = -((u % 10 : Nat) : Int) := by rw [hn, Int.neg_tmod]; rfl
    have hq : n.tdiv 10 = -((u / 10 : Nat) : Int) := by rw [hn, Int.neg_tdiv]; rfl
    have hd0 : -9 ≤ n.tmod 10 := by omega
    have hd1 : n.tmod 10 ≤ 0 := by omega
    have hcv := conv1 w (48 - n.tmod 10) (by omega) (by omega)
    have Hn := Lib.hid hn; clear hn
    have Hb := Lib.hid hb; clear hb
    have Ih := Lib.hid ih; clear ih
    have Hd := Lib.hid hd; clear hd
    have Hq := Lib.hid hq; clear hq
    have Hch : Hid (UInt8.ofNat (48 - n.tmod 10).toNat = UInt8.ofNat (48 + u % 10)) := by
      show _ = _
      rw [Hd.out]; congr 1; omega
    by_cases hs : n > -10
    · go_enter Tryz.func144, Tryz.ntmps144
      go_wp2_with fail
      go_ret
      refine ⟨ret_bs ?_, nw_alloc _ _⟩
      have := Hn.out
      rw [Lib.decDigits_one (by omega), Hch.out, show u % 10 = u by omega]
    · have hlen : (Lib.decDigits (u / 10)).length ≤ 21 := decDigits_len (by have := Hb.out; omega)
      go_enter Tryz.func144, Tryz.ntmps144
      go_wp2_with fail
      (with_reducible refine (Ih.out (u / 10) _ _ (by have := Hn.out; omega) Hq.out (by have := Hb.out; omega)).mono ?_)
      rintro _ w1 ⟨rfl, u1⟩
      go_wp2_with fail
      go_ret
      refine ⟨ret_bs ?_, (nw_alloc _ _).trans u1⟩
      have := Hn.out
      rw [bs_append_list, bs_list, Hch.out, decDigits_step (u := u) (by omega)]
theorem digitsTo_q (u : Nat) (n : Int) (w : World) (hn : n = -(u : Int)) (hb : u ≤ 9223372036854775808) :
    Calls Tryz.prog 144 #[.int .i64 n] w fun e w' => e = .returned (.string ⟨(Lib.decDigits u).toArray⟩) ∧ Nw w w' :=
  digits_q (u + 1) u n w (Nat.lt_succ_self u) hn hb
set_option maxRecDepth 100000 in
theorem Int_q (n : Int) (w : World) (h : I64 n) :
    Calls Tryz.prog 145 #[.int .i64 n] w fun e w' => e = .returned (.string ⟨(Wire.intE n).toArray⟩) ∧ Nw w w' := by
  by_cases hn : n < 0
  · have hl := decDigits_len (u := n.natAbs) (by unfold I64 at h; omega)
    go_enter Tryz.func145, Tryz.ntmps145
    go_wp2_with fail
    (with_reducible refine (digitsTo_q n.natAbs _ _ (by omega) (by unfold I64 at h; omega)).mono ?_)
    rintro _ w1 ⟨rfl, u1⟩
    go_wp2_with fail
    go_ret
    refine ⟨ret_bs ?_, u1⟩
    simp only [bs_append_list, bs_list, Wire.intE, Lib.itoa, if_pos hn]
    rfl
  · have hl := decDigits_len (u := n.toNat) (by unfold I64 at h; omega)
    have h2 : -n = -((n.toNat : Nat) : Int) := by omega
    have H2 := Lib.hid h2; clear h2
    have h3 : -9223372036854775808 ≤ -n ∧ -n ≤ 9223372036854775807 := by unfold I64 at h; omega
    obtain ⟨h4, h5⟩ := h3
    go_enter Tryz.func145, Tryz.ntmps145
    go_wp2_with fail
    (with_reducible refine (digitsTo_q n.toNat _ _ H2.out (by unfold I64 at h; omega)).mono ?_)
    rintro _ w1 ⟨rfl, u1⟩
    go_wp2_with fail
    go_ret
    refine ⟨ret_bs ?_, u1⟩
    simp only [bs_append_list, bs_list, Wire.intE, Lib.itoa, if_neg (show ¬ n < 0 by omega)]
theorem Num_q (n : Int) (w : World) (h : I64 n) :
    Calls Tryz.prog 118 #[.int .i64 n] w fun e w' => e = .returned (.string ⟨(Wire.numE n).toArray⟩) ∧ Nw w w' := by
  by_cases hn : n < 0
  · go_enter Tryz.func118, Tryz.ntmps118
    go_wp2_with fail
    go_ret
    rw [show Wire.numE n = [] from if_pos hn]
    exact ⟨rfl, Upd.refl _ _⟩
  · go_enter Tryz.func118, Tryz.ntmps118
    go_wp2_with fail
    (with_reducible refine (Int_q n _ h).mono ?_)
    rintro _ w1 ⟨rfl, u1⟩
    go_wp2_with fail
    go_ret
    rw [show Wire.numE n = Wire.intE n from if_neg (by omega)]
    exact ⟨rfl, u1⟩
theorem decDigits_pos (u : Nat) : Lib.decDigits u = Lib.itoa (u : Int) := (Lib.itoa_nonneg u).symm
theorem Text_q (s : ByteArray) (l : List UInt8) (hs : s.data.toList = l) (w : World) (h : l.length ≤ 140737488351232) :
    Calls Tryz.prog 117 #[.string s] w fun e w' => e = .returned (.string ⟨(Wire.textE l).toArray⟩) ∧ Nw w w' := by
  have hz := bs_size s
  rw [hs] at hz
  have hl := decDigits_len (u := s.size) (by omega)
  have Hz := Lib.hid hz
  replace hz : s.size ≤ 140737488351232 := by omega
  go_enter Tryz.func117, Tryz.ntmps117
  go_wp2_with fail
  (with_reducible refine (digitsTo_q s.size _ _ rfl (by omega)).mono ?_)
  rintro _ w1 ⟨rfl, u1⟩
  go_wp2_with fail
  go_ret
  refine ⟨ret_bs ?_, u1⟩
  simp only [bs_append_list, bs_list, hs, Hz.out, decDigits_pos]
  rfl
end Go.Proofs.YtiednpagknnfnaaGreatDoor
namespace Go.Proofs.YtiednpagknnfnaaGreatDoor
open Go.RowKit
attribute [local irreducible] Calls
abbrev tQ : TypeId := 161
set_option maxHeartbeats 400000 in
theorem fail_q (b : Nat) (st : Wire.St) (w : World) (h : Rdr tQ w b st) :
    Calls Tryz.prog 138 #[.pointer (some ⟨b, 0, none⟩)] w fun e w' => e = .returned (.int .i64 0) ∧ Rdr tQ w' b none ∧ Upd (· = b) w w' := by
  have c0 := h.c0
  have c1 := h.c1
  have f0 := h.fz 0
  have f1 := h.fz 1
  go_enter Tryz.func138, Tryz.ntmps138
  go_wp2
  go_ret
  exact ⟨rfl, h.set_fail, ((Upd.refl _ _).set1 h.1 _ _).set1 h.1 _ _⟩
def BackPost (l : List UInt8) (w : World) (e : Ending) (w' : World) : Prop :=
  ∃ (n : Int) (ok : Bool), e = .returned (.tuple #[.int .i64 n, .bool ok]) ∧ I64 n ∧ (ok = true → Wire.numOf l = some n) ∧ (ok = false → Wire.numOf l = none) ∧ Nw w w'
theorem byte_list {s : ByteArray} {l : List UInt8} (hs : s.data.toList = l) (k : Nat) (h : k < s.size) : ∃ hk : k < l.length, s[k] = l[k] := by
  subst hs
  exact ⟨by rw [← bs_size]; exact h, by show s.data[k] = _; simp⟩
theorem back_cmp {s : ByteArray} {l : List UInt8} (hs : s.data.toList = l) (n : Int) : (Wire.intE n == (s ++ { data := #[59] }).toList) = decide (Lib.itoa n = l) := by
  rw [bs_toList, bs_append_list, hs]
  apply Bool.eq_iff_iff.2
  simp [Wire.intE]
theorem back_end {s : ByteArray} {l : List UInt8} {w w1 : World} {a n : Int} (hs : s.data.toList = l) (h : Wire.backGo 0 (Wire.backFrom l) (l.drop (Wire.backFrom l)) = some a) (hn : (if Wire.backFrom l = 0 then wrap64 (-a) else a) = n) (hi : I64 n) (u : Nw w w1) :
    BackPost l w (.returned (.tuple #[.int .i64 n, .bool (Wire.intE n == (s ++ { data := #[59] }).toList)])) w1 := by
  have h2 := Wire.back_some h hn hi (fun v h0 h1 => itoa_le ⟨h0, h1⟩)
  refine ⟨n, _, rfl, hi, ?_, ?_, u⟩
  · intro hb
    rw [back_cmp hs] at hb
    rw [h2, if_pos (of_decide_eq_true hb)]
  · intro hb
    rw [back_cmp hs] at hb
    rw [h2, if_neg (of_decide_eq_false hb)]
set_option maxHeartbeats 800000 in
theorem Back_q (s : ByteArray) (l : List UInt8) (hs : s.data.toList = l) (w : World) (hl : l.length ≤ 140737488351232) :
    Calls Tryz.prog 190 #[.string s] w (BackPost l w) := by
  have Hl := Lib.hid hs
  have hz : s.size ≤ 140737488351232 := by rw [bs_size, hs]; exact hl
  by_cases h0 : 0 < s.size
  · obtain ⟨h0l, h0c⟩ := byte_list hs 0 h0
    by_cases hc : l[0] = 45
    · have hf : Wire.backFrom l = 1 := by
        cases l with
        | nil => simp at h0l
        | cons c r => simp at hc; simp [Wire.backFrom, hc]
      have Hf := Lib.hid hf; clear hf
      have hcb : (((s[0]).toNat : Int) == 45) = true := by rw [h0c, hc]; rfl
      clear hs h0c hc
      go_enter Tryz.func190, Tryz.ntmps190
      go_wp2_with fail
      go_loop [5, 6] (fun n i => ∃ (k : Nat) (a : Int), k ≤ s.size ∧ i = .int .i64 k ∧ n = .int .i64 a ∧ -9223372036854775808 ≤ a ∧ a ≤ 9223372036854775807 ∧ Hid (Wire.backGo 0 1 (l.drop 1) = Wire.backGo a k (l.drop k))) (fun _ i => s.size - (intOf i).toNat)
      case atStart => exact ⟨1, 0, by omega, rfl, rfl, by omega, by omega, rfl⟩
      case round =>
        obtain ⟨k, a, hk, rfl, rfl, ha0, ha1, hB⟩ := hrel
        by_cases hlt : k < s.size
        · obtain ⟨hkl, hc⟩ := byte_list Hl.out k hlt
          have hdrop := Lib.hid (List.drop_eq_getElem_cons hkl)
          rw [← hc] at hdrop
          clear hc
          have hcb : s[k].toNat ≤ 255 := by have := s[k].toNat_lt; omega
          by_cases hbad : s[k].toNat < 48 ∨ 57 < s[k].toNat ∨ 20 < k
          · have hno : Hid (Wire.numOf l = none) := by
              refine Wire.back_none (l := l) ?_ (fun v h0 h1 => itoa_le ⟨h0, h1⟩)
              rw [Hf.out, hB.out, hdrop.out]
              exact if_pos hbad
            go_wp2_with fail
            all_goals go_ret2
            all_goals exact ⟨0, false, rfl, (by unfold I64; omega), (fun h => by cases h), (fun _ => hno.out), Upd.refl _ _⟩
          · have hgo : Hid (Wire.backGo 0 1 (l.drop 1) = Wire.backGo (wrap64 (wrap64 (10 * a) - ((s[k].toNat : Int) - 48))) (k + 1) (l.drop (k + 1))) := by
              rw [hB.out, hdrop.out]
              exact if_neg hbad
            go_wp2_with fail
            refine ⟨⟨k + 1, _, by omega, by go_num, rfl, ?_, ?_, hgo⟩, by simp [intOf]; omega⟩
            · unfold wrap64; omega
            · unfold wrap64; omega
        · have hB2 : Hid (Wire.backGo 0 1 (l.drop 1) = some a) := by
            rw [hB.out, List.drop_of_length_le (by rw [← Hl.out, ← bs_size]; omega)]; rfl
          go_wp2_with fail
          (with_reducible refine (Int_q _ _ (by unfold I64; omega)).mono ?_)
          rintro _ w1 ⟨rfl, u1⟩
          go_wp2_with fail
          go_ret2
          exact back_end Hl.out (by rw [Hf.out]; exact hB2.out) (by rw [Hf.out]; rfl) (by unfold I64; omega) u1
    · have hf : Wire.backFrom l = 0 := by
        cases l with
        | nil => rfl
        | cons c r => simp at hc; simp [Wire.backFrom, hc]
      have Hf := Lib.hid hf; clear hf
      have hcb : (((s[0]).toNat : Int) == 45) = false := by
        rw [h0c, beq_eq_false_iff_ne]
        intro e
        exact hc (UInt8.toNat_inj.1 (by have : l[0].toNat = 45 := by omega
                                        rw [this]; rfl))
      clear hs h0c hc
      go_enter Tryz.func190, Tryz.ntmps190
      go_wp2_with fail
      go_loop [5, 6] (fun n i => ∃ (k : Nat) (a : Int), k ≤ s.size ∧ i = .int .i64 k ∧ n = .int .i64 a ∧ -9223372036854775808 ≤ a ∧ a ≤ 9223372036854775807 ∧ Hid (Wire.backGo 0 0 (l.drop 0) = Wire.backGo a k (l.drop k))) (fun _ i => s.size - (intOf i).toNat)
      case atStart => exact ⟨0, 0, by omega, rfl, rfl, by omega, by omega, rfl⟩
      case round =>
        obtain ⟨k, a, hk, rfl, rfl, ha0, ha1, hB⟩ := hrel
        by_cases hlt : k < s.size
        · obtain ⟨hkl, hc⟩ := byte_list Hl.out k hlt
          have hdrop := Lib.hid (List.drop_eq_getElem_cons hkl)
          rw [← hc] at hdrop
          clear hc
          have hcb : s[k].toNat ≤ 255 := by have := s[k].toNat_lt; omega
          by_cases hbad : s[k].toNat < 48 ∨ 57 < s[k].toNat ∨ 20 < k
          · have hno : Hid (Wire.numOf l = none) := by
              refine Wire.back_none (l := l) ?_ (fun v h0 h1 => itoa_le ⟨h0, h1⟩)
              rw [Hf.out, hB.out, hdrop.out]
              exact if_pos hbad
            go_wp2_with fail
            all_goals go_ret2
            all_goals exact ⟨0, false, rfl, (by unfold I64; omega), (fun h => by cases h), (fun _ => hno.out), Upd.refl _ _⟩
          · have hgo : Hid (Wire.backGo 0 0 (l.drop 0) = Wire.backGo (wrap64 (wrap64 (10 * a) - ((s[k].toNat : Int) - 48))) (k + 1) (l.drop (k + 1))) := by
              rw [hB.out, hdrop.out]
              exact if_neg hbad
            go_wp2_with fail
            refine ⟨⟨k + 1, _, by omega, by go_num, rfl, ?_, ?_, hgo⟩, by simp [intOf]; omega⟩
            · unfold wrap64; omega
            · unfold wrap64; omega
        · have hB2 : Hid (Wire.backGo 0 0 (l.drop 0) = some a) := by
            rw [hB.out, List.drop_of_length_le (by rw [← Hl.out, ← bs_size]; omega)]; rfl
          go_wp2_with fail
          (with_reducible refine (Int_q _ _ (by unfold I64; (unfold wrap64; omega))).mono ?_)
          rintro _ w1 ⟨rfl, u1⟩
          go_wp2_with fail
          go_ret2
          exact back_end Hl.out (by rw [Hf.out]; exact hB2.out) (by rw [Hf.out]; rfl) (by unfold I64; (unfold wrap64; omega)) u1
  · have hf : Wire.backFrom l = 0 := by
      have : l = [] := List.length_eq_zero_iff.1 (by rw [← hs, ← bs_size]; omega)
      rw [this]; rfl
    have Hf := Lib.hid hf; clear hf
    clear hs
    go_enter Tryz.func190, Tryz.ntmps190
    go_wp2_with fail
    go_loop [5, 6] (fun n i => ∃ (k : Nat) (a : Int), k ≤ s.size ∧ i = .int .i64 k ∧ n = .int .i64 a ∧ -9223372036854775808 ≤ a ∧ a ≤ 9223372036854775807 ∧ Hid (Wire.backGo 0 0 (l.drop 0) = Wire.backGo a k (l.drop k))) (fun _ i => s.size - (intOf i).toNat)
    case atStart => exact ⟨0, 0, by omega, rfl, rfl, by omega, by omega, rfl⟩
    case round =>
      obtain ⟨k, a, hk, rfl, rfl, ha0, ha1, hB⟩ := hrel
      by_cases hlt : k < s.size
      · omega
      · have hB2 : Hid (Wire.backGo 0 0 (l.drop 0) = some a) := by
          rw [hB.out, List.drop_of_length_le (by rw [← Hl.out, ← bs_size]; omega)]; rfl
        go_wp2_with fail
        (with_reducible refine (Int_q _ _ (by unfold I64; (unfold wrap64; omega))).mono ?_)
        rintro _ w1 ⟨rfl, u1⟩
        go_wp2_with fail
        go_ret2
        exact back_end Hl.out (by rw [Hf.out]; exact hB2.out) (by rw [Hf.out]; rfl) (by unfold I64; (unfold wrap64; omega)) u1
set_option maxHeartbeats 800000 in
theorem ahead_q (b : Nat) (st : Wire.St) (c : UInt8) (ci : Int) (hci : ci = c.toNat) (w : World) (h : Rdr tQ w b st) (hl : (st.getD []).length ≤ 9223372036854775807) :
    Calls Tryz.prog 166 #[.pointer (some ⟨b, 0, none⟩), .int .u8 ci] w fun e w' =>
      e = .returned (.int .i64 (Wire.rInt' st c).1) ∧ Rdr tQ w' b (Wire.rInt' st c).2 ∧ Upd (· = b) w w' := by
  subst hci
  have c0 := h.c0
  obtain ⟨s, hs⟩ : ∃ s : ByteArray, (⟨(st.getD []).toArray⟩ : ByteArray) = s := ⟨_, rfl⟩
  have Hs : Hid (s.data.toList = st.getD []) := by rw [← hs]; exact bs_list _
  rw [hs] at c0
  clear hs
  have hz : s.size = (st.getD []).length := by rw [bs_size, Hs.out]
  have Hz := Lib.hid hz
  replace hz : s.size ≤ 9223372036854775807 := by omega
  go_enter Tryz.func166, Tryz.ntmps166
  go_wp2_with fail
  go_loop [5] (fun i => ∃ k : Nat, k ≤ 21 ∧ k ≤ s.size ∧ i = .int .i64 k ∧ Hid (∀ x ∈ (st.getD []).take k, x ≠ c)) (fun i => s.size - (intOf i).toNat)
  case atStart => exact ⟨0, by omega, by omega, rfl, by show ∀ x ∈ _, _; simp⟩
  case round =>
    obtain ⟨k, hk21, hks, rfl, hne⟩ := hrel
    by_cases hlt : k < s.size
    · obtain ⟨hkl, hck⟩ := byte_list Hs.out k hlt
      have Hck := Lib.hid hck; clear hck
      by_cases hc : s[k] = c
      · have hb : ((s[k].toNat : Int) != (c.toNat : Int)) = false := by rw [hc]; simp
        have hat : Hid ((st.getD [])[k]? = some c) := by show _ = _; rw [List.getElem?_eq_getElem hkl, ← Hck.out, hc]
        clear hc
        have hns : st.isNone = false := by cases st with | none => simp at hkl | some r => rfl
        have hx : (s.extract 0 k).data.toList = (st.getD []).take k := by rw [bs_extract_list, Hs.out]; simp
        have Hx := Lib.hid hx; clear hx
        by_cases h21 : k < 21
        · have hsp := Lib.hid (Wire.ahead_at h21 hne.out hat.out)
          go_wp2_with fail
          (with_reducible refine (Back_q (s.extract 0 k) _ Hx.out _ (by simp; omega)).mono ?_)
          rintro _ w1 ⟨n, ok, rfl, hn, hyes, hno, u1⟩
          replace h := h.nw u1
          replace c0 := h.c0
          have c1 := h.c1
          have f0 := h.fz 0
          cases ok with
          | true =>
            replace hsp := Lib.hid (hsp.out.trans (by rw [hyes rfl]))
            go_wp2_with fail
            go_ret
            rw [hsp.out]
            exact ⟨rfl, h.setr _ _ (by rw [hns]; rfl) (by rw [bs_extract_list, bs_list, List.take_of_length_le (by simp <;> omega)]; rfl), Nw.trans u1 ((Upd.refl _ _).set1 h.1 _ _)⟩
          | false =>
            replace hsp := Lib.hid (hsp.out.trans (by rw [hno rfl]))
            go_wp2_with fail
            (with_reducible refine (fail_q b st _ h).mono ?_)
            rintro _ w2 ⟨rfl, h2, u2⟩
            go_wp2_with fail
            go_ret
            rw [hsp.out]
            exact ⟨rfl, h2, Nw.trans u1 u2⟩
        · have hk : k = 21 := by omega
          have hsp := Lib.hid (Wire.ahead_no (st := st) (c := c) (by rw [← hk]; exact hne.out))
          have hln := Lib.hid (Wire.numOf_long (l := (st.getD []).take k) (by rw [List.length_take]; omega))
          clear hk
          go_wp2_with fail
          (with_reducible refine (Back_q (s.extract 0 k) _ Hx.out _ (by simp; omega)).mono ?_)
          rintro _ w1 ⟨n, ok, rfl, hn, hyes, hno, u1⟩
          replace h := h.nw u1
          cases ok with
          | true => have := hyes rfl; rw [hln.out] at this; cases this
          | false =>
            go_wp2_with fail
            (with_reducible refine (fail_q b st _ h).mono ?_)
            rintro _ w2 ⟨rfl, h2, u2⟩
            go_wp2_with fail
            go_ret
            rw [hsp.out]
            exact ⟨rfl, h2, Nw.trans u1 u2⟩
      · have hb : ((s[k].toNat : Int) != (c.toNat : Int)) = true := by
          rw [bne_iff_ne]; intro e; exact hc (UInt8.toNat_inj.1 (by omega))
        by_cases h21 : k < 21
        · have hne' : Hid (∀ x ∈ (st.getD []).take (k + 1), x ≠ c) := by
            intro x hx
            rw [List.take_succ_eq_append_getElem hkl, List.mem_append] at hx
            rcases hx with hx | hx
            · exact hne.out x hx
            · rw [List.mem_singleton] at hx; rw [hx, ← Hck.out]; exact hc
          have Hc := Lib.hid hc; clear hc
          go_wp2_with fail
          exact ⟨⟨k + 1, by omega, by omega, by go_num, hne'⟩, by simp [intOf]; omega⟩
        · have hk : k = 21 := by omega
          have hsp := Lib.hid (Wire.ahead_no (st := st) (c := c) (by rw [← hk]; exact hne.out))
          have Hc := Lib.hid hc; clear hc hk
          go_wp2_with fail
          (with_reducible refine (fail_q b st _ h).mono ?_)
          rintro _ w2 ⟨rfl, h2, u2⟩
          go_wp2_with fail
          go_ret
          rw [hsp.out]
          exact ⟨rfl, h2, u2⟩
    · have hsp := Lib.hid (Wire.ahead_no (st := st) (c := c) (fun x hx => hne.out x (by
        have : (st.getD []).length ≤ k := by rw [← Hz.out]; omega
        rw [List.take_of_length_le this]
        exact List.mem_of_mem_take hx)))
      go_wp2_with fail
      (with_reducible refine (fail_q b st _ h).mono ?_)
      rintro _ w2 ⟨rfl, h2, u2⟩
      go_wp2_with fail
      go_ret
      rw [hsp.out]
      exact ⟨rfl, h2, u2⟩
end Go.Proofs.YtiednpagknnfnaaGreatDoor
namespace Go.Proofs.YtiednpagknnfnaaGreatDoor
open Go.RowKit
attribute [local irreducible] Calls
theorem numberQ (b : Nat) (st : Wire.St) (c : UInt8) (ci : Int) (hci : ci = c.toNat) (w : World) (h : Rdr tQ w b st) (hl : (st.getD []).length ≤ 9223372036854775807) :
    Calls Tryz.prog 137 #[.pointer (some ⟨b, 0, none⟩), .int .u8 ci] w fun e w' =>
      e = .returned (.int .i64 (Wire.rNumber st c 0).1) ∧ Rdr tQ w' b (Wire.rNumber st c 0).2 ∧ Upd (· = b) w w' := by
  have hz := Lib.hid (Wire.rNumber_zero_eq st c)
  have hci' := Lib.hid hci; clear hci
  go_enter Tryz.func137, Tryz.ntmps137
  go_wp2_with fail
  (with_reducible refine (ahead_q b st c _ hci'.out _ h hl).mono ?_)
  rintro _ w1 ⟨rfl, h1, u1⟩
  generalize Wire.rInt' st c = q at *
  obtain ⟨n, s1⟩ := q
  by_cases hn : n < 0
  · go_wp2_with fail
    (with_reducible refine (fail_q b s1 _ h1).mono ?_)
    rintro _ w2 ⟨rfl, h2, u2⟩
    go_wp2_with fail
    go_ret
    rw [hz.out, if_pos hn]
    exact ⟨rfl, h2, u1.trans u2⟩
  · go_wp2_with fail
    go_ret
    rw [hz.out, if_neg (by omega)]
    exact ⟨rfl, h1, u1⟩
theorem NumQ (b : Nat) (st : Wire.St) (w : World) (h : Rdr tQ w b st) (hl : (st.getD []).length ≤ 9223372036854775807) :
    Calls Tryz.prog 104 #[.pointer (some ⟨b, 0, none⟩)] w fun e w' =>
      e = .returned (.int .i64 (Wire.rNum st).1) ∧ Rdr tQ w' b (Wire.rNum st).2 ∧ Upd (· = b) w w' := by
  go_enter Tryz.func104, Tryz.ntmps104
  go_wp2_with fail
  (with_reducible refine (numberQ b st 59 59 c59 _ h hl).mono ?_)
  rintro _ w' ⟨rfl, h', u'⟩
  go_wp2_with fail
  go_ret
  exact ⟨rfl, h', u'⟩
theorem closeQ (b : Nat) (st : Wire.St) (c : UInt8) (ci : Int) (hci : ci = c.toNat) (w : World) (h : Rdr tQ w b st) (hl : (st.getD []).length ≤ 9223372036854775807) :
    Calls Tryz.prog 139 #[.pointer (some ⟨b, 0, none⟩), .int .u8 ci] w fun e w' =>
      e = .returned (.bool (Wire.rClose st c).isSome) ∧ Rdr tQ w' b (Wire.rClose st c) ∧ Upd (· = b) w w' := by
  subst hci
  rcases st with _ | (_ | ⟨d, r⟩)
  · have c0 := h.c0
    have c1 := h.c1
    have f0 := h.fz 0
    go_enter Tryz.func139, Tryz.ntmps139
    go_wp2_with fail
    (with_reducible refine (fail_q b none _ h).mono ?_)
    rintro _ w2 ⟨rfl, h2, u2⟩
    go_wp2_with fail
    go_ret
    exact ⟨rfl, h2, u2⟩
  · have c0 := h.c0
    have c1 := h.c1
    have f0 := h.fz 0
    go_enter Tryz.func139, Tryz.ntmps139
    go_wp2_with fail
    (with_reducible refine (fail_q b (some []) _ h).mono ?_)
    rintro _ w2 ⟨rfl, h2, u2⟩
    go_wp2_with fail
    go_ret
    exact ⟨rfl, h2, u2⟩
  · have c0 := h.c0
    have c1 := h.c1
    have f0 := h.fz 0
    obtain ⟨s, hs⟩ : ∃ s : ByteArray, (⟨(d :: r).toArray⟩ : ByteArray) = s := ⟨_, rfl⟩
    have Hs : Hid (s.data.toList = d :: r) := by rw [← hs]; exact bs_list _
    rw [show (some (d :: r)).getD [] = d :: r from rfl, hs] at c0
    clear hs
    have hz : s.size = r.length + 1 := by rw [bs_size, Hs.out]; rfl
    simp only [Option.getD_some, List.length_cons] at hl
    have h0 : 0 < s.size := by omega
    have hz' : s.size ≤ 9223372036854775807 := by omega
    have Hz := Lib.hid hz; clear hz
    have hd : s[0] = d := by obtain ⟨hk, e⟩ := byte_list Hs.out 0 h0; rw [e]; rfl
    by_cases hc : d = c
    · have hb : ((s[0].toNat : Int) != (c.toNat : Int)) = false := by rw [hd, hc]; simp
      have Hc := Lib.hid hc
      have Hd := Lib.hid hd
      clear hc hd
      go_enter Tryz.func139, Tryz.ntmps139
      go_wp2_with fail
      go_ret
      rw [show Wire.rClose (some (d :: r)) c = some r from if_pos Hc.out]
      exact ⟨rfl, h.setr _ _ rfl (by rw [bs_extract_list, Hs.out, List.take_of_length_le (by have := Hz.out; simp <;> omega)]; rfl), (Upd.refl _ _).set1 h.1 _ _⟩
    · have hb : ((s[0].toNat : Int) != (c.toNat : Int)) = true := by
        rw [hd, bne_iff_ne]; intro e; exact hc (UInt8.toNat_inj.1 (by omega))
      have Hc := Lib.hid hc
      have Hd := Lib.hid hd
      clear hc hd
      go_enter Tryz.func139, Tryz.ntmps139
      go_wp2_with fail
      (with_reducible refine (fail_q b _ _ h).mono ?_)
      rintro _ w2 ⟨rfl, h2, u2⟩
      go_wp2_with fail
      go_ret
      rw [show Wire.rClose (some (d :: r)) c = none from if_neg Hc.out]
      exact ⟨rfl, h2, u2⟩
set_option maxHeartbeats 400000 in
theorem TextQ (b : Nat) (st : Wire.St) (w : World) (h : Rdr tQ w b st) (hl : (st.getD []).length ≤ 9223372036854775807) :
    Calls Tryz.prog 103 #[.pointer (some ⟨b, 0, none⟩)] w fun e w' =>
      e = .returned (.string ⟨(Wire.rText st).1.toArray⟩) ∧ Rdr tQ w' b (Wire.rText st).2 ∧ Upd (· = b) w w' := by
  have hle := Wire.rNumber_le st 58 0
  have hn0 := Wire.rNumber_least st 58 0 (Int.le_refl 0)
  go_enter Tryz.func103, Tryz.ntmps103
  go_wp2_with fail
  (with_reducible refine (numberQ b st 58 58 c58 _ h hl).mono ?_)
  rintro _ w1 ⟨rfl, h1, u1⟩
  cases hq : Wire.rNumber st 58 0 with
  | mk n s1 =>
  rw [hq] at hle hn0 h1
  have Hq := Lib.hid hq; clear hq
  replace hle : (s1.getD []).length ≤ (st.getD []).length := hle
  replace hn0 : 0 ≤ n := hn0
  replace h1 : Rdr tQ w1 b s1 := h1
  have c0 := h1.c0
  have c1 := h1.c1
  have f0 := h1.fz 0
  cases s1 with
  | none =>
    have e := Lib.hid (Wire.rText_none Hq.out)
    go_wp2_with fail
    (with_reducible refine (fail_q b _ _ h1).mono ?_)
    rintro _ w2 ⟨rfl, h2, u2⟩
    go_wp2_with fail
    go_ret
    rw [e.out]
    exact ⟨rfl, h2, u1.trans u2⟩
  | some r =>
    by_cases hfar : (r.length : Int) ≤ n
    · have e : Hid (Wire.rText st = ([], none)) := by
        by_cases hx : (r.length : Int) < n
        · exact Wire.rText_far Hq.out hx
        · refine Wire.rText_open Hq.out (by omega) ?_
          rw [List.drop_of_length_le (by omega)]; rfl
      go_wp2_with fail
      (with_reducible refine (fail_q b _ _ h1).mono ?_)
      rintro _ w2 ⟨rfl, h2, u2⟩
      go_wp2_with fail
      go_ret
      rw [e.out]
      exact ⟨rfl, h2, u1.trans u2⟩
    · replace hle : r.length ≤ (st.getD []).length := hle
      have H2 : Hid (∀ s : ByteArray, s.data.toList = r.drop n.toNat → Rdr tQ (w1.setCell ⟨b, 0, none⟩ (.string s)) b (some (r.drop n.toNat))) := fun s hs => h1.setr s _ rfl hs
      have Hc := Lib.hid (Wire.rText_open Hq.out (by omega))
      have Hy := Lib.hid (fun r' => Wire.rText_ok (r' := r') Hq.out (by omega))
      go_wp2_with fail
      (with_reducible refine (closeQ b (some (r.drop n.toNat)) 44 44 c44 _ (H2.out _ (by rw [bs_extract_list, bs_list, List.take_of_length_le (by simp)])) (by simp; omega)).mono ?_)
      rintro _ w3 ⟨rfl, h3, u3⟩
      generalize Wire.rClose (some (r.drop n.toNat)) 44 = s3 at *
      cases s3 with
      | none =>
        replace Hc := Lib.hid (Hc.out rfl)
        clear Hy
        go_wp2_with fail
        go_ret
        rw [Hc.out]
        exact ⟨rfl, h3, u1.trans (((Upd.refl _ _).set1 h1.1 _ _).trans u3)⟩
      | some r3 =>
        replace Hy := Lib.hid (Hy.out r3 rfl)
        clear Hc
        go_wp2_with fail
        go_ret
        rw [Hy.out]
        exact ⟨ret_bs (by rw [bs_extract_list, bs_list]; simp), h3, u1.trans (((Upd.refl _ _).set1 h1.1 _ _).trans u3)⟩
theorem LeftQ (b : Nat) (st : Wire.St) (w : World) (h : Rdr tQ w b st) :
    Calls Tryz.prog 102 #[.pointer (some ⟨b, 0, none⟩)] w fun e w' => e = .returned (.int .i64 ((st.getD []).length : Int)) ∧ w = w' := by
  have c0 := h.c0
  go_enter Tryz.func102, Tryz.ntmps102
  go_wp2
  go_ret
  exact ⟨rfl, rfl⟩
theorem OpenQ (s : ByteArray) (l : List UInt8) (hs : s.data.toList = l) (w : World) (g : Gl w) :
    Calls Tryz.prog 101 #[.string s] w fun e w' => ∃ b, e = .returned (.pointer (some ⟨b, 0, none⟩)) ∧ w.heap.size ≤ b ∧ Rdr tQ w' b (some l) ∧ Nw w w' := by
  go_enter Tryz.func101, Tryz.ntmps101
  go_wp2
  go_ret
  refine ⟨_, rfl, Nat.le_refl _, ⟨g.big, ?_⟩, (Upd.refl _ _).alloc _⟩
  rw [heap_new, ← bs_eta s, hs]
  rfl
def GS (w : World) (db : Nat) (jp : Option (Nat × Jr.Jn)) (D : Dk.Disk) (F : Nat → Prop) (z : World) : Prop :=
  ∃ d, d.db = db ∧ DiskAt w.heap.size z d D ∧ Nw w z ∧ (∀ k, F k → k < z.heap.size ∧ ¬ d.foot k) ∧
    ∀ p, jp = some p → ∃ x, x.jb = p.1 ∧ JrnAt w.heap.size z db x p.2 ∧ (∀ k, d.foot k → ¬ x.foot k) ∧ ∀ k, F k → ¬ x.foot k
def ptrJ : Option (Nat × Jr.Jn) → Value
  | none => .pointer none
  | some p => .pointer (some ⟨p.1, 0, none⟩)
section
variable {w : World} {db : Nat} {jp : Option (Nat × Jr.Jn)} {D D' : Dk.Disk} {F F' S : Nat → Prop} {z z' : World}
theorem GS.nw0 (h : GS w db jp D F z) : Nw w z := by obtain ⟨d, _, _, h, _⟩ := h; exact h
theorem GS.gl (h : GS w db jp D F z) (g : Gl w) : Gl z := g.upd h.nw0
theorem GS.upd (h : GS w db jp D F z) (u : Upd S z z') (hs : ∀ k, S k → (F k ∧ w.heap.size ≤ k) ∨ z.heap.size ≤ k) : GS w db jp D F z' := by
  obtain ⟨d, e, h1, h2, h3, h4⟩ := h
  have hz := u.size
  have hw := h2.size
  refine ⟨d, e, h1.upd u (fun k hk s => ?_), h2.trans' u (fun k hk s => ?_), fun k hk => ⟨by have := (h3 k hk).1; omega, (h3 k hk).2⟩, fun p hp => ?_⟩
  · rcases hs k s with a | a
    · exact (h3 k a.1).2 hk
    · have := (h1.foot_lt hk).2; omega
  · rcases hs k s with a | a <;> omega
  · obtain ⟨x, e2, h5, h6, h7⟩ := h4 p hp
    refine ⟨x, e2, h5.upd u (fun k hk s => ?_), h6, h7⟩
    rcases hs k s with a | a
    · exact h7 k a.1 hk
    · have := (h5.foot_lt hk).2; omega
theorem GS.nw (h : GS w db jp D F z) (u : Nw z z') : GS w db jp D F z' := h.upd u (fun k s => s.elim)
theorem GS.keep (h : GS w db jp D F z) (u : Nw z z') (hF : ∀ k, F' k → F k ∨ (z.heap.size ≤ k ∧ k < z'.heap.size)) : GS w db jp D F' z' := by
  obtain ⟨d, e, h1, h2, h3, h4⟩ := h
  have hz := u.size
  refine ⟨d, e, h1.nw u, h2.trans u, fun k hk => ?_, fun p hp => ?_⟩
  · rcases hF k hk with a | a
    · exact ⟨by have := (h3 k a).1; omega, (h3 k a).2⟩
    · exact ⟨a.2, fun e => by have := (h1.foot_lt e).2; omega⟩
  · obtain ⟨x, e2, h5, h6, h7⟩ := h4 p hp
    refine ⟨x, e2, h5.nw u, h6, fun k hk e3 => ?_⟩
    rcases hF k hk with a | a
    · exact h7 k a e3
    · have := (h5.foot_lt e3).2; omega
theorem gs_disk {d : DiskR} (e : d.db = db) (h1 : DiskAt w.heap.size z d D) (h2 : Nw w z) (h3 : ∀ k, F k → k < z.heap.size ∧ ¬ d.foot k)
    (h4 : ∀ p, jp = some p → ∃ x, x.jb = p.1 ∧ JrnAt w.heap.size z db x p.2 ∧ (∀ k, d.foot k → ¬ x.foot k) ∧ ∀ k, F k → ¬ x.foot k) (t : DiskTo w.heap.size d D' z z') : GS w db jp D' F z' ∧ Upd (fun k => ¬ F k ∧ w.heap.size ≤ k) z z' := by
  obtain ⟨d', k1, k2, k3, k4⟩ := t
  have hz := k3.size
  have hw := h2.size
  refine ⟨⟨d', k2.trans e, k1, h2.trans' k3 (fun k hk s => by have := (h1.foot_lt s).1; omega), fun k hk => ⟨by have := (h3 k hk).1; omega, fun s => ?_⟩, fun p hp => ?_⟩, k3.mono (fun k _ s => ⟨fun f => (h3 k f).2 s, (h1.foot_lt s).1⟩)⟩
  · rcases k4 k s with a | a
    · exact (h3 k hk).2 a
    · have := (h3 k hk).1; omega
  · obtain ⟨x, e2, h5, h6, h7⟩ := h4 p hp
    refine ⟨x, e2, h5.upd k3 (fun k hk s => h6 k s hk), fun k hk s => ?_, h7⟩
    rcases k4 k hk with a | a
    · exact h6 k a s
    · have := (h5.foot_lt s).2; omega
theorem gs_jrn {p : Nat × Jr.Jn} {j' : Jr.Jn} {d : DiskR} {x : JrnR} (e : d.db = db) (e2 : x.jb = p.1) (h1 : DiskAt w.heap.size z d D) (h2 : Nw w z) (h3 : ∀ k, F k → k < z.heap.size ∧ ¬ d.foot k)
    (h5 : JrnAt w.heap.size z db x p.2) (h7 : ∀ k, F k → ¬ x.foot k) (t : JTo w.heap.size d x D' j' z z') : GS w db (some (p.1, j')) D' F z' ∧ Upd (fun k => ¬ F k ∧ w.heap.size ≤ k) z z' := by
  obtain ⟨d', x', k1, k2, k3, k4, k5⟩ := t
  have hz := k4.size
  have hw := h2.size
  have hlo : ∀ k, d.foot k ∨ x.foot k → w.heap.size ≤ k := fun k s => s.elim (fun s => (h1.foot_lt s).1) (fun s => (h5.foot_lt s).1)
  have hno : ∀ k, F k → ¬ (d'.foot k ∨ x'.foot k) := fun k hk s => by
    rcases k5 k s with (a | a) | a
    · exact (h3 k hk).2 a
    · exact h7 k hk a
    · have := (h3 k hk).1; omega
  refine ⟨⟨d', k2.trans e, k1.disk, h2.trans' k4 (fun k hk s => by have := hlo k s; omega), fun k hk => ⟨by have := (h3 k hk).1; omega, fun s => hno k hk (Or.inl s)⟩, fun q hq => ?_⟩, k4.mono (fun k _ s => ⟨fun f => s.elim (h3 k f).2 (h7 k f), hlo k s⟩)⟩
  obtain rfl := Option.some.inj hq
  exact ⟨x', k3.trans e2, by have := k1.jrn; rw [k2.trans e] at this; exact this, k1.ap, fun k hk s => hno k hk (Or.inr s)⟩
theorem GS.forget (h : GS w db jp D F z) : GS w db none D F z := by
  obtain ⟨d, e, h1, h2, h3, h4⟩ := h
  exact ⟨d, e, h1, h2, h3, fun p hp => by cases hp⟩
theorem GS.parts {p : Nat × Jr.Jn} (h : GS w db (some p) D F z) : ∃ d x, d.db = db ∧ x.jb = p.1 ∧ JSys w.heap.size z d x D p.2 := by
  obtain ⟨d, e, h1, h2, h3, h4⟩ := h
  obtain ⟨x, e2, h5, h6, h7⟩ := h4 p rfl
  exact ⟨d, x, e, e2, ⟨h1, by rw [e]; exact h5, h6⟩⟩
theorem GS.dpart (h : GS w db jp D F z) : ∃ d, d.db = db ∧ DiskAt w.heap.size z d D := by
  obtain ⟨d, e, h1, h2, h3, h4⟩ := h
  exact ⟨d, e, h1⟩
theorem GS.ok (h : GS w db jp D F z) : Dk.Ok D := by obtain ⟨d, _, h⟩ := h.dpart; exact h.ok
abbrev Moves (w : World) (F : Nat → Prop) (z z' : World) : Prop := Upd (fun k => ¬ F k ∧ w.heap.size ≤ k) z z'
theorem new_t (w : World) (g : Gl w) : Calls Tryz.prog 6 #[] w fun e z => ∃ db, e = .returned (.pointer (some ⟨db, 0, none⟩)) ∧ GS w db none Dk.new (fun _ => False) z :=
  (dnew_c w g).mono fun e z ⟨r, he, h, u⟩ => ⟨r.db, he, r, rfl, h, u, fun k hk => hk.elim, fun p hp => by cases hp⟩
def OS (w : World) (db : Nat) (D' : Dk.Disk) (jo : Option Jr.Jn) (F : Nat → Prop) (pv : Value) (z : World) : Prop :=
  ∃ jp : Option (Nat × Jr.Jn), jp.map (·.2) = jo ∧ pv = ptrJ jp ∧ GS w db jp D' F z
theorem open_t (h : GS w db jp D F z) (g : Gl w) {f : Int} (hf : I64 f) :
    Calls Tryz.prog 31 #[.pointer (some ⟨db, 0, none⟩), .int .i64 f] z fun e z' => ∃ pv, e = .returned (.tuple #[pv, .int .i64 (Jr.openJ D f).2.2]) ∧ OS w db (Jr.openJ D f).1 (Jr.openJ D f).2.1 F pv z' ∧ Moves w F z z' := by
  have hall := h
  obtain ⟨d, e, h1, h2, h3, h4⟩ := h
  subst e
  refine (Open_c h1 (hall.gl g) h2.size hf).mono fun e z' ⟨pv, he, ht⟩ => ⟨pv, he, ?_⟩
  unfold OpenTo at ht
  cases hj : (Jr.openJ D f).2.1 with
  | none =>
    rw [hj] at ht
    obtain ⟨hp, ht⟩ := ht
    obtain ⟨k1, k2⟩ := gs_disk (jp := none) rfl h1 h2 h3 (fun p hp => by cases hp) ht
    exact ⟨⟨none, rfl, hp, k1⟩, k2⟩
  | some j =>
    rw [hj] at ht
    obtain ⟨d', x, hp, k1, k2, k3, k4, k5⟩ := ht
    have hz := k3.size
    have hw := h2.size
    refine ⟨⟨some (x.jb, j), rfl, hp, d', k2, k1.disk, h2.trans' k3 (fun k hk s => by have := (h1.foot_lt s).1; omega), fun k hk => ⟨by have := (h3 k hk).1; omega, fun s => ?_⟩, fun p hp => ?_⟩, k3.mono (fun k _ s => ⟨fun f => (h3 k f).2 s, (h1.foot_lt s).1⟩)⟩
    · rcases k4 k s with a | a
      · exact (h3 k hk).2 a
      · have := (h3 k hk).1; omega
    · obtain rfl := Option.some.inj hp
      exact ⟨x, rfl, by have := k1.jrn; rw [k2] at this; exact this, k1.ap, fun k hk s => by have := (h3 k hk).1; have := k5 k s; omega⟩
theorem append_t {p : Nat × Jr.Jn} (h : GS w db (some p) D F z) (g : Gl w) (s : List UInt8) (hs : s.length ≤ 1000000) :
    Calls Tryz.prog 78 #[.pointer (some ⟨p.1, 0, none⟩), .string ⟨s.toArray⟩] z fun e z' => e = .returned (.int .i64 (Jr.append D p.2 s).2.2) ∧ GS w db (some (p.1, (Jr.append D p.2 s).2.1)) (Jr.append D p.2 s).1 F z' ∧ Moves w F z z' := by
  have hall := h
  obtain ⟨d, e, h1, h2, h3, h4⟩ := h
  obtain ⟨x, e2, h5, h6, h7⟩ := h4 p rfl
  rw [← e2]
  refine (Append_c (B := w.heap.size) (d := d) (x := x) (j := p.2) ⟨h1, by rw [e]; exact h5, h6⟩ (hall.gl g) h2.size s hs).mono fun e' z' ⟨he, t⟩ => ⟨he, ?_⟩
  have := gs_jrn e e2 h1 h2 h3 h5 h7 t
  rw [← e2] at this
  exact this
theorem jsync_t {p : Nat × Jr.Jn} (h : GS w db (some p) D F z) (g : Gl w) :
    Calls Tryz.prog 79 #[.pointer (some ⟨p.1, 0, none⟩)] z fun e z' => e = .returned (.int .i64 (Jr.syncJ D p.2).2.2) ∧ GS w db (some (p.1, (Jr.syncJ D p.2).2.1)) (Jr.syncJ D p.2).1 F z' ∧ Moves w F z z' := by
  have hall := h
  obtain ⟨d, e, h1, h2, h3, h4⟩ := h
  obtain ⟨x, e2, h5, h6, h7⟩ := h4 p rfl
  rw [← e2]
  refine (JSync_c (B := w.heap.size) (d := d) (x := x) (j := p.2) ⟨h1, by rw [e]; exact h5, h6⟩ (hall.gl g) h2.size).mono fun e' z' ⟨he, t⟩ => ⟨he, ?_⟩
  have := gs_jrn e e2 h1 h2 h3 h5 h7 t
  rw [← e2] at this
  exact this
theorem all_t {p : Nat × Jr.Jn} (h : GS w db (some p) D F z) (g : Gl w) : Calls Tryz.prog 32 #[.pointer (some ⟨p.1, 0, none⟩)] z fun e z' => ∃ v', e = .returned v' ∧ z'.ownsRow z.heap.size tStrJ 1 v' p.2.recs.length (p.2.recs.map bsV) ∧ Nw z z' := by
  have hg := h.gl g
  obtain ⟨d, x, e, e2, h⟩ := h.parts
  rw [← e2]
  exact All_c h.jrn hg
theorem read_t (h : GS w db jp D F z) {f i n : Int} (hf : I64 f) (hi : I64 i) (hn : I64 n) :
    Calls Tryz.prog 23 #[.pointer (some ⟨db, 0, none⟩), .int .i64 f, .int .i64 i, .int .i64 n] z fun e z' => e = .returned (.tuple #[.string ⟨(Dk.read D f i n).1.toArray⟩, .int .i64 (Dk.read D f i n).2]) ∧ z = z' := by
  obtain ⟨d, e, hd⟩ := h.dpart
  subst e
  exact read_c hd hf hi hn
theorem size_t (h : GS w db jp D F z) {f : Int} (hf : I64 f) :
    Calls Tryz.prog 21 #[.pointer (some ⟨db, 0, none⟩), .int .i64 f] z fun e z' => e = .returned (.int .i64 (Dk.size D f)) ∧ z = z' := by
  obtain ⟨d, e, hd⟩ := h.dpart
  subst e
  exact size_c hd hf
theorem start_t (h : GS w db jp D F z) : Calls Tryz.prog 19 #[.pointer (some ⟨db, 0, none⟩)] z fun e z' => e = .returned (.tuple #[]) ∧ GS w db jp (Dk.start D) F z' ∧ Moves w F z z' := by
  obtain ⟨d, e, h1, h2, h3, h4⟩ := h
  subst e
  exact (start_c h1).mono fun e z' ⟨he, t⟩ => ⟨he, gs_disk rfl h1 h2 h3 h4 t⟩
theorem lose_t (h : GS w db jp D F z) {n : Int} (hn : I64 n) : Calls Tryz.prog 13 #[.pointer (some ⟨db, 0, none⟩), .int .i64 n] z fun e z' => e = .returned (.tuple #[]) ∧ GS w db jp (Dk.lose D n) F z' ∧ Moves w F z z' := by
  obtain ⟨d, e, h1, h2, h3, h4⟩ := h
  subst e
  exact (lose_c h1 hn).mono fun e z' ⟨he, t⟩ => ⟨he, gs_disk rfl h1 h2 h3 h4 t⟩
theorem arm_t (h : GS w db jp D F z) (g : Gl w) {n : Int} (hn : I64 n) (lo hi : Nat) (v : Value) (keep : List Int) (hkI : ∀ x ∈ keep, I64 x) (hs : Sl lo hi z v (keep.map intD)) (hL : keep.length ≤ 1000000000) :
    Calls Tryz.prog 15 #[.pointer (some ⟨db, 0, none⟩), .int .i64 n, v] z fun e z' => e = .returned (.tuple #[]) ∧ GS w db jp (Dk.arm D n keep) F z' ∧ Moves w F z z' := by
  have hall := h
  obtain ⟨d, e, h1, h2, h3, h4⟩ := h
  subst e
  exact (arm_c h1 (hall.gl g) hn lo hi v keep hkI hs hL).mono fun e z' ⟨he, t⟩ => ⟨he, gs_disk rfl h1 h2 h3 h4 t⟩
theorem crash_t (h : GS w db jp D F z) (g : Gl w) (lo hi : Nat) (hhi : hi ≤ w.heap.size) (v : Value) (keep : List Int) (hkI : ∀ x ∈ keep, I64 x) (hs : Sl lo hi w v (keep.map intD)) :
    Calls Tryz.prog 17 #[.pointer (some ⟨db, 0, none⟩), v] z fun e z' => e = .returned (.tuple #[]) ∧ GS w db jp (Dk.crash D keep) F z' ∧ Moves w F z z' := by
  have hall := h
  obtain ⟨d, e, h1, h2, h3, h4⟩ := h
  subst e
  refine (crash_c h1 (hall.gl g) h2.size lo hi v keep (fun y u => (hs.nw h2).upd u (fun k _ hk s => ?_)) hkI).mono fun e z' ⟨he, t⟩ => ⟨he, gs_disk rfl h1 h2 h3 h4 t⟩
  have := (h1.foot_lt (k := k) (by rcases s with s | s; exact Or.inl s; exact Or.inr (Or.inl s))).1
  omega
end
end Go.Proofs.YtiednpagknnfnaaGreatDoor
namespace Go.Proofs.YtiednpagknnfnaaGreatDoor
open Go.RowKit
open Sg (pfE opE)
attribute [local irreducible] Calls CallsIn
theorem apply_c {B : Nat} {z : World} {x : SgR} {S : Sg.Sta} (g : Gl z) (h : SgAt B z x S) {o : Sg.Ops} (ha : Sg.adm S o) (hb : Sg.big S + 1 ≤ 1000) (ho : (opE o).length ≤ 20000) :
    Calls Tryz.prog 33 #[.pointer (some ⟨x.sb, 0, none⟩), bsV (opE o)] z fun e z' => e = .returned (.tuple #[]) ∧ ∃ x' : SgR, x'.sb = x.sb ∧ x'.jb = x.jb ∧ SgAt B z' x' (Sg.after S o) ∧ Upd x.foot z z' ∧ ∀ k, x'.foot k → x.foot k ∨ (z.heap.size ≤ k ∧ k < z'.heap.size) := by
  cases o with
  | put t => exact (apply_put h ha (by simp [opE] at ho; omega) hb).mono fun e z' ⟨h1, h2, h3⟩ => ⟨h1, x, rfl, rfl, h2, h3, fun k hk => Or.inl hk⟩
  | set p => exact (apply_set g h ha hb).mono fun e z' ⟨h1, c, h2, h3, h4, h5⟩ => ⟨h1, x.more z.heap.size c, rfl, rfl, h4, h5, fun k hk => (SgR.more_foot hk).imp id (fun e => by omega)⟩
  | drop n => exact (apply_drop h (by simp [opE] at ho; omega)).mono fun e z' ⟨h1, h2, h3⟩ => ⟨h1, x, rfl, rfl, h2, h3, fun k hk => Or.inl hk⟩
  | sweep => exact (apply_sweep h).mono fun e z' ⟨h1, h2, h3⟩ => ⟨h1, x, rfl, rfl, h2, h3, fun k hk => Or.inl hk⟩
theorem GS.upd_keepS {w : World} {db : Nat} {jp : Option (Nat × Jr.Jn)} {D : Dk.Disk} {F F' S : Nat → Prop} {z z' : World} (h : GS w db jp D F z) (u : Upd S z z') (hs : ∀ k, S k → (F k ∧ w.heap.size ≤ k) ∨ z.heap.size ≤ k) (hF : ∀ k, F' k → F k ∨ (z.heap.size ≤ k ∧ k < z'.heap.size)) : GS w db jp D F' z' := by
  obtain ⟨d, e, h1, h2, h3, h4⟩ := h
  have hz := u.size
  have hw := h2.size
  refine ⟨d, e, h1.upd u (fun k hk s => ?_), h2.trans' u (fun k hk s => ?_), fun k hk => ?_, fun p hp => ?_⟩
  · rcases hs k s with a | a
    · exact (h3 k a.1).2 hk
    · have := (h1.foot_lt hk).2; omega
  · rcases hs k s with a | a <;> omega
  · rcases hF k hk with a | a
    · exact ⟨by have := (h3 k a).1; omega, (h3 k a).2⟩
    · exact ⟨a.2, fun e => by have := (h1.foot_lt e).2; omega⟩
  · obtain ⟨x, e2, h5, h6, h7⟩ := h4 p hp
    refine ⟨x, e2, h5.upd u (fun k hk s => ?_), h6, fun k hk e3 => ?_⟩
    · rcases hs k s with a | a
      · exact h7 k a.1 hk
      · have := (h5.foot_lt hk).2; omega
    · rcases hF k hk with a | a
      · exact h7 k a e3
      · have := (h5.foot_lt e3).2; omega
structure SS (w : World) (db : Nat) (x : SgR) (j : Jr.Jn) (S : Sg.Sta) (D : Dk.Disk) (F : Nat → Prop) (z : World) : Prop where
  gs : GS w db (some (x.jb, j)) D (fun k => F k ∨ x.foot k) z
  st : SgAt w.heap.size z x S
  ap : ∀ k, F k → ¬ x.foot k
section
variable {w : World} {db : Nat} {x : SgR} {j : Jr.Jn} {S : Sg.Sta} {D : Dk.Disk} {F U : Nat → Prop} {z z' : World}
theorem SS.nw0 (h : SS w db x j S D F z) : Nw w z := h.gs.nw0
theorem SS.nw (h : SS w db x j S D F z) (u : Nw z z') : SS w db x j S D F z' := ⟨h.gs.nw u, h.st.nw u, h.ap⟩
theorem SS.keep {F' : Nat → Prop} (h : SS w db x j S D F z) (u : Nw z z') (hF : ∀ k, F' k → F k ∨ (z.heap.size ≤ k ∧ k < z'.heap.size)) : SS w db x j S D F' z' := by
  refine ⟨h.gs.keep u (fun k hk => ?_), h.st.nw u, fun k hk e => ?_⟩
  · rcases hk with hk | hk
    · exact (hF k hk).imp Or.inl id
    · exact Or.inl (Or.inr hk)
  · rcases hF k hk with a | a
    · exact h.ap k a e
    · have := (h.st.lt k e).2; omega
end
namespace Sg
open Dk (Disk)
open Jr (Jn append syncJ)
def recI (o : Ops) (i : Nat) : List UInt8 := if i = 0 then opE o else doneE
def contI (S : Sta) (o : Ops) (i : Nat) (D : Disk) (j : Jn) : Disk × Jn × Sta × Int :=
  match i with
  | 0 => perform D j S o
  | 1 => if (half D j doneE).2.2 ≠ 0 then ((half D j doneE).1, (half D j doneE).2.1, S, (half D j doneE).2.2) else ((half D j doneE).1, (half D j doneE).2.1, after S o, 0)
  | _ => (D, j, after S o, 0)
theorem cont_half (S : Sta) (o : Ops) {i : Nat} (hi : i < 2) (D : Disk) (j : Jn) :
    contI S o i D j = if (half D j (recI o i)).2.2 ≠ 0 then ((half D j (recI o i)).1, (half D j (recI o i)).2.1, S, (half D j (recI o i)).2.2) else contI S o (i + 1) (half D j (recI o i)).1 (half D j (recI o i)).2.1 := by
  match i, hi with
  | 0, _ => rfl
  | 1, _ => rfl
theorem cont_err1 {S : Sta} {o : Ops} {i : Nat} (hi : i < 2) {D : Disk} {j : Jn} (h : (append D j (recI o i)).2.2 ≠ 0) : contI S o i D j = ((append D j (recI o i)).1, (append D j (recI o i)).2.1, S, (append D j (recI o i)).2.2) := by
  have e : half D j (recI o i) = append D j (recI o i) := by unfold half; rw [if_pos h]
  rw [cont_half S o hi, e, if_pos h]
theorem cont_err2 {S : Sta} {o : Ops} {i : Nat} (hi : i < 2) {D D' : Disk} {j j' : Jn} (h : (append D j (recI o i)) = (D', j', 0)) (h2 : (syncJ D' j').2.2 ≠ 0) : contI S o i D j = ((syncJ D' j').1, (syncJ D' j').2.1, S, (syncJ D' j').2.2) := by
  have e : half D j (recI o i) = syncJ D' j' := by unfold half; rw [h, if_neg (by simp)]
  rw [cont_half S o hi, e, if_pos h2]
theorem cont_ok {S : Sta} {o : Ops} {i : Nat} (hi : i < 2) {D D' : Disk} {j j' : Jn} (h : (append D j (recI o i)) = (D', j', 0)) (h2 : (syncJ D' j').2.2 = 0) : contI S o i D j = contI S o (i + 1) (syncJ D' j').1 (syncJ D' j').2.1 := by
  have e : half D j (recI o i) = syncJ D' j' := by unfold half; rw [h, if_neg (by simp)]
  rw [cont_half S o hi, e, if_neg (fun c => c h2)]
end Sg
structure PfI (w : World) (db : Nat) (x : SgR) (S : Sg.Sta) (o : Sg.Ops) (r : Dk.Disk × Jr.Jn × Sg.Sta × Int) (F : Nat → Prop) (z1 : World) (zs : Nat) (i : Nat) (wr : World) : Prop where
  ex : ∃ D j, r = Sg.contI S o i D j ∧ GS w db (some (x.jb, j)) D (fun k => (F k ∨ x.foot k) ∨ k = zs) wr
  upd : Upd (fun k => ¬ ((F k ∨ x.foot k) ∨ k = zs) ∧ w.heap.size ≤ k) z1 wr
theorem pf_done {w : World} {db : Nat} {x : SgR} {j j' : Jr.Jn} {S : Sg.Sta} {D D' : Dk.Disk} {F : Nat → Prop} {z z1 w2 : World} {zs : Nat} (h : SS w db x j S D F z1) (hn : Nw z z1) (hg : GS w db (some (x.jb, j')) D' (fun k => (F k ∨ x.foot k) ∨ k = zs) w2)
    (hu : Upd (fun k => ¬ ((F k ∨ x.foot k) ∨ k = zs) ∧ w.heap.size ≤ k) z1 w2) : SS w db x j' S D' F w2 ∧ Moves w F z w2 :=
  ⟨⟨hg.keep (Upd.refl _ _) (fun k hk => Or.inl (Or.inl hk)), h.st.upd hu (fun k hk e => e.1 (Or.inl (Or.inr hk))), h.ap⟩, Nw.trans hn (hu.mono (fun k _ e => ⟨fun f => e.1 (Or.inl (Or.inl f)), e.2⟩))⟩
set_option maxHeartbeats 4000000 in
set_option maxRecDepth 100000 in
theorem perform_t {w : World} {db : Nat} {x : SgR} {j : Jr.Jn} {S : Sg.Sta} {D : Dk.Disk} {F : Nat → Prop} {z : World} (g : Gl w) (h : SS w db x j S D F z) {o : Sg.Ops} (ha : Sg.adm S o) (hb : Sg.big S + 1 ≤ 1000) (ho : (opE o).length ≤ 20000) :
    Calls Tryz.prog 52 #[.pointer (some ⟨x.sb, 0, none⟩), bsV (opE o)] z fun e z' => e = .returned (.int .i64 (Sg.perform D j S o).2.2.2) ∧ ∃ x' : SgR, x'.sb = x.sb ∧ SS w db x' (Sg.perform D j S o).2.1 (Sg.perform D j S o).2.2.1 (Sg.perform D j S o).1 F z' ∧ Moves w F z z' := by
  obtain ⟨r, hr⟩ : ∃ r, r = Sg.perform D j S o := ⟨_, rfl⟩
  have n1 := nw_alloc z (.cells #[bsV (opE o), bsV Sg.doneE] 9)
  have b1 := heap_new z (.cells #[bsV (opE o), bsV Sg.doneE] 9)
  obtain ⟨z1, hz1⟩ : ∃ y, y = z.alloc (.cells #[bsV (opE o), bsV Sg.doneE] 9) := ⟨_, rfl⟩
  have hs1 : z1.heap.size = z.heap.size + 1 := by rw [hz1, World.size_alloc]
  rw [← hz1] at n1 b1
  have H0 := Lib.hid (show PfI w db x S o r F z1 z.heap.size 0 z1 from ⟨⟨D, j, hr, h.gs.keep n1 (fun k hk => hk.imp id (fun e => by omega))⟩, Upd.refl _ _⟩)
  rw [← hr]
  have H := Lib.hid (h.nw n1)
  have HR := Lib.hid hr
  unfold bsV Sg.doneE at hz1 b1
  have HZ1 := Lib.hid hz1
  have HN1 := Lib.hid n1
  have HB1 := Lib.hid b1
  have HA := Lib.hid ha
  have HBg := Lib.hid hb
  have HOl := Lib.hid ho
  have hzw := h.nw0.size
  clear h n1 b1 hz1 ha hb ho hr
  unfold bsV
  go_enter Tryz.func52, Tryz.ntmps52
  go_upto_region 2 with fail
  rw [← HZ1.out]
  clear HZ1
  go_loopw [12] (fun iv wr => ∃ i : Nat, i ≤ 2 ∧ iv = .int .i64 (i : Int) ∧ Hid (PfI w db x S o r F z1 z.heap.size i wr)) (fun iv _ => 2 - (intOf iv).toNat)
  case atStart => exact ⟨0, by omega, rfl, H0⟩
  case round =>
    obtain ⟨i, hi, rfl, hp⟩ := hrel
    obtain ⟨⟨D1, j1, hr, hgs⟩, hup⟩ := hp.out
    have hst := H.out.st.upd hup (fun k hk e => e.1 (Or.inl (Or.inr hk)))
    obtain ⟨c0, _, _, _, _⟩ := hst.cells
    by_cases hlt : i < 2
    · have hb := hup.keep HB1.out (fun e => e.1 (Or.inr rfl))
      have hcell : wr.cell? ⟨z.heap.size, i, none⟩ = some (.string ⟨(Sg.recI o i).toArray⟩) := by
        rw [cells_cell hb]
        match i, hlt with
        | 0, _ => rfl
        | 1, _ => rfl
      have hsl : (Sg.recI o i).length ≤ 1000000 := by
        have := HOl.out
        unfold Sg.recI Sg.doneE
        split
        · omega
        · simp
      have HAp := Lib.hid (append_t hgs g (Sg.recI o i) hsl)
      have he1 := fun h => Sg.cont_err1 (S := S) (o := o) hlt (D := D1) (j := j1) h
      have he2 := fun {D' : Dk.Disk} {j' : Jr.Jn} h h2 => Sg.cont_err2 (S := S) (o := o) hlt (D := D1) (j := j1) (D' := D') (j' := j') h h2
      have he3 := fun {D' : Dk.Disk} {j' : Jr.Jn} h h2 => Sg.cont_ok (S := S) (o := o) hlt (D := D1) (j := j1) (D' := D') (j' := j') h h2
      generalize Sg.recI o i = s at *
      obtain ⟨⟨D2, j2, e2⟩, hap⟩ : ∃ y, y = Jr.append D1 j1 s := ⟨_, rfl⟩
      rw [← hap] at HAp he1 he2 he3
      dsimp only at HAp he1
      have HUp := Lib.hid hup
      have HRr := Lib.hid hr
      clear hp hgs hst hb hup hr
      by_cases h0 : e2 = 0
      · subst h0
        have HE2 := Lib.hid (fun h2 => he2 (D' := D2) (j' := j2) rfl h2)
        have HE3 := Lib.hid (fun h2 => he3 (D' := D2) (j' := j2) rfl h2)
        clear he1 he2 he3 hap H0
        go_upto_region 7 with (first | (go_at_call 78; with_reducible refine HAp.out.mono ?_; rintro _ w2 ⟨rfl, hg2, u2⟩))
        have U2 := HUp.out.trans u2
        obtain ⟨d0, _, _, _, _⟩ := (H.out.st.upd U2 (fun k hk e => e.1 (Or.inl (Or.inr hk)))).cells
        have HSy := Lib.hid (jsync_t hg2 g)
        obtain ⟨⟨D3, j3, e3⟩, hsy⟩ : ∃ y, y = Jr.syncJ D2 j2 := ⟨_, rfl⟩
        dsimp only at HSy
        rw [← hsy] at HSy HE2 HE3
        dsimp only at HSy HE2 HE3
        have HU2 := Lib.hid U2
        clear hg2 u2 U2 hsy HAp
        by_cases h0 : e3 = 0
        · subst h0
          go_wp2_with (first | (go_at_call 79; with_reducible refine HSy.out.mono ?_; rintro _ w3 ⟨rfl, hg3, u3⟩))
          go_roundw
          case rel => exact ⟨i + 1, by omega, by simp, ⟨D3, j3, HRr.out.trans (HE3.out trivial), hg3⟩, HU2.out.trans u3⟩
          case measure =>
            simp only [intOf]
            omega
        · have hE := Lib.hid (HRr.out.trans (HE2.out h0))
          go_wp2_with (first | (go_at_call 79; with_reducible refine HSy.out.mono ?_; rintro _ w3 ⟨rfl, hg3, u3⟩))
          go_ret
          obtain ⟨k1, k2⟩ := pf_done H.out HN1.out hg3 (HU2.out.trans u3)
          rw [hE.out]
          exact ⟨rfl, x, rfl, k1, k2⟩
      · have hE := Lib.hid (HRr.out.trans (he1 h0))
        clear he1 he2 he3 hap H0
        go_wp2_with (first | (go_at_call 78; with_reducible refine HAp.out.mono ?_; rintro _ w2 ⟨rfl, hg2, u2⟩))
        go_ret
        obtain ⟨k1, k2⟩ := pf_done H.out HN1.out hg2 (HUp.out.trans u2)
        rw [hE.out]
        exact ⟨rfl, x, rfl, k1, k2⟩
    · obtain rfl : i = 2 := by omega
      have HAc := Lib.hid (apply_c (g.upd hgs.nw0) hst HA.out HBg.out HOl.out)
      unfold bsV at HAc
      have HGs := Lib.hid hgs
      have HUp := Lib.hid hup
      have HRr := Lib.hid hr
      clear hp hgs hst hup hr c0 H0 hlt hi
      go_wp2_with (first | (go_at_call 33; with_reducible refine HAc.out.mono ?_; rintro _ w2 ⟨rfl, x', e1, e2, hs2, u2, hf2⟩))
      go_ret
      rw [HRr.out]
      obtain ⟨k1, k2⟩ := pf_done H.out HN1.out HGs.out HUp.out
      have hFlt : ∀ k, F k → k < wr.heap.size := fun k hk => by
        obtain ⟨d, _, _, _, h3, _⟩ := HGs.out
        exact (h3 k (Or.inl (Or.inl hk))).1
      refine ⟨rfl, x', e1, ⟨?_, hs2, fun k hk hk2 => ?_⟩, k2.trans' u2 (fun k hk e => ⟨fun f => H.out.ap k f e, (H.out.st.lt k e).1⟩)⟩
      · rw [e2]
        refine HGs.out.upd_keepS u2 (fun k hk => Or.inl ⟨Or.inl (Or.inr hk), (H.out.st.lt k hk).1⟩) (fun k hk => ?_)
        rcases hk with hk | hk
        · exact Or.inl (Or.inl (Or.inl hk))
        · exact (hf2 k hk).imp (fun h => Or.inl (Or.inr h)) id
      · rcases hf2 k hk2 with h | h
        · exact H.out.ap k hk h
        · have := hFlt k hk; omega
end Go.Proofs.YtiednpagknnfnaaGreatDoor
