/- Layer 3 (journal) in plain words: what is true of a journal's file whatever fails, crashes and is lost (P3.6). No program stands in this text. What is true of a calm disk (up, no crash scheduled, no sync lost): opening a journal. Plain; no program stands in this text. The law JournalStays in plain words: what holds of a disk on which no crash is scheduled, and of the journal in file 0. No program stands in this text. What JournalTorn needs, in plain words: appending on a calm disk; the greatest beginning of the records whose forms are all there. No program stands in this text. Plain: a fetch on a journal. strings.Builder at this seat's numbers: WriteString (copyCheck first), String; a builder that the call has made itself. The contracts of the encoders of layer 1: Int, Num, Text, list[int], list[string], Nums, Texts. The reader of layer 1 in memory, and the contracts of its methods that only look at its string: fail, number, close, Num, Int, Text, Left, Done, Rest, Open. The contracts of the reader's methods Num, Int, Text, Left, Done, Rest, and of Open. The contracts of the disk's Sync and Truncate. The contracts of the journal's Sum and form. The contract of the journal's read. A journal in memory; the contracts of Len, Get, All, Sync. The contract of the journal's Append. The contract of the journal's Open. The example of chapter 03, in plain words. The contracts of the reference's encoders (layer 1). The contracts of the reference's reader (layer 1): it does what the plain reader does. The contracts of the reference's reader (layer 1), second part: number, Num, Int, close, Text, Tail, Left, Done, Open. A disk and perhaps a journal on it, apart from blocks that are kept: the calls of the statements of chapter 03; small. small, of chapter 03. A fetch in memory; Missing, Text, Sync, Take. A fetch, its journal and the disk; Sync, Take. fetch.Take. fetch.Open. -/
import Derived.Test.YtmlmdlbepppnlaaGreatDoorPkFTells1
import Derived.Test.YtmlmdlbepppnlaaGreatDoorPkFTells0
import Derived.WalkMore
import Derived.Laws.CopyOwn
namespace Go.Proofs.YtmlmdlbepppnlaaGreatDoor.Jr
open Go.Lib Go.RowKit
open Dk (Disk Fil)
set_option linter.unusedVariables false
set_option linter.unusedSimpArgs false

theorem get_pre {a b : List UInt8} (h : a <+: b) {k : Nat} (hk : k < a.length) : b[k]? = a[k]? := by
  obtain ⟨r, rfl⟩ := h
  rw [List.getElem?_append_left hk]
theorem pre_get {a b : List UInt8} (hl : a.length ≤ b.length) (h : ∀ k, k < a.length → b[k]? = a[k]?) : a <+: b := by
  rw [List.prefix_iff_eq_take]
  refine List.ext_getElem? (fun k => ?_)
  rw [List.getElem?_take]
  by_cases hk : k < a.length
  · rw [if_pos hk, h k hk]
  · rw [if_neg hk, List.getElem?_eq_none (by omega)]
/-- A sector of N is put into what is left of N. -/
theorem put_tn {s N L : List UInt8} {i : Nat} (h : Tn s N) (h1 : L <+: s) (h2 : L <+: N) (hi : i < N.length) : Tn (Dk.put s i ((N.drop i).take 64)) N ∧ L <+: Dk.put s i ((N.drop i).take 64) := by
  have hl : ((N.drop i).take 64).length = min 64 (N.length - i) := by rw [List.length_take, List.length_drop]
  have hne : (N.drop i).take 64 ≠ [] := fun e => by rw [e] at hl; simp at hl; omega
  have hlen := Dk.put_len s i _ hne
  have hg := Dk.put_get s i _ hne
  rw [tn_iff] at h
  have hin : ∀ k, i ≤ k → k < i + ((N.drop i).take 64).length → ((N.drop i).take 64)[k - i]? = N[k]? := fun k h3 h4 => by
    rw [List.getElem?_take, if_pos (by omega), List.getElem?_drop]
    congr 1
    omega
  refine ⟨?_, ?_⟩
  · rw [tn_iff]
    refine ⟨by omega, fun k hk => ?_⟩
    rw [hg k]
    split
    · split
      · rename_i h4; exact h.2 k h4
      · exact Or.inr rfl
    · split
      · rename_i h3 h4; exact Or.inl (hin k (by omega) h4)
      · rename_i h3 h4; exact h.2 k (by omega)
  · have hll := h1.length_le
    refine pre_get (by omega) (fun k hk => ?_)
    rw [hg k]
    split
    · rw [if_pos (by omega)]; exact get_pre h1 hk
    · split
      · rename_i h3 h4
        rw [hin k (by omega) h4]; exact get_pre h2 hk
      · exact get_pre h1 hk
theorem survives_tn {keep : List Int} {f : Int} {N L : List UInt8} (h2 : L <+: N) : ∀ (q : List (Int × Int)) (i : Nat) (fs : Int → Fil), (fs f).now = N → Tn (fs f).last N → L <+: (fs f).last →
    Tn (Dk.survives keep q i fs f).last N ∧ L <+: (Dk.survives keep q i fs f).last := by
  intro q
  induction q with
  | nil => intro i fs _ h3 h4; exact ⟨h3, h4⟩
  | cons p q ih =>
    intro i fs h1 h3 h4
    have hs : Tn (Dk.survive keep fs p i f).last N ∧ L <+: (Dk.survive keep fs p i f).last := by
      unfold Dk.survive
      split
      · rename_i hc
        by_cases e : f = p.1
        · subst e
          rw [Dk.setF_self]
          dsimp only
          rw [h1] at hc ⊢
          exact put_tn h3 h4 h2 hc.2
        · rw [Dk.setF_ne _ _ e]
          exact ⟨h3, h4⟩
      · exact ⟨h3, h4⟩
    exact ih (i + 1) _ (by rw [Dk.survive_now]; exact h1) hs.1 hs.2
/-- Whatever fails: the file is what is left of the list's forms, and its durable part, a beginning of it, has all that was made sure of. -/
structure Inv (D : Disk) (f : Int) (all sure : List (List UInt8)) : Prop where
  ok : Dk.Ok D
  tn : Tn (D.fs f).now (forms all)
  pre : (D.fs f).last <+: (D.fs f).now
  has : forms sure <+: (D.fs f).last
  small : ∀ a ∈ all, a.length ≤ 2000
  sub : sure <+: all
variable {D : Disk} {f : Int} {all sure : List (List UInt8)}
theorem Inv.of_fs {D' : Disk} (h : Inv D f all sure) (hk : Dk.Ok D') (e : D'.fs = D.fs) : Inv D' f all sure := ⟨hk, by rw [e]; exact h.tn, by rw [e]; exact h.pre, by rw [e]; exact h.has, h.small, h.sub⟩
theorem Inv.more (h : Inv D f all sure) {s : List UInt8} (hs : s.length ≤ 2000) : Inv D f (all ++ [s]) sure :=
  ⟨h.ok, by rw [forms_snoc]; exact tn_more h.tn, h.pre, h.has, fun a ha => by
    rcases List.mem_append.1 ha with ha | ha
    · exact h.small a ha
    · rw [List.mem_singleton.1 ha]; exact hs, h.sub.trans (List.prefix_append _ _)⟩
theorem Inv.crash (h : Inv D f all sure) (keep : List Int) : Inv (Dk.crash D keep) f all sure := by
  have hk := Dk.crash_ok h.ok keep
  unfold Dk.crash at hk ⊢
  split
  · exact h
  · rename_i hd
    rw [if_neg hd] at hk
    obtain ⟨h1, h2⟩ := survives_tn (keep := keep) h.pre D.q 0 D.fs rfl (tn_pre h.pre) (List.prefix_refl _)
    exact ⟨hk, tn_trans h1 h.tn, List.prefix_refl _, h.has.trans h2, h.small, h.sub⟩
theorem counted_fs (D : Disk) : (Dk.counted D).fs = D.fs := by unfold Dk.counted; split <;> rfl
theorem counted_q (D : Disk) : (Dk.counted D).q = D.q := by unfold Dk.counted; split <;> rfl
theorem counted_down (D : Disk) : (Dk.counted D).down = D.down := by unfold Dk.counted; split <;> rfl
theorem counted_keep (D : Disk) : (Dk.counted D).keep = D.keep := by unfold Dk.counted; split <;> rfl
theorem Inv.counted (h : Inv D f all sure) : Inv (Dk.counted D) f all sure := h.of_fs (Dk.counted_ok h.ok) (counted_fs D)
theorem Inv.come (h : Inv D f all sure) : Inv (Dk.come D) f all sure := by
  unfold Dk.come
  split
  · exact h.counted.crash _
  · exact h.counted
theorem put_end (s t : List UInt8) : Dk.put s s.length t = s ++ t := by
  unfold Dk.put
  split
  · rename_i h; rw [h, List.append_nil]
  · rw [List.take_length, Nat.sub_self, List.drop_eq_nil_of_le (by omega)]
    simp
theorem form_ne (s : List UInt8) : form s ≠ [] := fun e => by have := form_pos s; rw [e] at this; cases this
/-- A record's form is added at the end. -/
theorem Inv.write0 (h : Inv D f all sure) (hn : (D.fs f).now = forms all) {s : List UInt8} (hs : s.length ≤ 2000) :
    Inv (Dk.write0 D f (forms all).length (form s)).1 f (all ++ [s]) sure ∧ ((Dk.write0 D f (forms all).length (form s)).2 = 0 → ((Dk.write0 D f (forms all).length (form s)).1.fs f).now = forms (all ++ [s])) := by
  have hk := Dk.write0_ok h.ok f (forms all).length (form s)
  have hm := h.more hs
  unfold Dk.write0 at hk ⊢
  split
  · rename_i h1
    exact ⟨hm, fun e => absurd e h1⟩
  · rename_i h1
    rw [if_neg h1] at hk
    split
    · rename_i h2
      exact ⟨hm, fun e => absurd e h2⟩
    · rename_i h2
      rw [if_neg h2] at hk
      have e1 : ((Dk.add D f (((forms all).length : Int)).toNat (form s)).fs f) = ⟨forms all ++ form s, (D.fs f).last⟩ := by
        unfold Dk.add
        rw [if_neg (form_ne s)]
        dsimp only
        rw [Dk.setF_self, hn, Int.toNat_natCast, put_end]
      refine ⟨⟨hk, ?_, ?_, ?_, hm.small, hm.sub⟩, fun _ => ?_⟩
      · rw [e1, forms_snoc]; exact tn_refl _
      · rw [e1, ← hn]; exact h.pre.trans (List.prefix_append _ _)
      · rw [e1]; exact h.has
      · rw [e1, forms_snoc]
theorem Inv.write (h : Inv D f all sure) (hn : (D.fs f).now = forms all) {s : List UInt8} (hs : s.length ≤ 2000) :
    Inv (Dk.write D f (forms all).length (form s)).1 f (all ++ [s]) sure ∧ ((Dk.write D f (forms all).length (form s)).2 = 0 → ((Dk.write D f (forms all).length (form s)).1.fs f).now = forms (all ++ [s])) := by
  obtain ⟨h1, h2⟩ := h.counted.write0 (by rw [counted_fs]; exact hn) hs
  unfold Dk.write
  split
  · exact ⟨h1.crash _, fun e => by cases e⟩
  · exact ⟨h1, h2⟩
theorem write_up {n : Nat} {s : List UInt8} (hf : 0 ≤ f ∧ f < 16) (hn : n + s.length ≤ 16777216) (hd : D.down = false) (ha : D.armed = 0) :
    (Dk.write D f n s).2 = 0 ∧ (Dk.write D f n s).1 = Dk.add D f n s := by
  have hc : Dk.counted D = D := by unfold Dk.counted; rw [if_pos (Or.inr ha)]
  unfold Dk.write Dk.ends
  rw [hc, hd, ha]
  rw [if_neg (by decide)]
  unfold Dk.write0
  have hm : Dk.may D f = 0 := by unfold Dk.may; rw [hd, if_neg (by decide), if_neg (by omega)]
  have hw : Dk.wErr (n : Int) s.length = 0 := by
    unfold Dk.wErr
    rw [if_neg (by omega), if_neg (by omega)]
  rw [hm, if_neg (by decide), hw, if_neg (by decide)]
  simp
theorem come_down {D : Disk} (h : (Dk.come D).down = false) : Dk.ends D = false ∧ Dk.come D = Dk.counted D ∧ D.down = false := by
  unfold Dk.come at h ⊢
  cases he : Dk.ends D with
  | true =>
    rw [he] at h
    simp only [if_true] at h
    have hd : (Dk.counted D).down = false := by
      rw [counted_down]
      unfold Dk.ends at he
      cases hx : D.down with
      | true => rw [hx] at he; simp at he
      | false => rfl
    unfold Dk.crash at h
    rw [hd] at h
    simp at h
  | false =>
    rw [he, if_neg (by decide)] at h
    rw [counted_down] at h
    exact ⟨rfl, by rw [if_neg (by decide)], h⟩
/-- A sync that is done makes sure of all. -/
theorem sync_done (h : (Dk.sync D f).2 = 0) : ((Dk.sync D f).1.fs f).now = (D.fs f).now ∧ ((Dk.sync D f).1.fs f).last = (D.fs f).now ∧ (Dk.sync D f).1.down = false ∧ 0 ≤ f ∧ f < 16 := by
  unfold Dk.sync at h ⊢
  split at h
  · rename_i h1; exact absurd h h1
  · rename_i h1
    have hm := Dk.may_file (Decidable.not_not.1 h1)
    rw [if_neg h1]
    split at h
    · cases h
    · rename_i h2
      rw [if_neg h2]
      have hc := (come_down hm.1).2.1
      unfold Dk.settle
      dsimp only
      rw [Dk.setF_self, hc, counted_fs]
      exact ⟨rfl, rfl, by rw [← hc]; exact hm.1, hm.2⟩
theorem Inv.settle (h : Inv D f all sure) (hk : Dk.Ok (Dk.settle D f (D.fs f).now)) : Inv (Dk.settle D f (D.fs f).now) f all sure := by
  refine ⟨hk, ?_, ?_, ?_, h.small, h.sub⟩ <;> unfold Dk.settle <;> dsimp only <;> rw [Dk.setF_self]
  · exact h.tn
  · exact List.prefix_refl _
  · exact h.has.trans h.pre
theorem Inv.sync (h : Inv D f all sure) : Inv (Dk.sync D f).1 f all sure := by
  have hk := Dk.sync_ok h.ok f
  have hc := h.come
  unfold Dk.sync at hk ⊢
  split
  · exact hc
  · rename_i h1
    rw [if_neg h1] at hk
    split
    · rename_i h2
      rw [if_pos h2] at hk
      exact hc.of_fs hk rfl
    · rename_i h2
      rw [if_neg h2] at hk
      exact hc.settle hk
theorem sync_err (hf : 0 ≤ f ∧ f < 16) : (Dk.sync D f).2 = 0 ∨ (Dk.sync D f).2 = 8 ∨ (Dk.sync D f).2 = 9 := by
  unfold Dk.sync
  split
  · unfold Dk.may
    split
    · exact Or.inr (Or.inl rfl)
    · rw [if_neg (by omega)]; exact Or.inl rfl
  · split
    · exact Or.inr (Or.inr rfl)
    · exact Or.inl rfl
theorem sync_up (hf : 0 ≤ f ∧ f < 16) (hd : D.down = false) (ha : D.armed = 0) : (Dk.sync D f).2 = (if 0 < D.lost then 9 else 0) ∧ (Dk.sync D f).1.armed = 0 ∧ (Dk.sync D f).1.down = false ∧ (Dk.sync D f).1.lost = (if 0 < D.lost then D.lost - 1 else D.lost) := by
  have hc : Dk.come D = D := by
    unfold Dk.come Dk.ends Dk.counted
    rw [ha, hd]
    simp
  have hm : Dk.may D f = 0 := by unfold Dk.may; rw [hd, if_neg (by decide), if_neg (by omega)]
  unfold Dk.sync
  rw [hc, hm, if_neg (by decide)]
  split
  · exact ⟨rfl, ha, hd, rfl⟩
  · exact ⟨rfl, ha, hd, rfl⟩
/-- The file is cut after its records. -/
theorem trunc_done {n : Int} (hn : 0 ≤ n) (h : (Dk.truncate D f n).2 = 0) : ((Dk.truncate D f n).1.fs f).now = (D.fs f).now.take n.toNat ∧ ((Dk.truncate D f n).1.fs f).last = (D.fs f).now.take n.toNat ∧ (Dk.truncate D f n).1.down = false := by
  unfold Dk.truncate at h ⊢
  split at h
  · rename_i h1; exact absurd h h1
  · rename_i h1
    have hm := Dk.may_file (Decidable.not_not.1 h1)
    rw [if_neg h1]
    split at h
    · cases h
    · rename_i h2
      rw [if_neg h2]
      have hc := (come_down hm.1).2.1
      unfold Dk.settle
      dsimp only
      rw [Dk.setF_self, hc, counted_fs]
      exact ⟨rfl, rfl, by rw [← hc]; exact hm.1⟩
theorem come_now (D : Disk) (f : Int) (h : (D.fs f).last = (D.fs f).now) : ((Dk.come D).fs f).now = (D.fs f).now := by
  unfold Dk.come
  split
  · unfold Dk.crash
    split
    · rw [counted_fs]
    · dsimp only
      rw [counted_fs, counted_q]
      obtain ⟨h1, h2⟩ := survives_tn (keep := D.keep) (f := f) (List.prefix_refl (D.fs f).now) D.q 0 D.fs rfl (by rw [h]; exact tn_refl _) (by rw [h]; exact List.prefix_refl _)
      have := (tn_iff.1 h1).1
      exact (h2.eq_of_length_le this).symm
  · rw [counted_fs]
theorem trunc_err {n : Int} (hf : 0 ≤ f ∧ f < 16) (hn : 0 ≤ n) (hl : (D.fs f).last = (D.fs f).now) (hle : n ≤ (D.fs f).now.length) : (Dk.truncate D f n).2 = 0 ∨ (Dk.truncate D f n).2 = 8 := by
  have hc := come_now D f hl
  unfold Dk.truncate
  split
  · unfold Dk.may
    split
    · exact Or.inr rfl
    · rw [if_neg (by omega)]; exact Or.inl rfl
  · rw [if_neg (by rw [hc]; omega)]
    exact Or.inl rfl
theorem trunc_up {n : Int} (hf : 0 ≤ f ∧ f < 16) (hd : D.down = false) (ha : D.armed = 0) (hn : 0 ≤ n) (hle : n ≤ (D.fs f).now.length) : (Dk.truncate D f n).2 = 0 ∧ (Dk.truncate D f n).1.armed = 0 ∧ (Dk.truncate D f n).1.lost = D.lost := by
  have hc : Dk.come D = D := by
    unfold Dk.come Dk.ends Dk.counted
    rw [ha, hd]
    simp
  have hm : Dk.may D f = 0 := by unfold Dk.may; rw [hd, if_neg (by decide), if_neg (by omega)]
  unfold Dk.truncate
  rw [hc, hm, if_neg (by decide), if_neg (by omega)]
  exact ⟨rfl, ha, rfl⟩
theorem Inv.lists (h : Inv D f all sure) : ∃ m, m ≤ all.length ∧ recs (D.fs f).now = all.take m ∧ sure.length ≤ m := by
  obtain ⟨m, h1, h2, h3, h4⟩ := recs_tn h.tn h.small
  refine ⟨m, h1, h2, h4 sure.length h.sub.length_le ?_⟩
  have e := List.prefix_iff_eq_take.1 h.sub
  rw [← e]
  exact h.has.trans h.pre
/-- What Open leaves, and returns. -/
theorem Inv.open_ (h : Inv D f all sure) (hf : 0 ≤ f ∧ f < 16) :
    ((openJ D f).2.1 = none ∧ ((openJ D f).2.2 = 8 ∨ (openJ D f).2.2 = 9) ∧ Inv (openJ D f).1 f all sure) ∨
    ∃ l, (openJ D f).2.1 = some ⟨f, l, false⟩ ∧ (openJ D f).2.2 = 0 ∧ l <+: all ∧ sure <+: l ∧ Inv (openJ D f).1 f l l ∧ ((openJ D f).1.fs f).now = forms l ∧ (openJ D f).1.down = false := by
  have hs := h.sync
  unfold openJ
  rw [if_neg (by omega)]
  rcases sync_err (D := D) hf with h0 | h0
  · obtain ⟨e1, e2, e3, _⟩ := sync_done h0
    rw [if_neg (by rw [h0]; decide), e1]
    obtain ⟨m, hm, hr, hsm⟩ := h.lists
    rw [hr]
    have hpre : all.take m <+: all := List.take_prefix _ _
    have hsl : sure <+: all.take m := by
      rw [List.prefix_iff_eq_take.1 h.sub]
      exact List.take_prefix_take_left (by omega)
    have hsmall : ∀ a ∈ all.take m, a.length ≤ 2000 := fun a ha => h.small a (List.mem_of_mem_take ha)
    have hfp : forms (all.take m) <+: (D.fs f).now := by rw [← hr]; exact recs_pre _
    have htake : (D.fs f).now.take (forms (all.take m)).length = forms (all.take m) := (List.prefix_iff_eq_take.1 hfp).symm
    split
    · rename_i hlt
      rcases trunc_err (D := (Dk.sync D f).1) (n := ((forms (all.take m)).length : Int)) hf (by omega) (by rw [e1, e2]) (by rw [e1]; omega) with h8 | h8
      · obtain ⟨t1, t2, t3⟩ := trunc_done (by omega) h8
        rw [if_neg (by rw [h8]; decide)]
        rw [e1, Int.toNat_natCast, htake] at t1 t2
        exact Or.inr ⟨all.take m, rfl, rfl, hpre, hsl, ⟨Dk.truncate_ok hs.ok _ _, by rw [t1]; exact tn_refl _, by rw [t1, t2]; exact List.prefix_refl _, by rw [t2]; exact List.prefix_refl _, hsmall, List.prefix_refl _⟩, t1, t3⟩
      · rw [if_pos (by rw [h8]; decide)]
        refine Or.inl ⟨rfl, Or.inl h8, ?_⟩
        have hc := hs.come
        have hk := Dk.truncate_ok hs.ok f ((forms (all.take m)).length : Int)
        unfold Dk.truncate at h8 hk ⊢
        split at h8
        · rename_i h9
          rw [if_pos h9]; exact hc
        · split at h8 <;> cases h8
    · rename_i hlt
      have hle := hfp.length_le
      have heq : forms (all.take m) = (D.fs f).now := hfp.eq_of_length (by omega)
      exact Or.inr ⟨all.take m, rfl, rfl, hpre, hsl, ⟨hs.ok, by rw [e1, heq]; exact tn_refl _, by rw [e1, e2]; exact List.prefix_refl _, by rw [e2, heq]; exact List.prefix_refl _, hsmall, List.prefix_refl _⟩, by rw [e1, heq], e3⟩
  · rw [if_pos (by omega)]
    exact Or.inl ⟨rfl, h0, hs⟩
end Go.Proofs.YtmlmdlbepppnlaaGreatDoor.Jr
namespace Go.Proofs.YtmlmdlbepppnlaaGreatDoor.Jr
open Dk (Disk)
set_option linter.unusedVariables false
set_option linter.unusedSimpArgs false

structure Calm (D : Disk) : Prop where
  down : D.down = false
  armed : D.armed = 0
  lost : D.lost = 0
theorem Calm.may {D : Disk} (h : Calm D) {f : Int} (hf : 0 ≤ f ∧ f < 16) : Dk.may D f = 0 := by
  unfold Dk.may; rw [h.down, if_neg (by decide), if_neg (by omega)]
theorem Calm.write {D : Disk} (h : Calm D) {f : Int} (hf : 0 ≤ f ∧ f < 16) {n : Nat} {s : List UInt8} (hn : n + s.length ≤ 16777216) :
    (Dk.write D f n s).2 = 0 ∧ Calm (Dk.write D f n s).1 ∧ ((Dk.write D f n s).1.fs f).now = Dk.put (D.fs f).now n s ∧ ∀ g, g ≠ f → ((Dk.write D f n s).1.fs g) = D.fs g := by
  obtain ⟨h1, h2⟩ := write_up (f := f) (n := n) (s := s) hf hn h.down h.armed
  rw [h2]
  refine ⟨h1, ?_⟩
  unfold Dk.add
  split
  · rename_i e
    exact ⟨h, by rw [e]; unfold Dk.put; rw [if_pos rfl], fun _ _ => rfl⟩
  · refine ⟨⟨h.down, h.armed, h.lost⟩, ?_, fun g hg => ?_⟩
    · dsimp only; rw [Dk.setF_self]
    · dsimp only; rw [Dk.setF_ne _ _ hg]
/-- A journal is opened. -/
theorem Calm.open_ {D : Disk} (h : Calm D) {f : Int} (hf : 0 ≤ f ∧ f < 16) :
    ∃ D', openJ D f = (D', some ⟨f, recs (D.fs f).now, false⟩, 0) ∧ Calm D' ∧ (D'.fs f).now = forms (recs (D.fs f).now) := by
  obtain ⟨s1, s2, s3, s4⟩ := sync_up (f := f) hf h.down h.armed
  rw [h.lost, if_neg (by omega)] at s1 s4
  obtain ⟨t1, t2, t3, _⟩ := sync_done s1
  have hl := recs_len (D.fs f).now
  unfold openJ
  rw [if_neg (by omega), s1, if_neg (by omega), t1]
  by_cases hlt : (forms (recs (D.fs f).now)).length < (D.fs f).now.length
  · rw [if_pos hlt]
    obtain ⟨q1, q2, q3⟩ := trunc_up (D := (Dk.sync D f).1) (f := f) (n := ((forms (recs (D.fs f).now)).length : Nat)) hf s3 s2 (by omega) (by rw [t1]; omega)
    obtain ⟨r1, r2, r3⟩ := trunc_done (D := (Dk.sync D f).1) (f := f) (n := ((forms (recs (D.fs f).now)).length : Nat)) (by omega) q1
    rw [q1, if_neg (by omega)]
    refine ⟨_, rfl, ⟨r3, q2, q3.trans s4⟩, ?_⟩
    rw [r1, t1, Int.toNat_natCast]
    obtain ⟨r, e, _⟩ := recs_split _ (D.fs f).now (Nat.le_refl _)
    conv => lhs; arg 2; rw [e]
    rw [List.take_left]
  · rw [if_neg hlt]
    refine ⟨_, rfl, ⟨s3, s2, s4⟩, ?_⟩
    rw [t1]
    exact ((recs_pre _).eq_of_length (by omega)).symm
end Go.Proofs.YtmlmdlbepppnlaaGreatDoor.Jr
namespace Go.Proofs.YtmlmdlbepppnlaaGreatDoor.Jr
open Dk (Disk)
set_option linter.unusedVariables false
set_option linter.unusedSimpArgs false

/-- The disk is up, no crash is scheduled; the file is what is left of a list of at most n records of at most 200 bytes, and a journal that is not broken has that list. -/
structure St (D : Disk) (jo : Option Jn) (n : Nat) : Prop where
  down : D.down = false
  armed : D.armed = 0
  inv : ∃ all sure, Inv D 0 all sure ∧ all.length ≤ n ∧ (∀ a ∈ all, a.length ≤ 200) ∧
    ∀ j, jo = some j → j.file = 0 ∧ j.recs.length ≤ n ∧ (∀ a ∈ j.recs, a.length ≤ 200) ∧ (j.broken = false → all = j.recs ∧ (D.fs 0).now = forms all)
theorem St.mono {D : Disk} {jo : Option Jn} {n m : Nat} (h : St D jo n) (hm : n ≤ m) : St D jo m := by
  obtain ⟨h1, h2, all, sure, h3, h4, h5, h6⟩ := h
  exact ⟨h1, h2, all, sure, h3, by omega, h5, fun j hj => ⟨(h6 j hj).1, by have := (h6 j hj).2.1; omega, (h6 j hj).2.2⟩⟩
theorem forms_small {l : List (List UInt8)} {n : Nat} (h : ∀ a ∈ l, a.length ≤ 200) (hn : l.length ≤ n) : (forms l).length ≤ n * 243 := by
  have := forms_len (n := 200) h (by omega)
  exact Nat.le_trans this (Nat.mul_le_mul_right _ hn)
/-- Opening. -/
theorem St.open_ {D : Disk} {jo : Option Jn} {n : Nat} (h : St D jo n) : St (openJ D 0).1 (openJ D 0).2.1 n := by
  obtain ⟨h1, h2, all, sure, h3, h4, h5, h6⟩ := h
  have hs := sync_up (f := 0) (by omega) h1 h2
  have hD : (openJ D 0).1.down = false ∧ (openJ D 0).1.armed = 0 := by
    unfold openJ
    rw [if_neg (by omega)]
    split
    · exact ⟨hs.2.2.1, hs.2.1⟩
    · rename_i e0
      have e0 : (Dk.sync D 0).2 = 0 := Decidable.not_not.1 e0
      split
      · rename_i hlt
        obtain ⟨q1, q2, q3⟩ := trunc_up (D := (Dk.sync D 0).1) (f := 0) (n := ((forms (recs ((Dk.sync D 0).1.fs 0).now)).length : Nat)) (by omega) hs.2.2.1 hs.2.1 (by omega) (by omega)
        obtain ⟨_, _, r3⟩ := trunc_done (D := (Dk.sync D 0).1) (f := 0) (n := ((forms (recs ((Dk.sync D 0).1.fs 0).now)).length : Nat)) (by omega) q1
        rw [if_neg (by omega)]
        exact ⟨r3, q2⟩
      · exact ⟨hs.2.2.1, hs.2.1⟩
  rcases h3.open_ (by omega) with ⟨e1, _, e3⟩ | ⟨l, e1, _, e3, e4, e5, e6, _⟩
  · rw [e1]
    exact ⟨hD.1, hD.2, all, sure, e3, h4, h5, fun j hj => by cases hj⟩
  · rw [e1]
    have hl := e3.length_le
    have hsm : ∀ a ∈ l, a.length ≤ 200 := fun a ha => h5 a (e3.subset ha)
    refine ⟨hD.1, hD.2, l, l, e5, by omega, hsm, fun j hj => ?_⟩
    obtain rfl := Option.some.inj hj
    exact ⟨rfl, by dsimp only; omega, hsm, fun _ => ⟨rfl, e6⟩⟩
/-- A record is appended. -/
theorem St.append {D : Disk} {j : Jn} {n : Nat} (h : St D (some j) n) (hn : n ≤ 100) {s : List UInt8} (hs : s.length ≤ 200) :
    St (append D j s).1 (some (append D j s).2.1) (n + 1) ∧ ((j.broken = true ∧ append D j s = (D, j, 7)) ∨ (j.broken = false ∧ (append D j s).2 = ({ j with recs := j.recs ++ [s] }, 0))) := by
  have hall := h
  obtain ⟨h1, h2, all, sure, h3, h4, h5, h6⟩ := h
  obtain ⟨k1, k2, k3, k4⟩ := h6 j rfl
  cases hb : j.broken with
  | true =>
    have e : Jr.append D j s = (D, j, 7) := by unfold Jr.append; rw [if_pos hb]
    rw [e]
    exact ⟨hall.mono (by omega), Or.inl ⟨rfl, rfl⟩⟩
  | false =>
    obtain ⟨rfl, k5⟩ := k4 hb
    have hfl := forms_small k3 k2
    have hf2 := form_len s (by omega)
    have e : Jr.append D j s = ((Dk.write D 0 (forms j.recs).length (form s)).1, { j with recs := j.recs ++ [s] }, 0) := by
      obtain ⟨w1, _⟩ := write_up (D := D) (f := 0) (n := (forms j.recs).length) (s := form s) (by omega) (by omega) h1 h2
      unfold Jr.append
      rw [if_neg (by rw [hb]; decide), if_neg (by omega), if_neg (by omega), k1, w1, if_neg (by omega)]
    obtain ⟨w1, w2⟩ := write_up (D := D) (f := 0) (n := (forms j.recs).length) (s := form s) (by omega) (by omega) h1 h2
    obtain ⟨i1, i2⟩ := h3.write k5 (s := s) (by omega)
    rw [e]
    have hsm : ∀ a ∈ j.recs ++ [s], a.length ≤ 200 := fun a ha => by
      rcases List.mem_append.1 ha with ha | ha
      · exact k3 a ha
      · rw [List.mem_singleton.1 ha]; exact hs
    refine ⟨⟨?_, ?_, j.recs ++ [s], sure, i1, by rw [List.length_append]; simp; omega, hsm, fun j' hj => ?_⟩, Or.inr ⟨rfl, by simp [hb]⟩⟩
    · dsimp only; rw [w2]; unfold Dk.add; split <;> exact h1
    · dsimp only; rw [w2]; unfold Dk.add; split <;> exact h2
    · obtain rfl := Option.some.inj hj
      exact ⟨k1, by dsimp only; rw [List.length_append]; simp; omega, hsm, fun _ => ⟨rfl, i2 w1⟩⟩
theorem St.sync {D : Disk} {j : Jn} {n : Nat} (h : St D (some j) n) : St (syncJ D j).1 (some (syncJ D j).2.1) n ∧ (syncJ D j).2.1.recs = j.recs ∧
    ((syncJ D j).2.2 = 0 → (syncJ D j).2.1.broken = false ∧ Inv (syncJ D j).1 0 j.recs j.recs) := by
  have hall := h
  obtain ⟨h1, h2, all, sure, h3, h4, h5, h6⟩ := h
  obtain ⟨k1, k2, k3, k4⟩ := h6 j rfl
  cases hb : j.broken with
  | true =>
    have e : syncJ D j = (D, j, 7) := by unfold Jr.syncJ; rw [if_pos hb]
    rw [e]
    exact ⟨hall, rfl, fun e => by cases e⟩
  | false =>
    obtain ⟨rfl, k5⟩ := k4 hb
    have e : syncJ D j = ((Dk.sync D 0).1, { j with broken := decide ((Dk.sync D 0).2 ≠ 0) }, (Dk.sync D 0).2) := by unfold Jr.syncJ; rw [if_neg (by rw [hb]; decide), k1]
    have hs := sync_up (f := 0) (by omega) h1 h2
    rw [e]
    refine ⟨⟨hs.2.2.1, hs.2.1, j.recs, sure, h3.sync, h4, h5, fun j' hj => ?_⟩, rfl, fun e0 => ?_⟩
    · obtain rfl := Option.some.inj hj
      refine ⟨k1, k2, k3, fun hbr => ⟨rfl, ?_⟩⟩
      have e0 : (Dk.sync D 0).2 = 0 := by
        have := of_decide_eq_false hbr
        exact Decidable.not_not.1 this
      dsimp only
      rw [(sync_done e0).1]; exact k5
    · obtain ⟨t1, t2, _⟩ := sync_done e0
      have hi := h3.sync
      refine ⟨by dsimp only at e0 ⊢; rw [e0]; rfl, ⟨hi.ok, hi.tn, hi.pre, ?_, hi.small, List.prefix_refl _⟩⟩
      dsimp only
      rw [t2, k5]
      exact List.prefix_refl _
theorem St.lose {D : Disk} {jo : Option Jn} {n : Nat} (h : St D jo n) {k : Int} (hk : k ≤ 9223372036854775807) : St (Dk.lose D k) jo n := by
  obtain ⟨h1, h2, all, sure, h3, h4, h5, h6⟩ := h
  exact ⟨h1, h2, all, sure, h3.of_fs (Dk.lose_ok h3.ok hk) rfl, h4, h5, h6⟩
/-- A crash, and the start. -/
theorem St.crash {D : Disk} {jo : Option Jn} {n : Nat} (h : St D jo n) (keep : List Int) : St (Dk.start (Dk.crash D keep)) none n := by
  obtain ⟨h1, h2, all, sure, h3, h4, h5, h6⟩ := h
  have hc := h3.crash keep
  refine ⟨rfl, ?_, all, sure, hc.of_fs (Dk.start_ok hc.ok) rfl, h4, h5, fun j hj => by cases hj⟩
  rw [show (Dk.start (Dk.crash D keep)).armed = (Dk.crash D keep).armed from rfl, Dk.crash_eq h1]
end Go.Proofs.YtmlmdlbepppnlaaGreatDoor.Jr
namespace Go.Proofs.YtmlmdlbepppnlaaGreatDoor.Jr
open Dk (Disk)
set_option linter.unusedVariables false
set_option linter.unusedSimpArgs false

/-- A record is appended on a calm disk. -/
theorem Calm.append {D : Disk} (h : Calm D) {f : Int} (hf : 0 ≤ f ∧ f < 16) {L : List (List UInt8)} (hn : (D.fs f).now = forms L) {s : List UInt8} (hs : s.length ≤ 200) (hL : (forms L).length ≤ 100000) :
    ∃ D', append D ⟨f, L, false⟩ s = (D', ⟨f, L ++ [s], false⟩, 0) ∧ Calm D' ∧ (D'.fs f).now = forms (L ++ [s]) ∧ ∀ g, g ≠ f → D'.fs g = D.fs g := by
  have hf2 := form_len s (by omega)
  obtain ⟨e1, e2, e3, e4⟩ := h.write (f := f) hf (n := (forms L).length) (s := form s) (by omega)
  refine ⟨(Dk.write D f (forms L).length (form s)).1, ?_, e2, ?_, e4⟩
  · unfold Jr.append
    rw [if_neg (by simp), if_neg (by omega), if_neg (by dsimp only; omega)]
    dsimp only
    rw [if_neg (by omega)]
  · rw [e3, hn, put_end, forms_snoc]
end Go.Proofs.YtmlmdlbepppnlaaGreatDoor.Jr
namespace Go.Proofs.YtmlmdlbepppnlaaGreatDoor
set_option linter.unusedVariables false
set_option linter.unusedSimpArgs false

namespace Ft
open Dk (Disk)
open Jr (Jn)
def prOf (cs : List (List UInt8)) (s : List UInt8) : Int := idxI (fun x => decide (x = s)) cs
def come (cs : List (List UInt8)) (j : Jn) : List Int := j.recs.map (prOf cs)
/-- All that has come is a chunk. -/
def fitsJ (cs : List (List UInt8)) (m : Ck.Man) (j : Jn) : Bool := (come cs j).all fun p => decide (p ∈ m.chunks)
def fopen (D : Disk) (f : Int) (cs : List (List UInt8)) (m : Ck.Man) : Disk × Option Jn × Int :=
  if rightM cs m = false then (D, none, 1)
  else if (Jr.openJ D f).2.2 ≠ 0 then ((Jr.openJ D f).1, none, (Jr.openJ D f).2.2)
  else match (Jr.openJ D f).2.1 with
    | none => ((Jr.openJ D f).1, none, 28)
    | some j => if fitsJ cs m j then ((Jr.openJ D f).1, some j, 0) else ((Jr.openJ D f).1, none, 28)
def take (D : Disk) (cs : List (List UInt8)) (m : Ck.Man) (j : Jn) (i : Int) (t : List UInt8) : Disk × Jn × Int :=
  if i < 0 ∨ (m.chunks.length : Int) ≤ i then (D, j, 3)
  else if checkM cs m.chunks i t = false then (D, j, 28)
  else if m.chunks.getD i.toNat 0 ∈ come cs j then (D, j, 0)
  else Jr.append D j t
def gone (cs : List (List UInt8)) (m : Ck.Man) (j : Jn) : List Int := miss m.chunks (come cs j)
def ftext (cs : List (List UInt8)) (m : Ck.Man) (j : Jn) : List UInt8 × Int := if gone cs m j = [] then (textAtU cs m.print, 0) else ([], 33)
theorem open_err (D : Disk) (f : Int) : ((Jr.openJ D f).2.2 = 0 ↔ (Jr.openJ D f).2.1.isSome = true) := by
  unfold Jr.openJ
  split
  · simp
  · split
    · next h => simp; exact h
    · split
      · split
        · next h => simp; exact h
        · simp
      · simp
theorem append_recs (D : Disk) (j : Jn) (s : List UInt8) : ((Jr.append D j s).2.2 = 0 ∧ (Jr.append D j s).2.1.recs = j.recs ++ [s]) ∨ ((Jr.append D j s).2.2 ≠ 0 ∧ (Jr.append D j s).2.1.recs = j.recs) := by
  unfold Jr.append
  split
  · exact Or.inr ⟨(by show (7 : Int) ≠ 0; decide), rfl⟩
  · split
    · exact Or.inr ⟨(by show (3 : Int) ≠ 0; decide), rfl⟩
    · split
      · exact Or.inr ⟨(by show (6 : Int) ≠ 0; decide), rfl⟩
      · split
        · next h => exact Or.inr ⟨h, rfl⟩
        · exact Or.inl ⟨rfl, rfl⟩
theorem sync_recs (D : Disk) (j : Jn) : (Jr.syncJ D j).2.1.recs = j.recs := by unfold Jr.syncJ; split <;> rfl
end Ft
end Go.Proofs.YtmlmdlbepppnlaaGreatDoor
namespace Go.Proofs.YtmlmdlbepppnlaaGreatDoor
open Go.RowKit
set_option linter.unusedVariables false
set_option linter.unusedSimpArgs false

end Go.Proofs.YtmlmdlbepppnlaaGreatDoor
namespace Go.Proofs.YtmlmdlbepppnlaaGreatDoor
open Go.RowKit
set_option linter.unusedVariables false
set_option linter.unusedSimpArgs false
attribute [local irreducible] Calls

theorem Int_e (n : Int) (w : World) (g : Gl w) (h : I64 n) :
    Calls Tryz.prog 124 #[.int .i64 n] w fun e w' => e = .returned (.string ⟨(Wire.intE n).toArray⟩) ∧ Nw w w' := by
  have hl := itoa_le h
  go_enter Tryz.func124, Tryz.ntmps124
  go_wp2_with fail
  (with_reducible refine (Itoa_c n _ g h).mono ?_)
  rintro _ w1 ⟨rfl, u1⟩
  go_wp2_with fail
  go_ret
  exact ⟨rfl, u1⟩
theorem Num_e (n : Int) (w : World) (g : Gl w) (h : I64 n) :
    Calls Tryz.prog 106 #[.int .i64 n] w fun e w' => e = .returned (.string ⟨(Wire.numE n).toArray⟩) ∧ Nw w w' := by
  by_cases hn : n < 0
  · go_enter Tryz.func106, Tryz.ntmps106
    go_wp2_with fail
    go_ret
    rw [show Wire.numE n = [] from if_pos hn]
    exact ⟨rfl, Upd.refl _ _⟩
  · go_enter Tryz.func106, Tryz.ntmps106
    go_wp2_with fail
    (with_reducible refine (Int_e n _ g h).mono ?_)
    rintro _ w1 ⟨rfl, u1⟩
    go_wp2_with fail
    go_ret
    rw [show Wire.numE n = Wire.intE n from if_neg (by omega)]
    exact ⟨rfl, u1⟩
theorem Text_e (s : ByteArray) (l : List UInt8) (hs : s.data.toList = l) (w : World) (g : Gl w) (h : l.length ≤ 140737488351232) :
    Calls Tryz.prog 105 #[.string s] w fun e w' => e = .returned (.string ⟨(Wire.textE l).toArray⟩) ∧ Nw w w' := by
  have hz := bs_size s
  rw [hs] at hz
  have hi : I64 s.size := by unfold I64; omega
  have hl := itoa_le hi
  have Hz := Lib.hid hz
  replace hz : s.size ≤ 140737488351232 := by omega
  go_enter Tryz.func105, Tryz.ntmps105
  go_wp2_with fail
  (with_reducible refine (Itoa_c _ _ g hi).mono ?_)
  rintro _ w1 ⟨rfl, u1⟩
  go_wp2_with fail
  go_ret
  refine ⟨ret_bs ?_, u1⟩
  simp only [bs_append_list, bs_list, hs, Hz.out]
  rfl
end Go.Proofs.YtmlmdlbepppnlaaGreatDoor
namespace Go.Proofs.YtmlmdlbepppnlaaGreatDoor
open Go.RowKit
set_option linter.unusedVariables false
set_option linter.unusedSimpArgs false
attribute [local irreducible] Calls

/-- At block b lies a reader (of the type T) in the state st. -/
def Rdr (T : TypeId) (w : World) (b : Nat) (st : Wire.St) : Prop := nG ≤ b ∧ w.heap[b]? = some (.cells #[.string ⟨(st.getD []).toArray⟩, .bool st.isNone] T (0, 0))
abbrev tR : TypeId := 151
theorem Rdr.lt {T : TypeId} {w : World} {b : Nat} {st : Wire.St} (h : Rdr T w b st) : b < w.heap.size := lt_of_block h.2
theorem Rdr.c0 {T : TypeId} {w : World} {b : Nat} {st : Wire.St} (h : Rdr T w b st) : w.cell? ⟨b, 0, none⟩ = some (.string ⟨(st.getD []).toArray⟩) := by rw [cells_cell h.2]; rfl
theorem Rdr.c1 {T : TypeId} {w : World} {b : Nat} {st : Wire.St} (h : Rdr T w b st) : w.cell? ⟨b, 1, none⟩ = some (.bool st.isNone) := by rw [cells_cell h.2]; rfl
theorem Rdr.fz {T : TypeId} {w : World} {b : Nat} {st : Wire.St} (h : Rdr T w b st) (i : Nat) : w.frozen? ⟨b, i, none⟩ = false := cells_frozen h.2 i
theorem Rdr.upd {T : TypeId} {S : Nat → Prop} {w w' : World} {b : Nat} {st : Wire.St} (h : Rdr T w b st) (u : Upd S w w') (hn : ¬ S b) : Rdr T w' b st := ⟨h.1, u.keep h.2 hn⟩
theorem Rdr.nw {T : TypeId} {w w' : World} {b : Nat} {st : Wire.St} (h : Rdr T w b st) (u : Nw w w') : Rdr T w' b st := h.upd u id
theorem Rdr.set0 {T : TypeId} {w : World} {b : Nat} {st : Wire.St} (h : Rdr T w b st) (s : ByteArray) (r : List UInt8) (hs : st.isNone = false) (hr : s.data.toList = r) : Rdr T (w.setCell ⟨b, 0, none⟩ (.string s)) b (some r) := by
  refine ⟨h.1, ?_⟩
  rw [setCell_block h.2, hs, ← bs_eta s, hr]
  rfl
theorem Rdr.setr {T : TypeId} {w : World} {b : Nat} {st : Wire.St} (h : Rdr T w b st) (s : ByteArray) (st' : Wire.St) (hs : st'.isNone = st.isNone) (hr : s.data.toList = st'.getD []) : Rdr T (w.setCell ⟨b, 0, none⟩ (.string s)) b st' := by
  refine ⟨h.1, ?_⟩
  rw [setCell_block h.2, ← hs, ← bs_eta s, hr]
  rfl
theorem Rdr.set_fail {T : TypeId} {w : World} {b : Nat} {st : Wire.St} (h : Rdr T w b st) : Rdr T ((w.setCell ⟨b, 0, none⟩ (.string ⟨#[]⟩)).setCell ⟨b, 1, none⟩ (.bool true)) b none := by
  refine ⟨h.1, ?_⟩
  rw [setCell_block (setCell_block h.2 _ _)]
  rfl
theorem Rdr.set_same {T : TypeId} {w : World} {b : Nat} {st : Wire.St} (h : Rdr T w b st) : Rdr T (w.setCell ⟨b, 0, none⟩ (.string ⟨(st.getD []).toArray⟩)) b st := by
  refine ⟨h.1, ?_⟩
  rw [setCell_block h.2]
  rfl
set_option maxHeartbeats 400000 in
theorem fail_c (b : Nat) (st : Wire.St) (w : World) (h : Rdr tR w b st) :
    Calls Tryz.prog 118 #[.pointer (some ⟨b, 0, none⟩)] w fun e w' => e = .returned (.tuple #[]) ∧ Rdr tR w' b none ∧ Upd (· = b) w w' := by
  have c0 := h.c0
  have c1 := h.c1
  have f0 := h.fz 0
  have f1 := h.fz 1
  go_enter Tryz.func118, Tryz.ntmps118
  go_wp2
  go_end0
  exact ⟨rfl, h.set_fail, ((Upd.refl _ _).set1 h.1 _ _).set1 h.1 _ _⟩
theorem c58 : (58 : Int) = ((58 : UInt8).toNat : Int) := rfl
theorem c59 : (59 : Int) = ((59 : UInt8).toNat : Int) := rfl
theorem c91 : (91 : Int) = ((91 : UInt8).toNat : Int) := rfl
theorem c93 : (93 : Int) = ((93 : UInt8).toNat : Int) := rfl
theorem c44 : (44 : Int) = ((44 : UInt8).toNat : Int) := rfl
set_option maxHeartbeats 400000 in
theorem number_c (b : Nat) (st : Wire.St) (c : UInt8) (ci least : Int) (hci : ci = c.toNat) (w : World) (g : Gl w) (h : Rdr tR w b st) (hl : (st.getD []).length ≤ 9223372036854775807) :
    Calls Tryz.prog 117 #[.pointer (some ⟨b, 0, none⟩), .int .u8 ci, .int .i64 least] w fun e w' =>
      e = .returned (.int .i64 (Wire.rNumber st c least).1) ∧ Rdr tR w' b (Wire.rNumber st c least).2 ∧ Upd (· = b) w w' := by
  have c0 := h.c0
  have c1 := h.c1
  have f0 := h.fz 0
  have f1 := h.fz 1
  subst hci
  go_enter Tryz.func117, Tryz.ntmps117
  go_wp2
  go_quiet (fail)
  go_wp2_with fail
  obtain ⟨w1, e1, u1⟩ := nw_drewN w nq
  rw [e1]; clear e1
  replace h := h.nw u1
  replace g := g.upd u1
  obtain ⟨hd, ehd⟩ : ∃ hd : ByteArray, ({ data := (Option.getD st []).toArray } : ByteArray).extract 0 (min (↑(Option.getD st []).length) (21 : Int)).toNat = hd := ⟨_, rfl⟩
  have Hd : Hid (hd.data.toList = (st.getD []).take 21) := by rw [← ehd]; show _ = _; rw [bs_extract_list]; simp; omega
  have hds : hd.size = min 21 (st.getD []).length := by rw [bs_size, Hd.out, List.length_take]
  rw [ehd]; clear ehd
  (with_reducible refine (IndexByte_l hd c ((st.getD []).take 21) Hd.out _).mono ?_)
  rintro _ _ ⟨rfl, rfl⟩
  have i0 := Lib.indexByte_ge ((st.getD []).take 21) c
  have i1 := Wire.indexByte_lt ((st.getD []).take 21) c
  generalize hi : Lib.indexByte ((st.getD []).take 21) c = i at *
  have Hi := Lib.hid hi; clear hi
  rw [List.length_take, ← hds] at i1
  have i2 : i ≤ 20 := by omega
  have i3 : i < ((st.getD []).length : Int) := by omega
  have Hds := Lib.hid hds; clear hds
  go_wp2_with fail
  · (with_reducible refine (fail_c b st _ h).mono ?_)
    rintro _ w' ⟨rfl, h', u'⟩
    go_wp2_with fail
    go_ret
    rw [Wire.rNumber_neg (by rw [Hi.out]; assumption)]
    exact ⟨rfl, h', u1.trans u'⟩
  · have hs := Wire.isSome_of_index Hi.out (by assumption)
    have h0i : 0 ≤ i := by assumption
    obtain ⟨hp, ehp⟩ : ∃ hp : ByteArray, hd.extract 0 i.toNat = hp := ⟨_, rfl⟩
    have Hp : Hid (hp.data.toList = (st.getD []).take i.toNat) := by rw [← ehp]; show _ = _; rw [bs_extract_list, Hd.out]; have := Hds.out; simp [List.take_take]; omega
    rw [ehp]
    (with_reducible refine (Atoi_l hp ((st.getD []).take i.toNat) Hp.out _ g (by simp; omega)).mono ?_)
    rintro _ w2 ⟨n, v, rfl, hn, hv, u2⟩
    replace h := h.nw u2
    replace g := g.upd u2
    replace c0 := h.c0
    replace f0 := h.fz 0
    have h1 : i ≤ (hd.size : Int) := by omega
    rcases hv with ⟨rfl, hv⟩ | ⟨⟨tv, pv, rfl⟩, hv⟩
    · by_cases he : Lib.itoa n = (st.getD []).take i.toNat
      · have hb : (Lib.itoa n == hp.toList) = true := by rw [bs_toList, Hp.out, he]; simp
        have Hn := Lib.hid (Wire.rNumber_some (least := least) Hi.out h0i (Wire.numOf_eq hv he))
        have He := Lib.hid he; clear he
        have Hv := Lib.hid hv; clear hv
        by_cases hlt : n < least
        · have hdl : decide (n < least) = true := by simpa using hlt
          go_wp2_with fail
          refine wp_region_nw (by kernel_rfl) (by kernel_rfl) ?_
          repeat (go_big_quiet_step ((go_at_call 123; exact later_call (Itoa_c n _ (g.upd (Later.nw _)) hn))))
          refine wpQuiet_nil ?_
          intro w3 u3
          replace u3 := later_out u3
          replace h := h.nw u3
          go_wp2_with fail
          (with_reducible refine (fail_c b st _ h).mono ?_)
          rintro _ w' ⟨rfl, h', u'⟩
          go_wp2_with fail
          go_ret
          rw [Hn.out, if_pos hlt]
          exact ⟨rfl, h', Nw.trans u1 (Nw.trans u2 (Nw.trans u3 u'))⟩
        · have hdl : decide (n < least) = false := by simpa using hlt
          go_wp2_with fail
          refine wp_region_nw (by kernel_rfl) (by kernel_rfl) ?_
          repeat (go_big_quiet_step ((go_at_call 123; exact later_call (Itoa_c n _ (g.upd (Later.nw _)) hn))))
          refine wpQuiet_nil ?_
          intro w3 u3
          replace u3 := later_out u3
          replace h := h.nw u3
          replace c0 := h.c0
          replace f0 := h.fz 0
          go_wp2_with fail
          go_ret
          rw [Hn.out, if_neg (by omega)]
          exact ⟨rfl, h.set0 _ _ hs (by rw [bs_extract_list, bs_list, List.take_of_length_le (by simp <;> omega)]; congr 1 <;> omega), Nw.trans u1 (Nw.trans u2 (Nw.trans u3 ((Upd.refl _ _).set1 h.1 _ _)))⟩
      · have hb : (Lib.itoa n == hp.toList) = false := by rw [bs_toList, Hp.out]; simpa using he
        have Hn := Lib.hid (Wire.numOf_ne hv he)
        have Hv := Lib.hid hv; clear hv
        have He := Lib.hid he; clear he
        go_wp2_with fail
        refine wp_region_nw (by kernel_rfl) (by kernel_rfl) ?_
        repeat (go_big_quiet_step ((go_at_call 123; exact later_call (Itoa_c n _ (g.upd (Later.nw _)) hn))))
        refine wpQuiet_nil ?_
        intro w3 u3
        replace u3 := later_out u3
        replace h := h.nw u3
        go_wp2_with fail
        (with_reducible refine (fail_c b st _ h).mono ?_)
        rintro _ w' ⟨rfl, h', u'⟩
        go_wp2_with fail
        go_ret
        rw [Wire.rNumber_none Hi.out h0i Hn.out]
        exact ⟨rfl, h', Nw.trans u1 (Nw.trans u2 (Nw.trans u3 u'))⟩
    · go_wp2_with fail
      go_quiet (fail)
      obtain ⟨w3, e3, u3⟩ := nw_drewN w2 nq
      rw [e3]; clear e3
      replace h := h.nw u3
      go_wp2_with fail
      (with_reducible refine (fail_c b st _ h).mono ?_)
      rintro _ w' ⟨rfl, h', u'⟩
      go_wp2_with fail
      go_ret
      rw [Wire.rNumber_none Hi.out (by assumption) (Wire.numOf_none hv)]
      exact ⟨rfl, h', Nw.trans u1 (Nw.trans u2 (Nw.trans u3 u'))⟩

set_option maxHeartbeats 400000 in
theorem close_c (b : Nat) (st : Wire.St) (c : UInt8) (w : World) (h : Rdr tR w b st) :
    Calls Tryz.prog 119 #[.pointer (some ⟨b, 0, none⟩), .string ⟨#[c]⟩] w fun e w' =>
      e = .returned (.tuple #[]) ∧ Rdr tR w' b (Wire.rClose st c) ∧ Upd (· = b) w w' := by
  have c0 := h.c0
  have c1 := h.c1
  have f0 := h.fz 0
  have f1 := h.fz 1
  go_enter Tryz.func119, Tryz.ntmps119
  go_wp2_with fail
  (with_reducible refine (CutPrefix_c _ _ _).mono ?_)
  rintro _ _ ⟨rfl, rfl⟩
  cases hp : Lib.hasPrefix (st.getD []) [c] with
  | false =>
    have ht := Wire.trimPrefix_no hp
    go_wp2_with fail
    (with_reducible refine (fail_c b st _ h.set_same).mono ?_)
    rintro _ w' ⟨rfl, h', u'⟩
    go_wp2_with fail
    go_end0
    rw [Wire.rClose_no hp]
    exact ⟨rfl, h', ((Upd.refl _ _).set1 h.1 _ _).trans u'⟩
  | true =>
    have hr := Wire.rClose_yes hp
    go_wp2_with fail
    go_end0
    rw [hr.2]
    exact ⟨rfl, h.set0 _ _ hr.1 (bs_list _), (Upd.refl _ _).set1 h.1 _ _⟩
end Go.Proofs.YtmlmdlbepppnlaaGreatDoor
namespace Go.Proofs.YtmlmdlbepppnlaaGreatDoor
open Go.RowKit
set_option linter.unusedVariables false
set_option linter.unusedSimpArgs false
attribute [local irreducible] Calls

theorem Num_r (b : Nat) (st : Wire.St) (w : World) (g : Gl w) (h : Rdr tR w b st) (hl : (st.getD []).length ≤ 9223372036854775807) :
    Calls Tryz.prog 94 #[.pointer (some ⟨b, 0, none⟩)] w fun e w' =>
      e = .returned (.int .i64 (Wire.rNum st).1) ∧ Rdr tR w' b (Wire.rNum st).2 ∧ Upd (· = b) w w' := by
  go_enter Tryz.func94, Tryz.ntmps94
  go_wp2_with fail
  (with_reducible refine (number_c b st 59 59 _ c59 _ g h hl).mono ?_)
  rintro _ w' ⟨rfl, h', u'⟩
  go_wp2_with fail
  go_ret
  exact ⟨rfl, h', u'⟩
set_option maxHeartbeats 400000 in
theorem Text_r (b : Nat) (st : Wire.St) (w : World) (g : Gl w) (h : Rdr tR w b st) (hl : (st.getD []).length ≤ 9223372036854775807) :
    Calls Tryz.prog 93 #[.pointer (some ⟨b, 0, none⟩)] w fun e w' =>
      e = .returned (.string ⟨(Wire.rText st).1.toArray⟩) ∧ Rdr tR w' b (Wire.rText st).2 ∧ Upd (· = b) w w' := by
  have hle := Wire.rNumber_le st 58 0
  have hn0 := Wire.rNumber_least st 58 0 (Int.le_refl 0)
  go_enter Tryz.func93, Tryz.ntmps93
  go_wp2_with fail
  (with_reducible refine (number_c b st 58 58 _ c58 _ g h hl).mono ?_)
  rintro _ w1 ⟨rfl, h1, u1⟩
  cases hq : Wire.rNumber st 58 0 with
  | mk n s1 =>
  rw [hq] at hle hn0 h1
  have Hq := Lib.hid hq; clear hq
  replace hle : (s1.getD []).length ≤ (st.getD []).length := hle
  replace hn0 : 0 ≤ n := hn0
  replace h1 : Rdr tR w1 b s1 := h1
  have c0 := h1.c0
  have c1 := h1.c1
  have f0 := h1.fz 0
  have f1 := h1.fz 1
  by_cases hfar : ((s1.getD []).length : Int) < n
  · go_wp2_with fail
    (with_reducible refine (fail_c b s1 _ h1).mono ?_)
    rintro _ w2 ⟨rfl, h2, u2⟩
    go_wp2_with fail
    go_ret
    have e : Wire.rText st = ([], none) := by
      cases s1 with
      | none => exact Wire.rText_none Hq.out
      | some r => exact Wire.rText_far Hq.out hfar
    rw [e]
    exact ⟨rfl, h2, u1.trans u2⟩
  · have hs1 : s1 = none → n = 0 := fun e => Wire.rNumber_zero (by rw [Hq.out, e])
    have h2 : ∀ s : ByteArray, s.data.toList = (s1.getD []).drop n.toNat → Rdr tR (w1.setCell ⟨b, 0, none⟩ (.string s)) b (s1.map fun r => r.drop n.toNat) := fun s hs => by
      refine h1.setr s _ (by cases s1 <;> rfl) ?_
      rw [hs]
      cases s1 <;> simp
    have Hs1 := Lib.hid hs1; clear hs1
    have H2 := Lib.hid h2; clear h2
    go_wp2_with fail
    (with_reducible refine (close_c b (s1.map fun r => r.drop n.toNat) 44 _ (H2.out _ (by rw [bs_extract_list, bs_list, List.take_of_length_le (by simp)]))).mono ?_)
    rintro _ w3 ⟨rfl, h3, u3⟩
    have d1 := h3.c1
    have hc : Wire.rText st = ((if (Wire.rClose (s1.map fun r => r.drop n.toNat) 44).isNone then [] else (s1.getD []).take n.toNat), Wire.rClose (s1.map fun r => r.drop n.toNat) 44) := by
      cases s1 with
      | none => exact Wire.rText_none Hq.out
      | some r =>
        cases hx : Wire.rClose (some (r.drop n.toNat)) 44 with
        | none => rw [Wire.rText_open Hq.out (by simpa using hfar) hx]; simp [hx]
        | some r' => rw [Wire.rText_ok Hq.out (by simpa using hfar) hx]; simp [hx]
    have Hc := Lib.hid hc; clear hc
    generalize Wire.rClose (s1.map fun r => r.drop n.toNat) 44 = s3 at *
    cases s3 with
    | none =>
      go_wp2_with fail
      go_ret
      rw [Hc.out]
      exact ⟨rfl, h3, u1.trans (((Upd.refl _ _).set1 h1.1 _ _).trans u3)⟩
    | some r3 =>
      go_wp2_with fail
      go_ret
      rw [Hc.out]
      refine ⟨?_, h3, u1.trans (((Upd.refl _ _).set1 h1.1 _ _).trans u3)⟩
      rw [show (Value.string (ByteArray.extract ⟨(s1.getD []).toArray⟩ 0 n.toNat)) = .string ⟨((s1.getD []).take n.toNat).toArray⟩ by rw [bs_extract]; simp]
      rfl
theorem Open_r (s : ByteArray) (l : List UInt8) (hs : s.data.toList = l) (w : World) (g : Gl w) :
    Calls Tryz.prog 92 #[.string s] w fun e w' => ∃ b, e = .returned (.pointer (some ⟨b, 0, none⟩)) ∧ w.heap.size ≤ b ∧ Rdr tR w' b (some l) ∧ Nw w w' := by
  go_enter Tryz.func92, Tryz.ntmps92
  go_wp2
  go_ret
  refine ⟨_, rfl, Nat.le_refl _, ⟨g.big, ?_⟩, (Upd.refl _ _).alloc _⟩
  rw [heap_new, ← bs_eta s, hs]
  rfl
end Go.Proofs.YtmlmdlbepppnlaaGreatDoor
namespace Go.Proofs.YtmlmdlbepppnlaaGreatDoor
open Go.RowKit
set_option linter.unusedVariables false
set_option linter.unusedSimpArgs false
attribute [local irreducible] Calls

/-- What lies before and after the crash that a call may begin with. -/
structure Came (B : Nat) (w : World) (r : DiskR) (D D1 : Dk.Disk) (w1 : World) (r1 : DiskR) : Prop where
  at0 : DiskAt B w r D
  at1 : DiskAt B w1 r1 D1
  db : r1.db = r.db
  upd : Upd r.foot w w1
  foot : ∀ j, r1.foot j → r.foot j ∨ w.heap.size ≤ j
theorem Came.to {B : Nat} {w w1 : World} {r r1 : DiskR} {D D1 : Dk.Disk} (h : Came B w r D D1 w1 r1) : DiskTo B r D1 w w1 := ⟨r1, h.at1, h.db, h.upd, h.foot⟩
theorem Came.then_ {B : Nat} {w w1 w2 : World} {r r1 : DiskR} {D D1 D2 : Dk.Disk} (h : Came B w r D D1 w1 r1) (h2 : DiskTo B r1 D2 w1 w2) : DiskTo B r D2 w w2 := DiskTo.then_ h.at0 h.at1 h.db h.upd h.foot h2
theorem DiskTo.came {B : Nat} {w w1 : World} {r : DiskR} {D D1 : Dk.Disk} (h0 : DiskAt B w r D) (h : DiskTo B r D1 w w1) : ∃ r1, Came B w r D D1 w1 r1 := by
  obtain ⟨r1, a, b, c, d⟩ := h
  exact ⟨r1, h0, a, b, c, d⟩
set_option maxHeartbeats 1000000 in
set_option maxRecDepth 100000 in
theorem sync_c {B : Nat} {w : World} {r : DiskR} {D : Dk.Disk} (h : DiskAt B w r D) (g : Gl w) (hB : B ≤ w.heap.size) {f : Int} (hf : I64 f) :
    Calls Tryz.prog 66 #[.pointer (some ⟨r.db, 0, none⟩), .int .i64 f] w fun e w' => e = .returned (.int .i64 (Dk.sync D f).2) ∧ DiskTo B r (Dk.sync D f).1 w w' := by
  have hgb := g.big
  have he := Lib.hid (ends_c h)
  have H := Lib.hid h
  have HB := Lib.hid hB
  have HF := Lib.hid hf
  clear h hB hf
  go_enter Tryz.func66, Tryz.ntmps66
  go_wp2_with fail
  (with_reducible refine (he.out).mono ?_)
  rintro _ w1 ⟨rfl, hT1⟩
  obtain ⟨r1, hcm⟩ := DiskTo.came H.out hT1
  have C1 := Lib.hid hcm
  clear hT1 he hcm
  generalize hE : Dk.ends D = E at *
  cases E with
  | true =>
    have hcome : Hid (Dk.crash (Dk.counted D) (Dk.counted D).keep = Dk.come D) := by show _ = _; unfold Dk.come; rw [hE, if_pos rfl, counted_keep]
    have c6 := C1.out.at1.cells.2.2.2.2.2.2
    rw [C1.out.db] at c6
    have hc := crash_c C1.out.at1 (g.upd C1.out.upd) (Nat.le_trans HB.out C1.out.upd.size) B w1.heap.size r1.kv (Dk.counted D).keep (keep_sl C1.out.at1) C1.out.at1.kI
    rw [C1.out.db] at hc
    obtain ⟨ak, ck, hkv⟩ := own_slD C1.out.at1.keep
    rw [hkv] at hc c6
    have Hc := Lib.hid hc
    clear hc hE
    go_wp2_with fail
    (with_reducible refine Hc.out.mono ?_)
    rintro _ w2 ⟨rfl, hT2⟩
    rw [hcome.out] at hT2
    obtain ⟨r2, hcm⟩ := DiskTo.came H.out (C1.out.then_ hT2)
    have C2 := Lib.hid hcm
    clear hT2 hcm Hc c6 hkv
    have hm := may_c C2.out.at1 f
    rw [C2.out.db] at hm
    have Hm := Lib.hid hm
    have hr0 : Dk.sync D f = if Dk.may (Dk.come D) f ≠ 0 then (Dk.come D, Dk.may (Dk.come D) f) else if 0 < (Dk.come D).lost then ({ Dk.come D with lost := (Dk.come D).lost - 1 }, 9) else (Dk.settle (Dk.come D) f ((Dk.come D).fs f).now, 0) := rfl
    generalize hD' : Dk.come D = D' at *
    clear hm hD'
    by_cases hm0 : Dk.may D' f = 0
    rotate_left
    · have hr : Hid (Dk.sync D f = (D', Dk.may D' f)) := by show _ = _; rw [hr0, if_pos hm0]
      have d0 : (Dk.may D' f == 0) = false := beq_eq_false_iff_ne.2 hm0
      have d1 : (Dk.may D' f != 0) = true := by simp [hm0]
      clear hm0 hr0
      go_wp2_with fail
      (with_reducible refine Hm.out.mono ?_)
      rintro _ _ ⟨rfl, rfl⟩
      go_wp2_with fail
      go_ret
      exact ⟨by rw [hr.out]; rfl, by rw [hr.out]; exact C2.out.to⟩
    rw [hm0] at Hm
    have c3 := C2.out.at1.cells.2.2.2.1
    rw [C2.out.db] at c3
    have hlo := C2.out.at1.ok.lost
    by_cases hl : 0 < D'.lost
    · have hr : Hid (Dk.sync D f = ({ D' with lost := D'.lost - 1 }, 9)) := by show _ = _; rw [hr0, if_neg (by omega), if_pos hl]
      have hT := DiskTo.set (D' := { D' with lost := D'.lost - 1 }) C2.out.at1 3 (.int .i64 (D'.lost - 1)) rfl rfl rfl rfl ⟨C2.out.at1.ok.now, C2.out.at1.ok.last, C2.out.at1.ok.q, C2.out.at1.ok.nd, ⟨by dsimp only; omega, by dsimp only; omega⟩, C2.out.at1.ok.armed⟩
      have HT := Lib.hid (C2.out.then_ hT)
      rw [C2.out.db] at HT
      have f3 := C2.out.at1.frozen 3
      rw [C2.out.db] at f3
      have hl1 : 0 ≤ D'.lost - 1 := by omega
      have hl2 : D'.lost ≤ 9223372036854775807 := hlo.2
      clear hT hr0 hm0 hlo
      go_wp2_with fail
      (with_reducible refine Hm.out.mono ?_)
      rintro _ _ ⟨rfl, rfl⟩
      go_wp2_with fail
      go_ret
      exact ⟨by rw [hr.out]; rfl, by rw [hr.out]; exact HT.out⟩
    have hr : Hid (Dk.sync D f = (Dk.settle D' f (D'.fs f).now, 0)) := by show _ = _; rw [hr0, if_neg (by omega), if_neg hl]
    have c0 := C2.out.at1.cells.1
    rw [C2.out.db] at c0
    have hlk := C2.out.at1.files.look HF.out
    unfold filV at hlk
    have hfn := Lib.hid (field_now (D'.fs f) w2)
    have hst := settle_c C2.out.at1 (g.upd C2.out.upd) HF.out (D'.fs f).now (C2.out.at1.ok.now f) (Nat.le_trans HB.out C2.out.upd.size)
    rw [C2.out.db] at hst
    have Hlk := Lib.hid hlk
    have Hst := Lib.hid hst
    clear hlk hst hr0 hm0 hlo
    go_wp2_with fail
    (with_reducible refine Hm.out.mono ?_)
    rintro _ _ ⟨rfl, rfl⟩
    go_wp2_with (first | (at_lookup; refine wpList_lookL rfl _ _ tFiles false rfl _ _ _ rfl rfl Hlk.out ?_) | (with_reducible refine wpList_fieldL (o := ⟨some 40, _, _, _, _, _⟩) rfl _ tFile 0 rfl _ _ hfn.out (by with_unfolding_all rfl) ?_))
    (with_reducible refine Hst.out.mono ?_)
    rintro _ w4 ⟨rfl, hT4⟩
    go_wp2_with fail
    go_ret
    exact ⟨by rw [hr.out]; rfl, by rw [hr.out]; exact C2.out.then_ hT4⟩
  | false =>
    have hcome : Dk.counted D = Dk.come D := by unfold Dk.come; rw [hE, if_neg (by decide)]
    obtain ⟨w2, rfl⟩ : ∃ z, z = w1 := ⟨_, rfl⟩
    obtain ⟨r2, hcm⟩ := DiskTo.came H.out (by have := C1.out.to; rw [hcome] at this; exact this)
    have C2 := Lib.hid hcm
    clear hcm hE C1 hcome
    have hm := may_c C2.out.at1 f
    rw [C2.out.db] at hm
    have Hm := Lib.hid hm
    have hr0 : Dk.sync D f = if Dk.may (Dk.come D) f ≠ 0 then (Dk.come D, Dk.may (Dk.come D) f) else if 0 < (Dk.come D).lost then ({ Dk.come D with lost := (Dk.come D).lost - 1 }, 9) else (Dk.settle (Dk.come D) f ((Dk.come D).fs f).now, 0) := rfl
    generalize hD' : Dk.come D = D' at *
    clear hm hD'
    by_cases hm0 : Dk.may D' f = 0
    rotate_left
    · have hr : Hid (Dk.sync D f = (D', Dk.may D' f)) := by show _ = _; rw [hr0, if_pos hm0]
      have d0 : (Dk.may D' f == 0) = false := beq_eq_false_iff_ne.2 hm0
      have d1 : (Dk.may D' f != 0) = true := by simp [hm0]
      clear hm0 hr0
      go_wp2_with fail
      (with_reducible refine Hm.out.mono ?_)
      rintro _ _ ⟨rfl, rfl⟩
      go_wp2_with fail
      go_ret
      exact ⟨by rw [hr.out]; rfl, by rw [hr.out]; exact C2.out.to⟩
    rw [hm0] at Hm
    have c3 := C2.out.at1.cells.2.2.2.1
    rw [C2.out.db] at c3
    have hlo := C2.out.at1.ok.lost
    by_cases hl : 0 < D'.lost
    · have hr : Hid (Dk.sync D f = ({ D' with lost := D'.lost - 1 }, 9)) := by show _ = _; rw [hr0, if_neg (by omega), if_pos hl]
      have hT := DiskTo.set (D' := { D' with lost := D'.lost - 1 }) C2.out.at1 3 (.int .i64 (D'.lost - 1)) rfl rfl rfl rfl ⟨C2.out.at1.ok.now, C2.out.at1.ok.last, C2.out.at1.ok.q, C2.out.at1.ok.nd, ⟨by dsimp only; omega, by dsimp only; omega⟩, C2.out.at1.ok.armed⟩
      have HT := Lib.hid (C2.out.then_ hT)
      rw [C2.out.db] at HT
      have f3 := C2.out.at1.frozen 3
      rw [C2.out.db] at f3
      have hl1 : 0 ≤ D'.lost - 1 := by omega
      have hl2 : D'.lost ≤ 9223372036854775807 := hlo.2
      clear hT hr0 hm0 hlo
      go_wp2_with fail
      (with_reducible refine Hm.out.mono ?_)
      rintro _ _ ⟨rfl, rfl⟩
      go_wp2_with fail
      go_ret
      exact ⟨by rw [hr.out]; rfl, by rw [hr.out]; exact HT.out⟩
    have hr : Hid (Dk.sync D f = (Dk.settle D' f (D'.fs f).now, 0)) := by show _ = _; rw [hr0, if_neg (by omega), if_neg hl]
    have c0 := C2.out.at1.cells.1
    rw [C2.out.db] at c0
    have hlk := C2.out.at1.files.look HF.out
    unfold filV at hlk
    have hfn := Lib.hid (field_now (D'.fs f) w2)
    have hst := settle_c C2.out.at1 (g.upd C2.out.upd) HF.out (D'.fs f).now (C2.out.at1.ok.now f) (Nat.le_trans HB.out C2.out.upd.size)
    rw [C2.out.db] at hst
    have Hlk := Lib.hid hlk
    have Hst := Lib.hid hst
    clear hlk hst hr0 hm0 hlo
    go_wp2_with fail
    (with_reducible refine Hm.out.mono ?_)
    rintro _ _ ⟨rfl, rfl⟩
    go_wp2_with (first | (at_lookup; refine wpList_lookL rfl _ _ tFiles false rfl _ _ _ rfl rfl Hlk.out ?_) | (with_reducible refine wpList_fieldL (o := ⟨some 40, _, _, _, _, _⟩) rfl _ tFile 0 rfl _ _ hfn.out (by with_unfolding_all rfl) ?_))
    (with_reducible refine Hst.out.mono ?_)
    rintro _ w4 ⟨rfl, hT4⟩
    go_wp2_with fail
    go_ret
    exact ⟨by rw [hr.out]; rfl, by rw [hr.out]; exact C2.out.then_ hT4⟩
set_option maxHeartbeats 1000000 in
set_option maxRecDepth 100000 in
theorem truncate_c {B : Nat} {w : World} {r : DiskR} {D : Dk.Disk} (h : DiskAt B w r D) (g : Gl w) (hB : B ≤ w.heap.size) {f n : Int} (hf : I64 f) (hn : I64 n) :
    Calls Tryz.prog 70 #[.pointer (some ⟨r.db, 0, none⟩), .int .i64 f, .int .i64 n] w fun e w' => e = .returned (.int .i64 (Dk.truncate D f n).2) ∧ DiskTo B r (Dk.truncate D f n).1 w w' := by
  have hgb := g.big
  have he := Lib.hid (ends_c h)
  have H := Lib.hid h
  have HB := Lib.hid hB
  have HF := Lib.hid hf
  have HN := Lib.hid hn
  clear h hB hf hn
  go_enter Tryz.func70, Tryz.ntmps70
  go_wp2_with fail
  (with_reducible refine (he.out).mono ?_)
  rintro _ w1 ⟨rfl, hT1⟩
  obtain ⟨r1, hcm⟩ := DiskTo.came H.out hT1
  have C1 := Lib.hid hcm
  clear hT1 he hcm
  generalize hE : Dk.ends D = E at *
  cases E with
  | true =>
    have hcome : Hid (Dk.crash (Dk.counted D) (Dk.counted D).keep = Dk.come D) := by show _ = _; unfold Dk.come; rw [hE, if_pos rfl, counted_keep]
    have c6 := C1.out.at1.cells.2.2.2.2.2.2
    rw [C1.out.db] at c6
    have hc := crash_c C1.out.at1 (g.upd C1.out.upd) (Nat.le_trans HB.out C1.out.upd.size) B w1.heap.size r1.kv (Dk.counted D).keep (keep_sl C1.out.at1) C1.out.at1.kI
    rw [C1.out.db] at hc
    obtain ⟨ak, ck, hkv⟩ := own_slD C1.out.at1.keep
    rw [hkv] at hc c6
    have Hc := Lib.hid hc
    clear hc hE
    go_wp2_with fail
    (with_reducible refine Hc.out.mono ?_)
    rintro _ w2 ⟨rfl, hT2⟩
    rw [hcome.out] at hT2
    obtain ⟨r2, hcm⟩ := DiskTo.came H.out (C1.out.then_ hT2)
    have C2 := Lib.hid hcm
    clear hT2 hcm Hc c6 hkv
    have hm := may_c C2.out.at1 f
    rw [C2.out.db] at hm
    have Hm := Lib.hid hm
    have hr0 : Dk.truncate D f n = if Dk.may (Dk.come D) f ≠ 0 then (Dk.come D, Dk.may (Dk.come D) f) else if n < 0 ∨ ((((Dk.come D).fs f).now.length : Nat) : Int) < n then (Dk.come D, 1) else (Dk.settle (Dk.come D) f (((Dk.come D).fs f).now.take n.toNat), 0) := rfl
    generalize hD' : Dk.come D = D' at *
    clear hm hD'
    by_cases hm0 : Dk.may D' f = 0
    rotate_left
    · have hr : Hid (Dk.truncate D f n = (D', Dk.may D' f)) := by show _ = _; rw [hr0, if_pos hm0]
      have d0 : (Dk.may D' f == 0) = false := beq_eq_false_iff_ne.2 hm0
      have d1 : (Dk.may D' f != 0) = true := by simp [hm0]
      clear hm0 hr0
      go_wp2_with fail
      (with_reducible refine Hm.out.mono ?_)
      rintro _ _ ⟨rfl, rfl⟩
      go_wp2_with fail
      go_ret
      exact ⟨by rw [hr.out]; rfl, by rw [hr.out]; exact C2.out.to⟩
    rw [hm0] at Hm
    rw [if_neg (by omega)] at hr0
    clear hm0
    by_cases hn0 : n < 0
    · have hr : Hid (Dk.truncate D f n = (D', 1)) := by show _ = _; rw [hr0, if_pos (Or.inl hn0)]
      clear hr0
      go_wp2_with fail
      (with_reducible refine Hm.out.mono ?_)
      rintro _ _ ⟨rfl, rfl⟩
      go_wp2_with fail
      go_ret
      exact ⟨by rw [hr.out]; rfl, by rw [hr.out]; exact C2.out.to⟩
    have hsz := size_c C2.out.at1 HF.out
    rw [C2.out.db] at hsz
    have hse : Dk.size D' f = ((D'.fs f).now.length : Int) := rfl
    have Hsz := Lib.hid hsz
    clear hsz
    by_cases hn1 : ((D'.fs f).now.length : Int) < n
    · have hr : Hid (Dk.truncate D f n = (D', 1)) := by show _ = _; rw [hr0, if_pos (Or.inr hn1)]
      rw [← hse] at hn1
      clear hr0 hse
      go_wp2_with fail
      (with_reducible refine Hm.out.mono ?_)
      rintro _ _ ⟨rfl, rfl⟩
      go_wp2_with fail
      (with_reducible refine Hsz.out.mono ?_)
      rintro _ _ ⟨rfl, rfl⟩
      go_wp2_with fail
      go_ret
      exact ⟨by rw [hr.out]; rfl, by rw [hr.out]; exact C2.out.to⟩
    have hr : Hid (Dk.truncate D f n = (Dk.settle D' f ((D'.fs f).now.take n.toNat), 0)) := by show _ = _; rw [hr0, if_neg (by omega)]
    have c0 := C2.out.at1.cells.1
    rw [C2.out.db] at c0
    have hlk := C2.out.at1.files.look HF.out
    unfold filV at hlk
    have hfn := Lib.hid (field_now (D'.fs f) w2)
    have hnow := C2.out.at1.ok.now f
    have hst := settle_c C2.out.at1 (g.upd C2.out.upd) HF.out ((D'.fs f).now.take n.toNat) (by rw [List.length_take]; omega) (Nat.le_trans HB.out C2.out.upd.size)
    rw [C2.out.db] at hst
    have hxt : (({ data := (D'.fs f).now.toArray } : ByteArray).extract 0 n.toNat) = ⟨((D'.fs f).now.take n.toNat).toArray⟩ := by rw [bs_extract]; simp
    rw [← hxt] at hst
    have hn1' : ¬ Dk.size D' f < n := by rw [hse]; exact hn1
    have hn2 : n ≤ ((D'.fs f).now.length : Int) := by omega
    have Hlk := Lib.hid hlk
    have Hst := Lib.hid hst
    clear hlk hst hr0 hxt hnow hn1 hse
    go_wp2_with fail
    (with_reducible refine Hm.out.mono ?_)
    rintro _ _ ⟨rfl, rfl⟩
    go_wp2_with fail
    (with_reducible refine Hsz.out.mono ?_)
    rintro _ _ ⟨rfl, rfl⟩
    go_wp2_with (first | (at_lookup; refine wpList_lookL rfl _ _ tFiles false rfl _ _ _ rfl rfl Hlk.out ?_) | (with_reducible refine wpList_fieldL (o := ⟨some 39, _, _, _, _, _⟩) rfl _ tFile 0 rfl _ _ hfn.out (by with_unfolding_all rfl) ?_))
    (with_reducible refine Hst.out.mono ?_)
    rintro _ w4 ⟨rfl, hT4⟩
    go_wp2_with fail
    go_ret
    exact ⟨by rw [hr.out]; rfl, by rw [hr.out]; exact C2.out.then_ hT4⟩
  | false =>
    have hcome : Dk.counted D = Dk.come D := by unfold Dk.come; rw [hE, if_neg (by decide)]
    obtain ⟨w2, rfl⟩ : ∃ z, z = w1 := ⟨_, rfl⟩
    obtain ⟨r2, hcm⟩ := DiskTo.came H.out (by have := C1.out.to; rw [hcome] at this; exact this)
    have C2 := Lib.hid hcm
    clear hcm hE C1 hcome
    have hm := may_c C2.out.at1 f
    rw [C2.out.db] at hm
    have Hm := Lib.hid hm
    have hr0 : Dk.truncate D f n = if Dk.may (Dk.come D) f ≠ 0 then (Dk.come D, Dk.may (Dk.come D) f) else if n < 0 ∨ ((((Dk.come D).fs f).now.length : Nat) : Int) < n then (Dk.come D, 1) else (Dk.settle (Dk.come D) f (((Dk.come D).fs f).now.take n.toNat), 0) := rfl
    generalize hD' : Dk.come D = D' at *
    clear hm hD'
    by_cases hm0 : Dk.may D' f = 0
    rotate_left
    · have hr : Hid (Dk.truncate D f n = (D', Dk.may D' f)) := by show _ = _; rw [hr0, if_pos hm0]
      have d0 : (Dk.may D' f == 0) = false := beq_eq_false_iff_ne.2 hm0
      have d1 : (Dk.may D' f != 0) = true := by simp [hm0]
      clear hm0 hr0
      go_wp2_with fail
      (with_reducible refine Hm.out.mono ?_)
      rintro _ _ ⟨rfl, rfl⟩
      go_wp2_with fail
      go_ret
      exact ⟨by rw [hr.out]; rfl, by rw [hr.out]; exact C2.out.to⟩
    rw [hm0] at Hm
    rw [if_neg (by omega)] at hr0
    clear hm0
    by_cases hn0 : n < 0
    · have hr : Hid (Dk.truncate D f n = (D', 1)) := by show _ = _; rw [hr0, if_pos (Or.inl hn0)]
      clear hr0
      go_wp2_with fail
      (with_reducible refine Hm.out.mono ?_)
      rintro _ _ ⟨rfl, rfl⟩
      go_wp2_with fail
      go_ret
      exact ⟨by rw [hr.out]; rfl, by rw [hr.out]; exact C2.out.to⟩
    have hsz := size_c C2.out.at1 HF.out
    rw [C2.out.db] at hsz
    have hse : Dk.size D' f = ((D'.fs f).now.length : Int) := rfl
    have Hsz := Lib.hid hsz
    clear hsz
    by_cases hn1 : ((D'.fs f).now.length : Int) < n
    · have hr : Hid (Dk.truncate D f n = (D', 1)) := by show _ = _; rw [hr0, if_pos (Or.inr hn1)]
      rw [← hse] at hn1
      clear hr0 hse
      go_wp2_with fail
      (with_reducible refine Hm.out.mono ?_)
      rintro _ _ ⟨rfl, rfl⟩
      go_wp2_with fail
      (with_reducible refine Hsz.out.mono ?_)
      rintro _ _ ⟨rfl, rfl⟩
      go_wp2_with fail
      go_ret
      exact ⟨by rw [hr.out]; rfl, by rw [hr.out]; exact C2.out.to⟩
    have hr : Hid (Dk.truncate D f n = (Dk.settle D' f ((D'.fs f).now.take n.toNat), 0)) := by show _ = _; rw [hr0, if_neg (by omega)]
    have c0 := C2.out.at1.cells.1
    rw [C2.out.db] at c0
    have hlk := C2.out.at1.files.look HF.out
    unfold filV at hlk
    have hfn := Lib.hid (field_now (D'.fs f) w2)
    have hnow := C2.out.at1.ok.now f
    have hst := settle_c C2.out.at1 (g.upd C2.out.upd) HF.out ((D'.fs f).now.take n.toNat) (by rw [List.length_take]; omega) (Nat.le_trans HB.out C2.out.upd.size)
    rw [C2.out.db] at hst
    have hxt : (({ data := (D'.fs f).now.toArray } : ByteArray).extract 0 n.toNat) = ⟨((D'.fs f).now.take n.toNat).toArray⟩ := by rw [bs_extract]; simp
    rw [← hxt] at hst
    have hn1' : ¬ Dk.size D' f < n := by rw [hse]; exact hn1
    have hn2 : n ≤ ((D'.fs f).now.length : Int) := by omega
    have Hlk := Lib.hid hlk
    have Hst := Lib.hid hst
    clear hlk hst hr0 hxt hnow hn1 hse
    go_wp2_with fail
    (with_reducible refine Hm.out.mono ?_)
    rintro _ _ ⟨rfl, rfl⟩
    go_wp2_with fail
    (with_reducible refine Hsz.out.mono ?_)
    rintro _ _ ⟨rfl, rfl⟩
    go_wp2_with (first | (at_lookup; refine wpList_lookL rfl _ _ tFiles false rfl _ _ _ rfl rfl Hlk.out ?_) | (with_reducible refine wpList_fieldL (o := ⟨some 39, _, _, _, _, _⟩) rfl _ tFile 0 rfl _ _ hfn.out (by with_unfolding_all rfl) ?_))
    (with_reducible refine Hst.out.mono ?_)
    rintro _ w4 ⟨rfl, hT4⟩
    go_wp2_with fail
    go_ret
    exact ⟨by rw [hr.out]; rfl, by rw [hr.out]; exact C2.out.then_ hT4⟩
end Go.Proofs.YtmlmdlbepppnlaaGreatDoor
namespace Go.Proofs.YtmlmdlbepppnlaaGreatDoor
open Go.RowKit
set_option linter.unusedVariables false
set_option linter.unusedSimpArgs false
attribute [local irreducible] Calls

theorem sum_step {m : Int} (h0 : 0 ≤ m) (h1 : m < 2147483647) (c : Nat) (hc : c < 256) (k : Nat) (hk : (k : Int) ≤ 1000000000) :
    (wrap64 (m + wrap64 (wrap64 (c : Int) * ((k : Int) + 1)))).tmod 2147483647 = (m + (c : Int) * ((k : Int) + 1)) % 2147483647 := by
  have a0 : 0 ≤ (c : Int) * ((k : Int) + 1) := Int.mul_nonneg (by omega) (by omega)
  have a1 : (c : Int) * ((k : Int) + 1) ≤ 255 * ((k : Int) + 1) := Int.mul_le_mul_of_nonneg_right (by omega) (by omega)
  have e0 : wrap64 (c : Int) = c := by unfold wrap64; omega
  rw [e0]
  generalize (c : Int) * ((k : Int) + 1) = x at *
  have e1 : wrap64 x = x := by unfold wrap64; omega
  rw [e1]
  have e2 : wrap64 (m + x) = m + x := by unfold wrap64; omega
  rw [e2, Int.tmod_eq_emod_of_nonneg (by omega)]
set_option maxRecDepth 100000 in
theorem Sum_c (s : List UInt8) (hs : s.length ≤ 1000000000) (w : World) :
    Calls Tryz.prog 95 #[.string ⟨s.toArray⟩] w fun e w' => e = .returned (.int .i64 (Jr.sumN s)) ∧ w = w' := by
  have hs1 : (s.length : Int) ≤ 1000000000 := by omega
  have hs0 : (0 : Int) ≤ s.length := by omega
  clear hs
  go_enter Tryz.func95, Tryz.ntmps95
  go_wp2_with fail
  go_loopw [3, 7] (fun nv iv wr => ∃ k : Nat, k ≤ s.length ∧ iv = .int .i64 k ∧ nv = .int .i64 (Jr.sumN (s.take k)) ∧ w = wr) (fun _ iv _ => s.length - (intOf iv).toNat)
  case atStart => exact ⟨0, Nat.zero_le _, rfl, rfl, rfl⟩
  case round =>
    obtain ⟨k, hk, rfl, rfl, rfl⟩ := hrel
    have hb := Jr.sumN_bd (s.take k)
    by_cases hlt : k < s.length
    · have hn : Jr.sumN (s.take (k + 1)) = (Jr.sumN (s.take k) + s[k].toNat * ((k : Int) + 1)) % 2147483647 := by
        rw [List.take_succ_eq_append_getElem hlt, Jr.sumN_snoc, List.length_take, Nat.min_eq_left (Nat.le_of_lt hlt)]
      have hc : s[k].toNat < 256 := s[k].toNat_lt
      go_wp2_with fail
      go_roundw
      case rel => 
        refine ⟨k + 1, by omega, by go_num, ?_, trivial⟩
        rw [hn]
        exact congrArg (Value.int .i64) (sum_step hb.1 hb.2 s[k].toNat hc k (by omega))
      case measure => simp [intOf]; omega
    · obtain rfl : k = s.length := by omega
      have ht : s.take s.length = s := List.take_length
      rw [ht]
      go_wp2_with fail
      go_ret
      exact ⟨rfl, rfl⟩
set_option maxRecDepth 100000 in
theorem form_c (s : List UInt8) (hs : s.length ≤ 1000000000) (w : World) (g : Gl w) :
    Calls Tryz.prog 79 #[.string ⟨s.toArray⟩] w fun e w' => e = .returned (.string ⟨(Jr.form s).toArray⟩) ∧ Nw w w' := by
  have ht := Lib.hid (Text_e ⟨s.toArray⟩ s (bs_list s) w g (by omega))
  have hb := Jr.sumN_bd s
  have hf := Jr.form_len s (by omega)
  unfold Jr.form at hf
  rw [List.length_append] at hf
  have hf1 : (Wire.textE s).length ≤ 1000000043 := by omega
  have hf2 : (Wire.numE (Jr.sumN s)).length ≤ 1000000043 := by omega
  have hu := Lib.hid (fun z => Sum_c s hs z)
  have hI : Hid (I64 (Jr.sumN s)) := by show I64 _; unfold I64; omega
  clear hs hb hf
  go_enter Tryz.func79, Tryz.ntmps79
  go_wp2_with fail
  (with_reducible refine (ht.out).mono ?_)
  rintro _ w1 ⟨rfl, u1⟩
  go_wp2_with fail
  (with_reducible refine (hu.out _).mono ?_)
  rintro _ _ ⟨rfl, rfl⟩
  go_wp2_with fail
  (with_reducible refine (Num_e _ _ (g.upd u1) hI.out).mono ?_)
  rintro _ w2 ⟨rfl, u2⟩
  go_wp2_with fail
  go_ret
  refine ⟨ret_bs ?_, u1.trans u2⟩
  simp only [bs_append_list, bs_list]
  rfl
end Go.Proofs.YtmlmdlbepppnlaaGreatDoor
namespace Go.Proofs.YtmlmdlbepppnlaaGreatDoor
open Go.RowKit
set_option linter.unusedVariables false
set_option linter.unusedSimpArgs false
attribute [local irreducible] Calls

abbrev tStrJ : TypeId := 9
theorem infoStrJ : (Tryz.prog.info? tStrJ).map (fun i => (i.zero, i.size, i.bytes)) = some (some (.string ⟨#[]⟩), 1, 16) := by kernel_rfl
theorem rText_fst (st : Wire.St) : (Wire.rText st).1.length ≤ (st.getD []).length := by
  cases h : (Wire.rText st).2 with
  | none => rw [Wire.rText_fail h]; simp
  | some r' =>
    cases st with
    | none => simp [Wire.rText, Wire.rNumber] at h
    | some r =>
      have := Wire.rText_inv (r := r) (r' := r') (t := (Wire.rText (some r)).1) (by rw [← h])
      have e := congrArg List.length this
      simp only [List.length_append, Wire.textE, List.length_cons] at e
      simp only [Option.getD_some]
      omega
/-- What has been read so far. -/
def ReadI (s : List UInt8) (w wr : World) (lv : Value) (n : Nat) : Prop :=
  ∃ R rest, s = Jr.forms R ++ rest ∧ Jr.recs s = R ++ Jr.recs rest ∧ n = (Jr.forms R).length ∧ wr.ownsRow w.heap.size tStrJ 1 lv R.length (R.map bsV) ∧ Nw w wr
/-- What read answers. -/
def ReadDone (s : List UInt8) (w wr : World) (lv : Value) (n : Nat) : Prop :=
  n = (Jr.forms (Jr.recs s)).length ∧ wr.ownsRow w.heap.size tStrJ 1 lv (Jr.recs s).length ((Jr.recs s).map bsV) ∧ Nw w wr
theorem ReadI.done {s : List UInt8} {w wr : World} {lv : Value} {n : Nat} {R : List (List UInt8)} {rest : List UInt8} (e1 : s = Jr.forms R ++ rest) (e2 : Jr.recs s = R ++ Jr.recs rest) (e3 : n = (Jr.forms R).length) (e4 : wr.ownsRow w.heap.size tStrJ 1 lv R.length (R.map bsV)) (e5 : Nw w wr)
    (h : Jr.one rest = none) {wz : World} (u : Nw wr wz) : ReadDone s w wz lv n := by
  rw [Jr.recs_none h, List.append_nil] at e2
  unfold ReadDone
  rw [e2]
  exact ⟨e3, owns_updD e4 u (fun _ _ e => e), e5.trans u⟩
theorem one_far {rest : List UInt8} (h : 20000 < (Wire.rText (some rest)).1.length) : Jr.one rest = none := by
  unfold Jr.one; rw [if_neg (by omega)]
theorem one_num {rest : List UInt8} (h : ¬ (Wire.rNum (Wire.rText (some rest)).2).1 = Jr.sumN (Wire.rText (some rest)).1) : Jr.one rest = none := by
  unfold Jr.one; rw [if_neg (fun e => h e.2.2)]
theorem one_is {rest t : List UInt8} (h : Jr.one rest = some t) : t = (Wire.rText (some rest)).1 := by
  unfold Jr.one at h
  split at h
  · injection h with h; exact h.symm
  · cases h
theorem one_short {rest : List UInt8} (h : rest.length < (Jr.form (Wire.rText (some rest)).1).length) : Jr.one rest = none := by
  cases ho : Jr.one rest with
  | none => rfl
  | some t =>
    obtain ⟨r, e, _⟩ := Jr.one_inv ho
    rw [← one_is ho, e, List.length_append] at h
    omega
theorem one_other {rest : List UInt8} (h : ¬ rest.take (Jr.form (Wire.rText (some rest)).1).length = Jr.form (Wire.rText (some rest)).1) : Jr.one rest = none := by
  cases ho : Jr.one rest with
  | none => rfl
  | some t =>
    obtain ⟨r, e, _⟩ := Jr.one_inv ho
    refine absurd ?_ h
    rw [← one_is ho, e, List.take_left']
    rfl
set_option maxHeartbeats 1000000 in
set_option maxRecDepth 100000 in
theorem read_j (s : List UInt8) (hs : s.length ≤ 16777216) (w : World) (g : Gl w) :
    Calls Tryz.prog 69 #[.string ⟨s.toArray⟩] w fun e w' => ∃ v', e = .returned (.tuple #[v', .int .i64 (Jr.forms (Jr.recs s)).length]) ∧ w'.ownsRow w.heap.size tStrJ 1 v' (Jr.recs s).length ((Jr.recs s).map bsV) ∧ Nw w w' := by
  have hgb := g.big
  have hs1 : (s.length : Int) ≤ 16777216 := by omega
  have hs0 : (0 : Int) ≤ s.length := by omega
  have HS := Lib.hid hs
  clear hs
  have h0 : Hid (ReadI s w w (.slice none 0 0) 0) := ⟨[], s, rfl, rfl, rfl, World.ownsRow_nil _ _ _ _, Upd.refl _ _⟩
  go_enter Tryz.func69, Tryz.ntmps69
  go_wp2_with fail
  go_step3
  go_wp2_with fail
  go_step3
  go_wp2_with fail
  go_loopw [4, 5] (fun lv bv wr => ∃ n : Nat, bv = .int .i64 n ∧ Hid (ReadI s w wr lv n)) (fun _ bv _ => s.length - (intOf bv).toNat)
  case atStart => exact ⟨0, rfl, h0.out⟩
  case round =>
    obtain ⟨n, rfl, HI⟩ := hrel
    obtain ⟨R, rest, e1, e2, e3, e4, e5⟩ := HI.out
    have hnl : n + rest.length = s.length := by rw [e3, e1, List.length_append]
    obtain ⟨al, cl, rfl⟩ := own_slD e4
    have hR := Jr.len_forms R
    have hRl : R.length ≤ 16777216 := by have := HS.out; omega
    have HRl := Lib.hid hRl
    have Hown := Lib.hid e4
    have HU := Lib.hid e5
    have E1 := Lib.hid e1
    have E2 := Lib.hid e2
    have E3 := Lib.hid e3
    have Hnl := Lib.hid hnl
    clear hR hRl e4 e5 e2 e3
    by_cases hlt : n < s.length
    rotate_left
    · have hz : Hid (ReadDone s w wr (.slice al R.length cl) n) := by
        have hr : rest = [] := List.length_eq_zero_iff.1 (by omega)
        exact ReadI.done E1.out E2.out E3.out Hown.out HU.out (by rw [hr]; exact Jr.one_nil) (Upd.refl _ _)
      clear HI Hown E1 E2 E3 e1 Hnl
      go_wp2_with fail
      (try rw [Exit.noGoto_ret])
      go_ret2
      exact ⟨_, by rw [hz.out.1]; rfl, hz.out.2.1, hz.out.2.2⟩
    have hdrop : s.drop n = rest := by rw [e1, E3.out, List.drop_left]
    have gr := g.upd HU.out
    clear e1
    have hsl : Hid ((({ data := s.toArray } : ByteArray).extract n s.length).data.toList = rest) := by
      show _ = _
      rw [bs_extract, bs_list, ← hdrop, ← Hnl.out]
      exact List.take_of_length_le (by rw [hdrop]; omega)
    have hop := Open_r _ rest hsl.out wr gr
    have hrl : rest.length ≤ 16777216 := by have := HS.out; omega
    have Hop := Lib.hid hop
    have Hrl := Lib.hid hrl
    clear hdrop hop hrl hsl
    go_wp2_with fail
    (with_reducible refine (Hop.out).mono ?_)
    rintro _ w1 ⟨b, rfl, hb, hr1, n1⟩
    have g1 := gr.upd n1
    have Hb := Lib.hid hb
    clear hb Hop
    go_wp2_with fail
    (with_reducible refine (Text_r b (some rest) w1 g1 hr1 (by have := Hrl.out; simp only [Option.getD_some]; omega)).mono ?_)
    rintro _ w2 ⟨rfl, hr2, u2⟩
    have g2 := g1.upd u2
    have htl := rText_fst (some rest)
    have hst := Wire.rText_le (some rest)
    simp only [Option.getD_some] at htl hst
    have Hst := Lib.hid hst
    clear hst hr1
    go_wp2_with fail
    (with_reducible refine (Num_r b _ w2 g2 hr2 (by have := Hst.out; have := Hrl.out; omega)).mono ?_)
    rintro _ w3 ⟨rfl, _, u3⟩
    have g3 := g2.upd u3
    have hone : ∀ t nn : _, t = (Wire.rText (some rest)).1 → nn = (Wire.rNum (Wire.rText (some rest)).2).1 → (20000 < t.length → Jr.one rest = none) ∧ (¬ nn = Jr.sumN t → Jr.one rest = none) ∧ (rest.length < (Jr.form t).length → Jr.one rest = none) ∧ (¬ rest.take (Jr.form t).length = Jr.form t → Jr.one rest = none) := by
      rintro t nn rfl rfl
      exact ⟨one_far, one_num, one_short, one_other⟩
    have hone2 := Lib.hid (hone _ _ rfl rfl)
    have Htl := Lib.hid htl
    clear hone htl Hst hr2
    generalize (Wire.rNum (Wire.rText (some rest)).2).1 = nn at *
    generalize (Wire.rText (some rest)).1 = t at *
    have hfc := form_c t (by have := Htl.out; have := Hrl.out; omega) w3 g3
    have Hfc := Lib.hid hfc
    have Hfp := Lib.hid (Jr.form_pos t)
    have hfl := Jr.form_len t (by have := Htl.out; have := Hrl.out; omega)
    have U3 : Hid (Nw wr w3) := (n1.trans' u2 (fun j hj e => by subst e; have := Hb.out; omega)).trans' u3 (fun j hj e => by subst e; have := Hb.out; omega)
    have hfl1 : ((Jr.form t).length : Int) ≤ 16777300 := by have := Htl.out; have := Hrl.out; omega
    have hfl0 : (0 : Int) ≤ (Jr.form t).length := by omega
    clear hfc n1 u2 u3 hfl
    go_wp2_with fail
    (with_reducible refine (Hfc.out).mono ?_)
    rintro _ w4 ⟨rfl, u4⟩
    have U4 := Lib.hid (U3.out.trans u4)
    have hdone : Hid (Jr.one rest = none → Hid (ReadDone s w w4 (.slice al R.length cl) n)) := fun h => ReadI.done E1.out E2.out E3.out Hown.out HU.out h U4.out
    have hsum := Lib.hid (Sum_c t (by have := Htl.out; have := Hrl.out; omega))
    have ht1 : (t.length : Int) ≤ 16777216 := by have := Htl.out; have := Hrl.out; omega
    clear u4 Hfc
    by_cases hf1 : 20000 < t.length
    · have hf1' : (20000 : Int) < t.length := by omega
      have hz := hdone.out (hone2.out.1 hf1)
      clear hdone
      go_wp2_with fail
      (try rw [Exit.noGoto_ret])
      go_ret2
      exact ⟨_, by rw [hz.out.1]; rfl, hz.out.2.1, hz.out.2.2⟩
    have hf1' : ¬ (20000 : Int) < t.length := by omega
    have Hf1 := Lib.hid hf1
    clear hf1
    by_cases hf2 : nn = Jr.sumN t
    rotate_left
    · have hb1 : (nn == Jr.sumN t) = false := beq_eq_false_iff_ne.2 hf2
      have hb2 : (nn != Jr.sumN t) = true := by simp [hf2]
      have hz := hdone.out (hone2.out.2.1 hf2)
      clear hdone
      go_wp2_with fail
      (with_reducible refine (hsum.out _).mono ?_)
      rintro _ _ ⟨rfl, rfl⟩
      go_wp2_with fail
      (try rw [Exit.noGoto_ret])
      go_ret2
      exact ⟨_, by rw [hz.out.1]; rfl, hz.out.2.1, hz.out.2.2⟩
    have hb1 : (nn == Jr.sumN t) = true := beq_iff_eq.2 hf2
    have hb2 : (nn != Jr.sumN t) = false := by simp [hf2]
    clear hf2
    by_cases hf3 : rest.length < (Jr.form t).length
    · have h3 : (s.length : Int) - n < (Jr.form t).length := by have := Hnl.out; omega
      have hz := hdone.out (hone2.out.2.2.1 hf3)
      clear hdone hf3
      go_wp2_with fail
      (with_reducible refine (hsum.out _).mono ?_)
      rintro _ _ ⟨rfl, rfl⟩
      go_wp2_with fail
      (try rw [Exit.noGoto_ret])
      go_ret2
      exact ⟨_, by rw [hz.out.1]; rfl, hz.out.2.1, hz.out.2.2⟩
    have h3 : ¬ (s.length : Int) - n < (Jr.form t).length := by have := Hnl.out; omega
    have h4 : (n : Int) + (Jr.form t).length ≤ s.length := by have := Hnl.out; omega
    have h5 : n + (Jr.form t).length ≤ s.length := by have := Hnl.out; omega
    have hext : (({ data := s.toArray } : ByteArray).extract n (n + (Jr.form t).length)).data.toList = rest.take (Jr.form t).length := by
      rw [bs_extract, bs_list, E1.out, E3.out, List.drop_left, Nat.add_sub_cancel_left]
    have hj0 : (0 : Int) ≤ (n : Int) + (Jr.form t).length := by omega
    have htn : ((n : Int) + (Jr.form t).length).toNat = n + (Jr.form t).length := by omega
    have hsl2 : ∀ z : World, (Instr.slice 9 (.string ⟨s.toArray⟩) (some (.int .i64 n)) (some (.int .i64 ((n : Int) + (Jr.form t).length))) none).run Tryz.prog z = .ok (.string ⟨(rest.take (Jr.form t).length).toArray⟩) z := fun z => by
      have := run_slice_string (P := Tryz.prog) z 9 ⟨s.toArray⟩ .i64 .i64 (n : Int) ((n : Int) + (Jr.form t).length) Tryz.underlying9 (by omega) (by omega) (by rw [bs_size, bs_list]; exact h4)
      rw [htn, Int.toNat_natCast, ← bs_eta ((⟨s.toArray⟩ : ByteArray).extract n (n + (Jr.form t).length)), hext] at this
      exact this
    clear hf3 hj0 htn hext
    by_cases hf4 : rest.take (Jr.form t).length = Jr.form t
    rotate_left
    · have hz := hdone.out (hone2.out.2.2.2 hf4)
      have hq : (rest.take (Jr.form t).length == Jr.form t) = false := beq_eq_false_iff_ne.2 hf4
      generalize rest.take (Jr.form t).length = X at *
      clear hdone
      go_wp2_with fail
      (with_reducible refine (hsum.out _).mono ?_)
      rintro _ _ ⟨rfl, rfl⟩
      go_wp2_with fail
      (try rw [Exit.noGoto_ret])
      go_ret2
      exact ⟨_, by rw [hz.out.1]; rfl, hz.out.2.1, hz.out.2.2⟩
    rw [hf4] at hsl2
    have hrest : rest = Jr.form t ++ rest.drop (Jr.form t).length := by
      conv => lhs; rw [← List.take_append_drop (Jr.form t).length rest, hf4]
    have ho4 := Lib.hid (owns_updD Hown.out U4.out (fun _ _ e => e))
    have hnext : Hid (∀ v' w5, w5.ownsRow w.heap.size tStrJ 1 v' (R.length + 1) (R.map bsV ++ [bsV t]) → Nw w w5 → ReadI s w w5 v' (n + (Jr.form t).length)) := fun v' w5 o5 u5 => by
      refine ⟨R ++ [t], rest.drop (Jr.form t).length, ?_, ?_, ?_, ?_, u5⟩
      · rw [Jr.forms_snoc, List.append_assoc, ← hrest]; exact E1.out
      · rw [E2.out, List.append_assoc, hrest, Jr.recs_form (by have := Hf1.out; omega)]
        simp
      · rw [Jr.forms_snoc, List.length_append, ← E3.out]
      · rw [List.length_append, List.map_append]; exact o5
    have hW : w.heap.size ≤ w4.heap.size := Nat.le_trans HU.out.size U4.out.size
    have HWn := Lib.hid (HU.out.trans U4.out)
    clear hf4 hrest hdone
    go_wp2_with (first | (go_at_call 95; ((with_reducible refine (hsum.out _).mono ?_); rintro _ _ ⟨rfl, rfl⟩)) | (at_builtin; refine wpList_appL rfl _ _ 25 rfl w.heap.size tStrJ _ 1 16 Tryz.underlying25 infoStrJ rfl (by decide) _ _ _ rfl ho4.out [bsV t] rfl rfl ?c1 ?c2 ?c3 hW hgb ?_))
    case c1 => intro u hu; rw [List.mem_singleton.1 hu]; rfl
    case c2 => have := HRl.out; unfold maxLen; omega
    case c3 => have := HRl.out; omega
    intro v' w5 o5 u5 hob
    have hn5 := Lib.hid (hnext.out v' w5 o5 (HWn.out.trans' u5 (fun j hj e => by have := (ho4.out.lt j e).1; omega)))
    clear o5 u5 hob
    go_wp2_with fail
    go_roundw
    case rel => exact ⟨n + (Jr.form t).length, by go_num, hn5.out⟩
    case measure => have := Hfp.out; simp [intOf]; omega
end Go.Proofs.YtmlmdlbepppnlaaGreatDoor
namespace Go.Proofs.YtmlmdlbepppnlaaGreatDoor
open Go.RowKit
set_option linter.unusedVariables false
set_option linter.unusedSimpArgs false
attribute [local irreducible] Calls

section
variable {P : Program} {w : World} {ops : Array Oper} {rest : List Oper} {o : Oper} {a : Act} {Q : Exit → Act → World → Prop}
/-- 'make([]T, n)', elements of one cell. -/
theorem wpList_makeE (hgd : o.guard = none) (l c : Operand) (t e : TypeId) (z : Value) (bytes : Nat) (hop : o.op = Op.makeSlice t l c) (ht : P.underlying t = some (.slice e)) (hinfo : (P.info? e).map (fun i => (i.zero, i.size, i.bytes)) = some (some z, 1, bytes))
    (n : Nat) (hl : a.eval l = .int .i64 n) (hc : a.eval c = .int .i64 n) (hn : n ≤ 281474976710656) (hb : n * bytes ≤ 281474976710656)
    (h : ∀ w', w'.heap[w.heap.size]? = some (.cells (madeCells z.cells n) e (0, 0)) → Nw w w' → wpList P ops Q rest (a.put o.dst (.slice (some ⟨w.heap.size, 0, none⟩) n n)) w') : wpList P ops Q (o :: rest) a w := by
  obtain ⟨i0, hi, hz0, hz1, hz2⟩ := info_parts hinfo
  have hrun := run_make (P := P) w t e i0 z ht hi hz0 .i64 .i64 n n (by omega) (Int.le_refl _) (by rw [hz2, Int.mul_comm]; have h2 := Int.ofNat_le.2 hb; rw [Int.natCast_mul] at h2; exact h2) (by omega)
  rw [Int.toNat_natCast, hz1, Nat.mul_one] at hrun
  refine wpList_plain hgd fun K hK => ?_
  unfold Oper.wp
  simp [execOp, hop, hl, hc, hrun, Result.andThen]
  exact hK _ _ (h _ (heap_new w _) (nw_alloc w _))
/-- 'copy(b, s)', b a row of as many elements as s. -/
theorem wpList_copyE (hgd : o.guard = none) (d s : Operand) (dT sT : TypeId) (ho : o.op = .call { callee := .builtin .copy, args := #[d, s], argTypes := #[dT, sT] }) (elem : TypeId) (hu : P.underlying dT = some (.slice elem)) (hsz : (P.info? elem).map (·.size) = some 1)
    (g n : Nat) (hd : a.eval d = .slice (some ⟨g, 0, none⟩) n n) (vs : Value) (B : Nat) (xs : List Value) (hs : a.eval s = vs) (hsrc : w.ownsRow B elem 1 vs n xs) (cur : Array Value) (T : TypeId) (hg : w.heap[g]? = some (.cells cur T (0, 0))) (hcur : cur.size = n) (h1 : ∀ v ∈ xs, v.oneCell' = true) (hG : nG ≤ g)
    (h : ∀ w', w'.heap[g]? = some (.cells xs.toArray T (0, 0)) → Upd (fun x => x = g) w w' → wpList P ops Q rest (a.put o.dst (goInt n)) w') : wpList P ops Q (o :: rest) a w := by
  obtain ⟨hl, hsrc2⟩ := hsrc
  rcases hsrc2 with ⟨rfl, rfl⟩ | ⟨gs, cap, cs, rfl, hb, hgs, hc, hm, hsz2, htk⟩
  · obtain rfl : xs = [] := List.eq_nil_of_length_eq_zero (by simpa using hl)
    refine wpList_copy_nothing hgd d s dT sT ho elem hu hsz _ _ _ _ _ _ hd hs (by simp) ?_
    refine h w ?_ (Upd.refl _ _)
    rw [hg, Array.eq_empty_of_size_eq_zero hcur]
  · have hlx : xs.length = n := by rw [hl, Nat.mul_one]
    refine wpList_copy_own hgd d s dT sT ho elem hu hsz g 0 n n ⟨gs, 0, none⟩ n cap hd hs cur T hg xs (by simp [hlx]) ?_ (by omega) h1 ?_
    · intro j v hv
      have hj : j < n := by rw [← hlx]; exact (List.getElem?_eq_some_iff.1 hv).1
      rw [add_plain, cells_cell hgs, Nat.zero_add]
      rw [← htk, List.getElem?_take, if_pos (by omega)] at hv
      simpa using hv
    · have e : (cur.toList.take 0 ++ (xs ++ cur.toList.drop (0 + xs.length))) = xs := by
        rw [List.take_zero, List.nil_append, Nat.zero_add, hlx, List.drop_of_length_le (by simp [hcur]), List.append_nil]
      rw [e, hlx]
      refine h _ (setRow_heap w g _ _ T _ hg) ⟨rfl, rfl, rfl, by simp [World.setRow], fun k hk hn => setRow_other w g k _ ?_⟩
      rintro rfl
      rcases hn with hn | hn
      · omega
      · exact hn rfl
end
/-! ### The journal -/
abbrev tJrn : TypeId := 121
structure JrnR where
  jb : Nat
  rv : Value
def JrnR.foot (x : JrnR) (k : Nat) : Prop := k = x.jb ∨ x.rv.ownBlock = some k
def jrnC (db : Nat) (x : JrnR) (j : Jr.Jn) : Array Value := #[.pointer (some ⟨db, 0, none⟩), .int .i64 j.file, x.rv, .int .i64 ((Jr.forms j.recs).length : Nat), .bool j.broken]
structure JrnOk (j : Jr.Jn) : Prop where
  file : 0 ≤ j.file ∧ j.file ≤ 15
  bytes : (Jr.forms j.recs).length ≤ 16777216
/-- In the blocks from B on lies the journal x on the disk db, in the state j. -/
structure JrnAt (B : Nat) (w : World) (db : Nat) (x : JrnR) (j : Jr.Jn) : Prop where
  hb : nG ≤ B
  jb : B ≤ x.jb
  blk : w.heap[x.jb]? = some (.cells (jrnC db x j) tJrn (0, 0))
  own : w.ownsRow B tStrJ 1 x.rv j.recs.length (j.recs.map bsV)
  ok : JrnOk j
section
variable {B db : Nat} {w w' : World} {x : JrnR} {j : Jr.Jn}
theorem JrnAt.foot_lt (h : JrnAt B w db x j) {k : Nat} (hk : x.foot k) : B ≤ k ∧ k < w.heap.size := by
  rcases hk with rfl | hk
  · exact ⟨h.jb, lt_of_block h.blk⟩
  · obtain ⟨h1, cs, h2⟩ := own_blockD h.own hk
    exact ⟨h1, lt_of_block h2⟩
theorem JrnAt.upd {S : Nat → Prop} (h : JrnAt B w db x j) (u : Upd S w w') (hs : ∀ k, x.foot k → ¬ S k) : JrnAt B w' db x j :=
  ⟨h.hb, h.jb, u.keep h.blk (hs _ (Or.inl rfl)), owns_updD h.own u (fun k hk => hs k (Or.inr hk)), h.ok⟩
theorem JrnAt.nw (h : JrnAt B w db x j) (u : Nw w w') : JrnAt B w' db x j := h.upd u (fun _ _ s => s)
theorem JrnAt.ne (h : JrnAt B w db x j) : x.rv.ownBlock ≠ some x.jb := fun e => by
  obtain ⟨_, cs, e2⟩ := own_blockD h.own e
  rw [h.blk] at e2
  injection e2 with e2
  injection e2 with _ e2
  exact absurd e2 (by decide)
theorem JrnAt.cells (h : JrnAt B w db x j) :
    w.cell? ⟨x.jb, 0, none⟩ = some (.pointer (some ⟨db, 0, none⟩)) ∧ w.cell? ⟨x.jb, 1, none⟩ = some (.int .i64 j.file) ∧ w.cell? ⟨x.jb, 2, none⟩ = some x.rv ∧ w.cell? ⟨x.jb, 3, none⟩ = some (.int .i64 ((Jr.forms j.recs).length : Nat)) ∧ w.cell? ⟨x.jb, 4, none⟩ = some (.bool j.broken) := by
  refine ⟨?_, ?_, ?_, ?_, ?_⟩ <;> (rw [cells_cell h.blk]; rfl)
theorem JrnAt.len (h : JrnAt B w db x j) : j.recs.length ≤ 16777216 := Nat.le_trans (Jr.len_forms _) h.ok.bytes
theorem hold_on {p : Prop} (h : ∀ _ : Unit, p) : p := h ()
set_option maxRecDepth 100000 in
theorem All_c (h : JrnAt B w db x j) (g : Gl w) : Calls Tryz.prog 42 #[.pointer (some ⟨x.jb, 0, none⟩)] w fun e w' => ∃ v', e = .returned v' ∧ w'.ownsRow w.heap.size tStrJ 1 v' j.recs.length (j.recs.map bsV) ∧ Nw w w' := by
  have hgb := g.big
  obtain ⟨_, _, c2, _, _⟩ := h.cells
  obtain ⟨a, c, hv⟩ := own_slD h.own
  have hl := h.len
  have hl1 : (j.recs.length : Int) ≤ 16777216 := by omega
  have hl0 : (0 : Int) ≤ j.recs.length := by omega
  rw [hv] at c2
  have H := Lib.hid h
  have Hl := Lib.hid hl
  clear h hl
  go_enter Tryz.func42, Tryz.ntmps42
  go_wp2_with (at_make; refine wpList_makeE rfl _ _ 25 tStrJ _ 16 rfl Tryz.underlying25 infoStrJ j.recs.length rfl rfl ?m1 ?m2 ?_)
  case m1 => have := Hl.out; omega
  case m2 => have := Hl.out; omega
  intro w1 k1 n1
  have o1 := owns_updD H.out.own n1 (fun _ _ e => e)
  rw [hv] at o1
  have c2' := ((H.out.nw n1).cells).2.2.1
  rw [hv] at c2'
  have O1 := Lib.hid o1
  have K1 := Lib.hid k1
  clear o1 k1
  go_wp2_with (refine wpList_copyE rfl _ _ 25 25 rfl tStrJ Tryz.underlying25 (by kernel_rfl) w.heap.size j.recs.length rfl (.slice a j.recs.length c) B (j.recs.map bsV) rfl O1.out _ tStrJ K1.out ?k1 ?k2 hgb ?_)
  case k1 => rw [size_madeCells]
  case k2 => intro u hu; obtain ⟨y, _, rfl⟩ := List.mem_map.1 hu; rfl
  intro w2 k2 u2
  have K2 := Lib.hid k2
  have U2 : Hid (Nw w w2) := n1.trans' u2 (fun k hk e => by omega)
  clear k2 u2
  go_wp2_with fail
  go_ret
  refine ⟨_, rfl, ⟨by simp, Or.inr ⟨w.heap.size, _, _, rfl, Nat.le_refl _, K2.out, Nat.le_refl _, by have := Hl.out; unfold maxLen; omega, by simp, ?_⟩⟩, U2.out⟩
  rw [Nat.mul_one]
  exact List.take_of_length_le (by simp)
end
/-! ### A journal and its disk -/
structure JSys (B : Nat) (w : World) (d : DiskR) (x : JrnR) (D : Dk.Disk) (j : Jr.Jn) : Prop where
  disk : DiskAt B w d D
  jrn : JrnAt B w d.db x j
  ap : ∀ k, d.foot k → ¬ x.foot k
/-- What a call makes of a journal and its disk. -/
def JTo (B : Nat) (d : DiskR) (x : JrnR) (D' : Dk.Disk) (j' : Jr.Jn) (w w' : World) : Prop :=
  ∃ d' x', JSys B w' d' x' D' j' ∧ d'.db = d.db ∧ x'.jb = x.jb ∧ Upd (fun k => d.foot k ∨ x.foot k) w w' ∧ ∀ k, d'.foot k ∨ x'.foot k → (d.foot k ∨ x.foot k) ∨ w.heap.size ≤ k
section
variable {B : Nat} {w w' w2 : World} {d : DiskR} {x : JrnR} {D D' : Dk.Disk} {j j' : Jr.Jn}
theorem JSys.nw (h : JSys B w d x D j) (u : Nw w w') : JSys B w' d x D j := ⟨h.disk.nw u, h.jrn.nw u, h.ap⟩
theorem JTo.refl (h : JSys B w d x D j) : JTo B d x D j w w := ⟨d, x, h, rfl, rfl, Upd.refl _ _, fun k hk => Or.inl hk⟩
theorem JTo.of_nw (h : JSys B w d x D j) (u : Nw w w') : JTo B d x D j w w' := ⟨d, x, h.nw u, rfl, rfl, Nw.upd _ u, fun k hk => Or.inl hk⟩
/-- A call that turns the disk alone. -/
theorem JSys.disk_to (h : JSys B w d x D j) (t : DiskTo B d D' w w') : JTo B d x D' j w w' := by
  obtain ⟨d', h1, h2, h3, h4⟩ := t
  refine ⟨d', x, ⟨h1, by rw [h2]; exact h.jrn.upd h3 (fun k hk hd => h.ap k hd hk), fun k hk hx => ?_⟩, h2, rfl, h3.mono (fun k _ e => Or.inl e), fun k hk => ?_⟩
  · rcases h4 k hk with e | e
    · exact h.ap k e hx
    · have := (h.jrn.foot_lt hx).2; omega
  · rcases hk with hk | hk
    · exact (h4 k hk).imp Or.inl id
    · exact Or.inl (Or.inr hk)
theorem JTo.then_ {w1 : World} {d1 : DiskR} {x1 : JrnR} (hd : d1.db = d.db) (hx : x1.jb = x.jb) (u : Upd (fun k => d.foot k ∨ x.foot k) w w1) (hf : ∀ k, d1.foot k ∨ x1.foot k → (d.foot k ∨ x.foot k) ∨ w.heap.size ≤ k) (t : JTo B d1 x1 D' j' w1 w2) : JTo B d x D' j' w w2 := by
  obtain ⟨d2, x2, k1, k2, k3, k4, k5⟩ := t
  have hs := u.size
  refine ⟨d2, x2, k1, k2.trans hd, k3.trans hx, u.trans' k4 (fun k hk e => (hf k e).elim id (fun e2 => by omega)), fun k hk => ?_⟩
  rcases k5 k hk with e | e
  · exact hf k e
  · exact Or.inr (by omega)
/-- A cell of the journal's block is stored into. -/
theorem JSys.store (h : JSys B w d x D j) {j' : Jr.Jn} (i : Nat) (v : Value) (hc : (jrnC d.db x j).setIfInBounds i v = jrnC d.db x j') (e1 : j'.recs = j.recs) (e2 : j'.file = j.file) : JTo B d x D j' w (w.setCell ⟨x.jb, i, none⟩ v) := by
  have hjb := h.jrn.jb
  have hb := h.jrn.hb
  have u : Upd (fun k => k = x.jb) w (w.setCell ⟨x.jb, i, none⟩ v) := Upd.set1 (Upd.refl _ _) (by omega) i v
  refine ⟨d, x, ⟨h.disk.upd u (fun k hk e => h.ap k hk (Or.inl e)), ⟨h.jrn.hb, h.jrn.jb, ?_, ?_, ⟨by rw [e2]; exact h.jrn.ok.file, by rw [e1]; exact h.jrn.ok.bytes⟩⟩, h.ap⟩, rfl, rfl, u.mono (fun k _ e => Or.inr (Or.inl e)), fun k hk => Or.inl hk⟩
  · rw [← hc]; exact setCell_block h.jrn.blk i v
  · rw [e1]; exact owns_updD h.jrn.own u (fun k hk e => by subst e; exact h.jrn.ne hk)
theorem JrnOk.i64 (h : JrnOk j) : I64 j.file := by have := h.file; unfold I64; omega
set_option maxRecDepth 100000 in
theorem JSync_c (h : JSys B w d x D j) (g : Gl w) (hB : B ≤ w.heap.size) : Calls Tryz.prog 53 #[.pointer (some ⟨x.jb, 0, none⟩)] w fun e w' => e = .returned (.int .i64 (Jr.syncJ D j).2.2) ∧ JTo B d x (Jr.syncJ D j).1 (Jr.syncJ D j).2.1 w w' := by
  have hgb := g.big
  obtain ⟨c0, c1, _, _, c4⟩ := h.jrn.cells
  have H := Lib.hid h
  cases hb : j.broken with
  | true =>
    rw [hb] at c4
    have hr : Hid (Jr.syncJ D j = (D, j, 7)) := by show _ = _; unfold Jr.syncJ; rw [if_pos hb]
    clear hb h c0 c1
    go_enter Tryz.func53, Tryz.ntmps53
    go_wp2_with fail
    go_ret
    exact ⟨by rw [hr.out]; rfl, by rw [hr.out]; exact JTo.refl H.out⟩
  | false =>
    rw [hb] at c4
    have hr : Hid (Jr.syncJ D j = ((Dk.sync D j.file).1, { j with broken := decide ((Dk.sync D j.file).2 ≠ 0) }, (Dk.sync D j.file).2)) := by show _ = _; unfold Jr.syncJ; rw [if_neg (by rw [hb]; decide)]
    have l0 : ∀ i : Later w, i.1.cell? ⟨x.jb, 0, none⟩ = some (.pointer (some ⟨d.db, 0, none⟩)) := fun i => (H.out.jrn.nw i.nw).cells.1
    have l1 : ∀ i : Later w, i.1.cell? ⟨x.jb, 1, none⟩ = some (.int .i64 j.file) := fun i => (H.out.jrn.nw i.nw).cells.2.1
    have Hb := Lib.hid hb
    have HB := Lib.hid hB
    clear hb h hB
    go_enter Tryz.func53, Tryz.ntmps53
    go_wp2_with fail
    refine wp_region_nw_tail 8 (by kernel_rfl) (by kernel_rfl) ?_
    simp only [List.take_succ_cons, List.take_zero, List.drop_succ_cons, List.drop_zero]
    repeat (go_big_quiet_step ((fail)))
    refine wpQuiet_nil ?_
    intro w1 u1
    replace u1 := later_out u1
    have hs1 := sync_c (H.out.nw u1).disk (g.upd u1) (Nat.le_trans HB.out u1.size) H.out.jrn.ok.i64
    have Hs1 := Lib.hid hs1
    clear hs1 l0 l1
    go_wp2_with fail
    (with_reducible refine (Hs1.out).mono ?_)
    rintro _ w2 ⟨rfl, hT⟩
    have hj := (H.out.nw u1).disk_to hT
    obtain ⟨d2, x2, k1, k2, k3, k4, k5⟩ := hj
    have f4 := cells_frozen k1.jrn.blk 4
    have q4 := k1.jrn.cells.2.2.2.2
    rw [k3] at f4 q4
    have hfin := fun (b : Bool) => JTo.then_ k2 k3 (Upd.trans (Nw.upd _ u1) k4) (fun k hk => (k5 k hk).imp id (fun e => Nat.le_trans u1.size e)) (JSys.store k1 (j' := { j with broken := b }) 4 (.bool b) rfl rfl rfl)
    rw [k3] at hfin
    have Hfin := Lib.hid hfin
    clear hfin k1 k4 k5 hT u1
    generalize (Dk.sync D j.file).2 = E at *
    by_cases h0 : E = 0
    · have b1 : (E == 0) = true := beq_iff_eq.2 h0
      have b2 : (E != 0) = false := by simp [h0]
      have hz := Hfin.out false
      have hdz : Hid (decide (E ≠ 0) = false) := by show _ = _; exact decide_eq_false (fun e => e h0)
      clear h0 Hfin
      have Hz := Lib.hid hz
      clear hz
      go_wp2_with fail
      go_ret
      exact ⟨by rw [hr.out]; rfl, by rw [hr.out, hdz.out]; exact Hz.out⟩
    · have b1 : (E == 0) = false := beq_eq_false_iff_ne.2 h0
      have b2 : (E != 0) = true := by simp [h0]
      have hz := Hfin.out true
      have hdz : Hid (decide (E ≠ 0) = true) := by show _ = _; exact decide_eq_true h0
      clear h0 Hfin
      have Hz := Lib.hid hz
      clear hz
      go_wp2_with fail
      go_ret
      exact ⟨by rw [hr.out]; rfl, by rw [hr.out, hdz.out]; exact Hz.out⟩
end
end Go.Proofs.YtmlmdlbepppnlaaGreatDoor
namespace Go.Proofs.YtmlmdlbepppnlaaGreatDoor
open Go.RowKit
set_option linter.unusedVariables false
set_option linter.unusedSimpArgs false
attribute [local irreducible] Calls

theorem app_done {B : Nat} {W ws : World} {d : DiskR} {x : JrnR} {D : Dk.Disk} {j : Jr.Jn} {s : List UInt8} {v' : Value} (h : JSys B W d x D j) (hl : (Jr.forms j.recs).length + (Jr.form s).length ≤ 16777216)
    (hown : ws.ownsRow B tStrJ 1 v' (j.recs.length + 1) (j.recs.map bsV ++ [bsV s])) (uS : Upd (fun k => x.rv.ownBlock = some k) W ws) (oS : ∀ k, v'.ownBlock = some k → x.rv.ownBlock = some k ∨ W.heap.size ≤ k) :
    JTo B d x D { j with recs := j.recs ++ [s] } W ((ws.setCell ⟨x.jb, 2, none⟩ v').setCell ⟨x.jb, 3, none⟩ (.int .i64 (((Jr.forms j.recs).length : Nat) + ((Jr.form s).length : Nat)))) := by
  have hjb := h.jrn.jb
  have hb := h.jrn.hb
  have hlt := fun k hk => (h.jrn.foot_lt (k := k) hk).2
  have hjl := hlt x.jb (Or.inl rfl)
  have hdl := fun k hk => (h.disk.foot_lt (k := k) hk).2
  have u1 : Upd (fun k => k = x.jb) ws (ws.setCell ⟨x.jb, 2, none⟩ v') := Upd.set1 (Upd.refl _ _) (by omega) 2 v'
  have u2 : Upd (fun k => k = x.jb) (ws.setCell ⟨x.jb, 2, none⟩ v') ((ws.setCell ⟨x.jb, 2, none⟩ v').setCell ⟨x.jb, 3, none⟩ (.int .i64 (((Jr.forms j.recs).length : Nat) + ((Jr.form s).length : Nat)))) := Upd.set1 (Upd.refl _ _) (by omega) 3 _
  have U := u1.trans u2
  have b3 := setCell_block (setCell_block (uS.keep h.jrn.blk h.jrn.ne) 2 v') 3 (.int .i64 (((Jr.forms j.recs).length : Nat) + ((Jr.form s).length : Nat)))
  refine ⟨d, ⟨x.jb, v'⟩, ⟨(h.disk.upd uS (fun k hk e => h.ap k hk (Or.inr e))).upd U (fun k hk e => h.ap k hk (Or.inl e)), ⟨h.jrn.hb, h.jrn.jb, ?_, ?_, ⟨h.jrn.ok.file, ?_⟩⟩, fun k hk e => ?_⟩, rfl, rfl, ?_, fun k hk => ?_⟩
  · have e : (Jr.forms (j.recs ++ [s])).length = (Jr.forms j.recs).length + (Jr.form s).length := by rw [Jr.forms_snoc, List.length_append]
    unfold jrnC at b3 ⊢
    dsimp only
    rw [e]
    exact b3
  · refine owns_updD ?_ U (fun k hk e => ?_)
    · dsimp only
      rw [List.length_append, List.map_append]; exact hown
    · subst e
      rcases oS _ hk with e | e
      · exact h.jrn.ne e
      · omega
  · dsimp only
    rw [Jr.forms_snoc, List.length_append]; exact hl
  · rcases e with e | e
    · exact h.ap k hk (Or.inl e)
    · rcases oS _ e with e | e
      · exact h.ap k hk (Or.inr e)
      · have := hdl k hk; omega
  · exact (uS.mono (fun k _ e => Or.inr (Or.inr e))).trans' U (fun k _ e => Or.inr (Or.inl e))
  · rcases hk with hk | hk | hk
    · exact Or.inl (Or.inl hk)
    · exact Or.inl (Or.inr (Or.inl hk))
    · exact (oS _ hk).imp (fun e => Or.inr (Or.inr e)) id
set_option maxHeartbeats 1000000 in
set_option maxRecDepth 100000 in
theorem Append_c {B : Nat} {w : World} {d : DiskR} {x : JrnR} {D : Dk.Disk} {j : Jr.Jn} (h : JSys B w d x D j) (g : Gl w) (hB : B ≤ w.heap.size) (s : List UInt8) (hs : s.length ≤ 1000000) :
    Calls Tryz.prog 49 #[.pointer (some ⟨x.jb, 0, none⟩), .string ⟨s.toArray⟩] w fun e w' => e = .returned (.int .i64 (Jr.append D j s).2.2) ∧ JTo B d x (Jr.append D j s).1 (Jr.append D j s).2.1 w w' := by
  have hgb := g.big
  have hfc := Lib.hid (form_c s (by omega) w g)
  have hfl := Jr.form_len s (by omega)
  have hfl1 : ((Jr.form s).length : Int) ≤ 1000043 := by omega
  have hfl0 : (0 : Int) ≤ (Jr.form s).length := by omega
  have hbl := h.jrn.ok.bytes
  have hbl1 : ((Jr.forms j.recs).length : Int) ≤ 16777216 := by omega
  have hsl1 : (s.length : Int) ≤ 1000000 := by omega
  have H := Lib.hid h
  have HB := Lib.hid hB
  have Hfl := Lib.hid hfl
  clear h hfl hbl hs hB
  go_enter Tryz.func49, Tryz.ntmps49
  go_wp2_with fail
  (with_reducible refine (hfc.out).mono ?_)
  rintro _ w1 ⟨rfl, u1⟩
  have h1 := H.out.nw u1
  obtain ⟨c0, c1, c2, c3, c4⟩ := h1.jrn.cells
  have H1 := Lib.hid h1
  have U1 := Lib.hid u1
  clear h1 u1 hfc
  cases hb : j.broken with
  | true =>
    rw [hb] at c4
    have hr : Hid (Jr.append D j s = (D, j, 7)) := by show _ = _; unfold Jr.append; rw [if_pos hb]
    clear hb
    go_wp2_with fail
    go_ret
    exact ⟨by rw [hr.out]; rfl, by rw [hr.out]; exact JTo.of_nw H.out U1.out⟩
  | false =>
  rw [hb] at c4
  have hr0 : Jr.append D j s = if 20000 < s.length then (D, j, 3) else if 1048576 < (Jr.forms j.recs).length + (Jr.form s).length then (D, j, 6) else if (Dk.write D j.file (Jr.forms j.recs).length (Jr.form s)).2 ≠ 0 then ((Dk.write D j.file (Jr.forms j.recs).length (Jr.form s)).1, { j with broken := true }, (Dk.write D j.file (Jr.forms j.recs).length (Jr.form s)).2)
      else ((Dk.write D j.file (Jr.forms j.recs).length (Jr.form s)).1, { j with recs := j.recs ++ [s] }, 0) := by
    unfold Jr.append; rw [if_neg (by rw [hb]; decide)]
  have Hbk := Lib.hid hb
  clear hb
  by_cases h1 : 20000 < s.length
  · have hr : Hid (Jr.append D j s = (D, j, 3)) := by show _ = _; rw [hr0, if_pos h1]
    have h1' : (20000 : Int) < s.length := by omega
    clear hr0 h1
    go_wp2_with fail
    go_ret
    exact ⟨by rw [hr.out]; rfl, by rw [hr.out]; exact JTo.of_nw H.out U1.out⟩
  have h1' : ¬ (20000 : Int) < s.length := by omega
  rw [if_neg h1] at hr0
  clear h1
  by_cases h2 : 1048576 < (Jr.forms j.recs).length + (Jr.form s).length
  · have hr : Hid (Jr.append D j s = (D, j, 6)) := by show _ = _; rw [hr0, if_pos h2]
    have h2' : (1048576 : Int) < ((Jr.forms j.recs).length : Int) + (Jr.form s).length := by omega
    clear hr0 h2
    go_wp2_with fail
    go_ret
    exact ⟨by rw [hr.out]; rfl, by rw [hr.out]; exact JTo.of_nw H.out U1.out⟩
  have h2' : ¬ (1048576 : Int) < ((Jr.forms j.recs).length : Int) + (Jr.form s).length := by omega
  rw [if_neg h2] at hr0
  have Hr0 := Lib.hid hr0
  have H2 := Lib.hid h2
  clear hr0 h2
  have l0 : ∀ i : Later w1, i.1.cell? ⟨x.jb, 0, none⟩ = some (.pointer (some ⟨d.db, 0, none⟩)) := fun i => (H1.out.jrn.nw i.nw).cells.1
  have l1 : ∀ i : Later w1, i.1.cell? ⟨x.jb, 1, none⟩ = some (.int .i64 j.file) := fun i => (H1.out.jrn.nw i.nw).cells.2.1
  have l3 : ∀ i : Later w1, i.1.cell? ⟨x.jb, 3, none⟩ = some (.int .i64 ((Jr.forms j.recs).length : Nat)) := fun i => (H1.out.jrn.nw i.nw).cells.2.2.2.1
  go_wp2_with fail
  refine wp_region_nw_tail 13 (by kernel_rfl) (by kernel_rfl) ?_
  simp only [List.take_succ_cons, List.take_zero, List.drop_succ_cons, List.drop_zero]
  repeat (go_big_quiet_step ((fail)))
  refine wpQuiet_nil ?_
  intro w3 u3
  replace u3 := later_out u3
  have U3 := Lib.hid (U1.out.trans u3)
  have h3 := H1.out.nw u3
  have hw := write_c h3.disk (g.upd U3.out) (Nat.le_trans HB.out U3.out.size) (f := j.file) (i := ((Jr.forms j.recs).length : Nat)) h3.jrn.ok.i64 (by unfold I64; omega) (Jr.form s) (by have := H2.out; omega)
  have Hw := Lib.hid hw
  have H3 := Lib.hid h3
  clear hw h3 l0 l1 l3 u3 c0 c1 c2 c3 c4
  go_wp2_with fail
  (with_reducible refine (Hw.out).mono ?_)
  rintro _ w4 ⟨rfl, hT⟩
  obtain ⟨d2, x2, k1, k2, k3, k4, k5⟩ := H3.out.disk_to hT
  have hthen : ∀ (D' : Dk.Disk) (j' : Jr.Jn) (z : World), JTo B d2 x2 D' j' w4 z → JTo B d x D' j' w z := fun D' j' z t => JTo.then_ k2 k3 (Upd.trans (Nw.upd _ U3.out) k4) (fun k hk => (k5 k hk).imp id (fun e => Nat.le_trans U3.out.size e)) t
  have Hthen := Lib.hid hthen
  have K1 := Lib.hid k1
  have HS4 := Lib.hid (Nat.le_trans HB.out (Nat.le_trans U3.out.size k4.size))
  have f4 := cells_frozen k1.jrn.blk 4
  obtain ⟨_, _, c2, c3, q4⟩ := k1.jrn.cells
  rw [k3] at f4 q4 c2 c3
  have K3 := Lib.hid k3
  clear hthen hT Hw k1 k2 k3 k4 k5
  generalize (Dk.write D j.file (Jr.forms j.recs).length (Jr.form s)).2 = E at *
  generalize (Dk.write D j.file (Jr.forms j.recs).length (Jr.form s)).1 = D4 at *
  by_cases h0 : E = 0
  rotate_left
  · have b1 : (E == 0) = false := beq_eq_false_iff_ne.2 h0
    have b2 : (E != 0) = true := by simp [h0]
    have hr : Hid (Jr.append D j s = (D4, { j with broken := true }, E)) := by show _ = _; rw [Hr0.out, if_pos h0]
    have hst := JSys.store K1.out (j' := { j with broken := true }) 4 (.bool true) rfl rfl rfl
    rw [K3.out] at hst
    have Hz := Lib.hid (Hthen.out _ _ _ hst)
    clear h0 hst Hthen
    go_wp2_with fail
    go_ret
    exact ⟨by rw [hr.out]; rfl, by rw [hr.out]; exact Hz.out⟩
  have b1 : (E == 0) = true := beq_iff_eq.2 h0
  have b2 : (E != 0) = false := by simp [h0]
  have hr : Hid (Jr.append D j s = (D4, { j with recs := j.recs ++ [s] }, 0)) := by show _ = _; rw [Hr0.out, if_neg (fun e => e h0)]
  clear h0 Hr0
  obtain ⟨aj, cj, hrv⟩ := own_slD K1.out.jrn.own
  rw [hrv] at c2
  have hgB : nG ≤ B := K1.out.jrn.hb
  have hB4 := HS4.out
  have HSall : Hid (∀ z, Upd (fun k => (Value.slice aj j.recs.length cj).ownBlock = some k) w4 z → (z.cell? ⟨x.jb, 2, none⟩ = some (.slice aj j.recs.length cj) ∧ z.cell? ⟨x.jb, 3, none⟩ = some (.int .i64 ((Jr.forms j.recs).length : Nat))) ∧ z.frozen? ⟨x.jb, 2, none⟩ = false) := fun z uz => by
    have hbz := uz.keep K1.out.jrn.blk (by rw [← hrv]; exact K1.out.jrn.ne)
    rw [K3.out] at hbz
    refine ⟨⟨?_, ?_⟩, cells_frozen hbz 2⟩
    · rw [cells_cell hbz]; show some x2.rv = _; rw [hrv]
    · rw [cells_cell hbz]; rfl
  have HSd := HSall.out w4.drew (Upd.refl _ _).drew
  have HSa := fun o => HSall.out (w4.drew.alloc o) ((Upd.refl _ _).drew.alloc o)
  have q4o := K1.out.jrn.own
  rw [hrv] at q4o
  have Q4 := Lib.hid q4o
  have hn4 : j.recs.length + 1 ≤ maxLen := by have := K1.out.jrn.len; unfold maxLen; omega
  have hn5 : (j.recs.length + 1) * 16 ≤ 140737488355328 := by have := K1.out.jrn.len; omega
  have HN := Lib.hid (And.intro hn4 hn5)
  have Hrv := Lib.hid hrv
  clear q4o hn4 hn5 hrv q4 f4
  go_wp2_with fail
  refine wp_region_H 18 (fun z => z.cell? ⟨x.jb, 2, none⟩ = some (.slice aj j.recs.length cj) ∧ z.cell? ⟨x.jb, 3, none⟩ = some (.int .i64 ((Jr.forms j.recs).length : Nat))) (fun _ => True) (by kernel_rfl) ?_
  refine wpAnyH_pure (i := 0) (v := ?_) rfl (by kernel_rfl) (by kernel_rfl) (by kernel_rfl) (by kernel_rfl) (by kernel_rfl) (fun _ _ _ h => h) (by rfl) ?_ (⟨fun _ => HSd.1, trivial⟩) ?_
  rotate_left 1
  · (intro zz; go_simp; first | done | with_reducible rfl)
  (try simp only [Act.put, List.setIfInBounds_toArray, List.set_cons_zero, List.set_cons_succ])
  refine wpAnyH_pure (i := 1) (v := ?_) rfl (by kernel_rfl) (by kernel_rfl) (by kernel_rfl) (by kernel_rfl) (by kernel_rfl) (fun _ _ _ h => h) (by rfl) ?_ (⟨fun _ => HSd.1, trivial⟩) ?_
  rotate_left 1
  · (intro zz; go_simp; first | done | with_reducible rfl)
  (try simp only [Act.put, List.setIfInBounds_toArray, List.set_cons_zero, List.set_cons_succ])
  refine wpAnyH_pure (i := 2) (v := ?_) rfl (by kernel_rfl) (by kernel_rfl) (by kernel_rfl) (by kernel_rfl) (by kernel_rfl) (fun _ _ _ h => h) (by rfl) ?_ (⟨fun _ => HSd.1, trivial⟩) ?_
  rotate_left 1
  · (intro zz; go_simp; first | done | with_reducible rfl)
  (try simp only [Act.put, List.setIfInBounds_toArray, List.set_cons_zero, List.set_cons_succ])
  refine wpAnyH_pure (i := 3) (v := ?_) rfl (by kernel_rfl) (by kernel_rfl) (by kernel_rfl) (by kernel_rfl) (by kernel_rfl) (fun _ _ _ h => h) (by rfl) ?_ (⟨fun _ => HSd.1, trivial⟩) ?_
  rotate_left 1
  · (intro zz; go_simp; first | done | with_reducible rfl)
  (try simp only [Act.put, List.setIfInBounds_toArray, List.set_cons_zero, List.set_cons_succ])
  refine wpAnyH_pure (i := 4) (v := ?_) rfl (by kernel_rfl) (by kernel_rfl) (by kernel_rfl) (by kernel_rfl) (by kernel_rfl) (fun _ _ _ h => h) (by rfl) ?_ (⟨fun _ => HSd.1, trivial⟩) ?_
  rotate_left 1
  · (intro zz; go_simp; first | done | with_reducible rfl)
  (try simp only [Act.put, List.setIfInBounds_toArray, List.set_cons_zero, List.set_cons_succ])
  refine wpAnyH_load1 (i := 5) (v := ?_) [8] rfl (by kernel_rfl) (by kernel_rfl) (by kernel_rfl) (by kernel_rfl) (by kernel_rfl) (by kernel_rfl) (fun _ _ _ h => h) (by rfl) ?_ (⟨fun _ => HSd.1, trivial⟩) ?_
  rotate_left 1
  · (intro zz hS1 hS2; clear hS2; obtain ⟨_, _⟩ := hS1; go_simp; first | done | with_reducible rfl)
  (try simp only [Act.put, List.setIfInBounds_toArray, List.set_cons_zero, List.set_cons_succ])
  refine wpAnyH_pure (i := 6) (v := ?_) rfl (by kernel_rfl) (by kernel_rfl) (by kernel_rfl) (by kernel_rfl) (by kernel_rfl) (fun _ _ _ h => h) (by rfl) ?_ (⟨fun _ => HSd.1, trivial⟩) ?_
  rotate_left 1
  · (intro zz; go_simp; first | done | with_reducible rfl)
  (try simp only [Act.put, List.setIfInBounds_toArray, List.set_cons_zero, List.set_cons_succ])
  refine wpAnyH_pure (i := 9) (v := ?_) rfl (by kernel_rfl) (by kernel_rfl) (by kernel_rfl) (by kernel_rfl) (by kernel_rfl) (fun _ _ _ h => h) (by rfl) ?_ (⟨fun _ => HSd.1, trivial⟩) ?_
  rotate_left 1
  · (intro zz; go_simp; first | done | with_reducible rfl)
  (try simp only [Act.put, List.setIfInBounds_toArray, List.set_cons_zero, List.set_cons_succ])
  refine wpAnyH_pure (i := 10) (v := ?_) rfl (by kernel_rfl) (by kernel_rfl) (by kernel_rfl) (by kernel_rfl) (by kernel_rfl) (fun _ _ _ h => h) (by rfl) ?_ (⟨fun _ => HSd.1, trivial⟩) ?_
  rotate_left 1
  · (intro zz; go_simp; first | done | with_reducible rfl)
  (try simp only [Act.put, List.setIfInBounds_toArray, List.set_cons_zero, List.set_cons_succ])
  refine wpAnyH_pure (i := 11) (v := ?_) rfl (by kernel_rfl) (by kernel_rfl) (by kernel_rfl) (by kernel_rfl) (by kernel_rfl) (fun _ _ _ h => h) (by rfl) ?_ (⟨fun _ => HSd.1, trivial⟩) ?_
  rotate_left 1
  · (intro zz; go_simp; first | done | with_reducible rfl)
  (try simp only [Act.put, List.setIfInBounds_toArray, List.set_cons_zero, List.set_cons_succ])
  refine wpAnyH_load1 (i := 12) (v := ?_) [] rfl (by kernel_rfl) (by kernel_rfl) (by kernel_rfl) (by kernel_rfl) (by kernel_rfl) (by kernel_rfl) (fun _ _ _ h => h) (by rfl) ?_ (⟨fun _ => HSd.1, trivial⟩) ?_
  rotate_left 1
  · (intro zz hS1 hS2; clear hS2; obtain ⟨_, _⟩ := hS1; go_simp; first | done | with_reducible rfl)
  (try simp only [Act.put, List.setIfInBounds_toArray, List.set_cons_zero, List.set_cons_succ])
  refine wpAnyH_pure (i := 13) (v := ?_) rfl (by kernel_rfl) (by kernel_rfl) (by kernel_rfl) (by kernel_rfl) (by kernel_rfl) (fun _ _ _ h => h) (by rfl) ?_ (⟨fun _ => HSd.1, trivial⟩) ?_
  rotate_left 1
  · (intro zz; go_simp; first | done | with_reducible rfl)
  (try simp only [Act.put, List.setIfInBounds_toArray, List.set_cons_zero, List.set_cons_succ])
  refine wpAnyH_pure (i := 14) (v := ?_) rfl (by kernel_rfl) (by kernel_rfl) (by kernel_rfl) (by kernel_rfl) (by kernel_rfl) (fun _ _ _ h => h) (by rfl) ?_ (⟨fun _ => HSd.1, trivial⟩) ?_
  rotate_left 1
  · (intro zz; go_simp; first | done | with_reducible rfl)
  (try simp only [Act.put, List.setIfInBounds_toArray, List.set_cons_zero, List.set_cons_succ])
  refine wpAnyH_pure (i := 15) (v := ?_) rfl (by kernel_rfl) (by kernel_rfl) (by kernel_rfl) (by kernel_rfl) (by kernel_rfl) (fun _ _ _ h => h) (by rfl) ?_ (⟨fun _ => HSd.1, trivial⟩) ?_
  rotate_left 1
  · (intro zz; go_simp; first | done | with_reducible rfl)
  (try simp only [Act.put, List.setIfInBounds_toArray, List.set_cons_zero, List.set_cons_succ])
  refine wpAnyH_one (i := 7) (by kernel_rfl) rfl (fun K hK => ?_)
  go_simp
  refine hK.out _ _ ⟨fun _ => (HSa _).1, trivial⟩ ?_
  clear hK K
  (try simp only [Act.put, List.setIfInBounds_toArray, List.set_cons_zero, List.set_cons_succ])
  refine wpAnyH_one (i := 8) (by kernel_rfl) rfl (fun K hK => ?_)
  refine step_appD rfl _ _ 25 rfl B tStrJ _ 1 16 Tryz.underlying25 infoStrJ rfl (by decide) (.slice aj j.recs.length cj) j.recs.length (j.recs.map bsV) rfl w4 (fun _ => False) Q4.out ((Upd.refl _ _).drew.alloc _) (fun _ _ e => e) _ [bsV s] rfl (heap_new _ _) rfl (by intro u hu; rw [List.mem_singleton.1 hu]; rfl) HN.out.1 HN.out.2 hB4 hgB ?_
  intro gs cs ws hownS uS oS
  have uW : Upd (fun k => (Value.slice aj j.recs.length cj).ownBlock = some k) w4 ws := Upd.trans (((Upd.refl _ _).drew).alloc _) uS
  have hS := HSall.out ws uW
  refine hK.out _ _ ⟨fun _ => hS.1, trivial⟩ ?_
  clear hK K
  (try simp only [Act.put, List.setIfInBounds_toArray, List.set_cons_zero, List.set_cons_succ])
  refine wpAnyH_pure (i := 16) (v := ?_) rfl (by kernel_rfl) (by kernel_rfl) (by kernel_rfl) (by kernel_rfl) (by kernel_rfl) (fun _ _ _ h => h) (by rfl) ?_ (⟨fun _ => hS.1, trivial⟩) ?_
  rotate_left 1
  · (intro zz; go_simp; first | done | with_reducible rfl)
  (try simp only [Act.put, List.setIfInBounds_toArray, List.set_cons_zero, List.set_cons_succ])
  refine wpAnyH_pure (i := 17) (v := ?_) rfl (by kernel_rfl) (by kernel_rfl) (by kernel_rfl) (by kernel_rfl) (by kernel_rfl) (fun _ _ _ h => h) (by rfl) ?_ (⟨fun _ => hS.1, trivial⟩) ?_
  rotate_left 1
  · (intro zz; go_simp; first | done | with_reducible rfl)
  (try simp only [Act.put, List.setIfInBounds_toArray, List.set_cons_zero, List.set_cons_succ])
  have z1 := hS.1.1
  have zf := hS.2
  have hblk := uW.keep K1.out.jrn.blk (by rw [← Hrv.out]; exact K1.out.jrn.ne)
  rw [K3.out] at hblk
  have hb2 := setCell_block hblk 2 (.slice (some ⟨gs, 0, none⟩) (j.recs.length + 1) cs)
  have z3 : (ws.setCell ⟨x.jb, 2, none⟩ (.slice (some ⟨gs, 0, none⟩) (j.recs.length + 1) cs)).cell? ⟨x.jb, 3, none⟩ = some (.int .i64 ((Jr.forms j.recs).length : Nat)) := by rw [cells_cell hb2]; rfl
  have zf3 := cells_frozen hb2 3
  have hdone := app_done K1.out (s := s) (by have := H2.out; omega) hownS (by rw [Hrv.out]; exact uW) (fun k hk => by
    obtain rfl : gs = k := by simpa [Value.ownBlock] using hk
    rw [Hrv.out]; exact oS)
  rw [K3.out] at hdone
  have hwr : IntKind.i64.wrap (((Jr.forms j.recs).length : Int) + (Jr.form s).length) = ((Jr.forms j.recs).length : Int) + (Jr.form s).length := by rw [IntKind.wrap_i64]; omega
  rw [← hwr] at hdone
  have Hz := Lib.hid (Hthen.out _ _ _ hdone)
  clear hwr
  clear hdone hownS uS oS hblk hb2 hS HSd HSa
  refine wpAnyH_one (i := 18) (by kernel_rfl) rfl (fun K hK => ?_)
  go_simp
  refine hK.out _ _ ⟨fun e => absurd (show true = false from e) (by decide), trivial⟩ ?_
  clear hK K
  (try simp only [Act.put, List.setIfInBounds_toArray, List.set_cons_zero, List.set_cons_succ])
  refine wpAnyH_pure (i := 19) (v := ?_) rfl (by kernel_rfl) (by kernel_rfl) (by kernel_rfl) (by kernel_rfl) (by kernel_rfl) (fun _ _ _ h => h) (by rfl) ?_ (⟨fun e => absurd (show true = false from e) (by decide), trivial⟩) ?_
  rotate_left 1
  · (intro zz; go_simp; first | done | with_reducible rfl)
  (try simp only [Act.put, List.setIfInBounds_toArray, List.set_cons_zero, List.set_cons_succ])
  refine wpAnyH_pure (i := 20) (v := ?_) rfl (by kernel_rfl) (by kernel_rfl) (by kernel_rfl) (by kernel_rfl) (by kernel_rfl) (fun _ _ _ h => h) (by rfl) ?_ (⟨fun e => absurd (show true = false from e) (by decide), trivial⟩) ?_
  rotate_left 1
  · (intro zz; go_simp; first | done | with_reducible rfl)
  (try simp only [Act.put, List.setIfInBounds_toArray, List.set_cons_zero, List.set_cons_succ])
  refine wpAnyH_one (i := 21) (by kernel_rfl) rfl (fun K hK => ?_)
  go_simp
  refine hK.out _ _ ⟨fun e => absurd (show true = false from e) (by decide), trivial⟩ ?_
  clear hK K
  (try simp only [Act.put, List.setIfInBounds_toArray, List.set_cons_zero, List.set_cons_succ])
  refine wpAnyH_done (by kernel_rfl) ?_ _
  go_wp2_with fail
  go_ret
  exact ⟨by rw [hr.out]; rfl, by rw [hr.out]; exact Hz.out⟩
end Go.Proofs.YtmlmdlbepppnlaaGreatDoor
namespace Go.Proofs.YtmlmdlbepppnlaaGreatDoor
open Go.RowKit
set_option linter.unusedVariables false
set_option linter.unusedSimpArgs false
attribute [local irreducible] Calls

theorem sync_may {D : Dk.Disk} {f : Int} (h : (Dk.sync D f).2 = 0) : Dk.may (Dk.sync D f).1 f = 0 := by
  by_cases h1 : Dk.may (Dk.come D) f = 0
  · by_cases h2 : 0 < (Dk.come D).lost
    · have e : Dk.sync D f = ({ Dk.come D with lost := (Dk.come D).lost - 1 }, 9) := by unfold Dk.sync; rw [if_neg (by omega), if_pos h2]
      rw [e] at h; cases h
    · have e : Dk.sync D f = (Dk.settle (Dk.come D) f ((Dk.come D).fs f).now, 0) := by unfold Dk.sync; rw [if_neg (by omega), if_neg h2]
      rw [e]
      exact h1
  · have e : Dk.sync D f = (Dk.come D, Dk.may (Dk.come D) f) := by unfold Dk.sync; rw [if_pos h1]
    rw [e] at h
    exact absurd h h1
theorem read_all {D : Dk.Disk} {f : Int} (h : Dk.may D f = 0) : Dk.read D f 0 (Dk.size D f) = ((D.fs f).now, 0) := by
  unfold Dk.read Dk.size
  rw [if_neg (by omega), if_neg (by omega)]
  simp
/-- What Open makes of a disk: a journal, or none. -/
def OpenTo (B : Nat) (d : DiskR) (D' : Dk.Disk) (jo : Option Jr.Jn) (pv : Value) (w w' : World) : Prop :=
  match jo with
  | none => pv = .pointer none ∧ DiskTo B d D' w w'
  | some j => ∃ d' x, pv = .pointer (some ⟨x.jb, 0, none⟩) ∧ JSys B w' d' x D' j ∧ d'.db = d.db ∧ Upd d.foot w w' ∧ (∀ k, d'.foot k → d.foot k ∨ w.heap.size ≤ k) ∧ ∀ k, x.foot k → w.heap.size ≤ k
theorem open_made {B : Nat} {w w1 w3 w4 : World} {d d1 d4 : DiskR} {D4 : Dk.Disk} {f : Int} {R : List (List UInt8)} {v' : Value} (hB : B ≤ w.heap.size) (hd1 : ∀ k, d1.foot k → k < w1.heap.size) (e1 : d1.db = d.db) (u1 : Upd d.foot w w1) (f1 : ∀ k, d1.foot k → d.foot k ∨ w.heap.size ≤ k)
    (n3 : Nw w1 w3) (o3 : w3.ownsRow w1.heap.size tStrJ 1 v' R.length (R.map bsV)) (h4 : DiskAt B w4 d4 D4) (e4 : d4.db = d1.db) (u4 : Upd d1.foot w3 w4) (f4 : ∀ k, d4.foot k → d1.foot k ∨ w3.heap.size ≤ k) (hf : 0 ≤ f ∧ f ≤ 15) (hR : (Jr.forms R).length ≤ 16777216) :
    OpenTo B d D4 (some ⟨f, R, false⟩) (.pointer (some ⟨w4.heap.size, 0, none⟩)) w (w4.alloc (.cells #[.pointer (some ⟨d.db, 0, none⟩), .int .i64 f, v', .int .i64 ((Jr.forms R).length : Nat), .bool false] tJrn)) := by
  have n5 := nw_alloc w4 (.cells #[.pointer (some ⟨d.db, 0, none⟩), .int .i64 f, v', .int .i64 ((Jr.forms R).length : Nat), .bool false] tJrn)
  have k5 := heap_new w4 (.cells #[.pointer (some ⟨d.db, 0, none⟩), .int .i64 f, v', .int .i64 ((Jr.forms R).length : Nat), .bool false] tJrn)
  have s1 := u1.size
  have s3 := n3.size
  have s4 := u4.size
  have hv : ∀ k, v'.ownBlock = some k → w1.heap.size ≤ k ∧ k < w3.heap.size := fun k hk => by
    obtain ⟨a, cs, b⟩ := own_blockD o3 hk
    exact ⟨a, lt_of_block b⟩
  have o4 := owns_updD o3 u4 (fun k hk e => by have := hv k hk; have := hd1 k e; omega)
  have o5 := owns_base (owns_updD o4 n5 (fun _ _ e => e)) (base' := B) (by omega)
  have hlt := fun k hk => (h4.foot_lt (k := k) hk).2
  refine ⟨d4, ⟨w4.heap.size, v'⟩, rfl, ⟨h4.nw n5, ⟨h4.hb, by show B ≤ w4.heap.size; omega, ?_, o5, ⟨hf, hR⟩⟩, fun k hk e => ?_⟩, e4.trans e1, ?_, fun k hk => ?_, fun k hk => ?_⟩
  · unfold jrnC
    rw [e4.trans e1]
    exact k5
  · rcases e with e | e
    · have := hlt k hk; dsimp only at e; omega
    · have := hv k e
      rcases f4 k hk with e2 | e2
      · have := hd1 k e2; omega
      · omega
  · exact ((u1.nw n3).trans' u4 (fun k hk e => (f1 k e).elim id (fun e2 => by omega))).nw n5
  · rcases f4 k hk with e | e
    · exact f1 k e
    · exact Or.inr (by omega)
  · rcases hk with e | e
    · dsimp only at e; omega
    · have := hv k e; omega
set_option maxHeartbeats 1000000 in
set_option maxRecDepth 100000 in
theorem Open_c {B : Nat} {w : World} {d : DiskR} {D : Dk.Disk} (h : DiskAt B w d D) (g : Gl w) (hB : B ≤ w.heap.size) {f : Int} (hf : I64 f) :
    Calls Tryz.prog 39 #[.pointer (some ⟨d.db, 0, none⟩), .int .i64 f] w fun e w' => ∃ pv, e = .returned (.tuple #[pv, .int .i64 (Jr.openJ D f).2.2]) ∧ OpenTo B d (Jr.openJ D f).1 (Jr.openJ D f).2.1 pv w w' := by
  have hgb := g.big
  have H := Lib.hid h
  have HB := Lib.hid hB
  have HF := Lib.hid hf
  by_cases h0 : f < 0
  · have hr : Hid (Jr.openJ D f = (D, none, 1)) := by show _ = _; unfold Jr.openJ; rw [if_pos (Or.inl h0)]
    clear h hB hf
    go_enter Tryz.func39, Tryz.ntmps39
    go_wp2_with fail
    go_ret2
    exact ⟨_, by rw [hr.out]; rfl, by rw [hr.out]; exact ⟨rfl, DiskTo.refl H.out⟩⟩
  by_cases h15 : 15 < f
  · have hr : Hid (Jr.openJ D f = (D, none, 1)) := by show _ = _; unfold Jr.openJ; rw [if_pos (Or.inr h15)]
    clear h hB hf
    go_enter Tryz.func39, Tryz.ntmps39
    go_wp2_with fail
    go_ret2
    exact ⟨_, by rw [hr.out]; rfl, by rw [hr.out]; exact ⟨rfl, DiskTo.refl H.out⟩⟩
  have hr0 : Jr.openJ D f = if (Dk.sync D f).2 ≠ 0 then ((Dk.sync D f).1, none, (Dk.sync D f).2)
    else if (Jr.forms (Jr.recs ((Dk.sync D f).1.fs f).now)).length < ((Dk.sync D f).1.fs f).now.length then
    (if (Dk.truncate (Dk.sync D f).1 f (Jr.forms (Jr.recs ((Dk.sync D f).1.fs f).now)).length).2 ≠ 0 then ((Dk.truncate (Dk.sync D f).1 f (Jr.forms (Jr.recs ((Dk.sync D f).1.fs f).now)).length).1, none, (Dk.truncate (Dk.sync D f).1 f (Jr.forms (Jr.recs ((Dk.sync D f).1.fs f).now)).length).2)
      else ((Dk.truncate (Dk.sync D f).1 f (Jr.forms (Jr.recs ((Dk.sync D f).1.fs f).now)).length).1, some ⟨f, Jr.recs ((Dk.sync D f).1.fs f).now, false⟩, 0))
    else ((Dk.sync D f).1, some ⟨f, Jr.recs ((Dk.sync D f).1.fs f).now, false⟩, 0) := by
    unfold Jr.openJ; rw [if_neg (by omega)]
  have hfile : Hid (0 ≤ f ∧ f ≤ 15) := by show _ ∧ _; omega
  have hsc := sync_c h g hB hf
  have hmy := @sync_may D f
  generalize Dk.sync D f = S at *
  obtain ⟨D1, E⟩ := S
  dsimp only at hr0 hsc hmy
  have Hsc := Lib.hid hsc
  have Hr0 := Lib.hid hr0
  have Hmy := Lib.hid hmy
  clear hr0 hsc hmy h hB hf
  go_enter Tryz.func39, Tryz.ntmps39
  go_wp2_with fail
  (with_reducible refine (Hsc.out).mono ?_)
  rintro _ w1 ⟨rfl, hT⟩
  have HT := Lib.hid hT
  clear hT Hsc
  by_cases hE : E = 0
  rotate_left
  · have b1 : (E == 0) = false := beq_eq_false_iff_ne.2 hE
    have b2 : (E != 0) = true := by simp [hE]
    have hr : Hid (Jr.openJ D f = (D1, none, E)) := by show _ = _; rw [Hr0.out, if_pos hE]
    clear hE
    go_wp2_with fail
    go_ret2
    exact ⟨_, by rw [hr.out]; rfl, by rw [hr.out]; exact ⟨rfl, HT.out⟩⟩
  subst hE
  have hmay := Hmy.out rfl
  have hr1 := Hr0.out
  rw [if_neg (fun e => e rfl)] at hr1
  obtain ⟨d1, h1, e1, u1, f1⟩ := HT.out
  have g1 := g.upd u1
  have hsz := size_c h1 HF.out
  rw [e1] at hsz
  have hnow := h1.ok.now f
  have hrd := read_c h1 HF.out (i := 0) (n := Dk.size D1 f) (by unfold I64; omega) (by unfold Dk.size I64; omega)
  rw [e1, read_all hmay] at hrd
  dsimp only at hrd
  have hse : Dk.size D1 f = ((D1.fs f).now.length : Int) := rfl
  have HD1 := Lib.hid (And.intro h1 (And.intro e1 (And.intro u1 f1)))
  have hrj := read_j (D1.fs f).now hnow w1 g1
  have htc := fun (z : World) (n : Nw w1 z) (m : Int) (hm : I64 m) => truncate_c (h1.nw n) (g1.upd n) (Nat.le_trans (Nat.le_trans HB.out u1.size) n.size) HF.out hm
  rw [e1] at htc
  generalize (D1.fs f).now = s at *
  have Hrj := Lib.hid hrj
  have Hrd := Lib.hid hrd
  have Hsz := Lib.hid hsz
  have Htc := Lib.hid htc
  have Hr1 := Lib.hid hr1
  have Hnow := Lib.hid hnow
  have hlen : (s.length : Int) ≤ 16777216 := by omega
  have hlen0 : (0 : Int) ≤ s.length := by omega
  have hse2 : Hid (Dk.size D1 f = (s.length : Int)) := hse
  clear hrj hrd hsz htc hr1 hnow h1 e1 u1 f1 Hr0 hmay Hmy hse
  have hfr := Jr.recs_len s
  have hfr1 : ((Jr.forms (Jr.recs s)).length : Int) ≤ s.length := by omega
  have hfr0 : (0 : Int) ≤ ((Jr.forms (Jr.recs s)).length : Nat) := by omega
  have Hfr := Lib.hid hfr
  clear hfr
  go_wp2_with fail
  (with_reducible refine (Hsz.out).mono ?_)
  rintro _ _ ⟨rfl, rfl⟩
  go_wp2_with fail
  (with_reducible refine (Hrd.out).mono ?_)
  rintro _ _ ⟨rfl, rfl⟩
  go_wp2_with fail
  (with_reducible refine (Hrj.out).mono ?_)
  rintro _ w3 ⟨v', rfl, o3, n3⟩
  have O3 := Lib.hid o3
  have N3 := Lib.hid n3
  obtain ⟨av, cv, rfl⟩ := own_slD o3
  clear o3 n3 Hrj Hrd Hsz
  have hI : Hid (I64 ((Jr.forms (Jr.recs s)).length : Nat)) := by show I64 _; unfold I64; omega
  by_cases hlt : (Jr.forms (Jr.recs s)).length < s.length
  rotate_left
  · have hr : Hid (Jr.openJ D f = (D1, some ⟨f, Jr.recs s, false⟩, 0)) := by show _ = _; rw [Hr1.out, if_neg hlt]
    have hd : decide ((Jr.forms (Jr.recs s)).length < s.length) = false := decide_eq_false hlt
    have hz : Hid (OpenTo B d D1 _ _ w _) := open_made HB.out (fun k hk => (HD1.out.1.foot_lt hk).2) HD1.out.2.1 HD1.out.2.2.1 HD1.out.2.2.2 N3.out O3.out (HD1.out.1.nw N3.out) rfl (Upd.refl _ _) (fun k hk => Or.inl hk) hfile.out (by have := Hfr.out; have := Hnow.out; omega)
    clear hlt
    go_wp2_with fail
    go_ret2
    exact ⟨_, by rw [hr.out]; rfl, by rw [hr.out]; exact hz.out⟩
  have hd : decide ((Jr.forms (Jr.recs s)).length < s.length) = true := decide_eq_true hlt
  have hr1 := Hr1.out
  rw [if_pos hlt] at hr1
  have htc := Htc.out w3 N3.out _ hI.out
  generalize Dk.truncate D1 f ((Jr.forms (Jr.recs s)).length : Nat) = S2 at *
  obtain ⟨D2, E2⟩ := S2
  dsimp only at hr1 htc
  have Htc2 := Lib.hid htc
  have Hr2 := Lib.hid hr1
  clear hr1 htc hlt Htc Hr1
  go_wp2_with fail
  (with_reducible refine (Htc2.out).mono ?_)
  rintro _ w4 ⟨rfl, hT4⟩
  obtain ⟨d4, h4, e4, u4, f4⟩ := hT4
  by_cases hE : E2 = 0
  · subst hE
    have hr : Hid (Jr.openJ D f = (D2, some ⟨f, Jr.recs s, false⟩, 0)) := by show _ = _; rw [Hr2.out, if_neg (fun e => e rfl)]
    have hz : Hid (OpenTo B d D2 _ _ w _) := open_made HB.out (fun k hk => (HD1.out.1.foot_lt hk).2) HD1.out.2.1 HD1.out.2.2.1 HD1.out.2.2.2 N3.out O3.out h4 e4 u4 f4 hfile.out (by have := Hfr.out; have := Hnow.out; omega)
    clear h4 u4 f4
    go_wp2_with fail
    go_ret2
    exact ⟨_, by rw [hr.out]; rfl, by rw [hr.out]; exact hz.out⟩
  · have b1 : (E2 == 0) = false := beq_eq_false_iff_ne.2 hE
    have b2 : (E2 != 0) = true := by simp [hE]
    have hr : Hid (Jr.openJ D f = (D2, none, E2)) := by show _ = _; rw [Hr2.out, if_pos hE]
    have hz : Hid (DiskTo B d D2 w w4) := DiskTo.then_ H.out HD1.out.1 HD1.out.2.1 HD1.out.2.2.1 HD1.out.2.2.2 (DiskTo.after N3.out ⟨d4, h4, e4, u4, f4⟩)
    clear h4 u4 f4 hE
    go_wp2_with fail
    go_ret2
    exact ⟨_, by rw [hr.out]; rfl, by rw [hr.out]; exact ⟨rfl, hz.out⟩⟩
end Go.Proofs.YtmlmdlbepppnlaaGreatDoor
namespace Go.Proofs.YtmlmdlbepppnlaaGreatDoor.Jr
set_option linter.unusedVariables false
def bAB : List UInt8 := [97, 98]
theorem jn_eq {j : Jn} {f : Int} {r : List (List UInt8)} {b : Bool} (h : (j.file, j.recs, j.broken) = (f, r, b)) : j = ⟨f, r, b⟩ := by
  obtain ⟨a, b, c⟩ := j
  simp at h
  obtain ⟨rfl, rfl, rfl⟩ := h
  rfl
theorem jo_eq {o : Option Jn} {f : Int} {r : List (List UInt8)} {b : Bool} (h : (o.map fun j => (j.file, j.recs, j.broken)) = some (f, r, b)) : o = some ⟨f, r, b⟩ := by
  cases o with
  | none => cases h
  | some j => rw [jn_eq (Option.some.inj h)]
def xD1 : Dk.Disk := (openJ Dk.new 3).1
def xD2 : Dk.Disk := (append xD1 ⟨3, [], false⟩ bAB).1
def xD3 : Dk.Disk := (append xD2 ⟨3, [bAB], false⟩ []).1
theorem x1 : openJ Dk.new 3 = (xD1, some ⟨3, [], false⟩, 0) := Prod.ext rfl (Prod.ext (jo_eq (by decide +kernel)) (by decide +kernel))
theorem x2 : append xD1 ⟨3, [], false⟩ bAB = (xD2, ⟨3, [bAB], false⟩, 0) := Prod.ext rfl (Prod.ext (jn_eq (by decide +kernel)) (by decide +kernel))
theorem x3 : append xD2 ⟨3, [bAB], false⟩ [] = (xD3, ⟨3, [bAB, []], false⟩, 0) := Prod.ext rfl (Prod.ext (jn_eq (by decide +kernel)) (by decide +kernel))
theorem x4 : Dk.read xD3 3 0 99 = ([50, 58, 97, 98, 44, 50, 57, 51, 59, 48, 58, 44, 48, 59], 0) := by decide +kernel
theorem x8 : sumN [] = 0 ∧ sumN [97] = 97 ∧ sumN [97, 98] = 293 := by decide +kernel
end Go.Proofs.YtmlmdlbepppnlaaGreatDoor.Jr
namespace Go.Proofs.YtmlmdlbepppnlaaGreatDoor
open Go.RowKit
set_option linter.unusedVariables false
set_option linter.unusedSimpArgs false
attribute [local irreducible] Calls

theorem conv1 (w : World) (x : Int) (h0 : 0 ≤ x) (h1 : x < 256) :
    (convert 126 9 (.slice (some ⟨w.heap.size, 0, none⟩) 1 1)).run Tryz.prog (w.alloc (.cells #[.int .u8 x] 5)) = .ok (.string ⟨#[UInt8.ofNat x.toNat]⟩) (w.alloc (.cells #[.int .u8 x] 5)) := by
  refine run_convert_bytes_back (P := Tryz.prog) _ 126 9 5 ⟨w.heap.size, 0, none⟩ 1 [UInt8.ofNat x.toNat] Tryz.underlying126 Tryz.underlying5 Tryz.underlying9 fun j hj => ?_
  have hj0 : j = 0 := by simpa using hj
  subst hj0
  rw [add_plain, cells_cell (heap_new w _)]
  simp
  omega
theorem decDigits_step {u : Nat} (h : ¬ u < 10) : Lib.decDigits u = Lib.decDigits (u / 10) ++ [UInt8.ofNat (48 + u % 10)] := by
  conv => lhs; rw [Lib.decDigits, dif_neg h]
theorem decDigits_len {u : Nat} (h : u ≤ 9223372036854775808) : (Lib.decDigits u).length ≤ 21 := by
  have h2 : I64 (-(u : Int)) := by unfold I64; omega
  have := itoa_le h2
  by_cases h0 : u = 0
  · subst h0; rw [Lib.decDigits_one (by omega)]; simp
  · rw [Lib.itoa_neg u (by omega)] at this; simp at this; omega
set_option maxHeartbeats 400000 in
set_option maxRecDepth 100000 in
theorem digits_q (k : Nat) : ∀ (u : Nat) (n : Int) (w : World), u < k → n = -(u : Int) → u ≤ 9223372036854775808 →
    Calls Tryz.prog 125 #[.int .i64 n] w fun e w' => e = .returned (.string ⟨(Lib.decDigits u).toArray⟩) ∧ Nw w w' := by
  induction k with
  | zero => intro u n w hu; omega
  | succ k ih =>
    intro u n w hu hn hb
    have h0 : n ≤ 0 := by omega
    have h1 : -9223372036854775808 ≤ n := by omega
    have hd : n.tmod 10 = -((u % 10 : Nat) : Int) := by rw [hn, Int.neg_tmod]; rfl
    have hq : n.tdiv 10 = -((u / 10 : Nat) : Int) := by rw [hn, Int.neg_tdiv]; rfl
    have hd0 : -9 ≤ n.tmod 10 := by omega
    have hd1 : n.tmod 10 ≤ 0 := by omega
    have hcv := conv1 w (48 - n.tmod 10) (by omega) (by omega)
    have Hn := Lib.hid hn; clear hn
    have Hb := Lib.hid hb; clear hb
    have Ih := Lib.hid ih; clear ih
    have Hd := Lib.hid hd; clear hd
    have Hq := Lib.hid hq; clear hq
    have Hch : Hid (UInt8.ofNat (48 - n.tmod 10).toNat = UInt8.ofNat (48 + u % 10)) := by
      show _ = _
      rw [Hd.out]; congr 1; omega
    by_cases hs : n > -10
    · go_enter Tryz.func125, Tryz.ntmps125
      go_wp2_with fail
      go_ret
      refine ⟨ret_bs ?_, nw_alloc _ _⟩
      have := Hn.out
      rw [Lib.decDigits_one (by omega), Hch.out, show u % 10 = u by omega]
    · have hlen : (Lib.decDigits (u / 10)).length ≤ 21 := decDigits_len (by have := Hb.out; omega)
      go_enter Tryz.func125, Tryz.ntmps125
      go_wp2_with fail
      (with_reducible refine (Ih.out (u / 10) _ _ (by have := Hn.out; omega) Hq.out (by have := Hb.out; omega)).mono ?_)
      rintro _ w1 ⟨rfl, u1⟩
      go_wp2_with fail
      go_ret
      refine ⟨ret_bs ?_, (nw_alloc _ _).trans u1⟩
      have := Hn.out
      rw [bs_append_list, bs_list, Hch.out, decDigits_step (u := u) (by omega)]
theorem digitsTo_q (u : Nat) (n : Int) (w : World) (hn : n = -(u : Int)) (hb : u ≤ 9223372036854775808) :
    Calls Tryz.prog 125 #[.int .i64 n] w fun e w' => e = .returned (.string ⟨(Lib.decDigits u).toArray⟩) ∧ Nw w w' :=
  digits_q (u + 1) u n w (Nat.lt_succ_self u) hn hb
set_option maxRecDepth 100000 in
theorem Int_q (n : Int) (w : World) (h : I64 n) :
    Calls Tryz.prog 126 #[.int .i64 n] w fun e w' => e = .returned (.string ⟨(Wire.intE n).toArray⟩) ∧ Nw w w' := by
  by_cases hn : n < 0
  · have hl := decDigits_len (u := n.natAbs) (by unfold I64 at h; omega)
    go_enter Tryz.func126, Tryz.ntmps126
    go_wp2_with fail
    (with_reducible refine (digitsTo_q n.natAbs _ _ (by omega) (by unfold I64 at h; omega)).mono ?_)
    rintro _ w1 ⟨rfl, u1⟩
    go_wp2_with fail
    go_ret
    refine ⟨ret_bs ?_, u1⟩
    simp only [bs_append_list, bs_list, Wire.intE, Lib.itoa, if_pos hn]
    rfl
  · have hl := decDigits_len (u := n.toNat) (by unfold I64 at h; omega)
    have h2 : -n = -((n.toNat : Nat) : Int) := by omega
    have H2 := Lib.hid h2; clear h2
    have h3 : -9223372036854775808 ≤ -n ∧ -n ≤ 9223372036854775807 := by unfold I64 at h; omega
    obtain ⟨h4, h5⟩ := h3
    go_enter Tryz.func126, Tryz.ntmps126
    go_wp2_with fail
    (with_reducible refine (digitsTo_q n.toNat _ _ H2.out (by unfold I64 at h; omega)).mono ?_)
    rintro _ w1 ⟨rfl, u1⟩
    go_wp2_with fail
    go_ret
    refine ⟨ret_bs ?_, u1⟩
    simp only [bs_append_list, bs_list, Wire.intE, Lib.itoa, if_neg (show ¬ n < 0 by omega)]
theorem Num_q (n : Int) (w : World) (h : I64 n) :
    Calls Tryz.prog 109 #[.int .i64 n] w fun e w' => e = .returned (.string ⟨(Wire.numE n).toArray⟩) ∧ Nw w w' := by
  by_cases hn : n < 0
  · go_enter Tryz.func109, Tryz.ntmps109
    go_wp2_with fail
    go_ret
    rw [show Wire.numE n = [] from if_pos hn]
    exact ⟨rfl, Upd.refl _ _⟩
  · go_enter Tryz.func109, Tryz.ntmps109
    go_wp2_with fail
    (with_reducible refine (Int_q n _ h).mono ?_)
    rintro _ w1 ⟨rfl, u1⟩
    go_wp2_with fail
    go_ret
    rw [show Wire.numE n = Wire.intE n from if_neg (by omega)]
    exact ⟨rfl, u1⟩
theorem decDigits_pos (u : Nat) : Lib.decDigits u = Lib.itoa (u : Int) := (Lib.itoa_nonneg u).symm
theorem Text_q (s : ByteArray) (l : List UInt8) (hs : s.data.toList = l) (w : World) (h : l.length ≤ 140737488351232) :
    Calls Tryz.prog 108 #[.string s] w fun e w' => e = .returned (.string ⟨(Wire.textE l).toArray⟩) ∧ Nw w w' := by
  have hz := bs_size s
  rw [hs] at hz
  have hl := decDigits_len (u := s.size) (by omega)
  have Hz := Lib.hid hz
  replace hz : s.size ≤ 140737488351232 := by omega
  go_enter Tryz.func108, Tryz.ntmps108
  go_wp2_with fail
  (with_reducible refine (digitsTo_q s.size _ _ rfl (by omega)).mono ?_)
  rintro _ w1 ⟨rfl, u1⟩
  go_wp2_with fail
  go_ret
  refine ⟨ret_bs ?_, u1⟩
  simp only [bs_append_list, bs_list, hs, Hz.out, decDigits_pos]
  rfl
end Go.Proofs.YtmlmdlbepppnlaaGreatDoor
namespace Go.Proofs.YtmlmdlbepppnlaaGreatDoor
open Go.RowKit
set_option linter.unusedVariables false
set_option linter.unusedSimpArgs false
attribute [local irreducible] Calls
abbrev tQ : TypeId := 142

set_option maxHeartbeats 400000 in
theorem fail_q (b : Nat) (st : Wire.St) (w : World) (h : Rdr tQ w b st) :
    Calls Tryz.prog 121 #[.pointer (some ⟨b, 0, none⟩)] w fun e w' => e = .returned (.int .i64 0) ∧ Rdr tQ w' b none ∧ Upd (· = b) w w' := by
  have c0 := h.c0
  have c1 := h.c1
  have f0 := h.fz 0
  have f1 := h.fz 1
  go_enter Tryz.func121, Tryz.ntmps121
  go_wp2
  go_ret
  exact ⟨rfl, h.set_fail, ((Upd.refl _ _).set1 h.1 _ _).set1 h.1 _ _⟩
def BackPost (l : List UInt8) (w : World) (e : Ending) (w' : World) : Prop :=
  ∃ (n : Int) (ok : Bool), e = .returned (.tuple #[.int .i64 n, .bool ok]) ∧ I64 n ∧ (ok = true → Wire.numOf l = some n) ∧ (ok = false → Wire.numOf l = none) ∧ Nw w w'
theorem byte_list {s : ByteArray} {l : List UInt8} (hs : s.data.toList = l) (k : Nat) (h : k < s.size) : ∃ hk : k < l.length, s[k] = l[k] := by
  subst hs
  exact ⟨by rw [← bs_size]; exact h, by show s.data[k] = _; simp⟩
theorem back_cmp {s : ByteArray} {l : List UInt8} (hs : s.data.toList = l) (n : Int) : (Wire.intE n == (s ++ { data := #[59] }).toList) = decide (Lib.itoa n = l) := by
  rw [bs_toList, bs_append_list, hs]
  apply Bool.eq_iff_iff.2
  simp [Wire.intE]
theorem back_end {s : ByteArray} {l : List UInt8} {w w1 : World} {a n : Int} (hs : s.data.toList = l) (h : Wire.backGo 0 (Wire.backFrom l) (l.drop (Wire.backFrom l)) = some a) (hn : (if Wire.backFrom l = 0 then wrap64 (-a) else a) = n) (hi : I64 n) (u : Nw w w1) :
    BackPost l w (.returned (.tuple #[.int .i64 n, .bool (Wire.intE n == (s ++ { data := #[59] }).toList)])) w1 := by
  have h2 := Wire.back_some h hn hi (fun v h0 h1 => itoa_le ⟨h0, h1⟩)
  refine ⟨n, _, rfl, hi, ?_, ?_, u⟩
  · intro hb
    rw [back_cmp hs] at hb
    rw [h2, if_pos (of_decide_eq_true hb)]
  · intro hb
    rw [back_cmp hs] at hb
    rw [h2, if_neg (of_decide_eq_false hb)]
set_option maxHeartbeats 800000 in
theorem Back_q (s : ByteArray) (l : List UInt8) (hs : s.data.toList = l) (w : World) (hl : l.length ≤ 140737488351232) :
    Calls Tryz.prog 136 #[.string s] w (BackPost l w) := by
  have Hl := Lib.hid hs
  have hz : s.size ≤ 140737488351232 := by rw [bs_size, hs]; exact hl
  by_cases h0 : 0 < s.size
  · obtain ⟨h0l, h0c⟩ := byte_list hs 0 h0
    by_cases hc : l[0] = 45
    · have hf : Wire.backFrom l = 1 := by
        cases l with
        | nil => simp at h0l
        | cons c r => simp at hc; simp [Wire.backFrom, hc]
      have Hf := Lib.hid hf; clear hf
      have hcb : (((s[0]).toNat : Int) == 45) = true := by rw [h0c, hc]; rfl
      clear hs h0c hc
      go_enter Tryz.func136, Tryz.ntmps136
      go_wp2_with fail
      go_loop [5, 6] (fun n i => ∃ (k : Nat) (a : Int), k ≤ s.size ∧ i = .int .i64 k ∧ n = .int .i64 a ∧ -9223372036854775808 ≤ a ∧ a ≤ 9223372036854775807 ∧ Hid (Wire.backGo 0 1 (l.drop 1) = Wire.backGo a k (l.drop k))) (fun _ i => s.size - (intOf i).toNat)
      case atStart => exact ⟨1, 0, by omega, rfl, rfl, by omega, by omega, rfl⟩
      case round =>
        obtain ⟨k, a, hk, rfl, rfl, ha0, ha1, hB⟩ := hrel
        by_cases hlt : k < s.size
        · obtain ⟨hkl, hc⟩ := byte_list Hl.out k hlt
          have hdrop := Lib.hid (List.drop_eq_getElem_cons hkl)
          rw [← hc] at hdrop
          clear hc
          have hcb : s[k].toNat ≤ 255 := by have := s[k].toNat_lt; omega
          by_cases hbad : s[k].toNat < 48 ∨ 57 < s[k].toNat ∨ 20 < k
          · have hno : Hid (Wire.numOf l = none) := by
              refine Wire.back_none (l := l) ?_ (fun v h0 h1 => itoa_le ⟨h0, h1⟩)
              rw [Hf.out, hB.out, hdrop.out]
              exact if_pos hbad
            go_wp2_with fail
            all_goals go_ret2
            all_goals exact ⟨0, false, rfl, (by unfold I64; omega), (fun h => by cases h), (fun _ => hno.out), Upd.refl _ _⟩
          · have hgo : Hid (Wire.backGo 0 1 (l.drop 1) = Wire.backGo (wrap64 (wrap64 (10 * a) - ((s[k].toNat : Int) - 48))) (k + 1) (l.drop (k + 1))) := by
              rw [hB.out, hdrop.out]
              exact if_neg hbad
            go_wp2_with fail
            refine ⟨⟨k + 1, _, by omega, by go_num, rfl, ?_, ?_, hgo⟩, by simp [intOf]; omega⟩
            · unfold wrap64; omega
            · unfold wrap64; omega
        · have hB2 : Hid (Wire.backGo 0 1 (l.drop 1) = some a) := by
            rw [hB.out, List.drop_of_length_le (by rw [← Hl.out, ← bs_size]; omega)]; rfl
          go_wp2_with fail
          (with_reducible refine (Int_q _ _ (by unfold I64; omega)).mono ?_)
          rintro _ w1 ⟨rfl, u1⟩
          go_wp2_with fail
          go_ret2
          exact back_end Hl.out (by rw [Hf.out]; exact hB2.out) (by rw [Hf.out]; rfl) (by unfold I64; omega) u1
    · have hf : Wire.backFrom l = 0 := by
        cases l with
        | nil => rfl
        | cons c r => simp at hc; simp [Wire.backFrom, hc]
      have Hf := Lib.hid hf; clear hf
      have hcb : (((s[0]).toNat : Int) == 45) = false := by
        rw [h0c, beq_eq_false_iff_ne]
        intro e
        exact hc (UInt8.toNat_inj.1 (by have : l[0].toNat = 45 := by omega
                                        rw [this]; rfl))
      clear hs h0c hc
      go_enter Tryz.func136, Tryz.ntmps136
      go_wp2_with fail
      go_loop [5, 6] (fun n i => ∃ (k : Nat) (a : Int), k ≤ s.size ∧ i = .int .i64 k ∧ n = .int .i64 a ∧ -9223372036854775808 ≤ a ∧ a ≤ 9223372036854775807 ∧ Hid (Wire.backGo 0 0 (l.drop 0) = Wire.backGo a k (l.drop k))) (fun _ i => s.size - (intOf i).toNat)
      case atStart => exact ⟨0, 0, by omega, rfl, rfl, by omega, by omega, rfl⟩
      case round =>
        obtain ⟨k, a, hk, rfl, rfl, ha0, ha1, hB⟩ := hrel
        by_cases hlt : k < s.size
        · obtain ⟨hkl, hc⟩ := byte_list Hl.out k hlt
          have hdrop := Lib.hid (List.drop_eq_getElem_cons hkl)
          rw [← hc] at hdrop
          clear hc
          have hcb : s[k].toNat ≤ 255 := by have := s[k].toNat_lt; omega
          by_cases hbad : s[k].toNat < 48 ∨ 57 < s[k].toNat ∨ 20 < k
          · have hno : Hid (Wire.numOf l = none) := by
              refine Wire.back_none (l := l) ?_ (fun v h0 h1 => itoa_le ⟨h0, h1⟩)
              rw [Hf.out, hB.out, hdrop.out]
              exact if_pos hbad
            go_wp2_with fail
            all_goals go_ret2
            all_goals exact ⟨0, false, rfl, (by unfold I64; omega), (fun h => by cases h), (fun _ => hno.out), Upd.refl _ _⟩
          · have hgo : Hid (Wire.backGo 0 0 (l.drop 0) = Wire.backGo (wrap64 (wrap64 (10 * a) - ((s[k].toNat : Int) - 48))) (k + 1) (l.drop (k + 1))) := by
              rw [hB.out, hdrop.out]
              exact if_neg hbad
            go_wp2_with fail
            refine ⟨⟨k + 1, _, by omega, by go_num, rfl, ?_, ?_, hgo⟩, by simp [intOf]; omega⟩
            · unfold wrap64; omega
            · unfold wrap64; omega
        · have hB2 : Hid (Wire.backGo 0 0 (l.drop 0) = some a) := by
            rw [hB.out, List.drop_of_length_le (by rw [← Hl.out, ← bs_size]; omega)]; rfl
          go_wp2_with fail
          (with_reducible refine (Int_q _ _ (by unfold I64; (unfold wrap64; omega))).mono ?_)
          rintro _ w1 ⟨rfl, u1⟩
          go_wp2_with fail
          go_ret2
          exact back_end Hl.out (by rw [Hf.out]; exact hB2.out) (by rw [Hf.out]; rfl) (by unfold I64; (unfold wrap64; omega)) u1
  · have hf : Wire.backFrom l = 0 := by
      have : l = [] := List.length_eq_zero_iff.1 (by rw [← hs, ← bs_size]; omega)
      rw [this]; rfl
    have Hf := Lib.hid hf; clear hf
    clear hs
    go_enter Tryz.func136, Tryz.ntmps136
    go_wp2_with fail
    go_loop [5, 6] (fun n i => ∃ (k : Nat) (a : Int), k ≤ s.size ∧ i = .int .i64 k ∧ n = .int .i64 a ∧ -9223372036854775808 ≤ a ∧ a ≤ 9223372036854775807 ∧ Hid (Wire.backGo 0 0 (l.drop 0) = Wire.backGo a k (l.drop k))) (fun _ i => s.size - (intOf i).toNat)
    case atStart => exact ⟨0, 0, by omega, rfl, rfl, by omega, by omega, rfl⟩
    case round =>
      obtain ⟨k, a, hk, rfl, rfl, ha0, ha1, hB⟩ := hrel
      by_cases hlt : k < s.size
      · omega
      · have hB2 : Hid (Wire.backGo 0 0 (l.drop 0) = some a) := by
          rw [hB.out, List.drop_of_length_le (by rw [← Hl.out, ← bs_size]; omega)]; rfl
        go_wp2_with fail
        (with_reducible refine (Int_q _ _ (by unfold I64; (unfold wrap64; omega))).mono ?_)
        rintro _ w1 ⟨rfl, u1⟩
        go_wp2_with fail
        go_ret2
        exact back_end Hl.out (by rw [Hf.out]; exact hB2.out) (by rw [Hf.out]; rfl) (by unfold I64; (unfold wrap64; omega)) u1
set_option maxHeartbeats 800000 in
theorem ahead_q (b : Nat) (st : Wire.St) (c : UInt8) (ci : Int) (hci : ci = c.toNat) (w : World) (h : Rdr tQ w b st) (hl : (st.getD []).length ≤ 9223372036854775807) :
    Calls Tryz.prog 131 #[.pointer (some ⟨b, 0, none⟩), .int .u8 ci] w fun e w' =>
      e = .returned (.int .i64 (Wire.rInt' st c).1) ∧ Rdr tQ w' b (Wire.rInt' st c).2 ∧ Upd (· = b) w w' := by
  subst hci
  have c0 := h.c0
  obtain ⟨s, hs⟩ : ∃ s : ByteArray, (⟨(st.getD []).toArray⟩ : ByteArray) = s := ⟨_, rfl⟩
  have Hs : Hid (s.data.toList = st.getD []) := by rw [← hs]; exact bs_list _
  rw [hs] at c0
  clear hs
  have hz : s.size = (st.getD []).length := by rw [bs_size, Hs.out]
  have Hz := Lib.hid hz
  replace hz : s.size ≤ 9223372036854775807 := by omega
  go_enter Tryz.func131, Tryz.ntmps131
  go_wp2_with fail
  go_loop [5] (fun i => ∃ k : Nat, k ≤ 21 ∧ k ≤ s.size ∧ i = .int .i64 k ∧ Hid (∀ x ∈ (st.getD []).take k, x ≠ c)) (fun i => s.size - (intOf i).toNat)
  case atStart => exact ⟨0, by omega, by omega, rfl, by show ∀ x ∈ _, _; simp⟩
  case round =>
    obtain ⟨k, hk21, hks, rfl, hne⟩ := hrel
    by_cases hlt : k < s.size
    · obtain ⟨hkl, hck⟩ := byte_list Hs.out k hlt
      have Hck := Lib.hid hck; clear hck
      by_cases hc : s[k] = c
      · have hb : ((s[k].toNat : Int) != (c.toNat : Int)) = false := by rw [hc]; simp
        have hat : Hid ((st.getD [])[k]? = some c) := by show _ = _; rw [List.getElem?_eq_getElem hkl, ← Hck.out, hc]
        clear hc
        have hns : st.isNone = false := by cases st with | none => simp at hkl | some r => rfl
        have hx : (s.extract 0 k).data.toList = (st.getD []).take k := by rw [bs_extract_list, Hs.out]; simp
        have Hx := Lib.hid hx; clear hx
        by_cases h21 : k < 21
        · have hsp := Lib.hid (Wire.ahead_at h21 hne.out hat.out)
          go_wp2_with fail
          (with_reducible refine (Back_q (s.extract 0 k) _ Hx.out _ (by simp; omega)).mono ?_)
          rintro _ w1 ⟨n, ok, rfl, hn, hyes, hno, u1⟩
          replace h := h.nw u1
          replace c0 := h.c0
          have c1 := h.c1
          have f0 := h.fz 0
          cases ok with
          | true =>
            replace hsp := Lib.hid (hsp.out.trans (by rw [hyes rfl]))
            go_wp2_with fail
            go_ret
            rw [hsp.out]
            exact ⟨rfl, h.setr _ _ (by rw [hns]; rfl) (by rw [bs_extract_list, bs_list, List.take_of_length_le (by simp <;> omega)]; rfl), Nw.trans u1 ((Upd.refl _ _).set1 h.1 _ _)⟩
          | false =>
            replace hsp := Lib.hid (hsp.out.trans (by rw [hno rfl]))
            go_wp2_with fail
            (with_reducible refine (fail_q b st _ h).mono ?_)
            rintro _ w2 ⟨rfl, h2, u2⟩
            go_wp2_with fail
            go_ret
            rw [hsp.out]
            exact ⟨rfl, h2, Nw.trans u1 u2⟩
        · have hk : k = 21 := by omega
          have hsp := Lib.hid (Wire.ahead_no (st := st) (c := c) (by rw [← hk]; exact hne.out))
          have hln := Lib.hid (Wire.numOf_long (l := (st.getD []).take k) (by rw [List.length_take]; omega))
          clear hk
          go_wp2_with fail
          (with_reducible refine (Back_q (s.extract 0 k) _ Hx.out _ (by simp; omega)).mono ?_)
          rintro _ w1 ⟨n, ok, rfl, hn, hyes, hno, u1⟩
          replace h := h.nw u1
          cases ok with
          | true => have := hyes rfl; rw [hln.out] at this; cases this
          | false =>
            go_wp2_with fail
            (with_reducible refine (fail_q b st _ h).mono ?_)
            rintro _ w2 ⟨rfl, h2, u2⟩
            go_wp2_with fail
            go_ret
            rw [hsp.out]
            exact ⟨rfl, h2, Nw.trans u1 u2⟩
      · have hb : ((s[k].toNat : Int) != (c.toNat : Int)) = true := by
          rw [bne_iff_ne]; intro e; exact hc (UInt8.toNat_inj.1 (by omega))
        by_cases h21 : k < 21
        · have hne' : Hid (∀ x ∈ (st.getD []).take (k + 1), x ≠ c) := by
            intro x hx
            rw [List.take_succ_eq_append_getElem hkl, List.mem_append] at hx
            rcases hx with hx | hx
            · exact hne.out x hx
            · rw [List.mem_singleton] at hx; rw [hx, ← Hck.out]; exact hc
          have Hc := Lib.hid hc; clear hc
          go_wp2_with fail
          exact ⟨⟨k + 1, by omega, by omega, by go_num, hne'⟩, by simp [intOf]; omega⟩
        · have hk : k = 21 := by omega
          have hsp := Lib.hid (Wire.ahead_no (st := st) (c := c) (by rw [← hk]; exact hne.out))
          have Hc := Lib.hid hc; clear hc hk
          go_wp2_with fail
          (with_reducible refine (fail_q b st _ h).mono ?_)
          rintro _ w2 ⟨rfl, h2, u2⟩
          go_wp2_with fail
          go_ret
          rw [hsp.out]
          exact ⟨rfl, h2, u2⟩
    · have hsp := Lib.hid (Wire.ahead_no (st := st) (c := c) (fun x hx => hne.out x (by
        have : (st.getD []).length ≤ k := by rw [← Hz.out]; omega
        rw [List.take_of_length_le this]
        exact List.mem_of_mem_take hx)))
      go_wp2_with fail
      (with_reducible refine (fail_q b st _ h).mono ?_)
      rintro _ w2 ⟨rfl, h2, u2⟩
      go_wp2_with fail
      go_ret
      rw [hsp.out]
      exact ⟨rfl, h2, u2⟩
end Go.Proofs.YtmlmdlbepppnlaaGreatDoor
namespace Go.Proofs.YtmlmdlbepppnlaaGreatDoor
open Go.RowKit
set_option linter.unusedVariables false
set_option linter.unusedSimpArgs false
attribute [local irreducible] Calls

theorem numberQ (b : Nat) (st : Wire.St) (c : UInt8) (ci : Int) (hci : ci = c.toNat) (w : World) (h : Rdr tQ w b st) (hl : (st.getD []).length ≤ 9223372036854775807) :
    Calls Tryz.prog 120 #[.pointer (some ⟨b, 0, none⟩), .int .u8 ci] w fun e w' =>
      e = .returned (.int .i64 (Wire.rNumber st c 0).1) ∧ Rdr tQ w' b (Wire.rNumber st c 0).2 ∧ Upd (· = b) w w' := by
  have hz := Lib.hid (Wire.rNumber_zero_eq st c)
  have hci' := Lib.hid hci; clear hci
  go_enter Tryz.func120, Tryz.ntmps120
  go_wp2_with fail
  (with_reducible refine (ahead_q b st c _ hci'.out _ h hl).mono ?_)
  rintro _ w1 ⟨rfl, h1, u1⟩
  generalize Wire.rInt' st c = q at *
  obtain ⟨n, s1⟩ := q
  by_cases hn : n < 0
  · go_wp2_with fail
    (with_reducible refine (fail_q b s1 _ h1).mono ?_)
    rintro _ w2 ⟨rfl, h2, u2⟩
    go_wp2_with fail
    go_ret
    rw [hz.out, if_pos hn]
    exact ⟨rfl, h2, u1.trans u2⟩
  · go_wp2_with fail
    go_ret
    rw [hz.out, if_neg (by omega)]
    exact ⟨rfl, h1, u1⟩
theorem NumQ (b : Nat) (st : Wire.St) (w : World) (h : Rdr tQ w b st) (hl : (st.getD []).length ≤ 9223372036854775807) :
    Calls Tryz.prog 103 #[.pointer (some ⟨b, 0, none⟩)] w fun e w' =>
      e = .returned (.int .i64 (Wire.rNum st).1) ∧ Rdr tQ w' b (Wire.rNum st).2 ∧ Upd (· = b) w w' := by
  go_enter Tryz.func103, Tryz.ntmps103
  go_wp2_with fail
  (with_reducible refine (numberQ b st 59 59 c59 _ h hl).mono ?_)
  rintro _ w' ⟨rfl, h', u'⟩
  go_wp2_with fail
  go_ret
  exact ⟨rfl, h', u'⟩
theorem closeQ (b : Nat) (st : Wire.St) (c : UInt8) (ci : Int) (hci : ci = c.toNat) (w : World) (h : Rdr tQ w b st) (hl : (st.getD []).length ≤ 9223372036854775807) :
    Calls Tryz.prog 122 #[.pointer (some ⟨b, 0, none⟩), .int .u8 ci] w fun e w' =>
      e = .returned (.bool (Wire.rClose st c).isSome) ∧ Rdr tQ w' b (Wire.rClose st c) ∧ Upd (· = b) w w' := by
  subst hci
  rcases st with _ | (_ | ⟨d, r⟩)
  · have c0 := h.c0
    have c1 := h.c1
    have f0 := h.fz 0
    go_enter Tryz.func122, Tryz.ntmps122
    go_wp2_with fail
    (with_reducible refine (fail_q b none _ h).mono ?_)
    rintro _ w2 ⟨rfl, h2, u2⟩
    go_wp2_with fail
    go_ret
    exact ⟨rfl, h2, u2⟩
  · have c0 := h.c0
    have c1 := h.c1
    have f0 := h.fz 0
    go_enter Tryz.func122, Tryz.ntmps122
    go_wp2_with fail
    (with_reducible refine (fail_q b (some []) _ h).mono ?_)
    rintro _ w2 ⟨rfl, h2, u2⟩
    go_wp2_with fail
    go_ret
    exact ⟨rfl, h2, u2⟩
  · have c0 := h.c0
    have c1 := h.c1
    have f0 := h.fz 0
    obtain ⟨s, hs⟩ : ∃ s : ByteArray, (⟨(d :: r).toArray⟩ : ByteArray) = s := ⟨_, rfl⟩
    have Hs : Hid (s.data.toList = d :: r) := by rw [← hs]; exact bs_list _
    rw [show (some (d :: r)).getD [] = d :: r from rfl, hs] at c0
    clear hs
    have hz : s.size = r.length + 1 := by rw [bs_size, Hs.out]; rfl
    simp only [Option.getD_some, List.length_cons] at hl
    have h0 : 0 < s.size := by omega
    have hz' : s.size ≤ 9223372036854775807 := by omega
    have Hz := Lib.hid hz; clear hz
    have hd : s[0] = d := by obtain ⟨hk, e⟩ := byte_list Hs.out 0 h0; rw [e]; rfl
    by_cases hc : d = c
    · have hb : ((s[0].toNat : Int) != (c.toNat : Int)) = false := by rw [hd, hc]; simp
      have Hc := Lib.hid hc
      have Hd := Lib.hid hd
      clear hc hd
      go_enter Tryz.func122, Tryz.ntmps122
      go_wp2_with fail
      go_ret
      rw [show Wire.rClose (some (d :: r)) c = some r from if_pos Hc.out]
      exact ⟨rfl, h.setr _ _ rfl (by rw [bs_extract_list, Hs.out, List.take_of_length_le (by have := Hz.out; simp <;> omega)]; rfl), (Upd.refl _ _).set1 h.1 _ _⟩
    · have hb : ((s[0].toNat : Int) != (c.toNat : Int)) = true := by
        rw [hd, bne_iff_ne]; intro e; exact hc (UInt8.toNat_inj.1 (by omega))
      have Hc := Lib.hid hc
      have Hd := Lib.hid hd
      clear hc hd
      go_enter Tryz.func122, Tryz.ntmps122
      go_wp2_with fail
      (with_reducible refine (fail_q b _ _ h).mono ?_)
      rintro _ w2 ⟨rfl, h2, u2⟩
      go_wp2_with fail
      go_ret
      rw [show Wire.rClose (some (d :: r)) c = none from if_neg Hc.out]
      exact ⟨rfl, h2, u2⟩
set_option maxHeartbeats 400000 in
theorem TextQ (b : Nat) (st : Wire.St) (w : World) (h : Rdr tQ w b st) (hl : (st.getD []).length ≤ 9223372036854775807) :
    Calls Tryz.prog 102 #[.pointer (some ⟨b, 0, none⟩)] w fun e w' =>
      e = .returned (.string ⟨(Wire.rText st).1.toArray⟩) ∧ Rdr tQ w' b (Wire.rText st).2 ∧ Upd (· = b) w w' := by
  have hle := Wire.rNumber_le st 58 0
  have hn0 := Wire.rNumber_least st 58 0 (Int.le_refl 0)
  go_enter Tryz.func102, Tryz.ntmps102
  go_wp2_with fail
  (with_reducible refine (numberQ b st 58 58 c58 _ h hl).mono ?_)
  rintro _ w1 ⟨rfl, h1, u1⟩
  cases hq : Wire.rNumber st 58 0 with
  | mk n s1 =>
  rw [hq] at hle hn0 h1
  have Hq := Lib.hid hq; clear hq
  replace hle : (s1.getD []).length ≤ (st.getD []).length := hle
  replace hn0 : 0 ≤ n := hn0
  replace h1 : Rdr tQ w1 b s1 := h1
  have c0 := h1.c0
  have c1 := h1.c1
  have f0 := h1.fz 0
  cases s1 with
  | none =>
    have e := Lib.hid (Wire.rText_none Hq.out)
    go_wp2_with fail
    (with_reducible refine (fail_q b _ _ h1).mono ?_)
    rintro _ w2 ⟨rfl, h2, u2⟩
    go_wp2_with fail
    go_ret
    rw [e.out]
    exact ⟨rfl, h2, u1.trans u2⟩
  | some r =>
    by_cases hfar : (r.length : Int) ≤ n
    · have e : Hid (Wire.rText st = ([], none)) := by
        by_cases hx : (r.length : Int) < n
        · exact Wire.rText_far Hq.out hx
        · refine Wire.rText_open Hq.out (by omega) ?_
          rw [List.drop_of_length_le (by omega)]; rfl
      go_wp2_with fail
      (with_reducible refine (fail_q b _ _ h1).mono ?_)
      rintro _ w2 ⟨rfl, h2, u2⟩
      go_wp2_with fail
      go_ret
      rw [e.out]
      exact ⟨rfl, h2, u1.trans u2⟩
    · replace hle : r.length ≤ (st.getD []).length := hle
      have H2 : Hid (∀ s : ByteArray, s.data.toList = r.drop n.toNat → Rdr tQ (w1.setCell ⟨b, 0, none⟩ (.string s)) b (some (r.drop n.toNat))) := fun s hs => h1.setr s _ rfl hs
      have Hc := Lib.hid (Wire.rText_open Hq.out (by omega))
      have Hy := Lib.hid (fun r' => Wire.rText_ok (r' := r') Hq.out (by omega))
      go_wp2_with fail
      (with_reducible refine (closeQ b (some (r.drop n.toNat)) 44 44 c44 _ (H2.out _ (by rw [bs_extract_list, bs_list, List.take_of_length_le (by simp)])) (by simp; omega)).mono ?_)
      rintro _ w3 ⟨rfl, h3, u3⟩
      generalize Wire.rClose (some (r.drop n.toNat)) 44 = s3 at *
      cases s3 with
      | none =>
        replace Hc := Lib.hid (Hc.out rfl)
        clear Hy
        go_wp2_with fail
        go_ret
        rw [Hc.out]
        exact ⟨rfl, h3, u1.trans (((Upd.refl _ _).set1 h1.1 _ _).trans u3)⟩
      | some r3 =>
        replace Hy := Lib.hid (Hy.out r3 rfl)
        clear Hc
        go_wp2_with fail
        go_ret
        rw [Hy.out]
        exact ⟨ret_bs (by rw [bs_extract_list, bs_list]; simp), h3, u1.trans (((Upd.refl _ _).set1 h1.1 _ _).trans u3)⟩
theorem LeftQ (b : Nat) (st : Wire.St) (w : World) (h : Rdr tQ w b st) :
    Calls Tryz.prog 101 #[.pointer (some ⟨b, 0, none⟩)] w fun e w' => e = .returned (.int .i64 ((st.getD []).length : Int)) ∧ w = w' := by
  have c0 := h.c0
  go_enter Tryz.func101, Tryz.ntmps101
  go_wp2
  go_ret
  exact ⟨rfl, rfl⟩
theorem OpenQ (s : ByteArray) (l : List UInt8) (hs : s.data.toList = l) (w : World) (g : Gl w) :
    Calls Tryz.prog 100 #[.string s] w fun e w' => ∃ b, e = .returned (.pointer (some ⟨b, 0, none⟩)) ∧ w.heap.size ≤ b ∧ Rdr tQ w' b (some l) ∧ Nw w w' := by
  go_enter Tryz.func100, Tryz.ntmps100
  go_wp2
  go_ret
  refine ⟨_, rfl, Nat.le_refl _, ⟨g.big, ?_⟩, (Upd.refl _ _).alloc _⟩
  rw [heap_new, ← bs_eta s, hs]
  rfl
end Go.Proofs.YtmlmdlbepppnlaaGreatDoor
namespace Go.Proofs.YtmlmdlbepppnlaaGreatDoor
open Go.RowKit
set_option linter.unusedVariables false
set_option linter.unusedSimpArgs false
attribute [local irreducible] Calls

/-- A disk, perhaps a journal on it (its block, its state), all of it made since w; the blocks F are none of theirs. -/
def GS (w : World) (db : Nat) (jp : Option (Nat × Jr.Jn)) (D : Dk.Disk) (F : Nat → Prop) (z : World) : Prop :=
  ∃ d, d.db = db ∧ DiskAt w.heap.size z d D ∧ Nw w z ∧ (∀ k, F k → k < z.heap.size ∧ ¬ d.foot k) ∧
    ∀ p, jp = some p → ∃ x, x.jb = p.1 ∧ JrnAt w.heap.size z db x p.2 ∧ (∀ k, d.foot k → ¬ x.foot k) ∧ ∀ k, F k → ¬ x.foot k
def ptrJ : Option (Nat × Jr.Jn) → Value
  | none => .pointer none
  | some p => .pointer (some ⟨p.1, 0, none⟩)
section
variable {w : World} {db : Nat} {jp : Option (Nat × Jr.Jn)} {D D' : Dk.Disk} {F F' S : Nat → Prop} {z z' : World}
theorem GS.nw0 (h : GS w db jp D F z) : Nw w z := by obtain ⟨d, _, _, h, _⟩ := h; exact h
theorem GS.gl (h : GS w db jp D F z) (g : Gl w) : Gl z := g.upd h.nw0
theorem GS.upd (h : GS w db jp D F z) (u : Upd S z z') (hs : ∀ k, S k → (F k ∧ w.heap.size ≤ k) ∨ z.heap.size ≤ k) : GS w db jp D F z' := by
  obtain ⟨d, e, h1, h2, h3, h4⟩ := h
  have hz := u.size
  have hw := h2.size
  refine ⟨d, e, h1.upd u (fun k hk s => ?_), h2.trans' u (fun k hk s => ?_), fun k hk => ⟨by have := (h3 k hk).1; omega, (h3 k hk).2⟩, fun p hp => ?_⟩
  · rcases hs k s with a | a
    · exact (h3 k a.1).2 hk
    · have := (h1.foot_lt hk).2; omega
  · rcases hs k s with a | a <;> omega
  · obtain ⟨x, e2, h5, h6, h7⟩ := h4 p hp
    refine ⟨x, e2, h5.upd u (fun k hk s => ?_), h6, h7⟩
    rcases hs k s with a | a
    · exact h7 k a.1 hk
    · have := (h5.foot_lt hk).2; omega
theorem GS.nw (h : GS w db jp D F z) (u : Nw z z') : GS w db jp D F z' := h.upd u (fun k s => s.elim)
/-- Blocks that have come since are kept from now on. -/
theorem GS.keep (h : GS w db jp D F z) (u : Nw z z') (hF : ∀ k, F' k → F k ∨ (z.heap.size ≤ k ∧ k < z'.heap.size)) : GS w db jp D F' z' := by
  obtain ⟨d, e, h1, h2, h3, h4⟩ := h
  have hz := u.size
  refine ⟨d, e, h1.nw u, h2.trans u, fun k hk => ?_, fun p hp => ?_⟩
  · rcases hF k hk with a | a
    · exact ⟨by have := (h3 k a).1; omega, (h3 k a).2⟩
    · exact ⟨a.2, fun e => by have := (h1.foot_lt e).2; omega⟩
  · obtain ⟨x, e2, h5, h6, h7⟩ := h4 p hp
    refine ⟨x, e2, h5.nw u, h6, fun k hk e3 => ?_⟩
    rcases hF k hk with a | a
    · exact h7 k a e3
    · have := (h5.foot_lt e3).2; omega
/-- A call of the disk alone. -/
theorem gs_disk {d : DiskR} (e : d.db = db) (h1 : DiskAt w.heap.size z d D) (h2 : Nw w z) (h3 : ∀ k, F k → k < z.heap.size ∧ ¬ d.foot k)
    (h4 : ∀ p, jp = some p → ∃ x, x.jb = p.1 ∧ JrnAt w.heap.size z db x p.2 ∧ (∀ k, d.foot k → ¬ x.foot k) ∧ ∀ k, F k → ¬ x.foot k) (t : DiskTo w.heap.size d D' z z') : GS w db jp D' F z' ∧ Upd (fun k => ¬ F k ∧ w.heap.size ≤ k) z z' := by
  obtain ⟨d', k1, k2, k3, k4⟩ := t
  have hz := k3.size
  have hw := h2.size
  refine ⟨⟨d', k2.trans e, k1, h2.trans' k3 (fun k hk s => by have := (h1.foot_lt s).1; omega), fun k hk => ⟨by have := (h3 k hk).1; omega, fun s => ?_⟩, fun p hp => ?_⟩, k3.mono (fun k _ s => ⟨fun f => (h3 k f).2 s, (h1.foot_lt s).1⟩)⟩
  · rcases k4 k s with a | a
    · exact (h3 k hk).2 a
    · have := (h3 k hk).1; omega
  · obtain ⟨x, e2, h5, h6, h7⟩ := h4 p hp
    refine ⟨x, e2, h5.upd k3 (fun k hk s => h6 k s hk), fun k hk s => ?_, h7⟩
    rcases k4 k hk with a | a
    · exact h6 k a s
    · have := (h5.foot_lt s).2; omega
/-- A call of the journal. -/
theorem gs_jrn {p : Nat × Jr.Jn} {j' : Jr.Jn} {d : DiskR} {x : JrnR} (e : d.db = db) (e2 : x.jb = p.1) (h1 : DiskAt w.heap.size z d D) (h2 : Nw w z) (h3 : ∀ k, F k → k < z.heap.size ∧ ¬ d.foot k)
    (h5 : JrnAt w.heap.size z db x p.2) (h7 : ∀ k, F k → ¬ x.foot k) (t : JTo w.heap.size d x D' j' z z') : GS w db (some (p.1, j')) D' F z' ∧ Upd (fun k => ¬ F k ∧ w.heap.size ≤ k) z z' := by
  obtain ⟨d', x', k1, k2, k3, k4, k5⟩ := t
  have hz := k4.size
  have hw := h2.size
  have hlo : ∀ k, d.foot k ∨ x.foot k → w.heap.size ≤ k := fun k s => s.elim (fun s => (h1.foot_lt s).1) (fun s => (h5.foot_lt s).1)
  have hno : ∀ k, F k → ¬ (d'.foot k ∨ x'.foot k) := fun k hk s => by
    rcases k5 k s with (a | a) | a
    · exact (h3 k hk).2 a
    · exact h7 k hk a
    · have := (h3 k hk).1; omega
  refine ⟨⟨d', k2.trans e, k1.disk, h2.trans' k4 (fun k hk s => by have := hlo k s; omega), fun k hk => ⟨by have := (h3 k hk).1; omega, fun s => hno k hk (Or.inl s)⟩, fun q hq => ?_⟩, k4.mono (fun k _ s => ⟨fun f => s.elim (h3 k f).2 (h7 k f), hlo k s⟩)⟩
  obtain rfl := Option.some.inj hq
  exact ⟨x', k3.trans e2, by have := k1.jrn; rw [k2.trans e] at this; exact this, k1.ap, fun k hk s => hno k hk (Or.inr s)⟩
theorem GS.forget (h : GS w db jp D F z) : GS w db none D F z := by
  obtain ⟨d, e, h1, h2, h3, h4⟩ := h
  exact ⟨d, e, h1, h2, h3, fun p hp => by cases hp⟩
theorem GS.parts {p : Nat × Jr.Jn} (h : GS w db (some p) D F z) : ∃ d x, d.db = db ∧ x.jb = p.1 ∧ JSys w.heap.size z d x D p.2 := by
  obtain ⟨d, e, h1, h2, h3, h4⟩ := h
  obtain ⟨x, e2, h5, h6, h7⟩ := h4 p rfl
  exact ⟨d, x, e, e2, ⟨h1, by rw [e]; exact h5, h6⟩⟩
theorem GS.dpart (h : GS w db jp D F z) : ∃ d, d.db = db ∧ DiskAt w.heap.size z d D := by
  obtain ⟨d, e, h1, h2, h3, h4⟩ := h
  exact ⟨d, e, h1⟩
theorem GS.ok (h : GS w db jp D F z) : Dk.Ok D := by obtain ⟨d, _, h⟩ := h.dpart; exact h.ok
/-! ### The calls -/
abbrev Moves (w : World) (F : Nat → Prop) (z z' : World) : Prop := Upd (fun k => ¬ F k ∧ w.heap.size ≤ k) z z'
theorem new_t (w : World) (g : Gl w) : Calls Tryz.prog 9 #[] w fun e z => ∃ db, e = .returned (.pointer (some ⟨db, 0, none⟩)) ∧ GS w db none Dk.new (fun _ => False) z :=
  (dnew_c w g).mono fun e z ⟨r, he, h, u⟩ => ⟨r.db, he, r, rfl, h, u, fun k hk => hk.elim, fun p hp => by cases hp⟩
/-- What Open makes. -/
def OS (w : World) (db : Nat) (D' : Dk.Disk) (jo : Option Jr.Jn) (F : Nat → Prop) (pv : Value) (z : World) : Prop :=
  ∃ jp : Option (Nat × Jr.Jn), jp.map (·.2) = jo ∧ pv = ptrJ jp ∧ GS w db jp D' F z
theorem open_t (h : GS w db jp D F z) (g : Gl w) {f : Int} (hf : I64 f) :
    Calls Tryz.prog 39 #[.pointer (some ⟨db, 0, none⟩), .int .i64 f] z fun e z' => ∃ pv, e = .returned (.tuple #[pv, .int .i64 (Jr.openJ D f).2.2]) ∧ OS w db (Jr.openJ D f).1 (Jr.openJ D f).2.1 F pv z' ∧ Moves w F z z' := by
  have hall := h
  obtain ⟨d, e, h1, h2, h3, h4⟩ := h
  subst e
  refine (Open_c h1 (hall.gl g) h2.size hf).mono fun e z' ⟨pv, he, ht⟩ => ⟨pv, he, ?_⟩
  unfold OpenTo at ht
  cases hj : (Jr.openJ D f).2.1 with
  | none =>
    rw [hj] at ht
    obtain ⟨hp, ht⟩ := ht
    obtain ⟨k1, k2⟩ := gs_disk (jp := none) rfl h1 h2 h3 (fun p hp => by cases hp) ht
    exact ⟨⟨none, rfl, hp, k1⟩, k2⟩
  | some j =>
    rw [hj] at ht
    obtain ⟨d', x, hp, k1, k2, k3, k4, k5⟩ := ht
    have hz := k3.size
    have hw := h2.size
    refine ⟨⟨some (x.jb, j), rfl, hp, d', k2, k1.disk, h2.trans' k3 (fun k hk s => by have := (h1.foot_lt s).1; omega), fun k hk => ⟨by have := (h3 k hk).1; omega, fun s => ?_⟩, fun p hp => ?_⟩, k3.mono (fun k _ s => ⟨fun f => (h3 k f).2 s, (h1.foot_lt s).1⟩)⟩
    · rcases k4 k s with a | a
      · exact (h3 k hk).2 a
      · have := (h3 k hk).1; omega
    · obtain rfl := Option.some.inj hp
      exact ⟨x, rfl, by have := k1.jrn; rw [k2] at this; exact this, k1.ap, fun k hk s => by have := (h3 k hk).1; have := k5 k s; omega⟩
theorem append_t {p : Nat × Jr.Jn} (h : GS w db (some p) D F z) (g : Gl w) (s : List UInt8) (hs : s.length ≤ 1000000) :
    Calls Tryz.prog 49 #[.pointer (some ⟨p.1, 0, none⟩), .string ⟨s.toArray⟩] z fun e z' => e = .returned (.int .i64 (Jr.append D p.2 s).2.2) ∧ GS w db (some (p.1, (Jr.append D p.2 s).2.1)) (Jr.append D p.2 s).1 F z' ∧ Moves w F z z' := by
  have hall := h
  obtain ⟨d, e, h1, h2, h3, h4⟩ := h
  obtain ⟨x, e2, h5, h6, h7⟩ := h4 p rfl
  rw [← e2]
  refine (Append_c (B := w.heap.size) (d := d) (x := x) (j := p.2) ⟨h1, by rw [e]; exact h5, h6⟩ (hall.gl g) h2.size s hs).mono fun e' z' ⟨he, t⟩ => ⟨he, ?_⟩
  have := gs_jrn e e2 h1 h2 h3 h5 h7 t
  rw [← e2] at this
  exact this
theorem jsync_t {p : Nat × Jr.Jn} (h : GS w db (some p) D F z) (g : Gl w) :
    Calls Tryz.prog 53 #[.pointer (some ⟨p.1, 0, none⟩)] z fun e z' => e = .returned (.int .i64 (Jr.syncJ D p.2).2.2) ∧ GS w db (some (p.1, (Jr.syncJ D p.2).2.1)) (Jr.syncJ D p.2).1 F z' ∧ Moves w F z z' := by
  have hall := h
  obtain ⟨d, e, h1, h2, h3, h4⟩ := h
  obtain ⟨x, e2, h5, h6, h7⟩ := h4 p rfl
  rw [← e2]
  refine (JSync_c (B := w.heap.size) (d := d) (x := x) (j := p.2) ⟨h1, by rw [e]; exact h5, h6⟩ (hall.gl g) h2.size).mono fun e' z' ⟨he, t⟩ => ⟨he, ?_⟩
  have := gs_jrn e e2 h1 h2 h3 h5 h7 t
  rw [← e2] at this
  exact this
theorem all_t {p : Nat × Jr.Jn} (h : GS w db (some p) D F z) (g : Gl w) : Calls Tryz.prog 42 #[.pointer (some ⟨p.1, 0, none⟩)] z fun e z' => ∃ v', e = .returned v' ∧ z'.ownsRow z.heap.size tStrJ 1 v' p.2.recs.length (p.2.recs.map bsV) ∧ Nw z z' := by
  have hg := h.gl g
  obtain ⟨d, x, e, e2, h⟩ := h.parts
  rw [← e2]
  exact All_c h.jrn hg
theorem start_t (h : GS w db jp D F z) : Calls Tryz.prog 31 #[.pointer (some ⟨db, 0, none⟩)] z fun e z' => e = .returned (.tuple #[]) ∧ GS w db jp (Dk.start D) F z' ∧ Moves w F z z' := by
  obtain ⟨d, e, h1, h2, h3, h4⟩ := h
  subst e
  exact (start_c h1).mono fun e z' ⟨he, t⟩ => ⟨he, gs_disk rfl h1 h2 h3 h4 t⟩
theorem lose_t (h : GS w db jp D F z) {n : Int} (hn : I64 n) : Calls Tryz.prog 25 #[.pointer (some ⟨db, 0, none⟩), .int .i64 n] z fun e z' => e = .returned (.tuple #[]) ∧ GS w db jp (Dk.lose D n) F z' ∧ Moves w F z z' := by
  obtain ⟨d, e, h1, h2, h3, h4⟩ := h
  subst e
  exact (lose_c h1 hn).mono fun e z' ⟨he, t⟩ => ⟨he, gs_disk rfl h1 h2 h3 h4 t⟩
theorem arm_t (h : GS w db jp D F z) (g : Gl w) {n : Int} (hn : I64 n) (lo hi : Nat) (v : Value) (keep : List Int) (hkI : ∀ x ∈ keep, I64 x) (hs : Sl lo hi z v (keep.map intD)) (hL : keep.length ≤ 1000000000) :
    Calls Tryz.prog 27 #[.pointer (some ⟨db, 0, none⟩), .int .i64 n, v] z fun e z' => e = .returned (.tuple #[]) ∧ GS w db jp (Dk.arm D n keep) F z' ∧ Moves w F z z' := by
  have hall := h
  obtain ⟨d, e, h1, h2, h3, h4⟩ := h
  subst e
  exact (arm_c h1 (hall.gl g) hn lo hi v keep hkI hs hL).mono fun e z' ⟨he, t⟩ => ⟨he, gs_disk rfl h1 h2 h3 h4 t⟩
/-- keep lies ahead of w: nothing that a call here does turns it. -/
theorem crash_t (h : GS w db jp D F z) (g : Gl w) (lo hi : Nat) (hhi : hi ≤ w.heap.size) (v : Value) (keep : List Int) (hkI : ∀ x ∈ keep, I64 x) (hs : Sl lo hi w v (keep.map intD)) :
    Calls Tryz.prog 29 #[.pointer (some ⟨db, 0, none⟩), v] z fun e z' => e = .returned (.tuple #[]) ∧ GS w db jp (Dk.crash D keep) F z' ∧ Moves w F z z' := by
  have hall := h
  obtain ⟨d, e, h1, h2, h3, h4⟩ := h
  subst e
  refine (crash_c h1 (hall.gl g) h2.size lo hi v keep (fun y u => (hs.nw h2).upd u (fun k _ hk s => ?_)) hkI).mono fun e z' ⟨he, t⟩ => ⟨he, gs_disk rfl h1 h2 h3 h4 t⟩
  have := (h1.foot_lt (k := k) (by rcases s with s | s; exact Or.inl s; exact Or.inr (Or.inl s))).1
  omega
end
end Go.Proofs.YtmlmdlbepppnlaaGreatDoor
namespace Go.Proofs.YtmlmdlbepppnlaaGreatDoor
open Go.RowKit
set_option linter.unusedVariables false
set_option linter.unusedSimpArgs false
attribute [local irreducible] Calls

theorem I64_s {n : Int} (h : -1000000 ≤ n ∧ n ≤ 1000000) : I64 n := by unfold I64; omega
theorem OS.some_ {w : World} {db : Nat} {D' : Dk.Disk} {j : Jr.Jn} {F : Nat → Prop} {pv : Value} {z : World} (h : OS w db D' (some j) F pv z) : ∃ jb, pv = .pointer (some ⟨jb, 0, none⟩) ∧ GS w db (some (jb, j)) D' F z := by
  obtain ⟨jp, h1, h2, h3⟩ := h
  cases jp with
  | none => cases h1
  | some p =>
    obtain ⟨jb, j'⟩ := p
    obtain rfl : j' = j := by simpa using h1
    exact ⟨jb, h2, h3⟩
theorem OS.none_ {w : World} {db : Nat} {D' : Dk.Disk} {F : Nat → Prop} {pv : Value} {z : World} (h : OS w db D' none F pv z) : pv = .pointer none ∧ GS w db none D' F z := by
  obtain ⟨jp, h1, h2, h3⟩ := h
  cases jp with
  | none => exact ⟨h2, h3⟩
  | some p => cases h1
/-- The journal's blocks are kept from now on. -/
theorem GS.freeze {w : World} {db : Nat} {p : Nat × Jr.Jn} {D : Dk.Disk} {F : Nat → Prop} {z : World} (h : GS w db (some p) D F z) : ∃ x, x.jb = p.1 ∧ JrnAt w.heap.size z db x p.2 ∧ GS w db none D (fun k => F k ∨ x.foot k) z := by
  obtain ⟨d, e, h1, h2, h3, h4⟩ := h
  obtain ⟨x, e2, h5, h6, h7⟩ := h4 p rfl
  exact ⟨x, e2, h5, d, e, h1, h2, fun k hk => hk.elim (h3 k) (fun s => ⟨(h5.foot_lt s).2, fun q => h6 k q s⟩), fun q hq => by cases hq⟩
end Go.Proofs.YtmlmdlbepppnlaaGreatDoor
namespace Go.Proofs.YtmlmdlbepppnlaaGreatDoor
open Go.RowKit
set_option linter.unusedVariables false
set_option linter.unusedSimpArgs false
attribute [local irreducible] Calls

abbrev tFet : TypeId := 79
structure FtR where
  fb : Nat
  jb : Nat
  cv : Value
  kv : Value
  ov : Value
def FtR.foot (x : FtR) (k : Nat) : Prop := k = x.fb ∨ x.cv.ownBlock = some k ∨ x.kv.ownBlock = some k ∨ x.ov.ownBlock = some k
/-- In the blocks from B on lies the fetch x: its contents, its manifest, the prints that have come. -/
structure FtAt (B : Nat) (w : World) (x : FtR) (cs : List (List UInt8)) (m : Ck.Man) (cm : List Int) : Prop where
  hb : nG ≤ B
  fb : B ≤ x.fb
  blk : w.heap[x.fb]? = some (.cells #[.pointer (some ⟨x.jb, 0, none⟩), x.cv, .int .i64 m.print, .int .i64 m.size, x.kv, x.ov] tFet (0, 0))
  oc : w.ownsRow B tStrMU 1 x.cv cs.length (cs.map bsMU)
  ok : w.ownsRow B 3 1 x.kv m.chunks.length (m.chunks.map intD)
  oo : w.ownsRow B 3 1 x.ov cm.length (cm.map intD)
  ne : ∀ k, x.kv.ownBlock = some k → x.ov.ownBlock ≠ some k
section
variable {B : Nat} {w w' : World} {x : FtR} {cs : List (List UInt8)} {m : Ck.Man} {cm : List Int}
theorem FtAt.foot_lt (h : FtAt B w x cs m cm) {k : Nat} (hk : x.foot k) : B ≤ k ∧ k < w.heap.size := by
  rcases hk with rfl | hk | hk | hk
  · exact ⟨h.fb, lt_of_block h.blk⟩
  · exact h.oc.lt k hk
  · exact h.ok.lt k hk
  · exact h.oo.lt k hk
theorem FtAt.upd {S : Nat → Prop} (h : FtAt B w x cs m cm) (u : Upd S w w') (hs : ∀ k, x.foot k → ¬ S k) : FtAt B w' x cs m cm :=
  ⟨h.hb, h.fb, u.keep h.blk (hs _ (Or.inl rfl)), owns_upd' h.oc u (fun k e => hs k (Or.inr (Or.inl e))), owns_upd' h.ok u (fun k e => hs k (Or.inr (Or.inr (Or.inl e)))), owns_upd' h.oo u (fun k e => hs k (Or.inr (Or.inr (Or.inr e)))), h.ne⟩
theorem FtAt.nw (h : FtAt B w x cs m cm) (u : Nw w w') : FtAt B w' x cs m cm := h.upd u (fun _ _ s => s)
theorem FtAt.base {B' : Nat} (h : FtAt B w x cs m cm) (hb : nG ≤ B') (hB : B' ≤ B) : FtAt B' w x cs m cm :=
  ⟨hb, Nat.le_trans hB h.fb, h.blk, owns_base h.oc hB, owns_base h.ok hB, owns_base h.oo hB, h.ne⟩
theorem FtAt.cells (h : FtAt B w x cs m cm) :
    w.cell? ⟨x.fb, 0, none⟩ = some (.pointer (some ⟨x.jb, 0, none⟩)) ∧ w.cell? ⟨x.fb, 1, none⟩ = some x.cv ∧ w.cell? ⟨x.fb, 2, none⟩ = some (.int .i64 m.print) ∧ w.cell? ⟨x.fb, 3, none⟩ = some (.int .i64 m.size) ∧ w.cell? ⟨x.fb, 4, none⟩ = some x.kv ∧ w.cell? ⟨x.fb, 5, none⟩ = some x.ov := by
  refine ⟨?_, ?_, ?_, ?_, ?_, ?_⟩ <;> (rw [cells_cell h.blk]; rfl)
/-- A block of one kind of cells is none of another kind. -/
theorem own_ne2 {w : World} {B1 B2 n1 n2 : Nat} {s1 s2 : Nat} {e1 e2 : TypeId} {v1 v2 : Value} {x1 x2 : List Value} (h1 : w.ownsRow B1 e1 s1 v1 n1 x1) (h2 : w.ownsRow B2 e2 s2 v2 n2 x2) (hne : e1 ≠ e2) {k : Nat} (k1 : v1.ownBlock = some k) (k2 : v2.ownBlock = some k) : False := by
  obtain ⟨_, c1, h1⟩ := own_block h1 k1
  obtain ⟨_, c2, h2⟩ := own_block h2 k2
  rw [h1] at h2
  injection h2 with h2
  injection h2 with _ h2
  exact hne h2
set_option maxRecDepth 100000 in
theorem fmissing_c (h : FtAt B w x cs m cm) (g : Gl w) (hk : m.chunks.length ≤ 1000000) (hm : cm.length ≤ 20000000) :
    Calls Tryz.prog 23 #[.pointer (some ⟨x.fb, 0, none⟩)] w fun e w' => ∃ v', e = .returned v' ∧ w'.ownsRow w.heap.size 3 1 v' (Ft.miss m.chunks cm).length ((Ft.miss m.chunks cm).map intD) ∧ Nw w w' := by
  obtain ⟨c0, c1, c2, c3, c4, c5⟩ := h.cells
  have nd : Nw w w.drew := (Upd.refl _ _).drew
  have HM : Hid (Calls Tryz.prog 36 #[.agg #[.int .i64 m.print, .int .i64 m.size, x.kv], x.ov] w.drew fun e y => ∃ v', e = .returned v' ∧ (y.cell? ⟨x.fb, 2, none⟩ = some (.int .i64 m.print) ∧ y.cell? ⟨x.fb, 3, none⟩ = some (.int .i64 m.size) ∧ y.cell? ⟨x.fb, 4, none⟩ = some x.kv ∧ y.cell? ⟨x.fb, 5, none⟩ = some x.ov) ∧
      Hid (y.ownsRow w.heap.size 3 1 v' (Ft.miss m.chunks cm).length ((Ft.miss m.chunks cm).map intD) ∧ Nw w y)) := by
    refine (missing_c _ _ _ _ m.print m.size x.kv m.chunks x.ov cm _ (g.upd nd) (Sl.of_owns (h.nw nd).ok) (Sl.of_owns (h.nw nd).oo) hk hm).mono ?_
    rintro e y ⟨v', rfl, o, u⟩
    obtain ⟨_, _, d2, d3, d4, d5⟩ := (h.nw (nd.trans u)).cells
    exact ⟨v', rfl, ⟨d2, d3, d4, d5⟩, owns_base o nd.size, nd.trans u⟩
  obtain ⟨ak, ck, hkv⟩ := own_slG h.ok
  obtain ⟨ao, co, hov⟩ := own_slG h.oo
  rw [hkv] at c4 HM
  rw [hov] at c5 HM
  clear h hkv hov
  go_enter Tryz.func23, Tryz.ntmps23
  go_wp2_with fail
  go_region_held3 (fun y => y.cell? ⟨x.fb, 2, none⟩ = some (.int .i64 m.print) ∧ y.cell? ⟨x.fb, 3, none⟩ = some (.int .i64 m.size) ∧ y.cell? ⟨x.fb, 4, none⟩ = some (.slice ak m.chunks.length ck) ∧ y.cell? ⟨x.fb, 5, none⟩ = some (.slice ao cm.length co)) (first | exact ⟨c2, c3, c4, c5⟩ | assumption | go_keep) (first | (go_at_call 36; (with_reducible refine HM.out.mono ?_); rintro _ y2 ⟨v3, rfl, cy2, HO3⟩))
  obtain ⟨a4, c4', rfl⟩ := own_slG HO3.out.1
  clear cy2 HM c0 c1 c2 c3 c4 c5
  go_wp2_with fail
  go_ret
  exact ⟨_, rfl, HO3.out⟩
theorem ftext_results (tmps : Array Value) (w : World) : (results Tryz.f21 tmps).run Tryz.prog w = .ok (.tuple #[tmps.getD 2 undef, tmps.getD 3 undef]) w := by
  simp [results, Tryz.results21, go_sem]
/-- What Text returns. -/
def ftx (cs : List (List UInt8)) (m : Ck.Man) (cm : List Int) : List UInt8 × Int := if Ft.miss m.chunks cm = [] then (textAtU cs m.print, 0) else ([], 33)
set_option maxHeartbeats 1000000 in
set_option maxRecDepth 100000 in
theorem ftext_c (h : FtAt B w x cs m cm) (g : Gl w) (hk : m.chunks.length ≤ 1000000) (hm : cm.length ≤ 20000000) (hcs : cs.length ≤ 90) :
    Calls Tryz.prog 21 #[.pointer (some ⟨x.fb, 0, none⟩)] w fun e w' => e = .returned (.tuple #[.string ⟨(ftx cs m cm).1.toArray⟩, .int .i64 (ftx cs m cm).2]) ∧ Nw w w' := by
  have HM := Lib.hid (fmissing_c h g hk hm)
  have HH := Lib.hid h
  have hml := Ft.miss_len m.chunks cm
  have hml1 : ((Ft.miss m.chunks cm).length : Int) ≤ 1000000 := by omega
  have HT := Lib.hid (fun (y : World) (u : Nw w y) => ctext_wU _ _ x.cv cs m.print y (Sl.of_owns (h.nw u).oc) hcs)
  obtain ⟨ac, cc, hcv⟩ := own_slG h.oc
  rw [hcv] at HT
  by_cases he : Ft.miss m.chunks cm = []
  · have h1 : Hid (ftx cs m cm = (textAtU cs m.print, 0)) := if_pos he
    have hl0 : (Ft.miss m.chunks cm).length = 0 := by rw [he]; rfl
    have d1 : decide (0 < (Ft.miss m.chunks cm).length) = false := decide_eq_false (by omega)
    have HL := Lib.hid hl0
    have HCV := Lib.hid hcv
    clear h he hl0 hml hcv
    generalize (Ft.miss m.chunks cm).length = ml at *
    go_enter Tryz.func21, Tryz.ntmps21
    go_wp2_with fail
    (with_reducible refine (HM.out).mono ?_)
    rintro _ w2 ⟨v2, rfl, o2, u2⟩
    obtain ⟨a2, c2', rfl⟩ := own_slG o2
    obtain ⟨c0, c1, c2, c3, c4, c5⟩ := (HH.out.nw u2).cells
    rw [HCV.out] at c1
    have d2 : ∀ i : Later w2, i.1.cell? ⟨x.fb, 1, none⟩ = some (.slice ac cs.length cc) := fun i => later_cell i c1
    have d3 : ∀ i : Later w2, i.1.cell? ⟨x.fb, 2, none⟩ = some (.int .i64 m.print) := fun i => later_cell i c2
    have U2 := Lib.hid u2
    clear o2 u2 HM c0 c3 c4 c5 HH
    go_wp2_with fail
    refine wp_region_nw (by kernel_rfl) (by kernel_rfl) ?_
    repeat (go_big_quiet_step ((go_at_call 55; exact later_call (HT.out _ (U2.out.trans (Later.nw _))))))
    refine wpQuiet_nil ?_
    intro w3 u3
    replace u3 := later_out u3
    go_wp2_with fail
    (try simp only [Exit.inBlock, Exit.then])
    refine bodyPost_ret (ftext_results _ _) rfl ?_
    rw [h1.out]
    exact ⟨rfl, U2.out.trans u3⟩
  · have h1 : Hid (ftx cs m cm = ([], 33)) := if_neg he
    have hl0 : 0 < (Ft.miss m.chunks cm).length := List.length_pos_iff.2 he
    have d1 : decide (0 < (Ft.miss m.chunks cm).length) = true := decide_eq_true hl0
    clear h he hml hcv HT HH hl0
    generalize (Ft.miss m.chunks cm).length = ml at *
    go_enter Tryz.func21, Tryz.ntmps21
    go_wp2_with fail
    (with_reducible refine (HM.out).mono ?_)
    rintro _ w2 ⟨v2, rfl, o2, u2⟩
    obtain ⟨a2, c2', rfl⟩ := own_slG o2
    have U2 := Lib.hid u2
    clear o2 u2 HM
    go_wp2_with fail
    (try simp only [Exit.inBlock, Exit.then])
    refine bodyPost_ret (ftext_results _ _) rfl ?_
    rw [h1.out]
    exact ⟨rfl, U2.out⟩
end
end Go.Proofs.YtmlmdlbepppnlaaGreatDoor
namespace Go.Proofs.YtmlmdlbepppnlaaGreatDoor
open Go.RowKit
set_option linter.unusedVariables false
set_option linter.unusedSimpArgs false
attribute [local irreducible] Calls

theorem nw_cell {w w' : World} (u : Nw w w') {a : Addr} {v : Value} (h : w.cell? a = some v) : w'.cell? a = some v := later_cell ⟨w', u⟩ h
theorem GS.upd_keepF {w : World} {db : Nat} {jp : Option (Nat × Jr.Jn)} {D : Dk.Disk} {F F' S : Nat → Prop} {z z' : World} (h : GS w db jp D F z) (u : Upd S z z') (hs : ∀ k, S k → (F k ∧ w.heap.size ≤ k) ∨ z.heap.size ≤ k) (hF : ∀ k, F' k → F k ∨ (z.heap.size ≤ k ∧ k < z'.heap.size)) : GS w db jp D F' z' := by
  obtain ⟨d, e, h1, h2, h3, h4⟩ := h
  have hz := u.size
  have hw := h2.size
  refine ⟨d, e, h1.upd u (fun k hk s => ?_), h2.trans' u (fun k hk s => ?_), fun k hk => ?_, fun p hp => ?_⟩
  · rcases hs k s with a | a
    · exact (h3 k a.1).2 hk
    · have := (h1.foot_lt hk).2; omega
  · rcases hs k s with a | a <;> omega
  · rcases hF k hk with a | a
    · exact ⟨by have := (h3 k a).1; omega, (h3 k a).2⟩
    · exact ⟨a.2, fun e => by have := (h1.foot_lt e).2; omega⟩
  · obtain ⟨x, e2, h5, h6, h7⟩ := h4 p hp
    refine ⟨x, e2, h5.upd u (fun k hk s => ?_), h6, fun k hk e3 => ?_⟩
    · rcases hs k s with a | a
      · exact h7 k a.1 hk
      · have := (h5.foot_lt hk).2; omega
    · rcases hF k hk with a | a
      · exact h7 k a e3
      · have := (h5.foot_lt e3).2; omega
/-- A fetch x on the journal j, on the disk db; all of it made since w, apart from the blocks F. -/
structure FS (w : World) (db : Nat) (x : FtR) (j : Jr.Jn) (cs : List (List UInt8)) (m : Ck.Man) (D : Dk.Disk) (F : Nat → Prop) (z : World) : Prop where
  gs : GS w db (some (x.jb, j)) D (fun k => F k ∨ x.foot k) z
  ft : FtAt w.heap.size z x cs m (Ft.come cs j)
  ap : ∀ k, F k → ¬ x.foot k
section
variable {w : World} {db : Nat} {x : FtR} {j j' : Jr.Jn} {cs : List (List UInt8)} {m : Ck.Man} {D D' : Dk.Disk} {F S : Nat → Prop} {z z' : World}
theorem FS.nw0 (h : FS w db x j cs m D F z) : Nw w z := h.gs.nw0
theorem FS.gl (h : FS w db x j cs m D F z) (g : Gl w) : Gl z := g.upd h.nw0
theorem FS.nw (h : FS w db x j cs m D F z) (u : Nw z z') : FS w db x j cs m D F z' := ⟨h.gs.nw u, h.ft.nw u, h.ap⟩
theorem FS.upd (h : FS w db x j cs m D F z) (u : Upd S z z') (hs : ∀ k, S k → (F k ∧ w.heap.size ≤ k) ∨ z.heap.size ≤ k) : FS w db x j cs m D F z' :=
  ⟨h.gs.upd u (fun k s => (hs k s).imp (fun a => ⟨Or.inl a.1, a.2⟩) id), h.ft.upd u (fun k hk s => (hs k s).elim (fun a => h.ap k a.1 hk) (fun a => by have := (h.ft.foot_lt hk).2; omega)), h.ap⟩
/-- Blocks that have come since are kept from now on. -/
theorem FS.keep {F' : Nat → Prop} (h : FS w db x j cs m D F z) (u : Nw z z') (hF : ∀ k, F' k → F k ∨ (z.heap.size ≤ k ∧ k < z'.heap.size)) : FS w db x j cs m D F' z' := by
  refine ⟨h.gs.keep u (fun k hk => ?_), h.ft.nw u, fun k hk e => ?_⟩
  · rcases hk with hk | hk
    · exact (hF k hk).imp Or.inl id
    · exact Or.inl (Or.inr hk)
  · rcases hF k hk with a | a
    · exact h.ap k a e
    · have := (h.ft.foot_lt e).2; omega
theorem FS.forget (h : FS w db x j cs m D F z) : GS w db none D F z := (h.gs.forget).keep (Upd.refl _ _) (fun k hk => Or.inl (Or.inl hk))
theorem FS.ok (h : FS w db x j cs m D F z) : Dk.Ok D := h.gs.ok
theorem FS.recs (h : FS w db x j cs m D F z) : j.recs.length ≤ 16777216 := by
  obtain ⟨d, y, _, _, h2⟩ := h.gs.parts
  exact h2.jrn.len
theorem come_len (cs : List (List UInt8)) (j : Jr.Jn) : (Ft.come cs j).length = j.recs.length := List.length_map _
/-- What a journal's or a disk's call leaves. -/
theorem FS.of_gs (h : FS w db x j cs m D F z) (u : Moves w (fun k => F k ∨ x.foot k) z z') (h' : GS w db (some (x.jb, j')) D' (fun k => F k ∨ x.foot k) z') (e : Ft.come cs j' = Ft.come cs j) : FS w db x j' cs m D' F z' ∧ Moves w F z z' :=
  ⟨⟨h', by rw [e]; exact h.ft.upd u (fun k hk s => s.1 (Or.inr hk)), h.ap⟩, u.mono (fun k _ s => ⟨fun f => s.1 (Or.inl f), s.2⟩)⟩
theorem fmissing_t (h : FS w db x j cs m D F z) (g : Gl w) (hk : m.chunks.length ≤ 1000000) (hr : j.recs.length ≤ 20000000) :
    Calls Tryz.prog 23 #[.pointer (some ⟨x.fb, 0, none⟩)] z fun e z' => ∃ v', e = .returned v' ∧ z'.ownsRow z.heap.size 3 1 v' (Ft.gone cs m j).length ((Ft.gone cs m j).map intD) ∧ Nw z z' :=
  fmissing_c h.ft (h.gl g) hk (by rw [come_len]; exact hr)
theorem ftext_t (h : FS w db x j cs m D F z) (g : Gl w) (hk : m.chunks.length ≤ 1000000) (hr : j.recs.length ≤ 20000000) (hcs : cs.length ≤ 90) :
    Calls Tryz.prog 21 #[.pointer (some ⟨x.fb, 0, none⟩)] z fun e z' => e = .returned (.tuple #[.string ⟨(Ft.ftext cs m j).1.toArray⟩, .int .i64 (Ft.ftext cs m j).2]) ∧ Nw z z' :=
  ftext_c h.ft (h.gl g) hk (by rw [come_len]; exact hr) hcs
set_option maxRecDepth 100000 in
theorem fsync_t (h : FS w db x j cs m D F z) (g : Gl w) :
    Calls Tryz.prog 19 #[.pointer (some ⟨x.fb, 0, none⟩)] z fun e z' => e = .returned (.int .i64 (Jr.syncJ D j).2.2) ∧ FS w db x (Jr.syncJ D j).2.1 cs m (Jr.syncJ D j).1 F z' ∧ Moves w F z z' := by
  obtain ⟨c0, _, _, _, _, _⟩ := h.ft.cells
  have HJ := Lib.hid (jsync_t h.gs g)
  have HH := Lib.hid h
  clear h
  go_enter Tryz.func19, Tryz.ntmps19
  go_wp2_with fail
  (with_reducible refine (HJ.out).mono ?_)
  rintro _ w2 ⟨rfl, s2, u2⟩
  have hz := Lib.hid (HH.out.of_gs u2 s2 (by unfold Ft.come; rw [Ft.sync_recs]))
  clear s2 u2 HJ
  go_wp2_with fail
  go_ret
  exact ⟨rfl, hz.out⟩
/-- A print more has come. -/
theorem FtAt.more {B : Nat} {w z2 : World} {x : FtR} {cm : List Int} {p : Int} {v' : Value} (h : FtAt B w x cs m cm) (o2 : z2.ownsRow B 3 1 v' (cm.length + 1) (cm.map intD ++ [.int .i64 p])) (u2 : Upd (fun k => x.ov.ownBlock = some k) w z2)
    (hb : ∀ k, v'.ownBlock = some k → x.ov.ownBlock = some k ∨ w.heap.size ≤ k) :
    FtAt B (z2.setCell ⟨x.fb, 5, none⟩ v') { x with ov := v' } cs m (cm ++ [p]) ∧ Upd (fun k => k = x.fb ∨ x.ov.ownBlock = some k) w (z2.setCell ⟨x.fb, 5, none⟩ v') ∧ ∀ k, FtR.foot { x with ov := v' } k → x.foot k ∨ (w.heap.size ≤ k ∧ k < (z2.setCell ⟨x.fb, 5, none⟩ v').heap.size) := by
  have hfb := h.fb
  have hgb := h.hb
  have hne : x.ov.ownBlock ≠ some x.fb := fun e => by
    obtain ⟨_, c, hc⟩ := own_block h.oo e
    rw [h.blk] at hc
    injection hc with hc
    injection hc with _ hc
    exact absurd hc (by decide)
  have hltb := lt_of_block h.blk
  have bl := setCell_block (u2.keep h.blk hne) 5 v'
  have U : Upd (fun k => k = x.fb ∨ x.ov.ownBlock = some k) w (z2.setCell ⟨x.fb, 5, none⟩ v') := (u2.mono (fun k _ e => Or.inr e)).setCell (S := fun k => k = x.fb ∨ x.ov.ownBlock = some k) (p := ⟨x.fb, 5, none⟩) (Or.inl (Or.inl rfl)) (by show nG ≤ x.fb; omega) v'
  have o3 : (z2.setCell ⟨x.fb, 5, none⟩ v').ownsRow B 3 1 v' (cm.length + 1) (cm.map intD ++ [.int .i64 p]) := owns_upd' o2 ((Upd.refl (fun k => k = x.fb) z2).set1 (by omega) 5 v') (fun k e e2 => by
    rcases hb k e with e3 | e3
    · exact hne (by rw [e3, e2])
    · omega)
  have ncb : ∀ k, x.cv.ownBlock = some k → ¬ (k = x.fb ∨ x.ov.ownBlock = some k) := fun k e s => by
    rcases s with s | s
    · obtain ⟨_, c, hc⟩ := own_block h.oc e
      rw [s, h.blk] at hc
      injection hc with hc
      injection hc with _ hc
      exact absurd hc (by decide)
    · exact own_ne2 h.oc h.oo (by decide) e s
  have nkb : ∀ k, x.kv.ownBlock = some k → ¬ (k = x.fb ∨ x.ov.ownBlock = some k) := fun k e s => by
    rcases s with s | s
    · obtain ⟨_, c, hc⟩ := own_block h.ok e
      rw [s, h.blk] at hc
      injection hc with hc
      injection hc with _ hc
      exact absurd hc (by decide)
    · exact h.ne k e s
  refine ⟨⟨h.hb, h.fb, by simpa using bl, owns_upd' h.oc U ncb, owns_upd' h.ok U nkb, ?_, fun k e e2 => ?_⟩, U, fun k hk => ?_⟩
  · rw [List.length_append, List.map_append]; exact o3
  · rcases hb k e2 with e3 | e3
    · exact h.ne k e e3
    · have := (h.ok.lt k e).2; omega
  · rcases hk with hk | hk | hk | hk
    · exact Or.inl (Or.inl hk)
    · exact Or.inl (Or.inr (Or.inl hk))
    · exact Or.inl (Or.inr (Or.inr (Or.inl hk)))
    · rcases hb k hk with e3 | e3
      · exact Or.inl (Or.inr (Or.inr (Or.inr e3)))
      · exact Or.inr ⟨e3, (o3.lt k hk).2⟩
end
end Go.Proofs.YtmlmdlbepppnlaaGreatDoor
namespace Go.Proofs.YtmlmdlbepppnlaaGreatDoor
open Go.RowKit
set_option linter.unusedVariables false
set_option linter.unusedSimpArgs false
attribute [local irreducible] Calls

/-- What Take leaves. -/
def TakeD (w : World) (db : Nat) (x : FtR) (j : Jr.Jn) (cs : List (List UInt8)) (m : Ck.Man) (D : Dk.Disk) (F : Nat → Prop) (i : Int) (t : List UInt8) (z : World) (e : Ending) (z' : World) : Prop :=
  e = .returned (.int .i64 (Ft.take D cs m j i t).2.2) ∧ ∃ x' : FtR, x'.fb = x.fb ∧ FS w db x' (Ft.take D cs m j i t).2.1 cs m (Ft.take D cs m j i t).1 F z' ∧ Moves w F z z'
section
variable {w : World} {db : Nat} {x : FtR} {j j' : Jr.Jn} {cs : List (List UInt8)} {m : Ck.Man} {D D' : Dk.Disk} {F S : Nat → Prop} {z z' : World} {i : Int} {t : List UInt8}
theorem TakeD.no_ {n : Int} (h : FS w db x j cs m D F z) (e : Ft.take D cs m j i t = (D, j, n)) (u : Nw z z') : TakeD w db x j cs m D F i t z (.returned (.int .i64 n)) z' := by
  unfold TakeD
  rw [e]
  exact ⟨rfl, x, rfl, h.nw u, Nw.upd _ u⟩
theorem TakeD.err {n : Int} {x : FtR} (h : FS w db x j cs m D F z) (e : Ft.take D cs m j i t = Jr.append D j t) (e2 : (Jr.append D j t).2.2 = n) (hn : n ≠ 0) (u0 : Nw z z') {z'' : World} (u : Moves w (fun k => F k ∨ x.foot k) z' z'')
    (h' : GS w db (some (x.jb, (Jr.append D j t).2.1)) (Jr.append D j t).1 (fun k => F k ∨ x.foot k) z'') : TakeD w db x j cs m D F i t z (.returned (.int .i64 n)) z'' := by
  unfold TakeD
  rw [e, e2]
  have hr : Ft.come cs (Jr.append D j t).2.1 = Ft.come cs j := by
    rcases Ft.append_recs D j t with ⟨h1, _⟩ | ⟨_, h2⟩
    · rw [e2] at h1; exact absurd h1 hn
    · unfold Ft.come; rw [h2]
  obtain ⟨k1, k2⟩ := (h.nw u0).of_gs u h' hr
  exact ⟨rfl, x, rfl, k1, Nw.trans u0 k2⟩
theorem TakeD.ok {x : FtR} {p : Int} {v' : Value} {z1 z2 z3 : World} (h : FS w db x j cs m D F z) (e : Ft.take D cs m j i t = Jr.append D j t) (e2 : (Jr.append D j t).2.2 = 0) (hp : Ft.prOf cs t = p) (u0 : Nw z z1) (u : Moves w (fun k => F k ∨ x.foot k) z1 z2)
    (h' : GS w db (some (x.jb, (Jr.append D j t).2.1)) (Jr.append D j t).1 (fun k => F k ∨ x.foot k) z2)
    (o2 : z3.ownsRow w.heap.size 3 1 v' ((Ft.come cs j).length + 1) ((Ft.come cs j).map intD ++ [.int .i64 p])) (u2 : Upd (fun k => x.ov.ownBlock = some k) z2 z3)
    (hb : ∀ k, v'.ownBlock = some k → x.ov.ownBlock = some k ∨ z2.heap.size ≤ k) : TakeD w db x j cs m D F i t z (.returned (.int .i64 0)) (z3.setCell ⟨x.fb, 5, none⟩ v') := by
  unfold TakeD
  rw [e, e2]
  have hr : Ft.come cs (Jr.append D j t).2.1 = Ft.come cs j ++ [p] := by
    rcases Ft.append_recs D j t with ⟨_, h2⟩ | ⟨h1, _⟩
    · unfold Ft.come; rw [h2, List.map_append, ← hp]; rfl
    · exact absurd e2 h1
  have hft : FtAt w.heap.size z2 x cs m (Ft.come cs j) := (h.ft.nw u0).upd u (fun k hk s => s.1 (Or.inr hk))
  obtain ⟨k1, k2, k3⟩ := hft.more o2 u2 hb
  have hz := u2.size
  have hov : ∀ k, (k = x.fb ∨ x.ov.ownBlock = some k) → x.foot k := fun k s => s.imp id (fun s => Or.inr (Or.inr s))
  refine ⟨rfl, { x with ov := v' }, rfl, ⟨h'.upd_keepF k2 (fun k s => Or.inl ⟨Or.inr (hov k s), (hft.foot_lt (hov k s)).1⟩) (fun k hk => ?_), by rw [hr]; exact k1, fun k hk s => ?_⟩, (Nw.trans u0 (u.mono (S' := fun k => ¬ F k ∧ w.heap.size ≤ k) (fun k _ s => ⟨fun f => s.1 (Or.inl f), s.2⟩))).trans' k2 (fun k hk s => ⟨fun f => h.ap k f (hov k s), (hft.foot_lt (hov k s)).1⟩)⟩
  · rcases hk with hk | hk
    · exact Or.inl (Or.inl hk)
    · exact (k3 k hk).imp Or.inr id
  · rcases k3 k s with a | a
    · exact h.ap k hk a
    · obtain ⟨d, _, hd, _, h3, _⟩ := h'
      have := (h3 k (Or.inl hk)).1; omega
set_option maxHeartbeats 4000000 in
set_option maxRecDepth 100000 in
theorem take_t (h : FS w db x j cs m D F z) (g : Gl w) (hk : m.chunks.length ≤ 1000000) (hr : j.recs.length ≤ 20000000) (hcs : cs.length ≤ 90) (hn : cs.Nodup) (hi : I64 i) (ht : t.length ≤ 1000000) :
    Calls Tryz.prog 17 #[.pointer (some ⟨x.fb, 0, none⟩), .int .i64 i, .string ⟨t.toArray⟩] z (TakeD w db x j cs m D F i t z) := by
  obtain ⟨c0, c1, c2, c3, c4, c5⟩ := h.ft.cells
  have hg := h.gl g
  have HH := Lib.hid h
  have HI := Lib.hid hi
  have HCk := Lib.hid (fun (y : World) (u : Nw z y) => check_c _ _ _ _ x.cv cs m.print m.size x.kv m.chunks i hi t y (Sl.of_owns (h.nw u).ft.oc) hcs (Sl.of_owns (h.nw u).ft.ok) hk)
  have HCo := Lib.hid (fun (y : World) (p : Int) (u : Nw z y) => contains_iN _ _ x.ov (Ft.come cs j) p y (Sl.of_owns (h.nw u).ft.oo) (by rw [come_len]; exact hr))
  have HKc := Lib.hid (int_cells (Sl.of_owns h.ft.ok))
  obtain ⟨ac, cc, hcv⟩ := own_slG h.ft.oc
  obtain ⟨ak, ck, hkv⟩ := own_slG h.ft.ok
  obtain ⟨ao, co, hov⟩ := own_slG h.ft.oo
  rw [hcv] at c1 HCk
  rw [hkv] at c4 HCk HKc
  rw [hov] at c5 HCo
  have hk1 : (m.chunks.length : Int) ≤ 1000000 := by omega
  have HCV := Lib.hid hcv
  have HKV := Lib.hid hkv
  have HOV := Lib.hid hov
  clear h hcv hkv hov
  unfold I64 at hi
  obtain ⟨hi1, hi2⟩ := hi
  by_cases h0 : i < 0
  · have d0 : decide (i < 0) = true := decide_eq_true h0
    have hfin := Lib.hid (fun (y : World) (u : Nw z y) => TakeD.no_ (t := t) HH.out (n := 3) (by unfold Ft.take; rw [if_pos (Or.inl h0)]) u)
    clear h0 HCk HCo HKc
    go_enter Tryz.func17, Tryz.ntmps17
    go_wp2_with fail
    go_ret
    exact hfin.out _ (Upd.refl _ _)
  have d0 : decide (i < 0) = false := decide_eq_false h0
  by_cases h1 : (m.chunks.length : Int) ≤ i
  · have d1 : decide ((m.chunks.length : Int) ≤ i) = true := decide_eq_true h1
    have hfin := Lib.hid (fun (y : World) (u : Nw z y) => TakeD.no_ (t := t) HH.out (n := 3) (by unfold Ft.take; rw [if_pos (Or.inr h1)]) u)
    clear h0 h1 HCk HCo HKc
    go_enter Tryz.func17, Tryz.ntmps17
    go_wp2_with fail
    go_ret
    exact hfin.out _ (Upd.refl _ _)
  have d1 : decide ((m.chunks.length : Int) ≤ i) = false := decide_eq_false h1
  obtain ⟨n, rfl⟩ : ∃ n : Nat, i = n := ⟨i.toNat, by omega⟩
  have hnl : n < m.chunks.length := by omega
  have hnl1 : (n : Int) < m.chunks.length := by omega
  have HT0 : Hid (∀ r, Ft.take D cs m j n t = r ↔ (if Ft.checkM cs m.chunks n t = false then (D, j, 28) else if m.chunks[n] ∈ Ft.come cs j then (D, j, 0) else Jr.append D j t) = r) := fun r => by
    unfold Ft.take
    rw [if_neg (by omega)]
    simp [hnl]
  have m1 : ∀ k : Later z, k.1.cell? ⟨x.fb, 1, none⟩ = some (.slice ac cs.length cc) := fun k => later_cell k c1
  have m2 : ∀ k : Later z, k.1.cell? ⟨x.fb, 2, none⟩ = some (.int .i64 m.print) := fun k => later_cell k c2
  have m3 : ∀ k : Later z, k.1.cell? ⟨x.fb, 3, none⟩ = some (.int .i64 m.size) := fun k => later_cell k c3
  have m4 : ∀ k : Later z, k.1.cell? ⟨x.fb, 4, none⟩ = some (.slice ak m.chunks.length ck) := fun k => later_cell k c4
  have HCh : Hid (Ft.checkM cs m.chunks n t = true → Ft.prOf cs t = m.chunks[n]) := fun h => by
    unfold Ft.checkM at h
    simp only [Bool.and_eq_true, decide_eq_true_eq] at h
    obtain ⟨_, h2, h3⟩ := h
    have e : m.chunks.getD (n : Int).toNat 0 = m.chunks[n] := by simp [hnl]
    rw [e] at h2 h3
    rw [← h3]
    exact Ft.print_of hn h2
  clear h0 h1
  cases hq : Ft.checkM cs m.chunks n t with
  | false =>
    have hfin := Lib.hid (fun (y : World) (u : Nw z y) => TakeD.no_ (t := t) (i := n) HH.out (n := 28) ((HT0.out _).2 (if_pos hq)) u)
    rw [hq] at HCk
    clear HT0 HCh hq HCo HKc
    go_enter Tryz.func17, Tryz.ntmps17
    go_wp2_with fail
    refine wp_region_nw (by kernel_rfl) (by kernel_rfl) ?_
    repeat (go_big_quiet_step ((go_at_call 48; exact later_call (HCk.out _ (Later.nw _)))))
    refine wpQuiet_nil ?_
    intro w2 u2
    replace u2 := later_out u2
    go_wp2_with fail
    go_ret
    exact hfin.out _ u2
  | true =>
    have hp := HCh.out hq
    rcases HKc.out with ⟨_, _, e, _, hnil | ⟨b, off, e2, _, _, hcell⟩⟩
    · simp [hnil] at hnl
    injection e with e3 e4 e5
    subst e3 e5
    subst e2
    have k0 := hcell n hnl
    have HT1 : Hid (∀ r, Ft.take D cs m j n t = r ↔ (if m.chunks[n] ∈ Ft.come cs j then (D, j, 0) else Jr.append D j t) = r) := fun r => by
      rw [HT0.out, if_neg (by rw [hq]; decide)]
    rw [hq] at HCk
    have HP := Lib.hid hp
    clear HT0 HCh hq hcell HKc hp
    generalize m.chunks[n] = p at *
    by_cases hc : p ∈ Ft.come cs j
    · have hfin := Lib.hid (fun (y : World) (u : Nw z y) => TakeD.no_ (t := t) (i := n) HH.out (n := 0) ((HT1.out _).2 (if_pos hc)) u)
      have hy := Lib.hid (fun (y : World) (u : Nw z y) => (show Calls Tryz.prog 34 #[.slice ao (Ft.come cs j).length co, .int .i64 p] y fun e w' => e = .returned (.bool true) ∧ Nw y w' from by have := HCo.out y p u; rw [decide_eq_true hc] at this; exact this))
      clear HT1 hc HCo
      go_enter Tryz.func17, Tryz.ntmps17
      go_wp2_with fail
      refine wp_region_nw (by kernel_rfl) (by kernel_rfl) ?_
      repeat (go_big_quiet_step ((go_at_call 48; exact later_call (HCk.out _ (Later.nw _)))))
      refine wpQuiet_nil ?_
      intro w2 u2
      replace u2 := later_out u2
      have c4' := nw_cell u2 c4
      have c5' := nw_cell u2 c5
      have k0' := nw_cell u2 k0
      have hy2 := Lib.hid (hy.out w2 u2)
      have U2 := Lib.hid u2
      clear hy u2
      go_wp2_with fail
      (with_reducible refine (hy2.out).mono ?_)
      rintro _ w3 ⟨rfl, u3⟩
      have U3 := Lib.hid (U2.out.trans u3)
      clear u3 hy2
      go_wp2_with fail
      go_ret
      exact hfin.out _ U3.out
    · have hy := Lib.hid (fun (y : World) (u : Nw z y) => (show Calls Tryz.prog 34 #[.slice ao (Ft.come cs j).length co, .int .i64 p] y fun e w' => e = .returned (.bool false) ∧ Nw y w' from by have := HCo.out y p u; rw [decide_eq_false hc] at this; exact this))
      have HA : Hid (Ft.take D cs m j n t = Jr.append D j t) := (HT1.out _).2 (if_neg hc)
      have HAp := Lib.hid (fun (y : World) (u : Nw z y) => append_t (HH.out.nw u).gs g t ht)
      have hcl := come_len cs j
      have hcl1 : ((Ft.come cs j).length : Int) ≤ 20000000 := by omega
      clear HT1 hc HCo hcl
      go_enter Tryz.func17, Tryz.ntmps17
      go_wp2_with fail
      refine wp_region_nw (by kernel_rfl) (by kernel_rfl) ?_
      repeat (go_big_quiet_step ((go_at_call 48; exact later_call (HCk.out _ (Later.nw _)))))
      refine wpQuiet_nil ?_
      intro w2 u2
      replace u2 := later_out u2
      have c4' := nw_cell u2 c4
      have c5' := nw_cell u2 c5
      have k0' := nw_cell u2 k0
      have hy2 := Lib.hid (hy.out w2 u2)
      have U2 := Lib.hid u2
      clear hy u2
      go_wp2_with fail
      (with_reducible refine (hy2.out).mono ?_)
      rintro _ w3 ⟨rfl, u3⟩
      have U3 := Lib.hid (U2.out.trans u3)
      have c0' := nw_cell U3.out c0
      have ha := Lib.hid (HAp.out w3 U3.out)
      clear u3 hy2 HAp c4' c5' k0'
      go_wp2_with fail
      (with_reducible refine (ha.out).mono ?_)
      rintro _ w4 ⟨rfl, s4, u4⟩
      have HS4 := Lib.hid s4
      have HU4 := Lib.hid u4
      have h4 : FtAt w.heap.size w4 x cs m (Ft.come cs j) := (HH.out.nw U3.out).ft.upd u4 (fun k hk s => s.1 (Or.inr hk))
      obtain ⟨_, _, _, _, _, c5'⟩ := h4.cells
      rw [HOV.out] at c5'
      have f5' := cells_frozen h4.blk 5
      have H4 := Lib.hid h4
      clear s4 u4 ha h4
      generalize hAp : Jr.append D j t = R at *
      by_cases he : R.2.2 = 0
      · have d2 : (R.2.2 == 0) = true := by simp [he]
        have d3 : (R.2.2 != 0) = false := by simp [he]
        have HO : Hid (w4.ownsRow w.heap.size 3 1 (.slice ao (Ft.come cs j).length co) (Ft.come cs j).length ((Ft.come cs j).map intD)) := by rw [← HOV.out]; exact H4.out.oo
        have hz4 : w.heap.size ≤ w4.heap.size := by have := H4.out.fb; have := lt_of_block H4.out.blk; omega
        have hgw : nG ≤ w.heap.size := H4.out.hb
        have HE := Lib.hid he
        clear he
        go_wp2_with (at_builtin; refine wpList_appL rfl _ _ 26 rfl w.heap.size 3 _ 1 8 Tryz.underlying26 infoIntU rfl (by decide) _ _ _ rfl HO.out [.int .i64 p] rfl rfl ?c1 ?c2 ?c3 hz4 hgw ?_)
        case c1 => intro u hu; rw [List.mem_singleton.1 hu]; rfl
        case c2 => unfold maxLen; omega
        case c3 => omega
        intro v' w9 o9 u9 hob
        obtain ⟨a9, c9, rfl⟩ := own_slG o9
        rw [← HOV.out] at u9 hob
        have hne : x.ov.ownBlock ≠ some x.fb := fun e => by
          obtain ⟨_, c, hc⟩ := own_block H4.out.oo e
          rw [H4.out.blk] at hc
          injection hc with hc
          injection hc with _ hc
          exact absurd hc (by decide)
        have kb := u9.keep H4.out.blk hne
        have q1 := cells_cell kb 5
        have q2 := cells_frozen kb 5
        simp only [List.getElem?_toArray, List.getElem?_cons_succ, List.getElem?_cons_zero] at q1
        subst hAp
        have hfin := Lib.hid (TakeD.ok HH.out HA.out HE.out HP.out U3.out HU4.out HS4.out o9 u9 hob)
        clear o9 u9 hob kb hne
        go_wp2_with fail
        go_ret
        exact hfin.out
      · have d2 : (R.2.2 == 0) = false := by simp [he]
        have d3 : (R.2.2 != 0) = true := by simp [he]
        subst hAp
        have hfin := Lib.hid (TakeD.err HH.out HA.out rfl he U3.out HU4.out HS4.out)
        clear he c5' f5'
        generalize (Jr.append D j t).2.2 = n2 at *
        go_wp2_with fail
        go_ret
        exact hfin.out
end
end Go.Proofs.YtmlmdlbepppnlaaGreatDoor
namespace Go.Proofs.YtmlmdlbepppnlaaGreatDoor
open Go.RowKit
set_option linter.unusedVariables false
set_option linter.unusedSimpArgs false
attribute [local irreducible] Calls

theorem fopen_results (tmps : Array Value) (w : World) : (results Tryz.f14 tmps).run Tryz.prog w = .ok (.tuple #[tmps.getD 8 undef, tmps.getD 9 undef]) w := by
  simp [results, Tryz.results14, go_sem]
/-- What Open leaves. -/
def FOD (w : World) (db : Nat) (cs : List (List UInt8)) (m : Ck.Man) (R : Dk.Disk × Option Jr.Jn × Int) (F : Nat → Prop) (z : World) (e : Ending) (z' : World) : Prop :=
  ∃ pv, e = .returned (.tuple #[pv, .int .i64 R.2.2]) ∧ Moves w F z z' ∧
    ((R.2.1 = none ∧ pv = .pointer none ∧ GS w db none R.1 F z') ∨ ∃ j x, R.2.1 = some j ∧ pv = .pointer (some ⟨FtR.fb x, 0, none⟩) ∧ FS w db x j cs m R.1 F z')
theorem GS.sz {w : World} {db : Nat} {jp : Option (Nat × Jr.Jn)} {D : Dk.Disk} {F : Nat → Prop} {z : World} (h : GS w db jp D F z) : ∀ k, F k → k < z.heap.size := by
  obtain ⟨d, _, _, _, h3, _⟩ := h
  exact fun k hk => (h3 k hk).1
theorem GS.moves {w : World} {F : Nat → Prop} {z z1 z2 : World} (u : Moves w F z z1) (u2 : Nw z1 z2) : Moves w F z z2 := u.nw u2
/-- The blocks of a slice that reads as a list. -/
theorem Sl.kept {lo hi : Nat} {w z z' : World} {F : Nat → Prop} {v : Value} {xs : List Value} (h : Sl lo hi z v xs) (u : Moves w F z z') (hF : ∀ k, lo ≤ k → k < hi → F k ∨ k < w.heap.size) : Sl lo hi z' v xs :=
  h.upd u (fun k h1 h2 s => (hF k h1 h2).elim (fun f => s.1 f) (fun f => by have := s.2; omega))
theorem owns_kept {w z z' : World} {F : Nat → Prop} {B sz n : Nat} {e : TypeId} {v : Value} {xs : List Value} (h : z.ownsRow B e sz v n xs) (u : Moves w F z z') (hF : ∀ k, v.ownBlock = some k → F k ∨ k < w.heap.size) : z'.ownsRow B e sz v n xs :=
  owns_upd' h u (fun k e s => (hF k e).elim (fun f => s.1 f) (fun f => by have := s.2; omega))
section
variable {w : World} {db : Nat} {jp : Option (Nat × Jr.Jn)} {cs : List (List UInt8)} {m : Ck.Man} {D D' : Dk.Disk} {F S : Nat → Prop} {z z' : World} {f : Int}
theorem FOD.no_ {R : Dk.Disk × Option Jr.Jn × Int} {n : Int} (h : GS w db jp R.1 F z') (u : Moves w F z z') (e1 : R.2.1 = none) (e2 : R.2.2 = n) : FOD w db cs m R F z (.returned (.tuple #[.pointer none, .int .i64 n])) z' := by
  refine ⟨_, by rw [e2], u, Or.inl ⟨e1, rfl, h.forget⟩⟩
theorem FOD.yes {R : Dk.Disk × Option Jr.Jn × Int} {j : Jr.Jn} {jb : Nat} {x : FtR} {z1 : World} (h : GS w db (some (jb, j)) R.1 F z1) (u : Moves w F z z1) (u1 : Nw z1 z') (ft : FtAt z1.heap.size z' x cs m (Ft.come cs j)) (hx : x.jb = jb) (e1 : R.2.1 = some j) (e2 : R.2.2 = 0) : FOD w db cs m R F z (.returned (.tuple #[.pointer (some ⟨x.fb, 0, none⟩), .int .i64 0])) z' := by
  subst hx
  have hnw := h.nw0
  have hs := h.sz
  have hb : nG ≤ w.heap.size := by obtain ⟨_, _, hd, _⟩ := h; exact hd.hb
  refine ⟨_, by rw [e2], u.nw u1, Or.inr ⟨j, x, e1, rfl, ⟨h.keep u1 (fun k hk => ?_), ft.base hb hnw.size, fun k hk s => ?_⟩⟩⟩
  · rcases hk with hk | hk
    · exact Or.inl hk
    · exact Or.inr (ft.foot_lt hk)
  · have := hs k hk; have := (ft.foot_lt s).1; omega
def comeN (cs : List (List UInt8)) (l : List (List UInt8)) (n : Nat) : List Int := (l.take n).map (Ft.prOf cs)
theorem comeN_succ {cs : List (List UInt8)} {l : List (List UInt8)} {n : Nat} (h : n < l.length) : comeN cs l (n + 1) = comeN cs l n ++ [Ft.prOf cs l[n]] := by
  unfold comeN; rw [List.take_succ_eq_append_getElem h, List.map_append]; rfl
theorem comeN_all (cs : List (List UInt8)) (j : Jr.Jn) : comeN cs j.recs j.recs.length = Ft.come cs j := by unfold comeN; rw [List.take_length]; rfl
theorem comeN_len {cs : List (List UInt8)} {l : List (List UInt8)} {n : Nat} (h : n ≤ l.length) : (comeN cs l n).length = n := by unfold comeN; rw [List.length_map, List.length_take, Nat.min_eq_left h]
theorem ft_made {w3 y1 w5 : World} {jb : Nat} {p zz : Int} {l : List Int} {sl cv' kv : Value} (hb : nG ≤ w3.heap.size) (u1 : Nw w3 y1) (oc : y1.ownsRow w3.heap.size tStrMU 1 cv' cs.length (cs.map bsMU))
    (u5 : Nw (y1.alloc (.cells #[.pointer (some ⟨jb, 0, none⟩), cv', .int .i64 p, .int .i64 zz, sl, .slice none 0 0] tFet)) w5) (ok : w5.ownsRow (y1.heap.size + 1) 3 1 kv l.length (l.map intD)) :
    FtAt w3.heap.size (w5.setCell ⟨y1.heap.size, 4, none⟩ kv) ⟨y1.heap.size, jb, cv', kv, .slice none 0 0⟩ cs ⟨p, zz, l⟩ [] ∧ Nw w3 (w5.setCell ⟨y1.heap.size, 4, none⟩ kv) := by
  have hz := u1.size
  have na := nw_alloc y1 (.cells #[.pointer (some ⟨jb, 0, none⟩), cv', .int .i64 p, .int .i64 zz, sl, .slice none 0 0] tFet)
  have bl := u5.keep (heap_new y1 (.cells #[.pointer (some ⟨jb, 0, none⟩), cv', .int .i64 p, .int .i64 zz, sl, .slice none 0 0] tFet))
  have U : Upd (fun k => k = y1.heap.size) w5 (w5.setCell ⟨y1.heap.size, 4, none⟩ kv) := (Upd.refl _ _).set1 (by omega) 4 kv
  refine ⟨⟨hb, hz, by simpa using setCell_block bl 4 kv, owns_upd' (owns_upd' oc (na.trans u5) (fun _ _ e => e)) U (fun k e e2 => by have := (oc.lt k e).2; omega), owns_base (owns_upd' ok U (fun k e e2 => by have := (ok.lt k e).1; omega)) (by omega), World.ownsRow_nil _ _ _ _, fun k e e2 => by cases e2⟩, ((u1.trans na).trans u5).trans' U (fun k hk e => by omega)⟩
set_option maxHeartbeats 4000000 in
set_option maxRecDepth 100000 in
theorem fopen_t (h : GS w db jp D F z) (g : Gl w) (hf : I64 f) {B : Nat} {v : Value} (hv : z.ownsRow B tStrMU 1 v cs.length (cs.map bsMU)) (hvF : ∀ k, v.ownBlock = some k → F k ∨ k < w.heap.size) {lo hi : Nat} {cv : Value} (hc : Sl lo hi z cv (m.chunks.map intD)) (hcF : ∀ k, lo ≤ k → k < hi → F k ∨ k < w.heap.size)
    (hl : CntOkU cs) (hn : cs.Nodup) (hl2 : m.chunks.length ≤ 1000000) :
    Calls Tryz.prog 14 #[.pointer (some ⟨db, 0, none⟩), .int .i64 f, v, .agg #[.int .i64 m.print, .int .i64 m.size, cv]] z (FOD w db cs m (Ft.fopen D f cs m) F z) := by
  have hgz := h.gl g
  have hgb := hgz.big
  obtain ⟨p, zz, l⟩ := m
  dsimp only at hc hl2 ⊢
  obtain ⟨a, cap, rfl, -, -⟩ := int_cells hc
  have n1 := nw_alloc z (.cells #[.int .i64 p, .int .i64 zz, .slice a l.length cap] tManU)
  have b1 := heap_new z (.cells #[.int .i64 p, .int .i64 zz, .slice a l.length cap] tManU)
  have h1 := h.nw n1
  have HR := Lib.hid (right_c _ _ lo hi v cs p zz _ l _ (hgz.upd n1) (Sl.of_owns (owns_upd' hv n1 (fun _ _ e => e))) hl hn (hc.nw n1) hl2)
  obtain ⟨av, cav, rfl⟩ := own_slG hv
  have HN := Lib.hid n1
  have HB := Lib.hid (fun (y : World) (u : Nw (z.alloc (.cells #[.int .i64 p, .int .i64 zz, .slice a l.length cap] tManU)) y) => u.keep b1)
  have HZ := Lib.hid (show z.heap.size < (z.alloc (.cells #[.int .i64 p, .int .i64 zz, .slice a l.length cap] tManU)).heap.size from lt_of_block b1)
  have HG := Lib.hid h1
  have HG0 := Lib.hid h
  have HV := Lib.hid hv
  have HVF := Lib.hid hvF
  have HCS := Lib.hid hc
  have HCF := Lib.hid hcF
  have HL := Lib.hid hl
  have k0 : (z.alloc (.cells #[.int .i64 p, .int .i64 zz, .slice a l.length cap] tManU)).cell? ⟨z.heap.size, 0, none⟩ = some (.int .i64 p) := by rw [cells_cell b1]; rfl
  clear hv hc n1 b1 h h1 hvF hcF hl
  have hdef : ∀ b, Ft.rightM cs ⟨p, zz, l⟩ = b → Ft.fopen D f cs ⟨p, zz, l⟩ = (if b = false then (D, none, 1) else if (Jr.openJ D f).2.2 ≠ 0 then ((Jr.openJ D f).1, none, (Jr.openJ D f).2.2) else match (Jr.openJ D f).2.1 with
      | none => ((Jr.openJ D f).1, none, 28)
      | some j => if Ft.fitsJ cs ⟨p, zz, l⟩ j then ((Jr.openJ D f).1, some j, 0) else ((Jr.openJ D f).1, none, 28)) := fun b hb => by rw [← hb]; rfl
  cases hq : Ft.rightM cs ⟨p, zz, l⟩ with
  | false =>
    have e := hdef _ hq
    rw [if_pos rfl] at e
    have E := Lib.hid e
    rw [hq] at HR
    clear e hdef hq
    go_enter Tryz.func14, Tryz.ntmps14
    go_wp2_with fail
    (with_reducible refine (HR.out).mono ?_)
    rintro _ w2 ⟨rfl, u2⟩
    have U2 := Lib.hid u2
    clear u2 HR
    go_wp2_with fail
    (try simp only [Exit.inBlock, Exit.then])
    refine bodyPost_ret (fopen_results _ _) rfl ?_
    rw [E.out]
    exact FOD.no_ (HG.out.nw U2.out) (Nw.upd _ (HN.out.trans U2.out)) rfl rfl
  | true =>
    have e := hdef _ hq
    rw [if_neg (by decide)] at e
    have E := Lib.hid e
    rw [hq] at HR
    clear e hdef hq
    have HO := Lib.hid (fun (y : World) (u : Nw (z.alloc (.cells #[.int .i64 p, .int .i64 zz, .slice a l.length cap] tManU)) y) => open_t (HG0.out.keep (F' := fun k => F k ∨ k = z.heap.size) (HN.out.trans u) (fun k hk => hk.imp id (fun e => by have := HZ.out; have := u.size; omega))) g hf)
    go_enter Tryz.func14, Tryz.ntmps14
    go_wp2_with fail
    (with_reducible refine (HR.out).mono ?_)
    rintro _ w2 ⟨rfl, u2⟩
    have U2 := Lib.hid u2
    have ho := Lib.hid (HO.out w2 u2)
    clear u2 HR HO
    go_wp2_with fail
    (with_reducible refine (ho.out).mono ?_)
    rintro _ w3 ⟨pv, rfl, o3, u3⟩
    have hmv : Moves w F z w3 := (Nw.upd _ (HN.out.trans U2.out)).trans (u3.mono (fun k _ s => ⟨fun e => s.1 (Or.inl e), s.2⟩))
    have hv3 := owns_kept (owns_upd' HV.out (HN.out.trans U2.out) (fun _ _ e => e)) u3 (fun k e => (HVF.out k e).imp Or.inl id)
    have hc3 := (HCS.out.nw (HN.out.trans U2.out)).kept u3 (fun k h1 h2 => (HCF.out k h1 h2).imp Or.inl id)
    have hb3 := u3.keep (HB.out w2 U2.out) (fun s => s.1 (Or.inr rfl))
    have HMV := Lib.hid hmv
    have HV3 := Lib.hid hv3
    have HC3 := Lib.hid hc3
    have HB3 := Lib.hid hb3
    have hoe := Ft.open_err D f
    have O3 := Lib.hid o3
    clear u3 ho hmv hv3 hc3 hb3 o3
    generalize Jr.openJ D f = R at *
    obtain ⟨D', jo, err⟩ := R
    dsimp only at *
    cases jo with
    | none =>
      have he : err ≠ 0 := fun e => by have := hoe.1 e; cases this
      have d2 : (err == 0) = false := by simp [he]
      have d3 : (err != 0) = true := by simp [he]
      obtain ⟨rfl, s3⟩ := O3.out.none_
      have hfin : Hid (FOD w db cs ⟨p, zz, l⟩ (Ft.fopen D f cs ⟨p, zz, l⟩) F z (.returned (.tuple #[.pointer none, .int .i64 err])) w3) := by
        show FOD _ _ _ _ _ _ _ _ _
        rw [E.out, if_pos he]
        exact FOD.no_ (s3.keep (Upd.refl _ _) (fun k hk => Or.inl (Or.inl hk))) HMV.out rfl rfl
      clear he hoe s3 O3 E
      go_wp2_with fail
      (try simp only [Exit.inBlock, Exit.then])
      refine bodyPost_ret (fopen_results _ _) rfl ?_
      exact hfin.out
    | some j =>
      have he : err = 0 := hoe.2 rfl
      subst he
      obtain ⟨jb, rfl, s3⟩ := O3.out.some_
      rw [if_neg (by decide)] at E
      have S3 := Lib.hid s3
      have hg3 := s3.gl g
      have G3 := Lib.hid hg3
      have nd : Nw w3 w3.drew := (Upd.refl _ _).drew
      have cl : ∀ y, Nw w3 y → y.cell? ⟨z.heap.size, 0, none⟩ = some (.int .i64 p) ∧ y.cell? ⟨z.heap.size, 1, none⟩ = some (.int .i64 zz) ∧ y.cell? ⟨z.heap.size, 2, none⟩ = some (.slice a l.length cap) := fun y u => ⟨by rw [cells_cell (Nw.keep u HB3.out)]; rfl, by rw [cells_cell (Nw.keep u HB3.out)]; rfl, by rw [cells_cell (Nw.keep u HB3.out)]; rfl⟩
      have hF : Calls Tryz.prog 40 #[.slice av cs.length cav] w3.drew fun e y => ∃ a2 c2, e = .returned (.slice a2 cs.length c2) ∧ (y.cell? ⟨z.heap.size, 0, none⟩ = some (.int .i64 p) ∧ y.cell? ⟨z.heap.size, 1, none⟩ = some (.int .i64 zz) ∧ y.cell? ⟨z.heap.size, 2, none⟩ = some (.slice a l.length cap)) ∧
          Hid (y.ownsRow w3.heap.size tStrMU 1 (.slice a2 cs.length c2) cs.length (cs.map bsMU) ∧ Nw w3 y) := by
        refine (clone_mU B _ cs _ (hg3.upd nd) (owns_upd' HV3.out nd (fun _ _ e => e)) (by have := HL.out.n; omega)).mono ?_
        rintro e y ⟨v2, rfl, o2, u2⟩
        obtain ⟨a2, c2, rfl⟩ := own_slG o2
        exact ⟨a2, c2, rfl, cl y (nd.trans u2), o2, nd.trans u2⟩
      have HF := Lib.hid hF
      obtain ⟨q0, q1, q2⟩ := cl _ nd
      have CL := Lib.hid cl
      clear hF cl s3 O3 hoe hg3
      go_wp2_with fail
      go_region_held3 (fun y => y.cell? ⟨z.heap.size, 0, none⟩ = some (.int .i64 p) ∧ y.cell? ⟨z.heap.size, 1, none⟩ = some (.int .i64 zz) ∧ y.cell? ⟨z.heap.size, 2, none⟩ = some (.slice a l.length cap)) (first | exact ⟨q0, q1, q2⟩ | assumption | go_keep) (first | (go_at_call 40; (with_reducible refine HF.out.mono ?_); rintro _ y1 ⟨a3, c3, rfl, cy1, HM⟩))
      have hm := HM.out
      have hz1 := hm.2.size
      have na := nw_alloc y1 (.cells #[.pointer (some ⟨jb, 0, none⟩), .slice a3 cs.length c3, .int .i64 p, .int .i64 zz, .slice a l.length cap, .slice none 0 0] tFet)
      have nb := heap_new y1 (.cells #[.pointer (some ⟨jb, 0, none⟩), .slice a3 cs.length c3, .int .i64 p, .int .i64 zz, .slice a l.length cap, .slice none 0 0] tFet)
      obtain ⟨_, _, r2⟩ := CL.out _ (hm.2.trans na)
      have HCl := Lib.hid (clone_i _ _ _ l _ (G3.out.upd (hm.2.trans na)) (HC3.out.nw (hm.2.trans na)) (by omega))
      have NB := Lib.hid nb
      clear cy1 HF q0 q1 q2 nb hm
      go_wp2_with fail
      (with_reducible refine (HCl.out).mono ?_)
      rintro _ w5 ⟨kv, rfl, o5, u5⟩
      obtain ⟨ak, ck, rfl⟩ := own_slG o5
      have kb := u5.keep NB.out
      have r3 := cells_cell kb 4
      simp only [List.getElem?_toArray, List.getElem?_cons_succ, List.getElem?_cons_zero] at r3
      have f3 := cells_frozen kb 4
      rw [World.size_alloc] at o5
      obtain ⟨fa, nw6⟩ := ft_made (jb := jb) (p := p) (zz := zz) (sl := .slice a l.length cap) (by have := G3.out.big; omega) HM.out.2 HM.out.1 u5 o5
      have FA := Lib.hid fa
      have N6 := Lib.hid nw6
      have HAll := Lib.hid (all_t (S3.out.nw nw6) g)
      clear o5 u5 kb fa nw6 NB HCl na
      go_wp2_with fail
      (with_reducible refine (HAll.out).mono ?_)
      rintro _ w7 ⟨v7, rfl, o7, u7⟩
      obtain ⟨a7, c7, rfl⟩ := own_slG o7
      have N7 := Lib.hid (N6.out.trans u7)
      have F7 := Lib.hid (FA.out.nw u7)
      have HO7 := Lib.hid o7
      have hfb1 := FA.out.fb
      have hfb2 := lt_of_block FA.out.blk
      dsimp only at hfb1 hfb2
      have hrl := (by obtain ⟨d', y, _, _, h2⟩ := S3.out.parts; exact h2.jrn.len : j.recs.length ≤ 16777216)
      have hrl1 : (j.recs.length : Int) ≤ 16777216 := by omega
      have HPr := Lib.hid (fun (y : World) (s : List UInt8) (u : Nw w3 y) => cprint_wU _ _ _ cs s y (Sl.of_owns (owns_upd' HV3.out u (fun _ _ e => e))) HL.out.n)
      have HCo := Lib.hid (fun (y : World) (q : Int) (u : Nw w3 y) => contains_iN _ _ _ l q y (HC3.out.nw u) (by omega))
      have F70 : Hid (∃ x : FtR, x.fb = y1.heap.size ∧ x.jb = jb ∧ (∀ k, x.ov.ownBlock = some k → w7.heap.size ≤ k) ∧ FtAt w3.heap.size w7 x cs ⟨p, zz, l⟩ (comeN cs j.recs 0)) := ⟨_, rfl, rfl, (fun k e => by cases e), F7.out⟩
      clear o7 u7 HAll FA F7 N6 r2 HM r3 f3 hz1
      generalize y1.heap.size = fb at *
      go_wp2_with fail
      go_loopw [45] (fun iv wr => ∃ n : Nat, n ≤ j.recs.length ∧ iv = .int .i64 (n : Int) ∧ Hid (∃ x : FtR, x.fb = fb ∧ x.jb = jb ∧ (∀ k, x.ov.ownBlock = some k → w7.heap.size ≤ k) ∧ FtAt w3.heap.size wr x cs ⟨p, zz, l⟩ (comeN cs j.recs n)) ∧ Hid (∀ q ∈ comeN cs j.recs n, q ∈ l) ∧ Hid (Upd (fun k => k = fb) w7 wr)) (fun iv _ => j.recs.length - (intOf iv).toNat)
      case atStart => exact ⟨0, Nat.zero_le _, rfl, F70, (fun q hq => by unfold comeN at hq; simp at hq), Upd.refl _ _⟩
      case round =>
        obtain ⟨n, hn, rfl, FX, HA, U⟩ := hrel
        by_cases hlt : n < j.recs.length
        · have HN7 : Nw w3 wr := N7.out.trans' U.out (fun k hk e => by omega)
          rcases strs_cellsU (Sl.of_owns (owns_upd' HO7.out U.out (fun k e s => by have := (HO7.out.lt k e).1; omega))) with ⟨_, _, e, hnil | ⟨b, off, e2, hcell⟩⟩
          · simp [hnil] at hlt
          injection e with e3 e4 e5
          subst e3 e5
          subst e2
          have c0 : wr.cell? ⟨b, off + n, none⟩ = some (.string ⟨j.recs[n].toArray⟩) := hcell n hlt
          have hlt1 : (n : Int) < j.recs.length := by omega
          have hct := comeN_succ (cs := cs) hlt
          have Hct := Lib.hid hct
          have NW : Nw w3 wr := HN7
          have hp2 := Lib.hid (HPr.out wr j.recs[n] NW)
          have hNW := Lib.hid NW
          clear hcell hct
          have hpd : Ft.prOf cs j.recs[n] = idxI (fun x => decide (x = j.recs[n])) cs := rfl
          rw [← hpd] at hp2
          have hmem : j.recs[n] ∈ j.recs := List.getElem_mem hlt
          have HMem : Hid (Ft.prOf cs j.recs[n] ∉ l → Ft.fitsJ cs ⟨p, zz, l⟩ j = false) := fun hno => by
            cases hc : Ft.fitsJ cs ⟨p, zz, l⟩ j with
            | false => rfl
            | true =>
              unfold Ft.fitsJ Ft.come at hc
              rw [List.all_eq_true] at hc
              exact absurd (of_decide_eq_true (hc _ (List.mem_map.2 ⟨_, hmem, rfl⟩))) hno
          clear hpd hmem
          generalize Ft.prOf cs j.recs[n] = q at *
          generalize j.recs[n] = s at *
          go_wp2_with fail
          (with_reducible refine (hp2.out).mono ?_)
          rintro _ w8 ⟨rfl, u8⟩
          have N8 := Lib.hid (hNW.out.trans u8)
          have U8 := Lib.hid (U.out.nw u8)
          have HU8 := Lib.hid u8
          obtain ⟨_, _, r2⟩ := CL.out w8 N8.out
          have hy := Lib.hid (HCo.out w8 q N8.out)
          clear u8 hp2 c0 NW
          by_cases hin : q ∈ l
          · rw [decide_eq_true hin] at hy
            obtain ⟨x, hx1, hx2, hx3, fx⟩ := FX.out
            subst hx1
            have HX3 := Lib.hid hx3
            clear hx3
            have HIN := Lib.hid hin
            have FX8 := Lib.hid (fx.nw HU8.out)
            have hov := own_slG fx.oo
            clear hin fx FX
            go_wp2_with fail
            (with_reducible refine (hy.out).mono ?_)
            rintro _ w9 ⟨rfl, u9⟩
            have N9 := Lib.hid (N8.out.trans u9)
            have U9 := Lib.hid (U8.out.nw u9)
            have FX9 := Lib.hid (FX8.out.nw u9)
            obtain ⟨ao, co, hov⟩ := hov
            rw [comeN_len (Nat.le_of_lt hlt)] at hov
            have h5 := FX9.out.cells.2.2.2.2.2
            rw [hov] at h5
            have HO : Hid (w9.ownsRow w3.heap.size 3 1 (.slice ao n co) n ((comeN cs j.recs n).map intD)) := by
              have := FX9.out.oo
              rw [hov, comeN_len (Nat.le_of_lt hlt)] at this
              exact this
            have hz9 : w3.heap.size ≤ w9.heap.size := N9.out.size
            have hgw := FX9.out.hb
            have HOV := Lib.hid hov
            clear hov hy u9 FX8 HCo HPr
            go_wp2_with (at_builtin; refine wpList_appL rfl _ _ 26 rfl w3.heap.size 3 _ 1 8 Tryz.underlying26 infoIntU rfl (by decide) _ _ _ rfl HO.out [.int .i64 q] rfl rfl ?c1 ?c2 ?c3 hz9 hgw ?_)
            case c1 => intro u hu; rw [List.mem_singleton.1 hu]; rfl
            case c2 => unfold maxLen; omega
            case c3 => omega
            intro v' w10 o10 u10 hob
            obtain ⟨a10, c10, rfl⟩ := own_slG o10
            rw [← HOV.out] at u10 hob
            have hne : x.ov.ownBlock ≠ some x.fb := fun e => by
              obtain ⟨_, c, hc⟩ := own_block FX9.out.oo e
              rw [FX9.out.blk] at hc
              injection hc with hc
              injection hc with _ hc
              exact absurd hc (by decide)
            have kb := u10.keep FX9.out.blk hne
            have q1 := cells_cell kb 5
            have q2 := cells_frozen kb 5
            simp only [List.getElem?_toArray, List.getElem?_cons_succ, List.getElem?_cons_zero] at q1
            have hlen : (comeN cs j.recs n).length = n := comeN_len (Nat.le_of_lt hlt)
            obtain ⟨g1, g2, g3⟩ := FX9.out.more (p := q) (v' := .slice a10 (n + 1) c10) (by rw [hlen]; exact o10) u10 hob
            have hfx : Hid (∃ y : FtR, y.fb = x.fb ∧ y.jb = jb ∧ (∀ k, y.ov.ownBlock = some k → w7.heap.size ≤ k) ∧ FtAt w3.heap.size (w10.setCell ⟨x.fb, 5, none⟩ (.slice a10 (n + 1) c10)) y cs ⟨p, zz, l⟩ (comeN cs j.recs (n + 1))) := ⟨{ x with ov := .slice a10 (n + 1) c10 }, rfl, hx2, (fun k e => (hob k e).elim (HX3.out k) (fun h => by have := U9.out.size; omega)), by rw [Hct.out]; exact g1⟩
            have hA : Hid (∀ r ∈ comeN cs j.recs (n + 1), r ∈ l) := fun r hr => by
              rw [Hct.out] at hr
              rcases List.mem_append.1 hr with hr | hr
              · exact HA.out r hr
              · rw [List.mem_singleton.1 hr]; exact HIN.out
            have hU := Lib.hid (U9.out.trans' g2 (fun k hk e => e.elim id (fun e => by have := HX3.out k e; omega)))
            clear o10 u10 hob kb hne g1 g2 g3 hlen hx2
            go_wp2_with fail
            go_roundw
            case rel => exact ⟨n + 1, by omega, by go_num, hfx, hA, hU⟩
            case measure => simp [intOf]; omega
          · rw [decide_eq_false hin] at hy
            have hfin : Hid (∀ y, Nw w3 y → FOD w db cs ⟨p, zz, l⟩ (Ft.fopen D f cs ⟨p, zz, l⟩) F z (.returned (.tuple #[.pointer none, .int .i64 28])) y) := fun y u => by
              rw [E.out]
              simp only [HMem.out hin, Bool.false_eq_true, if_false]
              exact FOD.no_ (R := (D', none, 28)) ((S3.out.keep (Upd.refl _ _) (fun k hk => Or.inl (Or.inl hk))).nw u) (HMV.out.nw u) rfl rfl
            clear FX HA E S3 HMem hin HCo HPr
            go_wp2_with fail
            (with_reducible refine (hy.out).mono ?_)
            rintro _ w9 ⟨rfl, u9⟩
            have N9 := Lib.hid (N8.out.trans u9)
            clear hy u9
            go_wp2_with fail
            (try simp only [Exit.inBlock, Exit.then])
            refine bodyPost_ret (fopen_results _ _) rfl ?_
            exact hfin.out _ N9.out
        · obtain rfl : n = j.recs.length := by omega
          obtain ⟨x, hx1, hx2, _, fx⟩ := FX.out
          rw [comeN_all] at fx
          have hall : Ft.fitsJ cs ⟨p, zz, l⟩ j = true := by
            have h := HA.out
            rw [comeN_all] at h
            unfold Ft.fitsJ
            rw [List.all_eq_true]
            exact fun q hq => decide_eq_true (h q hq)
          have hfin : Hid (FOD w db cs ⟨p, zz, l⟩ (Ft.fopen D f cs ⟨p, zz, l⟩) F z (.returned (.tuple #[.pointer (some ⟨fb, 0, none⟩), .int .i64 0])) wr) := by
            show FOD _ _ _ _ _ _ _ _ _
            rw [E.out]
            simp only [hall, if_true]
            rw [← hx1]
            exact FOD.yes (R := (D', some j, 0)) (S3.out.keep (Upd.refl _ _) (fun k hk => Or.inl (Or.inl hk))) HMV.out (N7.out.trans' U.out (fun k hk e => by omega)) fx hx2 rfl rfl
          clear fx hx1 hx2 hall FX HA E S3
          go_wp2_with fail
          (try simp only [Exit.inBlock, Exit.then])
          refine bodyPost_ret (fopen_results _ _) rfl ?_
          exact hfin.out
end
end Go.Proofs.YtmlmdlbepppnlaaGreatDoor
