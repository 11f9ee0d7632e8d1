/- The contracts of the view's Clash, and of what the statements' helpers do: Words, Turned, Few, signed. Layer 7 in plain words: what a book signs is true of it, and does not contradict itself. No program stands in this text. Layer 7 in plain words: what a book of given entries answers, for BookSays. No program stands in this text. Layer 8 in plain words, for ViewBook: what a book signs is accepted, and what the view then says is true of the book. No program stands in this text. A ring, books that sign into it, and views of the ring, side by side: what each call leaves of them. What the statements of layer 8 let keys sign, in plain words. No program stands in this text. The contracts of what the statements' helpers do: Words, Turned, Few, signed. Honest views: all that they have accepted was signed by one book. What a meeting does with them, in plain words and in memory. Layer 37 in plain words: mirrors, what they are fed, what they answer, and what Ask makes of answers. No program stands in this text. Layer 37 in plain words: the documentation's example. No program stands in this text. Layer 37 in plain words: acts that happen with a book and mirrors; what is true of all of it. No program stands in this text. Layer 37 in plain words: what MirrorModes and MirrorBound say. No program stands in this text. Rings, books, views and mirrors side by side: what each call of layers 7 and 8 leaves of them, wherever they stand. A mirror in memory. -/
import Derived.Test.YtagmlemlagbfkaaGreatDoorPkMTells11
import Derived.Test.YtagmlemlagbfkaaGreatDoorPkMTells13
import Derived.Test.YtagmlemlagbfkaaGreatDoorPkMTells6
import Derived.Test.YtagmlemlagbfkaaGreatDoorPkMTells7
import Derived.Test.YtagmlemlagbfkaaGreatDoorPkMTells0
import Derived.Deep.RegionHeldLaw
import Derived.Test.YtagmlemlagbfkaaGreatDoorPkMTells4
import Derived.Test.YtagmlemlagbfkaaGreatDoorPkMTells8
import Derived.Test.YtagmlemlagbfkaaGreatDoorPkMTells10
namespace Go.Proofs.YtagmlemlagbfkaaGreatDoor
open Go.RowKit
set_option linter.unusedVariables false
set_option linter.unusedSimpArgs false
attribute [local irreducible] Calls

theorem clash_results {w : World} {bp : Nat} {tmps : Array Value} {v0 v1 v2 : Value} {T : TypeId} {fz : Nat × Nat} (h : w.heap[bp]? = some (.cells #[v0, v1, v2] T fz)) (ht : tmps.getD 4 undef = .pointer (some ⟨bp, 0, none⟩)) :
    (results Tryz.f92 tmps).run Tryz.prog w = .ok (.tuple #[.agg #[v0, v1, v2], tmps.getD 5 undef]) w := by
  have c0 : w.cell? ⟨bp, 0, none⟩ = some v0 := by rw [cells_cell h]; rfl
  have c1 : w.cell? ⟨bp, 1, none⟩ = some v1 := by rw [cells_cell h]; rfl
  have c2 : w.cell? ⟨bp, 2, none⟩ = some v2 := by rw [cells_cell h]; rfl
  clear h
  have ht2 : tmps[4]?.getD undef = .pointer (some ⟨bp, 0, none⟩) := by simpa using ht
  clear ht
  simp [results, Tryz.results92, go_sem, ht2, c0, c1, c2]
theorem idx_find {α β : Type} (p : β → Bool) (f : α → β) (L : List α) : (idxI p (L.map f) = -1 ∧ L.find? (fun x => p (f x)) = none) ∨ ∃ n : Nat, ∃ h : n < L.length, idxI p (L.map f) = n ∧ L.find? (fun x => p (f x)) = some L[n] := by
  unfold idxI
  cases h : (L.map f).findIdx? p with
  | none =>
    refine Or.inl ⟨rfl, ?_⟩
    rw [List.find?_eq_none]
    intro x hx
    have := List.findIdx?_eq_none_iff.1 h (f x) (List.mem_map.2 ⟨x, hx, rfl⟩)
    simpa using this
  | some n =>
    obtain ⟨hn, hp, hno⟩ := List.findIdx?_eq_some_iff_getElem.1 h
    have hn' : n < L.length := by simpa using hn
    refine Or.inr ⟨n, hn', rfl, ?_⟩
    rw [List.find?_eq_some_iff_getElem]
    refine ⟨by simpa using hp, n, hn', rfl, fun j hj => ?_⟩
    have := hno j hj
    simpa using this
set_option maxHeartbeats 2000000 in
set_option maxRecDepth 100000 in
theorem clash_v (B : Nat) (r : ViewR) (rb : Nat) (key : Int) (L : List Bk.Sgn) (s : Bk.Sgn) (w : World) (g : Gl w) (h : ViewAt B w r rb key L) (hlog : ∀ s ∈ L, Vw.isLog s.text = true) (hs : SgnOk s) (hL : L.length ≤ 900000) :
    Calls Tryz.prog 92 #[.pointer (some ⟨r.vb, 0, none⟩), .agg #[.int .i64 s.key, .string ⟨s.text.toArray⟩, .int .i64 s.mark]] w fun e w' => e = .returned (.tuple #[sgnV (Vw.clash L s).1, .bool (Vw.clash L s).2]) ∧ Nw w w' := by
  have hgb := g.big
  have HL : Hid (L.length ≤ 900000) := hL
  clear hL
  have n1 := nw_alloc w (.cells #[.int .i64 s.key, .string ⟨s.text.toArray⟩, .int .i64 s.mark] tSigned)
  have k1 := heap_new w (.cells #[.int .i64 s.key, .string ⟨s.text.toArray⟩, .int .i64 s.mark] tSigned)
  have s1 : (w.alloc (.cells #[.int .i64 s.key, .string ⟨s.text.toArray⟩, .int .i64 s.mark] tSigned)).heap.size = w.heap.size + 1 := by simp
  have n2 := nw_alloc (w.alloc (.cells #[.int .i64 s.key, .string ⟨s.text.toArray⟩, .int .i64 s.mark] tSigned)) (.cells #[.int .i64 0, .string ⟨#[]⟩, .int .i64 0] tSigned)
  have k2 := heap_new (w.alloc (.cells #[.int .i64 s.key, .string ⟨s.text.toArray⟩, .int .i64 s.mark] tSigned)) (.cells #[.int .i64 0, .string ⟨#[]⟩, .int .i64 0] tSigned)
  replace k1 := n2.keep k1
  rw [s1] at k2
  have u2 := n1.trans n2
  generalize hW : (w.alloc (.cells #[.int .i64 s.key, .string ⟨s.text.toArray⟩, .int .i64 s.mark] tSigned)).alloc (.cells #[.int .i64 0, .string ⟨#[]⟩, .int .i64 0] tSigned) = W at *
  have HW := Lib.hid hW
  obtain ⟨c0, c1, c2⟩ := cell3 k1
  have K2 := Lib.hid k2
  have hrd := read_c ⟨s.text.toArray⟩ s.text (bs_list _) (Nat.le_trans hs.t (by decide)) W (g.upd u2)
  have hic := read_i64 s.text
  have Hcl := Lib.hid (show Vw.clash L s = _ from rfl)
  unfold Vw.clash at Hcl
  have hcx : Hid (Vw.clash L s = if (Cl.read s.text).2 = false then (Bk.noSgn, false) else match L.find? (fun x => Cl.contra (Vw.claimOf x) (Cl.read s.text).1) with | some x => (x, true) | none => (Bk.noSgn, false)) := by show _ = _; rfl
  obtain ⟨c, ok, hc⟩ : ∃ c ok, Cl.read s.text = (c, ok) := ⟨_, _, rfl⟩
  rw [hc] at hrd hic
  have hcx' := hcx.out
  rw [hc] at hcx'
  have Hcx := Lib.hid hcx'
  unfold clmV errV at hrd
  dsimp only at hrd hic
  have Hrd := Lib.hid hrd
  clear hcx hcx' hc hrd n1 s1 n2 k1 k2 hW Hcl
  have q : ∀ (z : World) (v0 v1 v2 : Value), Nw W z → Nw w (((z.setCell ⟨w.heap.size + 1, 0, none⟩ v0).setCell ⟨w.heap.size + 1, 1, none⟩ v1).setCell ⟨w.heap.size + 1, 2, none⟩ v2) := fun z v0 v1 v2 u =>
    set3_upd (S := fun _ => False) (u2.trans u) (by omega) (by omega) v0 v1 v2
  have Hq := Lib.hid q
  clear q
  go_enter Tryz.func92, Tryz.ntmps92
  go_wp2_with fail
  rw [HW.out]
  go_wp2_with fail
  (with_reducible refine (Hrd.out).mono ?_)
  rintro _ w3 ⟨rfl, u3⟩
  cases ok with
  | false =>
    have hx : Hid (Vw.clash L s = (Bk.noSgn, false)) := by show _ = _; rw [Hcx.out]; rfl
    have k3 := Nw.keep (u3.alloc (.cells #[.int .i64 c.kind, .int .i64 c.n, .int .i64 c.time, .string ⟨c.text.toArray⟩] tC)) K2.out
    have f0 := cells_frozen k3 0
    have f1 := cells_frozen k3 1
    have f2 := cells_frozen k3 2
    obtain ⟨_, _, _⟩ := cell3 k3
    have K3 := Lib.hid k3
    clear k3
    go_wp2_with fail
    (try simp only [Exit.inBlock, Exit.then])
    exact bodyPost_ret (clash_results (set3 K3.out) rfl) rfl ⟨by rw [hx.out]; rfl, Hq.out _ _ _ _ (u3.alloc _)⟩
  | true =>
  have u4 := u3.alloc (.cells #[.int .i64 c.kind, .int .i64 c.n, .int .i64 c.time, .string ⟨c.text.toArray⟩] tC)
  have kb := heap_new w3 (.cells #[.int .i64 c.kind, .int .i64 c.n, .int .i64 c.time, .string ⟨c.text.toArray⟩] tC)
  have x3 := (h.nw (u2.trans u4)).cells.2.2.2.1
  have X3 := x3
  generalize hW4 : w3.alloc (.cells #[.int .i64 c.kind, .int .i64 c.n, .int .i64 c.time, .string ⟨c.text.toArray⟩] tC) = W4 at *
  have HW4 := Lib.hid hW4
  rw [← hW4] at X3
  have k4 := Nw.keep u4 K2.out
  have u4' := u2.trans u4
  have h4 := h.nw u4'
  obtain ⟨_, _, _, _, _, _, _, _⟩ := h4.cells
  have hif := indexFunc_v 144 w3.heap.size (enters_of Tryz.func144 (by kernel_rfl) rfl) (fun x => Cl.contra x c) B W4.heap.size r.cv (L.map Vw.claimOf) W4 (clm_sls h4.cown) (by rw [List.length_map]; have := HL.out; omega)
    (fun W' x u' hx => pred_l x c (by obtain ⟨y, hy, rfl⟩ := List.mem_map.1 hx; exact (log_bounds (hlog y hy)).1) hic w3.heap.size W' ((g.upd u4').upd u') (u'.keep kb))
  have hfd := idx_find (fun x => Cl.contra x c) Vw.claimOf L
  have Hfd := Lib.hid hfd
  clear hfd hW4
  generalize idxI (fun x => Cl.contra x c) (L.map Vw.claimOf) = m at *
  have Hif := Lib.hid hif
  clear hif hlog
  have K4 := Lib.hid k4
  clear k4
  go_wp2_with fail
  rw [HW4.out]
  (with_reducible refine (Hif.out).mono ?_)
  rintro _ w5 ⟨rfl, u5⟩
  rcases Hfd.out with ⟨hm, hf⟩ | ⟨n, hn, hm, hf⟩
  · have hx : Hid (Vw.clash L s = (Bk.noSgn, false)) := by show _ = _; rw [Hcx.out, if_neg (by simp), hf]
    subst hm
    have k5 := u5.keep K4.out
    have f0 := cells_frozen k5 0
    have f1 := cells_frozen k5 1
    have f2 := cells_frozen k5 2
    obtain ⟨_, _, _⟩ := cell3 k5
    have K5 := Lib.hid k5
    clear k5
    go_wp2_with fail
    (try simp only [Exit.inBlock, Exit.then])
    exact bodyPost_ret (clash_results (set3 K5.out) rfl) rfl ⟨by rw [hx.out]; rfl, Hq.out _ _ _ _ (u4.trans u5)⟩
  · have hx : Hid (Vw.clash L s = (L[n], true)) := by show _ = _; rw [Hcx.out, if_neg (by simp), hf]
    subst hm
    have h5 := h4.nw u5
    obtain ⟨a, cap, hsv, hmm, ha⟩ := sgn_cells (sgn_sls h5.sown)
    rcases ha with hnil | ⟨b, o, rfl, _, hb, hcc⟩
    · simp [hnil] at hn
    obtain ⟨d0, d1, d2⟩ := hcc n hn
    obtain ⟨_, _, c2', _⟩ := h5.cells
    rw [hsv] at c2'
    have k5 := u5.keep K4.out
    have f0 := cells_frozen k5 0
    have f1 := cells_frozen k5 1
    have f2 := cells_frozen k5 2
    obtain ⟨_, _, _⟩ := cell3 k5
    have K5 := Lib.hid k5
    clear k5 hcc h5 h4 hsv
    generalize L[n] = x at *
    have hn63 := HL.out
    go_wp2_with fail
    (try simp only [Exit.inBlock, Exit.then])
    exact bodyPost_ret (clash_results (set3 K5.out) rfl) rfl ⟨by rw [hx.out]; rfl, Hq.out _ _ _ _ (u4.trans u5)⟩
end Go.Proofs.YtagmlemlagbfkaaGreatDoor
namespace Go.Proofs.YtagmlemlagbfkaaGreatDoor.Bk
open Go.Lib Go.RowKit
open Cl (Clm right text entryC absentB contra)
set_option linter.unusedVariables false
set_option linter.unusedSimpArgs false

inductive Tru (b : Book) : Clm → Prop where
  | entry (i : Nat) (h : i < b.es.length) : Tru b (entryC b.es i)
  | size (n t : Int) (h1 : t ≤ b.last) (h2 : n ≤ b.told) (h3 : t = b.last → n = b.told) : Tru b ⟨1, n, t, []⟩
  | absent (n : Nat) (k : List UInt8) (hn : n ≤ b.es.length) (h : absentB b.es n k = true) : Tru b ⟨2, n, 0, k⟩
structure Hon (key : Int) (x : St) : Prop where
  own : x.b.key = key
  keyed : ∀ t ∈ x.b.es, (Cl.key t).2 = true ∧ t.length ≤ 20000
  len : x.b.es.length ≤ 200000
  told : x.b.told ≤ x.b.es.length
  all : ∀ e ∈ x.L, e.key = key → ∃ c, right c = true ∧ text c = e.text ∧ Tru x.b c
  sizes : ∀ n t n' t', right ⟨1, n, t, []⟩ = true → right ⟨1, n', t', []⟩ = true → (⟨key, text ⟨1, n, t, []⟩⟩ : Seal) ∈ x.L → (⟨key, text ⟨1, n', t', []⟩⟩ : Seal) ∈ x.L → t ≤ t' → n ≤ n'
theorem mem_sign {L : List Seal} {k : Int} {t : List UInt8} {e : Seal} (h : e ∈ (sign L k t).2) : e ∈ L ∨ e = ⟨k, t⟩ := by
  unfold sign at h
  split at h
  · split at h
    · exact Or.inl h
    · simpa using h
  · exact Or.inl h
theorem hon_new (key : Int) : Hon key ⟨[], new key⟩ :=
  ⟨rfl, by simp [new], by simp [new], by simp [new], by simp, by simp⟩
theorem Hon.tru {key : Int} {x : St} (h : Hon key x) {c : Clm} (hr : right c = true) (hm : (⟨key, text c⟩ : Seal) ∈ x.L) : Tru x.b c := by
  obtain ⟨d, h1, h2, h3⟩ := h.all _ hm rfl
  rw [← (Cl.text_inj h1).1 h2]; exact h3
/-- The book's own signature, that is no size. -/
theorem hon_sign {key : Int} {x : St} {c : Clm} (h : Hon key x) (hr : right c = true) (ht : Tru x.b c) (hk : ¬ c.kind = 1) : Hon key ⟨(signC x.L x.b c).2, x.b⟩ := by
  have hm : ∀ n t, right ⟨1, n, t, []⟩ = true → (⟨key, text ⟨1, n, t, []⟩⟩ : Seal) ∈ (signC x.L x.b c).2 → (⟨key, text ⟨1, n, t, []⟩⟩ : Seal) ∈ x.L := fun n t hrr he => by
    rcases mem_sign he with h1 | h1
    · exact h1
    · injection h1 with _ h2
      have := (Cl.text_inj hrr).1 h2
      subst this
      exact absurd rfl hk
  refine ⟨h.own, h.keyed, h.len, h.told, fun e he hek => ?_, fun n t n' t' a b c d => h.sizes n t n' t' a b (hm _ _ a c) (hm _ _ b d)⟩
  rcases mem_sign he with h1 | h1
  · exact h.all e h1 hek
  · subst h1; exact ⟨c, hr, rfl, ht⟩
theorem hon_head {key : Int} {x : St} (h : Hon key x) (now : Int) : Hon key ⟨(head x.L x.b now).2.1, (head x.L x.b now).2.2⟩ := by
  unfold head
  split
  · exact h
  · rename_i h1
    split
    · exact h
    · rename_i h2
      have hl := h.len
      have htold := h.told
      have hr : right ⟨1, x.b.es.length, now, []⟩ = true := by
        simp [right, Cl.within]; omega
      have up : ∀ c, Tru x.b c → Tru { x.b with last := now, told := x.b.es.length } c := fun c hc => by
        cases hc with
        | entry i hi => exact .entry (b := { x.b with last := now, told := x.b.es.length }) i hi
        | size n t h3 h4 h5 => exact .size (b := { x.b with last := now, told := x.b.es.length }) n t (by show t ≤ now; omega) (by show n ≤ (x.b.es.length : Int); omega) (fun e => by
            have e' : t = now := e
            show n = (x.b.es.length : Int)
            by_cases e2 : x.b.last = now
            · have := h5 (by omega)
              have : x.b.told = (x.b.es.length : Int) := by
                by_cases e3 : x.b.told = (x.b.es.length : Int)
                · exact e3
                · exact absurd (Or.inr ⟨e2, e3⟩) h2
              omega
            · omega)
        | absent n k hn ha => exact .absent (b := { x.b with last := now, told := x.b.es.length }) n k hn ha
      have own : ∀ n t, right ⟨1, n, t, []⟩ = true → (⟨key, text ⟨1, n, t, []⟩⟩ : Seal) ∈ (signC x.L x.b ⟨1, x.b.es.length, now, []⟩).2 → (⟨key, text ⟨1, n, t, []⟩⟩ : Seal) ∈ x.L ∨ (n = x.b.es.length ∧ t = now) := fun n t hrr he => by
        rcases mem_sign he with h3 | h3
        · exact Or.inl h3
        · injection h3 with _ h4
          have := (Cl.text_inj hrr).1 h4
          injection this with _ h5 h6 _
          exact Or.inr ⟨h5, h6⟩
      have siz : ∀ n t, right ⟨1, n, t, []⟩ = true → (⟨key, text ⟨1, n, t, []⟩⟩ : Seal) ∈ x.L → t ≤ x.b.last ∧ n ≤ x.b.told ∧ (t = x.b.last → n = x.b.told) := fun n t hrr he => by
        have := h.tru hrr he
        generalize hc : (⟨1, n, t, []⟩ : Clm) = c at this
        cases this with
        | entry i hi => cases hc
        | size n' t' h3 h4 h5 => injection hc with _ e1 e2 _; subst e1; subst e2; exact ⟨h3, h4, h5⟩
        | absent n' k hn ha => cases hc
      refine ⟨h.own, h.keyed, h.len, Int.le_refl _, fun e he hek => ?_, fun n t n' t' a b c d hle => ?_⟩
      · rcases mem_sign he with h3 | h3
        · obtain ⟨d, hd1, hd2, hd3⟩ := h.all e h3 hek
          exact ⟨d, hd1, hd2, up d hd3⟩
        · subst h3
          exact ⟨_, hr, rfl, .size (b := { x.b with last := now, told := x.b.es.length }) _ _ (Int.le_refl _) (Int.le_refl _) (fun _ => rfl)⟩
      · rcases own n t a c with c1 | ⟨c1, c2⟩
        · rcases own n' t' b d with d1 | ⟨d1, d2⟩
          · exact h.sizes n t n' t' a b c1 d1 hle
          · have := (siz n t a c1).2.1; omega
        · rcases own n' t' b d with d1 | ⟨d1, d2⟩
          · obtain ⟨s1, s2, s3⟩ := siz n' t' b d1
            have e1 : t' = x.b.last := by omega
            have e2 : x.b.last = now := by omega
            have := s3 e1
            have : x.b.told = (x.b.es.length : Int) := by
              by_cases e3 : x.b.told = (x.b.es.length : Int)
              · exact e3
              · exact absurd (Or.inr ⟨e2, e3⟩) h2
            omega
          · omega
theorem hon_append {key : Int} {x : St} (h : Hon key x) (t : List UInt8) : Hon key ⟨x.L, (append x.b t).2⟩ := by
  unfold append
  split
  · exact h
  · rename_i h1
    split
    · exact h
    · rename_i h2
      split
      · exact h
      · rename_i h3
        have hl := h.len
        have htold := h.told
        have h1' : (Cl.key t).2 = true := by simpa using h1
        have up : ∀ c, Tru x.b c → Tru { x.b with es := x.b.es ++ [t] } c := fun c hc => by
          cases hc with
          | entry i hi =>
            have e : entryC x.b.es i = entryC (x.b.es ++ [t]) i := by
              simp [entryC, List.getElem?_append, hi]
            rw [e]
            exact .entry (b := { x.b with es := x.b.es ++ [t] }) i (by simp; omega)
          | size n t' h3 h4 h5 => exact .size (b := { x.b with es := x.b.es ++ [t] }) n t' h3 h4 h5
          | absent n k hn ha => exact .absent (b := { x.b with es := x.b.es ++ [t] }) n k (by simp; omega) (by
              show absentB (x.b.es ++ [t]) n k = true
              unfold absentB at ha ⊢
              rw [List.take_append_of_le_length hn]
              exact ha)
        refine ⟨h.own, fun s hs => ?_, by simp; omega, by simp; omega, fun e he hek => ?_, h.sizes⟩
        · rcases List.mem_append.1 hs with hs | hs
          · exact h.keyed s hs
          · rw [List.mem_singleton] at hs; subst hs; exact ⟨h1', by omega⟩
        · obtain ⟨d, hd1, hd2, hd3⟩ := h.all e he hek
          exact ⟨d, hd1, hd2, up d hd3⟩
theorem hon_entry {key : Int} {x : St} (h : Hon key x) (i : Int) : Hon key ⟨(entry x.L x.b i).2, x.b⟩ := by
  unfold entry
  split
  · exact h
  · rename_i hi
    have hl := h.len
    have hlt : i.toNat < x.b.es.length := by omega
    have e : (⟨0, i, 0, x.b.es.getD i.toNat []⟩ : Clm) = entryC x.b.es i.toNat := by
      unfold entryC
      rw [Int.toNat_of_nonneg (by omega)]
    rw [e]
    refine hon_sign h ?_ (.entry _ hlt) (by simp [entryC])
    obtain ⟨h1, h2⟩ := h.keyed x.b.es[i.toNat] (List.getElem_mem hlt)
    simp [right, entryC, hlt, Cl.within, h1, h2]
    omega
theorem hon_absent {key : Int} {x : St} (h : Hon key x) (k : List UInt8) (n : Int) : Hon key ⟨(absent x.L x.b k n).2, x.b⟩ := by
  unfold absent
  split
  · exact h
  · rename_i hi
    split
    · exact h
    · rename_i ha
      have hl := h.len
      have ha' : absentB x.b.es n.toNat k = true := by simpa using ha
      have hn : ((n.toNat : Nat) : Int) = n := Int.toNat_of_nonneg (by omega)
      have ht : Tru x.b ⟨2, (n.toNat : Int), 0, k⟩ := .absent n.toNat k (by omega) ha'
      rw [hn] at ht
      refine hon_sign h ?_ ht (by simp)
      simp [right, Cl.within]
      omega
/-- Two claims that the book's key signed do not contradict each other. -/
theorem hon_no {key : Int} {x : St} (h : Hon key x) {c d : Clm} (hc : right c = true) (hd : right d = true) (mc : (⟨key, text c⟩ : Seal) ∈ x.L) (md : (⟨key, text d⟩ : Seal) ∈ x.L) : contra c d = false := by
  rw [← Bool.not_eq_true, Cl.contra_iff]
  rintro ⟨_, _, hb⟩
  have tc := h.tru hc mc
  have td := h.tru hd md
  cases tc with
  | entry i hi =>
    cases td with
    | entry k hk =>
      rcases hb with ⟨h1, h2, h3⟩ | ⟨h1, h2, h3⟩ | ⟨h1, h2, h3⟩ | ⟨h1, h2, h3, h4⟩ | ⟨h1, h2, h3, h4, h5⟩
      · cases h2
      · cases h1
      · cases h1
      · cases h1
      · have h6 : (i : Int) = (k : Int) := h3
        have h7 : i = k := by omega
        rw [h7] at h5
        exact h5 rfl
    | size n t _ _ _ => rcases hb with ⟨h1, h2, h3⟩ | ⟨h1, h2, h3⟩ | ⟨h1, h2, h3⟩ | ⟨h1, h2, h3, h4⟩ | ⟨h1, h2, h3, h4, h5⟩ <;> first | (cases h1; done) | cases h2
    | absent n k hn hk =>
      rcases hb with ⟨h1, h2, h3⟩ | ⟨h1, h2, h3⟩ | ⟨h1, h2, h3⟩ | ⟨h1, h2, h3, h4⟩ | ⟨h1, h2, h3, h4, h5⟩
      · rw [Cl.refutes_false hi hk] at h3; cases h3
      · cases h1
      · cases h1
      · cases h1
      · cases h1
  | size n t a1 a2 a3 =>
    cases td with
    | entry k hk => rcases hb with ⟨h1, h2, h3⟩ | ⟨h1, h2, h3⟩ | ⟨h1, h2, h3⟩ | ⟨h1, h2, h3, h4⟩ | ⟨h1, h2, h3, h4, h5⟩ <;> first | (cases h1; done) | cases h2
    | size n' t' b1 b2 b3 =>
      rcases hb with ⟨h1, h2, h3⟩ | ⟨h1, h2, h3⟩ | ⟨h1, h2, h3⟩ | ⟨h1, h2, h3, h4⟩ | ⟨h1, h2, h3, h4, h5⟩
      · cases h1
      · cases h1
      · have h3' : (t = t' ∧ ¬ n = n') ∨ (t < t' ∧ n' < n) ∨ (t' < t ∧ n < n') := h3
        have s1 := h.sizes n t n' t' hc hd mc md
        have s2 := h.sizes n' t' n t hd hc md mc
        omega
      · cases h1
      · rcases h2 with h2 | h2 <;> cases h2
    | absent n k hn hk => rcases hb with ⟨h1, h2, h3⟩ | ⟨h1, h2, h3⟩ | ⟨h1, h2, h3⟩ | ⟨h1, h2, h3, h4⟩ | ⟨h1, h2, h3, h4, h5⟩ <;> first | (cases h1; done) | cases h2
  | absent n k hn hk =>
    cases td with
    | entry i hi =>
      rcases hb with ⟨h1, h2, h3⟩ | ⟨h1, h2, h3⟩ | ⟨h1, h2, h3⟩ | ⟨h1, h2, h3, h4⟩ | ⟨h1, h2, h3, h4, h5⟩
      · cases h1
      · rw [Cl.refutes_false hi hk] at h3; cases h3
      · cases h1
      · cases h1
      · cases h1
    | size n t _ _ _ => rcases hb with ⟨h1, h2, h3⟩ | ⟨h1, h2, h3⟩ | ⟨h1, h2, h3⟩ | ⟨h1, h2, h3, h4⟩ | ⟨h1, h2, h3, h4, h5⟩ <;> first | (cases h1; done) | cases h2
    | absent m j hj hm => rcases hb with ⟨h1, h2, h3⟩ | ⟨h1, h2, h3⟩ | ⟨h1, h2, h3⟩ | ⟨h1, h2, h3, h4⟩ | ⟨h1, h2, h3, h4, h5⟩ <;> first | (cases h1; done) | (cases h2; done) | (rcases h2 with h2 | h2 <;> cases h2)
theorem sign_good {L : List Seal} {k : Int} {t : List UInt8} (hk : isKey k = true) : (sign L k t).1.key = k ∧ (sign L k t).1.text = t ∧ valid (sign L k t).2 (sign L k t).1 = true := by
  unfold sign
  rw [if_pos hk]
  split
  · rename_i i hp
    refine ⟨rfl, rfl, ?_⟩
    simp [valid, hp]
  · rename_i hp
    refine ⟨rfl, rfl, ?_⟩
    simp [valid, place_snoc, hp]
theorem sign_len (L : List Seal) (k : Int) (t : List UInt8) : (sign L k t).2.length ≤ L.length + 1 := by
  unfold sign
  split
  · split <;> simp
  · simp
end Go.Proofs.YtagmlemlagbfkaaGreatDoor.Bk
namespace Go.Proofs.YtagmlemlagbfkaaGreatDoor.Bk
open Go.Lib Go.RowKit Cl
set_option linter.unusedVariables false
set_option linter.unusedSimpArgs false

/-- The book with the entries K, of the key 0. -/
def bk (K : List (List UInt8)) : Book := ⟨0, K, -1, 0⟩
def KeptOk (K : List (List UInt8)) : Prop := K.length ≤ 25 ∧ ∀ t ∈ K, (Cl.key t).2 = true ∧ t.length ≤ 300
theorem KeptOk.nil : KeptOk [] := ⟨by simp, fun t h => by cases h⟩
end Go.Proofs.YtagmlemlagbfkaaGreatDoor.Bk
namespace Go.Proofs.YtagmlemlagbfkaaGreatDoor.Vw
open Go.Lib Go.RowKit
open Bk (Seal Sgn noSgn isKey place valid sign Book Hon Tru)
open Cl (Clm contra right text absentB entryC)
set_option linter.unusedVariables false
set_option linter.unusedSimpArgs false

structure Turn where
  kind : Int
  name : List UInt8
  text : List UInt8
  n : Int
/-- A turn: what is signed (and the error, 4 where nothing is asked), the ring and the book behind it. -/
def turnS (x : Bk.St) (o : Turn) : (Sgn × Int) × Bk.St :=
  if o.kind = 0 then ((noSgn, 4), ⟨x.L, (Bk.append x.b (Wire.textE o.name ++ o.text)).2⟩)
  else if o.kind = 1 then ((Bk.entry x.L x.b o.n).1, ⟨(Bk.entry x.L x.b o.n).2, x.b⟩)
  else if o.kind = 2 then ((Bk.head x.L x.b o.n).1, ⟨(Bk.head x.L x.b o.n).2.1, (Bk.head x.L x.b o.n).2.2⟩)
  else if o.kind = 3 then ((Bk.absent x.L x.b o.name o.n).1, ⟨(Bk.absent x.L x.b o.name o.n).2, x.b⟩)
  else ((noSgn, 4), x)
/-- What the book signed holds, is its own, and is of a log; the book is honest. -/
structure Made (key : Int) (x : Bk.St) (M : List Sgn) : Prop where
  hon : Hon key x
  nd : x.L.Nodup
  kok : isKey key = true
  each : ∀ s ∈ M, valid x.L s = true ∧ s.key = key ∧ isLog s.text = true
theorem Made.start {key : Int} (hk : isKey key = true) : Made key ⟨[], Bk.new key⟩ [] := ⟨Bk.hon_new key, List.nodup_nil, hk, fun s h => by cases h⟩
theorem valid_mem {L : List Seal} {s : Sgn} (h : valid L s = true) : (⟨s.key, s.text⟩ : Seal) ∈ L := by
  unfold valid at h
  cases hp : place L ⟨s.key, s.text⟩ with
  | none => rw [hp] at h; cases h
  | some i => exact List.mem_of_getElem? (Bk.place_some hp)
theorem tru_log {key : Int} {x : Bk.St} (h : Hon key x) {e : Seal} (he : e ∈ x.L) (hk : e.key = key) : isLog e.text = true ∧ Tru x.b (Cl.read e.text).1 := by
  obtain ⟨c, h1, h2, h3⟩ := h.all e he hk
  have hr := Cl.read_text h1
  rw [h2] at hr
  unfold isLog
  rw [hr]
  refine ⟨?_, h3⟩
  cases h3 with
  | entry i hi => show (true && decide ((0 : Int) ≤ 2)) = true; decide
  | size n t _ _ _ => show (true && decide ((1 : Int) ≤ 2)) = true; decide
  | absent n k _ _ => show (true && decide ((2 : Int) ≤ 2)) = true; decide
theorem sign_more8 (L : List Seal) (k : Int) (t : List UInt8) : ∃ M, (sign L k t).2 = L ++ M := by
  unfold sign
  split
  · split
    · exact ⟨[], by simp⟩
    · exact ⟨_, rfl⟩
  · exact ⟨[], by simp⟩
theorem turn_more (x : Bk.St) (o : Turn) : ∃ M, (turnS x o).2.L = x.L ++ M := by
  unfold turnS
  split
  · exact ⟨[], by simp⟩
  split
  · unfold Bk.entry
    split
    · exact ⟨[], by simp⟩
    · exact sign_more8 _ _ _
  split
  · unfold Bk.head
    split
    · exact ⟨[], by simp⟩
    split
    · exact ⟨[], by simp⟩
    · exact sign_more8 _ _ _
  split
  · unfold Bk.absent
    split
    · exact ⟨[], by simp⟩
    split
    · exact ⟨[], by simp⟩
    · exact sign_more8 _ _ _
  · exact ⟨[], by simp⟩
theorem turn_hon {key : Int} {x : Bk.St} (h : Hon key x) (o : Turn) : Hon key (turnS x o).2 := by
  unfold turnS
  split
  · exact Bk.hon_append h _
  split
  · exact Bk.hon_entry h _
  split
  · exact Bk.hon_head h _
  split
  · exact Bk.hon_absent h _ _
  · exact h
theorem turn_nd {x : Bk.St} (h : x.L.Nodup) (o : Turn) : (turnS x o).2.L.Nodup := by
  unfold turnS
  split
  · exact h
  split
  · unfold Bk.entry
    split
    · exact h
    · exact Bk.sign_nodup h
  split
  · unfold Bk.head
    split
    · exact h
    split
    · exact h
    · exact Bk.sign_nodup h
  split
  · unfold Bk.absent
    split
    · exact h
    split
    · exact h
    · exact Bk.sign_nodup h
  · exact h
theorem turn_good {key : Int} {x : Bk.St} (hk : isKey key = true) (ho : x.b.key = key) (o : Turn) (he : (turnS x o).1.2 = 0) : (turnS x o).1.1.key = key ∧ valid (turnS x o).2.L (turnS x o).1.1 = true := by
  subst ho
  unfold turnS at he ⊢
  by_cases k0 : o.kind = 0
  · rw [if_pos k0] at he; cases he
  rw [if_neg k0] at he ⊢
  by_cases k1 : o.kind = 1
  · rw [if_pos k1] at he ⊢
    dsimp only at he ⊢
    unfold Bk.entry at he ⊢
    split at he
    · cases he
    · rename_i hi
      rw [if_neg hi]
      exact ⟨(Bk.sign_good hk).1, (Bk.sign_good hk).2.2⟩
  rw [if_neg k1] at he ⊢
  by_cases k2 : o.kind = 2
  · rw [if_pos k2] at he ⊢
    dsimp only at he ⊢
    unfold Bk.head at he ⊢
    split at he
    · cases he
    · rename_i hi
      split at he
      · cases he
      · rename_i hj
        rw [if_neg hi, if_neg hj]
        exact ⟨(Bk.sign_good hk).1, (Bk.sign_good hk).2.2⟩
  rw [if_neg k2] at he ⊢
  by_cases k3 : o.kind = 3
  · rw [if_pos k3] at he ⊢
    dsimp only at he ⊢
    unfold Bk.absent at he ⊢
    split at he
    · cases he
    · rename_i hi
      split at he
      · cases he
      · rename_i hj
        rw [if_neg hi, if_neg hj]
        exact ⟨(Bk.sign_good hk).1, (Bk.sign_good hk).2.2⟩
  · rw [if_neg k3] at he; cases he
theorem Made.step {key : Int} {x : Bk.St} {M : List Sgn} (h : Made key x M) (o : Turn) : Made key (turnS x o).2 (if (turnS x o).1.2 = 0 then M ++ [(turnS x o).1.1] else M) := by
  have hh := turn_hon h.hon o
  have old : ∀ s ∈ M, valid (turnS x o).2.L s = true ∧ s.key = key ∧ isLog s.text = true := fun s hs => by
    obtain ⟨N, e⟩ := turn_more x o
    rw [e]
    exact ⟨valid_more N (h.each s hs).1, (h.each s hs).2⟩
  refine ⟨hh, turn_nd h.nd o, h.kok, ?_⟩
  split
  · rename_i he
    intro s hs
    rcases List.mem_append.1 hs with hs | hs
    · exact old s hs
    · rw [List.mem_singleton.1 hs]
      obtain ⟨g1, g2⟩ := turn_good h.kok h.hon.own o he
      exact ⟨g2, g1, (tru_log hh (valid_mem g2) g1).1⟩
  · exact old
theorem Made.tru {key : Int} {x : Bk.St} {M : List Sgn} (h : Made key x M) {s : Sgn} (hs : s ∈ M) : Tru x.b (claimOf s) :=
  (tru_log h.hon (valid_mem (h.each s hs).1) (h.each s hs).2.1).2
theorem Made.apart {key : Int} {x : Bk.St} {M : List Sgn} (h : Made key x M) {s t : Sgn} (hs : s ∈ M) (ht : t ∈ M) : contra (claimOf s) (claimOf t) = false := by
  obtain ⟨v1, k1, l1⟩ := h.each s hs
  obtain ⟨v2, k2, l2⟩ := h.each t ht
  obtain ⟨r1, e1, _⟩ := log_spec l1
  obtain ⟨r2, e2, _⟩ := log_spec l2
  refine Bk.hon_no h.hon r1 r2 ?_ ?_
  · rw [e1, ← k1]; exact valid_mem v1
  · rw [e2, ← k2]; exact valid_mem v2
/-- What the book signed is accepted. -/
theorem made_accept {key : Int} {x : Bk.St} {M L : List Sgn} (h : Made key x M) (hL : ∀ s ∈ L, s ∈ M) {s : Sgn} (hs : s ∈ M) : (accept x.L key L s).1 = 0 ∧ ∀ t ∈ (accept x.L key L s).2, t ∈ M := by
  obtain ⟨v1, k1, l1⟩ := h.each s hs
  have hc : clashes L (claimOf s) = false := clashes_no.2 (fun t ht => h.apart (hL t ht) hs)
  unfold accept
  rw [if_neg (by rw [v1]; simp), if_neg (by simp [k1]), if_neg (by rw [l1]; simp), if_neg (by rw [hc]; simp)]
  split
  · exact ⟨rfl, hL⟩
  · refine ⟨rfl, fun t ht => ?_⟩
    rcases List.mem_append.1 ht with ht | ht
    · exact hL t ht
    · rw [List.mem_singleton.1 ht]; exact hs
theorem size_in (L : List Sgn) : (sizeOf L).1 = 0 ∨ ∃ s ∈ L, (claimOf s).kind = 1 ∧ (claimOf s).n = (sizeOf L).1 := by
  suffices ∀ (M : List Sgn) (r : Int × Int), (∀ s ∈ M, s ∈ L) → (r.1 = 0 ∨ ∃ s ∈ L, (claimOf s).kind = 1 ∧ (claimOf s).n = r.1) → ((M.foldl sizeStep r).1 = 0 ∨ ∃ s ∈ L, (claimOf s).kind = 1 ∧ (claimOf s).n = (M.foldl sizeStep r).1) from
    this L (0, -1) (fun s hs => hs) (Or.inl rfl)
  intro M
  induction M with
  | nil => intro r _ h; exact h
  | cons s M ih =>
    intro r hM h
    refine ih _ (fun t ht => hM t (List.mem_cons_of_mem _ ht)) ?_
    unfold sizeStep
    split
    · rename_i hk; exact Or.inr ⟨s, hM s (List.mem_cons_self ..), hk.1, rfl⟩
    · exact h
theorem abs_in8 (L : List Sgn) (k : List UInt8) : (absentOf L k).1 = 0 ∨ ∃ s ∈ L, (claimOf s).kind = 2 ∧ (claimOf s).text = k ∧ (claimOf s).n = (absentOf L k).1 := by
  suffices ∀ (M : List Sgn) (r : Int × Bool), (∀ s ∈ M, s ∈ L) → (r.1 = 0 ∨ ∃ s ∈ L, (claimOf s).kind = 2 ∧ (claimOf s).text = k ∧ (claimOf s).n = r.1) → ((M.foldl (absStep k) r).1 = 0 ∨ ∃ s ∈ L, (claimOf s).kind = 2 ∧ (claimOf s).text = k ∧ (claimOf s).n = (M.foldl (absStep k) r).1) from
    this L (0, false) (fun s hs => hs) (Or.inl rfl)
  intro M
  induction M with
  | nil => intro r _ h; exact h
  | cons s M ih =>
    intro r hM h
    refine ih _ (fun t ht => hM t (List.mem_cons_of_mem _ ht)) ?_
    unfold absStep
    split
    · rename_i hk
      by_cases hm : r.1 ≤ (claimOf s).n
      · exact Or.inr ⟨s, hM s (List.mem_cons_self ..), hk.1, hk.2, (Int.max_eq_right hm).symm⟩
      · have e : max r.1 (claimOf s).n = r.1 := Int.max_eq_left (by omega)
        dsimp only
        rw [e]; exact h
    · exact h
theorem Made.size {key : Int} {x : Bk.St} {M L : List Sgn} (h : Made key x M) (hL : ∀ s ∈ L, s ∈ M) : (sizeOf L).1 ≤ x.b.es.length := by
  rcases size_in L with h0 | ⟨s, hs, hk, hn⟩
  · omega
  · have ht := h.tru (hL s hs)
    have htold := h.hon.told
    rw [← hn]
    generalize claimOf s = c at *
    cases ht with
    | entry i hi => cases hk
    | size n t h1 h2 h3 => show n ≤ _; omega
    | absent n k _ _ => cases hk
theorem Made.textAt {key : Int} {x : Bk.St} {M L : List Sgn} (h : Made key x M) (hL : ∀ s ∈ L, s ∈ M) {i : Int} (hi : (textAt L i).2 = true) : Bk.textAt x.b i = ((textAt L i).1, true) := by
  obtain ⟨s, hs, hk, he⟩ := entA_mem.1 (text_is hi)
  have ht := h.tru (hL s hs)
  injection he with e1 e2
  rw [e2, e1]
  generalize claimOf s = c at *
  cases ht with
  | entry j hj =>
    unfold Bk.textAt entryC
    dsimp only
    rw [if_neg (by omega), Int.toNat_natCast]
  | size n t h1 h2 h3 => cases hk
  | absent n k _ _ => cases hk
theorem Made.absent {key : Int} {x : Bk.St} {M L : List Sgn} (h : Made key x M) (hL : ∀ s ∈ L, s ∈ M) {name : List UInt8} {k : Nat} (hk : (k : Int) < (absentOf L name).1) : ∃ h : k < x.b.es.length, Cl.hasKey name x.b.es[k] = false := by
  rcases abs_in8 L name with h0 | ⟨s, hs, hk2, ht2, hn⟩
  · omega
  · have ht := h.tru (hL s hs)
    rw [← hn] at hk
    generalize claimOf s = c at *
    cases ht with
    | entry i hi => cases hk2
    | size n t h1 h2 h3 => cases hk2
    | absent n k' h1 h2 =>
      change (k : Int) < (n : Int) at hk
      have ht2 : k' = name := ht2
      subst ht2
      exact ⟨by omega, Cl.absent_mem h2 (by omega) (by omega)⟩
end Go.Proofs.YtagmlemlagbfkaaGreatDoor.Vw
namespace Go.Proofs.YtagmlemlagbfkaaGreatDoor
open Go.RowKit
set_option linter.unusedVariables false
set_option linter.unusedSimpArgs false
attribute [local irreducible] Calls

def RingC (B rb : Nat) (Lr : List Bk.Seal) : Res := fun f z => ∃ q, q.rb = rb ∧ RingAt B z q Lr ∧ f = q.foot
def BookC (B bb rb : Nat) (b : Bk.Book) : Res := fun f z => ∃ br, br.bb = bb ∧ BookAt B z br rb b ∧ f = br.foot
def ViewC (B vb rb : Nat) (key : Int) (L : List Bk.Sgn) : Res := fun f z => ∃ r, r.vb = vb ∧ ViewAt B z r rb key L ∧ f = r.foot
theorem RingC.stab (B rb : Nat) (Lr : List Bk.Seal) : Stab B (RingC B rb Lr) :=
  ⟨fun {f w w' S} ⟨q, a, b, c⟩ u hs => ⟨q, a, b.upd u (fun k hk => hs k (by rw [c]; exact hk)), c⟩, fun {f w k} ⟨q, a, b, c⟩ hk => b.foot_lt (by rw [c] at hk; exact hk)⟩
theorem BookC.stab (B bb rb : Nat) (b : Bk.Book) : Stab B (BookC B bb rb b) :=
  ⟨fun {f w w' S} ⟨q, a, b, c⟩ u hs => ⟨q, a, b.upd u (fun k hk => hs k (by rw [c]; exact hk)), c⟩, fun {f w k} ⟨q, a, b, c⟩ hk => b.foot_lt (by rw [c] at hk; exact hk)⟩
theorem ViewC.stab (B vb rb : Nat) (key : Int) (L : List Bk.Sgn) : Stab B (ViewC B vb rb key L) :=
  ⟨fun {f w w' S} ⟨q, a, b, c⟩ u hs => ⟨q, a, b.upd u (fun k hk => hs k (by rw [c]; exact hk)), c⟩, fun {f w k} ⟨q, a, b, c⟩ hk => b.foot_lt (by rw [c] at hk; exact hk)⟩
abbrev VL := Nat → List Bk.Sgn
def setL (L : VL) (i : Nat) (l : List Bk.Sgn) : VL := fun k => if k = i then l else L k
theorem setL_self (L : VL) (i : Nat) (l : List Bk.Sgn) : setL L i l i = l := by simp [setL]
theorem setL_ne (L : VL) {i k : Nat} (l : List Bk.Sgn) (h : k ≠ i) : setL L i l k = L k := by simp [setL, h]
def setB (bs : Nat → Bk.Book) (i : Nat) (b : Bk.Book) : Nat → Bk.Book := fun k => if k = i then b else bs k
theorem setB_self (L : Nat → Bk.Book) (i : Nat) (l : Bk.Book) : setB L i l i = l := by simp [setB]
theorem setB_ne (L : Nat → Bk.Book) {i k : Nat} (l : Bk.Book) (h : k ≠ i) : setB L i l k = L k := by simp [setB, h]
/-- Where all of it lies. -/
structure VNR where
  rb : Nat
  bbs : Nat → Nat
  vbs : Nat → Nat
def famC (B : Nat) (p : VNR) (m : Nat) (key : Int) (Lr : List Bk.Seal) (bs : Nat → Bk.Book) (L : VL) : Nat → Res := fun i =>
  if i = 0 then RingC B p.rb Lr else if i ≤ m then BookC B (p.bbs (i - 1)) p.rb (bs (i - 1)) else ViewC B (p.vbs (i - 1 - m)) p.rb key (L (i - 1 - m))
theorem fam_ring (B : Nat) (p : VNR) (m : Nat) (key : Int) (Lr : List Bk.Seal) (bs : Nat → Bk.Book) (L : VL) : famC B p m key Lr bs L 0 = RingC B p.rb Lr := by simp [famC]
theorem fam_book (B : Nat) (p : VNR) (m : Nat) (key : Int) (Lr : List Bk.Seal) (bs : Nat → Bk.Book) (L : VL) {i : Nat} (h : i < m) : famC B p m key Lr bs L (1 + i) = BookC B (p.bbs i) p.rb (bs i) := by
  unfold famC
  rw [if_neg (by omega), if_pos (by omega), Nat.add_sub_cancel_left]
theorem fam_view (B : Nat) (p : VNR) (m : Nat) (key : Int) (Lr : List Bk.Seal) (bs : Nat → Bk.Book) (L : VL) (i : Nat) : famC B p m key Lr bs L (1 + m + i) = ViewC B (p.vbs i) p.rb key (L i) := by
  unfold famC
  rw [if_neg (by omega), if_neg (by omega), show 1 + m + i - 1 - m = i by omega]
/-- m books and n views of one ring; the views have accepted L 0, L 1 ..; all of it was made since W. -/
def Fam (W : World) (p : VNR) (m n : Nat) (key : Int) (Lr : List Bk.Seal) (bs : Nat → Bk.Book) (L : VL) (F : Nat → Prop) (z : World) : Prop :=
  At W (1 + m + n) (famC W.heap.size p m key Lr bs L) F z ∧ ∀ i, i < n → Vw.VOk Lr key (L i)
section
variable {W : World} {p : VNR} {m n : Nat} {key : Int} {Lr : List Bk.Seal} {bs : Nat → Bk.Book} {L : VL} {F F' S : Nat → Prop} {z z' : World}
theorem Fam.nw0 (h : Fam W p m n key Lr bs L F z) : Nw W z := h.1.nw0
theorem Fam.gl (h : Fam W p m n key Lr bs L F z) (g : Gl W) : Gl z := g.upd h.nw0
theorem Fam.upd_keep (h : Fam W p m n key Lr bs L F z) (u : Upd S z z') (hs : ∀ k, S k → (F k ∧ W.heap.size ≤ k) ∨ z.heap.size ≤ k) (hF : ∀ k, F' k → F k ∨ (z.heap.size ≤ k ∧ k < z'.heap.size)) : Fam W p m n key Lr bs L F' z' := ⟨h.1.upd_keep u hs hF, h.2⟩
theorem Fam.nw (h : Fam W p m n key Lr bs L F z) (u : Nw z z') : Fam W p m n key Lr bs L F z' := ⟨h.1.nw u, h.2⟩
theorem Fam.keep (h : Fam W p m n key Lr bs L F z) (u : Nw z z') (hF : ∀ k, F' k → F k ∨ (z.heap.size ≤ k ∧ k < z'.heap.size)) : Fam W p m n key Lr bs L F' z' := ⟨h.1.keep u hF, h.2⟩
theorem Fam.less (h : Fam W p m n key Lr bs L F z) (hF : ∀ k, F' k → F k) : Fam W p m n key Lr bs L F' z := ⟨h.1.less hF, h.2⟩
theorem Fam.more (h : ∀ i, i < n → Vw.VOk Lr key (L i)) {Lr' : List Bk.Seal} (hm : ∃ M, Lr' = Lr ++ M) : ∀ i, i < n → Vw.VOk Lr' key (L i) := by
  obtain ⟨M, rfl⟩ := hm
  exact fun i hi => (h i hi).more M
theorem Fam.ring (h : Fam W p m n key Lr bs L F z) : ∃ q, q.rb = p.rb ∧ RingAt W.heap.size z q Lr := by
  obtain ⟨f, q, a, b, _⟩ := h.1.get (i := 0) (by omega)
  exact ⟨q, a, b⟩
/-- The ring alone. -/
theorem Fam.start {q : RingR} (hq : RingAt W.heap.size z q Lr) (u : Nw W z) : Fam W ⟨q.rb, fun _ => 0, fun _ => 0⟩ 0 0 key Lr bs L (fun _ => False) z := by
  have h0 := (At.start W (fun _ => RingC W.heap.size 0 [])).push u (RingC.stab W.heap.size q.rb Lr) (f' := q.foot) ⟨q, rfl, hq, rfl⟩ (fun j hj => (hq.foot_lt hj).1)
  refine ⟨h0.same (fun i hi => ?_), fun i hi => by omega⟩
  obtain rfl : i = 0 := by omega
  rw [setC_self, fam_ring]
/-- One more view. -/
theorem Fam.oneView (h : Fam W p m n key Lr bs L F z) (hg : nG ≤ W.heap.size) {r' : ViewR} (u : Nw z z') (hr : ViewAt z.heap.size z' r' p.rb key []) : Fam W ⟨p.rb, p.bbs, fun k => if k = n then r'.vb else p.vbs k⟩ m (n + 1) key Lr bs (setL L n []) F z' := by
  have hww := h.nw0.size
  have hr2 : ViewAt W.heap.size z' r' p.rb key [] := ⟨hg, Nat.le_trans hww hr.vb, Nat.le_trans hww hr.eb, Nat.le_trans hww hr.ab, hr.ne, hr.blk, owns_base hr.sown hww, owns_base hr.cown hww, hr.emap, hr.amap, hr.key⟩
  have h1 := h.1.push u (ViewC.stab W.heap.size r'.vb p.rb key []) (f' := r'.foot) ⟨r', rfl, hr2, rfl⟩ (fun j hj => (hr.foot_lt hj).1)
  refine ⟨h1.same (fun i hi => ?_), fun k hk => ?_⟩
  · by_cases hin : i = 1 + m + n
    · subst hin
      rw [setC_self, fam_view, setL_self]
      simp
    · rw [setC_ne _ _ hin]
      unfold famC
      split
      · rfl
      · split
        · rfl
        · dsimp only
          rw [setL_ne _ _ (show i - 1 - m ≠ n by omega), if_neg (show ¬ (i - 1 - m = n) by omega)]
  · by_cases hkn : k = n
    · subst hkn; rw [setL_self]; exact Vw.VOk.nil _ _
    · rw [setL_ne _ _ hkn]; exact h.2 k (by omega)
/-- One more book, while there are no views. -/
theorem Fam.oneBook (h : Fam W p m 0 key Lr bs L F z) (hg : nG ≤ W.heap.size) {r' : BookR} {b : Bk.Book} (u : Nw z z') (hr : BookAt z.heap.size z' r' p.rb b) : Fam W ⟨p.rb, fun k => if k = m then r'.bb else p.bbs k, p.vbs⟩ (m + 1) 0 key Lr (setB bs m b) L F z' := by
  have hww := h.nw0.size
  have h1 := h.1.push u (BookC.stab W.heap.size r'.bb p.rb b) (f' := r'.foot) ⟨r', rfl, hr.base hww hg, rfl⟩ (fun j hj => (hr.foot_lt hj).1)
  have e : 1 + m + 0 = 1 + m := by omega
  rw [e] at h1
  refine ⟨(show 1 + m + 1 = 1 + (m + 1) + 0 by omega) ▸ h1.same (fun i hi => ?_), fun k hk => by omega⟩
  by_cases hin : i = 1 + m
  · subst hin
    rw [setC_self, fam_book _ _ _ _ _ _ _ (by omega), setB_self]
    simp
  · rw [setC_ne _ _ hin]
    unfold famC
    by_cases h0 : i = 0
    · rw [if_pos h0, if_pos h0]
    · rw [if_neg h0, if_neg h0, if_pos (by omega), if_pos (by omega), setB_ne _ _ (by omega)]
      dsimp only
      rw [if_neg (by omega)]
end
end Go.Proofs.YtagmlemlagbfkaaGreatDoor
namespace Go.Proofs.YtagmlemlagbfkaaGreatDoor.Vw
open Go.Lib Go.RowKit Wire
open Bk (Seal Sgn noSgn isKey place valid)
open Cl (Clm contra)
set_option linter.unusedVariables false
set_option linter.unusedSimpArgs false

def turned (s : Sgn) (odd : Int) : Sgn :=
  if odd = 1 then ⟨s.key, s.text, s.mark + 1⟩ else if odd = 2 then ⟨s.key, s.text ++ [120], s.mark⟩ else if odd = 3 then ⟨s.key + 1, s.text, s.mark⟩ else s
theorem sign_len (Lr : List Seal) (k : Int) (t : List UInt8) : (Bk.sign Lr k t).2.length ≤ Lr.length + 1 := by
  unfold Bk.sign
  split
  · split <;> simp
  · simp
theorem sign_sgn (Lr : List Seal) (k : Int) (t : List UInt8) : 0 ≤ (Bk.sign Lr k t).1.key ∧ (Bk.sign Lr k t).1.key < 200 ∧ 0 ≤ (Bk.sign Lr k t).1.mark ∧ (Bk.sign Lr k t).1.mark ≤ Lr.length ∧ (Bk.sign Lr k t).1.text.length ≤ t.length := by
  unfold Bk.sign
  split
  · rename_i hk
    have hk2 : 0 ≤ k ∧ k < 200 := by unfold isKey at hk; simpa using hk
    split
    · rename_i i hi
      have := Bk.place_lt hi
      exact ⟨hk2.1, hk2.2, by show (0 : Int) ≤ i; omega, by show (i : Int) ≤ _; omega, Nat.le_refl _⟩
    · exact ⟨hk2.1, hk2.2, by show (0 : Int) ≤ Lr.length; omega, by show (Lr.length : Int) ≤ _; omega, Nat.le_refl _⟩
  · exact ⟨by show (0 : Int) ≤ 0; omega, by show (0 : Int) < 200; omega, by show (0 : Int) ≤ 0; omega, by show (0 : Int) ≤ _; omega, Nat.zero_le _⟩
end Go.Proofs.YtagmlemlagbfkaaGreatDoor.Vw
namespace Go.Proofs.YtagmlemlagbfkaaGreatDoor
open Go.RowKit
set_option linter.unusedVariables false
set_option linter.unusedSimpArgs false
attribute [local irreducible] Calls

theorem text_len8 (c : Cl.Clm) (hi : I64C c) : (Cl.text c).length ≤ 30000 := by
  cases h : Cl.right c with
  | false => rw [Cl.text, h]; simp
  | true =>
    obtain ⟨h1, h2, h3, h4, h5, h6, h7⟩ := Cl.right_bounds h
    have i1 := itoa_le hi.k
    have i2 := itoa_le hi.n
    have i3 := itoa_le hi.t
    have i4 := itoa_le (n := (c.text.length : Int)) (by unfold I64; omega)
    rw [Cl.text, if_pos h]
    unfold Cl.enc Wire.numE
    rw [if_neg (by omega), if_neg (by omega), if_neg (by omega)]
    simp only [Wire.intE, Wire.textE, List.length_append, List.length_cons, List.length_nil]
    omega
end Go.Proofs.YtagmlemlagbfkaaGreatDoor
namespace Go.Proofs.YtagmlemlagbfkaaGreatDoor
open Go.RowKit
set_option linter.unusedVariables false
set_option linter.unusedSimpArgs false
attribute [local irreducible] Calls

theorem nodup_seal {L : List Bk.Seal} : ∀ {M : List Bk.Seal}, L.Nodup → (∀ s ∈ L, s ∈ M) → L.length ≤ M.length := by
  induction L with
  | nil => intro M _ _; exact Nat.zero_le _
  | cons a L ih =>
    intro M hn hs
    rw [List.nodup_cons] at hn
    obtain ⟨A, B, rfl⟩ := List.append_of_mem (hs a (List.mem_cons_self ..))
    have := ih (M := A ++ B) hn.2 (fun s h => by
      have h2 := hs s (List.mem_cons_of_mem _ h)
      rw [List.mem_append, List.mem_cons] at h2
      rw [List.mem_append]
      rcases h2 with h2 | h2 | h2
      · exact Or.inl h2
      · subst h2; exact absurd h hn.1
      · exact Or.inr h2)
    rw [List.length_append] at this
    rw [List.length_cons, List.length_append, List.length_cons]
    omega
/-- A view has at most as many claims as the ring has entries. -/
theorem vok_len {Lr : List Bk.Seal} {key : Int} {L : List Bk.Sgn} (h : Vw.VOk Lr key L) : L.length ≤ Lr.length := by
  have h1 := nodup_seal (L := L.map fun s => (⟨s.key, s.text⟩ : Bk.Seal)) (M := Lr) (by
    have h2 := h.nodup
    rw [List.nodup_iff_pairwise_ne] at h2 ⊢
    rw [List.pairwise_map]
    refine h2.imp_of_mem fun {a b} ha hb hab e => hab ?_
    have va := (h.each a ha).1
    have vb := (h.each b hb).1
    injection e with e1 e2
    unfold Bk.valid at va vb
    rw [e1, e2] at va
    split at va
    · rename_i i hi
      rw [hi] at vb
      have ma := of_decide_eq_true va
      have mb := of_decide_eq_true vb
      obtain ⟨ak, at', am⟩ := a
      obtain ⟨bk, bt, bm⟩ := b
      dsimp only at *
      subst e1 e2
      rw [← ma, ← mb]
    · cases va) (fun s hs => by
      obtain ⟨t, ht, rfl⟩ := List.mem_map.1 hs
      exact Vw.valid_mem (h.each t ht).1)
  rwa [List.length_map] at h1
theorem made_ok {key : Int} {x : Bk.St} {M : List Bk.Sgn} (h : Vw.Made key x M) (hl : x.L.length ≤ 1000000) {s : Bk.Sgn} (hs : s ∈ M) : SgnOk s := by
  obtain ⟨v1, k1, l1⟩ := h.each s hs
  have hk2 : 0 ≤ key ∧ key < 200 := by have := h.kok; unfold Bk.isKey at this; simpa using this
  have hm := Vw.valid_lt v1
  obtain ⟨r1, r2, _⟩ := Vw.log_spec l1
  have := text_len8 (Vw.claimOf s) (log_bounds l1).1
  rw [r2] at this
  exact ⟨by unfold I64; omega, by omega, by unfold I64; omega⟩
/-- The views of Fam, of which nothing is known but that all of it is among M. -/
def HFam (W : World) (p : VNR) (m n : Nat) (key : Int) (Lr : List Bk.Seal) (bs : Nat → Bk.Book) (M : List Bk.Sgn) (F : Nat → Prop) (z : World) : Prop :=
  ∃ L, Fam W p m n key Lr bs L F z ∧ ∀ i, i < n → ∀ s ∈ L i, s ∈ M
section
variable {W : World} {p : VNR} {m n : Nat} {key : Int} {Lr : List Bk.Seal} {bs : Nat → Bk.Book} {M : List Bk.Sgn} {F F' S : Nat → Prop} {z z' : World}
theorem HFam.nw0 (h : HFam W p m n key Lr bs M F z) : Nw W z := by obtain ⟨L, h, _⟩ := h; exact h.nw0
theorem HFam.gl (h : HFam W p m n key Lr bs M F z) (g : Gl W) : Gl z := g.upd h.nw0
theorem HFam.nw (h : HFam W p m n key Lr bs M F z) (u : Nw z z') : HFam W p m n key Lr bs M F z' := by obtain ⟨L, h, a⟩ := h; exact ⟨L, h.nw u, a⟩
theorem HFam.keep (h : HFam W p m n key Lr bs M F z) (u : Nw z z') (hF : ∀ k, F' k → F k ∨ (z.heap.size ≤ k ∧ k < z'.heap.size)) : HFam W p m n key Lr bs M F' z' := by obtain ⟨L, h, a⟩ := h; exact ⟨L, h.keep u hF, a⟩
end
end Go.Proofs.YtagmlemlagbfkaaGreatDoor
namespace Go.Proofs.YtagmlemlagbfkaaGreatDoor.Mi
open Go.Lib Go.RowKit
open Bk (Seal Sgn noSgn isKey place valid sign Book)
set_option linter.unusedVariables false
set_option linter.unusedSimpArgs false

/-- A mirror: its mode; entries (l 0), heads (l 1), absences (l 2); contents. -/
structure Mir where
  mode : Int
  l : Nat → List Sgn
  cs : List (List UInt8)
def fresh (mode : Int) : Mir := ⟨mode, fun _ => [], []⟩
def setS (l : Nat → List Sgn) (i : Nat) (s : List Sgn) : Nat → List Sgn := fun k => if k = i then s else l k
def push (m : Mir) (i : Nat) (s : Sgn) : Mir := { m with l := setS m.l i (m.l i ++ [s]) }
theorem push_self (m : Mir) (i : Nat) (s : Sgn) : (push m i s).l i = m.l i ++ [s] := by simp [push, setS]
theorem push_ne (m : Mir) {i k : Nat} (s : Sgn) (h : k ≠ i) : (push m i s).l k = m.l k := by simp [push, setS, h]
def told {α : Type} (mode : Int) (l : List α) : List α := if mode = 2 then l.take (l.length / 2) else l
def atL {α : Type} (l : List α) (i : Int) : List α := if i < 0 ∨ (l.length : Int) ≤ i then [] else (l.drop i.toNat).take 1
structure Ques where
  kind : Int
  n : Int
  text : List UInt8
structure Ans where
  claims : List Sgn
  text : List UInt8
  has : Bool
def good (q : Ques) (s : Sgn) : Bool := (Cl.read s.text).2 && decide ((Cl.read s.text).1.text = q.text) && decide (q.n ≤ (Cl.read s.text).1.n)
def find (m : Mir) (q : Ques) : List Sgn :=
  if q.kind = 0 then (if m.mode = 3 then atL (told m.mode (m.l 1)) 0 else atL (told m.mode (m.l 1)) ((told m.mode (m.l 1)).length - 1))
  else if q.kind = 1 then atL (told m.mode (m.l 0)) q.n
  else if q.kind = 2 then ((told m.mode (m.l 2)).reverse.find? (good q)).toList
  else []
def textC (l : List (List UInt8)) (i : Int) : List UInt8 × Bool := if i < 0 ∨ (l.length : Int) ≤ i then ([], false) else (l.getD i.toNat [], true)
def forge (s : Sgn) : Sgn := ⟨s.key, s.text ++ [120], s.mark⟩
def answer (m : Mir) (q : Ques) : Ans :=
  let t := if q.kind = 3 then textC (told m.mode m.cs) q.n else ([], false)
  if m.mode = 4 then ⟨(find m q).map forge, if t.2 then t.1 ++ [120] else t.1, t.2⟩ else ⟨find m q, t.1, t.2⟩
/-! ### Feed -/
def entS (L : List Seal) (b : Book) (m : Mir) (i : Nat) : List Seal × Mir := ((Bk.entry L b i).2, push m 0 (Bk.entry L b i).1.1)
def entL (L : List Seal) (b : Book) (m : Mir) (i : Nat) : Nat → List Seal × Mir
  | 0 => (L, m)
  | n + 1 => entS (entL L b m i n).1 b (entL L b m i n).2 (i + n)
def absS (b : Book) (x : List Seal × Mir) (k : List UInt8) : List Seal × Mir :=
  ((Bk.absent x.1 b k b.es.length).2, if (Bk.absent x.1 b k b.es.length).1.2 = 0 then push x.2 2 (Bk.absent x.1 b k b.es.length).1.1 else x.2)
def absL (b : Book) (x : List Seal × Mir) (ks : List (List UInt8)) : List Seal × Mir := ks.foldl (absS b) x
theorem absL_take (b : Book) (x : List Seal × Mir) (ks : List (List UInt8)) (j : Nat) (h : j < ks.length) : absL b x (ks.take (j + 1)) = absS b (absL b x (ks.take j)) ks[j] := by
  unfold absL
  rw [List.take_succ_eq_append_getElem h, List.foldl_append]
  rfl
def fed (L : List Seal) (b : Book) (m : Mir) (ks cs : List (List UInt8)) : List Seal × Mir :=
  let y := absL b (entL L b m (m.l 0).length (b.es.length - (m.l 0).length)) ks
  (y.1, if m.cs.length < cs.length then { y.2 with cs := cs } else y.2)
def feed (L : List Seal) (b : Book) (m : Mir) (ks cs : List (List UInt8)) (now : Int) : Int × List Seal × Book × Mir :=
  if m.mode = 1 ∧ m.l 1 ≠ [] then (0, L, b, m)
  else if (Bk.head L b now).1.2 ≠ 0 then ((Bk.head L b now).1.2, (Bk.head L b now).2.1, (Bk.head L b now).2.2, m)
  else (0, (fed (Bk.head L b now).2.1 (Bk.head L b now).2.2 (push m 1 (Bk.head L b now).1.1) ks cs).1, (Bk.head L b now).2.2, (fed (Bk.head L b now).2.1 (Bk.head L b now).2.2 (push m 1 (Bk.head L b now).1.1) ks cs).2)
/-! ### Ask -/
structure AskR where
  L : List Sgn
  old : Sgn
  odd : Sgn
  e : Int
def askS (Lr : List Seal) (key : Int) (r : AskR) (s : Sgn) : AskR :=
  if (Vw.accept Lr key r.L s).1 = 21 ∧ r.e = 0 then ⟨(Vw.accept Lr key r.L s).2, (Vw.clash r.L s).1, s, 21⟩ else { r with L := (Vw.accept Lr key r.L s).2 }
def askL (Lr : List Seal) (key : Int) (r : AskR) (l : List Sgn) : AskR := l.foldl (askS Lr key) r
theorem askL_take (Lr : List Seal) (key : Int) (r : AskR) (l : List Sgn) (j : Nat) (h : j < l.length) : askL Lr key r (l.take (j + 1)) = askS Lr key (askL Lr key r (l.take j)) l[j] := by
  unfold askL
  rw [List.take_succ_eq_append_getElem h, List.foldl_append]
  rfl
def askA (Lr : List Seal) (key : Int) (r : AskR) (an : List Ans) : AskR := an.foldl (fun r a => askL Lr key r a.claims) r
theorem askA_take (Lr : List Seal) (key : Int) (r : AskR) (an : List Ans) (j : Nat) (h : j < an.length) : askA Lr key r (an.take (j + 1)) = askL Lr key (askA Lr key r (an.take j)) an[j].claims := by
  unfold askA
  rw [List.take_succ_eq_append_getElem h, List.foldl_append]
  rfl
def askE (r : AskR) (now bound : Int) : Int := if r.e = 0 ∧ (Vw.age r.L now < 0 ∨ bound < Vw.age r.L now) then 20 else r.e
def ask (Lr : List Seal) (key : Int) (L : List Sgn) (an : List Ans) : AskR := askA Lr key ⟨L, noSgn, noSgn, 0⟩ an
/-! ### Lists -/
theorem told_len {α : Type} (mode : Int) (l : List α) : (told mode l).length ≤ l.length := by
  unfold told
  split
  · rw [List.length_take]; omega
  · exact Nat.le_refl _
theorem told_mem {α : Type} {mode : Int} {l : List α} {x : α} (h : x ∈ told mode l) : x ∈ l := by
  unfold told at h
  split at h
  · exact List.mem_of_mem_take h
  · exact h
theorem atL_mem {α : Type} {l : List α} {i : Int} {x : α} (h : x ∈ atL l i) : x ∈ l := by
  unfold atL at h
  split at h
  · cases h
  · exact List.mem_of_mem_drop (List.mem_of_mem_take h)
theorem atL_len {α : Type} (l : List α) (i : Int) : (atL l i).length ≤ 1 := by
  unfold atL
  split
  · exact Nat.zero_le _
  · rw [List.length_take]; omega
theorem atL_get {α : Type} {l : List α} {i : Nat} (h : i < l.length) : atL l i = [l[i]] := by
  unfold atL
  rw [if_neg (by omega), Int.toNat_natCast, List.drop_eq_getElem_cons h]
  rfl
theorem atL_out {α : Type} {l : List α} {i : Int} (h : i < 0 ∨ (l.length : Int) ≤ i) : atL l i = [] := by
  unfold atL
  rw [if_pos h]
theorem find_mem {m : Mir} {q : Ques} {x : Sgn} (h : x ∈ find m q) : ∃ i, i < 3 ∧ x ∈ m.l i := by
  unfold find at h
  split at h
  · split at h <;> exact ⟨1, by decide, told_mem (atL_mem h)⟩
  split at h
  · exact ⟨0, by decide, told_mem (atL_mem h)⟩
  split at h
  · rw [Option.mem_toList] at h
    exact ⟨2, by decide, told_mem (List.mem_reverse.1 (List.mem_of_find?_eq_some h))⟩
  · cases h
theorem find_len (m : Mir) (q : Ques) : (find m q).length ≤ 1 := by
  unfold find
  split
  · split <;> exact atL_len _ _
  split
  · exact atL_len _ _
  split
  · cases (told m.mode (m.l 2)).reverse.find? (good q) <;> simp
  · exact Nat.zero_le _
/-- The last of a list. -/
theorem find_last {α : Type} {l : List α} {p : α → Bool} {i : Nat} (h : i < l.length) (hp : p l[i] = true) (hn : ∀ x ∈ l.drop (i + 1), p x = false) : l.reverse.find? p = some l[i] := by
  have e : l.reverse = (l.take i ++ l[i] :: l.drop (i + 1)).reverse := by rw [← List.drop_eq_getElem_cons h, List.take_append_drop]
  rw [e, List.reverse_append, List.reverse_cons, List.find?_append, List.find?_append]
  rw [show (l.drop (i + 1)).reverse.find? p = none by
    rw [List.find?_eq_none]
    intro x hx
    rw [hn x (List.mem_reverse.1 hx)]
    simp]
  simp [hp]
theorem find_none {α : Type} {l : List α} {p : α → Bool} (hn : ∀ x ∈ l, p x = false) : l.reverse.find? p = none := by
  rw [List.find?_eq_none]
  intro x hx
  rw [hn x (List.mem_reverse.1 hx)]
  simp
theorem entL_l (L : List Seal) (b : Book) (m : Mir) (i n : Nat) : ((entL L b m i n).2.l 0).length = (m.l 0).length + n ∧ (entL L b m i n).2.l 1 = m.l 1 ∧ (entL L b m i n).2.l 2 = m.l 2 ∧ (entL L b m i n).2.mode = m.mode ∧ (entL L b m i n).2.cs = m.cs := by
  induction n with
  | zero => exact ⟨rfl, rfl, rfl, rfl, rfl⟩
  | succ n ih =>
    unfold entL entS
    dsimp only
    rw [push_self, push_ne _ _ (by decide), push_ne _ _ (by decide), List.length_append]
    exact ⟨by have := ih.1; simp; omega, ih.2.1, ih.2.2.1, ih.2.2.2.1, ih.2.2.2.2⟩
end Go.Proofs.YtagmlemlagbfkaaGreatDoor.Mi
namespace Go.Proofs.YtagmlemlagbfkaaGreatDoor.Ex37
open Go.Lib Go.RowKit
open Bk (Seal Sgn noSgn Book)
set_option linter.unusedVariables false
set_option linter.unusedSimpArgs false

def ta : List UInt8 := [49, 58, 97, 44]
def tb : List UInt8 := [49, 58, 98, 44]
def td : List UInt8 := [49, 58, 100, 44]
def B1 : Book := (Bk.append (Bk.new 3) ta).2
def B2 : Book := (Bk.append B1 tb).2
/-- Fed at 5 and at 8. -/
def F1 (k : Int) := Mi.feed [] B2 (Mi.fresh k) [[122]] [[99]] 5
def L1 (k : Int) : List Seal := (F1 k).2.1
def B3 (k : Int) : Book := (F1 k).2.2.1
def M1 (k : Int) : Mi.Mir := (F1 k).2.2.2
def B4 (k : Int) : Book := (Bk.append (B3 k) td).2
def F2 (k : Int) := Mi.feed (L1 k) (B4 k) (M1 k) [[122]] [[99]] 8
def L2 (k : Int) : List Seal := (F2 k).2.1
def B5 (k : Int) : Book := (F2 k).2.2.1
def M2 (k : Int) : Mi.Mir := (F2 k).2.2.2
def HD (k : Int) := Bk.head (L2 k) (B5 k) 8
def hd (k : Int) : Sgn := (HD k).1.1
def q1 : Mi.Ques := ⟨0, 0, []⟩
def q2 : Mi.Ques := ⟨1, 2, []⟩
def h3 : List UInt8 := [49, 59, 51, 59, 56, 59, 48, 58, 44]
def h2 : List UInt8 := [49, 59, 50, 59, 53, 59, 48, 58, 44]
def heads : List (List UInt8) := [h3, h2, h2, h2, h3 ++ [120]]
def told : List Nat := [1, 0, 0, 1, 1]
def sizes (m : Mi.Mir) : List Nat := [(m.l 0).length, (m.l 1).length, (m.l 2).length, m.cs.length]
/-- All that the example says of a mode. -/
def Says (i : Nat) : Prop :=
  (F1 i).1 = 0 ∧ (F2 i).1 = 0 ∧ (HD i).1.2 = 0 ∧ sizes (M2 i) = (if i = 1 then [2, 1, 1, 1] else [3, 2, 2, 1]) ∧
  (Mi.answer (M2 i) q1).claims.map (·.text) = [heads.getD i []] ∧ (Mi.answer (M2 i) q2).claims.length = told.getD i 0 ∧ (i = 4 → (Mi.answer (M2 i) q1).claims.map (·.mark) = [(hd i).mark]) ∧
  ((L1 i).length ≤ 100 ∧ (L2 i).length ≤ 100 ∧ (B4 i).es.length ≤ 100 ∧ ∀ t ∈ (B4 i).es, t.length ≤ 100) ∧ ((M1 i).l 1).length ≤ 100 ∧ ((M1 i).l 2).length ≤ 100
instance (i : Nat) : Decidable (Says i) := by unfold Says; infer_instance
theorem says0 : Says 0 := by decide +kernel
theorem says1 : Says 1 := by decide +kernel
theorem says2 : Says 2 := by decide +kernel
theorem says3 : Says 3 := by decide +kernel
theorem says4 : Says 4 := by decide +kernel
theorem says (i : Nat) (hi : i < 5) : Says i := by
  match i, hi with
  | 0, _ => exact says0
  | 1, _ => exact says1
  | 2, _ => exact says2
  | 3, _ => exact says3
  | 4, _ => exact says4
end Go.Proofs.YtagmlemlagbfkaaGreatDoor.Ex37
namespace Go.Proofs.YtagmlemlagbfkaaGreatDoor.Mi
open Go.Lib Go.RowKit
open Bk (Seal Sgn noSgn isKey place valid sign Book)
open Cl (Clm right contra)
open Vw (Made Turn turnS)
set_option linter.unusedVariables false
set_option linter.unusedSimpArgs false

structure PAct where
  do_ : Int
  mirror : Int
  kind : Int
  n : Int
  name : List UInt8
  text : List UInt8
def pick (i : Int) (n : Nat) : Nat := ((i.tmod n + n).tmod n).toNat
theorem pick_lt (i : Int) {n : Nat} (h : 0 < n) : pick i n < n := by
  unfold pick
  have h1 : (-(n : Int)) < i.tmod n := by
    have h2 := Int.natAbs_tmod i (n : Int)
    have h3 : i.natAbs % (n : Int).natAbs < (n : Int).natAbs := Nat.mod_lt _ (by omega)
    omega
  have h2 := Int.tmod_lt_of_pos (i.tmod n + n) (b := (n : Int)) (by omega)
  have h3 := Int.tmod_nonneg (n : Int) (show 0 ≤ i.tmod n + n by omega)
  omega
structure PS where
  L : List Seal
  b : Book
  ms : List Mir
  cs : List (List UInt8)
  an : List Ans
  qs : List Ques
  now : Int
def line (a : PAct) : List UInt8 := Wire.textE a.name ++ a.text
def addC (cs : List (List UInt8)) (t : List UInt8) : List (List UInt8) := if t ∈ cs then cs else cs ++ [t]
def quesOf (a : PAct) : Ques := ⟨a.kind, a.n, a.name⟩
def mirOf (s : PS) (a : PAct) : Mir := s.ms.getD (pick a.mirror s.ms.length) (fresh 0)
def fedR (s : PS) (a : PAct) : Int × List Seal × Book × Mir := feed s.L s.b (mirOf s a) [a.name] s.cs (s.now + a.n)
def stepP (s : PS) (a : PAct) : PS :=
  if a.do_ = 0 then { s with b := (Bk.append s.b (line a)).2 }
  else if a.do_ = 1 then { s with cs := addC s.cs a.text }
  else if a.do_ = 2 then { s with L := (fedR s a).2.1, b := (fedR s a).2.2.1, ms := s.ms.set (pick a.mirror s.ms.length) (fedR s a).2.2.2, now := s.now + a.n }
  else if a.do_ = 3 then { s with an := s.an ++ [answer (mirOf s a) (quesOf a)], qs := s.qs ++ [quesOf a] }
  else s
def play (s : PS) (l : List PAct) : PS := l.foldl stepP s
theorem play_take (s : PS) (l : List PAct) (j : Nat) (h : j < l.length) : play s (l.take (j + 1)) = stepP (play s (l.take j)) l[j] := by
  unfold play
  rw [List.take_succ_eq_append_getElem h, List.foldl_append]
  rfl
/-! ### What Feed signs is the book's -/
section
variable {key : Int} {L : List Seal} {b : Book} {m : Mir} {M : List Sgn}
theorem entL_made (i n : Nat) (hn : ∀ j, j < n → i + j < b.es.length) (h : Made key ⟨L, b⟩ M) (hm : ∀ k, k < 3 → ∀ s ∈ m.l k, s ∈ M) :
    ∃ M', (∀ s ∈ M, s ∈ M') ∧ Made key ⟨(entL L b m i n).1, b⟩ M' ∧ ∀ k, k < 3 → ∀ s ∈ (entL L b m i n).2.l k, s ∈ M' := by
  induction n with
  | zero => exact ⟨M, fun s hs => hs, h, hm⟩
  | succ n ih =>
    obtain ⟨M1, g1, g2, g3⟩ := ih (fun j hj => hn j (by omega))
    have hin := hn n (by omega)
    have st := g2.step ⟨1, [], [], ((i + n : Nat) : Int)⟩
    have et : turnS ⟨(entL L b m i n).1, b⟩ ⟨1, [], [], ((i + n : Nat) : Int)⟩ = ((Bk.entry (entL L b m i n).1 b ((i + n : Nat) : Int)).1, ⟨(Bk.entry (entL L b m i n).1 b ((i + n : Nat) : Int)).2, b⟩) := rfl
    have e0 : (Bk.entry (entL L b m i n).1 b ((i + n : Nat) : Int)).1.2 = 0 := by
      unfold Bk.entry
      rw [if_neg (by omega)]
    rw [et] at st
    dsimp only at st
    rw [if_pos e0] at st
    refine ⟨_, fun s hs => List.mem_append_left _ (g1 s hs), st, fun k hk s hs => ?_⟩
    have hs' : s ∈ (push (entL L b m i n).2 0 (Bk.entry (entL L b m i n).1 b ((i + n : Nat) : Int)).1.1).l k := hs
    by_cases h0 : k = 0
    · subst h0
      rw [push_self] at hs'
      rcases List.mem_append.1 hs' with hs' | hs'
      · exact List.mem_append_left _ (g3 0 (by decide) s hs')
      · exact List.mem_append_right _ hs'
    · rw [push_ne _ _ h0] at hs'
      exact List.mem_append_left _ (g3 k hk s hs')
theorem absL_made (x : List Seal × Mir) (ks : List (List UInt8)) (h : Made key ⟨x.1, b⟩ M) (hm : ∀ k, k < 3 → ∀ s ∈ x.2.l k, s ∈ M) :
    ∃ M', (∀ s ∈ M, s ∈ M') ∧ Made key ⟨(absL b x ks).1, b⟩ M' ∧ ∀ k, k < 3 → ∀ s ∈ (absL b x ks).2.l k, s ∈ M' := by
  induction ks generalizing x M with
  | nil => exact ⟨M, fun s hs => hs, h, hm⟩
  | cons k ks ih =>
    have st := h.step ⟨3, k, [], (b.es.length : Int)⟩
    have et : turnS ⟨x.1, b⟩ ⟨3, k, [], (b.es.length : Int)⟩ = ((Bk.absent x.1 b k b.es.length).1, ⟨(Bk.absent x.1 b k b.es.length).2, b⟩) := rfl
    rw [et] at st
    dsimp only at st
    have hstep : ∃ M1, (∀ s ∈ M, s ∈ M1) ∧ Made key ⟨(absS b x k).1, b⟩ M1 ∧ ∀ i, i < 3 → ∀ s ∈ (absS b x k).2.l i, s ∈ M1 := by
      unfold absS
      dsimp only
      by_cases e0 : (Bk.absent x.1 b k b.es.length).1.2 = 0
      · rw [if_pos e0] at st
        rw [if_pos e0]
        refine ⟨_, fun s hs => List.mem_append_left _ hs, st, fun i hi s hs => ?_⟩
        by_cases h2 : i = 2
        · subst h2
          rw [push_self] at hs
          rcases List.mem_append.1 hs with hs | hs
          · exact List.mem_append_left _ (hm 2 (by decide) s hs)
          · exact List.mem_append_right _ hs
        · rw [push_ne _ _ h2] at hs
          exact List.mem_append_left _ (hm i hi s hs)
      · rw [if_neg e0] at st
        rw [if_neg e0]
        exact ⟨M, fun s hs => hs, st, hm⟩
    obtain ⟨M1, a1, a2, a3⟩ := hstep
    obtain ⟨M2, b1, b2, b3⟩ := ih (absS b x k) a2 a3
    exact ⟨M2, fun s hs => b1 s (a1 s hs), b2, b3⟩
theorem absL_l (b : Book) (x : List Seal × Mir) (ks : List (List UInt8)) : (absL b x ks).2.l 0 = x.2.l 0 ∧ (absL b x ks).2.l 1 = x.2.l 1 ∧ (absL b x ks).2.cs = x.2.cs ∧ (absL b x ks).2.mode = x.2.mode ∧ ((absL b x ks).2.l 2).length ≤ (x.2.l 2).length + ks.length := by
  induction ks generalizing x with
  | nil => exact ⟨rfl, rfl, rfl, rfl, Nat.le_refl _⟩
  | cons k ks ih =>
    obtain ⟨i1, i2, i3, i4, i5⟩ := ih (absS b x k)
    have e : absL b x (k :: ks) = absL b (absS b x k) ks := rfl
    rw [e, List.length_cons]
    have e2 : ((absS b x k).2.l 2).length ≤ (x.2.l 2).length + 1 ∧ (absS b x k).2.l 0 = x.2.l 0 ∧ (absS b x k).2.l 1 = x.2.l 1 ∧ (absS b x k).2.cs = x.2.cs ∧ (absS b x k).2.mode = x.2.mode := by
      unfold absS
      dsimp only
      split
      · rw [push_self, push_ne _ _ (by decide), push_ne _ _ (by decide), List.length_append]
        exact ⟨Nat.le_refl _, rfl, rfl, rfl, rfl⟩
      · exact ⟨Nat.le_succ _, rfl, rfl, rfl, rfl⟩
    exact ⟨i1.trans e2.2.1, i2.trans e2.2.2.1, i3.trans e2.2.2.2.1, i4.trans e2.2.2.2.2, by omega⟩
end
/-- What is true of a mirror. -/
structure MInv (M : List Sgn) (cs : List (List UInt8)) (m : Mir) : Prop where
  mem : ∀ i, i < 3 → ∀ s ∈ m.l i, s ∈ M
  none : m.l 1 = [] → m.l 0 = [] ∧ m.l 2 = []
  lag : m.mode = 1 → (m.l 1).length ≤ 1
  pre : ∃ r, cs = m.cs ++ r
theorem MInv.more {M M' : List Sgn} {cs : List (List UInt8)} {m : Mir} (h : MInv M cs m) (hM : ∀ s ∈ M, s ∈ M') : MInv M' cs m := ⟨fun i hi s hs => hM s (h.mem i hi s hs), h.none, h.lag, h.pre⟩
theorem minv_fresh (mode : Int) (cs : List (List UInt8)) : MInv [] cs (fresh mode) := ⟨fun i hi s hs => (by cases hs), fun _ => ⟨rfl, rfl⟩, fun _ => Nat.zero_le _, ⟨cs, rfl⟩⟩
section
variable {key : Int} {L : List Seal} {b : Book} {m : Mir} {M : List Sgn} {cs : List (List UInt8)}
/-- Feed: what is true stays true; the lengths. -/
theorem feed_inv (h : Made key ⟨L, b⟩ M) (hm : MInv M cs m) (ks : List (List UInt8)) (now : Int) :
    ∃ M', (∀ s ∈ M, s ∈ M') ∧ Made key ⟨(feed L b m ks cs now).2.1, (feed L b m ks cs now).2.2.1⟩ M' ∧ MInv M' cs (feed L b m ks cs now).2.2.2 ∧ (feed L b m ks cs now).2.2.2.mode = m.mode ∧ (feed L b m ks cs now).2.2.1.es = b.es ∧
      ((feed L b m ks cs now).2.2.1.last = b.last ∨ (feed L b m ks cs now).2.2.1.last = now) ∧
      (((feed L b m ks cs now).2.2.2.l 1).length ≤ (m.l 1).length + 1 ∧ ((feed L b m ks cs now).2.2.2.l 2).length ≤ (m.l 2).length + ks.length ∧ ((feed L b m ks cs now).2.2.2.l 0).length ≤ max (m.l 0).length b.es.length) := by
  have st := h.step ⟨2, [], [], now⟩
  have et : turnS ⟨L, b⟩ ⟨2, [], [], now⟩ = ((Bk.head L b now).1, ⟨(Bk.head L b now).2.1, (Bk.head L b now).2.2⟩) := rfl
  rw [et] at st
  dsimp only at st
  have hes : (Bk.head L b now).2.2.es = b.es ∧ ((Bk.head L b now).2.2.last = b.last ∨ (Bk.head L b now).2.2.last = now) := by
    unfold Bk.head
    split
    · exact ⟨rfl, Or.inl rfl⟩
    split
    · exact ⟨rfl, Or.inl rfl⟩
    · exact ⟨rfl, Or.inr rfl⟩
  unfold feed
  by_cases hl : m.mode = 1 ∧ m.l 1 ≠ []
  · rw [if_pos hl]
    exact ⟨M, fun s hs => hs, h, hm, rfl, rfl, Or.inl rfl, Nat.le_succ _, Nat.le_add_right _ _, Nat.le_max_left _ _⟩
  rw [if_neg hl]
  by_cases he : (Bk.head L b now).1.2 ≠ 0
  · rw [if_pos he]
    rw [if_neg he] at st
    exact ⟨M, fun s hs => hs, st, hm, rfl, hes.1, hes.2, Nat.le_succ _, Nat.le_add_right _ _, Nat.le_max_left _ _⟩
  rw [if_neg he]
  have he' : (Bk.head L b now).1.2 = 0 := by omega
  rw [if_pos he'] at st
  generalize (Bk.head L b now).1.1 = y at *
  generalize (Bk.head L b now).2.1 = L1 at *
  generalize (Bk.head L b now).2.2 = b1 at *
  have hpm : ∀ k, k < 3 → ∀ s ∈ (push m 1 y).l k, s ∈ M ++ [y] := fun k hk s hs => by
    by_cases h1 : k = 1
    · subst h1
      rw [push_self] at hs
      rcases List.mem_append.1 hs with hs | hs
      · exact List.mem_append_left _ (hm.mem 1 (by decide) s hs)
      · exact List.mem_append_right _ hs
    · rw [push_ne _ _ h1] at hs
      exact List.mem_append_left _ (hm.mem k hk s hs)
  unfold fed
  dsimp only
  have hp0 : (push m 1 y).l 0 = m.l 0 := push_ne _ _ (by decide)
  have hp2 : (push m 1 y).l 2 = m.l 2 := push_ne _ _ (by decide)
  have hpc : (push m 1 y).cs = m.cs := rfl
  rw [hp0, hpc]
  obtain ⟨M1, a1, a2, a3⟩ := entL_made (m.l 0).length (b1.es.length - (m.l 0).length) (fun j hj => by omega) st hpm
  obtain ⟨M2, b1', b2, b3⟩ := absL_made (b := b1) (entL L1 b1 (push m 1 y) (m.l 0).length (b1.es.length - (m.l 0).length)) ks a2 a3
  obtain ⟨c1, c2, c3, c4, c5⟩ := entL_l L1 b1 (push m 1 y) (m.l 0).length (b1.es.length - (m.l 0).length)
  obtain ⟨d1, d2, d3, d4, d5⟩ := absL_l b1 (entL L1 b1 (push m 1 y) (m.l 0).length (b1.es.length - (m.l 0).length)) ks
  have e1 : (absL b1 (entL L1 b1 (push m 1 y) (m.l 0).length (b1.es.length - (m.l 0).length)) ks).2.l 1 = m.l 1 ++ [y] := d2.trans (c2.trans (push_self m 1 y))
  have e2 : (absL b1 (entL L1 b1 (push m 1 y) (m.l 0).length (b1.es.length - (m.l 0).length)) ks).2.cs = m.cs := d3.trans c5
  have e3 : (absL b1 (entL L1 b1 (push m 1 y) (m.l 0).length (b1.es.length - (m.l 0).length)) ks).2.mode = m.mode := d4.trans c4
  have e4 : ((absL b1 (entL L1 b1 (push m 1 y) (m.l 0).length (b1.es.length - (m.l 0).length)) ks).2.l 2).length ≤ (m.l 2).length + ks.length := by rw [c3, hp2] at d5; exact d5
  have e5 : ((absL b1 (entL L1 b1 (push m 1 y) (m.l 0).length (b1.es.length - (m.l 0).length)) ks).2.l 0).length ≤ max (m.l 0).length b.es.length := by rw [d1, c1, hp0, hes.1]; omega
  clear c1 c2 c3 c4 c5 d1 d2 d3 d4 d5 a2 a3
  generalize absL b1 (entL L1 b1 (push m 1 y) (m.l 0).length (b1.es.length - (m.l 0).length)) ks = X at *
  obtain ⟨L2, m2⟩ := X
  dsimp only at *
  refine ⟨M2, fun s hs => b1' s (a1 s (List.mem_append_left _ hs)), b2, ?_, ?_, hes.1, hes.2, ?_⟩
  · split
    · exact ⟨b3, fun e => by exfalso; dsimp only at e; rw [e1] at e; simp at e, fun e => by
        dsimp only at e ⊢
        rw [e3] at e
        rw [e1]
        have : m.l 1 = [] := by
          cases h1 : m.l 1 with
          | nil => rfl
          | cons a0 l0 => exact absurd ⟨e, by rw [h1]; simp⟩ hl
        rw [this]; simp, ⟨[], by simp⟩⟩
    · exact ⟨b3, fun e => by exfalso; rw [e1] at e; simp at e, fun e => by
        rw [e3] at e
        rw [e1]
        have : m.l 1 = [] := by
          cases h1 : m.l 1 with
          | nil => rfl
          | cons a0 l0 => exact absurd ⟨e, by rw [h1]; simp⟩ hl
        rw [this]; simp, by rw [e2]; exact hm.pre⟩
  · split <;> exact e3
  · refine ⟨?_, ?_, ?_⟩
    · split <;> (show (m2.l 1).length ≤ _; rw [e1]; simp)
    · split <;> exact e4
    · split <;> exact e5
end
/-! ### What is true after acts -/
structure PInv (key : Int) (n : Nat) (s : PS) (M : List Sgn) : Prop where
  made : Made key ⟨s.L, s.b⟩ M
  last : s.b.last ≤ s.now
  now : 0 ≤ s.now ∧ s.now ≤ 1000000 * n
  ms : ∀ m ∈ s.ms, MInv M s.cs m ∧ (m.l 0).length ≤ n ∧ (m.l 1).length ≤ n ∧ (m.l 2).length ≤ n
  nd : s.cs.Nodup
  cs : s.cs.length ≤ n ∧ ∀ t ∈ s.cs, t.length ≤ 100
  ans : ∀ a ∈ s.an, ∀ c ∈ a.claims, c ∈ M ∨ ∃ t ∈ M, c = forge t
  len : s.b.es.length ≤ n ∧ s.an.length ≤ n ∧ s.qs.length = s.an.length
structure ActOk (a : PAct) : Prop where
  name : a.name.length ≤ 100
  text : a.text.length ≤ 100
  n : a.do_ = 2 → 0 ≤ a.n ∧ a.n ≤ 1000000
theorem answer_claims {m : Mir} {M : List Sgn} {cs : List (List UInt8)} (h : MInv M cs m) (q : Ques) : ∀ c ∈ (answer m q).claims, (m.mode ≠ 4 ∧ c ∈ M) ∨ (m.mode = 4 ∧ ∃ t ∈ M, c = forge t) := by
  intro c hc
  unfold answer at hc
  dsimp only at hc
  by_cases h4 : m.mode = 4
  · rw [if_pos h4] at hc
    obtain ⟨t, ht, rfl⟩ := List.mem_map.1 hc
    obtain ⟨i, hi, hs⟩ := find_mem ht
    exact Or.inr ⟨h4, t, h.mem i hi t hs, rfl⟩
  · rw [if_neg h4] at hc
    obtain ⟨i, hi, hs⟩ := find_mem hc
    exact Or.inl ⟨h4, h.mem i hi c hs⟩
theorem append_spec (b : Book) (t : List UInt8) : (Bk.append b t).2.last = b.last ∧ (Bk.append b t).2.es.length ≤ b.es.length + 1 := by
  unfold Bk.append
  (repeat' split)
  · exact ⟨rfl, Nat.le_succ _⟩
  · exact ⟨rfl, Nat.le_succ _⟩
  · exact ⟨rfl, Nat.le_succ _⟩
  · exact ⟨rfl, by simp⟩
theorem PInv.step {key : Int} {n : Nat} {s : PS} {M : List Sgn} (h : PInv key n s M) (hms : 0 < s.ms.length) {a : PAct} (ha : ActOk a) : ∃ M', PInv key (n + 1) (stepP s a) M' ∧ (∀ x ∈ M, x ∈ M') ∧ (stepP s a).ms.length = s.ms.length ∧ (stepP s a).ms.map (·.mode) = s.ms.map (·.mode) := by
  have hj := pick_lt a.mirror hms
  have hmo : mirOf s a = s.ms[pick a.mirror s.ms.length] := by unfold mirOf; rw [List.getD_eq_getElem?_getD, List.getElem?_eq_getElem hj]; rfl
  have hmi := h.ms _ (List.getElem_mem hj)
  rw [← hmo] at hmi
  have hnow := h.now
  unfold stepP
  by_cases h0 : a.do_ = 0
  · rw [if_pos h0]
    have st := h.made.step ⟨0, a.name, a.text, 0⟩
    have et : turnS ⟨s.L, s.b⟩ ⟨0, a.name, a.text, 0⟩ = ((noSgn, 4), ⟨s.L, (Bk.append s.b (Wire.textE a.name ++ a.text)).2⟩) := rfl
    rw [et] at st
    dsimp only at st
    rw [if_neg (by decide)] at st
    obtain ⟨p1, p2⟩ := append_spec s.b (line a)
    exact ⟨M, ⟨st, by rw [p1]; exact h.last, ⟨hnow.1, by dsimp only; push_cast; omega⟩, fun m hm => ⟨(h.ms m hm).1, by have := (h.ms m hm).2; omega⟩, h.nd, ⟨by have := h.cs.1; dsimp only; omega, h.cs.2⟩, h.ans, ⟨by have := h.len.1; dsimp only; omega, by have := h.len.2.1; dsimp only; omega, h.len.2.2⟩⟩, fun x hx => hx, rfl, rfl⟩
  rw [if_neg h0]
  by_cases h1 : a.do_ = 1
  · rw [if_pos h1]
    refine ⟨M, ⟨h.made, h.last, ⟨hnow.1, by dsimp only; push_cast; omega⟩, fun m hm => ⟨⟨(h.ms m hm).1.mem, (h.ms m hm).1.none, (h.ms m hm).1.lag, ?_⟩, by have := (h.ms m hm).2; omega⟩, ?_, ?_, h.ans, ⟨by have := h.len.1; dsimp only; omega, by have := h.len.2.1; dsimp only; omega, h.len.2.2⟩⟩, fun x hx => hx, rfl, rfl⟩
    · obtain ⟨r, hr⟩ := (h.ms m hm).1.pre
      dsimp only
      unfold addC
      split
      · exact ⟨r, hr⟩
      · exact ⟨r ++ [a.text], by rw [← List.append_assoc, ← hr]⟩
    · dsimp only
      unfold addC
      split
      · exact h.nd
      · rename_i hn
        rw [List.nodup_append]
        exact ⟨h.nd, by simp, fun x hx y hy e => by rw [List.mem_singleton] at hy; subst hy; subst e; exact hn hx⟩
    · dsimp only
      unfold addC
      split
      · exact ⟨by have := h.cs.1; omega, h.cs.2⟩
      · refine ⟨by rw [List.length_append]; have := h.cs.1; simp; omega, fun t ht => ?_⟩
        rcases List.mem_append.1 ht with ht | ht
        · exact h.cs.2 t ht
        · rw [List.mem_singleton.1 ht]; exact ha.text
  rw [if_neg h1]
  by_cases h2 : a.do_ = 2
  · rw [if_pos h2]
    have hn := ha.n h2
    obtain ⟨M', g1, g2, g3, g4, g5, g6, g7, g8, g9⟩ := feed_inv h.made hmi.1 [a.name] (s.now + a.n)
    unfold fedR
    generalize hX : feed s.L s.b (mirOf s a) [a.name] s.cs (s.now + a.n) = X at *
    refine ⟨M', ⟨g2, ?_, ⟨by dsimp only; omega, by dsimp only; push_cast; omega⟩, fun m hm => ?_, h.nd, ⟨by have := h.cs.1; dsimp only; omega, h.cs.2⟩, fun a' ha' c hc => ?_, ⟨by have := h.len.1; dsimp only; rw [g5]; omega, by have := h.len.2.1; dsimp only; omega, h.len.2.2⟩⟩, g1, by simp, ?_⟩
    · have := h.last
      dsimp only
      rcases g6 with e | e <;> rw [e] <;> omega
    · dsimp only at hm ⊢
      rcases List.mem_or_eq_of_mem_set hm with hm | rfl
      · exact ⟨(h.ms m hm).1.more g1, by have := (h.ms m hm).2; omega⟩
      · refine ⟨g3, ?_, ?_, ?_⟩
        · have := h.len.1; omega
        · omega
        · simp at g8; omega
    · rcases h.ans a' ha' c hc with e | ⟨t, ht, e⟩
      · exact Or.inl (g1 c e)
      · exact Or.inr ⟨t, g1 t ht, e⟩
    · dsimp only
      rw [List.map_set, g4, hmo]
      have : (s.ms.map (·.mode)).set (pick a.mirror s.ms.length) ((s.ms.map (·.mode))[pick a.mirror s.ms.length]'(by simpa using hj)) = s.ms.map (·.mode) := List.set_getElem_self _
      rw [List.getElem_map] at this
      exact this
  rw [if_neg h2]
  by_cases h3 : a.do_ = 3
  · rw [if_pos h3]
    refine ⟨M, ⟨h.made, h.last, ⟨hnow.1, by dsimp only; push_cast; omega⟩, fun m hm => ⟨(h.ms m hm).1, by have := (h.ms m hm).2; omega⟩, h.nd, ⟨by have := h.cs.1; dsimp only; omega, h.cs.2⟩, fun a' ha' c hc => ?_, ⟨by have := h.len.1; dsimp only; omega, by have := h.len.2.1; dsimp only; rw [List.length_append]; simp; omega, by dsimp only; rw [List.length_append, List.length_append, h.len.2.2]; rfl⟩⟩, fun x hx => hx, rfl, rfl⟩
    dsimp only at ha'
    rcases List.mem_append.1 ha' with ha' | ha'
    · exact h.ans a' ha' c hc
    · rw [List.mem_singleton.1 ha'] at hc
      rcases answer_claims hmi.1 (quesOf a) c hc with ⟨_, e⟩ | ⟨_, e⟩
      · exact Or.inl e
      · exact Or.inr e
  · rw [if_neg h3]
    exact ⟨M, ⟨h.made, h.last, ⟨hnow.1, by push_cast; omega⟩, fun m hm => ⟨(h.ms m hm).1, by have := (h.ms m hm).2; omega⟩, h.nd, ⟨by have := h.cs.1; omega, h.cs.2⟩, h.ans, ⟨by have := h.len.1; omega, by have := h.len.2.1; omega, h.len.2.2⟩⟩, fun x hx => hx, rfl, rfl⟩
def start (key : Int) (ms : List Mir) : PS := ⟨[], Bk.new key, ms, [], [], [], 0⟩
theorem pinv_start {key : Int} (hk : isKey key = true) {ms : List Mir} (hms : ∀ m ∈ ms, ∃ k, m = fresh k) : PInv key 0 (start key ms) [] :=
  ⟨Made.start hk, by show (-1 : Int) ≤ 0; decide, ⟨Int.le_refl _, by show (0 : Int) ≤ _; simp⟩, fun m hm => by obtain ⟨k, rfl⟩ := hms m hm; exact ⟨minv_fresh k [], Nat.le_refl _, Nat.le_refl _, Nat.le_refl _⟩, List.nodup_nil, ⟨Nat.le_refl _, fun t ht => (by cases ht)⟩, fun a ha => (by cases ha), ⟨Nat.le_refl _, Nat.le_refl _, rfl⟩⟩
theorem play_inv {key : Int} {s : PS} (h0 : PInv key 0 s []) (hms : 0 < s.ms.length) (l : List PAct) (hl : ∀ a ∈ l, ActOk a) (j : Nat) (hj : j ≤ l.length) : (∃ M, PInv key j (play s (l.take j)) M) ∧ (play s (l.take j)).ms.map (·.mode) = s.ms.map (·.mode) := by
  induction j with
  | zero => exact ⟨⟨[], h0⟩, rfl⟩
  | succ j ih =>
    obtain ⟨⟨M, h⟩, e⟩ := ih (by omega)
    rw [play_take s l j (by omega)]
    have hlen : (play s (l.take j)).ms.length = s.ms.length := by have := congrArg List.length e; simpa using this
    obtain ⟨M', g1, -, -, g3⟩ := h.step (by omega) (hl l[j] (List.getElem_mem (by omega)))
    exact ⟨⟨M', g1⟩, g3.trans e⟩
end Go.Proofs.YtagmlemlagbfkaaGreatDoor.Mi
namespace Go.Proofs.YtagmlemlagbfkaaGreatDoor.Mi
open Go.Lib Go.RowKit
open Bk (Seal Sgn noSgn isKey place valid sign Book)
open Cl (Clm right contra)
open Vw (Made Turn turnS accept)
set_option linter.unusedVariables false
set_option linter.unusedSimpArgs false

def genuine (l : List (List UInt8)) (q : Ques) (a : Ans) : Bool := decide (q.kind = 3) && (a.has && ((textC l q.n).2 && decide ((textC l q.n).1 = a.text)))
/-! ### Forged claims -/
theorem forge_log {key : Int} {x : Bk.St} {M : List Sgn} (h : Made key x M) {t : Sgn} (ht : t ∈ M) : Vw.isLog (forge t).text = false := by
  obtain ⟨h1, h2, h3, -⟩ := Vw.log_spec (h.each t ht).2.2
  unfold Vw.isLog forge
  dsimp only
  rw [← h2, Cl.read_more h1 (by simp)]
  rfl
theorem forge_accept {key : Int} {x : Bk.St} {M : List Sgn} (h : Made key x M) (L : List Sgn) {t : Sgn} (ht : t ∈ M) : (accept x.L key L (forge t)).1 ≠ 0 ∧ (accept x.L key L (forge t)).1 ≠ 21 ∧ (accept x.L key L (forge t)).2 = L := by
  unfold accept
  split
  · exact ⟨by show (18 : Int) ≠ 0; decide, by show (18 : Int) ≠ 21; decide, rfl⟩
  split
  · exact ⟨by show (22 : Int) ≠ 0; decide, by show (22 : Int) ≠ 21; decide, rfl⟩
  rw [if_pos (forge_log h ht)]
  exact ⟨by show (2 : Int) ≠ 0; decide, by show (2 : Int) ≠ 21; decide, rfl⟩
theorem answer_len (m : Mir) (q : Ques) : (answer m q).claims.length ≤ 1 := by
  unfold answer
  dsimp only
  split
  · rw [List.length_map]; exact find_len m q
  · exact find_len m q
/-! ### What is asked of each mirror -/
def many (e c : Nat) : Nat := min (max e c + 1) 40
/-! ### Ask, with an honest book -/
section
variable {key : Int} {x : Bk.St} {M : List Sgn}
/-- What Ask leaves. -/
structure Calm (M : List Sgn) (r : AskR) : Prop where
  e : r.e = 0
  old : r.old = noSgn
  odd : r.odd = noSgn
  mem : ∀ s ∈ r.L, s ∈ M
def Told (M : List Sgn) (c : Sgn) : Prop := c ∈ M ∨ ∃ t ∈ M, c = forge t
theorem Calm.step (h : Made key x M) {r : AskR} (hr : Calm M r) {c : Sgn} (hc : Told M c) : Calm M (askS x.L key r c) ∧ (∀ s ∈ r.L, s ∈ (askS x.L key r c).L) ∧ (c ∈ M → c ∈ (askS x.L key r c).L) := by
  have hne : (accept x.L key r.L c).1 ≠ 21 := by
    rcases hc with hc | ⟨t, ht, rfl⟩
    · rw [(Vw.made_accept h hr.mem hc).1]; decide
    · exact (forge_accept h r.L ht).2.1
  have hm : ∀ s ∈ (accept x.L key r.L c).2, s ∈ M := by
    rcases hc with hc | ⟨t, ht, rfl⟩
    · exact (Vw.made_accept h hr.mem hc).2
    · rw [(forge_accept h r.L ht).2.2]; exact hr.mem
  have hk : (∀ s ∈ r.L, s ∈ (accept x.L key r.L c).2) ∧ (c ∈ M → c ∈ (accept x.L key r.L c).2) := by
    refine ⟨fun s hs => ?_, fun hc => ?_⟩
    · rcases Vw.accept_cases x.L key r.L c with h | h | h | h | h | h
      · rw [h.2]; exact hs
      · rw [h.2.2]; exact hs
      · rw [h.2.2.2]; exact hs
      · rw [h.2.2.2.2]; exact hs
      · rw [h.2.2.2.2.2]; exact hs
      · rw [h.2.2.2.2.2]; exact List.mem_append_left _ hs
    · have h0 := (Vw.made_accept h hr.mem hc).1
      rcases Vw.accept_cases x.L key r.L c with h | h | h | h | h | h
      · rw [h.2] at h0; exact absurd (show (18 : Int) = 0 from h0) (by decide)
      · rw [h.2.2] at h0; exact absurd (show (22 : Int) = 0 from h0) (by decide)
      · rw [h.2.2.2] at h0; exact absurd (show (2 : Int) = 0 from h0) (by decide)
      · rw [h.2.2.2.2] at h0; exact absurd (show (21 : Int) = 0 from h0) (by decide)
      · rw [h.2.2.2.2.2]; exact h.2.2.2.2.1
      · rw [h.2.2.2.2.2]; exact List.mem_append_right _ (by simp)
  unfold askS
  rw [if_neg (fun e => hne e.1)]
  exact ⟨⟨hr.e, hr.old, hr.odd, hm⟩, hk⟩
theorem Calm.list (h : Made key x M) (l : List Sgn) : ∀ {r : AskR}, Calm M r → (∀ c ∈ l, Told M c) → Calm M (askL x.L key r l) ∧ (∀ s ∈ r.L, s ∈ (askL x.L key r l).L) ∧ ∀ c ∈ l, c ∈ M → c ∈ (askL x.L key r l).L := by
  induction l with
  | nil => exact fun hr _ => ⟨hr, fun s hs => hs, fun c hc => by cases hc⟩
  | cons c l ih =>
    intro r hr hc
    obtain ⟨a1, a2, a3⟩ := hr.step h (hc c (by simp))
    obtain ⟨b1, b2, b3⟩ := ih a1 (fun d hd => hc d (by simp [hd]))
    refine ⟨b1, fun s hs => b2 s (a2 s hs), fun d hd hM => ?_⟩
    rcases List.mem_cons.1 hd with rfl | hd
    · exact b2 _ (a3 hM)
    · exact b3 d hd hM
theorem Calm.all (h : Made key x M) (an : List Ans) : ∀ {r : AskR}, Calm M r → (∀ a ∈ an, ∀ c ∈ a.claims, Told M c) → Calm M (askA x.L key r an) ∧ ∀ a ∈ an, ∀ c ∈ a.claims, c ∈ M → c ∈ (askA x.L key r an).L := by
  have hkeep : ∀ (an : List Ans) {r : AskR}, Calm M r → (∀ a ∈ an, ∀ c ∈ a.claims, Told M c) → Calm M (askA x.L key r an) ∧ (∀ s ∈ r.L, s ∈ (askA x.L key r an).L) ∧ ∀ a ∈ an, ∀ c ∈ a.claims, c ∈ M → c ∈ (askA x.L key r an).L := by
    intro an
    induction an with
    | nil => exact fun hr _ => ⟨hr, fun s hs => hs, fun a ha => by cases ha⟩
    | cons a an ih =>
      intro r hr hc
      obtain ⟨a1, a2, a3⟩ := Calm.list h a.claims hr (hc a (by simp))
      obtain ⟨b1, b2, b3⟩ := ih a1 (fun d hd => hc d (by simp [hd]))
      refine ⟨b1, fun s hs => b2 s (a2 s hs), fun d hd c hc2 hM => ?_⟩
      rcases List.mem_cons.1 hd with rfl | hd
      · exact b2 _ (a3 c hc2 hM)
      · exact b3 d hd c hc2 hM
  intro r hr hc
  obtain ⟨a, b, c⟩ := hkeep an hr hc
  exact ⟨a, c⟩
theorem ask_calm (h : Made key x M) (an : List Ans) {L : List Sgn} (hL : ∀ s ∈ L, s ∈ M) (hc : ∀ a ∈ an, ∀ c ∈ a.claims, Told M c) : Calm M (ask x.L key L an) ∧ ∀ a ∈ an, ∀ c ∈ a.claims, c ∈ M → c ∈ (ask x.L key L an).L :=
  Calm.all h an ⟨rfl, rfl, rfl, hL⟩ hc
end
/-! ### The time of the last head -/
theorem size_time (L : List Sgn) : (Vw.sizeOf L).2 = -1 ∨ ∃ s ∈ L, (Vw.claimOf s).kind = 1 ∧ (Vw.claimOf s).time = (Vw.sizeOf L).2 := by
  have : ∀ R : List Sgn, (Vw.sizeOf R.reverse).2 = -1 ∨ ∃ s ∈ R.reverse, (Vw.claimOf s).kind = 1 ∧ (Vw.claimOf s).time = (Vw.sizeOf R.reverse).2 := by
    intro R
    induction R with
    | nil => exact Or.inl rfl
    | cons a R ih =>
      rw [List.reverse_cons, Vw.sizeOf_snoc]
      unfold Vw.sizeStep
      split
      · rename_i h
        exact Or.inr ⟨a, by simp, h.1, rfl⟩
      · rcases ih with h | ⟨s, hs, h1, h2⟩
        · exact Or.inl h
        · exact Or.inr ⟨s, List.mem_append_left _ hs, h1, h2⟩
  have := this L.reverse
  rwa [List.reverse_reverse] at this
theorem made_time {key : Int} {x : Bk.St} {M : List Sgn} (h : Made key x M) {s : Sgn} (hs : s ∈ M) (hk : (Vw.claimOf s).kind = 1) : (Vw.claimOf s).time ≤ x.b.last := by
  have := h.tru hs
  generalize Vw.claimOf s = c at *
  cases this with
  | entry i hi => exact absurd (show (0 : Int) = 1 from hk) (by decide)
  | size n t h1 h2 h3 => exact h1
  | absent n k hn h => exact absurd (show (2 : Int) = 1 from hk) (by decide)
theorem time_le {key : Int} {x : Bk.St} {M L : List Sgn} (h : Made key x M) (hL : ∀ s ∈ L, s ∈ M) {now : Int} (hb : x.b.last ≤ now) (h0 : 0 ≤ now) : (Vw.sizeOf L).2 ≤ now := by
  rcases size_time L with e | ⟨s, hs, h1, h2⟩
  · omega
  · have := made_time h (hL s hs) h1
    omega
theorem askE_calm {M : List Sgn} {r : AskR} (h : Calm M r) (now bound : Int) : (askE r now bound = 0 ↔ 0 ≤ Vw.age r.L now ∧ Vw.age r.L now ≤ bound) ∧ askE r now bound ≠ 21 := by
  unfold askE
  rw [h.e]
  by_cases hc : Vw.age r.L now < 0 ∨ bound < Vw.age r.L now
  · rw [if_pos ⟨rfl, hc⟩]
    exact ⟨⟨fun e => absurd e (by decide), fun e => by omega⟩, by decide⟩
  · rw [if_neg (fun e => hc e.2)]
    exact ⟨⟨fun _ => by omega, fun _ => rfl⟩, by decide⟩
/-! ### One more honest mirror, fed now -/
end Go.Proofs.YtagmlemlagbfkaaGreatDoor.Mi
namespace Go.Proofs.YtagmlemlagbfkaaGreatDoor
open Go.RowKit
set_option linter.unusedVariables false
set_option linter.unusedSimpArgs false
attribute [local irreducible] Calls

section
variable {W : World} {N : Nat} {c : Nat → Res} {F : Nat → Prop} {z : World} {Lr L' : List Bk.Seal} {rb bb vb : Nat} {b b' : Bk.Book} {key : Int} {L : List Bk.Sgn} {r i : Nat}
theorem setC_setC (c : Nat → Res) (i : Nat) (P Q : Res) : setC (setC c i P) i Q = setC c i Q := by
  funext k
  by_cases h : k = i
  · subst h; rw [setC_self, setC_self]
  · rw [setC_ne _ _ h, setC_ne _ _ h, setC_ne _ _ h]
theorem setC_comm (c : Nat → Res) {i j : Nat} (P Q : Res) (h : i ≠ j) : setC (setC c i P) j Q = setC (setC c j Q) i P := by
  funext k
  by_cases hi : k = i
  · subst hi; rw [setC_ne _ _ h, setC_self, setC_self]
  · by_cases hj : k = j
    · subst hj; rw [setC_self, setC_ne _ _ hi, setC_self]
    · rw [setC_ne _ _ hj, setC_ne _ _ hi, setC_ne _ _ hi, setC_ne _ _ hj]
theorem setC_id (c : Nat → Res) (i : Nat) : setC c i (c i) = c := by
  funext k
  by_cases h : k = i
  · subst h; rw [setC_self]
  · rw [setC_ne _ _ h]
/-- A call of a book, into the ring. -/
theorem at_book (h : At W N c F z) (g : Gl W) (hr : r < N) (hi : i < N) (hri : r ≠ i) (er : c r = RingC W.heap.size rb Lr) (ei : c i = BookC W.heap.size bb rb b) {Q : Ending → Prop} {fn : FuncId} {args : Array Value}
    (k : ∀ q br, q.rb = rb → br.bb = bb → Both W.heap.size z q br ⟨Lr, b⟩ → Calls Tryz.prog fn args z fun e z' => Q e ∧ ∃ q' br', Moved W.heap.size q br ⟨L', b'⟩ z z' q' br') :
    Calls Tryz.prog fn args z fun e z' => Q e ∧ At W N (setC (setC c r (RingC W.heap.size rb L')) i (BookC W.heap.size bb rb b')) F z' ∧ MovesN W F z z' := by
  refine At.call2 h hr hi hri (RingC.stab _ _ _) (BookC.stab _ _ _ _) (Q := Q) fun f g' hf hg hd => ?_
  rw [er] at hf
  rw [ei] at hg
  obtain ⟨q, a1, a2, rfl⟩ := hf
  obtain ⟨br, b1, b2, rfl⟩ := hg
  refine (k q br a1 b1 ⟨a2, by rw [a1]; exact b2, hd⟩).mono ?_
  rintro e z' ⟨hq, q', br', mv⟩
  refine ⟨hq, q'.foot, br'.foot, ⟨q', mv.rb.trans a1, mv.both.ring, rfl⟩, ⟨br', mv.bb.trans b1, ?_, rfl⟩, mv.upd, mv.f1, mv.f2, mv.both.dis⟩
  have := mv.both.book
  rw [mv.rb, a1] at this
  exact this
theorem at_append (h : At W N c F z) (g : Gl W) (hr : r < N) (hi : i < N) (hri : r ≠ i) (er : c r = RingC W.heap.size rb Lr) (ei : c i = BookC W.heap.size bb rb b) (s : ByteArray) (t : List UInt8) (hs : s.data.toList = t) (ht : t.length ≤ 1000000) :
    Calls Tryz.prog 68 #[.pointer (some ⟨bb, 0, none⟩), .string s] z fun e w' => e = .returned (.tuple #[.int .i64 (Bk.append b t).1.1, .int .i64 (Bk.append b t).1.2]) ∧ At W N (setC (setC c r (RingC W.heap.size rb Lr)) i (BookC W.heap.size bb rb (Bk.append b t).2)) F w' ∧ MovesN W F z w' := by
  have hg := h.gl g
  have hB := h.nw0.size
  obtain rfl : s = ⟨t.toArray⟩ := by rw [← hs, bs_eta]
  refine at_book h g hr hi hri er ei fun q br e1 e2 hb => ?_
  rw [← e2]
  refine (append_b _ br q.rb b t z hg hb.book hB (by omega)).mono ?_
  rintro e w' ⟨br', rfl, c1, c2, u, hf⟩
  exact ⟨rfl, _, _, moved_app hb c1 c2 u hf⟩
theorem at_entry (h : At W N c F z) (g : Gl W) (hr : r < N) (hi : i < N) (hri : r ≠ i) (er : c r = RingC W.heap.size rb Lr) (ei : c i = BookC W.heap.size bb rb b) (j : Int) (hj : I64 j) (hL : Lr.length ≤ 1000000) {y : Bk.Sgn} {e0 : Int} {L' : List Bk.Seal} (e : Bk.entry Lr b j = ((y, e0), L')) :
    Calls Tryz.prog 127 #[.pointer (some ⟨bb, 0, none⟩), .int .i64 j] z fun e w' => e = .returned (.tuple #[.agg #[.int .i64 y.key, .string ⟨y.text.toArray⟩, .int .i64 y.mark], .int .i64 e0]) ∧ At W N (setC (setC c r (RingC W.heap.size rb L')) i (BookC W.heap.size bb rb b)) F w' ∧ MovesN W F z w' := by
  have hg := h.gl g
  have hB := h.nw0.size
  refine at_book h g hr hi hri er ei fun q br e1 e2 hb => ?_
  rw [← e2]
  refine (entry_b _ q br Lr b j z hg hb.ring hb.book hB hj hL).mono ?_
  rintro _ w' ⟨q', rfl, c1, c2, u, hf⟩
  rw [e] at c1 ⊢
  exact ⟨rfl, _, _, moved_sgn hb c1 c2 u hf⟩
theorem at_head (h : At W N c F z) (g : Gl W) (hr : r < N) (hi : i < N) (hri : r ≠ i) (er : c r = RingC W.heap.size rb Lr) (ei : c i = BookC W.heap.size bb rb b) (j : Int) (hj : I64 j) (hL : Lr.length ≤ 1000000) {y : Bk.Sgn} {e0 : Int} {L' : List Bk.Seal} {b' : Bk.Book} (e : Bk.head Lr b j = ((y, e0), L', b')) :
    Calls Tryz.prog 124 #[.pointer (some ⟨bb, 0, none⟩), .int .i64 j] z fun e w' => e = .returned (.tuple #[.agg #[.int .i64 y.key, .string ⟨y.text.toArray⟩, .int .i64 y.mark], .int .i64 e0]) ∧ At W N (setC (setC c r (RingC W.heap.size rb L')) i (BookC W.heap.size bb rb b')) F w' ∧ MovesN W F z w' := by
  have hg := h.gl g
  have hB := h.nw0.size
  refine at_book h g hr hi hri er ei fun q br e1 e2 hb => ?_
  rw [← e2]
  refine (head_b _ q br Lr b j z hg hb.ring hb.book hB hj hb.dis hL).mono ?_
  rintro _ w' ⟨q', rfl, c1, c2, c3, u, hf⟩
  rw [e] at c1 c3 ⊢
  exact ⟨rfl, _, _, moved_head (x' := ⟨L', b'⟩) hb c1 c3 c2 u hf⟩
theorem at_absent (h : At W N c F z) (g : Gl W) (hr : r < N) (hi : i < N) (hri : r ≠ i) (er : c r = RingC W.heap.size rb Lr) (ei : c i = BookC W.heap.size bb rb b) (k : List UInt8) (j : Int) (hj : I64 j) (hk : k.length ≤ 1000000) (hL : Lr.length ≤ 1000000) {y : Bk.Sgn} {e0 : Int} {L' : List Bk.Seal} (e : Bk.absent Lr b k j = ((y, e0), L')) :
    Calls Tryz.prog 128 #[.pointer (some ⟨bb, 0, none⟩), .string ⟨k.toArray⟩, .int .i64 j] z fun e w' => e = .returned (.tuple #[.agg #[.int .i64 y.key, .string ⟨y.text.toArray⟩, .int .i64 y.mark], .int .i64 e0]) ∧ At W N (setC (setC c r (RingC W.heap.size rb L')) i (BookC W.heap.size bb rb b)) F w' ∧ MovesN W F z w' := by
  have hg := h.gl g
  have hB := h.nw0.size
  refine at_book h g hr hi hri er ei fun q br e1 e2 hb => ?_
  rw [← e2]
  refine (absent_b _ q br Lr b k j z hg hb.ring hb.book hB hj (by omega) hL).mono ?_
  rintro _ w' ⟨q', rfl, c1, c2, u, hf⟩
  rw [e] at c1 ⊢
  exact ⟨rfl, _, _, moved_sgn hb c1 c2 u hf⟩
theorem at_bookAt (h : At W N c F z) (hi : i < N) (ei : c i = BookC W.heap.size bb rb b) : ∃ q, q.bb = bb ∧ BookAt W.heap.size z q rb b := by
  obtain ⟨f, hf⟩ := h.get hi
  rw [ei] at hf
  obtain ⟨q, a, b, _⟩ := hf
  exact ⟨q, a, b⟩
theorem at_viewAt (h : At W N c F z) (hi : i < N) (ei : c i = ViewC W.heap.size vb rb key L) : ∃ q, q.vb = vb ∧ ViewAt W.heap.size z q rb key L := by
  obtain ⟨f, hf⟩ := h.get hi
  rw [ei] at hf
  obtain ⟨q, a, b, _⟩ := hf
  exact ⟨q, a, b⟩
theorem at_len (h : At W N c F z) (hi : i < N) (ei : c i = BookC W.heap.size bb rb b) :
    Calls Tryz.prog 126 #[.pointer (some ⟨bb, 0, none⟩)] z fun e w' => e = .returned (.int .i64 b.es.length) ∧ Nw z w' := by
  obtain ⟨q, rfl, hq⟩ := at_bookAt h hi ei
  exact len_b _ _ _ _ _ hq
theorem at_accept (h : At W N c F z) (g : Gl W) (hr : r < N) (hi : i < N) (hri : r ≠ i) (er : c r = RingC W.heap.size rb Lr) (ei : c i = ViewC W.heap.size vb rb key L) (hv : Vw.VOk Lr key L) (s : Bk.Sgn) (hs : SgnOk s) (hL : L.length ≤ 900000) :
    Calls Tryz.prog 15 #[.pointer (some ⟨vb, 0, none⟩), .agg #[.int .i64 s.key, .string ⟨s.text.toArray⟩, .int .i64 s.mark]] z fun e w' =>
      e = .returned (.int .i64 (Vw.accept Lr key L s).1) ∧ At W N (setC c i (ViewC W.heap.size vb rb key (Vw.accept Lr key L s).2)) F w' ∧ MovesN W F z w' := by
  have hg := h.gl g
  have hB := h.nw0.size
  refine At.callR h hi hr (Ne.symm hri) (ViewC.stab _ _ _ _ _) (Q := fun e => e = .returned (.int .i64 (Vw.accept Lr key L s).1)) fun f g' hf hg' hd => ?_
  rw [ei] at hf
  rw [er] at hg'
  obtain ⟨r, a1, a2, rfl⟩ := hf
  obtain ⟨q, b1, b2, rfl⟩ := hg'
  rw [← a1]
  rw [← b1] at a2
  refine (accept_v _ _ r q key Lr L s z hg b2 a2 hv hs hB hL).mono ?_
  rintro _ w' ⟨r', rfl, c1, c2, u, hf⟩
  rw [b1] at c1
  exact ⟨rfl, r'.foot, ⟨r', c2, c1, rfl⟩, u, hf⟩
theorem at_clash (h : At W N c F z) (g : Gl W) (hi : i < N) (ei : c i = ViewC W.heap.size vb rb key L) (hv : Vw.VOk Lr key L) (s : Bk.Sgn) (hs : SgnOk s) (hL : L.length ≤ 900000) :
    Calls Tryz.prog 92 #[.pointer (some ⟨vb, 0, none⟩), .agg #[.int .i64 s.key, .string ⟨s.text.toArray⟩, .int .i64 s.mark]] z fun e w' => e = .returned (.tuple #[sgnV (Vw.clash L s).1, .bool (Vw.clash L s).2]) ∧ Nw z w' := by
  obtain ⟨r, a, b⟩ := at_viewAt h hi ei
  rw [← a]
  exact clash_v _ r rb key L s z (h.gl g) b (fun s hs => (hv.each s hs).2.2) hs hL
/-- A ring made anew. -/
theorem At.oneRing (h : At W N c F z) (hg : nG ≤ W.heap.size) {q : RingR} {z' : World} (u : Nw z z') (hq : RingAt z.heap.size z' q Lr) (hb : RingAt W.heap.size z' q Lr) : At W (N + 1) (setC c N (RingC W.heap.size q.rb Lr)) F z' :=
  h.push u (RingC.stab _ _ _) (f' := q.foot) ⟨q, rfl, hb, rfl⟩ (fun j hj => (hq.foot_lt hj).1)
theorem At.oneView (h : At W N c F z) (hg : nG ≤ W.heap.size) {r' : ViewR} {z' : World} (u : Nw z z') (hr : ViewAt z.heap.size z' r' rb key []) : At W (N + 1) (setC c N (ViewC W.heap.size r'.vb rb key [])) F z' := by
  have hww := h.nw0.size
  have hr2 : ViewAt W.heap.size z' r' rb key [] := ⟨hg, Nat.le_trans hww hr.vb, Nat.le_trans hww hr.eb, Nat.le_trans hww hr.ab, hr.ne, hr.blk, owns_base hr.sown hww, owns_base hr.cown hww, hr.emap, hr.amap, hr.key⟩
  exact h.push u (ViewC.stab W.heap.size r'.vb rb key []) (f' := r'.foot) ⟨r', rfl, hr2, rfl⟩ (fun j hj => (hr.foot_lt hj).1)
theorem At.oneBook (h : At W N c F z) (hg : nG ≤ W.heap.size) {r' : BookR} {z' : World} (u : Nw z z') (hr : BookAt z.heap.size z' r' rb b) : At W (N + 1) (setC c N (BookC W.heap.size r'.bb rb b)) F z' :=
  h.push u (BookC.stab W.heap.size r'.bb rb b) (f' := r'.foot) ⟨r', rfl, hr.base h.nw0.size hg, rfl⟩ (fun j hj => (hr.foot_lt hj).1)
end
/-! ### A mirror -/
abbrev tMir : TypeId := 127
abbrev tStrM : TypeId := 9
structure MirR where
  mb : Nat
  sv : Nat → Value
  cv : Value
def MirR.foot (x : MirR) (k : Nat) : Prop := k = x.mb ∨ (∃ i, i < 3 ∧ (x.sv i).ownBlock = some k) ∨ x.cv.ownBlock = some k
def mirC (x : MirR) (m : Mi.Mir) : Array Value := #[.int .i64 m.mode, x.sv 0, x.sv 1, x.sv 2, x.cv]
def bsM (l : List UInt8) : Value := .string ⟨l.toArray⟩
structure SmS (s : Bk.Sgn) : Prop where
  k : I64 s.key
  m : I64 s.mark
  t : s.text.length ≤ 1000000
theorem SmS.ok {s : Bk.Sgn} (h : SmS s) : SgnOk s := ⟨h.k, Nat.le_trans h.t (by decide), h.m⟩
structure MirAt (B : Nat) (w : World) (x : MirR) (m : Mi.Mir) : Prop where
  hb : nG ≤ B
  mb : B ≤ x.mb
  blk : w.heap[x.mb]? = some (.cells (mirC x m) tMir (0, 0))
  sown : ∀ i, i < 3 → w.ownsRow B tSigned 3 (x.sv i) (m.l i).length (flatS (m.l i))
  cown : w.ownsRow B tStrM 1 x.cv m.cs.length (m.cs.map bsM)
  dis : ∀ i k, i < 3 → k < 3 → i ≠ k → ∀ j, (x.sv i).ownBlock = some j → (x.sv k).ownBlock ≠ some j
  len : (∀ i, i < 3 → (m.l i).length ≤ 1000000) ∧ m.cs.length ≤ 1000000
  mode : 0 ≤ m.mode ∧ m.mode < 5
  oks : ∀ i, i < 3 → ∀ s ∈ m.l i, SmS s
  cok : ∀ s ∈ m.cs, s.length ≤ 1000000
section
variable {B : Nat} {w w' : World} {x : MirR} {m : Mi.Mir}
theorem own_blockM {e : TypeId} {size : Nat} {v : Value} {n : Nat} {xs : List Value} (h : w.ownsRow B e size v n xs) {k : Nat} (hk : v.ownBlock = some k) : B ≤ k ∧ ∃ cs, w.heap[k]? = some (.cells cs e (0, 0)) := own_block h hk
theorem MirAt.foot_lt (h : MirAt B w x m) {k : Nat} (hk : x.foot k) : B ≤ k ∧ k < w.heap.size := by
  rcases hk with rfl | ⟨i, hi, hk⟩ | hk
  · exact ⟨h.mb, lt_of_block h.blk⟩
  · obtain ⟨h1, cs, h2⟩ := own_blockM (h.sown i hi) hk
    exact ⟨h1, lt_of_block h2⟩
  · obtain ⟨h1, cs, h2⟩ := own_blockM h.cown hk
    exact ⟨h1, lt_of_block h2⟩
theorem MirAt.upd {S : Nat → Prop} (h : MirAt B w x m) (u : Upd S w w') (hs : ∀ k, x.foot k → ¬ S k) : MirAt B w' x m :=
  ⟨h.hb, h.mb, u.keep h.blk (hs _ (Or.inl rfl)), fun i hi => owns_upd' (h.sown i hi) u (fun k hk => hs k (Or.inr (Or.inl ⟨i, hi, hk⟩))), owns_upd' h.cown u (fun k hk => hs k (Or.inr (Or.inr hk))), h.dis, h.len, h.mode, h.oks, h.cok⟩
theorem MirAt.nw (h : MirAt B w x m) (u : Nw w w') : MirAt B w' x m := h.upd u (fun _ _ s => s)
theorem MirAt.ne (h : MirAt B w x m) {i : Nat} (hi : i < 3) : (x.sv i).ownBlock ≠ some x.mb := fun e => by
  obtain ⟨_, cs, e2⟩ := own_blockM (h.sown i hi) e
  rw [h.blk] at e2
  injection e2 with e2
  injection e2 with _ e2
  exact absurd e2 (by decide)
theorem MirAt.nec (h : MirAt B w x m) : x.cv.ownBlock ≠ some x.mb := fun e => by
  obtain ⟨_, cs, e2⟩ := own_blockM h.cown e
  rw [h.blk] at e2
  injection e2 with e2
  injection e2 with _ e2
  exact absurd e2 (by decide)
theorem MirAt.nesc (h : MirAt B w x m) {i : Nat} (hi : i < 3) {j : Nat} (hj : (x.sv i).ownBlock = some j) : x.cv.ownBlock ≠ some j := fun e => by
  obtain ⟨_, cs, e2⟩ := own_blockM h.cown e
  obtain ⟨_, cs2, e3⟩ := own_blockM (h.sown i hi) hj
  rw [e2] at e3
  injection e3 with e3
  injection e3 with _ e3
  exact absurd e3 (by decide)
theorem MirAt.cells (h : MirAt B w x m) :
    w.cell? ⟨x.mb, 0, none⟩ = some (.int .i64 m.mode) ∧ w.cell? ⟨x.mb, 1, none⟩ = some (x.sv 0) ∧ w.cell? ⟨x.mb, 2, none⟩ = some (x.sv 1) ∧ w.cell? ⟨x.mb, 3, none⟩ = some (x.sv 2) ∧ w.cell? ⟨x.mb, 4, none⟩ = some x.cv := by
  refine ⟨?_, ?_, ?_, ?_, ?_⟩ <;> (rw [cells_cell h.blk]; rfl)
/-- What a call makes of a mirror. -/
def MirTo (B : Nat) (x : MirR) (m' : Mi.Mir) (w w' : World) : Prop := ∃ x', x'.mb = x.mb ∧ MirAt B w' x' m' ∧ Upd x.foot w w' ∧ ∀ k, x'.foot k → x.foot k ∨ w.heap.size ≤ k
theorem cells_push (x : MirR) (m : Mi.Mir) {i : Nat} (hi : i < 3) (v : Value) (s : Bk.Sgn) : (mirC x m).setIfInBounds (i + 1) v = mirC ⟨x.mb, fun k => if k = i then v else x.sv k, x.cv⟩ (Mi.push m i s) := by
  obtain rfl | rfl | rfl : i = 0 ∨ i = 1 ∨ i = 2 := by omega
  all_goals rfl
/-- One more signature in a list. -/
theorem mir_push (h : MirAt B w x m) {ws : World} {i : Nat} (hi : i < 3) {v' : Value} {y : Bk.Sgn} (hl : (m.l i).length + 1 ≤ 1000000) (hy : SmS y) (hown : ws.ownsRow B tSigned 3 v' ((m.l i).length + 1) (flatS (m.l i) ++ sgl y)) (uS : Upd (fun k => (x.sv i).ownBlock = some k) w ws) (oS : ∀ k, v'.ownBlock = some k → (x.sv i).ownBlock = some k ∨ w.heap.size ≤ k) :
    MirTo B x (Mi.push m i y) w (ws.setCell ⟨x.mb, i + 1, none⟩ v') := by
  have hmb := h.mb
  have hb := h.hb
  have hlt := fun k hk => (h.foot_lt (k := k) hk).2
  have hjl := hlt x.mb (Or.inl rfl)
  have u1 : Upd (fun k => k = x.mb) ws (ws.setCell ⟨x.mb, i + 1, none⟩ v') := Upd.set1 (Upd.refl _ _) (by omega) (i + 1) v'
  have b3 := setCell_block (uS.keep h.blk (h.ne hi)) (i + 1) v'
  rw [cells_push x m hi v' y] at b3
  have hmine : ∀ k, v'.ownBlock = some k → k ≠ x.mb := fun k hk e => by
    subst e
    rcases oS _ hk with e | e
    · exact h.ne hi e
    · omega
  refine ⟨⟨x.mb, fun k => if k = i then v' else x.sv k, x.cv⟩, rfl, ⟨hb, hmb, b3, fun k hk => ?_, ?_, fun a k ha hk hak j hj => ?_, ⟨fun k hk => ?_, h.len.2⟩, h.mode, fun k hk s hs => ?_, h.cok⟩, ?_, fun k hk => ?_⟩
  · by_cases hki : k = i
    · subst hki
      dsimp only
      rw [if_pos rfl, Mi.push_self, List.length_append, List.length_singleton, flatS_snoc]
      exact owns_upd' hown u1 (fun k hk e => hmine k hk e)
    · dsimp only
      rw [if_neg hki, Mi.push_ne _ _ hki]
      exact owns_upd' (owns_upd' (h.sown k hk) uS (fun j hj e => h.dis k i hk hi hki j hj e)) u1 (fun j hj e => by subst e; exact h.ne hk hj)
  · exact owns_upd' (owns_upd' h.cown uS (fun j hj e => h.nesc hi e hj)) u1 (fun j hj e => by subst e; exact h.nec hj)
  · dsimp only at hj ⊢
    by_cases hai : a = i
    · subst hai
      rw [if_pos rfl] at hj
      rw [if_neg (Ne.symm hak)]
      intro e
      rcases oS _ hj with q | q
      · exact h.dis a k ha hk hak j q e
      · have := hlt j (Or.inr (Or.inl ⟨k, hk, e⟩)); omega
    · rw [if_neg hai] at hj
      by_cases hki : k = i
      · subst hki
        rw [if_pos rfl]
        intro e
        rcases oS _ e with q | q
        · exact h.dis a k ha hk hak j hj q
        · have := hlt j (Or.inr (Or.inl ⟨a, ha, hj⟩)); omega
      · rw [if_neg hki]
        exact h.dis a k ha hk hak j hj
  · by_cases hki : k = i
    · subst hki
      rw [Mi.push_self, List.length_append, List.length_singleton]; exact hl
    · rw [Mi.push_ne _ _ hki]; exact h.len.1 k hk
  · by_cases hki : k = i
    · subst hki
      rw [Mi.push_self, List.mem_append, List.mem_singleton] at hs
      rcases hs with hs | rfl
      · exact h.oks k hk s hs
      · exact hy
    · rw [Mi.push_ne _ _ hki] at hs; exact h.oks k hk s hs
  · exact (uS.mono (fun k _ e => Or.inr (Or.inl ⟨i, hi, e⟩))).trans' u1 (fun k _ e => Or.inl e)
  · rcases hk with hk | ⟨a, ha, hk⟩ | hk
    · exact Or.inl (Or.inl hk)
    · dsimp only at hk
      by_cases hai : a = i
      · subst hai
        rw [if_pos rfl] at hk
        exact (oS k hk).imp (fun e => Or.inr (Or.inl ⟨a, ha, e⟩)) id
      · rw [if_neg hai] at hk
        exact Or.inl (Or.inr (Or.inl ⟨a, ha, hk⟩))
    · exact Or.inl (Or.inr (Or.inr hk))
/-- Its contents anew. -/
theorem mir_contents (h : MirAt B w x m) {ws : World} {v' : Value} {cs : List (List UInt8)} (hl : cs.length ≤ 1000000) (hc : ∀ s ∈ cs, s.length ≤ 1000000) (hown : ws.ownsRow w.heap.size tStrM 1 v' cs.length (cs.map bsM)) (u : Nw w ws) :
    MirTo B x { m with cs := cs } w (ws.setCell ⟨x.mb, 4, none⟩ v') := by
  have hmb := h.mb
  have hb := h.hb
  have hlt := fun k hk => (h.foot_lt (k := k) hk).2
  have hjl := hlt x.mb (Or.inl rfl)
  have u1 : Upd (fun k => k = x.mb) ws (ws.setCell ⟨x.mb, 4, none⟩ v') := Upd.set1 (Upd.refl _ _) (by omega) 4 v'
  have b3 := setCell_block (u.keep h.blk) 4 v'
  have hn : ∀ j, v'.ownBlock = some j → w.heap.size ≤ j := fun j hj => (own_blockM hown hj).1
  refine ⟨⟨x.mb, x.sv, v'⟩, rfl, ⟨hb, hmb, b3, fun k hk => owns_upd' (owns_upd' (h.sown k hk) u (fun _ _ e => e)) u1 (fun j hj e => by subst e; exact h.ne hk hj), ?_, h.dis, ⟨h.len.1, hl⟩, h.mode, h.oks, hc⟩, ?_, fun k hk => ?_⟩
  · exact owns_upd' (owns_base hown (by have := h.mb; omega)) u1 (fun j hj e => by subst e; have := hn _ hj; omega)
  · exact (Nw.upd _ u).trans' u1 (fun k _ e => Or.inl e)
  · rcases hk with hk | ⟨a, ha, hk⟩ | hk
    · exact Or.inl (Or.inl hk)
    · exact Or.inl (Or.inr (Or.inl ⟨a, ha, hk⟩))
    · exact Or.inr (hn k hk)
end
def MirC (B mb : Nat) (m : Mi.Mir) : Res := fun f z => ∃ x, x.mb = mb ∧ MirAt B z x m ∧ f = x.foot
theorem MirC.stab (B mb : Nat) (m : Mi.Mir) : Stab B (MirC B mb m) :=
  ⟨fun {f w w' S} ⟨q, a, b, c⟩ u hs => ⟨q, a, b.upd u (fun k hk => hs k (by rw [c]; exact hk)), c⟩, fun {f w k} ⟨q, a, b, c⟩ hk => b.foot_lt (by rw [c] at hk; exact hk)⟩
section
variable {W : World} {N : Nat} {c : Nat → Res} {F : Nat → Prop} {z : World} {mb : Nat} {m : Mi.Mir} {i : Nat}
theorem at_mirAt (h : At W N c F z) (hi : i < N) (ei : c i = MirC W.heap.size mb m) : ∃ q, q.mb = mb ∧ MirAt W.heap.size z q m := by
  obtain ⟨f, hf⟩ := h.get hi
  rw [ei] at hf
  obtain ⟨q, a, b, _⟩ := hf
  exact ⟨q, a, b⟩
end
end Go.Proofs.YtagmlemlagbfkaaGreatDoor
