/- The contracts of what the statements' helpers do: Words, Turned, Few, signed. -/
import Derived.Test.YtpceoogmkbcfmaaGreatDoorView5
import Derived.Test.YtpceoogmkbcfmaaGreatDoorViewSay
import Derived.Deep.RegionHeldLaw
namespace Go.Proofs.YtpceoogmkbcfmaaGreatDoor
open Go.RowKit
set_option linter.unusedVariables false
set_option linter.unusedSimpArgs false
attribute [local irreducible] Calls

def sayL (x : Vw.Say) : List Value := [.int .i64 x.key, .int .i64 x.c.kind, .int .i64 x.c.n, .int .i64 x.c.time, .string ⟨x.c.text.toArray⟩, .string ⟨x.raw.toArray⟩, .int .i64 x.odd]
abbrev tSay : TypeId := 53
structure SayOk (x : Vw.Say) : Prop where
  k : I64 x.key
  c : I64C x.c
  r : x.raw.length ≤ 9223372036854775807
  o : I64 x.odd
theorem text_len8 (c : Cl.Clm) (hi : I64C c) : (Cl.text c).length ≤ 30000 := by
  cases h : Cl.right c with
  | false => rw [Cl.text, h]; simp
  | true =>
    obtain ⟨h1, h2, h3, h4, h5, h6, h7⟩ := Cl.right_bounds h
    have i1 := itoa_le hi.k
    have i2 := itoa_le hi.n
    have i3 := itoa_le hi.t
    have i4 := itoa_le (n := (c.text.length : Int)) (by unfold I64; omega)
    rw [Cl.text, if_pos h]
    unfold Cl.enc Wire.numE
    rw [if_neg (by omega), if_neg (by omega), if_neg (by omega)]
    simp only [Wire.intE, Wire.textE, List.length_append, List.length_cons, List.length_nil]
    omega
theorem words_len {x : Vw.Say} (hx : SayOk x) (hr : x.raw.length ≤ 300) : (Vw.words x).length ≤ 30000 := by
  unfold Vw.words
  split
  · exact text_len8 x.c hx.c
  · omega
theorem say_cells {lo hi : Nat} {w : World} {v : Value} {X : List Vw.Say} (h : SlS 7 lo hi w v (X.map sayL)) :
    ∃ a cap, v = .slice a X.length cap ∧ X.length ≤ maxLen ∧ (X = [] ∨ ∃ b off, a = some ⟨b, off, none⟩ ∧ b < hi ∧ b < w.heap.size ∧ ∀ i (h : i < X.length),
      w.cell? ⟨b, off + i * 7, none⟩ = some (.int .i64 X[i].key) ∧ w.cell? ⟨b, off + i * 7 + 1, none⟩ = some (.int .i64 X[i].c.kind) ∧ w.cell? ⟨b, off + i * 7 + 2, none⟩ = some (.int .i64 X[i].c.n) ∧ w.cell? ⟨b, off + i * 7 + 3, none⟩ = some (.int .i64 X[i].c.time) ∧
      w.cell? ⟨b, off + i * 7 + 4, none⟩ = some (.string ⟨X[i].c.text.toArray⟩) ∧ w.cell? ⟨b, off + i * 7 + 5, none⟩ = some (.string ⟨X[i].raw.toArray⟩) ∧ w.cell? ⟨b, off + i * 7 + 6, none⟩ = some (.int .i64 X[i].odd)) := by
  obtain ⟨a, cap, rfl, hm, h⟩ := h.open_
  rw [List.length_map] at hm
  refine ⟨a, cap, by rw [List.length_map], hm, ?_⟩
  rcases h with h | ⟨b, off, rfl, _, hb1, hb, hc⟩
  · exact Or.inl (List.map_eq_nil_iff.1 h)
  · refine Or.inr ⟨b, off, rfl, hb1, hb, fun i hi => ?_⟩
    have h2 := (hc i (by simpa using hi)).2
    simp only [List.getElem_map] at h2
    exact ⟨by rw [← Nat.add_zero (off + i * 7), h2 0 (by omega)]; rfl, by rw [h2 1 (by omega)]; rfl, by rw [h2 2 (by omega)]; rfl, by rw [h2 3 (by omega)]; rfl, by rw [h2 4 (by omega)]; rfl, by rw [h2 5 (by omega)]; rfl, by rw [h2 6 (by omega)]; rfl⟩
theorem words_w (x : Vw.Say) (hx : SayOk x) (w : World) (g : Gl w) :
    Calls Tryz.prog 22 #[.agg #[.int .i64 x.key, .int .i64 x.c.kind, .int .i64 x.c.n, .int .i64 x.c.time, .string ⟨x.c.text.toArray⟩, .string ⟨x.raw.toArray⟩, .int .i64 x.odd]] w fun e w' => e = .returned (.string ⟨(Vw.words x).toArray⟩) ∧ Nw w w' := by
  have n1 := nw_alloc w (.cells #[.int .i64 x.key, .int .i64 x.c.kind, .int .i64 x.c.n, .int .i64 x.c.time, .string ⟨x.c.text.toArray⟩, .string ⟨x.raw.toArray⟩, .int .i64 x.odd] tSay)
  have Q := Lib.hid (ctext_q x.c ⟨x.c.text.toArray⟩ (bs_list _) hx.c _ (g.upd n1))
  by_cases hr : x.raw = []
  · have hw : Hid (Vw.words x = Cl.text x.c) := by show _ = _; rw [Vw.words, if_pos hr]
    have hb : (ByteArray.mk x.raw.toArray).data.toList = [] := by rw [bs_list, hr]
    rw [hr] at Q n1 ⊢
    clear hr hb hx
    go_enter Tryz.func22, Tryz.ntmps22
    go_wp2_with fail
    (with_reducible refine (Q.out).mono ?_)
    rintro _ w2 ⟨rfl, u2⟩
    go_wp2_with fail
    go_ret
    exact ⟨by rw [hw.out]; rfl, n1.trans u2⟩
  · have hw : Hid (Vw.words x = x.raw) := by show _ = _; rw [Vw.words, if_neg hr]
    have hb2 : x.raw.isEmpty = false := by cases h : x.raw with | nil => exact absurd h hr | cons a b => rfl
    have hb3 : (x.raw == []) = false := by cases h : x.raw with | nil => exact absurd h hr | cons a b => rfl
    clear hx
    go_enter Tryz.func22, Tryz.ntmps22
    go_wp2_with fail
    go_ret
    exact ⟨by rw [hw.out]; rfl, n1⟩
theorem turned_results {w : World} {bp : Nat} {tmps : Array Value} {v0 v1 v2 : Value} {T : TypeId} {fz : Nat × Nat} (h : w.heap[bp]? = some (.cells #[v0, v1, v2] T fz)) (ht : tmps.getD 4 undef = .pointer (some ⟨bp, 0, none⟩)) :
    (results Tryz.f32 tmps).run Tryz.prog w = .ok (.agg #[v0, v1, v2]) w := by
  have c0 : w.cell? ⟨bp, 0, none⟩ = some v0 := by rw [cells_cell h]; rfl
  have c1 : w.cell? ⟨bp, 1, none⟩ = some v1 := by rw [cells_cell h]; rfl
  have c2 : w.cell? ⟨bp, 2, none⟩ = some v2 := by rw [cells_cell h]; rfl
  clear h
  have ht2 : tmps[4]?.getD undef = .pointer (some ⟨bp, 0, none⟩) := by simpa using ht
  clear ht
  simp [results, Tryz.results32, go_sem, ht2, c0, c1, c2]
theorem turned_w (s : Bk.Sgn) (odd : Int) (w : World) (g : Gl w) (hk : 0 ≤ s.key ∧ s.key ≤ 1000) (hm : 0 ≤ s.mark ∧ s.mark ≤ 1000) (ht : s.text.length ≤ 100000) :
    Calls Tryz.prog 32 #[.agg #[.int .i64 s.key, .string ⟨s.text.toArray⟩, .int .i64 s.mark], .int .i64 odd] w fun e w' => e = .returned (sgnV (Vw.turned s odd)) ∧ Nw w w' := by
  have hgb := g.big
  obtain ⟨hk0, hk1⟩ := hk
  obtain ⟨hm0, hm1⟩ := hm
  have hx : Hid (Vw.turned s odd = _) := show _ = _ from rfl
  unfold Vw.turned at hx
  by_cases h1 : odd = 1
  · have ht1 : Hid (Vw.turned s odd = ⟨s.key, s.text, s.mark + 1⟩) := by show _ = _; rw [Vw.turned, if_pos h1]
    have d1 : (odd == 1) = true := beq_iff_eq.2 h1
    have hw : wrap64 (s.mark + 1) = s.mark + 1 := by unfold wrap64; omega
    clear h1 hx
    go_enter Tryz.func32, Tryz.ntmps32
    go_wp2_with fail
    (try simp only [Exit.inBlock, Exit.then])
    exact bodyPost_ret (turned_results (heap_at (by simp)) rfl) rfl ⟨by rw [ht1.out]; rfl, (nw_alloc _ _).trans (nw_alloc _ _)⟩
  have d1 : (odd == 1) = false := beq_eq_false_iff_ne.2 h1
  by_cases h2 : odd = 2
  · have ht1 : Hid (Vw.turned s odd = ⟨s.key, s.text ++ [120], s.mark⟩) := by show _ = _; rw [Vw.turned, if_neg h1, if_pos h2]
    have d2 : (odd == 2) = true := beq_iff_eq.2 h2
    have hap := bs_append s.text [120]
    clear h1 h2 hx
    go_enter Tryz.func32, Tryz.ntmps32
    go_wp2_with fail
    (try simp only [Exit.inBlock, Exit.then])
    exact bodyPost_ret (turned_results (heap_at (by simp)) rfl) rfl ⟨by rw [ht1.out]; rfl, (nw_alloc _ _).trans (nw_alloc _ _)⟩
  have d2 : (odd == 2) = false := beq_eq_false_iff_ne.2 h2
  by_cases h3 : odd = 3
  · have ht1 : Hid (Vw.turned s odd = ⟨s.key + 1, s.text, s.mark⟩) := by show _ = _; rw [Vw.turned, if_neg h1, if_neg h2, if_pos h3]
    have d3 : (odd == 3) = true := beq_iff_eq.2 h3
    have hw : wrap64 (s.key + 1) = s.key + 1 := by unfold wrap64; omega
    clear h1 h2 h3 hx
    go_enter Tryz.func32, Tryz.ntmps32
    go_wp2_with fail
    (try simp only [Exit.inBlock, Exit.then])
    exact bodyPost_ret (turned_results (heap_at (by simp)) rfl) rfl ⟨by rw [ht1.out]; rfl, (nw_alloc _ _).trans (nw_alloc _ _)⟩
  have d3 : (odd == 3) = false := beq_eq_false_iff_ne.2 h3
  have ht1 : Hid (Vw.turned s odd = s) := by show _ = _; rw [Vw.turned, if_neg h1, if_neg h2, if_neg h3]
  clear h1 h2 h3 hx
  go_enter Tryz.func32, Tryz.ntmps32
  go_wp2_with fail
  (try simp only [Exit.inBlock, Exit.then])
  exact bodyPost_ret (turned_results (heap_at (by simp)) rfl) rfl ⟨by rw [ht1.out]; rfl, (nw_alloc _ _).trans (nw_alloc _ _)⟩
def FewP (l : List Vw.Say) (w : World) (e : Ending) (w' : World) : Prop := ∃ b, e = .returned (.bool b) ∧ (b = true → l.length ≤ 20 ∧ ∀ x ∈ l, x.raw.length ≤ 300 ∧ x.c.text.length ≤ 300) ∧ Nw w w'
set_option maxHeartbeats 2000000 in
set_option maxRecDepth 100000 in
theorem few_w (lo hi : Nat) (v : Value) (l : List Vw.Say) (w : World) (hv : SlS 7 lo hi w v (l.map sayL)) (ho : ∀ o ∈ l, SayOk o) :
    Calls Tryz.prog 9 #[v, .int .i64 20] w (FewP l w) := by
  obtain ⟨a, cap, rfl, hm, ha⟩ := say_cells hv
  unfold maxLen at hm
  have Ha := Lib.hid ha; clear ha
  have Ho := Lib.hid ho; clear ho
  go_enter Tryz.func9, Tryz.ntmps9
  go_wp2_with fail
  go_loopw [5] (fun i wr => ∃ k : Nat, k ≤ l.length ∧ k ≤ 21 ∧ i = .int .i64 k ∧ Hid (∀ j (h : j < l.length), j < k → l[j].raw.length ≤ 300 ∧ l[j].c.text.length ≤ 300) ∧ Nw w wr) (fun i _ => l.length - (intOf i).toNat)
  case atStart => exact ⟨0, Nat.zero_le _, Nat.zero_le _, rfl, (fun j _ h => by omega), Upd.refl _ _⟩
  case round =>
    obtain ⟨k, hk, hk26, rfl, hall, u⟩ := hrel
    by_cases hlt : k < l.length
    · by_cases h26 : k < 21
      · rcases Ha.out with hnil | ⟨b, off, rfl, _, hbl, hcell⟩
        · simp [hnil] at hlt
        · have c4 := ((Nw.below u).cell (p := ⟨b, off + k * 7 + 4, none⟩) hbl).trans (hcell k hlt).2.2.2.2.1
          have c5 := ((Nw.below u).cell (p := ⟨b, off + k * 7 + 5, none⟩) hbl).trans (hcell k hlt).2.2.2.2.2.1
          have hok1 := (Ho.out l[k] (List.getElem_mem hlt)).r
          have hok2 := (Ho.out l[k] (List.getElem_mem hlt)).c.z
          have hnext : (l[k].raw.length ≤ 300 ∧ l[k].c.text.length ≤ 300) → Hid (∀ j (h : j < l.length), j < k + 1 → l[j].raw.length ≤ 300 ∧ l[j].c.text.length ≤ 300) := fun h100 j h hj => by
            by_cases e : j = k
            · subst e; exact h100
            · exact hall.out j h (by omega)
          clear hcell
          generalize l[k] = x at *
          by_cases hx : x.raw.length ≤ 300
          · by_cases hx2 : x.c.text.length ≤ 300
            · have hn := hnext ⟨hx, hx2⟩
              clear hnext
              go_wp2_with fail
              go_roundw
              case rel => exact ⟨k + 1, by omega, by omega, by go_num, hn, u⟩
              case measure => simp [intOf]; omega
            · clear hnext
              go_wp2_with fail
              go_ret
              exact ⟨false, rfl, (fun h => by cases h), u⟩
          · clear hnext
            go_wp2_with fail
            go_ret
            exact ⟨false, rfl, (fun h => by cases h), u⟩
      · have hk2 : k = 21 := by omega
        subst hk2
        have hb : Hid (¬ l.length ≤ 20) := by show ¬ _; omega
        go_wp2_with fail
        go_ret
        refine ⟨_, rfl, fun h => ?_, u⟩
        simp at h
        have := hb.out
        omega
    · have hfin : Hid (∀ o ∈ l, o.raw.length ≤ 300 ∧ o.c.text.length ≤ 300) := fun o hoo => by
        obtain ⟨j, hj, rfl⟩ := List.mem_iff_getElem.1 hoo
        exact hall.out j hj (by omega)
      clear hall
      by_cases h26 : k < 21
      all_goals go_wp2_with fail
      all_goals go_ret
      all_goals exact ⟨_, rfl, fun h => ⟨by simp at h; omega, hfin.out⟩, u⟩
end Go.Proofs.YtpceoogmkbcfmaaGreatDoor
