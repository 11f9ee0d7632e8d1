/- The contracts of ladinglaw06's entries, sizes and absent. -/
import Derived.Test.YtnfjkojckffhmaaDoorClaimK
import Derived.Test.YtnfjkojckffhmaaDoorClaimM
import Derived.Test.YtnfjkojckffhmaaDoorClaimV
import Derived.Test.YtnfjkojckffhmaaDoorOwn
namespace Go.Proofs.YtnfjkojckffhmaaDoor
open Go.RowKit
set_option linter.unusedVariables false
set_option linter.unusedSimpArgs false
attribute [local irreducible] Calls

def cellsL (c : Cl.Clm) : List Value := [.int .i64 c.kind, .int .i64 c.n, .int .i64 c.time, .string ⟨c.text.toArray⟩]
def flatC (l : List Cl.Clm) : List Value := (l.map cellsL).flatten
theorem flatC_snoc (l : List Cl.Clm) (c : Cl.Clm) : flatC (l ++ [c]) = flatC l ++ cellsL c := by simp [flatC]
theorem infoC : (Tryd.prog.info? tC).map (fun i => (i.zero, i.size, i.bytes)) = some (some (.agg #[.int .i64 0, .int .i64 0, .int .i64 0, .string ⟨#[]⟩]), 4, 40) := by kernel_rfl
def strV (s : List UInt8) : Value := .string ⟨s.toArray⟩
def EntPost (l : List (List UInt8)) (w : World) (e : Ending) (w' : World) : Prop :=
  ∃ (b : Bool) (v : Value), e = .returned (.tuple #[v, .bool b]) ∧ (b = true → (∀ i, i < l.length → Cl.right (Cl.entryC l i) = true) ∧ w'.ownsRow w.heap.size tC 4 v l.length (flatC (Cl.entriesTo l l.length))) ∧ Nw w w'
set_option maxHeartbeats 2000000 in
set_option maxRecDepth 100000 in
theorem entries_c (lo hi : Nat) (v : Value) (l : List (List UInt8)) (w : World) (g : Gl w) (hv : Sl lo hi w v (l.map strV)) (hz : ∀ s ∈ l, s.length ≤ 100) (h8 : l.length ≤ 8) :
    Calls Tryd.prog 20 #[v] w (EntPost l w) := by
  obtain ⟨a, cap, rfl, hm, ha⟩ := hv.open_
  rw [List.length_map] at hm ⊢
  unfold maxLen at hm
  have Ha := Lib.hid ha; clear ha
  have Hz := Lib.hid hz; clear hz
  go_enter Tryd.func20, Tryd.ntmps20
  go_wp2_with fail
  go_loopw [4, 5] (fun out i wr => ∃ k : Nat, k ≤ l.length ∧ i = .int .i64 k ∧ (∀ j, j < k → Cl.right (Cl.entryC l j) = true) ∧ wr.ownsRow w.heap.size tC 4 out k (flatC (Cl.entriesTo l k)) ∧ Nw w wr) (fun _ i _ => l.length - (intOf i).toNat)
  case atStart => exact ⟨0, Nat.zero_le _, rfl, fun j hj => by omega, World.ownsRow_nil _ _ _ _, Upd.refl _ _⟩
  case round =>
    obtain ⟨k, hk, rfl, hall, hown, u⟩ := hrel
    have Hall := Lib.hid hall; clear hall
    have gk := g.upd u
    by_cases hlt : k < l.length
    · rcases Ha.out with ⟨_, _, hnil⟩ | ⟨b, off, rfl, _, _, hbl, hcell⟩
      · rw [List.map_eq_nil_iff] at hnil; simp [hnil] at hlt
      · have c0 : wr.cell? ⟨b, off + k, none⟩ = some (.string ⟨l[k].toArray⟩) := by
          rw [u.below.cell hbl, hcell k (by simpa using hlt)]; simp [hlt, strV]
        have hent : Cl.entryC l k = ⟨0, k, 0, l[k]⟩ := by simp [Cl.entryC, hlt]
        have hzk := Hz.out l[k] (List.getElem_mem hlt)
        have Hsn := Lib.hid (Cl.entriesTo_succ l k)
        rw [hent] at Hsn
        have Hent := Lib.hid hent; clear hent
        clear hcell
        generalize l[k] = x at *
        have n1 := nw_alloc wr (.cells #[.int .i64 0, .int .i64 k, .int .i64 0, .string ⟨x.toArray⟩] tC)
        have k1 := heap_new wr (.cells #[.int .i64 0, .int .i64 k, .int .i64 0, .string ⟨x.toArray⟩] tC)
        have K1 := Lib.hid k1; clear k1
        have ic : I64C ⟨0, k, 0, x⟩ := ⟨by show I64 0; unfold I64; omega, by show I64 (k : Int); unfold I64; omega, by show I64 0; unfold I64; omega, by show x.length ≤ _; omega⟩
        clear gk
        replace u := u.trans n1
        replace hown := owns_upd hown n1 (fun _ _ _ s => s)
        go_wp2_with fail
        (with_reducible refine (right_c ⟨0, k, 0, x⟩ ⟨x.toArray⟩ rfl ic _ (g.upd u)).mono ?_)
        rintro _ w2 ⟨rfl, u2⟩
        have k2 := u2.keep K1.out
        replace u := u.trans u2
        replace hown := owns_upd hown u2 (fun _ _ _ s => s)
        obtain ⟨_, _, _, _⟩ := one_claim k2
        clear k2 K1 u2 n1
        cases hr : Cl.right ⟨0, k, 0, x⟩ with
        | false =>
          have Hr := Lib.hid hr; clear hr
          go_wp2_with fail
          go_ret2
          exact ⟨false, _, rfl, (fun h => by cases h), u⟩
        | true =>
          have Hr := Lib.hid hr; clear hr
          have hz2 := u.size
          go_wp2_with (at_builtin; refine wpList_app rfl _ _ 38 rfl w.heap.size tC _ 4 40 Tryd.underlying38 infoC rfl (by decide) _ _ _ rfl hown (cellsL ⟨0, k, 0, x⟩) rfl rfl ?c1 ?c2 ?c3 hz2 ?_)
          case c1 => intro u hu; simp only [cellsL, List.mem_cons, List.not_mem_nil, or_false] at hu; rcases hu with rfl | rfl | rfl | rfl <;> rfl
          case c2 => unfold maxLen; omega
          case c3 => omega
          intro v' w5 hown5 hnw hgr hob
          have u5 : Nw w w5 := (u.nw hnw).grown hgr (fun k hk => ⟨Or.inr (hob k hk).1, by have := (hob k hk).1; have := g.big; omega⟩)
          clear hgr hnw hob u hown
          go_wp2_with fail
          go_roundw
          case rel =>
            refine ⟨k + 1, by omega, by go_num, fun j hj => ?_, ?_, u5⟩
            · by_cases e : j = k
              · rw [e, Hent.out]; exact Hr.out
              · exact Hall.out j (by omega)
            · rw [Hsn.out, flatC_snoc]; exact hown5
          case measure => simp [intOf]; omega
    · have hkl : k = l.length := by omega
      subst hkl
      go_wp2_with fail
      go_ret2
      exact ⟨true, _, rfl, fun _ => ⟨Hall.out, hown⟩, u⟩
set_option maxHeartbeats 2000000 in
set_option maxRecDepth 100000 in
theorem sizes_c (lo hi : Nat) (a0 : Option Addr) (L cap0 : Nat) (vg : Value) (gr : List Int) (w : World) (g : Gl w) (hv : Sl lo hi w vg (gr.map (Value.int .u8))) (hz : ∀ x ∈ gr, 0 ≤ x ∧ x ≤ 255) (h8 : L ≤ 8) (h6 : gr.length ≤ 6) :
    Calls Tryd.prog 21 #[.slice a0 L cap0, vg] w fun e w' => ∃ v, e = .returned v ∧ w'.ownsRow w.heap.size tC 4 v gr.length (flatC (Cl.sizesTo L gr gr.length)) ∧ Nw w w' := by
  obtain ⟨a, cap, rfl, hm, ha⟩ := hv.open_
  rw [List.length_map] at hm ⊢
  unfold maxLen at hm
  have Ha := Lib.hid ha; clear ha
  have Hz := Lib.hid hz; clear hz
  go_enter Tryd.func21, Tryd.ntmps21
  go_wp2_with fail
  go_loopw [5, 6, 7] (fun out n i wr => ∃ k : Nat, k ≤ gr.length ∧ i = .int .i64 k ∧ n = .int .i64 (Cl.szN L gr k : Nat) ∧ wr.ownsRow w.heap.size tC 4 out k (flatC (Cl.sizesTo L gr k)) ∧ Nw w wr) (fun _ _ i _ => gr.length - (intOf i).toNat)
  case atStart => exact ⟨0, Nat.zero_le _, rfl, rfl, World.ownsRow_nil _ _ _ _, Upd.refl _ _⟩
  case round =>
    obtain ⟨k, hk, rfl, rfl, hown, u⟩ := hrel
    by_cases hlt : k < gr.length
    · rcases Ha.out with ⟨_, _, hnil⟩ | ⟨b, off, rfl, _, _, hbl, hcell⟩
      · rw [List.map_eq_nil_iff] at hnil; simp [hnil] at hlt
      · have c0 : wr.cell? ⟨b, off + k, none⟩ = some (.int .u8 gr[k]) := by
          rw [u.below.cell hbl, hcell k (by simpa using hlt)]; simp [hlt]
        have hx := Hz.out gr[k] (List.getElem_mem hlt)
        have Hsn := Lib.hid (Cl.sizesTo_succ L gr k)
        have hsz : Cl.szN L gr (k + 1) = min (Cl.szN L gr k + gr[k].toNat % 3) L := by
          show min (Cl.szN L gr k + (gr.getD k 0).toNat % 3) L = _
          rw [List.getD_eq_getElem?_getD, List.getElem?_eq_getElem hlt]; rfl
        have Hsz := Lib.hid hsz; clear hsz
        have hle := Cl.szN_le L gr k
        clear hcell
        generalize gr[k] = x at *
        generalize Cl.szN L gr k = N at *
        obtain ⟨hx0, hx1⟩ := hx
        obtain ⟨y, rfl⟩ := Int.eq_ofNat_of_zero_le hx0
        have hz2 := u.size
        go_wp2_with (at_builtin; refine wpList_app rfl _ _ 38 rfl w.heap.size tC _ 4 40 Tryd.underlying38 infoC rfl (by decide) _ _ _ rfl hown [.int .i64 1, .int .i64 (min ((N : Int) + (y : Int) % 3) (L : Int)), .int .i64 (10 * (k : Int)), .string ⟨#[]⟩] rfl rfl ?c1 ?c2 ?c3 hz2 ?_)
        case c1 => intro u hu; simp only [List.mem_cons, List.not_mem_nil, or_false] at hu; rcases hu with rfl | rfl | rfl | rfl <;> rfl
        case c2 => unfold maxLen; omega
        case c3 => omega
        intro v' w5 hown5 hnw hgr hob
        have u5 : Nw w w5 := (u.nw hnw).grown hgr (fun k hk => ⟨Or.inr (hob k hk).1, by have := (hob k hk).1; have := g.big; omega⟩)
        have hmin : min ((N : Int) + (y : Int) % 3) (L : Int) = (Cl.szN L gr (k + 1) : Nat) := by
          rw [Hsz.out, Int.toNat_natCast]; omega
        have Hmin := Lib.hid hmin; clear hmin
        clear hgr hnw hob u hown
        go_wp2_with fail
        go_roundw
        case rel =>
          refine ⟨k + 1, by omega, by go_num, by rw [Hmin.out], ?_, u5⟩
          rw [Hsn.out, flatC_snoc]
          rw [Hmin.out] at hown5
          exact hown5
        case measure => simp [intOf]; omega
    · have hkl : k = gr.length := by omega
      subst hkl
      go_wp2_with fail
      go_ret
      exact ⟨_, rfl, hown, u⟩
theorem hasKey_no {k x : List UInt8} (h : (Cl.key x).2 = false) : Cl.hasKey k x = false := by unfold Cl.hasKey; rw [h]; rfl
set_option maxHeartbeats 2000000 in
set_option maxRecDepth 100000 in
theorem absent_c (lo hi : Nat) (v : Value) (l : List (List UInt8)) (n : Nat) (key : List UInt8) (w : World) (g : Gl w) (hv : Sl lo hi w v (l.map strV)) (hz : ∀ s ∈ l, s.length ≤ 100) (h8 : l.length ≤ 8) (hn : (n : Int) ≤ 9223372036854775807) :
    Calls Tryd.prog 22 #[v, .int .i64 n, .string ⟨key.toArray⟩] w fun e w' => e = .returned (.bool (Cl.absentB l n key)) ∧ Nw w w' := by
  obtain ⟨a, cap, rfl, hm, ha⟩ := hv.open_
  rw [List.length_map] at hm ⊢
  unfold maxLen at hm
  have Ha := Lib.hid ha; clear ha
  have Hz := Lib.hid hz; clear hz
  go_enter Tryd.func22, Tryd.ntmps22
  go_wp2_with fail
  go_loopw [7] (fun i wr => ∃ k : Nat, k ≤ l.length ∧ k ≤ n ∧ i = .int .i64 k ∧ Hid (Cl.absentB l k key = true) ∧ Nw w wr) (fun i _ => l.length - (intOf i).toNat)
  case atStart => exact ⟨0, Nat.zero_le _, Nat.zero_le _, rfl, rfl, Upd.refl _ _⟩
  case round =>
    obtain ⟨k, hk, hkn, rfl, hab, u⟩ := hrel
    by_cases hlt : k < l.length
    · by_cases hn2 : k < n
      · rcases Ha.out with ⟨_, _, hnil⟩ | ⟨b, off, rfl, _, _, hbl, hcell⟩
        · rw [List.map_eq_nil_iff] at hnil; simp [hnil] at hlt
        · have c0 : wr.cell? ⟨b, off + k, none⟩ = some (.string ⟨l[k].toArray⟩) := by
            rw [u.below.cell hbl, hcell k (by simpa using hlt)]; simp [hlt, strV]
          have hzk := Hz.out l[k] (List.getElem_mem hlt)
          have Hsn := Lib.hid (Cl.absentB_succ l k key hlt)
          have Hno := Lib.hid (fun h => Cl.absent_mem (l := l) (n := n) (k := key) h hn2 hlt)
          clear hcell
          have hhk : Cl.hasKey key l[k] = ((Cl.key l[k]).2 && decide ((Cl.key l[k]).1 = key)) := rfl
          have Hhk := Lib.hid hhk; clear hhk
          generalize l[k] = x at *
          go_wp2_with fail
          (with_reducible refine (key_c ⟨x.toArray⟩ x (bs_list _) (by omega) _ (g.upd u)).mono ?_)
          rintro _ w2 ⟨rfl, u2⟩
          replace u := u.trans u2
          clear u2 c0
          generalize (Cl.key x).1 = k1 at *
          generalize (Cl.key x).2 = ok at *
          cases ok with
          | false =>
            go_wp2_with fail
            go_roundw
            case rel => exact ⟨k + 1, by omega, by omega, by go_num, by show _ = _; rw [Hsn.out, Hhk.out, hab.out]; rfl, u⟩
            case measure => simp [intOf]; omega
          | true =>
            by_cases hkk : k1 = key
            · subst hkk
              have hf : Hid (Cl.absentB l n k1 = false) := by
                show _ = _
                rw [← Bool.not_eq_true]
                intro h
                have := Hno.out h
                rw [Hhk.out] at this
                simp at this
              go_wp2_with fail
              go_ret
              exact ⟨ret_bool hf.out.symm, u⟩
            · have hk2 : (k1 == key) = false := beq_eq_false_iff_ne.2 hkk
              go_wp2_with fail
              go_roundw
              case rel => exact ⟨k + 1, by omega, by omega, by go_num, by show _ = _; rw [Hsn.out, Hhk.out, hab.out, decide_eq_false hkk]; rfl, u⟩
              case measure => simp [intOf]; omega
      · have hkk : k = n := by omega
        subst hkk
        go_wp2_with fail
        go_ret
        exact ⟨ret_bool hab.out.symm, u⟩
    · have hkl : k = l.length := by omega
      have hf : Hid (Cl.absentB l n key = true) := by
        have := hab.out
        unfold Cl.absentB at this ⊢
        rw [List.take_of_length_le (by omega)] at this ⊢
        exact this
      clear hab
      by_cases hn2 : k < n
      all_goals go_wp2_with fail
      all_goals go_ret
      all_goals exact ⟨ret_bool hf.out.symm, u⟩
end Go.Proofs.YtnfjkojckffhmaaDoor
