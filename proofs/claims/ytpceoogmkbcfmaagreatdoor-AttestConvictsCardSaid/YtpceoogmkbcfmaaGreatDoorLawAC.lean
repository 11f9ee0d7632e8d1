/- The contract of AttestConvicts. -/
import Derived.Test.YtpceoogmkbcfmaaGreatDoorAttM
import Derived.Test.YtpceoogmkbcfmaaGreatDoorGosC
import Derived.Deep.RegionHeld3
import Derived.Deep.CutRange
namespace Go.Proofs.YtpceoogmkbcfmaaGreatDoor
open Go.RowKit
set_option linter.unusedVariables false
set_option linter.unusedSimpArgs false
attribute [local irreducible] Calls

/-- c says whether a is among the first n. -/
def Among (S : List Bk.Sgn) (a : Bk.Sgn) (n : Nat) (c : Bool) : Prop := ∀ j (h : j < S.length), j < n → S[j] = a → c = true
theorem both_parts (o : Option (Bk.Sgn × Bk.Sgn)) : ∃ (a b : Bk.Sgn) (is : Bool), bothV o = .tuple #[.agg #[.int .i64 a.key, .string ⟨a.text.toArray⟩, .int .i64 a.mark], .agg #[.int .i64 b.key, .string ⟨b.text.toArray⟩, .int .i64 b.mark], .bool is] ∧ is = o.isSome ∧ (is = true → o = some (a, b)) ∧ (is = false → a = Bk.noSgn ∧ b = Bk.noSgn) := by
  cases o with
  | none => exact ⟨Bk.noSgn, Bk.noSgn, false, rfl, rfl, (fun h => by cases h), fun _ => ⟨rfl, rfl⟩⟩
  | some p =>
    obtain ⟨a, b⟩ := p
    exact ⟨a, b, true, rfl, rfl, (fun _ => rfl), fun h => by cases h⟩
set_option maxHeartbeats 8000000 in
set_option maxRecDepth 100000 in
theorem convicts_c (l : List Vw.Say) (v gv : Value) (GC : List (Value × At.Grp)) (key : Int) (text : List UInt8) (truth : Int) (W : World) (g : Gl W) (hv : SlS 7 0 W.heap.size W v (l.map sayL)) (ho : ∀ x ∈ l, SayOk x) (hG : GrpS W.heap.size W gv (GC.map (·.2)) GC) (htx : text.length ≤ maxLen) (hkey : I64 key) (htr : I64 truth) :
    Calls Tryz.prog 6 #[v, gv, .int .i64 key, .string ⟨text.toArray⟩, .int .i64 truth] W fun e w' => e = .returned (.bool true) ∧ Nw W w' := by
  have hgb := g.big
  obtain ⟨a0, cap0, rfl, hm0, _⟩ := say_cells hv
  obtain ⟨a1, cap1, rfl, hm1, ha1⟩ := grp_cells hG
  unfold maxLen at hm0 hm1 htx
  have Ho := Lib.hid ho
  have Hv := Lib.hid hv
  have HG := Lib.hid hG
  have Ha1 := Lib.hid ha1
  clear ho hv hG ha1
  go_enter Tryz.func6, Tryz.ntmps6
  go_wp2_with fail
  (with_reducible refine (smallA_w _ g).mono ?_)
  rintro _ w0 ⟨rfl, u0⟩
  have g0 := g.upd u0
  go_wp2_with fail
  (with_reducible refine (new_s _ g0).mono ?_)
  rintro _ w1 ⟨q, rfl, hq, u1⟩
  have U1 := u0.trans u1
  have hq := hq.baseA u0.size hgb
  go_wp2_with fail
  (with_reducible refine (few30_w 0 W.heap.size _ l _ (Hv.out.nw U1) Ho.out).mono ?_)
  rintro _ w2 ⟨f, rfl, hf, u2⟩
  have U2 := U1.trans u2
  cases f with
  | false =>
    clear hf
    go_wp2_with fail
    go_ret
    exact ⟨rfl, U2⟩
  | true =>
  obtain ⟨hl30, hl300⟩ := hf rfl
  clear hf
  have Hl300 := Lib.hid hl300
  clear hl300
  go_wp2_with fail
  (with_reducible refine (fewG_w W.heap.size _ (GC.map (·.2)) GC _ (HG.out.nw U2)).mono ?_)
  rintro _ w3 ⟨f, rfl, hf, u3⟩
  have U3 := U2.trans u3
  cases f with
  | false =>
    clear hf
    go_wp2_with fail
    go_ret
    exact ⟨rfl, U3⟩
  | true =>
  obtain ⟨hG6, hG14⟩ := hf rfl
  clear hf
  have HG14 := Lib.hid hG14
  clear hG14
  by_cases ht300 : text.length ≤ 300
  rotate_left
  · go_wp2_with fail
    go_ret
    exact ⟨rfl, U3⟩
  have g3 := g.upd U3
  obtain ⟨f1, f2, f3, f4⟩ := Vw.signed_facts (Lr := []) List.nodup_nil (l := l) (by simp; omega) (fun x hx => words_len (Ho.out x hx) (Hl300.out x hx).1)
  have Hsg := Lib.hid (signedA_w W.heap.size 0 W.heap.size q [] _ l w3 g3 ((hq.nw u2).nw u3) (Hv.out.nw U3) (Nat.le_refl _) Ho.out (fun x hx => (Hl300.out x hx).1) hl30 (by decide))
  have F4 := Lib.hid f4
  have F3 := Lib.hid f3
  clear f1 f2 f3 f4
  go_wp2_with fail
  (with_reducible refine (Hsg.out).mono ?_)
  rintro _ w5 ⟨sv, rfl, hs5⟩
  obtain ⟨q', hrb, hq5, ho5, U5⟩ := sg_start hq U1 (u2.trans u3) hs5 F3.out
  have hlenS := F3.out
  clear hs5 hq Hsg F3
  generalize Vw.signedL [] l = SL at *
  obtain ⟨Lr, S⟩ := SL
  dsimp only at hq5 ho5 F4 hlenS
  have hS30 : S.length ≤ 30 := by omega
  clear hlenS
  obtain ⟨asl, caps, rfl⟩ := own_sl ho5
  have g5 := g.upd U5
  have hok : ∀ s ∈ S, SgnOk s := fun s hs => mod_okA s (F4.out s hs)
  rw [← hrb]
  have Hq := Lib.hid hq5
  have HS := Lib.hid (sgn_sls ho5)
  have HG5 := Lib.hid (HG.out.nw U5)
  have Hok := Lib.hid hok
  clear hq5 ho5 hok hrb
  have hvl := At.votes_len Lr S text
  have hml : ∀ c ∈ GC, c.2.members.length ≤ 1000 := fun c hc => by have := HG14.out c hc; omega
  have HBq := both_q text key g5 Hq.out HS.out (by omega) Hok.out
  obtain ⟨a, b, is, hbv, his, hso, hno⟩ := both_parts (At.both (At.votes Lr S text) key)
  rw [hbv] at HBq
  have hcv := At.both_convict (Lr := Lr) (C := S) (text := text) (key := key) (a := a) (b := b)
  have hmany := At.many_law (At.votes Lr S text) key
  rw [← his] at hmany
  have hlies := fun k (hk : k ∈ At.liars (At.votes Lr S text) (GC.map (·.2)) truth) => At.lies_law hk
  have Hso := Lib.hid hso
  have Hno := Lib.hid hno
  have Hcv := Lib.hid hcv
  have Hmany := Lib.hid hmany
  have Hlies := Lib.hid hlies
  have Hml := Lib.hid hml
  have HBQ := Lib.hid HBq
  obtain ⟨ak, ax, am⟩ := a
  obtain ⟨bk, bx, bm⟩ := b
  clear hbv his hso hno hcv hmany hlies hml HBq
  go_wp2_with fail
  (with_reducible refine (HBQ.out).mono ?_)
  rintro _ w6 ⟨rfl, u6⟩
  have n7 := nw_alloc w6 (.cells #[.int .i64 ak, .string ⟨ax.toArray⟩, .int .i64 am] tSigned)
  have k7 := heap_new w6 (.cells #[.int .i64 ak, .string ⟨ax.toArray⟩, .int .i64 am] tSigned)
  have s7 : (w6.alloc (.cells #[.int .i64 ak, .string ⟨ax.toArray⟩, .int .i64 am] tSigned)).heap.size = w6.heap.size + 1 := by simp
  generalize hW7 : w6.alloc (.cells #[.int .i64 ak, .string ⟨ax.toArray⟩, .int .i64 am] tSigned) = W7 at *
  have n8 := nw_alloc W7 (.cells #[.int .i64 bk, .string ⟨bx.toArray⟩, .int .i64 bm] tSigned)
  have k8 := heap_new W7 (.cells #[.int .i64 bk, .string ⟨bx.toArray⟩, .int .i64 bm] tSigned)
  generalize hW8 : W7.alloc (.cells #[.int .i64 bk, .string ⟨bx.toArray⟩, .int .i64 bm] tSigned) = W8 at *
  have HW8 : Hid ((w6.alloc (.cells #[.int .i64 ak, .string ⟨ax.toArray⟩, .int .i64 am] tSigned)).alloc (.cells #[.int .i64 bk, .string ⟨bx.toArray⟩, .int .i64 bm] tSigned) = W8) := by show _ = _; rw [hW7, hW8]
  rw [s7] at k8
  have u8 := (u6.trans n7).trans n8
  have U8 := U5.trans u8
  have K7 := Lib.hid (Nw.keep n8 k7)
  have K8 := Lib.hid k8
  have Hq8 := Lib.hid (Hq.out.nw u8)
  have HS8 := Lib.hid (HS.out.nw u8)
  have HG8 := Lib.hid (HG5.out.nw u8)
  clear hW7 hW8 n7 n8 k7 k8 s7 u8 u6 HBQ Hq HS HG5
  go_wp2_with fail
  rw [HW8.out]
  go_wp2_with fail
  go_loopw [17, 18, 19] (fun ov tv iv wr => ∃ k : Nat, k ≤ S.length ∧ iv = .int .i64 k ∧ (∃ b1 b2 : Bool, ov = .bool b1 ∧ tv = .bool b2 ∧ Hid (Among S ⟨ak, ax, am⟩ k b1) ∧ Hid (Among S ⟨bk, bx, bm⟩ k b2)) ∧ Nw W8 wr) (fun ov tv iv _ => S.length - (intOf iv).toNat)
  case atStart => exact ⟨0, Nat.zero_le _, rfl, ⟨false, false, rfl, rfl, fun j _ h => absurd h (Nat.not_lt_zero _), fun j _ h => absurd h (Nat.not_lt_zero _)⟩, Upd.refl _ _⟩
  case round =>
    obtain ⟨k, hk, rfl, ⟨b1, b2, rfl, rfl, hb1, hb2⟩, u⟩ := hrel
    obtain ⟨_, _, _⟩ := cell3 (Nw.keep u K7.out)
    obtain ⟨_, _, _⟩ := cell3 (Nw.keep u K8.out)
    by_cases hlt : k < S.length
    · obtain ⟨as', cs', es, _, hc⟩ := sgn_cells HS8.out
      obtain ⟨rfl, rfl⟩ : asl = as' ∧ caps = cs' := by simp at es; exact es
      rcases hc with hnil | ⟨sb, so, rfl, _, hsb, hc⟩
      · simp [hnil] at hlt
      obtain ⟨p0, p1, p2⟩ := hc k hlt
      have d0 := ((Nw.below u).cell (p := ⟨sb, so + k * 3, none⟩) hsb).trans p0
      have d1 := ((Nw.below u).cell (p := ⟨sb, so + k * 3 + 1, none⟩) hsb).trans p1
      have d2 := ((Nw.below u).cell (p := ⟨sb, so + k * 3 + 2, none⟩) hsb).trans p2
      clear hc p0 p1 p2 es
      have hn1 : ∀ c : Bool, (S[k] = ⟨ak, ax, am⟩ → c = true) → (b1 = true → c = true) → Hid (Among S ⟨ak, ax, am⟩ (k + 1) c) := fun c h1 h2 j h hj e => by
        by_cases ej : j = k
        · subst ej; exact h1 e
        · exact h2 (hb1.out j h (by omega) e)
      have hn2 : ∀ c : Bool, (S[k] = ⟨bk, bx, bm⟩ → c = true) → (b2 = true → c = true) → Hid (Among S ⟨bk, bx, bm⟩ (k + 1) c) := fun c h1 h2 j h hj e => by
        by_cases ej : j = k
        · subst ej; exact h1 e
        · exact h2 (hb2.out j h (by omega) e)
      generalize S[k] = x at *
      obtain ⟨xk, xx, xm⟩ := x
      dsimp only at d0 d1 d2
      have Hn1 := Lib.hid hn1
      have Hn2 := Lib.hid hn2
      clear hn1 hn2
      obtain ⟨c0, c1, c2⟩ := cell3 (Nw.keep u K7.out)
      cases b1 with
      | true =>
        have h1 := Hn1.out true (fun _ => rfl) (fun _ => rfl)
        clear Hn1
        go_wp2_with fail
        go_quiet (fail)
        obtain ⟨w9, ew, u9⟩ := nw_drewN wr nq
        rw [ew]; clear ew
        obtain ⟨_, _, _⟩ := cell3 (Nw.keep (u.trans u9) K8.out)
        have d0' := later_cell ⟨w9, u9⟩ d0
        have d1' := later_cell ⟨w9, u9⟩ d1
        have d2' := later_cell ⟨w9, u9⟩ d2
        dsimp only at d0' d1' d2'
        cases b2 with
        | true =>
          have h2 := Hn2.out true (fun _ => rfl) (fun _ => rfl)
          clear Hn2
          go_wp2_with fail
          go_quiet (fail)
          obtain ⟨w10, ew, u10⟩ := nw_drewN w9 nq
          rw [ew]; clear ew
          go_wp2_with fail
          go_roundw
          case rel => exact ⟨k + 1, by omega, by go_num, ⟨true, true, rfl, rfl, h1, h2⟩, (u.trans u9).trans u10⟩
          case measure => simp [intOf]; omega
        | false =>
          by_cases he2 : (⟨xk, xx, xm⟩ : Bk.Sgn) = ⟨bk, bx, bm⟩
          · have h2 := Hn2.out true (fun _ => rfl) (fun _ => rfl)
            injection he2 with e1 e2 e3
            subst e1 e2 e3
            clear Hn2
            go_wp2_with fail
            go_quiet (fail)
            obtain ⟨w10, ew, u10⟩ := nw_drewN w9 nq
            rw [ew]; clear ew
            go_wp2_with fail
            go_roundw
            case rel => exact ⟨k + 1, by omega, by go_num, ⟨true, true, rfl, rfl, h1, h2⟩, (u.trans u9).trans u10⟩
            case measure => simp [intOf]; omega
          · have h2 := Hn2.out false (fun e => absurd e he2) (fun e => by cases e)
            have hf := sgn_far _ _ he2
            dsimp only at hf
            clear Hn2 he2
            rcases hf with hf | ⟨hf, hf2⟩ | ⟨hf, hf2, hf3⟩
            all_goals
              go_wp2_with fail
              go_quiet (fail)
              obtain ⟨w10, ew, u10⟩ := nw_drewN w9 nq
              rw [ew]; clear ew
              go_wp2_with fail
              go_roundw
              case rel => exact ⟨k + 1, by omega, by go_num, ⟨true, false, rfl, rfl, h1, h2⟩, (u.trans u9).trans u10⟩
              case measure => simp [intOf]; omega
      | false =>
        by_cases he1 : (⟨xk, xx, xm⟩ : Bk.Sgn) = ⟨ak, ax, am⟩
        · have h1 := Hn1.out true (fun _ => rfl) (fun _ => rfl)
          injection he1 with e1 e2 e3
          subst e1 e2 e3
          clear Hn1
          go_wp2_with fail
          go_quiet (fail)
          obtain ⟨w9, ew, u9⟩ := nw_drewN wr nq
          rw [ew]; clear ew
          obtain ⟨_, _, _⟩ := cell3 (Nw.keep (u.trans u9) K8.out)
          have d0' := later_cell ⟨w9, u9⟩ d0
          have d1' := later_cell ⟨w9, u9⟩ d1
          have d2' := later_cell ⟨w9, u9⟩ d2
          dsimp only at d0' d1' d2'
          cases b2 with
          | true =>
            have h2 := Hn2.out true (fun _ => rfl) (fun _ => rfl)
            clear Hn2
            go_wp2_with fail
            go_quiet (fail)
            obtain ⟨w10, ew, u10⟩ := nw_drewN w9 nq
            rw [ew]; clear ew
            go_wp2_with fail
            go_roundw
            case rel => exact ⟨k + 1, by omega, by go_num, ⟨true, true, rfl, rfl, h1, h2⟩, (u.trans u9).trans u10⟩
            case measure => simp [intOf]; omega
          | false =>
            by_cases he2 : (⟨xk, xx, xm⟩ : Bk.Sgn) = ⟨bk, bx, bm⟩
            · have h2 := Hn2.out true (fun _ => rfl) (fun _ => rfl)
              injection he2 with e1 e2 e3
              subst e1 e2 e3
              clear Hn2
              go_wp2_with fail
              go_quiet (fail)
              obtain ⟨w10, ew, u10⟩ := nw_drewN w9 nq
              rw [ew]; clear ew
              go_wp2_with fail
              go_roundw
              case rel => exact ⟨k + 1, by omega, by go_num, ⟨true, true, rfl, rfl, h1, h2⟩, (u.trans u9).trans u10⟩
              case measure => simp [intOf]; omega
            · have h2 := Hn2.out false (fun e => absurd e he2) (fun e => by cases e)
              have hf := sgn_far _ _ he2
              dsimp only at hf
              clear Hn2 he2
              rcases hf with hf | ⟨hf, hf2⟩ | ⟨hf, hf2, hf3⟩
              all_goals
                go_wp2_with fail
                go_quiet (fail)
                obtain ⟨w10, ew, u10⟩ := nw_drewN w9 nq
                rw [ew]; clear ew
                go_wp2_with fail
                go_roundw
                case rel => exact ⟨k + 1, by omega, by go_num, ⟨true, false, rfl, rfl, h1, h2⟩, (u.trans u9).trans u10⟩
                case measure => simp [intOf]; omega
        · have h1 := Hn1.out false (fun e => absurd e he1) (fun e => by cases e)
          have hf := sgn_far _ _ he1
          dsimp only at hf
          clear Hn1 he1
          rcases hf with hf | ⟨hf, hf2⟩ | ⟨hf, hf2, hf3⟩
          all_goals
            go_wp2_with fail
            go_quiet (fail)
            obtain ⟨w9, ew, u9⟩ := nw_drewN wr nq
            rw [ew]; clear ew
            try clear hf
            try clear hf2
            try clear hf3
            obtain ⟨_, _, _⟩ := cell3 (Nw.keep (u.trans u9) K8.out)
            have d0' := later_cell ⟨w9, u9⟩ d0
            have d1' := later_cell ⟨w9, u9⟩ d1
            have d2' := later_cell ⟨w9, u9⟩ d2
            dsimp only at d0' d1' d2'
            cases b2 with
            | true =>
              have h2 := Hn2.out true (fun _ => rfl) (fun _ => rfl)
              clear Hn2
              go_wp2_with fail
              go_quiet (fail)
              obtain ⟨w10, ew, u10⟩ := nw_drewN w9 nq
              rw [ew]; clear ew
              go_wp2_with fail
              go_roundw
              case rel => exact ⟨k + 1, by omega, by go_num, ⟨false, true, rfl, rfl, h1, h2⟩, (u.trans u9).trans u10⟩
              case measure => simp [intOf]; omega
            | false =>
              by_cases he2 : (⟨xk, xx, xm⟩ : Bk.Sgn) = ⟨bk, bx, bm⟩
              · have h2 := Hn2.out true (fun _ => rfl) (fun _ => rfl)
                injection he2 with e1 e2 e3
                subst e1 e2 e3
                clear Hn2
                go_wp2_with fail
                go_quiet (fail)
                obtain ⟨w10, ew, u10⟩ := nw_drewN w9 nq
                rw [ew]; clear ew
                go_wp2_with fail
                go_roundw
                case rel => exact ⟨k + 1, by omega, by go_num, ⟨false, true, rfl, rfl, h1, h2⟩, (u.trans u9).trans u10⟩
                case measure => simp [intOf]; omega
              · have h2 := Hn2.out false (fun e => absurd e he2) (fun e => by cases e)
                have hf := sgn_far _ _ he2
                dsimp only at hf
                clear Hn2 he2
                rcases hf with hf | ⟨hf, hf2⟩ | ⟨hf, hf2, hf3⟩
                all_goals
                  go_wp2_with fail
                  go_quiet (fail)
                  obtain ⟨w10, ew, u10⟩ := nw_drewN w9 nq
                  rw [ew]; clear ew
                  go_wp2_with fail
                  go_roundw
                  case rel => exact ⟨k + 1, by omega, by go_num, ⟨false, false, rfl, rfl, h1, h2⟩, (u.trans u9).trans u10⟩
                  case measure => simp [intOf]; omega
    · obtain rfl : k = S.length := by omega
      have hAm : is = true → b1 = true ∧ b2 = true ∧ ak = key ∧ bk = key ∧ Bk.valid Lr ⟨ak, ax, am⟩ = true ∧ Bk.valid Lr ⟨bk, bx, bm⟩ = true ∧ (Cl.read ax).2 = true ∧ (Cl.read bx).2 = true ∧ Cl.contra (Vw.claimOf ⟨ak, ax, am⟩) (Vw.claimOf ⟨bk, bx, bm⟩) = true := fun e => by
        obtain ⟨h1, h2, h3, h4, h5, h6, h7, h8, h9⟩ := Hcv.out (Hso.out e)
        obtain ⟨j1, hj1, f1⟩ := List.mem_iff_getElem.1 h1
        obtain ⟨j2, hj2, f2⟩ := List.mem_iff_getElem.1 h2
        exact ⟨hb1.out j1 hj1 hj1 f1, hb2.out j2 hj2 hj2 f2, h3, h4, h5, h6, h7, h8, h9⟩
      have HAm := Lib.hid hAm
      have UK := U8.trans u
      have gk := g.upd UK
      have Hqk := Lib.hid (Hq8.out.nw u)
      have HSk := Lib.hid (HS8.out.nw u)
      have HGk := Lib.hid (HG8.out.nw u)
      have K7k := Lib.hid (Nw.keep u K7.out)
      have K8k := Lib.hid (Nw.keep u K8.out)
      have n9 := nw_alloc wr (.cells #[.int .i64 key] tNum)
      have k9 := heap_new wr (.cells #[.int .i64 key] tNum)
      have hsl9 : Sl 0 (wr.heap.size + 1) (wr.alloc (.cells #[.int .i64 key] tNum)) (.slice (some ⟨wr.heap.size, 0, none⟩) 1 1) ([key].map intV) := Or.inr ⟨wr.heap.size, 0, 1, rfl, Nat.le_refl _, by decide, Nat.zero_le _, Nat.lt_succ_self _, by simp, fun i hi => by rw [cells_cell k9, Nat.zero_add]; simp⟩
      have s9 : (wr.alloc (.cells #[.int .i64 key] tNum)).heap.size = wr.heap.size + 1 := by simp
      generalize hW9 : wr.alloc (.cells #[.int .i64 key] tNum) = W9 at *
      have n10 := nw_alloc W9 (.cells #[.slice (some ⟨wr.heap.size, 0, none⟩) 1 1, .int .i64 0] tGrp)
      have k10 := heap_new W9 (.cells #[.slice (some ⟨wr.heap.size, 0, none⟩) 1 1, .int .i64 0] tGrp)
      rw [s9] at k10
      generalize hW10 : W9.alloc (.cells #[.slice (some ⟨wr.heap.size, 0, none⟩) 1 1, .int .i64 0] tGrp) = W10 at *
      have HW10 : Hid ((wr.alloc (.cells #[.int .i64 key] tNum)).alloc (.cells #[.slice (some ⟨wr.heap.size, 0, none⟩) 1 1, .int .i64 0] tGrp) = W10) := by show _ = _; rw [hW9, hW10]
      have u10 := n9.trans n10
      have Sl10 := Lib.hid (hsl9.nw n10)
      have K10 := Lib.hid k10
      have U10 := UK.trans u10
      have g10 := g.upd U10
      have hqp := Prints_w W.heap.size q' Lr _ _ _ S text W10 g10 (Hqk.out.nw u10) (HSk.out.nw u10) (by omega) Hok.out
      have hpl := At.prints_len (At.votes Lr S text)
      have HQP := Lib.hid hqp
      clear hAm hW9 hW10 k9 k10 n9 n10 s9 hsl9 hqp Hq8 HS8 HG8 K7 K8 hb1 hb2
      go_wp2_with fail
      rw [HW10.out]
      go_wp2_with fail
      (with_reducible refine (HQP.out).mono ?_)
      rintro _ x4 ⟨pv, rfl, o4, y4⟩
      obtain ⟨ap, cp, rfl⟩ := own_sl o4
      have S4 := Lib.hid (own_num o4)
      clear o4 HQP
      have hP100 : (At.prints (At.votes Lr S text)).length ≤ 100 := by omega
      clear hpl
      obtain ⟨ap', cp', ep, hmp, hcp⟩ := num_cells S4.out
      obtain ⟨rfl, rfl⟩ : ap = ap' ∧ cp = cp' := by simp at ep; exact ep
      have Hcp := Lib.hid hcp
      have hmB := At.manyL_le (At.votes Lr S text) key (At.prints (At.votes Lr S text))
      clear hcp ep hmp
      generalize At.prints (At.votes Lr S text) = P at *
      have u4 := u10.trans y4
      have Sl4 := Lib.hid (Sl10.out.nw y4)
      have K4 := Lib.hid (Nw.keep y4 K10.out)
      have U4 := UK.trans u4
      clear Sl10 K10 HW10
      generalize wr.heap.size = sz at *
      go_wp2_with fail
      go_loopw [22, 23] (fun mv iv wr' => ∃ i : Nat, i ≤ P.length ∧ iv = .int .i64 i ∧ (∃ m : Nat, m ≤ i ∧ mv = .int .i64 m ∧ Hid (m = At.manyL (At.votes Lr S text) key (P.take i))) ∧ Nw x4 wr') (fun mv iv _ => P.length - (intOf iv).toNat)
      case atStart => exact ⟨0, Nat.zero_le _, rfl, ⟨0, Nat.le_refl _, rfl, rfl⟩, Upd.refl _ _⟩
      case round =>
        obtain ⟨i, hi, rfl, ⟨m, hmi, rfl, hm⟩, ui⟩ := hrel
        by_cases hil : i < P.length
        · rcases Hcp.out with hnil | ⟨pb, po, rfl, _, hpb, hpc⟩
          · simp [hnil] at hil
          have e0 := ((Nw.below ui).cell (p := ⟨pb, po + i, none⟩) hpb).trans (hpc i hil)
          have hst := At.manyL_take (At.votes Lr S text) key hil
          rw [← hm.out] at hst
          have h1 := At.one_le (At.votes Lr S text) key P[i]
          clear hpc
          generalize P[i] = p at *
          obtain ⟨d0, d1⟩ := cell2 (Nw.keep ui K4.out)
          have HD : Hid (∀ z, Nw wr z → z.cell? ⟨pb, po + i, none⟩ = some (.int .i64 p) ∧ z.cell? ⟨sz + 1, 0, none⟩ = some (.slice (some ⟨sz, 0, none⟩) 1 1) ∧ z.cell? ⟨sz + 1, 1, none⟩ = some (.int .i64 0)) := fun z uz => ⟨later_cell ⟨z, uz⟩ e0, later_cell ⟨z, uz⟩ d0, later_cell ⟨z, uz⟩ d1⟩
          have hvt := vote_r (gr := ⟨[key], 0⟩) text p (gk.upd (u4.trans ui)) ((Hqk.out.nw u4).nw ui) ((HSk.out.nw u4).nw ui) (by omega) Hok.out (Sl4.out.nw ui) (by simp)
          generalize (At.members (At.votes Lr S text) ⟨[key], 0⟩ p).length = n at *
          have Hvt := Lib.hid hvt
          have Hst := Lib.hid hst
          have hwr : IntKind.i64.wrap ((m : Int) + (n : Int)) = (m : Int) + (n : Int) := by rw [IntKind.wrap_i64]; omega
          clear hvt hst
          go_wp2_with fail
          go_region_held3 (fun z => z.cell? ⟨pb, po + i, none⟩ = some (.int .i64 p) ∧ z.cell? ⟨sz + 1, 0, none⟩ = some (.slice (some ⟨sz, 0, none⟩) 1 1) ∧ z.cell? ⟨sz + 1, 1, none⟩ = some (.int .i64 0)) (first | exact HD.out _ v5 | exact HD.out _ (Upd.refl _ _).drew) (first | (go_at_call 15; (with_reducible refine (Hvt.out _ (Upd.refl _ _).drew).mono ?_); rintro _ x5 ⟨a5, c5, rfl, s5, v5⟩))
          have hm2 : Hid (m + n = At.manyL (At.votes Lr S text) key (P.take (i + 1))) := Hst.out.symm
          clear s5 Hvt Hst
          go_wp2_with fail
          go_roundw
          case rel => exact ⟨i + 1, by omega, by go_num, ⟨m + n, by omega, by go_num, hm2⟩, ui.trans v5⟩
          case measure => simp [intOf]; omega
        · obtain rfl : i = P.length := by omega
          rw [List.take_length] at hm
          have hmm := Hmany.out
          rw [← hm.out] at hmm
          have UI := U4.trans ui
          have uki := u4.trans ui
          have gi := g.upd UI
          have HLq := Lib.hid (liars_q text truth gi (Hqk.out.nw uki) (HSk.out.nw uki) (by omega) Hok.out (HGk.out.nw uki) (by omega) Hml.out)
          obtain ⟨c0, c1, c2⟩ := cell3 (Nw.keep uki K7k.out)
          obtain ⟨e0, e1, e2⟩ := cell3 (Nw.keep uki K8k.out)
          have KD := fun (z : World) (uz : Nw wr z) => (⟨cell3 (Nw.keep (uki.trans uz) K7k.out), cell3 (Nw.keep (uki.trans uz) K8k.out)⟩ : _ ∧ _)
          have HKD := Lib.hid KD
          clear KD hm
          go_upto_region 21 with fail
          go_cut [157] from 115 to 157 (fun c wx => c = .bool false ∧ Nw wr wx)
          case first =>
            cases is with
            | true =>
              obtain ⟨h1, h2, h3, h4, h5, h6, h7, h8, h9⟩ := HAm.out rfl
              have hm1 : 1 < m := by simpa using hmm.symm
              have hce : convictE Lr ⟨ak, ax, am⟩ ⟨bk, bx, bm⟩ = 0 := by
                unfold convictE
                unfold Vw.claimOf at h9
                rw [h5, h6]
                dsimp only at h7 h8 h9 ⊢
                rw [h7, h8, h9, h3, h4]
                simp
              subst h1 h2 h3
              have hoka := Hok.out ⟨ak, ax, am⟩ (Hcv.out (Hso.out rfl)).1
              have hokb := Hok.out ⟨bk, bx, bm⟩ (Hcv.out (Hso.out rfl)).2.1
              have hcc := fun (z : World) (uz : Nw wr z) => convict_w W.heap.size q' Lr ⟨ak, ax, am⟩ ⟨bk, bx, bm⟩ z (gi.upd uz) ((Hqk.out.nw uki).nw uz) hoka hokb
              rw [hce] at hcc
              subst h4
              have HCC := Lib.hid hcc
              have hm2 : (1 : Int) < (m : Int) := by omega
              clear h5 h6 h7 h8 h9 hce hcc hoka hokb hmm HAm Hcv Hso Hno HLq
              go_wp2_with fail
              (with_reducible refine (HCC.out _ (Upd.refl _ _)).mono ?_)
              rintro _ x6 ⟨rfl, v6⟩
              go_wp2_with fail
              go_meet
              exact ⟨rfl, v6⟩
            | false =>
              obtain ⟨h1, h2⟩ := Hno.out rfl
              have hm1 : ¬ 1 < m := by simpa using hmm.symm
              have hm2 : ¬ (1 : Int) < (m : Int) := by omega
              injection h1 with f1 f2 f3
              injection h2 with f4 f5 f6
              subst f1 f2 f3 f4 f5 f6
              clear hmm HAm Hcv Hso Hno HLq
              go_wp2_with fail
              go_meet
              exact ⟨rfl, Upd.refl _ _⟩
          case rest =>
            obtain ⟨rfl, v6⟩ := hcut
            have ux := uki.trans v6
            have hl7 := liars_q text truth (gi.upd v6) ((Hqk.out.nw ux)) ((HSk.out.nw ux)) (by omega) Hok.out ((HGk.out.nw ux)) (by omega) Hml.out
            have HL7 := Lib.hid hl7
            clear hl7 HLq hmm HAm Hcv Hso Hno HKD c0 c1 c2 e0 e1 e2
            go_wp2_with fail
            (with_reducible refine (HL7.out).mono ?_)
            rintro _ x7 ⟨lv, rfl, o7, v7⟩
            have hasc : (At.liars (At.votes Lr S text) (GC.map (·.2)) truth).Pairwise (· < ·) := At.sortU_asc _
            generalize At.liars (At.votes Lr S text) (GC.map (·.2)) truth = LS at *
            have hlcap : LS = [] ∨ ∃ a c, lv = .slice a LS.length c ∧ LS.length ≤ c ∧ c ≤ 9223372036854775807 := by
              rcases o7.2 with ⟨e, h0⟩ | ⟨gb, cap, cur, e, _, _, hn, hcap, _⟩
              · exact Or.inl (List.length_eq_zero_iff.1 h0)
              · unfold maxLen at hcap
                exact Or.inr ⟨_, _, e, hn, by omega⟩
            obtain ⟨al, cl, rfl⟩ := own_sl o7
            obtain ⟨al', cl', el, hml7, hlc⟩ := num_cells (own_num o7)
            obtain ⟨rfl, rfl⟩ : al = al' ∧ cl = cl' := by simp at el; exact el
            unfold maxLen at hml7
            have Hlc := Lib.hid hlc
            have Hasc := Lib.hid hasc
            have Hlcap := Lib.hid hlcap
            have ux7 := ux.trans v7
            have UX7 := UK.trans ux7
            clear o7 HL7 hlc hasc el hlcap
            go_wp2_with fail
            go_loopw [25] (fun iv wz => ∃ i : Nat, i ≤ LS.length ∧ iv = .int .i64 i ∧ Nw x7 wz) (fun iv _ => LS.length - (intOf iv).toNat)
            case atStart => exact ⟨0, Nat.zero_le _, rfl, Upd.refl _ _⟩
            case round =>
              obtain ⟨i, hi2, rfl, uj⟩ := hrel
              obtain ⟨wq, rfl⟩ : ∃ x, x = wr := ⟨_, rfl⟩
              by_cases hil2 : i < LS.length
              · rcases Hlc.out with hnil | ⟨lb, lo, rfl, _, hlb, hlc⟩
                · simp [hnil] at hil2
                rcases Hlcap.out with hnil | ⟨al2, cl2, el, hlc1, hlc2⟩
                · simp [hnil] at hil2
                obtain rfl : cl = cl2 := by simp at el; exact el.2
                clear el
                have e0 := ((Nw.below uj).cell (p := ⟨lb, lo + i, none⟩) hlb).trans (hlc i hil2)
                obtain ⟨hmem, hlie⟩ := Hlies.out LS[i] (List.getElem_mem hil2)
                have hord : ∀ d, i = d + 1 → ∃ k0, wq.cell? ⟨lb, lo + d, none⟩ = some (.int .i64 k0) ∧ k0 < LS[i] := fun d hd => by
                  refine ⟨LS[d]'(by omega), ((Nw.below uj).cell (p := ⟨lb, lo + d, none⟩) hlb).trans (hlc d (by omega)), ?_⟩
                  exact List.pairwise_iff_getElem.1 Hasc.out d i (by omega) hil2 (by omega)
                clear hlc
                generalize LS[i] = k at *
                have Hmem := Lib.hid hmem
                have Hlie := Lib.hid hlie
                have Hord := Lib.hid hord
                clear hmem hlie hord
                go_wp2_with fail
                go_loopw [26, 27] (fun bv jv wz => ∃ j : Nat, j ≤ GC.length ∧ jv = .int .i64 j ∧ (∃ mb : Bool, bv = .bool mb ∧ Hid (mb = At.memB GC k j)) ∧ Nw wq wz) (fun bv jv _ => GC.length - (intOf jv).toNat)
                case atStart => exact ⟨0, Nat.zero_le _, rfl, ⟨false, rfl, rfl⟩, Upd.refl _ _⟩
                case round =>
                  obtain ⟨j, hj, rfl, ⟨mb, rfl, hmb⟩, ug⟩ := hrel
                  have uxg := ux7.trans (uj.trans ug)
                  have UG := UK.trans uxg
                  by_cases hjl : j < GC.length
                  · rcases Ha1.out with hnil | ⟨gb, go, rfl, _, hgb2, hgc⟩
                    · simp [hnil] at hjl
                    have hxs := HGk.out.each GC[j] (List.getElem_mem hjl)
                    have hms := hxs.1.nw uxg
                    have f0 := ((Nw.below UG).cell (p := ⟨gb, go + j * 2, none⟩) hgb2).trans (hgc j hjl).1
                    have hst := At.memB_succ (k := k) hjl
                    rw [← hmb.out] at hst
                    have hh := fun (z : World) (uz : Nw wr z) => has_w _ _ _ _ k z (hms.nw uz)
                    generalize GC[j].2.members.contains k = qb at *
                    obtain ⟨am, capm, hmv, hmm2, hxx⟩ := num_cells hms
                    clear hxx hmm2
                    generalize GC[j].2.members.length = ml at *
                    generalize GC[j].1 = msv at *
                    subst hmv
                    have e1 := later_cell ⟨wr, ug⟩ e0
                    dsimp only at e1
                    have f0' : ∀ i : Later wr, i.1.cell? ⟨gb, go + j * 2, none⟩ = some (.slice am ml capm) := fun i => later_cell i f0
                    have e1' : ∀ ii : Later wr, ii.1.cell? ⟨lb, lo + i, none⟩ = some (.int .i64 k) := fun ii => later_cell ii e1
                    have Hst := Lib.hid hst
                    have HH := Lib.hid hh
                    clear hst hh hxs hms hgc
                    cases mb with
                    | true =>
                      have hm3 : Hid (true = At.memB GC k (j + 1)) := by show _ = _; rw [Hst.out]; rfl
                      clear Hst HH
                      go_wp2_with fail
                      refine wp_region_nw (by kernel_rfl) (by kernel_rfl) ?_
                      repeat (go_big_quiet_step ((fail)))
                      refine wpQuiet_nil ?_
                      intro w9 u9
                      replace u9 := later_out u9
                      go_wp2_with fail
                      go_roundw
                      case rel => exact ⟨j + 1, by omega, by go_num, ⟨true, rfl, hm3⟩, ug.trans u9⟩
                      case measure => simp [intOf]; omega
                    | false =>
                      have hm3 : Hid (qb = At.memB GC k (j + 1)) := by show _ = _; rw [Hst.out]; simp
                      clear Hst
                      go_wp2_with fail
                      refine wp_region_nw (by kernel_rfl) (by kernel_rfl) ?_
                      repeat (go_big_quiet_step ((go_at_call 31; exact later_call (HH.out _ (Later.nw _)))))
                      refine wpQuiet_nil ?_
                      intro w9 u9
                      replace u9 := later_out u9
                      go_wp2_with fail
                      go_roundw
                      case rel => exact ⟨j + 1, by omega, by go_num, ⟨qb, rfl, hm3⟩, ug.trans u9⟩
                      case measure => simp [intOf]; omega
                  · obtain rfl : j = GC.length := by omega
                    rw [At.memB_all Hmem.out] at hmb
                    have hmb2 := hmb.out
                    subst hmb2
                    obtain ⟨wg, rfl⟩ : ∃ x, x = wr := ⟨_, rfl⟩
                    clear hmb
                    go_wp2_with fail
                    go_loopw [28, 29] (fun mv jv wz => ∃ j : Nat, j ≤ P.length ∧ jv = .int .i64 j ∧ (∃ m : Nat, m ≤ j ∧ mv = .int .i64 m ∧ Hid (m = At.liesL (At.votes Lr S text) truth k (P.take j))) ∧ Nw wg wz) (fun mv jv _ => P.length - (intOf jv).toNat)
                    case atStart => exact ⟨0, Nat.zero_le _, rfl, ⟨0, Nat.le_refl _, rfl, rfl⟩, Upd.refl _ _⟩
                    case round =>
                      obtain ⟨j, hj2, rfl, ⟨m2, hmj, rfl, hm2⟩, uh⟩ := hrel
                      have uxh := uxg.trans uh
                      have UH := UK.trans uxh
                      have ujh := uj.trans (ug.trans uh)
                      have e1 := later_cell ⟨wr, ug.trans uh⟩ e0
                      dsimp only at e1
                      by_cases hjl2 : j < P.length
                      · rcases Hcp.out with hnil | ⟨pb, po, rfl, _, hpb, hpc⟩
                        · simp [hnil] at hjl2
                        have q0 := ((Nw.below (ui.trans (v6.trans (v7.trans ujh)))).cell (p := ⟨pb, po + j, none⟩) hpb).trans (hpc j hjl2)
                        have hst := At.liesL_take (At.votes Lr S text) truth k hjl2
                        rw [← hm2.out] at hst
                        have h1 := At.one_le (At.votes Lr S text) k P[j]
                        clear hpc
                        generalize P[j] = p at *
                        by_cases hpt : p = truth
                        · have dp : (p != truth) = false := by simp [hpt]
                          have dp2 : (p == truth) = true := by simp [hpt]
                          have hm3 : Hid (m2 = At.liesL (At.votes Lr S text) truth k (P.take (j + 1))) := by show _ = _; rw [hst, if_neg (by simp [hpt])]; rfl
                          clear hst hpt h1
                          go_wp2_with fail
                          go_roundw
                          case rel => exact ⟨j + 1, by omega, by go_num, ⟨m2, by omega, rfl, hm3⟩, uh⟩
                          case measure => simp [intOf]; omega
                        · have dp : (p != truth) = true := by simp [hpt]
                          have dp2 : (p == truth) = false := by simp [hpt]
                          rw [if_pos hpt] at hst
                          have hsl : Sl 0 (lb + 1) wr (.slice (some ⟨lb, lo + i, none⟩) 1 (cl - i)) ([k].map intV) := Or.inr ⟨lb, lo + i, cl - i, rfl, by simp; omega, by unfold maxLen; omega, Nat.zero_le _, Nat.lt_succ_self _, by
                            have := ujh.size; omega, fun ii hii => by
                            have h0 : ii = 0 := by simp at hii; exact hii
                            subst h0
                            rw [Nat.add_zero, e1]; rfl⟩
                          have hvt := vote_r (gr := ⟨[k], 0⟩) text p (gk.upd uxh) (Hqk.out.nw uxh) (HSk.out.nw uxh) (by omega) Hok.out hsl (by simp)
                          generalize (At.members (At.votes Lr S text) ⟨[k], 0⟩ p).length = n at *
                          have Hvt := Lib.hid hvt
                          have Hst := Lib.hid hst
                          have hwr : IntKind.i64.wrap ((m2 : Int) + (n : Int)) = (m2 : Int) + (n : Int) := by rw [IntKind.wrap_i64]; omega
                          have hwr2 : IntKind.i64.wrap ((i : Int) + 1) = (i : Int) + 1 := by rw [IntKind.wrap_i64]; omega
                          have hic : (i : Int) + 1 ≤ (cl : Int) := by omega
                          have hi3 : (i : Int) ≤ (i : Int) + 1 := by omega
                          have hi4 : (0 : Int) ≤ (i : Int) + 1 := by omega
                          have hi5 : ((i : Int) + 1).toNat = i + 1 := by omega
                          have hi6 : ¬ ((i : Int) + 1 < 0) := by omega
                          have hi7 : ¬ ((i : Int) + 1 < (i : Int)) := by omega
                          have hi8 : ¬ ((cl : Int) < (i : Int) + 1) := by omega
                          have hi9 : ¬ cl = i ∧ ¬ cl - i = 0 := ⟨by omega, by omega⟩
                          obtain ⟨hi9, hi10⟩ := hi9
                          have hi11 : i < cl := by omega
                          have HD : Hid (∀ z, Nw wr z → z.cell? ⟨pb, po + j, none⟩ = some (.int .i64 p)) := fun z uz => later_cell ⟨z, uz⟩ q0
                          clear hvt hst hsl hpt
                          go_wp2_with fail
                          go_region_held3 (fun z => z.cell? ⟨pb, po + j, none⟩ = some (.int .i64 p)) (first | exact HD.out _ v5 | exact HD.out _ (Upd.refl _ _).drew) (first | (go_at_call 15; (with_reducible refine (Hvt.out _ (Upd.refl _ _).drew).mono ?_); rintro _ x5 ⟨a5, c5, rfl, s5, v5⟩))
                          have hm3 : Hid (m2 + n = At.liesL (At.votes Lr S text) truth k (P.take (j + 1))) := Hst.out.symm
                          clear s5 Hvt Hst
                          go_wp2_with fail
                          go_roundw
                          case rel => exact ⟨j + 1, by omega, by go_num, ⟨m2 + n, by omega, by go_num, hm3⟩, uh.trans v5⟩
                          case measure => simp [intOf]; omega
                      · obtain rfl : j = P.length := by omega
                        rw [List.take_length] at hm2
                        have hm0 : ¬ m2 = 0 := by
                          have := Hlie.out
                          rw [← hm2.out] at this
                          exact this
                        have dm : ((m2 : Int) == 0) = false := beq_eq_false_iff_ne.2 (by omega)
                        have dm2 : ¬ ((m2 : Int) = 0) := by omega
                        cases i with
                        | zero =>
                          go_wp2_with fail
                          go_quiet (fail)
                          obtain ⟨w9, ew, u9⟩ := nw_drewN wr nq
                          rw [ew]; clear ew
                          go_wp2_with fail
                          go_roundw
                          case rel => exact ⟨1, by omega, by go_num, ujh.trans u9⟩
                          case measure => simp [intOf]; omega
                        | succ d =>
                          obtain ⟨k0, hk0, hk1⟩ := Hord.out d rfl
                          have hk0' := later_cell ⟨wr, ug.trans uh⟩ hk0
                          dsimp only at hk0'
                          have hw1 : IntKind.i64.wrap ((d : Int) + 1 - 1) = (d : Int) := by rw [IntKind.wrap_i64]; omega
                          have hw2 : IntKind.i64.wrap (d : Int) = (d : Int) := by rw [IntKind.wrap_i64]; omega
                          have hd1 : d < LS.length := by omega
                          have hd2 : (0 : Int) < (d : Int) + 1 := by omega
                          have hk2 : ¬ k ≤ k0 := by omega
                          have hk3 : decide (k ≤ k0) = false := decide_eq_false hk2
                          clear hk1
                          go_wp2_with fail
                          go_quiet (fail)
                          obtain ⟨w9, ew, u9⟩ := nw_drewN wr nq
                          rw [ew]; clear ew
                          go_wp2_with fail
                          go_roundw
                          case rel => exact ⟨d + 1 + 1, by omega, by go_num, ujh.trans u9⟩
                          case measure => simp [intOf]; omega
              · obtain rfl : i = LS.length := by omega
                go_wp2_with fail
                go_ret
                exact ⟨rfl, UX7.trans uj⟩
end Go.Proofs.YtpceoogmkbcfmaaGreatDoor
