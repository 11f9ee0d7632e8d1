/- The contracts of attest's votes and prints, and of members. slices.IndexFunc and ContainsFunc at votes, with a function that captures; the contracts of attest's prints, Prints, members, Vote. The contracts of attest's prints, Prints, Vote; of lists of groups: where they lie, ContainsFunc there. The contracts of attest's Vote, Right, Accept, Liars, Both. -/
import Derived.Test.YtpceoogmkbcfmaaGreatDoorAttS
import Derived.Test.YtpceoogmkbcfmaaGreatDoorView7
import Derived.Test.YtpceoogmkbcfmaaGreatDoorClaimK
namespace Go.Proofs.YtpceoogmkbcfmaaGreatDoor
open Go.RowKit
set_option linter.unusedVariables false
set_option linter.unusedSimpArgs false
attribute [local irreducible] Calls

abbrev tVote : TypeId := 76
def vtL (v : Bk.Sgn × Int) : List Value := [.int .i64 v.1.key, .string ⟨v.1.text.toArray⟩, .int .i64 v.1.mark, .int .i64 v.2]
def flatV (V : List (Bk.Sgn × Int)) : List Value := (V.map vtL).flatten
theorem flatV_snoc (V : List (Bk.Sgn × Int)) (v : Bk.Sgn × Int) : flatV (V ++ [v]) = flatV V ++ vtL v := by simp [flatV]
theorem infoVote : (Tryz.prog.info? tVote).map (fun i => (i.zero, i.size, i.bytes)) = some (some (.agg #[.int .i64 0, .string ⟨#[]⟩, .int .i64 0, .int .i64 0]), 4, 40) := by kernel_rfl
theorem vtL_one (v : Bk.Sgn × Int) : ∀ u ∈ vtL v, u.oneCell' = true := by
  intro u hu
  simp only [vtL, List.mem_cons, List.not_mem_nil, or_false] at hu
  rcases hu with rfl | rfl | rfl | rfl <;> rfl
theorem vote_cells {lo hi : Nat} {w : World} {v : Value} {X : List (Bk.Sgn × Int)} (h : SlS 4 lo hi w v (X.map vtL)) :
    ∃ a cap, v = .slice a X.length cap ∧ X.length ≤ maxLen ∧ (X = [] ∨ ∃ b off, a = some ⟨b, off, none⟩ ∧ b < hi ∧ b < w.heap.size ∧ ∀ i (h : i < X.length),
      w.cell? ⟨b, off + i * 4, none⟩ = some (.int .i64 X[i].1.key) ∧ w.cell? ⟨b, off + i * 4 + 1, none⟩ = some (.string ⟨X[i].1.text.toArray⟩) ∧ w.cell? ⟨b, off + i * 4 + 2, none⟩ = some (.int .i64 X[i].1.mark) ∧ w.cell? ⟨b, off + i * 4 + 3, none⟩ = some (.int .i64 X[i].2)) := by
  obtain ⟨a, cap, rfl, hm, h⟩ := h.open_
  rw [List.length_map] at hm
  refine ⟨a, cap, by rw [List.length_map], hm, ?_⟩
  rcases h with h | ⟨b, off, rfl, _, hb1, hb, hc⟩
  · exact Or.inl (List.map_eq_nil_iff.1 h)
  · refine Or.inr ⟨b, off, rfl, hb1, hb, fun i hi => ?_⟩
    have h2 := (hc i (by simpa using hi)).2
    simp only [List.getElem_map] at h2
    exact ⟨by rw [← Nat.add_zero (off + i * 4), h2 0 (by omega)]; rfl, by rw [h2 1 (by omega)]; rfl, by rw [h2 2 (by omega)]; rfl, by rw [h2 3 (by omega)]; rfl⟩
theorem vote_sls {B : Nat} {w : World} {v : Value} {V : List (Bk.Sgn × Int)} (h : w.ownsRow B tVote 4 v V.length (flatV V)) : SlS 4 B w.heap.size w v (V.map vtL) :=
  SlS.of_owns h (by simp) (by omega) (fun y hy => by
    obtain ⟨z, _, rfl⟩ := List.mem_map.1 hy
    rfl)
namespace At
theorem votes_snoc (Lr : List Bk.Seal) (C : List Bk.Sgn) (s : Bk.Sgn) (text : List UInt8) : votes Lr (C ++ [s]) text = votes Lr C text ++ (match saysOf Lr text s with | some n => [(s, n)] | none => []) := by
  unfold votes voteOf
  rw [List.filterMap_append]
  congr 1
  cases h : saysOf Lr text s <;> simp [List.filterMap_cons, h]
theorem votes_len (Lr : List Bk.Seal) (C : List Bk.Sgn) (text : List UInt8) : (votes Lr C text).length ≤ C.length := List.length_filterMap_le _ _
end At
set_option maxHeartbeats 4000000 in
set_option maxRecDepth 100000 in
theorem votes_w (B : Nat) (q : RingR) (Lr : List Bk.Seal) (lo hi : Nat) (v : Value) (C : List Bk.Sgn) (text : List UInt8) (w : World) (g : Gl w) (hq : RingAt B w q Lr) (hv : SlS 3 lo hi w v (C.map sgl)) (hC : C.length ≤ 100000) (hs : ∀ s ∈ C, SgnOk s) :
    Calls Tryz.prog 34 #[.pointer (some ⟨q.rb, 0, none⟩), v, .string ⟨text.toArray⟩] w fun e w' => ∃ v', e = .returned v' ∧ w'.ownsRow w.heap.size tVote 4 v' (At.votes Lr C text).length (flatV (At.votes Lr C text)) ∧ Nw w w' := by
  have hgb := g.big
  obtain ⟨a, cap, rfl, hm, ha⟩ := sgn_cells hv
  unfold maxLen at hm
  have Ha := Lib.hid ha
  have Hq := Lib.hid hq
  have Hs := Lib.hid hs
  clear ha hv hq hs
  go_enter Tryz.func34, Tryz.ntmps34
  go_wp2_with fail
  go_loopw [7, 14] (fun vo iv wr => ∃ n : Nat, n ≤ C.length ∧ iv = .int .i64 n ∧ Hid (wr.ownsRow w.heap.size tVote 4 vo (At.votes Lr (C.take n) text).length (flatV (At.votes Lr (C.take n) text))) ∧ Nw w wr) (fun vo iv _ => C.length - (intOf iv).toNat)
  case atStart => exact ⟨0, Nat.zero_le _, rfl, World.ownsRow_nil _ _ _ _, Upd.refl _ _⟩
  case round =>
    obtain ⟨n, hn, rfl, HO, u⟩ := hrel
    obtain ⟨ao, capo, e⟩ := own_sl HO.out
    subst e
    have gw := g.upd u
    have hvl := Nat.le_trans (At.votes_len Lr (C.take n) text) (by rw [List.length_take]; omega : (C.take n).length ≤ 100000)
    by_cases hlt : n < C.length
    · rcases Ha.out with hnil | ⟨b, o, rfl, _, hb, hc⟩
      · simp [hnil] at hlt
      obtain ⟨p0, p1, p2⟩ := hc n hlt
      have d0 := ((Nw.below u).cell (p := ⟨b, o + n * 3, none⟩) hb).trans p0
      have d1 := ((Nw.below u).cell (p := ⟨b, o + n * 3 + 1, none⟩) hb).trans p1
      have d2 := ((Nw.below u).cell (p := ⟨b, o + n * 3 + 2, none⟩) hb).trans p2
      have hsn := At.votes_snoc Lr (C.take n) C[n] text
      rw [← List.take_succ_eq_append_getElem hlt] at hsn
      have hso := Hs.out C[n] (List.getElem_mem hlt)
      generalize C[n] = s at *
      obtain ⟨c, ok, hr⟩ : ∃ c ok, Cl.read s.text = (c, ok) := ⟨_, _, rfl⟩
      have hsay : At.saysOf Lr text s = if Bk.valid Lr s = true ∧ ok = true ∧ c.kind = 3 ∧ c.text = text then some c.n else none := by unfold At.saysOf Vw.claimOf; rw [hr]
      have n1 := nw_alloc wr (.cells #[.int .i64 s.key, .string ⟨s.text.toArray⟩, .int .i64 s.mark] tSigned)
      have k1 := heap_new wr (.cells #[.int .i64 s.key, .string ⟨s.text.toArray⟩, .int .i64 s.mark] tSigned)
      have QV := Lib.hid (valid_s B q Lr s _ (gw.upd n1) ((Hq.out.nw u).nw n1) hso)
      obtain ⟨er, her⟩ : ∃ er : Int, er = if ok then 0 else 2 := ⟨_, rfl⟩
      have QR := Lib.hid (fun z (gz : Gl z) => read_gen ⟨s.text.toArray⟩ s.text c ok er (bs_list _) hr her (Nat.le_trans hso.t (by decide)) z gz)
      have Hsn := Lib.hid hsn
      have Hsay := Lib.hid hsay
      have K1 := Lib.hid k1
      have hno : At.saysOf Lr text s = none → ∀ z, Nw wr z → Hid (z.ownsRow w.heap.size tVote 4 (.slice ao (At.votes Lr (C.take n) text).length capo) (At.votes Lr (C.take (n + 1)) text).length (flatV (At.votes Lr (C.take (n + 1)) text))) := fun e z uz => by
        show z.ownsRow _ _ _ _ _ _
        rw [Hsn.out, e, List.append_nil]
        exact owns_upd' HO.out uz (fun _ _ e => e)
      have Hno := Lib.hid hno
      obtain ⟨_, _, _⟩ := cell3 k1
      clear hc p0 p1 p2 hsn hso hr hsay k1 hno
      generalize hvd : Bk.valid Lr s = vd at *
      go_wp2_with fail
      (with_reducible refine (QV.out).mono ?_)
      rintro _ w2 ⟨rfl, u2⟩
      have U2 := n1.trans u2
      cases vd with
      | false =>
        have hn := Hno.out (by rw [Hsay.out]; simp) w2 U2
        clear Hno Hsay
        go_wp2_with fail
        go_roundw
        case rel => exact ⟨n + 1, by omega, by go_num, hn, u.trans U2⟩
        case measure => simp [intOf]; omega
      | true =>
      have k2 := u2.keep K1.out
      obtain ⟨_, _, _⟩ := cell3 k2
      have K2 := Lib.hid k2
      clear k2 d0 d1 d2
      go_wp2_with fail
      (with_reducible refine (QR.out _ (gw.upd U2)).mono ?_)
      rintro _ w3 ⟨rfl, u3⟩
      have n3 := u3.alloc (.cells #[.int .i64 c.kind, .int .i64 c.n, .int .i64 c.time, .string ⟨c.text.toArray⟩] tC)
      have U3 := U2.trans n3
      have k3 := heap_new w3 (.cells #[.int .i64 c.kind, .int .i64 c.n, .int .i64 c.time, .string ⟨c.text.toArray⟩] tC)
      obtain ⟨_, _, _, _⟩ := cell4 k3
      obtain ⟨_, _, _⟩ := cell3 (Nw.keep n3 K2.out)
      have K3 := Lib.hid k3
      have K4 := Lib.hid (Nw.keep n3 K2.out)
      clear k3
      have skip : At.saysOf Lr text s = none → Hid ((w3.alloc (.cells #[.int .i64 c.kind, .int .i64 c.n, .int .i64 c.time, .string ⟨c.text.toArray⟩] tC)).ownsRow w.heap.size tVote 4 (.slice ao (At.votes Lr (C.take n) text).length capo) (At.votes Lr (C.take (n + 1)) text).length (flatV (At.votes Lr (C.take (n + 1)) text))) := fun e => Hno.out e _ U3
      have Skip := Lib.hid skip
      clear skip Hno
      cases ok with
      | false =>
        have hn := Skip.out (by rw [Hsay.out]; simp)
        rw [if_neg (by simp)] at her
        subst her
        clear Skip Hsay
        go_wp2_with fail
        go_roundw
        case rel => exact ⟨n + 1, by omega, by go_num, hn, u.trans U3⟩
        case measure => simp [intOf]; omega
      | true =>
      rw [if_pos rfl] at her
      subst her
      by_cases hk3 : c.kind = 3
      rotate_left
      · have hn := Skip.out (by rw [Hsay.out]; simp [hk3])
        have dk : (c.kind == 3) = false := beq_eq_false_iff_ne.2 hk3
        clear Skip Hsay hk3
        go_wp2_with fail
        go_roundw
        case rel => exact ⟨n + 1, by omega, by go_num, hn, u.trans U3⟩
        case measure => simp [intOf]; omega
      have dk : (c.kind == 3) = true := beq_iff_eq.2 hk3
      by_cases htx : c.text = text
      rotate_left
      · have hn := Skip.out (by rw [Hsay.out]; simp [htx])
        have dt : (c.text == text) = false := beq_eq_false_iff_ne.2 htx
        clear Skip Hsay hk3 htx
        go_wp2_with fail
        go_roundw
        case rel => exact ⟨n + 1, by omega, by go_num, hn, u.trans U3⟩
        case measure => simp [intOf]; omega
      have dt : (c.text == text) = true := beq_iff_eq.2 htx
      have hyes : At.votes Lr (C.take (n + 1)) text = At.votes Lr (C.take n) text ++ [(s, c.n)] := by rw [Hsn.out, Hsay.out]; simp [hk3, htx]
      have Hyes := Lib.hid hyes
      have hown := owns_upd' HO.out U3 (fun _ _ e => e)
      have h63 : Hid ((At.votes Lr (C.take n) text).length + 1 ≤ maxLen ∧ ((At.votes Lr (C.take n) text).length + 1) * 40 ≤ 140737488355328) := ⟨by unfold maxLen; omega, by omega⟩
      have hsz : w.heap.size ≤ (w3.alloc (.cells #[.int .i64 c.kind, .int .i64 c.n, .int .i64 c.time, .string ⟨c.text.toArray⟩] tC)).heap.size := (u.trans U3).size
      clear Skip Hsay hk3 htx hyes
      go_wp2_with (at_builtin; refine wpList_appH rfl _ _ 72 rfl w.heap.size tVote _ 4 40 Tryz.underlying72 infoVote rfl (by decide) _ _ _ rfl hown (vtL (s, c.n)) (w3.heap.size + 1) (by simp) rfl rfl (vtL_one _) h63.out.1 h63.out.2 hsz hgb ?_)
      intro v' w9 hown9 u9 hob
      obtain ⟨a9, cap9, rfl⟩ := own_sl hown9
      have hfin : Hid (w9.ownsRow w.heap.size tVote 4 (.slice a9 ((At.votes Lr (C.take n) text).length + 1) cap9) (At.votes Lr (C.take (n + 1)) text).length (flatV (At.votes Lr (C.take (n + 1)) text))) := by
        show w9.ownsRow _ _ _ _ _ _
        rw [Hyes.out, List.length_append, List.length_singleton, flatV_snoc]
        exact hown9
      have hU : Hid (Nw w w9) := (u.trans U3).trans' u9 (fun j hj e => by
        obtain ⟨h1, _⟩ := own_block hown e
        omega)
      clear hown hown9 u9 hob
      go_wp2_with fail
      go_roundw
      case rel => exact ⟨n + 1, by omega, by go_num, hfin, hU.out⟩
      case measure => simp [intOf]; omega
    · obtain rfl : n = C.length := by omega
      simp only [List.take_length] at HO ⊢
      have Hfin := HO
      clear HO
      go_wp2_with fail
      go_ret
      exact ⟨_, rfl, Hfin.out, u⟩
end Go.Proofs.YtpceoogmkbcfmaaGreatDoor
namespace Go.Proofs.YtpceoogmkbcfmaaGreatDoor
open Go.RowKit
set_option linter.unusedVariables false
set_option linter.unusedSimpArgs false
attribute [local irreducible] Calls

abbrev vtV (x : Bk.Sgn × Int) : Value := .agg #[.int .i64 x.1.key, .string ⟨x.1.text.toArray⟩, .int .i64 x.1.mark, .int .i64 x.2]
/-- The place of the first one that meets p; -1: none does. -/
def idxA {α : Type} (p : α → Bool) (X : List α) : Int := match X.findIdx? p with
  | some i => i
  | none => -1
theorem idxA_hit {α : Type} {p : α → Bool} {X : List α} {n : Nat} (hn : n < X.length) (hp : p X[n] = true) (hno : ∀ j (h : j < X.length), j < n → p X[j] = false) : idxA p X = n := by
  unfold idxA
  rw [List.findIdx?_eq_some_iff_getElem.2 ⟨hn, hp, fun j hj => by rw [hno j (by omega) hj]; simp⟩]
theorem idxA_miss {α : Type} {p : α → Bool} {X : List α} (hno : ∀ j (h : j < X.length), p X[j] = false) : idxA p X = -1 := by
  unfold idxA
  rw [List.findIdx?_eq_none_iff.2 (fun x hx => by
    obtain ⟨j, hj, rfl⟩ := List.mem_iff_getElem.1 hx
    exact hno j hj)]
theorem idxA_any {α : Type} (p : α → Bool) (X : List α) : decide (0 ≤ idxA p X) = X.any p := by
  unfold idxA
  cases h : X.findIdx? p with
  | none =>
    have := List.findIdx?_eq_none_iff.1 h
    rw [Bool.eq_iff_iff]
    simp only [decide_eq_true_eq, List.any_eq_true]
    constructor
    · intro h; omega
    · rintro ⟨x, hx, hp⟩; rw [this x hx] at hp; cases hp
  | some i =>
    obtain ⟨hi, hp, _⟩ := List.findIdx?_eq_some_iff_getElem.1 h
    rw [Bool.eq_iff_iff]
    simp only [decide_eq_true_eq, List.any_eq_true]
    exact ⟨fun _ => ⟨X[i], List.getElem_mem hi, hp⟩, fun _ => by omega⟩
set_option maxHeartbeats 1000000 in
theorem indexV2 (gf : Nat) (c1 c2 : Nat) (eg : ∀ args w, (callFunc gf args).run Tryz.prog w = .ok (.enter gf args) w) (p : Bk.Sgn × Int → Bool) (lo hi : Nat) (v : Value) (X : List (Bk.Sgn × Int)) (w : World) (hv : SlS 4 lo hi w v (X.map vtL)) (hX : X.length ≤ 1000000)
    (hp : ∀ W x, Nw w W → x ∈ X → Calls Tryz.prog gf #[.agg #[.int .i64 x.1.key, .string ⟨x.1.text.toArray⟩, .int .i64 x.1.mark, .int .i64 x.2], .pointer (some ⟨c1, 0, none⟩), .pointer (some ⟨c2, 0, none⟩)] W fun e w' => e = .returned (.bool (p x)) ∧ Nw W w') :
    Calls Tryz.prog 54 #[v, .func (.func gf) #[] #[.pointer (some ⟨c1, 0, none⟩), .pointer (some ⟨c2, 0, none⟩)]] w fun e w' => e = .returned (.int .i64 (idxA p X)) ∧ Nw w w' := by
    obtain ⟨a, cap, rfl, hm, ha⟩ := vote_cells hv
    have Ha := Lib.hid ha; clear ha
    have Hp := Lib.hid hp; clear hp hv
    unfold maxLen at hm
    go_enter Tryz.func54, Tryz.ntmps54
    go_wp2_with fail
    go_loopw [8] (fun i wr => ∃ n : Nat, n ≤ X.length ∧ i = .int .i64 n ∧ Hid (∀ j (h : j < X.length), j < n → p X[j] = false) ∧ Nw w wr) (fun i _ => X.length - (intOf i).toNat)
    case atStart => exact ⟨0, Nat.zero_le _, rfl, fun j _ h => absurd h (Nat.not_lt_zero _), Upd.refl _ _⟩
    case round =>
      obtain ⟨n, hn, rfl, hall, u⟩ := hrel
      by_cases hlt : n < X.length
      · rcases Ha.out with hnil | ⟨b, o, rfl, _, hb, hc⟩
        · simp [hnil] at hlt
        obtain ⟨p0, p1, p2, p3⟩ := hc n hlt
        have d0 := ((Nw.below u).cell (p := ⟨b, o + n * 4, none⟩) hb).trans p0
        have d1 := ((Nw.below u).cell (p := ⟨b, o + n * 4 + 1, none⟩) hb).trans p1
        have d2 := ((Nw.below u).cell (p := ⟨b, o + n * 4 + 2, none⟩) hb).trans p2
        have d3 := ((Nw.below u).cell (p := ⟨b, o + n * 4 + 3, none⟩) hb).trans p3
        clear hc p0 p1 p2 p3
        have hcall := Hp.out wr X[n] u (List.getElem_mem hlt)
        have hnext : p X[n] = false → Hid (∀ j (h : j < X.length), j < n + 1 → p X[j] = false) := fun e j h hj => by
          by_cases ej : j = n
          · subst ej; exact e
          · exact hall.out j h (by omega)
        have hstop : p X[n] = true → Hid (idxA p X = n) := fun e => idxA_hit hlt e hall.out
        generalize p X[n] = q at *
        generalize X[n] = x at *
        obtain ⟨⟨xk, xt, xm⟩, xp⟩ := x
        dsimp only at *
        have Hcall := Lib.hid hcall; clear hcall
        cases q with
        | true =>
          have hr := hstop rfl
          clear hstop hnext
          go_wp2_with (go_at_fn gf; (with_reducible refine Hcall.out.mono ?_); rintro _ w2 ⟨rfl, u2⟩)
          go_ret
          exact ⟨ret_int hr.out.symm, u.trans u2⟩
        | false =>
          have hr := hnext rfl
          clear hstop hnext
          go_wp2_with (go_at_fn gf; (with_reducible refine Hcall.out.mono ?_); rintro _ w2 ⟨rfl, u2⟩)
          go_roundw
          case rel => exact ⟨n + 1, by omega, by go_num, hr, u.trans u2⟩
          case measure => simp [intOf]; omega
      · have hr : Hid (idxA p X = -1) := idxA_miss (fun j h => hall.out j h (by omega))
        go_wp2_with fail
        go_ret
        exact ⟨ret_int hr.out.symm, u⟩
set_option maxHeartbeats 1000000 in
theorem indexV1 (gf : Nat) (c1 : Nat) (eg : ∀ args w, (callFunc gf args).run Tryz.prog w = .ok (.enter gf args) w) (p : Bk.Sgn × Int → Bool) (lo hi : Nat) (v : Value) (X : List (Bk.Sgn × Int)) (w : World) (hv : SlS 4 lo hi w v (X.map vtL)) (hX : X.length ≤ 1000000)
    (hp : ∀ W x, Nw w W → x ∈ X → Calls Tryz.prog gf #[.agg #[.int .i64 x.1.key, .string ⟨x.1.text.toArray⟩, .int .i64 x.1.mark, .int .i64 x.2], .pointer (some ⟨c1, 0, none⟩)] W fun e w' => e = .returned (.bool (p x)) ∧ Nw W w') :
    Calls Tryz.prog 54 #[v, .func (.func gf) #[] #[.pointer (some ⟨c1, 0, none⟩)]] w fun e w' => e = .returned (.int .i64 (idxA p X)) ∧ Nw w w' := by
    obtain ⟨a, cap, rfl, hm, ha⟩ := vote_cells hv
    have Ha := Lib.hid ha; clear ha
    have Hp := Lib.hid hp; clear hp hv
    unfold maxLen at hm
    go_enter Tryz.func54, Tryz.ntmps54
    go_wp2_with fail
    go_loopw [8] (fun i wr => ∃ n : Nat, n ≤ X.length ∧ i = .int .i64 n ∧ Hid (∀ j (h : j < X.length), j < n → p X[j] = false) ∧ Nw w wr) (fun i _ => X.length - (intOf i).toNat)
    case atStart => exact ⟨0, Nat.zero_le _, rfl, fun j _ h => absurd h (Nat.not_lt_zero _), Upd.refl _ _⟩
    case round =>
      obtain ⟨n, hn, rfl, hall, u⟩ := hrel
      by_cases hlt : n < X.length
      · rcases Ha.out with hnil | ⟨b, o, rfl, _, hb, hc⟩
        · simp [hnil] at hlt
        obtain ⟨p0, p1, p2, p3⟩ := hc n hlt
        have d0 := ((Nw.below u).cell (p := ⟨b, o + n * 4, none⟩) hb).trans p0
        have d1 := ((Nw.below u).cell (p := ⟨b, o + n * 4 + 1, none⟩) hb).trans p1
        have d2 := ((Nw.below u).cell (p := ⟨b, o + n * 4 + 2, none⟩) hb).trans p2
        have d3 := ((Nw.below u).cell (p := ⟨b, o + n * 4 + 3, none⟩) hb).trans p3
        clear hc p0 p1 p2 p3
        have hcall := Hp.out wr X[n] u (List.getElem_mem hlt)
        have hnext : p X[n] = false → Hid (∀ j (h : j < X.length), j < n + 1 → p X[j] = false) := fun e j h hj => by
          by_cases ej : j = n
          · subst ej; exact e
          · exact hall.out j h (by omega)
        have hstop : p X[n] = true → Hid (idxA p X = n) := fun e => idxA_hit hlt e hall.out
        generalize p X[n] = q at *
        generalize X[n] = x at *
        obtain ⟨⟨xk, xt, xm⟩, xp⟩ := x
        dsimp only at *
        have Hcall := Lib.hid hcall; clear hcall
        cases q with
        | true =>
          have hr := hstop rfl
          clear hstop hnext
          go_wp2_with (go_at_fn gf; (with_reducible refine Hcall.out.mono ?_); rintro _ w2 ⟨rfl, u2⟩)
          go_ret
          exact ⟨ret_int hr.out.symm, u.trans u2⟩
        | false =>
          have hr := hnext rfl
          clear hstop hnext
          go_wp2_with (go_at_fn gf; (with_reducible refine Hcall.out.mono ?_); rintro _ w2 ⟨rfl, u2⟩)
          go_roundw
          case rel => exact ⟨n + 1, by omega, by go_num, hr, u.trans u2⟩
          case measure => simp [intOf]; omega
      · have hr : Hid (idxA p X = -1) := idxA_miss (fun j h => hall.out j h (by omega))
        go_wp2_with fail
        go_ret
        exact ⟨ret_int hr.out.symm, u⟩
theorem containsV2 (gf : Nat) (c1 c2 : Nat) (eg : ∀ args w, (callFunc gf args).run Tryz.prog w = .ok (.enter gf args) w) (p : Bk.Sgn × Int → Bool) (lo hi : Nat) (v : Value) (X : List (Bk.Sgn × Int)) (w : World) (hv : SlS 4 lo hi w v (X.map vtL)) (hX : X.length ≤ 1000000)
    (hp : ∀ W x, Nw w W → x ∈ X → Calls Tryz.prog gf #[.agg #[.int .i64 x.1.key, .string ⟨x.1.text.toArray⟩, .int .i64 x.1.mark, .int .i64 x.2], .pointer (some ⟨c1, 0, none⟩), .pointer (some ⟨c2, 0, none⟩)] W fun e w' => e = .returned (.bool (p x)) ∧ Nw W w') :
    Calls Tryz.prog 35 #[v, .func (.func gf) #[] #[.pointer (some ⟨c1, 0, none⟩), .pointer (some ⟨c2, 0, none⟩)]] w fun e w' => e = .returned (.bool (X.any p)) ∧ Nw w w' := by
  obtain ⟨a, cap, hv', _⟩ := vote_cells hv
  subst hv'
  have q := indexV2 gf c1 c2 eg p lo hi _ X w hv hX hp
  have Q := Lib.hid q
  have hr := Lib.hid (idxA_any p X)
  clear q hv hp
  generalize idxA p X = m at *
  go_enter Tryz.func35, Tryz.ntmps35
  go_wp2_with fail
  (with_reducible refine (Q.out).mono ?_)
  rintro _ w2 ⟨rfl, u2⟩
  go_wp2_with fail
  all_goals go_ret
  all_goals exact ⟨ret_bool (by first | (rw [← hr.out]; done) | (rw [← hr.out]; simp_all)), u2⟩
theorem call_members : ∀ args w, (callFunc 57 args).run Tryz.prog w = .ok (.enter 57 args) w := enters_of Tryz.func57 (by kernel_rfl) rfl
/-- 'v.print == print && v.signed.Key == k'. -/
theorem memP (x : Bk.Sgn × Int) (p k : Int) (b1 b2 : Nat) (w : World) (h1 : w.heap[b1]? = some (.cells #[.int .i64 p] tNum (0, 0))) (h2 : w.heap[b2]? = some (.cells #[.int .i64 k] tNum (0, 0))) :
    Calls Tryz.prog 57 #[.agg #[.int .i64 x.1.key, .string ⟨x.1.text.toArray⟩, .int .i64 x.1.mark, .int .i64 x.2], .pointer (some ⟨b1, 0, none⟩), .pointer (some ⟨b2, 0, none⟩)] w fun e w' => e = .returned (.bool (decide (x.2 = p) && decide (x.1.key = k))) ∧ Nw w w' := by
  have n1 := nw_alloc w (.cells #[.int .i64 x.1.key, .string ⟨x.1.text.toArray⟩, .int .i64 x.1.mark, .int .i64 x.2] tVote)
  have c1 : w.cell? ⟨b1, 0, none⟩ = some (.int .i64 p) := by rw [cells_cell h1]; rfl
  have c2 : w.cell? ⟨b2, 0, none⟩ = some (.int .i64 k) := by rw [cells_cell h2]; rfl
  have c1' := later_cell ⟨_, n1⟩ c1
  have c2' := later_cell ⟨_, n1⟩ c2
  obtain ⟨⟨xk, xt, xm⟩, xp⟩ := x
  dsimp only at *
  by_cases hp : xp = p
  · have dp : (xp == p) = true := beq_iff_eq.2 hp
    by_cases hk : xk = k
    · have dk : (xk == k) = true := beq_iff_eq.2 hk
      have hr : Hid ((decide (xp = p) && decide (xk = k)) = true) := by show _ = _; simp [hp, hk]
      clear hp hk h1 h2
      go_enter Tryz.func57, Tryz.ntmps57
      go_wp2_with fail
      go_ret
      exact ⟨ret_bool hr.out.symm, n1⟩
    · have dk : (xk == k) = false := beq_eq_false_iff_ne.2 hk
      have hr : Hid ((decide (xp = p) && decide (xk = k)) = false) := by show _ = _; simp [hk]
      clear hp hk h1 h2
      go_enter Tryz.func57, Tryz.ntmps57
      go_wp2_with fail
      go_ret
      exact ⟨ret_bool hr.out.symm, n1⟩
  · have dp : (xp == p) = false := beq_eq_false_iff_ne.2 hp
    have hr : Hid ((decide (xp = p) && decide (xk = k)) = false) := by show _ = _; simp [hp]
    clear hp h1 h2
    go_enter Tryz.func57, Tryz.ntmps57
    go_wp2_with fail
    go_ret
    exact ⟨ret_bool hr.out.symm, n1⟩
theorem infoNum : (Tryz.prog.info? tNum).map (fun i => (i.zero, i.size, i.bytes)) = some (some (.int .i64 0), 1, 8) := by kernel_rfl
/-- A slice of numbers, where its cells lie. -/
theorem num_cells {lo hi : Nat} {w : World} {v : Value} {l : List Int} (h : Sl lo hi w v (l.map intV)) :
    ∃ a cap, v = .slice a l.length cap ∧ l.length ≤ maxLen ∧ (l = [] ∨ ∃ b off, a = some ⟨b, off, none⟩ ∧ b < hi ∧ b < w.heap.size ∧ ∀ i (h : i < l.length), w.cell? ⟨b, off + i, none⟩ = some (.int .i64 l[i])) := by
  obtain ⟨a, cap, rfl, hm, h⟩ := h.open_
  rw [List.length_map] at hm
  refine ⟨a, cap, by rw [List.length_map], hm, ?_⟩
  rcases h with ⟨_, _, h⟩ | ⟨b, off, rfl, _, hb1, hb, hc⟩
  · exact Or.inl (by simpa using h)
  · refine Or.inr ⟨b, off, rfl, hb1, hb, fun i hi => ?_⟩
    have h2 := hc i (by simpa using hi)
    rw [h2, List.getElem?_map, List.getElem?_eq_getElem hi]; rfl
set_option maxHeartbeats 4000000 in
set_option maxRecDepth 100000 in
theorem members_w (lo hi lo2 hi2 : Nat) (v : Value) (V : List (Bk.Sgn × Int)) (ms : Value) (gr : At.Grp) (p : Int) (w : World) (g : Gl w) (hv : SlS 4 lo hi w v (V.map vtL)) (hV : V.length ≤ 1000000) (hm : Sl lo2 hi2 w ms (gr.members.map intV)) (hml : gr.members.length ≤ 1000000) :
    Calls Tryz.prog 38 #[v, .agg #[ms, .int .i64 gr.bad], .int .i64 p] w fun e w' => ∃ v', e = .returned v' ∧ w'.ownsRow w.heap.size tNum 1 v' (At.members V gr p).length ((At.members V gr p).map intV) ∧ Nw w w' := by
  have hgb := g.big
  obtain ⟨gm, gbad⟩ := gr
  dsimp only at *
  obtain ⟨a, cap, rfl, hm1, ha⟩ := num_cells hm
  obtain ⟨av, capv, rfl, hm2, _⟩ := vote_cells hv
  unfold maxLen at hm1 hm2
  have Ha := Lib.hid ha
  have Hv := Lib.hid hv
  have hdef : ∀ l : List Int, At.members V ⟨l, gbad⟩ p = l.filter (fun k => At.says V p k) := fun l => rfl
  have Hdef := Lib.hid hdef
  have hsz1 : (w.alloc (.cells #[.slice a gm.length cap, .int .i64 gbad] 35)).heap.size = w.heap.size + 1 := by simp
  have n1 := nw_alloc w (.cells #[.slice a gm.length cap, .int .i64 gbad] 35)
  have n2 := nw_alloc (w.alloc (.cells #[.slice a gm.length cap, .int .i64 gbad] 35)) (.cells #[.int .i64 p] tNum)
  have k1 := heap_new w (.cells #[.slice a gm.length cap, .int .i64 gbad] 35)
  have k2 := heap_new (w.alloc (.cells #[.slice a gm.length cap, .int .i64 gbad] 35)) (.cells #[.int .i64 p] tNum)
  rw [hsz1] at k2
  have N := n1.trans n2
  have K2 := Lib.hid k2
  obtain ⟨_, _⟩ := cell2 (Nw.keep n2 k1)
  clear ha hv hm hdef k1 k2
  go_enter Tryz.func38, Tryz.ntmps38
  go_wp2_with fail
  generalize hW : (w.alloc (.cells #[.slice a gm.length cap, .int .i64 gbad] 35)).alloc (.cells #[.int .i64 p] tNum) = W at *
  have HW := Lib.hid hW
  clear hW
  go_loopw [7, 13] (fun vo iv wr => ∃ n : Nat, n ≤ gm.length ∧ iv = .int .i64 n ∧ Hid (wr.ownsRow W.heap.size tNum 1 vo (At.members V ⟨gm.take n, gbad⟩ p).length ((At.members V ⟨gm.take n, gbad⟩ p).map intV)) ∧ Nw W wr) (fun vo iv _ => gm.length - (intOf iv).toNat)
  case atStart => exact ⟨0, Nat.zero_le _, rfl, World.ownsRow_nil _ _ _ _, Upd.refl _ _⟩
  case round =>
    obtain ⟨n, hn, rfl, HO, u⟩ := hrel
    obtain ⟨ao, capo, e⟩ := own_sl HO.out
    subst e
    have U := N.trans u
    have gw := g.upd U
    have hvl : (At.members V ⟨gm.take n, gbad⟩ p).length ≤ 1000000 := by
      have h1 : (At.members V ⟨gm.take n, gbad⟩ p).length ≤ (gm.take n).length := List.length_filter_le _ _
      rw [List.length_take] at h1; omega
    by_cases hlt : n < gm.length
    · rcases Ha.out with hnil | ⟨b, o, rfl, _, hb, hc⟩
      · simp [hnil] at hlt
      have d0 := ((Nw.below U).cell (p := ⟨b, o + n, none⟩) hb).trans (hc n hlt)
      have hsn : At.members V ⟨gm.take (n + 1), gbad⟩ p = At.members V ⟨gm.take n, gbad⟩ p ++ (if At.says V p gm[n] then [gm[n]] else []) := by
        rw [Hdef.out, Hdef.out, List.take_succ_eq_append_getElem hlt, List.filter_append]
        congr 1
        rw [List.filter_cons]; simp
      have Hsn := Lib.hid hsn
      generalize gm[n] = k at *
      have n3 := nw_alloc wr (.cells #[.int .i64 k] tNum)
      have k3 := heap_new wr (.cells #[.int .i64 k] tNum)
      have kp := Nw.keep (u.trans n3) K2.out
      have QC := Lib.hid (containsV2 57 (w.heap.size + 1) wr.heap.size call_members (fun x => decide (x.2 = p) && decide (x.1.key = k)) lo hi _ V _ (Hv.out.nw (U.trans n3)) hV (fun Wz x uz hx => memP x p k _ _ Wz (Nw.keep uz kp) (Nw.keep uz k3)))
      have K3 := Lib.hid k3
      clear hc hsn k3 kp
      have hsy : Hid ((V.any fun x => decide (x.2 = p) && decide (x.1.key = k)) = At.says V p k) := by show _ = _; rfl
      generalize (V.any fun x => decide (x.2 = p) && decide (x.1.key = k)) = q at *
      go_wp2_with fail
      (with_reducible refine (QC.out).mono ?_)
      rintro _ w4 ⟨rfl, u4⟩
      have U4 := n3.trans u4
      obtain c4 : w4.cell? ⟨wr.heap.size, 0, none⟩ = some (.int .i64 k) := by rw [cells_cell (Nw.keep u4 K3.out)]; rfl
      cases q with
      | false =>
        have hfin : Hid (w4.ownsRow W.heap.size tNum 1 (.slice ao (At.members V ⟨gm.take n, gbad⟩ p).length capo) (At.members V ⟨gm.take (n + 1), gbad⟩ p).length ((At.members V ⟨gm.take (n + 1), gbad⟩ p).map intV)) := by
          show w4.ownsRow _ _ _ _ _ _
          rw [Hsn.out, ← hsy.out, if_neg (by simp), List.append_nil]
          exact owns_upd' HO.out U4 (fun _ _ e => e)
        clear hsy
        go_wp2_with fail
        go_roundw
        case rel => exact ⟨n + 1, by omega, by go_num, hfin, u.trans U4⟩
        case measure => simp [intOf]; omega
      | true =>
        have hyes : At.members V ⟨gm.take (n + 1), gbad⟩ p = At.members V ⟨gm.take n, gbad⟩ p ++ [k] := by rw [Hsn.out, ← hsy.out, if_pos rfl]
        have Hyes := Lib.hid hyes
        have hown := owns_upd' HO.out U4 (fun _ _ e => e)
        have h63 : Hid ((At.members V ⟨gm.take n, gbad⟩ p).length + 1 ≤ maxLen ∧ ((At.members V ⟨gm.take n, gbad⟩ p).length + 1) * 8 ≤ 140737488355328) := ⟨by unfold maxLen; omega, by omega⟩
        have hsz : W.heap.size ≤ w4.heap.size := (u.trans U4).size
        clear hyes hsy
        go_wp2_with (at_builtin; refine wpList_appL rfl _ _ 31 rfl W.heap.size tNum _ 1 8 Tryz.underlying31 infoNum rfl (by decide) _ _ _ rfl hown [.int .i64 k] rfl rfl (by intro u hu; rw [List.mem_singleton.1 hu]; rfl) h63.out.1 h63.out.2 hsz (Nat.le_trans hgb N.size) ?_)
        intro v' w9 hown9 u9 hob
        obtain ⟨a9, cap9, rfl⟩ := own_sl hown9
        have hfin : Hid (w9.ownsRow W.heap.size tNum 1 (.slice a9 ((At.members V ⟨gm.take n, gbad⟩ p).length + 1) cap9) (At.members V ⟨gm.take (n + 1), gbad⟩ p).length ((At.members V ⟨gm.take (n + 1), gbad⟩ p).map intV)) := by
          show w9.ownsRow _ _ _ _ _ _
          rw [Hyes.out, List.length_append, List.length_singleton, List.map_append]
          exact hown9
        have hU : Hid (Nw W w9) := (u.trans U4).trans' u9 (fun j hj e => by
          have h1 := (own_block HO.out e).1
          omega)
        clear hown hown9 u9 hob
        go_wp2_with fail
        go_roundw
        case rel => exact ⟨n + 1, by omega, by go_num, hfin, hU.out⟩
        case measure => simp [intOf]; omega
    · obtain rfl : n = gm.length := by omega
      simp only [List.take_length] at HO ⊢
      go_wp2_with fail
      go_ret
      exact ⟨_, rfl, owns_base HO.out N.size, U⟩
end Go.Proofs.YtpceoogmkbcfmaaGreatDoor
namespace Go.Proofs.YtpceoogmkbcfmaaGreatDoor
open Go.RowKit
set_option linter.unusedVariables false
set_option linter.unusedSimpArgs false
attribute [local irreducible] Calls

set_option maxHeartbeats 4000000 in
set_option maxRecDepth 100000 in
theorem prints_w (lo hi : Nat) (v : Value) (V : List (Bk.Sgn × Int)) (w : World) (g : Gl w) (hv : SlS 4 lo hi w v (V.map vtL)) (hV : V.length ≤ 1000000) :
    Calls Tryz.prog 39 #[v] w fun e w' => ∃ v', e = .returned v' ∧ w'.ownsRow w.heap.size tNum 1 v' (At.prints V).length ((At.prints V).map intV) ∧ Nw w w' := by
  have hgb := g.big
  obtain ⟨av, capv, rfl, hm2, hc⟩ := vote_cells hv
  unfold maxLen at hm2
  have Hc := Lib.hid hc
  clear hc hv
  go_enter Tryz.func39, Tryz.ntmps39
  go_wp2_with fail
  go_loopw [3, 8] (fun vo iv wr => ∃ n : Nat, n ≤ V.length ∧ iv = .int .i64 n ∧ Hid (wr.ownsRow w.heap.size tNum 1 vo n (((V.take n).map (·.2)).map intV)) ∧ Nw w wr) (fun vo iv _ => V.length - (intOf iv).toNat)
  case atStart => exact ⟨0, Nat.zero_le _, rfl, World.ownsRow_nil _ _ _ _, Upd.refl _ _⟩
  case round =>
    obtain ⟨n, hn, rfl, HO, u⟩ := hrel
    obtain ⟨ao, capo, e⟩ := own_sl HO.out
    subst e
    by_cases hlt : n < V.length
    · rcases Hc.out with hnil | ⟨b, o, rfl, _, hb, hc⟩
      · simp [hnil] at hlt
      obtain ⟨p0, p1, p2, p3⟩ := hc n hlt
      have d0 := ((Nw.below u).cell (p := ⟨b, o + n * 4, none⟩) hb).trans p0
      have d1 := ((Nw.below u).cell (p := ⟨b, o + n * 4 + 1, none⟩) hb).trans p1
      have d2 := ((Nw.below u).cell (p := ⟨b, o + n * 4 + 2, none⟩) hb).trans p2
      have d3 := ((Nw.below u).cell (p := ⟨b, o + n * 4 + 3, none⟩) hb).trans p3
      have hsn : (V.take (n + 1)).map (·.2) = (V.take n).map (·.2) ++ [V[n].2] := by rw [List.take_succ_eq_append_getElem hlt, List.map_append]; rfl
      have Hsn := Lib.hid hsn
      clear hc p0 p1 p2 p3 hsn
      generalize V[n] = x at *
      obtain ⟨⟨xk, xt, xm⟩, xp⟩ := x
      dsimp only at *
      have n1 := nw_alloc wr (.cells #[.int .i64 xk, .string ⟨xt.toArray⟩, .int .i64 xm, .int .i64 xp] tVote)
      have hown := owns_upd' HO.out n1 (fun _ _ e => e)
      have h63 : Hid (n + 1 ≤ maxLen ∧ (n + 1) * 8 ≤ 140737488355328) := ⟨by unfold maxLen; omega, by omega⟩
      have hsz : w.heap.size ≤ (wr.alloc (.cells #[.int .i64 xk, .string ⟨xt.toArray⟩, .int .i64 xm, .int .i64 xp] tVote)).heap.size := (u.trans n1).size
      go_wp2_with (at_builtin; refine wpList_appH rfl _ _ 31 rfl w.heap.size tNum _ 1 8 Tryz.underlying31 infoNum rfl (by decide) _ _ _ rfl hown [.int .i64 xp] (wr.heap.size + 1) (by simp) rfl rfl (by intro u hu; rw [List.mem_singleton.1 hu]; rfl) h63.out.1 h63.out.2 hsz hgb ?_)
      intro v' w9 hown9 u9 hob
      obtain ⟨a9, cap9, rfl⟩ := own_sl hown9
      have hfin : Hid (w9.ownsRow w.heap.size tNum 1 (.slice a9 (n + 1) cap9) (n + 1) (((V.take (n + 1)).map (·.2)).map intV)) := by
        show w9.ownsRow _ _ _ _ _ _
        rw [Hsn.out, List.map_append]
        simpa [List.map_take, List.map_map] using hown9
      have hU : Hid (Nw w w9) := (u.trans n1).trans' u9 (fun j hj e => by
        have h1 := (own_block HO.out e).1
        omega)
      clear hown hown9 u9 hob
      go_wp2_with fail
      go_roundw
      case rel => exact ⟨n + 1, by omega, by go_num, hfin, hU.out⟩
      case measure => simp [intOf]; omega
    · obtain rfl : n = V.length := by omega
      have hrow := HO.out
      rw [List.take_length] at hrow
      have hl : V.length = (V.map (·.2)).length := by rw [List.length_map]
      have QS := Lib.hid (sorted_w w.heap.size (V.map (·.2)) (.slice ao V.length capo) wr hgb (by rw [List.length_map]; exact hV) (by rw [List.length_map]; exact hrow))
      have Hr := Lib.hid hrow
      clear HO hrow hl
      go_wp2_with fail
      (with_reducible refine (QS.out).mono ?_)
      rintro _ w2 ⟨v', rfl, o2, u2, hf⟩
      have Ho2 := Lib.hid o2
      have hU : Hid (Nw w w2) := u.trans' u2 (fun j hj e => by have := (own_block Hr.out e).1; omega)
      obtain ⟨a2, c2, rfl⟩ := own_sl o2
      clear o2 u2 hf
      go_wp2_with fail
      go_ret
      exact ⟨_, rfl, Ho2.out, hU.out⟩
theorem own_num {B : Nat} {w : World} {v : Value} {l : List Int} (h : w.ownsRow B tNum 1 v l.length (l.map intV)) : Sl B w.heap.size w v (l.map intV) := Sl.of_owns h
theorem Prints_w (B : Nat) (q : RingR) (Lr : List Bk.Seal) (lo hi : Nat) (v : Value) (C : List Bk.Sgn) (text : List UInt8) (w : World) (g : Gl w) (hq : RingAt B w q Lr) (hv : SlS 3 lo hi w v (C.map sgl)) (hC : C.length ≤ 100000) (hs : ∀ s ∈ C, SgnOk s) :
    Calls Tryz.prog 18 #[.pointer (some ⟨q.rb, 0, none⟩), v, .string ⟨text.toArray⟩] w fun e w' => ∃ v', e = .returned v' ∧ w'.ownsRow w.heap.size tNum 1 v' (At.prints (At.votes Lr C text)).length ((At.prints (At.votes Lr C text)).map intV) ∧ Nw w w' := by
  have QV := Lib.hid (votes_w B q Lr lo hi v C text w g hq hv hC hs)
  have hlen := At.votes_len Lr C text
  obtain ⟨av, capv, rfl, _, _⟩ := sgn_cells hv
  clear hq hv hs
  go_enter Tryz.func18, Tryz.ntmps18
  go_wp2_with fail
  (with_reducible refine (QV.out).mono ?_)
  rintro _ w1 ⟨v1, rfl, o1, u1⟩
  have QP := Lib.hid (prints_w w.heap.size w1.heap.size v1 (At.votes Lr C text) w1 (g.upd u1) (vote_sls o1) (by omega))
  obtain ⟨a1, c1, rfl⟩ := own_sl o1
  clear o1
  go_wp2_with fail
  (with_reducible refine (QP.out).mono ?_)
  rintro _ w2 ⟨v2, rfl, o2, u2⟩
  have Ho2 := Lib.hid o2
  obtain ⟨a2, c2, rfl⟩ := own_sl o2
  clear o2
  go_wp2_with fail
  go_ret
  exact ⟨_, rfl, owns_base Ho2.out u1.size, u1.trans u2⟩
/-- A list of groups: the slices of their members lie elsewhere. -/
def grpL (c : Value × At.Grp) : List Value := [c.1, .int .i64 c.2.bad]
structure GrpS (hi : Nat) (w : World) (v : Value) (G : List At.Grp) (C : List (Value × At.Grp)) : Prop where
  fst : C.map (·.2) = G
  row : SlS 2 0 hi w v (C.map grpL)
  each : ∀ c ∈ C, Sl 0 hi w c.1 (c.2.members.map intV) ∧ I64 c.2.bad ∧ (∀ k ∈ c.2.members, I64 k)
theorem GrpS.nw {hi : Nat} {w w' : World} {v : Value} {G : List At.Grp} {C : List (Value × At.Grp)} (h : GrpS hi w v G C) (u : Nw w w') : GrpS hi w' v G C :=
  ⟨h.fst, h.row.nw u, fun c hc => ⟨(h.each c hc).1.nw u, (h.each c hc).2⟩⟩
theorem grp_cells {hi : Nat} {w : World} {v : Value} {G : List At.Grp} {C : List (Value × At.Grp)} (h : GrpS hi w v G C) :
    ∃ a cap, v = .slice a C.length cap ∧ C.length ≤ maxLen ∧ (C = [] ∨ ∃ b off, a = some ⟨b, off, none⟩ ∧ b < hi ∧ b < w.heap.size ∧ ∀ i (h : i < C.length), w.cell? ⟨b, off + i * 2, none⟩ = some C[i].1 ∧ w.cell? ⟨b, off + i * 2 + 1, none⟩ = some (.int .i64 C[i].2.bad)) := by
  obtain ⟨a, cap, rfl, hm, h⟩ := h.row.open_
  rw [List.length_map] at hm
  refine ⟨a, cap, by rw [List.length_map], hm, ?_⟩
  rcases h with h | ⟨b, off, rfl, _, hb1, hb, hc⟩
  · exact Or.inl (List.map_eq_nil_iff.1 h)
  · refine Or.inr ⟨b, off, rfl, hb1, hb, fun i hi => ?_⟩
    have h2 := (hc i (by simpa using hi)).2
    simp only [List.getElem_map] at h2
    exact ⟨by rw [← Nat.add_zero (off + i * 2), h2 0 (by simp [grpL])]; rfl, by rw [h2 1 (by simp [grpL])]; rfl⟩
end Go.Proofs.YtpceoogmkbcfmaaGreatDoor
namespace Go.Proofs.YtpceoogmkbcfmaaGreatDoor
open Go.RowKit
set_option linter.unusedVariables false
set_option linter.unusedSimpArgs false
attribute [local irreducible] Calls

abbrev tGrp : TypeId := 35
set_option maxHeartbeats 2000000 in
theorem Vote_w (B : Nat) (q : RingR) (Lr : List Bk.Seal) (lo hi lo2 hi2 : Nat) (v : Value) (C : List Bk.Sgn) (ms : Value) (gr : At.Grp) (text : List UInt8) (p : Int) (w : World) (g : Gl w) (hq : RingAt B w q Lr) (hv : SlS 3 lo hi w v (C.map sgl)) (hC : C.length ≤ 100000) (hs : ∀ s ∈ C, SgnOk s) (hm : Sl lo2 hi2 w ms (gr.members.map intV)) (hml : gr.members.length ≤ 1000000) :
    Calls Tryz.prog 15 #[.pointer (some ⟨q.rb, 0, none⟩), v, .agg #[ms, .int .i64 gr.bad], .string ⟨text.toArray⟩, .int .i64 p] w fun e w' => ∃ v', e = .returned v' ∧ w'.ownsRow w.heap.size tNum 1 v' (At.members (At.votes Lr C text) gr p).length ((At.members (At.votes Lr C text) gr p).map intV) ∧ Nw w w' := by
  have n1 := nw_alloc w (.cells #[ms, .int .i64 gr.bad] tGrp)
  have n1d := n1.drew
  have k1 := heap_new w (.cells #[ms, .int .i64 gr.bad] tGrp)
  have hlen := At.votes_len Lr C text
  have cl : ∀ z, Nw (w.alloc (.cells #[ms, .int .i64 gr.bad] tGrp)) z → z.cell? ⟨w.heap.size, 0, none⟩ = some ms ∧ z.cell? ⟨w.heap.size, 1, none⟩ = some (.int .i64 gr.bad) := fun z u => cell2 (u.keep k1)
  have hF : Calls Tryz.prog 34 #[.pointer (some ⟨q.rb, 0, none⟩), v, .string ⟨text.toArray⟩] (w.alloc (.cells #[ms, .int .i64 gr.bad] tGrp)).drew fun e w' => ∃ a n c, e = .returned (.slice a n c) ∧ (w'.cell? ⟨w.heap.size, 0, none⟩ = some ms ∧ w'.cell? ⟨w.heap.size, 1, none⟩ = some (.int .i64 gr.bad)) ∧
      Calls Tryz.prog 38 #[.slice a n c, .agg #[ms, .int .i64 gr.bad], .int .i64 p] w' fun e w2 => ∃ a n c, e = .returned (.slice a n c) ∧ (w2.cell? ⟨w.heap.size, 0, none⟩ = some ms ∧ w2.cell? ⟨w.heap.size, 1, none⟩ = some (.int .i64 gr.bad)) ∧ w2.ownsRow w.heap.size tNum 1 (.slice a n c) (At.members (At.votes Lr C text) gr p).length ((At.members (At.votes Lr C text) gr p).map intV) ∧ Nw w w2 := by
    refine (votes_w B q Lr lo hi v C text _ (g.upd n1d) (hq.nw n1d) (hv.nw n1d) hC hs).mono ?_
    rintro e w' ⟨v', rfl, o, u⟩
    obtain ⟨a, c, rfl⟩ := own_sl o
    refine ⟨a, _, c, rfl, cl w' ((Upd.refl _ _).drew.trans u), ?_⟩
    refine (members_w _ _ lo2 hi2 _ (At.votes Lr C text) ms gr p w' (g.upd (n1d.trans u)) (vote_sls o) (by omega) (hm.nw (n1d.trans u)) hml).mono ?_
    rintro e w2 ⟨v2, rfl, o2, u2⟩
    obtain ⟨a2, c2, rfl⟩ := own_sl o2
    exact ⟨a2, _, c2, rfl, cl w2 (((Upd.refl _ _).drew.trans u).trans u2), owns_base o2 (n1d.trans u).size, (n1d.trans u).trans u2⟩
  have HF := Lib.hid hF
  have HC := Lib.hid cl
  have c0 := cl _ (Upd.refl _ _)
  have c1 := cl _ (Upd.refl _ _).drew
  obtain ⟨a0, cap0, hms⟩ : ∃ a cap, ms = .slice a gr.members.length cap := by
    obtain ⟨a, cap, e, _⟩ := num_cells hm
    exact ⟨a, cap, e⟩
  subst hms
  obtain ⟨av, capv, rfl, _, _⟩ := sgn_cells hv
  obtain ⟨gm, gb⟩ := gr
  dsimp only at *
  clear hF cl hq hv hs hm k1
  go_enter Tryz.func15, Tryz.ntmps15
  go_wp2_with fail
  go_region_held3 (fun z => z.cell? ⟨w.heap.size, 0, none⟩ = some (.slice a0 gm.length cap0) ∧ z.cell? ⟨w.heap.size, 1, none⟩ = some (.int .i64 gb)) (first | exact c0 | exact c1 | assumption) (first | (go_at_call 34; (with_reducible refine HF.out.mono ?_); rintro _ y1 ⟨ay, ny, cy, rfl, cy1, HM⟩) | (go_at_call 38; (with_reducible refine HM.mono ?_); rintro _ y2 ⟨az, nz, cz, rfl, cy2, oz, uz⟩))
  have Hoz := Lib.hid oz
  clear oz HF c0 c1 cy1 cy2
  go_wp2_with fail
  go_ret
  exact ⟨_, rfl, Hoz.out, uz⟩
/-- What the function that Accept hands over says of a group: too few of its members vote. -/
theorem accP (V : List (Bk.Sgn × Int)) (p : Int) (lo hi hi2 : Nat) (vv ms : Value) (gr : At.Grp) (b1 b2 : Nat) (w : World) (g : Gl w) (hv : SlS 4 lo hi w vv (V.map vtL)) (hV : V.length ≤ 1000000) (h1 : w.heap[b1]? = some (.cells #[vv] 72 (0, 0))) (h2 : w.heap[b2]? = some (.cells #[.int .i64 p] tNum (0, 0))) (hm : Sl 0 hi2 w ms (gr.members.map intV)) (hml : gr.members.length ≤ 1000000) :
    Calls Tryz.prog 41 #[.agg #[ms, .int .i64 gr.bad], .pointer (some ⟨b1, 0, none⟩), .pointer (some ⟨b2, 0, none⟩)] w fun e w' => e = .returned (.bool (At.weak V p gr)) ∧ Nw w w' := by
  have n1 := nw_alloc w (.cells #[ms, .int .i64 gr.bad] tGrp)
  have n1d := n1.drew
  have k1 := heap_new w (.cells #[ms, .int .i64 gr.bad] tGrp)
  have cl : ∀ z, Nw (w.alloc (.cells #[ms, .int .i64 gr.bad] tGrp)) z → z.cell? ⟨b1, 0, none⟩ = some vv ∧ z.cell? ⟨b2, 0, none⟩ = some (.int .i64 p) ∧ z.cell? ⟨w.heap.size, 0, none⟩ = some ms ∧ z.cell? ⟨w.heap.size, 1, none⟩ = some (.int .i64 gr.bad) := fun z u => ⟨by rw [cells_cell (Nw.keep (n1.trans u) h1)]; rfl, by rw [cells_cell (Nw.keep (n1.trans u) h2)]; rfl, cell2 (u.keep k1)⟩
  have hF : Calls Tryz.prog 38 #[vv, .agg #[ms, .int .i64 gr.bad], .int .i64 p] (w.alloc (.cells #[ms, .int .i64 gr.bad] tGrp)).drew fun e w2 => ∃ a c, e = .returned (.slice a (At.members V gr p).length c) ∧ (w2.cell? ⟨b1, 0, none⟩ = some vv ∧ w2.cell? ⟨b2, 0, none⟩ = some (.int .i64 p) ∧ w2.cell? ⟨w.heap.size, 0, none⟩ = some ms ∧ w2.cell? ⟨w.heap.size, 1, none⟩ = some (.int .i64 gr.bad)) ∧ Nw w w2 := by
    refine (members_w lo hi 0 hi2 _ V ms gr p _ (g.upd n1d) (hv.nw n1d) hV (hm.nw n1d) hml).mono ?_
    rintro e w2 ⟨v2, rfl, o2, u2⟩
    obtain ⟨a2, c2, rfl⟩ := own_sl o2
    exact ⟨a2, c2, rfl, cl w2 ((Upd.refl _ _).drew.trans u2), n1d.trans u2⟩
  have HF := Lib.hid hF
  have c0 := cl _ (Upd.refl _ _)
  have c1 := cl _ (Upd.refl _ _).drew
  obtain ⟨a0, cap0, hms⟩ : ∃ a cap, ms = .slice a gr.members.length cap := by
    obtain ⟨a, cap, e, _⟩ := num_cells hm
    exact ⟨a, cap, e⟩
  subst hms
  obtain ⟨av, capv, rfl, _, _⟩ := vote_cells hv
  have hml2 : (At.members V gr p).length ≤ 1000000 := Nat.le_trans (List.length_filter_le _ _) hml
  have hwk : Hid (At.weak V p gr = decide (((At.members V gr p).length : Int) ≤ gr.bad)) := by show _ = _; rfl
  obtain ⟨gm, gb⟩ := gr
  dsimp only at *
  generalize At.weak V p ⟨gm, gb⟩ = wk at *
  generalize (At.members V ⟨gm, gb⟩ p).length = m at *
  clear hF cl hv hm k1 h1 h2
  go_enter Tryz.func41, Tryz.ntmps41
  go_wp2_with fail
  go_region_held3 (fun z => z.cell? ⟨b1, 0, none⟩ = some (.slice av V.length capv) ∧ z.cell? ⟨b2, 0, none⟩ = some (.int .i64 p) ∧ z.cell? ⟨w.heap.size, 0, none⟩ = some (.slice a0 gm.length cap0) ∧ z.cell? ⟨w.heap.size, 1, none⟩ = some (.int .i64 gb)) (first | exact c0 | exact c1 | assumption) (first | (go_at_call 38; (with_reducible refine HF.out.mono ?_); rintro _ y1 ⟨ay, cy, rfl, cy1, uz⟩))
  clear HF c0 c1 cy1
  go_wp2_with fail
  go_ret
  exact ⟨ret_bool (by rw [hwk.out]), uz⟩
set_option maxHeartbeats 1000000 in
theorem indexG2 (gf : Nat) (c1 c2 : Nat) (eg : ∀ args w, (callFunc gf args).run Tryz.prog w = .ok (.enter gf args) w) (p : At.Grp → Bool) (hi : Nat) (v : Value) (G : List At.Grp) (C : List (Value × At.Grp)) (w : World) (hv : GrpS hi w v G C) (hX : C.length ≤ 1000000)
    (hp : ∀ W x, Nw w W → x ∈ C → Calls Tryz.prog gf #[.agg #[x.1, .int .i64 x.2.bad], .pointer (some ⟨c1, 0, none⟩), .pointer (some ⟨c2, 0, none⟩)] W fun e w' => e = .returned (.bool (p x.2)) ∧ Nw W w') :
    Calls Tryz.prog 58 #[v, .func (.func gf) #[] #[.pointer (some ⟨c1, 0, none⟩), .pointer (some ⟨c2, 0, none⟩)]] w fun e w' => e = .returned (.int .i64 (idxA p G)) ∧ Nw w w' := by
  obtain ⟨a, cap, rfl, hm, ha⟩ := grp_cells hv
  have hG : G = C.map (·.2) := hv.fst.symm
  have Ha := Lib.hid ha; clear ha
  have Hp := Lib.hid hp; clear hp
  have He := Lib.hid hv.each
  unfold maxLen at hm
  clear hv
  subst hG
  go_enter Tryz.func58, Tryz.ntmps58
  go_wp2_with fail
  go_loopw [8] (fun i wr => ∃ n : Nat, n ≤ C.length ∧ i = .int .i64 n ∧ Hid (∀ j (h : j < C.length), j < n → p C[j].2 = false) ∧ Nw w wr) (fun i _ => C.length - (intOf i).toNat)
  case atStart => exact ⟨0, Nat.zero_le _, rfl, fun j _ h => absurd h (Nat.not_lt_zero _), Upd.refl _ _⟩
  case round =>
    obtain ⟨n, hn, rfl, hall, u⟩ := hrel
    by_cases hlt : n < C.length
    · rcases Ha.out with hnil | ⟨b, o, rfl, _, hb, hc⟩
      · simp [hnil] at hlt
      obtain ⟨p0, p1⟩ := hc n hlt
      have d0 := ((Nw.below u).cell (p := ⟨b, o + n * 2, none⟩) hb).trans p0
      have d1 := ((Nw.below u).cell (p := ⟨b, o + n * 2 + 1, none⟩) hb).trans p1
      have hcall := Hp.out wr C[n] u (List.getElem_mem hlt)
      obtain ⟨am, capm, hms⟩ : ∃ a cap, C[n].1 = .slice a C[n].2.members.length cap := by
        obtain ⟨a, cap, e, _⟩ := num_cells (He.out C[n] (List.getElem_mem hlt)).1
        exact ⟨a, cap, e⟩
      have hnext : p C[n].2 = false → Hid (∀ j (h : j < C.length), j < n + 1 → p C[j].2 = false) := fun e j h hj => by
        by_cases ej : j = n
        · subst ej; exact e
        · exact hall.out j h (by omega)
      have hstop : p C[n].2 = true → Hid (idxA p (C.map (·.2)) = n) := fun e => idxA_hit (by simpa using hlt) (by simpa using e) (fun j h hj => by simpa using hall.out j (by simpa using h) hj)
      clear hc p0 p1
      generalize p C[n].2 = q at *
      generalize C[n] = x at *
      obtain ⟨xs, xg, xb⟩ := x
      dsimp only at *
      subst hms
      have Hcall := Lib.hid hcall; clear hcall
      cases q with
      | true =>
        have hr := hstop rfl
        clear hstop hnext
        go_wp2_with (go_at_fn gf; (with_reducible refine Hcall.out.mono ?_); rintro _ w2 ⟨rfl, u2⟩)
        go_ret
        exact ⟨ret_int hr.out.symm, u.trans u2⟩
      | false =>
        have hr := hnext rfl
        clear hstop hnext
        go_wp2_with (go_at_fn gf; (with_reducible refine Hcall.out.mono ?_); rintro _ w2 ⟨rfl, u2⟩)
        go_roundw
        case rel => exact ⟨n + 1, by omega, by go_num, hr, u.trans u2⟩
        case measure => simp [intOf]; omega
    · have hr : Hid (idxA p (C.map (·.2)) = -1) := idxA_miss (fun j h => by simpa using hall.out j (by simpa using h) (by simp at h; omega))
      go_wp2_with fail
      go_ret
      exact ⟨ret_int hr.out.symm, u⟩
theorem containsG2 (gf : Nat) (c1 c2 : Nat) (eg : ∀ args w, (callFunc gf args).run Tryz.prog w = .ok (.enter gf args) w) (p : At.Grp → Bool) (hi : Nat) (v : Value) (G : List At.Grp) (C : List (Value × At.Grp)) (w : World) (hv : GrpS hi w v G C) (hX : C.length ≤ 1000000)
    (hp : ∀ W x, Nw w W → x ∈ C → Calls Tryz.prog gf #[.agg #[x.1, .int .i64 x.2.bad], .pointer (some ⟨c1, 0, none⟩), .pointer (some ⟨c2, 0, none⟩)] W fun e w' => e = .returned (.bool (p x.2)) ∧ Nw W w') :
    Calls Tryz.prog 40 #[v, .func (.func gf) #[] #[.pointer (some ⟨c1, 0, none⟩), .pointer (some ⟨c2, 0, none⟩)]] w fun e w' => e = .returned (.bool (G.any p)) ∧ Nw w w' := by
  have q := indexG2 gf c1 c2 eg p hi v G C w hv hX hp
  obtain ⟨a, cap, hv', _⟩ := grp_cells hv
  subst hv'
  have Q := Lib.hid q
  have hr := Lib.hid (idxA_any p G)
  clear q hv hp
  generalize idxA p G = m at *
  go_enter Tryz.func40, Tryz.ntmps40
  go_wp2_with fail
  (with_reducible refine (Q.out).mono ?_)
  rintro _ w2 ⟨rfl, u2⟩
  go_wp2_with fail
  all_goals go_ret
  all_goals exact ⟨ret_bool (by first | (rw [← hr.out]; done) | (rw [← hr.out]; simp_all)), u2⟩
end Go.Proofs.YtpceoogmkbcfmaaGreatDoor
