/- Ring and rows of signatures together in memory; the claims of AttestMore in the opposite order, twice, with some that do not hold. -/
import Derived.Test.YtpceoogmkbcfmaaGreatDoorAttG
namespace Go.Proofs.YtpceoogmkbcfmaaGreatDoor
open Go.RowKit
set_option linter.unusedVariables false
set_option linter.unusedSimpArgs false
attribute [local irreducible] Calls

structure Rw (W : World) (rb : Nat) (Lr : List Bk.Seal) (R : List (Value × List Bk.Sgn)) (z : World) : Prop where
  ring : ∃ q : RingR, q.rb = rb ∧ RingAt W.heap.size z q Lr
  nw : Nw W z
  rows : ∀ p ∈ R, z.ownsRow W.heap.size tSigned 3 p.1 p.2.length (flatS p.2)
  apart : R.Pairwise (fun a b => ∀ j, a.1.ownBlock = some j → ¬ b.1.ownBlock = some j)
section
variable {W z z' : World} {rb : Nat} {Lr Lr' : List Bk.Seal} {R : List (Value × List Bk.Sgn)}
theorem Rw.go (h : Rw W rb Lr R z) (u : Nw z z') : Rw W rb Lr R z' := by
  obtain ⟨⟨q, h1, h2⟩, hn, hr, ha⟩ := h
  exact ⟨⟨q, h1, h2.nw u⟩, hn.trans u, fun p hp => owns_upd' (hr p hp) u (fun _ _ e => e), ha⟩
theorem Rw.row (h : Rw W rb Lr R z) (i : Nat) {p : Value × List Bk.Sgn} (hi : R[i]? = some p) : z.ownsRow W.heap.size tSigned 3 p.1 p.2.length (flatS p.2) := h.rows p (List.mem_of_getElem? hi)
/-- What signs. -/
theorem Rw.sign (h : Rw W rb Lr R z) (hh : ∀ q, RingAt W.heap.size z q Lr → q.rb = rb → ∃ q', q'.rb = rb ∧ RingAt W.heap.size z' q' Lr' ∧ Upd q.foot z z') : Rw W rb Lr' R z' := by
  obtain ⟨⟨q, h1, h2⟩, hn, hr, ha⟩ := h
  obtain ⟨q', h3, h4, u⟩ := hh q h2 h1
  exact ⟨⟨q', h3, h4⟩, hn.trans' u (fun j hj e => by have := (h2.foot_lt e).1; omega), fun p hp => owns_upd' (hr p hp) u (ring_row h2 (hr p hp)), ha⟩
/-- A row that a call has built. -/
theorem Rw.cons {v : Value} {S : List Bk.Sgn} {b : Nat} (h : Rw W rb Lr R z) (u : Rw W rb Lr' R z') (hs : z.heap.size ≤ b) (ho : z'.ownsRow b tSigned 3 v S.length (flatS S)) : Rw W rb Lr' ((v, S) :: R) z' := by
  have hb : W.heap.size ≤ b := Nat.le_trans h.nw.size hs
  refine ⟨u.ring, u.nw, fun p hp => ?_, List.pairwise_cons.2 ⟨fun p hp j e1 e2 => ?_, u.apart⟩⟩
  · rcases List.mem_cons.1 hp with rfl | hp
    · exact owns_base ho hb
    · exact u.rows p hp
  · have h1 := (own_block ho e1).1
    obtain ⟨_, cs, h2⟩ := own_block (h.rows p hp) e2
    have := lt_of_block h2
    omega
/-- An append onto the first row. -/
theorem Rw.app {v : Value} {S T : List Bk.Sgn} {g n cap : Nat} (h : Rw W rb Lr ((v, S) :: R) z) (hn : n = (S ++ T).length) (ho : z'.ownsRow W.heap.size tSigned 3 (.slice (some ⟨g, 0, none⟩) n cap) n (flatS S ++ flatS T)) (u : Upd (fun k => v.ownBlock = some k) z z') (hg : v.ownBlock = some g ∨ z.heap.size ≤ g) : Rw W rb Lr ((.slice (some ⟨g, 0, none⟩) n cap, S ++ T) :: R) z' := by
  obtain ⟨⟨q, h1, h2⟩, hnw, hr, ha⟩ := h
  have hv := hr _ (List.mem_cons_self ..)
  obtain ⟨ha1, ha2⟩ := List.pairwise_cons.1 ha
  subst hn
  refine ⟨⟨q, h1, h2.upd u (fun j hj e => ring_row h2 hv j e hj)⟩, hnw.trans' u (fun j hj e => by have := (own_block hv e).1; omega), fun p hp => ?_, List.pairwise_cons.2 ⟨fun p hp j e1 e2 => ?_, ha2⟩⟩
  · rcases List.mem_cons.1 hp with rfl | hp
    · dsimp only
      rw [show flatS (S ++ T) = flatS S ++ flatS T from by simp [flatS]]
      exact ho
    · exact owns_upd' (hr p (List.mem_cons_of_mem _ hp)) u (fun j e1 e2 => ha1 p hp j e2 e1)
  · have : g = j := by simpa [Value.ownBlock] using e1
    subst this
    rcases hg with e | e
    · exact ha1 p hp g e e2
    · obtain ⟨_, cs, h3⟩ := own_block (hr p (List.mem_cons_of_mem _ hp)) e2
      have := lt_of_block h3
      omega
theorem Rw.app0 {v : Value} {S : List Bk.Sgn} (h : Rw W rb Lr ((v, S) :: R) z) (u : Upd (fun k => v.ownBlock = some k) z z') : Rw W rb Lr R z' := by
  obtain ⟨⟨q, h1, h2⟩, hnw, hr, ha⟩ := h
  have hv := hr _ (List.mem_cons_self ..)
  obtain ⟨ha1, ha2⟩ := List.pairwise_cons.1 ha
  exact ⟨⟨q, h1, h2.upd u (fun j hj e => ring_row h2 hv j e hj)⟩, hnw.trans' u (fun j hj e => by have := (own_block hv e).1; omega), fun p hp => owns_upd' (hr p (List.mem_cons_of_mem _ hp)) u (fun j e1 e2 => ha1 p hp j e2 e1), ha2⟩
/-- Rows of signatures stay, wherever they lie. -/
def KeepS (z z' : World) : Prop := ∀ b v n xs, z.ownsRow b tSigned 3 v n xs → z'.ownsRow b tSigned 3 v n xs
theorem rw_signed {lo hi : Nat} {v : Value} {l : List Vw.Say} (h : Rw W rb Lr R z) (g : Gl z) (hv : SlS 7 lo hi z v (l.map sayL)) (hhi : hi ≤ W.heap.size) (ho : ∀ x ∈ l, SayOk x) (h300 : ∀ x ∈ l, x.raw.length ≤ 300) (hl : l.length ≤ 30) (hLr : Lr.length ≤ 900) (hlen : (Vw.signedL Lr l).2.length = l.length) :
    Calls Tryz.prog 12 #[.pointer (some ⟨rb, 0, none⟩), v] z fun e w' => ∃ a c, e = .returned (.slice a (Vw.signedL Lr l).2.length c) ∧ Rw W rb (Vw.signedL Lr l).1 R w' ∧ w'.ownsRow z.heap.size tSigned 3 (.slice a (Vw.signedL Lr l).2.length c) (Vw.signedL Lr l).2.length (flatS (Vw.signedL Lr l).2) ∧ KeepS z w' ∧ z.heap.size ≤ w'.heap.size := by
  have h' := h
  obtain ⟨⟨q, rfl, h2⟩, hnw, hr, ha⟩ := h'
  refine (signedA_w W.heap.size lo hi q Lr v l z g h2 hv hhi ho h300 hl hLr).mono ?_
  rintro e w' ⟨vo, rfl, r', hq', hrb, hown, u, hf⟩
  obtain ⟨a, c, rfl⟩ := own_sl hown
  rw [List.take_length] at hq' hown
  rw [hlen]
  refine ⟨a, c, rfl, ?_, hown, (fun b v n xs hb => owns_upd' hb u (ring_row h2 hb)), u.size⟩
  exact ⟨⟨r', hrb, hq'⟩, hnw.trans' u (fun j hj e => by have := (h2.foot_lt e).1; omega), fun p hp => owns_upd' (hr p hp) u (ring_row h2 (hr p hp)), ha⟩
theorem rw_built {k p : Int} {t : List UInt8} {sg : Bk.Sgn} {L' : List Bk.Seal} (h : Rw W rb Lr R z) (g : Gl z) (hk : I64 k) (hp : I64 p) (htl : t.length ≤ 1000000) (hL : Lr.length ≤ 1000000) (e : Bk.sign Lr k (Cl.text ⟨3, p, 0, t⟩) = (sg, L')) :
    Calls Tryz.prog 17 #[.pointer (some ⟨rb, 0, none⟩), .int .i64 k, .string ⟨t.toArray⟩, .int .i64 p] z fun x w' => x = .returned (.agg #[.int .i64 sg.key, .string ⟨sg.text.toArray⟩, .int .i64 sg.mark]) ∧ Rw W rb L' R w' := by
  have h' := h
  obtain ⟨⟨q, rfl, h2⟩, hnw, hr, ha⟩ := h'
  have hB : W.heap.size ≤ z.heap.size := hnw.size
  refine (built_w W.heap.size q Lr k p t z g h2 hk hp htl hL hB).mono ?_
  rintro _ w' ⟨q', rfl, h1, h3, u, h4⟩
  rw [e] at h1 ⊢
  exact ⟨rfl, ⟨q', h3, h1⟩, hnw.trans' u (fun j hj e => by have := (h2.foot_lt e).1; omega), fun p hp => owns_upd' (hr p hp) u (ring_row h2 (hr p hp)), ha⟩
theorem sgn_atA {B : Nat} {w : World} {b o n cap : Nat} {L : List Bk.Sgn} {k : Nat} (h : w.ownsRow B tSigned 3 (.slice (some ⟨b, o, none⟩) n cap) L.length (flatS L)) (hk : k < L.length) :
    w.cell? ⟨b, o + k * 3, none⟩ = some (.int .i64 L[k].key) ∧ w.cell? ⟨b, o + k * 3 + 1, none⟩ = some (.string ⟨L[k].text.toArray⟩) ∧ w.cell? ⟨b, o + k * 3 + 2, none⟩ = some (.int .i64 L[k].mark) := by
  obtain ⟨a', cap', e, _, hc⟩ := sgn_cells (sgn_sls h)
  rcases hc with hnil | ⟨b', o', e2, _, _, hc⟩
  · simp [hnil] at hk
  · subst e2
    simp at e
    obtain ⟨⟨rfl, rfl⟩, _, _⟩ := e
    exact hc k hk
theorem Rw.upd {S : Nat → Prop} (h : Rw W rb Lr R z) (u : Upd S z z') (h1 : ∀ j, j < z.heap.size → ¬ S j) : Rw W rb Lr R z' := h.go (u.mono (fun j hj e => h1 j hj e))
theorem rw_head {p : Value × List Bk.Sgn} {n : Nat} (hn : p.2.length = n) (h : Rw W rb Lr (p :: R) z) : z.ownsRow W.heap.size tSigned 3 p.1 n (flatS p.2) := by
  rw [← hn]; exact h.row 0 rfl
theorem rw_size (h : Rw W rb Lr R z) : W.heap.size ≤ z.heap.size := h.nw.size
theorem Rw.nil1 (h : Rw W rb Lr R z) : Rw W rb Lr ((.slice none 0 0, []) :: R) z := by
  refine ⟨h.ring, h.nw, fun p hp => ?_, List.pairwise_cons.2 ⟨fun p hp j e => by simp [Value.ownBlock] at e, h.apart⟩⟩
  rcases List.mem_cons.1 hp with rfl | hp
  · exact World.ownsRow_nil _ _ _ _
  · exact h.rows p hp
theorem Rw.swap {a b : Value × List Bk.Sgn} (h : Rw W rb Lr (a :: b :: R) z) : Rw W rb Lr (b :: a :: R) z := by
  obtain ⟨h1, h2⟩ := List.pairwise_cons.1 h.apart
  obtain ⟨h3, h4⟩ := List.pairwise_cons.1 h2
  refine ⟨h.ring, h.nw, fun p hp => h.rows p (by simp only [List.mem_cons] at hp ⊢; rcases hp with e | e | e <;> simp [e]), List.pairwise_cons.2 ⟨fun p hp j e1 e2 => ?_, List.pairwise_cons.2 ⟨fun p hp => h1 p (List.mem_cons_of_mem _ hp), h4⟩⟩⟩
  rcases List.mem_cons.1 hp with rfl | hp
  · exact h1 b (List.mem_cons_self ..) j e2 e1
  · exact h3 p hp j e1 e2
theorem Rw.tail {p : Value × List Bk.Sgn} (h : Rw W rb Lr (p :: R) z) : Rw W rb Lr R z := ⟨h.ring, h.nw, fun x hx => h.rows x (List.mem_cons_of_mem _ hx), (List.pairwise_cons.1 h.apart).2⟩
end
/-- An append in a region that draws its order. -/
theorem step_catM {P : Program} {w : World} {ops : Array Oper} {o : Oper} {a : Act} {K : Act → World → Prop} {Q : Exit → Act → World → Prop} {E : Prop} (hgd : o.guard = none) (s x : Operand) (t : TypeId)
    (ho : o.op = .call { callee := .builtin .append, args := #[s, x], argTypes := #[t, t] })
    (e : TypeId) (z : Value) (size bytes : Nat) (ht : P.underlying t = some (.slice e)) (hinfo : (P.info? e).map (fun i => (i.zero, i.size, i.bytes)) = some (some z, size, bytes)) (hzs : z.cells.size = size) (hsz : 0 < size)
    (B : Nat) (hB : B ≤ w.heap.size) (hg : nG ≤ B) (v : Value) (n : Nat) (xs : List Value) (hs : a.eval s = v) (hown : w.ownsRow B e size v n xs)
    (ad : Addr) (m c : Nat) (news : List Value) (hx : a.eval x = .slice (some ad) m c) (hl : news.length = m * size) (hnews : ∀ j u, news[j]? = some u → w.cell? (ad.add j) = some u) (h1 : ∀ u ∈ news, u.oneCell' = true)
    (hm : 0 < m) (h63 : n + m ≤ maxLen) (hbytes : (n + m) * bytes ≤ 140737488355328)
    (h : ∀ g cap w', w'.ownsRow B e size (.slice (some ⟨g, 0, none⟩) (n + m) cap) (n + m) (xs ++ news) → Upd (fun k => v.ownBlock = some k) w w' → (v.ownBlock = some g ∨ w.heap.size ≤ g) → K (a.put o.dst (.slice (some ⟨g, 0, none⟩) (n + m) cap)) w') :
    if Region.wanted o (yielded ops a.tmps) = true then Oper.wp P o a w K Q else E := by
  obtain ⟨i0, hi, hz0, hz1, hz2⟩ := info_parts hinfo
  refine step_append_lies _ hgd s x t ho B e i0 z size bytes ht hi hz0 hz1 hz2 hzs hsz v n xs hs hown ad m c news hx hl hnews h1 hm h63 hbytes hB w.heap.size rfl fun g cap w' h2 h3 h4 h5 => h g cap w' h2 ((Upd.refl _ _).grown h3 fun k hk => ⟨Or.inl hk, ?_⟩) (h4.imp id (fun e => by omega))
  have := (hown.lt k hk).1; omega
namespace At
open Bk (Sgn Seal)
/-- What one round appends. -/
def moreOf (Lr : List Seal) (T : List UInt8) (a b : Sgn) : List Sgn := [a, ⟨b.key, b.text, b.mark + 1000⟩, (Bk.sign Lr b.key T).1, a]
/-- Ring and claims behind n rounds. -/
def backTo (T : List UInt8) (S : List Sgn) (Lr : List Seal) : Nat → List Seal × List Sgn
  | 0 => (Lr, [])
  | n + 1 => ((Bk.sign (backTo T S Lr n).1 (S.getD n noA).key T).2, (backTo T S Lr n).2 ++ moreOf (backTo T S Lr n).1 T (S.getD (S.length - 1 - n) noA) (S.getD n noA))
where noA : Sgn := Bk.noSgn
theorem back_len (T : List UInt8) (S : List Sgn) (Lr : List Seal) : ∀ n, (backTo T S Lr n).1.length ≤ Lr.length + n ∧ (backTo T S Lr n).2.length = 4 * n
  | 0 => ⟨Nat.le_refl _, rfl⟩
  | n + 1 => by
    obtain ⟨h1, h2⟩ := back_len T S Lr n
    have := Vw.sign_len (backTo T S Lr n).1 (S.getD n backTo.noA).key T
    refine ⟨by unfold backTo; dsimp only; omega, ?_⟩
    unfold backTo moreOf
    rw [List.length_append, h2]
    simp; omega
theorem back_nodup (T : List UInt8) (S : List Sgn) {Lr : List Seal} (h : Lr.Nodup) : ∀ n, (backTo T S Lr n).1.Nodup
  | 0 => h
  | n + 1 => Bk.sign_nodup (back_nodup T S h n)
/-- The votes of these claims are those of the claims themselves. -/
theorem back_votes {text : List UInt8} {S : List Sgn} {Lr Lf : List Seal} (hL : Lf.length ≤ 1000) (hm : ∀ s ∈ S, 0 ≤ s.mark) :
    ∀ v, v ∈ votes Lf (backTo (Cl.text ⟨3, 5, 0, text ++ [120]⟩) S Lr S.length).2 text ↔ v ∈ votes Lf S text := by
  have h : ∀ n, n ≤ S.length → ∀ v, v ∈ votes Lf (backTo (Cl.text ⟨3, 5, 0, text ++ [120]⟩) S Lr n).2 text ↔ ∃ i, i < n ∧ ∃ s, S[S.length - 1 - i]? = some s ∧ saysOf Lf text s = some v.2 ∧ v.1 = s := by
    intro n
    induction n with
    | zero => intro _ v; simp [backTo, votes]
    | succ n ih =>
      intro hn v
      have e1 : S.getD (S.length - 1 - n) backTo.noA = S[S.length - 1 - n]'(by omega) := by simp [List.getD_eq_getElem?_getD, show S.length - 1 - n < S.length by omega]
      have e2 : S.getD n backTo.noA = S[n]'(by omega) := by simp [List.getD_eq_getElem?_getD, show n < S.length by omega]
      unfold backTo
      dsimp only
      rw [e1, e2]
      have hsplit : votes Lf ((backTo (Cl.text ⟨3, 5, 0, text ++ [120]⟩) S Lr n).2 ++ moreOf (backTo (Cl.text ⟨3, 5, 0, text ++ [120]⟩) S Lr n).1 (Cl.text ⟨3, 5, 0, text ++ [120]⟩) (S[S.length - 1 - n]'(by omega)) (S[n]'(by omega))) text = votes Lf (backTo (Cl.text ⟨3, 5, 0, text ++ [120]⟩) S Lr n).2 text ++ votes Lf (moreOf (backTo (Cl.text ⟨3, 5, 0, text ++ [120]⟩) S Lr n).1 (Cl.text ⟨3, 5, 0, text ++ [120]⟩) (S[S.length - 1 - n]'(by omega)) (S[n]'(by omega))) text := by
        unfold votes; rw [List.filterMap_append]
      rw [hsplit, List.mem_append, ih (by omega), votes_mem]
      have hodd : saysOf Lf text ⟨(S[n]'(by omega)).key, (S[n]'(by omega)).text, (S[n]'(by omega)).mark + 1000⟩ = none := says_far (by have := hm _ (List.getElem_mem (show n < S.length by omega)); dsimp only; omega)
      have hbu : ∀ Ls k, saysOf Lf text (Bk.sign Ls k (Cl.text ⟨3, 5, 0, text ++ [120]⟩)).1 = none := fun Ls k => built_none
      constructor
      · rintro (⟨i, hi, s, h1, h2, h3⟩ | ⟨s, hs, h2, h3⟩)
        · exact ⟨i, by omega, s, h1, h2, h3⟩
        · unfold moreOf at hs
          simp only [List.mem_cons, List.not_mem_nil, or_false] at hs
          rcases hs with rfl | rfl | rfl | rfl
          · exact ⟨n, by omega, _, List.getElem?_eq_getElem (by omega), h2, h3⟩
          · rw [hodd] at h2; cases h2
          · rw [hbu] at h2; cases h2
          · exact ⟨n, by omega, _, List.getElem?_eq_getElem (by omega), h2, h3⟩
      · rintro ⟨i, hi, s, h1, h2, h3⟩
        by_cases e : i = n
        · subst e
          refine Or.inr ⟨s, ?_, h2, h3⟩
          rw [List.getElem?_eq_getElem (by omega)] at h1
          injection h1 with h1
          unfold moreOf; rw [h1]; simp
        · exact Or.inl ⟨i, by omega, s, h1, h2, h3⟩
  intro v
  rw [h S.length (Nat.le_refl _), votes_mem]
  constructor
  · rintro ⟨i, hi, s, h1, h2, h3⟩
    exact ⟨s, List.mem_of_getElem? h1, h2, h3⟩
  · rintro ⟨s, hs, h2, h3⟩
    obtain ⟨j, hj, rfl⟩ := List.mem_iff_getElem.1 hs
    refine ⟨S.length - 1 - j, by omega, _, ?_, h2, h3⟩
    rw [show S.length - 1 - (S.length - 1 - j) = j by omega]
    exact List.getElem?_eq_getElem hj
theorem accept_er {V : List (Sgn × Int)} {G : List Grp} (hG : right G = true) : (accept V G).2 = 0 ∨ (accept V G).2 = 21 ∨ (accept V G).2 = 23 := by
  unfold accept
  rw [if_pos hG]
  rcases acceptF_cases (found V G) with ⟨_, h⟩ | ⟨p, _, h⟩ | ⟨_, h⟩ <;> rw [h] <;> simp
theorem members_nodup {V : List (Sgn × Int)} {G : List Grp} {g : Grp} (hG : right G = true) (hg : g ∈ G) (p : Int) : (members V g p).Nodup :=
  (asc_nodup ((right_grp hG).1 g hg).2.2.2.2).sublist List.filter_sublist
theorem count_sub {x y : List Int} (hx : x.Nodup) (h : ∀ k ∈ x, k ∈ y) : countL x y = x.length := by
  rw [countL_nodup hx]
  congr 1
  exact List.filter_eq_self.2 (fun k hk => List.contains_iff_mem.2 (h k hk))
end At
theorem back_ok {T : List UInt8} {S : List Bk.Sgn} {Lr : List Bk.Seal} (hS : ∀ s ∈ S, Vw.Mod s) (hT : T.length ≤ 30000) : ∀ n, n ≤ S.length → Lr.length + n ≤ 1000 → ∀ s ∈ (At.backTo T S Lr n).2, SgnOk s
  | 0, _, _ => fun s hs => by cases hs
  | n + 1, hn, hL => fun s hs => by
    have e1 : S.getD (S.length - 1 - n) At.backTo.noA = S[S.length - 1 - n]'(by omega) := by simp [List.getD_eq_getElem?_getD, show S.length - 1 - n < S.length by omega]
    have e2 : S.getD n At.backTo.noA = S[n]'(by omega) := by simp [List.getD_eq_getElem?_getD, show n < S.length by omega]
    unfold At.backTo At.moreOf at hs
    dsimp only at hs
    rw [e1, e2] at hs
    have m1 := hS _ (List.getElem_mem (show S.length - 1 - n < S.length by omega))
    have m2 := hS _ (List.getElem_mem (show n < S.length by omega))
    have hl := (At.back_len T S Lr n).1
    obtain ⟨g1, g2, g3, g4, g5⟩ := Vw.sign_sgn (At.backTo T S Lr n).1 (S[n]'(by omega)).key T
    rcases List.mem_append.1 hs with hs | hs
    · exact back_ok hS hT n (by omega) (by omega) s hs
    · simp only [List.mem_cons, List.not_mem_nil, or_false] at hs
      rcases hs with rfl | rfl | rfl | rfl
      · exact mod_okA _ m1
      · obtain ⟨h1, h2, h3, h4, h5⟩ := m2
        exact ⟨by unfold I64; dsimp only; omega, by dsimp only; omega, by unfold I64; dsimp only; omega⟩
      · exact ⟨by unfold I64; omega, by omega, by unfold I64; omega⟩
      · exact mod_okA _ m1
/-- Vote, over whatever claims. -/
theorem vote_r {B lo hi lo2 hi2 : Nat} {q : RingR} {Lr : List Bk.Seal} {v ms : Value} {C : List Bk.Sgn} {gr : At.Grp} {w : World} (text : List UInt8) (p : Int) (g : Gl w) (hq : RingAt B w q Lr) (hv : SlS 3 lo hi w v (C.map sgl)) (hC : C.length ≤ 100000) (hs : ∀ s ∈ C, SgnOk s) (hm : Sl lo2 hi2 w ms (gr.members.map intV)) (hml : gr.members.length ≤ 1000000) :
    ∀ z, Nw w z → Calls Tryz.prog 15 #[.pointer (some ⟨q.rb, 0, none⟩), v, .agg #[ms, .int .i64 gr.bad], .string ⟨text.toArray⟩, .int .i64 p] z fun e w' => ∃ a c, e = .returned (.slice a (At.members (At.votes Lr C text) gr p).length c) ∧ Sl z.heap.size w'.heap.size w' (.slice a (At.members (At.votes Lr C text) gr p).length c) ((At.members (At.votes Lr C text) gr p).map intV) ∧ Nw w w' := fun z u =>
  (Vote_w B q Lr _ _ _ _ v C ms gr text p z (g.upd u) (hq.nw u) (hv.nw u) hC hs (hm.nw u) hml).mono fun e w' ⟨v', h1, h2, h3⟩ => by
    obtain ⟨a, c, rfl⟩ := own_sl h2
    exact ⟨a, c, h1, own_num h2, u.trans h3⟩
theorem same_t {lo1 hi1 lo2 hi2 : Nat} {v1 v2 : Value} {l : List Int} {w : World} (h1 : Sl lo1 hi1 w v1 (l.map intV)) (h2 : Sl lo2 hi2 w v2 (l.map intV)) :
    Calls Tryz.prog 19 #[v1, v2] w fun e w' => e = .returned (.bool true) ∧ Nw w w' := by
  have h := SameNumsQ lo1 hi1 lo2 hi2 v1 v2 l l w h1 h2
  rw [decide_eq_true (rfl : l = l)] at h
  exact h
theorem count_t {lo hi lo2 hi2 n : Nat} {v v2 : Value} {s l : List Int} {w : World} (hv : Sl lo hi w v (s.map intV)) (hv2 : Sl lo2 hi2 w v2 (l.map intV)) (hn : s.Nodup) (hs : ∀ k ∈ s, k ∈ l) (hl : s.length = n) :
    ∀ z, Nw w z → Calls Tryz.prog 14 #[v, v2] z fun e w' => e = .returned (.int .i64 n) ∧ Nw w w' := fun z u => by
  have h := count_w lo hi lo2 hi2 v v2 s l z (hv.nw u) (hv2.nw u)
  rw [At.count_sub hn hs, hl] at h
  exact h.mono fun e w' ⟨h1, h2⟩ => ⟨h1, u.trans h2⟩
namespace At
theorem manyL_take (V : List (Bk.Sgn × Int)) (key : Int) {P : List Int} {i : Nat} (h : i < P.length) : manyL V key (P.take (i + 1)) = manyL V key (P.take i) + (members V ⟨[key], 0⟩ P[i]).length := by
  unfold manyL
  rw [List.take_succ_eq_append_getElem h, List.map_append, List.sum_append]; simp
theorem one_le (V : List (Bk.Sgn × Int)) (k p : Int) : (members V ⟨[k], 0⟩ p).length ≤ 1 := by rw [alone_len]; split <;> simp
theorem manyL_le (V : List (Bk.Sgn × Int)) (key : Int) (P : List Int) : manyL V key P ≤ P.length := by
  rw [many_filter]; exact List.length_filter_le _ _
theorem liesL_take (V : List (Bk.Sgn × Int)) (truth k : Int) {P : List Int} {i : Nat} (h : i < P.length) : liesL V truth k (P.take (i + 1)) = liesL V truth k (P.take i) + (if P[i] ≠ truth then (members V ⟨[k], 0⟩ P[i]).length else 0) := by
  unfold liesL
  rw [List.take_succ_eq_append_getElem h, List.map_append, List.sum_append]; simp
theorem liesL_le (V : List (Bk.Sgn × Int)) (truth k : Int) (P : List Int) : liesL V truth k P ≤ P.length := by
  unfold liesL
  induction P with
  | nil => exact Nat.le_refl _
  | cons p P ih =>
    rw [List.map_cons, List.sum_cons, List.length_cons]
    have := one_le V k p
    split <;> omega
def memB (GC : List (Value × Grp)) (k : Int) (n : Nat) : Bool := (GC.take n).any fun c => c.2.members.contains k
theorem memB_succ {GC : List (Value × Grp)} {k : Int} {n : Nat} (h : n < GC.length) : memB GC k (n + 1) = (memB GC k n || GC[n].2.members.contains k) := by
  unfold memB
  rw [List.take_succ_eq_append_getElem h, List.any_append]; simp
theorem memB_all {GC : List (Value × Grp)} {k : Int} (h : ∃ g ∈ GC.map (·.2), k ∈ g.members) : memB GC k GC.length = true := by
  unfold memB
  rw [List.take_length, List.any_eq_true]
  obtain ⟨g, hg, hk⟩ := h
  obtain ⟨c, hc, rfl⟩ := List.mem_map.1 hg
  exact ⟨c, hc, List.contains_iff_mem.2 hk⟩
end At
end Go.Proofs.YtpceoogmkbcfmaaGreatDoor
