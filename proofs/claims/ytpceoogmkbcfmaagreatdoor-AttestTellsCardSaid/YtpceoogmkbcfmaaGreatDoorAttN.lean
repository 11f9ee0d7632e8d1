/- The contracts of layer 34's reference: Says, attests, Insert, Prints, Vote. -/
import Derived.Test.YtpceoogmkbcfmaaGreatDoorAttM
import Derived.Test.YtpceoogmkbcfmaaGreatDoorRefV
namespace Go.Proofs.YtpceoogmkbcfmaaGreatDoor
open Go.RowKit
set_option linter.unusedVariables false
set_option linter.unusedSimpArgs false
attribute [local irreducible] Calls

set_option maxHeartbeats 4000000 in
set_option maxRecDepth 100000 in
theorem says_q (B : Nat) (q : QRing) (Lr : List Bk.Seal) (s : Bk.Sgn) (text : List UInt8) (w : World) (g : Gl w) (hq : QRingAt B w q Lr) (hn : Lr.Nodup) (hL : Lr.length ≤ 1000000) (hs : SgnOk s) :
    Calls Tryz.prog 47 #[.pointer (some ⟨q.qb, 0, none⟩), .agg #[.int .i64 s.key, .string ⟨s.text.toArray⟩, .int .i64 s.mark], .string ⟨text.toArray⟩] w fun e w' => e = .returned (.int .i64 (At.saysN Lr text s)) ∧ Nw w w' := by
  have n1 := nw_alloc w (.cells #[.int .i64 s.key, .string ⟨s.text.toArray⟩, .int .i64 s.mark] tSigned)
  have k1 := heap_new w (.cells #[.int .i64 s.key, .string ⟨s.text.toArray⟩, .int .i64 s.mark] tSigned)
  have hE : Hid (At.saysN Lr text s = if Bk.valid Lr s = true ∧ (Cl.read s.text).2 = true ∧ (Cl.read s.text).1.kind = 3 ∧ (Cl.read s.text).1.text = text then (Cl.read s.text).1.n else -1) := by
    show _ = _
    unfold At.saysN At.saysOf
    by_cases h : Bk.valid Lr s = true ∧ (Cl.read s.text).2 = true ∧ (Vw.claimOf s).kind = 3 ∧ (Vw.claimOf s).text = text
    · rw [if_pos h]; exact (if_pos h).symm
    · rw [if_neg h]; exact (if_neg h).symm
  generalize hW : w.alloc (.cells #[.int .i64 s.key, .string ⟨s.text.toArray⟩, .int .i64 s.mark] tSigned) = W1 at *
  have HW := Lib.hid hW
  have hv := valid_q B q Lr s W1 (g.upd n1) (hq.nw n1) hn hL hs
  have hr := fun (z : World) (u : Nw W1 z) => cread_q ⟨s.text.toArray⟩ s.text (bs_list _) (Nat.le_trans hs.t (by decide)) z (g.upd (n1.trans u))
  generalize At.saysN Lr text s = res at *
  generalize Cl.read s.text = r1 at *
  obtain ⟨c, ok⟩ := r1
  generalize Bk.valid Lr s = va at *
  obtain ⟨sk, sx, sm⟩ := s
  unfold clmV errV at hr
  dsimp only at *
  have K1 := Lib.hid k1
  have HV := Lib.hid hv
  have HR := Lib.hid hr
  clear hv hr k1 hW hq hs
  obtain ⟨_, _, _⟩ := cell3 K1.out
  go_enter Tryz.func47, Tryz.ntmps47
  go_wp2_with fail
  rw [HW.out]
  go_wp2_with fail
  (with_reducible refine (HV.out).mono ?_)
  rintro _ w3 ⟨rfl, u3⟩
  obtain ⟨_, _, _⟩ := cell3 (Nw.keep u3 K1.out)
  cases va with
  | false =>
    have hx : Hid (res = -1) := by show _ = _; rw [hE.out, if_neg (by simp)]
    clear hE
    go_wp2_with fail
    go_ret
    exact ⟨ret_int hx.out.symm, n1.trans u3⟩
  | true =>
  cases ok with
  | false =>
    have hx : Hid (res = -1) := by show _ = _; rw [hE.out, if_neg (by simp)]
    clear hE
    go_wp2_with fail
    (with_reducible refine (HR.out _ u3).mono ?_)
    rintro _ w4 ⟨rfl, u4⟩
    go_wp2_with fail
    go_ret
    exact ⟨ret_int hx.out.symm, n1.trans ((u3.trans u4).alloc _)⟩
  | true =>
  by_cases hk : c.kind = 3
  rotate_left
  · have hx : Hid (res = -1) := by show _ = _; rw [hE.out, if_neg (by simp [hk])]
    have dk : (c.kind != 3) = true := by simp [hk]
    have dk2 : (c.kind == 3) = false := by simp [hk]
    clear hE hk
    go_wp2_with fail
    (with_reducible refine (HR.out _ u3).mono ?_)
    rintro _ w4 ⟨rfl, u4⟩
    go_wp2_with fail
    go_ret
    exact ⟨ret_int hx.out.symm, n1.trans ((u3.trans u4).alloc _)⟩
  have dk : (c.kind != 3) = false := by simp [hk]
  have dk2 : (c.kind == 3) = true := by simp [hk]
  by_cases ht : c.text = text
  rotate_left
  · have hx : Hid (res = -1) := by show _ = _; rw [hE.out, if_neg (by simp [ht])]
    have dt : (c.text != text) = true := by simp [ht]
    have dt2 : (c.text == text) = false := by simp [ht]
    clear hE hk ht
    go_wp2_with fail
    (with_reducible refine (HR.out _ u3).mono ?_)
    rintro _ w4 ⟨rfl, u4⟩
    go_wp2_with fail
    go_ret
    exact ⟨ret_int hx.out.symm, n1.trans ((u3.trans u4).alloc _)⟩
  · have hx : Hid (res = c.n) := by show _ = _; rw [hE.out, if_pos ⟨rfl, rfl, hk, ht⟩]
    have dt : (c.text != text) = false := by simp [ht]
    have dt2 : (c.text == text) = true := by simp [ht]
    clear hE hk ht
    go_wp2_with fail
    (with_reducible refine (HR.out _ u3).mono ?_)
    rintro _ w4 ⟨rfl, u4⟩
    go_wp2_with fail
    go_ret
    exact ⟨ret_int hx.out.symm, n1.trans ((u3.trans u4).alloc _)⟩
set_option maxHeartbeats 4000000 in
set_option maxRecDepth 100000 in
theorem attests_q (B : Nat) (q : QRing) (Lr : List Bk.Seal) (lo hi : Nat) (v : Value) (C : List Bk.Sgn) (key : Int) (text : List UInt8) (p : Int) (w : World) (g : Gl w) (hq : QRingAt B w q Lr) (hn : Lr.Nodup) (hL : Lr.length ≤ 1000000) (hv : SlS 3 lo hi w v (C.map sgl)) (hs : ∀ s ∈ C, SgnOk s) :
    Calls Tryz.prog 48 #[.pointer (some ⟨q.qb, 0, none⟩), v, .int .i64 key, .string ⟨text.toArray⟩, .int .i64 p] w fun e w' => e = .returned (.bool (C.any (At.att Lr text p key))) ∧ Nw w w' := by
  obtain ⟨a, cap, rfl, hm, ha⟩ := sgn_cells hv
  unfold maxLen at hm
  have Ha := Lib.hid ha
  have HQ := Lib.hid (fun (z : World) (uz : Nw w z) (s : Bk.Sgn) (h : s ∈ C) => says_q B q Lr s text z (g.upd uz) (hq.nw uz) hn hL (hs s h))
  clear ha hv hq hs
  go_enter Tryz.func48, Tryz.ntmps48
  go_wp2_with fail
  go_loopw [11] (fun iv wr => ∃ k : Nat, k ≤ C.length ∧ iv = .int .i64 k ∧ Hid (∀ j (h : j < C.length), j < k → At.att Lr text p key C[j] = false) ∧ Nw w wr) (fun iv _ => C.length - (intOf iv).toNat)
  case atStart => exact ⟨0, Nat.zero_le _, rfl, fun j _ h => absurd h (Nat.not_lt_zero _), Upd.refl _ _⟩
  case round =>
    obtain ⟨k, hk, rfl, hall, u⟩ := hrel
    by_cases hlt : k < C.length
    · rcases Ha.out with hnil | ⟨b, o, rfl, _, hb, hc⟩
      · simp [hnil] at hlt
      obtain ⟨p0, p1, p2⟩ := hc k hlt
      have d0 := ((Nw.below u).cell (p := ⟨b, o + k * 3, none⟩) hb).trans p0
      have d1 := ((Nw.below u).cell (p := ⟨b, o + k * 3 + 1, none⟩) hb).trans p1
      have d2 := ((Nw.below u).cell (p := ⟨b, o + k * 3 + 2, none⟩) hb).trans p2
      have hsq := HQ.out wr u C[k] (List.getElem_mem hlt)
      have hnext : At.att Lr text p key C[k] = false → Hid (∀ j (h : j < C.length), j < k + 1 → At.att Lr text p key C[j] = false) := fun e j h hj => by
        by_cases ej : j = k
        · subst ej; exact e
        · exact hall.out j h (by omega)
      have hyes : At.att Lr text p key C[k] = true → Hid (C.any (At.att Lr text p key) = true) := fun e => List.any_eq_true.2 ⟨_, List.getElem_mem hlt, e⟩
      unfold At.att at hnext hyes
      generalize At.saysN Lr text C[k] = sn at *
      clear hc p0 p1 p2
      generalize C[k] = x at *
      obtain ⟨xk, xx, xm⟩ := x
      dsimp only at *
      have HSQ := Lib.hid hsq
      clear hsq
      by_cases hp : 0 ≤ p
      rotate_left
      · have hy := hnext (by simp [hp])
        have hp' : p < 0 := by omega
        clear hnext hyes
        go_wp2_with fail
        go_roundw
        case rel => exact ⟨k + 1, by omega, by go_num, hy, u⟩
        case measure => simp [intOf]; omega
      by_cases hxk : xk = key
      rotate_left
      · have hy := hnext (by simp [hxk])
        have dk : (xk == key) = false := by simp [hxk]
        clear hnext hyes hxk
        go_wp2_with fail
        go_roundw
        case rel => exact ⟨k + 1, by omega, by go_num, hy, u⟩
        case measure => simp [intOf]; omega
      have dk : (xk == key) = true := by simp [hxk]
      by_cases hsn : sn = p
      · have hy := hyes (by simp [hp, hxk, hsn])
        have ds : (sn == p) = true := by simp [hsn]
        clear hnext hyes hxk hsn
        go_wp2_with fail
        (with_reducible refine (HSQ.out).mono ?_)
        rintro _ w3 ⟨rfl, u3⟩
        go_wp2_with fail
        go_ret
        exact ⟨ret_bool hy.out.symm, u.trans u3⟩
      · have hy := hnext (by simp [hsn])
        have ds : (sn == p) = false := by simp [hsn]
        clear hnext hyes hxk hsn
        go_wp2_with fail
        (with_reducible refine (HSQ.out).mono ?_)
        rintro _ w3 ⟨rfl, u3⟩
        go_wp2_with fail
        go_roundw
        case rel => exact ⟨k + 1, by omega, by go_num, hy, u.trans u3⟩
        case measure => simp [intOf]; omega
    · have hno : Hid (C.any (At.att Lr text p key) = false) := by
        show _ = _
        rw [List.any_eq_false]
        intro x hx
        obtain ⟨j, hj, rfl⟩ := List.mem_iff_getElem.1 hx
        rw [hall.out j hj (by omega)]; simp
      go_wp2_with fail
      go_ret
      exact ⟨ret_bool hno.out.symm, u⟩
/-- 'append(s, x...)' where x has no element. -/
theorem wpList_cat0 {P : Program} {w : World} {ops : Array Oper} {rest : List Oper} {o : Oper} {a : Act} {Q : Exit → Act → World → Prop} (hgd : o.guard = none) (s x : Operand) (t : TypeId)
    (ho : o.op = .call { callee := .builtin .append, args := #[s, x], argTypes := #[t, t] })
    (base : Nat) (e : TypeId) (z : Value) (size bytes : Nat) (ht : P.underlying t = some (.slice e)) (hinfo : (P.info? e).map (fun i => (i.zero, i.size, i.bytes)) = some (some z, size, bytes))
    (v : Value) (n : Nat) (xs : List Value) (hs : a.eval s = v) (hown : w.ownsRow base e size v n xs) (ad : Option Addr) (c : Nat) (hx : a.eval x = .slice ad 0 c)
    (h : ∀ _ : Unit, wpList P ops Q rest (a.put o.dst v) w) : wpList P ops Q (o :: rest) a w := by
  obtain ⟨i0, hi, hz0, hz1, hz2⟩ := info_parts hinfo
  refine wpList_plain hgd fun K hK => ?_
  have hr : (Builtin.append_ #[t, t] o.type #[v, .slice ad 0 c]).run P w = .ok v w := by
    rcases hown.2 with ⟨rfl, rfl⟩ | ⟨g, cap, cur, rfl, _, _, hnc, _⟩
    · cases ad <;> simp [Builtin.append_, run_underlying ht, sizeOf, typeInfo, hi, Builtin.lenOf, Builtin.firstCells, loadCells, loadCellsFrom]
    · cases ad <;> simp [Builtin.append_, run_underlying ht, sizeOf, typeInfo, hi, Builtin.lenOf, Builtin.firstCells, hnc, storeCells, loadCells, loadCellsFrom]
  unfold Oper.wp execOp
  simp only [ho, resolve, invoke, builtin, Sem.run_bind, Sem.run_pure, Result.andThen_ok, List.map_toArray, List.map_cons, List.map_nil, hs, hx, hr]
  exact hK _ _ (h ())
theorem hold_on {p : Prop} (h : ∀ _ : Unit, p) : p := h ()
/-- Where an own row of numbers lies. -/
theorem own_first {b : Nat} {w : World} {v : Value} {l : List Int} (h : w.ownsRow b tNum 1 v l.length (l.map intV)) : (v = .slice none 0 0 ∧ l = []) ∨ ∃ g cap, v = .slice (some ⟨g, 0, none⟩) l.length cap ∧ l.length ≤ cap ∧ cap ≤ maxLen ∧ b ≤ g ∧ g < w.heap.size ∧ (∀ i (hi : i < l.length), w.cell? ⟨g, i, none⟩ = some (.int .i64 l[i])) ∧ ∀ k, k ≤ l.length → w.ownsRow b tNum 1 (.slice (some ⟨g, 0, none⟩) k cap) k ((l.take k).map intV) := by
  obtain ⟨h1, h2⟩ := h
  rcases h2 with ⟨rfl, h0⟩ | ⟨g, cap, cur, rfl, hb, hg, hn, hm, hs, ht⟩
  · exact Or.inl ⟨rfl, List.length_eq_zero_iff.1 h0⟩
  · refine Or.inr ⟨g, cap, rfl, hn, hm, hb, lt_of_block hg, fun i hi => ?_, fun k hk => ⟨by simp; omega, Or.inr ⟨g, cap, cur, rfl, hb, hg, by omega, hm, hs, ?_⟩⟩⟩
    · rw [cells_cell hg]
      have := congrArg (fun x => x[i]?) ht
      simp only [List.getElem?_take, List.getElem?_map] at this
      rw [if_pos (by omega)] at this
      rw [Array.getElem?_toList] at this
      rw [this]; simp [hi]
    · rw [List.map_take, ← ht, List.take_take, Nat.mul_one, Nat.min_eq_left (by omega)]
theorem num_row {w : World} {b base : Nat} {n : Int} (h : w.heap[b]? = some (.cells #[.int .i64 n] tNum (0, 0))) (hb : base ≤ b) : w.ownsRow base tNum 1 (.slice (some ⟨b, 0, none⟩) 1 1) 1 [intV n] :=
  ⟨rfl, Or.inr ⟨b, 1, _, rfl, hb, h, by decide, by decide, rfl, rfl⟩⟩
set_option maxHeartbeats 4000000 in
set_option maxRecDepth 100000 in
theorem insert_q (b : Nat) (v : Value) (l : List Int) (n : Int) (w : World) (hgb : nG ≤ w.heap.size) (hb : b ≤ w.heap.size) (ho : w.ownsRow b tNum 1 v l.length (l.map intV)) (hl : l.length ≤ 100000) :
    Calls Tryz.prog 49 #[v, .int .i64 n] w fun e w' => ∃ v', e = .returned v' ∧ w'.ownsRow b tNum 1 v' (At.insU l n).length ((At.insU l n).map intV) ∧ Nw w w' := by
  have hof := own_first ho
  obtain ⟨a, cap, rfl⟩ := own_sl ho
  have Hof := Lib.hid hof
  have Ho := Lib.hid ho
  clear hof ho
  go_enter Tryz.func49, Tryz.ntmps49
  go_wp2_with fail
  go_loopw [5] (fun iv wr => ∃ k : Nat, k ≤ l.length ∧ iv = .int .i64 k ∧ Hid (∀ j (h : j < l.length), j < k → l[j] < n) ∧ Nw w wr) (fun iv _ => l.length - (intOf iv).toNat)
  case atStart => exact ⟨0, Nat.zero_le _, rfl, fun j _ h => absurd h (Nat.not_lt_zero _), Upd.refl _ _⟩
  case round =>
    obtain ⟨k, hk, rfl, hall, u⟩ := hrel
    by_cases hlt : k < l.length
    · rcases Hof.out with ⟨_, hnil⟩ | ⟨gb, cap', ev, hcap, hcm, hbg, hgs, hc, htk⟩
      · simp [hnil] at hlt
      obtain ⟨rfl, rfl⟩ : a = some ⟨gb, 0, none⟩ ∧ cap = cap' := by simp at ev; exact ev
      clear ev
      have d0 := ((Nw.below u).cell (p := ⟨gb, k, none⟩) hgs).trans (hc k hlt)
      have d0' : wr.cell? ⟨gb, 0 + k, none⟩ = some (.int .i64 l[k]) := by rw [Nat.zero_add]; exact d0
      have hsp := At.insU_split l n k hk hall.out
      have hnext : l[k] < n → Hid (∀ j (h : j < l.length), j < k + 1 → l[j] < n) := fun e j h hj => by
        by_cases ej : j = k
        · subst ej; exact e
        · exact hall.out j h (by omega)
      by_cases hx : l[k] < n
      · have hy := hnext hx
        clear hnext hsp hc htk
        generalize l[k] = x at *
        go_wp2_with fail
        go_roundw
        case rel => exact ⟨k + 1, by omega, by go_num, hy, u⟩
        case measure => simp [intOf]; omega
      · have hsp' := hsp (fun _ => by omega)
        by_cases hxe : l[k] = n
        · have hr : Hid (At.insU l n = l) := by show _ = _; rw [hsp', if_pos (by rw [List.getElem?_eq_getElem hlt, hxe])]
          clear hnext hsp hsp' hc htk
          generalize l[k] = x at *
          subst hxe
          go_wp2_with fail
          go_ret
          exact ⟨_, rfl, by rw [hr.out]; exact owns_upd' Ho.out u (fun _ _ e => e), u⟩
        · have hr : Hid (At.insU l n = l.take k ++ (n :: l.drop k)) := by show _ = _; rw [hsp', if_neg (by rw [List.getElem?_eq_getElem hlt]; simp [hxe])]
          have hdr : ∀ z, Nw wr z → ∀ j u, ((l.drop k).map intV)[j]? = some u → z.cell? ((⟨gb, k, none⟩ : Addr).add j) = some u := fun z uz j y hy => by
            rw [add_plain]
            rw [List.getElem?_map, List.getElem?_drop] at hy
            cases he : l[k + j]? with
            | none => rw [he] at hy; cases hy
            | some q =>
              rw [he] at hy
              obtain ⟨hj1, hj2⟩ := List.getElem?_eq_some_iff.1 he
              injection hy with hy
              rw [← hy, ← hj2]
              exact ((Nw.below (u.trans uz)).cell (p := ⟨gb, k + j, none⟩) hgs).trans (hc (k + j) hj1)
          have Hdr := Lib.hid hdr
          have htk1 := htk k hk
          rw [List.map_take] at htk1
          have Htk := Lib.hid htk1
          clear htk1
          have hlk : (l.drop k).length = l.length - k := List.length_drop
          have hcp : (k : Int) ≤ (cap : Int) := by omega
          have hkl : (k : Int) ≤ (l.length : Int) := by omega
          have hkc : ¬ cap = k := by omega
          unfold maxLen at hcm
          clear hnext hsp hsp' hc htk hdr
          generalize l[k] = x at *
          have hxn : ¬ x < n := hx
          have hbe : (x == n) = false := by simp [hxe]
          clear hxe
          have hgw : nG ≤ wr.heap.size := Nat.le_trans hgb u.size
          have hO0 := fun (w0 : World) => num_row (heap_new w0 (.cells #[.int .i64 n] tNum)) (Nat.le_refl _)
          have HO0 := Lib.hid hO0
          clear hO0
          go_wp2_with (at_builtin; refine wpList_catM rfl _ _ 31 rfl tNum _ 1 8 Tryz.underlying31 infoNum rfl (by decide) wr.heap.size (by simp) hgw _ 1 [intV n] rfl (HO0.out wr) _ (l.length - k) (cap - k) ((l.drop k).map intV) rfl (by simp) (Hdr.out _ (nw_alloc _ _)) (by intro u hu; obtain ⟨z, _, rfl⟩ := List.mem_map.1 hu; rfl) (by omega) (by unfold maxLen; omega) (by omega) ?_)
          intro g6 c6 w6 ho6 u6 _
          have U6 : Nw wr w6 := (nw_alloc wr (.cells #[.int .i64 n] tNum)).trans' u6 (fun j hj e => by simp [Value.ownBlock] at e; omega)
          have hts := owns_upd' Htk.out (u.trans U6) (fun _ _ e => e)
          have HO6 := Lib.hid ho6
          have HTS := Lib.hid hts
          have hlen6 : 1 + (l.length - k) ≤ 100001 := by omega
          have h67 : wr.heap.size ≤ w6.heap.size := U6.size
          have h6n : nG ≤ w6.heap.size := Nat.le_trans hgw h67
          clear ho6 u6 hts
          have hn1 : ∀ u ∈ intV n :: (l.map intV).drop k, u.oneCell' = true := by
            intro u hu
            rcases List.mem_cons.1 hu with rfl | hu
            · rfl
            · obtain ⟨z, _, rfl⟩ := List.mem_map.1 (List.mem_of_mem_drop hu); rfl
          have Hn1 := Lib.hid hn1
          clear hn1
          go_wp2_with (at_builtin; refine wpList_cat rfl _ _ 31 rfl w6.heap.size b tNum _ 1 8 Tryz.underlying31 infoNum rfl (by decide) _ _ 0 k [] ((l.map intV).take k) rfl (by first | exact World.ownsRow_nil _ _ _ _ | exact ⟨rfl, Or.inr ⟨_, 0, #[], rfl, Nat.le_refl _, by exact heap_new _ _, by decide, by decide, rfl, rfl⟩⟩) rfl (owns_upd' HTS.out (by first | exact nw_alloc _ _ | exact Upd.refl _ _) (fun _ _ e => e)) (by intro u hu; obtain ⟨z, _, rfl⟩ := List.mem_map.1 (List.mem_of_mem_take hu); rfl) (by unfold maxLen; omega) (by omega) (by simp) ?_)
          intro v7 w7 ho7 u7 hb7
          have U7 : Nw w6 w7 := (nw_alloc w6 (.cells #[] tNum)).grown u7 (fun k hk => ⟨Or.inr (by simp [Value.ownBlock] at hk; omega), by simp [Value.ownBlock] at hk; omega⟩)
          have ho67 := owns_upd' HO6.out U7 (fun _ _ e => e)
          obtain ⟨a7, c7, rfl⟩ := own_sl ho7
          have HO7 := Lib.hid ho7
          have HO67 := Lib.hid ho67
          have h78 : w6.heap.size ≤ w7.heap.size := U7.size
          clear ho7 u7 hb7 ho67
          go_wp2_with (at_builtin; refine wpList_cat rfl _ _ 31 rfl w6.heap.size wr.heap.size tNum _ 1 8 Tryz.underlying31 infoNum rfl (by decide) _ _ k (1 + (l.length - k)) ((l.map intV).take k) (intV n :: (l.map intV).drop k) rfl HO7.out rfl HO67.out Hn1.out (by unfold maxLen; omega) (by omega) h78 ?_)
          intro v8 w8 ho8 u8 hb8
          have U8 : Upd (fun zz => (Value.slice a7 k c7).ownBlock = some zz) w7 w8 := (Upd.refl _ w7).grown u8 (fun zz hz => ⟨Or.inl hz, by have := (HO7.out.lt zz hz).1; omega⟩)
          have UF : Nw w w8 := (u.trans (U6.trans U7)).trans' U8 (fun j hj e => by have := (HO7.out.lt j e).1; have := u.size; omega)
          have HO8 := Lib.hid ho8
          obtain ⟨a8, c8, rfl⟩ := own_sl ho8
          clear ho8 u8 hb8 U8
          go_wp2_with fail
          go_ret
          refine ⟨_, rfl, ?_, UF⟩
          rw [hr.out]
          have hL : (l.take k ++ (n :: l.drop k)).length = k + (1 + (l.length - k)) := by simp; omega
          have hM : (l.take k ++ (n :: l.drop k)).map intV = (l.map intV).take k ++ (intV n :: (l.map intV).drop k) := by simp [List.map_take, List.map_drop]
          rw [hL, hM]
          exact owns_base HO8.out (by have := u.size; omega)
    · obtain rfl : k = l.length := by omega
      have hr : Hid (At.insU l n = l ++ [n]) := by
        show _ = _
        have := At.insU_split l n l.length (Nat.le_refl _) hall.out (fun h => absurd h (Nat.lt_irrefl _))
        rw [this, if_neg (by simp), List.take_length, List.drop_length]
      have hgw : nG ≤ wr.heap.size := Nat.le_trans hgb u.size
      have hO0 := fun (w0 : World) => num_row (n := n) (heap_new w0 (.cells #[.int .i64 n] tNum)) (Nat.le_refl _)
      have HO0 := Lib.hid hO0
      clear hO0
      have hne : ¬ (l.length : Int) < (l.length : Int) := by omega
      have hll : (l.length : Int) ≤ (l.length : Int) := Int.le_refl _
      have hn1 : ∀ u ∈ [intV n], u.oneCell' = true := by
        intro u hu
        rw [List.mem_singleton.1 hu]; rfl
      have Hn1 := Lib.hid hn1
      have HTS0 := Lib.hid (owns_upd' Ho.out u (fun _ _ e => e))
      clear hn1
      by_cases hl0 : l = []
      · subst hl0
        rcases Hof.out with ⟨e, hnil⟩ | ⟨gb, cap', ev, hcap, hcm, hbg, hgs, hc, htk⟩
        · obtain ⟨rfl, rfl⟩ : a = none ∧ cap = 0 := by simpa using e
          clear e hnil
          go_wp2_with (at_builtin; refine hold_on ?_)
          intro _
          refine wpList_cat0 rfl _ _ 31 rfl wr.heap.size tNum _ 1 8 Tryz.underlying31 infoNum _ 1 [intV n] rfl (HO0.out wr) _ _ rfl ?_
          intro _
          have U6 : Nw wr (wr.alloc (.cells #[.int .i64 n] tNum)) := nw_alloc wr (.cells #[.int .i64 n] tNum)
          have HO6 := Lib.hid (HO0.out wr)
          have h67 : wr.heap.size ≤ (wr.alloc (.cells #[.int .i64 n] tNum)).heap.size := U6.size
          generalize hW6 : wr.alloc (.cells #[.int .i64 n] tNum) = w6 at *
          have h6n : nG ≤ w6.heap.size := Nat.le_trans hgw h67
          clear hW6
          have hE7 : (w6.alloc (.cells #[] tNum)).ownsRow w6.heap.size tNum 1 (.slice (some ⟨w6.heap.size, 0, none⟩) 0 0) 0 [] := ⟨rfl, Or.inr ⟨_, 0, #[], rfl, Nat.le_refl _, heap_new _ _, by decide, by decide, rfl, rfl⟩⟩
          have U7 := nw_alloc w6 (.cells #[] tNum)
          have HO67 := Lib.hid (owns_upd' HO6.out U7 (fun _ _ e => e))
          have HE7 := Lib.hid hE7
          clear hE7
          go_wp2_with (at_builtin; refine hold_on ?_)
          intro _
          refine wpList_cat0 rfl _ _ 31 rfl w6.heap.size tNum _ 1 8 Tryz.underlying31 infoNum _ 0 [] rfl HE7.out _ _ rfl ?_
          intro _
          go_wp2_with (at_builtin; refine wpList_cat rfl _ _ 31 rfl w6.heap.size wr.heap.size tNum _ 1 8 Tryz.underlying31 infoNum rfl (by decide) _ _ 0 1 [] [intV n] rfl HE7.out rfl HO67.out Hn1.out (by unfold maxLen; omega) (by omega) (by simp) ?_)
          intro v8 w8 ho8 u8 hb8
          have U8 : Nw w6 w8 := U7.grown u8 (fun zz hz => ⟨Or.inr (by simp [Value.ownBlock] at hz; omega), by simp [Value.ownBlock] at hz; omega⟩)
          have UF : Nw w w8 := u.trans (U6.trans U8)
          have HO8 := Lib.hid ho8
          obtain ⟨a8, c8, rfl⟩ := own_sl ho8
          clear ho8 u8 hb8 U8
          go_wp2_with fail
          go_ret
          refine ⟨_, rfl, ?_, UF⟩
          rw [hr.out, List.nil_append]
          exact owns_base HO8.out (by have := u.size; omega)
        · obtain ⟨rfl, rfl⟩ : a = some ⟨gb, 0, none⟩ ∧ cap = cap' := by simp at ev; exact ev
          unfold maxLen at hcm
          clear ev hc htk hcap
          by_cases hcl : cap = 0
          · have hd := hcl
            go_wp2_with (at_builtin; refine hold_on ?_)
            intro _
            refine wpList_cat0 rfl _ _ 31 rfl wr.heap.size tNum _ 1 8 Tryz.underlying31 infoNum _ 1 [intV n] rfl (HO0.out wr) _ _ rfl ?_
            intro _
            have U6 : Nw wr (wr.alloc (.cells #[.int .i64 n] tNum)) := nw_alloc wr (.cells #[.int .i64 n] tNum)
            have HO6 := Lib.hid (HO0.out wr)
            have h67 : wr.heap.size ≤ (wr.alloc (.cells #[.int .i64 n] tNum)).heap.size := U6.size
            generalize hW6 : wr.alloc (.cells #[.int .i64 n] tNum) = w6 at *
            have h6n : nG ≤ w6.heap.size := Nat.le_trans hgw h67
            clear hW6
            have hE7 : (w6.alloc (.cells #[] tNum)).ownsRow w6.heap.size tNum 1 (.slice (some ⟨w6.heap.size, 0, none⟩) 0 0) 0 [] := ⟨rfl, Or.inr ⟨_, 0, #[], rfl, Nat.le_refl _, heap_new _ _, by decide, by decide, rfl, rfl⟩⟩
            have U7 := nw_alloc w6 (.cells #[] tNum)
            have HO67 := Lib.hid (owns_upd' HO6.out U7 (fun _ _ e => e))
            have HE7 := Lib.hid hE7
            clear hE7
            go_wp2_with (at_builtin; refine hold_on ?_)
            intro _
            refine wpList_cat0 rfl _ _ 31 rfl w6.heap.size tNum _ 1 8 Tryz.underlying31 infoNum _ 0 [] rfl HE7.out _ _ rfl ?_
            intro _
            go_wp2_with (at_builtin; refine wpList_cat rfl _ _ 31 rfl w6.heap.size wr.heap.size tNum _ 1 8 Tryz.underlying31 infoNum rfl (by decide) _ _ 0 1 [] [intV n] rfl HE7.out rfl HO67.out Hn1.out (by unfold maxLen; omega) (by omega) (by simp) ?_)
            intro v8 w8 ho8 u8 hb8
            have U8 : Nw w6 w8 := U7.grown u8 (fun zz hz => ⟨Or.inr (by simp [Value.ownBlock] at hz; omega), by simp [Value.ownBlock] at hz; omega⟩)
            have UF : Nw w w8 := u.trans (U6.trans U8)
            have HO8 := Lib.hid ho8
            obtain ⟨a8, c8, rfl⟩ := own_sl ho8
            clear ho8 u8 hb8 U8
            go_wp2_with fail
            go_ret
            refine ⟨_, rfl, ?_, UF⟩
            rw [hr.out, List.nil_append]
            exact owns_base HO8.out (by have := u.size; omega)
          · have hd := hcl
            go_wp2_with (at_builtin; refine hold_on ?_)
            intro _
            refine wpList_cat0 rfl _ _ 31 rfl wr.heap.size tNum _ 1 8 Tryz.underlying31 infoNum _ 1 [intV n] rfl (HO0.out wr) _ _ rfl ?_
            intro _
            have U6 : Nw wr (wr.alloc (.cells #[.int .i64 n] tNum)) := nw_alloc wr (.cells #[.int .i64 n] tNum)
            have HO6 := Lib.hid (HO0.out wr)
            have h67 : wr.heap.size ≤ (wr.alloc (.cells #[.int .i64 n] tNum)).heap.size := U6.size
            generalize hW6 : wr.alloc (.cells #[.int .i64 n] tNum) = w6 at *
            have h6n : nG ≤ w6.heap.size := Nat.le_trans hgw h67
            clear hW6
            have hE7 : (w6.alloc (.cells #[] tNum)).ownsRow w6.heap.size tNum 1 (.slice (some ⟨w6.heap.size, 0, none⟩) 0 0) 0 [] := ⟨rfl, Or.inr ⟨_, 0, #[], rfl, Nat.le_refl _, heap_new _ _, by decide, by decide, rfl, rfl⟩⟩
            have U7 := nw_alloc w6 (.cells #[] tNum)
            have HO67 := Lib.hid (owns_upd' HO6.out U7 (fun _ _ e => e))
            have HE7 := Lib.hid hE7
            clear hE7
            go_wp2_with (at_builtin; refine hold_on ?_)
            intro _
            refine wpList_cat0 rfl _ _ 31 rfl w6.heap.size tNum _ 1 8 Tryz.underlying31 infoNum _ 0 [] rfl HE7.out _ _ rfl ?_
            intro _
            go_wp2_with (at_builtin; refine wpList_cat rfl _ _ 31 rfl w6.heap.size wr.heap.size tNum _ 1 8 Tryz.underlying31 infoNum rfl (by decide) _ _ 0 1 [] [intV n] rfl HE7.out rfl HO67.out Hn1.out (by unfold maxLen; omega) (by omega) (by simp) ?_)
            intro v8 w8 ho8 u8 hb8
            have U8 : Nw w6 w8 := U7.grown u8 (fun zz hz => ⟨Or.inr (by simp [Value.ownBlock] at hz; omega), by simp [Value.ownBlock] at hz; omega⟩)
            have UF : Nw w w8 := u.trans (U6.trans U8)
            have HO8 := Lib.hid ho8
            obtain ⟨a8, c8, rfl⟩ := own_sl ho8
            clear ho8 u8 hb8 U8
            go_wp2_with fail
            go_ret
            refine ⟨_, rfl, ?_, UF⟩
            rw [hr.out, List.nil_append]
            exact owns_base HO8.out (by have := u.size; omega)
      have hpos : 0 < l.length := List.length_pos_iff.2 hl0
      rcases Hof.out with ⟨e, hnil⟩ | ⟨gb, cap', ev, hcap, hcm, hbg, hgs, hc, htk⟩
      · exact absurd hnil hl0
      · obtain ⟨rfl, rfl⟩ : a = some ⟨gb, 0, none⟩ ∧ cap = cap' := by simp at ev; exact ev
        unfold maxLen at hcm
        have hcp : (l.length : Int) ≤ (cap : Int) := by omega
        have hpz : ¬ l.length = 0 := by omega
        clear ev hc htk hl0
        by_cases hcl : cap = l.length
        · subst hcl
          go_wp2_with (at_builtin; refine hold_on ?_)
          intro _
          refine wpList_cat0 rfl _ _ 31 rfl wr.heap.size tNum _ 1 8 Tryz.underlying31 infoNum _ 1 [intV n] rfl (HO0.out wr) _ _ rfl ?_
          intro _
          have U6 : Nw wr (wr.alloc (.cells #[.int .i64 n] tNum)) := nw_alloc wr (.cells #[.int .i64 n] tNum)
          have HO6 := Lib.hid (HO0.out wr)
          have HTS := Lib.hid (owns_upd' HTS0.out U6 (fun _ _ e => e))
          have h67 : wr.heap.size ≤ (wr.alloc (.cells #[.int .i64 n] tNum)).heap.size := U6.size
          generalize hW6 : wr.alloc (.cells #[.int .i64 n] tNum) = w6 at *
          have h6n : nG ≤ w6.heap.size := Nat.le_trans hgw h67
          clear hW6
          go_wp2_with (at_builtin; refine wpList_cat rfl _ _ 31 rfl w6.heap.size b tNum _ 1 8 Tryz.underlying31 infoNum rfl (by decide) _ _ 0 l.length [] (l.map intV) rfl (by first | exact World.ownsRow_nil _ _ _ _ | exact ⟨rfl, Or.inr ⟨_, 0, #[], rfl, Nat.le_refl _, by exact heap_new _ _, by decide, by decide, rfl, rfl⟩⟩) rfl (owns_upd' HTS.out (by first | exact nw_alloc _ _ | exact Upd.refl _ _) (fun _ _ e => e)) (by intro u hu; obtain ⟨z, _, rfl⟩ := List.mem_map.1 hu; rfl) (by unfold maxLen; omega) (by omega) (by simp) ?_)
          intro v7 w7 ho7 u7 hb7
          have U7 : Nw w6 w7 := (nw_alloc w6 (.cells #[] tNum)).grown u7 (fun k hk => ⟨Or.inr (by simp [Value.ownBlock] at hk; omega), by simp [Value.ownBlock] at hk; omega⟩)
          have ho67 := owns_upd' HO6.out U7 (fun _ _ e => e)
          obtain ⟨a7, c7, rfl⟩ := own_sl ho7
          have HO7 := Lib.hid ho7
          have HO67 := Lib.hid ho67
          have h78 : w6.heap.size ≤ w7.heap.size := U7.size
          clear ho7 u7 hb7 ho67
          go_wp2_with (at_builtin; refine wpList_cat rfl _ _ 31 rfl w6.heap.size wr.heap.size tNum _ 1 8 Tryz.underlying31 infoNum rfl (by decide) _ _ l.length 1 (l.map intV) ([intV n]) rfl HO7.out rfl HO67.out Hn1.out (by unfold maxLen; omega) (by omega) h78 ?_)
          intro v8 w8 ho8 u8 hb8
          have U8 : Upd (fun zz => (Value.slice a7 l.length c7).ownBlock = some zz) w7 w8 := (Upd.refl _ w7).grown u8 (fun zz hz => ⟨Or.inl hz, by have := (HO7.out.lt zz hz).1; omega⟩)
          have UF : Nw w w8 := (u.trans (U6.trans U7)).trans' U8 (fun j hj e => by have := (HO7.out.lt j e).1; have := u.size; omega)
          have HO8 := Lib.hid ho8
          obtain ⟨a8, c8, rfl⟩ := own_sl ho8
          clear ho8 u8 hb8 U8
          go_wp2_with fail
          go_ret
          refine ⟨_, rfl, ?_, UF⟩
          rw [hr.out, List.length_append, List.map_append]
          exact owns_base HO8.out (by have := u.size; omega)
        · have hd := hcl
          go_wp2_with (at_builtin; refine hold_on ?_)
          intro _
          refine wpList_cat0 rfl _ _ 31 rfl wr.heap.size tNum _ 1 8 Tryz.underlying31 infoNum _ 1 [intV n] rfl (HO0.out wr) _ _ rfl ?_
          intro _
          have U6 : Nw wr (wr.alloc (.cells #[.int .i64 n] tNum)) := nw_alloc wr (.cells #[.int .i64 n] tNum)
          have HO6 := Lib.hid (HO0.out wr)
          have HTS := Lib.hid (owns_upd' HTS0.out U6 (fun _ _ e => e))
          have h67 : wr.heap.size ≤ (wr.alloc (.cells #[.int .i64 n] tNum)).heap.size := U6.size
          generalize hW6 : wr.alloc (.cells #[.int .i64 n] tNum) = w6 at *
          have h6n : nG ≤ w6.heap.size := Nat.le_trans hgw h67
          clear hW6
          go_wp2_with (at_builtin; refine wpList_cat rfl _ _ 31 rfl w6.heap.size b tNum _ 1 8 Tryz.underlying31 infoNum rfl (by decide) _ _ 0 l.length [] (l.map intV) rfl (by first | exact World.ownsRow_nil _ _ _ _ | exact ⟨rfl, Or.inr ⟨_, 0, #[], rfl, Nat.le_refl _, by exact heap_new _ _, by decide, by decide, rfl, rfl⟩⟩) rfl (owns_upd' HTS.out (by first | exact nw_alloc _ _ | exact Upd.refl _ _) (fun _ _ e => e)) (by intro u hu; obtain ⟨z, _, rfl⟩ := List.mem_map.1 hu; rfl) (by unfold maxLen; omega) (by omega) (by simp) ?_)
          intro v7 w7 ho7 u7 hb7
          have U7 : Nw w6 w7 := (nw_alloc w6 (.cells #[] tNum)).grown u7 (fun k hk => ⟨Or.inr (by simp [Value.ownBlock] at hk; omega), by simp [Value.ownBlock] at hk; omega⟩)
          have ho67 := owns_upd' HO6.out U7 (fun _ _ e => e)
          obtain ⟨a7, c7, rfl⟩ := own_sl ho7
          have HO7 := Lib.hid ho7
          have HO67 := Lib.hid ho67
          have h78 : w6.heap.size ≤ w7.heap.size := U7.size
          clear ho7 u7 hb7 ho67
          go_wp2_with (at_builtin; refine wpList_cat rfl _ _ 31 rfl w6.heap.size wr.heap.size tNum _ 1 8 Tryz.underlying31 infoNum rfl (by decide) _ _ l.length 1 (l.map intV) ([intV n]) rfl HO7.out rfl HO67.out Hn1.out (by unfold maxLen; omega) (by omega) h78 ?_)
          intro v8 w8 ho8 u8 hb8
          have U8 : Upd (fun zz => (Value.slice a7 l.length c7).ownBlock = some zz) w7 w8 := (Upd.refl _ w7).grown u8 (fun zz hz => ⟨Or.inl hz, by have := (HO7.out.lt zz hz).1; omega⟩)
          have UF : Nw w w8 := (u.trans (U6.trans U7)).trans' U8 (fun j hj e => by have := (HO7.out.lt j e).1; have := u.size; omega)
          have HO8 := Lib.hid ho8
          obtain ⟨a8, c8, rfl⟩ := own_sl ho8
          clear ho8 u8 hb8 U8
          go_wp2_with fail
          go_ret
          refine ⟨_, rfl, ?_, UF⟩
          rw [hr.out, List.length_append, List.map_append]
          exact owns_base HO8.out (by have := u.size; omega)
end Go.Proofs.YtpceoogmkbcfmaaGreatDoor
