/- The walk of the statement ClaimTruth. -/
import Derived.Test.YtnfjkojckffhmaaDoorClaimN
namespace Go.Proofs.YtnfjkojckffhmaaDoor
open Go.RowKit
set_option linter.unusedVariables false
set_option linter.unusedSimpArgs false
attribute [local irreducible] Calls

theorem flatC_one (l : List Cl.Clm) : ∀ u ∈ flatC l, u.oneCell' = true := by
  intro u hu
  obtain ⟨x, hx, hu⟩ := List.mem_flatten.1 hu
  obtain ⟨c, _, rfl⟩ := List.mem_map.1 hx
  simp only [cellsL, List.mem_cons, List.not_mem_nil, or_false] at hu
  rcases hu with rfl | rfl | rfl | rfl <;> rfl
theorem flatC_app (a b : List Cl.Clm) : flatC (a ++ b) = flatC a ++ flatC b := by simp [flatC]
/-- What has been collected after k keys. -/
def allTo (l : List (List UInt8)) (gr : List Int) (ks : List (List UInt8)) (k : Nat) : List Cl.Clm := Cl.entriesTo l l.length ++ Cl.sizesTo l.length gr gr.length ++ Cl.absTo l ks k
theorem allTo_zero (l : List (List UInt8)) (gr : List Int) (ks : List (List UInt8)) : allTo l gr ks 0 = Cl.entriesTo l l.length ++ Cl.sizesTo l.length gr gr.length := by simp [allTo, Cl.absTo]
theorem allTo_len (l : List (List UInt8)) (gr : List Int) (ks : List (List UInt8)) (k : Nat) (hl : l.length ≤ 8) (hg : gr.length ≤ 6) : (allTo l gr ks k).length ≤ 14 + k * 9 := by
  have h := Cl.absTo_len l ks k
  have h2 : k * (l.length + 1) ≤ k * 9 := Nat.mul_le_mul_left _ (by omega)
  simp only [allTo, List.length_append, Cl.entriesTo_len, Cl.sizesTo_len]
  omega
theorem allTo_succ (l : List (List UInt8)) (gr : List Int) (ks : List (List UInt8)) (k : Nat) (h : k < ks.length) : allTo l gr ks (k + 1) = allTo l gr ks k ++ Cl.absKey l ks[k] := by
  simp only [allTo, Cl.absTo_succ l ks k h, List.append_assoc]
theorem all_i64 {l : List (List UInt8)} {gr : List Int} {ks : List (List UInt8)} {c : Cl.Clm} (hl : l.length ≤ 8) (hg : gr.length ≤ 6) (hz : ∀ s ∈ l, s.length ≤ 100) (h : c ∈ Cl.allOf l gr ks) : I64C c := by
  rcases List.mem_append.1 h with h | h
  · rcases List.mem_append.1 h with h | h
    · obtain ⟨i, hi, rfl⟩ := List.mem_map.1 h
      have hi2 := List.mem_range.1 hi
      refine ⟨by show I64 0; unfold I64; omega, by show I64 (i : Int); unfold I64; omega, by show I64 0; unfold I64; omega, ?_⟩
      have e : (Cl.entryC l i).text = l[i] := by simp [Cl.entryC, hi2]
      rw [e]
      have := hz _ (List.getElem_mem hi2)
      omega
    · obtain ⟨i, hi, rfl⟩ := List.mem_map.1 h
      have hi2 := List.mem_range.1 hi
      have := Cl.szN_le l.length gr (i + 1)
      exact ⟨by show I64 1; unfold I64; omega, by show I64 (Cl.szN l.length gr (i + 1) : Int); unfold I64; omega, by show I64 (10 * (i : Int)); unfold I64; omega, Nat.zero_le _⟩
  · obtain ⟨k, _, hk⟩ := List.mem_flatMap.1 h
    unfold Cl.absKey at hk
    split at hk
    · obtain ⟨m, hm, rfl⟩ := List.mem_map.1 hk
      have hm2 := List.mem_range.1 (List.mem_filter.1 hm).1
      exact ⟨by show I64 2; unfold I64; omega, by show I64 (m : Int); unfold I64; omega, by show I64 0; unfold I64; omega, by show k.length ≤ _; omega⟩
    · cases hk
theorem cl_cells {lo hi : Nat} {w : World} {v : Value} {X : List Cl.Clm} (h : SlS 4 lo hi w v (X.map cellsL)) :
    ∃ a cap, v = .slice a X.length cap ∧ X.length ≤ maxLen ∧ (X = [] ∨ ∃ b off, a = some ⟨b, off, none⟩ ∧ b < w.heap.size ∧ ∀ i (h : i < X.length), w.cell? ⟨b, off + i * 4, none⟩ = some (.int .i64 X[i].kind) ∧
      w.cell? ⟨b, off + i * 4 + 1, none⟩ = some (.int .i64 X[i].n) ∧ w.cell? ⟨b, off + i * 4 + 2, none⟩ = some (.int .i64 X[i].time) ∧ w.cell? ⟨b, off + i * 4 + 3, none⟩ = some (.string ⟨X[i].text.toArray⟩)) := by
  obtain ⟨a, cap, rfl, hm, h⟩ := h.open_
  rw [List.length_map] at hm
  refine ⟨a, cap, by rw [List.length_map], hm, ?_⟩
  rcases h with h | ⟨b, off, rfl, _, _, hb, hc⟩
  · exact Or.inl (List.map_eq_nil_iff.1 h)
  · refine Or.inr ⟨b, off, rfl, hb, fun i hi => ?_⟩
    have h2 := (hc i (by simpa using hi)).2
    simp only [List.getElem_map] at h2
    exact ⟨by rw [← Nat.add_zero (off + i * 4), h2 0 (by omega)]; rfl, by rw [h2 1 (by omega)]; rfl, by rw [h2 2 (by omega)]; rfl, by rw [h2 3 (by omega)]; rfl⟩
theorem any_succ (X : List Cl.Clm) (c : Cl.Clm) (i : Nat) (h : i < X.length) : (X.take (i + 1)).any (Cl.contra c) = ((X.take i).any (Cl.contra c) || Cl.contra c X[i]) := by
  rw [List.take_succ_eq_append_getElem h, List.any_append]; simp
/-- If the flag is set, the claim is wrong (shut, so that the walk leaves it alone). -/
def WrongIf (W : Bool) (l : List (List UInt8)) (gr : List Int) (c : Cl.Clm) : Prop := W = true → Cl.Wrong l gr c
theorem u8_of_wf {m : Int} (h : (Lit.int .u8 m).wf = true) : 0 ≤ m ∧ m ≤ 255 := by
  have := h
  simp [Lit.wf, IntKind.min, IntKind.max, IntKind.signed, IntKind.bits] at this
  omega
set_option maxHeartbeats 4000000 in
set_option maxRecDepth 100000 in
theorem truth_law (vl vg vk : Value) (l : List (List UInt8)) (gr : List Int) (ks : List (List UInt8)) (c : Cl.Clm) (w : World) (g : Gl w)
    (hl : Sl 0 w.heap.size w vl (l.map strV)) (hg : Sl 0 w.heap.size w vg (gr.map (Value.int .u8))) (hk : Sl 0 w.heap.size w vk (ks.map strV)) (hgz : ∀ x ∈ gr, 0 ≤ x ∧ x ≤ 255) (hkz : ∀ s ∈ ks, s.length ≤ 9223372036854775807) (hlz : ∀ s ∈ l, s.length ≤ 9223372036854775807) (ic : I64C c) :
    Calls Tryd.prog 7 #[vl, vg, vk, .agg #[.int .i64 c.kind, .int .i64 c.n, .int .i64 c.time, .string ⟨c.text.toArray⟩]] w fun e w' => e = .returned (.bool true) ∧ Nw w w' := by
  obtain ⟨al, capl, rfl, hml, hal⟩ := hl.open_
  obtain ⟨ag, capg, rfl, hmg, hag⟩ := hg.open_
  obtain ⟨ak, capk, rfl, hmk, hak⟩ := hk.open_
  rw [List.length_map] at hml hmg hmk hl hg hk
  unfold maxLen at hml hmg hmk
  have Hal := Lib.hid hal; clear hal
  have Hak := Lib.hid hak; clear hak
  have Hl := Lib.hid hl; clear hl
  have Hg := Lib.hid hg; clear hg
  have Hkz := Lib.hid hkz; clear hkz
  have Hlz := Lib.hid hlz; clear hlz
  have Hgz := Lib.hid hgz; clear hgz
  have kc := heap_new w (.cells #[.int .i64 c.kind, .int .i64 c.n, .int .i64 c.time, .string ⟨c.text.toArray⟩] tC)
  have u := nw_alloc w (.cells #[.int .i64 c.kind, .int .i64 c.n, .int .i64 c.time, .string ⟨c.text.toArray⟩] tC)
  have Kc := Lib.hid kc; clear kc
  rw [List.length_map, List.length_map, List.length_map]
  by_cases hbig : 8 < l.length ∨ 6 < gr.length ∨ 6 < ks.length
  · go_enter Tryd.func7, Tryd.ntmps7
    go_wp2_with fail
    (with_reducible refine (small_c _ (g.upd u)).mono ?_)
    rintro _ w1 ⟨rfl, u1⟩
    replace u := u.trans u1
    go_wp2_with fail
    all_goals first | (go_ret; exact ⟨rfl, u⟩) | (exfalso; omega)
  have hl8 : l.length ≤ 8 := by omega
  have hg6 : gr.length ≤ 6 := by omega
  have hk6 : ks.length ≤ 6 := by omega
  clear hbig
  go_enter Tryd.func7, Tryd.ntmps7
  go_wp2_with fail
  (with_reducible refine (small_c _ (g.upd u)).mono ?_)
  rintro _ w1 ⟨rfl, u1⟩
  have kc := u1.keep Kc.out
  replace Kc := Lib.hid kc; clear kc
  replace u := u.trans u1
  clear u1
  go_wp2_with fail
  go_loop [10] (fun i => ∃ k : Nat, k ≤ l.length ∧ i = .int .i64 k ∧ Hid (∀ j (h : j < l.length), j < k → l[j].length ≤ 100)) (fun i => l.length - (intOf i).toNat)
  case atStart => exact ⟨0, Nat.zero_le _, rfl, fun j _ h => by omega⟩
  case round =>
    obtain ⟨k, hk, rfl, hall⟩ := hrel
    by_cases hlt : k < l.length
    · rcases Hal.out with ⟨_, _, hnil⟩ | ⟨b, off, rfl, _, _, hbl, hcell⟩
      · rw [List.map_eq_nil_iff] at hnil; simp [hnil] at hlt
      · have c0 : w1.cell? ⟨b, off + k, none⟩ = some (.string ⟨l[k].toArray⟩) := by
          rw [(Nw.below u).cell hbl, hcell k (by simpa using hlt)]; simp [hlt, strV]
        have hxm := Hlz.out l[k] (List.getElem_mem hlt)
        clear hcell
        have hnext : l[k].length ≤ 100 → Hid (∀ j (h : j < l.length), j < k + 1 → l[j].length ≤ 100) := fun h100 j h hj => by
          by_cases e : j = k
          · subst e; exact h100
          · exact hall.out j h (by omega)
        generalize l[k] = x at *
        by_cases hx : x.length ≤ 100
        · go_wp2_with fail
          go_round
          case rel => exact ⟨k + 1, by omega, by go_num, hnext hx⟩
          case measure => simp [intOf]; omega
        · go_wp2_with fail
          go_ret
          exact ⟨rfl, u⟩
    · have hz100 : ∀ s ∈ l, s.length ≤ 100 := fun s hs => by
        obtain ⟨j, hj, rfl⟩ := List.mem_iff_getElem.1 hs
        exact hall.out j hj (by omega)
      have Hz100 := Lib.hid hz100; clear hz100 hall
      go_wp2_with fail
      (with_reducible refine (entries_c 0 w.heap.size _ l _ (g.upd u) (Hl.out.nw u) Hz100.out hl8).mono ?_)
      rintro _ w2 ⟨b, ve, rfl, hent, u2⟩
      have hs1 := lt_of_block Kc.out
      have kc := u2.keep Kc.out
      replace Kc := Lib.hid kc; clear kc
      replace u := u.trans u2
      cases b with
      | false =>
        clear hent
        go_wp2_with fail
        go_ret
        exact ⟨rfl, u⟩
      | true =>
      obtain ⟨hre, hown⟩ := hent rfl
      replace hown := owns_base hown hs1
      have Hre := Lib.hid hre; clear hre hent
      clear u2 hs1
      go_wp2_with fail
      (with_reducible refine (sizes_c 0 w.heap.size _ l.length _ _ gr _ (g.upd u) (Hg.out.nw u) Hgz.out hl8 hg6).mono ?_)
      rintro _ w3 ⟨vs, rfl, hows, u3⟩
      have hs1 := lt_of_block Kc.out
      have kc := u3.keep Kc.out
      replace Kc := Lib.hid kc; clear kc
      replace u := u.trans u3
      replace hown := owns_upd hown u3 (fun _ _ _ s => s)
      replace hows := owns_base hows hs1
      clear u3 hs1
      have hz2 := lt_of_block Kc.out
      go_wp2_with (at_builtin; refine wpList_cat rfl _ _ 38 rfl (w.heap.size + 1) (w.heap.size + 1) tC _ 4 40 Tryd.underlying38 infoC rfl (by decide) _ _ _ _ _ _ rfl hown rfl hows ?c1 ?c2 ?c3 hz2 ?_)
      case c1 => exact flatC_one _
      case c2 => unfold maxLen; omega
      case c3 => omega
      intro va w5 hown5 hgr hob
      have u5 : Nw w w5 := u.grown hgr (fun k hk => ⟨Or.inr (by have := (hob k hk).1; omega), by have := (hob k hk).1; have := g.big; omega⟩)
      have kc := grown_keep hgr Kc.out (fun e => by have := hob _ e; omega)
      replace Kc := Lib.hid kc; clear kc
      clear hgr hob u hown hows
      have hx0 : w5.ownsRow (w.heap.size + 1) tC 4 va (allTo l gr ks 0).length (flatC (allTo l gr ks 0)) := by
        rw [allTo_zero, List.length_append, Cl.entriesTo_len, Cl.sizesTo_len, flatC_app]
        exact hown5
      clear hown5
      have Hx0 := Lib.hid hx0; clear hx0
      have hsz5 := lt_of_block Kc.out
      go_wp2_with fail
      go_loopw [11, 13] (fun out i wr => ∃ j : Nat, j ≤ ks.length ∧ i = .int .i64 j ∧ Hid (wr.ownsRow (w.heap.size + 1) tC 4 out (allTo l gr ks j).length (flatC (allTo l gr ks j))) ∧ Nw w wr ∧ Hid (wr.heap[w.heap.size]? = some (.cells #[.int .i64 c.kind, .int .i64 c.n, .int .i64 c.time, .string ⟨c.text.toArray⟩] tC (0, 0)))) (fun _ i _ => ks.length - (intOf i).toNat)
      case atStart => exact ⟨0, Nat.zero_le _, rfl, Hx0, u5, Kc⟩
      case round =>
        clear Hx0 u5 Kc hsz5
        obtain ⟨j, hj, rfl, hown, u, Kc⟩ := hrel
        by_cases hlt : j < ks.length
        · rcases Hak.out with ⟨_, _, hnil⟩ | ⟨bk, offk, rfl, _, _, hbk, hck⟩
          · rw [List.map_eq_nil_iff] at hnil; simp [hnil] at hlt
          · have d0 : w.cell? ⟨bk, offk + j, none⟩ = some (.string ⟨ks[j].toArray⟩) := by
              rw [hck j (by simpa using hlt)]; simp [hlt, strV]
            have c0 := ((Nw.below u).cell (p := ⟨bk, offk + j, none⟩) hbk).trans d0
            have D0 := Lib.hid d0; clear d0
            have Hsucc := Lib.hid (allTo_succ l gr ks j hlt)
            have hlen := allTo_len l gr ks j hl8 hg6
            clear hck
            have hkey9 := Hkz.out ks[j] (List.getElem_mem hlt)
            generalize ks[j] = key at *
            generalize allTo l gr ks j = X at *
            by_cases hkey : key.length ≤ 100
            · have Hs1 : Hid (allTo l gr ks (j + 1) = X ++ Cl.absRow l key (l.length + 1)) := by show _ = _; rw [Hsucc.out, Cl.absKey, if_pos hkey]
              clear Hsucc
              go_wp2_with fail
              go_loopw [11, 14] (fun out nn wi => ∃ n : Nat, n ≤ l.length + 1 ∧ nn = .int .i64 n ∧ Hid (wi.ownsRow (w.heap.size + 1) tC 4 out (X ++ Cl.absRow l key n).length (flatC (X ++ Cl.absRow l key n))) ∧ Nw w wi ∧ Hid (wi.heap[w.heap.size]? = some (.cells #[.int .i64 c.kind, .int .i64 c.n, .int .i64 c.time, .string ⟨c.text.toArray⟩] tC (0, 0)))) (fun _ nn _ => l.length + 1 - (intOf nn).toNat)
              case atStart => exact ⟨0, Nat.zero_le _, rfl, by show World.ownsRow _ _ _ _ _ _ _; rw [show X ++ Cl.absRow l key 0 = X by simp [Cl.absRow]]; exact hown.out, u, Kc⟩
              case round =>
                clear hown u Kc c0
                obtain ⟨n, hn, rfl, hown, u, Kc⟩ := hrel
                have c0 := ((Nw.below u).cell (p := ⟨bk, offk + j, none⟩) hbk).trans D0.out
                have hsz5 := lt_of_block Kc.out
                by_cases hnl : n ≤ l.length
                · have Hrow := Lib.hid (Cl.absRow_succ l key n)
                  have hrl := Cl.absRow_len l key n
                  generalize Cl.absRow l key n = R at *
                  go_wp2_with fail
                  (with_reducible refine (absent_c 0 w.heap.size _ l n key _ (g.upd u) (Hl.out.nw u) Hz100.out hl8 (by omega)).mono ?_)
                  rintro _ w6 ⟨rfl, u6⟩
                  have kc := u6.keep Kc.out
                  replace Kc := Lib.hid kc; clear kc
                  have hown6 := owns_upd hown.out u6 (fun _ _ _ s => s)
                  replace u := u.trans u6
                  clear hown u6 c0
                  have c0 := ((Nw.below u).cell (p := ⟨bk, offk + j, none⟩) hbk).trans D0.out
                  cases hab : Cl.absentB l n key with
                  | false =>
                    rw [hab] at Hrow
                    clear hab
                    have Hown := Lib.hid hown6; clear hown6
                    go_wp2_with fail
                    go_roundw
                    case rel => exact ⟨n + 1, by omega, by go_num, by show World.ownsRow _ _ _ _ _ _ _; rw [Hrow.out]; simpa using Hown.out, u, Kc⟩
                    case measure => simp [intOf]; omega
                  | true =>
                    rw [hab] at Hrow
                    clear hab
                    have hz2 := lt_of_block Kc.out
                    go_wp2_with (at_builtin; refine wpList_app rfl _ _ 38 rfl (w.heap.size + 1) tC _ 4 40 Tryd.underlying38 infoC rfl (by decide) _ _ _ rfl hown6 (cellsL ⟨2, n, 0, key⟩) rfl rfl ?c1 ?c2 ?c3 hz2 ?_)
                    case c1 => intro u hu; simp only [cellsL, List.mem_cons, List.not_mem_nil, or_false] at hu; rcases hu with rfl | rfl | rfl | rfl <;> rfl
                    case c2 => unfold maxLen; rw [List.length_append]; omega
                    case c3 => rw [List.length_append]; omega
                    intro v' w7 hown7 hnw hgr hob
                    have u7 : Nw w w7 := (u.nw hnw).grown hgr (fun k hk => ⟨Or.inr (by have := (hob k hk).1; omega), by have := (hob k hk).1; have := g.big; omega⟩)
                    have kc := grown_keep hgr (hnw.keep Kc.out) (fun e => by have := hob _ e; omega)
                    replace Kc := Lib.hid kc; clear kc
                    have Hown := Lib.hid hown7
                    clear hgr hnw hob u hown6 hown7
                    go_wp2_with fail
                    go_roundw
                    case rel =>
                      refine ⟨n + 1, by omega, by go_num, ?_, u7, Kc⟩
                      show World.ownsRow _ _ _ _ _ _ _
                      rw [Hrow.out, if_pos (by simp), ← List.append_assoc, flatC_snoc, List.length_append, List.length_append, List.length_singleton]
                      exact Hown.out
                    case measure => simp [intOf]; omega
                · have hnn : n = l.length + 1 := by omega
                  subst hnn
                  rw [← Hs1.out] at hown
                  go_wp2_with fail
                  go_roundw
                  case rel => exact ⟨j + 1, by omega, by go_num, hown, u, Kc⟩
                  case measure => simp [intOf]; omega
            · have Hs1 : Hid (allTo l gr ks (j + 1) = X) := by show _ = _; rw [Hsucc.out, Cl.absKey, if_neg hkey, List.append_nil]
              clear Hsucc
              rw [← Hs1.out] at hown
              go_wp2_with fail
              go_loopw [11, 14] (fun out nn wi => nn = .int .i64 0 ∧ Hid (wi.ownsRow (w.heap.size + 1) tC 4 out (allTo l gr ks (j + 1)).length (flatC (allTo l gr ks (j + 1)))) ∧ Nw w wi ∧ Hid (wi.heap[w.heap.size]? = some (.cells #[.int .i64 c.kind, .int .i64 c.n, .int .i64 c.time, .string ⟨c.text.toArray⟩] tC (0, 0)))) (fun _ nn _ => 0)
              case atStart => exact ⟨rfl, hown, u, Kc⟩
              case round =>
                clear hown u Kc c0
                obtain ⟨rfl, hown, u, Kc⟩ := hrel
                have c0 := ((Nw.below u).cell (p := ⟨bk, offk + j, none⟩) hbk).trans D0.out
                go_wp2_with fail
                all_goals go_roundw
                case rel => exact ⟨j + 1, by omega, by go_num, hown, u, Kc⟩
                case measure => simp [intOf]; omega
        · have hjl : j = ks.length := by omega
          subst hjl
          have hsl : SlS 4 (w.heap.size + 1) wr.heap.size wr _ ((allTo l gr ks ks.length).map cellsL) := SlS.of_owns hown.out (by rw [List.length_map]) (by omega) (fun x hx => by obtain ⟨d, _, rfl⟩ := List.mem_map.1 hx; rfl)
          obtain ⟨aX, capX, rfl, hmX, hcX⟩ := cl_cells hsl
          clear hsl hown
          have hlen := allTo_len l gr ks ks.length hl8 hg6
          have hX : ∀ x ∈ allTo l gr ks ks.length, I64C x := fun x hx => all_i64 hl8 hg6 Hz100.out hx
          have hno : ∀ x ∈ allTo l gr ks ks.length, ∀ y ∈ allTo l gr ks ks.length, Cl.contra x y = false := fun x hx y hy => Cl.true_no (Cl.true_all hx) (Cl.true_all hy)
          have hbeat : Cl.right c = true → Cl.Wrong l gr c → (allTo l gr ks ks.length).any (Cl.contra c) = true := fun h1 h2 => by
            obtain ⟨a, ha, hb⟩ := Cl.wrong_beaten (keys := ks) h1 Hre.out hl8 hg6 h2
            exact List.any_eq_true.2 ⟨a, ha, hb⟩
          generalize allTo l gr ks ks.length = X at *
          have HX := Lib.hid hX; clear hX
          have Hno := Lib.hid hno; clear hno
          have Hbeat := Lib.hid hbeat; clear hbeat
          have HcX := Lib.hid hcX; clear hcX
          have hmX2 : X.length ≤ 1000 := by omega
          obtain ⟨wX, rfl⟩ : ∃ x, x = wr := ⟨_, rfl⟩
          clear hmX hlen
          go_wp2_with fail
          go_loopw [15, 16] (fun bt i wi => ∃ m : Nat, m ≤ X.length ∧ i = .int .i64 m ∧ bt = .bool ((X.take m).any (Cl.contra c)) ∧ Nw wX wi) (fun _ i _ => X.length - (intOf i).toNat)
          case atStart => exact ⟨0, Nat.zero_le _, rfl, rfl, Upd.refl _ _⟩
          case round =>
            obtain ⟨m, hm, rfl, rfl, ui⟩ := hrel
            by_cases hlt2 : m < X.length
            · rcases HcX.out with hnil | ⟨bx, ox, rfl, hbx, hcx⟩
              · simp [hnil] at hlt2
              have Hcx := Lib.hid hcx; clear hcx
              have Hany := Lib.hid (any_succ X c m hlt2)
              obtain ⟨p0, p1, p2, p3⟩ := Hcx.out m hlt2
              have P0 := Lib.hid p0
              have P1 := Lib.hid p1
              have P2 := Lib.hid p2
              have P3 := Lib.hid p3
              clear p0 p1 p2 p3
              have Ixm := HX.out X[m] (List.getElem_mem hlt2)
              have hnm := fun n (h : n < X.length) => Hno.out X[m] (List.getElem_mem hlt2) X[n] (List.getElem_mem h)
              have Hnm := Lib.hid hnm; clear hnm
              generalize (X.take m).any (Cl.contra c) = bt at *
              generalize X[m] = xm at *
              go_wp2_with fail
              go_loopw [17] (fun i wj => ∃ n : Nat, n ≤ m ∧ i = .int .i64 n ∧ Nw wX wj) (fun i _ => m - (intOf i).toNat)
              case atStart => exact ⟨0, Nat.zero_le _, rfl, ui⟩
              case round =>
                clear ui
                obtain ⟨n, hn, rfl, ui⟩ := hrel
                have q0 := ((Nw.below ui).cell (p := ⟨bx, ox + m * 4, none⟩) hbx).trans P0.out
                have q1 := ((Nw.below ui).cell (p := ⟨bx, ox + m * 4 + 1, none⟩) hbx).trans P1.out
                have q2 := ((Nw.below ui).cell (p := ⟨bx, ox + m * 4 + 2, none⟩) hbx).trans P2.out
                have q3 := ((Nw.below ui).cell (p := ⟨bx, ox + m * 4 + 3, none⟩) hbx).trans P3.out
                by_cases hnm : n < m
                · have hnx : n < X.length := by omega
                  obtain ⟨p0, p1, p2, p3⟩ := Hcx.out n hnx
                  have r0 := ((Nw.below ui).cell (p := ⟨bx, ox + n * 4, none⟩) hbx).trans p0
                  have r1 := ((Nw.below ui).cell (p := ⟨bx, ox + n * 4 + 1, none⟩) hbx).trans p1
                  have r2 := ((Nw.below ui).cell (p := ⟨bx, ox + n * 4 + 2, none⟩) hbx).trans p2
                  have r3 := ((Nw.below ui).cell (p := ⟨bx, ox + n * 4 + 3, none⟩) hbx).trans p3
                  clear p0 p1 p2 p3
                  have Hc0 := Lib.hid (Hnm.out n hnx)
                  have Ixn := HX.out X[n] (List.getElem_mem hnx)
                  generalize X[n] = xn at *
                  have q := contra_c xm xn _ _ (bs_list _) (bs_list _) Ixm Ixn
                  rw [Hc0.out] at q
                  have Q := Lib.hid q; clear q
                  have gi := (g.upd u).upd ui
                  have l0 := fun i : Later wr => later_cell i q0
                  have l1 := fun i : Later wr => later_cell i q1
                  have l2 := fun i : Later wr => later_cell i q2
                  have l3 := fun i : Later wr => later_cell i q3
                  have l4 := fun i : Later wr => later_cell i r0
                  have l5 := fun i : Later wr => later_cell i r1
                  have l6 := fun i : Later wr => later_cell i r2
                  have l7 := fun i : Later wr => later_cell i r3
                  go_wp2_with fail
                  refine wp_region_nw (by kernel_rfl) (by kernel_rfl) ?_
                  repeat (go_big_quiet_step ((go_at_call 17; exact later_call (Q.out _ (gi.upd (Later.nw _))))))
                  refine wpQuiet_nil ?_
                  intro w8 u8
                  replace u8 := later_out u8
                  replace ui := ui.trans u8
                  clear l0 l1 l2 l3 l4 l5 l6 l7 gi
                  clear q0 q1 q2 q3 r0 r1 r2 r3 u8
                  go_wp2_with fail
                  go_roundw
                  case rel => exact ⟨n + 1, by omega, by go_num, ui⟩
                  case measure => simp [intOf]; omega
                · cases bt with
                  | true =>
                    clear q0 q1 q2 q3
                    go_wp2_with fail
                    refine wp_region_nw (by kernel_rfl) (by kernel_rfl) ?_
                    repeat (go_big_quiet_step ((fail)))
                    refine wpQuiet_nil ?_
                    intro w8 u8
                    replace u8 := later_out u8
                    replace ui := ui.trans u8
                    go_wp2_with fail
                    go_roundw
                    case rel => exact ⟨m + 1, by omega, by go_num, by rw [Hany.out]; rfl, ui⟩
                    case measure => simp [intOf]; omega
                  | false =>
                    have kc := ui.keep Kc.out
                    obtain ⟨_, _, _, _⟩ := later_claim kc
                    clear kc
                    have q := contra_c c xm _ _ (bs_list _) (bs_list _) ic Ixm
                    generalize Cl.contra c xm = cb at *
                    have Q := Lib.hid q; clear q
                    have gi := (g.upd u).upd ui
                    have l0 := fun i : Later wr => later_cell i q0
                    have l1 := fun i : Later wr => later_cell i q1
                    have l2 := fun i : Later wr => later_cell i q2
                    have l3 := fun i : Later wr => later_cell i q3
                    go_wp2_with fail
                    refine wp_region_nw (by kernel_rfl) (by kernel_rfl) ?_
                    repeat (go_big_quiet_step ((go_at_call 17; exact later_call (Q.out _ (gi.upd (Later.nw _))))))
                    refine wpQuiet_nil ?_
                    intro w8 u8
                    replace u8 := later_out u8
                    replace ui := ui.trans u8
                    clear q0 q1 q2 q3 u8 l0 l1 l2 l3 gi
                    go_wp2_with fail
                    go_roundw
                    case rel => exact ⟨m + 1, by omega, by go_num, by rw [Hany.out]; rfl, ui⟩
                    case measure => simp [intOf]; omega
            · have hmx : m = X.length := by omega
              subst hmx
              rw [List.take_length]
              have kc := ui.keep Kc.out
              obtain ⟨_, _, _, _⟩ := one_claim kc
              clear kc
              have hnr : Cl.right c = false → X.any (Cl.contra c) = false := fun h => by
                rw [List.any_eq_false]
                intro x _
                rw [Cl.not_right_no h]
                simp
              have Hnr := Lib.hid hnr; clear hnr
              generalize X.any (Cl.contra c) = beaten at *
              go_wp2_with fail
              (with_reducible refine (right_c c _ (bs_list _) ic _ ((g.upd u).upd ui)).mono ?_)
              rintro _ w8 ⟨rfl, u8⟩
              replace ui := ui.trans u8
              replace u := u.trans ui
              have kc := Nw.keep ui Kc.out
              replace Kc := Lib.hid kc
              clear kc u8 ui HcX Hno HX
              cases hr : Cl.right c with
              | false =>
                have hb := Hnr.out hr
                subst hb
                have Hr := Lib.hid hr; clear hr
                go_wp2_with fail
                go_ret
                exact ⟨rfl, u⟩
              | true =>
              have hrb := Cl.right_bounds hr
              have hbt := Hbeat.out hr
              have Hbt := Lib.hid hbt; clear hbt
              have Hr := Lib.hid hr; clear hr
              clear Hbeat Hnr Hre
              obtain ⟨ck, cz, ct, cx⟩ := c
              dsimp only at hrb ic
              obtain ⟨_, _, hc0, hc1, _, _, _⟩ := hrb
              obtain ⟨n, rfl⟩ := Int.eq_ofNat_of_zero_le hc0
              obtain ⟨wY, rfl⟩ : ∃ x, x = w8 := ⟨_, rfl⟩
              have kc := Kc.out
              dsimp only at kc
              obtain ⟨_, _, _, _⟩ := one_claim kc
              by_cases hk2 : ck = 2
              · subst hk2
                by_cases hnl : n ≤ l.length
                · go_wp2_with fail
                  (with_reducible refine (absent_c 0 w.heap.size _ l n cx _ (g.upd u) (Hl.out.nw u) Hz100.out hl8 (by omega)).mono ?_)
                  rintro _ w9 ⟨rfl, u9⟩
                  have kc := Nw.keep u9 Kc.out
                  replace Kc := Lib.hid kc
                  replace u := u.trans u9
                  clear u9
                  have HW : WrongIf (!Cl.absentB l n cx) l gr ⟨2, n, ct, cx⟩ := fun h => Or.inl ⟨rfl, by show (n : Int) ≤ _; omega, by simpa using h⟩
                  generalize Cl.absentB l n cx = ab at *
                  go_wp2_with fail
                  generalize (!ab) = W at *
                  go_loopw [18, 19] (fun wg i wi => ∃ (j : Nat) (W : Bool), j ≤ l.length ∧ i = .int .i64 j ∧ wg = .bool W ∧ WrongIf W l gr ⟨(2 : Int), n, ct, cx⟩ ∧ Nw w9 wi) (fun _ i _ => l.length - (intOf i).toNat)
                  case atStart => exact ⟨0, _, Nat.zero_le _, rfl, rfl, HW, Upd.refl _ _⟩
                  case round =>
                    clear HW
                    obtain ⟨j, W, hj, rfl, rfl, HW, ui⟩ := hrel
                    have kc := Nw.keep ui Kc.out
                    by_cases hlt : j < l.length
                    · rcases Hal.out with ⟨_, _, hnil⟩ | ⟨bl, ol, rfl, _, _, hbl, hcell⟩
                      · rw [List.map_eq_nil_iff] at hnil; simp [hnil] at hlt
                      have uj := Nw.trans u ui
                      have d1 : wr.cell? ⟨bl, ol + j, none⟩ = some (.string ⟨l[j].toArray⟩) := by
                        rw [(Nw.below uj).cell (p := ⟨bl, ol + j, none⟩) hbl, hcell j (by simpa using hlt)]; simp [hlt, strV]
                      clear hcell uj
                      obtain ⟨m0, m1, m2, m3⟩ := later_claim kc
                      have m4 := fun i : Later wr => later_cell i d1
                      obtain ⟨_, _, _, _⟩ := one_claim kc
                      clear kc
                      cases W with
                      | true =>
                        go_wp2_with fail
                        refine wp_region_nw (by kernel_rfl) (by kernel_rfl) ?_
                        repeat (go_big_quiet_step ((fail)))
                        refine wpQuiet_nil ?_
                        intro wz uz
                        replace uz := later_out uz
                        replace ui := ui.trans uz
                        go_wp2_with fail
                        go_roundw
                        case rel => exact ⟨j + 1, _, by omega, by go_num, rfl, HW, ui⟩
                        case measure => simp [intOf]; omega
                      | false =>
                        by_cases hk0 : (2 : Int) = 0
                        · have hkb : ((2 : Int) == 0) = true := beq_iff_eq.2 hk0
                          by_cases hnj : n = j
                          · have hW2 : ¬ cx = l[j] → WrongIf true l gr ⟨(2 : Int), n, ct, cx⟩ := fun h _ => Or.inr (Or.inl ⟨j, hlt, hk0, by show (n : Int) = _; rw [hnj], h⟩)
                            have hb1 : (n == j) = true := beq_iff_eq.2 hnj
                            have hb2 : ((n : Int) == (j : Int)) = true := beq_iff_eq.2 (by omega)
                            clear hnj hk0
                            generalize l[j] = lj at *
                            by_cases hx : cx = lj
                            · have hb3 : (cx == lj) = true := beq_iff_eq.2 hx
                              clear hW2 hx
                              go_wp2_with fail
                              refine wp_region_nw (by kernel_rfl) (by kernel_rfl) ?_
                              repeat (go_big_quiet_step ((fail)))
                              refine wpQuiet_nil ?_
                              intro wz uz
                              replace uz := later_out uz
                              replace ui := ui.trans uz
                              go_wp2_with fail
                              go_roundw
                              case rel => exact ⟨j + 1, _, by omega, by go_num, rfl, HW, ui⟩
                              case measure => simp [intOf]; omega
                            · have hb3 : (cx == lj) = false := beq_eq_false_iff_ne.2 hx
                              replace HW := hW2 hx
                              clear hW2
                              go_wp2_with fail
                              refine wp_region_nw (by kernel_rfl) (by kernel_rfl) ?_
                              repeat (go_big_quiet_step ((fail)))
                              refine wpQuiet_nil ?_
                              intro wz uz
                              replace uz := later_out uz
                              replace ui := ui.trans uz
                              go_wp2_with fail
                              go_roundw
                              case rel => exact ⟨j + 1, _, by omega, by go_num, rfl, HW, ui⟩
                              case measure => simp [intOf]; omega
                          · clear hk0
                            have hb1 : (n == j) = false := beq_eq_false_iff_ne.2 hnj
                            have hb2 : ((n : Int) == (j : Int)) = false := beq_eq_false_iff_ne.2 (by omega)
                            go_wp2_with fail
                            refine wp_region_nw (by kernel_rfl) (by kernel_rfl) ?_
                            repeat (go_big_quiet_step ((fail)))
                            refine wpQuiet_nil ?_
                            intro wz uz
                            replace uz := later_out uz
                            replace ui := ui.trans uz
                            go_wp2_with fail
                            go_roundw
                            case rel => exact ⟨j + 1, _, by omega, by go_num, rfl, HW, ui⟩
                            case measure => simp [intOf]; omega
                        · have hkb : ((2 : Int) == 0) = false := beq_eq_false_iff_ne.2 hk0
                          go_wp2_with fail
                          refine wp_region_nw (by kernel_rfl) (by kernel_rfl) ?_
                          repeat (go_big_quiet_step ((fail)))
                          refine wpQuiet_nil ?_
                          intro wz uz
                          replace uz := later_out uz
                          replace ui := ui.trans uz
                          go_wp2_with fail
                          go_roundw
                          case rel => exact ⟨j + 1, _, by omega, by go_num, rfl, HW, ui⟩
                          case measure => simp [intOf]; omega
                    · clear kc
                      have uj := Nw.trans u ui
                      go_wp2_with fail
                      (with_reducible refine (sizes_c 0 w.heap.size _ l.length _ _ gr _ (g.upd uj) (Hg.out.nw uj) Hgz.out hl8 hg6).mono ?_)
                      rintro _ wS ⟨vS, rfl, hS, uS⟩
                      have kc := Nw.keep uS (Nw.keep ui Kc.out)
                      replace Kc := Lib.hid kc
                      replace u := Nw.trans uj uS
                      clear uS ui kc uj
                      have hSl : SlS 4 wr.heap.size wS.heap.size wS vS ((Cl.sizesTo l.length gr gr.length).map cellsL) := SlS.of_owns hS (by rw [List.length_map, Cl.sizesTo_len]) (by omega) (fun x hx => by obtain ⟨d, _, rfl⟩ := List.mem_map.1 hx; rfl)
                      obtain ⟨aS, capS, rfl, hmS, hcS⟩ := cl_cells hSl
                      have HcS := Lib.hid hcS
                      clear hS hSl hmS hcS
                      rw [Cl.sizesTo_len]
                      go_wp2_with fail
                      obtain ⟨wR, rfl⟩ : ∃ x, x = wS := ⟨_, rfl⟩
                      go_loopw [18, 21] (fun wg i wi => ∃ (j : Nat) (W : Bool), j ≤ gr.length ∧ i = .int .i64 j ∧ wg = .bool W ∧ WrongIf W l gr ⟨(2 : Int), n, ct, cx⟩ ∧ Nw wR wi) (fun _ i _ => gr.length - (intOf i).toNat)
                      case atStart => exact ⟨0, _, Nat.zero_le _, rfl, rfl, HW, Upd.refl _ _⟩
                      case round =>
                        clear HW
                        obtain ⟨j, W, hj, rfl, rfl, HW, ui⟩ := hrel
                        have kc := Nw.keep ui Kc.out
                        by_cases hlt : j < gr.length
                        · rcases HcS.out with hnil | ⟨bS, oS, rfl, hbS, hcell⟩
                          · have := congrArg List.length hnil
                            rw [Cl.sizesTo_len, List.length_nil] at this
                            omega
                          have hc9 := hcell j (by rw [Cl.sizesTo_len]; exact hlt)
                          have hel : (Cl.sizesTo l.length gr gr.length)[j]'(by rw [Cl.sizesTo_len]; exact hlt) = Cl.sizeC l.length gr j := by simp [Cl.sizesTo]
                          rw [hel] at hc9
                          obtain ⟨_, d1, d2, _⟩ := hc9
                          replace d1 : wR.cell? ⟨bS, oS + j * 4 + 1, none⟩ = some (.int .i64 (Cl.szN l.length gr (j + 1) : Nat)) := d1
                          replace d2 : wR.cell? ⟨bS, oS + j * 4 + 2, none⟩ = some (.int .i64 (10 * (j : Int))) := d2
                          have e1 := ((Nw.below ui).cell (p := ⟨bS, oS + j * 4 + 1, none⟩) hbS).trans d1
                          have e2 := ((Nw.below ui).cell (p := ⟨bS, oS + j * 4 + 2, none⟩) hbS).trans d2
                          clear hcell hel d1 d2
                          have m4 := fun i : Later wr => later_cell i e1
                          have m5 := fun i : Later wr => later_cell i e2
                          obtain ⟨m0, m1, m2, m3⟩ := later_claim kc
                          obtain ⟨_, _, _, _⟩ := one_claim kc
                          clear kc
                          cases W with
                          | true =>
                            go_wp2_with fail
                            refine wp_region_nw (by kernel_rfl) (by kernel_rfl) ?_
                            repeat (go_big_quiet_step ((fail)))
                            refine wpQuiet_nil ?_
                            intro wz uz
                            replace uz := later_out uz
                            replace ui := ui.trans uz
                            go_wp2_with fail
                            go_roundw
                            case rel => exact ⟨j + 1, _, by omega, by go_num, rfl, HW, ui⟩
                            case measure => simp [intOf]; omega
                          | false =>
                            by_cases hk0 : (2 : Int) = 1
                            · have hkb : ((2 : Int) == 1) = true := beq_iff_eq.2 hk0
                              by_cases hnj : ct = 10 * (j : Int)
                              · have hW2 : ¬ (n : Int) = (Cl.szN l.length gr (j + 1) : Nat) → WrongIf true l gr ⟨(2 : Int), n, ct, cx⟩ := fun h _ => Or.inr (Or.inr ⟨j, hlt, hk0, hnj, h⟩)
                                have hb1 : (ct == 10 * (j : Int)) = true := beq_iff_eq.2 hnj
                                clear hnj hk0
                                generalize Cl.szN l.length gr (j + 1) = N at *
                                replace HW : WrongIf ((n : Int) != (N : Int)) l gr ⟨(2 : Int), n, ct, cx⟩ := fun h => hW2 (bne_iff_ne.1 h) rfl
                                clear hW2
                                go_wp2_with fail
                                refine wp_region_nw (by kernel_rfl) (by kernel_rfl) ?_
                                repeat (go_big_quiet_step ((fail)))
                                refine wpQuiet_nil ?_
                                intro wz uz
                                replace uz := later_out uz
                                replace ui := ui.trans uz
                                go_wp2_with fail
                                go_roundw
                                case rel => exact ⟨j + 1, _, by omega, by go_num, rfl, HW, ui⟩
                                case measure => simp [intOf]; omega
                              · clear hk0
                                have hb1 : (ct == 10 * (j : Int)) = false := beq_eq_false_iff_ne.2 hnj
                                go_wp2_with fail
                                refine wp_region_nw (by kernel_rfl) (by kernel_rfl) ?_
                                repeat (go_big_quiet_step ((fail)))
                                refine wpQuiet_nil ?_
                                intro wz uz
                                replace uz := later_out uz
                                replace ui := ui.trans uz
                                go_wp2_with fail
                                go_roundw
                                case rel => exact ⟨j + 1, _, by omega, by go_num, rfl, HW, ui⟩
                                case measure => simp [intOf]; omega
                            · have hkb : ((2 : Int) == 1) = false := beq_eq_false_iff_ne.2 hk0
                              go_wp2_with fail
                              refine wp_region_nw (by kernel_rfl) (by kernel_rfl) ?_
                              repeat (go_big_quiet_step ((fail)))
                              refine wpQuiet_nil ?_
                              intro wz uz
                              replace uz := later_out uz
                              replace ui := ui.trans uz
                              go_wp2_with fail
                              go_roundw
                              case rel => exact ⟨j + 1, _, by omega, by go_num, rfl, HW, ui⟩
                              case measure => simp [intOf]; omega
                        · clear kc
                          cases W with
                          | false =>
                            go_wp2_with fail
                            go_ret
                            exact ⟨rfl, Nw.trans u ui⟩
                          | true =>
                            have hbb := Hbt.out (HW rfl)
                            subst hbb
                            go_wp2_with fail
                            go_ret
                            exact ⟨rfl, Nw.trans u ui⟩
                · have HW : WrongIf false l gr ⟨2, n, ct, cx⟩ := fun h => by cases h
                  obtain ⟨w9, rfl⟩ : ∃ x, x = wY := ⟨_, rfl⟩
                  go_wp2_with fail
                  go_loopw [18, 19] (fun wg i wi => ∃ (j : Nat) (W : Bool), j ≤ l.length ∧ i = .int .i64 j ∧ wg = .bool W ∧ WrongIf W l gr ⟨(2 : Int), n, ct, cx⟩ ∧ Nw w9 wi) (fun _ i _ => l.length - (intOf i).toNat)
                  case atStart => exact ⟨0, _, Nat.zero_le _, rfl, rfl, HW, Upd.refl _ _⟩
                  case round =>
                    clear HW
                    obtain ⟨j, W, hj, rfl, rfl, HW, ui⟩ := hrel
                    have kc := Nw.keep ui Kc.out
                    by_cases hlt : j < l.length
                    · rcases Hal.out with ⟨_, _, hnil⟩ | ⟨bl, ol, rfl, _, _, hbl, hcell⟩
                      · rw [List.map_eq_nil_iff] at hnil; simp [hnil] at hlt
                      have uj := Nw.trans u ui
                      have d1 : wr.cell? ⟨bl, ol + j, none⟩ = some (.string ⟨l[j].toArray⟩) := by
                        rw [(Nw.below uj).cell (p := ⟨bl, ol + j, none⟩) hbl, hcell j (by simpa using hlt)]; simp [hlt, strV]
                      clear hcell uj
                      obtain ⟨m0, m1, m2, m3⟩ := later_claim kc
                      have m4 := fun i : Later wr => later_cell i d1
                      obtain ⟨_, _, _, _⟩ := one_claim kc
                      clear kc
                      cases W with
                      | true =>
                        go_wp2_with fail
                        refine wp_region_nw (by kernel_rfl) (by kernel_rfl) ?_
                        repeat (go_big_quiet_step ((fail)))
                        refine wpQuiet_nil ?_
                        intro wz uz
                        replace uz := later_out uz
                        replace ui := ui.trans uz
                        go_wp2_with fail
                        go_roundw
                        case rel => exact ⟨j + 1, _, by omega, by go_num, rfl, HW, ui⟩
                        case measure => simp [intOf]; omega
                      | false =>
                        by_cases hk0 : (2 : Int) = 0
                        · have hkb : ((2 : Int) == 0) = true := beq_iff_eq.2 hk0
                          by_cases hnj : n = j
                          · have hW2 : ¬ cx = l[j] → WrongIf true l gr ⟨(2 : Int), n, ct, cx⟩ := fun h _ => Or.inr (Or.inl ⟨j, hlt, hk0, by show (n : Int) = _; rw [hnj], h⟩)
                            have hb1 : (n == j) = true := beq_iff_eq.2 hnj
                            have hb2 : ((n : Int) == (j : Int)) = true := beq_iff_eq.2 (by omega)
                            clear hnj hk0
                            generalize l[j] = lj at *
                            by_cases hx : cx = lj
                            · have hb3 : (cx == lj) = true := beq_iff_eq.2 hx
                              clear hW2 hx
                              go_wp2_with fail
                              refine wp_region_nw (by kernel_rfl) (by kernel_rfl) ?_
                              repeat (go_big_quiet_step ((fail)))
                              refine wpQuiet_nil ?_
                              intro wz uz
                              replace uz := later_out uz
                              replace ui := ui.trans uz
                              go_wp2_with fail
                              go_roundw
                              case rel => exact ⟨j + 1, _, by omega, by go_num, rfl, HW, ui⟩
                              case measure => simp [intOf]; omega
                            · have hb3 : (cx == lj) = false := beq_eq_false_iff_ne.2 hx
                              replace HW := hW2 hx
                              clear hW2
                              go_wp2_with fail
                              refine wp_region_nw (by kernel_rfl) (by kernel_rfl) ?_
                              repeat (go_big_quiet_step ((fail)))
                              refine wpQuiet_nil ?_
                              intro wz uz
                              replace uz := later_out uz
                              replace ui := ui.trans uz
                              go_wp2_with fail
                              go_roundw
                              case rel => exact ⟨j + 1, _, by omega, by go_num, rfl, HW, ui⟩
                              case measure => simp [intOf]; omega
                          · clear hk0
                            have hb1 : (n == j) = false := beq_eq_false_iff_ne.2 hnj
                            have hb2 : ((n : Int) == (j : Int)) = false := beq_eq_false_iff_ne.2 (by omega)
                            go_wp2_with fail
                            refine wp_region_nw (by kernel_rfl) (by kernel_rfl) ?_
                            repeat (go_big_quiet_step ((fail)))
                            refine wpQuiet_nil ?_
                            intro wz uz
                            replace uz := later_out uz
                            replace ui := ui.trans uz
                            go_wp2_with fail
                            go_roundw
                            case rel => exact ⟨j + 1, _, by omega, by go_num, rfl, HW, ui⟩
                            case measure => simp [intOf]; omega
                        · have hkb : ((2 : Int) == 0) = false := beq_eq_false_iff_ne.2 hk0
                          go_wp2_with fail
                          refine wp_region_nw (by kernel_rfl) (by kernel_rfl) ?_
                          repeat (go_big_quiet_step ((fail)))
                          refine wpQuiet_nil ?_
                          intro wz uz
                          replace uz := later_out uz
                          replace ui := ui.trans uz
                          go_wp2_with fail
                          go_roundw
                          case rel => exact ⟨j + 1, _, by omega, by go_num, rfl, HW, ui⟩
                          case measure => simp [intOf]; omega
                    · clear kc
                      have uj := Nw.trans u ui
                      go_wp2_with fail
                      (with_reducible refine (sizes_c 0 w.heap.size _ l.length _ _ gr _ (g.upd uj) (Hg.out.nw uj) Hgz.out hl8 hg6).mono ?_)
                      rintro _ wS ⟨vS, rfl, hS, uS⟩
                      have kc := Nw.keep uS (Nw.keep ui Kc.out)
                      replace Kc := Lib.hid kc
                      replace u := Nw.trans uj uS
                      clear uS ui kc uj
                      have hSl : SlS 4 wr.heap.size wS.heap.size wS vS ((Cl.sizesTo l.length gr gr.length).map cellsL) := SlS.of_owns hS (by rw [List.length_map, Cl.sizesTo_len]) (by omega) (fun x hx => by obtain ⟨d, _, rfl⟩ := List.mem_map.1 hx; rfl)
                      obtain ⟨aS, capS, rfl, hmS, hcS⟩ := cl_cells hSl
                      have HcS := Lib.hid hcS
                      clear hS hSl hmS hcS
                      rw [Cl.sizesTo_len]
                      go_wp2_with fail
                      obtain ⟨wR, rfl⟩ : ∃ x, x = wS := ⟨_, rfl⟩
                      go_loopw [18, 21] (fun wg i wi => ∃ (j : Nat) (W : Bool), j ≤ gr.length ∧ i = .int .i64 j ∧ wg = .bool W ∧ WrongIf W l gr ⟨(2 : Int), n, ct, cx⟩ ∧ Nw wR wi) (fun _ i _ => gr.length - (intOf i).toNat)
                      case atStart => exact ⟨0, _, Nat.zero_le _, rfl, rfl, HW, Upd.refl _ _⟩
                      case round =>
                        clear HW
                        obtain ⟨j, W, hj, rfl, rfl, HW, ui⟩ := hrel
                        have kc := Nw.keep ui Kc.out
                        by_cases hlt : j < gr.length
                        · rcases HcS.out with hnil | ⟨bS, oS, rfl, hbS, hcell⟩
                          · have := congrArg List.length hnil
                            rw [Cl.sizesTo_len, List.length_nil] at this
                            omega
                          have hc9 := hcell j (by rw [Cl.sizesTo_len]; exact hlt)
                          have hel : (Cl.sizesTo l.length gr gr.length)[j]'(by rw [Cl.sizesTo_len]; exact hlt) = Cl.sizeC l.length gr j := by simp [Cl.sizesTo]
                          rw [hel] at hc9
                          obtain ⟨_, d1, d2, _⟩ := hc9
                          replace d1 : wR.cell? ⟨bS, oS + j * 4 + 1, none⟩ = some (.int .i64 (Cl.szN l.length gr (j + 1) : Nat)) := d1
                          replace d2 : wR.cell? ⟨bS, oS + j * 4 + 2, none⟩ = some (.int .i64 (10 * (j : Int))) := d2
                          have e1 := ((Nw.below ui).cell (p := ⟨bS, oS + j * 4 + 1, none⟩) hbS).trans d1
                          have e2 := ((Nw.below ui).cell (p := ⟨bS, oS + j * 4 + 2, none⟩) hbS).trans d2
                          clear hcell hel d1 d2
                          have m4 := fun i : Later wr => later_cell i e1
                          have m5 := fun i : Later wr => later_cell i e2
                          obtain ⟨m0, m1, m2, m3⟩ := later_claim kc
                          obtain ⟨_, _, _, _⟩ := one_claim kc
                          clear kc
                          cases W with
                          | true =>
                            go_wp2_with fail
                            refine wp_region_nw (by kernel_rfl) (by kernel_rfl) ?_
                            repeat (go_big_quiet_step ((fail)))
                            refine wpQuiet_nil ?_
                            intro wz uz
                            replace uz := later_out uz
                            replace ui := ui.trans uz
                            go_wp2_with fail
                            go_roundw
                            case rel => exact ⟨j + 1, _, by omega, by go_num, rfl, HW, ui⟩
                            case measure => simp [intOf]; omega
                          | false =>
                            by_cases hk0 : (2 : Int) = 1
                            · have hkb : ((2 : Int) == 1) = true := beq_iff_eq.2 hk0
                              by_cases hnj : ct = 10 * (j : Int)
                              · have hW2 : ¬ (n : Int) = (Cl.szN l.length gr (j + 1) : Nat) → WrongIf true l gr ⟨(2 : Int), n, ct, cx⟩ := fun h _ => Or.inr (Or.inr ⟨j, hlt, hk0, hnj, h⟩)
                                have hb1 : (ct == 10 * (j : Int)) = true := beq_iff_eq.2 hnj
                                clear hnj hk0
                                generalize Cl.szN l.length gr (j + 1) = N at *
                                replace HW : WrongIf ((n : Int) != (N : Int)) l gr ⟨(2 : Int), n, ct, cx⟩ := fun h => hW2 (bne_iff_ne.1 h) rfl
                                clear hW2
                                go_wp2_with fail
                                refine wp_region_nw (by kernel_rfl) (by kernel_rfl) ?_
                                repeat (go_big_quiet_step ((fail)))
                                refine wpQuiet_nil ?_
                                intro wz uz
                                replace uz := later_out uz
                                replace ui := ui.trans uz
                                go_wp2_with fail
                                go_roundw
                                case rel => exact ⟨j + 1, _, by omega, by go_num, rfl, HW, ui⟩
                                case measure => simp [intOf]; omega
                              · clear hk0
                                have hb1 : (ct == 10 * (j : Int)) = false := beq_eq_false_iff_ne.2 hnj
                                go_wp2_with fail
                                refine wp_region_nw (by kernel_rfl) (by kernel_rfl) ?_
                                repeat (go_big_quiet_step ((fail)))
                                refine wpQuiet_nil ?_
                                intro wz uz
                                replace uz := later_out uz
                                replace ui := ui.trans uz
                                go_wp2_with fail
                                go_roundw
                                case rel => exact ⟨j + 1, _, by omega, by go_num, rfl, HW, ui⟩
                                case measure => simp [intOf]; omega
                            · have hkb : ((2 : Int) == 1) = false := beq_eq_false_iff_ne.2 hk0
                              go_wp2_with fail
                              refine wp_region_nw (by kernel_rfl) (by kernel_rfl) ?_
                              repeat (go_big_quiet_step ((fail)))
                              refine wpQuiet_nil ?_
                              intro wz uz
                              replace uz := later_out uz
                              replace ui := ui.trans uz
                              go_wp2_with fail
                              go_roundw
                              case rel => exact ⟨j + 1, _, by omega, by go_num, rfl, HW, ui⟩
                              case measure => simp [intOf]; omega
                        · clear kc
                          cases W with
                          | false =>
                            go_wp2_with fail
                            go_ret
                            exact ⟨rfl, Nw.trans u ui⟩
                          | true =>
                            have hbb := Hbt.out (HW rfl)
                            subst hbb
                            go_wp2_with fail
                            go_ret
                            exact ⟨rfl, Nw.trans u ui⟩
              · have HW : WrongIf false l gr ⟨ck, n, ct, cx⟩ := fun h => by cases h
                obtain ⟨w9, rfl⟩ : ∃ x, x = wY := ⟨_, rfl⟩
                go_wp2_with fail
                go_loopw [18, 19] (fun wg i wi => ∃ (j : Nat) (W : Bool), j ≤ l.length ∧ i = .int .i64 j ∧ wg = .bool W ∧ WrongIf W l gr ⟨ck, n, ct, cx⟩ ∧ Nw w9 wi) (fun _ i _ => l.length - (intOf i).toNat)
                case atStart => exact ⟨0, _, Nat.zero_le _, rfl, rfl, HW, Upd.refl _ _⟩
                case round =>
                  clear HW
                  obtain ⟨j, W, hj, rfl, rfl, HW, ui⟩ := hrel
                  have kc := Nw.keep ui Kc.out
                  by_cases hlt : j < l.length
                  · rcases Hal.out with ⟨_, _, hnil⟩ | ⟨bl, ol, rfl, _, _, hbl, hcell⟩
                    · rw [List.map_eq_nil_iff] at hnil; simp [hnil] at hlt
                    have uj := Nw.trans u ui
                    have d1 : wr.cell? ⟨bl, ol + j, none⟩ = some (.string ⟨l[j].toArray⟩) := by
                      rw [(Nw.below uj).cell (p := ⟨bl, ol + j, none⟩) hbl, hcell j (by simpa using hlt)]; simp [hlt, strV]
                    clear hcell uj
                    obtain ⟨m0, m1, m2, m3⟩ := later_claim kc
                    have m4 := fun i : Later wr => later_cell i d1
                    obtain ⟨_, _, _, _⟩ := one_claim kc
                    clear kc
                    cases W with
                    | true =>
                      go_wp2_with fail
                      refine wp_region_nw (by kernel_rfl) (by kernel_rfl) ?_
                      repeat (go_big_quiet_step ((fail)))
                      refine wpQuiet_nil ?_
                      intro wz uz
                      replace uz := later_out uz
                      replace ui := ui.trans uz
                      go_wp2_with fail
                      go_roundw
                      case rel => exact ⟨j + 1, _, by omega, by go_num, rfl, HW, ui⟩
                      case measure => simp [intOf]; omega
                    | false =>
                      by_cases hk0 : ck = 0
                      · have hkb : (ck == 0) = true := beq_iff_eq.2 hk0
                        by_cases hnj : n = j
                        · have hW2 : ¬ cx = l[j] → WrongIf true l gr ⟨ck, n, ct, cx⟩ := fun h _ => Or.inr (Or.inl ⟨j, hlt, hk0, by show (n : Int) = _; rw [hnj], h⟩)
                          have hb1 : (n == j) = true := beq_iff_eq.2 hnj
                          have hb2 : ((n : Int) == (j : Int)) = true := beq_iff_eq.2 (by omega)
                          clear hnj hk0
                          generalize l[j] = lj at *
                          by_cases hx : cx = lj
                          · have hb3 : (cx == lj) = true := beq_iff_eq.2 hx
                            clear hW2 hx
                            go_wp2_with fail
                            refine wp_region_nw (by kernel_rfl) (by kernel_rfl) ?_
                            repeat (go_big_quiet_step ((fail)))
                            refine wpQuiet_nil ?_
                            intro wz uz
                            replace uz := later_out uz
                            replace ui := ui.trans uz
                            go_wp2_with fail
                            go_roundw
                            case rel => exact ⟨j + 1, _, by omega, by go_num, rfl, HW, ui⟩
                            case measure => simp [intOf]; omega
                          · have hb3 : (cx == lj) = false := beq_eq_false_iff_ne.2 hx
                            replace HW := hW2 hx
                            clear hW2
                            go_wp2_with fail
                            refine wp_region_nw (by kernel_rfl) (by kernel_rfl) ?_
                            repeat (go_big_quiet_step ((fail)))
                            refine wpQuiet_nil ?_
                            intro wz uz
                            replace uz := later_out uz
                            replace ui := ui.trans uz
                            go_wp2_with fail
                            go_roundw
                            case rel => exact ⟨j + 1, _, by omega, by go_num, rfl, HW, ui⟩
                            case measure => simp [intOf]; omega
                        · clear hk0
                          have hb1 : (n == j) = false := beq_eq_false_iff_ne.2 hnj
                          have hb2 : ((n : Int) == (j : Int)) = false := beq_eq_false_iff_ne.2 (by omega)
                          go_wp2_with fail
                          refine wp_region_nw (by kernel_rfl) (by kernel_rfl) ?_
                          repeat (go_big_quiet_step ((fail)))
                          refine wpQuiet_nil ?_
                          intro wz uz
                          replace uz := later_out uz
                          replace ui := ui.trans uz
                          go_wp2_with fail
                          go_roundw
                          case rel => exact ⟨j + 1, _, by omega, by go_num, rfl, HW, ui⟩
                          case measure => simp [intOf]; omega
                      · have hkb : (ck == 0) = false := beq_eq_false_iff_ne.2 hk0
                        go_wp2_with fail
                        refine wp_region_nw (by kernel_rfl) (by kernel_rfl) ?_
                        repeat (go_big_quiet_step ((fail)))
                        refine wpQuiet_nil ?_
                        intro wz uz
                        replace uz := later_out uz
                        replace ui := ui.trans uz
                        go_wp2_with fail
                        go_roundw
                        case rel => exact ⟨j + 1, _, by omega, by go_num, rfl, HW, ui⟩
                        case measure => simp [intOf]; omega
                  · clear kc
                    have uj := Nw.trans u ui
                    go_wp2_with fail
                    (with_reducible refine (sizes_c 0 w.heap.size _ l.length _ _ gr _ (g.upd uj) (Hg.out.nw uj) Hgz.out hl8 hg6).mono ?_)
                    rintro _ wS ⟨vS, rfl, hS, uS⟩
                    have kc := Nw.keep uS (Nw.keep ui Kc.out)
                    replace Kc := Lib.hid kc
                    replace u := Nw.trans uj uS
                    clear uS ui kc uj
                    have hSl : SlS 4 wr.heap.size wS.heap.size wS vS ((Cl.sizesTo l.length gr gr.length).map cellsL) := SlS.of_owns hS (by rw [List.length_map, Cl.sizesTo_len]) (by omega) (fun x hx => by obtain ⟨d, _, rfl⟩ := List.mem_map.1 hx; rfl)
                    obtain ⟨aS, capS, rfl, hmS, hcS⟩ := cl_cells hSl
                    have HcS := Lib.hid hcS
                    clear hS hSl hmS hcS
                    rw [Cl.sizesTo_len]
                    go_wp2_with fail
                    obtain ⟨wR, rfl⟩ : ∃ x, x = wS := ⟨_, rfl⟩
                    go_loopw [18, 21] (fun wg i wi => ∃ (j : Nat) (W : Bool), j ≤ gr.length ∧ i = .int .i64 j ∧ wg = .bool W ∧ WrongIf W l gr ⟨ck, n, ct, cx⟩ ∧ Nw wR wi) (fun _ i _ => gr.length - (intOf i).toNat)
                    case atStart => exact ⟨0, _, Nat.zero_le _, rfl, rfl, HW, Upd.refl _ _⟩
                    case round =>
                      clear HW
                      obtain ⟨j, W, hj, rfl, rfl, HW, ui⟩ := hrel
                      have kc := Nw.keep ui Kc.out
                      by_cases hlt : j < gr.length
                      · rcases HcS.out with hnil | ⟨bS, oS, rfl, hbS, hcell⟩
                        · have := congrArg List.length hnil
                          rw [Cl.sizesTo_len, List.length_nil] at this
                          omega
                        have hc9 := hcell j (by rw [Cl.sizesTo_len]; exact hlt)
                        have hel : (Cl.sizesTo l.length gr gr.length)[j]'(by rw [Cl.sizesTo_len]; exact hlt) = Cl.sizeC l.length gr j := by simp [Cl.sizesTo]
                        rw [hel] at hc9
                        obtain ⟨_, d1, d2, _⟩ := hc9
                        replace d1 : wR.cell? ⟨bS, oS + j * 4 + 1, none⟩ = some (.int .i64 (Cl.szN l.length gr (j + 1) : Nat)) := d1
                        replace d2 : wR.cell? ⟨bS, oS + j * 4 + 2, none⟩ = some (.int .i64 (10 * (j : Int))) := d2
                        have e1 := ((Nw.below ui).cell (p := ⟨bS, oS + j * 4 + 1, none⟩) hbS).trans d1
                        have e2 := ((Nw.below ui).cell (p := ⟨bS, oS + j * 4 + 2, none⟩) hbS).trans d2
                        clear hcell hel d1 d2
                        have m4 := fun i : Later wr => later_cell i e1
                        have m5 := fun i : Later wr => later_cell i e2
                        obtain ⟨m0, m1, m2, m3⟩ := later_claim kc
                        obtain ⟨_, _, _, _⟩ := one_claim kc
                        clear kc
                        cases W with
                        | true =>
                          go_wp2_with fail
                          refine wp_region_nw (by kernel_rfl) (by kernel_rfl) ?_
                          repeat (go_big_quiet_step ((fail)))
                          refine wpQuiet_nil ?_
                          intro wz uz
                          replace uz := later_out uz
                          replace ui := ui.trans uz
                          go_wp2_with fail
                          go_roundw
                          case rel => exact ⟨j + 1, _, by omega, by go_num, rfl, HW, ui⟩
                          case measure => simp [intOf]; omega
                        | false =>
                          by_cases hk0 : ck = 1
                          · have hkb : (ck == 1) = true := beq_iff_eq.2 hk0
                            by_cases hnj : ct = 10 * (j : Int)
                            · have hW2 : ¬ (n : Int) = (Cl.szN l.length gr (j + 1) : Nat) → WrongIf true l gr ⟨ck, n, ct, cx⟩ := fun h _ => Or.inr (Or.inr ⟨j, hlt, hk0, hnj, h⟩)
                              have hb1 : (ct == 10 * (j : Int)) = true := beq_iff_eq.2 hnj
                              clear hnj hk0
                              generalize Cl.szN l.length gr (j + 1) = N at *
                              replace HW : WrongIf ((n : Int) != (N : Int)) l gr ⟨ck, n, ct, cx⟩ := fun h => hW2 (bne_iff_ne.1 h) rfl
                              clear hW2
                              go_wp2_with fail
                              refine wp_region_nw (by kernel_rfl) (by kernel_rfl) ?_
                              repeat (go_big_quiet_step ((fail)))
                              refine wpQuiet_nil ?_
                              intro wz uz
                              replace uz := later_out uz
                              replace ui := ui.trans uz
                              go_wp2_with fail
                              go_roundw
                              case rel => exact ⟨j + 1, _, by omega, by go_num, rfl, HW, ui⟩
                              case measure => simp [intOf]; omega
                            · clear hk0
                              have hb1 : (ct == 10 * (j : Int)) = false := beq_eq_false_iff_ne.2 hnj
                              go_wp2_with fail
                              refine wp_region_nw (by kernel_rfl) (by kernel_rfl) ?_
                              repeat (go_big_quiet_step ((fail)))
                              refine wpQuiet_nil ?_
                              intro wz uz
                              replace uz := later_out uz
                              replace ui := ui.trans uz
                              go_wp2_with fail
                              go_roundw
                              case rel => exact ⟨j + 1, _, by omega, by go_num, rfl, HW, ui⟩
                              case measure => simp [intOf]; omega
                          · have hkb : (ck == 1) = false := beq_eq_false_iff_ne.2 hk0
                            go_wp2_with fail
                            refine wp_region_nw (by kernel_rfl) (by kernel_rfl) ?_
                            repeat (go_big_quiet_step ((fail)))
                            refine wpQuiet_nil ?_
                            intro wz uz
                            replace uz := later_out uz
                            replace ui := ui.trans uz
                            go_wp2_with fail
                            go_roundw
                            case rel => exact ⟨j + 1, _, by omega, by go_num, rfl, HW, ui⟩
                            case measure => simp [intOf]; omega
                      · clear kc
                        cases W with
                        | false =>
                          go_wp2_with fail
                          go_ret
                          exact ⟨rfl, Nw.trans u ui⟩
                        | true =>
                          have hbb := Hbt.out (HW rfl)
                          subst hbb
                          go_wp2_with fail
                          go_ret
                          exact ⟨rfl, Nw.trans u ui⟩
end Go.Proofs.YtnfjkojckffhmaaDoor
