/- The walk of FetchEnds. -/
import Derived.Test.YtagmlemlagbfkaaGreatDoorPkFEnds17
import Derived.Deep.CutBlock
namespace Go.Proofs.YtagmlemlagbfkaaGreatDoor
open Go.RowKit
set_option linter.unusedVariables false
set_option linter.unusedSimpArgs false
attribute [local irreducible] Calls

theorem take60E (s : ByteArray) : s.extract 0 (min (s.size : Int) 60).toNat = ⟨(s.data.toList.take 60).toArray⟩ := by
  rw [← bs_eta (s.extract 0 (min (s.size : Int) 60).toNat), bs_extract_list]
  congr 2
  have h := bs_size s
  rw [List.drop_zero, Nat.sub_zero]
  by_cases hc : s.size ≤ 60
  · rw [List.take_of_length_le (by omega), List.take_of_length_le (by omega)]
  · have : (min (s.size : Int) 60).toNat = 60 := by omega
    rw [this]
theorem own40 (mc h : List Int) : (Ft.ownN mc h 40).length ≤ 40 := Ft.own_len mc h 40
theorem tot40 : ∀ {C : List (Value × List Int)}, (∀ c ∈ C, c.2.length ≤ 40) → totL C ≤ C.length * 40 := by
  intro C
  induction C with
  | nil => intro _; simp [totL]
  | cons c C ih =>
    intro h
    have h1 := h c (by simp)
    have h2 := ih (fun x hx => h x (by simp [hx]))
    unfold totL at h2 ⊢
    rw [List.map_cons, List.flatten_cons, List.length_append, List.length_cons]
    omega
theorem RowsO.kept {W w w' : World} {F : Nat → Prop} {B : Nat} {v : Value} {C : List (Value × List Int)} (h : RowsO B w v C) (u : Moves W F w w') (hF : ∀ k, B ≤ k → k < w.heap.size → F k) : RowsO B w' v C :=
  ⟨owns_kept h.own u (fun k e => Or.inl (hF k (h.own.lt k e).1 (h.own.lt k e).2)), fun c hc => owns_kept (h.each c hc) u (fun k e => Or.inl (hF k ((h.each c hc).lt k e).1 ((h.each c hc).lt k e).2))⟩
theorem short_say {mc : List Int} {C : List (Value × List Int)} : ∀ x ∈ Ft.miss mc (C.map (·.2)).flatten, ∃ k : Nat, ∃ hk : k < mc.length, x = k ∧ ∀ c ∈ C, mc[k] ∉ c.2 := by
  intro x hx
  obtain ⟨k, hk, h1, h2⟩ := Ft.mem_miss.1 hx
  exact ⟨k, hk, h1, fun c hc h => h2 (List.mem_flatten.2 ⟨c.2, List.mem_map.2 ⟨c, hc, rfl⟩, h⟩)⟩
set_option maxHeartbeats 16000000 in
set_option maxRecDepth 100000 in
theorem ends_w (s : ByteArray) (hs : s.size ≤ 9223372036854775807) (zb : Nat) (hzb : zb < 256) (w : World) (g : Gl w) (ah : Option Addr) (ch : Nat) (C : List (Value × List Int)) (hC : RowsI w (.slice ah C.length ch) C) (hCl : C.length ≤ 9223372036854775807) (oa : Option Addr) (oc : Nat) (R : List Int) (hor : Sl 0 w.heap.size w (.slice oa R.length oc) (R.map intD)) (hRl : R.length ≤ 9223372036854775807) :
    Calls Tryz.prog 5 #[.string s, .int .u8 zb, .slice ah C.length ch, .slice oa R.length oc] w fun e w' => e = .returned (.bool true) ∧ Nw w w' := by
  have hgb := g.big
  have HSm := Lib.hid (small38_c w g)
  have hs1 : (s.size : Int) ≤ 9223372036854775807 := by omega
  have hC1 : (C.length : Int) ≤ 9223372036854775807 := by omega
  have hR1 : (R.length : Int) ≤ 9223372036854775807 := by omega
  have htl : (s.data.toList.take 60).length ≤ 60 := List.length_take_le _ _
  have HCut := Lib.hid (fun (y : World) (u : Nw w y) => cut_c (s.data.toList.take 60) htl zb hzb y (g.upd u))
  have HC := Lib.hid (Ft.cut_ok (cs0 := [otherB]) (by decide) (t := s.data.toList.take 60) (by show 1 + _ ≤ 85; omega) (by decide) htl (n := zb % 9) (by omega))
  have HE60 := Lib.hid (take60E s)
  have hz1 : (zb : Int) ≤ 255 := by omega
  have HCr := Lib.hid hC
  have HOr := Lib.hid hor
  clear htl hC hor
  go_enter Tryz.func5, Tryz.ntmps5
  go_upto_region 3 with (first | (go_at_call 34; (with_reducible refine HSm.out.mono ?_); rintro _ w1 ⟨rfl, u1⟩))
  rw [HE60.out]
  have U1 := Lib.hid u1
  have hcut := Lib.hid (HCut.out w1 u1)
  clear HSm HCut u1 HE60
  generalize s.data.toList.take 60 = tx at *
  go_wp2_with fail
  (with_reducible refine (hcut.out).mono ?_)
  rintro _ w2 ⟨v2, kv, rfl, hd⟩
  generalize hcs : Ck.conts [otherB] tx (zb % 9) = cs at *
  generalize hm : Ck.man [otherB] tx (zb % 9) = m at *
  obtain ⟨d1, d2, d3⟩ := hd
  rw [hcs] at d2
  rw [hm] at d3
  clear hcs hm hcut
  obtain ⟨mp, mz, mc⟩ := m
  dsimp only at *
  obtain ⟨av, cv, rfl⟩ := own_slG d2
  obtain ⟨ak, ck, rfl⟩ := own_slG d3
  have N2 := Lib.hid (U1.out.trans d1)
  have nm : Nw w2 (w2.alloc (.cells #[.int .i64 mp, .int .i64 mz, .slice ak mc.length ck] tManU)) := nw_alloc _ _
  have bm : (w2.alloc (.cells #[.int .i64 mp, .int .i64 mz, .slice ak mc.length ck] tManU)).heap[w2.heap.size]? = some (.cells #[.int .i64 mp, .int .i64 mz, .slice ak mc.length ck] tManU (0, 0)) := heap_new _ _
  have hn := Lib.hid (new_t _ (g.upd (N2.out.trans nm)))
  have HV := Lib.hid (owns_upd' d2 nm (fun _ _ e => e))
  have HK := Lib.hid (owns_upd' d3 nm (fun _ _ e => e))
  have HBm := Lib.hid bm
  have HNm := Lib.hid (N2.out.trans nm)
  have hmc := HC.out.chunks
  dsimp only at hmc
  have hmc1 : (mc.length : Int) ≤ 60 := by omega
  clear d1 d2 d3 nm bm
  generalize hW : w2.alloc (.cells #[.int .i64 mp, .int .i64 mz, .slice ak mc.length ck] tManU) = W at *
  have HW := Lib.hid hW
  go_wp2_with fail
  (with_reducible refine (hn.out).mono ?_)
  rintro _ w4 ⟨db, rfl, s4⟩
  have N4 := Lib.hid (HNm.out.trans s4.nw0)
  have S4 := Lib.hid s4
  clear s4 hn
  by_cases h1 : 6 < C.length
  · have e1 : decide ((6 : Int) < C.length) = true := decide_eq_true (by omega)
    clear h1
    go_wp2_with fail
    go_ret
    exact ⟨rfl, N4.out⟩
  have e1 : decide ((6 : Int) < C.length) = false := decide_eq_false (by omega)
  by_cases h2 : 60 < R.length
  · have e2 : decide ((60 : Int) < R.length) = true := decide_eq_true (by omega)
    clear h1 h2
    go_wp2_with fail
    go_ret
    exact ⟨rfl, N4.out⟩
  have e2 : decide ((60 : Int) < R.length) = false := decide_eq_false (by omega)
  have hC6 : C.length ≤ 6 := by omega
  have hR60 : R.length ≤ 60 := by omega
  have HGW := Lib.hid (g.upd HNm.out)
  have hbm4 := Nw.keep S4.out.nw0 HBm.out
  have m2 : w4.cell? ⟨w2.heap.size, 2, none⟩ = some (.slice ak mc.length ck) := by rw [cells_cell hbm4]; rfl
  have hk4 := (Sl.of_owns HK.out).nw S4.out.nw0
  have HBm4 := Lib.hid hbm4
  have hg4 : nG ≤ w4.heap.size := by have := N4.out.size; omega
  clear h1 h2 hbm4
  go_upto_block 0 with fail
  refine wp_normal (fe_have N4.out hg4 ah ch C HCr.out hC6 w2.heap.size ak ck mc (by omega) _ _ hk4 m2 _ (by kernel_rfl) ?_)
  clear m2 hk4
  intro u17 u18 u19 u74 u75 u76 u77 u78 u79 u80 u81 u82 u83 u84 u85 u86 u87 u88 u89 u90 u91 u92 u93 u94 u95 u96 u97 u98 u99 u100 u101 u102 u103 u104 u105 u106 u107 u108 u109 u110 u111 u112 u113 u114 u115 u116 u117 u118 u119 u120 lv w5 h5
  dsimp only [Exit.then]
  obtain ⟨u5, C', hRO, hCm⟩ := h5
  have hCl' : C'.length = C.length := by
    have := congrArg List.length hCm
    rw [List.length_map, List.length_map, List.length_take] at this
    omega
  have h40 : ∀ c ∈ C', c.2.length ≤ 40 := fun c hc => by
    have : c.2 ∈ C'.map (·.2) := List.mem_map.2 ⟨c, hc, rfl⟩
    rw [hCm] at this
    obtain ⟨y, _, hy⟩ := List.mem_map.1 this
    rw [← hy]; exact own40 _ _
  have hl6 : C'.length ≤ 6 := by omega
  have htot := tot40 h40
  have hbm5 := Nw.keep u5 HBm4.out
  have k0 : w5.cell? ⟨w2.heap.size, 0, none⟩ = some (.int .i64 mp) := by rw [cells_cell hbm5]; rfl
  have k1 : w5.cell? ⟨w2.heap.size, 1, none⟩ = some (.int .i64 mz) := by rw [cells_cell hbm5]; rfl
  have k2 : w5.cell? ⟨w2.heap.size, 2, none⟩ = some (.slice ak mc.length ck) := by rw [cells_cell hbm5]; rfl
  have hpl := plan_c _ _ mp mz _ mc lv C' w5 (g.upd (N4.out.trans u5)) ((Sl.of_owns HK.out).nw (S4.out.nw0.trans u5)) (by omega) hRO.rows (by omega) (by omega) (fun c hc => by have := h40 c hc; omega)
  have HPl := Lib.hid hpl
  have HBm5 := Lib.hid hbm5
  have U5 := Lib.hid u5
  have HRO := Lib.hid hRO
  have HCl' := Lib.hid hCl'
  have H40 := Lib.hid (And.intro hl6 (And.intro h40 htot))
  obtain ⟨al, cl, hlv⟩ := own_slG hRO.own
  subst hlv
  rw [hCl'] at HPl ⊢
  clear u5 hRO hCm hCl' h40 htot hbm5 hpl hl6
  go_wp2_with fail
  (with_reducible refine (HPl.out).mono ?_)
  rintro _ w6 ⟨pv, rfl, o6, u6⟩
  have S6 := Lib.hid (S4.out.keep (F' := fun k => w4.heap.size ≤ k ∧ k < w6.heap.size) (U5.out.trans u6) (fun k hk => Or.inr hk))
  have HRO6 := Lib.hid (HRO.out.nw u6)
  have U6 := Lib.hid (U5.out.trans u6)
  have HBm6 := Lib.hid (Nw.keep u6 HBm5.out)
  have hv6 := owns_upd' HV.out S6.out.nw0 (fun _ _ e => e)
  have hk6 := (Sl.of_owns HK.out).nw S6.out.nw0
  obtain ⟨D1, hf1, hup1⟩ := Ft.fopen_new (f := 2) (by omega) HC.out.right
  have ho := fopen_t (m := ⟨mp, mz, mc⟩) (cs := cs) S6.out HGW.out (f := 2) (I64_s (by decide)) hv6 (fun k e => Or.inr ((HV.out.lt k e).2)) hk6 (fun k h1 h2 => Or.inr h2) ⟨HC.out.len, HC.out.sm⟩ HC.out.nodup (by dsimp only; omega)
  rw [hf1] at ho
  have Ho := Lib.hid ho
  have HUp1 := Lib.hid hup1
  obtain ⟨k0', k1', k2'⟩ : w6.cell? ⟨w2.heap.size, 0, none⟩ = some (.int .i64 mp) ∧ w6.cell? ⟨w2.heap.size, 1, none⟩ = some (.int .i64 mz) ∧ w6.cell? ⟨w2.heap.size, 2, none⟩ = some (.slice ak mc.length ck) := ⟨nw_cell u6 k0, nw_cell u6 k1, nw_cell u6 k2⟩
  have hll : (C'.map (·.2)).length = C'.length := List.length_map _
  have hlen0 : ¬ (20 < (C'.map (·.2)).length ∨ 1000 < mc.length) := by rw [hll]; have := H40.out.1; omega
  clear hf1 hup1 hv6 hk6 ho k0 k1 k2 u6 HPl hll
  by_cases hms : 0 < (Ft.miss mc (C'.map (·.2)).flatten).length
  · have hpe : Ft.plan mc (C'.map (·.2)) = ([], 33) := by unfold Ft.plan; rw [if_neg hlen0, if_pos hms]
    rw [hpe] at o6 ⊢
    dsimp only at o6 ⊢
    obtain ⟨pa, pc, rfl⟩ := own_slG o6
    have HMs := Lib.hid hms
    clear hpe hlen0 hms o6
    go_wp2_with fail
    (with_reducible refine (Ho.out).mono ?_)
    rintro _ w7 ⟨pv7, rfl, m7, f7⟩
    rcases f7 with ⟨e, _, _⟩ | ⟨j7, x7, e, rfl, s7⟩
    · cases e
    obtain rfl := Option.some.inj e
    have HRO7 := Lib.hid (HRO6.out.kept m7 (fun k h1 h2 => ⟨h1, h2⟩))
    have hb7 := m7.keep HBm6.out (fun s => by have := s.2; have := lt_of_block HBm.out; omega)
    have N7 := Lib.hid (HNm.out.trans s7.nw0)
    have k0 : w7.cell? ⟨w2.heap.size, 0, none⟩ = some (.int .i64 mp) := by rw [cells_cell hb7]; rfl
    have k1 : w7.cell? ⟨w2.heap.size, 1, none⟩ = some (.int .i64 mz) := by rw [cells_cell hb7]; rfl
    have k2 : w7.cell? ⟨w2.heap.size, 2, none⟩ = some (.slice ak mc.length ck) := by rw [cells_cell hb7]; rfl
    have hsh := short_c _ _ mp mz _ mc _ C' w7 (g.upd N7.out) ((Sl.of_owns HK.out).nw s7.nw0) (by omega) HRO7.out.rows (by have := H40.out.1; omega) (by have := H40.out.2.2; have := H40.out.1; omega)
    rw [HCl'.out] at hsh
    have HSh := Lib.hid hsh
    have HB7 := Lib.hid hb7
    have HK7 := Lib.hid ((Sl.of_owns HK.out).nw s7.nw0)
    clear hsh hb7 m7 s7 e Ho k0' k1' k2'
    have hml := Ft.miss_len mc (C'.map (·.2)).flatten
    have hSay := Lib.hid (short_say (mc := mc) (C := C'))
    generalize Ft.miss mc (C'.map (·.2)).flatten = S at *
    have hS1 : (S.length : Int) ≤ 60 := by omega
    go_wp2_with fail
    (with_reducible refine (HSh.out).mono ?_)
    rintro _ w8 ⟨v8, rfl, o8, u8⟩
    obtain ⟨sa, sc, rfl⟩ := own_slG o8
    have hb8 := Nw.keep u8 HB7.out
    have k2'' : w8.cell? ⟨w2.heap.size, 2, none⟩ = some (.slice ak mc.length ck) := by rw [cells_cell hb8]; rfl
    have hRO8 := (HRO7.out.nw u8).rows
    have hk8 := HK7.out.nw u8
    have hs8 := Sl.of_owns o8
    have N8 := Lib.hid (N7.out.trans u8)
    clear k0 k1 k2 u8 o8 HSh hb8
    go_upto_block 4 with fail
    rw [← HCl'.out]
    refine wp_normal (fe_short al cl C' hRO8 H40.out.1 H40.out.2.1 w2.heap.size ak ck mc (by omega) _ _ hk8 k2'' sa sc S _ _ hs8 (by omega) hSay.out _ (by kernel_rfl) ?_)
    clear hRO8 hk8 hs8 k2''
    intro u8 u26 u27 u145 u146 u147 u148 u149 u150 u151 u152 u153 u154 u155 u156 u157 u158 u159 u160 u161 u162 u163 u164 u165 u166 u167 u168 u169 u170 u171 u172 u173 u174 u175 u176 u177 u178 u179 u180 u181 u182 u183 u184 u185 u186 u187 u188 u189 u190 u191 u192 u193 u194 u195 u196 w9 u9
    have N9 := Lib.hid (N8.out.trans u9)
    have hS0 := HMs.out
    have hS2 : decide (0 < S.length) = true := decide_eq_true hS0
    clear u9
    go_wp2_with fail
    go_ret
    exact ⟨rfl, N9.out⟩
  · have hme : Ft.miss mc (C'.map (·.2)).flatten = [] := List.length_eq_zero_iff.1 (by omega)
    have hpe : Ft.plan mc (C'.map (·.2)) = ((Ft.runP (C'.map (·.2)) mc).2, 0) := by unfold Ft.plan; rw [if_neg hlen0, if_neg hms]
    have hP : ∀ i (h : i < mc.length), ∃ b : Nat, ∃ hb : b < C'.length, (Ft.runP (C'.map (·.2)) mc).2.getD i 0 = b ∧ mc[i] ∈ C'[b].2 := by
      intro i h
      obtain ⟨b, hb, h1, h2⟩ := Ft.plan_has mc (fun p hp => Ft.mem_flat (Ft.miss_nil_iff.1 hme p hp)) i h
      rw [List.length_map] at hb
      refine ⟨b, hb, h1, ?_⟩
      rw [List.getD_eq_getElem?_getD, List.getElem?_eq_getElem (by rw [List.length_map]; exact hb), List.getElem_map] at h2
      exact h2
    have hPl := (Ft.runP_len (C'.map (·.2)) mc).2
    rw [hpe] at o6 ⊢
    generalize (Ft.runP (C'.map (·.2)) mc).2 = P at *
    dsimp only at o6 ⊢
    obtain ⟨pa, pc, rfl⟩ := own_slG o6
    rw [hPl] at o6 ⊢
    have HP := Lib.hid hP
    have HPl := Lib.hid hPl
    have HO6 := Lib.hid o6
    have HMe := Lib.hid hme
    clear hpe hlen0 hms o6 hP hPl hme
    go_wp2_with fail
    (with_reducible refine (Ho.out).mono ?_)
    rintro _ w7 ⟨pv7, rfl, m7, f7⟩
    rcases f7 with ⟨e, _, _⟩ | ⟨j7, x7, e, rfl, s7⟩
    · cases e
    obtain rfl := Option.some.inj e
    have HRO7 := Lib.hid (HRO6.out.kept m7 (fun k h1 h2 => ⟨h1, h2⟩))
    have hb7 := m7.keep HBm6.out (fun s => by have := s.2; have := lt_of_block HBm.out; omega)
    have HO7 := Lib.hid (owns_kept HO6.out m7 (fun k e => Or.inl (by have := HO6.out.lt k e; have := U5.out.size; omega)))
    have S7 := Lib.hid s7
    have N7 := Lib.hid (HNm.out.trans s7.nw0)
    have k0 : w7.cell? ⟨w2.heap.size, 0, none⟩ = some (.int .i64 mp) := by rw [cells_cell hb7]; rfl
    have k1 : w7.cell? ⟨w2.heap.size, 1, none⟩ = some (.int .i64 mz) := by rw [cells_cell hb7]; rfl
    have k2 : w7.cell? ⟨w2.heap.size, 2, none⟩ = some (.slice ak mc.length ck) := by rw [cells_cell hb7]; rfl
    have hsh := short_c _ _ mp mz _ mc _ C' w7 (g.upd N7.out) ((Sl.of_owns HK.out).nw s7.nw0) (by omega) HRO7.out.rows (by have := H40.out.1; omega) (by have := H40.out.2.2; have := H40.out.1; omega)
    rw [HCl'.out, HMe.out] at hsh
    have HSh := Lib.hid hsh
    have HB7 := Lib.hid hb7
    have HK7 := Lib.hid ((Sl.of_owns HK.out).nw s7.nw0)
    clear hsh hb7 m7 s7 e Ho k0' k1' k2'
    go_wp2_with fail
    (with_reducible refine (HSh.out).mono ?_)
    rintro _ w8 ⟨v8, rfl, o8, u8⟩
    obtain ⟨sa, sc, rfl⟩ := own_slG o8
    have hb8 := Nw.keep u8 HB7.out
    have k2'' : w8.cell? ⟨w2.heap.size, 2, none⟩ = some (.slice ak mc.length ck) := by rw [cells_cell hb8]; rfl
    have hRO8 := (HRO7.out.nw u8).rows
    have hk8 := HK7.out.nw u8
    have hp8 := (Sl.of_owns HO7.out).nw u8
    have N8 := Lib.hid (N7.out.trans u8)
    have S8 := Lib.hid (S7.out.nw u8)
    clear k0 k1 k2 u8 o8 HSh hb8
    go_upto_block 10 with fail
    rw [← HCl'.out]
    refine wp_normal (fe_plan al cl C' hRO8 H40.out.1 H40.out.2.1 w2.heap.size ak ck mc (by omega) _ _ hk8 k2'' pa pc P HPl.out _ _ hp8 HP.out _ (by kernel_rfl) ?_)
    clear hRO8 hk8 hp8 k2''
    intro u8 u225 u226 u227 u228 u229 u230 u231 u232 u233 u234 u235 u236 u237 u238 u239 u240 u241 u242 u243 u244 u245 u246 u247 u248 u249 u250 u251 u252 u253 u254 u255 u256 u257 u258 u259 w9 u9
    have N9 := Lib.hid (N8.out.trans u9)
    have S9 := Lib.hid (S8.out.nw u9)
    clear u9
    go_upto_block 12 with fail
    have hI : TkI W db x7.fb cs ⟨mp, mz, mc⟩ 0 w9 := ⟨x7, _, D1, rfl, S9.out.keep (Upd.refl _ _) (fun k hk => hk.elim), ⟨HUp1.out, Nat.le_refl _, fun s h => by cases h⟩, Ft.miss_len _ _⟩
    refine wp_normal (fe_take HGW.out db x7.fb cs mp mz mc tx HC.out hI av cv _ HV.out w2.heap.size ak ck _ _ (Sl.of_owns HK.out) HBm.out oa oc R 0 w.heap.size (HOr.out.nw HNm.out) hR60 _ (by kernel_rfl) ?_)
    clear hI
    intro u8 u30 u31 u32 u33 u260 u261 u262 u263 u264 u265 u266 u267 u268 u269 u270 u271 u272 u273 u274 u275 u276 u277 u278 u279 u280 u281 u282 u283 u284 u285 u286 u287 u288 u289 u290 u291 u292 u293 u294 u295 u296 u297 u298 u299 u300 u301 u302 u303 u304 u305 u306 u307 u308 u309 u310 u311 u312 u313 u314 u315 u316 u317 u318 u319 u320 u321 u322 u323 u324 u325 u326 u327 u328 u329 u330 u331 u332 u333 u334 u335 u336 u337 u338 u339 u340 u341 nv w10 x10 j10 D10 n10 hx10 s10 hg10 hn10 hgo
    have htx := ftext_t s10 HGW.out (by dsimp only; omega) (by have := hg10.len; omega) (by have := HC.out.len; omega)
    have hft : Ft.ftext cs ⟨mp, mz, mc⟩ j10 = (tx, 0) := by unfold Ft.ftext; rw [if_pos hgo]; exact congrArg (·, 0) HC.out.text.1
    rw [hft] at htx
    rw [hx10] at htx
    have HTx := Lib.hid htx
    have N10 := Lib.hid (HNm.out.trans s10.nw0)
    clear htx hft hgo s10 hg10
    go_wp2_with fail
    (with_reducible refine (HTx.out).mono ?_)
    rintro _ w11 ⟨rfl, u11⟩
    have N11 := Lib.hid (N10.out.trans u11)
    clear u11
    go_wp2_with fail
    go_ret
    exact ⟨rfl, N11.out⟩
theorem ends_i (s : ByteArray) (hs : s.size ≤ maxLen) (z : Int) (hz : 0 ≤ z ∧ z ≤ 255) (hv : Value) (C : List (Value × List Int)) (ov : Value) (R : List Int) (w : World) (g : Gl w) (hC : RowsI w hv C) (hR : Sl 0 w.heap.size w ov (R.map intD)) :
    Calls Tryz.prog 5 #[.string s, .int .u8 z, hv, ov] w fun e w' => e = .returned (.bool true) ∧ Nw w w' := by
  obtain ⟨z', rfl⟩ : ∃ k : Nat, z = k := ⟨z.toNat, by omega⟩
  obtain ⟨ah, ch, rfl, hCl, _⟩ := hC.cells
  obtain ⟨oa, oc, rfl, hRl, _⟩ := int_cells hR
  exact ends_w s hs z' (by omega) w g ah ch C hC hCl oa oc R hR hRl
end Go.Proofs.YtagmlemlagbfkaaGreatDoor
