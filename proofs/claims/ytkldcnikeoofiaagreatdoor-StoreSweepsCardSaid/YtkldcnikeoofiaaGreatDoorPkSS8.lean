/- The walk of the statement StoreSweeps. -/
import Derived.Test.YtkldcnikeoofiaaGreatDoorPkSS7
namespace Go.Proofs.YtkldcnikeoofiaaGreatDoor
open Go.RowKit
set_option linter.unusedVariables false
set_option linter.unusedSimpArgs false
attribute [local irreducible] Calls CallsIn

theorem nmsS_swept (S : Sg.Sta) (t : List UInt8) : nmsS (putS (Sg.swept S) t) = nmsS S := by unfold nmsS; rw [putS_pf, Sg.swept_pf]
theorem nmsS_swept0 (S : Sg.Sta) : nmsS (Sg.swept S) = nmsS S := by unfold nmsS; rw [Sg.swept_pf]
theorem numI_count (S : Sg.Sta) : (numI (Sg.swept S)).length + (Sg.spare S).length = (numI S).length := by
  unfold numI
  rw [List.length_map, List.length_map]
  exact Sg.swept_count S
theorem putN_new {S : Sg.Sta} {t : List UInt8} (h : (Sg.find S t).isSome = false) : putN S t = S.th.length := by
  unfold putN
  cases hq : Sg.find S t with
  | none => rfl
  | some m => rw [hq] at h; cases h
set_option maxHeartbeats 8000000 in
set_option maxRecDepth 100000 in
theorem storeSweeps_c (v0 : Value) (C : List GC) (more : List UInt8) (w : World) (g : GmS w) (h0 : GopS w.heap.size w v0 C) (hmore : more.length ≤ maxLen) :
    Calls Tryz.prog 4 #[v0, .string ⟨more.toArray⟩] w fun e w' => e = .returned (.bool true) ∧ Nw w w' := by
  have hs := Lib.hid (smallS_c w g)
  have hfew := Lib.hid (fun z (u : Nw w z) => few_c (h0.nw u))
  obtain ⟨a0, c0, rfl, m0, _⟩ := gop_cells h0
  unfold maxLen at m0 hmore
  have HA := Lib.hid h0
  have hm1 : (more.length : Int) ≤ 9223372036854775807 := by omega
  clear h0 m0 hmore
  go_enter Tryz.func4, Tryz.ntmps4
  go_wp2_with fail
  (with_reducible refine (hs.out).mono ?_)
  rintro _ w1 ⟨rfl, u1⟩
  have U1 := Lib.hid u1
  have hfew2 := Lib.hid (hfew.out w1 u1)
  clear hs hfew u1
  have hsz : (⟨more.toArray⟩ : ByteArray).size = more.length := by rw [bs_size, bs_list]
  cases hB : fewSB C with
  | false =>
    rw [hB] at hfew2
    go_wp2_with fail
    (with_reducible refine (hfew2.out).mono ?_)
    rintro _ _ ⟨rfl, rfl⟩
    go_wp2_with fail
    go_ret
    exact ⟨rfl, U1.out⟩
  | true =>
  rw [hB] at hfew2
  by_cases h12 : 12 < C.length
  · have hc12 : (12 : Int) < C.length := by omega
    clear hB
    go_wp2_with fail
    (with_reducible refine (hfew2.out).mono ?_)
    rintro _ _ ⟨rfl, rfl⟩
    go_wp2_with fail
    go_ret
    exact ⟨rfl, U1.out⟩
  have hc12 : ¬ (12 : Int) < C.length := by omega
  by_cases h300 : 300 < more.length
  · have hc300 : (300 : Int) < more.length := by omega
    clear hB
    go_wp2_with fail
    (with_reducible refine (hfew2.out).mono ?_)
    rintro _ _ ⟨rfl, rfl⟩
    go_wp2_with fail
    go_ret
    exact ⟨rfl, U1.out⟩
  have hc300 : ¬ (300 : Int) < more.length := by omega
  have HF := Lib.hid hB
  have HC12 := Lib.hid h12
  have HM300 := Lib.hid h300
  clear hB h12 h300
  have g1 := g.upd U1.out
  have hn := Lib.hid (new_t w1 g1.g)
  go_wp2_with fail
  (with_reducible refine (hfew2.out).mono ?_)
  rintro _ _ ⟨rfl, rfl⟩
  go_wp2_with fail
  (with_reducible refine (hn.out).mono ?_)
  rintro _ w2 ⟨db, rfl, s2⟩
  have ho := Lib.hid (openC g1 s2 (f := 15) (by omega))
  clear hn s2 hfew2 hc12 hc300
  go_wp2_with fail
  (with_reducible refine (ho.out).mono ?_)
  rintro _ w3 ⟨sb, rfl, c3, m3⟩
  have C3 := Lib.hid c3
  clear ho c3 m3
  go_upto_block 0 with fail
  refine wp_normal (ss_loop g1 HA.out U1.out HF.out (by have := HC12.out; omega) C3.out _ (by kernel_rfl) ?_)
  intro u4 u11 u12 u13 u14 u77 u78 u79 u80 u81 u82 u83 u84 u85 u86 u87 u88 u89 u90 u91 u92 u93 u94 u95 u96 u97 u98 u99 u100 u101 u102 u103 u104 u105 u106 u107 u108 u109 u110 u111 u112 u113 u114 u115 u116 u117 u118 u119 u120 u121 u122 u123 u124 u125 u126 u127 u128 u129 u130 u131 u132 u133 u134 u135 u136 u137 u138 u139 u140 u141 u142 u143 u144 u145 u146 u147 u148 u149 m w4 h4
  obtain ⟨S, m1, m2, c4⟩ := h4
  have HM := Lib.hid (And.intro m1 m2)
  have HC4 := Lib.hid c4
  obtain ⟨x4, rfl, g4⟩ := c4.st
  have hN := Lib.hid (sNumbers_c g4)
  have HG4 := Lib.hid g4
  clear C3 m1 m2 c4 g4 HF
  dsimp only [Exit.then]
  go_wp2_with fail
  (with_reducible refine (hN.out).mono ?_)
  rintro _ w5 ⟨v5, rfl, hv5, u5⟩
  have HV5 := Lib.hid hv5
  have HU5 := Lib.hid u5
  have hgz : nG ≤ w5.heap.size := by have := HG4.out.gl; have := HC4.out.nw0.size; have := u5.size; omega
  obtain ⟨va5, vc5, rfl⟩ := own_slS hv5
  clear hv5 u5 hN
  go_upto_block 2 with fail
  refine wp_normal (ss_texts (HG4.out.nw HU5.out) HV5.out hgz _ (by kernel_rfl) ?_)
  intro u18 u19 u152 u153 u154 u155 u156 u157 u158 u159 u160 u161 u162 u163 u164 u165 u166 u167 u168 u169 u170 tv w6 ht6 u6
  obtain ⟨ta, tc, rfl⟩ := own_slS ht6
  have HT6 := Lib.hid ht6
  have HV6 := Lib.hid (owns_upd' HV5.out u6 (fun _ _ e => e))
  have HS5 := Lib.hid (And.intro HU5.out.size u6.size)
  have c6 : CS w1 db 15 (fun k => (Value.slice va5 (numI S).length vc5).ownBlock = some k ∨ (Value.slice ta (numI S).length tc).ownBlock = some k) x4.sb S C.length w6 := HC4.out.keep (HU5.out.trans u6) (fun k hk => Or.inr (by
    have h5 := HS5.out
    rcases hk with hk | hk
    · have := HV6.out.lt k hk; omega
    · have := HT6.out.lt k hk; omega))
  have HC6 := Lib.hid c6
  have hs1 := Lib.hid (sweepB g1 c6 (by omega) (by have := HC12.out; omega))
  clear ht6 u6 c6 HV5 HU5 HC4
  dsimp only [Exit.then]
  go_wp2_with fail
  (with_reducible refine (hs1.out).mono ?_)
  rintro _ w7 ⟨rfl, c7, m7⟩
  have hs2' := sweepB g1 c7 (by omega) (by have := HC12.out; omega)
  rw [Sg.swept_spare, swept_swept] at hs2'
  have hs2 := Lib.hid (show Calls Tryz.prog 23 #[.pointer (some ⟨x4.sb, 0, none⟩)] w7 (fun e z' => e = .returned (.tuple #[.int .i64 0, .int .i64 0]) ∧ _) from hs2')
  have HV7 := Lib.hid (owns_upd' HV6.out m7 (fun k hk e => e.1 (Or.inl hk)))
  have HT7 := Lib.hid (owns_upd' HT6.out m7 (fun k hk e => e.1 (Or.inr hk)))
  clear hs1 c7 m7 hs2' HV6 HT6 HC6
  go_wp2_with fail
  (with_reducible refine (hs2.out).mono ?_)
  rintro _ w8 ⟨rfl, c8, m8⟩
  have HV8 := Lib.hid (owns_upd' HV7.out m8 (fun k hk e => e.1 (Or.inl hk)))
  have HT8 := Lib.hid (owns_upd' HT7.out m8 (fun k hk e => e.1 (Or.inr hk)))
  have HC8 := Lib.hid c8
  obtain ⟨x8, ex8, g8⟩ := c8.st
  rw [← ex8] at HC8 ⊢
  have hN8 := Lib.hid (sNumbers_c g8)
  have HG8 := Lib.hid g8
  have hcount := numI_count S
  have hsmall := HG4.out
  have hn0 := numI_small hsmall
  clear hs2 c8 m8 g8 HV7 HT7 hsmall ex8
  obtain ⟨n1, hn1⟩ : ∃ n1, n1 = (numI (Sg.swept S)).length := ⟨_, rfl⟩
  rw [← hn1] at hcount
  have HN1 := Lib.hid hn1
  generalize hns : (Sg.spare S).length = ns at hcount ⊢
  have hq1 : ((numI S).length : Int) - ns = n1 := by omega
  have hq2 : (n1 : Int) ≤ 1000 := by omega
  have hq3 : (ns : Int) ≤ 1000 := by omega
  have hq4 : ((numI S).length : Int) ≤ 1000 := by omega
  clear hn1 hns
  go_upto_region 30 with fail
  go_wp2_with (first | (go_at_call 21; with_reducible refine hN8.out.mono ?_; rintro _ w9 ⟨v9, rfl, hv9, u9⟩; obtain ⟨va9, vc9, rfl⟩ := own_slS hv9; rw [← HN1.out]))
  have HU9 := Lib.hid u9
  have hP9 := Lib.hid (sProfiles_c (HG8.out.nw u9))
  rw [nmsS_swept0] at hP9
  clear hv9 u9 hN8 hcount hq1 HN1
  (with_reducible refine (hP9.out).mono ?_)
  rintro _ w10 ⟨pv, rfl, hpv, u10⟩
  obtain ⟨pa, pc, rfl⟩ := own_slS hpv
  have HU10 := Lib.hid (HU9.out.trans u10)
  have HPv := Lib.hid hpv
  clear hpv u10 hP9
  go_upto_block 4 with fail
  refine wp_normal (ss_check (HG8.out.nw HU10.out) (owns_upd' HV8.out HU10.out (fun _ _ e => e)) (owns_upd' HT8.out HU10.out (fun _ _ e => e)) HPv.out _ (by kernel_rfl) ?_)
  intro u4 u26 u27 u28 u29 u30 u31 u32 u203 u204 u205 u206 u207 u208 u209 u210 u211 u212 u213 u214 u215 u216 u217 u218 u219 u220 u221 u222 u223 u224 u225 u226 u227 u228 u229 u230 u231 u232 u233 u234 u235 u236 u237 u238 u239 u240 u241 u242 u243 u244 u245 u246 u247 u248 u249 u250 u251 u252 u253 u254 u255 u256 u257 u258 u259 u260 u261 u262 u263 u264 u265 u266 u267 w11 u11
  have HU11 := Lib.hid (HU10.out.trans u11)
  have hFi := Lib.hid (sFind_c (HG8.out.nw HU11.out) (t := more) (by have := HM300.out; omega))
  have HC11 := Lib.hid (HC8.out.nw HU11.out)
  clear u11 HC8 HV8 HT8 HU10
  dsimp only [Exit.then]
  unfold bsV at hFi
  go_wp2_with fail
  (with_reducible refine (hFi.out).mono ?_)
  rintro _ _ ⟨rfl, rfl⟩
  have hPu := Lib.hid (putB g1 HC11.out (by omega) (by have := HC12.out; omega) (t := more) (by have := HM300.out; omega))
  clear hFi
  go_wp2_with fail
  (with_reducible refine (hPu.out).mono ?_)
  rintro _ w12 ⟨rfl, c12, m12⟩
  have hlt2 : (Sg.find (Sg.swept S) more).isSome = false → ¬ ((putN (Sg.swept S) more : Nat) : Int) ≤ m := fun h => by
    rw [putN_new h, Sg.swept_len]
    have := HM.out.2
    omega
  have HC12' := Lib.hid c12
  have ho2 := Lib.hid (again2 g1 c12 (by omega) (by have := HC12.out; omega))
  have hfnd := Lib.hid (putS_find (HG8.out.g) more)
  have hnm := Lib.hid (nmsS_swept S more)
  clear hPu c12 m12 HC11
  generalize (Sg.find (Sg.swept S) more).getD 0 = fm at *
  generalize putN (Sg.swept S) more = an at *
  generalize putS (Sg.swept S) more = S3 at *
  cases hth : (Sg.find (Sg.swept S) more).isSome with
  | true =>
    clear hlt2
    go_wp2_with fail
    (with_reducible refine (ho2.out).mono ?_)
    rintro _ w13 ⟨sb2, rfl, ⟨xa, ea, ga⟩, ⟨ya, rfl, gy⟩, m13⟩
    have hF2 := sFind_c gy (t := more) (by have := HM300.out; omega)
    rw [hfnd.out] at hF2
    have hF2 := Lib.hid hF2
    unfold bsV at hF2
    dsimp only [Option.getD_some, Option.isSome_some] at hF2
    have HGa := Lib.hid ga
    have HGy := Lib.hid gy
    have hN13 := Lib.hid (sNumbers_c gy)
    have hm13 := Lib.hid (HC12'.out.nw0.trans' m13 (fun k hk e => by have h5 : w1.heap.size ≤ k := e.2; omega))
    rw [← ea]
    clear ho2 ga gy m13 ea
    go_wp2_with fail
    (with_reducible refine (hF2.out).mono ?_)
    rintro _ _ ⟨rfl, rfl⟩
    go_wp2_with fail
    (with_reducible refine (hN13.out).mono ?_)
    rintro _ w14 ⟨cv, rfl, hcv, u14⟩
    obtain ⟨ca, cc, rfl⟩ := own_slS hcv
    have HCv := Lib.hid hcv
    have HU14 := Lib.hid u14
    have hN14 := Lib.hid (sNumbers_c (HGa.out.nw u14))
    clear hcv u14 hF2 hN13
    go_wp2_with fail
    (with_reducible refine (hN14.out).mono ?_)
    rintro _ w15 ⟨ov, rfl, hov, u15⟩
    obtain ⟨oa, oc, rfl⟩ := own_slS hov
    have HOv := Lib.hid hov
    have HU15 := Lib.hid (HU14.out.trans u15)
    have HCv15 := Lib.hid (owns_upd' HCv.out u15 (fun _ _ e => e))
    have hP15 := sProfiles_c (HGy.out.nw HU15.out)
    rw [hnm.out] at hP15
    have hP15 := Lib.hid hP15
    clear hov u15 hN14 HCv
    go_upto_block 10 with (first | (go_at_call 24; with_reducible refine hP15.out.mono ?_; rintro _ w16 ⟨pv16, rfl, hpv16, u16⟩; obtain ⟨pa16, pc16, rfl⟩ := own_slS hpv16))
    have HU16 := Lib.hid (HU15.out.trans u16)
    refine wp_normal (ss_again (HGa.out.nw HU16.out) (HGy.out.nw HU16.out) (owns_upd' HCv15.out u16 (fun _ _ e => e)) (owns_upd' HOv.out u16 (fun _ _ e => e)) _ (by kernel_rfl) ?_)
    intro u4 u44 u45 u46 u47 u334 u335 u336 u337 u338 u339 u340 u341 u342 u343 u344 u345 u346 u347 u348 u349 u350 u351 u352 u353 u354 u355 u356 u357 u358 u359 u360 u361 u362 u363 u364 u365 u366 u367 u368 u369 u370 u371 w17 u17
    have HU17 := Lib.hid (U1.out.trans (hm13.out.trans (HU16.out.trans u17)))
    clear u16 u17 hpv16 hP15
    dsimp only [Exit.then]
    go_wp2_with fail
    go_ret
    exact ⟨rfl, HU17.out⟩
  | false =>
    have hlt3 := hlt2 hth
    clear hlt2
    go_wp2_with fail
    (with_reducible refine (ho2.out).mono ?_)
    rintro _ w13 ⟨sb2, rfl, ⟨xa, ea, ga⟩, ⟨ya, rfl, gy⟩, m13⟩
    have hF2 := sFind_c gy (t := more) (by have := HM300.out; omega)
    rw [hfnd.out] at hF2
    have hF2 := Lib.hid hF2
    unfold bsV at hF2
    dsimp only [Option.getD_some, Option.isSome_some] at hF2
    have HGa := Lib.hid ga
    have HGy := Lib.hid gy
    have hN13 := Lib.hid (sNumbers_c gy)
    have hm13 := Lib.hid (HC12'.out.nw0.trans' m13 (fun k hk e => by have h5 : w1.heap.size ≤ k := e.2; omega))
    rw [← ea]
    clear ho2 ga gy m13 ea
    go_wp2_with fail
    (with_reducible refine (hF2.out).mono ?_)
    rintro _ _ ⟨rfl, rfl⟩
    go_wp2_with fail
    (with_reducible refine (hN13.out).mono ?_)
    rintro _ w14 ⟨cv, rfl, hcv, u14⟩
    obtain ⟨ca, cc, rfl⟩ := own_slS hcv
    have HCv := Lib.hid hcv
    have HU14 := Lib.hid u14
    have hN14 := Lib.hid (sNumbers_c (HGa.out.nw u14))
    clear hcv u14 hF2 hN13
    go_wp2_with fail
    (with_reducible refine (hN14.out).mono ?_)
    rintro _ w15 ⟨ov, rfl, hov, u15⟩
    obtain ⟨oa, oc, rfl⟩ := own_slS hov
    have HOv := Lib.hid hov
    have HU15 := Lib.hid (HU14.out.trans u15)
    have HCv15 := Lib.hid (owns_upd' HCv.out u15 (fun _ _ e => e))
    have hP15 := sProfiles_c (HGy.out.nw HU15.out)
    rw [hnm.out] at hP15
    have hP15 := Lib.hid hP15
    clear hov u15 hN14 HCv
    go_upto_block 10 with (first | (go_at_call 24; with_reducible refine hP15.out.mono ?_; rintro _ w16 ⟨pv16, rfl, hpv16, u16⟩; obtain ⟨pa16, pc16, rfl⟩ := own_slS hpv16))
    have HU16 := Lib.hid (HU15.out.trans u16)
    refine wp_normal (ss_again (HGa.out.nw HU16.out) (HGy.out.nw HU16.out) (owns_upd' HCv15.out u16 (fun _ _ e => e)) (owns_upd' HOv.out u16 (fun _ _ e => e)) _ (by kernel_rfl) ?_)
    intro u4 u44 u45 u46 u47 u334 u335 u336 u337 u338 u339 u340 u341 u342 u343 u344 u345 u346 u347 u348 u349 u350 u351 u352 u353 u354 u355 u356 u357 u358 u359 u360 u361 u362 u363 u364 u365 u366 u367 u368 u369 u370 u371 w17 u17
    have HU17 := Lib.hid (U1.out.trans (hm13.out.trans (HU16.out.trans u17)))
    clear u16 u17 hpv16 hP15
    dsimp only [Exit.then]
    go_wp2_with fail
    go_ret
    exact ⟨rfl, HU17.out⟩
theorem storeSweeps_b (v0 : Value) (C : List GC) (s : ByteArray) (w : World) (g : GmS w) (h0 : GopS w.heap.size w v0 C) (hs : s.size ≤ maxLen) :
    Calls Tryz.prog 4 #[v0, .string s] w fun e w' => e = .returned (.bool true) ∧ Nw w w' := by
  have := storeSweeps_c v0 C s.data.toList w g h0 (by rw [← bs_size]; exact hs)
  rwa [bs_eta] at this
end Go.Proofs.YtkldcnikeoofiaaGreatDoor
