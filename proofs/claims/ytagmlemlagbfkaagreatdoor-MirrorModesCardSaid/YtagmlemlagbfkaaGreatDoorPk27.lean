/- MirrorModes (chapter 37): the contract. -/
import Derived.Test.YtagmlemlagbfkaaGreatDoorPk26
namespace Go.Proofs.YtagmlemlagbfkaaGreatDoor
open Go.RowKit
set_option linter.unusedVariables false
set_option linter.unusedSimpArgs false
attribute [local irreducible] Calls

set_option maxHeartbeats 8000000 in
set_option maxRecDepth 100000 in
theorem modes_c (key : Int) (modes : List Int) (mv : Value) (l : List Mi.PAct) (lv : Value) (W : World) (g : Gl W) (hkey : I64 key) (hm : Sl 0 W.heap.size W mv (modes.map (Value.int .i64))) (hmi : ∀ k ∈ modes, I64 k) (hl : SlS 6 0 W.heap.size W lv (l.map actL)) (hwf : ∀ a ∈ l, ActWf a) :
    Calls Tryz.prog 3 #[.int .i64 key, mv, lv] W fun e W' => e = .returned (.bool true) ∧ Nw W W' := by
  obtain ⟨am, cm, emv, hcm, -⟩ := hm.open_
  rw [List.length_map] at hcm emv
  obtain ⟨al, cl, elv, -, -⟩ := act_cells hl
  have hsm := Lib.hid (small37_w W g)
  have HM := Lib.hid (And.intro hm hmi)
  have HL := Lib.hid (And.intro hl hwf)
  have HCM := Lib.hid hcm
  subst emv elv
  clear hm hmi hl hwf hcm
  go_enter Tryz.func3, Tryz.ntmps3
  go_wp2_with fail
  (with_reducible refine (hsm.out).mono ?_)
  rintro _ w1 ⟨rfl, u1⟩
  have U1 := Lib.hid u1
  have g1 := Lib.hid (g.upd u1)
  have hns := Lib.hid (new_s w1 g1.out)
  clear hsm u1
  go_wp2_with fail
  (with_reducible refine (hns.out).mono ?_)
  rintro _ w2 ⟨q, rfl, hq, u2⟩
  have hR : At w1 1 (fun _ => RingC w1.heap.size q.rb []) (fun _ => False) w2 := ((At.start w1 (fun _ _ _ => True)).oneRing g1.out.big u2 hq hq).same fun i hi => by
    obtain rfl : i = 0 := by omega
    simp [setC]
  have HR := Lib.hid hR
  have hmw := HM.out.1.nw (U1.out.trans u2)
  have hlw := HL.out.1.nw (U1.out.trans u2)
  have hfw := Lib.hid (few37_w _ _ _ l am modes.length cm HCM.out w2 hlw HL.out.2)
  have HN2 := Lib.hid (U1.out.trans u2)
  generalize q.rb = rb at *
  clear hns hq u2 hR hmw hlw
  go_wp2_with fail
  (with_reducible refine (hfw.out).mono ?_)
  rintro _ w3 ⟨bb, rfl, hfew, u3⟩
  have HN3 := Lib.hid (HN2.out.trans u3)
  have HR3 := Lib.hid (HR.out.nw u3)
  clear hfw HR
  cases bb with
  | false =>
    clear hfew u3
    go_wp2_with fail
    go_ret
    exact ⟨rfl, HN3.out⟩
  | true =>
    obtain ⟨⟨hl30, hm5⟩, hok⟩ := hfew rfl
    have HOK := Lib.hid hok
    have HMs : Hid (Sl 0 w1.heap.size w1 (.slice am modes.length cm) (modes.map (Value.int .i64))) := (HM.out.1.nw U1.out).wide U1.out.size
    have hpl := Lib.hid (played_w HR3.out g1.out key hkey modes (.slice am modes.length cm) ((HM.out.1.nw U1.out).wide U1.out.size) HM.out.2 hm5 l (.slice al l.length cl) ((HL.out.1.nw U1.out).wide U1.out.size) HL.out.2 hok hl30)
    clear hfew hok
    go_wp2_with fail
    (with_reducible refine (hpl.out).mono ?_)
    rintro _ w4 hp4
    rcases hp4 with ⟨hk2, p, v, hprb, rfl, hpi⟩ | ⟨hno, rfl, hat, hmv⟩
    rotate_left
    · have HW4 : Hid (Nw W w4) := U1.out.trans hat.nw0
      have HG4 : Hid (nG ≤ w4.heap.size) := by have := g1.out.big; have := hat.nw0.size; show _ ≤ _; omega
      have hml1 : (modes.length : Int) ≤ 5 := by omega
      clear hno hat hmv hpl
      go_upto_block 0 with fail
      refine wp_normal (mm_keep HW4.out HG4.out modes am cm HM.out.1 HM.out.2 hm5 _ (by kernel_rfl) ?_)
      intro u59 u60 u61 u62 u63 u64 u65 u66 u67 u68 u69 u70 u71 u72 u73 u74 u75 u76 u77 u78 u79 u80 u81 u82 u83 kv wr hj
      dsimp only [Exit.then]
      have hz : Hid (Nw W wr) := HW4.out.trans hj.nw
      obtain ⟨ka, kc, ek⟩ := own_slG hj.row
      subst ek
      clear hj
      obtain ⟨wJ, rfl⟩ : ∃ w, w = wr := ⟨_, rfl⟩
      go_wp2_with fail
      go_loopw [17] (fun iv wr => iv = .int .i64 0 ∧ Hid (Nw W wr)) (fun iv _ => 1)
      case atStart => exact ⟨rfl, hz.out⟩
      case round =>
        obtain ⟨rfl, hz2⟩ := hrel
        go_wp2_with fail
        go_ret
        exact ⟨rfl, hz2.out⟩
    obtain ⟨M, hpd, hmods⟩ := Played.of hk2 hm5 hl30 HOK.out
    generalize Mi.play (Mi.start key ((keptM modes).map Mi.fresh)) l = s at *
    subst hprb
    have HPD := Lib.hid hpd
    obtain ⟨aa, ca, ea⟩ := own_slG hpi.rows.oa
    obtain ⟨la, lc, el⟩ := own_slG hpi.rows.ol
    obtain ⟨na, nc, en⟩ := own_slG hpi.rows.on
    obtain ⟨qa, qc, eq⟩ := own_slG hpi.rows.oq
    obtain ⟨av, lv, nv, qv, L⟩ := v
    dsimp only at ea el en eq
    subst ea el en eq
    have HW4 : Hid (Nw W w4) := U1.out.trans hpi.fam.nw0
    have HG4 : Hid (nG ≤ w4.heap.size) := by have := g1.out.big; have := hpi.fam.nw0.size; show _ ≤ _; omega
    have hml1 : (modes.length : Int) ≤ 5 := by omega
    obtain ⟨n1, hn1⟩ : ∃ n1, s.ms.length = n1 := ⟨_, rfl⟩
    rw [hn1] at hpi
    rw [hn1]
    have HPI := Lib.hid hpi
    have HN1 := Lib.hid hn1
    have HK2 := Lib.hid hk2
    have HMODS := Lib.hid hmods
    have HLs : Hid (SlS 6 0 w1.heap.size w1 (.slice al l.length cl) (l.map actL)) := (HL.out.1.nw U1.out).wide U1.out.size
    clear hpl hpd hpi HR3 HN3 HN2 hmods hn1 hk2
    go_upto_block 0 with fail
    refine wp_normal (mm_keep HW4.out HG4.out modes am cm HM.out.1 HM.out.2 hm5 _ (by kernel_rfl) ?_)
    intro u59 u60 u61 u62 u63 u64 u65 u66 u67 u68 u69 u70 u71 u72 u73 u74 u75 u76 u77 u78 u79 u80 u81 u82 u83 kv wr hJ
    dsimp only [Exit.then]
    have hmo := HMODS.out
    have hlen := congrArg List.length hmo
    rw [List.length_map, HN1.out] at hlen
    generalize keptM modes = ks at *
    obtain ⟨ka, kc, ek⟩ := own_slG hJ.row
    subst ek
    have hks0 : 0 < ks.length := by rw [← hlen, ← HN1.out]; exact HPD.out.ms.1
    obtain ⟨kb, ko, ek, hkc⟩ := hJ.at hks0
    subst ek
    have HPK := Lib.hid (HPI.out.nw hJ.nw)
    obtain ⟨ab, ao, ea, -⟩ := ptrs_at (HN1.out ▸ HPK.out.rows.oa) (by omega)
    (try dsimp only at ea)
    subst ea
    have hkcn : ∀ j (h : j < ks.length), wr.cell? ⟨kb, ko + j, none⟩ = some (.int .i64 ks[j]) := hkc
    rw [← hlen]
    have HKC := Lib.hid hkcn
    have HWR : Hid (Nw W wr) := HW4.out.trans hJ.nw
    clear hJ hkc hkcn hlen hks0
    go_upto_block 2 with fail
    refine wp_normal (mm_mirrors g1.out HK2.out.1 HPK.out HPD.out HMODS.out HN1.out HKC.out l al cl HLs.out HOK.out hl30 _ (by kernel_rfl) ?_)
    intro u6 u18 u19 u20 u21 u22 u23 u24 u25 u26 u27 u28 u29 u30 u31 u84 u85 u86 u87 u88 u89 u90 u91 u92 u93 u94 u95 u96 u97 u98 u99 u100 u101 u102 u103 u104 u105 u106 u107 u108 u109 u110 u111 u112 u113 u114 u115 u116 u117 u118 u119 u120 u121 u122 u123 u124 u125 u126 u127 u128 u129 u130 u131 u132 u133 u134 u135 u136 u137 u138 u139 u140 u141 u142 u143 u144 u145 u146 u147 u148 u149 u150 u151 u152 u153 u154 u155 u156 u157 u158 u159 u160 u161 u162 u163 u164 u165 u166 u167 u168 u169 u170 u171 u172 u173 u174 u175 u176 u177 u178 u179 u180 u181 u182 u183 u184 u185 u186 u187 u188 u189 u190 u191 u192 u193 u194 u195 u196 u197 u198 u199 u200 u201 u202 u203 u204 u205 u206 u207 u208 u209 u210 u211 u212 u213 u214 u215 u216 u217 u218 u219 u220 u221 u222 u223 u224 u225 u226 u227 u228 u229 u230 u231 u232 u233 u234 u235 u236 u237 u238 u239 u240 u241 u242 u243 u244 u245 u246 u247 u248 u249 u250 u251 u252 u253 u254 u255 u256 u257 u258 u259 u260 u261 u262 u263 u264 u265 u266 u267 u268 u269 u270 u271 u272 u273 u274 u275 u276 u277 u278 u279 u280 u281 u282 u283 u284 u285 u286 u287 u288 u289 u290 u291 u292 u293 u294 u295 u296 w' n'
    dsimp only [Exit.then]
    have hfin : Hid (Nw W w') := HWR.out.trans n'
    clear n'
    go_wp2_with fail
    go_ret
    exact ⟨rfl, hfin.out⟩
end Go.Proofs.YtagmlemlagbfkaaGreatDoor
