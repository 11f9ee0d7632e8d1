/- MirrorModes (chapter 37): the loop over the mirrors. -/
import Derived.Test.YtagmlemlagbfkaaGreatDoorPk25
namespace Go.Proofs.YtagmlemlagbfkaaGreatDoor
open Go.RowKit
set_option linter.unusedVariables false
set_option linter.unusedSimpArgs false
attribute [local irreducible] Calls

set_option maxHeartbeats 20000000 in
set_option maxRecDepth 100000 in
theorem mm_mirrors {W wK : World} {F : Nat → Prop} {z0 : World} {p : PlR} {s : Mi.PS} {key : Int} {n : Nat} {M : List Bk.Sgn} {ks : List Int} {n1 : Nat} {ab ao ca kb ko kc : Nat} {la : Option Addr} {lc : Nat} {nv qv : Value} {L : AL} (g : Gl W) (hkey : Bk.isKey key = true)
    (hpk : PlI W F z0 p s ⟨.slice (some ⟨ab, ao, none⟩) n1 ca, .slice la s.cs.length lc, nv, qv, L⟩ wK) (hpd : Played key n s M) (hmo : s.ms.map (·.mode) = ks) (hn1 : s.ms.length = n1) (hkc : ∀ j (h : j < ks.length), wK.cell? ⟨kb, ko + j, none⟩ = some (.int .i64 ks[j]))
    (l : List Mi.PAct) (al : Option Addr) (cl : Nat) (hl : SlS 6 0 W.heap.size W (.slice al l.length cl) (l.map actL)) (hok : ∀ a ∈ l, Mi.ActOk a) (hl30 : l.length ≤ 30)
    (K0 : Act → World → Prop) { c1 c3 c4 c5 c7 c9 c12 c13 c14 c16 c32 c33 c34 c35 c36 c37 c38 c39 c40 c41 c42 c43 c44 c45 c46 c47 c48 c49 c50 c51 c52 c53 c54 c55 c56 c57 c58 c59 c60 c61 c62 c63 c64 c65 c66 c67 c68 c69 c70 c71 c72 c73 c74 c75 c76 c77 c78 c79 c80 c81 c82 c83 c297 : Value} { u6 u18 u19 u20 u21 u22 u23 u24 u25 u26 u27 u28 u29 u30 u31 u84 u85 u86 u87 u88 u89 u90 u91 u92 u93 u94 u95 u96 u97 u98 u99 u100 u101 u102 u103 u104 u105 u106 u107 u108 u109 u110 u111 u112 u113 u114 u115 u116 u117 u118 u119 u120 u121 u122 u123 u124 u125 u126 u127 u128 u129 u130 u131 u132 u133 u134 u135 u136 u137 u138 u139 u140 u141 u142 u143 u144 u145 u146 u147 u148 u149 u150 u151 u152 u153 u154 u155 u156 u157 u158 u159 u160 u161 u162 u163 u164 u165 u166 u167 u168 u169 u170 u171 u172 u173 u174 u175 u176 u177 u178 u179 u180 u181 u182 u183 u184 u185 u186 u187 u188 u189 u190 u191 u192 u193 u194 u195 u196 u197 u198 u199 u200 u201 u202 u203 u204 u205 u206 u207 u208 u209 u210 u211 u212 u213 u214 u215 u216 u217 u218 u219 u220 u221 u222 u223 u224 u225 u226 u227 u228 u229 u230 u231 u232 u233 u234 u235 u236 u237 u238 u239 u240 u241 u242 u243 u244 u245 u246 u247 u248 u249 u250 u251 u252 u253 u254 u255 u256 u257 u258 u259 u260 u261 u262 u263 u264 u265 u266 u267 u268 u269 u270 u271 u272 u273 u274 u275 u276 u277 u278 u279 u280 u281 u282 u283 u284 u285 u286 u287 u288 u289 u290 u291 u292 u293 u294 u295 u296 : Value} {c : Code} (hc : loopAt Tryz.f3 1 = c)
    (hexit : ∀ (u6 u18 u19 u20 u21 u22 u23 u24 u25 u26 u27 u28 u29 u30 u31 u84 u85 u86 u87 u88 u89 u90 u91 u92 u93 u94 u95 u96 u97 u98 u99 u100 u101 u102 u103 u104 u105 u106 u107 u108 u109 u110 u111 u112 u113 u114 u115 u116 u117 u118 u119 u120 u121 u122 u123 u124 u125 u126 u127 u128 u129 u130 u131 u132 u133 u134 u135 u136 u137 u138 u139 u140 u141 u142 u143 u144 u145 u146 u147 u148 u149 u150 u151 u152 u153 u154 u155 u156 u157 u158 u159 u160 u161 u162 u163 u164 u165 u166 u167 u168 u169 u170 u171 u172 u173 u174 u175 u176 u177 u178 u179 u180 u181 u182 u183 u184 u185 u186 u187 u188 u189 u190 u191 u192 u193 u194 u195 u196 u197 u198 u199 u200 u201 u202 u203 u204 u205 u206 u207 u208 u209 u210 u211 u212 u213 u214 u215 u216 u217 u218 u219 u220 u221 u222 u223 u224 u225 u226 u227 u228 u229 u230 u231 u232 u233 u234 u235 u236 u237 u238 u239 u240 u241 u242 u243 u244 u245 u246 u247 u248 u249 u250 u251 u252 u253 u254 u255 u256 u257 u258 u259 u260 u261 u262 u263 u264 u265 u266 u267 u268 u269 u270 u271 u272 u273 u274 u275 u276 u277 u278 u279 u280 u281 u282 u283 u284 u285 u286 u287 u288 u289 u290 u291 u292 u293 u294 u295 u296 : Value) (w' : World), Nw wK w' → K0 ⟨(List.toArray ((.int .i64 key) :: c1 :: (.slice al l.length cl) :: c3 :: c4 :: c5 :: u6 :: c7 :: (.pointer (some ⟨p.rb, 0, none⟩)) :: c9 :: (.slice (some ⟨ab, ao, none⟩) n1 ca) :: (.slice la s.cs.length lc) :: c12 :: c13 :: c14 :: (.slice (some ⟨kb, ko, none⟩) n1 kc) :: c16 :: (.int .i64 (n1 : Int)) :: u18 :: u19 :: u20 :: u21 :: u22 :: u23 :: u24 :: u25 :: u26 :: u27 :: u28 :: u29 :: u30 :: u31 :: c32 :: c33 :: c34 :: c35 :: c36 :: c37 :: c38 :: c39 :: c40 :: c41 :: c42 :: c43 :: c44 :: c45 :: c46 :: c47 :: c48 :: c49 :: c50 :: c51 :: c52 :: c53 :: c54 :: c55 :: c56 :: c57 :: c58 :: c59 :: c60 :: c61 :: c62 :: c63 :: c64 :: c65 :: c66 :: c67 :: c68 :: c69 :: c70 :: c71 :: c72 :: c73 :: c74 :: c75 :: c76 :: c77 :: c78 :: c79 :: c80 :: c81 :: c82 :: c83 :: u84 :: u85 :: u86 :: u87 :: u88 :: u89 :: u90 :: u91 :: u92 :: u93 :: u94 :: u95 :: u96 :: u97 :: u98 :: u99 :: u100 :: u101 :: u102 :: u103 :: u104 :: u105 :: u106 :: u107 :: u108 :: u109 :: u110 :: u111 :: u112 :: u113 :: u114 :: u115 :: u116 :: u117 :: u118 :: u119 :: u120 :: u121 :: u122 :: u123 :: u124 :: u125 :: u126 :: u127 :: u128 :: u129 :: u130 :: u131 :: u132 :: u133 :: u134 :: u135 :: u136 :: u137 :: u138 :: u139 :: u140 :: u141 :: u142 :: u143 :: u144 :: u145 :: u146 :: u147 :: u148 :: u149 :: u150 :: u151 :: u152 :: u153 :: u154 :: u155 :: u156 :: u157 :: u158 :: u159 :: u160 :: u161 :: u162 :: u163 :: u164 :: u165 :: u166 :: u167 :: u168 :: u169 :: u170 :: u171 :: u172 :: u173 :: u174 :: u175 :: u176 :: u177 :: u178 :: u179 :: u180 :: u181 :: u182 :: u183 :: u184 :: u185 :: u186 :: u187 :: u188 :: u189 :: u190 :: u191 :: u192 :: u193 :: u194 :: u195 :: u196 :: u197 :: u198 :: u199 :: u200 :: u201 :: u202 :: u203 :: u204 :: u205 :: u206 :: u207 :: u208 :: u209 :: u210 :: u211 :: u212 :: u213 :: u214 :: u215 :: u216 :: u217 :: u218 :: u219 :: u220 :: u221 :: u222 :: u223 :: u224 :: u225 :: u226 :: u227 :: u228 :: u229 :: u230 :: u231 :: u232 :: u233 :: u234 :: u235 :: u236 :: u237 :: u238 :: u239 :: u240 :: u241 :: u242 :: u243 :: u244 :: u245 :: u246 :: u247 :: u248 :: u249 :: u250 :: u251 :: u252 :: u253 :: u254 :: u255 :: u256 :: u257 :: u258 :: u259 :: u260 :: u261 :: u262 :: u263 :: u264 :: u265 :: u266 :: u267 :: u268 :: u269 :: u270 :: u271 :: u272 :: u273 :: u274 :: u275 :: u276 :: u277 :: u278 :: u279 :: u280 :: u281 :: u282 :: u283 :: u284 :: u285 :: u286 :: u287 :: u288 :: u289 :: u290 :: u291 :: u292 :: u293 :: u294 :: u295 :: u296 :: c297 :: [])), []⟩ w') :
    Code.wp Tryz.prog c (Exit.then K0 (fun _ _ _ => False)) ⟨(List.toArray ((.int .i64 key) :: c1 :: (.slice al l.length cl) :: c3 :: c4 :: c5 :: u6 :: c7 :: (.pointer (some ⟨p.rb, 0, none⟩)) :: c9 :: (.slice (some ⟨ab, ao, none⟩) n1 ca) :: (.slice la s.cs.length lc) :: c12 :: c13 :: c14 :: (.slice (some ⟨kb, ko, none⟩) n1 kc) :: c16 :: (.int .i64 0) :: u18 :: u19 :: u20 :: u21 :: u22 :: u23 :: u24 :: u25 :: u26 :: u27 :: u28 :: u29 :: u30 :: u31 :: c32 :: c33 :: c34 :: c35 :: c36 :: c37 :: c38 :: c39 :: c40 :: c41 :: c42 :: c43 :: c44 :: c45 :: c46 :: c47 :: c48 :: c49 :: c50 :: c51 :: c52 :: c53 :: c54 :: c55 :: c56 :: c57 :: c58 :: c59 :: c60 :: c61 :: c62 :: c63 :: c64 :: c65 :: c66 :: c67 :: c68 :: c69 :: c70 :: c71 :: c72 :: c73 :: c74 :: c75 :: c76 :: c77 :: c78 :: c79 :: c80 :: c81 :: c82 :: c83 :: u84 :: u85 :: u86 :: u87 :: u88 :: u89 :: u90 :: u91 :: u92 :: u93 :: u94 :: u95 :: u96 :: u97 :: u98 :: u99 :: u100 :: u101 :: u102 :: u103 :: u104 :: u105 :: u106 :: u107 :: u108 :: u109 :: u110 :: u111 :: u112 :: u113 :: u114 :: u115 :: u116 :: u117 :: u118 :: u119 :: u120 :: u121 :: u122 :: u123 :: u124 :: u125 :: u126 :: u127 :: u128 :: u129 :: u130 :: u131 :: u132 :: u133 :: u134 :: u135 :: u136 :: u137 :: u138 :: u139 :: u140 :: u141 :: u142 :: u143 :: u144 :: u145 :: u146 :: u147 :: u148 :: u149 :: u150 :: u151 :: u152 :: u153 :: u154 :: u155 :: u156 :: u157 :: u158 :: u159 :: u160 :: u161 :: u162 :: u163 :: u164 :: u165 :: u166 :: u167 :: u168 :: u169 :: u170 :: u171 :: u172 :: u173 :: u174 :: u175 :: u176 :: u177 :: u178 :: u179 :: u180 :: u181 :: u182 :: u183 :: u184 :: u185 :: u186 :: u187 :: u188 :: u189 :: u190 :: u191 :: u192 :: u193 :: u194 :: u195 :: u196 :: u197 :: u198 :: u199 :: u200 :: u201 :: u202 :: u203 :: u204 :: u205 :: u206 :: u207 :: u208 :: u209 :: u210 :: u211 :: u212 :: u213 :: u214 :: u215 :: u216 :: u217 :: u218 :: u219 :: u220 :: u221 :: u222 :: u223 :: u224 :: u225 :: u226 :: u227 :: u228 :: u229 :: u230 :: u231 :: u232 :: u233 :: u234 :: u235 :: u236 :: u237 :: u238 :: u239 :: u240 :: u241 :: u242 :: u243 :: u244 :: u245 :: u246 :: u247 :: u248 :: u249 :: u250 :: u251 :: u252 :: u253 :: u254 :: u255 :: u256 :: u257 :: u258 :: u259 :: u260 :: u261 :: u262 :: u263 :: u264 :: u265 :: u266 :: u267 :: u268 :: u269 :: u270 :: u271 :: u272 :: u273 :: u274 :: u275 :: u276 :: u277 :: u278 :: u279 :: u280 :: u281 :: u282 :: u283 :: u284 :: u285 :: u286 :: u287 :: u288 :: u289 :: u290 :: u291 :: u292 :: u293 :: u294 :: u295 :: u296 :: c297 :: [])), []⟩ wK := by
  subst hc
  have HPK := Lib.hid hpk
  have HPD := Lib.hid hpd
  have HMODS := Lib.hid hmo
  have hks1 : ks.length = n1 := by rw [← hmo, List.length_map]; exact hn1
  have HN1 := Lib.hid (And.intro hn1 hks1)
  have HKC := Lib.hid hkc
  have HLK := Lib.hid hl
  have HOK := Lib.hid hok
  have HEX := Lib.hid hexit
  have HWK : Hid (∀ z, Nw wK z → Nw W z) := fun z u => hpk.fam.nw0.trans u
  have HGK : Hid (∀ z, Nw wK z → Gl z) := fun z u => g.upd (hpk.fam.nw0.trans u)
  have hms0 : 0 < n1 := by rw [← hn1]; exact hpd.ms.1
  have hms5 : (n1 : Int) ≤ 5 := by have := hpd.ms; omega
  obtain ⟨ab', ao', ea, hac⟩ := ptrs_at (hn1 ▸ hpk.rows.oa) hms0
  simp only [Option.some.injEq, Addr.mk.injEq, and_true] at ea
  obtain ⟨rfl, rfl⟩ := ea
  have HAC := Lib.hid hac
  have hK0 : Hid (Nw wK wK) := Upd.refl _ _
  have hl301 : (l.length : Int) ≤ 30 := by omega
  clear hpk hpd hmo hkc hl hok hexit hac hks1 hms0
  conv => arg 2; whnf
  go_wp2_with fail
  go_loopw [17] (fun iv wr => ∃ i : Nat, i ≤ n1 ∧ iv = .int .i64 (i : Int) ∧ Hid (Nw wK wr)) (fun iv _ => n1 - (intOf iv).toNat)
  case atStart => exact ⟨0, Nat.zero_le _, rfl, hK0.out⟩
  case round =>
    obtain ⟨i, hi, rfl, HI⟩ := hrel
    by_cases hlt0 : i < n1
    · have hlt : i < s.ms.length := by rw [HN1.out.1]; exact hlt0
      have hlt1 : (i : Int) < n1 := by omega
      have hlt2 : ¬ ((n1 : Int) ≤ i) := by omega
      obtain ⟨x, hxm, hx⟩ := pl_mir (HPK.out.nw HI.out) hlt
      have hsz := msize_w hx
      rw [hxm] at hsz
      have hinv := (HPD.out.inv.ms _ (List.getElem_mem hlt))
      have hmode : s.ms[i].mode = ks[i]'(by have := HN1.out.2; omega) := by
        have := List.getElem_of_eq HMODS.out (i := i) (by rw [List.length_map]; exact hlt)
        rw [List.getElem_map] at this
        exact this
      have HPA : Hid (∀ z, Nw wr z → z.cell? ⟨ab, ao + i, none⟩ = some (.pointer (some ⟨p.mbs i, 0, none⟩))) := fun z u => later_cell ⟨z, HI.out.trans u⟩ (HAC.out i hlt0)
      have HPM : Hid (∀ z, Nw wr z → z.cell? ⟨kb, ko + i, none⟩ = some (.int .i64 s.ms[i].mode)) := fun z u => by rw [hmode]; exact later_cell ⟨z, HI.out.trans u⟩ (HKC.out i (by have := HN1.out.2; omega))
      have HANS : Hid (∀ z, Nw wr z → ∀ q, QOk q → Calls Tryz.prog 13 #[.pointer (some ⟨p.mbs i, 0, none⟩), qV q] z (AnsTo z (Mi.answer s.ms[i] q))) := fun z u q hq => by
        rw [← hxm]; exact answer_w (hx.nw u) (HGK.out z (HI.out.trans u)) q hq
      have HSZ := Lib.hid hsz
      have HINV := Lib.hid hinv
      have hn30 := HPD.out.n
      have hcl : s.ms[i].cs.length ≤ 30 := by
        obtain ⟨r, hr⟩ := hinv.1.pre
        have h1 := congrArg List.length hr
        rw [List.length_append] at h1
        have := HPD.out.inv.cs.1
        omega
      have he1 : ((s.ms[i].l 0).length : Int) ≤ 30 := by have := hinv.2.1; omega
      have he2 : ((s.ms[i].l 1).length : Int) ≤ 30 := by have := hinv.2.2.1; omega
      have he3 : ((s.ms[i].l 2).length : Int) ≤ 30 := by have := hinv.2.2.2; omega
      have he4 : (s.ms[i].cs.length : Int) ≤ 30 := by omega
      have ca := HPA.out wr (Upd.refl _ _)
      clear hx hxm hsz hinv hmode hcl hn30
      generalize s.ms[i] = m at *
      obtain ⟨wM, rfl⟩ : ∃ w, w = wr := ⟨_, rfl⟩
      go_wp2_with fail
      (with_reducible refine (HSZ.out).mono ?_)
      rintro _ w5 ⟨rfl, u5⟩
      have HU5 := Lib.hid u5
      clear HSZ u5 ca
      obtain ⟨mx, hmx⟩ : ∃ mx : Int, max ((m.l 0).length : Int) (m.cs.length : Int) = mx := ⟨_, rfl⟩
      have hmx0 : 0 ≤ mx ∧ mx ≤ 30 := by omega
      obtain ⟨hmx1, hmx2⟩ := hmx0
      have HMX : Hid ((Mi.many (m.l 0).length m.cs.length : Int) = mx + 1) := by show _ = _; unfold Mi.many; omega
      have hmax := hmx
      obtain ⟨NK, hNK⟩ : ∃ NK, Mi.many (m.l 0).length m.cs.length = NK := ⟨_, rfl⟩
      rw [hNK] at HMX
      have HNK := Lib.hid hNK
      have hmk : (NK : Int) = mx + 1 := HMX.out
      have hg5 : Hid (nG ≤ w5.heap.size) := (HGK.out w5 (HI.out.trans HU5.out)).big
      clear hNK
      go_wp2_with fail
      go_loopw [22, 23] (fun av iv wr => ∃ n : Nat, n ≤ NK ∧ iv = .int .i64 (n : Int) ∧ Hid (Nw w5 wr ∧ wr.ownsRow w5.heap.size tQue 3 av (Mi.askE2 n).length (flatQ (Mi.askE2 n)))) (fun _ iv _ => NK - (intOf iv).toNat)
      case atStart => exact ⟨0, Nat.zero_le _, rfl, Upd.refl _ _, World.ownsRow_nil _ _ _ _⟩
      case round =>
        obtain ⟨n, hn, rfl, HQ⟩ := hrel
        rw [Mi.askE2_len] at HQ
        obtain ⟨qa', qc', eq'⟩ := own_slG HQ.out.2
        subst eq'
        by_cases hn2 : n < NK
        · have hn3 : (n : Int) ≤ mx := by omega
          have hn4 : (n : Int) < 40 := by omega
          have hd3 : decide ((n : Int) ≤ mx) = true := decide_eq_true hn3
          have n1 := nw_alloc wr (.cells #[.int .i64 1, .int .i64 (n : Int), .string ⟨#[]⟩, .int .i64 3, .int .i64 (n : Int), .string ⟨#[]⟩] tQue)
          have k1 := heap_new wr (.cells #[.int .i64 1, .int .i64 (n : Int), .string ⟨#[]⟩, .int .i64 3, .int .i64 (n : Int), .string ⟨#[]⟩] tQue)
          have o1 := Lib.hid (owns_upd' HQ.out.2 n1 (fun _ _ e => e))
          have o2 : Hid ((wr.alloc (.cells #[.int .i64 1, .int .i64 (n : Int), .string ⟨#[]⟩, .int .i64 3, .int .i64 (n : Int), .string ⟨#[]⟩] tQue)).ownsRow wr.heap.size tQue 3 (.slice (some ⟨wr.heap.size, 0, none⟩) 2 2) 2 (flatQ [⟨1, n, []⟩, ⟨3, n, []⟩])) :=
            ⟨by simp [flatQ, queC], Or.inr ⟨_, _, _, rfl, Nat.le_refl _, k1, Nat.le_refl _, by unfold maxLen; decide, by simp, by simp [flatQ, queC]⟩⟩
          have hn5 : n ≤ 30 := by omega
          have hs5 : w5.heap.size ≤ (wr.alloc (.cells #[.int .i64 1, .int .i64 (n : Int), .string ⟨#[]⟩, .int .i64 3, .int .i64 (n : Int), .string ⟨#[]⟩] tQue)).heap.size := by have := HQ.out.1.size; simp; omega
          clear k1
          go_wp2_with (at_builtin; refine wpList_cat rfl _ _ 32 rfl w5.heap.size wr.heap.size tQue _ 3 32 Tryz.underlying32 infoQue rfl (by decide) _ _ _ _ _ _ rfl o1.out rfl o2.out ?p1 ?p2 ?p3 hs5 ?_)
          
          case p1 =>
            intro u hu
            simp only [flatQ, queC, List.map_cons, List.map_nil, List.flatten_cons, List.flatten_nil, List.append_nil, List.mem_append, List.mem_cons, List.not_mem_nil, or_false] at hu
            rcases hu with (rfl | rfl | rfl) | rfl | rfl | rfl <;> rfl
          case p2 => unfold maxLen; omega
          case p3 => omega
          intro v' w6 hown hgrow hob
          have u6 : Nw w5 w6 := (HQ.out.1.trans n1).grown hgrow (fun k hk => ⟨Or.inr (hob k hk).1, by have := (hob k hk).1; have := hg5.out; omega⟩)
          have hz : Hid (Nw w5 w6 ∧ w6.ownsRow w5.heap.size tQue 3 v' (Mi.askE2 (n + 1)).length (flatQ (Mi.askE2 (n + 1)))) := by
            refine ⟨u6, ?_⟩
            have e1 : flatQ (Mi.askE2 (n + 1)) = flatQ (Mi.askE2 n) ++ flatQ [⟨1, n, []⟩, ⟨3, n, []⟩] := by
              rw [Mi.askE2_succ]; unfold flatQ; rw [List.map_append, List.flatten_append]
            rw [Mi.askE2_len, e1]
            exact hown
          clear hown hgrow hob u6 n1 o1 o2 hs5
          go_wp2_with fail
          go_roundw
          case rel => exact ⟨n + 1, by omega, by go_num, hz.out⟩
          case measure => simp [intOf]; omega
          
        · obtain rfl : n = NK := by omega
          have hn3 : ¬ ((n : Int) ≤ mx) := by omega
          have hd3 : decide ((n : Int) ≤ mx) = false := decide_eq_false hn3
          have hl301 : (l.length : Int) ≤ 30 := by omega
          have HQ0 : Hid (Nw w5 wr ∧ wr.ownsRow w5.heap.size tQue 3 (.slice qa' (2 * n) qc') (2 * n + 0) (flatQ (Mi.askE2 n) ++ flatQ (Mi.absQ (l.map (·.name)) 0))) := by
            have := HQ.out
            rw [show Mi.absQ (l.map (·.name)) 0 = [] from rfl, show flatQ [] = [] from rfl, List.append_nil]
            exact this
          clear HQ hmk
          obtain ⟨wL, rfl⟩ : ∃ w, w = wr := ⟨_, rfl⟩
          go_wp2_with fail
          go_loopw [22, 24] (fun av iv wr => ∃ j : Nat, j ≤ l.length ∧ iv = .int .i64 (j : Int) ∧ Hid (Nw w5 wr ∧ wr.ownsRow w5.heap.size tQue 3 av (2 * n + j) (flatQ (Mi.askE2 n) ++ flatQ (Mi.absQ (l.map (·.name)) j)))) (fun _ iv _ => l.length - (intOf iv).toNat)
          case atStart => exact ⟨0, Nat.zero_le _, rfl, HQ0.out⟩
          case round =>
            obtain ⟨j, hj, rfl, HQ⟩ := hrel
            obtain ⟨qa2, qc2, eq2⟩ := own_slG HQ.out.2
            subst eq2
            by_cases hlt4 : j < l.length
            · have hlt5 : (j : Int) < l.length := by omega
              obtain ⟨a', cap', ev, -, hcells⟩ := act_cells HLK.out
              simp only [Value.slice.injEq, true_and] at ev
              obtain ⟨rfl, rfl⟩ := ev
              rcases hcells with hnil | ⟨b, off, rfl, hcell⟩
              · simp [hnil] at hlt4
              have c4 := ((hcell j hlt4).nw (HWK.out wr (HI.out.trans (HU5.out.trans HQ.out.1)))).2.2.2.2.1
              have HAQ : Hid (flatQ (Mi.absQ (l.map (·.name)) (j + 1)) = flatQ (Mi.absQ (l.map (·.name)) j) ++ queC ⟨2, j, l[j].name⟩) := by
                show _ = _
                rw [Mi.absQ_succ, flatQ_snoc, List.getD_eq_getElem?_getD, List.getElem?_map, List.getElem?_eq_getElem hlt4]
                rfl
              have HO := Lib.hid HQ.out.2
              have hs5 : w5.heap.size ≤ wr.heap.size := HQ.out.1.size
              have hg5' := hg5.out
              have hn5 : n ≤ 31 := by have := HMX.out; omega
              clear hcell
              generalize l[j].name = nm at *
              go_wp2_with (at_builtin; (refine wpList_appL rfl _ _ 32 rfl w5.heap.size tQue _ 3 32 Tryz.underlying32 infoQue rfl (by decide) _ _ _ rfl HO.out (queC ⟨2, j, nm⟩) (by show Value.slice _ _ _ = Value.slice _ _ _; simp) rfl ?r1 ?r2 ?r3 hs5 hg5' ?_))
              
              case r1 =>
                intro u hu
                simp only [queC, List.mem_cons, List.not_mem_nil, or_false] at hu
                rcases hu with rfl | rfl | rfl <;> rfl
              case r2 => unfold maxLen; omega
              case r3 => omega
              intro v' w6 o6 u6 hob
              have hz : Hid (Nw w5 w6 ∧ w6.ownsRow w5.heap.size tQue 3 v' (2 * n + (j + 1)) (flatQ (Mi.askE2 n) ++ flatQ (Mi.absQ (l.map (·.name)) (j + 1)))) := by
                rw [HAQ.out]
                exact ⟨HQ.out.1.trans' u6 (fun k hk e => by have := (HO.out.lt k e).1; omega), o6⟩
              clear o6 u6 hob hs5 hg5' c4 hn5
              go_wp2_with fail
              go_roundw
              case rel => exact ⟨j + 1, by omega, by go_num, hz.out⟩
              case measure => simp [intOf]; omega
              
            · obtain rfl : j = l.length := by omega
              have n1 := nw_alloc wr (.cells #[.int .i64 0, .int .i64 0, .string ⟨#[]⟩, .int .i64 4, .int .i64 0, .string ⟨#[]⟩] tQue)
              have k1 := heap_new wr (.cells #[.int .i64 0, .int .i64 0, .string ⟨#[]⟩, .int .i64 4, .int .i64 0, .string ⟨#[]⟩] tQue)
              have o1 := Lib.hid (owns_upd' HQ.out.2 n1 (fun _ _ e => e))
              have o2 : Hid ((wr.alloc (.cells #[.int .i64 0, .int .i64 0, .string ⟨#[]⟩, .int .i64 4, .int .i64 0, .string ⟨#[]⟩] tQue)).ownsRow wr.heap.size tQue 3 (.slice (some ⟨wr.heap.size, 0, none⟩) 2 2) 2 (flatQ [⟨0, 0, []⟩, ⟨4, 0, []⟩])) :=
                ⟨by simp [flatQ, queC], Or.inr ⟨_, _, _, rfl, Nat.le_refl _, k1, Nat.le_refl _, by unfold maxLen; decide, by simp, by simp [flatQ, queC]⟩⟩
              have hn5 : n ≤ 31 := by have := HMX.out; omega
              have hs5 : w5.heap.size ≤ (wr.alloc (.cells #[.int .i64 0, .int .i64 0, .string ⟨#[]⟩, .int .i64 4, .int .i64 0, .string ⟨#[]⟩] tQue)).heap.size := by have := HQ.out.1.size; simp; omega
              obtain ⟨wP, rfl⟩ : ∃ w, w = wr := ⟨_, rfl⟩
              clear k1
              go_wp2_with (at_builtin; go_loud (refine wpList_cat rfl _ _ 32 rfl w5.heap.size wP.heap.size tQue _ 3 32 Tryz.underlying32 infoQue rfl (by decide) _ _ _ _ _ _ rfl o1.out rfl o2.out ?f1 ?f2 ?f3 hs5 ?_))
              case f1 =>
                intro u hu
                simp only [flatQ, queC, List.map_cons, List.map_nil, List.flatten_cons, List.flatten_nil, List.append_nil, List.mem_append, List.mem_cons, List.not_mem_nil, or_false] at hu
                rcases hu with (rfl | rfl | rfl) | rfl | rfl | rfl <;> rfl
              case f2 => unfold maxLen; omega
              case f3 => omega
              intro v' wA hown hgrow hob
              have u6 : Nw w5 wA := (HQ.out.1.trans n1).grown hgrow (fun k hk => ⟨Or.inr (hob k hk).1, by have := (hob k hk).1; have := hg5.out; omega⟩)
              obtain ⟨Q, hQ⟩ : ∃ Q, Mi.askedL (m.l 0).length m.cs.length (l.map (·.name)) = Q := ⟨_, rfl⟩
              have HQL : Hid (Q.length = 2 * n + l.length + 2) := by
                show _ = _
                rw [← hQ]
                unfold Mi.askedL
                rw [HNK.out, List.length_append, List.length_append, Mi.askE2_len]
                unfold Mi.absQ
                simp
              have hzA : Hid (wA.ownsRow w5.heap.size tQue 3 v' Q.length (flatQ Q)) := by
                have e1 : flatQ Q = flatQ (Mi.askE2 n) ++ flatQ (Mi.absQ (l.map (·.name)) l.length) ++ flatQ [⟨0, 0, []⟩, ⟨4, 0, []⟩] := by
                  rw [← hQ]; unfold Mi.askedL flatQ; rw [HNK.out, List.map_append, List.flatten_append, List.map_append, List.flatten_append, List.length_map]
                rw [HQL.out, e1, List.append_assoc]
                exact hown
              have HUA := Lib.hid u6
              have HQE := Lib.hid hQ
              clear hown hgrow hob u6 n1 o1 o2 hs5 HQ hQ
              obtain ⟨xa, xc, ex⟩ := own_slG hzA.out
              subst ex
              have hQ94 : Q.length ≤ 96 := by rw [HQL.out]; have := HMX.out; omega
              have hQ95 : (Q.length : Int) ≤ 96 := by omega
              have hQ0 : 0 < Q.length := by rw [HQL.out]; omega
              have hqs : SlS 3 w5.heap.size wA.heap.size wA (.slice xa Q.length xc) (Q.map queC) := SlS.of_owns hzA.out (by simp) (by omega) (fun y hy => by
                obtain ⟨z, _, rfl⟩ := List.mem_map.1 hy
                rfl)
              obtain ⟨a', cap', ev, -, hqc⟩ := hqs.open_
              rw [List.length_map] at ev
              simp only [Value.slice.injEq, true_and] at ev
              obtain ⟨rfl, rfl⟩ := ev
              rcases hqc with hnil | ⟨xb, xo, rfl, -, -, -, hqc⟩
              · rw [List.map_eq_nil_iff] at hnil
                rw [hnil] at hQ0; simp at hQ0
              have HQC : Hid (∀ z, Nw wA z → ∀ n (h : n < Q.length), z.cell? ⟨xb, xo + n * 3, none⟩ = some (.int .i64 Q[n].kind) ∧ z.cell? ⟨xb, xo + n * 3 + 1, none⟩ = some (.int .i64 Q[n].n) ∧ z.cell? ⟨xb, xo + n * 3 + 2, none⟩ = some (.string ⟨Q[n].text.toArray⟩)) := fun z u n hn => by
                have h2 := (hqc n (by rw [List.length_map]; exact hn)).2
                simp only [List.getElem_map] at h2
                exact ⟨later_cell ⟨z, u⟩ (by rw [← Nat.add_zero (xo + n * 3), h2 0 (by omega)]; rfl), later_cell ⟨z, u⟩ (by rw [h2 1 (by omega)]; rfl), later_cell ⟨z, u⟩ (by rw [h2 2 (by omega)]; rfl)⟩
              have HQok : Hid (∀ q ∈ Q, QOk q) := fun q hq => by
                rw [← HQE.out] at hq
                unfold Mi.askedL at hq
                rw [HNK.out] at hq
                have := HMX.out
                rcases List.mem_append.1 hq with hq | hq
                · rcases List.mem_append.1 hq with hq | hq
                  · unfold Mi.askE2 at hq
                    obtain ⟨r, hr, hq⟩ := List.mem_flatMap.1 hq
                    have hr2 := List.mem_range.1 hr
                    simp only [List.mem_cons, List.not_mem_nil, or_false] at hq
                    rcases hq with rfl | rfl
                    · exact ⟨by show I64 (1 : Int); unfold I64; omega, by show I64 (r : Int); unfold I64; omega, Nat.zero_le _⟩
                    · exact ⟨by show I64 (3 : Int); unfold I64; omega, by show I64 (r : Int); unfold I64; omega, Nat.zero_le _⟩
                  · unfold Mi.absQ at hq
                    obtain ⟨r, hr, rfl⟩ := List.mem_map.1 hq
                    have hr2 := List.mem_range.1 hr
                    rw [List.length_map] at hr2
                    refine ⟨by show I64 (2 : Int); unfold I64; omega, by show I64 (r : Int); unfold I64; omega, ?_⟩
                    show ((l.map (·.name)).getD r []).length ≤ _
                    rw [List.getD_eq_getElem?_getD, List.getElem?_map, List.getElem?_eq_getElem hr2]
                    have := (HOK.out _ (List.getElem_mem hr2)).name
                    show (l[r].name).length ≤ _
                    omega
                · simp only [List.mem_cons, List.not_mem_nil, or_false] at hq
                  rcases hq with rfl | rfl
                  · exact ⟨by show I64 (0 : Int); unfold I64; omega, by show I64 (0 : Int); unfold I64; omega, Nat.zero_le _⟩
                  · exact ⟨by show I64 (4 : Int); unfold I64; omega, by show I64 (0 : Int); unfold I64; omega, Nat.zero_le _⟩
              have HWA5 : Hid (∀ z, Nw wA z → Nw wM z) := fun z u => HU5.out.trans (HUA.out.trans u)
              have hL0 : Hid (Nw wA wA) := Upd.refl _ _
              clear hqs hqc hzA HQL hn5 hg5
              go_upto_block 8 with fail
              refine wp_normal (mm_asked (B := z0.heap.size) (Br := W.heap.size) (Lr := s.L) (m := m) (cs := s.cs) Q hQ94 hlt0 (by omega) (fun z u => HGK.out z (HI.out.trans (HWA5.out z u))) hkey HQC.out HQok.out (fun z u => HPA.out z (HWA5.out z u)) (fun z u => HPM.out z (HWA5.out z u)) (fun z u q hq => HANS.out z (HWA5.out z u) q hq) (fun z u => at_ringAt (r := 0) (rb := p.rb) (Lr := s.L) (HPK.out.nw (HI.out.trans (HWA5.out z u))).fam (by omega) rfl) (fun z u => (HPK.out.nw (HI.out.trans (HWA5.out z u))).rows.ol)
                (fun q c hc' => ⟨Mi.told_ok HPD.out.inv.made (by have := HPD.out.ln; show s.L.length ≤ _; omega) (by
                  rcases Mi.answer_claims HINV.out.1 q c hc' with ⟨-, e⟩ | ⟨-, e⟩
                  · exact Or.inl e
                  · exact Or.inr e), Mi.modes_accept HPD.out.inv.made HINV.out.1 q hc'⟩)
                (fun q hh => Mi.genuine_ans HINV.out.1 q hh) _ (by kernel_rfl) ?_)
              intro u6 u28 u29 u30 u143 u144 u145 u146 u147 u148 u149 u150 u151 u152 u153 u154 u155 u156 u157 u158 u159 u160 u161 u162 u163 u164 u165 u166 u167 u168 u169 u170 u171 u172 u173 u174 u175 u176 u177 u178 u179 u180 u181 u182 u183 u184 u185 u186 u187 u188 u189 u190 u191 u192 u193 u194 u195 u196 u197 u198 u199 u200 u201 u202 u203 u204 u205 u206 u207 u208 u209 u210 u211 u212 u213 u214 u215 u216 u217 u218 u219 u220 u221 u222 u223 u224 u225 u226 u227 u228 u229 u230 u231 u232 u233 u234 u235 u236 u237 wr nA hcn htn
              dsimp only [Exit.then]
              have HN : Hid (Nw wA wr) := nA
              clear nA
              have hend := Mi.modes_end HINV.out.1 (l.map (·.name)) (by omega)
              rw [HQE.out] at hend
              generalize Mi.claimsN m Q = C at *
              generalize Mi.textsN m Q = T at *
              obtain ⟨m1, m2, m3, m4, m5⟩ := hend
              have HM1 := Lib.hid m1
              have HM3 := Lib.hid m3
              have HM4 := Lib.hid m4
              have HM5 := Lib.hid m5
              have t1 : decide ((m.cs.length : Int) < (T : Int)) = false := decide_eq_false (by omega)
              have t2 : decide (m.cs.length < T) = false := decide_eq_false (by omega)
              have c5 := HPM.out wr (HWA5.out wr HN.out)
              have hz : Hid (Nw wK wr) := HI.out.trans (HWA5.out wr HN.out)
              obtain ⟨wS, rfl⟩ : ∃ w, w = wr := ⟨_, rfl⟩
              clear m1 m2 m3 m4 m5 hcn htn
              go_upto_region 48 with fail
              go_cut [296] from 243 to 296 (fun c wx => c = .bool false ∧ wx = wS)
              case first =>
                by_cases hC : 0 < C
                · have dC : decide ((0 : Int) < (C : Int)) = true := decide_eq_true (by omega)
                  have dC2 : decide (0 < C) = true := decide_eq_true hC
                  have hsm : ((((m.l 0).length : Int) + ((m.l 1).length : Int) + ((m.l 2).length : Int)) == 0) = false := by
                    have := HM1.out
                    have : ¬ ((m.l 0).length + (m.l 1).length + (m.l 2).length = 0) := fun e => this ⟨hC, e⟩
                    simp; omega
                  have hbC := Lib.hid hC
                  clear hC
                  -- the mode parts the last test; true: is anything claimed
                  by_cases h0 : m.mode = 0
                  · have x0 : (m.mode == 0) = true := by simp [h0]
                    have x2 : (m.mode == 2) = false := by simp [h0]
                    have x1 : (m.mode == 1) = false := by simp [h0]
                    obtain ⟨y1, y2⟩ := HM3.out h0
                    have z0 : (T != m.cs.length) = false := by simp; omega
                    have z1 : ((T : Int) != (m.cs.length : Int)) = false := by simp; omega
                    have z2 : decide (0 < (m.l 1).length) = true := by
                      have := hbC.out
                      simp only [decide_eq_true_eq, decide_eq_false_iff_not]
                      omega
                    have z3 : decide ((0 : Int) < ((m.l 1).length : Int)) = true := by
                      have := hbC.out
                      simp only [decide_eq_true_eq, decide_eq_false_iff_not]
                      omega
                    clear h0 y1 y2
                    go_wp2_with fail
                    go_meet
                    exact ⟨rfl, rfl⟩
                  have x0 : (m.mode == 0) = false := by simp [h0]
                  by_cases h2 : m.mode = 2
                  · have x2 : (m.mode == 2) = true := by simp [h2]
                    have x1 : (m.mode == 1) = false := by simp [h2]
                    have y1 := HM4.out h2
                    have z1 : (T != m.cs.length / 2) = false := by simp; omega
                    have z2 : ((T : Int) != (m.cs.length : Int) / 2) = false := by simp; omega
                    clear h0 h2 y1
                    go_wp2_with fail
                    go_meet
                    exact ⟨rfl, rfl⟩
                  have x2 : (m.mode == 2) = false := by simp [h2]
                  by_cases h1 : m.mode = 1
                  · have x1 : (m.mode == 1) = true := by simp [h1]
                    have y1 := HM5.out h1
                    have z1 : decide (1 < (m.l 1).length) = false := decide_eq_false (by omega)
                    have z2 : decide ((1 : Int) < ((m.l 1).length : Int)) = false := decide_eq_false (by omega)
                    clear h0 h1 h2 y1
                    go_wp2_with fail
                    go_meet
                    exact ⟨rfl, rfl⟩
                  have x1 : (m.mode == 1) = false := by simp [h1]
                  clear h0 h1 h2
                  go_wp2_with fail
                  go_meet
                  exact ⟨rfl, rfl⟩
                · have dC : decide ((0 : Int) < (C : Int)) = false := decide_eq_false (by omega)
                  have dC2 : decide (0 < C) = false := decide_eq_false hC
                  have hbC := Lib.hid hC
                  clear hC
                  -- the mode parts the last test; false: is anything claimed
                  by_cases h0 : m.mode = 0
                  · have x0 : (m.mode == 0) = true := by simp [h0]
                    have x2 : (m.mode == 2) = false := by simp [h0]
                    have x1 : (m.mode == 1) = false := by simp [h0]
                    obtain ⟨y1, y2⟩ := HM3.out h0
                    have z0 : (T != m.cs.length) = false := by simp; omega
                    have z1 : ((T : Int) != (m.cs.length : Int)) = false := by simp; omega
                    have z2 : decide (0 < (m.l 1).length) = false := by
                      have := hbC.out
                      simp only [decide_eq_true_eq, decide_eq_false_iff_not]
                      omega
                    have z3 : decide ((0 : Int) < ((m.l 1).length : Int)) = false := by
                      have := hbC.out
                      simp only [decide_eq_true_eq, decide_eq_false_iff_not]
                      omega
                    clear h0 y1 y2
                    go_wp2_with fail
                    go_meet
                    exact ⟨rfl, rfl⟩
                  have x0 : (m.mode == 0) = false := by simp [h0]
                  by_cases h2 : m.mode = 2
                  · have x2 : (m.mode == 2) = true := by simp [h2]
                    have x1 : (m.mode == 1) = false := by simp [h2]
                    have y1 := HM4.out h2
                    have z1 : (T != m.cs.length / 2) = false := by simp; omega
                    have z2 : ((T : Int) != (m.cs.length : Int) / 2) = false := by simp; omega
                    clear h0 h2 y1
                    go_wp2_with fail
                    go_meet
                    exact ⟨rfl, rfl⟩
                  have x2 : (m.mode == 2) = false := by simp [h2]
                  by_cases h1 : m.mode = 1
                  · have x1 : (m.mode == 1) = true := by simp [h1]
                    have y1 := HM5.out h1
                    have z1 : decide (1 < (m.l 1).length) = false := decide_eq_false (by omega)
                    have z2 : decide ((1 : Int) < ((m.l 1).length : Int)) = false := decide_eq_false (by omega)
                    clear h0 h1 h2 y1
                    go_wp2_with fail
                    go_meet
                    exact ⟨rfl, rfl⟩
                  have x1 : (m.mode == 1) = false := by simp [h1]
                  clear h0 h1 h2
                  go_wp2_with fail
                  go_meet
                  exact ⟨rfl, rfl⟩
              case rest =>
              obtain ⟨rfl, hwx⟩ := hcut
              rw [hwx]
              clear hwx
              go_wp2_with fail
              go_roundw
              case rel => exact ⟨i + 1, by omega, by go_num, hz.out⟩
              case measure => simp [intOf]; omega
    · obtain rfl : i = n1 := by omega
      go_wp2_with fail
      exact HEX.out _ _ _ _ _ _ _ _ _ _ _ _ _ _ _ _ _ _ _ _ _ _ _ _ _ _ _ _ _ _ _ _ _ _ _ _ _ _ _ _ _ _ _ _ _ _ _ _ _ _ _ _ _ _ _ _ _ _ _ _ _ _ _ _ _ _ _ _ _ _ _ _ _ _ _ _ _ _ _ _ _ _ _ _ _ _ _ _ _ _ _ _ _ _ _ _ _ _ _ _ _ _ _ _ _ _ _ _ _ _ _ _ _ _ _ _ _ _ _ _ _ _ _ _ _ _ _ _ _ _ _ _ _ _ _ _ _ _ _ _ _ _ _ _ _ _ _ _ _ _ _ _ _ _ _ _ _ _ _ _ _ _ _ _ _ _ _ _ _ _ _ _ _ _ _ _ _ _ _ _ _ _ _ _ _ _ _ _ _ _ _ _ _ _ _ _ _ _ _ _ _ _ _ _ _ _ _ _ _ _ _ _ _ _ _ _ _ _ _ _ _ _ _ _ _ _ _ _ _ HI.out
end Go.Proofs.YtagmlemlagbfkaaGreatDoor
