/- FetchEnds: the loop that takes what is missing. -/
import Derived.Test.YtagmlemlagbfkaaGreatDoorPkFEnds15
import Derived.Test.YtagmlemlagbfkaaGreatDoorPkFEnds16
namespace Go.Proofs.YtagmlemlagbfkaaGreatDoor
open Go.RowKit
set_option linter.unusedVariables false
set_option linter.unusedSimpArgs false
attribute [local irreducible] Calls

theorem and62 (x : Int) : bits .and .i64 x 4611686018427387903 = x % 4611686018427387904 := by
  have e : (BitVec.ofInt IntKind.i64.bits x &&& BitVec.ofInt IntKind.i64.bits 4611686018427387903).toNat = (x % 4611686018427387904).toNat := by
    rw [BitVec.toNat_and]
    have h1 : (BitVec.ofInt IntKind.i64.bits 4611686018427387903).toNat = 2 ^ 62 - 1 := by decide
    rw [h1, Nat.and_two_pow_sub_one_eq_mod, BitVec.toNat_ofInt]
    simp only [IntKind.bits]
    omega
  show IntKind.i64.wrap ((BitVec.ofInt IntKind.i64.bits x &&& BitVec.ofInt IntKind.i64.bits 4611686018427387903).toNat : Int) = _
  rw [e, IntKind.wrap_i64]
  omega
/-- The fetch between two rounds. -/
def TkI (W : World) (db fb : Nat) (cs : List (List UInt8)) (m : Ck.Man) (n : Nat) (w : World) : Prop :=
  ∃ x j D, FtR.fb x = fb ∧ FS W db x j cs m D (fun _ => False) w ∧ Ft.Go_ D j cs m n ∧ (Ft.gone cs m j).length + n ≤ m.chunks.length
def wrongL : List UInt8 := [119, 114, 111, 110, 103, 32, 116, 101, 120, 116]
theorem own_at {cs : List (List UInt8)} {mc : List Int} {k : Nat} (hk : k < mc.length) : ownT cs mc k [] = textAtU cs mc[k] := by
  unfold ownT
  rw [if_neg (by rintro (h | h | h); exact h rfl; omega; omega)]
  simp [hk]
set_option maxHeartbeats 16000000 in
set_option maxRecDepth 100000 in
theorem fe_take {W z : World} (g : Gl W) (db fb : Nat) (cs : List (List UInt8)) (mp mz : Int) (mc : List Int) (t : List UInt8) (HCt : Ft.Cut cs ⟨mp, mz, mc⟩ t) (hI : TkI W db fb cs ⟨mp, mz, mc⟩ 0 z) (av : Option Addr) (cv : Nat) (B1 : Nat) (hv : W.ownsRow B1 tStrMU 1 (.slice av cs.length cv) cs.length (cs.map bsMU)) (mb : Nat) (am : Option Addr) (cm : Nat) (lo hi : Nat) (hmc : Sl lo hi W (.slice am mc.length cm) (mc.map intD))
    (hmb : W.heap[mb]? = some (.cells #[.int .i64 mp, .int .i64 mz, .slice am mc.length cm] tManU (0, 0))) (oa : Option Addr) (oc : Nat) (R : List Int) (lo2 hi2 : Nat) (hor : Sl lo2 hi2 W (.slice oa R.length oc) (R.map intD)) (hR : R.length ≤ 60)
    (K0 : Act → World → Prop) { c0 c1 c2 c4 c5 c6 c7 c9 c10 c13 c14 c15 c16 c17 c18 c19 c20 c21 c23 c24 c25 c26 c27 c28 c34 c35 c36 c37 c38 c39 c40 c41 c42 c43 c44 c45 c46 c47 c48 c49 c50 c51 c52 c53 c54 c55 c56 c57 c58 c59 c60 c61 c62 c63 c64 c65 c66 c67 c68 c69 c70 c71 c72 c73 c74 c75 c76 c77 c78 c79 c80 c81 c82 c83 c84 c85 c86 c87 c88 c89 c90 c91 c92 c93 c94 c95 c96 c97 c98 c99 c100 c101 c102 c103 c104 c105 c106 c107 c108 c109 c110 c111 c112 c113 c114 c115 c116 c117 c118 c119 c120 c121 c122 c123 c124 c125 c126 c127 c128 c129 c130 c131 c132 c133 c134 c135 c136 c137 c138 c139 c140 c141 c142 c143 c144 c145 c146 c147 c148 c149 c150 c151 c152 c153 c154 c155 c156 c157 c158 c159 c160 c161 c162 c163 c164 c165 c166 c167 c168 c169 c170 c171 c172 c173 c174 c175 c176 c177 c178 c179 c180 c181 c182 c183 c184 c185 c186 c187 c188 c189 c190 c191 c192 c193 c194 c195 c196 c197 c198 c199 c200 c201 c202 c203 c204 c205 c206 c207 c208 c209 c210 c211 c212 c213 c214 c215 c216 c217 c218 c219 c220 c221 c222 c223 c224 c225 c226 c227 c228 c229 c230 c231 c232 c233 c234 c235 c236 c237 c238 c239 c240 c241 c242 c243 c244 c245 c246 c247 c248 c249 c250 c251 c252 c253 c254 c255 c256 c257 c258 c259 c342 c343 c344 c345 c346 c347 c348 c349 c350 c351 c352 c353 c354 c355 c356 : Value} { u8 u30 u31 u32 u33 u260 u261 u262 u263 u264 u265 u266 u267 u268 u269 u270 u271 u272 u273 u274 u275 u276 u277 u278 u279 u280 u281 u282 u283 u284 u285 u286 u287 u288 u289 u290 u291 u292 u293 u294 u295 u296 u297 u298 u299 u300 u301 u302 u303 u304 u305 u306 u307 u308 u309 u310 u311 u312 u313 u314 u315 u316 u317 u318 u319 u320 u321 u322 u323 u324 u325 u326 u327 u328 u329 u330 u331 u332 u333 u334 u335 u336 u337 u338 u339 u340 u341 : Value} {c : Code} (hc : loopAt Tryz.f5 6 = c)
    (hexit : ∀ (u8 u30 u31 u32 u33 u260 u261 u262 u263 u264 u265 u266 u267 u268 u269 u270 u271 u272 u273 u274 u275 u276 u277 u278 u279 u280 u281 u282 u283 u284 u285 u286 u287 u288 u289 u290 u291 u292 u293 u294 u295 u296 u297 u298 u299 u300 u301 u302 u303 u304 u305 u306 u307 u308 u309 u310 u311 u312 u313 u314 u315 u316 u317 u318 u319 u320 u321 u322 u323 u324 u325 u326 u327 u328 u329 u330 u331 u332 u333 u334 u335 u336 u337 u338 u339 u340 u341 nv : Value) (w' : World) (x : FtR) (j : Jr.Jn) (D : Dk.Disk) (n : Nat), x.fb = fb → FS W db x j cs ⟨mp, mz, mc⟩ D (fun _ => False) w' → Ft.Go_ D j cs ⟨mp, mz, mc⟩ n → n ≤ 60 → Ft.gone cs ⟨mp, mz, mc⟩ j = [] → K0 ⟨(List.toArray (c0 :: c1 :: c2 :: (.slice oa R.length oc) :: c4 :: c5 :: c6 :: c7 :: u8 :: c9 :: c10 :: (.slice av cs.length cv) :: (.pointer (some ⟨mb, 0, none⟩)) :: c13 :: c14 :: c15 :: c16 :: c17 :: c18 :: c19 :: c20 :: c21 :: (.pointer (some ⟨fb, 0, none⟩)) :: c23 :: c24 :: c25 :: c26 :: c27 :: c28 :: (nv) :: u30 :: u31 :: u32 :: u33 :: c34 :: c35 :: c36 :: c37 :: c38 :: c39 :: c40 :: c41 :: c42 :: c43 :: c44 :: c45 :: c46 :: c47 :: c48 :: c49 :: c50 :: c51 :: c52 :: c53 :: c54 :: c55 :: c56 :: c57 :: c58 :: c59 :: c60 :: c61 :: c62 :: c63 :: c64 :: c65 :: c66 :: c67 :: c68 :: c69 :: c70 :: c71 :: c72 :: c73 :: c74 :: c75 :: c76 :: c77 :: c78 :: c79 :: c80 :: c81 :: c82 :: c83 :: c84 :: c85 :: c86 :: c87 :: c88 :: c89 :: c90 :: c91 :: c92 :: c93 :: c94 :: c95 :: c96 :: c97 :: c98 :: c99 :: c100 :: c101 :: c102 :: c103 :: c104 :: c105 :: c106 :: c107 :: c108 :: c109 :: c110 :: c111 :: c112 :: c113 :: c114 :: c115 :: c116 :: c117 :: c118 :: c119 :: c120 :: c121 :: c122 :: c123 :: c124 :: c125 :: c126 :: c127 :: c128 :: c129 :: c130 :: c131 :: c132 :: c133 :: c134 :: c135 :: c136 :: c137 :: c138 :: c139 :: c140 :: c141 :: c142 :: c143 :: c144 :: c145 :: c146 :: c147 :: c148 :: c149 :: c150 :: c151 :: c152 :: c153 :: c154 :: c155 :: c156 :: c157 :: c158 :: c159 :: c160 :: c161 :: c162 :: c163 :: c164 :: c165 :: c166 :: c167 :: c168 :: c169 :: c170 :: c171 :: c172 :: c173 :: c174 :: c175 :: c176 :: c177 :: c178 :: c179 :: c180 :: c181 :: c182 :: c183 :: c184 :: c185 :: c186 :: c187 :: c188 :: c189 :: c190 :: c191 :: c192 :: c193 :: c194 :: c195 :: c196 :: c197 :: c198 :: c199 :: c200 :: c201 :: c202 :: c203 :: c204 :: c205 :: c206 :: c207 :: c208 :: c209 :: c210 :: c211 :: c212 :: c213 :: c214 :: c215 :: c216 :: c217 :: c218 :: c219 :: c220 :: c221 :: c222 :: c223 :: c224 :: c225 :: c226 :: c227 :: c228 :: c229 :: c230 :: c231 :: c232 :: c233 :: c234 :: c235 :: c236 :: c237 :: c238 :: c239 :: c240 :: c241 :: c242 :: c243 :: c244 :: c245 :: c246 :: c247 :: c248 :: c249 :: c250 :: c251 :: c252 :: c253 :: c254 :: c255 :: c256 :: c257 :: c258 :: c259 :: u260 :: u261 :: u262 :: u263 :: u264 :: u265 :: u266 :: u267 :: u268 :: u269 :: u270 :: u271 :: u272 :: u273 :: u274 :: u275 :: u276 :: u277 :: u278 :: u279 :: u280 :: u281 :: u282 :: u283 :: u284 :: u285 :: u286 :: u287 :: u288 :: u289 :: u290 :: u291 :: u292 :: u293 :: u294 :: u295 :: u296 :: u297 :: u298 :: u299 :: u300 :: u301 :: u302 :: u303 :: u304 :: u305 :: u306 :: u307 :: u308 :: u309 :: u310 :: u311 :: u312 :: u313 :: u314 :: u315 :: u316 :: u317 :: u318 :: u319 :: u320 :: u321 :: u322 :: u323 :: u324 :: u325 :: u326 :: u327 :: u328 :: u329 :: u330 :: u331 :: u332 :: u333 :: u334 :: u335 :: u336 :: u337 :: u338 :: u339 :: u340 :: u341 :: c342 :: c343 :: c344 :: c345 :: c346 :: c347 :: c348 :: c349 :: c350 :: c351 :: c352 :: c353 :: c354 :: c355 :: c356 :: [])), []⟩ w') :
    Code.wp Tryz.prog c (Exit.then K0 (fun _ _ _ => False)) ⟨(List.toArray (c0 :: c1 :: c2 :: (.slice oa R.length oc) :: c4 :: c5 :: c6 :: c7 :: u8 :: c9 :: c10 :: (.slice av cs.length cv) :: (.pointer (some ⟨mb, 0, none⟩)) :: c13 :: c14 :: c15 :: c16 :: c17 :: c18 :: c19 :: c20 :: c21 :: (.pointer (some ⟨fb, 0, none⟩)) :: c23 :: c24 :: c25 :: c26 :: c27 :: c28 :: (.int .i64 0) :: u30 :: u31 :: u32 :: u33 :: c34 :: c35 :: c36 :: c37 :: c38 :: c39 :: c40 :: c41 :: c42 :: c43 :: c44 :: c45 :: c46 :: c47 :: c48 :: c49 :: c50 :: c51 :: c52 :: c53 :: c54 :: c55 :: c56 :: c57 :: c58 :: c59 :: c60 :: c61 :: c62 :: c63 :: c64 :: c65 :: c66 :: c67 :: c68 :: c69 :: c70 :: c71 :: c72 :: c73 :: c74 :: c75 :: c76 :: c77 :: c78 :: c79 :: c80 :: c81 :: c82 :: c83 :: c84 :: c85 :: c86 :: c87 :: c88 :: c89 :: c90 :: c91 :: c92 :: c93 :: c94 :: c95 :: c96 :: c97 :: c98 :: c99 :: c100 :: c101 :: c102 :: c103 :: c104 :: c105 :: c106 :: c107 :: c108 :: c109 :: c110 :: c111 :: c112 :: c113 :: c114 :: c115 :: c116 :: c117 :: c118 :: c119 :: c120 :: c121 :: c122 :: c123 :: c124 :: c125 :: c126 :: c127 :: c128 :: c129 :: c130 :: c131 :: c132 :: c133 :: c134 :: c135 :: c136 :: c137 :: c138 :: c139 :: c140 :: c141 :: c142 :: c143 :: c144 :: c145 :: c146 :: c147 :: c148 :: c149 :: c150 :: c151 :: c152 :: c153 :: c154 :: c155 :: c156 :: c157 :: c158 :: c159 :: c160 :: c161 :: c162 :: c163 :: c164 :: c165 :: c166 :: c167 :: c168 :: c169 :: c170 :: c171 :: c172 :: c173 :: c174 :: c175 :: c176 :: c177 :: c178 :: c179 :: c180 :: c181 :: c182 :: c183 :: c184 :: c185 :: c186 :: c187 :: c188 :: c189 :: c190 :: c191 :: c192 :: c193 :: c194 :: c195 :: c196 :: c197 :: c198 :: c199 :: c200 :: c201 :: c202 :: c203 :: c204 :: c205 :: c206 :: c207 :: c208 :: c209 :: c210 :: c211 :: c212 :: c213 :: c214 :: c215 :: c216 :: c217 :: c218 :: c219 :: c220 :: c221 :: c222 :: c223 :: c224 :: c225 :: c226 :: c227 :: c228 :: c229 :: c230 :: c231 :: c232 :: c233 :: c234 :: c235 :: c236 :: c237 :: c238 :: c239 :: c240 :: c241 :: c242 :: c243 :: c244 :: c245 :: c246 :: c247 :: c248 :: c249 :: c250 :: c251 :: c252 :: c253 :: c254 :: c255 :: c256 :: c257 :: c258 :: c259 :: u260 :: u261 :: u262 :: u263 :: u264 :: u265 :: u266 :: u267 :: u268 :: u269 :: u270 :: u271 :: u272 :: u273 :: u274 :: u275 :: u276 :: u277 :: u278 :: u279 :: u280 :: u281 :: u282 :: u283 :: u284 :: u285 :: u286 :: u287 :: u288 :: u289 :: u290 :: u291 :: u292 :: u293 :: u294 :: u295 :: u296 :: u297 :: u298 :: u299 :: u300 :: u301 :: u302 :: u303 :: u304 :: u305 :: u306 :: u307 :: u308 :: u309 :: u310 :: u311 :: u312 :: u313 :: u314 :: u315 :: u316 :: u317 :: u318 :: u319 :: u320 :: u321 :: u322 :: u323 :: u324 :: u325 :: u326 :: u327 :: u328 :: u329 :: u330 :: u331 :: u332 :: u333 :: u334 :: u335 :: u336 :: u337 :: u338 :: u339 :: u340 :: u341 :: c342 :: c343 :: c344 :: c345 :: c346 :: c347 :: c348 :: c349 :: c350 :: c351 :: c352 :: c353 :: c354 :: c355 :: c356 :: [])), []⟩ z := by
  subst hc
  have HI := Lib.hid hI
  have HV := Lib.hid hv
  have HMC := Lib.hid hmc
  have HMB := Lib.hid hmb
  have HOR := Lib.hid (int_cells hor)
  have HEX := Lib.hid hexit
  have HC := Lib.hid HCt
  have hm1 : (mc.length : Int) ≤ 60 := by have := HCt.chunks; dsimp only at this; omega
  have hR1 : (R.length : Int) ≤ 60 := by omega
  clear hI hv hmc hmb hor hexit HCt
  conv => arg 2; whnf
  go_wp2_with fail
  go_loopw [29] (fun nv wr => ∃ n : Nat, n ≤ 60 ∧ nv = .int .i64 (n : Int) ∧ Hid (TkI W db fb cs ⟨mp, mz, mc⟩ n wr)) (fun nv _ => 60 - (intOf nv).toNat)
  case atStart => exact ⟨0, Nat.zero_le _, rfl, HI.out⟩
  case round =>
    obtain ⟨n, hn, rfl, HJ⟩ := hrel
    obtain ⟨x, j, D, hx, hfs, hgo, hlen⟩ := HJ.out
    have hn1 : (n : Int) ≤ 60 := by omega
    dsimp only at hlen
    have hrl : j.recs.length ≤ 1000000 := by have := hgo.len; omega
    have hmi := fmissing_t hfs g (by dsimp only; omega) hrl
    rw [hx] at hmi
    have HMi := Lib.hid hmi
    have HFS := Lib.hid hfs
    have HGo := Lib.hid hgo
    have HX := Lib.hid hx
    clear hmi hx hgo hfs
    generalize hG : Ft.gone cs ⟨mp, mz, mc⟩ j = G at *
    have HG := Lib.hid hG
    clear hG
    have hGl1 : (G.length : Int) ≤ 60 := by omega
    by_cases hnil : G = []
    · have hl0 : G.length = 0 := by rw [hnil]; rfl
      have hd : decide (0 < G.length) = false := decide_eq_false (by omega)
      have hE := Lib.hid (fun w' (u : Nw wr w') => And.intro (HFS.out.nw u) (HG.out.trans hnil))
      clear hnil hl0
      generalize G.length = gl at *
      go_wp2_with fail
      (with_reducible refine (HMi.out).mono ?_)
      rintro _ w2 ⟨v2, rfl, o2, u2⟩
      obtain ⟨a2, c2, rfl⟩ := own_slG o2
      have U2 := Lib.hid u2
      clear o2 u2 HMi
      go_wp2_with fail
      exact HEX.out _ _ _ _ _ _ _ _ _ _ _ _ _ _ _ _ _ _ _ _ _ _ _ _ _ _ _ _ _ _ _ _ _ _ _ _ _ _ _ _ _ _ _ _ _ _ _ _ _ _ _ _ _ _ _ _ _ _ _ _ _ _ _ _ _ _ _ _ _ _ _ _ _ _ _ _ _ _ _ _ _ _ _ _ _ _ _ _ _ x j D n HX.out (hE.out _ U2.out).1 HGo.out hn (hE.out _ U2.out).2
    · have hpos : 0 < G.length := List.length_pos_iff.2 hnil
      have hd : decide (0 < G.length) = true := decide_eq_true hpos
      have hn59 : n + 1 ≤ 60 := by omega
      go_wp2_with fail
      (with_reducible refine (HMi.out).mono ?_)
      rintro _ w2 ⟨v2, rfl, o2, u2⟩
      obtain ⟨a2, c2, rfl⟩ := own_slG o2
      have S2 := Lib.hid (HFS.out.nw u2)
      have hmi2 := fmissing_t S2.out g (by dsimp only; omega) hrl
      rw [HX.out, HG.out] at hmi2
      have HMi2 := Lib.hid hmi2
      clear o2 u2 HMi hmi2 HFS
      go_wp2_with fail
      (with_reducible refine (HMi2.out).mono ?_)
      rintro _ w3 ⟨v3, rfl, o3, u3⟩
      obtain ⟨a3, c3, rfl⟩ := own_slG o3
      have S3 := Lib.hid (S2.out.keep (F' := fun k => (Value.slice a3 G.length c3).ownBlock = some k) u3 (fun k e => Or.inr (o3.lt k e)))
      have HO3 := Lib.hid o3
      clear o3 u3 HMi2 S2
      have hnpos : (0 : Int) < G.length := by omega
      by_cases hno : n < R.length
      · have hno1 : (n : Int) < R.length := by omega
        rcases HOR.out with ⟨_, _, e, _, hnl | ⟨bo, oo, e2, _, _, hco⟩⟩
        · simp [hnl] at hno
        injection e with e3 e4 e5
        subst e3 e5
        subst e2
        have r0 := nw_cell S3.out.nw0 (hco n hno)
        have ha := and62 R[n]
        obtain ⟨qn, hqn⟩ : ∃ qn : Nat, R[n] % 4611686018427387904 = qn := ⟨(R[n] % 4611686018427387904).toNat, by omega⟩
        rw [hqn] at ha
        have hqb : (qn : Int) ≤ 4611686018427387903 := by omega
        obtain ⟨kk, hkk, hkq⟩ : ∃ kk : Nat, kk < G.length ∧ (qn : Int) % (G.length : Int) = kk := ⟨qn % G.length, Nat.mod_lt _ hpos, by omega⟩
        clear hco hqn
        generalize R[n] = rn at *
        -- kk: the index among what is missing
        obtain ⟨_, _, ev, _, hce⟩ := int_cells (Sl.of_owns HO3.out)
        rcases hce with hnl | ⟨b3, o3, eb3, _, _, hce⟩
        · exact absurd hnl hnil
        injection ev with ev1 ev2 ev3
        subst ev1 ev3
        subst eb3
        have g0 := hce kk hkk
        (try simp only [Nat.add_zero] at g0)
        have hGm : G[kk] ∈ Ft.gone cs ⟨mp, mz, mc⟩ j := by rw [HG.out]; exact List.getElem_mem hkk
        obtain ⟨q, hq, hqe, hqn⟩ := Ft.miss_at hGm
        dsimp only at hq hqn
        rw [hqe] at g0
        have hkk1 : ((kk : Nat) : Int) < G.length := by omega
        have hq1 : (q : Int) < mc.length := by omega
        have hq2 : decide ((q : Int) < 0) = false := decide_eq_false (by omega)
        have hq3 : decide ((mc.length : Int) ≤ (q : Int)) = false := decide_eq_false (by omega)
        have hb3 := Nw.keep S3.out.nw0 HMB.out
        have m2 : w3.cell? ⟨mb, 2, none⟩ = some (.slice am mc.length cm) := by rw [cells_cell hb3]; rfl
        obtain ⟨hea, hen, hel⟩ := HC.out.each mc[q] (List.getElem_mem hq)
        have hqI : I64 (q : Int) := I64_s (by omega)
        have htw := take_t S3.out g (by dsimp only; omega) hrl HC.out.len HC.out.nodup hqI (t := wrongL) (by decide)
        unfold TakeD at htw
        rw [Ft.take_wrong (cs := cs) (m := ⟨mp, mz, mc⟩) hq (t := wrongL) (fun e => by rw [e] at hel; revert hel; decide), HX.out] at htw
        have HTw : Hid (Calls Tryz.prog 42 #[.pointer (some ⟨fb, 0, none⟩), .int .i64 (q : Int), .string ⟨#[119, 114, 111, 110, 103, 32, 116, 101, 120, 116]⟩] w3 _) := htw
        have HQn := Lib.hid (And.intro hqn (And.intro hea hel))
        have HQi := Lib.hid hqI
        clear hce hGm hqe hqn hb3 hea hen hel htw hqI
        go_wp2_with fail
        (with_reducible refine (HTw.out).mono ?_)
        rintro _ w4 ⟨rfl, x4, f4, s4, m4⟩
        have HO4 := Lib.hid (owns_kept HO3.out m4 (fun k e => Or.inl e))
        have hmi4 := fmissing_t s4 g (by dsimp only; omega) hrl
        rw [f4, HG.out] at hmi4
        have HMi4 := Lib.hid hmi4
        have S4 := Lib.hid s4
        have F4 := Lib.hid f4
        clear hmi4 s4 m4 f4 HTw g0 m2
        go_wp2_with fail
        (with_reducible refine (HMi4.out).mono ?_)
        rintro _ w5 ⟨v5, rfl, o5, u5⟩
        obtain ⟨a5, c5', rfl⟩ := own_slG o5
        have S5 := Lib.hid (S4.out.nw u5)
        have HO5 := Lib.hid (owns_upd' HO4.out u5 (fun _ _ e => e))
        have hl2 : (G.length == G.length) = true := by simp
        have hl3 : (G.length != G.length) = false := by simp
        have hb5 := Nw.keep S5.out.nw0 HMB.out
        have k0 : w5.cell? ⟨mb, 0, none⟩ = some (.int .i64 mp) := by rw [cells_cell hb5]; rfl
        have k1 : w5.cell? ⟨mb, 1, none⟩ = some (.int .i64 mz) := by rw [cells_cell hb5]; rfl
        have k2 : w5.cell? ⟨mb, 2, none⟩ = some (.slice am mc.length cm) := by rw [cells_cell hb5]; rfl
        have hown := own_c _ _ _ _ _ cs mp mz _ mc (q : Int) HQi.out [] w5 (Sl.of_owns (owns_upd' HV.out S5.out.nw0 (fun _ _ e => e))) HC.out.len (HMC.out.nw S5.out.nw0) (by omega)
        rw [own_at hq] at hown
        have HOwn : Hid (Calls Tryz.prog 43 #[.slice av cs.length cv, .agg #[.int .i64 mp, .int .i64 mz, .slice am mc.length cm], .int .i64 (q : Int), .string ⟨#[]⟩] w5 fun e w' => e = .returned (.string ⟨(textAtU cs mc[q]).toArray⟩) ∧ Nw w5 w') := hown
        clear o5 u5 hb5 hown HMi4 S4
        go_wp2_with fail
        (with_reducible refine (HOwn.out).mono ?_)
        rintro _ w6 ⟨rfl, u6⟩
        have S6 := Lib.hid (S5.out.nw u6)
        have HO6 := Lib.hid (owns_upd' HO5.out u6 (fun _ _ e => e))
        obtain ⟨D', ht1, ht2, ht3⟩ := Ft.take_new (cs := cs) (m := ⟨mp, mz, mc⟩) HC.out.nodup HGo.out (by omega) hq HQn.out.2.1 (Nat.le_trans HQn.out.2.2 (by decide)) HQn.out.1
        dsimp only at ht1 ht2 ht3
        have htk := take_t S6.out g (by dsimp only; omega) hrl HC.out.len HC.out.nodup HQi.out (t := textAtU cs mc[q]) (by have := HQn.out.2.2; omega)
        unfold TakeD at htk
        rw [ht1, F4.out] at htk
        have HTk := Lib.hid htk
        have HT2 := Lib.hid ht2
        have HT3 := Lib.hid ht3
        have hls := Ft.gone_less (l := mc) (h1 := Ft.come cs j) (p := mc[q]) (List.getElem_mem hq) HQn.out.1
        have hgd : Ft.gone cs ⟨mp, mz, mc⟩ { j with recs := j.recs ++ [textAtU cs mc[q]] } = Ft.miss mc (Ft.come cs j ++ [mc[q]]) := by
          show Ft.miss mc (Ft.come cs { j with recs := j.recs ++ [textAtU cs mc[q]] }) = _
          rw [ht3]
        have hG0 : Ft.miss mc (Ft.come cs j) = G := HG.out
        rw [hG0] at hls
        have hag := Ft.take_again (D := D') (cs := cs) (m := ⟨mp, mz, mc⟩) (j := { j with recs := j.recs ++ [textAtU cs mc[q]] }) hq HQn.out.2.1 (by dsimp only; rw [ht3]; simp)
        dsimp only at hag
        have hrl2 : ({ j with recs := j.recs ++ [textAtU cs mc[q]] } : Jr.Jn).recs.length ≤ 1000000 := by have := ht2.len; omega
        generalize hj2 : ({ j with recs := j.recs ++ [textAtU cs mc[q]] } : Jr.Jn) = j2 at *
        have HLs := Lib.hid hls
        have HGd := Lib.hid hgd
        have HAg := Lib.hid hag
        clear htk ht1 ht2 ht3 hls hgd hag u6 HOwn k0 k1 k2 hj2 hG0
        go_wp2_with fail
        (with_reducible refine (HTk.out).mono ?_)
        rintro _ w7 ⟨rfl, x7, f7, s7, m7⟩
        have HO7 := owns_kept HO6.out m7 (fun k e => Or.inl e)
        have hta := take_t s7 g (by dsimp only; omega) hrl2 HC.out.len HC.out.nodup HQi.out (t := textAtU cs mc[q]) (by have := HQn.out.2.2; omega)
        unfold TakeD at hta
        rw [HAg.out, f7] at hta
        have HTa := Lib.hid hta
        have HO7h := Lib.hid HO7
        clear hta HO7 s7 m7 f7 HTk
        go_wp2_with fail
        (with_reducible refine (HTa.out).mono ?_)
        rintro _ w8 ⟨rfl, x8, f8, s8, m8⟩
        have HO8 := Lib.hid (owns_kept HO7h.out m8 (fun k e => Or.inl e))
        have hm8 := fmissing_t s8 g (by dsimp only; omega) hrl2
        rw [f8, HGd.out] at hm8
        have HM8 := Lib.hid hm8
        have S8 := Lib.hid s8
        have F8 := Lib.hid f8
        clear hm8 s8 m8 f8 HTa
        generalize hG2 : Ft.miss mc (Ft.come cs j ++ [mc[q]]) = G2 at *
        have hG2l : G2.length < G.length := HLs.out.1
        have hG2i : (G2.length : Int) ≤ 60 := by omega
        go_wp2_with fail
        (with_reducible refine (HM8.out).mono ?_)
        rintro _ w9 ⟨v9, rfl, o9, u9⟩
        have S9 := Lib.hid (S8.out.nw u9)
        have HO9 := owns_upd' HO8.out u9 (fun _ _ e => e)
        have hwi := within_c _ _ _ _ _ _ G2 G w9 (Sl.of_owns o9) (Sl.of_owns HO9) (by omega) (by omega)
        have hwd : wdB G2 G = true := wd_yes (fun i h => HLs.out.2 _ (List.getElem_mem h))
        rw [hwd] at hwi
        obtain ⟨a9, c9', rfl⟩ := own_slG o9
        have HWi := Lib.hid hwi
        clear o9 u9 HO9 hwi hwd HM8
        go_wp2_with fail
        (with_reducible refine (HWi.out).mono ?_)
        rintro _ w10 ⟨rfl, u10⟩
        have S10 := Lib.hid (S9.out.nw u10)
        have hm10 := fmissing_t S10.out g (by dsimp only; omega) hrl2
        rw [F8.out, HGd.out] at hm10
        have HM10 := Lib.hid hm10
        clear u10 HWi hm10 S9
        go_wp2_with fail
        (with_reducible refine (HM10.out).mono ?_)
        rintro _ w11 ⟨v11, rfl, o11, u11⟩
        have S11 := Lib.hid (S10.out.nw u11)
        obtain ⟨a11, c11', rfl⟩ := own_slG o11
        have hle : decide (G.length ≤ G2.length) = false := decide_eq_false (by omega)
        clear o11 u11 HM10
        go_wp2_with fail
        go_roundw
        case rel => exact ⟨n + 1, by omega, by go_num, x8, j2, D', F8.out, S11.out.keep (Upd.refl _ _) (fun k hk => hk.elim), HT2.out, by rw [HGd.out]; dsimp only; omega⟩
        case measure => simp [intOf]; omega
      · have hno1 : ¬ ((n : Int) < R.length) := by omega
        have hkk : 0 < G.length := hpos
        -- 0: the index among what is missing
        obtain ⟨_, _, ev, _, hce⟩ := int_cells (Sl.of_owns HO3.out)
        rcases hce with hnl | ⟨b3, o3, eb3, _, _, hce⟩
        · exact absurd hnl hnil
        injection ev with ev1 ev2 ev3
        subst ev1 ev3
        subst eb3
        have g0 := hce 0 hkk
        (try simp only [Nat.add_zero] at g0)
        have hGm : G[0] ∈ Ft.gone cs ⟨mp, mz, mc⟩ j := by rw [HG.out]; exact List.getElem_mem hkk
        obtain ⟨q, hq, hqe, hqn⟩ := Ft.miss_at hGm
        dsimp only at hq hqn
        rw [hqe] at g0
        have hkk1 : ((0 : Nat) : Int) < G.length := by omega
        have hq1 : (q : Int) < mc.length := by omega
        have hq2 : decide ((q : Int) < 0) = false := decide_eq_false (by omega)
        have hq3 : decide ((mc.length : Int) ≤ (q : Int)) = false := decide_eq_false (by omega)
        have hb3 := Nw.keep S3.out.nw0 HMB.out
        have m2 : w3.cell? ⟨mb, 2, none⟩ = some (.slice am mc.length cm) := by rw [cells_cell hb3]; rfl
        obtain ⟨hea, hen, hel⟩ := HC.out.each mc[q] (List.getElem_mem hq)
        have hqI : I64 (q : Int) := I64_s (by omega)
        have htw := take_t S3.out g (by dsimp only; omega) hrl HC.out.len HC.out.nodup hqI (t := wrongL) (by decide)
        unfold TakeD at htw
        rw [Ft.take_wrong (cs := cs) (m := ⟨mp, mz, mc⟩) hq (t := wrongL) (fun e => by rw [e] at hel; revert hel; decide), HX.out] at htw
        have HTw : Hid (Calls Tryz.prog 42 #[.pointer (some ⟨fb, 0, none⟩), .int .i64 (q : Int), .string ⟨#[119, 114, 111, 110, 103, 32, 116, 101, 120, 116]⟩] w3 _) := htw
        have HQn := Lib.hid (And.intro hqn (And.intro hea hel))
        have HQi := Lib.hid hqI
        clear hce hGm hqe hqn hb3 hea hen hel htw hqI
        go_wp2_with fail
        (with_reducible refine (HTw.out).mono ?_)
        rintro _ w4 ⟨rfl, x4, f4, s4, m4⟩
        have HO4 := Lib.hid (owns_kept HO3.out m4 (fun k e => Or.inl e))
        have hmi4 := fmissing_t s4 g (by dsimp only; omega) hrl
        rw [f4, HG.out] at hmi4
        have HMi4 := Lib.hid hmi4
        have S4 := Lib.hid s4
        have F4 := Lib.hid f4
        clear hmi4 s4 m4 f4 HTw g0 m2
        go_wp2_with fail
        (with_reducible refine (HMi4.out).mono ?_)
        rintro _ w5 ⟨v5, rfl, o5, u5⟩
        obtain ⟨a5, c5', rfl⟩ := own_slG o5
        have S5 := Lib.hid (S4.out.nw u5)
        have HO5 := Lib.hid (owns_upd' HO4.out u5 (fun _ _ e => e))
        have hl2 : (G.length == G.length) = true := by simp
        have hl3 : (G.length != G.length) = false := by simp
        have hb5 := Nw.keep S5.out.nw0 HMB.out
        have k0 : w5.cell? ⟨mb, 0, none⟩ = some (.int .i64 mp) := by rw [cells_cell hb5]; rfl
        have k1 : w5.cell? ⟨mb, 1, none⟩ = some (.int .i64 mz) := by rw [cells_cell hb5]; rfl
        have k2 : w5.cell? ⟨mb, 2, none⟩ = some (.slice am mc.length cm) := by rw [cells_cell hb5]; rfl
        have hown := own_c _ _ _ _ _ cs mp mz _ mc (q : Int) HQi.out [] w5 (Sl.of_owns (owns_upd' HV.out S5.out.nw0 (fun _ _ e => e))) HC.out.len (HMC.out.nw S5.out.nw0) (by omega)
        rw [own_at hq] at hown
        have HOwn : Hid (Calls Tryz.prog 43 #[.slice av cs.length cv, .agg #[.int .i64 mp, .int .i64 mz, .slice am mc.length cm], .int .i64 (q : Int), .string ⟨#[]⟩] w5 fun e w' => e = .returned (.string ⟨(textAtU cs mc[q]).toArray⟩) ∧ Nw w5 w') := hown
        clear o5 u5 hb5 hown HMi4 S4
        go_wp2_with fail
        (with_reducible refine (HOwn.out).mono ?_)
        rintro _ w6 ⟨rfl, u6⟩
        have S6 := Lib.hid (S5.out.nw u6)
        have HO6 := Lib.hid (owns_upd' HO5.out u6 (fun _ _ e => e))
        obtain ⟨D', ht1, ht2, ht3⟩ := Ft.take_new (cs := cs) (m := ⟨mp, mz, mc⟩) HC.out.nodup HGo.out (by omega) hq HQn.out.2.1 (Nat.le_trans HQn.out.2.2 (by decide)) HQn.out.1
        dsimp only at ht1 ht2 ht3
        have htk := take_t S6.out g (by dsimp only; omega) hrl HC.out.len HC.out.nodup HQi.out (t := textAtU cs mc[q]) (by have := HQn.out.2.2; omega)
        unfold TakeD at htk
        rw [ht1, F4.out] at htk
        have HTk := Lib.hid htk
        have HT2 := Lib.hid ht2
        have HT3 := Lib.hid ht3
        have hls := Ft.gone_less (l := mc) (h1 := Ft.come cs j) (p := mc[q]) (List.getElem_mem hq) HQn.out.1
        have hgd : Ft.gone cs ⟨mp, mz, mc⟩ { j with recs := j.recs ++ [textAtU cs mc[q]] } = Ft.miss mc (Ft.come cs j ++ [mc[q]]) := by
          show Ft.miss mc (Ft.come cs { j with recs := j.recs ++ [textAtU cs mc[q]] }) = _
          rw [ht3]
        have hG0 : Ft.miss mc (Ft.come cs j) = G := HG.out
        rw [hG0] at hls
        have hag := Ft.take_again (D := D') (cs := cs) (m := ⟨mp, mz, mc⟩) (j := { j with recs := j.recs ++ [textAtU cs mc[q]] }) hq HQn.out.2.1 (by dsimp only; rw [ht3]; simp)
        dsimp only at hag
        have hrl2 : ({ j with recs := j.recs ++ [textAtU cs mc[q]] } : Jr.Jn).recs.length ≤ 1000000 := by have := ht2.len; omega
        generalize hj2 : ({ j with recs := j.recs ++ [textAtU cs mc[q]] } : Jr.Jn) = j2 at *
        have HLs := Lib.hid hls
        have HGd := Lib.hid hgd
        have HAg := Lib.hid hag
        clear htk ht1 ht2 ht3 hls hgd hag u6 HOwn k0 k1 k2 hj2 hG0
        go_wp2_with fail
        (with_reducible refine (HTk.out).mono ?_)
        rintro _ w7 ⟨rfl, x7, f7, s7, m7⟩
        have HO7 := owns_kept HO6.out m7 (fun k e => Or.inl e)
        have hta := take_t s7 g (by dsimp only; omega) hrl2 HC.out.len HC.out.nodup HQi.out (t := textAtU cs mc[q]) (by have := HQn.out.2.2; omega)
        unfold TakeD at hta
        rw [HAg.out, f7] at hta
        have HTa := Lib.hid hta
        have HO7h := Lib.hid HO7
        clear hta HO7 s7 m7 f7 HTk
        go_wp2_with fail
        (with_reducible refine (HTa.out).mono ?_)
        rintro _ w8 ⟨rfl, x8, f8, s8, m8⟩
        have HO8 := Lib.hid (owns_kept HO7h.out m8 (fun k e => Or.inl e))
        have hm8 := fmissing_t s8 g (by dsimp only; omega) hrl2
        rw [f8, HGd.out] at hm8
        have HM8 := Lib.hid hm8
        have S8 := Lib.hid s8
        have F8 := Lib.hid f8
        clear hm8 s8 m8 f8 HTa
        generalize hG2 : Ft.miss mc (Ft.come cs j ++ [mc[q]]) = G2 at *
        have hG2l : G2.length < G.length := HLs.out.1
        have hG2i : (G2.length : Int) ≤ 60 := by omega
        go_wp2_with fail
        (with_reducible refine (HM8.out).mono ?_)
        rintro _ w9 ⟨v9, rfl, o9, u9⟩
        have S9 := Lib.hid (S8.out.nw u9)
        have HO9 := owns_upd' HO8.out u9 (fun _ _ e => e)
        have hwi := within_c _ _ _ _ _ _ G2 G w9 (Sl.of_owns o9) (Sl.of_owns HO9) (by omega) (by omega)
        have hwd : wdB G2 G = true := wd_yes (fun i h => HLs.out.2 _ (List.getElem_mem h))
        rw [hwd] at hwi
        obtain ⟨a9, c9', rfl⟩ := own_slG o9
        have HWi := Lib.hid hwi
        clear o9 u9 HO9 hwi hwd HM8
        go_wp2_with fail
        (with_reducible refine (HWi.out).mono ?_)
        rintro _ w10 ⟨rfl, u10⟩
        have S10 := Lib.hid (S9.out.nw u10)
        have hm10 := fmissing_t S10.out g (by dsimp only; omega) hrl2
        rw [F8.out, HGd.out] at hm10
        have HM10 := Lib.hid hm10
        clear u10 HWi hm10 S9
        go_wp2_with fail
        (with_reducible refine (HM10.out).mono ?_)
        rintro _ w11 ⟨v11, rfl, o11, u11⟩
        have S11 := Lib.hid (S10.out.nw u11)
        obtain ⟨a11, c11', rfl⟩ := own_slG o11
        have hle : decide (G.length ≤ G2.length) = false := decide_eq_false (by omega)
        clear o11 u11 HM10
        go_wp2_with fail
        go_roundw
        case rel => exact ⟨n + 1, by omega, by go_num, x8, j2, D', F8.out, S11.out.keep (Upd.refl _ _) (fun k hk => hk.elim), HT2.out, by rw [HGd.out]; dsimp only; omega⟩
        case measure => simp [intOf]; omega
end Go.Proofs.YtagmlemlagbfkaaGreatDoor
