/- wave.Plan. -/
import Derived.Test.YtjlgmoemnhmgmaaGreatDoorPkWTells27
namespace Go.Proofs.YtjlgmoemnhmgmaaGreatDoor
open Go.RowKit Go.MapKept
open Go.Maps (Keyed)
set_option linter.unusedVariables false
set_option linter.unusedSimpArgs false
attribute [local irreducible] Calls
open Wv (Svc FL)

/-- 'out = append(out, xs...)', both own slices. -/
theorem wpList_catO {P : Program} {w : World} {ops : Array Oper} {rest : List Oper} {o : Oper} {a : Act} {Q : Exit → Act → World → Prop} (hgd : o.guard = none) (s x : Operand) (t : TypeId)
    (ho : o.op = .call { callee := .builtin .append, args := #[s, x], argTypes := #[t, t] })
    (base base2 : Nat) (e : TypeId) (z : Value) (size bytes : Nat) (ht : P.underlying t = some (.slice e)) (hinfo : (P.info? e).map (fun i => (i.zero, i.size, i.bytes)) = some (some z, size, bytes)) (hzs : z.cells.size = size) (hsz : 0 < size)
    (v vx : Value) (n m : Nat) (xs news : List Value) (hs : a.eval s = v) (hown : w.ownsRow base e size v n xs) (hx : a.eval x = vx) (hsrc : w.ownsRow base2 e size vx m news)
    (h1 : ∀ u ∈ news, u.oneCell' = true) (h63 : n + m ≤ maxLen) (hbytes : (n + m) * bytes ≤ 140737488355328) (hbase : base ≤ w.heap.size)
    (h : ∀ v' w', w'.ownsRow base e size v' (n + m) (xs ++ news) → w.grownBy w' v.ownBlock → (∀ k, v.ownBlock = some k → base ≤ k ∧ k < w.heap.size) → wpList P ops Q rest (a.put o.dst v') w') : wpList P ops Q (o :: rest) a w := by
  obtain ⟨i0, hi0, hz0, hz1, hz2⟩ := info_parts hinfo
  have hl0 := hsrc.1
  rcases hsrc.2 with ⟨rfl, rfl⟩ | ⟨b, cap, cur, rfl, hb, hg, hc, hm, hcs, htk⟩
  · obtain rfl : news = [] := List.eq_nil_of_length_eq_zero (by rw [hl0, Nat.zero_mul])
    refine wpList_plain hgd fun K hK => ?_
    have hr : (Builtin.append_ #[t, t] o.type #[v, .slice none 0 0]).run P w = .ok v w := by
      rcases hown.2 with ⟨rfl, rfl⟩ | ⟨g, cap, cur, rfl, _, _, hnc, _⟩
      · simp [Builtin.append_, run_underlying ht, sizeOf, typeInfo, hi0, Builtin.lenOf, Builtin.firstCells, loadCells, loadCellsFrom]
      · simp [Builtin.append_, run_underlying ht, sizeOf, typeInfo, hi0, Builtin.lenOf, Builtin.firstCells, hnc, storeCells, loadCells, loadCellsFrom]
    unfold Oper.wp execOp
    simp only [ho, resolve, invoke, builtin, Sem.run_bind, Sem.run_pure, Result.andThen_ok, List.map_toArray, List.map_cons, List.map_nil, hs, hx, hr]
    exact hK _ _ (h v w (by simpa using hown) ⟨rfl, rfl, rfl, Nat.le_refl _, fun _ _ _ => rfl⟩ hown.lt)
  · refine wpList_append_own _ hgd s x t ho base e i0 z size bytes ht hi0 hz0 hz1 hz2 hzs hsz v n xs hs hown ⟨b, 0, none⟩ m cap news hx hl0 ?_ h1 h63 hbytes hbase fun v' w' h2 h3 _ => h v' w' h2 h3 hown.lt
    intro j u hu
    have hj := (List.getElem?_eq_some_iff.1 hu).1
    rw [add_plain, cells_cell hg, Nat.zero_add]
    rw [← htk, List.getElem?_take, if_pos (by omega)] at hu
    simpa using hu
theorem WvO.cat {B B2 : Nat} {w w9 : World} {v v' : Value} {C1 C2 : List CW} (hB : B ≤ B2) (h1 : w.ownsRow B tWv 2 v C1.length (C1.map wvc).flatten) (h3 : ∀ c ∈ C1, c.own B w) (k3 : ∀ c ∈ C2, c.own B2 w)
    (o9 : w9.ownsRow B tWv 2 v' (C1.length + C2.length) ((C1.map wvc).flatten ++ (C2.map wvc).flatten)) (g9 : w.grownBy w9 v.ownBlock) : WvO B w9 v' (C1.map (·.2.2) ++ C2.map (·.2.2)) := by
  refine ⟨C1 ++ C2, by rw [List.map_append], by rw [List.length_append, List.map_append, List.flatten_append]; exact o9, fun c hc => ?_⟩
  have hk : c.own B w := by
    rcases List.mem_append.1 hc with h | h
    · exact h3 c h
    · exact ⟨owns_base (k3 c h).1 hB, (k3 c h).2⟩
  refine ⟨?_, hk.2⟩
  obtain ⟨q1, q2⟩ := hk.1
  refine ⟨q1, ?_⟩
  rcases q2 with q2 | ⟨gb, cap, cur, e, hb, hgg, r⟩
  · exact Or.inl q2
  · refine Or.inr ⟨gb, cap, cur, e, hb, grown_keep g9 hgg (fun e2 => ?_), r⟩
    obtain ⟨-, cs2, hcs2⟩ := own_block h1 e2
    rw [hgg] at hcs2
    injection hcs2 with hcs2
    injection hcs2 with _ hT
    exact absurd hT (by decide)
theorem wvc_one {C : List CW} : ∀ u ∈ (C.map wvc).flatten, u.oneCell' = true := by
  intro u hu
  obtain ⟨l, hl, hu⟩ := List.mem_flatten.1 hu
  obtain ⟨c, _, rfl⟩ := List.mem_map.1 hl
  unfold wvc at hu
  simp only [List.mem_cons, List.mem_nil_iff, or_false] at hu
  rcases hu with rfl | rfl <;> rfl
def holdB (h : Int) : Bool := decide (h < 0) || decide (1073741824 < h)
set_option maxRecDepth 100000 in
theorem plan1_c (h : Int) (w : World) : Calls Tryz.prog 37 #[.int .i64 h] w fun e w' => e = .returned (.bool (holdB h)) ∧ Nw w w' := by
  by_cases h1 : h < 0
  · have e9 : holdB h = true := by unfold holdB; rw [decide_eq_true h1]; rfl
    rw [e9]
    clear e9
    go_enter Tryz.func37, Tryz.ntmps37
    go_wp2_with fail
    go_ret
    exact ⟨rfl, Upd.refl _ _⟩
  · by_cases h2 : 1073741824 < h
    · have e9 : holdB h = true := by unfold holdB; rw [decide_eq_true h2]; simp
      rw [e9]
      clear e9
      go_enter Tryz.func37, Tryz.ntmps37
      go_wp2_with fail
      go_ret
      exact ⟨rfl, Upd.refl _ _⟩
    · have e9 : holdB h = false := by unfold holdB; rw [decide_eq_false h1, decide_eq_false h2]; rfl
      rw [e9]
      clear e9
      go_enter Tryz.func37, Tryz.ntmps37
      go_wp2_with fail
      go_ret
      exact ⟨rfl, Upd.refl _ _⟩
namespace Wv
theorem holdsOk_eq (holds : List Int) : holdsOk holds = !holds.any holdB := by
  unfold holdsOk
  rw [List.all_eq_not_any_not]
  congr 2
  funext h
  unfold holdB maxTime
  by_cases h1 : h < 0
  · have : ¬ 0 ≤ h := by omega
    simp [h1, this]
  · have : 0 ≤ h := by omega
    by_cases h2 : 1073741824 < h
    · have h3 : ¬ h ≤ 1073741824 := by omega
      simp [h1, h2, h3]
    · have h3 : h ≤ 1073741824 := by omega
      simp [h1, h2, h3, this]
def allTo (f : FL) (n : Nat) : Nat := (List.range n).foldl (fun a i => a ||| 1 <<< run f i) 0
theorem allTo_succ (f : FL) (n : Nat) : allTo f (n + 1) = allTo f n ||| 1 <<< run f n := by
  unfold allTo
  rw [List.range_succ, List.foldl_append]; rfl
theorem allTo_lt {f : FL} (hr : Rg f) : ∀ n, n ≤ f.runs.length → allTo f n < 256
  | 0, _ => by show 0 < 256; decide
  | n + 1, h => by
    rw [allTo_succ]
    exact (bit_or (allTo_lt hr n (by omega)) (by have := (run_lt hr (i := n) (by omega)).1; have := hr.old8; omega)).2
theorem planP_eq (f : FL) (quota : Int) : planP f quota = if talksP f quota 0 (-1) = true then restR f quota 0 else none := rfl
/-- The waves of the first services of an order. -/
def wavesOf (f : FL) (quota : Int) (holds : List Int) (o : List Nat) : List Wave := (o.map fun s => oneF f s quota holds).flatten
def planRes (f : FL) (quota : Int) (holds : List Int) : Option (List Nat) → List Wave × Int
  | none => ([], 27)
  | some o => (wavesOf f quota holds o, 0)
theorem planF_eq (f : FL) (quota : Int) (holds : List Int) : planF f quota holds = if right f = true ∧ 1 ≤ quota ∧ holdsOk holds = true then planRes f quota holds (planP f quota) else ([], 1) := by
  unfold planF
  by_cases h : right f = true ∧ 1 ≤ quota ∧ holdsOk holds = true
  · rw [if_pos h, if_pos h]
    cases planP f quota <;> rfl
  · rw [if_neg h, if_neg h]
theorem wavesOf_take {f : FL} {quota : Int} {holds : List Int} {o : List Nat} {n : Nat} (h : n < o.length) : wavesOf f quota holds (o.take (n + 1)) = wavesOf f quota holds (o.take n) ++ oneF f o[n] quota holds := by
  unfold wavesOf
  rw [List.take_succ_eq_append_getElem h, List.map_append, List.flatten_append]
  simp
theorem oneF_len (f : FL) (s : Nat) (quota : Int) (holds : List Int) : (oneF f s quota holds).length ≤ f.runs.length := by
  rw [oneF_spans, List.length_map]
  exact Nat.le_trans (spans_len _ _ _ _) (machTo_len f s f.runs.length)
theorem restP_mem {f : FL} {quota : Int} : ∀ n set o, restP f quota n set = some o → ∀ s ∈ o, s < f.old.length
  | 0, set, o, h, s, hs => by cases h
  | n + 1, set, o, h, s, hs => by
    unfold restP at h
    by_cases he : set = allBits f
    · rw [if_pos he] at h; injection h with h; subst h; cases hs
    · rw [if_neg he] at h
      obtain ⟨l1, a, l2, h1, h2, h3⟩ := List.findSome?_eq_some_iff.1 h
      have ha : a < f.old.length := List.mem_range.1 (by rw [h1]; simp)
      by_cases hm : mayNext f quota set a = true
      · rw [if_pos hm] at h2
        obtain ⟨o2, h4, h5⟩ := Option.map_eq_some_iff.1 h2
        subst h5
        rcases List.mem_cons.1 hs with rfl | hs
        · exact ha
        · exact restP_mem n _ o2 h4 s hs
      · rw [if_neg hm] at h2; cases h2
end Wv
theorem Plan_results (tmps : Array Value) (w : World) : (results Tryz.f14 tmps).run Tryz.prog w = .ok (.tuple #[tmps.getD 6 undef, tmps.getD 7 undef]) w := by
  simp [results, Tryz.results14, go_sem]
/-- What a plan returns. -/
def PlanW (w : World) (r : List Wv.Wave × Int) (e : Ending) (w' : World) : Prop :=
  ∃ v', e = .returned (.tuple #[v', .int .i64 r.2]) ∧ Hid (WvO w.heap.size w' v' r.1 ∧ Nw w w')
theorem dead_new (w : World) (G : Nat → Prop) : DeadM (w.alloc (.map #[] 0)) w.heap.size G := ⟨[], MapL.made Tryz.prog 3 w, fun p hp => by cases hp⟩
set_option maxHeartbeats 16000000 in
set_option maxRecDepth 100000 in
theorem Plan_c (oa na ra ha : Option Addr) (oc nc rc hc : Nat) (f : FL) (quota : Int) (holds : List Int) (w : World) (g : Gm w) (h : FlAt w oa na ra oc nc f) (hs : Sm f) (hhc : IC w ha holds) (hhl : holds.length ≤ 100000) (hqm : quota ≤ 9223372036854775807) :
    Calls Tryz.prog 14 #[.agg (flV oa na ra oc nc rc f), .int .i64 quota, .slice ha holds.length hc] w (PlanW w (Wv.planF f quota holds)) := by
  unfold flV
  have n1 := nw_alloc w (.cells #[.slice oa f.old.length oc, .slice na f.new.length nc, .slice ra f.runs.length rc] tFl)
  have b1 := heap_new w (.cells #[.slice oa f.old.length oc, .slice na f.new.length nc, .slice ra f.runs.length rc] tFl)
  obtain ⟨W, hW⟩ : ∃ z, z = w.alloc (.cells #[.slice oa f.old.length oc, .slice na f.new.length nc, .slice ra f.runs.length rc] tFl) := ⟨_, rfl⟩
  rw [← hW] at n1 b1
  have hWs : W.heap.size = w.heap.size + 1 := by rw [hW]; simp
  have HWS : Hid (nG ≤ w.heap.size ∧ W.heap.size = w.heap.size + 1) := ⟨g.g.big, hWs⟩
  have HW := Lib.hid hW
  have HN := Lib.hid n1
  have HX : Hid (∀ y, Nw W y → y.cell? ⟨w.heap.size, 0, none⟩ = some (.slice oa f.old.length oc) ∧ y.cell? ⟨w.heap.size, 1, none⟩ = some (.slice na f.new.length nc) ∧ y.cell? ⟨w.heap.size, 2, none⟩ = some (.slice ra f.runs.length rc)) := fun y u => ⟨by rw [cells_cell (Nw.keep u b1)]; rfl, by rw [cells_cell (Nw.keep u b1)]; rfl, by rw [cells_cell (Nw.keep u b1)]; rfl⟩
  have HF := Lib.hid (h.nw n1)
  have HG := Lib.hid (g.upd n1)
  have hr1 := Lib.hid (wvRight_c oa na ra oc nc rc f W (g.upd n1) (h.nw n1) hs.o hs.n hs.r hs.so hs.sn)
  have HCF : Hid (∀ y, Nw W y → Calls Tryz.prog 36 #[.slice ha holds.length hc, .func (.func 37) #[] #[]] y fun e w' => e = .returned (.bool (holds.any holdB)) ∧ Nw y w') := fun y u => containsFunc_in0 37 (enters_of Tryz.func37 (by kernel_rfl) rfl) holdB ha hc holds y (IC.nw hhc (n1.trans u)) (by unfold maxLen; omega) (fun W2 x _ _ => plan1_c x W2)
  obtain ⟨rg, hrg⟩ : ∃ r, r = Wv.planF f quota holds := ⟨_, rfl⟩
  rw [← hrg]
  have HRG0 : Hid (rg = if Wv.right f = true ∧ 1 ≤ quota ∧ Wv.holdsOk holds = true then Wv.planRes f quota holds (Wv.planP f quota) else ([], 1)) := by show _ = _; rw [hrg, Wv.planF_eq]
  have HHC := Lib.hid (IC.nw hhc n1)
  have HSM := Lib.hid hs
  obtain ⟨x0, x1, x2⟩ := HX.out W (Upd.refl _ _)
  unfold flV at hr1
  clear n1 b1 hW h g hs hrg hhc hWs
  have hmm := @run_makeMap Tryz.prog
  go_enter Tryz.func14, Tryz.ntmps14
  go_upto_region 1 with fail
  rw [← HW.out]
  clear HW
  go_wp2_with fail
  cases hR : Wv.right f with
  | false =>
    rw [hR] at hr1
    have e9 : Hid (rg = ([], 1)) := by show _ = _; rw [HRG0.out, hR]; rfl
    clear hR
    (with_reducible refine (hr1.out).mono ?_)
    rintro _ w2 ⟨rfl, u2⟩
    have U2 := Lib.hid (HN.out.trans u2)
    clear u2
    go_wp2_with fail
    refine bodyPost_ret (Plan_results _ _) rfl ?_
    exact ⟨_, by rw [e9.out]; rfl, by rw [e9.out]; exact ⟨WvO.nil _ _, U2.out⟩⟩
  | true =>
  rw [hR] at hr1
  have HRG := Lib.hid (Wv.rg_of hR)
  have HRG1 : Hid (rg = if 1 ≤ quota ∧ Wv.holdsOk holds = true then Wv.planRes f quota holds (Wv.planP f quota) else ([], 1)) := by
    show _ = _; rw [HRG0.out, hR]; by_cases h : 1 ≤ quota ∧ Wv.holdsOk holds = true
    · rw [if_pos ⟨rfl, h⟩, if_pos h]
    · rw [if_neg (fun e => h e.2), if_neg h]
  clear hR HRG0
  by_cases hq : quota < 1
  · have e9 : Hid (rg = ([], 1)) := by show _ = _; rw [HRG1.out, if_neg (fun e => by omega)]
    (with_reducible refine (hr1.out).mono ?_)
    rintro _ w2 ⟨rfl, u2⟩
    have U2 := Lib.hid (HN.out.trans u2)
    clear u2
    go_wp2_with fail
    refine bodyPost_ret (Plan_results _ _) rfl ?_
    exact ⟨_, by rw [e9.out]; rfl, by rw [e9.out]; exact ⟨WvO.nil _ _, U2.out⟩⟩
  (with_reducible refine (hr1.out).mono ?_)
  rintro _ w2 ⟨rfl, u2⟩
  have U2 := Lib.hid u2
  have hfw := Lib.hid (HCF.out w2 u2)
  clear x0 x1 x2
  obtain ⟨x0, x1, x2⟩ := HX.out w2 u2
  clear u2 HCF hr1
  cases hfm : holds.any holdB with
  | true =>
    rw [hfm] at hfw
    have e9 : Hid (rg = ([], 1)) := by show _ = _; rw [HRG1.out, Wv.holdsOk_eq, hfm, if_neg (fun e => by cases e.2)]
    clear hfm
    go_wp2_with fail
    (with_reducible refine (hfw.out).mono ?_)
    rintro _ w3 ⟨rfl, u3⟩
    have U3 := Lib.hid (HN.out.trans (U2.out.trans u3))
    clear u3
    go_wp2_with fail
    refine bodyPost_ret (Plan_results _ _) rfl ?_
    exact ⟨_, by rw [e9.out]; rfl, by rw [e9.out]; exact ⟨WvO.nil _ _, U3.out⟩⟩
  | false =>
  rw [hfm] at hfw
  have HRG2 : Hid (rg = Wv.planRes f quota holds (Wv.planP f quota)) := by show _ = _; rw [HRG1.out, if_pos ⟨by omega, by rw [Wv.holdsOk_eq, hfm]; rfl⟩]
  clear hfm HRG1
  go_wp2_with fail
  (with_reducible refine (hfw.out).mono ?_)
  rintro _ w3 ⟨rfl, u3⟩
  have U3 := Lib.hid (U2.out.trans u3)
  have HTK : Hid (∀ y, Nw W y → Calls Tryz.prog 30 #[.agg #[.slice oa f.old.length oc, .slice na f.new.length nc, .slice ra f.runs.length rc]] y fun e w' => ∃ tb T, e = .returned (.pointer (some ⟨tb, 0, none⟩)) ∧ Hid (TabAt w' tb T ∧ TabOk f T ∧ y.heap.size ≤ tb ∧ Nw y w')) := fun y u => talks_c oa na ra oc nc rc f y (HG.out.upd u) (HF.out.nw u) HRG.out HSM.out.so HSM.out.sn
  clear u3 x0 x1 x2 hfw
  go_upto_region 3 with fail
  have hd0 : Nw W w3.drew := U3.out.trans (Upd.refl _ w3).drew
  have HS0 := Lib.hid (HX.out _ hd0)
  go_cut [8] from 27 to 34 (fun a8 wx => ∃ (pb tb db : Nat) (T : Nat → Bool), a8 = .pointer (some ⟨pb, 0, none⟩) ∧ Hid (PlAt wx pb oa na ra oc nc rc tb quota ha holds.length hc db 0 f ∧ TabAt wx tb T ∧ TabOk f T ∧ DeadM wx db (fun k => Wv.restR f quota k = none) ∧ Nw W wx ∧ W.heap.size ≤ db ∧ W.heap.size ≤ pb ∧ pb ≠ db ∧ tb ≠ db ∧ tb ≠ pb))
  case first =>
    refine wp_region_G (fun y => y.cell? ⟨w.heap.size, 0, none⟩ = some (.slice oa f.old.length oc) ∧ y.cell? ⟨w.heap.size, 1, none⟩ = some (.slice na f.new.length nc) ∧ y.cell? ⟨w.heap.size, 2, none⟩ = some (.slice ra f.runs.length rc)) 8 (by kernel_rfl) ?_
    generalize w3.drew = wd at *
    refine wpAnyG_load (i := 0) (v := ?_) [] rfl (by kernel_rfl) (by kernel_rfl) (by kernel_rfl) (by kernel_rfl) (by kernel_rfl) (by kernel_rfl) (fun _ _ _ h => h) (by kernel_rfl) ?_ (fun _ => HS0.out) ?_
    rotate_left 1
    · (intro zz hS; obtain ⟨_, _, _⟩ := hS; go_simp; first | done | with_reducible rfl)
    (try simp only [Act.put, List.setIfInBounds_toArray, List.set_cons_zero, List.set_cons_succ])
    refine wpAnyG_load (i := 1) (v := ?_) [] rfl (by kernel_rfl) (by kernel_rfl) (by kernel_rfl) (by kernel_rfl) (by kernel_rfl) (by kernel_rfl) (fun _ _ _ h => h) (by kernel_rfl) ?_ (fun _ => HS0.out) ?_
    rotate_left 1
    · (intro zz hS; obtain ⟨_, _, _⟩ := hS; go_simp; first | done | with_reducible rfl)
    (try simp only [Act.put, List.setIfInBounds_toArray, List.set_cons_zero, List.set_cons_succ])
    refine wpAnyG_pure (i := 3) (v := ?_) rfl (by kernel_rfl) (by kernel_rfl) (by kernel_rfl) (by kernel_rfl) (by kernel_rfl) (fun _ _ _ h => h) (by kernel_rfl) ?_ (fun _ => HS0.out) ?_
    rotate_left 1
    · (intro zz; go_simp; first | done | with_reducible rfl)
    (try simp only [Act.put, List.setIfInBounds_toArray, List.set_cons_zero, List.set_cons_succ])
    refine wpAnyG_pure (i := 4) (v := ?_) rfl (by kernel_rfl) (by kernel_rfl) (by kernel_rfl) (by kernel_rfl) (by kernel_rfl) (fun _ _ _ h => h) (by kernel_rfl) ?_ (fun _ => HS0.out) ?_
    rotate_left 1
    · (intro zz; go_simp; first | done | with_reducible rfl)
    (try simp only [Act.put, List.setIfInBounds_toArray, List.set_cons_zero, List.set_cons_succ])
    refine wpAnyG_ready [2, 5] (by kernel_rfl) (by simp) ?_
    refine AllG.cons rfl (fun K hK => ?_) (AllG.cons rfl (fun K hK => ?_) AllG.nil)
    · have hCC := HTK.out wd hd0
      go_simp
      (with_reducible refine (hCC).mono ?_)
      rintro _ w4 ⟨tb, T, rfl, HT⟩
      clear hCC
      have HU4 := Lib.hid (hd0.trans HT.out.2.2.2)
      refine hK.out _ _ (fun _ => HX.out _ HU4.out) ?_
      clear hK K
      (try simp only [Act.put, List.setIfInBounds_toArray, List.set_cons_zero, List.set_cons_succ])
      refine wpAnyG_ready [5] (by kernel_rfl) (by simp) ?_
      refine AllG.cons rfl (fun K hK => ?_) AllG.nil
      go_simp
      have n5 := nw_alloc w4 (.map #[] 0)
      refine hK.out _ _ (fun _ => HX.out _ (HU4.out.trans n5)) ?_
      clear hK K
      (try simp only [Act.put, List.setIfInBounds_toArray, List.set_cons_zero, List.set_cons_succ])
      have HZ : Hid (TabAt (w4.alloc (.map #[] 0)) tb T ∧ TabOk f T ∧ DeadM (w4.alloc (.map #[] 0)) w4.heap.size (fun k => Wv.restR f quota k = none) ∧ Nw W (w4.alloc (.map #[] 0)) ∧ W.heap.size ≤ w4.heap.size ∧ w4.heap.size < (w4.alloc (.map #[] 0)).heap.size ∧ tb < (w4.alloc (.map #[] 0)).heap.size ∧ tb ≠ w4.heap.size) := by
        have hlt := HT.out.1.lt
        exact ⟨HT.out.1.upd n5 (fun e => e), HT.out.2.1, dead_new w4 _, HU4.out.trans n5, HU4.out.size, by simp, by rw [World.size_alloc]; omega, by omega⟩
      clear n5
      -- both the table and the map are there, in world w4.alloc (.map #[] 0), the map in block w4.heap.size
      have HS7 := Lib.hid (HX.out _ HZ.out.2.2.2.1)
      refine wpAnyG_pure (i := 6) (v := ?_) rfl (by kernel_rfl) (by kernel_rfl) (by kernel_rfl) (by kernel_rfl) (by kernel_rfl) (fun _ _ _ h => h) (by kernel_rfl) ?_ (fun _ => HS7.out) ?_
      rotate_left 1
      · (intro zz; go_simp; first | done | with_reducible rfl)
      (try simp only [Act.put, List.setIfInBounds_toArray, List.set_cons_zero, List.set_cons_succ])
      refine wpAnyG_ready [7] (by kernel_rfl) (by simp) ?_
      refine AllG.cons rfl (fun K hK => ?_) AllG.nil
      have n7 := nw_alloc (w4.alloc (.map #[] 0)) (.cells #[.slice oa f.old.length oc, .slice na f.new.length nc, .slice ra f.runs.length rc, .pointer (some ⟨tb, 0, none⟩), .int .i64 quota, .slice ha holds.length hc, .map (some (w4.heap.size)), .int .i64 ((0 : Nat) : Int)] tPl)
      have HP7 : Hid (PlAt ((w4.alloc (.map #[] 0)).alloc (.cells #[.slice oa f.old.length oc, .slice na f.new.length nc, .slice ra f.runs.length rc, .pointer (some ⟨tb, 0, none⟩), .int .i64 quota, .slice ha holds.length hc, .map (some (w4.heap.size)), .int .i64 ((0 : Nat) : Int)] tPl)) (w4.alloc (.map #[] 0)).heap.size oa na ra oc nc rc tb quota ha holds.length hc (w4.heap.size) 0 f) := ⟨heap_new (w4.alloc (.map #[] 0)) _⟩
      have HN7 := Lib.hid n7
      clear n7
      go_simp
      refine hK.out _ _ (fun _ => HX.out _ (HZ.out.2.2.2.1.trans HN7.out)) ?_
      clear hK K
      (try simp only [Act.put, List.setIfInBounds_toArray, List.set_cons_zero, List.set_cons_succ])
      refine wpAnyG_ready [8] (by kernel_rfl) (by simp) ?_
      refine AllG.cons rfl (fun K hK => ?_) AllG.nil
      go_simp
      refine hK.out _ _ (fun e => absurd (show true = false from e) (by decide)) ?_
      clear hK K
      (try simp only [Act.put, List.setIfInBounds_toArray, List.set_cons_zero, List.set_cons_succ])
      refine wpAnyG_done (by kernel_rfl) ?_ _
      go_wp2_with fail
      go_meet
      refine ⟨_, tb, (w4.heap.size), T, by first | rfl | simp, HP7.out, HZ.out.1.upd HN7.out (fun e => e), HZ.out.2.1, HZ.out.2.2.1.upd HN7.out (fun e => e), HZ.out.2.2.2.1.trans HN7.out, HZ.out.2.2.2.2.1, HZ.out.2.2.2.1.size, ?_, HZ.out.2.2.2.2.2.2.2, ?_⟩
      · have := HZ.out.2.2.2.2.2.1; omega
      · have := HZ.out.2.2.2.2.2.2.1; omega
    · go_simp
      have n5 := nw_alloc wd (.map #[] 0)
      have HU5 := Lib.hid (hd0.trans n5)
      refine hK.out _ _ (fun _ => HX.out _ HU5.out) ?_
      clear hK K
      (try simp only [Act.put, List.setIfInBounds_toArray, List.set_cons_zero, List.set_cons_succ])
      refine wpAnyG_ready [2] (by kernel_rfl) (by simp) ?_
      refine AllG.cons rfl (fun K hK => ?_) AllG.nil
      have hCC := HTK.out _ HU5.out
      go_simp
      (with_reducible refine (hCC).mono ?_)
      rintro _ w4 ⟨tb, T, rfl, HT⟩
      clear hCC
      have HU4 := Lib.hid (HU5.out.trans HT.out.2.2.2)
      refine hK.out _ _ (fun _ => HX.out _ HU4.out) ?_
      clear hK K
      (try simp only [Act.put, List.setIfInBounds_toArray, List.set_cons_zero, List.set_cons_succ])
      have HZ : Hid (TabAt w4 tb T ∧ TabOk f T ∧ DeadM w4 wd.heap.size (fun k => Wv.restR f quota k = none) ∧ Nw W w4 ∧ W.heap.size ≤ wd.heap.size ∧ wd.heap.size < w4.heap.size ∧ tb < w4.heap.size ∧ tb ≠ wd.heap.size) := by
        have h1 := HT.out.2.2.1
        have h2 := HT.out.2.2.2.size
        rw [World.size_alloc] at h1 h2
        exact ⟨HT.out.1, HT.out.2.1, (dead_new wd _).upd HT.out.2.2.2 (fun e => e), HU4.out, hd0.size, by omega, HT.out.1.lt, by omega⟩
      clear n5
      -- both the table and the map are there, in world w4, the map in block wd.heap.size
      have HS7 := Lib.hid (HX.out _ HZ.out.2.2.2.1)
      refine wpAnyG_pure (i := 6) (v := ?_) rfl (by kernel_rfl) (by kernel_rfl) (by kernel_rfl) (by kernel_rfl) (by kernel_rfl) (fun _ _ _ h => h) (by kernel_rfl) ?_ (fun _ => HS7.out) ?_
      rotate_left 1
      · (intro zz; go_simp; first | done | with_reducible rfl)
      (try simp only [Act.put, List.setIfInBounds_toArray, List.set_cons_zero, List.set_cons_succ])
      refine wpAnyG_ready [7] (by kernel_rfl) (by simp) ?_
      refine AllG.cons rfl (fun K hK => ?_) AllG.nil
      have n7 := nw_alloc (w4) (.cells #[.slice oa f.old.length oc, .slice na f.new.length nc, .slice ra f.runs.length rc, .pointer (some ⟨tb, 0, none⟩), .int .i64 quota, .slice ha holds.length hc, .map (some (wd.heap.size)), .int .i64 ((0 : Nat) : Int)] tPl)
      have HP7 : Hid (PlAt ((w4).alloc (.cells #[.slice oa f.old.length oc, .slice na f.new.length nc, .slice ra f.runs.length rc, .pointer (some ⟨tb, 0, none⟩), .int .i64 quota, .slice ha holds.length hc, .map (some (wd.heap.size)), .int .i64 ((0 : Nat) : Int)] tPl)) (w4).heap.size oa na ra oc nc rc tb quota ha holds.length hc (wd.heap.size) 0 f) := ⟨heap_new (w4) _⟩
      have HN7 := Lib.hid n7
      clear n7
      go_simp
      refine hK.out _ _ (fun _ => HX.out _ (HZ.out.2.2.2.1.trans HN7.out)) ?_
      clear hK K
      (try simp only [Act.put, List.setIfInBounds_toArray, List.set_cons_zero, List.set_cons_succ])
      refine wpAnyG_ready [8] (by kernel_rfl) (by simp) ?_
      refine AllG.cons rfl (fun K hK => ?_) AllG.nil
      go_simp
      refine hK.out _ _ (fun e => absurd (show true = false from e) (by decide)) ?_
      clear hK K
      (try simp only [Act.put, List.setIfInBounds_toArray, List.set_cons_zero, List.set_cons_succ])
      refine wpAnyG_done (by kernel_rfl) ?_ _
      go_wp2_with fail
      go_meet
      refine ⟨_, tb, (wd.heap.size), T, by first | rfl | simp, HP7.out, HZ.out.1.upd HN7.out (fun e => e), HZ.out.2.1, HZ.out.2.2.1.upd HN7.out (fun e => e), HZ.out.2.2.2.1.trans HN7.out, HZ.out.2.2.2.2.1, HZ.out.2.2.2.1.size, ?_, HZ.out.2.2.2.2.2.2.2, ?_⟩
      · have := HZ.out.2.2.2.2.2.1; omega
      · have := HZ.out.2.2.2.2.2.2.1; omega
  case rest =>
    obtain ⟨pb, tb, db, T, rfl, HC⟩ := hcut
    have hpW : W.heap.size ≤ pb := HC.out.2.2.2.2.2.2.1
    have HNC := Lib.hid HC.out.2.2.2.2.1
    have HNL : Hid (∀ y, Upd (fun k => k = pb) wc y → Nw W y) := fun y u => HNC.out.trans' u (S := fun _ => False) (fun k (hk : k < W.heap.size) (e : k = pb) => by show False; omega)
    have hrl : f.runs.length ≤ 400 := HRG.out.few
    have hrl1 : (f.runs.length : Int) ≤ 400 := by omega
    have HGB : Hid (nG ≤ pb) := by have := HWS.out; show _ ≤ _; omega
    have HRL : Hid (∀ y, Nw W y → ∀ k (hk : k < f.runs.length), ∃ b off, ra = some ⟨b, off, none⟩ ∧ y.cell? ⟨b, off + k, none⟩ = some (.int .i64 (Wv.run f k : Nat)) ∧ Wv.run f k < 8) := fun y u k hk => by
      rcases HF.out.runs with hnil | ⟨b, off, e, _, hcell⟩
      · rw [hnil] at hk; simp at hk
      · refine ⟨b, off, e, ?_, by have := (run_lt HRG.out hk).1; have := HRG.out.old8; omega⟩
        rw [← (run_lt HRG.out hk).2]; exact nw_cellF u (hcell k hk)
    obtain ⟨x0, x1, x2⟩ := HX.out wc HNC.out
    clear hd0 HS0 HTK
    go_wp2_with fail
    clear x0 x1 x2
    go_loopw [38] (fun iv wr => ∃ n : Nat, n ≤ f.runs.length ∧ iv = .int .i64 (n : Int) ∧ Hid (PlAt wr pb oa na ra oc nc rc tb quota ha holds.length hc db (Wv.allTo f n) f) ∧ Hid (Upd (fun k => k = pb) wc wr)) (fun iv _ => f.runs.length - (intOf iv).toNat)
    case atStart => exact ⟨0, Nat.zero_le _, rfl, HC.out.1, Upd.refl _ _⟩
    case round =>
      obtain ⟨n, hn, rfl, HPL, HU⟩ := hrel
      by_cases hlt : n < f.runs.length
      · have hlt1 : (n : Int) < f.runs.length := by omega
        have hn9 : (n : Int) ≤ 400 := by omega
        have hn0 : decide ((n : Int) < 0) = false := decide_eq_false (by omega)
        obtain ⟨b, off, rfl, z0, hs8⟩ := HRL.out wr (HNL.out wr HU.out) n hlt
        have HAS := Lib.hid (Wv.allTo_succ f n)
        have hor := bit_or64 (Wv.allTo_lt HRG.out n (by omega)) hs8
        generalize Wv.run f n = s at *
        generalize Wv.allTo f n = al at *
        have hs9 : (s : Int) < 8 := by omega
        have hs0 : decide ((s : Int) < 0) = false := decide_eq_false (by omega)
        obtain ⟨wd, hwd⟩ : ∃ z, z = wr.drew := ⟨_, rfl⟩
        have HWD : Hid (Nw wr wd) := by rw [hwd]; exact (Upd.refl _ wr).drew
        go_upto_region 7 with fail
        have HPD := Lib.hid (HPL.out.nw HWD.out)
        have c7 := HPD.out.cs.c7
        have f7 : wd.frozen? ⟨pb, 7, none⟩ = false := cells_frozen HPD.out.at_ 7
        refine wp_region_G (fun y => y.cell? ⟨pb, 7, none⟩ = some (.int .i64 (al : Int)) ∧ True ∧ True) 9 (by kernel_rfl) ?_
        rw [← hwd]
        clear hwd
        refine wpAnyG_pure (i := 0) (v := ?_) rfl (by kernel_rfl) (by kernel_rfl) (by kernel_rfl) (by kernel_rfl) (by kernel_rfl) (fun _ _ _ h => h) (by kernel_rfl) ?_ (fun _ => ⟨c7, trivial, trivial⟩) ?_
        rotate_left 1
        · (intro zz; go_simp; first | done | with_reducible rfl)
        (try simp only [Act.put, List.setIfInBounds_toArray, List.set_cons_zero, List.set_cons_succ])
        refine wpAnyG_pure (i := 1) (v := ?_) rfl (by kernel_rfl) (by kernel_rfl) (by kernel_rfl) (by kernel_rfl) (by kernel_rfl) (fun _ _ _ h => h) (by kernel_rfl) ?_ (fun _ => ⟨c7, trivial, trivial⟩) ?_
        rotate_left 1
        · (intro zz; go_simp; first | done | with_reducible rfl)
        (try simp only [Act.put, List.setIfInBounds_toArray, List.set_cons_zero, List.set_cons_succ])
        refine wpAnyG_pure (i := 2) (v := ?_) rfl (by kernel_rfl) (by kernel_rfl) (by kernel_rfl) (by kernel_rfl) (by kernel_rfl) (fun _ _ _ h => h) (by kernel_rfl) ?_ (fun _ => ⟨c7, trivial, trivial⟩) ?_
        rotate_left 1
        · (intro zz; go_simp; first | done | with_reducible rfl)
        (try simp only [Act.put, List.setIfInBounds_toArray, List.set_cons_zero, List.set_cons_succ])
        refine wpAnyG_load (i := 3) (v := ?_) [] rfl (by kernel_rfl) (by kernel_rfl) (by kernel_rfl) (by kernel_rfl) (by kernel_rfl) (by kernel_rfl) (fun _ _ _ h => h) (by kernel_rfl) ?_ (fun _ => ⟨c7, trivial, trivial⟩) ?_
        rotate_left 1
        · (intro zz hS; obtain ⟨_, _, _⟩ := hS; go_simp; first | done | with_reducible rfl)
        (try simp only [Act.put, List.setIfInBounds_toArray, List.set_cons_zero, List.set_cons_succ])
        refine wpAnyG_pure (i := 4) (v := ?_) rfl (by kernel_rfl) (by kernel_rfl) (by kernel_rfl) (by kernel_rfl) (by kernel_rfl) (fun _ _ _ h => h) (by kernel_rfl) ?_ (fun _ => ⟨c7, trivial, trivial⟩) ?_
        rotate_left 1
        · (intro zz; go_simp; first | done | with_reducible rfl)
        (try simp only [Act.put, List.setIfInBounds_toArray, List.set_cons_zero, List.set_cons_succ])
        refine wpAnyG_pure (i := 5) (v := ?_) rfl (by kernel_rfl) (by kernel_rfl) (by kernel_rfl) (by kernel_rfl) (by kernel_rfl) (fun _ _ _ h => h) (by kernel_rfl) ?_ (fun _ => ⟨c7, trivial, trivial⟩) ?_
        rotate_left 1
        · (intro zz; go_simp; first | done | with_reducible rfl)
        (try simp only [Act.put, List.setIfInBounds_toArray, List.set_cons_zero, List.set_cons_succ])
        refine wpAnyG_pure (i := 6) (v := ?_) rfl (by kernel_rfl) (by kernel_rfl) (by kernel_rfl) (by kernel_rfl) (by kernel_rfl) (fun _ _ _ h => h) (by kernel_rfl) ?_ (fun _ => ⟨c7, trivial, trivial⟩) ?_
        rotate_left 1
        · (intro zz; go_simp; first | done | with_reducible rfl)
        (try simp only [Act.put, List.setIfInBounds_toArray, List.set_cons_zero, List.set_cons_succ])
        refine wpAnyG_pure (i := 7) (v := ?_) rfl (by kernel_rfl) (by kernel_rfl) (by kernel_rfl) (by kernel_rfl) (by kernel_rfl) (fun _ _ _ h => h) (by kernel_rfl) ?_ (fun _ => ⟨c7, trivial, trivial⟩) ?_
        rotate_left 1
        · (intro zz; go_simp; first | done | with_reducible rfl)
        (try simp only [Act.put, List.setIfInBounds_toArray, List.set_cons_zero, List.set_cons_succ])
        refine wpAnyG_pure (i := 8) (v := ?_) rfl (by kernel_rfl) (by kernel_rfl) (by kernel_rfl) (by kernel_rfl) (by kernel_rfl) (fun _ _ _ h => h) (by kernel_rfl) ?_ (fun _ => ⟨c7, trivial, trivial⟩) ?_
        rotate_left 1
        · (intro zz; go_simp; first | done | with_reducible rfl)
        (try simp only [Act.put, List.setIfInBounds_toArray, List.set_cons_zero, List.set_cons_succ])
        refine wpAnyG_ready [9] (by kernel_rfl) (by simp) ?_
        refine AllG.cons rfl (fun K hK => ?_) AllG.nil
        go_simp
        refine hK.out _ _ (fun e => absurd (show true = false from e) (by decide)) ?_
        clear hK K
        (try simp only [Act.put, List.setIfInBounds_toArray, List.set_cons_zero, List.set_cons_succ])
        refine wpAnyG_done (by kernel_rfl) ?_ _
        have HP9 : Hid (PlAt (wd.setCell ⟨pb, 7, none⟩ (.int .i64 (bits .or .i64 (al : Int) (wrap64 (2 ^ s))))) pb oa na (some ⟨b, off, none⟩) oc nc rc tb quota ha holds.length hc db (Wv.allTo f (n + 1)) f) := by
          show PlAt _ _ _ _ _ _ _ _ _ _ _ _ _ _ _ _
          rw [HAS.out, hor]
          exact ⟨by rw [setCell_block HPD.out.at_]; rfl⟩
        have HU9 : Hid (Upd (fun k => k = pb) wc (wd.setCell ⟨pb, 7, none⟩ (.int .i64 (bits .or .i64 (al : Int) (wrap64 (2 ^ s)))))) := (HU.out.nw HWD.out).set1 HGB.out 7 _
        clear c7 f7
        go_wp2_with fail
        go_roundw
        case rel => exact ⟨n + 1, by omega, by go_num, HP9, HU9⟩
        case measure => simp [intOf]; omega
      · obtain rfl : n = f.runs.length := by omega
        have hlt1 : ¬ ((f.runs.length : Nat) : Int) < f.runs.length := by omega
        have HPA : Hid (PlAt wr pb oa na ra oc nc rc tb quota ha holds.length hc db (Wv.allBits f) f) := HPL.out
        have HTA := Lib.hid (HC.out.2.1.upd HU.out (fun e => HC.out.2.2.2.2.2.2.2.2.2 e))
        have HDA := Lib.hid (HC.out.2.2.2.1.upd HU.out (fun e => HC.out.2.2.2.2.2.2.2.1 e.symm))
        have HNR := Lib.hid (HNL.out wr HU.out)
        have HOK := Lib.hid HC.out.2.2.1
        have hdb : W.heap.size ≤ db := HC.out.2.2.2.2.2.1
        have hst : Hid (Calls Tryz.prog 38 #[.pointer (some ⟨pb, 0, none⟩), .int .i64 0, .int .i64 (-1)] wr fun e w' => e = .returned (.bool (Wv.talksP f quota 0 (-1))) ∧ Nw wr w') := state_c pb tb T oa na ra ha oc nc rc holds.length hc db (Wv.allBits f) quota f 0 (-1) wr (by have := HNR.out.size; have := HWS.out; omega) HPA.out (HF.out.nw HNR.out) HRG.out HTA.out HOK.out (by decide)
        have HRC : Hid (∀ y, Nw wr y → Calls Tryz.prog 39 #[.pointer (some ⟨pb, 0, none⟩), .int .i64 0] y (RestD y db f quota 0)) := fun y u => rest_c W pb tb T oa na ra ha oc nc rc holds.length hc db quota f (by have := HWS.out; omega) HF.out HRG.out HOK.out hdb HC.out.2.2.2.2.2.2.2.1 HC.out.2.2.2.2.2.2.2.2.1 9 0 y (by have := Wv.miss_le f 0; omega) (by decide) (HNR.out.trans u) (HPA.out.nw u) (HTA.out.upd u (fun e => e)) (HDA.out.upd u (fun e => e))
        have HRG3 : Hid (rg = Wv.planRes f quota holds (if Wv.talksP f quota 0 (-1) = true then Wv.restR f quota 0 else none)) := by show _ = _; rw [HRG2.out, Wv.planP_eq]
        clear HRG2
        cases ht : Wv.talksP f quota 0 (-1) with
        | false =>
          rw [ht] at hst HRG3
          have e9 : Hid (rg = ([], 27)) := HRG3.out
          clear ht
          go_wp2_with fail
          (with_reducible refine (hst.out).mono ?_)
          rintro _ w4 ⟨rfl, u4⟩
          have HU4 := Lib.hid (HN.out.trans (HNR.out.trans u4))
          clear u4
          go_wp2_with fail
          refine bodyPost_ret (Plan_results _ _) rfl ?_
          exact ⟨_, by rw [e9.out]; rfl, by rw [e9.out]; exact ⟨WvO.nil _ _, HU4.out⟩⟩
        | true =>
        rw [ht] at hst HRG3
        have HRG4 : Hid (rg = Wv.planRes f quota holds (Wv.restR f quota 0)) := HRG3.out
        clear ht HRG3
        go_wp2_with fail
        (with_reducible refine (hst.out).mono ?_)
        rintro _ w4 ⟨rfl, u4⟩
        have hrc := Lib.hid (HRC.out w4 u4)
        have U4 := Lib.hid (HNR.out.trans u4)
        clear u4 hst
        unfold RestD at hrc
        have hmem : Hid (∀ o, Wv.restR f quota 0 = some o → ∀ s ∈ o, s < f.old.length) := fun o ho => Wv.restP_mem 9 0 o ho
        cases hrr : Wv.restR f quota 0 with
        | none =>
          rw [hrr] at hrc HRG4
          simp only [Option.getD_none, Option.isSome_none] at hrc
          have e9 : Hid (rg = ([], 27)) := HRG4.out
          clear hrr
          go_wp2_with fail
          (with_reducible refine (hrc.out).mono ?_)
          rintro _ w5 ⟨v5, rfl, H5⟩
          obtain ⟨a5, c5, rfl⟩ := own_slW H5.out.1
          have HU5 : Hid (Nw w w5) := (HN.out.trans U4.out).trans' H5.out.2.2.1 (S := fun _ => False) (fun k (hk : k < w.heap.size) (e : k = db) => by show False; have := HWS.out; omega)
          go_wp2_with fail
          refine bodyPost_ret (Plan_results _ _) rfl ?_
          exact ⟨_, by rw [e9.out]; rfl, by rw [e9.out]; exact ⟨WvO.nil _ _, HU5.out⟩⟩
        | some o =>
          rw [hrr] at hrc HRG4
          simp only [Option.getD_some, Option.isSome_some] at hrc
          have e9 : Hid (rg = (Wv.wavesOf f quota holds o, 0)) := HRG4.out
          have HMM := Lib.hid (hmem.out o hrr)
          clear hrr hmem
          go_wp2_with fail
          (with_reducible refine (hrc.out).mono ?_)
          rintro _ w5 ⟨v5, rfl, H5⟩
          obtain ⟨a5, c5, rfl⟩ := own_slW H5.out.1
          have HU5 : Hid (Nw W w5) := U4.out.trans' H5.out.2.2.1 (S := fun _ => False) (fun k (hk : k < W.heap.size) (e : k = db) => by show False; omega)
          have hol : Hid (o.length ≤ 8) := by have := Wv.miss_le f 0; have := H5.out.2.2.2; show _ ≤ _; omega
          have hic : Hid (IC w5 a5 (o.map fun n : Nat => (n : Int))) := by
            refine ic_of_own (B := w4.heap.size) (c := c5) ?_
            have := H5.out.1
            rw [List.length_map, List.map_map]
            exact this
          have HX5 : Hid (∀ y, Nw w5 y → y.cell? ⟨w.heap.size, 0, none⟩ = some (.slice oa f.old.length oc) ∧ y.cell? ⟨w.heap.size, 1, none⟩ = some (.slice na f.new.length nc) ∧ y.cell? ⟨w.heap.size, 2, none⟩ = some (.slice ra f.runs.length rc)) := fun y u => HX.out y (HU5.out.trans u)
          have hol1 : (o.length : Int) ≤ 8 := by have := hol.out; omega
          have HG5 : Hid (nG ≤ w5.heap.size ∧ w.heap.size ≤ w5.heap.size) := by have := HU5.out.size; have := HWS.out; show _ ∧ _; omega
          clear hrc HRC
          go_wp2_with fail
          go_loopw [13, 64] (fun ov iv wr => ∃ n : Nat, n ≤ o.length ∧ iv = .int .i64 (n : Int) ∧ Hid (WvO w5.heap.size wr ov (Wv.wavesOf f quota holds (o.take n)) ∧ (Wv.wavesOf f quota holds (o.take n)).length ≤ 400 * n) ∧ Hid (Nw w5 wr)) (fun ov iv _ => o.length - (intOf iv).toNat)
          case atStart => exact ⟨0, Nat.zero_le _, rfl, ⟨WvO.nil _ _, Nat.zero_le _⟩, Upd.refl _ _⟩
          case round =>
            obtain ⟨n, hn, rfl, HO, HU⟩ := hrel
            obtain ⟨va, vc, rfl⟩ := HO.out.1.sl
            by_cases hlt : n < o.length
            · have hlt1 : (n : Int) < o.length := by omega
              have hn9 : (n : Int) ≤ 8 := by omega
              have hn0 : decide ((n : Int) < 0) = false := decide_eq_false (by omega)
              rcases hic.out with hnil | ⟨b, off, rfl, hb, hcell⟩
              · rw [List.map_eq_nil_iff] at hnil; rw [hnil] at hlt; simp at hlt
              have z0 := nw_cellF HU.out (hcell n (by rw [List.length_map]; exact hlt))
              rw [List.getElem_map] at z0
              have hs8 : o[n] < f.old.length := HMM.out _ (List.getElem_mem hlt)
              have HWT := Lib.hid (Wv.wavesOf_take (f := f) (quota := quota) (holds := holds) hlt)
              have hol8 := HRG.out.old8
              have hone := Lib.hid (one_c oa na ra ha oc nc rc hc f o[n] quota holds wr (by have := HU.out.size; have := HG5.out; omega) (HF.out.nw (HU5.out.trans HU.out)) HRG.out (IC.nw HHC.out (HU5.out.trans HU.out)) hhl (by omega) hqm (by omega))
              have hlen1 := Wv.oneF_len f o[n] quota holds
              have HLN : Hid ((Wv.oneF f o[n] quota holds).length ≤ 400) := by show _ ≤ _; omega
              obtain ⟨x0, x1, x2⟩ := HX5.out wr HU.out
              unfold flV at hone
              clear hcell hlen1 hol8
              generalize o[n] = s at *
              obtain ⟨C1, hC1, hC2, hC3⟩ := HO.out.1
              have hC1l : (Wv.wavesOf f quota holds (o.take n)).length = C1.length := by rw [← hC1, List.length_map]
              rw [hC1l]
              rw [hC1l] at hC2
              go_wp2_with fail
              (with_reducible refine (hone.out).mono ?_)
              rintro _ w6 ⟨v6, rfl, H6⟩
              obtain ⟨C2, hD1, hD2, hD3⟩ := H6.out.1
              obtain ⟨a6, c6, rfl⟩ := own_slW hD2
              have hD1l : (Wv.oneF f s quota holds).length = C2.length := by rw [← hD1, List.length_map]
              have hb1 : C1.length + C2.length ≤ 4000 := by
                have h1 := HO.out.2
                have h2 := HLN.out
                rw [hC1l] at h1
                omega
              have hw56 : w5.heap.size ≤ w6.heap.size := Nat.le_trans HU.out.size H6.out.2.size
              have hown6 := owns_upd' hC2 H6.out.2 (fun _ _ e => e)
              go_wp2_with (at_builtin; go_loud (refine wpList_catO rfl _ _ 27 rfl w5.heap.size wr.heap.size tWv _ 2 32 Tryz.underlying27 infoWvW rfl (by decide) _ _ C1.length C2.length _ _ rfl hown6 rfl hD2 wvc_one ?c2 ?c3 hw56 ?_))
              case c2 => unfold maxLen; omega
              case c3 => omega
              intro v' w9 o9 g9 hob
              have hcat := WvO.cat HU.out.size hown6 (fun c hc => ⟨owns_upd' (hC3 c hc).1 H6.out.2 (fun _ _ e => e), (hC3 c hc).2⟩) hD3 o9 g9
              rw [hC1, hD1, ← HWT.out] at hcat
              have U9 : Nw w5 w9 := (HU.out.trans H6.out.2).grown g9 (fun k hk => ⟨Or.inr (hob k hk).1, by have := (hob k hk).1; have := HG5.out; omega⟩)
              have HCT : Hid (WvO w5.heap.size w9 v' (Wv.wavesOf f quota holds (o.take (n + 1))) ∧ (Wv.wavesOf f quota holds (o.take (n + 1))).length ≤ 400 * (n + 1)) := ⟨hcat, by
                have h1 := HO.out.2
                have h2 := HLN.out
                rw [HWT.out, List.length_append]; omega⟩
              have HU9 := Lib.hid U9
              obtain ⟨a9, c9, rfl⟩ := HCT.out.1.sl
              clear o9 g9 hob hcat U9 hown6 hD2 hD3 hD1 hC2 hC3
              go_wp2_with fail
              go_roundw
              case rel => exact ⟨n + 1, by omega, by go_num, HCT, HU9⟩
              case measure => simp [intOf]; omega
            · obtain rfl : n = o.length := by omega
              have hlt1 : ¬ ((o.length : Nat) : Int) < o.length := by omega
              have hfin := HO.out.1
              rw [List.take_length] at hfin
              have HFIN := Lib.hid (WvO.base (B' := w.heap.size) hfin HG5.out.2)
              have HNF := Lib.hid (HN.out.trans (HU5.out.trans HU.out))
              rw [List.take_length]
              clear hfin
              go_wp2_with fail
              refine bodyPost_ret (Plan_results _ _) rfl ?_
              refine ⟨.slice va (Wv.wavesOf f quota holds o).length vc, by rw [e9.out]; first | rfl | simp, ?_⟩
              rw [e9.out]
              exact ⟨HFIN.out, HNF.out⟩
end Go.Proofs.YtjlgmoemnhmgmaaGreatDoor
