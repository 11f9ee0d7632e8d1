/- The walk of the statement WirePrefix. -/
import Derived.Test.YtiaakidglmgmpaaDoorLawB
namespace Go.Proofs.YtiaakidglmgmpaaDoor
open Go.RowKit
set_option linter.unusedVariables false
set_option linter.unusedSimpArgs false
attribute [local irreducible] Calls

def fewB (l : List Val) : Bool := decide (l.length ≤ 20 ∧ tot l ≤ 400)
theorem few_d (hi : Nat) (v : Value) (l : List Val) (w : World) (hv : Vals hi w v l) :
    Calls Tryd.prog 10 #[v] w fun e w' => e = .returned (.bool (fewB l)) ∧ Nw w w' := by
  refine (few_c hi v l w hv).mono ?_
  rintro e w' ⟨b, rfl, hb, u⟩
  refine ⟨?_, u⟩
  rw [fewB]
  cases b with
  | true => rw [decide_eq_true (hb.1 rfl)]
  | false => rw [decide_eq_false (fun h => by have := hb.2 h; cases this)]
theorem fewB_ok {x : Val} (h : fewB [x] = true) : OkV x := okV_of_tot (of_decide_eq_true h).2 x (by simp)
def st2 (k : Int) (st : Wire.St) : Wire.St :=
  if k = 0 then (Wire.rNum st).2 else if k = 1 then (Wire.rInt st).2 else if k = 2 then (Wire.rText st).2 else if k = 3 then (Wire.rNums st).2 else (Wire.rTexts st).2
theorem eq1_st (st : Wire.St) (x : Val) : (eq1 st x).2 = st2 (kindOf x.kind) st := by
  unfold eq1 st2; (repeat' split) <;> rfl
/-- Encodings of one kind: none begins another. -/
theorem enc1_prefix {x y : Val} {r : List UInt8} (hx : OkV x) (ix : I64V x) (hy : OkV y) (iy : I64V y) (hk : kindOf x.kind = kindOf y.kind) (h : enc1 y = enc1 x ++ r) : enc1 x = enc1 y := by
  have h1 := congrArg Prod.snd (eq1_back (r := r) hx ix)
  have h2 := congrArg Prod.snd (eq1_back (r := []) hy iy)
  rw [eq1_st] at h1 h2
  rw [List.append_nil, ← hk, h, h1] at h2
  obtain rfl : r = [] := by simpa using h2
  rw [h, List.append_nil]
theorem two_cells {w : World} {b b' : Nat} {a0 a1 a2 a3 a4 d0 d1 d2 d3 d4 : Value} {T T' : TypeId} (h : w.heap[b]? = some (.cells #[a0, a1, a2, a3, a4] T (0, 0))) (h' : w.heap[b']? = some (.cells #[d0, d1, d2, d3, d4] T' (0, 0))) :
    w.cell? ⟨b, 0, none⟩ = some a0 ∧ w.cell? ⟨b, 1, none⟩ = some a1 ∧ w.cell? ⟨b, 2, none⟩ = some a2 ∧ w.cell? ⟨b, 3, none⟩ = some a3 ∧ w.cell? ⟨b, 4, none⟩ = some a4 ∧
    w.cell? ⟨b', 0, none⟩ = some d0 ∧ w.cell? ⟨b', 1, none⟩ = some d1 ∧ w.cell? ⟨b', 2, none⟩ = some d2 ∧ w.cell? ⟨b', 3, none⟩ = some d3 ∧ w.cell? ⟨b', 4, none⟩ = some d4 := by
  refine ⟨?_, ?_, ?_, ?_, ?_, ?_, ?_, ?_, ?_, ?_⟩ <;> first | (rw [cells_cell h]; rfl) | (rw [cells_cell h']; rfl)
abbrev tV : TypeId := 25
theorem few_step {hi b b' : Nat} {o o' : Obj} {cs : List Value} {x : Val} {w0 w : World} (hv : IsVal hi w0 cs x) (u : Nw w0 w) (hh : hi ≤ w.heap.size) (h : w.heap[b]? = some o) (h' : w.heap[b']? = some o') :
    Calls Tryd.prog 10 #[.slice (some ⟨w.heap.size, 0, none⟩) 1 1] (w.alloc (.cells cs.toArray tV)) fun e w' => e = .returned (.bool (fewB [x])) ∧ w'.heap[b]? = some o ∧ w'.heap[b']? = some o' ∧ Nw w0 w' ∧ hi ≤ w'.heap.size := by
  refine (few_d _ _ _ _ (vals_lit hv u hh)).mono ?_
  rintro e w' ⟨rfl, u1⟩
  have u2 : Nw w w' := (nw_alloc _ _).trans u1
  exact ⟨rfl, Nw.keep u2 h, Nw.keep u2 h', u.trans u2, Nat.le_trans hh u2.size⟩
theorem kind_step {b b' : Nat} {o o' : Obj} {w0 w : World} (k : Int) (v1 v2 v3 v4 : Value) (u : Nw w0 w) (h : w.heap[b]? = some o) (h' : w.heap[b']? = some o') :
    Calls Tryd.prog 22 #[.agg #[.int .i64 k, v1, v2, v3, v4]] w fun e w' => e = .returned (.int .i64 (kindOf k)) ∧ w'.heap[b]? = some o ∧ w'.heap[b']? = some o' ∧ Nw w0 w' := by
  refine (kind_c k _ _ _ _ _).mono ?_
  rintro e w' ⟨rfl, u1⟩
  exact ⟨rfl, Nw.keep u1 h, Nw.keep u1 h', u.trans u1⟩
set_option maxHeartbeats 2000000 in
set_option maxRecDepth 100000 in
theorem wirePrefix_c (hi : Nat) (k n : Int) (s : ByteArray) (vl vt : Value) (x : Val) (k' n' : Int) (s' : ByteArray) (vl' vt' : Value) (y : Val) (w : World) (g : Gl w) (hh : hi ≤ w.heap.size)
    (hv : IsVal hi w [.int .i64 k, .int .i64 n, .string s, vl, vt] x) (hv' : IsVal hi w [.int .i64 k', .int .i64 n', .string s', vl', vt'] y) :
    Calls Tryd.prog 5 #[.agg #[.int .i64 k, .int .i64 n, .string s, vl, vt], .agg #[.int .i64 k', .int .i64 n', .string s', vl', vt']] w fun e w' => e = .returned (.bool true) ∧ Nw w w' := by
  have hbx := heap_new w (.cells #[.int .i64 k, .int .i64 n, .string s, vl, vt] 25)
  have hby := heap_new (w.alloc (.cells #[.int .i64 k, .int .i64 n, .string s, vl, vt] 25)) (.cells #[.int .i64 k', .int .i64 n', .string s', vl', vt'] 25)
  have hzz : (w.alloc (.cells #[.int .i64 k, .int .i64 n, .string s, vl, vt] 25)).heap.size = w.heap.size + 1 := by simp
  have Hbx := Lib.hid hbx; clear hbx
  have Hby := Lib.hid hby; clear hby
  have Hzz := Lib.hid hzz; clear hzz
  have nn : Nw w ((w.alloc (.cells #[.int .i64 k, .int .i64 n, .string s, vl, vt] 25)).alloc (.cells #[.int .i64 k', .int .i64 n', .string s', vl', vt'] 25)) := (nw_alloc _ _).trans (nw_alloc _ _)
  go_enter Tryd.func5, Tryd.ntmps5
  go_wp2_with fail
  (with_reducible refine (small_c _ (g.upd nn)).mono ?_)
  rintro _ w1 ⟨rfl, u1⟩
  have hb1 := u1.keep (Nw.keep (nw_alloc _ _) Hbx.out)
  have hb2 := u1.keep Hby.out
  rw [Hzz.out] at hb2
  try rw [Hzz.out]
  replace u1 := nn.trans u1
  clear nn Hbx Hby Hzz
  have hIx := Lib.hid hv.i64
  have hIy := Lib.hid hv'.i64
  have hV := hv
  have hV' := hv'
  obtain ⟨vl0, vt0, he, hsl, hst, _⟩ := hV
  obtain ⟨vl1, vt1, he', hsl', hst', _⟩ := hV'
  simp only [List.cons.injEq, Value.int.injEq, Value.string.injEq, and_true, true_and] at he he'
  obtain ⟨rfl, rfl, rfl, rfl, rfl⟩ := he
  obtain ⟨rfl, rfl, rfl, rfl, rfl⟩ := he'
  clear hsl hst hsl' hst'
  generalize hby : w.heap.size + 1 = by' at *
  generalize hbx : w.heap.size = bx at *
  have g1 := g.upd u1
  have u2 : Nw w w1.drew := u1.drew
  replace hb1 := Nw.keep (show Nw w1 w1.drew from (Upd.refl _ _).drew) hb1
  replace hb2 := Nw.keep (show Nw w1 w1.drew from (Upd.refl _ _).drew) hb2
  have hh2 : hi ≤ w1.drew.heap.size := by have := u2.size; omega
  replace hh : hi ≤ w.heap.size := by omega
  have hS := two_cells hb1 hb2
  have hF1 : Calls Tryd.prog 10 #[.slice (some ⟨w1.heap.size, 0, none⟩) 1 1] (w1.alloc (.cells #[.int .i64 x.kind, .int .i64 x.n, .string ⟨x.s.toArray⟩, vl, vt] 25)).drew fun e w' => e = .returned (.bool (fewB [x])) ∧ w'.heap[bx]? = some _ ∧ w'.heap[by']? = some _ ∧ Nw w w' ∧ hi ≤ w'.heap.size := few_step hv u2 hh2 hb1 hb2
  by_cases f1 : fewB [x] = true
  · by_cases f2 : fewB [y] = true
    · by_cases f3 : kindOf x.kind = kindOf y.kind
      · go_wp2_with fail
        go_region_held3 (fun z => z.cell? ⟨bx, 0, none⟩ = some (.int .i64 x.kind) ∧ z.cell? ⟨bx, 1, none⟩ = some (.int .i64 x.n) ∧ z.cell? ⟨bx, 2, none⟩ = some (.string ⟨x.s.toArray⟩) ∧ z.cell? ⟨bx, 3, none⟩ = some vl ∧ z.cell? ⟨bx, 4, none⟩ = some vt ∧ z.cell? ⟨by', 0, none⟩ = some (.int .i64 y.kind) ∧ z.cell? ⟨by', 1, none⟩ = some (.int .i64 y.n) ∧ z.cell? ⟨by', 2, none⟩ = some (.string ⟨y.s.toArray⟩) ∧ z.cell? ⟨by', 3, none⟩ = some vl' ∧ z.cell? ⟨by', 4, none⟩ = some vt') (first | (exact two_cells (by assumption) (by assumption)) | (exact two_cells (Nw.keep (nw_alloc _ _) (by assumption)) (Nw.keep (nw_alloc _ _) (by assumption))))
          (first | (go_at_call 22; (with_reducible refine (kind_step x.kind _ _ _ _ u4 hb5 hb6).mono ?_); rintro _ w5 ⟨rfl, hb7, hb8, u5⟩) | (go_at_call 22; (with_reducible refine (kind_step y.kind _ _ _ _ u5 hb7 hb8).mono ?_); rintro _ w6 ⟨rfl, hb9, hb0, u6⟩) | (go_at_call 10; (with_reducible refine hF1.mono ?_); rintro _ w3 ⟨rfl, hb3, hb4, u3, hh3⟩) | (go_at_call 10; (with_reducible refine (few_step hv' u3 hh3 hb3 hb4).mono ?_); rintro _ w4 ⟨rfl, hb5, hb6, u4, hh4⟩))
        clear hF1 hS u2 hb1 hb2 hb3 hb4 u3 hb5 hb6 u4 hb7 hb8 u5 hh2 hh3 hh4
        have g6 := g.upd u6
        have hs6 : hi ≤ w6.heap.size := Nat.le_trans hh u6.size
        have okx := fewB_ok f1
        have oky := fewB_ok f2
        have hpre := Lib.hid (fun r => enc1_prefix (r := r) okx hIx.out oky hIy.out f3)
        have heq := Lib.hid (eq1_back (r := []) oky hIy.out)
        have hlx := enc1_len okx hIx.out
        have hly := enc1_len oky hIy.out
        obtain ⟨_, _, _, _, _, _, _, _, _, _⟩ := two_cells hb9 hb0
        clear f1 f2 f3
        go_wp2_with fail
        (with_reducible refine (write_c hi _ _ _ vl vt x _ g6 hs6 okx (hv.nw u6)).mono ?_)
        rintro _ w7 ⟨rfl, u7⟩
        have hb9' := Nw.keep u7 hb9
        have hb0' := Nw.keep u7 hb0
        replace u7 := Nw.trans u6 u7
        have g7 := g.upd u7
        have hs7 : hi ≤ w7.heap.size := Nat.le_trans hh u7.size
        obtain ⟨_, _, _, _, _, _, _, _, _, _⟩ := two_cells hb9' hb0'
        go_wp2_with fail
        (with_reducible refine (write_c hi _ _ _ vl' vt' y _ g7 hs7 oky (hv'.nw u7)).mono ?_)
        rintro _ w8 ⟨rfl, u8⟩
        have hb1 := Nw.keep u8 hb9'
        have hb2 := Nw.keep u8 hb0'
        replace u8 := Nw.trans u7 u8
        have g8 := g.upd u8
        have hs8 : hi ≤ w8.heap.size := Nat.le_trans hh u8.size
        clear hb9 hb0 hb9' hb0' u6 u7 g6 g7 hs6 hs7
        obtain ⟨sa, hsa⟩ : ∃ sa, ByteArray.mk (enc1 x).toArray = sa := ⟨_, rfl⟩
        obtain ⟨sb, hsb⟩ : ∃ sb, ByteArray.mk (enc1 y).toArray = sb := ⟨_, rfl⟩
        rw [hsa, hsb]
        have hla : sa.data.toList = enc1 x := by rw [← hsa]
        have hlb : sb.data.toList = enc1 y := by rw [← hsb]
        have hza : sa.size ≤ 20000 := by rw [bs_size, hla]; exact hlx
        have hzb : sb.size ≤ 20000 := by rw [bs_size, hlb]; exact hly
        have hab : sb.extract 0 sa.size = sa → sa = sb := fun e => by
          have e2 : enc1 y = enc1 x ++ (enc1 y).drop sa.size := by
            rw [← hla, ← hlb]
            have := congrArg (fun t : ByteArray => t.data.toList) e
            simp only [bs_extract_list, List.drop_zero, Nat.sub_zero] at this
            rw [← this, List.take_append_drop]
          have e3 := hpre.out _ e2
          rw [← hsa, ← hsb, e3]
        have Hab := Lib.hid hab; clear hab
        have Hla := Lib.hid hla; clear hla
        have Hlb := Lib.hid hlb; clear hlb
        clear hsa hsb hpre
        by_cases hgt : sa.size > sb.size
        · go_wp2_with fail
          go_ret
          exact ⟨rfl, u8⟩
        · have hmin : min (sa.size : Int) (sb.size : Int) = (sa.size : Int) := by omega
          by_cases hne : sb.extract 0 sa.size = sa
          · have hsame := Hab.out hne
            have hbe : ((sb.extract 0 sa.size).toList == sa.toList) = true := by rw [hne]; simp
            have Hne := Lib.hid hne; clear hne
            subst hsame
            go_wp2_with fail
            (with_reducible refine (Open_r _ (enc1 y) Hlb.out _ g8).mono ?_)
            rintro _ w9 ⟨b1, rfl, hb1z, h1, u9⟩
            have hb1' := Nw.keep u9 hb1
            have hb2' := Nw.keep u9 hb2
            have hib : hi ≤ b1 := Nat.le_trans hs8 hb1z
            have hwb : w.heap.size ≤ b1 := Nat.le_trans u8.size hb1z
            replace u9 := Nw.trans u8 u9
            have g9 := g.upd u9
            obtain ⟨_, _, _, _, _, _, _, _, _, _⟩ := two_cells hb1' hb2'
            have hln : ((some (enc1 y) : Wire.St).getD []).length ≤ 1099511627776 := Nat.le_trans hly (by decide)
            have heq2 := heq.out
            rw [List.append_nil] at heq2
            have Heq := Lib.hid heq2; clear heq2
            go_wp2_with fail
            (with_reducible refine (equal_c hi b1 _ _ _ vl' vt' y (some (enc1 y)) _ g9 hib h1 hln (hv'.nw u9)).mono ?_)
            rintro _ w10 ⟨rfl, h10, u10⟩
            rw [Heq.out]
            replace u10 : Nw w w10 := u9.trans' u10 (fun k hk e => by omega)
            go_wp2_with fail
            go_ret
            exact ⟨rfl, u10⟩
          · have hbe : ((sb.extract 0 sa.size).toList == sa.toList) = false := by
              rw [bs_beq, decide_eq_false]
              intro e
              exact hne (by rw [← bs_eta (sb.extract 0 sa.size), ← bs_eta sa, e])
            have Hne := Lib.hid hne; clear hne
            go_wp2_with fail
            go_ret
            exact ⟨rfl, u8⟩
      · go_wp2_with fail
        go_region_held3 (fun z => z.cell? ⟨bx, 0, none⟩ = some (.int .i64 x.kind) ∧ z.cell? ⟨bx, 1, none⟩ = some (.int .i64 x.n) ∧ z.cell? ⟨bx, 2, none⟩ = some (.string ⟨x.s.toArray⟩) ∧ z.cell? ⟨bx, 3, none⟩ = some vl ∧ z.cell? ⟨bx, 4, none⟩ = some vt ∧ z.cell? ⟨by', 0, none⟩ = some (.int .i64 y.kind) ∧ z.cell? ⟨by', 1, none⟩ = some (.int .i64 y.n) ∧ z.cell? ⟨by', 2, none⟩ = some (.string ⟨y.s.toArray⟩) ∧ z.cell? ⟨by', 3, none⟩ = some vl' ∧ z.cell? ⟨by', 4, none⟩ = some vt') (first | (exact two_cells (by assumption) (by assumption)) | (exact two_cells (Nw.keep (nw_alloc _ _) (by assumption)) (Nw.keep (nw_alloc _ _) (by assumption))))
          (first | (go_at_call 22; (with_reducible refine (kind_step x.kind _ _ _ _ u4 hb5 hb6).mono ?_); rintro _ w5 ⟨rfl, hb7, hb8, u5⟩) | (go_at_call 22; (with_reducible refine (kind_step y.kind _ _ _ _ u5 hb7 hb8).mono ?_); rintro _ w6 ⟨rfl, hb9, hb0, u6⟩) | (go_at_call 10; (with_reducible refine hF1.mono ?_); rintro _ w3 ⟨rfl, hb3, hb4, u3, hh3⟩) | (go_at_call 10; (with_reducible refine (few_step hv' u3 hh3 hb3 hb4).mono ?_); rintro _ w4 ⟨rfl, hb5, hb6, u4, hh4⟩))
        go_wp2_with fail
        go_ret
        exact ⟨rfl, u6⟩
    · rw [Bool.not_eq_true] at f2
      go_wp2_with fail
      obtain ⟨_, _, _, _, _, _, _, _, _, _⟩ := hS
      go_region_with (first | (go_at_call 22; (with_reducible refine (kind_step x.kind _ _ _ _ u4 hb5 hb6).mono ?_); rintro _ w5 ⟨rfl, hb7, hb8, u5⟩; obtain ⟨_, _, _, _, _, _, _, _, _, _⟩ := two_cells hb7 hb8) | (go_at_call 22; (with_reducible refine (kind_step y.kind _ _ _ _ u5 hb7 hb8).mono ?_); rintro _ w6 ⟨rfl, hb9, hb0, u6⟩) | (go_at_call 10; (with_reducible refine hF1.mono ?_); rintro _ w3 ⟨rfl, hb3, hb4, u3, hh3⟩; obtain ⟨_, _, _, _, _, _, _, _, _, _⟩ := two_cells hb3 hb4) | (go_at_call 10; (with_reducible refine (few_step hv' u3 hh3 hb3 hb4).mono ?_); rintro _ w4 ⟨rfl, hb5, hb6, u4, hh4⟩; obtain ⟨_, _, _, _, _, _, _, _, _, _⟩ := two_cells hb5 hb6))
      all_goals go_wp2_with fail
      all_goals go_ret
      all_goals exact ⟨rfl, u4⟩
  · rw [Bool.not_eq_true] at f1
    go_wp2_with fail
    obtain ⟨_, _, _, _, _, _, _, _, _, _⟩ := hS
    go_region_with (first | (go_at_call 22; (with_reducible refine (kind_step x.kind _ _ _ _ u4 hb5 hb6).mono ?_); rintro _ w5 ⟨rfl, hb7, hb8, u5⟩; obtain ⟨_, _, _, _, _, _, _, _, _, _⟩ := two_cells hb7 hb8) | (go_at_call 22; (with_reducible refine (kind_step y.kind _ _ _ _ u5 hb7 hb8).mono ?_); rintro _ w6 ⟨rfl, hb9, hb0, u6⟩) | (go_at_call 10; (with_reducible refine hF1.mono ?_); rintro _ w3 ⟨rfl, hb3, hb4, u3, hh3⟩; obtain ⟨_, _, _, _, _, _, _, _, _, _⟩ := two_cells hb3 hb4) | (go_at_call 10; (with_reducible refine (few_step hv' u3 hh3 hb3 hb4).mono ?_); rintro _ w4 ⟨rfl, hb5, hb6, u4, hh4⟩; obtain ⟨_, _, _, _, _, _, _, _, _, _⟩ := two_cells hb5 hb6))
    all_goals go_wp2_with fail
    all_goals go_ret
    all_goals exact ⟨rfl, u3⟩
end Go.Proofs.YtiaakidglmgmpaaDoor
