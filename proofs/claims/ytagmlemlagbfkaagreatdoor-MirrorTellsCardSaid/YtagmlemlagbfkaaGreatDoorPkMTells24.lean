/- The contract of MirrorBound (chapter 37). The reference's ring (layer 5): where it lies, and the contracts of its New, find, Sign, Valid. The reference's ring (layer 5): where it lies, and the contracts of its New, find, All, and of Same. The reference's ring (layer 5): the contracts of Same and Sign. The reference's ring (layer 5): the contract of Sign. The reference's book (layer 7): where it lies, and the contracts of its New, Text, Append. -/
import Derived.Test.YtagmlemlagbfkaaGreatDoorPkMTells23
import Derived.Test.YtagmlemlagbfkaaGreatDoorPkMTells22
import Derived.Test.YtagmlemlagbfkaaGreatDoorPkMTells4
import Derived.Test.YtagmlemlagbfkaaGreatDoorPkMTells0
import Derived.Test.YtagmlemlagbfkaaGreatDoorPkMTells7
import Derived.Test.YtagmlemlagbfkaaGreatDoorPkMTells13
namespace Go.Proofs.YtagmlemlagbfkaaGreatDoor
open Go.RowKit
set_option linter.unusedVariables false
set_option linter.unusedSimpArgs false
attribute [local irreducible] Calls

/-- What is true behind all acts. -/
structure Played (key : Int) (n : Nat) (s : Mi.PS) (M : List Bk.Sgn) : Prop where
  inv : Mi.PInv key n s M
  n : n ≤ 30
  ln : s.L.length ≤ 3000
  ms : 0 < s.ms.length ∧ s.ms.length ≤ 5
theorem Played.of {key : Int} {modes : List Int} {l : List Mi.PAct} (hk : Bk.isKey key = true ∧ keptM modes ≠ []) (hm : modes.length ≤ 5) (hl : l.length ≤ 30) (hok : ∀ a ∈ l, Mi.ActOk a) :
    ∃ M, Played key l.length (Mi.play (Mi.start key ((keptM modes).map Mi.fresh)) l) M ∧ (Mi.play (Mi.start key ((keptM modes).map Mi.fresh)) l).ms.map (·.mode) = keptM modes := by
  have h0 : Mi.PInv key 0 (Mi.start key ((keptM modes).map Mi.fresh)) [] := Mi.pinv_start hk.1 (fun m hm => by obtain ⟨k, -, rfl⟩ := List.mem_map.1 hm; exact ⟨k, rfl⟩)
  have hms : (Mi.start key ((keptM modes).map Mi.fresh)).ms.length = (keptM modes).length := by show ((keptM modes).map Mi.fresh).length = _; simp
  have hpos : 0 < (keptM modes).length := List.length_pos_iff.2 hk.2
  obtain ⟨⟨M, hi⟩, e⟩ := Mi.play_inv h0 (by omega) l hok l.length (Nat.le_refl _)
  have hln := play_ln h0 (by omega) l hok hl rfl l.length (Nat.le_refl _)
  rw [List.take_length] at hi e hln
  have hlen := congrArg List.length e
  rw [List.length_map, List.length_map, hms] at hlen
  have := keptM_len modes
  refine ⟨M, ⟨hi, hl, by omega, by omega, by omega⟩, e.trans ?_⟩
  show ((keptM modes).map Mi.fresh).map (·.mode) = keptM modes
  rw [List.map_map]
  exact List.map_id' _
theorem Sl.wide {lo hi hi' : Nat} {w : World} {v : Value} {xs : List Value} (h : Sl lo hi w v xs) (hh : hi ≤ hi') : Sl lo hi' w v xs := by
  rcases h with h | ⟨b, off, cap, h1, h2, h3, h4, h5, h6, h7⟩
  · exact Or.inl h
  · exact Or.inr ⟨b, off, cap, h1, h2, h3, h4, by omega, h6, h7⟩
theorem SlS.wide {sz lo hi hi' : Nat} {w : World} {v : Value} {xs : List (List Value)} (h : SlS sz lo hi w v xs) (hh : hi ≤ hi') : SlS sz lo hi' w v xs := by
  rcases h with h | ⟨b, off, cap, h1, h2, h3, h4, h5, h6, h7⟩
  · exact Or.inl h
  · exact Or.inr ⟨b, off, cap, h1, h2, h3, h4, by omega, h6, h7⟩
end Go.Proofs.YtagmlemlagbfkaaGreatDoor
namespace Go.Proofs.YtagmlemlagbfkaaGreatDoor
open Go.RowKit
set_option linter.unusedVariables false
set_option linter.unusedSimpArgs false
attribute [local irreducible] Calls

abbrev tQRing : TypeId := 147
/-- Where a ring of the reference lies: its block, the value of its slice. -/
structure QRing where
  qb : Nat
  ev : Value
def QRing.foot (q : QRing) (k : Nat) : Prop := k = q.qb ∨ q.ev.ownBlock = some k
structure QRingAt (B : Nat) (w : World) (q : QRing) (L : List Bk.Seal) : Prop where
  hb : nG ≤ B
  qb : B ≤ q.qb
  blk : w.heap[q.qb]? = some (.cells #[q.ev] tQRing (0, 0))
  own : w.ownsRow B tSealed 2 q.ev L.length ((L.map sealL).flatten)
  key : ∀ x ∈ L, I64 x.key ∧ x.text.length ≤ 140737488351232
theorem QRingAt.foot_lt {B : Nat} {w : World} {q : QRing} {L : List Bk.Seal} (h : QRingAt B w q L) {k : Nat} (hk : q.foot k) : B ≤ k ∧ k < w.heap.size := by
  rcases hk with rfl | hk
  · exact ⟨h.qb, lt_of_block h.blk⟩
  · obtain ⟨h1, cs, h2⟩ := own_block h.own hk
    exact ⟨h1, lt_of_block h2⟩
theorem QRingAt.upd {B : Nat} {S : Nat → Prop} {w w' : World} {q : QRing} {L : List Bk.Seal} (h : QRingAt B w q L) (u : Upd S w w') (hs : ∀ k, q.foot k → ¬ S k) : QRingAt B w' q L :=
  ⟨h.hb, h.qb, u.keep h.blk (hs _ (Or.inl rfl)), owns_upd' h.own u (fun k hk => hs k (Or.inr hk)), h.key⟩
theorem QRingAt.nw {B : Nat} {w w' : World} {q : QRing} {L : List Bk.Seal} (h : QRingAt B w q L) (u : Nw w w') : QRingAt B w' q L := h.upd u (fun _ _ s => s)
theorem QRingAt.c0 {B : Nat} {w : World} {q : QRing} {L : List Bk.Seal} (h : QRingAt B w q L) : w.cell? ⟨q.qb, 0, none⟩ = some q.ev := by rw [cells_cell h.blk]; rfl
theorem own_slice {B sz : Nat} {e : TypeId} {w : World} {v : Value} {n : Nat} {xs : List Value} (h : w.ownsRow B e sz v n xs) : ∃ a cap, v = .slice a n cap := by
  rcases h.2 with ⟨h1, h2⟩ | ⟨g, cap, cur, h1, _⟩
  · exact ⟨none, 0, by rw [h1, h2]⟩
  · exact ⟨_, _, h1⟩
theorem new_q (w : World) (g : Gl w) : Calls Tryz.prog 17 #[] w fun e w' => ∃ q, e = .returned (.pointer (some ⟨q.qb, 0, none⟩)) ∧ QRingAt w.heap.size w' q [] ∧ Nw w w' := by
  have hgb := g.big
  have u := nw_alloc w (.cells #[.slice none 0 0] tQRing)
  have k := heap_new w (.cells #[.slice none 0 0] tQRing)
  go_enter Tryz.func17, Tryz.ntmps17
  go_wp2_with fail
  go_ret
  exact ⟨⟨w.heap.size, .slice none 0 0⟩, rfl, ⟨hgb, Nat.le_refl _, k, World.ownsRow_nil _ _ _ _, fun x hx => by cases hx⟩, u⟩
/-- The cells of a list of the ring's entries. -/
theorem seal_cells {lo hi : Nat} {w : World} {v : Value} {X : List Bk.Seal} (h : SlS 2 lo hi w v (X.map sealL)) :
    ∃ a cap, v = .slice a X.length cap ∧ X.length ≤ maxLen ∧ (X = [] ∨ ∃ b off, a = some ⟨b, off, none⟩ ∧ b < hi ∧ b < w.heap.size ∧ ∀ i (h : i < X.length),
      w.cell? ⟨b, off + i * 2, none⟩ = some (.int .i64 X[i].key) ∧ w.cell? ⟨b, off + i * 2 + 1, none⟩ = some (.string ⟨X[i].text.toArray⟩)) := by
  obtain ⟨a, cap, rfl, hm, h⟩ := h.open_
  rw [List.length_map] at hm
  refine ⟨a, cap, by rw [List.length_map], hm, ?_⟩
  rcases h with h | ⟨b, off, rfl, _, hb1, hb, hc⟩
  · exact Or.inl (List.map_eq_nil_iff.1 h)
  · refine Or.inr ⟨b, off, rfl, hb1, hb, fun i hi => ?_⟩
    have h2 := (hc i (by simpa using hi)).2
    simp only [List.getElem_map] at h2
    exact ⟨by rw [← Nat.add_zero (off + i * 2), h2 0 (by omega)]; rfl, by rw [h2 1 (by omega)]; rfl⟩
theorem seal_sls {B : Nat} {w : World} {v : Value} {L : List Bk.Seal} (h : w.ownsRow B tSealed 2 v L.length ((L.map sealL).flatten)) : SlS 2 B w.heap.size w v (L.map sealL) :=
  SlS.of_owns h (by simp) (by omega) (fun y hy => by
    obtain ⟨z, _, rfl⟩ := List.mem_map.1 hy
    rfl)
/-- The mark of an entry, or -1. -/
def placeI (L : List Bk.Seal) (e : Bk.Seal) : Int := match Bk.place L e with
  | some i => i
  | none => -1
theorem place_first {L : List Bk.Seal} {e : Bk.Seal} {k : Nat} (hk : k < L.length) (he : L[k] = e) (hno : ∀ j (h : j < L.length), j < k → L[j] ≠ e) : Bk.place L e = some k := by
  induction L generalizing k with
  | nil => simp at hk
  | cons x L ih =>
    unfold Bk.place
    cases k with
    | zero => rw [if_pos (show x = e from he)]
    | succ k =>
      rw [if_neg (show ¬ x = e from hno 0 (by simp) (by omega)), ih (k := k) (by simpa using hk) (by simpa using he) (fun j h hj => hno (j + 1) (by simpa using h) (by omega))]
      rfl
set_option maxHeartbeats 1000000 in
theorem find_q (B : Nat) (q : QRing) (L : List Bk.Seal) (k : Int) (t : List UInt8) (w : World) (h : QRingAt B w q L) (hL : L.length ≤ 1000000) :
    Calls Tryz.prog 215 #[.pointer (some ⟨q.qb, 0, none⟩), .int .i64 k, .string ⟨t.toArray⟩] w fun e w' => e = .returned (.int .i64 (placeI L ⟨k, t⟩)) ∧ Nw w w' := by
  have c0 := h.c0
  obtain ⟨a, cap, hev, hm, ha⟩ := seal_cells (seal_sls h.own)
  rw [hev] at c0
  have Ha := Lib.hid ha
  clear ha hev h
  go_enter Tryz.func215, Tryz.ntmps215
  go_wp2_with fail
  go_loop [7] (fun i => ∃ n : Nat, n ≤ L.length ∧ i = .int .i64 n ∧ Hid (∀ j (h : j < L.length), j < n → L[j] ≠ ⟨k, t⟩)) (fun i => L.length - (intOf i).toNat)
  case atStart => exact ⟨0, Nat.zero_le _, rfl, fun j _ h => by omega⟩
  case round =>
    obtain ⟨n, hn, rfl, hno⟩ := hrel
    by_cases hlt : n < L.length
    · rcases Ha.out with hnil | ⟨b, off, rfl, _, hbl, hcell⟩
      · simp [hnil] at hlt
      · obtain ⟨d0, d1⟩ := hcell n hlt
        clear hcell
        have hfirst : L[n] = ⟨k, t⟩ → Hid (placeI L ⟨k, t⟩ = n) := fun e => by
          show _ = _
          unfold placeI
          rw [place_first hlt e hno.out]
        have hnext : L[n] ≠ ⟨k, t⟩ → Hid (∀ j (h : j < L.length), j < n + 1 → L[j] ≠ ⟨k, t⟩) := fun e j h hj => by
          by_cases ej : j = n
          · subst ej; exact e
          · exact hno.out j h (by omega)
        generalize L[n] = x at *
        obtain ⟨xk, xt⟩ := x
        dsimp only at d0 d1
        by_cases hk : xk = k
        · have hkb : (xk == k) = true := beq_iff_eq.2 hk
          by_cases ht : xt = t
          · have htb : (xt == t) = true := beq_iff_eq.2 ht
            have hr := hfirst (by rw [hk, ht])
            clear hfirst hnext hk ht
            go_wp2_with fail
            go_ret
            exact ⟨ret_int hr.out.symm, Upd.refl _ _⟩
          · have htb : (xt == t) = false := beq_eq_false_iff_ne.2 ht
            have hr := hnext (fun e => ht (by injection e))
            clear hfirst hnext hk ht
            go_wp2_with fail
            go_round
            case rel => exact ⟨n + 1, by omega, by go_num, hr⟩
            case measure => simp [intOf]; omega
        · have hkb : (xk == k) = false := beq_eq_false_iff_ne.2 hk
          have hr := hnext (fun e => hk (by injection e))
          clear hfirst hnext hk
          go_wp2_with fail
          go_round
          case rel => exact ⟨n + 1, by omega, by go_num, hr⟩
          case measure => simp [intOf]; omega
    · have hr : Hid (placeI L ⟨k, t⟩ = -1) := by
        show _ = _
        unfold placeI
        rw [Bk.place_none.2]
        intro hmem
        obtain ⟨j, hj, e⟩ := List.mem_iff_getElem.1 hmem
        exact hno.out j hj (by omega) e
      go_wp2_with fail
      go_ret
      exact ⟨ret_int hr.out.symm, Upd.refl _ _⟩
end Go.Proofs.YtagmlemlagbfkaaGreatDoor
namespace Go.Proofs.YtagmlemlagbfkaaGreatDoor
open Go.RowKit
set_option linter.unusedVariables false
set_option linter.unusedSimpArgs false
attribute [local irreducible] Calls

end Go.Proofs.YtagmlemlagbfkaaGreatDoor
namespace Go.Proofs.YtagmlemlagbfkaaGreatDoor
open Go.RowKit
set_option linter.unusedVariables false
set_option linter.unusedSimpArgs false
attribute [local irreducible] Calls

def QSignPost (B : Nat) (q : QRing) (v : Value) (L' : List Bk.Seal) (w : World) (e : Ending) (w' : World) : Prop :=
  ∃ q', e = .returned v ∧ QRingAt B w' q' L' ∧ q'.qb = q.qb ∧ Upd q.foot w w' ∧ ∀ j, q'.foot j → q.foot j ∨ w.heap.size ≤ j
theorem qsign_results {w : World} {bp : Nat} {tmps : Array Value} {v0 v1 v2 : Value} {T : TypeId} {fz : Nat × Nat} (h : w.heap[bp]? = some (.cells #[v0, v1, v2] T fz)) (ht : tmps.getD 6 undef = .pointer (some ⟨bp, 0, none⟩)) :
    (results Tryz.f188 tmps).run Tryz.prog w = .ok (.agg #[v0, v1, v2]) w := by
  have c0 : w.cell? ⟨bp, 0, none⟩ = some v0 := by rw [cells_cell h]; rfl
  have c1 : w.cell? ⟨bp, 1, none⟩ = some v1 := by rw [cells_cell h]; rfl
  have c2 : w.cell? ⟨bp, 2, none⟩ = some v2 := by rw [cells_cell h]; rfl
  clear h
  have ht2 : tmps[6]?.getD undef = .pointer (some ⟨bp, 0, none⟩) := by simpa using ht
  clear ht
  simp [results, Tryz.results188, go_sem, ht2, c0, c1, c2]
theorem qsgn_none {B : Nat} {q : QRing} {L : List Bk.Seal} {w w1 : World} (hr1 : QRingAt B w1 q L) {v v' : Value} (hv : v = v') (u : Nw w w1) : QSignPost B q v L w (.returned v') w1 := by
  subst hv
  exact ⟨q, rfl, hr1, rfl, Nw.upd _ u, fun j hj => Or.inl hj⟩
/-- What is left to do behind a signing: the result's three cells. -/
theorem qsgn_end {B : Nat} {q q' : QRing} {L' : List Bk.Seal} {w w2 w4 : World} (hgb : nG ≤ w.heap.size) (hrb : q'.qb = q.qb) (hr4 : QRingAt B w4 q' L') (hlt : ∀ j, q.foot j → j < w.heap.size) (u2 : Nw w w2) (u4 : Upd q.foot w2 w4) (hf4 : ∀ j, q'.foot j → q.foot j ∨ w2.heap.size ≤ j) {p : Nat} (hp : w.heap.size ≤ p) (hw2 : p < w2.heap.size) (v0 v1 v2 v : Value) :
    QSignPost B q v L' w (.returned v) (((w4.setCell ⟨p, 0, none⟩ v0).setCell ⟨p, 1, none⟩ v1).setCell ⟨p, 2, none⟩ v2) := by
  have x : Upd (fun x => x = p) w4 (((w4.setCell ⟨p, 0, none⟩ v0).setCell ⟨p, 1, none⟩ v1).setCell ⟨p, 2, none⟩ v2) :=
    Upd.set1 (Upd.set1 (Upd.set1 (Upd.refl _ _) (by omega) 0 _) (by omega) 1 _) (by omega) 2 _
  refine ⟨q', rfl, hr4.upd x (fun j hj e => ?_), hrb, (Nw.trans u2 u4).trans' x (fun j hj e => by omega), fun j hj => (hf4 j hj).imp id (fun e => by have := u2.size; omega)⟩
  rcases hf4 j hj with e2 | e2
  · have := hlt j e2; omega
  · omega
/-- What 'r.L = append(r.L, x)' leaves. -/
theorem qapp_done {B : Nat} {q : QRing} {L : List Bk.Seal} {x : Bk.Seal} {v' : Value} {w3 w5 : World} (h : QRingAt B w3 q L) (hown : w5.ownsRow B tSealed 2 v' (L.length + 1) ((L.map sealL).flatten ++ sealL x)) (u : Upd (fun k => q.ev.ownBlock = some k) w3 w5)
    (hob : ∀ k, v'.ownBlock = some k → q.ev.ownBlock = some k ∨ w3.heap.size ≤ k) (hk : I64 x.key) (ht : x.text.length ≤ 140737488351232) :
    w5.cell? ⟨q.qb, 0, none⟩ = some q.ev ∧ w5.frozen? ⟨q.qb, 0, none⟩ = false ∧ QRingAt B (w5.setCell ⟨q.qb, 0, none⟩ v') ⟨q.qb, v'⟩ (L ++ [x]) ∧ Upd q.foot w3 (w5.setCell ⟨q.qb, 0, none⟩ v') ∧ ∀ j, QRing.foot ⟨q.qb, v'⟩ j → q.foot j ∨ w3.heap.size ≤ j := by
  have hlt := lt_of_block h.blk
  have hne1 : q.ev.ownBlock ≠ some q.qb := by
    intro e
    obtain ⟨_, cs, hh⟩ := own_block h.own e
    have := h.blk
    rw [hh] at this
    simp [tQRing, tSealed] at this
  have hne2 : v'.ownBlock ≠ some q.qb := by
    intro e
    rcases hob _ e with e | e
    · exact hne1 e
    · omega
  have k5 := u.keep h.blk hne1
  have hqb := h.qb
  have hhb := h.hb
  have z : Upd (fun x => x = q.qb) w5 (w5.setCell ⟨q.qb, 0, none⟩ v') := Upd.set1 (Upd.refl _ _) (by omega) 0 _
  refine ⟨by rw [cells_cell k5]; rfl, cells_frozen k5 0, ⟨h.hb, h.qb, setCell_block k5 0 v', ?_, ?_⟩, (u.mono (S' := q.foot) (fun k _ e => Or.inr e)).trans' z (fun k _ e => Or.inl e), ?_⟩
  · rw [List.length_append, List.length_singleton, List.map_append, List.flatten_append, show ([x].map sealL).flatten = sealL x by simp]
    exact owns_upd' hown z (fun k hk e => by subst e; exact hne2 hk)
  · intro y hy
    rcases List.mem_append.1 hy with hy | hy
    · exact h.key y hy
    · rw [List.mem_singleton.1 hy]; exact ⟨hk, ht⟩
  · rintro j (rfl | hj)
    · exact Or.inl (Or.inl rfl)
    · exact (hob j hj).imp (fun e => Or.inr e) id
set_option maxHeartbeats 2000000 in
set_option maxRecDepth 100000 in
theorem sign_q (B : Nat) (q : QRing) (L : List Bk.Seal) (k : Int) (t : List UInt8) (w : World) (g : Gl w) (h : QRingAt B w q L) (hk : I64 k) (ht : t.length ≤ 140737488351232) (hL : L.length ≤ 1000000) (hB : B ≤ w.heap.size) :
    Calls Tryz.prog 188 #[.pointer (some ⟨q.qb, 0, none⟩), .int .i64 k, .string ⟨t.toArray⟩] w (QSignPost B q (sgnV (Bk.sign L k t).1) (Bk.sign L k t).2 w) := by
  have n1 := nw_alloc w (.cells #[.int .i64 0, .string ⟨#[]⟩, .int .i64 0] tSigned)
  have k1 := heap_new w (.cells #[.int .i64 0, .string ⟨#[]⟩, .int .i64 0] tSigned)
  have h1 := h.nw n1
  have hgb := g.big
  have f0 := cells_frozen k1 0
  have f1 := cells_frozen k1 1
  have f2 := cells_frozen k1 2
  obtain ⟨_, _, _⟩ := cell3 k1
  have K1 := Lib.hid k1; clear k1
  have hlt : ∀ j, q.foot j → j < w.heap.size := fun j hj => (h.foot_lt hj).2
  by_cases hkk : 0 ≤ k ∧ k < 200
  rotate_left
  · have hr : Hid (Bk.sign L k t = (Bk.noSgn, L)) := by
      show _ = _
      unfold Bk.sign Bk.isKey
      rw [if_neg (by simp; omega)]
    by_cases hk0 : k < 0
    · have hb : decide (k < 0) = true := decide_eq_true hk0
      go_enter Tryz.func188, Tryz.ntmps188
      go_wp2_with fail
      (try simp only [Exit.inBlock, Exit.then])
      rw [hr.out]
      exact bodyPost_ret (qsign_results K1.out rfl) rfl (qsgn_none h1 rfl n1)
    · have hb : decide (k < 0) = false := decide_eq_false hk0
      have hb2 : decide (200 ≤ k) = true := decide_eq_true (by omega)
      go_enter Tryz.func188, Tryz.ntmps188
      go_wp2_with fail
      (try simp only [Exit.inBlock, Exit.then])
      rw [hr.out]
      exact bodyPost_ret (qsign_results K1.out rfl) rfl (qsgn_none h1 rfl n1)
  obtain ⟨hk0, hk2⟩ := hkk
  have hb : decide (k < 0) = false := decide_eq_false (by omega)
  have hb2 : decide (200 ≤ k) = false := decide_eq_false (by omega)
  have hfind := find_q B q L k t _ h1 hL
  have hsg : Bk.sign L k t = match Bk.place L ⟨k, t⟩ with
    | some i => (⟨k, t, i⟩, L)
    | none => (⟨k, t, L.length⟩, L ++ [⟨k, t⟩]) := by
    unfold Bk.sign Bk.isKey
    rw [if_pos (by simp; omega)]
    rfl
  cases hp : Bk.place L ⟨k, t⟩ with
  | some i =>
    rw [hp] at hsg
    have hr := Lib.hid hsg
    have hpi : placeI L ⟨k, t⟩ = i := by unfold placeI; rw [hp]
    rw [hpi] at hfind
    have hil := Bk.place_lt hp
    clear hp hsg hpi
    go_enter Tryz.func188, Tryz.ntmps188
    go_wp2_with fail
    (with_reducible refine (hfind).mono ?_)
    rintro _ w2 ⟨rfl, u2⟩
    have K2 := Lib.hid (u2.keep K1.out)
    obtain ⟨_, _, _⟩ := cell3 K2.out
    have f0' := cells_frozen K2.out 0
    have f1' := cells_frozen K2.out 1
    have f2' := cells_frozen K2.out 2
    clear hfind
    go_wp2_with fail
    (try simp only [Exit.inBlock, Exit.then])
    rw [hr.out]
    exact bodyPost_ret (qsign_results (set3 K2.out) rfl) rfl (qsgn_end hgb rfl (h1.nw u2) hlt (n1.trans u2) (Upd.refl _ _) (fun j hj => Or.inl hj) (Nat.le_refl _) (lt_of_block K2.out) _ _ _ _)
  | none =>
    rw [hp] at hsg
    have hr := Lib.hid hsg
    have hpi : placeI L ⟨k, t⟩ = -1 := by unfold placeI; rw [hp]
    rw [hpi] at hfind
    clear hp hsg hpi
    obtain ⟨qb, ev⟩ := q
    dsimp only at *
    obtain ⟨a, cap, rfl⟩ := own_slice h.own
    go_enter Tryz.func188, Tryz.ntmps188
    go_wp2_with fail
    (with_reducible refine (hfind).mono ?_)
    rintro _ w2 ⟨rfl, u2⟩
    have K2 := Lib.hid (u2.keep K1.out)
    have h2 := h1.nw u2
    have c0 := h2.c0
    dsimp only at c0
    have c0' := fun o => (h2.nw (nw_alloc w2 o)).c0
    dsimp only at c0'
    have hB2 : B ≤ w2.heap.size := by have := u2.size; have := n1.size; omega
    have hown2 := h2.own
    dsimp only at hown2
    have hhb := h.hb
    clear hfind
    go_wp2_with (at_builtin; refine wpList_appL rfl _ _ 120 rfl B tSealed _ 2 24 Tryz.underlying120 infoSealed rfl (by decide) _ _ _ rfl hown2 (sealL ⟨k, t⟩) rfl rfl ?c1 ?c2 ?c3 hB2 hhb ?_)
    case c1 => intro u hu; simp only [sealL, List.mem_cons, List.not_mem_nil, or_false] at hu; rcases hu with rfl | rfl <;> rfl
    case c2 => unfold maxLen; omega
    case c3 => omega
    intro v' w5 hown5 q5 hob
    obtain ⟨a', cap', rfl⟩ := own_slice hown5
    obtain ⟨d0, d1, d2, d3, d4⟩ := qapp_done (x := ⟨k, t⟩) h2 hown5 q5 hob hk ht
    dsimp only at d0 d1 d2 d3 d4
    have k5 := q5.keep K2.out (fun e => by have := hlt w.heap.size (Or.inr e); omega)
    have z : Upd (fun x => x = qb) w5 (w5.setCell ⟨qb, 0, none⟩ (.slice a' (L.length + 1) cap')) := Upd.set1 (Upd.refl _ _) (by have := h.qb; dsimp only at this; omega) 0 _
    have K6 := Lib.hid (z.keep k5 (fun e => by have := hlt w.heap.size (Or.inl e); omega))
    have f0' := cells_frozen K6.out 0
    have f1' := cells_frozen K6.out 1
    have f2' := cells_frozen K6.out 2
    obtain ⟨_, _, _⟩ := cell3 K6.out
    have D2 := Lib.hid d2
    have D3 := Lib.hid d3
    have D4 := Lib.hid d4
    clear d2 d3 d4 hown5 q5 hob z k5 c0 c0'
    go_wp2_with fail
    (try simp only [Exit.inBlock, Exit.then])
    rw [hr.out]
    exact bodyPost_ret (qsign_results (set3 K6.out) rfl) rfl (qsgn_end (q := ⟨qb, .slice a L.length cap⟩) (q' := ⟨qb, .slice a' (L.length + 1) cap'⟩) hgb rfl D2.out hlt (n1.trans u2) D3.out D4.out (Nat.le_refl _) (lt_of_block K2.out) _ _ _ _)
end Go.Proofs.YtagmlemlagbfkaaGreatDoor
namespace Go.Proofs.YtagmlemlagbfkaaGreatDoor
open Go.RowKit
set_option linter.unusedVariables false
set_option linter.unusedSimpArgs false
attribute [local irreducible] Calls

end Go.Proofs.YtagmlemlagbfkaaGreatDoor
namespace Go.Proofs.YtagmlemlagbfkaaGreatDoor
open Go.RowKit
set_option linter.unusedVariables false
set_option linter.unusedSimpArgs false
attribute [local irreducible] Calls

end Go.Proofs.YtagmlemlagbfkaaGreatDoor
namespace Go.Proofs.YtagmlemlagbfkaaGreatDoor
open Go.RowKit
set_option linter.unusedVariables false
set_option linter.unusedSimpArgs false
attribute [local irreducible] Calls

end Go.Proofs.YtagmlemlagbfkaaGreatDoor
namespace Go.Proofs.YtagmlemlagbfkaaGreatDoor
open Go.RowKit
set_option linter.unusedVariables false
set_option linter.unusedSimpArgs false
attribute [local irreducible] Calls

abbrev tQBook : TypeId := 149
structure QBook where
  cb : Nat
  ev : Value
def QBook.foot (c : QBook) (k : Nat) : Prop := k = c.cb ∨ c.ev.ownBlock = some k
def qbookC (c : QBook) (qb : Nat) (b : Bk.Book) : Array Value := #[.pointer (some ⟨qb, 0, none⟩), .int .i64 b.key, c.ev, .int .i64 b.last, .int .i64 b.told]
/-- In the blocks from B on lies the reference's book c, signing into the ring at qb, with the contents b. -/
structure QBookAt (B : Nat) (w : World) (c : QBook) (qb : Nat) (b : Bk.Book) : Prop where
  hb : nG ≤ B
  cb : B ≤ c.cb
  blk : w.heap[c.cb]? = some (.cells (qbookC c qb b) tQBook (0, 0))
  own : w.ownsRow B tStr 1 c.ev b.es.length (b.es.map strB)
  keys : ∀ t ∈ b.es, (Cl.key t).2 = true ∧ t.length ≤ 20000
  len : b.es.length ≤ 200000
  last : -1 ≤ b.last ∧ b.last ≤ 1073741824
  told : 0 ≤ b.told ∧ b.told ≤ 200000
  key : 0 ≤ b.key ∧ b.key < 200
theorem QBookAt.foot_lt {B : Nat} {w : World} {c : QBook} {qb : Nat} {b : Bk.Book} (h : QBookAt B w c qb b) {k : Nat} (hk : c.foot k) : B ≤ k ∧ k < w.heap.size := by
  rcases hk with rfl | hk
  · exact ⟨h.cb, lt_of_block h.blk⟩
  · obtain ⟨h1, cs, h2⟩ := own_block h.own hk
    exact ⟨h1, lt_of_block h2⟩
theorem QBookAt.upd {B : Nat} {S : Nat → Prop} {w w' : World} {c : QBook} {qb : Nat} {b : Bk.Book} (h : QBookAt B w c qb b) (u : Upd S w w') (hs : ∀ k, c.foot k → ¬ S k) : QBookAt B w' c qb b :=
  ⟨h.hb, h.cb, u.keep h.blk (hs _ (Or.inl rfl)), owns_upd' h.own u (fun k hk => hs k (Or.inr hk)), h.keys, h.len, h.last, h.told, h.key⟩
theorem QBookAt.nw {B : Nat} {w w' : World} {c : QBook} {qb : Nat} {b : Bk.Book} (h : QBookAt B w c qb b) (u : Nw w w') : QBookAt B w' c qb b := h.upd u (fun _ _ s => s)
theorem QBookAt.slice {B : Nat} {w : World} {c : QBook} {qb : Nat} {b : Bk.Book} (h : QBookAt B w c qb b) : ∃ a cap, c.ev = .slice a b.es.length cap := own_slice h.own
theorem QBookAt.cells {B : Nat} {w : World} {c : QBook} {qb : Nat} {b : Bk.Book} (h : QBookAt B w c qb b) :
    w.cell? ⟨c.cb, 0, none⟩ = some (.pointer (some ⟨qb, 0, none⟩)) ∧ w.cell? ⟨c.cb, 1, none⟩ = some (.int .i64 b.key) ∧ w.cell? ⟨c.cb, 2, none⟩ = some c.ev ∧ w.cell? ⟨c.cb, 3, none⟩ = some (.int .i64 b.last) ∧ w.cell? ⟨c.cb, 4, none⟩ = some (.int .i64 b.told) := by
  refine ⟨?_, ?_, ?_, ?_, ?_⟩ <;> (rw [cells_cell h.blk]; rfl)
theorem newb_q (qb : Nat) (key : Int) (w : World) (g : Gl w) : Calls Tryz.prog 18 #[.pointer (some ⟨qb, 0, none⟩), .int .i64 key] w fun e w' =>
    (Bk.isKey key = true ∧ ∃ c, e = .returned (.tuple #[.pointer (some ⟨c.cb, 0, none⟩), .int .i64 0]) ∧ QBookAt w.heap.size w' c qb (Bk.new key) ∧ Nw w w') ∨
    (Bk.isKey key = false ∧ e = .returned (.tuple #[.pointer none, .int .i64 22]) ∧ Nw w w') := by
  have hgb := g.big
  by_cases hk : 0 ≤ key ∧ key < 200
  · have hkk : Hid (Bk.isKey key = true) := by show _ = _; unfold Bk.isKey; simp [hk]
    obtain ⟨hk1, hk2⟩ := hk
    have b2 := heap_new w (.cells #[.pointer (some ⟨qb, 0, none⟩), .int .i64 key, .slice none 0 0, .int .i64 (-1), .int .i64 0] tQBook)
    have u2 := nw_alloc w (.cells #[.pointer (some ⟨qb, 0, none⟩), .int .i64 key, .slice none 0 0, .int .i64 (-1), .int .i64 0] tQBook)
    have B2 := Lib.hid b2
    clear b2
    go_enter Tryz.func18, Tryz.ntmps18
    go_wp2_with fail
    go_ret2
    exact Or.inl ⟨hkk.out, ⟨w.heap.size, .slice none 0 0⟩, rfl, ⟨hgb, Nat.le_refl _, B2.out, World.ownsRow_nil _ _ _ _, (fun t ht => by cases ht), by simp [Bk.new], by simp [Bk.new], by simp [Bk.new], ⟨hk1, hk2⟩⟩, u2⟩
  · have hkk : Hid (Bk.isKey key = false) := by show _ = _; unfold Bk.isKey; rw [← Bool.not_eq_true]; simp; omega
    have hk2 : key < 0 ∨ 200 ≤ key := by omega
    clear hk
    rcases hk2 with hk | hk
    all_goals go_enter Tryz.func18, Tryz.ntmps18
    all_goals go_wp2_with fail
    all_goals go_ret2
    all_goals exact Or.inr ⟨hkk.out, rfl, Upd.refl _ _⟩
/-- What 'b.L = append(b.L, text)' leaves. -/
theorem qbapp_done {B : Nat} {c : QBook} {qb : Nat} {b : Bk.Book} {t : List UInt8} {v' : Value} {w3 w5 : World} (h : QBookAt B w3 c qb b) (hown : w5.ownsRow B tStr 1 v' (b.es.length + 1) (b.es.map strB ++ [strB t])) (u : Upd (fun k => c.ev.ownBlock = some k) w3 w5)
    (hob : ∀ k, v'.ownBlock = some k → c.ev.ownBlock = some k ∨ w3.heap.size ≤ k) (hk : (Cl.key t).2 = true) (ht : t.length ≤ 20000) (hl : b.es.length < 200000) :
    w5.cell? ⟨c.cb, 2, none⟩ = some c.ev ∧ w5.frozen? ⟨c.cb, 2, none⟩ = false ∧ (w5.setCell ⟨c.cb, 2, none⟩ v').cell? ⟨c.cb, 2, none⟩ = some v' ∧ QBookAt B (w5.setCell ⟨c.cb, 2, none⟩ v') ⟨c.cb, v'⟩ qb { b with es := b.es ++ [t] } ∧ Upd c.foot w3 (w5.setCell ⟨c.cb, 2, none⟩ v') ∧ ∀ j, QBook.foot ⟨c.cb, v'⟩ j → c.foot j ∨ w3.heap.size ≤ j := by
  have hlt := lt_of_block h.blk
  have hne1 : c.ev.ownBlock ≠ some c.cb := by
    intro e
    obtain ⟨_, cs, hh⟩ := own_block h.own e
    have := h.blk
    rw [hh] at this
    simp [tQBook, tStr] at this
  have hne2 : v'.ownBlock ≠ some c.cb := by
    intro e
    rcases hob _ e with e | e
    · exact hne1 e
    · omega
  have k5 := u.keep h.blk hne1
  have hqb := h.cb
  have hhb := h.hb
  have z : Upd (fun x => x = c.cb) w5 (w5.setCell ⟨c.cb, 2, none⟩ v') := Upd.set1 (Upd.refl _ _) (by omega) 2 _
  have k6 := setCell_block k5 2 v'
  refine ⟨by rw [cells_cell k5]; rfl, cells_frozen k5 2, by rw [cells_cell k6]; rfl, ⟨h.hb, h.cb, k6, ?_, ?_, ?_, h.last, h.told, h.key⟩, (u.mono (S' := c.foot) (fun k _ e => Or.inr e)).trans' z (fun k _ e => Or.inl e), ?_⟩
  · rw [List.length_append, List.length_singleton, List.map_append]
    exact owns_upd' hown z (fun k hk e => by subst e; exact hne2 hk)
  · intro y hy
    rcases List.mem_append.1 hy with hy | hy
    · exact h.keys y hy
    · rw [List.mem_singleton.1 hy]; exact ⟨hk, ht⟩
  · simp; omega
  · rintro j (rfl | hj)
    · exact Or.inl (Or.inl rfl)
    · exact (hob j hj).imp (fun e => Or.inr e) id
def QAppendPost (B : Nat) (c : QBook) (qb : Nat) (y : (Int × Int) × Bk.Book) (w : World) (e : Ending) (w' : World) : Prop :=
  ∃ c', e = .returned (.tuple #[.int .i64 y.1.1, .int .i64 y.1.2]) ∧ QBookAt B w' c' qb y.2 ∧ c'.cb = c.cb ∧ Upd c.foot w w' ∧ ∀ j, c'.foot j → c.foot j ∨ w.heap.size ≤ j
set_option maxHeartbeats 2000000 in
set_option maxRecDepth 100000 in
theorem append_q (B : Nat) (c : QBook) (qb : Nat) (b : Bk.Book) (t : List UInt8) (w : World) (g : Gl w) (h : QBookAt B w c qb b) (hB : B ≤ w.heap.size) (ht : t.length ≤ 140737488351232) :
    Calls Tryz.prog 21 #[.pointer (some ⟨c.cb, 0, none⟩), .string ⟨t.toArray⟩] w (QAppendPost B c qb (Bk.append b t) w) := by
  obtain ⟨cb, ev⟩ := c
  have hown0 := h.own
  dsimp only at hown0
  obtain ⟨a, cap, rfl⟩ := own_slice hown0
  clear hown0
  have Hlen := Lib.hid h.len
  have hap : Bk.append b t = (if (Cl.key t).2 = false then (((0 : Int), (2 : Int)), b)
    else if 20000 < t.length then ((0, 3), b)
    else if 200000 ≤ b.es.length then ((0, 6), b)
    else ((b.es.length, 0), { b with es := b.es ++ [t] }) : (Int × Int) × Bk.Book) := rfl
  have Hap := Lib.hid hap; clear hap
  go_enter Tryz.func21, Tryz.ntmps21
  go_wp2_with fail
  (with_reducible refine (key_q ⟨t.toArray⟩ t (bs_list _) (by omega) _ g).mono ?_)
  rintro _ w1 ⟨rfl, u1⟩
  have h1 := h.nw u1
  have c2 := h1.cells.2.2.1
  dsimp only at c2 ⊢
  cases hok : (Cl.key t).2 with
  | false =>
    have hr : Hid (Bk.append b t = ((0, 2), b)) := by show _ = _; rw [Hap.out, if_pos hok]
    clear hok
    go_wp2_with fail
    go_ret2
    rw [hr.out]
    exact ⟨⟨cb, .slice a b.es.length cap⟩, rfl, h1, rfl, Nw.upd _ u1, fun j hj => Or.inl hj⟩
  | true =>
  have Hok := Lib.hid hok; clear hok
  by_cases h2 : 20000 < t.length
  · have hr : Hid (Bk.append b t = ((0, 3), b)) := by show _ = _; rw [Hap.out, if_neg (by rw [Hok.out]; simp), if_pos h2]
    go_wp2_with fail
    go_ret2
    rw [hr.out]
    exact ⟨⟨cb, .slice a b.es.length cap⟩, rfl, h1, rfl, Nw.upd _ u1, fun j hj => Or.inl hj⟩
  by_cases h3 : 200000 ≤ b.es.length
  · have hd3 : decide ((200000 : Int) ≤ (b.es.length : Int)) = true := decide_eq_true (by omega)
    have hr : Hid (Bk.append b t = ((0, 6), b)) := by show _ = _; rw [Hap.out, if_neg (by rw [Hok.out]; simp), if_neg h2, if_pos h3]
    clear h3
    go_wp2_with fail
    go_ret2
    rw [hr.out]
    exact ⟨⟨cb, .slice a b.es.length cap⟩, rfl, h1, rfl, Nw.upd _ u1, fun j hj => Or.inl hj⟩
  have hd3 : decide ((200000 : Int) ≤ (b.es.length : Int)) = false := decide_eq_false (by omega)
  have hr : Hid (Bk.append b t = (((b.es.length : Int), 0), { b with es := b.es ++ [t] })) := by show _ = _; rw [Hap.out, if_neg (by rw [Hok.out]; simp), if_neg h2, if_neg h3]
  have H3 := Lib.hid h3
  clear h3
  have hB1 : B ≤ w1.heap.size := Nat.le_trans hB u1.size
  have hhb := h.hb
  have hown1 := h1.own
  dsimp only at hown1
  have c2' := fun o => (h1.nw (nw_alloc w1 o)).cells.2.2.1
  dsimp only at c2'
  go_wp2_with (at_builtin; refine wpList_appL rfl _ _ 30 rfl B tStr _ 1 16 Tryz.underlying30 infoStr' rfl (by decide) _ _ _ rfl hown1 [strB t] rfl rfl ?c1 ?c2 ?c3 hB1 hhb ?_)
  case c1 => intro u hu; rw [List.mem_singleton.1 hu]; rfl
  case c2 => have := H3.out; unfold maxLen; omega
  case c3 => have := H3.out; omega
  intro v' w5 hown5 q5 hob
  obtain ⟨a', cap', rfl⟩ := own_slice hown5
  obtain ⟨d0, d1, d5, d2, d3, d4⟩ := qbapp_done h1 hown5 q5 hob Hok.out (by omega) (by have := H3.out; omega)
  dsimp only at d0 d1 d2 d3 d4 d5
  have D2 := Lib.hid d2
  have D3 := Lib.hid d3
  have D4 := Lib.hid d4
  clear d2 d3 d4 hown5 q5 hob c2 c2'
  go_wp2_with fail
  go_ret2
  rw [hr.out]
  exact ⟨⟨cb, .slice a' (b.es.length + 1) cap'⟩, by have := H3.out; congr 3; simp; unfold wrap64; omega, D2.out, rfl, Nw.trans u1 D3.out, fun j hj => (D4.out j hj).imp id (fun e => Nat.le_trans u1.size e)⟩
end Go.Proofs.YtagmlemlagbfkaaGreatDoor
