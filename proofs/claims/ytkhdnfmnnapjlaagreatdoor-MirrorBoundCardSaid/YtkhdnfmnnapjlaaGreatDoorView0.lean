/- The view (layer 8) in memory: where it lies, what is kept when other memory changes, what its maps answer, how they take a further claim. -/
import Derived.Test.YtkhdnfmnnapjlaaGreatDoorSeals
import Derived.Test.YtkhdnfmnnapjlaaGreatDoorViewPl
import Derived.Test.YtkhdnfmnnapjlaaGreatDoorMaps
import Derived.Test.YtkhdnfmnnapjlaaGreatDoorOwns
import Derived.Test.YtkhdnfmnnapjlaaGreatDoorClaimW
namespace Go.Proofs.YtkhdnfmnnapjlaaGreatDoor
open Go.RowKit Go.MapKept
open Go.Maps (Keyed)
set_option linter.unusedVariables false
set_option linter.unusedSimpArgs false

abbrev tView : TypeId := 109
abbrev tInt : TypeId := 3
abbrev tStr8 : TypeId := 9
def str8 (s : List UInt8) : Value := .string ⟨s.toArray⟩
theorem str8_inj {a b : List UInt8} (h : str8 a = str8 b) : a = b := by
  simp [str8] at h
  exact h
theorem str8Keyed : Keyed Tryz.prog tStr8 := Maps.string_keyed Tryz.underlying9
theorem intKeyed : Keyed Tryz.prog tInt := Maps.int_keyed Tryz.underlying3
theorem int_key {n : Int} (h : I64 n) : keyOf Tryz.prog tInt (.int .i64 n) = some (.int .i64 n) := by
  unfold keyOf
  rw [Tryz.underlying3]
  unfold I64 at h
  simp [mapKey, Tryz.underlying3, i64_wf' h]
/-- 'm[k] = v', the key there already. -/
theorem MapL.store_old {P : Program} {t k e : TypeId} {w : World} {b : Nat} {l1 l2 : List (Value × Value)} {key v : Value} (h : MapL P k w b (l1 ++ (key, v) :: l2)) (K : Keyed P k) (ht : P.underlying t = some (.map k e)) (hg : nG ≤ b) {kl : Lit} (hkey : keyOf P k key = some kl) (val : Value) :
    ∃ w', (Instr.mapUpdate t (.map (some b)) key val).run P w = .ok () w' ∧ MapL P k w' b (l1 ++ (key, val) :: l2) ∧ Upd (· = b) w w' := by
  obtain ⟨es, clock, hb, hpm, hk, hs⟩ := h
  have hke : ∀ x ∈ es.toList, ∃ l, keyOf P k x.key = some l := fun x hx => hk (x.key, x.val) (hpm.mem_iff.1 (List.mem_map.2 ⟨x, hx, rfl⟩))
  have hlt := lt_of_block hb
  rcases K.find w hkey es.toList hke with ⟨h1, h2⟩ | ⟨j, e0, h1, h2, h3⟩
  · obtain ⟨x, hx, e⟩ := List.mem_map.1 (hpm.mem_iff.2 (show (key, v) ∈ l1 ++ (key, v) :: l2 by simp))
    injection e with e _
    exact absurd e (h2 x hx)
  · have hjl : j < es.toList.length := (List.getElem?_eq_some_iff.1 h2).1
    have hje : es.toList[j] = e0 := (List.getElem?_eq_some_iff.1 h2).2
    have hlist : (es.modify j (fun e' => { e' with key := key, val := val })).toList = es.toList.set j { e0 with key := key, val := val } := by rw [Array.toList_modify, Go.ChangeMaps.modify_eq_set _ _ _ _ h2]
    have hst := (stamped_iff es clock).1 hs
    have hsp : es.toList = es.toList.take j ++ e0 :: es.toList.drop (j + 1) := by rw [← hje, ← List.drop_eq_getElem_cons hjl, List.take_append_drop]
    have hset : es.toList.set j { e0 with key := key, val := val } = es.toList.take j ++ { e0 with key := key, val := val } :: es.toList.drop (j + 1) := by rw [List.set_eq_take_append_cons_drop, if_pos hjl]
    have hnd : ((es.toList.map (fun e => (e.key, e.val))).map (·.1)).Nodup := by rw [List.map_map]; exact List.pairwise_map.2 (hst.2.2.imp (fun h => h))
    have hv : e0.val = v := by
      have m1 : (key, e0.val) ∈ es.toList.map (fun e => (e.key, e.val)) := List.mem_map.2 ⟨e0, List.mem_of_getElem? h2, by rw [h3]⟩
      have m2 : (key, v) ∈ es.toList.map (fun e => (e.key, e.val)) := hpm.mem_iff.2 (by simp)
      exact Vw.nodup_fst hnd m1 m2
    have hp2 : ((es.toList.take j).map (fun e => (e.key, e.val)) ++ (es.toList.drop (j + 1)).map (fun e => (e.key, e.val))).Perm (l1 ++ l2) := by
      have q := hpm
      rw [hsp, List.map_append, List.map_cons, h3, hv] at q
      exact (List.Perm.cons_inv ((List.perm_middle.symm.trans q).trans List.perm_middle))
    refine ⟨{ w with heap := w.heap.setIfInBounds b (.map (es.modify j (fun e' => { e' with key := key, val := val })) clock) }, ?_, ⟨es.modify j (fun e' => { e' with key := key, val := val }), clock, ?_, ?_, ?_, stamped_modify hs j _ (fun _ _ => rfl) (fun e he he' => ?_)⟩, Upd.setBlock hg _⟩
    · have hj : es[j]? = some e0 := by simpa using h2
      simp [Instr.mapUpdate, run_underlying ht, MapKept.run_getObj_map hb, K.check w false hkey, h1, hj, h3, K.stays w hkey, MapKept.run_setObj_map _ hb, Result.andThen]
    · simp [Array.getElem?_setIfInBounds, hlt]
    · rw [hlist, hset, List.map_append, List.map_cons]
      exact List.perm_middle.trans ((List.Perm.cons _ hp2).trans List.perm_middle.symm)
    · intro p hp
      rcases List.mem_append.1 hp with hp | hp
      · exact hk p (List.mem_append_left _ hp)
      · rcases List.mem_cons.1 hp with rfl | hp
        · exact ⟨kl, hkey⟩
        · exact hk p (List.mem_append_right _ (List.mem_cons_of_mem _ hp))
    · have : es[j]? = some e0 := by simpa using h2
      rw [this] at he'
      cases he'
      exact h3.symm
def sgl (s : Bk.Sgn) : List Value := [.int .i64 s.key, .string ⟨s.text.toArray⟩, .int .i64 s.mark]
def cml (c : Cl.Clm) : List Value := [.int .i64 c.kind, .int .i64 c.n, .int .i64 c.time, .string ⟨c.text.toArray⟩]
def flatS (L : List Bk.Sgn) : List Value := (L.map sgl).flatten
def flatM (L : List Bk.Sgn) : List Value := (L.map fun s => cml (Vw.claimOf s)).flatten
theorem flatS_snoc (L : List Bk.Sgn) (s : Bk.Sgn) : flatS (L ++ [s]) = flatS L ++ sgl s := by simp [flatS]
theorem flatM_snoc (L : List Bk.Sgn) (s : Bk.Sgn) : flatM (L ++ [s]) = flatM L ++ cml (Vw.claimOf s) := by simp [flatM]
theorem infoSgn : (Tryz.prog.info? tSigned).map (fun i => (i.zero, i.size, i.bytes)) = some (some (.agg #[.int .i64 0, .string ⟨#[]⟩, .int .i64 0]), 3, 32) := by kernel_rfl
theorem infoClm : (Tryz.prog.info? tC).map (fun i => (i.zero, i.size, i.bytes)) = some (some (.agg #[.int .i64 0, .int .i64 0, .int .i64 0, .string ⟨#[]⟩]), 4, 40) := by kernel_rfl
theorem sgl_one (s : Bk.Sgn) : ∀ u ∈ sgl s, u.oneCell' = true := by
  intro u hu
  simp only [sgl, List.mem_cons, List.not_mem_nil, or_false] at hu
  rcases hu with rfl | rfl | rfl <;> rfl
theorem cml_one (c : Cl.Clm) : ∀ u ∈ cml c, u.oneCell' = true := by
  intro u hu
  simp only [cml, List.mem_cons, List.not_mem_nil, or_false] at hu
  rcases hu with rfl | rfl | rfl | rfl <;> rfl
theorem flatS_one (L : List Bk.Sgn) : ∀ u ∈ flatS L, u.oneCell' = true := by
  intro u hu
  obtain ⟨x, hx, hu⟩ := List.mem_flatten.1 hu
  obtain ⟨s, _, rfl⟩ := List.mem_map.1 hx
  exact sgl_one s u hu
def entV (L : List Bk.Sgn) : List (Value × Value) := (Vw.entA L).map fun p => (.int .i64 p.1, str8 p.2)
def absV (L : List Bk.Sgn) : List (Value × Value) := (Vw.absA L).map fun p => (str8 p.1, .int .i64 p.2)
theorem entV_mem {L : List Bk.Sgn} {p : Value × Value} : p ∈ entV L ↔ ∃ i t, (i, t) ∈ Vw.entA L ∧ p = (.int .i64 i, str8 t) := by
  constructor
  · intro h
    obtain ⟨⟨i, t⟩, hq, rfl⟩ := List.mem_map.1 h
    exact ⟨i, t, hq, rfl⟩
  · rintro ⟨i, t, h, rfl⟩
    exact List.mem_map.2 ⟨(i, t), h, rfl⟩
theorem absV_mem {L : List Bk.Sgn} {p : Value × Value} : p ∈ absV L ↔ ∃ k n, (k, n) ∈ Vw.absA L ∧ p = (str8 k, .int .i64 n) := by
  constructor
  · intro h
    obtain ⟨⟨i, t⟩, hq, rfl⟩ := List.mem_map.1 h
    exact ⟨i, t, hq, rfl⟩
  · rintro ⟨i, t, h, rfl⟩
    exact List.mem_map.2 ⟨(i, t), h, rfl⟩
/-- Where a view lies: its block, its two maps', the values of its two slices. -/
structure ViewR where
  vb : Nat
  eb : Nat
  ab : Nat
  sv : Value
  cv : Value
def ViewR.foot (r : ViewR) (k : Nat) : Prop := k = r.vb ∨ k = r.eb ∨ k = r.ab ∨ r.sv.ownBlock = some k ∨ r.cv.ownBlock = some k
def viewC (r : ViewR) (rb : Nat) (key : Int) (L : List Bk.Sgn) : Array Value :=
  #[.pointer (some ⟨rb, 0, none⟩), .int .i64 key, r.sv, r.cv, .map (some r.eb), .map (some r.ab), .int .i64 (Vw.sizeOf L).1, .int .i64 (Vw.sizeOf L).2]
/-- In the blocks from B on lies the view r, asking the ring at rb, with the key and what has been accepted. -/
structure ViewAt (B : Nat) (w : World) (r : ViewR) (rb : Nat) (key : Int) (L : List Bk.Sgn) : Prop where
  hb : nG ≤ B
  vb : B ≤ r.vb
  eb : B ≤ r.eb
  ab : B ≤ r.ab
  ne : r.eb ≠ r.ab
  blk : w.heap[r.vb]? = some (.cells (viewC r rb key L) tView (0, 0))
  sown : w.ownsRow B tSigned 3 r.sv L.length (flatS L)
  cown : w.ownsRow B tC 4 r.cv L.length (flatM L)
  emap : MapL Tryz.prog tInt w r.eb (entV L)
  amap : MapL Tryz.prog tStr8 w r.ab (absV L)
  key : Bk.isKey key = true
section
variable {B : Nat} {w : World} {r : ViewR} {rb : Nat} {key : Int} {L : List Bk.Sgn}
theorem ViewAt.foot_lt (h : ViewAt B w r rb key L) {k : Nat} (hk : r.foot k) : B ≤ k ∧ k < w.heap.size := by
  rcases hk with rfl | rfl | rfl | hk | hk
  · exact ⟨h.vb, lt_of_block h.blk⟩
  · exact ⟨h.eb, h.emap.lt⟩
  · exact ⟨h.ab, h.amap.lt⟩
  · obtain ⟨h1, cs, h2⟩ := own_block h.sown hk
    exact ⟨h1, lt_of_block h2⟩
  · obtain ⟨h1, cs, h2⟩ := own_block h.cown hk
    exact ⟨h1, lt_of_block h2⟩
theorem ViewAt.upd {S : Nat → Prop} {w' : World} (h : ViewAt B w r rb key L) (u : Upd S w w') (hs : ∀ k, r.foot k → ¬ S k) : ViewAt B w' r rb key L :=
  ⟨h.hb, h.vb, h.eb, h.ab, h.ne, u.keep h.blk (hs _ (Or.inl rfl)), owns_upd' h.sown u (fun k hk => hs k (Or.inr (Or.inr (Or.inr (Or.inl hk))))), owns_upd' h.cown u (fun k hk => hs k (Or.inr (Or.inr (Or.inr (Or.inr hk))))),
    h.emap.upd u (hs _ (Or.inr (Or.inl rfl))), h.amap.upd u (hs _ (Or.inr (Or.inr (Or.inl rfl)))), h.key⟩
theorem ViewAt.nw {w' : World} (h : ViewAt B w r rb key L) (u : Nw w w') : ViewAt B w' r rb key L := h.upd u (fun _ _ s => s)
theorem ViewAt.sslice (h : ViewAt B w r rb key L) : ∃ a cap, r.sv = .slice a L.length cap := by
  rcases h.sown.2 with ⟨h1, h2⟩ | ⟨g, cap, cur, h1, _⟩
  · exact ⟨none, 0, by rw [h1, h2]⟩
  · exact ⟨_, _, h1⟩
theorem ViewAt.cslice (h : ViewAt B w r rb key L) : ∃ a cap, r.cv = .slice a L.length cap := by
  rcases h.cown.2 with ⟨h1, h2⟩ | ⟨g, cap, cur, h1, _⟩
  · exact ⟨none, 0, by rw [h1, h2]⟩
  · exact ⟨_, _, h1⟩
theorem ViewAt.cells (h : ViewAt B w r rb key L) :
    w.cell? ⟨r.vb, 0, none⟩ = some (.pointer (some ⟨rb, 0, none⟩)) ∧ w.cell? ⟨r.vb, 1, none⟩ = some (.int .i64 key) ∧ w.cell? ⟨r.vb, 2, none⟩ = some r.sv ∧ w.cell? ⟨r.vb, 3, none⟩ = some r.cv ∧
    w.cell? ⟨r.vb, 4, none⟩ = some (.map (some r.eb)) ∧ w.cell? ⟨r.vb, 5, none⟩ = some (.map (some r.ab)) ∧ w.cell? ⟨r.vb, 6, none⟩ = some (.int .i64 (Vw.sizeOf L).1) ∧ w.cell? ⟨r.vb, 7, none⟩ = some (.int .i64 (Vw.sizeOf L).2) := by
  refine ⟨?_, ?_, ?_, ?_, ?_, ?_, ?_, ?_⟩ <;> (rw [cells_cell h.blk]; rfl)
theorem ViewAt.ring (h : ViewAt B w r rb key L) {rb' : Nat} (e : rb' = rb) : ViewAt B w r rb' key L := by subst e; exact h
/-- What 'v.entries[i]' answers. -/
theorem ViewAt.elook (h : ViewAt B w r rb key L) {Lr : List Bk.Seal} (hv : Vw.VOk Lr key L) {i : Int} (hi : I64 i) (c : Bool) :
    (Instr.lookup 105 (.map (some r.eb)) (.int .i64 i) c).run Tryz.prog w = .ok (if c then .tuple #[.string ⟨(Vw.textAt L i).1.toArray⟩, .bool (Vw.textAt L i).2] else .string ⟨(Vw.textAt L i).1.toArray⟩) w := by
  have hz : (zeroValue 9).run Tryz.prog w = .ok (.string ⟨#[]⟩) w := by kernel_rfl
  rcases h.emap.look intKeyed Tryz.underlying105 hz (int_key hi) with ⟨v, hm, hrun⟩ | ⟨hno, hrun⟩
  · obtain ⟨j, t, hj, e⟩ := entV_mem.1 hm
    obtain ⟨e1, e2⟩ := Prod.mk.inj e
    obtain rfl : i = j := (Value.int.inj e1).2
    rw [hrun c, e2, Vw.text_in hv hj, str8]
  · rw [hrun c, Vw.text_out (fun p hp e => hno (.int .i64 p.1, str8 p.2) (entV_mem.2 ⟨p.1, p.2, hp, rfl⟩) (by rw [e]))]
/-- What 'v.absent[k]' answers. -/
theorem ViewAt.alook (h : ViewAt B w r rb key L) (hv : ∀ s ∈ L, Vw.isLog s.text = true) {k : List UInt8} (hk : k.length ≤ 140737488351232) (c : Bool) :
    (Instr.lookup 106 (.map (some r.ab)) (.string ⟨k.toArray⟩) c).run Tryz.prog w = .ok (if c then .tuple #[.int .i64 (Vw.absentOf L k).1, .bool (Vw.absentOf L k).2] else .int .i64 (Vw.absentOf L k).1) w := by
  have hz : (zeroValue 3).run Tryz.prog w = .ok (.int .i64 0) w := by kernel_rfl
  have hl := WideMaps.keyOf_string_mk (P := Tryz.prog) (k := tStr8) Tryz.underlying9 (s := ⟨k.toArray⟩) (by rw [bs_size, bs_list]; unfold maxLen; omega)
  rcases h.amap.look str8Keyed Tryz.underlying106 hz hl with ⟨v, hm, hrun⟩ | ⟨hno, hrun⟩
  · obtain ⟨k2, n, hj, e⟩ := absV_mem.1 hm
    have e1 := str8_inj (a := k) (b := k2) (Prod.mk.inj e).1
    subst e1
    rw [hrun c, (Prod.mk.inj e).2, Vw.abs_in hv hj]
  · rw [hrun c, Vw.abs_out hv (fun p hp e => hno (str8 p.1, .int .i64 p.2) (absV_mem.2 ⟨p.1, p.2, hp, rfl⟩) (by rw [e]; rfl))]
theorem log_bounds {s : Bk.Sgn} (h : Vw.isLog s.text = true) : I64C (Vw.claimOf s) ∧ (Vw.claimOf s).text.length ≤ 20000 := by
  obtain ⟨h1, h2, _⟩ := Vw.log_spec h
  obtain ⟨b1, b2, b3, b4, b5, b6, b7⟩ := Cl.right_bounds h1
  exact ⟨⟨by unfold I64; omega, by unfold I64; omega, by unfold I64; omega, by omega⟩, b7⟩
end
end Go.Proofs.YtkhdnfmnnapjlaaGreatDoor
