/- The contract of the view's Accept. -/
import Derived.Test.YtagmlemlagbfkaaGreatDoorPkMTells9
import Derived.Test.YtagmlemlagbfkaaGreatDoorPkMTells10
import Derived.Deep.AppendLies
import Derived.Deep.CutRange
namespace Go.Proofs.YtagmlemlagbfkaaGreatDoor
open Go.RowKit
open Go.Maps (Keyed)
set_option linter.unusedVariables false
set_option linter.unusedSimpArgs false
attribute [local irreducible] Calls

theorem read_i64 (l : List UInt8) : I64C (Cl.read l).1 := by
  cases h : (Cl.read l).2 with
  | true =>
    obtain ⟨b1, b2, b3, b4, b5, b6, b7⟩ := Cl.right_bounds (Cl.read_inv (s := l) (c := (Cl.read l).1) (by rw [← h])).1
    exact ⟨by unfold I64; omega, by unfold I64; omega, by unfold I64; omega, by omega⟩
  | false =>
    rw [Cl.read_no h]
    exact ⟨by show I64 0; unfold I64; omega, by show I64 0; unfold I64; omega, by show I64 0; unfold I64; omega, Nat.zero_le _⟩
/-- What Accept leaves. -/
def AccPost (B : Nat) (r : ViewR) (rb : Nat) (key : Int) (x : Int × List Bk.Sgn) (w : World) (e : Ending) (w' : World) : Prop :=
  ∃ r', e = .returned (.int .i64 x.1) ∧ ViewAt B w' r' rb key x.2 ∧ r'.vb = r.vb ∧ Upd r.foot w w' ∧ ∀ j, r'.foot j → r.foot j ∨ w.heap.size ≤ j
theorem acc_none {B : Nat} {r : ViewR} {rb : Nat} {key : Int} {L : List Bk.Sgn} {x : Int × List Bk.Sgn} {n : Int} {w w' : World} (h : ViewAt B w r rb key L) (hx : x = (n, L)) (u : Nw w w') : AccPost B r rb key x w (.returned (.int .i64 n)) w' := by
  subst hx
  exact ⟨r, rfl, h.nw u, rfl, Nw.upd _ u, fun j hj => Or.inl hj⟩
section
variable {B : Nat} {w : World} {r : ViewR} {rb : Nat} {key : Int} {L : List Bk.Sgn}
theorem ViewAt.laterV (h : ViewAt B w r rb key L) : (∀ i : Later w, i.1.cell? ⟨r.vb, 0, none⟩ = some (.pointer (some ⟨rb, 0, none⟩))) ∧ (∀ i : Later w, i.1.cell? ⟨r.vb, 1, none⟩ = some (.int .i64 key)) ∧ (∀ i : Later w, i.1.cell? ⟨r.vb, 2, none⟩ = some r.sv) :=
  ⟨fun i => (h.nw i.nw).cells.1, fun i => (h.nw i.nw).cells.2.1, fun i => (h.nw i.nw).cells.2.2.1⟩
end
/-- Between the two appends' region and the maps: what the view's block, its slices and its maps hold. -/
structure Stg (B : Nat) (W : World) (r : ViewR) (rb : Nat) (key : Int) (L : List Bk.Sgn) (s : Bk.Sgn) (cb : Nat) (sv cv : Value) (z : World) : Prop where
  sown : z.ownsRow B tSigned 3 sv (L.length + 1) (flatS (L ++ [s]))
  cown : z.ownsRow B tC 4 cv (L.length + 1) (flatM (L ++ [s]))
  blk : z.heap[r.vb]? = some (.cells #[.pointer (some ⟨rb, 0, none⟩), .int .i64 key, sv, cv, .map (some r.eb), .map (some r.ab), .int .i64 (Vw.sizeOf L).1, .int .i64 (Vw.sizeOf L).2] tView (0, 0))
  upd : Upd r.foot W z
  obs : ∀ k, sv.ownBlock = some k → r.sv.ownBlock = some k ∨ W.heap.size ≤ k
  obc : ∀ k, cv.ownBlock = some k → r.cv.ownBlock = some k ∨ W.heap.size ≤ k
  emap : MapL Tryz.prog tInt z r.eb (entV L)
  amap : MapL Tryz.prog tStr8 z r.ab (absV L)
  box : z.heap[cb]? = some (clmO (Vw.claimOf s))
def Gro (B : Nat) (W : World) (r : ViewR) (rb : Nat) (key : Int) (L : List Bk.Sgn) (s : Bk.Sgn) (cb : Nat) (z : World) : Prop := ∃ sv cv, Stg B W r rb key L s cb sv cv z
theorem heap_at {w : World} {o : Obj} {k : Nat} (h : w.heap.size = k) : (w.alloc o).heap[k]? = some o := by subst h; exact heap_new w o
theorem heap_at2 {w : World} {o o' : Obj} {k : Nat} (h : w.heap.size = k) : ((w.alloc o).alloc o').heap[k]? = some o := by
  subst h
  exact (heap_alloc _ _ _ (by simp)).trans (heap_new w o)
/-- 'append(s, x)' at a step of a region that draws its order: s is the call's own since W0, of which only blocks in T have changed. -/
theorem step_appU {P : Program} {w : World} {ops : Array Oper} {o : Oper} {a : Act} {K : Act → World → Prop} {Q : Exit → Act → World → Prop} {E : Prop} (hgd : o.guard = none) (s x : Operand) (t : TypeId)
    (ho : o.op = .call { callee := .builtin .append, args := #[s, x], argTypes := #[t, t] })
    (base : Nat) (e : TypeId) (z : Value) (size bytes : Nat) (ht : P.underlying t = some (.slice e)) (hinfo : (P.info? e).map (fun i => (i.zero, i.size, i.bytes)) = some (some z, size, bytes)) (hzs : z.cells.size = size) (hsz : 0 < size)
    (v : Value) (n : Nat) (xs : List Value) (hs : a.eval s = v) (W0 : World) (T : Nat → Prop) (hown : W0.ownsRow base e size v n xs) (u : Upd T W0 w) (hT : ∀ k, v.ownBlock = some k → ¬ T k)
    (nb : Nat) (news : List Value) (hx : a.eval x = .slice (some ⟨nb, 0, none⟩) 1 1) (hb : w.heap[nb]? = some (.cells news.toArray e (0, 0))) (hl : news.length = size) (h1 : ∀ u ∈ news, u.oneCell' = true)
    (h63 : n + 1 ≤ maxLen) (hbytes : (n + 1) * bytes ≤ 140737488355328) (hbase : base ≤ W0.heap.size) (hnG : nG ≤ base)
    (h : ∀ g cap w', w'.ownsRow base e size (.slice (some ⟨g, 0, none⟩) (n + 1) cap) (n + 1) (xs ++ news) → Upd (fun k => v.ownBlock = some k) w w' → (v.ownBlock = some g ∨ W0.heap.size ≤ g) → K (a.put o.dst (.slice (some ⟨g, 0, none⟩) (n + 1) cap)) w') :
    if Region.wanted o (yielded ops a.tmps) = true then Oper.wp P o a w K Q else E := by
  obtain ⟨i0, hi, hz0, hz1, hz2⟩ := info_parts hinfo
  have hsz2 := u.size
  refine step_append_lies _ hgd s x t ho base e i0 z size bytes ht hi hz0 hz1 hz2 hzs hsz v n xs hs (owns_upd' hown u hT) ⟨nb, 0, none⟩ 1 1 news hx (by omega) ?_ h1 (by omega) h63 hbytes (by omega) w.heap.size rfl fun g cap w' h2 h3 h4 h5 => ?_
  · intro j u hu
    rw [add_plain, cells_cell hb, Nat.zero_add]
    simpa using hu
  · refine h g cap w' h2 ((Upd.refl _ w).grown h3 fun k hk => ⟨Or.inl hk, ?_⟩) (h4.imp id (fun e => by omega))
    have := (hown.lt k hk).1
    omega
/-- What the region leaves, from what its appends have left. -/
theorem stg_done {B : Nat} {W wB wC wD : World} {r : ViewR} {rb : Nat} {key : Int} {L : List Bk.Sgn} {s : Bk.Sgn} {cb gs gc cs cc : Nat} {so co : Value} (h : ViewAt B W r rb key L) (hso : r.sv = so) (hco : r.cv = co) (hcb : W.heap[cb]? = some (clmO (Vw.claimOf s))) (hncb : ¬ r.foot cb)
    (hS : wB.ownsRow B tSigned 3 (.slice (some ⟨gs, 0, none⟩) (L.length + 1) cs) (L.length + 1) (flatS L ++ sgl s)) (uS : Upd (fun k => so.ownBlock = some k) W wB) (oS : so.ownBlock = some gs ∨ W.heap.size ≤ gs)
    (uBC : Nw wB wC) (hC : wD.ownsRow B tC 4 (.slice (some ⟨gc, 0, none⟩) (L.length + 1) cc) (L.length + 1) (flatM L ++ cml (Vw.claimOf s))) (uC : Upd (fun k => co.ownBlock = some k) wC wD) (oC : co.ownBlock = some gc ∨ W.heap.size ≤ gc) :
    Gro B W r rb key L s cb ((wD.setCell ⟨r.vb, 2, none⟩ (.slice (some ⟨gs, 0, none⟩) (L.length + 1) cs)).setCell ⟨r.vb, 3, none⟩ (.slice (some ⟨gc, 0, none⟩) (L.length + 1) cc)) := by
  subst hso hco
  have hvg : nG ≤ r.vb := Nat.le_trans h.hb h.vb
  have hrow : ∀ k, (r.sv.ownBlock = some k ∨ r.cv.ownBlock = some k) → ∃ cs T, (T = tSigned ∨ T = tC) ∧ W.heap[k]? = some (.cells cs T (0, 0)) := by
    rintro k (hk | hk)
    · obtain ⟨_, cs, e⟩ := own_block h.sown hk; exact ⟨cs, _, Or.inl rfl, e⟩
    · obtain ⟨_, cs, e⟩ := own_block h.cown hk; exact ⟨cs, _, Or.inr rfl, e⟩
  have hnv : ¬ (r.sv.ownBlock = some r.vb ∨ r.cv.ownBlock = some r.vb) := fun e => by
    obtain ⟨cs, T, hT, e2⟩ := hrow _ e
    rw [h.blk] at e2
    injection e2 with e2
    injection e2 with _ e2
    rcases hT with hT | hT <;> (rw [hT] at e2; exact absurd e2 (by decide))
  have hne : ∀ {b l k}, MapL Tryz.prog k W b l → ¬ (r.sv.ownBlock = some b ∨ r.cv.ownBlock = some b) := fun {b l k} hm e => by
    obtain ⟨cs, T, hT, e2⟩ := hrow _ e
    obtain ⟨es, clock, e3, _⟩ := hm
    rw [e3] at e2
    cases e2
  have nvm : ∀ {b l k}, MapL Tryz.prog k W b l → b ≠ r.vb := fun {b l k} hm e => by
    obtain ⟨es, clock, e3, _⟩ := hm
    rw [e, h.blk] at e3
    cases e3
  have uAll : Upd (fun k => r.sv.ownBlock = some k ∨ r.cv.ownBlock = some k) W wD := ((uS.mono (fun k _ e => Or.inl e)).nw uBC).trans' uC (fun k _ e => Or.inr e)
  have hvD : wD.heap[r.vb]? = some (.cells (viewC r rb key L) tView (0, 0)) := uAll.keep h.blk hnv
  have hSD : wD.ownsRow B tSigned 3 (.slice (some ⟨gs, 0, none⟩) (L.length + 1) cs) (L.length + 1) (flatS L ++ sgl s) := by
    refine owns_upd' (owns_upd' hS uBC (fun k _ e => e)) uC (fun k hk e => ?_)
    obtain ⟨_, c1, e1⟩ := own_block hS hk
    obtain ⟨_, c2, e2⟩ := own_block h.cown e
    have hlt := lt_of_block e2
    have e3 := uS.block k hlt (Or.inr (fun e3 => by
      obtain ⟨_, c3, e4⟩ := own_block h.sown e3
      rw [e2] at e4
      injection e4 with e4
      injection e4 with _ e4
      exact absurd e4 (by decide)))
    rw [e1, e2] at e3
    injection e3 with e3
    injection e3 with _ e3
    exact absurd e3 (by decide)
  generalize hE : (wD.setCell ⟨r.vb, 2, none⟩ (.slice (some ⟨gs, 0, none⟩) (L.length + 1) cs)).setCell ⟨r.vb, 3, none⟩ (.slice (some ⟨gc, 0, none⟩) (L.length + 1) cc) = wE
  have uE : Upd (fun k => k = r.vb) wD wE := by rw [← hE]; exact Upd.set1 (Upd.set1 (Upd.refl _ _) hvg 2 _) hvg 3 _
  have hbE : wE.heap[r.vb]? = some (.cells #[.pointer (some ⟨rb, 0, none⟩), .int .i64 key, .slice (some ⟨gs, 0, none⟩) (L.length + 1) cs, .slice (some ⟨gc, 0, none⟩) (L.length + 1) cc, .map (some r.eb), .map (some r.ab), .int .i64 (Vw.sizeOf L).1, .int .i64 (Vw.sizeOf L).2] tView (0, 0)) := by rw [← hE]; exact setCell_block (setCell_block hvD 2 _) 3 _
  have own_ne : ∀ {e sz v n xs}, wD.ownsRow B e sz v n xs → e ≠ tView → ∀ k, v.ownBlock = some k → ¬ k = r.vb := fun {e sz v n xs} ho hn k hk ek => by
    subst ek
    obtain ⟨_, c1, e1⟩ := own_block ho hk
    rw [hvD] at e1
    injection e1 with e1
    injection e1 with _ e1
    exact hn e1.symm
  refine ⟨_, _, ⟨?_, ?_, hbE, ?_, fun k hk => ?_, fun k hk => ?_, ?_, ?_, ?_⟩⟩
  · rw [flatS_snoc]; exact owns_upd' hSD uE (own_ne hSD (by decide))
  · rw [flatM_snoc]; exact owns_upd' hC uE (own_ne hC (by decide))
  · refine (uAll.mono (fun k _ e => ?_)).trans' uE (fun k _ e => Or.inl e)
    exact e.elim (fun e => Or.inr (Or.inr (Or.inr (Or.inl e)))) (fun e => Or.inr (Or.inr (Or.inr (Or.inr e))))
  · obtain rfl : gs = k := by simpa [Value.ownBlock] using hk
    exact oS
  · obtain rfl : gc = k := by simpa [Value.ownBlock] using hk
    exact oC
  · exact (h.emap.upd uAll (hne h.emap)).upd uE (nvm h.emap)
  · exact (h.amap.upd uAll (hne h.amap)).upd uE (nvm h.amap)
  · exact uE.keep (uAll.keep hcb (fun e => hncb (e.elim (fun e => Or.inr (Or.inr (Or.inr (Or.inl e)))) (fun e => Or.inr (Or.inr (Or.inr (Or.inr e))))))) (fun e => hncb (Or.inl e))
section
variable {B : Nat} {w W z z' : World} {r : ViewR} {rb : Nat} {key : Int} {L : List Bk.Sgn} {s : Bk.Sgn} {cb : Nat} {sv cv : Value}
theorem acc_done {x : Int × List Bk.Sgn} {T : Nat → Prop} (st : Stg B W r rb key L s cb sv cv z) (u0 : Nw w W) (h : ViewAt B w r rb key L) (hx : x = (0, L ++ [s])) (u : Upd T z z') (hT : ∀ k, T k → k = r.vb ∨ k = r.eb ∨ k = r.ab)
    (hb : z'.heap[r.vb]? = some (.cells (viewC ⟨r.vb, r.eb, r.ab, sv, cv⟩ rb key (L ++ [s])) tView (0, 0))) (he : MapL Tryz.prog tInt z' r.eb (entV (L ++ [s]))) (ha : MapL Tryz.prog tStr8 z' r.ab (absV (L ++ [s]))) :
    AccPost B r rb key x w (.returned (.int .i64 0)) z' := by
  subst hx
  have hno : ∀ {e sz v n xs}, z.ownsRow B e sz v n xs → e ≠ tView → ∀ k, v.ownBlock = some k → ¬ T k := fun {e sz v n xs} ho hn k hk ht => by
    obtain ⟨_, c1, e1⟩ := own_block ho hk
    rcases hT k ht with rfl | rfl | rfl
    · rw [st.blk] at e1
      injection e1 with e1
      injection e1 with _ e1
      exact hn e1.symm
    · obtain ⟨es, clock, e2, _⟩ := st.emap
      rw [e1] at e2; cases e2
    · obtain ⟨es, clock, e2, _⟩ := st.amap
      rw [e1] at e2; cases e2
  have hl : (L ++ [s]).length = L.length + 1 := by simp
  refine ⟨⟨r.vb, r.eb, r.ab, sv, cv⟩, rfl, ⟨h.hb, h.vb, h.eb, h.ab, h.ne, hb, ?_, ?_, he, ha, h.key⟩, rfl, ?_, ?_⟩
  · have := owns_upd' st.sown u (hno st.sown (by decide))
    show z'.ownsRow B tSigned 3 sv (L ++ [s]).length (flatS (L ++ [s]))
    rw [hl]; exact this
  · have := owns_upd' st.cown u (hno st.cown (by decide))
    show z'.ownsRow B tC 4 cv (L ++ [s]).length (flatM (L ++ [s]))
    rw [hl]; exact this
  · refine (Nw.trans u0 st.upd).trans' u (fun k _ e => ?_)
    rcases hT k e with e | e | e
    · exact Or.inl e
    · exact Or.inr (Or.inl e)
    · exact Or.inr (Or.inr (Or.inl e))
  · have hsz := u0.size
    rintro k (e | e | e | e | e)
    · exact Or.inl (Or.inl e)
    · exact Or.inl (Or.inr (Or.inl e))
    · exact Or.inl (Or.inr (Or.inr (Or.inl e)))
    · exact (st.obs k e).imp (fun e => Or.inr (Or.inr (Or.inr (Or.inl e)))) (fun e => by omega)
    · exact (st.obc k e).imp (fun e => Or.inr (Or.inr (Or.inr (Or.inr e)))) (fun e => by omega)
theorem abs_look (hm : MapL Tryz.prog tStr8 z r.ab (absV L)) (hv : ∀ s ∈ L, Vw.isLog s.text = true) {k : List UInt8} (hk : k.length ≤ 140737488351232) :
    (Instr.lookup 133 (.map (some r.ab)) (.string ⟨k.toArray⟩) false).run Tryz.prog z = .ok (.int .i64 (Vw.absentOf L k).1) z := by
  have hz : (zeroValue 3).run Tryz.prog z = .ok (.int .i64 0) z := by kernel_rfl
  have hl := WideMaps.keyOf_string_mk (P := Tryz.prog) (k := tStr8) Tryz.underlying9 (s := ⟨k.toArray⟩) (by rw [bs_size, bs_list]; unfold maxLen; omega)
  rcases hm.look str8Keyed Tryz.underlying133 hz hl with ⟨v, hm, hrun⟩ | ⟨hno, hrun⟩
  · obtain ⟨k2, n, hj, e⟩ := absV_mem.1 hm
    have e1 := str8_inj (a := k) (b := k2) (Prod.mk.inj e).1
    subst e1
    rw [hrun false, (Prod.mk.inj e).2, Vw.abs_in hv hj]; rfl
  · rw [hrun false, Vw.abs_out hv (fun p hp e => hno (str8 p.1, .int .i64 p.2) (absV_mem.2 ⟨p.1, p.2, hp, rfl⟩) (by rw [e]; rfl))]; rfl
theorem abs_store (hm : MapL Tryz.prog tStr8 z r.ab (absV L)) (hg : nG ≤ r.ab) (hv : ∀ s ∈ L, Vw.isLog s.text = true) (hk : (Vw.claimOf s).kind = 2) (hn : 0 ≤ (Vw.claimOf s).n) (ht : (Vw.claimOf s).text.length ≤ 140737488351232) :
    ∃ z', (Instr.mapUpdate 133 (.map (some r.ab)) (.string ⟨(Vw.claimOf s).text.toArray⟩) (.int .i64 (max (Vw.absentOf L (Vw.claimOf s).text).1 (Vw.claimOf s).n))).run Tryz.prog z = .ok () z' ∧ MapL Tryz.prog tStr8 z' r.ab (absV (L ++ [s])) ∧ Upd (· = r.ab) z z' := by
  have hl := WideMaps.keyOf_string_mk (P := Tryz.prog) (k := tStr8) Tryz.underlying9 (s := ⟨(Vw.claimOf s).text.toArray⟩) (by rw [bs_size, bs_list]; unfold maxLen; omega)
  have hA : Vw.absA (L ++ [s]) = Vw.addA (Vw.absA L) (Vw.claimOf s).text (Vw.claimOf s).n := by rw [Vw.absA_snoc, Vw.absAStep, if_pos hk]
  rcases Vw.addA_keys (Vw.absA L) (Vw.claimOf s).text (Vw.claimOf s).n (Vw.absA_nodup L) with ⟨h1, h2⟩ | ⟨l1, l2, m, h1, h2⟩
  · rw [Vw.abs_out hv h1]
    rw [show max (0 : Int) (Vw.claimOf s).n = (Vw.claimOf s).n by omega]
    obtain ⟨z', r1, r2, r3⟩ := hm.store_new str8Keyed Tryz.underlying133 hg (key := str8 (Vw.claimOf s).text) hl (fun p hp e => by
      obtain ⟨k2, n, hj, rfl⟩ := absV_mem.1 hp
      exact h1 _ hj (str8_inj e)) (.int .i64 (Vw.claimOf s).n)
    refine ⟨z', r1, ?_, r3⟩
    have : absV (L ++ [s]) = absV L ++ [(str8 (Vw.claimOf s).text, .int .i64 (Vw.claimOf s).n)] := by unfold absV; rw [hA, h2]; simp
    rw [this]; exact r2
  · have hm1 : ((Vw.claimOf s).text, m) ∈ Vw.absA L := by rw [h1]; simp
    rw [Vw.abs_in hv hm1]
    have e1 : absV L = (l1.map fun p => (str8 p.1, Value.int .i64 p.2)) ++ (str8 (Vw.claimOf s).text, .int .i64 m) :: (l2.map fun p => (str8 p.1, Value.int .i64 p.2)) := by unfold absV; rw [h1]; simp
    have e2 : absV (L ++ [s]) = (l1.map fun p => (str8 p.1, Value.int .i64 p.2)) ++ (str8 (Vw.claimOf s).text, .int .i64 (max m (Vw.claimOf s).n)) :: (l2.map fun p => (str8 p.1, Value.int .i64 p.2)) := by unfold absV; rw [hA, h2]; simp
    rw [e1] at hm
    obtain ⟨z', r1, r2, r3⟩ := hm.store_old str8Keyed Tryz.underlying133 hg hl (.int .i64 (max m (Vw.claimOf s).n))
    exact ⟨z', r1, by rw [e2]; exact r2, r3⟩
theorem ent_store {Lr : List Bk.Seal} (hm : MapL Tryz.prog tInt z r.eb (entV L)) (hg : nG ≤ r.eb) (hno : ∀ p ∈ Vw.entA L, p.1 ≠ (Vw.claimOf s).n) (hk : (Vw.claimOf s).kind = 0) (hn : I64 (Vw.claimOf s).n) :
    ∃ z', (Instr.mapUpdate 132 (.map (some r.eb)) (.int .i64 (Vw.claimOf s).n) (.string ⟨(Vw.claimOf s).text.toArray⟩)).run Tryz.prog z = .ok () z' ∧ MapL Tryz.prog tInt z' r.eb (entV (L ++ [s])) ∧ Upd (· = r.eb) z z' := by
  obtain ⟨z', r1, r2, r3⟩ := hm.store_new intKeyed Tryz.underlying132 hg (int_key hn) (fun p hp e => by
    obtain ⟨i, t, hj, rfl⟩ := entV_mem.1 hp
    exact hno _ hj (Value.int.inj e).2) (str8 (Vw.claimOf s).text)
  refine ⟨z', r1, ?_, r3⟩
  have : entV (L ++ [s]) = entV L ++ [(.int .i64 (Vw.claimOf s).n, str8 (Vw.claimOf s).text)] := by
    unfold entV
    rw [Vw.entA_snoc, Vw.entOf, if_pos hk]; simp
  rw [this]; exact r2
theorem ent_same (hk : (Vw.claimOf s).kind ≠ 0) : entV (L ++ [s]) = entV L := by
  unfold entV
  rw [Vw.entA_snoc, Vw.entOf, if_neg hk]; simp
theorem abs_same (hk : (Vw.claimOf s).kind ≠ 2) : absV (L ++ [s]) = absV L := by
  unfold absV
  rw [Vw.absA_snoc, Vw.absAStep, if_neg hk]
theorem size_same (hk : ¬ ((Vw.claimOf s).kind = 1 ∧ (Vw.sizeOf L).2 < (Vw.claimOf s).time)) : Vw.sizeOf (L ++ [s]) = Vw.sizeOf L := by
  rw [Vw.sizeOf_snoc, Vw.sizeStep, if_neg hk]
theorem size_new (hk : (Vw.claimOf s).kind = 1 ∧ (Vw.sizeOf L).2 < (Vw.claimOf s).time) : Vw.sizeOf (L ++ [s]) = ((Vw.claimOf s).n, (Vw.claimOf s).time) := by
  rw [Vw.sizeOf_snoc, Vw.sizeStep, if_pos hk]
theorem Stg.cells (st : Stg B W r rb key L s cb sv cv z) :
    z.cell? ⟨r.vb, 4, none⟩ = some (.map (some r.eb)) ∧ z.cell? ⟨r.vb, 5, none⟩ = some (.map (some r.ab)) ∧ z.cell? ⟨r.vb, 6, none⟩ = some (.int .i64 (Vw.sizeOf L).1) ∧ z.cell? ⟨r.vb, 7, none⟩ = some (.int .i64 (Vw.sizeOf L).2) ∧
    z.cell? ⟨cb, 0, none⟩ = some (.int .i64 (Vw.claimOf s).kind) ∧ z.cell? ⟨cb, 1, none⟩ = some (.int .i64 (Vw.claimOf s).n) ∧ z.cell? ⟨cb, 2, none⟩ = some (.int .i64 (Vw.claimOf s).time) ∧ z.cell? ⟨cb, 3, none⟩ = some (.string ⟨(Vw.claimOf s).text.toArray⟩) := by
  refine ⟨?_, ?_, ?_, ?_, ?_, ?_, ?_, ?_⟩
  · rw [cells_cell st.blk]; rfl
  · rw [cells_cell st.blk]; rfl
  · rw [cells_cell st.blk]; rfl
  · rw [cells_cell st.blk]; rfl
  all_goals (rw [cells_cell (show z.heap[cb]? = some (.cells #[.int .i64 (Vw.claimOf s).kind, .int .i64 (Vw.claimOf s).n, .int .i64 (Vw.claimOf s).time, .string ⟨(Vw.claimOf s).text.toArray⟩] tC (0, 0)) from st.box)]; rfl)
theorem Stg.nw (st : Stg B W r rb key L s cb sv cv z) (u : Nw z z') : Stg B W r rb key L s cb sv cv z' :=
  ⟨owns_upd' st.sown u (fun _ _ e => e), owns_upd' st.cown u (fun _ _ e => e), Nw.keep u st.blk, st.upd.nw u, st.obs, st.obc, st.emap.nw u, st.amap.nw u, Nw.keep u st.box⟩
end
set_option maxHeartbeats 4000000 in
set_option maxRecDepth 100000 in
theorem accept_v (B Br : Nat) (r : ViewR) (q : RingR) (key : Int) (Lr : List Bk.Seal) (L : List Bk.Sgn) (s : Bk.Sgn) (w : World) (g : Gl w) (hr : RingAt Br w q Lr) (h : ViewAt B w r q.rb key L) (hv : Vw.VOk Lr key L) (hs : SgnOk s) (hB : B ≤ w.heap.size) (hL : L.length ≤ 900000) :
    Calls Tryz.prog 15 #[.pointer (some ⟨r.vb, 0, none⟩), .agg #[.int .i64 s.key, .string ⟨s.text.toArray⟩, .int .i64 s.mark]] w (AccPost B r q.rb key (Vw.accept Lr key L s) w) := by
  have hgb := g.big
  have HL : Hid (L.length ≤ 900000) := hL
  clear hL
  have n1 := nw_alloc w (.cells #[.int .i64 s.key, .string ⟨s.text.toArray⟩, .int .i64 s.mark] tSigned)
  have k1 := heap_new w (.cells #[.int .i64 s.key, .string ⟨s.text.toArray⟩, .int .i64 s.mark] tSigned)
  obtain ⟨_, _, _⟩ := cell3 k1
  have hab := about_v s.text (Nat.le_trans hs.t (by decide)) _ (g.upd n1)
  have hic := read_i64 s.text
  change I64C (Vw.claimOf s) at hic
  change Calls _ _ _ _ (fun e w' => e = .returned (.tuple #[clmV (Vw.claimOf s), .bool (Vw.isLog s.text)]) ∧ Nw _ w') at hab
  have Hab := Lib.hid hab
  have Hacc := Lib.hid (show Vw.accept Lr key L s = _ from rfl)
  have hcl : Hid ((L.map Vw.claimOf).any (fun x => Cl.contra x (Vw.claimOf s)) = Vw.clashes L (Vw.claimOf s)) := by show _ = _; unfold Vw.clashes; rw [List.any_map]; rfl
  clear hab
  unfold Vw.accept at Hacc
  go_enter Tryz.func15, Tryz.ntmps15
  go_wp2_with fail
  (with_reducible refine (Hab.out).mono ?_)
  rintro _ w2 ⟨rfl, u2⟩
  have u2' := n1.trans u2
  have k2 := u2.keep k1
  have k3 := heap_new w2 (clmO (Vw.claimOf s))
  have n3 := nw_alloc w2 (clmO (Vw.claimOf s))
  replace k2 := n3.keep k2
  have u3 := u2'.trans n3
  unfold clmO at k3 n3 k2 u3
  unfold clmV
  generalize hW : w2.alloc (.cells #[.int .i64 (Vw.claimOf s).kind, .int .i64 (Vw.claimOf s).n, .int .i64 (Vw.claimOf s).time, .string ⟨(Vw.claimOf s).text.toArray⟩] tC) = W at *
  have HW := Lib.hid hW
  have g3 := g.upd u3
  have h3 := h.nw u3
  have hr3 := hr.nw u3
  obtain ⟨_, _, _⟩ := h3.laterV
  obtain ⟨_, _, _⟩ := later3 k2
  have hvq := valid_s Br q Lr s
  have Hvq := Lib.hid (fun (i : Later W) => hvq i.1 (g3.upd i.nw) (hr3.nw i.nw) hs)
  clear hvq
  have Hw2 := Lib.hid u2'.size
  have K2 := Lib.hid k2
  have K3 := Lib.hid k3
  clear n1 k1 u2 u2' n3 k2 k3 hW
  go_wp2_with fail
  rw [HW.out]
  refine wp_region_nw (by kernel_rfl) (by kernel_rfl) ?_
  repeat (go_big_quiet_step ((go_at_call 74; exact later_call (Hvq.out _))))
  refine wpQuiet_nil ?_
  intro w4 u4
  replace u4 := later_out u4
  have u4' := u3.trans u4
  have h4 := h.nw u4'
  obtain ⟨_, _, _⟩ := h4.laterV
  obtain ⟨_, _, _⟩ := later3 (u4.keep K2.out)
  generalize hvd : Bk.valid Lr s = vd at *
  cases vd with
  | false =>
    have hx : Hid (Vw.accept Lr key L s = (18, L)) := by show _ = _; rw [Vw.accept, if_pos hvd]
    go_wp2_with fail
    go_ret
    exact acc_none h hx.out u4'
  | true =>
  have Hvd := Lib.hid hvd
  clear hvd
  go_wp2_with fail
  by_cases hk : s.key = key
  rotate_left
  · have hx : Hid (Vw.accept Lr key L s = (22, L)) := by show _ = _; rw [Vw.accept, if_neg (by rw [Hvd.out]; simp), if_pos hk]
    have hkb : (s.key == key) = false := beq_eq_false_iff_ne.2 hk
    have hkb2 : (s.key != key) = true := by simp [bne, hkb]
    clear hk
    refine wp_region_nw (by kernel_rfl) (by kernel_rfl) ?_
    repeat (go_big_quiet_step ((fail)))
    refine wpQuiet_nil ?_
    intro w5 u5
    replace u5 := later_out u5
    go_wp2_with fail
    go_ret
    exact acc_none h hx.out (u4'.trans u5)
  have hkb : (s.key == key) = true := beq_iff_eq.2 hk
  have hkb2 : (s.key != key) = false := by simp [bne, hkb]
  have Hk := Lib.hid hk
  clear hk
  refine wp_region_nw (by kernel_rfl) (by kernel_rfl) ?_
  repeat (go_big_quiet_step ((fail)))
  refine wpQuiet_nil ?_
  intro w5 u5
  replace u5 := later_out u5
  have u5' := u4'.trans u5
  have h5 := h.nw u5'
  generalize hlg : Vw.isLog s.text = lg at *
  cases lg with
  | false =>
    have hx : Hid (Vw.accept Lr key L s = (2, L)) := by show _ = _; rw [Vw.accept, if_neg (by rw [Hvd.out]; simp), if_neg (by rw [Hk.out]; simp), if_pos hlg]
    go_wp2_with fail
    go_ret
    exact acc_none h hx.out u5'
  | true =>
  have Hlg := Lib.hid hlg
  clear hlg
  have KC := Lib.hid (u5.keep (u4.keep K3.out))
  have hcf := containsFunc_v 76 w2.heap.size (enters_of Tryz.func76 (by kernel_rfl) rfl) (fun x => Cl.contra x (Vw.claimOf s)) B w5.heap.size r.cv (L.map Vw.claimOf) w5 (clm_sls h5.cown) (by rw [List.length_map]; have := HL.out; omega)
    (fun W' x u' hx => pred_a x (Vw.claimOf s) (by obtain ⟨y, hy, rfl⟩ := List.mem_map.1 hx; exact (log_bounds (hv.each y hy).2.2).1) hic w2.heap.size W' ((g.upd u5').upd u') (u'.keep KC.out))
  rw [hcl.out] at hcf
  have Hcf := Lib.hid hcf
  clear hcf
  obtain ⟨_, _, _, _, _, _, _, _⟩ := h5.cells
  go_wp2_with fail
  (with_reducible refine (Hcf.out).mono ?_)
  rintro _ w6 ⟨rfl, u6⟩
  have u6' := u5'.trans u6
  generalize hch : Vw.clashes L (Vw.claimOf s) = ch at *
  cases ch with
  | true =>
    have hx : Hid (Vw.accept Lr key L s = (21, L)) := by show _ = _; rw [Vw.accept, if_neg (by rw [Hvd.out]; simp), if_neg (by rw [Hk.out]; simp), if_neg (by rw [Hlg.out]; simp), if_pos hch]
    go_wp2_with fail
    go_ret
    exact acc_none h hx.out u6'
  | false =>
  have Hch := Lib.hid hch
  clear hch
  have h6 := h.nw u6'
  have K2' := Lib.hid (u6.keep (u5.keep (u4.keep K2.out)))
  obtain ⟨_, _, _⟩ := h6.laterV
  obtain ⟨_, _, _⟩ := later3 K2'.out
  have Hct := Lib.hid (fun (i : Later w6) => contains_v B i.1.heap.size r.sv L s i.1 (sgn_sls (h6.nw i.nw).sown) (by have := HL.out; omega))
  go_wp2_with fail
  refine wp_region_nw (by kernel_rfl) (by kernel_rfl) ?_
  repeat (go_big_quiet_step ((go_at_call 78; exact later_call (Hct.out _))))
  refine wpQuiet_nil ?_
  intro w7 u7
  replace u7 := later_out u7
  have u7' := u6'.trans u7
  generalize hmem : decide (s ∈ L) = dm at *
  cases dm with
  | true =>
    have hm : s ∈ L := of_decide_eq_true hmem
    have hx : Hid (Vw.accept Lr key L s = (0, L)) := by show _ = _; rw [Vw.accept, if_neg (by rw [Hvd.out]; simp), if_neg (by rw [Hk.out]; simp), if_neg (by rw [Hlg.out]; simp), if_neg (by rw [Hch.out]; simp), if_pos hm]
    clear hm hmem
    go_wp2_with fail
    go_ret
    exact acc_none h hx.out u7'
  | false =>
  have hm : ¬ s ∈ L := of_decide_eq_false hmem
  have hx : Hid (Vw.accept Lr key L s = (0, L ++ [s])) := by show _ = _; rw [Vw.accept, if_neg (by rw [Hvd.out]; simp), if_neg (by rw [Hk.out]; simp), if_neg (by rw [Hlg.out]; simp), if_neg (by rw [Hch.out]; simp), if_neg hm]
  have Hm : Hid (s ∉ L) := hm
  clear hm hmem
  have KC7 := Lib.hid (u7.keep (u6.keep KC.out))
  have K27 := Lib.hid (u7.keep K2'.out)
  have h7 := h.nw u7'
  go_upto_region 12 with fail
  go_cut [] from 46 to 65 (fun wx => Gro B w7 r q.rb key L s w2.heap.size wx)
  case first =>
    obtain ⟨a1, c1, hsv⟩ := h7.sslice
    obtain ⟨a2, c2, hcv⟩ := h7.cslice
    have hwlt := lt_of_block K27.out
    have hclt := lt_of_block KC7.out
    have hnf1 : ¬ r.foot w.heap.size := fun e => by have := (h.foot_lt e).2; omega
    have u2s := u6'.size
    have hnf2 : ¬ r.foot w2.heap.size := fun e => by have := (h.foot_lt e).2; have := Hw2.out; omega
    have hS7 := h7.sown
    have hC7 := h7.cown
    rw [hsv] at hS7
    rw [hcv] at hC7
    have hBg : nG ≤ B := h.hb
    have hB7 : B ≤ w7.heap.size := Nat.le_trans hB u7'.size
    have T1lt : ∀ k, (Value.slice a1 L.length c1).ownBlock = some k → k < w7.heap.size := fun k hk => by obtain ⟨_, cs, e⟩ := own_block hS7 hk; exact lt_of_block e
    have T2lt : ∀ k, (Value.slice a2 L.length c2).ownBlock = some k → k < w7.heap.size := fun k hk => by obtain ⟨_, cs, e⟩ := own_block hC7 hk; exact lt_of_block e
    have T12 : ∀ k, (Value.slice a1 L.length c1).ownBlock = some k → ¬ (Value.slice a2 L.length c2).ownBlock = some k := fun k hk hk2 => by
      obtain ⟨_, cs, e1⟩ := own_block hS7 hk
      obtain ⟨_, cs', e2⟩ := own_block hC7 hk2
      rw [e1] at e2
      injection e2 with e2
      injection e2 with _ e2
      exact absurd e2 (by decide)
    have T21 : ∀ k, (Value.slice a2 L.length c2).ownBlock = some k → ¬ (Value.slice a1 L.length c1).ownBlock = some k := fun k hk hk2 => T12 k hk2 hk
    have TV : ∀ k, ((Value.slice a1 L.length c1).ownBlock = some k ∨ (Value.slice a2 L.length c2).ownBlock = some k) → ¬ k = r.vb := by
      rintro k (hk | hk) rfl
      · obtain ⟨_, cs, e1⟩ := own_block hS7 hk
        rw [h7.blk] at e1
        injection e1 with e1
        injection e1 with _ e1
        exact absurd e1 (by decide)
      · obtain ⟨_, cs, e1⟩ := own_block hC7 hk
        rw [h7.blk] at e1
        injection e1 with e1
        injection e1 with _ e1
        exact absurd e1 (by decide)
    have VB : ∀ z, Upd (fun k => (Value.slice a1 L.length c1).ownBlock = some k ∨ (Value.slice a2 L.length c2).ownBlock = some k) w7 z → z.cell? ⟨r.vb, 2, none⟩ = some (.slice a1 L.length c1) ∧ z.cell? ⟨r.vb, 3, none⟩ = some (.slice a2 L.length c2) ∧ z.frozen? ⟨r.vb, 2, none⟩ = false ∧ z.frozen? ⟨r.vb, 3, none⟩ = false := fun z u => by
      have k := u.keep h7.blk (fun e => TV _ e rfl)
      exact ⟨by rw [cells_cell k, ← hsv]; rfl, by rw [cells_cell k, ← hcv]; rfl, cells_frozen k 2, cells_frozen k 3⟩
    have BX : ∀ z, Upd (fun k => ((Value.slice a1 L.length c1).ownBlock = some k ∨ (Value.slice a2 L.length c2).ownBlock = some k) ∨ k = r.vb) w7 z → z.cell? ⟨w.heap.size, 0, none⟩ = some (.int .i64 s.key) ∧ z.cell? ⟨w.heap.size, 1, none⟩ = some (.string ⟨s.text.toArray⟩) ∧ z.cell? ⟨w.heap.size, 2, none⟩ = some (.int .i64 s.mark) ∧
        z.cell? ⟨w2.heap.size, 0, none⟩ = some (.int .i64 (Vw.claimOf s).kind) ∧ z.cell? ⟨w2.heap.size, 1, none⟩ = some (.int .i64 (Vw.claimOf s).n) ∧ z.cell? ⟨w2.heap.size, 2, none⟩ = some (.int .i64 (Vw.claimOf s).time) ∧ z.cell? ⟨w2.heap.size, 3, none⟩ = some (.string ⟨(Vw.claimOf s).text.toArray⟩) := fun z u => by
      have p1 := u.keep K27.out (fun e => hnf1 (e.elim (fun e => e.elim (fun e => Or.inr (Or.inr (Or.inr (Or.inl (by rw [hsv]; exact e))))) (fun e => Or.inr (Or.inr (Or.inr (Or.inr (by rw [hcv]; exact e)))))) (fun e => Or.inl e)))
      have p2 := u.keep KC7.out (fun e => hnf2 (e.elim (fun e => e.elim (fun e => Or.inr (Or.inr (Or.inr (Or.inl (by rw [hsv]; exact e))))) (fun e => Or.inr (Or.inr (Or.inr (Or.inr (by rw [hcv]; exact e)))))) (fun e => Or.inl e)))
      obtain ⟨q0, q1, q2⟩ := cell3 p1
      obtain ⟨q3, q4, q5, q6⟩ := cell4 p2
      exact ⟨q0, q1, q2, q3, q4, q5, q6⟩
    have FIN := fun (z z' z2 : World) (gs gc cs cc : Nat) p1 p2 p3 p4 p5 p6 p7 => stg_done (rb := q.rb) (key := key) (s := s) (cb := w2.heap.size) (wB := z) (wC := z') (wD := z2) (gs := gs) (gc := gc) (cs := cs) (cc := cc) h7 hsv hcv KC7.out hnf2 p1 p2 p3 p4 p5 p6 p7
    have VB2 := fun z u => (VB z u).1
    have VB3 := fun z u => (VB z u).2.1
    have VF2 := fun z u => (VB z u).2.2.1
    have VF3 := fun z u => (VB z u).2.2.2
    have HVB2 := Lib.hid VB2
    have HVB3 := Lib.hid VB3
    have HVF2 := Lib.hid VF2
    have HVF3 := Lib.hid VF3
    have HBX := Lib.hid BX
    have HFIN := Lib.hid FIN
    have HS7 := Lib.hid hS7
    have HC7 := Lib.hid hC7
    have H63 : L.length + 1 ≤ maxLen := by have := HL.out; unfold maxLen; omega
    have HBs : (L.length + 1) * 32 ≤ 140737488355328 := by have := HL.out; omega
    have HBc : (L.length + 1) * 40 ≤ 140737488355328 := by have := HL.out; omega
    have H63' := Lib.hid H63
    have HBs' := Lib.hid HBs
    have HBc' := Lib.hid HBc
    have hvg : nG ≤ r.vb := Nat.le_trans h.hb h.vb
    have HT12 := Lib.hid T12
    have HT21 := Lib.hid T21
    have HT1 := Lib.hid T1lt
    have HT2 := Lib.hid T2lt
    have HSZ : Hid (∀ z, Upd (fun k => (Value.slice a1 L.length c1).ownBlock = some k ∨ (Value.slice a2 L.length c2).ownBlock = some k) w7 z → (fun z : World => z.cell? ⟨r.vb, 2, none⟩ = some (.slice a1 L.length c1) ∧ z.cell? ⟨r.vb, 3, none⟩ = some (.slice a2 L.length c2) ∧ z.cell? ⟨w.heap.size, 0, none⟩ = some (.int .i64 s.key) ∧ z.cell? ⟨w.heap.size, 1, none⟩ = some (.string ⟨s.text.toArray⟩) ∧ z.cell? ⟨w.heap.size, 2, none⟩ = some (.int .i64 s.mark) ∧ z.cell? ⟨w2.heap.size, 0, none⟩ = some (.int .i64 (Vw.claimOf s).kind) ∧ z.cell? ⟨w2.heap.size, 1, none⟩ = some (.int .i64 (Vw.claimOf s).n) ∧ z.cell? ⟨w2.heap.size, 2, none⟩ = some (.int .i64 (Vw.claimOf s).time) ∧ z.cell? ⟨w2.heap.size, 3, none⟩ = some (.string ⟨(Vw.claimOf s).text.toArray⟩)) z) := fun z u => ⟨(VB z u).1, (VB z u).2.1, BX z (u.mono (fun k _ e => Or.inl e))⟩
    have HS0 := HSZ.out w7.drew (Upd.refl _ _).drew
    clear hsv hcv
    clear VB VB2 VB3 VF2 VF3 BX FIN hS7 hC7 H63 HBs HBc T12 T21 TV T1lt T2lt
    have hv' := Lib.hid hv
    have hs' := Lib.hid hs
    have hr' := Lib.hid hr
    clear hv hs hr hr3 h3 h4 h5 h6
    refine wp_region_G (fun z => z.cell? ⟨r.vb, 2, none⟩ = some (.slice a1 L.length c1) ∧ z.cell? ⟨r.vb, 3, none⟩ = some (.slice a2 L.length c2) ∧ z.cell? ⟨w.heap.size, 0, none⟩ = some (.int .i64 s.key) ∧ z.cell? ⟨w.heap.size, 1, none⟩ = some (.string ⟨s.text.toArray⟩) ∧ z.cell? ⟨w.heap.size, 2, none⟩ = some (.int .i64 s.mark) ∧ z.cell? ⟨w2.heap.size, 0, none⟩ = some (.int .i64 (Vw.claimOf s).kind) ∧ z.cell? ⟨w2.heap.size, 1, none⟩ = some (.int .i64 (Vw.claimOf s).n) ∧ z.cell? ⟨w2.heap.size, 2, none⟩ = some (.int .i64 (Vw.claimOf s).time) ∧ z.cell? ⟨w2.heap.size, 3, none⟩ = some (.string ⟨(Vw.claimOf s).text.toArray⟩)) 18 (by kernel_rfl) ?_
    refine wpAnyG_pure (i := 0) (v := ?_) rfl (by kernel_rfl) (by kernel_rfl) (by kernel_rfl) (by kernel_rfl) (by kernel_rfl) (fun _ _ _ h => h) (by rfl) ?_ (fun _ => HS0) ?_
    rotate_left 1
    · (intro zz; go_simp; first | done | with_reducible rfl)
    (try simp only [Act.put, List.setIfInBounds_toArray, List.set_cons_zero, List.set_cons_succ])
    refine wpAnyG_pure (i := 1) (v := ?_) rfl (by kernel_rfl) (by kernel_rfl) (by kernel_rfl) (by kernel_rfl) (by kernel_rfl) (fun _ _ _ h => h) (by rfl) ?_ (fun _ => HS0) ?_
    rotate_left 1
    · (intro zz; go_simp; first | done | with_reducible rfl)
    (try simp only [Act.put, List.setIfInBounds_toArray, List.set_cons_zero, List.set_cons_succ])
    refine wpAnyG_pure (i := 2) (v := ?_) rfl (by kernel_rfl) (by kernel_rfl) (by kernel_rfl) (by kernel_rfl) (by kernel_rfl) (fun _ _ _ h => h) (by rfl) ?_ (fun _ => HS0) ?_
    rotate_left 1
    · (intro zz; go_simp; first | done | with_reducible rfl)
    (try simp only [Act.put, List.setIfInBounds_toArray, List.set_cons_zero, List.set_cons_succ])
    refine wpAnyG_pure (i := 3) (v := ?_) rfl (by kernel_rfl) (by kernel_rfl) (by kernel_rfl) (by kernel_rfl) (by kernel_rfl) (fun _ _ _ h => h) (by rfl) ?_ (fun _ => HS0) ?_
    rotate_left 1
    · (intro zz; go_simp; first | done | with_reducible rfl)
    (try simp only [Act.put, List.setIfInBounds_toArray, List.set_cons_zero, List.set_cons_succ])
    refine wpAnyG_pure (i := 4) (v := ?_) rfl (by kernel_rfl) (by kernel_rfl) (by kernel_rfl) (by kernel_rfl) (by kernel_rfl) (fun _ _ _ h => h) (by rfl) ?_ (fun _ => HS0) ?_
    rotate_left 1
    · (intro zz; go_simp; first | done | with_reducible rfl)
    (try simp only [Act.put, List.setIfInBounds_toArray, List.set_cons_zero, List.set_cons_succ])
    refine wpAnyG_load (i := 5) (v := ?_) [8] rfl (by kernel_rfl) (by kernel_rfl) (by kernel_rfl) (by kernel_rfl) (by kernel_rfl) (by kernel_rfl) (fun _ _ _ h => h) (by rfl) ?_ (fun _ => HS0) ?_
    rotate_left 1
    · (intro zz hS; obtain ⟨_, _, _, _, _, _, _, _, _⟩ := hS; go_simp; first | done | with_reducible rfl)
    (try simp only [Act.put, List.setIfInBounds_toArray, List.set_cons_zero, List.set_cons_succ])
    refine wpAnyG_load (i := 6) (v := ?_) [8, 7] rfl (by kernel_rfl) (by kernel_rfl) (by kernel_rfl) (by kernel_rfl) (by kernel_rfl) (by kernel_rfl) (fun _ _ _ h => h) (by rfl) ?_ (fun _ => HS0) ?_
    rotate_left 1
    · (intro zz hS; obtain ⟨_, _, _, _, _, _, _, _, _⟩ := hS; go_simp; first | done | with_reducible rfl)
    (try simp only [Act.put, List.setIfInBounds_toArray, List.set_cons_zero, List.set_cons_succ])
    refine wpAnyG_pure (i := 9) (v := ?_) rfl (by kernel_rfl) (by kernel_rfl) (by kernel_rfl) (by kernel_rfl) (by kernel_rfl) (fun _ _ _ h => h) (by rfl) ?_ (fun _ => HS0) ?_
    rotate_left 1
    · (intro zz; go_simp; first | done | with_reducible rfl)
    (try simp only [Act.put, List.setIfInBounds_toArray, List.set_cons_zero, List.set_cons_succ])
    refine wpAnyG_pure (i := 10) (v := ?_) rfl (by kernel_rfl) (by kernel_rfl) (by kernel_rfl) (by kernel_rfl) (by kernel_rfl) (fun _ _ _ h => h) (by rfl) ?_ (fun _ => HS0) ?_
    rotate_left 1
    · (intro zz; go_simp; first | done | with_reducible rfl)
    (try simp only [Act.put, List.setIfInBounds_toArray, List.set_cons_zero, List.set_cons_succ])
    refine wpAnyG_pure (i := 11) (v := ?_) rfl (by kernel_rfl) (by kernel_rfl) (by kernel_rfl) (by kernel_rfl) (by kernel_rfl) (fun _ _ _ h => h) (by rfl) ?_ (fun _ => HS0) ?_
    rotate_left 1
    · (intro zz; go_simp; first | done | with_reducible rfl)
    (try simp only [Act.put, List.setIfInBounds_toArray, List.set_cons_zero, List.set_cons_succ])
    refine wpAnyG_load (i := 12) (v := ?_) [15] rfl (by kernel_rfl) (by kernel_rfl) (by kernel_rfl) (by kernel_rfl) (by kernel_rfl) (by kernel_rfl) (fun _ _ _ h => h) (by rfl) ?_ (fun _ => HS0) ?_
    rotate_left 1
    · (intro zz hS; obtain ⟨_, _, _, _, _, _, _, _, _⟩ := hS; go_simp; first | done | with_reducible rfl)
    (try simp only [Act.put, List.setIfInBounds_toArray, List.set_cons_zero, List.set_cons_succ])
    refine wpAnyG_load (i := 13) (v := ?_) [15, 14] rfl (by kernel_rfl) (by kernel_rfl) (by kernel_rfl) (by kernel_rfl) (by kernel_rfl) (by kernel_rfl) (fun _ _ _ h => h) (by rfl) ?_ (fun _ => HS0) ?_
    rotate_left 1
    · (intro zz hS; obtain ⟨_, _, _, _, _, _, _, _, _⟩ := hS; go_simp; first | done | with_reducible rfl)
    (try simp only [Act.put, List.setIfInBounds_toArray, List.set_cons_zero, List.set_cons_succ])
    refine wpAnyG_ready [7, 14] (by kernel_rfl) (by simp) ?_
    refine AllG.cons rfl (fun K hK => ?_) (AllG.cons rfl (fun K hK => ?_) AllG.nil)
    · go_simp
      refine hK.out _ _ (fun _ => HSZ.out _ (by repeat (first | exact Upd.refl _ _ | assumption | refine Upd.drew ?_ | refine Upd.alloc ?_ _))) ?_
      clear hK K
      (try simp only [Act.put, List.setIfInBounds_toArray, List.set_cons_zero, List.set_cons_succ])
      refine wpAnyG_ready [8, 14] (by kernel_rfl) (by simp) ?_
      refine AllG.cons rfl (fun K hK => ?_) (AllG.cons rfl (fun K hK => ?_) AllG.nil)
      · refine step_appU rfl _ _ 42 rfl B tSigned _ 3 32 Tryz.underlying42 infoSgn rfl (by decide) (.slice a1 L.length c1) L.length (flatS L) rfl w7 (fun k => (Value.slice a2 L.length c2).ownBlock = some k) HS7.out (by repeat (first | exact Upd.refl _ _ | assumption | refine Upd.drew ?_ | refine Upd.alloc ?_ _)) HT12.out _ (sgl s) rfl (by first | assumption | exact heap_at (by simp) | exact heap_at2 (by simp)) rfl (sgl_one s) H63'.out HBs'.out hB7 hBg ?_
        intro gs cs ws hownS uS oS
        have uT1 : Upd (fun k => (Value.slice a1 L.length c1).ownBlock = some k) w7 ws := Upd.trans (by repeat (first | exact Upd.refl _ _ | assumption | refine Upd.drew ?_ | refine Upd.alloc ?_ _)) uS
        have uT12 : Upd (fun k => (Value.slice a1 L.length c1).ownBlock = some k ∨ (Value.slice a2 L.length c2).ownBlock = some k) w7 ws := uT1.mono (fun k _ e => Or.inl e)
        refine hK.out _ _ (fun _ => HSZ.out _ uT12) ?_
        clear hK K
        (try simp only [Act.put, List.setIfInBounds_toArray, List.set_cons_zero, List.set_cons_succ])
        refine wpAnyG_ready [14] (by kernel_rfl) (by simp) ?_
        refine AllG.cons rfl (fun K hK => ?_) AllG.nil
        go_simp
        refine hK.out _ _ (fun _ => HSZ.out _ (by repeat (first | exact Upd.refl _ _ | assumption | refine Upd.drew ?_ | refine Upd.alloc ?_ _))) ?_
        clear hK K
        (try simp only [Act.put, List.setIfInBounds_toArray, List.set_cons_zero, List.set_cons_succ])
        refine wpAnyG_ready [15] (by kernel_rfl) (by simp) ?_
        refine AllG.cons rfl (fun K hK => ?_) AllG.nil
        refine step_appU rfl _ _ 134 rfl B tC _ 4 40 Tryz.underlying134 infoClm rfl (by decide) (.slice a2 L.length c2) L.length (flatM L) rfl w7 (fun k => (Value.slice a1 L.length c1).ownBlock = some k) HC7.out (by repeat (first | exact Upd.refl _ _ | assumption | refine Upd.drew ?_ | refine Upd.alloc ?_ _)) HT21.out _ (cml (Vw.claimOf s)) rfl (by first | assumption | exact heap_at (by simp) | exact heap_at2 (by simp)) rfl (cml_one (Vw.claimOf s)) H63'.out HBc'.out hB7 hBg ?_
        intro gc cc wd hownC uC oC
        have uD12 : Upd (fun k => (Value.slice a1 L.length c1).ownBlock = some k ∨ (Value.slice a2 L.length c2).ownBlock = some k) w7 wd := Upd.trans (by repeat (first | exact Upd.refl _ _ | assumption | refine Upd.drew ?_ | refine Upd.alloc ?_ _)) (uC.mono (fun k _ e => Or.inr e))
        have z2 := HVB2.out wd uD12
        have z3 := HVB3.out wd uD12
        have z4 := HVF2.out wd uD12
        have z5 := HVF3.out wd uD12
        refine hK.out _ _ (fun _ => HSZ.out _ uD12) ?_
        clear hK K
        (try simp only [Act.put, List.setIfInBounds_toArray, List.set_cons_zero, List.set_cons_succ])
        refine wpAnyG_pure (i := 16) (v := ?_) rfl (by kernel_rfl) (by kernel_rfl) (by kernel_rfl) (by kernel_rfl) (by kernel_rfl) (fun _ _ _ h => h) (by rfl) ?_ (fun _ => HSZ.out _ uD12) ?_
        rotate_left 1
        · (intro zz; go_simp; first | done | with_reducible rfl)
        (try simp only [Act.put, List.setIfInBounds_toArray, List.set_cons_zero, List.set_cons_succ])
        refine wpAnyG_pure (i := 17) (v := ?_) rfl (by kernel_rfl) (by kernel_rfl) (by kernel_rfl) (by kernel_rfl) (by kernel_rfl) (fun _ _ _ h => h) (by rfl) ?_ (fun _ => HSZ.out _ uD12) ?_
        rotate_left 1
        · (intro zz; go_simp; first | done | with_reducible rfl)
        (try simp only [Act.put, List.setIfInBounds_toArray, List.set_cons_zero, List.set_cons_succ])
        refine wpAnyG_ready [18] (by kernel_rfl) (by simp) ?_
        refine AllG.cons rfl (fun K hK => ?_) AllG.nil
        go_simp
        refine hK.out _ _ (fun e => absurd (show true = false from e) (by decide)) ?_
        clear hK K
        (try simp only [Act.put, List.setIfInBounds_toArray, List.set_cons_zero, List.set_cons_succ])
        refine wpAnyG_pure (i := 19) (v := ?_) rfl (by kernel_rfl) (by kernel_rfl) (by kernel_rfl) (by kernel_rfl) (by kernel_rfl) (fun _ _ _ h => h) (by rfl) ?_ (fun e => absurd (show true = false from e) (by decide)) ?_
        rotate_left 1
        · (intro zz; go_simp; first | done | with_reducible rfl)
        (try simp only [Act.put, List.setIfInBounds_toArray, List.set_cons_zero, List.set_cons_succ])
        refine wpAnyG_pure (i := 20) (v := ?_) rfl (by kernel_rfl) (by kernel_rfl) (by kernel_rfl) (by kernel_rfl) (by kernel_rfl) (fun _ _ _ h => h) (by rfl) ?_ (fun e => absurd (show true = false from e) (by decide)) ?_
        rotate_left 1
        · (intro zz; go_simp; first | done | with_reducible rfl)
        (try simp only [Act.put, List.setIfInBounds_toArray, List.set_cons_zero, List.set_cons_succ])
        refine wpAnyG_ready [21] (by kernel_rfl) (by simp) ?_
        refine AllG.cons rfl (fun K hK => ?_) AllG.nil
        go_simp
        refine hK.out _ _ (fun e => absurd (show true = false from e) (by decide)) ?_
        clear hK K
        (try simp only [Act.put, List.setIfInBounds_toArray, List.set_cons_zero, List.set_cons_succ])
        refine wpAnyG_done (by kernel_rfl) ?_ _
        go_wp2_with fail
        go_meet
        exact HFIN.out _ _ _ _ _ _ _ hownS uT1 oS (by repeat (first | exact Upd.refl _ _ | assumption | refine Upd.drew ?_ | refine Upd.alloc ?_ _)) hownC uC oC
      · go_simp
        refine hK.out _ _ (fun _ => HSZ.out _ (by repeat (first | exact Upd.refl _ _ | assumption | refine Upd.drew ?_ | refine Upd.alloc ?_ _))) ?_
        clear hK K
        (try simp only [Act.put, List.setIfInBounds_toArray, List.set_cons_zero, List.set_cons_succ])
        refine wpAnyG_ready [8] (by kernel_rfl) (by simp) ?_
        refine AllG.cons rfl (fun K hK => ?_) AllG.nil
        refine step_appU rfl _ _ 42 rfl B tSigned _ 3 32 Tryz.underlying42 infoSgn rfl (by decide) (.slice a1 L.length c1) L.length (flatS L) rfl w7 (fun k => (Value.slice a2 L.length c2).ownBlock = some k) HS7.out (by repeat (first | exact Upd.refl _ _ | assumption | refine Upd.drew ?_ | refine Upd.alloc ?_ _)) HT12.out _ (sgl s) rfl (by first | assumption | exact heap_at (by simp) | exact heap_at2 (by simp)) rfl (sgl_one s) H63'.out HBs'.out hB7 hBg ?_
        intro gs cs ws hownS uS oS
        have uT1 : Upd (fun k => (Value.slice a1 L.length c1).ownBlock = some k) w7 ws := Upd.trans (by repeat (first | exact Upd.refl _ _ | assumption | refine Upd.drew ?_ | refine Upd.alloc ?_ _)) uS
        have uT12 : Upd (fun k => (Value.slice a1 L.length c1).ownBlock = some k ∨ (Value.slice a2 L.length c2).ownBlock = some k) w7 ws := uT1.mono (fun k _ e => Or.inl e)
        have kC : ws.heap[w7.heap.size + 1]? = some (.cells (cml (Vw.claimOf s)).toArray tC (0, 0)) := uS.keep (heap_at (by simp)) (fun e => by have := HT1.out _ e; omega)
        refine hK.out _ _ (fun _ => HSZ.out _ uT12) ?_
        clear hK K
        (try simp only [Act.put, List.setIfInBounds_toArray, List.set_cons_zero, List.set_cons_succ])
        refine wpAnyG_ready [15] (by kernel_rfl) (by simp) ?_
        refine AllG.cons rfl (fun K hK => ?_) AllG.nil
        refine step_appU rfl _ _ 134 rfl B tC _ 4 40 Tryz.underlying134 infoClm rfl (by decide) (.slice a2 L.length c2) L.length (flatM L) rfl w7 (fun k => (Value.slice a1 L.length c1).ownBlock = some k) HC7.out (by repeat (first | exact Upd.refl _ _ | assumption | refine Upd.drew ?_ | refine Upd.alloc ?_ _)) HT21.out _ (cml (Vw.claimOf s)) rfl (by first | assumption | exact heap_at (by simp) | exact heap_at2 (by simp)) rfl (cml_one (Vw.claimOf s)) H63'.out HBc'.out hB7 hBg ?_
        intro gc cc wd hownC uC oC
        have uD12 : Upd (fun k => (Value.slice a1 L.length c1).ownBlock = some k ∨ (Value.slice a2 L.length c2).ownBlock = some k) w7 wd := Upd.trans (by repeat (first | exact Upd.refl _ _ | assumption | refine Upd.drew ?_ | refine Upd.alloc ?_ _)) (uC.mono (fun k _ e => Or.inr e))
        have z2 := HVB2.out wd uD12
        have z3 := HVB3.out wd uD12
        have z4 := HVF2.out wd uD12
        have z5 := HVF3.out wd uD12
        refine hK.out _ _ (fun _ => HSZ.out _ uD12) ?_
        clear hK K
        (try simp only [Act.put, List.setIfInBounds_toArray, List.set_cons_zero, List.set_cons_succ])
        refine wpAnyG_pure (i := 16) (v := ?_) rfl (by kernel_rfl) (by kernel_rfl) (by kernel_rfl) (by kernel_rfl) (by kernel_rfl) (fun _ _ _ h => h) (by rfl) ?_ (fun _ => HSZ.out _ uD12) ?_
        rotate_left 1
        · (intro zz; go_simp; first | done | with_reducible rfl)
        (try simp only [Act.put, List.setIfInBounds_toArray, List.set_cons_zero, List.set_cons_succ])
        refine wpAnyG_pure (i := 17) (v := ?_) rfl (by kernel_rfl) (by kernel_rfl) (by kernel_rfl) (by kernel_rfl) (by kernel_rfl) (fun _ _ _ h => h) (by rfl) ?_ (fun _ => HSZ.out _ uD12) ?_
        rotate_left 1
        · (intro zz; go_simp; first | done | with_reducible rfl)
        (try simp only [Act.put, List.setIfInBounds_toArray, List.set_cons_zero, List.set_cons_succ])
        refine wpAnyG_ready [18] (by kernel_rfl) (by simp) ?_
        refine AllG.cons rfl (fun K hK => ?_) AllG.nil
        go_simp
        refine hK.out _ _ (fun e => absurd (show true = false from e) (by decide)) ?_
        clear hK K
        (try simp only [Act.put, List.setIfInBounds_toArray, List.set_cons_zero, List.set_cons_succ])
        refine wpAnyG_pure (i := 19) (v := ?_) rfl (by kernel_rfl) (by kernel_rfl) (by kernel_rfl) (by kernel_rfl) (by kernel_rfl) (fun _ _ _ h => h) (by rfl) ?_ (fun e => absurd (show true = false from e) (by decide)) ?_
        rotate_left 1
        · (intro zz; go_simp; first | done | with_reducible rfl)
        (try simp only [Act.put, List.setIfInBounds_toArray, List.set_cons_zero, List.set_cons_succ])
        refine wpAnyG_pure (i := 20) (v := ?_) rfl (by kernel_rfl) (by kernel_rfl) (by kernel_rfl) (by kernel_rfl) (by kernel_rfl) (fun _ _ _ h => h) (by rfl) ?_ (fun e => absurd (show true = false from e) (by decide)) ?_
        rotate_left 1
        · (intro zz; go_simp; first | done | with_reducible rfl)
        (try simp only [Act.put, List.setIfInBounds_toArray, List.set_cons_zero, List.set_cons_succ])
        refine wpAnyG_ready [21] (by kernel_rfl) (by simp) ?_
        refine AllG.cons rfl (fun K hK => ?_) AllG.nil
        go_simp
        refine hK.out _ _ (fun e => absurd (show true = false from e) (by decide)) ?_
        clear hK K
        (try simp only [Act.put, List.setIfInBounds_toArray, List.set_cons_zero, List.set_cons_succ])
        refine wpAnyG_done (by kernel_rfl) ?_ _
        go_wp2_with fail
        go_meet
        exact HFIN.out _ _ _ _ _ _ _ hownS uT1 oS (by repeat (first | exact Upd.refl _ _ | assumption | refine Upd.drew ?_ | refine Upd.alloc ?_ _)) hownC uC oC
    · go_simp
      refine hK.out _ _ (fun _ => HSZ.out _ (by repeat (first | exact Upd.refl _ _ | assumption | refine Upd.drew ?_ | refine Upd.alloc ?_ _))) ?_
      clear hK K
      (try simp only [Act.put, List.setIfInBounds_toArray, List.set_cons_zero, List.set_cons_succ])
      refine wpAnyG_ready [7] (by kernel_rfl) (by simp) ?_
      refine AllG.cons rfl (fun K hK => ?_) AllG.nil
      go_simp
      refine hK.out _ _ (fun _ => HSZ.out _ (by repeat (first | exact Upd.refl _ _ | assumption | refine Upd.drew ?_ | refine Upd.alloc ?_ _))) ?_
      clear hK K
      (try simp only [Act.put, List.setIfInBounds_toArray, List.set_cons_zero, List.set_cons_succ])
      refine wpAnyG_ready [8] (by kernel_rfl) (by simp) ?_
      refine AllG.cons rfl (fun K hK => ?_) AllG.nil
      refine step_appU rfl _ _ 42 rfl B tSigned _ 3 32 Tryz.underlying42 infoSgn rfl (by decide) (.slice a1 L.length c1) L.length (flatS L) rfl w7 (fun k => (Value.slice a2 L.length c2).ownBlock = some k) HS7.out (by repeat (first | exact Upd.refl _ _ | assumption | refine Upd.drew ?_ | refine Upd.alloc ?_ _)) HT12.out _ (sgl s) rfl (by first | assumption | exact heap_at (by simp) | exact heap_at2 (by simp)) rfl (sgl_one s) H63'.out HBs'.out hB7 hBg ?_
      intro gs cs ws hownS uS oS
      have uT1 : Upd (fun k => (Value.slice a1 L.length c1).ownBlock = some k) w7 ws := Upd.trans (by repeat (first | exact Upd.refl _ _ | assumption | refine Upd.drew ?_ | refine Upd.alloc ?_ _)) uS
      have uT12 : Upd (fun k => (Value.slice a1 L.length c1).ownBlock = some k ∨ (Value.slice a2 L.length c2).ownBlock = some k) w7 ws := uT1.mono (fun k _ e => Or.inl e)
      have kC : ws.heap[w7.heap.size]? = some (.cells (cml (Vw.claimOf s)).toArray tC (0, 0)) := uS.keep (heap_at2 (by simp)) (fun e => by have := HT1.out _ e; omega)
      refine hK.out _ _ (fun _ => HSZ.out _ uT12) ?_
      clear hK K
      (try simp only [Act.put, List.setIfInBounds_toArray, List.set_cons_zero, List.set_cons_succ])
      refine wpAnyG_ready [15] (by kernel_rfl) (by simp) ?_
      refine AllG.cons rfl (fun K hK => ?_) AllG.nil
      refine step_appU rfl _ _ 134 rfl B tC _ 4 40 Tryz.underlying134 infoClm rfl (by decide) (.slice a2 L.length c2) L.length (flatM L) rfl w7 (fun k => (Value.slice a1 L.length c1).ownBlock = some k) HC7.out (by repeat (first | exact Upd.refl _ _ | assumption | refine Upd.drew ?_ | refine Upd.alloc ?_ _)) HT21.out _ (cml (Vw.claimOf s)) rfl (by first | assumption | exact heap_at (by simp) | exact heap_at2 (by simp)) rfl (cml_one (Vw.claimOf s)) H63'.out HBc'.out hB7 hBg ?_
      intro gc cc wd hownC uC oC
      have uD12 : Upd (fun k => (Value.slice a1 L.length c1).ownBlock = some k ∨ (Value.slice a2 L.length c2).ownBlock = some k) w7 wd := Upd.trans (by repeat (first | exact Upd.refl _ _ | assumption | refine Upd.drew ?_ | refine Upd.alloc ?_ _)) (uC.mono (fun k _ e => Or.inr e))
      have z2 := HVB2.out wd uD12
      have z3 := HVB3.out wd uD12
      have z4 := HVF2.out wd uD12
      have z5 := HVF3.out wd uD12
      refine hK.out _ _ (fun _ => HSZ.out _ uD12) ?_
      clear hK K
      (try simp only [Act.put, List.setIfInBounds_toArray, List.set_cons_zero, List.set_cons_succ])
      refine wpAnyG_pure (i := 16) (v := ?_) rfl (by kernel_rfl) (by kernel_rfl) (by kernel_rfl) (by kernel_rfl) (by kernel_rfl) (fun _ _ _ h => h) (by rfl) ?_ (fun _ => HSZ.out _ uD12) ?_
      rotate_left 1
      · (intro zz; go_simp; first | done | with_reducible rfl)
      (try simp only [Act.put, List.setIfInBounds_toArray, List.set_cons_zero, List.set_cons_succ])
      refine wpAnyG_pure (i := 17) (v := ?_) rfl (by kernel_rfl) (by kernel_rfl) (by kernel_rfl) (by kernel_rfl) (by kernel_rfl) (fun _ _ _ h => h) (by rfl) ?_ (fun _ => HSZ.out _ uD12) ?_
      rotate_left 1
      · (intro zz; go_simp; first | done | with_reducible rfl)
      (try simp only [Act.put, List.setIfInBounds_toArray, List.set_cons_zero, List.set_cons_succ])
      refine wpAnyG_ready [18] (by kernel_rfl) (by simp) ?_
      refine AllG.cons rfl (fun K hK => ?_) AllG.nil
      go_simp
      refine hK.out _ _ (fun e => absurd (show true = false from e) (by decide)) ?_
      clear hK K
      (try simp only [Act.put, List.setIfInBounds_toArray, List.set_cons_zero, List.set_cons_succ])
      refine wpAnyG_pure (i := 19) (v := ?_) rfl (by kernel_rfl) (by kernel_rfl) (by kernel_rfl) (by kernel_rfl) (by kernel_rfl) (fun _ _ _ h => h) (by rfl) ?_ (fun e => absurd (show true = false from e) (by decide)) ?_
      rotate_left 1
      · (intro zz; go_simp; first | done | with_reducible rfl)
      (try simp only [Act.put, List.setIfInBounds_toArray, List.set_cons_zero, List.set_cons_succ])
      refine wpAnyG_pure (i := 20) (v := ?_) rfl (by kernel_rfl) (by kernel_rfl) (by kernel_rfl) (by kernel_rfl) (by kernel_rfl) (fun _ _ _ h => h) (by rfl) ?_ (fun e => absurd (show true = false from e) (by decide)) ?_
      rotate_left 1
      · (intro zz; go_simp; first | done | with_reducible rfl)
      (try simp only [Act.put, List.setIfInBounds_toArray, List.set_cons_zero, List.set_cons_succ])
      refine wpAnyG_ready [21] (by kernel_rfl) (by simp) ?_
      refine AllG.cons rfl (fun K hK => ?_) AllG.nil
      go_simp
      refine hK.out _ _ (fun e => absurd (show true = false from e) (by decide)) ?_
      clear hK K
      (try simp only [Act.put, List.setIfInBounds_toArray, List.set_cons_zero, List.set_cons_succ])
      refine wpAnyG_done (by kernel_rfl) ?_ _
      go_wp2_with fail
      go_meet
      exact HFIN.out _ _ _ _ _ _ _ hownS uT1 oS (by repeat (first | exact Upd.refl _ _ | assumption | refine Upd.drew ?_ | refine Upd.alloc ?_ _)) hownC uC oC
  case rest =>
    obtain ⟨sv', cv', st⟩ := hcut
    have Hst := Lib.hid st
    obtain ⟨_, _, _, _, _, _, _, _⟩ := st.cells
    obtain ⟨l1, l2, l3, lk0, lk2⟩ := Vw.log_spec Hlg.out
    obtain ⟨b1, b2, b3, b4, b5, b6, b7⟩ := Cl.right_bounds l1
    have Hr1 := Lib.hid l1
    have Hb3 := Lib.hid b3
    have Hb7 := Lib.hid b7
    have hgE : nG ≤ r.eb := Nat.le_trans h.hb h.eb
    have hgA : nG ≤ r.ab := Nat.le_trans h.hb h.ab
    have hgV : nG ≤ r.vb := Nat.le_trans h.hb h.vb
    have Hic := Lib.hid hic
    clear st l1 l2 l3 b1 b2 b3 b4 b5 b6 b7 hic h3 h4 h5 h6 h7 hr3 hr
    have Hlog : Hid (∀ s ∈ L, Vw.isLog s.text = true) := fun s hs => (hv.each s hs).2.2
    have st' : ∀ i : Later wc, Stg B w7 r q.rb key L s w2.heap.size sv' cv' i.1 := fun i => Hst.out.nw i.nw
    have HSt := Lib.hid st'
    have lc := fun i : Later wc => (st' i).cells
    have y4 := fun i : Later wc => (lc i).1
    have y5 := fun i : Later wc => (lc i).2.1
    have y6 := fun i : Later wc => (lc i).2.2.1
    have y7 := fun i : Later wc => (lc i).2.2.2.1
    have x0 := fun i : Later wc => (lc i).2.2.2.2.1
    have x1 := fun i : Later wc => (lc i).2.2.2.2.2.1
    have x2 := fun i : Later wc => (lc i).2.2.2.2.2.2.1
    have x3 := fun i : Later wc => (lc i).2.2.2.2.2.2.2
    clear st' lc
    by_cases k0 : (Vw.claimOf s).kind = 0
    · have K0 := Lib.hid k0
      have d0 : ((Vw.claimOf s).kind == 0) = true := beq_iff_eq.2 k0
      have Hno := Lib.hid (Vw.ent_new hv Hvd.out Hk.out Hlg.out Hch.out Hm.out k0)
      clear k0 hv
      go_wp2_with fail
      refine wp_region_nw_tail 8 (by kernel_rfl) (by kernel_rfl) ?_
      simp only [List.take_succ_cons, List.take_zero, List.drop_succ_cons, List.drop_zero]
      repeat (go_big_quiet_step ((fail)))
      refine wpQuiet_nil ?_
      intro w8 u8
      replace u8 := later_out u8
      have st8 := Hst.out.nw u8
      obtain ⟨w9, hst, hm9, u9⟩ := ent_store (Lr := Lr) st8.emap hgE Hno.out K0.out Hic.out.n
      have Hs9 := Lib.hid hst
      clear hst
      go_wp2_with (at_mapUpdate; refine wpList_storeL rfl _ _ _ 132 rfl _ _ _ rfl rfl rfl Hs9.out ?_)
      go_ret
      refine acc_done st8 u7' h hx.out u9 (fun k e => Or.inr (Or.inl e)) ?_ hm9 ?_
      · rw [viewC, size_same (by have := K0.out; omega)]
        exact u9.keep st8.blk (fun e => by
          obtain ⟨es, clock, e2, _⟩ := st8.emap
          rw [← e, st8.blk] at e2; cases e2)
      · rw [abs_same (by have := K0.out; omega)]
        exact st8.amap.upd u9 (fun e => h.ne e.symm)
    have d0 : ((Vw.claimOf s).kind == 0) = false := beq_eq_false_iff_ne.2 k0
    have K0 : Hid (¬ (Vw.claimOf s).kind = 0) := k0
    by_cases k2 : (Vw.claimOf s).kind = 2
    · have K2c := Lib.hid k2
      have d2 : ((Vw.claimOf s).kind == 2) = true := beq_iff_eq.2 k2
      have hlk := fun i : Later wc => abs_look (HSt.out i).amap Hlog.out (k := (Vw.claimOf s).text) (by have := Hb7.out; omega)
      clear k0 k2 hv
      go_wp2_with fail
      refine wp_region_nw_tail 16 (by kernel_rfl) (by kernel_rfl) ?_
      simp only [List.take_succ_cons, List.take_zero, List.drop_succ_cons, List.drop_zero]
      repeat (go_big_quiet_step ((fail)))
      refine wpQuiet_nil ?_
      intro w8 u8
      replace u8 := later_out u8
      have st8 := Hst.out.nw u8
      obtain ⟨w9, hst, hm9, u9⟩ := abs_store st8.amap hgA Hlog.out K2c.out Hb3.out (by have := Hb7.out; omega)
      have Hs9 := Lib.hid hst
      clear hst
      go_wp2_with (at_mapUpdate; refine wpList_storeL rfl _ _ _ 133 rfl _ _ _ rfl rfl rfl Hs9.out ?_)
      go_ret
      refine acc_done st8 u7' h hx.out u9 (fun k e => Or.inr (Or.inr e)) ?_ ?_ hm9
      · rw [viewC, size_same (by have := K2c.out; omega)]
        exact u9.keep st8.blk (fun e => by
          obtain ⟨es, clock, e2, _⟩ := st8.amap
          rw [← e, st8.blk] at e2; cases e2)
      · rw [ent_same (by have := K2c.out; omega)]
        exact st8.emap.upd u9 (fun e => h.ne e)
    have d2 : ((Vw.claimOf s).kind == 2) = false := beq_eq_false_iff_ne.2 k2
    have k1 : (Vw.claimOf s).kind = 1 := by omega
    have K1c := Lib.hid k1
    have d1 : ((Vw.claimOf s).kind == 1) = true := beq_iff_eq.2 k1
    clear k0 k1 k2 hv
    by_cases ht : (Vw.sizeOf L).2 < (Vw.claimOf s).time
    · have Ht := Lib.hid ht
      go_wp2_with fail
      refine wp_region_nw (by kernel_rfl) (by kernel_rfl) ?_
      repeat (go_big_quiet_step ((fail)))
      refine wpQuiet_nil ?_
      intro w8 u8
      replace u8 := later_out u8
      have st8 := Hst.out.nw u8
      have f6 := cells_frozen st8.blk 6
      have f7 := cells_frozen st8.blk 7
      obtain ⟨_, _, _, _, _, _, _, _⟩ := st8.cells
      clear y4 y5 y6 y7 x0 x1 x2 x3
      have H8 := Lib.hid st8
      clear st8
      go_wp2_with fail
      go_region
      all_goals go_wp2_with fail
      all_goals go_ret
      have st8 := H8.out
      have U : Upd (fun k => k = r.vb) w8 ((w8.drew.setCell ⟨r.vb, 6, none⟩ (.int .i64 (Vw.claimOf s).n)).setCell ⟨r.vb, 7, none⟩ (.int .i64 (Vw.claimOf s).time)) := Upd.set1 (Upd.set1 (Upd.refl _ _).drew hgV 6 _) hgV 7 _
      refine acc_done st8 u7' h hx.out U (fun k e => Or.inl e) ?_ ?_ ?_
      · rw [viewC, size_new ⟨K1c.out, Ht.out⟩]
        exact setCell_block (setCell_block (w := w8.drew) st8.blk 6 _) 7 _
      · rw [ent_same (by have := K1c.out; omega)]
        exact st8.emap.upd U (fun e => by
          obtain ⟨es, clock, e2, _⟩ := st8.emap
          rw [e, st8.blk] at e2; cases e2)
      · rw [abs_same (by have := K1c.out; omega)]
        exact st8.amap.upd U (fun e => by
          obtain ⟨es, clock, e2, _⟩ := st8.amap
          rw [e, st8.blk] at e2; cases e2)
    · have Ht : Hid (¬ (Vw.sizeOf L).2 < (Vw.claimOf s).time) := ht
      go_wp2_with fail
      refine wp_region_nw (by kernel_rfl) (by kernel_rfl) ?_
      repeat (go_big_quiet_step ((fail)))
      refine wpQuiet_nil ?_
      intro w8 u8
      replace u8 := later_out u8
      have st8 := Hst.out.nw u8
      go_wp2_with fail
      go_ret
      refine acc_done st8 u7' h hx.out (Upd.refl (fun _ => False) _) (fun k e => e.elim) ?_ ?_ ?_
      · rw [viewC, size_same (by have := Ht.out; omega)]; exact st8.blk
      · rw [ent_same (by have := K1c.out; omega)]; exact st8.emap
      · rw [abs_same (by have := K1c.out; omega)]; exact st8.amap
end Go.Proofs.YtagmlemlagbfkaaGreatDoor
