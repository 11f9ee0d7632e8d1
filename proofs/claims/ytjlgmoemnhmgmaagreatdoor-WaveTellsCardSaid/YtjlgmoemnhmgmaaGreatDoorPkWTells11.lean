/- Maps in memory that are stored into and deleted from, also while they are ranged over: what is in them is said by membership alone. -/
import Derived.Test.YtjlgmoemnhmgmaaGreatDoorPkWTells2
namespace Go.Proofs.YtjlgmoemnhmgmaaGreatDoor
open Go.RowKit Go.MapKept
open Go.Maps (Keyed)
open Go.ChangeMaps (setBlock)
set_option linter.unusedVariables false
set_option linter.unusedSimpArgs false

section
variable {P : Program} {k : TypeId} {w : World} {b r : Nat} {l : List (Value × Value)}
/-- The entries' list that a store leaves. -/
theorem store_raw {t e : TypeId} {es : Array MapEntry} {clock : Nat} (K : Keyed P k) (ht : P.underlying t = some (.map k e)) (hb : w.heap[b]? = some (.map es clock)) (hs : Stamped es clock) (hk : ∀ x ∈ es.toList, ∃ l, keyOf P k x.key = some l) {key : Value} {kl : Lit} (hkey : keyOf P k key = some kl) (val : Value) :
    ∃ es' clock', (Instr.mapUpdate t (.map (some b)) key val).run P w = .ok () { w with heap := w.heap.setIfInBounds b (.map es' clock') } ∧ Stamped es' clock' ∧ clock ≤ clock' ∧
      (∀ p, p ∈ es'.toList.map kv ↔ (p ∈ es.toList.map kv ∧ p.1 ≠ key) ∨ p = (key, val)) ∧
      ((∃ x ∈ es.toList, x.key = key) → clock' = clock ∧ (∀ x' ∈ es'.toList, ∃ x ∈ es.toList, x.born = x'.born ∧ x.key = x'.key) ∧ es'.toList.map (·.born) = es.toList.map (·.born)) := by
  have hst := (stamped_iff es clock).1 hs
  rcases K.find w hkey es.toList hk with ⟨h1, h2⟩ | ⟨j, e0, h1, h2, h3⟩
  · refine ⟨es.push ⟨key, val, clock⟩, clock + 1, ?_, stamped_push hs h2, by omega, fun p => ?_, fun ⟨x, hx, e⟩ => absurd e (h2 x hx)⟩
    · simp [Instr.mapUpdate, run_underlying ht, MapKept.run_getObj_map hb, K.check w false hkey, h1, MapKept.run_setObj_map _ hb, Result.andThen]
    · rw [Array.toList_push, List.map_append, List.mem_append]
      constructor
      · rintro (h | h)
        · obtain ⟨x, hx, rfl⟩ := List.mem_map.1 h
          exact Or.inl ⟨h, h2 x hx⟩
        · exact Or.inr (by simpa [kv] using h)
      · rintro (h | h)
        · exact Or.inl h.1
        · exact Or.inr (by simp [kv, h])
  · have hj : es[j]? = some e0 := by simpa using h2
    have hjl : j < es.toList.length := (List.getElem?_eq_some_iff.1 h2).1
    have hje : es.toList[j] = e0 := (List.getElem?_eq_some_iff.1 h2).2
    have hlist : (es.modify j (fun e' => { e' with key := key, val := val })).toList = es.toList.set j { e0 with key := key, val := val } := by rw [Array.toList_modify, Go.ChangeMaps.modify_eq_set _ _ _ _ h2]
    have hoth : ∀ i x, es.toList[i]? = some x → i ≠ j → x.key ≠ key := fun i x hi hne e => by
      have hx := List.mem_of_getElem? hi
      have h0 := List.mem_of_getElem? h2
      have := entry_eq_of_key hst.2.2 hx h0 (by rw [e, h3])
      subst this
      have hnd := stamp_nodup hst.2.1
      have hil := (List.getElem?_eq_some_iff.1 hi).1
      have hie := (List.getElem?_eq_some_iff.1 hi).2
      exact hne ((List.getElem_inj hnd).1 (hie.trans hje.symm))
    refine ⟨es.modify j (fun e' => { e' with key := key, val := val }), clock, ?_, stamped_modify hs j _ (fun _ _ => rfl) (fun e he he' => ?_), Nat.le_refl _, fun p => ?_, fun _ => ⟨rfl, fun x' hx' => ?_, ?_⟩⟩
    · simp [Instr.mapUpdate, run_underlying ht, MapKept.run_getObj_map hb, K.check w false hkey, h1, hj, h3, K.stays w hkey, MapKept.run_setObj_map _ hb, Result.andThen]
    · rw [hj] at he'
      cases he'
      exact h3.symm
    · rw [hlist]
      constructor
      · intro h
        obtain ⟨x, hx, rfl⟩ := List.mem_map.1 h
        obtain ⟨i, hi, ex⟩ := List.getElem_of_mem hx
        rw [List.getElem_set] at ex
        split at ex
        · exact Or.inr (by rw [← ex]; rfl)
        · rename_i hne
          have hi' : i < es.toList.length := by simpa using hi
          have hx2 : es.toList[i]? = some x := by rw [List.getElem?_eq_getElem hi', ex]
          exact Or.inl ⟨List.mem_map.2 ⟨x, List.mem_of_getElem? hx2, rfl⟩, hoth i x hx2 (fun e => hne e.symm)⟩
      · rintro (⟨h, hne⟩ | rfl)
        · obtain ⟨x, hx, rfl⟩ := List.mem_map.1 h
          obtain ⟨i, hi, ex⟩ := List.getElem_of_mem hx
          refine List.mem_map.2 ⟨x, List.mem_iff_getElem.2 ⟨i, by simpa using hi, ?_⟩, rfl⟩
          rw [List.getElem_set_ne, ex]
          rintro rfl
          rw [hje] at ex
          subst ex
          exact hne h3
        · exact List.mem_map.2 ⟨{ e0 with key := key, val := val }, List.mem_iff_getElem.2 ⟨j, by simpa using hjl, by simp⟩, rfl⟩
    · rw [hlist] at hx'
      obtain ⟨i, hi, ex⟩ := List.getElem_of_mem hx'
      rw [List.getElem_set] at ex
      split at ex
      · exact ⟨e0, List.mem_of_getElem? h2, by rw [← ex], by rw [← ex]; exact h3⟩
      · have hi' : i < es.toList.length := by simpa using hi
        exact ⟨x', by rw [← ex]; exact List.getElem_mem hi', rfl, rfl⟩
    · rw [hlist, List.map_set]
      refine List.ext_getElem? (fun i => ?_)
      rw [List.getElem?_set]
      split
      · rename_i e
        subst e
        split
        · rw [List.getElem?_map, h2]; rfl
        · rename_i hn; exact absurd (by simpa using hjl) hn
      · rfl
theorem MapL.uniq (h : MapL P k w b l) {p q : Value × Value} (hp : p ∈ l) (hq : q ∈ l) (e : p.1 = q.1) : p = q := by
  obtain ⟨es, clock, hb, h1, h2, h3⟩ := h
  have hst := (stamped_iff es clock).1 h3
  obtain ⟨x, hx, rfl⟩ := List.mem_map.1 (h1.mem_iff.2 hp)
  obtain ⟨y, hy, rfl⟩ := List.mem_map.1 (h1.mem_iff.2 hq)
  rw [entry_eq_of_key hst.2.2 hx hy e]
/-- 'm[k] = v', the key there or not. -/
theorem MapL.put {t e : TypeId} (h : MapL P k w b l) (K : Keyed P k) (ht : P.underlying t = some (.map k e)) (hg : nG ≤ b) {key : Value} {kl : Lit} (hkey : keyOf P k key = some kl) (val : Value) :
    ∃ w' l', (Instr.mapUpdate t (.map (some b)) key val).run P w = .ok () w' ∧ MapL P k w' b l' ∧ (∀ p, p ∈ l' ↔ (p ∈ l ∧ p.1 ≠ key) ∨ p = (key, val)) ∧ Upd (· = b) w w' := by
  obtain ⟨es, clock, hb, hpm, hk, hs⟩ := h
  have hpm' : (es.toList.map kv).Perm l := hpm
  obtain ⟨es', clock', hrun, hs', _, hm, _⟩ := store_raw K ht hb hs (fun x hx => hk (x.key, x.val) (hpm.mem_iff.1 (List.mem_map.2 ⟨x, hx, rfl⟩))) hkey val
  refine ⟨_, es'.toList.map kv, hrun, ⟨es', clock', by simp [Array.getElem?_setIfInBounds, lt_of_block hb], List.Perm.refl _, fun p hp => ?_, hs'⟩, fun p => by rw [hm, hpm'.mem_iff], Upd.setBlock hg _⟩
  rcases (hm p).1 hp with ⟨h1, _⟩ | rfl
  · exact hk p (hpm'.mem_iff.1 h1)
  · exact ⟨kl, hkey⟩

/-- Block b is a map with the entries l; r is an iterator over it; whatever it has handed out is done. -/
def RangeS (P : Program) (k : TypeId) (w : World) (b r : Nat) (l : List (Value × Value)) (done : Value → Prop) : Prop :=
  ∃ es clock since seen c0, w.heap[b]? = some (.map es clock) ∧ (es.toList.map kv).Perm l ∧ (∀ p ∈ l, ∃ x, keyOf P k p.1 = some x) ∧ Stamped es clock ∧
    w.heap[r]? = some (.mapIter (some b) since seen c0) ∧ (∀ x ∈ es.toList, x.born < since) ∧ since ≤ c0 ∧ since ≤ clock ∧ ∀ x ∈ es.toList, x.born ∈ seen.toList → done x.key
variable {done : Value → Prop}
theorem RangeS.lt (h : RangeS P k w b r l done) : b < w.heap.size ∧ r < w.heap.size ∧ r ≠ b := by
  obtain ⟨es, clock, since, seen, c0, h1, h2, h3, h4, h5, h6⟩ := h
  refine ⟨lt_of_block h1, lt_of_block h5, fun e => ?_⟩
  rw [e, h1] at h5
  cases h5
theorem RangeS.map (h : RangeS P k w b r l done) : MapL P k w b l := by
  obtain ⟨es, clock, since, seen, c0, h1, h2, h3, h4, h5, h6⟩ := h
  exact ⟨es, clock, h1, h2, h3, h4⟩
theorem RangeS.upd {S : Nat → Prop} {w' : World} (h : RangeS P k w b r l done) (u : Upd S w w') (hb : ¬ S b) (hr : ¬ S r) : RangeS P k w' b r l done ∧ w'.rangeLeft b r = w.rangeLeft b r := by
  obtain ⟨es, clock, since, seen, c0, h1, h2, h3, h4, h5, h6⟩ := h
  refine ⟨⟨es, clock, since, seen, c0, u.keep h1 hb, h2, h3, h4, u.keep h5 hr, h6⟩, ?_⟩
  unfold World.rangeLeft
  rw [u.keep h1 hb, h1, u.keep h5 hr, h5]
theorem RangeS.mono {done' : Value → Prop} (h : RangeS P k w b r l done) (hd : ∀ x, done x → done' x) : RangeS P k w b r l done' := by
  obtain ⟨es, clock, since, seen, c0, h1, h2, h3, h4, h5, h6, h7, h8, h9⟩ := h
  exact ⟨es, clock, since, seen, c0, h1, h2, h3, h4, h5, h6, h7, h8, fun x hx hs => hd _ (h9 x hx hs)⟩
/-- THE STEP: all is done; or an entry comes. -/
theorem RangeS.next (h : RangeS P k w b r l done) (hg : nG ≤ r) (ty : TypeId) :
    ((∀ p ∈ l, done p.1) ∧ (Instr.next (.pointer (some ⟨r, 0, none⟩)) false ty).run P w = .ok (.tuple #[.bool false]) w) ∨
    ∃ p, p ∈ l ∧ ∃ w', (Instr.next (.pointer (some ⟨r, 0, none⟩)) false ty).run P w = .ok (.tuple #[.bool true, p.1, p.2]) w' ∧ RangeS P k w' b r l (fun x => done x ∨ x = p.1) ∧ Upd (· = r) w w' ∧
      w'.rangeLeft b r < w.rangeLeft b r ∧ (Instr.entry (.pointer (some ⟨r, 0, none⟩))).run P w' = .ok (.tuple #[p.1, p.2]) w' := by
  have hne := h.lt.2.2
  have hrlt := h.lt.2.1
  obtain ⟨es, clock, since, seen, c0, h1, h2, h3, h4, h5, h6, h7, h8, h9⟩ := h
  have hst := (stamped_iff es clock).1 h4
  rcases run_next_at (P := P) w ty r b since c0 seen es clock h5 h1 h6 h7 with ⟨h0, hrun⟩ | ⟨e, he, w1, hal, hrun⟩
  · refine Or.inl ⟨fun p hp => ?_, hrun⟩
    obtain ⟨x, hx, rfl⟩ := List.mem_map.1 (h2.mem_iff.2 hp)
    have hs := all_seen es seen h0 x hx
    exact h9 x hx (by simpa using hs)
  · obtain ⟨hem, hes⟩ := mem_left he
    have hr1 : w1.heap[r]? = some (.mapIter (some b) since seen c0) := by rcases hal with rfl | rfl <;> exact h5
    have hb1 : w1.heap[b]? = some (.map es clock) := by rcases hal with rfl | rfl <;> exact h1
    have hset := heap_set (o' := .mapIter (some b) since (seen.push e.born) clock) hr1
    have hb' : (setBlock w1 r (.mapIter (some b) since (seen.push e.born) clock)).heap[b]? = some (.map es clock) := (hset.2 b (fun e1 => hne e1.symm)).trans hb1
    refine Or.inr ⟨kv e, h2.mem_iff.1 (List.mem_map.2 ⟨e, hem, rfl⟩), _, hrun, ⟨es, clock, since, seen.push e.born, clock, hb', h2, h3, h4, hset.1, h6, h8, h8, fun x hx hs => ?_⟩, ?_, ?_, run_entry_at _ r b since seen es clock e hset.1 hb' hem hst.2.1⟩
    · rw [Array.toList_push, List.mem_append, List.mem_singleton] at hs
      rcases hs with hs | hs
      · exact Or.inl (h9 x hx hs)
      · rw [born_inj hst.2.1 hx hem hs]; exact Or.inr rfl
    · rcases hal with rfl | rfl <;> exact ⟨rfl, rfl, rfl, by simp [setBlock], fun i _ hi => hset.2 i (fun e1 => by subst e1; rcases hi with hi | hi; omega; exact hi rfl)⟩
    · unfold World.rangeLeft
      have hr' : (setBlock w1 r (.mapIter (some b) since (seen.push e.born) clock)).heap[r]? = some (.mapIter (some b) since (seen.push e.born) clock) := hset.1
      rw [hb', hr', h1, h5]
      exact left_shrinks es seen e he
/-- 'm[k] = v' in the round, the key there. -/
theorem RangeS.put {t e : TypeId} (h : RangeS P k w b r l done) (K : Keyed P k) (ht : P.underlying t = some (.map k e)) (hg : nG ≤ b) {key v : Value} (hin : (key, v) ∈ l) {kl : Lit} (hkey : keyOf P k key = some kl) (val : Value) :
    ∃ w' l', (Instr.mapUpdate t (.map (some b)) key val).run P w = .ok () w' ∧ RangeS P k w' b r l' done ∧ (∀ p, p ∈ l' ↔ (p ∈ l ∧ p.1 ≠ key) ∨ p = (key, val)) ∧ Upd (· = b) w w' ∧ w'.rangeLeft b r = w.rangeLeft b r := by
  have hne := h.lt.2.2
  obtain ⟨es, clock, since, seen, c0, h1, h2, h3, h4, h5, h6, h7, h8, h9⟩ := h
  obtain ⟨x0, hx0, e0⟩ := List.mem_map.1 (h2.mem_iff.2 hin)
  obtain ⟨es', clock', hrun, hs', _, hm, hold⟩ := store_raw K ht h1 h4 (fun x hx => h3 (kv x) (h2.mem_iff.1 (List.mem_map.2 ⟨x, hx, rfl⟩))) hkey val
  obtain ⟨rfl, hb1, hb2⟩ := hold ⟨x0, hx0, (Prod.mk.inj e0).1⟩
  have hset : ∀ o, ({ w with heap := w.heap.setIfInBounds b o } : World).heap[r]? = w.heap[r]? := fun o => by
    simp only [Array.getElem?_setIfInBounds]
    rw [if_neg (fun e => hne e.symm)]
  refine ⟨_, es'.toList.map kv, hrun, ⟨es', clock', since, seen, c0, by simp [Array.getElem?_setIfInBounds, lt_of_block h1], List.Perm.refl _, fun p hp => ?_, hs', by rw [hset]; exact h5, fun x hx => ?_, h7, h8, fun x hx hs => ?_⟩, fun p => by rw [hm, h2.mem_iff], Upd.setBlock hg _, ?_⟩
  · rcases (hm p).1 hp with ⟨q1, _⟩ | rfl
    · exact h3 p (h2.mem_iff.1 q1)
    · exact ⟨kl, hkey⟩
  · obtain ⟨y, hy, e1, e2⟩ := hb1 x hx
    rw [← e1]; exact h6 y hy
  · obtain ⟨y, hy, e1, e2⟩ := hb1 x hx
    rw [← e2]; exact h9 y hy (by rw [e1]; exact hs)
  · unfold World.rangeLeft
    rw [hset, h5, h1]
    have e1 : ({ w with heap := w.heap.setIfInBounds b (.map es' clock') } : World).heap[b]? = some (.map es' clock') := by simp [Array.getElem?_setIfInBounds, lt_of_block h1]
    rw [e1]
    dsimp only
    have e2 : ∀ a : Array MapEntry, (leftOf a seen).size = ((a.toList.map (·.born)).filter fun n => !seen.contains n).length := fun a => by
      unfold leftOf
      rw [← Array.length_toList, Array.toList_filter, List.filter_map, List.length_map]
      rfl
    rw [e2, e2, hb2]
/-- 'delete(m, k)' in the round. -/
theorem RangeS.drop {t e ty : TypeId} (h : RangeS P k w b r l done) (K : Keyed P k) (ht : P.underlying t = some (.map k e)) (hg : nG ≤ b) {key : Value} {kl : Lit} (hkey : keyOf P k key = some kl) :
    ∃ w' l', (Builtin.delete_ #[t, k] ty #[.map (some b), key]).run P w = .ok (.tuple #[]) w' ∧ RangeS P k w' b r l' done ∧ (∀ p, p ∈ l' ↔ p ∈ l ∧ p.1 ≠ key) ∧ Upd (· = b) w w' ∧ w'.rangeLeft b r ≤ w.rangeLeft b r := by
  have hne := h.lt.2.2
  obtain ⟨es, clock, since, seen, c0, h1, h2, h3, h4, h5, h6, h7, h8, h9⟩ := h
  have hst := (stamped_iff es clock).1 h4
  have hset : ∀ o, ({ w with heap := w.heap.setIfInBounds b o } : World).heap[r]? = w.heap[r]? := fun o => by
    simp only [Array.getElem?_setIfInBounds]
    rw [if_neg (fun e => hne e.symm)]
  have hcl : ∀ (es' : Array MapEntry), (Builtin.delete_ #[t, k] ty #[.map (some b), key]).run P w = .ok (.tuple #[]) { w with heap := w.heap.setIfInBounds b (.map es' clock) } → Stamped es' clock → es'.toList.Sublist es.toList → (∀ x, x ∈ es'.toList ↔ x ∈ es.toList ∧ x.key ≠ key) →
      ∃ w' l', (Builtin.delete_ #[t, k] ty #[.map (some b), key]).run P w = .ok (.tuple #[]) w' ∧ RangeS P k w' b r l' done ∧ (∀ p, p ∈ l' ↔ p ∈ l ∧ p.1 ≠ key) ∧ Upd (· = b) w w' ∧ w'.rangeLeft b r ≤ w.rangeLeft b r := fun es' hrun hs' hsub hmem => by
    have hmm : ∀ p, p ∈ es'.toList.map kv ↔ p ∈ l ∧ p.1 ≠ key := fun p => by
      rw [← h2.mem_iff]
      constructor
      · intro hp
        obtain ⟨x, hx, rfl⟩ := List.mem_map.1 hp
        obtain ⟨q1, q2⟩ := (hmem x).1 hx
        exact ⟨List.mem_map.2 ⟨x, q1, rfl⟩, q2⟩
      · rintro ⟨hp, hk⟩
        obtain ⟨x, hx, rfl⟩ := List.mem_map.1 hp
        exact List.mem_map.2 ⟨x, (hmem x).2 ⟨hx, hk⟩, rfl⟩
    refine ⟨_, es'.toList.map kv, hrun, ⟨es', clock, since, seen, c0, by simp [Array.getElem?_setIfInBounds, lt_of_block h1], List.Perm.refl _, fun p hp => h3 p ((hmm p).1 hp).1, hs', by rw [hset]; exact h5, fun x hx => h6 x ((hmem x).1 hx).1, h7, h8, fun x hx hs => h9 x ((hmem x).1 hx).1 hs⟩, hmm, Upd.setBlock hg _, ?_⟩
    unfold World.rangeLeft
    rw [hset, h5, h1]
    have e1 : ({ w with heap := w.heap.setIfInBounds b (.map es' clock) } : World).heap[b]? = some (.map es' clock) := by simp [Array.getElem?_setIfInBounds, lt_of_block h1]
    rw [e1]
    dsimp only
    have e2 : ∀ a : Array MapEntry, (leftOf a seen).size = (a.toList.filter fun e => !seen.contains e.born).length := fun a => by
      unfold leftOf
      rw [← Array.toList_filter, Array.length_toList]
    rw [e2, e2]
    exact (hsub.filter _).length_le
  rcases K.find w hkey es.toList (fun x hx => h3 (kv x) (h2.mem_iff.1 (List.mem_map.2 ⟨x, hx, rfl⟩))) with ⟨q1, q2⟩ | ⟨j, e0, q1, q2, q3⟩
  · refine hcl es ?_ h4 (List.Sublist.refl _) (fun x => ⟨fun hx => ⟨hx, q2 x hx⟩, fun hx => hx.1⟩)
    simp [Builtin.delete_, run_underlying ht, MapKept.run_getObj_map h1, K.check w _ hkey, q1, MapKept.run_setObj_map _ h1, Result.andThen]
  · have hjl : j < es.toList.length := (List.getElem?_eq_some_iff.1 q2).1
    have hjs : j < es.size := by simpa using hjl
    have hsub : (es.eraseIdxIfInBounds j).toList = es.toList.eraseIdx j := by
      unfold Array.eraseIdxIfInBounds
      rw [dif_pos hjs]
      simp
    refine hcl (es.eraseIdxIfInBounds j) ?_ (stamped_erase h4 j) (by rw [hsub]; exact List.eraseIdx_sublist _ _) (fun x => ?_)
    · simp [Builtin.delete_, run_underlying ht, MapKept.run_getObj_map h1, K.check w _ hkey, q1, MapKept.run_setObj_map _ h1, Result.andThen]
    · rw [hsub, List.mem_eraseIdx_iff_getElem?]
      constructor
      · rintro ⟨i, hne2, hi⟩
        refine ⟨List.mem_of_getElem? hi, fun e => hne2 ?_⟩
        have := entry_eq_of_key hst.2.2 (List.mem_of_getElem? hi) (List.mem_of_getElem? q2) (by rw [e, q3])
        subst this
        have hil := (List.getElem?_eq_some_iff.1 hi).1
        have hie := (List.getElem?_eq_some_iff.1 hi).2
        exact (List.getElem_inj (stamp_nodup hst.2.1)).1 (hie.trans (List.getElem?_eq_some_iff.1 q2).2.symm)
      · rintro ⟨hx, hne2⟩
        obtain ⟨i, hi⟩ := List.getElem?_of_mem hx
        refine ⟨i, fun e1 => hne2 ?_, hi⟩
        rw [e1, q2] at hi
        cases hi
        exact q3
end
end Go.Proofs.YtjlgmoemnhmgmaaGreatDoor
