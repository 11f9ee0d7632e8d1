/- Layer 2 (disk) in plain words: what its calls make of files, pending sectors, lost syncs and the scheduled crash. No program stands in this text. -/
import Derived.Test.YtiambnllidingaaGreatDoorWireP
namespace Go.Proofs.YtiambnllidingaaGreatDoor.Dk
set_option linter.unusedVariables false
set_option linter.unusedSimpArgs false

/-- A file and its durable part. -/
structure Fil where
  now : List UInt8
  last : List UInt8
structure Disk where
  fs : Int → Fil
  q : List (Int × Int)
  lost : Int
  down : Bool
  armed : Int
  keep : List Int
def noFil : Fil := ⟨[], []⟩
def new : Disk := ⟨fun _ => noFil, [], 0, false, 0, []⟩
def setF (fs : Int → Fil) (f : Int) (x : Fil) : Int → Fil := fun g => if g = f then x else fs g
theorem setF_self (fs : Int → Fil) (f : Int) (x : Fil) : setF fs f x f = x := by simp [setF]
theorem setF_ne (fs : Int → Fil) {f g : Int} (x : Fil) (h : g ≠ f) : setF fs f x g = fs g := by simp [setF, h]
/-- To put bytes into a string at an offset. -/
def put (s : List UInt8) (i : Nat) (t : List UInt8) : List UInt8 :=
  if t = [] then s else s.take i ++ List.replicate (i - s.length) 0 ++ t ++ s.drop (i + t.length)
def may (D : Disk) (f : Int) : Int := if D.down = true then 8 else if f < 0 ∨ 16 ≤ f then 1 else 0
/-- The sectors of bytes, in ascending order. -/
def secs (i n : Nat) : List Int := (List.range ((i + n - 1) / 64 + 1 - i / 64)).map fun k => ((i / 64 + k : Nat) : Int)
def addS (q : List (Int × Int)) (p : Int × Int) : List (Int × Int) := if p ∈ q then q else q ++ [p]
def addQ (q : List (Int × Int)) (f : Int) (ns : List Int) : List (Int × Int) := ns.foldl (fun q n => addS q (f, n)) q
/-- A write that is possible. -/
def add (D : Disk) (f : Int) (i : Nat) (s : List UInt8) : Disk :=
  if s = [] then D else { D with fs := setF D.fs f ⟨put (D.fs f).now i s, (D.fs f).last⟩, q := addQ D.q f (secs i s.length) }
/-- What a write returns, if the file can be written. -/
def wErr (i : Int) (n : Nat) : Int := if i < 0 then 1 else if 16777216 < i ∨ 16777216 - i < n then 6 else 0
def write0 (D : Disk) (f i : Int) (s : List UInt8) : Disk × Int :=
  if may D f ≠ 0 then (D, may D f) else if wErr i s.length ≠ 0 then (D, wErr i s.length) else (add D f i.toNat s, 0)
def odd (keep : List Int) (i : Nat) : Bool := decide (keep ≠ []) && decide (keep.getD (i % keep.length) 0 % 2 = 1)
/-- What survives of the sector p, which is pending as number i. -/
def survive (keep : List Int) (fs : Int → Fil) (p : Int × Int) (i : Nat) : Int → Fil :=
  if odd keep i = true ∧ 64 * p.2.toNat < (fs p.1).now.length then setF fs p.1 ⟨(fs p.1).now, put (fs p.1).last (64 * p.2.toNat) (((fs p.1).now.drop (64 * p.2.toNat)).take 64)⟩ else fs
def survives (keep : List Int) : List (Int × Int) → Nat → (Int → Fil) → Int → Fil
  | [], _, fs => fs
  | p :: q, i, fs => survives keep q (i + 1) (survive keep fs p i)
def crash (D : Disk) (keep : List Int) : Disk :=
  if D.down = true then D else { D with fs := fun f => ⟨(survives keep D.q 0 D.fs f).last, (survives keep D.q 0 D.fs f).last⟩, q := [], down := true, armed := 0 }
/-- A call is counted: does the scheduled crash happen in it? -/
def ends (D : Disk) : Bool := !D.down && decide (D.armed = 1)
def counted (D : Disk) : Disk := if D.down = true ∨ D.armed = 0 then D else { D with armed := D.armed - 1 }
def write (D : Disk) (f i : Int) (s : List UInt8) : Disk × Int :=
  if ends D = true then (crash (write0 (counted D) f i s).1 (counted D).keep, 8) else write0 (counted D) f i s
def come (D : Disk) : Disk := if ends D = true then crash (counted D) D.keep else counted D
def settle (D : Disk) (f : Int) (s : List UInt8) : Disk := { D with fs := setF D.fs f ⟨s, s⟩, q := D.q.filter fun p => !decide (p.1 = f) }
def sync (D : Disk) (f : Int) : Disk × Int :=
  if may (come D) f ≠ 0 then (come D, may (come D) f)
  else if 0 < (come D).lost then ({ come D with lost := (come D).lost - 1 }, 9) else (settle (come D) f ((come D).fs f).now, 0)
def truncate (D : Disk) (f n : Int) : Disk × Int :=
  if may (come D) f ≠ 0 then (come D, may (come D) f)
  else if n < 0 ∨ ((((come D).fs f).now.length : Nat) : Int) < n then (come D, 1) else (settle (come D) f (((come D).fs f).now.take n.toNat), 0)
def read (D : Disk) (f i n : Int) : List UInt8 × Int :=
  if may D f ≠ 0 then ([], may D f) else if i < 0 ∨ n < 0 then ([], 1) else (((D.fs f).now.drop i.toNat).take n.toNat, 0)
def size (D : Disk) (f : Int) : Int := (D.fs f).now.length
def lose (D : Disk) (n : Int) : Disk := { D with lost := max n 0 }
def arm (D : Disk) (n : Int) (keep : List Int) : Disk := { D with armed := max n 0, keep := keep }
def start (D : Disk) : Disk := { D with down := false }

/-! ### What is true of every disk -/
/-- Files, durable parts and the list of pending sectors are bounded. -/
structure Ok (D : Disk) : Prop where
  now : ∀ f, (D.fs f).now.length ≤ 16777216
  last : ∀ f, (D.fs f).last.length ≤ 16777216
  q : ∀ p ∈ D.q, 0 ≤ p.1 ∧ p.1 < 16 ∧ 0 ≤ p.2 ∧ p.2 < 262144
  nd : D.q.Nodup
  lost : 0 ≤ D.lost ∧ D.lost ≤ 9223372036854775807
  armed : 0 ≤ D.armed ∧ D.armed ≤ 9223372036854775807
theorem new_ok : Ok new := by
  refine ⟨fun f => ?_, fun f => ?_, fun p hp => ?_, List.nodup_nil, ⟨by decide, by decide⟩, ⟨by decide, by decide⟩⟩
  · simp [new, noFil]
  · simp [new, noFil]
  · simp [new] at hp
theorem put_len (s : List UInt8) (i : Nat) (t : List UInt8) (h : t ≠ []) : (put s i t).length = max s.length (i + t.length) := by
  unfold put
  rw [if_neg h]
  simp only [List.length_append, List.length_take, List.length_replicate, List.length_drop]
  omega
theorem put_le {s : List UInt8} {i : Nat} {t : List UInt8} {n : Nat} (hs : s.length ≤ n) (ht : i + t.length ≤ n) : (put s i t).length ≤ n := by
  by_cases h : t = []
  · unfold put; rw [if_pos h]; exact hs
  · rw [put_len s i t h]; omega
/-- Each byte of a string into which bytes are put. -/
theorem put_get (s : List UInt8) (i : Nat) (t : List UInt8) (ht : t ≠ []) (k : Nat) :
    (put s i t)[k]? = if k < i then (if k < s.length then s[k]? else some 0) else if k < i + t.length then t[k - i]? else s[k]? := by
  unfold put
  rw [if_neg ht]
  by_cases h1 : k < i
  · rw [if_pos h1, List.append_assoc, List.append_assoc]
    by_cases h2 : k < s.length
    · rw [if_pos h2, List.getElem?_append_left (by rw [List.length_take]; omega), List.getElem?_take, if_pos h1]
    · rw [if_neg h2, List.getElem?_append_right (by rw [List.length_take]; omega), List.length_take, List.getElem?_append_left (by rw [List.length_replicate]; omega), List.getElem?_replicate, if_pos (by omega)]
  · rw [if_neg h1]
    have hl : (s.take i ++ List.replicate (i - s.length) (0 : UInt8)).length = i := by rw [List.length_append, List.length_take, List.length_replicate]; omega
    by_cases h2 : k < i + t.length
    · rw [if_pos h2, List.append_assoc, List.getElem?_append_right (by omega), hl, List.getElem?_append_left (by omega)]
    · rw [if_neg h2, List.getElem?_append_right (by rw [List.length_append, hl]; omega), List.length_append, hl, List.getElem?_drop]
      congr 1
      omega
/-- As many different pairs as there are places at most. -/
theorem nodup_le : ∀ (n : Nat) (l : List Nat), l.Nodup → (∀ x ∈ l, x < n) → l.length ≤ n := by
  intro n
  induction n with
  | zero =>
    intro l _ h
    cases l with
    | nil => simp
    | cons x l => exact absurd (h x (List.mem_cons_self ..)) (Nat.not_lt_zero _)
  | succ n ih =>
    intro l hd h
    have h1 := ih (l.erase n) (hd.erase n) (fun x hx => by
      have hne : x ≠ n := (hd.mem_erase_iff.1 hx).1
      have := h x (List.mem_of_mem_erase hx)
      omega)
    by_cases hm : n ∈ l
    · rw [List.length_erase_of_mem hm] at h1; omega
    · rw [List.erase_of_not_mem hm] at h1; omega
theorem Ok.q_len {D : Disk} (h : Ok D) : D.q.length ≤ 4194304 := by
  have := nodup_le 4194304 (D.q.map fun p => p.1.toNat * 262144 + p.2.toNat) (by
    refine List.pairwise_map.2 (List.Pairwise.imp_of_mem (fun {a b} ha hb hne => ?_) h.nd)
    intro e
    have h1 := h.q a ha
    have h2 := h.q b hb
    apply hne
    have e1 : a.1 = b.1 := by omega
    have e2 : a.2 = b.2 := by omega
    exact Prod.ext e1 e2) (fun x hx => by
    obtain ⟨p, hp, rfl⟩ := List.mem_map.1 hx
    have := h.q p hp
    omega)
  simpa using this
theorem mem_addS {q : List (Int × Int)} {p x : Int × Int} : x ∈ addS q p ↔ x ∈ q ∨ x = p := by
  unfold addS
  split
  · rename_i h
    constructor
    · exact Or.inl
    · rintro (h1 | rfl)
      · exact h1
      · exact h
  · simp
theorem addS_nodup {q : List (Int × Int)} {p : Int × Int} (h : q.Nodup) : (addS q p).Nodup := by
  unfold addS
  split
  · exact h
  · rename_i hn
    rw [List.nodup_append]
    exact ⟨h, by simp, fun a ha b hb e => by rw [List.mem_singleton] at hb; subst hb; subst e; exact hn ha⟩
theorem addQ_cons (q : List (Int × Int)) (f n : Int) (ns : List Int) : addQ q f (n :: ns) = addQ (addS q (f, n)) f ns := rfl
theorem mem_addQ {f : Int} {x : Int × Int} : ∀ {ns : List Int} {q : List (Int × Int)}, x ∈ addQ q f ns ↔ x ∈ q ∨ (x.1 = f ∧ x.2 ∈ ns) := by
  intro ns
  induction ns with
  | nil => intro q; simp [addQ]
  | cons n ns ih =>
    intro q
    rw [addQ_cons, ih, mem_addS]
    constructor
    · rintro ((h | rfl) | h)
      · exact Or.inl h
      · exact Or.inr ⟨rfl, List.mem_cons_self ..⟩
      · exact Or.inr ⟨h.1, List.mem_cons_of_mem _ h.2⟩
    · rintro (h | ⟨h1, h2⟩)
      · exact Or.inl (Or.inl h)
      · rcases List.mem_cons.1 h2 with h3 | h3
        · exact Or.inl (Or.inr (Prod.ext h1 h3))
        · exact Or.inr ⟨h1, h3⟩
theorem addQ_nodup {f : Int} : ∀ {ns : List Int} {q : List (Int × Int)}, q.Nodup → (addQ q f ns).Nodup := by
  intro ns
  induction ns with
  | nil => intro q h; exact h
  | cons n ns ih => intro q h; rw [addQ_cons]; exact ih (addS_nodup h)
theorem addQ_snoc (q : List (Int × Int)) (f : Int) (ns : List Int) (n : Int) : addQ q f (ns ++ [n]) = addS (addQ q f ns) (f, n) := by
  unfold addQ; rw [List.foldl_append]; rfl
theorem mem_secs {i n : Nat} {x : Int} : x ∈ secs i n ↔ ∃ k : Nat, x = k ∧ i / 64 ≤ k ∧ k ≤ (i + n - 1) / 64 := by
  unfold secs
  rw [List.mem_map]
  constructor
  · rintro ⟨k, hk, rfl⟩
    rw [List.mem_range] at hk
    exact ⟨_, rfl, by omega, by omega⟩
  · rintro ⟨k, rfl, h1, h2⟩
    exact ⟨k - i / 64, List.mem_range.2 (by omega), by omega⟩
theorem may_file {D : Disk} {f : Int} (h : may D f = 0) : D.down = false ∧ 0 ≤ f ∧ f < 16 := by
  unfold may at h
  split at h
  · cases h
  · rename_i hd
    split at h
    · cases h
    · exact ⟨by simpa using hd, by omega, by omega⟩
theorem wErr_ok {i : Int} {n : Nat} (h : wErr i n = 0) : 0 ≤ i ∧ i.toNat + n ≤ 16777216 := by
  unfold wErr at h
  split at h
  · cases h
  · split at h
    · cases h
    · exact ⟨by omega, by omega⟩
theorem add_ok {D : Disk} (h : Ok D) {f : Int} {i : Nat} {s : List UInt8} (hf : 0 ≤ f ∧ f < 16) (hi : i + s.length ≤ 16777216) : Ok (add D f i s) := by
  unfold add
  split
  · exact h
  · rename_i hs
    have hl : 0 < s.length := List.length_pos_iff.2 hs
    refine ⟨fun g => ?_, fun g => ?_, fun p hp => ?_, addQ_nodup h.nd, h.lost, h.armed⟩
    · dsimp only [setF]
      split
      · exact put_le (h.now f) hi
      · exact h.now g
    · dsimp only [setF]
      split
      · exact h.last f
      · exact h.last g
    · rcases mem_addQ.1 hp with hp | ⟨h1, h2⟩
      · exact h.q p hp
      · obtain ⟨k, e, h3, h4⟩ := mem_secs.1 h2
        rw [h1, e]
        exact ⟨hf.1, hf.2, by omega, by omega⟩
theorem write0_ok {D : Disk} (h : Ok D) (f i : Int) (s : List UInt8) : Ok (write0 D f i s).1 := by
  unfold write0
  split
  · exact h
  · rename_i h1
    split
    · exact h
    · rename_i h2
      have a := may_file (Decidable.not_not.1 h1)
      have b := wErr_ok (Decidable.not_not.1 h2)
      exact add_ok h a.2 b.2
theorem survive_now (keep : List Int) (fs : Int → Fil) (p : Int × Int) (i : Nat) (f : Int) : (survive keep fs p i f).now = (fs f).now := by
  unfold survive
  split
  · unfold setF
    split
    · rename_i e; subst e; rfl
    · rfl
  · rfl
theorem survives_now (keep : List Int) : ∀ (q : List (Int × Int)) (i : Nat) (fs : Int → Fil) (f : Int), (survives keep q i fs f).now = (fs f).now := by
  intro q
  induction q with
  | nil => intro i fs f; rfl
  | cons p q ih => intro i fs f; rw [survives, ih, survive_now]
theorem survive_last {keep : List Int} {fs : Int → Fil} {p : Int × Int} {i : Nat} {n : Nat} (h1 : ∀ f, (fs f).now.length ≤ n) (h2 : ∀ f, (fs f).last.length ≤ n) (f : Int) : (survive keep fs p i f).last.length ≤ n := by
  unfold survive
  split
  · rename_i hc
    unfold setF
    split
    · have := h1 p.1
      refine put_le (h2 p.1) ?_
      rw [List.length_take, List.length_drop]
      omega
    · exact h2 f
  · exact h2 f
theorem survives_last {keep : List Int} {n : Nat} : ∀ (q : List (Int × Int)) (i : Nat) (fs : Int → Fil), (∀ f, (fs f).now.length ≤ n) → (∀ f, (fs f).last.length ≤ n) → ∀ f, (survives keep q i fs f).last.length ≤ n := by
  intro q
  induction q with
  | nil => intro i fs h1 h2 f; exact h2 f
  | cons p q ih =>
    intro i fs h1 h2 f
    exact ih (i + 1) _ (fun g => by rw [survive_now]; exact h1 g) (fun g => survive_last h1 h2 g) f
theorem crash_ok {D : Disk} (h : Ok D) (keep : List Int) : Ok (crash D keep) := by
  unfold crash
  split
  · exact h
  · have := survives_last D.q 0 D.fs h.now h.last (keep := keep)
    refine ⟨fun f => this f, fun f => this f, fun p hp => ?_, List.nodup_nil, h.lost, ⟨Int.le_refl 0, by dsimp only; omega⟩⟩
    cases hp
theorem counted_ok {D : Disk} (h : Ok D) : Ok (counted D) := by
  unfold counted
  split
  · exact h
  · rename_i hc
    have := h.armed
    refine ⟨h.now, h.last, h.q, h.nd, h.lost, ?_⟩
    dsimp only
    have : D.armed ≠ 0 := fun e => hc (Or.inr e)
    omega
theorem write_ok {D : Disk} (h : Ok D) (f i : Int) (s : List UInt8) : Ok (write D f i s).1 := by
  unfold write
  split
  · exact crash_ok (write0_ok (counted_ok h) f i s) _
  · exact write0_ok (counted_ok h) f i s
theorem come_ok {D : Disk} (h : Ok D) : Ok (come D) := by
  unfold come
  split
  · exact crash_ok (counted_ok h) _
  · exact counted_ok h
theorem settle_ok {D : Disk} (h : Ok D) (f : Int) {s : List UInt8} (hs : s.length ≤ 16777216) : Ok (settle D f s) := by
  refine ⟨fun g => ?_, fun g => ?_, fun p hp => h.q p (List.mem_filter.1 hp).1, h.nd.filter _, h.lost, h.armed⟩
  · dsimp only [settle, setF]
    split
    · exact hs
    · exact h.now g
  · dsimp only [settle, setF]
    split
    · exact hs
    · exact h.last g
theorem sync_ok {D : Disk} (h : Ok D) (f : Int) : Ok (sync D f).1 := by
  have hc := come_ok h
  unfold sync
  split
  · exact hc
  · split
    · rename_i h0
      have := hc.lost
      exact ⟨hc.now, hc.last, hc.q, hc.nd, ⟨by dsimp only; omega, by dsimp only; omega⟩, hc.armed⟩
    · exact settle_ok hc f (hc.now f)
theorem truncate_ok {D : Disk} (h : Ok D) (f n : Int) : Ok (truncate D f n).1 := by
  have hc := come_ok h
  unfold truncate
  split
  · exact hc
  · split
    · exact hc
    · have := hc.now f
      exact settle_ok hc f (by rw [List.length_take]; omega)
theorem lose_ok {D : Disk} (h : Ok D) {n : Int} (hn : n ≤ 9223372036854775807) : Ok (lose D n) := ⟨h.now, h.last, h.q, h.nd, ⟨by dsimp only [lose]; omega, by dsimp only [lose]; omega⟩, h.armed⟩
theorem arm_ok {D : Disk} (h : Ok D) {n : Int} (hn : n ≤ 9223372036854775807) (keep : List Int) : Ok (arm D n keep) := ⟨h.now, h.last, h.q, h.nd, h.lost, ⟨by dsimp only [arm]; omega, by dsimp only [arm]; omega⟩⟩
theorem start_ok {D : Disk} (h : Ok D) : Ok (start D) := ⟨h.now, h.last, h.q, h.nd, h.lost, h.armed⟩
/-- A write that is possible, while its first k sectors have been noted. -/
def addK (D : Disk) (f : Int) (i : Nat) (s : List UInt8) (k : Nat) : Disk := { D with fs := setF D.fs f ⟨put (D.fs f).now i s, (D.fs f).last⟩, q := addQ D.q f ((secs i s.length).take k) }
theorem secs_len (i n : Nat) : (secs i n).length = (i + n - 1) / 64 + 1 - i / 64 := by simp [secs]
theorem secs_get {i n k : Nat} (h : k < (secs i n).length) : (secs i n)[k] = ((i / 64 + k : Nat) : Int) := by simp [secs]
theorem addK_all {D : Disk} {f : Int} {i : Nat} {s : List UInt8} (hs : s ≠ []) : addK D f i s (secs i s.length).length = add D f i s := by
  unfold addK add
  rw [if_neg hs, List.take_length]
theorem addK_succ {D : Disk} {f : Int} {i : Nat} {s : List UInt8} {k : Nat} (h : k < (secs i s.length).length) : addK D f i s (k + 1) = { addK D f i s k with q := addS (addK D f i s k).q (f, ((i / 64 + k : Nat) : Int)) } := by
  unfold addK
  dsimp only
  rw [List.take_succ_eq_append_getElem h, addQ_snoc, secs_get h]
theorem addK_ok {D : Disk} (h : Ok D) {f : Int} {i : Nat} {s : List UInt8} (hs : s ≠ []) (hf : 0 ≤ f ∧ f < 16) (hi : i + s.length ≤ 16777216) (k : Nat) : Ok (addK D f i s k) := by
  have ha := add_ok h hf hi
  unfold add at ha
  rw [if_neg hs] at ha
  refine ⟨ha.now, ha.last, fun p hp => ?_, addQ_nodup h.nd, h.lost, h.armed⟩
  rcases mem_addQ.1 hp with hp | ⟨h1, h2⟩
  · exact h.q p hp
  · exact ha.q p (mem_addQ.2 (Or.inr ⟨h1, List.mem_of_mem_take h2⟩))
theorem addS_in {q : List (Int × Int)} {p : Int × Int} (h : p ∈ q) : addS q p = q := if_pos h
theorem addS_out {q : List (Int × Int)} {p : Int × Int} (h : p ∉ q) : addS q p = q ++ [p] := if_neg h
theorem survives_append (keep : List Int) : ∀ (a b : List (Int × Int)) (i : Nat) (fs : Int → Fil), survives keep (a ++ b) i fs = survives keep b (i + a.length) (survives keep a i fs) := by
  intro a
  induction a with
  | nil => intro b i fs; rfl
  | cons p a ih =>
    intro b i fs
    rw [List.cons_append, survives, ih, survives, List.length_cons]
    congr 1
    omega
/-- A crash, while the first k pending sectors have been looked at. -/
def crashK (D : Disk) (keep : List Int) (k : Nat) : Disk := { D with fs := survives keep (D.q.take k) 0 D.fs, down := true, armed := 0 }
theorem crashK_ok {D : Disk} (h : Ok D) (keep : List Int) (k : Nat) : Ok (crashK D keep k) :=
  ⟨fun f => by unfold crashK; dsimp only; rw [survives_now]; exact h.now f, fun f => survives_last _ _ _ h.now h.last f, h.q, h.nd, h.lost, ⟨Int.le_refl 0, by show (0 : Int) ≤ _; omega⟩⟩
theorem crashK_succ {D : Disk} {keep : List Int} {k : Nat} (h : k < D.q.length) : (crashK D keep (k + 1)).fs = survive keep (crashK D keep k).fs D.q[k] k := by
  unfold crashK
  dsimp only
  rw [List.take_succ_eq_append_getElem h, survives_append]
  simp only [survives, Nat.zero_add, List.length_take]
  rw [Nat.min_eq_left (Nat.le_of_lt h)]
theorem crash_eq {D : Disk} (h : D.down = false) (keep : List Int) : crash D keep = { D with fs := fun f => ⟨((crashK D keep D.q.length).fs f).last, ((crashK D keep D.q.length).fs f).last⟩, q := [], down := true, armed := 0 } := by
  unfold crash crashK
  rw [h, if_neg (by decide), List.take_length]
theorem odd_not {keep : List Int} {i : Nat} {fs : Int → Fil} {p : Int × Int} (h : odd keep i = false) : survive keep fs p i = fs := by
  unfold survive; rw [if_neg (by rw [h]; simp)]
theorem far_not {keep : List Int} {i : Nat} {fs : Int → Fil} {p : Int × Int} (h : (fs p.1).now.length ≤ 64 * p.2.toNat) : survive keep fs p i = fs := by
  unfold survive; rw [if_neg (by omega)]
theorem survive_yes {keep : List Int} {i : Nat} {fs : Int → Fil} {p : Int × Int} (h : odd keep i = true) (hl : 64 * p.2.toNat < (fs p.1).now.length) :
    survive keep fs p i = setF fs p.1 ⟨(fs p.1).now, put (fs p.1).last (64 * p.2.toNat) (((fs p.1).now.drop (64 * p.2.toNat)).take 64)⟩ := by
  unfold survive; rw [if_pos ⟨h, hl⟩]
end Go.Proofs.YtiambnllidingaaGreatDoor.Dk
