/- Rounds of peers: the plain law. -/
namespace Go.Proofs.Ytdlbjllgdikadab

structure St where
  due : Nat
  fails : Nat
  busy : Bool
  since : Nat

def St.none : St := ⟨0, 0, false, 0⟩

structure Rd where
  n : Nat
  self : Nat
  last : Nat
  now : Nat
  by_ : Nat → St

def updS (f : Nat → St) (i : Nat) (s : St) : Nat → St := fun k => if k = i then s else f k
theorem updS_same (f : Nat → St) (i : Nat) (s : St) : updS f i s i = s := if_pos rfl
theorem updS_other (f : Nat → St) (i k : Nat) (s : St) (h : k ≠ i) : updS f i s k = f k := if_neg h

def newR (n self : Nat) : Rd := ⟨n, self, self, 0, fun _ => St.none⟩

/-- What a round's numbers are at most. -/
structure RdOk (c : Nat) (d : Rd) : Prop where
  n2 : 2 ≤ d.n
  n16 : d.n ≤ 16
  self : d.self < d.n
  last : d.last < d.n
  now : d.now ≤ c
  due : ∀ i, (d.by_ i).due ≤ c + 64
  fails : ∀ i, (d.by_ i).fails ≤ c
  since : ∀ i, (d.by_ i).since ≤ d.now
  out : ∀ i, d.n ≤ i → d.by_ i = St.none

theorem RdOk.mono {c c' : Nat} {d : Rd} (h : RdOk c d) (hc : c ≤ c') : RdOk c' d :=
  ⟨h.n2, h.n16, h.self, h.last, Nat.le_trans h.now hc, fun i => Nat.le_trans (h.due i) (by omega), fun i => Nat.le_trans (h.fails i) hc, h.since, h.out⟩

theorem RdOk.new {n self : Nat} (h2 : 2 ≤ n) (h16 : n ≤ 16) (hs : self < n) : RdOk 0 (newR n self) :=
  ⟨h2, h16, hs, hs, Nat.le_refl _, fun _ => Nat.zero_le _, fun _ => Nat.le_refl _, fun _ => Nat.le_refl _, fun _ _ => rfl⟩

def isP (d : Rd) (i : Int) : Bool := decide (0 ≤ i) && (decide (i < (d.n : Int)) && decide (i ≠ (d.self : Int)))
theorem isP_iff (d : Rd) (i : Int) : isP d i = true ↔ 0 ≤ i ∧ i < (d.n : Int) ∧ i ≠ (d.self : Int) := by
  simp [isP]
theorem isP_in {d : Rd} {i : Int} (h : isP d i = true) : ∃ k : Nat, i = (k : Int) ∧ k < d.n ∧ k ≠ d.self := by
  rw [isP_iff] at h
  exact ⟨i.toNat, by omega, by omega, by omega⟩

def backOf (f : Nat) : Nat := min 64 (2 ^ min f 10)
theorem backOf_le (f : Nat) : backOf f ≤ 64 := Nat.min_le_left _ _

def ended (now : Nat) (s : St) (good : Bool) : St := if good = true then ⟨now + 4, 0, false, 0⟩ else ⟨now + backOf (s.fails + 1), s.fails + 1, false, 0⟩

def endD (d : Rd) (i : Nat) (good : Bool) : Rd := { d with by_ := updS d.by_ i (ended d.now (d.by_ i) good) }

theorem RdOk.set {c : Nat} {d : Rd} (h : RdOk c d) (i : Nat) (hi : i < d.n) (s : St) (h1 : s.due ≤ c + 64) (h2 : s.fails ≤ c) (h3 : s.since ≤ d.now) : RdOk c { d with by_ := updS d.by_ i s } := by
  refine ⟨h.n2, h.n16, h.self, h.last, h.now, fun k => ?_, fun k => ?_, fun k => ?_, fun k hk => ?_⟩
  · show (updS d.by_ i s k).due ≤ _
    unfold updS; split
    · exact h1
    · exact h.due k
  · show (updS d.by_ i s k).fails ≤ _
    unfold updS; split
    · exact h2
    · exact h.fails k
  · show (updS d.by_ i s k).since ≤ _
    unfold updS; split
    · exact h3
    · exact h.since k
  · show updS d.by_ i s k = _
    rw [updS_other _ _ _ _ (by show k ≠ i; have : d.n ≤ k := hk; omega)]
    exact h.out k hk

theorem ended_ok {c now : Nat} {s : St} (good : Bool) (hn : now ≤ c) (hf : s.fails ≤ c) : (ended now s good).due ≤ c + 1 + 64 ∧ (ended now s good).fails ≤ c + 1 ∧ (ended now s good).since ≤ now := by
  have := backOf_le (s.fails + 1)
  unfold ended
  split
  · exact ⟨by show now + 4 ≤ _; omega, Nat.zero_le _, Nat.zero_le _⟩
  · exact ⟨by show now + backOf (s.fails + 1) ≤ _; omega, by show s.fails + 1 ≤ _; omega, Nat.zero_le _⟩

theorem RdOk.ended {c : Nat} {d : Rd} (h : RdOk c d) (i : Nat) (hi : i < d.n) (good : Bool) : RdOk (c + 1) (endD d i good) :=
  have k := ended_ok (s := d.by_ i) good h.now (h.fails i)
  (h.mono (Nat.le_succ c)).set i hi _ k.1 k.2.1 k.2.2

/-- A turn that nobody ends. -/
def late (now : Nat) (s : St) : Bool := s.busy && decide (s.since + 16 ≤ now)
def tickD (d : Rd) : Rd := { d with now := d.now + 1, by_ := fun i => if late (d.now + 1) (d.by_ i) = true then ended (d.now + 1) (d.by_ i) false else d.by_ i }
def tickL (d : Rd) : List Nat := (List.range 16).filter fun i => late (d.now + 1) (d.by_ i)
/-- The tick, as far as the first m ones. -/
def tickTo (d : Rd) (m : Nat) : Rd := { d with now := d.now + 1, by_ := fun i => if i < m ∧ late (d.now + 1) (d.by_ i) = true then ended (d.now + 1) (d.by_ i) false else d.by_ i }
def tickUp (d : Rd) (m : Nat) : List Nat := (List.range m).filter fun i => late (d.now + 1) (d.by_ i)

theorem Rd.ext' {d e : Rd} (h1 : d.n = e.n) (h2 : d.self = e.self) (h3 : d.last = e.last) (h4 : d.now = e.now) (h5 : ∀ i, d.by_ i = e.by_ i) : d = e := by
  cases d; cases e
  simp only [Rd.mk.injEq]
  exact ⟨h1, h2, h3, h4, funext h5⟩

theorem tickTo_zero (d : Rd) : tickTo d 0 = { d with now := d.now + 1 } := by
  refine Rd.ext' rfl rfl rfl rfl fun i => ?_
  show (if i < 0 ∧ late (d.now + 1) (d.by_ i) = true then ended (d.now + 1) (d.by_ i) false else d.by_ i) = d.by_ i
  exact if_neg (fun e => Nat.not_lt_zero i e.1)
theorem tickTo_by (d : Rd) (m : Nat) : (tickTo d m).by_ m = d.by_ m := if_neg (c := m < m ∧ late (d.now + 1) (d.by_ m) = true) (fun e => Nat.lt_irrefl _ e.1)
theorem tickTo_yes (d : Rd) (m : Nat) (h : late (d.now + 1) (d.by_ m) = true) : tickTo d (m + 1) = endD (tickTo d m) m false := by
  refine Rd.ext' rfl rfl rfl rfl fun i => ?_
  show (tickTo d (m + 1)).by_ i = updS (tickTo d m).by_ m (ended (d.now + 1) ((tickTo d m).by_ m) false) i
  rw [tickTo_by]
  unfold updS
  by_cases e : i = m
  · subst e
    rw [if_pos rfl]
    exact if_pos (c := i < i + 1 ∧ late (d.now + 1) (d.by_ i) = true) ⟨Nat.lt_succ_self _, h⟩
  · rw [if_neg e]
    by_cases e2 : i < m ∧ late (d.now + 1) (d.by_ i) = true
    · exact (if_pos (c := i < m + 1 ∧ late (d.now + 1) (d.by_ i) = true) ⟨by omega, e2.2⟩).trans (if_pos (c := i < m ∧ late (d.now + 1) (d.by_ i) = true) e2).symm
    · exact (if_neg (c := i < m + 1 ∧ late (d.now + 1) (d.by_ i) = true) (fun e3 => e2 ⟨by omega, e3.2⟩)).trans (if_neg (c := i < m ∧ late (d.now + 1) (d.by_ i) = true) e2).symm
theorem tickTo_no (d : Rd) (m : Nat) (h : late (d.now + 1) (d.by_ m) = false) : tickTo d (m + 1) = tickTo d m := by
  refine Rd.ext' rfl rfl rfl rfl fun i => ?_
  by_cases e2 : i < m ∧ late (d.now + 1) (d.by_ i) = true
  · exact (if_pos (c := i < m + 1 ∧ late (d.now + 1) (d.by_ i) = true) ⟨by omega, e2.2⟩).trans (if_pos (c := i < m ∧ late (d.now + 1) (d.by_ i) = true) e2).symm
  · refine (if_neg (c := i < m + 1 ∧ late (d.now + 1) (d.by_ i) = true) (fun e3 => ?_)).trans (if_neg (c := i < m ∧ late (d.now + 1) (d.by_ i) = true) e2).symm
    rcases Nat.lt_or_eq_of_le (Nat.le_of_lt_succ e3.1) with e4 | e4
    · exact e2 ⟨e4, e3.2⟩
    · subst e4; rw [h] at e3; exact Bool.false_ne_true e3.2
theorem tickUp_yes (d : Rd) (m : Nat) (h : late (d.now + 1) (d.by_ m) = true) : tickUp d (m + 1) = tickUp d m ++ [m] := by
  unfold tickUp; rw [List.range_succ, List.filter_append, List.filter_cons_of_pos (p := fun i => late (d.now + 1) (d.by_ i)) h, List.filter_nil]
theorem tickUp_no (d : Rd) (m : Nat) (h : late (d.now + 1) (d.by_ m) = false) : tickUp d (m + 1) = tickUp d m := by
  unfold tickUp; rw [List.range_succ, List.filter_append, List.filter_cons_of_neg (p := fun i => late (d.now + 1) (d.by_ i)) (by rw [h]; exact Bool.false_ne_true), List.filter_nil, List.append_nil]
theorem tickUp_len (d : Rd) (m : Nat) : (tickUp d m).length ≤ m := by
  unfold tickUp; exact Nat.le_trans (List.length_filter_le _ _) (by simp)

theorem late_none (now : Nat) : late now St.none = false := rfl
theorem tick_out {c : Nat} {d : Rd} (h : RdOk c d) (k : Nat) : tickUp d (d.n + k) = tickUp d d.n ∧ tickTo d (d.n + k) = tickTo d d.n := by
  induction k with
  | zero => exact ⟨rfl, rfl⟩
  | succ k ih =>
    have h0 : late (d.now + 1) (d.by_ (d.n + k)) = false := by rw [h.out _ (Nat.le_add_right _ _)]; rfl
    exact ⟨(tickUp_no d _ h0).trans ih.1, (tickTo_no d _ h0).trans ih.2⟩
theorem tick_sixteen {c : Nat} {d : Rd} (h : RdOk c d) : tickUp d 16 = tickUp d d.n ∧ tickTo d 16 = tickTo d d.n := by
  have := tick_out h (16 - d.n)
  rwa [Nat.add_sub_cancel' h.n16] at this
theorem tickTo_ok {c : Nat} {d : Rd} (h : RdOk c d) (m : Nat) : RdOk (c + 1) (tickTo d m) := by
  refine ⟨h.n2, h.n16, h.self, h.last, Nat.succ_le_succ h.now, fun i => ?_, fun i => ?_, fun i => ?_, fun i hi => ?_⟩
  · show (if i < m ∧ late (d.now + 1) (d.by_ i) = true then ended (d.now + 1) (d.by_ i) false else d.by_ i).due ≤ _
    split
    · unfold ended; rw [if_neg Bool.false_ne_true]
      have := backOf_le ((d.by_ i).fails + 1); have := h.now
      show d.now + 1 + backOf ((d.by_ i).fails + 1) ≤ _; omega
    · exact Nat.le_trans (h.due i) (by omega)
  · show (if i < m ∧ late (d.now + 1) (d.by_ i) = true then ended (d.now + 1) (d.by_ i) false else d.by_ i).fails ≤ _
    split
    · unfold ended; rw [if_neg Bool.false_ne_true]
      exact Nat.succ_le_succ (h.fails i)
    · exact Nat.le_trans (h.fails i) (Nat.le_succ c)
  · show (if i < m ∧ late (d.now + 1) (d.by_ i) = true then ended (d.now + 1) (d.by_ i) false else d.by_ i).since ≤ d.now + 1
    split
    · exact Nat.zero_le _
    · exact Nat.le_trans (h.since i) (Nat.le_succ _)
  · show (if i < m ∧ late (d.now + 1) (d.by_ i) = true then ended (d.now + 1) (d.by_ i) false else d.by_ i) = _
    have h0 : d.by_ i = St.none := h.out i hi
    rw [h0, if_neg (fun e => by rw [late_none] at e; exact Bool.false_ne_true e.2)]

/-- Whose tick has come. -/
def ready (d : Rd) (i : Nat) : Prop := i < d.n ∧ i ≠ d.self ∧ (d.by_ i).busy = false ∧ (d.by_ i).due ≤ d.now
def dist (d : Rd) (i : Nat) : Nat := if i ≤ d.last then i + d.n - d.last else i - d.last
def IsNext (d : Rd) : Option Nat → Prop
  | none => ∀ i, ¬ ready d i
  | some b => ready d b ∧ ∀ j, ready d j → (d.by_ b).due < (d.by_ j).due ∨ ((d.by_ b).due = (d.by_ j).due ∧ dist d b ≤ dist d j)

theorem dist_inj {d : Rd} {i j : Nat} (hl : d.last < d.n) (hi : i < d.n) (hj : j < d.n) (h : dist d i = dist d j) : i = j := by
  unfold dist at h
  split at h <;> split at h <;> omega

theorem IsNext.unique {d : Rd} (hl : d.last < d.n) {r s : Option Nat} (h : IsNext d r) (k : IsNext d s) : r = s := by
  cases r with
  | none =>
    cases s with
    | none => rfl
    | some b => exact absurd k.1 (h b)
  | some a =>
    cases s with
    | none => exact absurd h.1 (k a)
    | some b =>
      have h1 := h.2 b k.1
      have h2 := k.2 a h.1
      have : dist d a = dist d b := by omega
      rw [dist_inj hl h.1.1 k.1.1 this]

/-- What is found among those whose distance is at most m. -/
def NextTo (d : Rd) (m : Nat) : Option Nat → Prop
  | none => ∀ i, ready d i → m < dist d i
  | some b => ready d b ∧ dist d b ≤ m ∧ ∀ j, ready d j → dist d j ≤ m → (d.by_ b).due < (d.by_ j).due ∨ ((d.by_ b).due = (d.by_ j).due ∧ dist d b ≤ dist d j)

theorem dist_pos {d : Rd} (i : Nat) (hl : d.last < d.n) : 0 < dist d i := by unfold dist; split <;> omega
theorem dist_le {d : Rd} {i : Nat} (hi : i < d.n) : dist d i ≤ d.n := by unfold dist; split <;> omega
theorem dist_at {d : Rd} (m : Nat) (hl : d.last < d.n) (hm : m < d.n) : (d.last + (m + 1)) % d.n < d.n ∧ dist d ((d.last + (m + 1)) % d.n) = m + 1 := by
  have h1 : (d.last + (m + 1)) % d.n < d.n := Nat.mod_lt _ (by omega)
  refine ⟨h1, ?_⟩
  by_cases h : d.last + (m + 1) < d.n
  · rw [Nat.mod_eq_of_lt h]; unfold dist; rw [if_neg (by omega)]; omega
  · have : (d.last + (m + 1)) % d.n = d.last + (m + 1) - d.n := by
      rw [Nat.mod_eq_sub_mod (by omega), Nat.mod_eq_of_lt (by omega)]
    rw [this]; unfold dist; rw [if_pos (by omega)]; omega

theorem NextTo.zero {d : Rd} (hl : d.last < d.n) : NextTo d 0 none := fun i _ => dist_pos i hl
theorem NextTo.all {d : Rd} {r : Option Nat} (h : NextTo d d.n r) : IsNext d r := by
  cases r with
  | none => exact fun i hi => absurd (h i hi) (by have := dist_le hi.1; omega)
  | some b => exact ⟨h.1, fun j hj => h.2.2 j hj (dist_le hj.1)⟩

/-- The next one is taken. -/
def better (d : Rd) (r : Option Nat) (i : Nat) : Prop := match r with
  | none => True
  | some b => (d.by_ i).due < (d.by_ b).due
theorem NextTo.take {d : Rd} {m : Nat} {r : Option Nat} (h : NextTo d m r) (hl : d.last < d.n) (i : Nat) (hi : dist d i = m + 1) (hr : ready d i) (hb : better d r i) : NextTo d (m + 1) (some i) := by
  refine ⟨hr, by omega, fun j hj hm => ?_⟩
  by_cases e : dist d j = m + 1
  · have := dist_inj hl hr.1 hj.1 (hi.trans e.symm)
    subst this
    exact .inr ⟨rfl, Nat.le_refl _⟩
  · cases r with
    | none => exact absurd (h j hj) (by omega)
    | some b =>
      have h1 := h.2.2 j hj (by omega)
      have h2 : (d.by_ i).due < (d.by_ b).due := hb
      exact .inl (by omega)
theorem NextTo.leave {d : Rd} {m : Nat} {r : Option Nat} (h : NextTo d m r) (hl : d.last < d.n) (i : Nat) (hi' : i < d.n) (hi : dist d i = m + 1) (hr : ¬ (ready d i ∧ better d r i)) : NextTo d (m + 1) r := by
  cases r with
  | none =>
    intro j hj
    have h1 := h j hj
    by_cases e : dist d j = m + 1
    · have := dist_inj hl hj.1 hi' (e.trans hi.symm)
      subst this
      exact absurd ⟨hj, trivial⟩ hr
    · omega
  | some b =>
    refine ⟨h.1, by have := h.2.1; omega, fun j hj hm => ?_⟩
    by_cases e : dist d j = m + 1
    · have := dist_inj hl hj.1 hi' (e.trans hi.symm)
      subst this
      have h1 : ¬ (d.by_ j).due < (d.by_ b).due := fun e2 => hr ⟨hj, e2⟩
      have h2 := h.2.1
      by_cases e3 : (d.by_ b).due < (d.by_ j).due
      · exact .inl e3
      · exact .inr ⟨by omega, by omega⟩
    · exact h.2.2 j hj (by omega)

/-- The document's way: among the first m peers. -/
def NextLow (d : Rd) (m : Nat) : Option Nat → Prop
  | none => ∀ i, i < m → ¬ ready d i
  | some b => ready d b ∧ b < m ∧ ∀ j, ready d j → j < m → (d.by_ b).due < (d.by_ j).due ∨ ((d.by_ b).due = (d.by_ j).due ∧ dist d b ≤ dist d j)
theorem NextLow.zero (d : Rd) : NextLow d 0 none := fun i h => absurd h (Nat.not_lt_zero i)
theorem NextLow.all {d : Rd} {r : Option Nat} (h : NextLow d d.n r) : IsNext d r := by
  cases r with
  | none => exact fun i hi => h i hi.1 hi
  | some b => exact ⟨h.1, fun j hj => h.2.2 j hj hj.1⟩
def nearer (d : Rd) (r : Option Nat) (i : Nat) : Prop := match r with
  | none => True
  | some b => (d.by_ i).due < (d.by_ b).due ∨ ((d.by_ i).due = (d.by_ b).due ∧ dist d i < dist d b)
theorem NextLow.take {d : Rd} {m : Nat} {r : Option Nat} (h : NextLow d m r) (hr : ready d m) (hb : nearer d r m) : NextLow d (m + 1) (some m) := by
  refine ⟨hr, by omega, fun j hj hm => ?_⟩
  by_cases e : j = m
  · subst e; exact .inr ⟨rfl, Nat.le_refl _⟩
  · cases r with
    | none => exact absurd hj (h j (by omega))
    | some b =>
      have h1 := h.2.2 j hj (by omega)
      have h2 : _ ∨ _ := hb
      by_cases e2 : (d.by_ m).due < (d.by_ j).due
      · exact .inl e2
      · exact .inr ⟨by omega, by omega⟩
theorem NextLow.leave {d : Rd} {m : Nat} {r : Option Nat} (h : NextLow d m r) (hr : ¬ (ready d m ∧ nearer d r m)) : NextLow d (m + 1) r := by
  cases r with
  | none =>
    intro j hj hj2
    by_cases e : j = m
    · subst e; exact hr ⟨hj2, trivial⟩
    · exact h j (by omega) hj2
  | some b =>
    refine ⟨h.1, by have := h.2.1; omega, fun j hj hm => ?_⟩
    by_cases e : j = m
    · subst e
      have h1 : ¬ (_ ∨ _) := fun e2 => hr ⟨hj, e2⟩
      by_cases e3 : (d.by_ b).due < (d.by_ j).due
      · exact .inl e3
      · exact .inr ⟨by omega, by omega⟩
    · exact h.2.2 j hj (by omega)

/-- There is one. -/
theorem NextLow.exists (d : Rd) : ∀ m, ∃ r, NextLow d m r
  | 0 => ⟨none, NextLow.zero d⟩
  | m + 1 => by
    obtain ⟨r, h⟩ := NextLow.exists d m
    by_cases e : ready d m ∧ nearer d r m
    · exact ⟨_, h.take e.1 e.2⟩
    · exact ⟨_, h.leave e⟩
theorem next_exists (d : Rd) : ∃ r, IsNext d r := by
  obtain ⟨r, h⟩ := NextLow.exists d d.n
  exact ⟨r, h.all⟩

def nextD (d : Rd) : Option Nat → Rd
  | none => d
  | some b => { d with last := b, by_ := updS d.by_ b { d.by_ b with busy := true, since := d.now } }
def nextI : Option Nat → Int
  | none => -1
  | some b => (b : Int)
theorem RdOk.next {c : Nat} {d : Rd} (h : RdOk c d) {r : Option Nat} (hr : IsNext d r) : RdOk c (nextD d r) := by
  cases r with
  | none => exact h
  | some b =>
    have := h.set b hr.1.1 { d.by_ b with busy := true, since := d.now } (h.due b) (h.fails b) (Nat.le_refl _)
    exact ⟨this.n2, this.n16, this.self, hr.1.1, this.now, this.due, this.fails, this.since, this.out⟩

def turnE (d : Rd) (i : Int) : Nat := if isP d i = true then (if (d.by_ i.toNat).busy = true then 0 else 16) else 2
def turnD (d : Rd) (i : Int) (good : Bool) : Rd := if turnE d i = 0 then endD d i.toNat good else d
theorem RdOk.turn {c : Nat} {d : Rd} (h : RdOk c d) (i : Int) (good : Bool) : RdOk (c + 1) (turnD d i good) := by
  unfold turnD
  split
  · rename_i h0
    have hp : isP d i = true := by
      unfold turnE at h0
      split at h0
      · assumption
      · cases h0
    rw [isP_iff] at hp
    exact h.ended _ (by omega) good
  · exact h.mono (Nat.le_succ c)
def hurryE (d : Rd) (i : Int) : Nat := if isP d i = true then (if (d.by_ i.toNat).busy = true then 16 else 0) else 2
def hurryD (d : Rd) (i : Int) : Rd := if hurryE d i = 0 then { d with by_ := updS d.by_ i.toNat { d.by_ i.toNat with due := min (d.by_ i.toNat).due d.now } } else d
theorem RdOk.hurry {c : Nat} {d : Rd} (h : RdOk c d) (i : Int) : RdOk c (hurryD d i) := by
  unfold hurryD
  split
  · rename_i h0
    have hp : isP d i = true := by
      unfold hurryE at h0
      split at h0
      · assumption
      · cases h0
    rw [isP_iff] at hp
    exact h.set _ (by omega) _ (Nat.le_trans (Nat.min_le_left _ _) (h.due _)) (h.fails _) (h.since _)
  · exact h

end Go.Proofs.Ytdlbjllgdikadab
