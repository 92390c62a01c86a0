/- Rounds of peers in memory; the small functions. -/
import Derived.Test.YtdlbjllgdikadabPeerM
import Derived.Test.YtdlbjllgdikadabSeq
namespace Go.Proofs.Ytdlbjllgdikadab
open Go.RowKit

def stCell (s : St) : Nat → Value
  | 0 => .int .u64 (s.due : Int)
  | 1 => .int .i64 (s.fails : Int)
  | 2 => .bool s.busy
  | _ => .int .u64 (s.since : Int)
def stCells (s : St) : List Value := [.int .u64 (s.due : Int), .int .i64 (s.fails : Int), .bool s.busy, .int .u64 (s.since : Int)]
def stAgg (s : St) : Value := .agg #[.int .u64 (s.due : Int), .int .i64 (s.fails : Int), .bool s.busy, .int .u64 (s.since : Int)]
def rdCell (d : Rd) : Nat → Value
  | 0 => .int .i64 (d.n : Int)
  | 1 => .int .i64 (d.self : Int)
  | 2 => .int .i64 (d.last : Int)
  | 3 => .int .u64 (d.now : Int)
  | q + 4 => stCell (d.by_ (q / 4)) (q % 4)
def rdCells (d : Rd) : Array Value := Array.ofFn (n := 68) fun q => rdCell d q.val
theorem rdCells_size (d : Rd) : (rdCells d).size = 68 := by simp [rdCells]
theorem rdCells_get (d : Rd) (q : Nat) (hq : q < 68) : (rdCells d)[q]? = some (rdCell d q) := by
  simp [rdCells, hq]

/-- A round in memory. -/
def RdAt (w : World) (g : Nat) (d : Rd) : Prop := w.heap[g]? = some (.cells (rdCells d) 57 (0, 0))

section
variable {w w' : World} {g : Nat} {d d' : Rd}
theorem RdAt.lt (h : RdAt w g d) : g < w.heap.size := lt_of_block h
theorem RdAt.cell (h : RdAt w g d) (q : Nat) (hq : q < 68) : w.cell? ⟨g, q, none⟩ = some (rdCell d q) := by
  rw [cell_of_row w g q _ _ _ h, rdCells_get d q hq]
theorem RdAt.c0 (h : RdAt w g d) : w.cell? ⟨g, 0, none⟩ = some (.int .i64 (d.n : Int)) := h.cell 0 (by decide)
theorem RdAt.c1 (h : RdAt w g d) : w.cell? ⟨g, 1, none⟩ = some (.int .i64 (d.self : Int)) := h.cell 1 (by decide)
theorem RdAt.c2 (h : RdAt w g d) : w.cell? ⟨g, 2, none⟩ = some (.int .i64 (d.last : Int)) := h.cell 2 (by decide)
theorem RdAt.c3 (h : RdAt w g d) : w.cell? ⟨g, 3, none⟩ = some (.int .u64 (d.now : Int)) := h.cell 3 (by decide)
theorem rdCell_at (d : Rd) (i j : Nat) (hj : j < 4) : rdCell d (4 + i * 4 + j) = stCell (d.by_ i) j := by
  have e : 4 + i * 4 + j = (i * 4 + j) + 4 := by omega
  rw [e]
  show stCell (d.by_ ((i * 4 + j) / 4)) ((i * 4 + j) % 4) = _
  rw [show (i * 4 + j) / 4 = i by omega, show (i * 4 + j) % 4 = j by omega]
theorem RdAt.s0 (h : RdAt w g d) (i : Nat) (hi : i < 16) : w.cell? ⟨g, 4 + i * 4, none⟩ = some (.int .u64 ((d.by_ i).due : Int)) := by
  rw [h.cell (4 + i * 4) (by omega)]; exact congrArg some (rdCell_at d i 0 (by decide))
theorem RdAt.s1 (h : RdAt w g d) (i : Nat) (hi : i < 16) : w.cell? ⟨g, 4 + i * 4 + 1, none⟩ = some (.int .i64 ((d.by_ i).fails : Int)) := by
  rw [h.cell (4 + i * 4 + 1) (by omega)]; exact congrArg some (rdCell_at d i 1 (by decide))
theorem RdAt.s2 (h : RdAt w g d) (i : Nat) (hi : i < 16) : w.cell? ⟨g, 4 + i * 4 + 2, none⟩ = some (.bool (d.by_ i).busy) := by
  rw [h.cell (4 + i * 4 + 2) (by omega)]; exact congrArg some (rdCell_at d i 2 (by decide))
theorem RdAt.s3 (h : RdAt w g d) (i : Nat) (hi : i < 16) : w.cell? ⟨g, 4 + i * 4 + 3, none⟩ = some (.int .u64 ((d.by_ i).since : Int)) := by
  rw [h.cell (4 + i * 4 + 3) (by omega)]; exact congrArg some (rdCell_at d i 3 (by decide))
theorem RdAt.free (h : RdAt w g d) (q : Nat) : w.frozen? ⟨g, q, none⟩ = false := frozen_of_row w g q _ _ h
theorem RdAt.later (h : RdAt w g d) (hb : Below w.heap.size w w') : RdAt w' g d := (hb.block g h.lt).trans h
theorem RdAt.kept {row : Option Nat} (h : RdAt w g d) (hg : w.grownBy w' row) (hD : some g ≠ row) : RdAt w' g d := (hg.block g h.lt hD).trans h
theorem RdAt.other (h : RdAt w g d) (p : Addr) (u : Value) (hD : g ≠ p.block) : RdAt (w.setCell p u) g d := (heap_setCell_other w p g u hD).trans h

theorem RdAt.stored (h : RdAt w g d) (q : Nat) (u : Value) (hq : q < 68) (hu : rdCell d' q = u) (ho : ∀ k, k < 68 → k ≠ q → rdCell d' k = rdCell d k) : RdAt (w.setCell ⟨g, q, none⟩ u) g d' := by
  unfold RdAt
  rw [heap_setCell_same w g q _ 57 _ h]
  have : (rdCells d).setIfInBounds q u = rdCells d' := by
    apply Array.ext_getElem?
    intro k
    by_cases hk : k < 68
    · rw [rdCells_get d' k hk, Array.getElem?_setIfInBounds]
      by_cases e : q = k
      · subst e
        rw [if_pos rfl, if_pos (by rw [rdCells_size]; exact hq), hu]
      · rw [if_neg e, rdCells_get d k hk, ho k hk (fun e2 => e e2.symm)]
    · rw [Array.getElem?_eq_none (by rw [Array.size_setIfInBounds, rdCells_size]; omega), Array.getElem?_eq_none (by rw [rdCells_size]; omega)]
  rw [this]

/-- One of the four numbers is written. -/
theorem RdAt.stored4 (h : RdAt w g d) (q : Nat) (u : Value) (hq : q < 4) (hu : rdCell d' q = u) (ho : ∀ k, k < 4 → k ≠ q → rdCell d' k = rdCell d k) (hb : d'.by_ = d.by_) : RdAt (w.setCell ⟨g, q, none⟩ u) g d' := by
  refine h.stored q u (by omega) hu fun k hk hkq => ?_
  by_cases e : k < 4
  · exact ho k e hkq
  · obtain ⟨m, rfl⟩ : ∃ m, k = m + 4 := ⟨k - 4, by omega⟩
    show stCell (d'.by_ (m / 4)) (m % 4) = stCell (d.by_ (m / 4)) (m % 4)
    rw [hb]

/-- How a peer stands is written, in part. -/
theorem RdAt.storedS (h : RdAt w g d) (i j : Nat) (hi : i < 16) (hj : j < 4) (s : St) (u : Value) (hu : stCell s j = u) (ho : ∀ k, k < 4 → k ≠ j → stCell s k = stCell (d.by_ i) k) : RdAt (w.setCell ⟨g, 4 + i * 4 + j, none⟩ u) g { d with by_ := updS d.by_ i s } := by
  refine h.stored (4 + i * 4 + j) u (by omega) ?_ fun k hk hkq => ?_
  · rw [rdCell_at _ i j hj]
    show stCell (updS d.by_ i s i) j = u
    rw [updS_same, hu]
  · match k with
    | 0 => rfl
    | 1 => rfl
    | 2 => rfl
    | 3 => rfl
    | m + 4 =>
      show stCell (updS d.by_ i s (m / 4)) (m % 4) = stCell (d.by_ (m / 4)) (m % 4)
      unfold updS
      by_cases e : m / 4 = i
      · rw [if_pos e, ho (m % 4) (Nat.mod_lt _ (by decide)) (by omega), e]
      · rw [if_neg e]
end

theorem grown_setCell (w : World) (p : Addr) (u : Value) : w.grownBy (w.setCell p u) (some p.block) :=
  ⟨rfl, rfl, rfl, by simp, fun k _ hk => heap_setCell_other w p k u (fun e => hk (by rw [e]))⟩

/-- none. -/
theorem none_nil (w : World) : Calls Try.prog 21 #[.pointer none] w fun e w' => e = .returned (.bool true) ∧ w = w' := by
  go_enter Try.func21, Try.ntmps21
  go_wp2
  go_ret
  exact ⟨rfl, rfl⟩
theorem none_zero (g : Nat) (w : World) (h : w.cell? ⟨g, 0, none⟩ = some (.int .i64 0)) : Calls Try.prog 21 #[.pointer (some ⟨g, 0, none⟩)] w fun e w' => e = .returned (.bool true) ∧ w = w' := by
  go_enter Try.func21, Try.ntmps21
  go_wp2
  go_ret
  exact ⟨rfl, rfl⟩
theorem none_rd (g : Nat) (d : Rd) (w : World) (h : RdAt w g d) (hn : 2 ≤ d.n) : Calls Try.prog 21 #[.pointer (some ⟨g, 0, none⟩)] w fun e w' => e = .returned (.bool false) ∧ w = w' := by
  have c0 := h.c0
  have hz : ((d.n : Int) == 0) = false := by rw [beq_eq_false_iff_ne]; omega
  go_enter Try.func21, Try.ntmps21
  go_wp2
  go_ret
  exact ⟨rfl, rfl⟩

theorem is_rd (g : Nat) (d : Rd) (i : Int) (w : World) (h : RdAt w g d) : Calls Try.prog 23 #[.pointer (some ⟨g, 0, none⟩), .int .i64 i] w fun e w' => e = .returned (.bool (isP d i)) ∧ w = w' := by
  have c0 := h.c0
  have c1 := h.c1
  by_cases h1 : 0 ≤ i
  · by_cases h2 : i < (d.n : Int)
    · by_cases h3 : i = (d.self : Int)
      · have hp : isP d i = false := by unfold isP; simp [h3]
        have hz : (i != (d.self : Int)) = false := by simp [h3]
        rw [hp]
        have H3 := Lib.hid h3
        clear h3 hp
        go_enter Try.func23, Try.ntmps23
        go_wp2
        go_ret
        exact ⟨rfl, rfl⟩
      · have hp : isP d i = true := by unfold isP; simp [h1, h2, h3]
        have hz : (i != (d.self : Int)) = true := by simp [h3]
        rw [hp]
        clear h3 hp
        go_enter Try.func23, Try.ntmps23
        go_wp2
        go_ret
        exact ⟨rfl, rfl⟩
    · have hp : isP d i = false := by unfold isP; simp [h2]
      rw [hp]
      clear hp
      go_enter Try.func23, Try.ntmps23
      go_wp2
      go_ret
      exact ⟨rfl, rfl⟩
  · have hp : isP d i = false := by unfold isP; simp [h1]
    rw [hp]
    clear hp
    go_enter Try.func23, Try.ntmps23
    go_wp2
    go_ret
    exact ⟨rfl, rfl⟩

theorem now_rd (g : Nat) (d : Rd) (w : World) (h : RdAt w g d) (hn : 2 ≤ d.n) : Calls Try.prog 18 #[.pointer (some ⟨g, 0, none⟩)] w fun e w' => e = .returned (.int .u64 (d.now : Int)) ∧ w = w' := by
  have c3 := h.c3
  go_enter Try.func18, Try.ntmps18
  go_wp2_with (go_at_call 21; refine (none_rd g d _ h hn).mono ?_; rintro e w2 ⟨rfl, rfl⟩)
  go_ret
  exact ⟨rfl, rfl⟩

theorem new_bad (n self : Int) (w : World) (h : ¬ (2 ≤ n ∧ n ≤ 16 ∧ 0 ≤ self ∧ self < n)) : Calls Try.prog 6 #[.int .i64 n, .int .i64 self] w fun e w' => e = .returned (.tuple #[.pointer none, .int .i64 2]) ∧ w = w' := by
  by_cases h1 : n < 2
  · go_enter Try.func6, Try.ntmps6
    go_wp2
    go_ret2
    exact ⟨rfl, rfl⟩
  · by_cases h2 : 16 < n
    · go_enter Try.func6, Try.ntmps6
      go_wp2
      go_ret2
      exact ⟨rfl, rfl⟩
    · by_cases h3 : self < 0
      · go_enter Try.func6, Try.ntmps6
        go_wp2
        go_ret2
        exact ⟨rfl, rfl⟩
      · have h4 : n ≤ self := by omega
        go_enter Try.func6, Try.ntmps6
        go_wp2
        go_ret2
        exact ⟨rfl, rfl⟩

def zeroR : Rd := ⟨0, 0, 0, 0, fun _ => St.none⟩
@[go_sem] theorem zeroV57 (w : World) : (zeroValue 57).run Try.prog w = .ok (.agg (rdCells zeroR)) w := by kernel_rfl
theorem rdCells_ne (d : Rd) : rdCells d ≠ #[] := fun e => by
  have := rdCells_size d
  rw [e] at this
  cases this
theorem rdCells_new (n self : Nat) : (((rdCells zeroR).setIfInBounds 0 (.int .i64 (n : Int))).setIfInBounds 1 (.int .i64 (self : Int))).setIfInBounds 2 (.int .i64 (self : Int)) = rdCells (newR n self) := by
  apply Array.ext_getElem?
  intro k
  by_cases hk : k < 68
  · rw [rdCells_get _ k hk]
    match k with
    | 0 => simp [rdCells_size]; rfl
    | 1 => simp [rdCells_size]; rfl
    | 2 => simp [rdCells_size]; rfl
    | k + 3 =>
      rw [Array.getElem?_setIfInBounds_ne (by omega), Array.getElem?_setIfInBounds_ne (by omega), Array.getElem?_setIfInBounds_ne (by omega), rdCells_get _ _ hk]
      cases k <;> rfl
  · rw [Array.getElem?_eq_none (by simp [rdCells_size]; omega), Array.getElem?_eq_none (by rw [rdCells_size]; omega)]

set_option maxRecDepth 100000 in
theorem new_good (n self : Nat) (w : World) (h2 : 2 ≤ n) (h16 : n ≤ 16) (hs : self < n) : Calls Try.prog 6 #[.int .i64 (n : Int), .int .i64 (self : Int)] w fun e w' => e = .returned (.tuple #[.pointer (some ⟨w.heap.size, 0, none⟩), .int .i64 0]) ∧ RdAt w' w.heap.size (newR n self) ∧ Below w.heap.size w w' := by
  have e1 := rdCells_ne zeroR
  have e2 := rdCells_size zeroR
  have e3 := rdCells_new n self
  go_enter Try.func6, Try.ntmps6
  go_wp2
  go_ret2
  exact ⟨rfl, heap_alloc_new _ _, (Below.refl _ _).alloc (Nat.le_refl _) _⟩
end Go.Proofs.Ytdlbjllgdikadab
