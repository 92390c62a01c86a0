/- Rounds of peers: known; the law PeersNone walked. -/
import Derived.Test.YtdlbjllgdikadabPeerF
namespace Go.Proofs.Ytdlbjllgdikadab
open Go.RowKit
set_option linter.unusedVariables false

def readyB (d : Rd) (i : Nat) : Bool := decide (i < d.n) && (decide (i ≠ d.self) && (!(d.by_ i).busy && decide ((d.by_ i).due ≤ d.now)))
theorem readyB_iff (d : Rd) (i : Nat) : readyB d i = true ↔ ready d i := by simp [readyB, ready]
def nextB (d : Rd) : Option Nat → Bool
  | none => (List.range d.n).all fun i => !readyB d i
  | some b => readyB d b && (List.range d.n).all fun j => !readyB d j || (decide ((d.by_ b).due < (d.by_ j).due) || (decide ((d.by_ b).due = (d.by_ j).due) && decide (dist d b ≤ dist d j)))
theorem nextB_is {d : Rd} {r : Option Nat} (h : nextB d r = true) : IsNext d r := by
  cases r with
  | none =>
    intro i hi
    have := List.all_eq_true.1 h i (List.mem_range.2 hi.1)
    rw [(readyB_iff d i).2 hi] at this
    cases this
  | some b =>
    simp only [nextB, Bool.and_eq_true] at h
    refine ⟨(readyB_iff d b).1 h.1, fun j hj => ?_⟩
    have := List.all_eq_true.1 h.2 j (List.mem_range.2 hj.1)
    rw [(readyB_iff d j).2 hj] at this
    simpa using this

def kd0 : Rd := newR 3 0
def kd1 : Rd := nextD kd0 (some 1)
def kd2 : Rd := nextD kd1 (some 2)
def kd3 : Rd := turnD kd2 1 false
def kd4 : Rd := tickTo kd3 16
def kd5 : Rd := tickTo kd4 16
theorem kn0 : IsNext kd0 (some 1) := nextB_is (by decide +kernel)
theorem kn1 : IsNext kd1 (some 2) := nextB_is (by decide +kernel)
theorem kn2 : IsNext kd2 none := nextB_is (by decide +kernel)
theorem kn5 : IsNext kd5 (some 1) := nextB_is (by decide +kernel)
theorem ko0 : RdOk 0 kd0 := RdOk.new (by decide) (by decide) (by decide)
theorem ko1 : RdOk 0 kd1 := ko0.next kn0
theorem ko2 : RdOk 0 kd2 := ko1.next kn1
theorem ko3 : RdOk 1 kd3 := ko2.turn 1 false
theorem ko4 : RdOk 2 kd4 := tickTo_ok ko3 16
theorem ko5 : RdOk 3 kd5 := tickTo_ok ko4 16
theorem kE : turnE kd2 1 = 0 := by decide +kernel

/-- A round at work: a block of its own. -/
def RdNew (B : Nat) (w w' : World) (g : Nat) (d : Rd) : Prop := RdAt w' g d ∧ Below B w w' ∧ B ≤ g ∧ B ≤ w.heap.size
theorem RdNew.step {B : Nat} {w w' w2 : World} {g : Nat} {d d2 : Rd} (h : RdNew B w w' g d) (h2 : RdAt w2 g d2) (a : Aside [g] w' w2) : RdNew B w w2 g d2 :=
  ⟨h2, h.2.1.trans (a.toBelow (fun k hk => by simp at hk; rw [hk]; exact h.2.2.1) (Nat.le_trans h.2.2.2 h.2.1.size)), h.2.2.1, h.2.2.2⟩

def NextIs (B : Nat) (w : World) (g : Nat) (d : Rd) (i : Int) (b : Bool) (e : Ending) (w' : World) : Prop := e = .returned (.tuple #[.int .i64 i, .bool b]) ∧ RdNew B w w' g d
theorem next_new {B c : Nat} {w w' : World} {g : Nat} {d : Rd} (h : RdNew B w w' g d) (hok : RdOk c d) (r : Option Nat) (hr : IsNext d r) :
    Calls Try.prog 9 #[.pointer (some ⟨g, 0, none⟩)] w' (NextIs B w g (nextD d r) (nextI r) r.isSome) :=
  (next_rd g d c w' h.1 hok r hr).mono fun e w2 ⟨h1, h2, h3⟩ => ⟨h1, h.step h2 h3⟩
def TurnIs (B : Nat) (w : World) (g : Nat) (d : Rd) (i : Int) (e : Ending) (w' : World) : Prop := e = .returned (.int .i64 i) ∧ RdNew B w w' g d
theorem bad_new {B c : Nat} {w w' : World} {g : Nat} {d : Rd} (h : RdNew B w w' g d) (hok : RdOk c d) (hc : c ≤ 549755813888) (i : Int) :
    Calls Try.prog 12 #[.pointer (some ⟨g, 0, none⟩), .int .i64 i] w' (TurnIs B w g (turnD d i false) (turnE d i : Nat)) :=
  (bad_rd g d i c w' h.1 hok (by omega)).mono fun e w2 ⟨h1, h2, h3⟩ => ⟨h1, h.step h2 (Aside.grown h3 (fun k hk _ => by injection hk with hk; simp [hk]))⟩
def TickIs (B : Nat) (w : World) (g : Nat) (d : Rd) (e : Ending) (w' : World) : Prop := ∃ v, e = .returned v ∧ RdNew B w w' g d
theorem tick_new {B c : Nat} {w w' : World} {g : Nat} {d : Rd} (h : RdNew B w w' g d) (hok : RdOk c d) (hc : c ≤ 549755813888) :
    Calls Try.prog 10 #[.pointer (some ⟨g, 0, none⟩)] w' (TickIs B w g (tickTo d 16)) :=
  (tick_rd g d c w' h.1 hok hc).mono fun e w2 ⟨v, h1, _, h2, h3⟩ => ⟨v, h1, h.step h2 h3⟩

set_option maxRecDepth 100000 in
set_option maxHeartbeats 2000000 in
theorem known_calls (w : World) : Calls Try.prog 8 #[] w fun e w' => e = .returned (.bool true) ∧ Below w.heap.size w w' := by
  have h0 := new_good 3 0 w (by decide) (by decide) (by decide)
  have k1 := fun (w' : World) (h : RdNew w.heap.size w w' w.heap.size kd0) => next_new h ko0 _ kn0
  have k2 := fun (w' : World) (h : RdNew w.heap.size w w' w.heap.size kd1) => next_new h ko1 _ kn1
  have k3 := fun (w' : World) (h : RdNew w.heap.size w w' w.heap.size kd2) => next_new h ko2 _ kn2
  have k4 := fun (w' : World) (h : RdNew w.heap.size w w' w.heap.size kd2) => bad_new h ko2 (by decide) 1
  have k5 := fun (w' : World) (h : RdNew w.heap.size w w' w.heap.size kd3) => tick_new h ko3 (by decide)
  have k6 := fun (w' : World) (h : RdNew w.heap.size w w' w.heap.size kd4) => tick_new h ko4 (by decide)
  have k7 := fun (w' : World) (h : RdNew w.heap.size w w' w.heap.size kd5) => next_new h ko5 _ kn5
  rw [kE] at k4
  have K1 := Lib.hid k1
  have K2 := Lib.hid k2
  have K3 := Lib.hid k3
  have K4 := Lib.hid k4
  have K5 := Lib.hid k5
  have K6 := Lib.hid k6
  have K7 := Lib.hid k7
  clear k1 k2 k3 k4 k5 k6 k7
  have t1 : True := trivial
  have t2 : True := trivial
  have t3 : True := trivial
  have t4 : True := trivial
  go_enter Try.func8, Try.ntmps8
  go_wp2_with (first
    | (go_at_call 6; refine h0.mono ?_; rintro e w1 ⟨rfl, h1, hb1⟩; have hn1 : RdNew w.heap.size w w1 w.heap.size kd0 := ⟨h1, hb1, Nat.le_refl _, Nat.le_refl _⟩)
    | (go_at_call 9; have _t := t1; clear t1 _t; refine (K1.out _ hn1).mono ?_; rintro e w2 ⟨rfl, hn2⟩)
    | (go_at_call 9; have _t := t2; clear t2 _t; refine (K2.out _ hn2).mono ?_; rintro e w3 ⟨rfl, hn3⟩)
    | (go_at_call 9; have _t := t3; clear t3 _t; refine (K3.out _ hn3).mono ?_; rintro e w4 ⟨rfl, hn4⟩)
    | (go_at_call 12; refine (K4.out _ hn4).mono ?_; rintro e w5 ⟨rfl, hn5⟩)
    | (go_at_call 10; have _t := t4; clear t4 _t; refine (K5.out _ hn5).mono ?_; rintro e w6 ⟨v6, rfl, hn6⟩)
    | (go_at_call 10; refine (K6.out _ hn6).mono ?_; rintro e w7 ⟨v7, rfl, hn7⟩)
    | (go_at_call 9; refine (K7.out _ hn7).mono ?_; rintro e w8 ⟨rfl, hn8⟩))
  go_ret
  exact ⟨rfl, hn8.2.1⟩

set_option maxRecDepth 100000 in
set_option maxHeartbeats 2000000 in
theorem peersNone_walk (i : Int) (w : World) : Calls Try.prog 5 #[.int .i64 i] w fun e w' => e = .returned (.bool true) ∧ Below w.heap.size w w' := by
  have e1 := rdCells_ne zeroR
  have e2 := rdCells_size zeroR
  go_enter Try.func5, Try.ntmps5
  go_wp2
  go_loopw [12] (fun st wr => ∃ m : Nat, m ≤ 2 ∧ st = .int .i64 (m : Int) ∧ wr.cell? ⟨w.heap.size, 0, none⟩ = some (.int .i64 0) ∧ wr.cell? ⟨w.heap.size + 1, 0, none⟩ = some (.pointer none) ∧ wr.cell? ⟨w.heap.size + 1, 1, none⟩ = some (.pointer (some ⟨w.heap.size, 0, none⟩)) ∧ Below w.heap.size w wr) (fun st _ => 2 - (intOf st).toNat)
  case atStart =>
    refine ⟨0, Nat.zero_le _, rfl, ?_, ?_, ?_, ((Below.refl _ _).alloc (Nat.le_refl _) _).alloc (by simp) _⟩
    · have h0 := ((RdAt.made w).later ((Below.refl _ _).alloc (Nat.le_refl _) (.cells #[.pointer none, .pointer (some ⟨w.heap.size, 0, none⟩)] 23))).c0
      exact h0
    · have := heap_alloc_new (w.alloc (.cells (rdCells zeroR) 57)) (.cells #[.pointer none, .pointer (some ⟨w.heap.size, 0, none⟩)] 23)
      rw [World.size_alloc] at this
      rw [cell_of_row _ _ 0 _ _ _ this]; rfl
    · have := heap_alloc_new (w.alloc (.cells (rdCells zeroR) 57)) (.cells #[.pointer none, .pointer (some ⟨w.heap.size, 0, none⟩)] 23)
      rw [World.size_alloc] at this
      rw [cell_of_row _ _ 1 _ _ _ this]; rfl
  case round =>
    obtain ⟨m, hm, rfl, p0, p1, p2, hB⟩ := hrel
    have l0 := World.block_lt_of_cell? wr _ p0
    have l1 := World.block_lt_of_cell? wr _ p1
    obtain ⟨A, hA⟩ : ∃ A, A = w.heap.size := ⟨_, rfl⟩
    rw [← hA] at p0 p1 p2 l0 l1
    have P := Lib.hid (And.intro p0 (And.intro p1 (And.intro p2 (And.intro l0 (And.intro l1 hA)))))
    rw [← hA]
    clear p0 l0 l1 hA
    by_cases hlt : m < 2
    · have hN : NoneAt wr (.pointer none) ∧ NoneAt wr (.pointer (some ⟨A, 0, none⟩)) := ⟨.inl rfl, .inr ⟨A, rfl, P.out.1⟩⟩
      obtain ⟨hNa, hNb⟩ := hN
      obtain rfl | rfl : m = 0 ∨ m = 1 := by omega
      · go_wp2_with (first
          | (go_at_call 9; refine (next_none _ _ hNa).mono ?_; rintro e w2 ⟨rfl, hB2⟩; have hN2 := hNa.below hB2)
          | (go_at_call 19; refine (look_none _ _ _ hN2).mono ?_; rintro e w3 ⟨rfl, hB3⟩; have hB3' := (Below.refl _ w3).alloc (Nat.le_refl _) (.cells #[.int .u64 0, .int .i64 0, .bool false, .int .u64 0] 50))
          | (refine wpList_store_st rfl (.tmp 8) (.tmp 25) rfl w3.heap.size St.none St.none rfl rfl (StAt.made w3) ?_; intro w4 hs4 hg4; have hB4 := hB3'.grown hg4 hB3'.size (fun k hk => by cases hk; exact Nat.le_refl _); have hN4 := (hN2.below hB3).below hB4)
          | (go_at_call 10; refine (tick_none _ _ hN4).mono ?_; rintro e w5 ⟨rfl, rfl⟩)
          | (go_at_call 11; refine (good_none _ _ _ hN4).mono ?_; rintro e w5 ⟨rfl, rfl⟩)
          | (go_at_call 12; refine (bad_none _ _ _ hN4).mono ?_; rintro e w5 ⟨rfl, rfl⟩)
          | (go_at_call 17; refine (hurry_none _ _ _ hN4).mono ?_; rintro e w5 ⟨rfl, rfl⟩)
          | (go_at_call 18; refine (now_none _ _ hN4).mono ?_; rintro e w5 ⟨rfl, rfl⟩)
          | (go_at_call 15; refine (copy_none _ _ hN4).mono ?_; rintro e w5 ⟨rfl, rfl⟩))
        have hB24 := below_call hB2 (Nat.le_refl _) (below_call hB3 (Nat.le_refl _) hB4)
        go_roundw
        case rel =>
          obtain ⟨q0, q1, q2, l0, l1, rfl⟩ := P.out
          exact ⟨0 + 1, by omega, by go_num, (hB24.cell (p := ⟨_, 0, none⟩) l0).trans q0, (hB24.cell (p := ⟨_, 0, none⟩) l1).trans q1, (hB24.cell (p := ⟨_, 1, none⟩) l1).trans q2, below_call hB (Nat.le_refl _) hB24⟩
        case measure => simp [intOf]
      · go_wp2_with (first
          | (go_at_call 9; refine (next_none _ _ hNb).mono ?_; rintro e w2 ⟨rfl, hB2⟩; have hN2 := hNb.below hB2)
          | (go_at_call 19; refine (look_none _ _ _ hN2).mono ?_; rintro e w3 ⟨rfl, hB3⟩; have hB3' := (Below.refl _ w3).alloc (Nat.le_refl _) (.cells #[.int .u64 0, .int .i64 0, .bool false, .int .u64 0] 50))
          | (refine wpList_store_st rfl (.tmp 8) (.tmp 25) rfl w3.heap.size St.none St.none rfl rfl (StAt.made w3) ?_; intro w4 hs4 hg4; have hB4 := hB3'.grown hg4 hB3'.size (fun k hk => by cases hk; exact Nat.le_refl _); have hN4 := (hN2.below hB3).below hB4)
          | (go_at_call 10; refine (tick_none _ _ hN4).mono ?_; rintro e w5 ⟨rfl, rfl⟩)
          | (go_at_call 11; refine (good_none _ _ _ hN4).mono ?_; rintro e w5 ⟨rfl, rfl⟩)
          | (go_at_call 12; refine (bad_none _ _ _ hN4).mono ?_; rintro e w5 ⟨rfl, rfl⟩)
          | (go_at_call 17; refine (hurry_none _ _ _ hN4).mono ?_; rintro e w5 ⟨rfl, rfl⟩)
          | (go_at_call 18; refine (now_none _ _ hN4).mono ?_; rintro e w5 ⟨rfl, rfl⟩)
          | (go_at_call 15; refine (copy_none _ _ hN4).mono ?_; rintro e w5 ⟨rfl, rfl⟩))
        have hB24 := below_call hB2 (Nat.le_refl _) (below_call hB3 (Nat.le_refl _) hB4)
        go_roundw
        case rel =>
          obtain ⟨q0, q1, q2, l0, l1, rfl⟩ := P.out
          exact ⟨1 + 1, by omega, by go_num, (hB24.cell (p := ⟨_, 0, none⟩) l0).trans q0, (hB24.cell (p := ⟨_, 0, none⟩) l1).trans q1, (hB24.cell (p := ⟨_, 1, none⟩) l1).trans q2, below_call hB (Nat.le_refl _) hB24⟩
        case measure => simp [intOf]
    · go_wp2_with (go_at_call 8; refine (known_calls _).mono ?_; rintro e w9 ⟨rfl, hB9⟩)
      go_ret
      exact ⟨rfl, below_call hB (Nat.le_refl _) hB9⟩
end Go.Proofs.Ytdlbjllgdikadab
