/- PeersFair: rows of numbers and of bools; New and May of what is handed in. -/
import Derived.Test.YtdlbjllgdikadabFairM
import Derived.Test.YtdlbjllgdikadabPeerG
namespace Go.Proofs.Ytdlbjllgdikadab
open Go.RowKit
set_option linter.unusedVariables false

def rowN (n : Nat) (f : Nat → Nat) : Array Value := Array.ofFn (n := n) fun i => Value.int .i64 (f i.val : Int)
def rowB (n : Nat) (f : Nat → Bool) : Array Value := Array.ofFn (n := n) fun i => Value.bool (f i.val)
def NRow (w : World) (g n : Nat) (f : Nat → Nat) : Prop := w.heap[g]? = some (.cells (rowN n f) 3 (0, 0))
def BRow (w : World) (g n : Nat) (f : Nat → Bool) : Prop := w.heap[g]? = some (.cells (rowB n f) 4 (0, 0))
section
variable {w w' : World} {g n : Nat} {f : Nat → Nat} {b : Nat → Bool}
theorem NRow.lt (h : NRow w g n f) : g < w.heap.size := lt_of_block h
theorem BRow.lt (h : BRow w g n b) : g < w.heap.size := lt_of_block h
theorem NRow.cell (h : NRow w g n f) (i : Nat) (hi : i < n) : w.cell? ⟨g, i, none⟩ = some (.int .i64 (f i : Int)) := by
  rw [cell_of_row w g i _ _ _ h]; simp [rowN, hi]
theorem BRow.cell (h : BRow w g n b) (i : Nat) (hi : i < n) : w.cell? ⟨g, i, none⟩ = some (.bool (b i)) := by
  rw [cell_of_row w g i _ _ _ h]; simp [rowB, hi]
theorem NRow.free (h : NRow w g n f) (q : Nat) : w.frozen? ⟨g, q, none⟩ = false := frozen_of_row w g q _ _ h
theorem BRow.free (h : BRow w g n b) (q : Nat) : w.frozen? ⟨g, q, none⟩ = false := frozen_of_row w g q _ _ h
theorem NRow.aside {T : List Nat} (h : NRow w g n f) (k : Aside T w w') (hg : g ∉ T) : NRow w' g n f := (k.block g h.lt hg).trans h
theorem BRow.aside {T : List Nat} (h : BRow w g n b) (k : Aside T w w') (hg : g ∉ T) : BRow w' g n b := (k.block g h.lt hg).trans h
theorem NRow.other (h : NRow w g n f) (p : Addr) (u : Value) (hp : g ≠ p.block) : NRow (w.setCell p u) g n f := (heap_setCell_other w p g u hp).trans h
theorem BRow.other (h : BRow w g n b) (p : Addr) (u : Value) (hp : g ≠ p.block) : BRow (w.setCell p u) g n b := (heap_setCell_other w p g u hp).trans h
theorem NRow.stored (h : NRow w g n f) (i x : Nat) : NRow (w.setCell ⟨g, i, none⟩ (.int .i64 (x : Int))) g n (updN f i x) := by
  unfold NRow
  rw [heap_setCell_same w g i _ 3 _ h]
  have : (rowN n f).setIfInBounds i (.int .i64 (x : Int)) = rowN n (updN f i x) := by
    apply Array.ext_getElem?
    intro k
    by_cases hk : k < n
    · rw [Array.getElem?_setIfInBounds]
      by_cases e : i = k
      · subst e; simp [rowN, hk, updN]
      · rw [if_neg e]; simp [rowN, hk, updN, show ¬ k = i from fun e2 => e e2.symm]
    · rw [Array.getElem?_eq_none (by simp [rowN]; omega), Array.getElem?_eq_none (by simp [rowN]; omega)]
  rw [this]
def updB (f : Nat → Bool) (i : Nat) (x : Bool) : Nat → Bool := fun k => if k = i then x else f k
theorem BRow.stored (h : BRow w g n b) (i : Nat) (x : Bool) : BRow (w.setCell ⟨g, i, none⟩ (.bool x)) g n (updB b i x) := by
  unfold BRow
  rw [heap_setCell_same w g i _ 4 _ h]
  have : (rowB n b).setIfInBounds i (.bool x) = rowB n (updB b i x) := by
    apply Array.ext_getElem?
    intro k
    by_cases hk : k < n
    · rw [Array.getElem?_setIfInBounds]
      by_cases e : i = k
      · subst e; simp [rowB, hk, updB]
      · rw [if_neg e]; simp [rowB, hk, updB]; intro e2; exact absurd e2.symm e
    · rw [Array.getElem?_eq_none (by simp [rowB]; omega), Array.getElem?_eq_none (by simp [rowB]; omega)]
  rw [this]
end

def mayB (n self : Int) : Bool := decide (2 ≤ n ∧ n ≤ 16 ∧ 0 ≤ self ∧ self < n)
theorem may_no (n self : Int) (w : World) (h : ¬ (2 ≤ n ∧ n ≤ 16 ∧ 0 ≤ self ∧ self < n)) : Calls Try.prog 7 #[.int .i64 n, .int .i64 self] w fun e w' => e = .returned (.bool false) ∧ w = w' := by
  by_cases h1 : n < 2
  · have h1' : n ≤ 1 := by omega
    go_enter Try.func7, Try.ntmps7
    go_wp2
    go_ret
    exact ⟨rfl, rfl⟩
  · by_cases h2 : 16 < n
    · have h2' : 17 ≤ n := by omega
      go_enter Try.func7, Try.ntmps7
      go_wp2
      go_ret
      exact ⟨rfl, rfl⟩
    · by_cases h3 : self < 0
      · go_enter Try.func7, Try.ntmps7
        go_wp2
        go_ret
        exact ⟨rfl, rfl⟩
      · have h4 : n ≤ self := by omega
        have h4' : decide (self < n) = false := decide_eq_false (by omega)
        go_enter Try.func7, Try.ntmps7
        go_wp2
        go_ret
        exact ⟨rfl, rfl⟩
theorem may_yes (n self : Int) (w : World) (h : 2 ≤ n ∧ n ≤ 16 ∧ 0 ≤ self ∧ self < n) : Calls Try.prog 7 #[.int .i64 n, .int .i64 self] w fun e w' => e = .returned (.bool true) ∧ w = w' := by
  obtain ⟨h1, h2, h3, h4⟩ := h
  have h1' : 1 < n := by omega
  have h2' : n < 17 := by omega
  go_enter Try.func7, Try.ntmps7
  go_wp2
  go_ret
  exact ⟨rfl, rfl⟩

set_option maxRecDepth 100000 in
set_option maxHeartbeats 2000000 in
theorem fair_bad (n self : Int) (a : Option Addr) (l : List UInt8) (cap : Nat) (w : World) (h : ¬ (2 ≤ n ∧ n ≤ 16 ∧ 0 ≤ self ∧ self < n)) :
    Calls Try.prog 3 #[.int .i64 n, .int .i64 self, .slice a l.length cap] w fun e w' => e = .returned (.bool true) ∧ Below w.heap.size w w' := by
  have h1 := Lib.hid (new_bad n self w h)
  have h2 := Lib.hid (may_no n self w h)
  clear h
  go_enter Try.func3, Try.ntmps3
  go_wp2_with (first
    | (go_at_call 6; refine h1.out.mono ?_; rintro e w1 ⟨rfl, rfl⟩)
    | (go_at_call 7; refine h2.out.mono ?_; rintro e w1 ⟨rfl, rfl⟩)
    | (go_at_call 8; refine (known_calls _).mono ?_; rintro e w9 ⟨rfl, hB9⟩))
  go_ret
  exact ⟨rfl, hB9⟩

set_option maxRecDepth 100000 in
set_option maxHeartbeats 2000000 in
theorem fair_long (n self : Nat) (a : Option Addr) (l : List UInt8) (cap : Nat) (w : World) (h2 : 2 ≤ n) (h16 : n ≤ 16) (hs : self < n) (hl : 300 < l.length) :
    Calls Try.prog 3 #[.int .i64 (n : Int), .int .i64 (self : Int), .slice a l.length cap] w fun e w' => e = .returned (.bool true) ∧ Below w.heap.size w w' := by
  have h1 := Lib.hid (new_good n self w h2 h16 hs)
  go_enter Try.func3, Try.ntmps3
  go_wp2_with (first
    | (go_at_call 6; refine h1.out.mono ?_; rintro e w1 ⟨rfl, hr1, hb1⟩)
    | (go_at_call 8; refine (known_calls _).mono ?_; rintro e w9 ⟨rfl, hB9⟩))
  go_ret
  exact ⟨rfl, below_call hb1 (Nat.le_refl _) hB9⟩

theorem make29 (n : Nat) (h : n ≤ 16) (W : World) : (Instr.makeSlice 29 (.int .i64 (n : Int)) (.int .i64 (n : Int))).run Try.prog W = .ok (.slice (some ⟨W.heap.size, 0, none⟩) n n) (W.alloc (.cells (rowN n fun _ => 0) 3)) := by
  obtain ⟨i0, hi, hz0, hz1, hz2⟩ := info_parts info3
  have := run_makeSlice (P := Try.prog) W 29 3 i0 (.int .i64 0) Try.underlying29 hi hz0 .i64 .i64 (n : Int) (n : Int) (by omega) (by omega) (by rw [hz1]; omega) (by rw [hz2]; omega) (by omega)
  rw [this, hz1]
  have e : madeCells (Value.int IntKind.i64 0).cells ((n : Int).toNat * 1) = rowN n fun _ => 0 := by
    rw [Int.toNat_natCast, Nat.mul_one]
    apply Array.ext_getElem?
    intro k
    by_cases hk : k < n
    · simp [madeCells, rowN, hk, Value.cells, Nat.mod_one]
    · simp [madeCells, rowN, hk, Value.cells]
  rw [e, Int.toNat_natCast]
theorem info4 : (Try.prog.info? 4).map (fun i => (i.zero, i.size, i.bytes)) = some (some (.bool false), 1, 1) := by kernel_rfl
theorem make30 (n : Nat) (h : n ≤ 16) (W : World) : (Instr.makeSlice 30 (.int .i64 (n : Int)) (.int .i64 (n : Int))).run Try.prog W = .ok (.slice (some ⟨W.heap.size, 0, none⟩) n n) (W.alloc (.cells (rowB n fun _ => false) 4)) := by
  obtain ⟨i0, hi, hz0, hz1, hz2⟩ := info_parts info4
  have := run_makeSlice (P := Try.prog) W 30 4 i0 (.bool false) Try.underlying30 hi hz0 .i64 .i64 (n : Int) (n : Int) (by omega) (by omega) (by rw [hz1]; omega) (by rw [hz2]; omega) (by omega)
  rw [this, hz1]
  have e : madeCells (Value.bool false).cells ((n : Int).toNat * 1) = rowB n fun _ => false := by
    rw [Int.toNat_natCast, Nat.mul_one]
    apply Array.ext_getElem?
    intro k
    by_cases hk : k < n
    · simp [madeCells, rowB, hk, Value.cells, Nat.mod_one]
    · simp [madeCells, rowB, hk, Value.cells]
  rw [e, Int.toNat_natCast]

theorem OwnN.slice {w : World} {base : Nat} {v : Value} {l : List Nat} (h : OwnN w base v l) : ∃ a cap, v = .slice a l.length cap ∧ ∀ i (hi : i < l.length), ∃ g, a = some ⟨g, 0, none⟩ ∧ base ≤ g ∧ w.cell? ⟨g, i, none⟩ = some (.int .i64 (l[i] : Int)) := by
  rcases h.2 with ⟨rfl, hn⟩ | ⟨g, cap, cur, rfl, hb, hg, hnc, hcm, hcs, htake⟩
  · have : l = [] := List.length_eq_zero_iff.1 hn
    subst this
    exact ⟨none, 0, rfl, fun i hi => absurd hi (Nat.not_lt_zero i)⟩
  · refine ⟨some ⟨g, 0, none⟩, cap, rfl, fun i hi => ⟨g, rfl, hb, ?_⟩⟩
    rw [World.ownsRow.cellAt h i (by omega)]
    simp [nvals, hi]
theorem alloc3 (w : World) (A B C : Obj) : (((w.alloc A).alloc B).alloc C).drew.heap[w.heap.size]? = some A ∧ (((w.alloc A).alloc B).alloc C).drew.heap[w.heap.size + 1]? = some B ∧ (((w.alloc A).alloc B).alloc C).drew.heap[w.heap.size + 1 + 1]? = some C := by
  have h1 := heap_alloc_new w A
  have h2 := heap_alloc_new (w.alloc A) B
  have h3 := heap_alloc_new ((w.alloc A).alloc B) C
  rw [World.size_alloc] at h2
  rw [World.size_alloc, World.size_alloc] at h3
  refine ⟨?_, ?_, h3⟩
  · exact ((((Below.refl _ (w.alloc A)).alloc (Nat.le_refl _) B).alloc (by simp) C).block w.heap.size (by simp)).trans h1
  · exact ((((Below.refl _ ((w.alloc A).alloc B)).alloc (Nat.le_refl _) C)).block (w.heap.size + 1) (by simp)).trans h2

/-- What PeersFair works on. -/
structure FairW (w wr : World) (g G1 G2 G3 n me : Nat) (d : Rd) (begun till : Nat → Nat) (bad : Nat → Bool) : Prop where
  rd : RdAt wr g d
  r1 : NRow wr G1 n begun
  r2 : NRow wr G2 n till
  r3 : BRow wr G3 n bad
  bel : Below w.heap.size w wr
  lo : w.heap.size ≤ g ∧ w.heap.size ≤ G1 ∧ w.heap.size ≤ G2 ∧ w.heap.size ≤ G3
  ne : g ≠ G1 ∧ g ≠ G2 ∧ g ≠ G3 ∧ G1 ≠ G2 ∧ G1 ≠ G3 ∧ G2 ≠ G3
  dn : d.n = n
  ds : d.self = me

theorem FairW.next {w wr w2 : World} {g G1 G2 G3 n self : Nat} {d d2 : Rd} {begun till : Nat → Nat} {bad : Nat → Bool} (h : FairW w wr g G1 G2 G3 n self d begun till bad) (h2 : RdAt w2 g d2) (a : Aside [g] wr w2) (hn : d2.n = n) (hs : d2.self = self) : FairW w w2 g G1 G2 G3 n self d2 begun till bad :=
  ⟨h2, h.r1.aside a (by simp; exact fun e => h.ne.1 e.symm), h.r2.aside a (by simp; exact fun e => h.ne.2.1 e.symm), h.r3.aside a (by simp; exact fun e => h.ne.2.2.1 e.symm), h.bel.trans (a.toBelow (fun k hk => by simp at hk; rw [hk]; exact h.lo.1) h.bel.size), h.lo, h.ne, hn, hs⟩
theorem FairW.begin {w wr : World} {g G1 G2 G3 n self : Nat} {d : Rd} {begun till : Nat → Nat} {bad : Nat → Bool} (h : FairW w wr g G1 G2 G3 n self d begun till bad) (i x : Nat) : FairW w (wr.setCell ⟨G1, i, none⟩ (.int .i64 (x : Int))) g G1 G2 G3 n self d (updN begun i x) till bad :=
  ⟨h.rd.other _ _ h.ne.1, h.r1.stored i x, h.r2.other _ _ (fun e => h.ne.2.2.2.1 e.symm), h.r3.other _ _ (fun e => h.ne.2.2.2.2.1 e.symm), h.bel.setCell (p := ⟨G1, i, none⟩) h.lo.2.1 _, h.lo, h.ne, h.dn, h.ds⟩
theorem FairW.until {w wr : World} {g G1 G2 G3 n self : Nat} {d : Rd} {begun till : Nat → Nat} {bad : Nat → Bool} (h : FairW w wr g G1 G2 G3 n self d begun till bad) (i x : Nat) : FairW w (wr.setCell ⟨G2, i, none⟩ (.int .i64 (x : Int))) g G1 G2 G3 n self d begun (updN till i x) bad :=
  ⟨h.rd.other _ _ h.ne.2.1, h.r1.other _ _ h.ne.2.2.2.1, h.r2.stored i x, h.r3.other _ _ (fun e => h.ne.2.2.2.2.2 e.symm), h.bel.setCell (p := ⟨G2, i, none⟩) h.lo.2.2.1 _, h.lo, h.ne, h.dn, h.ds⟩
theorem FairW.bads {w wr : World} {g G1 G2 G3 n self : Nat} {d : Rd} {begun till : Nat → Nat} {bad : Nat → Bool} (h : FairW w wr g G1 G2 G3 n self d begun till bad) (i : Nat) (x : Bool) : FairW w (wr.setCell ⟨G3, i, none⟩ (.bool x)) g G1 G2 G3 n self d begun till (updB bad i x) :=
  ⟨h.rd.other _ _ h.ne.2.2.1, h.r1.other _ _ h.ne.2.2.2.2.1, h.r2.other _ _ h.ne.2.2.2.2.2, h.r3.stored i x, h.bel.setCell (p := ⟨G3, i, none⟩) h.lo.2.2.2 _, h.lo, h.ne, h.dn, h.ds⟩
theorem FairW.drew {w wr : World} {g G1 G2 G3 n self : Nat} {d : Rd} {begun till : Nat → Nat} {bad : Nat → Bool} (h : FairW w wr g G1 G2 G3 n self d begun till bad) : FairW w wr.drew g G1 G2 G3 n self d begun till bad :=
  ⟨h.rd, h.r1, h.r2, h.r3, h.bel.drew, h.lo, h.ne, h.dn, h.ds⟩

/-- The outer loop's state: all peers at rest. -/
def Outer (w wr : World) (g G1 G2 G3 n self t at' : Nat) : Prop :=
  ∃ (d : Rd) (begun till : Nat → Nat) (bad : Nat → Bool), FairW w wr g G1 G2 G3 n self d begun till bad ∧ Fair t d begun till ∧ RdOk (20 * t) d ∧ at' ≤ 16 * t
/-- The inner loop's: a peer has been told, or none. -/
def Inner (w wr : World) (g G1 G2 G3 n self t at' : Nat) (r : Option Nat) : Prop :=
  ∃ (d : Rd) (begun till : Nat → Nat) (bad : Nat → Bool), FairW w wr g G1 G2 G3 n self (nextD d r) begun till bad ∧ IsNext d r ∧ Fair t d begun till ∧ RdOk (20 * t) d ∧ at' + idle d ≤ 16 * t + 16
theorem updN_updN (f : Nat → Nat) (i x y : Nat) : updN (updN f i x) i y = updN f i y := by
  funext k; unfold updN; split <;> rfl
theorem nextD_n (d : Rd) (r : Option Nat) : (nextD d r).n = d.n ∧ (nextD d r).self = d.self := by cases r <;> exact ⟨rfl, rfl⟩

set_option maxRecDepth 100000 in
set_option maxHeartbeats 16000000 in
theorem fair_good (n self : Nat) (a : Option Addr) (l : List UInt8) (cap : Nat) (w : World) (h2 : 2 ≤ n) (h16 : n ≤ 16) (hs : self < n) (hl : l.length ≤ 300) (hby : IsBytes w a l) :
    Calls Try.prog 3 #[.int .i64 (n : Int), .int .i64 (self : Int), .slice a l.length cap] w fun e w' => e = .returned (.bool true) ∧ Below w.heap.size w w' := by
  have h1 := Lib.hid (new_good n self w h2 h16 hs)
  go_enter Try.func3, Try.ntmps3
  go_upto_region 6 with (first
    | (go_at_call 6; refine h1.out.mono ?_; rintro e w1 ⟨rfl, hr1, hb1⟩))
  have m29 := make29 n h16
  have m30 := make30 n h16
  go_cut [9, 10, 11] from 47 to 52 (fun v1 v2 v3 wc => ∃ G1 G2 G3 : Nat, v1 = .slice (some ⟨G1, 0, none⟩) n n ∧ v2 = .slice (some ⟨G2, 0, none⟩) n n ∧ v3 = .slice (some ⟨G3, 0, none⟩) n n ∧ FairW w wc w.heap.size G1 G2 G3 n self (newR n self) (fun _ => 0) (fun _ => 0) (fun _ => false))
  case first =>
    have hl3 := fun A B C : Obj => ((((Below.refl _ w1).alloc (Nat.le_refl _) A).alloc (by simp) B).alloc (by simp; omega) C).drew
    have hgl := hr1.lt
    have H3 := Lib.hid (And.intro hl3 hgl)
    clear hl3 hgl
    go_region
    all_goals
      obtain ⟨q0, q1, q2⟩ := alloc3 w1 _ _ _
      have Q := Lib.hid (And.intro q0 (And.intro q1 q2))
      clear q0 q1 q2
      go_wp2
      go_meet
      refine ⟨_, _, _, rfl, rfl, rfl, ⟨?_, ?_, ?_, ?_, ?_, ?_, ?_, rfl, rfl⟩⟩
      · exact hr1.later (H3.out.1 _ _ _)
      · first | exact Q.out.1 | exact Q.out.2.1 | exact Q.out.2.2
      · first | exact Q.out.1 | exact Q.out.2.1 | exact Q.out.2.2
      · first | exact Q.out.1 | exact Q.out.2.1 | exact Q.out.2.2
      · exact below_call hb1 (Nat.le_refl _) (H3.out.1 _ _ _)
      · have := hb1.size; omega
      · have := H3.out.2; omega
  obtain ⟨G1, G2, G3, rfl, rfl, rfl, hW⟩ := hcut
  clear hr1 hb1 m29 m30
  have hF := Fair.start n self
  have hR := RdOk.new h2 h16 hs
  have hO : Outer w wc w.heap.size G1 G2 G3 n self 0 0 := ⟨_, _, _, _, hW, hF, hR, Nat.le_refl _⟩
  clear hW hF hR
  obtain ⟨g, hg⟩ : ∃ g, g = w.heap.size := ⟨_, rfl⟩
  rw [← hg] at hO ⊢
  have Hg := Lib.hid hg
  clear hg h1
  go_wp2
  go_loopw [53, 12] (fun tv av wr => ∃ t at' : Nat, t ≤ 300 ∧ tv = .int .i64 (t : Int) ∧ av = .int .i64 (at' : Int) ∧ Outer w wr g G1 G2 G3 n self t at') (fun tv _ _ => 300 - (intOf tv).toNat)
  case atStart => exact ⟨0, 0, by omega, rfl, rfl, hO⟩
  case round =>
    clear hO
    obtain ⟨t, at', ht, rfl, rfl, hO⟩ := hrel
    by_cases hlt : t < 300
    · obtain ⟨d, begun, till, bad, hW, hF, hR, hat⟩ := hO
      obtain ⟨r, hr⟩ := next_exists d
      have hnx := fun W q => next_rd g d (20 * t) W q hR r hr
      go_wp2_with (first
        | (go_at_call 9; refine (hnx _ hW.rd).mono ?_; rintro e w2 ⟨rfl, h2', hA2⟩))
      have hI : Inner w w2 g G1 G2 G3 n self t at' r := ⟨d, begun, till, bad, hW.next h2' hA2 ((nextD_n d r).1.trans hW.dn) ((nextD_n d r).2.trans hW.ds), hr, hF, hR, by have := idle_le d; omega⟩
      clear hnx hW h2' hA2 hF hR hat
      go_loopw [14, 15, 12] (fun pv iv av wr => ∃ (q : Option Nat) (k : Nat), pv = .int .i64 (nextI q) ∧ iv = .bool q.isSome ∧ av = .int .i64 (k : Int) ∧ Inner w wr g G1 G2 G3 n self t k q) (fun _ _ av _ => 16 * t + 17 - (intOf av).toNat)
      case atStart => exact ⟨r, at', rfl, rfl, rfl, hI⟩
      case round =>
        clear hI hr
        obtain ⟨q, k, rfl, rfl, rfl, hI⟩ := hrel
        obtain ⟨d, begun, till, bad, hW, hN, hF, hR, hk⟩ := hI
        have hdn : d.n = n := ((nextD_n d q).1.symm.trans hW.dn)
        have hds : d.self = self := ((nextD_n d q).2.symm.trans hW.ds)
        cases q with
        | some b =>
          have hni : nextI (some b) = (b : Int) := rfl
          rw [hni]
          clear hni
          have hb : ready d b := hN.1
          have hbn : b < n := by have := hb.1; omega
          have hbs : b ≠ self := by have := hb.2.1; omega
          have hbn' : (b : Int) < (n : Int) := by omega
          have hbs' : ((b : Int) == (self : Int)) = false := by rw [beq_eq_false_iff_ne]; omega
          have htill := hF.free hb
          have c2 : wr.cell? ⟨G2, b, none⟩ = some (.int .i64 0) := by have := hW.r2.cell b hbn; rw [htill] at this; exact this
          have c1 := hW.r1.cell b hbn
          have f1 := hW.r1.free b
          have f2 := hW.r2.free b
          have n12 : ¬ G1 = G2 := hW.ne.2.2.2.1
          have n23 : ¬ G2 = G3 := hW.ne.2.2.2.2.2
          have hidle := idle_next hb (by omega)
          have hW2 := (hW.begin b t).until b 1000
          have hR2 := hR.next hN
          obtain ⟨d1, hd1⟩ : ∃ d1, d1 = nextD d (some b) := ⟨_, rfl⟩
          have hd1n : d1.n = n := by rw [hd1]; exact hdn
          have hd1s : d1.self = self := by rw [hd1]; exact hds
          rw [← hd1] at hW2 hR2 hidle hW
          have hFn := fun x hx => hF.next (t := t) hb x hx
          rw [← hd1] at hFn
          obtain ⟨r1, hr1⟩ := next_exists d1
          have hnx := fun W q => next_rd g d1 (20 * t) W q hR2 r1 hr1
          obtain ⟨hn1, hn2⟩ := nextD_n d1 r1
          rw [hd1n] at hn1
          rw [hd1s] at hn2
          have hkk : k < 16 * t + 16 := by omega
          have hk2 : k + 1 + idle d1 ≤ 16 * t + 16 := by omega
          have HH := Lib.hid (And.intro hW2 (And.intro hFn (And.intro hr1 (And.intro hn1 (And.intro hn2 hk2)))))
          have HN := Lib.hid hnx
          clear hW2 hFn hr1 hn1 hn2 hnx hidle htill hd1 hd1n hd1s hF hN hk hk2 hdn hds hb
          go_upto_region 17 with fail
          refine over_world (R := fun W => FairW w W g G1 G2 G3 n self d1 (updN begun b t) (updN till b 1000) bad) HH.out.1 ?_
          clear hW c1 c2 f1 f2
          rintro wr hW
          obtain ⟨_, hFn, hr1, hn1, hn2, hk2⟩ := HH.out
          have HH := Lib.hid (And.intro hFn (And.intro hr1 (And.intro hn1 (And.intro hn2 hk2))))
          clear hFn hr1 hn1 hn2 hk2
          by_cases hkl : k < l.length
          · obtain ⟨y, hy⟩ : ∃ y, y = l[k] := ⟨_, rfl⟩
            obtain ⟨b0, o0, rfl, cy⟩ := (hby.later (hW.bel)) k hkl
            rw [← hy] at cy
            clear hy
            have c3 := hW.r3.cell b hbn
            have f3 := hW.r3.free b
            have c2 := hW.r2.cell b hbn
            have f2 := hW.r2.free b
            by_cases hy8 : y.toNat % 8 = 0
            · have hz : ¬ (0 : Int) < (y.toNat : Int) % 8 := by omega
              go_wp2_with (first
                | (go_at_call 9; refine (HN.out _ hW.rd).mono ?_; rintro e w5 ⟨rfl, h5, hA5⟩))
              go_roundw
              case rel =>
                obtain ⟨q2, q3, q4, q5, q6⟩ := HH.out
                exact ⟨r1, k + 1, rfl, rfl, by go_num, d1, _, _, bad, hW.next h5 hA5 q4 q5, q3, q2 1000 (by decide), hR2, q6⟩
              case measure => simp [intOf]; omega
            · have hz : (0 : Int) < (y.toNat : Int) % 8 := by omega
              go_upto_region 18 with fail
              go_region
              have hx : (t : Int) + (y.toNat : Int) % 8 = ((t + y.toNat % 8 : Nat) : Int) := by omega
              rw [hx]
              refine over_world (R := fun W => FairW w W g G1 G2 G3 n self d1 (updN begun b t) (updN till b (t + y.toNat % 8)) (updB bad b ((y.toNat : Int) % 2 == 1))) ?_ ?_
              · have := ((hW.until b (t + y.toNat % 8)).bads b ((y.toNat : Int) % 2 == 1)).drew
                rw [updN_updN] at this
                exact this
              clear hW c2 f2 c3 f3 hx cy
              rintro wr hW
              go_wp2_with (first
                | (go_at_call 9; refine (HN.out _ hW.rd).mono ?_; rintro e w5 ⟨rfl, h5, hA5⟩))
              go_roundw
              case rel =>
                obtain ⟨q2, q3, q4, q5, q6⟩ := HH.out
                exact ⟨r1, k + 1, rfl, rfl, by go_num, d1, _, _, _, hW.next h5 hA5 q4 q5, q3, q2 (t + y.toNat % 8) (by omega), hR2, q6⟩
              case measure => simp [intOf]; omega
          · have hkl' : decide ((k : Int) < (l.length : Int)) = false := decide_eq_false (by omega)
            go_wp2_with (first
              | (go_at_call 9; refine (HN.out _ hW.rd).mono ?_; rintro e w5 ⟨rfl, h5, hA5⟩))
            go_roundw
            case rel =>
              obtain ⟨q2, q3, q4, q5, q6⟩ := HH.out
              exact ⟨r1, k + 1, rfl, rfl, by go_num, d1, _, _, bad, hW.next h5 hA5 q4 q5, q3, q2 1000 (by decide), hR2, q6⟩
            case measure => simp [intOf]; omega
        | none =>
          have hW' : FairW w wr g G1 G2 G3 n self d begun till bad := hW
          obtain ⟨L, hL⟩ : ∃ L, L = tickUp d 16 := ⟨_, rfl⟩
          have htk := fun W q => tick_rd g d (20 * t) W q hR (by omega)
          rw [← hL] at htk
          have hta := fun i hi => tickUp_at hF hR i hi
          have htn := hF.tick hR hN
          have htok := tickTo_ok hR 16
          have HT := Lib.hid (And.intro hta (And.intro htn htok))
          have HK := Lib.hid htk
          clear hta htn htok htk hW hN hF hR
          have HL := Lib.hid hL
          clear hL
          go_wp2_with (first
            | (go_at_call 10; refine (HK.out _ hW'.rd).mono ?_; rintro e w5 ⟨v, rfl, hO5, h5, hA5⟩; obtain ⟨av, cv, rfl, hcv⟩ := hO5.slice))
          have hL := HL.out
          clear HL
          have hWt : FairW w w5 g G1 G2 G3 n self (tickTo d 16) begun (tillT d till 0) bad := by
            rw [tillT_zero]; exact hW'.next h5 hA5 hdn hds
          have hG2 : G2 < wr.heap.size := hW'.r2.lt
          have hcv' : ∀ W, Aside [G2] w5 W → ∀ i (hi : i < L.length), ∃ gq, av = some ⟨gq, 0, none⟩ ∧ W.cell? ⟨gq, i, none⟩ = some (.int .i64 (L[i] : Int)) := fun W hA i hi => by
            subst hL
            obtain ⟨gq, e, hb, hc⟩ := hcv i hi
            refine ⟨gq, e, ?_⟩
            rw [World.cell?_of_block (a := ⟨gq, i, none⟩) (hA.block gq (World.block_lt_of_cell? w5 _ hc) (by simp; omega))]
            exact hc
          have hta : ∀ i (hi : i < L.length), L[i] < d.n ∧ L[i] ≠ d.self ∧ tillT d till i L[i] ≠ 0 := by subst hL; exact HT.out.1
          have hts : ∀ k (hk : k < L.length), tillT d till (k + 1) = updN (tillT d till k) L[k] 0 := by subst hL; exact fun k hk => tillT_succ d till k hk
          have htb : FairB t (tickTo d 16) begun (tillT d till L.length) := by subst hL; exact HT.out.2.1
          have htok := HT.out.2.2
          have HQ := Lib.hid (And.intro hta (And.intro hts (And.intro htb htok)))
          have HC := Lib.hid hcv'
          have hLn : L.length ≤ 16 := by subst hL; exact tickUp_len d 16
          clear hta hts htb htok hcv hcv' HT HK h5 hA5 hO5 hL
          go_loopw [130] (fun iv wq => ∃ j : Nat, j ≤ L.length ∧ iv = .int .i64 (j : Int) ∧ FairW w wq g G1 G2 G3 n self (tickTo d 16) begun (tillT d till j) bad ∧ Aside [G2] w5 wq) (fun iv _ => L.length - (intOf iv).toNat)
          case atStart => exact ⟨0, Nat.zero_le _, rfl, hWt, Aside.refl _ _⟩
          case round =>
            clear hWt
            obtain ⟨j, hj, rfl, hWq, hAq⟩ := hrel
            by_cases hjl : j < L.length
            ·
              obtain ⟨h1, h2', h3⟩ := HQ.out.1 j hjl
              have hsucc := HQ.out.2.1 j hjl
              obtain ⟨gq, rfl, hcq⟩ := HC.out _ hAq j hjl
              obtain ⟨p, hp⟩ : ∃ p, p = L[j] := ⟨_, rfl⟩
              rw [← hp] at h1 h2' h3 hcq hsucc
              have hpn : p < n := by omega
              have hpn' : (p : Int) < (n : Int) := by omega
              have c2 := hWq.r2.cell p hpn
              have f2 := hWq.r2.free p
              obtain ⟨T, hT⟩ : ∃ T, T = tillT d till j p := ⟨_, rfl⟩
              rw [← hT] at c2 h3
              have hT0 : ((T : Int) == 0) = false := by rw [beq_eq_false_iff_ne]; omega
              have hu := hWq.until p 0
              rw [← hsucc] at hu
              have HU := Lib.hid hu
              clear hu hsucc hT h3 hp
              go_wp2
              go_roundw
              case rel => exact ⟨j + 1, by omega, by go_num, HU.out, hAq.setCell _ _ (fun _ => by simp)⟩
              case measure => simp [intOf]; omega
            · obtain rfl : j = L.length := by omega
              obtain ⟨_, _, htb, htok⟩ := HQ.out
              have HB := Lib.hid (And.intro htb htok)
              clear htb htok HC HQ
              go_wp2
              go_loopw [144] (fun iv wq => ∃ (p : Nat) (d2 : Rd) (till2 : Nat → Nat), p ≤ n ∧ iv = .int .i64 (p : Int) ∧ FairW w wq g G1 G2 G3 n self d2 begun till2 bad ∧ FairB t d2 begun till2 ∧ RdOk (20 * t + 1 + p) d2) (fun iv _ => n - (intOf iv).toNat)
              case atStart => exact ⟨0, _, _, Nat.zero_le _, rfl, hWq, HB.out.1, HB.out.2⟩
              case round =>
                clear hWq hAq
                obtain ⟨p, d2, till2, hp, rfl, hWq, hB2, hR2⟩ := hrel
                have hd2n : d2.n = n := hWq.dn
                have hd2s : d2.self = self := hWq.ds
                by_cases hpn : p < n
                · have hpn' : (p : Int) < (n : Int) := by omega
                  have hRn : RdOk (20 * t + 1 + (p + 1)) d2 := hR2.mono (by omega)
                  have c2 := hWq.r2.cell p hpn
                  have f2 := hWq.r2.free p
                  have c1 := hWq.r1.cell p hpn
                  have c3 := hWq.r3.cell p hpn
                  obtain ⟨T, hT⟩ : ∃ T, T = till2 p := ⟨_, rfl⟩
                  obtain ⟨B, hB⟩ : ∃ B, B = begun p := ⟨_, rfl⟩
                  obtain ⟨bd, hbd⟩ : ∃ bd, bd = bad p := ⟨_, rfl⟩
                  rw [← hT] at c2
                  rw [← hB] at c1
                  rw [← hbd] at c3
                  by_cases hps : p = self
                  · subst hps
                    clear hT hB hbd hd2n hd2s
                    go_wp2
                    go_roundw
                    case rel => exact ⟨p + 1, d2, till2, by omega, by go_num, hWq, hB2, hRn⟩
                    case measure => simp [intOf]; omega
                  · have hps' : ((p : Int) == (self : Int)) = false := by rw [beq_eq_false_iff_ne]; omega
                    have hps2 : ((p : Int) != (self : Int)) = true := by simp; omega
                    obtain ⟨m1, m2⟩ := hB2.near p (by omega) (by omega)
                    rw [← hB] at m1 m2
                    by_cases hTt : T = t ∧ 0 < t
                    · have htn : till2 p ≠ 0 := by omega
                      have hbusy := hB2.busy p (by omega) (by omega) htn
                      have hend := fun good => hB2.end p (by omega) (by omega) htn good
                      have hRe := fun good => hR2.turn (p : Int) good
                      have hdn3 : ∀ good, (turnD d2 (p : Int) good).n = d2.n ∧ (turnD d2 (p : Int) good).self = d2.self := fun good => by unfold turnD; split <;> exact ⟨rfl, rfl⟩
                      have hgood := good_rd g d2 (p : Int) (20 * t + 1 + p) _ hWq.rd hR2 (by omega)
                      have hbadc := bad_rd g d2 (p : Int) (20 * t + 1 + p) _ hWq.rd hR2 (by omega)
                      unfold TurnPost at hgood hbadc
                      rw [hbusy] at hgood hbadc
                      obtain ⟨rfl, ht0⟩ := hTt
                      have ht0' : (0 : Int) < (T : Int) := by omega
                      have HE := Lib.hid (And.intro hend (And.intro hRe hdn3))
                      have HBB := Lib.hid hB
                      clear hend hRe hdn3 hbusy htn hT hB hbd
                      have n21 : ¬ G2 = G1 := fun e => hWq.ne.2.2.2.1 e.symm
                      have Hd := Lib.hid (And.intro hd2n hd2s)
                      clear hd2n hd2s
                      cases bd
                      · 
                        go_wp2_with (first
                          | (go_at_call 11; refine hgood.mono ?_; rintro e w6 ⟨rfl, h6, g6⟩; have hW6 := hWq.next h6 (Aside.grown g6 (fun k hk _ => by injection hk with hk; simp [hk])) ((HE.out.2.2 true).1.trans Hd.out.1) ((HE.out.2.2 true).2.trans Hd.out.2); have c26 := hW6.r2.cell p hpn; have f26 := hW6.r2.free p; have c16 := hW6.r1.cell p hpn; rw [← HBB.out] at c16))
                        have hW7 := hW6.until p 0
                        go_roundw
                        case rel => exact ⟨p + 1, _, _, by omega, by go_num, hW7, HE.out.1 true, HE.out.2.1 true⟩
                        case measure => simp [intOf]; omega
                      · 
                        go_wp2_with (first
                          | (go_at_call 12; refine hbadc.mono ?_; rintro e w6 ⟨rfl, h6, g6⟩; have hW6 := hWq.next h6 (Aside.grown g6 (fun k hk _ => by injection hk with hk; simp [hk])) ((HE.out.2.2 false).1.trans Hd.out.1) ((HE.out.2.2 false).2.trans Hd.out.2); have c26 := hW6.r2.cell p hpn; have f26 := hW6.r2.free p; have c16 := hW6.r1.cell p hpn; rw [← HBB.out] at c16))
                        have hW7 := hW6.until p 0
                        go_roundw
                        case rel => exact ⟨p + 1, _, _, by omega, by go_num, hW7, HE.out.1 false, HE.out.2.1 false⟩
                        case measure => simp [intOf]; omega
                    · clear hT hB hbd hd2n hd2s
                      by_cases e1 : T = t
                      · have e2 : ¬ 0 < t := fun e => hTt ⟨e1, e⟩
                        have e3 : decide ((0 : Int) < (t : Int)) = false := decide_eq_false (by omega)
                        subst e1
                        go_wp2
                        go_roundw
                        case rel => exact ⟨p + 1, d2, till2, by omega, by go_num, hWq, hB2, hRn⟩
                        case measure => simp [intOf]; omega
                      · have e3 : ((T : Int) == (t : Int)) = false := by rw [beq_eq_false_iff_ne]; omega
                        go_wp2
                        go_roundw
                        case rel => exact ⟨p + 1, d2, till2, by omega, by go_num, hWq, hB2, hRn⟩
                        case measure => simp [intOf]; omega
                · obtain rfl : p = n := by omega
                  have hF1 := hB2.next
                  have hRz := hR2.mono (c' := 20 * (t + 1)) (by omega)
                  go_wp2
                  go_roundw
                  case rel => exact ⟨t + 1, k, by omega, by go_num, rfl, d2, begun, till2, bad, hWq, hF1, hRz, by omega⟩
                  case measure => simp [intOf]; omega
    · obtain rfl : t = 300 := by omega
      obtain ⟨d, begun, till, bad, hW, hF, hR, hat⟩ := hO
      go_wp2_with (go_at_call 8; refine (known_calls _).mono ?_; rintro e w9 ⟨rfl, hB9⟩)
      go_ret
      exact ⟨rfl, below_call hW.bel (Nat.le_refl _) hB9⟩

theorem peersFair_walk (n self : Int) (a : Option Addr) (l : List UInt8) (cap : Nat) (w : World) (hby : IsBytes w a l) :
    Calls Try.prog 3 #[.int .i64 n, .int .i64 self, .slice a l.length cap] w fun e w' => e = .returned (.bool true) ∧ Below w.heap.size w w' := by
  by_cases h : 2 ≤ n ∧ n ≤ 16 ∧ 0 ≤ self ∧ self < n
  · obtain ⟨h1, h2, h3, h4⟩ := h
    obtain ⟨k, rfl⟩ := Int.eq_ofNat_of_zero_le (show 0 ≤ n by omega)
    obtain ⟨s, rfl⟩ := Int.eq_ofNat_of_zero_le h3
    by_cases hl : l.length ≤ 300
    · exact fair_good k s a l cap w (by omega) (by omega) (by omega) hl hby
    · exact fair_long k s a l cap w (by omega) (by omega) (by omega) (by omega)
  · exact fair_bad n self a l cap w h
end Go.Proofs.Ytdlbjllgdikadab
