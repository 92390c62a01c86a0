/- Encode of what may not be; the law's known. -/
import Derived.Test.YtdlbjllgdikadaaSegD
namespace Go.Proofs.Ytdlbjllgdikadaa
open Go.RowKit

set_option maxRecDepth 100000 in
theorem encode_bad (b : Blk) (a : Option Addr) (cap : Nat) (w : World) (hs : b.serial < 18446744073709551616) (hl : b.body.length ≤ 9223372036854775807) (hbad : mayB b = false) :
    Calls Try.prog 31 #[.agg (b.cells a cap)] w fun e w' => e = .returned (.tuple #[.slice none 0 0, .int .i64 2]) ∧ Below w.heap.size w w' := by
  have hm : ∀ W, Calls Try.prog 33 #[.agg (b.cells a cap)] W fun e w' => e = .returned (.bool false) ∧ Below W.heap.size W w' := fun W => by
    rw [← hbad]; exact may_calls b a cap W hs hl
  have Hbad := Lib.hid hbad
  clear hbad
  obtain ⟨s, k, f, la, body⟩ := b
  simp only [Blk.cells] at *
  have hB : Below w.heap.size w (w.alloc (.cells (Blk.cells ⟨s, k, f, la, body⟩ a cap) 43)) := (Below.refl _ _).alloc (Nat.le_refl _) _
  go_enter Try.func31, Try.ntmps31
  go_wp2_with (go_at_call 33; refine (hm _).mono ?_; rintro e w2 ⟨rfl, hB2⟩)
  go_ret2
  exact ⟨rfl, below_call hB (by simp) hB2⟩

set_option maxHeartbeats 1600000 in
def placeN (n : Int) : Int := if n < 1 then 0 else 35 % n
def placeE (n : Int) : Int := if n < 1 then 2 else 0
def manyI (n : Int) : Int := (manyN n.toNat : Nat)

set_option maxRecDepth 100000 in
theorem known23_calls (w : World) : Calls Try.prog 23 #[] w fun e w' => e = .returned (.bool true) ∧ Below w.heap.size w w' := by
  have h1 : ∀ n W, n ≤ 9223372036854775807 → Calls Try.prog 30 #[.int .u64 35, .int .i64 n] W fun e w' => e = .returned (.tuple #[.int .i64 (placeN n), .int .i64 (placeE n)]) ∧ W = w' := by
    intro n W hn
    by_cases h : n < 1
    · unfold placeN placeE
      rw [if_pos h, if_pos h]
      exact place_neg 35 n h W
    · unfold placeN placeE
      rw [if_neg h, if_neg h]
      obtain ⟨m, rfl⟩ := Int.eq_ofNat_of_zero_le (show 0 ≤ n by omega)
      exact place_pos 35 m (by decide) (by omega) (by omega) W
  have h3 : ∀ W, Calls Try.prog 31 #[.agg #[.int .u64 0, .int .u8 1, .bool true, .bool false, .slice none 0 0]] W fun e w' => e = .returned (.tuple #[.slice none 0 0, .int .i64 2]) ∧ Below W.heap.size W w' := fun W =>
    encode_bad ⟨0, 1, true, false, []⟩ none 0 W (by decide) (by decide) (by decide)
  have h4 : ∀ n W, 0 ≤ n → n ≤ 9223372036854775807 → Calls Try.prog 27 #[.int .i64 n] W fun e w' => e = .returned (.int .i64 (manyI n)) ∧ W = w' := by
    intro n W h0 h1
    obtain ⟨m, rfl⟩ := Int.eq_ofNat_of_zero_le h0
    exact many_calls m (by omega) W
  have h7 : ∀ W, Calls Try.prog 29 #[.int .u64 35] W fun e w' => e = .returned (.int .u64 32) ∧ W = w' := fun W => start_calls 35 (by decide) W
  have p1 : placeN 16 = 3 := by decide
  have p2 : placeE 16 = 0 := by decide
  have p3 : placeE 0 = 2 := by decide
  have p4 : manyI 0 = 1 := by decide
  have p5 : manyI 48 = 1 := by decide
  have p6 : manyI 49 = 2 := by decide
  go_enter Try.func23, Try.ntmps23
  go_wp2_with (first
    | (go_at_call 30; refine (h1 _ _ (by decide)).mono ?_; rintro e w2 ⟨rfl, rfl⟩)
    | (go_at_call 31; refine (h3 _).mono ?_; rintro e w3 ⟨rfl, hB3⟩)
    | (go_at_call 27; refine (h4 _ _ (by decide) (by decide)).mono ?_; rintro e w2 ⟨rfl, rfl⟩)
    | (go_at_call 29; refine (h7 _).mono ?_; rintro e w2 ⟨rfl, rfl⟩))
  go_ret
  exact ⟨rfl, hB3⟩

end Go.Proofs.Ytdlbjllgdikadaa
