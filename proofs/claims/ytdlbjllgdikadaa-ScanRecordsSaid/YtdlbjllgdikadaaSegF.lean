/- The document's May and Encode. -/
import Derived.Test.YtdlbjllgdikadaaSegE
namespace Go.Proofs.Ytdlbjllgdikadaa
open Go.RowKit CrcM

set_option maxHeartbeats 1000000 in
set_option maxRecDepth 100000 in
theorem refmay_calls (b : Blk) (a : Option Addr) (cap : Nat) (w : World) (hs : b.serial < 18446744073709551616) (hl : b.body.length ≤ 9223372036854775807) :
    Calls Try.prog 34 #[.agg (b.cells a cap)] w fun e w' => e = .returned (.bool (mayB b)) ∧ Below w.heap.size w w' := by
  obtain ⟨s, k, f, la, body⟩ := b
  simp only [Blk.cells] at *
  have hB : Below w.heap.size w (w.alloc (.cells (Blk.cells ⟨s, k, f, la, body⟩ a cap) 43)) := (Below.refl _ _).alloc (Nat.le_refl _) _
  have hkl := k.toNat_lt
  have Hk := Lib.hid (kindB_iff k)
  by_cases h1 : s ≤ 1099511627776
  · by_cases hk1 : 1 ≤ k.toNat
    · by_cases hk2 : k.toNat ≤ 2
      · have Hkt : Hid (kindB k = true) := Hk.out.2 ⟨hk1, hk2⟩
        by_cases h3 : body.length ≤ 48
        · cases la with
          | true =>
            go_enter Try.func34, Try.ntmps34
            go_wp2
            go_ret
            exact ⟨ret_bool (by simp [mayB, Hkt.out, h1, h3]), hB⟩
          | false =>
            by_cases h4 : body.length = 48
            · have e4 : ((body.length : Int) == 48) = true := by rw [beq_iff_eq]; omega
              have H4 := Lib.hid h4
              clear h4
              go_enter Try.func34, Try.ntmps34
              go_wp2
              go_ret
              exact ⟨ret_bool (by simp [mayB, Hkt.out, h1, H4.out]), hB⟩
            · have e4 : ((body.length : Int) == 48) = false := by rw [beq_eq_false_iff_ne]; omega
              go_enter Try.func34, Try.ntmps34
              go_wp2
              go_ret
              exact ⟨ret_bool (by simp [mayB, Hkt.out, h1, h4]), hB⟩
        · go_enter Try.func34, Try.ntmps34
          go_wp2
          go_ret
          exact ⟨ret_bool (by simp [mayB, h3]), hB⟩
      · have Hkt : Hid (kindB k = false) := by
          rw [← Bool.not_eq_true]; intro h; have := Hk.out.1 h; omega
        go_enter Try.func34, Try.ntmps34
        go_wp2
        go_ret
        exact ⟨ret_bool (by simp [mayB, Hkt.out]), hB⟩
    · have Hkt : Hid (kindB k = false) := by
        rw [← Bool.not_eq_true]; intro h; have := Hk.out.1 h; omega
      go_enter Try.func34, Try.ntmps34
      go_wp2
      go_ret
      exact ⟨ret_bool (by simp [mayB, Hkt.out]), hB⟩
  · go_enter Try.func34, Try.ntmps34
    go_wp2
    go_ret
    exact ⟨ret_bool (by simp [mayB, h1]), hB⟩

/-- The bytes of a block ahead of its sum. -/
def leB (s n : Nat) : List UInt8 := (List.range n).map fun i => UInt8.ofNat (s / 256 ^ i % 256)
def markN (b : Blk) : Nat := b.kind.toNat + (if b.first then 4 else 0) + (if b.last then 8 else 0)
def encB (b : Blk) : List UInt8 := leB b.serial 8 ++ [UInt8.ofNat (markN b), UInt8.ofNat b.body.length] ++ b.body ++ List.replicate (50 - b.body.length) 0
def sealB (b : Blk) : List UInt8 := encB b ++ crcB (sum (encB b))

theorem leB_succ (s n : Nat) : leB s (n + 1) = leB s n ++ [UInt8.ofNat (s / 256 ^ n % 256)] := by simp [leB, List.range_succ]
theorem leB_length (s n : Nat) : (leB s n).length = n := by simp [leB]
theorem encB_length (b : Blk) (h : b.body.length ≤ 48) : (encB b).length = 60 := by
  simp [encB, leB_length]; omega

end Go.Proofs.Ytdlbjllgdikadaa
