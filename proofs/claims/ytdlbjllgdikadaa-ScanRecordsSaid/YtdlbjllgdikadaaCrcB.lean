/- The walk of the package crc: Sum, Append, Ends. -/
import Derived.Test.YtdlbjllgdikadaaCrcA
namespace Go.Proofs.Ytdlbjllgdikadaa
open Go.RowKit CrcM

theorem sum_calls (a : Option Addr) (l : List UInt8) (cap : Nat) (w : World) (hl : l.length ≤ 9223372036854775807) (hb : IsBytes w a l) :
    Calls Try.prog 17 #[.slice a l.length cap] w fun e w' => e = .returned (.int .u32 ((sum l).toNat : Int)) ∧ Below w.heap.size w w' := by
  have h0 : Calls Try.prog 19 #[.int .u32 0, .slice a l.length cap] w fun e w' => e = .returned (.int .u32 ((sum l).toNat : Int)) ∧ Below w.heap.size w w' := more_calls 0#32 a l cap w hl hb
  go_enter Try.func17, Try.ntmps17
  go_wp2_with (go_at_call 19; refine h0.mono ?_; rintro e w1 ⟨rfl, hw1⟩)
  go_ret
  exact ⟨rfl, hw1⟩

/-- A sum's four bytes, the lowest one first. -/
def crcB (s : BitVec 32) : List UInt8 := [UInt8.ofNat (s.toNat % 256), UInt8.ofNat (s.toNat / 256 % 256), UInt8.ofNat (s.toNat / 65536 % 256), UInt8.ofNat (s.toNat / 16777216 % 256)]

set_option maxRecDepth 100000 in
theorem append_calls (a : Option Addr) (l : List UInt8) (cap : Nat) (w : World) (hl : l.length ≤ 70368744177664) (hc : l.length ≤ cap) (hn : a = none → l = [] ∧ cap = 0) (hb : IsBytes w a l) :
    Calls Try.prog 16 #[.slice a l.length cap] w fun e w' => ∃ v, e = .returned v ∧ OwnB w' w.heap.size v (l ++ crcB (sum l)) ∧ Below w.heap.size w w' := by
  obtain ⟨c, hcd⟩ : ∃ c, c = sum l := ⟨_, rfl⟩
  have h0 := sum_calls a l cap w (by omega) hb
  rw [← hcd] at h0 ⊢
  have Hc := Lib.hid hcd
  clear hcd
  have hlt : c.toNat < 4294967296 := c.isLt
  have hB : #[Value.int .u8 ((c.toNat : Int) % 256), .int .u8 ((c.toNat : Int) / 256 % 256), .int .u8 ((c.toNat : Int) / 65536 % 256), .int .u8 ((c.toNat : Int) / 16777216)] = (bvals (crcB c)).toArray := by
    have h1 : c.toNat / 16777216 % 256 = c.toNat / 16777216 := Nat.mod_eq_of_lt (by omega)
    simp [bvals, bval, crcB, h1]
  have HB := Lib.hid hB
  clear hB
  have hlen : (crcB c).length = 4 := rfl
  have hn2 : a = none → l.length = 0 ∧ l.length = 0 := fun h => by simp [(hn h).1]
  go_enter Try.func16, Try.ntmps16
  go_wp2_with (first
    | (go_at_call 17; refine h0.mono ?_; rintro e w1 ⟨rfl, hw1⟩)
    | (at_builtin; refine wpList_append_full rfl (.tmp 11) (.tmp 23) rfl a l.length l.length l rfl rfl hn2 ((hb.later hw1).alloc _) ⟨w1.heap.size, 0, none⟩ 4 4 (crcB c) rfl rfl (IsBytes.made HB.out) (by omega) (by rw [hlen]; omega) ?_; intro v' w2 hown hgr))
  go_ret
  have hsz := hw1.size
  refine ⟨v', rfl, hown.mono (by simp; omega), ?_⟩
  exact (hw1.trans (((Below.refl _ _).alloc (Nat.le_refl _) _).mono hsz)).grown hgr (by simp; omega) (fun k hk => by cases hk)

/-- The number that bytes are, the lowest one first. -/
def leN : List UInt8 → Nat
  | [] => 0
  | b :: r => b.toNat + 256 * leN r

theorem leN_snoc (l : List UInt8) (b : UInt8) : leN (l ++ [b]) = leN l + b.toNat * 256 ^ l.length := by
  induction l with
  | nil => simp [leN]
  | cons x r ih =>
    simp only [List.cons_append, leN, ih, List.length_cons, Nat.pow_succ]
    rw [Nat.mul_add, ← Nat.add_assoc]
    congr 1
    rw [Nat.mul_comm (256 ^ r.length) 256, ← Nat.mul_assoc, ← Nat.mul_assoc, Nat.mul_comm 256 b.toNat]

theorem leN_lt (l : List UInt8) : leN l < 256 ^ l.length := by
  induction l with
  | nil => simp [leN]
  | cons x r ih =>
    have hx := x.toNat_lt
    simp only [leN, List.length_cons, Nat.pow_succ]
    omega

def endsB (l : List UInt8) : Bool := decide (4 ≤ l.length) && (leN (l.drop (l.length - 4)) == (sum (l.take (l.length - 4))).toNat)

theorem or_le (n x p q : Nat) (hn : n < p) (hp : ∃ i, p = 2 ^ i) (hq : q = n + x * p) (h32 : q < 4294967296) : bits .or .u32 (n : Int) ((x : Int) * (p : Int)) = (q : Int) := by
  have e : (x : Int) * (p : Int) = ((x * p : Nat) : Int) := by simp
  rw [e, u32_or_nat n (x * p) (by omega) (by omega)]
  congr 1
  obtain ⟨i, rfl⟩ := hp
  have := Nat.two_pow_add_eq_or_of_lt hn x
  rw [hq, Nat.or_comm, Nat.mul_comm x, ← this, Nat.add_comm]

set_option maxRecDepth 100000 in
theorem ends_calls (a : Option Addr) (l : List UInt8) (cap : Nat) (w : World) (hl : l.length ≤ 70368744177664) (hc : l.length ≤ cap) (hb : IsBytes w a l) :
    Calls Try.prog 21 #[.slice a l.length cap] w fun e w' => e = .returned (.bool (endsB l)) ∧ Below w.heap.size w w' := by
  by_cases h4 : l.length < 4
  · have he : endsB l = false := by simp [endsB]; omega
    rw [he]
    go_enter Try.func21, Try.ntmps21
    go_wp2
    go_ret
    exact ⟨rfl, Below.refl _ _⟩
  · obtain ⟨n, hn⟩ : ∃ n, l.length = n + 4 := ⟨l.length - 4, by omega⟩
    have h0 := sum_calls a (l.take n) cap w (by rw [List.length_take]; omega) (hb.take n)
    have hln : (l.take n).length = n := by rw [List.length_take]; omega
    rw [hln] at h0
    have he : endsB l = (leN (l.drop n) == (sum (l.take n)).toNat) := by
      unfold endsB
      rw [show l.length - 4 = n by omega]
      simp; omega
    rw [he]
    have hdl : (l.drop n).length = 4 := by rw [List.length_drop]; omega
    have hbd : ∀ k (hk : k < 4), ∃ b off x, a = some ⟨b, off, none⟩ ∧ w.cell? ⟨b, off + (n + k), none⟩ = some (.int .u8 ((x : UInt8).toNat : Int)) ∧ (l.drop n).take (k + 1) = (l.drop n).take k ++ [x] := by
      intro k hk
      obtain ⟨b, off, e, hcell⟩ := hb (n + k) (by omega)
      refine ⟨b, off, l[n + k]'(by omega), e, hcell, ?_⟩
      rw [List.take_succ_eq_append_getElem (by omega)]
      simp
    obtain ⟨s, hs⟩ : ∃ s, s = sum (l.take n) := ⟨_, rfl⟩
    rw [← hs] at h0 ⊢
    obtain ⟨t, ht⟩ : ∃ t, t = l.drop n := ⟨_, rfl⟩
    rw [← ht] at hbd hdl ⊢
    clear hs ht he hln
    have hn2 : (l.length : Int) = (n : Int) + 4 := by omega
    have Hbd := Lib.hid hbd
    clear hbd hb
    have hnb : n ≤ 70368744177660 := by omega
    have hcn : n ≤ cap := by omega
    rw [hn]
    clear hn hn2 hl hc
    go_enter Try.func21, Try.ntmps21
    go_wp2
    go_loop [3, 12] (fun c i => ∃ k : Nat, k ≤ 4 ∧ i = .int .i64 k ∧ c = .int .u32 ((leN (t.take k) : Nat) : Int)) (fun _ i => 4 - (intOf i).toNat)
    case atStart => exact ⟨0, Nat.zero_le _, rfl, by simp [leN]⟩
    case round =>
      obtain ⟨k, hk, rfl, rfl⟩ := hrel
      by_cases hlt : k < 4
      · obtain ⟨b, off, x, rfl, hcell, htk⟩ := Hbd.out k hlt
        have hx : x.toNat < 256 := x.toNat_lt
        have hnext : leN (t.take (k + 1)) = leN (t.take k) + x.toNat * 256 ^ k := by
          rw [htk, leN_snoc, List.length_take, show min k t.length = k by omega]
        have hqb := leN_lt (t.take k)
        rw [List.length_take, show min k t.length = k by omega] at hqb
        obtain ⟨y, hy⟩ : ∃ y, y = leN (t.take k) := ⟨_, rfl⟩
        rw [← hy] at hqb hnext ⊢
        clear htk hy
        obtain rfl | rfl | rfl | rfl : k = 0 ∨ k = 1 ∨ k = 2 ∨ k = 3 := by omega
        · have HN := Lib.hid (or_le y x.toNat 1 _ (by simpa using hqb) ⟨0, rfl⟩ (by simpa using hnext) (by rw [hnext]; simp at hqb ⊢; omega))
          simp only [Nat.add_zero] at hcell
          clear hnext
          go_wp2
          go_round
          case rel => exact ⟨1, by omega, rfl, congrArg (Value.int .u32) (by simpa using HN.out)⟩
          case measure => simp [intOf]
        · have HN := Lib.hid (or_le y x.toNat 256 _ (by simpa using hqb) ⟨8, rfl⟩ (by simpa using hnext) (by rw [hnext]; simp at hqb ⊢; omega))
          clear hnext
          go_wp2
          go_round
          case rel => exact ⟨2, by omega, rfl, congrArg (Value.int .u32) (HN.out)⟩
          case measure => simp [intOf]
        · have HN := Lib.hid (or_le y x.toNat 65536 _ (by simpa using hqb) ⟨16, rfl⟩ (by simpa using hnext) (by rw [hnext]; simp at hqb ⊢; omega))
          clear hnext
          go_wp2
          go_round
          case rel => exact ⟨3, by omega, rfl, congrArg (Value.int .u32) (HN.out)⟩
          case measure => simp [intOf]
        · have HN := Lib.hid (or_le y x.toNat 16777216 _ (by simpa using hqb) ⟨24, rfl⟩ (by simpa using hnext) (by rw [hnext]; simp at hqb ⊢; omega))
          clear hnext
          go_wp2
          go_round
          case rel => exact ⟨4, by omega, rfl, congrArg (Value.int .u32) (HN.out)⟩
          case measure => simp [intOf]
      · obtain rfl : k = 4 := by omega
        go_wp2_with (go_at_call 17; refine h0.mono ?_; rintro e w1 ⟨rfl, hw1⟩)
        go_ret
        refine ⟨ret_bool ?_, hw1⟩
        have e1 : t.take 4 = t := List.take_of_length_le (by omega)
        rw [e1]
        by_cases hq : leN t = s.toNat
        · rw [hq]; rw [beq_self_eq_true, beq_self_eq_true]
        · rw [beq_eq_false_iff_ne.2 hq, beq_eq_false_iff_ne.2 (by omega)]
end Go.Proofs.Ytdlbjllgdikadaa
