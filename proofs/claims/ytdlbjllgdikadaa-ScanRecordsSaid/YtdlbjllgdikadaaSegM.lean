/- What is sealed reads as it was; the document's Encode of what may not be. -/
import Derived.Test.YtdlbjllgdikadaaSegL
import Derived.Test.YtdlbjllgdikadaaLaw01
namespace Go.Proofs.Ytdlbjllgdikadaa
open Go.RowKit CrcM

theorem leN_leB (n : Nat) : ∀ s, s < 256 ^ n → leN (leB s n) = s := by
  induction n with
  | zero => intro s hs; simp at hs; subst hs; rfl
  | succ n ih =>
    intro s hs
    have e : s = (UInt8.ofNat (s % 256)).toNat + 256 * (s / 256) := by simp; omega
    rw [e, leB_cons, leN, ih (s / 256) (by rw [Nat.pow_succ] at hs; omega)]

theorem seal_form (x : Blk) : sealB x = leB x.serial 8 ++ (UInt8.ofNat (markN x) :: UInt8.ofNat x.body.length :: (x.body ++ (List.replicate (50 - x.body.length) 0 ++ crcB (sum (encB x))))) := by
  unfold sealB encB
  simp only [List.append_assoc, List.cons_append, List.nil_append]

theorem seal_length (x : Blk) (h : x.body.length ≤ 48) : (sealB x).length = 64 := by
  unfold sealB
  rw [List.length_append, encB_length x h]
  rfl

theorem seal_ends (x : Blk) : endsB (sealB x) = true := by
  unfold sealB
  rw [ends_of _ _ rfl, beq_self_eq_true]

theorem decX_seal (x : Blk) (hm : mayB x = true) : decX (sealB x) = x := by
  have hmm := hm
  simp only [mayB, Bool.and_eq_true, decide_eq_true_eq, kindB_iff] at hmm
  obtain ⟨⟨⟨hs, hk1, hk2⟩, hl⟩, _⟩ := hmm
  have e8 : (leB x.serial 8).length = 8 := leB_length _ _
  have h8 : byteAt (sealB x) 8 = markN x := by
    unfold byteAt
    rw [seal_form, List.getD_eq_getElem?_getD, List.getElem?_append_right (by rw [e8]; exact Nat.le_refl _), e8]
    have : markN x < 256 := by unfold markN; split <;> split <;> omega
    simp; omega
  have h9 : byteAt (sealB x) 9 = x.body.length := by
    unfold byteAt
    rw [seal_form, List.getD_eq_getElem?_getD, List.getElem?_append_right (by rw [e8]; decide), e8]
    simp; omega
  have ht : (sealB x).take 8 = leB x.serial 8 := by
    rw [seal_form, List.take_append_of_le_length (by rw [e8]; exact Nat.le_refl _), List.take_of_length_le (by rw [e8]; exact Nat.le_refl _)]
  have hd : (sealB x).drop 10 = x.body ++ (List.replicate (50 - x.body.length) 0 ++ crcB (sum (encB x))) := by
    rw [seal_form, show (10 : Nat) = (leB x.serial 8).length + 2 by rw [e8], ← List.drop_drop, List.drop_left]
    rfl
  unfold decX
  rw [h8, h9, ht, hd, leN_leB 8 _ (by omega), Nat.min_eq_left hl, List.take_left]
  obtain ⟨s, k, f, la, body⟩ := x
  have hk : UInt8.ofNat (markN ⟨s, k, f, la, body⟩ % 4 + markN ⟨s, k, f, la, body⟩ / 16 * 16) = k := by
    apply UInt8.toNat.inj
    unfold markN
    simp only at hk1 hk2
    cases f <;> cases la <;> simp <;> omega
  have hf : (markN ⟨s, k, f, la, body⟩ / 4 % 2 == 1) = f := by
    unfold markN
    simp only at hk1 hk2
    cases f <;> cases la <;> simp <;> omega
  have ha : (markN ⟨s, k, f, la, body⟩ / 8 % 2 == 1) = la := by
    unfold markN
    simp only at hk1 hk2
    cases f <;> cases la <;> simp <;> omega
  rw [hk, hf, ha]

theorem dec_seal (x : Blk) (hm : mayB x = true) : decE (sealB x) = 0 ∧ decB (sealB x) = x := by
  have hmm := hm
  simp only [mayB, Bool.and_eq_true, decide_eq_true_eq] at hmm
  have hX := decX_seal x hm
  have h : decE (sealB x) = 0 := by
    unfold decE decOk
    rw [seal_length x hmm.1.2, seal_ends, hX, hm, beq_self_eq_true]
    rfl
  exact ⟨h, by unfold decB; rw [if_pos h, hX]⟩

set_option maxRecDepth 100000 in
theorem refencode_bad (b : Blk) (a : Option Addr) (cap : Nat) (w : World) (hs : b.serial < 18446744073709551616) (hl : b.body.length ≤ 9223372036854775807) (hbad : mayB b = false) :
    Calls Try.prog 32 #[.agg (b.cells a cap)] w fun e w' => e = .returned (.tuple #[.slice none 0 0, .int .i64 2]) ∧ Below w.heap.size w w' := by
  have hm : ∀ W, Calls Try.prog 34 #[.agg (b.cells a cap)] W fun e w' => e = .returned (.bool false) ∧ Below W.heap.size W w' := fun W => by
    rw [← hbad]; exact refmay_calls b a cap W hs hl
  have Hbad := Lib.hid hbad
  clear hbad
  obtain ⟨s, k, f, la, body⟩ := b
  simp only [Blk.cells] at *
  have hB : Below w.heap.size w (w.alloc (.cells (Blk.cells ⟨s, k, f, la, body⟩ a cap) 43)) := (Below.refl _ _).alloc (Nat.le_refl _) _
  go_enter Try.func32, Try.ntmps32
  go_wp2_with (go_at_call 34; refine (hm _).mono ?_; rintro e w2 ⟨rfl, hB2⟩)
  go_ret2
  exact ⟨rfl, below_call hB (by simp) hB2⟩

end Go.Proofs.Ytdlbjllgdikadaa
