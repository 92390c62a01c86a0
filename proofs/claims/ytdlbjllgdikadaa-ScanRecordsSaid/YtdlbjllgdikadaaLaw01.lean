/- The statements of crc: known, CrcOne. -/
import Derived.Test.YtdlbjllgdikadaaRefC
namespace Go.Proofs.Ytdlbjllgdikadaa
open Go.RowKit CrcM

def nine : List UInt8 := [49, 50, 51, 52, 53, 54, 55, 56, 57]

theorem sum_nine : (sum nine).toNat = 3421780262 := by decide +kernel
theorem sum_four : (sum [49, 50, 51, 52]).toNat = 2615402659 := by decide +kernel
theorem sum_none : (sum []).toNat = 0 := by decide +kernel
theorem more_nine : (more 2615402659#32 [53, 54, 55, 56, 57]).toNat = 3421780262 := by decide +kernel
theorem ends_zero : endsB [0, 0, 0, 0] = true := by decide +kernel

set_option maxRecDepth 100000 in
theorem known01_calls (w : World) :
    Calls Try.prog 15 #[] w fun e w' => e = .returned (.bool true) ∧ Below w.heap.size w w' := by
  go_enter Try.func15, Try.ntmps15
  go_wp2
  obtain ⟨w1, hw1⟩ : ∃ w1, w1 = w.alloc (.cells (bvals nine).toArray 5 (9, 10)) := ⟨_, rfl⟩
  have hb : IsBytes w1 (some ⟨w.heap.size, 0, none⟩) nine := by rw [hw1]; exact IsBytes.marked rfl
  have hB : Below w.heap.size w w1 := by rw [hw1]; exact (Below.refl _ _).alloc (Nat.le_refl _) _
  change Code.wp _ _ _ _ (w.alloc (.cells (bvals nine).toArray 5 (9, 10)))
  rw [← hw1]
  clear hw1
  obtain ⟨g, hg⟩ : ∃ g, g = w.heap.size := ⟨_, rfl⟩
  rw [← hg] at hb ⊢
  clear hg
  have h1 : ∀ W, Calls Try.prog 17 #[.slice none 0 0] W fun e w' => e = .returned (.int .u32 0) ∧ Below W.heap.size W w' := fun W => by
    have h := sum_calls none [] 0 W (by simp) (IsBytes.nil _ _)
    rw [sum_none] at h
    exact h
  have h2 : ∀ W, Below w1.heap.size w1 W → Calls Try.prog 17 #[.slice (some ⟨g, 0, none⟩) 9 9] W fun e w' => e = .returned (.int .u32 3421780262) ∧ Below W.heap.size W w' := fun W hW => by
    have h := sum_calls (some ⟨g, 0, none⟩) nine 9 W (by simp [nine]) (hb.later hW)
    rw [sum_nine] at h
    exact h
  have h3 : ∀ W, Below w1.heap.size w1 W → Calls Try.prog 17 #[.slice (some ⟨g, 0, none⟩) 4 9] W fun e w' => e = .returned (.int .u32 2615402659) ∧ Below W.heap.size W w' := fun W hW => by
    have h := sum_calls (some ⟨g, 0, none⟩) [49, 50, 51, 52] 9 W (by simp) ((hb.later hW).take 4)
    rw [sum_four] at h
    exact h
  have h4 : ∀ W, Below w1.heap.size w1 W → Calls Try.prog 19 #[.int .u32 2615402659, .slice (some ⟨g, 4, none⟩) 5 5] W fun e w' => e = .returned (.int .u32 3421780262) ∧ Below W.heap.size W w' := fun W hW => by
    have h := more_calls 2615402659#32 (some ⟨g, 4, none⟩) [53, 54, 55, 56, 57] 5 W (by simp) ((hb.later hW).drop 4 9 (by simp [nine]))
    rw [more_nine] at h
    exact h
  have h5 : ∀ W : World, Calls Try.prog 21 #[.slice (some ⟨W.heap.size, 0, none⟩) 4 4] (W.alloc (.cells #[.int .u8 0, .int .u8 0, .int .u8 0, .int .u8 0] 5)) fun e w' => e = .returned (.bool true) ∧ Below (W.alloc (.cells #[.int .u8 0, .int .u8 0, .int .u8 0, .int .u8 0] 5)).heap.size (W.alloc (.cells #[.int .u8 0, .int .u8 0, .int .u8 0, .int .u8 0] 5)) w' := fun W => by
    have h := ends_calls (some ⟨W.heap.size, 0, none⟩) [0, 0, 0, 0] 4 (W.alloc (.cells #[.int .u8 0, .int .u8 0, .int .u8 0, .int .u8 0] 5)) (by simp) (by simp) (IsBytes.made rfl)
    rw [ends_zero] at h
    exact h
  have hne : Nonempty (SW (fun W => Below w1.heap.size w1 W)) := ⟨⟨w1, Below.refl _ _⟩⟩
  have H1 := Lib.hid h1
  refine wp_region_seq (fun W => Below w1.heap.size w1 W) [(0, false), (1, true), (2, true), (3, true), (4, false), (5, true), (6, true), (7, true), (8, true), (9, true), (11, true), (12, true), (10, false), (13, false), (14, true), (15, true), (16, true), (17, false), (18, false), (19, true), (20, true)] (by kernel_rfl) (by kernel_rfl) (fun d _ _ _ _ h => by cases d <;> exact h) ((Below.refl _ _).drew) ?_
  repeat (first
    | (refine wpSeq_skip (o := ⟨_, _, _, _, _, _⟩) rfl rfl ?_; simp only [Act.put, List.setIfInBounds_toArray, List.set_cons_zero, List.set_cons_succ])
    | (refine wpSeq_free (o := ⟨_, _, _, _, _, _⟩) rfl rfl (fun K hK => ?_); go_big_quiet_op; (refine hK _ ?_; clear hK K)))
  refine wpSeq_next (o := ⟨_, _, _, _, _, _⟩) rfl rfl (fun K hK => ?_)
  go_simp
  go_at_call 17
  refine (h1 _).mono ?_
  rintro e w2 ⟨rfl, hw2⟩
  have hS2 : Below w1.heap.size w1 w2 := (Below.refl _ _).drew.trans hw2
  refine hK.out _ _ (hS2) ?_
  clear hK K
  repeat (first
    | (refine wpSeq_skip (o := ⟨_, _, _, _, _, _⟩) rfl rfl ?_; simp only [Act.put, List.setIfInBounds_toArray, List.set_cons_zero, List.set_cons_succ])
    | (refine wpSeq_free (o := ⟨_, _, _, _, _, _⟩) rfl rfl (fun K hK => ?_); go_big_quiet_op; (refine hK _ ?_; clear hK K)))
  refine wpSeq_next (o := ⟨_, _, _, _, _, _⟩) rfl rfl (fun K hK => ?_)
  go_simp
  go_at_call 17
  refine (h2 _ hS2).mono ?_
  rintro e w3 ⟨rfl, hw3⟩
  have hS3 : Below w1.heap.size w1 w3 := below_call hS2 (Nat.le_refl _) hw3
  refine hK.out _ _ (hS3) ?_
  clear hK K
  repeat (first
    | (refine wpSeq_skip (o := ⟨_, _, _, _, _, _⟩) rfl rfl ?_; simp only [Act.put, List.setIfInBounds_toArray, List.set_cons_zero, List.set_cons_succ])
    | (refine wpSeq_free (o := ⟨_, _, _, _, _, _⟩) rfl rfl (fun K hK => ?_); go_big_quiet_op; (refine hK _ ?_; clear hK K)))
  refine wpSeq_next (o := ⟨_, _, _, _, _, _⟩) rfl rfl (fun K hK => ?_)
  go_simp
  go_at_call 17
  refine (h3 _ hS3).mono ?_
  rintro e w4 ⟨rfl, hw4⟩
  have hS4 : Below w1.heap.size w1 w4 := below_call hS3 (Nat.le_refl _) hw4
  refine hK.out _ _ (hS4) ?_
  clear hK K
  repeat (first
    | (refine wpSeq_skip (o := ⟨_, _, _, _, _, _⟩) rfl rfl ?_; simp only [Act.put, List.setIfInBounds_toArray, List.set_cons_zero, List.set_cons_succ])
    | (refine wpSeq_free (o := ⟨_, _, _, _, _, _⟩) rfl rfl (fun K hK => ?_); go_big_quiet_op; (refine hK _ ?_; clear hK K)))
  refine wpSeq_next (o := ⟨_, _, _, _, _, _⟩) rfl rfl (fun K hK => ?_)
  go_simp
  go_at_call 19
  refine (h4 _ hS4).mono ?_
  rintro e w5 ⟨rfl, hw5⟩
  have hS5 : Below w1.heap.size w1 w5 := below_call hS4 (Nat.le_refl _) hw5
  refine hK.out _ _ (hS5) ?_
  clear hK K
  repeat (first
    | (refine wpSeq_skip (o := ⟨_, _, _, _, _, _⟩) rfl rfl ?_; simp only [Act.put, List.setIfInBounds_toArray, List.set_cons_zero, List.set_cons_succ])
    | (refine wpSeq_free (o := ⟨_, _, _, _, _, _⟩) rfl rfl (fun K hK => ?_); go_big_quiet_op; (refine hK _ ?_; clear hK K)))
  refine wpSeq_next (o := ⟨_, _, _, _, _, _⟩) rfl rfl (fun K hK => ?_)
  go_simp
  refine hK.out _ _ (hS5.alloc hS5.size _) ?_
  clear hK K
  repeat (first
    | (refine wpSeq_skip (o := ⟨_, _, _, _, _, _⟩) rfl rfl ?_; simp only [Act.put, List.setIfInBounds_toArray, List.set_cons_zero, List.set_cons_succ])
    | (refine wpSeq_free (o := ⟨_, _, _, _, _, _⟩) rfl rfl (fun K hK => ?_); go_big_quiet_op; (refine hK _ ?_; clear hK K)))
  refine wpSeq_next (o := ⟨_, _, _, _, _, _⟩) rfl rfl (fun K hK => ?_)
  go_simp
  go_at_call 21
  refine (h5 _).mono ?_
  rintro e w6 ⟨rfl, hw6⟩
  have hS6 : Below w1.heap.size w1 w6 := below_call (hS5.alloc hS5.size _) (Nat.le_refl _) hw6
  refine hK.out _ _ (hS6) ?_
  clear hK K
  repeat (first
    | (refine wpSeq_skip (o := ⟨_, _, _, _, _, _⟩) rfl rfl ?_; simp only [Act.put, List.setIfInBounds_toArray, List.set_cons_zero, List.set_cons_succ])
    | (refine wpSeq_free (o := ⟨_, _, _, _, _, _⟩) rfl rfl (fun K hK => ?_); go_big_quiet_op; (refine hK _ ?_; clear hK K)))
  refine wpSeq_nil ?_
  go_wp2
  go_ret
  exact ⟨rfl, hB.trans (hS6.mono hB.size)⟩

theorem leN_crcB (s : BitVec 32) : leN (crcB s) = s.toNat := by
  have h := crcB_iff s (crcB s) rfl
  rw [beq_self_eq_true] at h
  exact beq_iff_eq.1 h.symm

theorem crcB_inj (s t : BitVec 32) (h : crcB s = crcB t) : s = t := by
  apply BitVec.eq_of_toNat_eq
  rw [← leN_crcB, ← leN_crcB, h]

theorem ends_of (l t : List UInt8) (ht : t.length = 4) : endsB (l ++ t) = (crcB (sum l) == t) := by
  unfold endsB
  have e : (l ++ t).length - 4 = l.length := by rw [List.length_append]; omega
  rw [e, decide_eq_true (by rw [List.length_append]; omega), Bool.true_and, List.drop_left, List.take_left, ← crcB_iff _ _ ht]

/-- With any one byte of it another one it does not end so. -/
theorem ends_one (l : List UInt8) (k : Nat) (hk : k < (l ++ crcB (sum l)).length) (x : UInt8) :
    endsB ((l ++ crcB (sum l)).set k x) = (x == (l ++ crcB (sum l))[k]) := by
  by_cases hx : x = (l ++ crcB (sum l))[k]
  · rw [beq_iff_eq.2 hx, hx, List.set_getElem_self, ends_of _ _ rfl, beq_self_eq_true]
  · rw [beq_eq_false_iff_ne.2 hx]
    have hl4 : (crcB (sum l)).length = 4 := rfl
    by_cases h : k < l.length
    · rw [List.set_append_left _ _ h, ends_of _ _ hl4, beq_eq_false_iff_ne]
      intro e
      have e2 := sum_ne l k h x (crcB_inj _ _ e)
      rw [List.getElem_append_left h] at hx
      exact hx e2
    · rw [List.set_append_right _ _ (by omega), ends_of _ _ (by rw [List.length_set]; rfl), beq_eq_false_iff_ne]
      intro e
      apply hx
      rw [List.getElem_append_right (by omega)]
      have hk2 : k - l.length < (crcB (sum l)).length := by rw [List.length_append] at hk; omega
      have e3 : (crcB (sum l))[k - l.length]'hk2 = ((crcB (sum l)).set (k - l.length) x)[k - l.length]'(by rw [List.length_set]; exact hk2) := by
        simp only [← e]
      rw [e3, List.getElem_set_self]

theorem ends_one' (l r : List UInt8) (hr : r = l ++ crcB (sum l)) (k : Nat) (hk : k < r.length) (x : UInt8) : endsB (r.set k x) = (x == r[k]) := by
  subst hr
  exact ends_one l k hk x

set_option maxRecDepth 100000 in
theorem crcOne_walk (a : Option Addr) (l : List UInt8) (cap : Nat) (at_ : Int) (x : UInt8) (w : World) (hc : l.length ≤ cap) (hn : a = none → l = [] ∧ cap = 0) (hb : IsBytes w a l) :
    Calls Try.prog 4 #[.slice a l.length cap, .int .i64 at_, .int .u8 (x.toNat : Int)] w fun e w' => e = .returned (.bool true) ∧ Below w.heap.size w w' := by

  by_cases hbig : 2000 < l.length
  · go_enter Try.func4, Try.ntmps4
    go_wp2_with (go_at_call 15; refine (known01_calls _).mono ?_; rintro e w1 ⟨rfl, hw1⟩)
    go_ret
    exact ⟨rfl, hw1⟩
  · have h0 := append_calls a l cap w (by omega) hc hn hb
    obtain ⟨r, hr⟩ : ∃ r, r = l ++ crcB (sum l) := ⟨_, rfl⟩
    have hrl : r.length = l.length + 4 := by rw [hr, List.length_append]; rfl
    have he1 : endsB r = true := by rw [hr, ends_of _ _ rfl, beq_self_eq_true]
    rw [← hr] at h0
    have Hr := Lib.hid hr
    have Hrl := Lib.hid hrl
    have He1 := Lib.hid he1
    clear hr hrl he1
    go_enter Try.func4, Try.ntmps4
    go_wp2_with (go_at_call 16; refine h0.mono ?_; rintro e w1 ⟨v, rfl, hown, hw1⟩; have hsl := hown.slice; rw [Hrl.out] at hsl; obtain ⟨a2, c2, rfl, hb2, hle2, hcm2, hblk2, _⟩ := hsl)
    obtain ⟨g, rfl, hg1, hg2⟩ : ∃ g, a2 = some ⟨g, 0, none⟩ ∧ w.heap.size ≤ g ∧ g < w1.heap.size := by
      obtain ⟨b, off, e, _⟩ := hb2 0 (by rw [Hrl.out]; omega)
      obtain ⟨g, e2, h1, h2⟩ := hblk2 _ e
      exact ⟨g, by rw [e, e2], h1, h2⟩
    have h21 : ∀ (W : World) (t : List UInt8), t.length = l.length + 4 → IsBytes W (some ⟨g, 0, none⟩) t → Calls Try.prog 21 #[.slice (some ⟨g, 0, none⟩) (l.length + 4) c2] W fun e w' => e = .returned (.bool (endsB t)) ∧ Below W.heap.size W w' := fun W t ht hW => by
      have h := ends_calls (some ⟨g, 0, none⟩) t c2 W (by omega) (by omega) hW
      rw [ht] at h
      exact h
    have H21 := Lib.hid h21
    clear h21 h0 hb
    go_at_call 21
    refine (H21.out _ r Hrl.out hb2).mono ?_
    rintro e w2 ⟨rfl, hw2⟩
    rw [He1.out]
    simp only []
    have hown2 := hown.later hw2
    obtain ⟨k, hix, hk⟩ := idx_mod at_ ((l.length : Int) + 4) (l.length + 4) (by omega) (by omega)
    have hkr : k < r.length := by rw [Hrl.out]; exact hk
    have hcell := hown2.bytes.cell k hkr
    have hfr := hown2.free Hrl.out.symm k
    rw [Nat.zero_add] at hcell
    obtain ⟨y, hy⟩ : ∃ y, y = r[k] := ⟨_, rfl⟩
    rw [← hy] at hcell
    have Hy := Lib.hid hy
    clear hy
    have hown3 := hown2.stored Hrl.out.symm k x
    have hlen3 : (r.set k x).length = l.length + 4 := by rw [List.length_set]; exact Hrl.out
    have he3 : endsB (r.set k x) = (x == y) := by
      rw [Hy.out]
      exact ends_one' l r Hr.out k hkr x
    have He3 := Lib.hid he3
    have Hlen3 := Lib.hid hlen3
    clear he3 hlen3
    have hbe : ((x.toNat : Int) == (y.toNat : Int)) = (x == y) := by
      by_cases e : x = y
      · subst e; rw [beq_self_eq_true, beq_self_eq_true]
      · rw [beq_eq_false_iff_ne.2 e, beq_eq_false_iff_ne]
        intro h
        exact e (UInt8.toNat.inj (by omega))
    obtain ⟨q, hq⟩ : ∃ q, q = (x == y) := ⟨_, rfl⟩
    have He4 : Hid (endsB (r.set k x) = q) := by rw [hq]; exact He3.out
    rw [← hq] at hbe
    clear hq
    have hqq : (q == q) = true := beq_self_eq_true q
    go_wp2_with (first
      | (go_at_call 21; refine (H21.out _ (r.set k x) Hlen3.out hown3.bytes).mono ?_; rintro e w3 ⟨rfl, hw3⟩; rw [He4.out])
      | (go_at_call 15; refine (known01_calls _).mono ?_; rintro e w4 ⟨rfl, hw4⟩))
    go_ret
    refine ⟨rfl, ?_⟩
    have h2 := below_call hw1 (Nat.le_refl _) hw2
    have h3 := h2.setCell (p := ⟨g, k, none⟩) hg1 (.int .u8 (x.toNat : Int))
    exact below_call (below_call h3 (Nat.le_refl _) hw3) (Nat.le_refl _) hw4
end Go.Proofs.Ytdlbjllgdikadaa
