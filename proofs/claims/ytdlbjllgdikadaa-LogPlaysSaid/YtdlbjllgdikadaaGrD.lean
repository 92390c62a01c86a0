/- From what the rows hand a walk to what the walks say of bytes. The statements of crc: known, CrcOne. The statement CrcSums: its walk. -/
import Derived.Test.YtdlbjllgdikadaaGrA
import Derived.ProofKit
import Derived.OpenShut
import Derived.ShutString
import Derived.ChangeOld
import Derived.Test.YtdlbjllgdikadaaGrC
namespace Go.Proofs.Ytdlbjllgdikadaa
open Go.ChangeShapes Go.WideShapes Go.ChangeAt Go.RowKit

theorem own : ownKnob Try.prog.godebug = none := by kernel_rfl
theorem laidOut : laidOutB Try.prog = true := by kernel_rfl

/-- What a row hands over of a slice of integers that came in. -/
def IsRow (k : IntKind) (w : World) (a : Option Addr) (len cap : Nat) (zs : List Int) : Prop :=
  (a = none ∧ len = 0 ∧ cap = 0 ∧ zs = []) ∨
  ∃ x, a = some x ∧ len ≤ cap ∧ cap ≤ maxLen ∧ zs.length = cap ∧ (∀ i, i < zs.length → w.cell? (x.add i) = some (.int k (zs.getD i 0))) ∧ ∀ n ∈ zs, (Lit.int k n).wf = true

theorem u8_of {n : Int} (h : (Lit.int .u8 n).wf = true) : ∃ x : UInt8, n = (x.toNat : Int) := by
  have hb : 0 ≤ n ∧ n ≤ 255 := by
    simp [Lit.wf, IntKind.min, IntKind.max, IntKind.signed, IntKind.bits] at h
    omega
  refine ⟨UInt8.ofNat n.toNat, ?_⟩
  simp
  omega

theorem bytes_of_row {w : World} {a : Option Addr} {len cap : Nat} {zs : List Int} (h : IsRow .u8 w a len cap zs) :
    ∃ l : List UInt8, len = l.length ∧ l.length ≤ cap ∧ cap ≤ maxLen ∧ (a = none → l = [] ∧ cap = 0) ∧ IsBytes w a l := by
  rcases h with ⟨rfl, rfl, rfl, rfl⟩ | ⟨x, rfl, hl, hm, hz, hcell, hwz⟩
  · exact ⟨[], rfl, Nat.le_refl _, Nat.zero_le _, fun _ => ⟨rfl, rfl⟩, IsBytes.nil _ _⟩
  · refine ⟨(zs.take len).map (fun n => UInt8.ofNat n.toNat), by simp; omega, by simp; omega, hm, (fun h => nomatch h), ?_⟩
    intro i hi
    have hi2 : i < zs.length := by simp at hi; omega
    have hc := hcell i hi2
    obtain ⟨b, off, spot⟩ := x
    have hspot : spot = none := by
      have := World.cell?_spot hc
      unfold Addr.add at this
      split at this
      · rename_i h0
        subst h0
        have h00 := World.cell?_spot (hcell 0 (by omega))
        simpa [Addr.add] using h00
      · have h00 := World.cell?_spot (hcell 0 (by omega))
        simpa [Addr.add] using h00
    subst hspot
    rw [Addr.add_lit] at hc
    refine ⟨b, off, rfl, ?_⟩
    obtain ⟨x, hx⟩ := u8_of (hwz (zs.getD i 0) (by rw [List.getD_eq_getElem?_getD, List.getElem?_eq_getElem hi2]; exact List.getElem_mem _))
    rw [hc, hx]
    simp only [List.getElem_map, List.getElem_take]
    have hx2 : zs[i] = (x.toNat : Int) := by
      rw [← hx, List.getD_eq_getElem?_getD, List.getElem?_eq_getElem hi2]; rfl
    rw [hx2]
    simp

end Go.Proofs.Ytdlbjllgdikadaa

namespace Go.Proofs.Ytdlbjllgdikadaa
open Go.RowKit CrcM

def nine : List UInt8 := [49, 50, 51, 52, 53, 54, 55, 56, 57]

theorem sum_nine : (sum nine).toNat = 3421780262 := by decide +kernel
theorem sum_four : (sum [49, 50, 51, 52]).toNat = 2615402659 := by decide +kernel
theorem sum_none : (sum []).toNat = 0 := by decide +kernel
theorem more_nine : (more 2615402659#32 [53, 54, 55, 56, 57]).toNat = 3421780262 := by decide +kernel
theorem ends_zero : endsB [0, 0, 0, 0] = true := by decide +kernel

set_option maxRecDepth 100000 in
theorem known01_calls (w : World) :
    Calls Try.prog 15 #[] w fun e w' => e = .returned (.bool true) ∧ Below w.heap.size w w' := by
  go_enter Try.func15, Try.ntmps15
  go_wp2
  obtain ⟨w1, hw1⟩ : ∃ w1, w1 = w.alloc (.cells (bvals nine).toArray 5 (9, 10)) := ⟨_, rfl⟩
  have hb : IsBytes w1 (some ⟨w.heap.size, 0, none⟩) nine := by rw [hw1]; exact IsBytes.marked rfl
  have hB : Below w.heap.size w w1 := by rw [hw1]; exact (Below.refl _ _).alloc (Nat.le_refl _) _
  change Code.wp _ _ _ _ (w.alloc (.cells (bvals nine).toArray 5 (9, 10)))
  rw [← hw1]
  clear hw1
  obtain ⟨g, hg⟩ : ∃ g, g = w.heap.size := ⟨_, rfl⟩
  rw [← hg] at hb ⊢
  clear hg
  have h1 : ∀ W, Calls Try.prog 17 #[.slice none 0 0] W fun e w' => e = .returned (.int .u32 0) ∧ Below W.heap.size W w' := fun W => by
    have h := sum_calls none [] 0 W (by simp) (IsBytes.nil _ _)
    rw [sum_none] at h
    exact h
  have h2 : ∀ W, Below w1.heap.size w1 W → Calls Try.prog 17 #[.slice (some ⟨g, 0, none⟩) 9 9] W fun e w' => e = .returned (.int .u32 3421780262) ∧ Below W.heap.size W w' := fun W hW => by
    have h := sum_calls (some ⟨g, 0, none⟩) nine 9 W (by simp [nine]) (hb.later hW)
    rw [sum_nine] at h
    exact h
  have h3 : ∀ W, Below w1.heap.size w1 W → Calls Try.prog 17 #[.slice (some ⟨g, 0, none⟩) 4 9] W fun e w' => e = .returned (.int .u32 2615402659) ∧ Below W.heap.size W w' := fun W hW => by
    have h := sum_calls (some ⟨g, 0, none⟩) [49, 50, 51, 52] 9 W (by simp) ((hb.later hW).take 4)
    rw [sum_four] at h
    exact h
  have h4 : ∀ W, Below w1.heap.size w1 W → Calls Try.prog 19 #[.int .u32 2615402659, .slice (some ⟨g, 4, none⟩) 5 5] W fun e w' => e = .returned (.int .u32 3421780262) ∧ Below W.heap.size W w' := fun W hW => by
    have h := more_calls 2615402659#32 (some ⟨g, 4, none⟩) [53, 54, 55, 56, 57] 5 W (by simp) ((hb.later hW).drop 4 9 (by simp [nine]))
    rw [more_nine] at h
    exact h
  have h5 : ∀ W : World, Calls Try.prog 21 #[.slice (some ⟨W.heap.size, 0, none⟩) 4 4] (W.alloc (.cells #[.int .u8 0, .int .u8 0, .int .u8 0, .int .u8 0] 5)) fun e w' => e = .returned (.bool true) ∧ Below (W.alloc (.cells #[.int .u8 0, .int .u8 0, .int .u8 0, .int .u8 0] 5)).heap.size (W.alloc (.cells #[.int .u8 0, .int .u8 0, .int .u8 0, .int .u8 0] 5)) w' := fun W => by
    have h := ends_calls (some ⟨W.heap.size, 0, none⟩) [0, 0, 0, 0] 4 (W.alloc (.cells #[.int .u8 0, .int .u8 0, .int .u8 0, .int .u8 0] 5)) (by simp) (by simp) (IsBytes.made rfl)
    rw [ends_zero] at h
    exact h
  have hne : Nonempty (SW (fun W => Below w1.heap.size w1 W)) := ⟨⟨w1, Below.refl _ _⟩⟩
  have H1 := Lib.hid h1
  refine wp_region_seq (fun W => Below w1.heap.size w1 W) [(0, false), (1, true), (2, true), (3, true), (4, false), (5, true), (6, true), (7, true), (8, true), (9, true), (11, true), (12, true), (10, false), (13, false), (14, true), (15, true), (16, true), (17, false), (18, false), (19, true), (20, true)] (by kernel_rfl) (by kernel_rfl) (fun d _ _ _ _ h => by cases d <;> exact h) ((Below.refl _ _).drew) ?_
  repeat (first
    | (refine wpSeq_skip (o := ⟨_, _, _, _, _, _⟩) rfl rfl ?_; simp only [Act.put, List.setIfInBounds_toArray, List.set_cons_zero, List.set_cons_succ])
    | (refine wpSeq_free (o := ⟨_, _, _, _, _, _⟩) rfl rfl (fun K hK => ?_); go_big_quiet_op; (refine hK _ ?_; clear hK K)))
  refine wpSeq_next (o := ⟨_, _, _, _, _, _⟩) rfl rfl (fun K hK => ?_)
  go_simp
  go_at_call 17
  refine (h1 _).mono ?_
  rintro e w2 ⟨rfl, hw2⟩
  have hS2 : Below w1.heap.size w1 w2 := (Below.refl _ _).drew.trans hw2
  refine hK.out _ _ (hS2) ?_
  clear hK K
  repeat (first
    | (refine wpSeq_skip (o := ⟨_, _, _, _, _, _⟩) rfl rfl ?_; simp only [Act.put, List.setIfInBounds_toArray, List.set_cons_zero, List.set_cons_succ])
    | (refine wpSeq_free (o := ⟨_, _, _, _, _, _⟩) rfl rfl (fun K hK => ?_); go_big_quiet_op; (refine hK _ ?_; clear hK K)))
  refine wpSeq_next (o := ⟨_, _, _, _, _, _⟩) rfl rfl (fun K hK => ?_)
  go_simp
  go_at_call 17
  refine (h2 _ hS2).mono ?_
  rintro e w3 ⟨rfl, hw3⟩
  have hS3 : Below w1.heap.size w1 w3 := below_call hS2 (Nat.le_refl _) hw3
  refine hK.out _ _ (hS3) ?_
  clear hK K
  repeat (first
    | (refine wpSeq_skip (o := ⟨_, _, _, _, _, _⟩) rfl rfl ?_; simp only [Act.put, List.setIfInBounds_toArray, List.set_cons_zero, List.set_cons_succ])
    | (refine wpSeq_free (o := ⟨_, _, _, _, _, _⟩) rfl rfl (fun K hK => ?_); go_big_quiet_op; (refine hK _ ?_; clear hK K)))
  refine wpSeq_next (o := ⟨_, _, _, _, _, _⟩) rfl rfl (fun K hK => ?_)
  go_simp
  go_at_call 17
  refine (h3 _ hS3).mono ?_
  rintro e w4 ⟨rfl, hw4⟩
  have hS4 : Below w1.heap.size w1 w4 := below_call hS3 (Nat.le_refl _) hw4
  refine hK.out _ _ (hS4) ?_
  clear hK K
  repeat (first
    | (refine wpSeq_skip (o := ⟨_, _, _, _, _, _⟩) rfl rfl ?_; simp only [Act.put, List.setIfInBounds_toArray, List.set_cons_zero, List.set_cons_succ])
    | (refine wpSeq_free (o := ⟨_, _, _, _, _, _⟩) rfl rfl (fun K hK => ?_); go_big_quiet_op; (refine hK _ ?_; clear hK K)))
  refine wpSeq_next (o := ⟨_, _, _, _, _, _⟩) rfl rfl (fun K hK => ?_)
  go_simp
  go_at_call 19
  refine (h4 _ hS4).mono ?_
  rintro e w5 ⟨rfl, hw5⟩
  have hS5 : Below w1.heap.size w1 w5 := below_call hS4 (Nat.le_refl _) hw5
  refine hK.out _ _ (hS5) ?_
  clear hK K
  repeat (first
    | (refine wpSeq_skip (o := ⟨_, _, _, _, _, _⟩) rfl rfl ?_; simp only [Act.put, List.setIfInBounds_toArray, List.set_cons_zero, List.set_cons_succ])
    | (refine wpSeq_free (o := ⟨_, _, _, _, _, _⟩) rfl rfl (fun K hK => ?_); go_big_quiet_op; (refine hK _ ?_; clear hK K)))
  refine wpSeq_next (o := ⟨_, _, _, _, _, _⟩) rfl rfl (fun K hK => ?_)
  go_simp
  refine hK.out _ _ (hS5.alloc hS5.size _) ?_
  clear hK K
  repeat (first
    | (refine wpSeq_skip (o := ⟨_, _, _, _, _, _⟩) rfl rfl ?_; simp only [Act.put, List.setIfInBounds_toArray, List.set_cons_zero, List.set_cons_succ])
    | (refine wpSeq_free (o := ⟨_, _, _, _, _, _⟩) rfl rfl (fun K hK => ?_); go_big_quiet_op; (refine hK _ ?_; clear hK K)))
  refine wpSeq_next (o := ⟨_, _, _, _, _, _⟩) rfl rfl (fun K hK => ?_)
  go_simp
  go_at_call 21
  refine (h5 _).mono ?_
  rintro e w6 ⟨rfl, hw6⟩
  have hS6 : Below w1.heap.size w1 w6 := below_call (hS5.alloc hS5.size _) (Nat.le_refl _) hw6
  refine hK.out _ _ (hS6) ?_
  clear hK K
  repeat (first
    | (refine wpSeq_skip (o := ⟨_, _, _, _, _, _⟩) rfl rfl ?_; simp only [Act.put, List.setIfInBounds_toArray, List.set_cons_zero, List.set_cons_succ])
    | (refine wpSeq_free (o := ⟨_, _, _, _, _, _⟩) rfl rfl (fun K hK => ?_); go_big_quiet_op; (refine hK _ ?_; clear hK K)))
  refine wpSeq_nil ?_
  go_wp2
  go_ret
  exact ⟨rfl, hB.trans (hS6.mono hB.size)⟩

theorem leN_crcB (s : BitVec 32) : leN (crcB s) = s.toNat := by
  have h := crcB_iff s (crcB s) rfl
  rw [beq_self_eq_true] at h
  exact beq_iff_eq.1 h.symm

theorem crcB_inj (s t : BitVec 32) (h : crcB s = crcB t) : s = t := by
  apply BitVec.eq_of_toNat_eq
  rw [← leN_crcB, ← leN_crcB, h]

theorem ends_of (l t : List UInt8) (ht : t.length = 4) : endsB (l ++ t) = (crcB (sum l) == t) := by
  unfold endsB
  have e : (l ++ t).length - 4 = l.length := by rw [List.length_append]; omega
  rw [e, decide_eq_true (by rw [List.length_append]; omega), Bool.true_and, List.drop_left, List.take_left, ← crcB_iff _ _ ht]

/-- With any one byte of it another one it does not end so. -/
theorem ends_one (l : List UInt8) (k : Nat) (hk : k < (l ++ crcB (sum l)).length) (x : UInt8) :
    endsB ((l ++ crcB (sum l)).set k x) = (x == (l ++ crcB (sum l))[k]) := by
  by_cases hx : x = (l ++ crcB (sum l))[k]
  · rw [beq_iff_eq.2 hx, hx, List.set_getElem_self, ends_of _ _ rfl, beq_self_eq_true]
  · rw [beq_eq_false_iff_ne.2 hx]
    have hl4 : (crcB (sum l)).length = 4 := rfl
    by_cases h : k < l.length
    · rw [List.set_append_left _ _ h, ends_of _ _ hl4, beq_eq_false_iff_ne]
      intro e
      have e2 := sum_ne l k h x (crcB_inj _ _ e)
      rw [List.getElem_append_left h] at hx
      exact hx e2
    · rw [List.set_append_right _ _ (by omega), ends_of _ _ (by rw [List.length_set]; rfl), beq_eq_false_iff_ne]
      intro e
      apply hx
      rw [List.getElem_append_right (by omega)]
      have hk2 : k - l.length < (crcB (sum l)).length := by rw [List.length_append] at hk; omega
      have e3 : (crcB (sum l))[k - l.length]'hk2 = ((crcB (sum l)).set (k - l.length) x)[k - l.length]'(by rw [List.length_set]; exact hk2) := by
        simp only [← e]
      rw [e3, List.getElem_set_self]

theorem ends_one' (l r : List UInt8) (hr : r = l ++ crcB (sum l)) (k : Nat) (hk : k < r.length) (x : UInt8) : endsB (r.set k x) = (x == r[k]) := by
  subst hr
  exact ends_one l k hk x

set_option maxRecDepth 100000 in
theorem crcOne_walk (a : Option Addr) (l : List UInt8) (cap : Nat) (at_ : Int) (x : UInt8) (w : World) (hc : l.length ≤ cap) (hn : a = none → l = [] ∧ cap = 0) (hb : IsBytes w a l) :
    Calls Try.prog 4 #[.slice a l.length cap, .int .i64 at_, .int .u8 (x.toNat : Int)] w fun e w' => e = .returned (.bool true) ∧ Below w.heap.size w w' := by

  by_cases hbig : 2000 < l.length
  · go_enter Try.func4, Try.ntmps4
    go_wp2_with (go_at_call 15; refine (known01_calls _).mono ?_; rintro e w1 ⟨rfl, hw1⟩)
    go_ret
    exact ⟨rfl, hw1⟩
  · have h0 := append_calls a l cap w (by omega) hc hn hb
    obtain ⟨r, hr⟩ : ∃ r, r = l ++ crcB (sum l) := ⟨_, rfl⟩
    have hrl : r.length = l.length + 4 := by rw [hr, List.length_append]; rfl
    have he1 : endsB r = true := by rw [hr, ends_of _ _ rfl, beq_self_eq_true]
    rw [← hr] at h0
    have Hr := Lib.hid hr
    have Hrl := Lib.hid hrl
    have He1 := Lib.hid he1
    clear hr hrl he1
    go_enter Try.func4, Try.ntmps4
    go_wp2_with (go_at_call 16; refine h0.mono ?_; rintro e w1 ⟨v, rfl, hown, hw1⟩; have hsl := hown.slice; rw [Hrl.out] at hsl; obtain ⟨a2, c2, rfl, hb2, hle2, hcm2, hblk2, _⟩ := hsl)
    obtain ⟨g, rfl, hg1, hg2⟩ : ∃ g, a2 = some ⟨g, 0, none⟩ ∧ w.heap.size ≤ g ∧ g < w1.heap.size := by
      obtain ⟨b, off, e, _⟩ := hb2 0 (by rw [Hrl.out]; omega)
      obtain ⟨g, e2, h1, h2⟩ := hblk2 _ e
      exact ⟨g, by rw [e, e2], h1, h2⟩
    have h21 : ∀ (W : World) (t : List UInt8), t.length = l.length + 4 → IsBytes W (some ⟨g, 0, none⟩) t → Calls Try.prog 21 #[.slice (some ⟨g, 0, none⟩) (l.length + 4) c2] W fun e w' => e = .returned (.bool (endsB t)) ∧ Below W.heap.size W w' := fun W t ht hW => by
      have h := ends_calls (some ⟨g, 0, none⟩) t c2 W (by omega) (by omega) hW
      rw [ht] at h
      exact h
    have H21 := Lib.hid h21
    clear h21 h0 hb
    go_at_call 21
    refine (H21.out _ r Hrl.out hb2).mono ?_
    rintro e w2 ⟨rfl, hw2⟩
    rw [He1.out]
    simp only []
    have hown2 := hown.later hw2
    obtain ⟨k, hix, hk⟩ := idx_mod at_ ((l.length : Int) + 4) (l.length + 4) (by omega) (by omega)
    have hkr : k < r.length := by rw [Hrl.out]; exact hk
    have hcell := hown2.bytes.cell k hkr
    have hfr := hown2.free Hrl.out.symm k
    rw [Nat.zero_add] at hcell
    obtain ⟨y, hy⟩ : ∃ y, y = r[k] := ⟨_, rfl⟩
    rw [← hy] at hcell
    have Hy := Lib.hid hy
    clear hy
    have hown3 := hown2.stored Hrl.out.symm k x
    have hlen3 : (r.set k x).length = l.length + 4 := by rw [List.length_set]; exact Hrl.out
    have he3 : endsB (r.set k x) = (x == y) := by
      rw [Hy.out]
      exact ends_one' l r Hr.out k hkr x
    have He3 := Lib.hid he3
    have Hlen3 := Lib.hid hlen3
    clear he3 hlen3
    have hbe : ((x.toNat : Int) == (y.toNat : Int)) = (x == y) := by
      by_cases e : x = y
      · subst e; rw [beq_self_eq_true, beq_self_eq_true]
      · rw [beq_eq_false_iff_ne.2 e, beq_eq_false_iff_ne]
        intro h
        exact e (UInt8.toNat.inj (by omega))
    obtain ⟨q, hq⟩ : ∃ q, q = (x == y) := ⟨_, rfl⟩
    have He4 : Hid (endsB (r.set k x) = q) := by rw [hq]; exact He3.out
    rw [← hq] at hbe
    clear hq
    have hqq : (q == q) = true := beq_self_eq_true q
    go_wp2_with (first
      | (go_at_call 21; refine (H21.out _ (r.set k x) Hlen3.out hown3.bytes).mono ?_; rintro e w3 ⟨rfl, hw3⟩; rw [He4.out])
      | (go_at_call 15; refine (known01_calls _).mono ?_; rintro e w4 ⟨rfl, hw4⟩))
    go_ret
    refine ⟨rfl, ?_⟩
    have h2 := below_call hw1 (Nat.le_refl _) hw2
    have h3 := h2.setCell (p := ⟨g, k, none⟩) hg1 (.int .u8 (x.toNat : Int))
    exact below_call (below_call h3 (Nat.le_refl _) hw3) (Nat.le_refl _) hw4
end Go.Proofs.Ytdlbjllgdikadaa

namespace Go.Proofs.Ytdlbjllgdikadaa
open Go.RowKit CrcM

theorem IsBytes.below {N : Nat} {w w' : World} {a : Option Addr} {l : List UInt8} (h : IsBytes w a l) (hb : Below N w w') (hlt : ∀ b off, a = some ⟨b, off, none⟩ → 0 < l.length → b < N) : IsBytes w' a l := by
  intro i hi
  obtain ⟨b, off, e, hc⟩ := h i hi
  exact ⟨b, off, e, (hb.cell (p := ⟨b, off + i, none⟩) (hlt b off e (by omega))).trans hc⟩

theorem u8_succ (y : UInt8) : ((y.toNat : Int) + 1) % 256 = ((y + 1).toNat : Int) := by
  rw [UInt8.toNat_add]
  simp

set_option maxRecDepth 100000 in
set_option maxHeartbeats 1000000 in
theorem crcSums_walk (a : Option Addr) (l : List UInt8) (cap : Nat) (at_ : Int) (w : World) (hc : l.length ≤ cap) (hn : a = none → l = [] ∧ cap = 0) (hb : IsBytes w a l) :
    Calls Try.prog 3 #[.slice a l.length cap, .int .i64 at_] w fun e w' => e = .returned (.bool true) ∧ Below w.heap.size w w' := by
  by_cases hbig : 2000 < l.length
  · go_enter Try.func3, Try.ntmps3
    go_wp2_with (go_at_call 15; refine (known01_calls _).mono ?_; rintro e w1 ⟨rfl, hw1⟩)
    go_ret
    exact ⟨rfl, hw1⟩
  · have hb0 : ∀ b off, a = some ⟨b, off, none⟩ → 0 < l.length → b < w.heap.size := fun b off e h0 => hb.lt e h0
    have Hb0 := Lib.hid hb0
    clear hb0
    have hn2 : a = none → l.length = 0 ∧ cap = 0 := fun h => by simp [(hn h).1, (hn h).2]
    obtain ⟨k, hix, hk⟩ := idx_mod at_ ((l.length : Int) + 1) (l.length + 1) (by omega) (by omega)
    obtain ⟨r, hr⟩ : ∃ r, r = l ++ crcB (sum l) := ⟨_, rfl⟩
    have hrl : r.length = l.length + 4 := by rw [hr, List.length_append]; rfl
    have Hr := Lib.hid hr
    have Hrl := Lib.hid hrl
    clear hr hrl
    go_enter Try.func3, Try.ntmps3
    go_wp2_with (first
      | (at_builtin; refine wpList_append_bytes rfl (.tmp 12) (.tmp 13) rfl w.heap.size (.slice (some ⟨w.heap.size, 0, none⟩) 0 0) [] rfl (OwnB.made w w.heap.size (Nat.le_refl _)) a l.length cap l rfl rfl hn2 (hb.alloc _) (by simp; omega) (by simp) ?_; intro v1 w2 hown1 hgr1; rw [List.nil_append] at hown1; obtain ⟨ain, cin, rfl, hbin, hlein, hcmin, hblkin, hnin⟩ := hown1.slice)
      | (go_at_call 16; refine (append_calls ain l cin _ (by omega) hlein hnin hbin).mono ?_; rintro e w3 ⟨v, rfl, hown, hw3⟩; have hsl := hown.slice; rw [← Hr.out, Hrl.out] at hsl; obtain ⟨a2, c2, rfl, hb2, hle2, hcm2, hblk2, _⟩ := hsl))
    obtain ⟨g, rfl, hg1, hg2⟩ : ∃ g, a2 = some ⟨g, 0, none⟩ ∧ w2.heap.size ≤ g ∧ g < w3.heap.size := by
      obtain ⟨b, off, e, _⟩ := hb2 0 (by rw [Hrl.out]; omega)
      obtain ⟨g, e2, h1, h2⟩ := hblk2 _ e
      exact ⟨g, by rw [e, e2], h1, h2⟩
    have hw2 : Below w.heap.size w w2 := ((Below.refl _ w).alloc (Nat.le_refl _) _).grown hgr1 (by simp) (fun j hj => by simp [Value.ownBlock] at hj; omega)
    have hw3' : Below w.heap.size w w3 := below_call hw2 (Nat.le_refl _) hw3
    have hbin3 := hbin.later hw3
    have hb3 := hb.later hw3'
    have hS0 : Below w3.heap.size w3 w3.drew := (Below.refl _ _).drew
    have hlb : l.length ≤ 2000 := by omega
    have h17 : ∀ W, Below w3.heap.size w3 W → Calls Try.prog 17 #[.slice ain l.length cin] W fun e w' => e = .returned (.int .u32 ((sum l).toNat : Int)) ∧ Below W.heap.size W w' := fun W hW => sum_calls ain l cin W (by omega) (hbin3.later hW)
    have h18 : ∀ W, Below w3.heap.size w3 W → Calls Try.prog 18 #[.slice a l.length cap] W fun e w' => e = .returned (.int .u32 ((sum l).toNat : Int)) ∧ Below W.heap.size W w' := fun W hW => refsum_calls a l cap W (by omega) (hb3.later hW)
    have htk : (l.take k).length = k := by rw [List.length_take]; omega
    have h17k : ∀ W, Below w3.heap.size w3 W → Calls Try.prog 17 #[.slice ain k cin] W fun e w' => e = .returned (.int .u32 ((sum (l.take k)).toNat : Int)) ∧ Below W.heap.size W w' := fun W hW => by
      have h := sum_calls ain (l.take k) cin W (by omega) ((hbin3.later hW).take k)
      rw [htk] at h
      exact h
    have h19 : ∀ W, Below w3.heap.size w3 W → Calls Try.prog 19 #[.int .u32 ((sum (l.take k)).toNat : Int), .slice (if cin = k then ain else ain.map (fun x => x.add k)) (l.length - k) (cin - k)] W fun e w' => e = .returned (.int .u32 ((sum l).toNat : Int)) ∧ Below W.heap.size W w' := fun W hW => by
      have h := more_calls (sum (l.take k)) (if cin = k then ain else ain.map (fun x => x.add k)) (l.drop k) (cin - k) W (by rw [List.length_drop]; omega) ((hbin3.later hW).drop k cin hlein)
      rw [List.length_drop, more_sum, List.take_append_drop] at h
      exact h
    have h20 : ∀ W, Below w3.heap.size w3 W → Calls Try.prog 20 #[.slice a l.length cap] W fun e w' => ∃ v, e = .returned v ∧ OwnB w' W.heap.size v (l ++ crcB (sum l)) ∧ Below W.heap.size W w' := fun W hW => refappend_calls a l cap W (by omega) hn2 (hb3.later hW)
    have h21 : ∀ W, Below w3.heap.size w3 W → Calls Try.prog 21 #[.slice ain l.length cin] W fun e w' => e = .returned (.bool (endsB l)) ∧ Below W.heap.size W w' := fun W hW => ends_calls ain l cin W (by omega) hlein (hbin3.later hW)
    have h22 : ∀ W, Below w3.heap.size w3 W → Calls Try.prog 22 #[.slice a l.length cap] W fun e w' => e = .returned (.bool (endsB l)) ∧ Below W.heap.size W w' := fun W hW => refends_calls a l cap W (by omega) hc hn2 (hb3.later hW)
    have e2 : ∀ x : SW (fun W => Below w3.heap.size w3 W), (convert 22 9 (.slice (some ⟨g, 0, none⟩) (l.length + 4) c2)).run Try.prog x.W = .ok (.string ⟨r.toArray⟩) x.W := fun x => conv_text (hb2.later x.h) Hrl.out.symm
    have hne : Nonempty (SW (fun W => Below w3.heap.size w3 W)) := ⟨⟨w3, Below.refl _ _⟩⟩
    have hk1 : (k : Int) ≤ (l.length : Int) := by omega
    have hk2 : (k : Int) ≤ (cin : Int) := by omega
    have H17 := Lib.hid h17
    have H18 := Lib.hid h18
    have H17k := Lib.hid h17k
    have H19 := Lib.hid h19
    have H20 := Lib.hid h20
    have H21 := Lib.hid h21
    have H22 := Lib.hid h22
    have Htk := Lib.hid htk
    clear h17 h18 h17k h19 h20 h21 h22 htk hix
    refine wp_region_seq (fun W => Below w3.heap.size w3 W) [(0, true), (2, true), (1, false), (3, false), (4, true), (5, true), (6, true), (7, true), (8, true), (10, true), (11, true), (12, true), (14, true), (9, false), (13, false), (15, false), (16, true), (17, true), (18, true), (19, true), (20, true), (21, true), (22, false), (23, false), (24, true), (25, true), (26, true), (27, true), (29, true), (28, false), (30, false), (31, true), (32, true)] (by kernel_rfl) (by kernel_rfl) (fun d _ _ _ _ h => by cases d <;> exact h) (hS0) ?_
    repeat (first
      | (refine wpSeq_skip (o := ⟨_, _, _, _, _, _⟩) rfl rfl ?_; simp only [Act.put, List.setIfInBounds_toArray, List.set_cons_zero, List.set_cons_succ])
      | (refine wpSeq_free (o := ⟨_, _, _, _, _, _⟩) rfl rfl (fun K hK => ?_); go_big_quiet_op; (refine hK _ ?_; clear hK K)))
    refine wpSeq_next (o := ⟨_, _, _, _, _, _⟩) rfl rfl (fun K hK => ?_)
    go_simp
    go_at_call 17
    refine (H17.out _ hS0).mono ?_
    rintro e x1 ⟨rfl, hx1⟩
    have hS1 : Below w3.heap.size w3 x1 := below_call hS0 (Nat.le_refl _) hx1
    refine hK.out _ _ (hS1) ?_
    clear hK K
    repeat (first
      | (refine wpSeq_skip (o := ⟨_, _, _, _, _, _⟩) rfl rfl ?_; simp only [Act.put, List.setIfInBounds_toArray, List.set_cons_zero, List.set_cons_succ])
      | (refine wpSeq_free (o := ⟨_, _, _, _, _, _⟩) rfl rfl (fun K hK => ?_); go_big_quiet_op; (refine hK _ ?_; clear hK K)))
    refine wpSeq_next (o := ⟨_, _, _, _, _, _⟩) rfl rfl (fun K hK => ?_)
    go_simp
    go_at_call 18
    refine (H18.out _ hS1).mono ?_
    rintro e x2 ⟨rfl, hx2⟩
    have hS2 : Below w3.heap.size w3 x2 := below_call hS1 (Nat.le_refl _) hx2
    refine hK.out _ _ (hS2) ?_
    clear hK K
    repeat (first
      | (refine wpSeq_skip (o := ⟨_, _, _, _, _, _⟩) rfl rfl ?_; simp only [Act.put, List.setIfInBounds_toArray, List.set_cons_zero, List.set_cons_succ])
      | (refine wpSeq_free (o := ⟨_, _, _, _, _, _⟩) rfl rfl (fun K hK => ?_); go_big_quiet_op; (refine hK _ ?_; clear hK K)))
    refine wpSeq_next (o := ⟨_, _, _, _, _, _⟩) rfl rfl (fun K hK => ?_)
    go_simp
    go_at_call 17
    refine (H17k.out _ hS2).mono ?_
    rintro e x3 ⟨rfl, hx3⟩
    have hS3 : Below w3.heap.size w3 x3 := below_call hS2 (Nat.le_refl _) hx3
    refine hK.out _ _ (hS3) ?_
    clear hK K
    repeat (first
      | (refine wpSeq_skip (o := ⟨_, _, _, _, _, _⟩) rfl rfl ?_; simp only [Act.put, List.setIfInBounds_toArray, List.set_cons_zero, List.set_cons_succ])
      | (refine wpSeq_free (o := ⟨_, _, _, _, _, _⟩) rfl rfl (fun K hK => ?_); go_big_quiet_op; (refine hK _ ?_; clear hK K)))
    refine wpSeq_next (o := ⟨_, _, _, _, _, _⟩) rfl rfl (fun K hK => ?_)
    go_simp
    go_at_call 19
    refine (H19.out _ hS3).mono ?_
    rintro e x4 ⟨rfl, hx4⟩
    have hS4 : Below w3.heap.size w3 x4 := below_call hS3 (Nat.le_refl _) hx4
    refine hK.out _ _ (hS4) ?_
    clear hK K
    repeat (first
      | (refine wpSeq_skip (o := ⟨_, _, _, _, _, _⟩) rfl rfl ?_; simp only [Act.put, List.setIfInBounds_toArray, List.set_cons_zero, List.set_cons_succ])
      | (refine wpSeq_free (o := ⟨_, _, _, _, _, _⟩) rfl rfl (fun K hK => ?_); go_big_quiet_op; (refine hK _ ?_; clear hK K)))
    refine wpSeq_next (o := ⟨_, _, _, _, _, _⟩) rfl rfl (fun K hK => ?_)
    go_simp
    go_at_call 18
    refine (H18.out _ hS4).mono ?_
    rintro e x5 ⟨rfl, hx5⟩
    have hS5 : Below w3.heap.size w3 x5 := below_call hS4 (Nat.le_refl _) hx5
    refine hK.out _ _ (hS5) ?_
    clear hK K
    repeat (first
      | (refine wpSeq_skip (o := ⟨_, _, _, _, _, _⟩) rfl rfl ?_; simp only [Act.put, List.setIfInBounds_toArray, List.set_cons_zero, List.set_cons_succ])
      | (refine wpSeq_free (o := ⟨_, _, _, _, _, _⟩) rfl rfl (fun K hK => ?_); go_big_quiet_op; (refine hK _ ?_; clear hK K)))
    refine wpSeq_next (o := ⟨_, _, _, _, _, _⟩) rfl rfl (fun K hK => ?_)
    go_simp
    go_at_call 20
    refine (H20.out _ hS5).mono ?_
    rintro e x6 ⟨v6, rfl, hown6, hx6⟩
    have hsl6 := hown6.slice
    rw [← Hr.out] at hsl6
    obtain ⟨a6, c6, rfl, hb6, _, _, _, _⟩ := hsl6
    have e6 := conv_text (w := x6) hb6 (cap := c6) rfl
    have hS6 : Below w3.heap.size w3 x6 := below_call hS5 (Nat.le_refl _) hx6
    refine hK.out _ _ (hS6) ?_
    clear hK K
    repeat (first
      | (refine wpSeq_skip (o := ⟨_, _, _, _, _, _⟩) rfl rfl ?_; simp only [Act.put, List.setIfInBounds_toArray, List.set_cons_zero, List.set_cons_succ])
      | (refine wpSeq_free (o := ⟨_, _, _, _, _, _⟩) rfl rfl (fun K hK => ?_); go_big_quiet_op; (refine hK _ ?_; clear hK K)))
    refine wpSeq_next (o := ⟨_, _, _, _, _, _⟩) rfl rfl (fun K hK => ?_)
    go_simp
    refine hK.out _ _ (hS6) ?_
    clear hK K
    repeat (first
      | (refine wpSeq_skip (o := ⟨_, _, _, _, _, _⟩) rfl rfl ?_; simp only [Act.put, List.setIfInBounds_toArray, List.set_cons_zero, List.set_cons_succ])
      | (refine wpSeq_free (o := ⟨_, _, _, _, _, _⟩) rfl rfl (fun K hK => ?_); go_big_quiet_op; (refine hK _ ?_; clear hK K)))
    refine wpSeq_next (o := ⟨_, _, _, _, _, _⟩) rfl rfl (fun K hK => ?_)
    go_simp
    go_at_call 21
    refine (H21.out _ hS6).mono ?_
    rintro e x7 ⟨rfl, hx7⟩
    have hS7 : Below w3.heap.size w3 x7 := below_call hS6 (Nat.le_refl _) hx7
    refine hK.out _ _ (hS7) ?_
    clear hK K
    repeat (first
      | (refine wpSeq_skip (o := ⟨_, _, _, _, _, _⟩) rfl rfl ?_; simp only [Act.put, List.setIfInBounds_toArray, List.set_cons_zero, List.set_cons_succ])
      | (refine wpSeq_free (o := ⟨_, _, _, _, _, _⟩) rfl rfl (fun K hK => ?_); go_big_quiet_op; (refine hK _ ?_; clear hK K)))
    refine wpSeq_next (o := ⟨_, _, _, _, _, _⟩) rfl rfl (fun K hK => ?_)
    go_simp
    go_at_call 22
    refine (H22.out _ hS7).mono ?_
    rintro e x8 ⟨rfl, hx8⟩
    have hS8 : Below w3.heap.size w3 x8 := below_call hS7 (Nat.le_refl _) hx8
    refine hK.out _ _ (hS8) ?_
    clear hK K
    repeat (first
      | (refine wpSeq_skip (o := ⟨_, _, _, _, _, _⟩) rfl rfl ?_; simp only [Act.put, List.setIfInBounds_toArray, List.set_cons_zero, List.set_cons_succ])
      | (refine wpSeq_free (o := ⟨_, _, _, _, _, _⟩) rfl rfl (fun K hK => ?_); go_big_quiet_op; (refine hK _ ?_; clear hK K)))
    refine wpSeq_nil ?_
    generalize (if cin = k then ain else Option.map (fun x => x.add k) ain) = z3
    have hown8 : OwnB x8 w2.heap.size (.slice (some ⟨g, 0, none⟩) (l.length + 4) c2) r := by rw [← Hr.out] at hown; exact hown.later hS8
    have hbin8 := hbin3.later hS8
    have hb8 := hb3.later hS8
    have hrl2 := Hrl.out
    have Hown8 := Lib.hid hown8
    have hx8 : Below w.heap.size w x8 := below_call hw3' (Nat.le_refl _) hS8
    have hgx : g < x8.heap.size := Nat.lt_of_lt_of_le hg2 hS8.size
    clear hown8 hb hbin hb2 hb6 hown hown1 hown6 hbin3 hb3 e2 e6 hrl2
    go_wp2
    go_loopw [60] (fun i wr => ∃ m : Nat, m ≤ l.length + 4 ∧ i = .int .i64 m ∧ (∃ t : List UInt8, t.length = l.length + 4 ∧ OwnB wr w2.heap.size (.slice (some ⟨g, 0, none⟩) (l.length + 4) c2) t) ∧ Below g x8 wr) (fun i _ => l.length + 4 - (intOf i).toNat)
    case atStart => exact ⟨0, Nat.zero_le _, rfl, ⟨r, Hrl.out, Hown8.out⟩, Below.refl _ _⟩
    case round =>
      obtain ⟨m, hm, rfl, ⟨t, htl, hownt⟩, hbel⟩ := hrel
      by_cases hlt : m < l.length + 4
      · have hcell := hownt.bytes.cell m (by omega)
        have hfr := hownt.free htl.symm m
        rw [Nat.zero_add] at hcell
        obtain ⟨y, hy⟩ : ∃ y, y = t[m]'(by omega) := ⟨_, rfl⟩
        rw [← hy] at hcell
        have hyl : y.toNat < 256 := y.toNat_lt
        have Htl := Lib.hid htl
        have Hownt := Lib.hid hownt
        clear hy htl hownt hbin8 hb8
        go_wp2
        go_roundw
        case rel =>
          rw [u8_succ]
          exact ⟨m + 1, by omega, by go_num, ⟨t.set m (y + 1), by rw [List.length_set]; exact Htl.out, Hownt.out.stored Htl.out.symm m (y + 1)⟩, hbel.setCell (Nat.le_refl _) _⟩
        case measure => simp [intOf]; omega
      · obtain rfl : m = l.length + 4 := by omega
        have e3 := conv_text (hbin8.below hbel (fun b off e _ => by obtain ⟨gi, e2, _, h2⟩ := hblkin _ e; cases e2; omega)) (n := l.length) (cap := cin) rfl
        have e4 := conv_text (hb8.below hbel (fun b off e h0 => by have h1 := Hb0.out b off e h0; have h2 := hw2.size; omega)) (n := l.length) (cap := cap) rfl
        clear hownt
        go_wp2_with (go_at_call 15; refine (known01_calls _).mono ?_; rintro e x9 ⟨rfl, hx9⟩)
        go_ret
        exact ⟨rfl, below_call (hx8.trans (hbel.mono (Nat.le_trans hw2.size hg1))) (Nat.le_refl _) hx9⟩
end Go.Proofs.Ytdlbjllgdikadaa
