/- log: put; Clone, own, ContainsFunc. -/
import Derived.Test.YtdlbjllgdikadaaLogA
namespace Go.Proofs.Ytdlbjllgdikadaa
open Go.RowKit
set_option linter.unusedVariables false
set_option linter.unusedSimpArgs false

set_option maxRecDepth 100000 in
theorem put_log (X D b : Nat) (d : Dev) (g : Lg) (v1 v2 : Value) (y : Blk) (ay : Option Addr) (cy : Nat) (w : World) (h : LogAt w X D g v1 v2) (hD : DevAt w D b d) (hok : DevOk d) (h1 : 1 ≤ d.blocks) (hm : mayB y = true)
    (hby : IsBytes w ay y.body) (hyc : y.body.length ≤ cy) (hyn : ay = none → y.body.length = 0 ∧ cy = 0) (hys : y.serial < 18446744073709551616) (hyl : y.body.length ≤ 9223372036854775807) :
    Calls Try.prog 98 #[.pointer (some ⟨X, 0, none⟩), .agg (y.cells ay cy)] w fun e w' => e = .returned (.int .i64 (writeE d ((y.serial % d.blocks : Nat) : Int) (sealB y) : Nat)) ∧ DevAt w' D b (writeD d ((y.serial % d.blocks : Nat) : Int) (sealB y)) ∧ Aside [D, b] w w' := by
  have hdb := hD.2.2
  have henc := Lib.hid (fun W q => encode_calls y ay cy W hys hyl hyc hyn q)
  obtain ⟨w1, hw1⟩ : ∃ w1, w1 = w.alloc (.cells (y.cells ay cy) 43) := ⟨_, rfl⟩
  have hb1 : Below w.heap.size w w1 := by rw [hw1]; exact (Below.refl _ w).alloc (Nat.le_refl _) _
  have hY1 : BlkAt w1 w.heap.size y ay cy := by rw [hw1]; exact heap_alloc_new _ _
  obtain ⟨E, hE⟩ : ∃ E, E = writeE d ((y.serial % d.blocks : Nat) : Int) (sealB y) := ⟨_, rfl⟩
  obtain ⟨d2, hd2⟩ : ∃ d2, d2 = writeD d ((y.serial % d.blocks : Nat) : Int) (sealB y) := ⟨_, rfl⟩
  have hwr := Lib.hid (show ∀ W a7 c7, DevAt W D b d → IsBytes W a7 (sealB y) → (∀ q off, a7 = some ⟨q, off, none⟩ → q ∉ [D, b]) → Calls Try.prog 42 #[.pointer (some ⟨D, 0, none⟩), .int .i64 ((y.serial % d.blocks : Nat) : Int), .slice a7 (sealB y).length c7] W fun e w' => e = .returned (.int .i64 (E : Int)) ∧ DevAt w' D b d2 ∧ Aside [D, b] W w' from fun W a7 c7 k1 k2 k3 => by
    rw [hE, hd2]; exact write_dev D b d _ a7 (sealB y) c7 W k1 hok k2 k3)
  rw [← hE, ← hd2]
  have hpl := Lib.hid (fun W => place_pos y.serial d.blocks hys h1 (by omega) W)
  have hbd := Lib.hid (fun W hD => blocks_dev D b d W hD)
  have HM := Lib.hid hm
  have hXl := h.lt
  have hDl := hD.lt
  have hbl := hD.ltb
  obtain ⟨H, hH⟩ : ∃ H, H = w.heap.size := ⟨_, rfl⟩
  rw [← hH] at hY1
  have HH := Lib.hid hH
  have hL1 := h.later hb1
  have hD1 := hD.later hb1
  have hby1 := hby.later hb1
  have HW := Lib.hid hw1
  clear hE hd2 hm h hD hby hH
  unfold EncAny at henc
  simp only [Blk.cells] at henc ⊢
  go_enter Try.func98, Try.ntmps98
  go_upto_region 1 with fail
  have hw1' : w1 = w.alloc (.cells #[.int .u64 (y.serial : Int), .int .u8 (y.kind.toNat : Int), .bool y.first, .bool y.last, .slice ay y.body.length cy] 43) := HW.out
  rw [← hw1', ← HH.out]
  refine over_world (R := fun W => LogAt W X D g v1 v2 ∧ DevAt W D b d ∧ IsBytes W ay y.body ∧ BlkAt W H y ay cy ∧ Below w.heap.size w W) ⟨hL1, hD1, hby1, hY1, hb1⟩ ?_
  clear hL1 hD1 hby1 hY1 hb1 hw1 hw1' HW
  rintro wa ⟨hL1, hD1, hby1, hY1, hb1⟩
  go_upto_region 4 with (first
    | (refine wpList_load_blk rfl (.tmp 3) rfl H y ay cy rfl hY1 ?_; simp only [Blk.cells])
    | (go_at_call 31; refine (henc.out wa hby1).mono ?_; rintro e w3 ⟨v3, rfl, hO3, hB3⟩; have he : encEr y = 0 := (by unfold encEr; rw [if_pos HM.out]); rw [he]))
  have ht : encT y = sealB y := by unfold encT; rw [if_pos HM.out]
  rw [ht] at hO3
  clear ht
  obtain ⟨a3, c3, rfl, hby3, _, _, hbk3, _⟩ := hO3.slice
  have hL3 := hL1.later hB3
  have hD3 := hD1.later hB3
  have hY3 := hY1.later hB3
  have hb3 := below_call hb1 (Nat.le_refl _) hB3
  have hno3 : ∀ q off, a3 = some ⟨q, off, none⟩ → q ∉ [D, b] := fun q off e => by
    obtain ⟨g, e1, e2, _⟩ := hbk3 _ e
    cases e1
    have := hb1.size
    simp; omega
  clear hL1 hD1 hY1 hby1 hO3 hB3 hb1 hbk3 henc
  have e0 : ∀ x : SW (fun W => Below w3.heap.size w3 W), x.W.cell? ⟨X, 0, none⟩ = some (.pointer (some ⟨D, 0, none⟩)) := fun x => (hL3.later x.h).c0
  have eH : ∀ x : SW (fun W => Below w3.heap.size w3 W), x.W.cell? ⟨H, 0, none⟩ = some (.int .u64 (y.serial : Int)) := fun x => (hY3.later x.h).cell 0 _ rfl
  have hne : Nonempty (SW (fun W => Below w3.heap.size w3 W)) := ⟨⟨w3, Below.refl _ _⟩⟩
  refine wp_region_seq2 (fun W => Below w3.heap.size w3 W) [(0, true), (1, true), (2, true), (3, true), (4, true), (5, true), (6, false), (7, false), (8, true), (9, true), (10, true), (11, true), (12, true)] (by kernel_rfl) (by kernel_rfl) (fun d _ _ _ _ h => by cases d <;> exact h) ((Below.refl _ w3).drew) ?_
  repeat (first
    | ((with_reducible refine wpSeq_skip (o := ⟨_, _, _, _, _, _⟩) (by with_unfolding_all exact rfl) (by with_unfolding_all exact rfl) ?_); simp only [Act.put, List.setIfInBounds_toArray, List.set_cons_zero, List.set_cons_succ])
    | ((with_reducible refine wpSeq_free (o := ⟨_, _, _, _, _, _⟩) (by with_unfolding_all exact rfl) (by with_unfolding_all exact rfl) (fun K hK => ?_)); go_big_quiet_op; (refine hK _ ?_; clear hK K)))
  with_reducible refine wpSeq_next (o := ⟨_, _, _, _, _, _⟩) (by with_unfolding_all exact rfl) (by with_unfolding_all exact rfl) (fun K hK => ?_)
  go_simp
  go_at_call 55
  refine (hbd.out _ (hD3.later (Below.refl _ w3).drew)).mono ?_
  rintro e w4 ⟨rfl, rfl⟩
  refine hK.out _ _ ((Below.refl _ w3).drew) ?_
  clear hK K
  repeat (first
    | ((with_reducible refine wpSeq_skip (o := ⟨_, _, _, _, _, _⟩) (by with_unfolding_all exact rfl) (by with_unfolding_all exact rfl) ?_); simp only [Act.put, List.setIfInBounds_toArray, List.set_cons_zero, List.set_cons_succ])
    | ((with_reducible refine wpSeq_free (o := ⟨_, _, _, _, _, _⟩) (by with_unfolding_all exact rfl) (by with_unfolding_all exact rfl) (fun K hK => ?_)); go_big_quiet_op; (refine hK _ ?_; clear hK K)))
  with_reducible refine wpSeq_next (o := ⟨_, _, _, _, _, _⟩) (by with_unfolding_all exact rfl) (by with_unfolding_all exact rfl) (fun K hK => ?_)
  go_simp
  go_at_call 30
  refine (hpl.out _).mono ?_
  rintro e w5 ⟨rfl, rfl⟩
  refine hK.out _ _ ((Below.refl _ w3).drew) ?_
  clear hK K
  repeat (first
    | ((with_reducible refine wpSeq_skip (o := ⟨_, _, _, _, _, _⟩) (by with_unfolding_all exact rfl) (by with_unfolding_all exact rfl) ?_); simp only [Act.put, List.setIfInBounds_toArray, List.set_cons_zero, List.set_cons_succ])
    | ((with_reducible refine wpSeq_free (o := ⟨_, _, _, _, _, _⟩) (by with_unfolding_all exact rfl) (by with_unfolding_all exact rfl) (fun K hK => ?_)); go_big_quiet_op; (refine hK _ ?_; clear hK K)))
  refine wpSeq_nil ?_
  have hD4 := hD3.later (Below.refl _ w3).drew
  have hby4 := hby3.later (Below.refl _ w3).drew
  have hL4 := hL3.later (Below.refl _ w3).drew
  have c0 := hL4.c0
  have hb4 := hb3.drew
  go_wp2_with (go_at_call 42; refine (hwr.out _ a3 c3 hD4 hby4 hno3).mono ?_; rintro e w6 ⟨rfl, hD6, hA6⟩)
  go_ret
  exact ⟨rfl, hD6, (Aside.below [D, b] hb4).trans hA6⟩
end Go.Proofs.Ytdlbjllgdikadaa
