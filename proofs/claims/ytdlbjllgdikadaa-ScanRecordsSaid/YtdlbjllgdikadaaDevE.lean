/- The laws of device: full, known. -/
import Derived.Test.YtdlbjllgdikadaaDevD
import Derived.Test.YtdlbjllgdikadaaSeqC
import Derived.Test.YtdlbjllgdikadaaSegO
namespace Go.Proofs.Ytdlbjllgdikadaa
open Go.RowKit

def ones (x : UInt8) : List UInt8 := List.replicate 64 x

theorem full_calls (x : UInt8) (w : World) :
    Calls Try.prog 41 #[.int .u8 (x.toNat : Int)] w fun e w' => e = .returned (.slice (some ⟨w.heap.size, 0, none⟩) 64 64) ∧ ArrB w' w.heap.size (ones x) ∧ Below w.heap.size w w' := by
  go_enter Try.func41, Try.ntmps41
  go_wp2_with (refine wpList_make_bytes rfl _ _ rfl 64 64 64 rfl rfl rfl rfl (by decide) ?_; intro w3 harr hgr; have hB := (Below.refl w.heap.size w).grown hgr (Nat.le_refl _) (fun _ h => nomatch h); clear hgr)
  obtain ⟨G, hG⟩ : ∃ G, G = w.heap.size := ⟨_, rfl⟩
  rw [← hG] at harr ⊢
  have HG := Lib.hid hG
  clear hG
  go_loopw [8] (fun i wr => ∃ j : Nat, j ≤ 64 ∧ i = .int .i64 j ∧ ArrB wr G (List.replicate j x ++ List.replicate (64 - j) 0) ∧ Below w.heap.size w wr) (fun i _ => 64 - (intOf i).toNat)
  case atStart => exact ⟨0, Nat.zero_le _, rfl, harr, hB⟩
  case round =>
    clear harr hB
    obtain ⟨j, hj, rfl, harr, hB⟩ := hrel
    by_cases hlt : j < 64
    · have hf := harr.free j
      have hc := harr.cell j (by simp; omega)
      have hnew := harr.stored j x
      have e : (List.replicate j x ++ List.replicate (64 - j) (0 : UInt8)).set j x = List.replicate (j + 1) x ++ List.replicate (64 - (j + 1)) 0 := by
        rw [List.set_append_right _ _ (by simp), List.length_replicate, Nat.sub_self]
        obtain ⟨q, hq⟩ : ∃ q, 64 - j = q + 1 := ⟨63 - j, by omega⟩
        rw [hq, List.replicate_succ, List.set_cons_zero, show 64 - (j + 1) = q by omega, List.replicate_succ' (n := j), List.append_assoc]
        rfl
      rw [e] at hnew
      have Hnew := Lib.hid hnew
      clear hnew e
      go_wp2
      go_roundw
      case rel => exact ⟨j + 1, by omega, by go_num, Hnew.out, hB.setCell (p := ⟨G, j, none⟩) (by rw [HG.out]; exact Nat.le_refl _) _⟩
      case measure => simp [intOf]; omega
    · obtain rfl : j = 64 := by omega
      go_wp2
      go_ret
      have hB' : Below G w wr := by rw [HG.out]; exact hB
      rw [← HG.out]
      exact ⟨rfl, by simpa [ones] using harr, hB'⟩

theorem ArrB.bytes {w : World} {g : Nat} {l : List UInt8} (h : ArrB w g l) : IsBytes w (some ⟨g, 0, none⟩) l := fun i hi => ⟨g, 0, rfl, by rw [Nat.zero_add]; exact h.cell i hi⟩
theorem ones_length (x : UInt8) : (ones x).length = 64 := by simp [ones]

set_option maxHeartbeats 2000000 in
set_option maxRecDepth 100000 in
theorem known39_calls (w : World) : Calls Try.prog 39 #[] w fun e w' => e = .returned (.bool true) ∧ Below w.heap.size w w' := by
  have hnew := new_dev 16 w (by decide) (by decide)
  have hfull : ∀ (n : Int) (x : UInt8) (W : World), n = (x.toNat : Int) → Calls Try.prog 41 #[.int .u8 n] W fun e w' => e = .returned (.slice (some ⟨W.heap.size, 0, none⟩) 64 64) ∧ ArrB w' W.heap.size (ones x) ∧ Below W.heap.size W w' := fun n x W h => by rw [h]; exact full_calls x W
  have hwr : ∀ D b d i g x W, DevAt W D b d → DevOk d → ArrB W g (ones x) → g ∉ [D, b] → Calls Try.prog 42 #[.pointer (some ⟨D, 0, none⟩), .int .i64 i, .slice (some ⟨g, 0, none⟩) 64 64] W (WritePost D b d i (ones x) W) := fun D b d i g x W h1 h2 h3 h4 => by
    have := write_dev D b d i (some ⟨g, 0, none⟩) (ones x) 64 W h1 h2 h3.bytes (fun q off e => by cases e; exact h4)
    rw [ones_length] at this
    exact this
  have e1 : writeE (newD 16) 3 (ones 1) = 0 := by simp [writeE, mayE, newD, ones]
  obtain ⟨d1, hd1⟩ : ∃ d1, d1 = writeD (newD 16) 3 (ones 1) := ⟨_, rfl⟩
  have hd1' : d1 = { newD 16 with writes := -1, mem := updB (fun _ => zero64) 3 (ones 1) } := by rw [hd1]; simp [writeD, mayE, newD, ones]
  have e2 : crashE d1 0 10 = 0 := by rw [hd1']; simp [crashE, mayE, newD]
  obtain ⟨d2, hd2⟩ : ∃ d2, d2 = crashD d1 0 10 := ⟨_, rfl⟩
  have hd2' : d2 = ⟨16, true, false, 0, 10, updB (fun _ => zero64) 3 (ones 1)⟩ := by rw [hd2, crashD, if_pos e2, hd1']; rfl
  have e3 : writeE d2 3 (ones 2) = 11 := by rw [hd2']; simp [writeE, mayE, ones]
  obtain ⟨d3, hd3⟩ : ∃ d3, d3 = writeD d2 3 (ones 2) := ⟨_, rfl⟩
  have hd3' : d3 = ⟨16, false, true, 0, 10, updB (updB (fun _ => zero64) 3 (ones 1)) 3 ((ones 2).take 10 ++ (ones 1).drop 10)⟩ := by
    rw [hd3, hd2']; simp [writeD, mayE, ones, updB]
  have e4 : mayE { d3 with down := false } 3 = 0 := by rw [hd3']; simp [mayE]
  have e5 : d3.mem 3 = (ones 2).take 10 ++ (ones 1).drop 10 := by rw [hd3']; simp [updB]
  have o1 : DevOk (newD 16) := by simp [DevOk, newD]
  have o2 : DevOk d2 := by rw [hd2']; simp [DevOk]
  have e6 : d3.down = true := by rw [hd3']
  obtain ⟨d4, hd4⟩ : ∃ d4, d4 = { d3 with down := false } := ⟨_, rfl⟩
  have e7 : d4.mem 3 = (ones 2).take 10 ++ (ones 1).drop 10 := by rw [hd4]; exact e5
  rw [← hd4] at e4
  have hw1 : ∀ D b g W, DevAt W D b (newD 16) → ArrB W g (ones 1) → g ∉ [D, b] → Calls Try.prog 42 #[.pointer (some ⟨D, 0, none⟩), .int .i64 3, .slice (some ⟨g, 0, none⟩) 64 64] W fun e w' => e = .returned (.int .i64 0) ∧ DevAt w' D b d1 ∧ Aside [D, b] W w' := fun D b g W h1 h2 h3 => by
    have := hwr D b (newD 16) 3 g 1 W h1 o1 h2 h3
    unfold WritePost at this
    rw [e1, ← hd1] at this
    exact this
  have hcr : ∀ D b W, DevAt W D b d1 → Calls Try.prog 40 #[.pointer (some ⟨D, 0, none⟩), .int .i64 0, .int .i64 10] W fun e w' => e = .returned (.int .i64 0) ∧ DevAt w' D b d2 ∧ W.grownBy w' (some D) := fun D b W h1 => by
    have := crash_dev D b d1 0 10 W h1
    rw [e2, ← hd2] at this
    exact this
  have hw2 : ∀ D b g W, DevAt W D b d2 → ArrB W g (ones 2) → g ∉ [D, b] → Calls Try.prog 42 #[.pointer (some ⟨D, 0, none⟩), .int .i64 3, .slice (some ⟨g, 0, none⟩) 64 64] W fun e w' => e = .returned (.int .i64 11) ∧ DevAt w' D b d3 ∧ Aside [D, b] W w' := fun D b g W h1 h2 h3 => by
    have := hwr D b d2 3 g 2 W h1 o2 h2 h3
    unfold WritePost at this
    rw [e3, ← hd3] at this
    exact this
  have hdn : ∀ D b W, DevAt W D b d3 → Calls Try.prog 43 #[.pointer (some ⟨D, 0, none⟩)] W fun e w' => e = .returned (.bool true) ∧ W = w' := fun D b W h1 => by
    have := down_dev D b d3 W h1
    rw [e6] at this
    exact this
  have hup : ∀ D b W, DevAt W D b d3 → Calls Try.prog 46 #[.pointer (some ⟨D, 0, none⟩)] W fun e w' => e = .returned (.tuple #[]) ∧ DevAt w' D b d4 ∧ W.grownBy w' (some D) := fun D b W h1 => by
    rw [hd4]; exact up_dev D b d3 W h1
  have hrd : ∀ D b W, DevAt W D b d4 → Calls Try.prog 45 #[.pointer (some ⟨D, 0, none⟩), .int .i64 3] W fun e w' => ∃ g, e = .returned (.tuple #[.slice (some ⟨g, 0, none⟩) 64 64, .int .i64 0]) ∧ ArrT w' g 132 ((ones 2).take 10 ++ (ones 1).drop 10) ∧ Below W.heap.size W w' := fun D b W h1 => by
    refine (read_dev D b d4 3 W h1).mono ?_
    rintro e w' (⟨h2, _⟩ | ⟨_, g, rfl, h3, _, _, h4⟩)
    · exact absurd e4 h2
    · exact ⟨g, rfl, by rw [← e7]; exact h3, h4⟩
  clear hwr e1 hd1 hd1' e2 hd2 hd2' e3 hd3 hd3' e4 e5 o1 o2 e6 hd4 e7
  have tok1 : True := trivial
  have tok2 : True := trivial
  go_enter Try.func39, Try.ntmps39
  go_upto_region 10 with (first
    | (go_at_call 38; refine hnew.mono ?_; rintro e w1 ⟨D, b, rfl, hD1, hD0, hb0, hB1⟩)
    | (go_at_call 41; have _t := tok1; clear tok1 _t; refine (hfull 1 1 _ rfl).mono ?_; rintro e w2 ⟨rfl, hg2, hB12⟩; have hD2 := hD1.later hB12; have hB2 := below_call hB1 (Nat.le_refl _) hB12; have hn2 : w1.heap.size ∉ [D, b] := (by have := hD1.lt; have := hD1.ltb; simp; omega))
    | (go_at_call 42; have _t := tok2; clear tok2 _t; refine (hw1 D b _ _ hD2 hg2 hn2).mono ?_; rintro e w3 ⟨rfl, hD3, hA3⟩; have hB3 := hB2.trans (hA3.toBelow (fun k hk => by simp at hk; omega) hB2.size))
    | (go_at_call 40; refine (hcr D b _ hD3).mono ?_; rintro e w4 ⟨rfl, hD4, hg4⟩; have hB4 := hB3.grown hg4 hB3.size (fun k hk => by injection hk with hk; omega))
    | (go_at_call 41; refine (hfull 2 2 _ rfl).mono ?_; rintro e w5 ⟨rfl, hg5, hB45⟩; have hD5 := hD4.later hB45; have hB5 := below_call hB4 (Nat.le_refl _) hB45; have hn5 : w4.heap.size ∉ [D, b] := (by have := hD4.lt; have := hD4.ltb; simp; omega))
    | (go_at_call 42; refine (hw2 D b _ _ hD5 hg5 hn5).mono ?_; rintro e w6 ⟨rfl, hD6, hA6⟩; have hB6 := hB5.trans (hA6.toBelow (fun k hk => by simp at hk; omega) hB5.size))
    | (go_at_call 43; refine (hdn D b _ hD6).mono ?_; rintro e w7 ⟨rfl, rfl⟩)
    | (go_at_call 46; refine (hup D b _ hD6).mono ?_; rintro e w8 ⟨rfl, hD8, hg8⟩; have hB8 := hB6.grown hg8 hB6.size (fun k hk => by injection hk with hk; omega))
    | (go_at_call 45; refine (hrd D b _ hD8).mono ?_; rintro e w9 ⟨g9, rfl, hr9, hB89⟩; have hB9 := below_call hB8 (Nat.le_refl _) hB89))
  obtain ⟨X, hX⟩ : ∃ X, X = (ones 2).take 10 := ⟨_, rfl⟩
  obtain ⟨Y, hY⟩ : ∃ Y, Y = (ones 1).drop 10 := ⟨_, rfl⟩
  have hXl : X.length = 10 := by rw [hX]; simp [ones]
  have hYl : Y.length = 54 := by rw [hY]; simp [ones]
  rw [← hX, ← hY] at hr9
  have HX := Lib.hid hX
  have HY := Lib.hid hY
  have HXl := Lib.hid hXl
  have HYl := Lib.hid hYl
  clear hX hY hXl hYl hnew hw1 hcr hw2 hdn hup hrd
  have hRl : (X ++ Y).length = 64 := by rw [List.length_append, HXl.out, HYl.out]
  have hne : Nonempty (SW (fun W => Below w9.heap.size w9 W)) := ⟨⟨w9, Below.refl _ _⟩⟩
  have t9 : ∀ x : SW (fun W => Below w9.heap.size w9 W), (convert 22 9 (.slice (some ⟨g9, 0, none⟩) 64 64)).run Try.prog x.W = .ok (.string ⟨(X ++ Y).toArray⟩) x.W := fun x => conv_text ((hr9.later x.h).bytes) hRl.symm
  have Hf := Lib.hid hfull
  clear hfull hRl
  refine wp_region_seqM (fun W => Below w9.heap.size w9 W) [(0, true), (1, true), (2, true), (3, true), (4, true), (5, true), (6, true), (7, true), (8, true), (9, true), (10, true), (11, true), (12, true), (13, true), (14, true), (15, true), (16, true), (17, true), (18, true), (19, true), (20, false), (21, true), (22, true), (23, false), (24, true), (25, true), (26, true), (27, true), (28, true), (29, true)] (by kernel_rfl) (by kernel_rfl) (fun d _ _ _ _ h => by cases d <;> exact h) ((Below.refl _ _).drew) ?_
  repeat (first
    | (refine wpSeqM_skip (o := ⟨_, _, _, _, _, _⟩) rfl rfl ?_; simp only [Act.put, List.setIfInBounds_toArray, List.set_cons_zero, List.set_cons_succ])
    | (refine wpSeqM_free (o := ⟨_, _, _, _, _, _⟩) rfl rfl (fun K hK => ?_); go_big_quiet_op; (refine hK _ ?_; clear hK K)))
  refine wpSeqM_next (o := ⟨_, _, _, _, _, _⟩) rfl rfl (fun K hK => ?_)
  go_simp
  go_at_call 41
  refine (Hf.out 2 2 _ rfl).mono ?_
  rintro e wa ⟨rfl, hga, hBa⟩
  have hBa9 : Below w9.heap.size w9 wa := (Below.refl _ w9).drew.trans hBa
  have hga' : ArrB wa w9.heap.size (ones 2) := hga
  refine hK.out (fun W => Below wa.heap.size wa W) _ _ (fun W h => hBa9.trans (h.mono hBa9.size)) (Below.refl _ _) ?_
  clear hK K
  clear t9
  have hne2 : Nonempty (SW (fun W => Below wa.heap.size wa W)) := ⟨⟨wa, Below.refl _ _⟩⟩
  have ta : ∀ x : SW (fun W => Below wa.heap.size wa W), (convert 22 9 (.slice (some ⟨w9.heap.size, 0, none⟩) 10 64)).run Try.prog x.W = .ok (.string ⟨X.toArray⟩) x.W := fun x => conv_text (by rw [HX.out]; exact ((hga'.bytes.later x.h).take 10)) HXl.out.symm
  repeat (first
    | (refine wpSeqM_skip (o := ⟨_, _, _, _, _, _⟩) rfl rfl ?_; simp only [Act.put, List.setIfInBounds_toArray, List.set_cons_zero, List.set_cons_succ])
    | (refine wpSeqM_free (o := ⟨_, _, _, _, _, _⟩) rfl rfl (fun K hK => ?_); go_big_quiet_op; (refine hK _ ?_; clear hK K)))
  refine wpSeqM_next (o := ⟨_, _, _, _, _, _⟩) rfl rfl (fun K hK => ?_)
  go_simp
  go_at_call 41
  refine (Hf.out 1 1 _ rfl).mono ?_
  rintro e wb ⟨rfl, hgb, hBb⟩
  refine hK.out (fun W => Below wb.heap.size wb W) _ _ (fun W h => hBb.trans (h.mono hBb.size)) (Below.refl _ _) ?_
  clear hK K
  clear ta
  have hne3 : Nonempty (SW (fun W => Below wb.heap.size wb W)) := ⟨⟨wb, Below.refl _ _⟩⟩
  have tb : ∀ x : SW (fun W => Below wb.heap.size wb W), (convert 22 9 (.slice (some ⟨wa.heap.size, 10, none⟩) 54 54)).run Try.prog x.W = .ok (.string ⟨Y.toArray⟩) x.W := fun x => conv_text (by
    rw [HY.out]
    have h1 := (hgb.bytes.later x.h).drop 10 64 (by rw [ones_length]; exact Nat.le_refl _)
    rw [if_neg (by decide)] at h1
    simpa [Addr.add_lit] using h1) HYl.out.symm
  have hsum : ¬ 9223372036854775807 < X.length + Y.length := by rw [HXl.out, HYl.out]; decide
  repeat (first
    | (refine wpSeqM_skip (o := ⟨_, _, _, _, _, _⟩) rfl rfl ?_; simp only [Act.put, List.setIfInBounds_toArray, List.set_cons_zero, List.set_cons_succ])
    | (refine wpSeqM_free (o := ⟨_, _, _, _, _, _⟩) rfl rfl (fun K hK => ?_); go_big_quiet_op; (refine hK _ ?_; clear hK K)))
  refine wpSeqM_nil ?_
  go_wp2
  go_ret
  exact ⟨ret_bool (by rw [str_app]; simp), below_call (below_call hB9 (Nat.le_refl _) hBa9) (Nat.le_refl _) hBb⟩

end Go.Proofs.Ytdlbjllgdikadaa
