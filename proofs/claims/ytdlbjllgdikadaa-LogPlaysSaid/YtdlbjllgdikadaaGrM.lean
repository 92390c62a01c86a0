/- The laws of device: full, known. The law DeviceCrash: what is written, as a plain state; the walk. The law DeviceCrash walked. -/
import Derived.Test.YtdlbjllgdikadaaGrL
import Derived.Test.YtdlbjllgdikadaaGrA
import Derived.Test.YtdlbjllgdikadaaGrJ
namespace Go.Proofs.Ytdlbjllgdikadaa
open Go.RowKit

def ones (x : UInt8) : List UInt8 := List.replicate 64 x

theorem full_calls (x : UInt8) (w : World) :
    Calls Try.prog 41 #[.int .u8 (x.toNat : Int)] w fun e w' => e = .returned (.slice (some ⟨w.heap.size, 0, none⟩) 64 64) ∧ ArrB w' w.heap.size (ones x) ∧ Below w.heap.size w w' := by
  go_enter Try.func41, Try.ntmps41
  go_wp2_with (refine wpList_make_bytes rfl _ _ rfl 64 64 64 rfl rfl rfl rfl (by decide) ?_; intro w3 harr hgr; have hB := (Below.refl w.heap.size w).grown hgr (Nat.le_refl _) (fun _ h => nomatch h); clear hgr)
  obtain ⟨G, hG⟩ : ∃ G, G = w.heap.size := ⟨_, rfl⟩
  rw [← hG] at harr ⊢
  have HG := Lib.hid hG
  clear hG
  go_loopw [8] (fun i wr => ∃ j : Nat, j ≤ 64 ∧ i = .int .i64 j ∧ ArrB wr G (List.replicate j x ++ List.replicate (64 - j) 0) ∧ Below w.heap.size w wr) (fun i _ => 64 - (intOf i).toNat)
  case atStart => exact ⟨0, Nat.zero_le _, rfl, harr, hB⟩
  case round =>
    clear harr hB
    obtain ⟨j, hj, rfl, harr, hB⟩ := hrel
    by_cases hlt : j < 64
    · have hf := harr.free j
      have hc := harr.cell j (by simp; omega)
      have hnew := harr.stored j x
      have e : (List.replicate j x ++ List.replicate (64 - j) (0 : UInt8)).set j x = List.replicate (j + 1) x ++ List.replicate (64 - (j + 1)) 0 := by
        rw [List.set_append_right _ _ (by simp), List.length_replicate, Nat.sub_self]
        obtain ⟨q, hq⟩ : ∃ q, 64 - j = q + 1 := ⟨63 - j, by omega⟩
        rw [hq, List.replicate_succ, List.set_cons_zero, show 64 - (j + 1) = q by omega, List.replicate_succ' (n := j), List.append_assoc]
        rfl
      rw [e] at hnew
      have Hnew := Lib.hid hnew
      clear hnew e
      go_wp2
      go_roundw
      case rel => exact ⟨j + 1, by omega, by go_num, Hnew.out, hB.setCell (p := ⟨G, j, none⟩) (by rw [HG.out]; exact Nat.le_refl _) _⟩
      case measure => simp [intOf]; omega
    · obtain rfl : j = 64 := by omega
      go_wp2
      go_ret
      have hB' : Below G w wr := by rw [HG.out]; exact hB
      rw [← HG.out]
      exact ⟨rfl, by simpa [ones] using harr, hB'⟩

theorem ArrB.bytes {w : World} {g : Nat} {l : List UInt8} (h : ArrB w g l) : IsBytes w (some ⟨g, 0, none⟩) l := fun i hi => ⟨g, 0, rfl, by rw [Nat.zero_add]; exact h.cell i hi⟩
theorem ones_length (x : UInt8) : (ones x).length = 64 := by simp [ones]

set_option maxHeartbeats 2000000 in
set_option maxRecDepth 100000 in
theorem known39_calls (w : World) : Calls Try.prog 39 #[] w fun e w' => e = .returned (.bool true) ∧ Below w.heap.size w w' := by
  have hnew := new_dev 16 w (by decide) (by decide)
  have hfull : ∀ (n : Int) (x : UInt8) (W : World), n = (x.toNat : Int) → Calls Try.prog 41 #[.int .u8 n] W fun e w' => e = .returned (.slice (some ⟨W.heap.size, 0, none⟩) 64 64) ∧ ArrB w' W.heap.size (ones x) ∧ Below W.heap.size W w' := fun n x W h => by rw [h]; exact full_calls x W
  have hwr : ∀ D b d i g x W, DevAt W D b d → DevOk d → ArrB W g (ones x) → g ∉ [D, b] → Calls Try.prog 42 #[.pointer (some ⟨D, 0, none⟩), .int .i64 i, .slice (some ⟨g, 0, none⟩) 64 64] W (WritePost D b d i (ones x) W) := fun D b d i g x W h1 h2 h3 h4 => by
    have := write_dev D b d i (some ⟨g, 0, none⟩) (ones x) 64 W h1 h2 h3.bytes (fun q off e => by cases e; exact h4)
    rw [ones_length] at this
    exact this
  have e1 : writeE (newD 16) 3 (ones 1) = 0 := by simp [writeE, mayE, newD, ones]
  obtain ⟨d1, hd1⟩ : ∃ d1, d1 = writeD (newD 16) 3 (ones 1) := ⟨_, rfl⟩
  have hd1' : d1 = { newD 16 with writes := -1, mem := updB (fun _ => zero64) 3 (ones 1) } := by rw [hd1]; simp [writeD, mayE, newD, ones]
  have e2 : crashE d1 0 10 = 0 := by rw [hd1']; simp [crashE, mayE, newD]
  obtain ⟨d2, hd2⟩ : ∃ d2, d2 = crashD d1 0 10 := ⟨_, rfl⟩
  have hd2' : d2 = ⟨16, true, false, 0, 10, updB (fun _ => zero64) 3 (ones 1)⟩ := by rw [hd2, crashD, if_pos e2, hd1']; rfl
  have e3 : writeE d2 3 (ones 2) = 11 := by rw [hd2']; simp [writeE, mayE, ones]
  obtain ⟨d3, hd3⟩ : ∃ d3, d3 = writeD d2 3 (ones 2) := ⟨_, rfl⟩
  have hd3' : d3 = ⟨16, false, true, 0, 10, updB (updB (fun _ => zero64) 3 (ones 1)) 3 ((ones 2).take 10 ++ (ones 1).drop 10)⟩ := by
    rw [hd3, hd2']; simp [writeD, mayE, ones, updB]
  have e4 : mayE { d3 with down := false } 3 = 0 := by rw [hd3']; simp [mayE]
  have e5 : d3.mem 3 = (ones 2).take 10 ++ (ones 1).drop 10 := by rw [hd3']; simp [updB]
  have o1 : DevOk (newD 16) := by simp [DevOk, newD]
  have o2 : DevOk d2 := by rw [hd2']; simp [DevOk]
  have e6 : d3.down = true := by rw [hd3']
  obtain ⟨d4, hd4⟩ : ∃ d4, d4 = { d3 with down := false } := ⟨_, rfl⟩
  have e7 : d4.mem 3 = (ones 2).take 10 ++ (ones 1).drop 10 := by rw [hd4]; exact e5
  rw [← hd4] at e4
  have hw1 : ∀ D b g W, DevAt W D b (newD 16) → ArrB W g (ones 1) → g ∉ [D, b] → Calls Try.prog 42 #[.pointer (some ⟨D, 0, none⟩), .int .i64 3, .slice (some ⟨g, 0, none⟩) 64 64] W fun e w' => e = .returned (.int .i64 0) ∧ DevAt w' D b d1 ∧ Aside [D, b] W w' := fun D b g W h1 h2 h3 => by
    have := hwr D b (newD 16) 3 g 1 W h1 o1 h2 h3
    unfold WritePost at this
    rw [e1, ← hd1] at this
    exact this
  have hcr : ∀ D b W, DevAt W D b d1 → Calls Try.prog 40 #[.pointer (some ⟨D, 0, none⟩), .int .i64 0, .int .i64 10] W fun e w' => e = .returned (.int .i64 0) ∧ DevAt w' D b d2 ∧ W.grownBy w' (some D) := fun D b W h1 => by
    have := crash_dev D b d1 0 10 W h1
    rw [e2, ← hd2] at this
    exact this
  have hw2 : ∀ D b g W, DevAt W D b d2 → ArrB W g (ones 2) → g ∉ [D, b] → Calls Try.prog 42 #[.pointer (some ⟨D, 0, none⟩), .int .i64 3, .slice (some ⟨g, 0, none⟩) 64 64] W fun e w' => e = .returned (.int .i64 11) ∧ DevAt w' D b d3 ∧ Aside [D, b] W w' := fun D b g W h1 h2 h3 => by
    have := hwr D b d2 3 g 2 W h1 o2 h2 h3
    unfold WritePost at this
    rw [e3, ← hd3] at this
    exact this
  have hdn : ∀ D b W, DevAt W D b d3 → Calls Try.prog 43 #[.pointer (some ⟨D, 0, none⟩)] W fun e w' => e = .returned (.bool true) ∧ W = w' := fun D b W h1 => by
    have := down_dev D b d3 W h1
    rw [e6] at this
    exact this
  have hup : ∀ D b W, DevAt W D b d3 → Calls Try.prog 46 #[.pointer (some ⟨D, 0, none⟩)] W fun e w' => e = .returned (.tuple #[]) ∧ DevAt w' D b d4 ∧ W.grownBy w' (some D) := fun D b W h1 => by
    rw [hd4]; exact up_dev D b d3 W h1
  have hrd : ∀ D b W, DevAt W D b d4 → Calls Try.prog 45 #[.pointer (some ⟨D, 0, none⟩), .int .i64 3] W fun e w' => ∃ g, e = .returned (.tuple #[.slice (some ⟨g, 0, none⟩) 64 64, .int .i64 0]) ∧ ArrT w' g 132 ((ones 2).take 10 ++ (ones 1).drop 10) ∧ Below W.heap.size W w' := fun D b W h1 => by
    refine (read_dev D b d4 3 W h1).mono ?_
    rintro e w' (⟨h2, _⟩ | ⟨_, g, rfl, h3, _, _, h4⟩)
    · exact absurd e4 h2
    · exact ⟨g, rfl, by rw [← e7]; exact h3, h4⟩
  clear hwr e1 hd1 hd1' e2 hd2 hd2' e3 hd3 hd3' e4 e5 o1 o2 e6 hd4 e7
  have tok1 : True := trivial
  have tok2 : True := trivial
  go_enter Try.func39, Try.ntmps39
  go_upto_region 10 with (first
    | (go_at_call 38; refine hnew.mono ?_; rintro e w1 ⟨D, b, rfl, hD1, hD0, hb0, hB1⟩)
    | (go_at_call 41; have _t := tok1; clear tok1 _t; refine (hfull 1 1 _ rfl).mono ?_; rintro e w2 ⟨rfl, hg2, hB12⟩; have hD2 := hD1.later hB12; have hB2 := below_call hB1 (Nat.le_refl _) hB12; have hn2 : w1.heap.size ∉ [D, b] := (by have := hD1.lt; have := hD1.ltb; simp; omega))
    | (go_at_call 42; have _t := tok2; clear tok2 _t; refine (hw1 D b _ _ hD2 hg2 hn2).mono ?_; rintro e w3 ⟨rfl, hD3, hA3⟩; have hB3 := hB2.trans (hA3.toBelow (fun k hk => by simp at hk; omega) hB2.size))
    | (go_at_call 40; refine (hcr D b _ hD3).mono ?_; rintro e w4 ⟨rfl, hD4, hg4⟩; have hB4 := hB3.grown hg4 hB3.size (fun k hk => by injection hk with hk; omega))
    | (go_at_call 41; refine (hfull 2 2 _ rfl).mono ?_; rintro e w5 ⟨rfl, hg5, hB45⟩; have hD5 := hD4.later hB45; have hB5 := below_call hB4 (Nat.le_refl _) hB45; have hn5 : w4.heap.size ∉ [D, b] := (by have := hD4.lt; have := hD4.ltb; simp; omega))
    | (go_at_call 42; refine (hw2 D b _ _ hD5 hg5 hn5).mono ?_; rintro e w6 ⟨rfl, hD6, hA6⟩; have hB6 := hB5.trans (hA6.toBelow (fun k hk => by simp at hk; omega) hB5.size))
    | (go_at_call 43; refine (hdn D b _ hD6).mono ?_; rintro e w7 ⟨rfl, rfl⟩)
    | (go_at_call 46; refine (hup D b _ hD6).mono ?_; rintro e w8 ⟨rfl, hD8, hg8⟩; have hB8 := hB6.grown hg8 hB6.size (fun k hk => by injection hk with hk; omega))
    | (go_at_call 45; refine (hrd D b _ hD8).mono ?_; rintro e w9 ⟨g9, rfl, hr9, hB89⟩; have hB9 := below_call hB8 (Nat.le_refl _) hB89))
  obtain ⟨X, hX⟩ : ∃ X, X = (ones 2).take 10 := ⟨_, rfl⟩
  obtain ⟨Y, hY⟩ : ∃ Y, Y = (ones 1).drop 10 := ⟨_, rfl⟩
  have hXl : X.length = 10 := by rw [hX]; simp [ones]
  have hYl : Y.length = 54 := by rw [hY]; simp [ones]
  rw [← hX, ← hY] at hr9
  have HX := Lib.hid hX
  have HY := Lib.hid hY
  have HXl := Lib.hid hXl
  have HYl := Lib.hid hYl
  clear hX hY hXl hYl hnew hw1 hcr hw2 hdn hup hrd
  have hRl : (X ++ Y).length = 64 := by rw [List.length_append, HXl.out, HYl.out]
  have hne : Nonempty (SW (fun W => Below w9.heap.size w9 W)) := ⟨⟨w9, Below.refl _ _⟩⟩
  have t9 : ∀ x : SW (fun W => Below w9.heap.size w9 W), (convert 22 9 (.slice (some ⟨g9, 0, none⟩) 64 64)).run Try.prog x.W = .ok (.string ⟨(X ++ Y).toArray⟩) x.W := fun x => conv_text ((hr9.later x.h).bytes) hRl.symm
  have Hf := Lib.hid hfull
  clear hfull hRl
  refine wp_region_seqM (fun W => Below w9.heap.size w9 W) [(0, true), (1, true), (2, true), (3, true), (4, true), (5, true), (6, true), (7, true), (8, true), (9, true), (10, true), (11, true), (12, true), (13, true), (14, true), (15, true), (16, true), (17, true), (18, true), (19, true), (20, false), (21, true), (22, true), (23, false), (24, true), (25, true), (26, true), (27, true), (28, true), (29, true)] (by kernel_rfl) (by kernel_rfl) (fun d _ _ _ _ h => by cases d <;> exact h) ((Below.refl _ _).drew) ?_
  repeat (first
    | (refine wpSeqM_skip (o := ⟨_, _, _, _, _, _⟩) rfl rfl ?_; simp only [Act.put, List.setIfInBounds_toArray, List.set_cons_zero, List.set_cons_succ])
    | (refine wpSeqM_free (o := ⟨_, _, _, _, _, _⟩) rfl rfl (fun K hK => ?_); go_big_quiet_op; (refine hK _ ?_; clear hK K)))
  refine wpSeqM_next (o := ⟨_, _, _, _, _, _⟩) rfl rfl (fun K hK => ?_)
  go_simp
  go_at_call 41
  refine (Hf.out 2 2 _ rfl).mono ?_
  rintro e wa ⟨rfl, hga, hBa⟩
  have hBa9 : Below w9.heap.size w9 wa := (Below.refl _ w9).drew.trans hBa
  have hga' : ArrB wa w9.heap.size (ones 2) := hga
  refine hK.out (fun W => Below wa.heap.size wa W) _ _ (fun W h => hBa9.trans (h.mono hBa9.size)) (Below.refl _ _) ?_
  clear hK K
  clear t9
  have hne2 : Nonempty (SW (fun W => Below wa.heap.size wa W)) := ⟨⟨wa, Below.refl _ _⟩⟩
  have ta : ∀ x : SW (fun W => Below wa.heap.size wa W), (convert 22 9 (.slice (some ⟨w9.heap.size, 0, none⟩) 10 64)).run Try.prog x.W = .ok (.string ⟨X.toArray⟩) x.W := fun x => conv_text (by rw [HX.out]; exact ((hga'.bytes.later x.h).take 10)) HXl.out.symm
  repeat (first
    | (refine wpSeqM_skip (o := ⟨_, _, _, _, _, _⟩) rfl rfl ?_; simp only [Act.put, List.setIfInBounds_toArray, List.set_cons_zero, List.set_cons_succ])
    | (refine wpSeqM_free (o := ⟨_, _, _, _, _, _⟩) rfl rfl (fun K hK => ?_); go_big_quiet_op; (refine hK _ ?_; clear hK K)))
  refine wpSeqM_next (o := ⟨_, _, _, _, _, _⟩) rfl rfl (fun K hK => ?_)
  go_simp
  go_at_call 41
  refine (Hf.out 1 1 _ rfl).mono ?_
  rintro e wb ⟨rfl, hgb, hBb⟩
  refine hK.out (fun W => Below wb.heap.size wb W) _ _ (fun W h => hBb.trans (h.mono hBb.size)) (Below.refl _ _) ?_
  clear hK K
  clear ta
  have hne3 : Nonempty (SW (fun W => Below wb.heap.size wb W)) := ⟨⟨wb, Below.refl _ _⟩⟩
  have tb : ∀ x : SW (fun W => Below wb.heap.size wb W), (convert 22 9 (.slice (some ⟨wa.heap.size, 10, none⟩) 54 54)).run Try.prog x.W = .ok (.string ⟨Y.toArray⟩) x.W := fun x => conv_text (by
    rw [HY.out]
    have h1 := (hgb.bytes.later x.h).drop 10 64 (by rw [ones_length]; exact Nat.le_refl _)
    rw [if_neg (by decide)] at h1
    simpa [Addr.add_lit] using h1) HYl.out.symm
  have hsum : ¬ 9223372036854775807 < X.length + Y.length := by rw [HXl.out, HYl.out]; decide
  repeat (first
    | (refine wpSeqM_skip (o := ⟨_, _, _, _, _, _⟩) rfl rfl ?_; simp only [Act.put, List.setIfInBounds_toArray, List.set_cons_zero, List.set_cons_succ])
    | (refine wpSeqM_free (o := ⟨_, _, _, _, _, _⟩) rfl rfl (fun K hK => ?_); go_big_quiet_op; (refine hK _ ?_; clear hK K)))
  refine wpSeqM_nil ?_
  go_wp2
  go_ret
  exact ⟨ret_bool (by rw [str_app]; simp), below_call (below_call hB9 (Nat.le_refl _) hBa9) (Nat.le_refl _) hBb⟩

end Go.Proofs.Ytdlbjllgdikadaa

namespace Go.Proofs.Ytdlbjllgdikadaa
open Go.RowKit

def win (L : List UInt8) (k : Nat) : List UInt8 := (L.drop (64 * k)).take 64

theorem win_length (L : List UInt8) (k : Nat) (h : L.length = 1024) (hk : k < 16) : (win L k).length = 64 := by
  rw [win, List.length_take, List.length_drop, h]; omega

/-- A part of window k is written over. -/
def winW (L : List UInt8) (k : Nat) (s : List UInt8) : List UInt8 := L.take (k * 64) ++ (s ++ L.drop (k * 64 + s.length))

theorem winW_length (L : List UInt8) (k : Nat) (s : List UInt8) (h : L.length = 1024) (hk : k < 16) (hs : s.length ≤ 64) : (winW L k s).length = 1024 := by
  unfold winW
  rw [List.length_append, List.length_append, List.length_take, List.length_drop, h]; omega

theorem win_winW (L : List UInt8) (k : Nat) (s : List UInt8) (h : L.length = 1024) (hk : k < 16) (hs : s.length ≤ 64) (i : Nat) (hi : i < 16) :
    win (winW L k s) i = if i = k then s ++ (win L k).drop s.length else win L i := by
  have hl := winW_length L k s h hk hs
  apply List.ext_getElem
  · rw [win_length _ _ hl hi]
    split
    · rw [List.length_append, List.length_drop, win_length L k h hk]; omega
    · rw [win_length L i h hi]
  · intro q h0 h2
    have h1 := h0
    rw [win_length _ _ hl hi] at h1
    have e1 : (win (winW L k s) i)[q]? = (winW L k s)[64 * i + q]? := by
      unfold win
      rw [List.getElem?_take_of_lt h1, List.getElem?_drop]
    have e2 : (winW L k s)[64 * i + q]? = if k * 64 ≤ 64 * i + q ∧ 64 * i + q < k * 64 + s.length then s[64 * i + q - k * 64]? else L[64 * i + q]? := by
      unfold winW
      by_cases c1 : 64 * i + q < k * 64
      · rw [List.getElem?_append_left (by rw [List.length_take, h]; omega), List.getElem?_take_of_lt c1, if_neg (by omega)]
      · rw [List.getElem?_append_right (by rw [List.length_take, h]; omega), List.length_take, h, Nat.min_eq_left (by omega)]
        by_cases c2 : 64 * i + q < k * 64 + s.length
        · rw [List.getElem?_append_left (by omega), if_pos ⟨by omega, c2⟩]
        · rw [List.getElem?_append_right (by omega), List.getElem?_drop, if_neg (by omega)]
          congr 1; omega
    have e3 : ∀ j, j < 16 → (win L j)[q]? = L[64 * j + q]? := fun j _ => by
      unfold win
      rw [List.getElem?_take_of_lt h1, List.getElem?_drop]
    have goal : (win (winW L k s) i)[q]? = (if i = k then s ++ (win L k).drop s.length else win L i)[q]? := by
      rw [e1, e2]
      by_cases c : i = k
      · subst c
        rw [if_pos rfl]
        by_cases c2 : q < s.length
        · rw [if_pos (by omega), List.getElem?_append_left c2]
          congr 1; omega
        · rw [if_neg (by omega), List.getElem?_append_right (by omega), List.getElem?_drop, ← e3 i hi]
          congr 1; omega
      · rw [if_neg c, if_neg (by omega), e3 i hi]
    rw [List.getElem?_eq_getElem h0, List.getElem?_eq_getElem h2] at goal
    exact Option.some.inj goal

/-- The device and the array that is wanted, ahead of round j. -/
def CrashRel (n : Int) (p : Int) (j : Nat) (d : Dev) (L : List UInt8) : Prop :=
  d.blocks = 16 ∧ d.prefix_ = p ∧ L.length = 1024 ∧ (∀ k, k < 16 → d.mem k = win L k) ∧
  ((j : Int) ≤ n → d.down = false ∧ d.set = true ∧ d.writes = n - j) ∧ (n < (j : Int) → d.down = true ∧ d.set = false)

theorem zero_win (k : Nat) (hk : k < 16) : win (List.replicate 1024 0) k = zero64 := by
  unfold win zero64
  rw [List.drop_replicate, List.take_replicate]
  congr 1; omega

theorem crash_start (n p : Int) (h1 : 0 ≤ n) (h2 : 0 ≤ p) (h3 : p ≤ 64) : crashE (newD 16) n p = 0 ∧ CrashRel n p 0 (crashD (newD 16) n p) (List.replicate 1024 0) := by
  have e : crashE (newD 16) n p = 0 := by
    have : mayE (newD 16) 0 = 0 := by simp [mayE, newD]
    rw [crashE, if_pos this, if_neg (by omega)]
  refine ⟨e, ?_⟩
  rw [crashD, if_pos e]
  exact ⟨rfl, rfl, List.length_replicate, fun k hk => (zero_win k hk).symm, fun _ => ⟨rfl, rfl, by simp⟩, fun h => by omega⟩

/-- How many bytes of round j's block count. -/
def crashN (n p : Int) (j : Nat) : Nat := if (j : Int) < n then 64 else if (j : Int) = n then p.toNat else 0

theorem crash_step (n p : Int) (h2 : 0 ≤ p) (h3 : p ≤ 64) (j : Nat) (d : Dev) (L : List UInt8) (h : CrashRel n p j d L) (k : Nat) (hk : k < 16) (x : UInt8) :
    writeE d k (ones x) = (if (j : Int) < n then 0 else 11) ∧ CrashRel n p (j + 1) (writeD d k (ones x)) (winW L k ((ones x).take (crashN n p j))) := by
  obtain ⟨hb, hp, hl, hm, hle, hgt⟩ := h
  have hlen := ones_length x
  have hcn : crashN n p j ≤ 64 := by
    unfold crashN
    split
    · omega
    · split <;> omega
  have htl : ((ones x).take (crashN n p j)).length = crashN n p j := by rw [List.length_take, hlen]; omega
  have hwl := winW_length L k _ hl hk (by rw [htl]; exact hcn)
  have hww := win_winW L k _ hl hk (by rw [htl]; exact hcn)
  rw [htl] at hww
  by_cases c : (j : Int) ≤ n
  · obtain ⟨hd, hs, hw⟩ := hle c
    have hmay : mayE d (k : Int) = 0 := by rw [mayE, hd, if_neg (by decide), if_neg (by omega)]
    by_cases c2 : (j : Int) < n
    · have hc : (d.set && d.writes == 0) = false := by rw [hs, hw, Bool.true_and, beq_eq_false_iff_ne]; omega
      have hN : crashN n p j = 64 := by rw [crashN, if_pos c2]
      refine ⟨by rw [writeE, if_pos hmay, if_pos hlen, hc, if_pos c2]; rfl, ?_⟩
      rw [writeD, if_pos ⟨hmay, hlen⟩, hc]
      refine ⟨hb, hp, hwl, fun i hi => ?_, fun _ => ⟨hd, hs, by show d.writes - 1 = _; rw [hw]; omega⟩, fun h => by omega⟩
      rw [hww i hi, hN]
      show updB d.mem (k : Int).toNat (ones x) i = _
      rw [Int.toNat_natCast]
      unfold updB
      by_cases e : i = k
      · rw [if_pos e, if_pos e, List.take_of_length_le (by rw [hlen]; exact Nat.le_refl _), List.drop_eq_nil_of_le (by rw [win_length L k hl hk]; exact Nat.le_refl _), List.append_nil]
      · rw [if_neg e, if_neg e, hm i hi]
    · have hjn : (j : Int) = n := by omega
      have hc : (d.set && d.writes == 0) = true := by rw [hs, hw, Bool.true_and, beq_iff_eq]; omega
      have hN : crashN n p j = p.toNat := by rw [crashN, if_neg c2, if_pos hjn]
      refine ⟨by rw [writeE, if_pos hmay, if_pos hlen, hc, if_neg c2]; rfl, ?_⟩
      rw [writeD, if_pos ⟨hmay, hlen⟩, hc]
      refine ⟨hb, hp, hwl, fun i hi => ?_, fun h => by omega, fun _ => ⟨rfl, rfl⟩⟩
      rw [hww i hi, hN]
      show updB d.mem (k : Int).toNat ((ones x).take d.prefix_.toNat ++ (d.mem (k : Int).toNat).drop d.prefix_.toNat) i = _
      rw [Int.toNat_natCast, hp]
      unfold updB
      by_cases e : i = k
      · rw [if_pos e, if_pos e, hm k hk]
      · rw [if_neg e, if_neg e, hm i hi]
  · obtain ⟨hd, hs⟩ := hgt (by omega)
    have hmay : mayE d (k : Int) = 11 := by rw [mayE, hd, if_pos rfl]
    have hN : crashN n p j = 0 := by rw [crashN, if_neg (by omega), if_neg (by omega)]
    refine ⟨by rw [writeE, if_neg (by rw [hmay]; decide), hmay, if_neg (by omega)], ?_⟩
    rw [writeD, if_neg (fun e => by rw [hmay] at e; exact absurd e.1 (by decide))]
    refine ⟨hb, hp, hwl, fun i hi => ?_, fun h => by omega, fun _ => ⟨hd, hs⟩⟩
    rw [hww i hi, hN]
    by_cases e : i = k
    · subst e; rw [if_pos rfl, hm i hi]; simp
    · rw [if_neg e, hm i hi]

theorem crash_ok (n p : Int) (h1 : 0 ≤ n) (hn : n ≤ 9223372036854775807) (h2 : 0 ≤ p) (h3 : p ≤ 64) (j : Nat) (d : Dev) (L : List UInt8) (h : CrashRel n p j d L) (hw : d.down = true → DevOk d) : DevOk d := by
  obtain ⟨_, hp, _, _, hle, hgt⟩ := h
  by_cases c : (j : Int) ≤ n
  · obtain ⟨_, _, h4⟩ := hle c
    exact ⟨by omega, by omega, by omega, by omega⟩
  · exact hw (hgt (by omega)).1

theorem writeD_ok {d : Dev} (h : DevOk d) (hw : -9223372036854775000 < d.writes) (i : Int) (l : List UInt8) : DevOk (writeD d i l) ∧ d.writes - 1 ≤ (writeD d i l).writes := by
  obtain ⟨h1, h2, h3, h4⟩ := h
  unfold writeD
  split
  · split
    · exact ⟨⟨h1, h2, h3, h4⟩, by show d.writes - 1 ≤ d.writes; omega⟩
    · refine ⟨⟨h1, h2, ?_, ?_⟩, Int.le_refl _⟩ <;> (show _; simp only; omega)
  · exact ⟨⟨h1, h2, h3, h4⟩, by omega⟩

end Go.Proofs.Ytdlbjllgdikadaa

namespace Go.Proofs.Ytdlbjllgdikadaa
open Go.RowKit

theorem IsBytes.cell' {w : World} {a : Option Addr} {l : List UInt8} (h : IsBytes w a l) (i : Nat) (hi : i < l.length) : ∃ b off, a = some ⟨b, off, none⟩ ∧ w.cell? ⟨b, off + i, none⟩ = some (.int .u8 (l[i].toNat : Int)) := h i hi

theorem zeroC57 : Try.zeroCells57 = (bvals (List.replicate 1024 0)).toArray := by kernel_rfl

set_option maxHeartbeats 4000000 in
set_option maxRecDepth 100000 in
theorem deviceCrash_walk (a : Option Addr) (l : List UInt8) (cap : Nat) (n p : Int) (hn : n ≤ 9223372036854775807) (w : World) (hby : IsBytes w a l) :
    Calls Try.prog 8 #[.slice a l.length cap, .int .i64 n, .int .i64 p] w fun e w' => e = .returned (.bool true) ∧ Below w.heap.size w w' := by
  have hnew := new_dev 16 w (by decide) (by decide)
  by_cases hbig : 20 < l.length ∨ n < 0 ∨ p < 0 ∨ 64 < p
  · by_cases b1 : 20 < l.length
    · go_enter Try.func8, Try.ntmps8
      go_wp2_with (first
        | (go_at_call 38; refine hnew.mono ?_; rintro e w1 ⟨D, b, rfl, hD1, hD0, hb0, hB1⟩)
        | (go_at_call 39; refine (known39_calls _).mono ?_; rintro e w9 ⟨rfl, hB9⟩))
      go_ret
      exact ⟨rfl, below_call hB1 (Nat.le_refl _) hB9⟩
    · by_cases b2 : n < 0
      · go_enter Try.func8, Try.ntmps8
        go_wp2_with (first
          | (go_at_call 38; refine hnew.mono ?_; rintro e w1 ⟨D, b, rfl, hD1, hD0, hb0, hB1⟩)
          | (go_at_call 39; refine (known39_calls _).mono ?_; rintro e w9 ⟨rfl, hB9⟩))
        go_ret
        exact ⟨rfl, below_call hB1 (Nat.le_refl _) hB9⟩
      · by_cases b3 : p < 0
        · go_enter Try.func8, Try.ntmps8
          go_wp2_with (first
            | (go_at_call 38; refine hnew.mono ?_; rintro e w1 ⟨D, b, rfl, hD1, hD0, hb0, hB1⟩)
            | (go_at_call 39; refine (known39_calls _).mono ?_; rintro e w9 ⟨rfl, hB9⟩))
          go_ret
          exact ⟨rfl, below_call hB1 (Nat.le_refl _) hB9⟩
        · have b4 : 64 < p := by omega
          go_enter Try.func8, Try.ntmps8
          go_wp2_with (first
            | (go_at_call 38; refine hnew.mono ?_; rintro e w1 ⟨D, b, rfl, hD1, hD0, hb0, hB1⟩)
            | (go_at_call 39; refine (known39_calls _).mono ?_; rintro e w9 ⟨rfl, hB9⟩))
          go_ret
          exact ⟨rfl, below_call hB1 (Nat.le_refl _) hB9⟩
  · have h20 : l.length ≤ 20 := by omega
    have h1 : 0 ≤ n := by omega
    have h2 : 0 ≤ p := by omega
    have h3 : p ≤ 64 := by omega
    clear hbig
    obtain ⟨ce, cr⟩ := crash_start n p h1 h2 h3
    have hcr : ∀ D b W, DevAt W D b (newD 16) → Calls Try.prog 40 #[.pointer (some ⟨D, 0, none⟩), .int .i64 n, .int .i64 p] W fun e w' => e = .returned (.int .i64 0) ∧ DevAt w' D b (crashD (newD 16) n p) ∧ W.grownBy w' (some D) := fun D b W h => by
      have := crash_dev D b (newD 16) n p W h
      rw [ce] at this
      exact this
    have Cr := Lib.hid cr
    clear cr ce
    go_enter Try.func8, Try.ntmps8
    go_wp2_with (first
      | (go_at_call 38; refine hnew.mono ?_; rintro e w1 ⟨D, b, rfl, hD1, hD0, hb0, hB1⟩)
      | (go_at_call 40; refine (hcr D b _ hD1).mono ?_; rintro e w2 ⟨rfl, hD2, hg2⟩; have hB2 := hB1.grown hg2 hB1.size (fun k hk => by injection hk with hk; omega)))
    have hA2 : w.heap.size ≤ w2.heap.size := hB2.size
    have ha2 : ArrT (w2.alloc (.cells Try.zeroCells57 57)) w2.heap.size 57 (List.replicate 1024 0) := by rw [zeroC57]; exact heap_alloc_new _ _
    have hD2' := hD2.later ((Below.refl _ w2).alloc (Nat.le_refl _) (.cells Try.zeroCells57 57))
    have hB2' := hB2.alloc hB2.size (.cells Try.zeroCells57 57)
    have hAD : w2.heap.size ≠ D := by have := hD2.lt; omega
    have hAb : w2.heap.size ≠ b := by have := hD2.ltb; omega
    have hAlt : w2.heap.size < (w2.alloc (.cells Try.zeroCells57 57)).heap.size := by simp
    obtain ⟨A, hA⟩ : ∃ A, A = w2.heap.size := ⟨_, rfl⟩
    rw [← hA] at ha2 hAD hAb hA2 ⊢
    obtain ⟨w3, hw3⟩ : ∃ w3, w3 = w2.alloc (.cells Try.zeroCells57 57) := ⟨_, rfl⟩
    rw [← hw3] at ha2 hD2' hB2' ⊢
    clear hA hw3 hD2 hB2 hg2 hcr hnew hD1 hB1 hAlt
    have hAn : A ∉ [D, b] := by simp; exact ⟨hAD, hAb⟩
    have ho : DevOk (crashD (newD 16) n p) ∧ (-(0 : Nat) : Int) ≤ (crashD (newD 16) n p).writes := by
      obtain ⟨_, q1, _, _, q2, _⟩ := Cr.out
      obtain ⟨_, _, q3⟩ := q2 (by simpa using h1)
      exact ⟨⟨by omega, by omega, by omega, by omega⟩, by omega⟩
    have hfull : ∀ (q : Int) (x : UInt8) (W : World), q = (x.toNat : Int) → Calls Try.prog 41 #[.int .u8 q] W fun e w' => e = .returned (.slice (some ⟨W.heap.size, 0, none⟩) 64 64) ∧ ArrB w' W.heap.size (ones x) ∧ Below W.heap.size W w' := fun q x W h => by rw [h]; exact full_calls x W
    go_loopw [53] (fun i wr => ∃ (j : Nat) (d : Dev) (L : List UInt8), j ≤ l.length ∧ i = .int .i64 j ∧ DevAt wr D b d ∧ ArrT wr A 57 L ∧ CrashRel n p j d L ∧ DevOk d ∧ -(j : Int) ≤ d.writes ∧ Below w.heap.size w wr) (fun i _ => l.length - (intOf i).toNat)
    case atStart => exact ⟨0, _, _, Nat.zero_le _, rfl, hD2', ha2, Cr.out, ho.1, ho.2, hB2'⟩
    case round =>
      clear hD2' ha2 hB2' ho Cr
      obtain ⟨j, d, L, hj, rfl, hD, ha, hC, hO, hwj, hBw⟩ := hrel
      by_cases hlt : j < l.length
      · obtain ⟨y, hy⟩ : ∃ y, y = l[j] := ⟨_, rfl⟩
        have cy := (hby.later hBw).cell' j hlt
        obtain ⟨b0, o0, rfl, cy⟩ := cy
        rw [← hy] at cy
        obtain ⟨k, hk⟩ : ∃ k, k = y.toNat % 16 := ⟨_, rfl⟩
        have hk16 : k < 16 := by rw [hk]; exact Nat.mod_lt _ (by decide)
        have hki : (y.toNat : Int) % 16 = (k : Int) := by rw [hk]; simp
        obtain ⟨x, hxe⟩ : ∃ x, x = UInt8.ofNat (j + 1) := ⟨_, rfl⟩
        have hx : (j : Int) + 1 = (x.toNat : Int) := by rw [hxe]; simp; omega
        have hL1024 : L.length = 1024 := hC.2.2.1
        obtain ⟨hE, hC'⟩ := crash_step n p h2 h3 j d L hC k hk16 x
        have hO' := writeD_ok hO (by omega) (k : Int) (ones x)
        have hwr : ∀ g W, DevAt W D b d → ArrB W g (ones x) → g ∉ [D, b] → Calls Try.prog 42 #[.pointer (some ⟨D, 0, none⟩), .int .i64 (k : Int), .slice (some ⟨g, 0, none⟩) 64 64] W (WritePost D b d k (ones x) W) := fun g W q1 q2 q3 => by
          have := write_dev D b d k (some ⟨g, 0, none⟩) (ones x) 64 W q1 hO q2.bytes (fun q off e => by cases e; exact q3)
          rw [ones_length] at this
          exact this
        have HC := Lib.hid hC'
        have HO := Lib.hid hO'
        have HCo := Lib.hid hC
        clear hy hk hxe hC hC' hO'
        obtain ⟨pn, rfl⟩ := Int.eq_ofNat_of_zero_le h2
        have hpn : pn ≤ 64 := by omega
        have hk64 : (k : Int) < 16 := by omega
        rcases Int.lt_trichotomy (j : Int) n with hc | hc | hc
        · rw [if_pos hc] at hE
          have HE := Lib.hid hE
          have HN := Lib.hid (show crashN n pn j = 64 by rw [crashN, if_pos hc])
          have hc2 : ((j : Int) == n) = false := by rw [beq_eq_false_iff_ne]; omega
          clear hE
          go_wp2_with (first
            | (go_at_call 41; refine (full_calls x _).mono ?_; rintro e w3 ⟨rfl, hg3, hB3⟩; have hD3 := hD.later hB3; have ha3 := ha.later hB3; have hn3 : wr.heap.size ∉ [D, b] := (by have := hD.lt; have := hD.ltb; simp; omega))
            | (go_at_call 42; refine (hwr _ _ hD3 hg3 hn3).mono ?_; rintro e w4 ⟨rfl, hD4, hA4⟩; rw [HE.out]; have ha4 := ha3.aside hA4 hAn; have hg4 : IsBytes w4 (some ⟨wr.heap.size, 0, none⟩) (ones x) := hg3.bytes.aside hA4 (fun _ _ e => by cases e; exact hn3))
            | (refine wpList_copy_arr (t := 57) rfl (.tmp 96) (.tmp 97) rfl A (k * 64) 64 64 L rfl ha4 (by omega) (some ⟨wr.heap.size, 0, none⟩) 64 64 (ones x) rfl (ones_length x).symm hg4 ?_; intro w5 n5 ha5 hg5))
          go_roundw
          case rel =>
            have hCr5 := HC.out
            rw [HN.out] at hCr5
            exact ⟨j + 1, writeD d k (ones x), _, by omega, by go_num, hD4.kept hg5 (fun e => hAD (by injection e with e; exact e.symm)) (fun e => hAb (by injection e with e; exact e.symm)), ha5, hCr5, HO.out.1, by have := HO.out.2; omega, (below_call hBw (Nat.le_refl _) hB3).trans ((hA4.toBelow (fun k hk => by simp at hk; omega) (Nat.le_trans hBw.size hB3.size)).grown hg5 (Nat.le_trans hBw.size (Nat.le_trans hB3.size hA4.size)) (fun k hk => by injection hk with hk; omega))⟩
          case measure => simp [intOf]; omega
        · rw [if_neg (by omega)] at hE
          have HE := Lib.hid hE
          have HN := Lib.hid (show crashN n pn j = pn by rw [crashN, if_neg (by omega), if_pos hc]; simp)
          have hc2 : ((j : Int) == n) = true := by rw [beq_iff_eq]; exact hc
          have Hc := Lib.hid hc
          have hcl : ¬ (j : Int) < n := by omega
          clear hE hc
          go_wp2_with (first
            | (go_at_call 41; refine (full_calls x _).mono ?_; rintro e w3 ⟨rfl, hg3, hB3⟩; have hD3 := hD.later hB3; have ha3 := ha.later hB3; have hn3 : wr.heap.size ∉ [D, b] := (by have := hD.lt; have := hD.ltb; simp; omega))
            | (go_at_call 42; refine (hwr _ _ hD3 hg3 hn3).mono ?_; rintro e w4 ⟨rfl, hD4, hA4⟩; rw [HE.out]; have ha4 := ha3.aside hA4 hAn; have hg4 : IsBytes w4 (some ⟨wr.heap.size, 0, none⟩) (ones x) := hg3.bytes.aside hA4 (fun _ _ e => by cases e; exact hn3))
            | (refine wpList_copy_arr (t := 57) rfl (.tmp 96) (.tmp 97) rfl A (k * 64) pn 64 L rfl ha4 (by omega) (some ⟨wr.heap.size, 0, none⟩) 64 64 (ones x) rfl (ones_length x).symm hg4 ?_; intro w5 n5 ha5 hg5))
          go_roundw
          case rel =>
            have hCr5 := HC.out
            rw [HN.out] at hCr5
            exact ⟨j + 1, writeD d k (ones x), _, by omega, by go_num, hD4.kept hg5 (fun e => hAD (by injection e with e; exact e.symm)) (fun e => hAb (by injection e with e; exact e.symm)), ha5, hCr5, HO.out.1, by have := HO.out.2; omega, (below_call hBw (Nat.le_refl _) hB3).trans ((hA4.toBelow (fun k hk => by simp at hk; omega) (Nat.le_trans hBw.size hB3.size)).grown hg5 (Nat.le_trans hBw.size (Nat.le_trans hB3.size hA4.size)) (fun k hk => by injection hk with hk; omega))⟩
          case measure => simp [intOf]; omega
        · rw [if_neg (by omega)] at hE
          have HE := Lib.hid hE
          have HN := Lib.hid (show crashN n pn j = 0 by rw [crashN, if_neg (by omega), if_neg (by omega)])
          have hc2 : ((j : Int) == n) = false := by rw [beq_eq_false_iff_ne]; omega
          clear hE
          go_wp2_with (first
            | (go_at_call 41; refine (full_calls x _).mono ?_; rintro e w3 ⟨rfl, hg3, hB3⟩; have hD3 := hD.later hB3; have ha3 := ha.later hB3; have hn3 : wr.heap.size ∉ [D, b] := (by have := hD.lt; have := hD.ltb; simp; omega))
            | (go_at_call 42; refine (hwr _ _ hD3 hg3 hn3).mono ?_; rintro e w4 ⟨rfl, hD4, hA4⟩; rw [HE.out]; have ha4 := ha3.aside hA4 hAn; have hg4 : IsBytes w4 (some ⟨wr.heap.size, 0, none⟩) (ones x) := hg3.bytes.aside hA4 (fun _ _ e => by cases e; exact hn3))
            | (refine wpList_copy_arr (t := 57) rfl (.tmp 96) (.tmp 97) rfl A (k * 64) 0 64 L rfl ha4 (by omega) (some ⟨wr.heap.size, 0, none⟩) 64 64 (ones x) rfl (ones_length x).symm hg4 ?_; intro w5 n5 ha5 hg5))
          go_roundw
          case rel =>
            have hCr5 := HC.out
            rw [HN.out] at hCr5
            exact ⟨j + 1, writeD d k (ones x), _, by omega, by go_num, hD4.kept hg5 (fun e => hAD (by injection e with e; exact e.symm)) (fun e => hAb (by injection e with e; exact e.symm)), ha5, hCr5, HO.out.1, by have := HO.out.2; omega, (below_call hBw (Nat.le_refl _) hB3).trans ((hA4.toBelow (fun k hk => by simp at hk; omega) (Nat.le_trans hBw.size hB3.size)).grown hg5 (Nat.le_trans hBw.size (Nat.le_trans hB3.size hA4.size)) (fun k hk => by injection hk with hk; omega))⟩
          case measure => simp [intOf]; omega
      · obtain rfl : j = l.length := by omega
        obtain ⟨hbl, hpx, hL, hmm, hle, hgt⟩ := hC
        have Hbl := Lib.hid hbl
        have Hmm := Lib.hid hmm
        have HL := Lib.hid hL
        by_cases hc : (l.length : Int) ≤ n
        · obtain ⟨f1, f2, f3⟩ := hle hc
          have h43 : ∀ W, DevAt W D b d → Calls Try.prog 43 #[.pointer (some ⟨D, 0, none⟩)] W fun e w' => e = .returned (.bool false) ∧ W = w' := fun W q => by rw [← f1]; exact down_dev D b d W q
          have h44 : ∀ W, DevAt W D b d → Calls Try.prog 44 #[.pointer (some ⟨D, 0, none⟩)] W fun e w' => e = .returned (.bool true) ∧ W = w' := fun W q => by rw [← f2]; exact isSet_dev D b d W q
          have h45 : Calls Try.prog 45 #[.pointer (some ⟨D, 0, none⟩), .int .i64 0] wr fun e w' => ∃ g, e = .returned (.tuple #[.slice (some ⟨g, 0, none⟩) 64 64, .int .i64 0]) ∧ Below wr.heap.size wr w' := by
            have hm0 : mayE d 0 = 0 := by rw [mayE, f1, if_neg (by decide), if_neg (by omega)]
            refine (read_dev D b d 0 wr hD).mono ?_
            rintro e w' (⟨q2, _⟩ | ⟨_, g, rfl, _, _, _, q4⟩)
            · exact absurd hm0 q2
            · exact ⟨g, rfl, q4⟩
          clear hbl hmm hL hle hgt f1 f2 f3 hO hwj hpx
          go_upto_region 30 with (first
            | (go_at_call 43; refine (h43 _ (by assumption)).mono ?_; rintro e wq ⟨rfl, rfl⟩)
            | (go_at_call 44; refine (h44 _ hD).mono ?_; rintro e wq ⟨rfl, rfl⟩)
            | (go_at_call 45; refine h45.mono ?_; rintro e w5 ⟨g, rfl, hB5⟩; have hD5 := hD.later hB5; have ha5 := ha.later hB5; have hBw5 := below_call hBw (Nat.le_refl _) hB5; clear hD)
            | (go_at_call 46; refine (up_dev D b d _ hD5).mono ?_; rintro e w7 ⟨rfl, hDu, hgu⟩; have hau : ArrT w7 A 57 L := (hgu.block A (lt_of_block ha5) (fun e => hAD (by injection e))).trans ha5; have hBu := (hBw5).grown hgu (hBw5).size (fun k hk => by injection hk with hk; omega)))
          refine over_world (R := fun W => DevAt W D b { d with down := false } ∧ ArrT W A 57 L ∧ Below w.heap.size w W) ⟨hDu, hau, hBu⟩ ?_
          rintro wv ⟨hDv, hav, hBv⟩
          clear hDu hau hBu
          go_wp2
          go_loopw [126] (fun i wr => ∃ j : Nat, j ≤ 16 ∧ i = .int .i64 j ∧ DevAt wr D b { d with down := false } ∧ ArrT wr A 57 L ∧ Below w.heap.size w wr) (fun i _ => 16 - (intOf i).toNat)
          case atStart => exact ⟨0, Nat.zero_le _, rfl, hDv, hav, hBv⟩
          case round =>
            clear hDv hav hBv
            obtain ⟨i, hi, rfl, hDi, hai, hBi⟩ := hrel
            by_cases hlt2 : i < 16
            · have hrd : Calls Try.prog 45 #[.pointer (some ⟨D, 0, none⟩), .int .i64 (i : Int)] wr fun e w' => ∃ g, e = .returned (.tuple #[.slice (some ⟨g, 0, none⟩) 64 64, .int .i64 0]) ∧ ArrT w' g 132 (win L i) ∧ Below wr.heap.size wr w' := by
                have hm0 : mayE { d with down := false } (i : Int) = 0 := by
                  have := Hbl.out
                  rw [mayE, if_neg Bool.false_ne_true, if_neg (by show ¬ ((i : Int) < 0 ∨ (d.blocks : Int) ≤ (i : Int)); omega)]
                refine (read_dev D b _ (i : Int) wr hDi).mono ?_
                rintro e w' (⟨q2, _⟩ | ⟨_, g, rfl, q3, _, _, q4⟩)
                · exact absurd hm0 q2
                · refine ⟨g, rfl, ?_, q4⟩
                  have : ({ d with down := false } : Dev).mem (i : Int).toNat = win L i := by rw [Int.toNat_natCast]; exact Hmm.out i hlt2
                  rw [this] at q3; exact q3
              have hwl : (win L i).length = 64 := win_length L i HL.out hlt2
              have hwin : ∀ W, ArrT W A 57 L → IsBytes W (some ⟨A, i * 64, none⟩) (win L i) := fun W q => by
                have := (q.bytes.drop (64 * i) 1024 (by rw [HL.out]; exact Nat.le_refl _)).take 64
                rw [if_neg (by omega)] at this
                simpa [Addr.add_lit, win, Nat.mul_comm] using this
              obtain ⟨V, hV⟩ : ∃ V, V = win L i := ⟨_, rfl⟩
              rw [← hV] at hrd hwl hwin
              have hi16 : (i : Int) < 16 := by omega
              have Hrd := Lib.hid hrd
              clear hrd hV
              go_upto_region 34 with (go_at_call 45; refine Hrd.out.mono ?_; rintro e w5 ⟨g, rfl, hg5, hB5⟩)
              have ha5 := hai.later hB5
              have hD5 := hDi.later hB5
              have hne : Nonempty (SW (fun W => Below w5.heap.size w5 W)) := ⟨⟨w5, Below.refl _ _⟩⟩
              have t1 : ∀ x : SW (fun W => Below w5.heap.size w5 W), (convert 22 9 (.slice (some ⟨g, 0, none⟩) 64 64)).run Try.prog x.W = .ok (.string ⟨V.toArray⟩) x.W := fun x => conv_text ((hg5.later x.h).bytes) hwl.symm
              have t2 : ∀ x : SW (fun W => Below w5.heap.size w5 W), (convert 22 9 (.slice (some ⟨A, i * 64, none⟩) 64 64)).run Try.prog x.W = .ok (.string ⟨V.toArray⟩) x.W := fun x => conv_text (hwin _ (ha5.later x.h)) hwl.symm
              refine wp_region_seq2 (fun W => Below w5.heap.size w5 W) [(0, true), (1, true), (2, true), (3, true), (4, true), (5, true), (6, true), (7, true), (8, true), (9, true), (10, true)] (by kernel_rfl) (by kernel_rfl) (fun d _ _ _ _ h => by cases d <;> exact h) ((Below.refl _ _).drew) ?_
              repeat (first
                | (refine wpSeq_skip (o := ⟨_, _, _, _, _, _⟩) rfl rfl ?_; simp only [Act.put, List.setIfInBounds_toArray, List.set_cons_zero, List.set_cons_succ])
                | (refine wpSeq_free (o := ⟨_, _, _, _, _, _⟩) rfl rfl (fun K hK => ?_); go_big_quiet_op; (refine hK _ ?_; clear hK K)))
              refine wpSeq_nil ?_
              go_wp2
              go_roundw
              case rel => exact ⟨i + 1, by omega, by go_num, hD5, ha5, below_call hBi (Nat.le_refl _) hB5.drew⟩
              case measure => simp [intOf]; omega
            · obtain rfl : i = 16 := by omega
              go_wp2_with (go_at_call 39; refine (known39_calls _).mono ?_; rintro e w9 ⟨rfl, hB9⟩)
              go_ret
              exact ⟨rfl, below_call hBi (Nat.le_refl _) hB9⟩
        · obtain ⟨f1, f2⟩ := hgt (by omega)
          have h43 : ∀ W, DevAt W D b d → Calls Try.prog 43 #[.pointer (some ⟨D, 0, none⟩)] W fun e w' => e = .returned (.bool true) ∧ W = w' := fun W q => by rw [← f1]; exact down_dev D b d W q
          have h44 : ∀ W, DevAt W D b d → Calls Try.prog 44 #[.pointer (some ⟨D, 0, none⟩)] W fun e w' => e = .returned (.bool false) ∧ W = w' := fun W q => by rw [← f2]; exact isSet_dev D b d W q
          have h45 : Calls Try.prog 45 #[.pointer (some ⟨D, 0, none⟩), .int .i64 0] wr fun e w' => e = .returned (.tuple #[.slice none 0 0, .int .i64 11]) ∧ wr = w' := by
            have hm0 : mayE d 0 = 11 := by rw [mayE, f1, if_pos rfl]
            refine (read_dev D b d 0 wr hD).mono ?_
            rintro e w' (⟨_, rfl, q3⟩ | ⟨q1, _⟩)
            · exact ⟨by rw [hm0]; rfl, q3⟩
            · rw [hm0] at q1; cases q1
          clear hbl hmm hL hle hgt f1 f2 hO hwj hpx
          go_upto_region 30 with (first
            | (go_at_call 43; refine (h43 _ hD).mono ?_; rintro e wq ⟨rfl, rfl⟩)
            | (go_at_call 44; refine (h44 _ hD).mono ?_; rintro e wq ⟨rfl, rfl⟩)
            | (go_at_call 45; refine h45.mono ?_; rintro e w5 ⟨rfl, rfl⟩)
            | (go_at_call 46; refine (up_dev D b d _ hD).mono ?_; rintro e w7 ⟨rfl, hDu, hgu⟩; have hau : ArrT w7 A 57 L := (hgu.block A (lt_of_block ha) (fun e => hAD (by injection e))).trans ha; have hBu := (hBw).grown hgu (hBw).size (fun k hk => by injection hk with hk; omega)))
          refine over_world (R := fun W => DevAt W D b { d with down := false } ∧ ArrT W A 57 L ∧ Below w.heap.size w W) ⟨hDu, hau, hBu⟩ ?_
          rintro wv ⟨hDv, hav, hBv⟩
          clear hDu hau hBu
          go_wp2
          go_loopw [126] (fun i wr => ∃ j : Nat, j ≤ 16 ∧ i = .int .i64 j ∧ DevAt wr D b { d with down := false } ∧ ArrT wr A 57 L ∧ Below w.heap.size w wr) (fun i _ => 16 - (intOf i).toNat)
          case atStart => exact ⟨0, Nat.zero_le _, rfl, hDv, hav, hBv⟩
          case round =>
            clear hDv hav hBv
            obtain ⟨i, hi, rfl, hDi, hai, hBi⟩ := hrel
            by_cases hlt2 : i < 16
            · have hrd : Calls Try.prog 45 #[.pointer (some ⟨D, 0, none⟩), .int .i64 (i : Int)] wr fun e w' => ∃ g, e = .returned (.tuple #[.slice (some ⟨g, 0, none⟩) 64 64, .int .i64 0]) ∧ ArrT w' g 132 (win L i) ∧ Below wr.heap.size wr w' := by
                have hm0 : mayE { d with down := false } (i : Int) = 0 := by
                  have := Hbl.out
                  rw [mayE, if_neg Bool.false_ne_true, if_neg (by show ¬ ((i : Int) < 0 ∨ (d.blocks : Int) ≤ (i : Int)); omega)]
                refine (read_dev D b _ (i : Int) wr hDi).mono ?_
                rintro e w' (⟨q2, _⟩ | ⟨_, g, rfl, q3, _, _, q4⟩)
                · exact absurd hm0 q2
                · refine ⟨g, rfl, ?_, q4⟩
                  have : ({ d with down := false } : Dev).mem (i : Int).toNat = win L i := by rw [Int.toNat_natCast]; exact Hmm.out i hlt2
                  rw [this] at q3; exact q3
              have hwl : (win L i).length = 64 := win_length L i HL.out hlt2
              have hwin : ∀ W, ArrT W A 57 L → IsBytes W (some ⟨A, i * 64, none⟩) (win L i) := fun W q => by
                have := (q.bytes.drop (64 * i) 1024 (by rw [HL.out]; exact Nat.le_refl _)).take 64
                rw [if_neg (by omega)] at this
                simpa [Addr.add_lit, win, Nat.mul_comm] using this
              obtain ⟨V, hV⟩ : ∃ V, V = win L i := ⟨_, rfl⟩
              rw [← hV] at hrd hwl hwin
              have hi16 : (i : Int) < 16 := by omega
              have Hrd := Lib.hid hrd
              clear hrd hV
              go_upto_region 34 with (go_at_call 45; refine Hrd.out.mono ?_; rintro e w5 ⟨g, rfl, hg5, hB5⟩)
              have ha5 := hai.later hB5
              have hD5 := hDi.later hB5
              have hne : Nonempty (SW (fun W => Below w5.heap.size w5 W)) := ⟨⟨w5, Below.refl _ _⟩⟩
              have t1 : ∀ x : SW (fun W => Below w5.heap.size w5 W), (convert 22 9 (.slice (some ⟨g, 0, none⟩) 64 64)).run Try.prog x.W = .ok (.string ⟨V.toArray⟩) x.W := fun x => conv_text ((hg5.later x.h).bytes) hwl.symm
              have t2 : ∀ x : SW (fun W => Below w5.heap.size w5 W), (convert 22 9 (.slice (some ⟨A, i * 64, none⟩) 64 64)).run Try.prog x.W = .ok (.string ⟨V.toArray⟩) x.W := fun x => conv_text (hwin _ (ha5.later x.h)) hwl.symm
              refine wp_region_seq2 (fun W => Below w5.heap.size w5 W) [(0, true), (1, true), (2, true), (3, true), (4, true), (5, true), (6, true), (7, true), (8, true), (9, true), (10, true)] (by kernel_rfl) (by kernel_rfl) (fun d _ _ _ _ h => by cases d <;> exact h) ((Below.refl _ _).drew) ?_
              repeat (first
                | (refine wpSeq_skip (o := ⟨_, _, _, _, _, _⟩) rfl rfl ?_; simp only [Act.put, List.setIfInBounds_toArray, List.set_cons_zero, List.set_cons_succ])
                | (refine wpSeq_free (o := ⟨_, _, _, _, _, _⟩) rfl rfl (fun K hK => ?_); go_big_quiet_op; (refine hK _ ?_; clear hK K)))
              refine wpSeq_nil ?_
              go_wp2
              go_roundw
              case rel => exact ⟨i + 1, by omega, by go_num, hD5, ha5, below_call hBi (Nat.le_refl _) hB5.drew⟩
              case measure => simp [intOf]; omega
            · obtain rfl : i = 16 := by omega
              go_wp2_with (go_at_call 39; refine (known39_calls _).mono ?_; rintro e w9 ⟨rfl, hB9⟩)
              go_ret
              exact ⟨rfl, below_call hBi (Nat.le_refl _) hB9⟩

end Go.Proofs.Ytdlbjllgdikadaa
