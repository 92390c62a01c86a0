/- varvelaw22.LogNone, walked. -/
import Derived.Test.YtdlbjllgdikadaaLogM
namespace Go.Proofs.Ytdlbjllgdikadaa
open Go.RowKit
set_option linter.unusedVariables false
set_option linter.unusedSimpArgs false

set_option maxRecDepth 100000 in
set_option maxHeartbeats 8000000 in
theorem logNone_walk (a : Option Addr) (l : List UInt8) (c : Nat) (w : World) (hl : l.length ≤ 9223372036854775807) :
    Calls Try.prog 13 #[.slice a l.length c] w fun e w' => e = .returned (.bool true) ∧ Below w.heap.size w w' := by
  have hkn := Lib.hid known76_calls
  have hnew := Lib.hid (fun W => new_dev 16 W (by decide) (by decide))
  go_enter Try.func13, Try.ntmps13
  go_upto_block 0 with (go_at_call 38; refine (hnew.out _).mono ?_; rintro e w1 ⟨D, b, rfl, hD, hlD, hlb, hB1⟩)
  obtain ⟨Z, hZ⟩ : ∃ Z, Z = w.heap.size := ⟨_, rfl⟩
  have hb0 : Below w.heap.size w (w.alloc (.cells #[.pointer none, .int .u64 0, .int .u64 0, .slice none 0 0, .slice none 0 0, .int .i64 0, .bool false] 100)) := (Below.refl _ w).alloc (Nat.le_refl _) _
  have hz0 : (w.alloc (.cells #[.pointer none, .int .u64 0, .int .u64 0, .slice none 0 0, .slice none 0 0, .int .i64 0, .bool false] 100)).cell? ⟨Z, 0, none⟩ = some (.pointer none) := by rw [hZ, World.cell?_alloc_new]; rfl
  have hz1 : w1.cell? ⟨Z, 0, none⟩ = some (.pointer none) := (hB1.cell (p := ⟨Z, 0, none⟩) (World.block_lt_of_cell? _ _ hz0)).trans hz0
  have hb1 := below_call hb0 (Nat.le_refl _) hB1
  obtain ⟨w2, hw2⟩ : ∃ w2, w2 = w1.alloc (.cells #[.pointer none, .pointer (some ⟨Z, 0, none⟩)] 101) := ⟨_, rfl⟩
  have hb12 : Below w1.heap.size w1 w2 := by rw [hw2]; exact (Below.refl _ w1).alloc (Nat.le_refl _) _
  obtain ⟨R, hR⟩ : ∃ R, R = w1.heap.size := ⟨_, rfl⟩
  have hr0 : w2.cell? ⟨R, 0, none⟩ = some (.pointer none) := by rw [hw2, hR, World.cell?_alloc_new]; rfl
  have hr1 : w2.cell? ⟨R, 1, none⟩ = some (.pointer (some ⟨Z, 0, none⟩)) := by rw [hw2, hR, World.cell?_alloc_new]; rfl
  have hz2 : w2.cell? ⟨Z, 0, none⟩ = some (.pointer none) := (hb12.cell (p := ⟨Z, 0, none⟩) (World.block_lt_of_cell? _ _ hz1)).trans hz1
  have hb2 := below_call hb1 (Nat.le_refl _) hb12
  rw [← hZ, ← hR, ← hw2]
  clear hZ hR hw2 hb12 hb1 hz1 hz0 hb0 hB1 hlb hlD hD
  go_wp2
  go_loopw [16] (fun iv wr => ∃ i : Nat, i ≤ 2 ∧ iv = .int .i64 (i : Int) ∧ Below w2.heap.size w2 wr) (fun iv _ => 2 - (intOf iv).toNat)
  case atStart => exact ⟨0, by decide, rfl, Below.refl _ _⟩
  case round =>
    obtain ⟨i, hi, rfl, hbw⟩ := hrel
    have hbww := below_call hb2 (Nat.le_refl _) hbw
    have up : ∀ (g o : Nat) (u : Value), w2.cell? ⟨g, o, none⟩ = some u → wr.cell? ⟨g, o, none⟩ = some u := fun g o u h => (hbw.cell (p := ⟨g, o, none⟩) (World.block_lt_of_cell? w2 _ h)).trans h
    have y0 := up R 0 _ hr0
    have y1 := up R 1 _ hr1
    have yz := up Z 0 _ hz2
    by_cases h2 : i = 2
    · subst h2
      have hop := Lib.hid (fun W => open_no (.pointer none) 1 (by decide) W (find_nil W))
      have hbk := Lib.hid (fun W => blocks_log 49 (by decide) W)
      have hm49 : manyN 49 = 2 := by decide
      rw [hm49] at hbk
      go_wp2_with (first
        | (go_at_call 74; refine (hop.out _).mono ?_; rintro e w5 ⟨rfl, hB5⟩)
        | (go_at_call 75; refine (hbk.out _).mono ?_; rintro e w6 ⟨rfl, rfl⟩)
        | (go_at_call 76; refine (hkn.out _).mono ?_; rintro e w7 ⟨rfl, hB7⟩))
      go_ret
      exact ⟨rfl, below_call (below_call hbww (Nat.le_refl _) hB5) (Nat.le_refl _) hB7⟩
    · obtain ⟨p, hp, h97⟩ : ∃ p, wr.cell? ⟨R, i, none⟩ = some (.pointer p) ∧ ∀ W, Below wr.heap.size wr W → Calls Try.prog 97 #[.pointer p] W fun e w' => e = .returned (.bool true) ∧ W = w' := by
        by_cases h0 : i = 0
        · subst h0
          exact ⟨none, y0, fun W _ => none_nil W⟩
        · have h1 : i = 1 := by omega
          subst h1
          exact ⟨some ⟨Z, 0, none⟩, y1, fun W hb => none_zero Z W ((hb.cell (p := ⟨Z, 0, none⟩) (World.block_lt_of_cell? wr _ yz)).trans yz)⟩
      have hiI : (i : Int) < 2 := by omega
      have H97 := Lib.hid h97
      clear h97 y0 y1 yz up
      go_wp2_with (first
        | (go_at_call 66; refine (append_none p a l.length c hl wr (H97.out wr (Below.refl _ _))).mono ?_; rintro e w3 ⟨rfl, rfl⟩)
        | (go_at_call 67; refine (check_none p a l.length c hl wr (H97.out wr (Below.refl _ _))).mono ?_; rintro e w3 ⟨rfl, rfl⟩)
        | (go_at_call 68; refine (sync_none p wr (fun W hb => H97.out W hb)).mono ?_; rintro e w4 ⟨rfl, hB4⟩)
        | (go_at_call 69; refine (records_none p w4 (H97.out w4 hB4)).mono ?_; rintro e w5 ⟨rfl, rfl⟩)
        | (go_at_call 70; refine (waiting_none p w4 (H97.out w4 hB4)).mono ?_; rintro e w5 ⟨rfl, rfl⟩)
        | (go_at_call 71; refine (room_none p w4 (H97.out w4 hB4)).mono ?_; rintro e w5 ⟨rfl, rfl⟩)
        | (go_at_call 72; refine (down_none p w4 (H97.out w4 hB4)).mono ?_; rintro e w5 ⟨rfl, rfl⟩)
        | (go_at_call 73; refine (copy_none p _ w4 (H97.out w4 hB4)).mono ?_; rintro e w5 ⟨rfl, rfl⟩))
      go_roundw
      case rel => exact ⟨i + 1, by omega, by go_num, below_call hbw (Nat.le_refl _) hB4⟩
      case measure => simp [intOf]; omega
end Go.Proofs.Ytdlbjllgdikadaa
