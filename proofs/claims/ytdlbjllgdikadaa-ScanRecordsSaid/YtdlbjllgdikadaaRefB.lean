/- The walk of the reference of crc: Sum. -/
import Derived.Test.YtdlbjllgdikadaaRefA
import Derived.Deep.RegionWith
namespace Go.Proofs.Ytdlbjllgdikadaa
open Go.RowKit CrcM

set_option maxRecDepth 100000 in
set_option maxHeartbeats 400000 in
theorem refsum_calls (a : Option Addr) (l : List UInt8) (cap : Nat) (w : World) (hl : l.length ≤ 17592186044416) (hb : IsBytes w a l) :
    Calls Try.prog 18 #[.slice a l.length cap] w fun e w' => e = .returned (.int .u32 ((sum l).toNat : Int)) ∧ Below w.heap.size w w' := by
  have h0 := row_calls a l cap w hl hb
  obtain ⟨g, hg⟩ : ∃ g, g = w.heap.size := ⟨_, rfl⟩
  rw [← hg] at h0 ⊢
  obtain ⟨N, hN⟩ : ∃ N, N = 8 * l.length + 32 := ⟨_, rfl⟩
  rw [← hN] at h0
  have HN := Lib.hid hN
  have hN1 : N ≤ 8 * l.length + 32 := by omega
  have hN2 : 8 * l.length + 32 ≤ N := by omega
  clear hN
  have Hg := Lib.hid hg
  clear hg
  go_enter Try.func18, Try.ntmps18
  go_wp2_with (go_at_call 84; refine h0.mono ?_; rintro e w1 ⟨rfl, hrow0, hw1⟩)
  clear h0
  have hrow1 : ∃ f : Nat → Bool, w1.rowIs g 4 N (fun j => .bool (f j)) ∧ Hid (∀ j, 0 ≤ j → j < N → f j = bit l 0 j) := ⟨bit l 0, hrow0, fun _ _ _ => rfl⟩
  clear hrow0 hb
  go_loopw [4] (fun i wr => ∃ k : Nat, k ≤ 8 * l.length ∧ i = .int .i64 k ∧ (∃ f : Nat → Bool, wr.rowIs g 4 N (fun j => .bool (f j)) ∧ Hid (∀ j, k ≤ j → j < N → f j = bit l k j)) ∧ Below g w wr) (fun i _ => 8 * l.length - (intOf i).toNat)
  case atStart => exact ⟨0, Nat.zero_le _, rfl, hrow1, hw1⟩
  case round =>
    obtain ⟨k, hk, rfl, ⟨f, hrow, hf⟩, hbel⟩ := hrel
    clear hrow1 hw1
    by_cases hlt : k < 8 * l.length
    · have hco := hrow.cell (i := k) (by omega)
      obtain ⟨c, hc⟩ : ∃ c, c = f k := ⟨_, rfl⟩
      rw [← hc] at hco
      have Hc := Lib.hid hc
      have Hrow := Lib.hid hrow
      clear hc hrow
      cases c with
      | false =>
        go_wp2
        go_roundw
        case rel =>
          refine ⟨k + 1, by omega, by go_num, ⟨f, Hrow.out, fun j h1 h2 => ?_⟩, hbel⟩
          rw [bit_step l k j (by omega), ← hf.out k (Nat.le_refl _) (by omega), ← Hc.out, hf.out j (by omega) h2]
          simp
        case measure => simp [intOf]; omega
      | true =>
        have hd : decide ((k : Int) < 8 * (l.length : Int)) = true := by simp; omega
        go_wp2
        clear hd
        have hkk : bit l k k = true := by rw [← hf.out k (Nat.le_refl _) (by omega), ← Hc.out]
        have Hkk := Lib.hid hkk
        clear hkk hco
        have hrow2 : ∃ f2 : Nat → Bool, wr.rowIs g 4 N (fun j => .bool (f2 j)) ∧ Hid (∀ j, k < j → j < N → f2 j = if j < k + 1 then bit l (k + 1) j else bit l k j) :=
          ⟨f, Hrow.out, fun j h1 h2 => by rw [if_neg (by omega)]; exact hf.out j (by omega) h2⟩
        clear Hrow
        obtain ⟨wo, rfl⟩ : ∃ wo : World, wo = wr := ⟨_, rfl⟩
        go_loopw [5] (fun i wr => ∃ m : Nat, 1 ≤ m ∧ m ≤ 33 ∧ i = .int .i64 m ∧ (∃ f2 : Nat → Bool, wr.rowIs g 4 N (fun j => .bool (f2 j)) ∧ Hid (∀ j, k < j → j < N → f2 j = if j < k + m then bit l (k + 1) j else bit l k j)) ∧ Below g w wr) (fun i _ => 33 - (intOf i).toNat)
        case atStart => exact ⟨1, Nat.le_refl _, by omega, rfl, hrow2, hbel⟩
        case round =>
          obtain ⟨m, hm1, hm2, rfl, ⟨f2, hrow3, hf2⟩, hbel2⟩ := hrel
          clear hrow2 hbel
          by_cases hlt2 : m < 33
          · have hco := hrow3.cell (i := k + m) (by omega)
            have hfr := hrow3.frozen (k + m)
            obtain ⟨c2, hc2⟩ : ∃ c2, c2 = f2 (k + m) := ⟨_, rfl⟩
            rw [← hc2] at hco
            have Hc2 := Lib.hid hc2
            have hgl : g < wr.heap.size := hrow3.lt
            have Hrow := Lib.hid hrow3
            have hs1 : IntKind.i64.wrap ((32 : Int) - (m : Int)) = ((32 - m : Nat) : Int) := by rw [IntWalk.i64_in _ (by omega)]; omega
            have hb1 : (0 : Int) ≤ (k : Int) + (m : Int) := by omega
            have hb2 : (k : Int) + (m : Int) < (N : Int) := by omega
            have hs2 : IntKind.i64.wrap ((k : Int) + (m : Int)) = (k : Int) + (m : Int) := IntWalk.i64_in _ (by omega)
            have hs3 : ((k : Int) + (m : Int)).toNat = k + m := by omega
            clear hc2 hrow3
            go_wp2_with fail
            go_region_with (go_at_call 85; refine (divisor_calls _ (by omega) _).mono ?_; rintro e w2 ⟨rfl, hw2⟩; have hco2 := (hw2.cell (p := ⟨g, k + m, none⟩) hgl).trans hco; have hfr2 := (hw2.frozen (p := ⟨g, k + m, none⟩) hgl).trans hfr)
            all_goals
              clear hs1 hs2 hs3
              go_wp2
              go_roundw
              · have hx : (!c2 == dv (32 - m)) = bit l (k + 1) (k + m) := by
                  rw [bit_step l k (k + m) (by omega), Hkk.out]
                  have h1 : c2 = bit l k (k + m) := by rw [Hc2.out, hf2.out _ (by omega) (by omega), if_neg (by omega)]
                  rw [← h1, show k + m - k = m by omega]
                  simp only [show k + m ≤ k + 32 by omega, decide_true, Bool.and_self, if_true]
                  cases c2 <;> cases dv (32 - m) <;> rfl
                rw [hx]
                refine ⟨m + 1, by omega, by omega, by go_num, ⟨fun j => if j = k + m then bit l (k + 1) (k + m) else f2 j, ?_, fun j h1 h2 => ?_⟩, ?_⟩
                · exact ((Hrow.out.of_block (hw2.block g hgl)).set (k + m) _).congr fun j hj => by by_cases e : j = k + m <;> simp [e]
                · show (if j = k + m then bit l (k + 1) (k + m) else f2 j) = _
                  by_cases e : j = k + m
                  · rw [if_pos e, if_pos (by omega), e]
                  · rw [if_neg e, hf2.out j h1 h2]
                    by_cases h3 : j < k + m
                    · rw [if_pos h3, if_pos (by omega)]
                    · rw [if_neg h3, if_neg (by omega)]
                · exact (hbel2.drew.trans (hw2.mono (by simp; omega))).setCell (Nat.le_refl _) _
              · simp [intOf]; omega
          · obtain rfl : m = 33 := by omega
            go_wp2
            go_roundw
            case rel =>
              refine ⟨k + 1, by omega, by go_num, ⟨f2, hrow3, fun j h1 h2 => ?_⟩, hbel2⟩
              rw [hf2.out j (by omega) h2]
              by_cases h3 : j < k + 33
              · rw [if_pos h3]
              · rw [if_neg h3, bit_step l k j (by omega)]
                simp [show ¬ j ≤ k + 32 by omega]
            case measure => simp [intOf]; omega
    · obtain rfl : k = 8 * l.length := by omega
      go_wp2
      have hend : ∀ q, q < 32 → wr.cell? ⟨g, 8 * l.length + q, none⟩ = some (.bool (!(sum l).getLsbD q)) := by
        intro q hq
        rw [hrow.cell (i := 8 * l.length + q) (by omega), hf.out _ (by omega) (by omega), ← bit_end l q hq]
        simp
      obtain ⟨s, hs⟩ : ∃ s, s = sum l := ⟨_, rfl⟩
      rw [← hs] at hend
      have Hend := Lib.hid hend
      have Hs := Lib.hid hs
      clear hs hend hrow hf
      go_loop [6, 7] (fun c i => ∃ m : Nat, m ≤ 32 ∧ i = .int .i64 ((m : Int) - 1) ∧ c = .int .u32 ((s.toNat / 2 ^ m : Nat) : Int)) (fun _ i => (intOf i + 1).toNat)
      case atStart => exact ⟨32, Nat.le_refl _, rfl, by rw [Nat.div_eq_of_lt s.isLt]; rfl⟩
      case round =>
        obtain ⟨m, hm, rfl, rfl⟩ := hrel
        cases m with
        | zero =>
          go_wp2
          go_ret
          exact ⟨ret_int (by rw [← Hs.out]), hbel⟩
        | succ q =>
          have hc := Hend.out q (by omega)
          have hq := sum_bit s q
          have hy : s.toNat / 2 ^ (q + 1) ≤ 2147483647 := by
            have h1 : s.toNat / 2 ^ (q + 1) ≤ s.toNat / 2 ^ 1 := Nat.div_le_div_left (Nat.pow_le_pow_right (by omega) (by omega)) (by omega)
            have h2 : s.toNat < 4294967296 := s.isLt
            omega
          obtain ⟨y, hyy⟩ : ∃ y, y = s.toNat / 2 ^ (q + 1) := ⟨_, rfl⟩
          obtain ⟨c, hcc⟩ : ∃ c, c = s.getLsbD q := ⟨_, rfl⟩
          rw [← hyy] at hq hy ⊢
          rw [← hcc] at hq hc
          have Hq := Lib.hid hq
          clear hyy hcc hq
          rw [show (((q + 1 : Nat) : Int) - 1) = (q : Int) by omega]
          cases c with
          | false =>
            go_wp2
            go_round
            case rel => exact ⟨q, by omega, rfl, congrArg (Value.int .u32) (by rw [Hq.out]; simp; omega)⟩
            case measure => simp [intOf]
          | true =>
            go_wp2
            go_round
            case rel => exact ⟨q, by omega, rfl, congrArg (Value.int .u32) (by rw [Hq.out]; simp; omega)⟩
            case measure => simp [intOf]
end Go.Proofs.Ytdlbjllgdikadaa
