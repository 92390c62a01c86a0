/- The walk of the reference of crc: divisor, row. The walk of the reference of crc: Sum. The walk of the reference of crc: Append, Ends. -/
import Derived.Test.YtdlbjllgdikadaaGrB
import Derived.Deep.OwnRows
import Derived.Deep.RegionWith
import Derived.Test.YtdlbjllgdikadaaGrA
import Derived.BigQuiet
namespace Go.Proofs.Ytdlbjllgdikadaa
open Go.RowKit CrcM

def divCells : Array Value := (divs.map fun (d : Nat) => Value.int .i64 (d : Int)).toArray

set_option maxRecDepth 100000 in
theorem divisor_calls (p : Nat) (hp : p ≤ 32) (w : World) :
    Calls Try.prog 85 #[.int .i64 (p : Int)] w fun e w' => e = .returned (.bool (dv p)) ∧ Below w.heap.size w w' := by
  go_enter Try.func85, Try.ntmps85
  go_wp2
  obtain ⟨w1, h1⟩ : ∃ w1, w1 = w.alloc (.cells divCells 3) := ⟨_, rfl⟩
  have hB : Below w.heap.size w w1 := by rw [h1]; exact (Below.refl _ _).alloc (Nat.le_refl _) _
  have hD : w1.heap[w.heap.size]? = some (.cells divCells 3 (0, 0)) := by rw [h1]; exact heap_alloc_new _ _
  change Code.wp _ _ _ _ (w.alloc (.cells divCells 3))
  rw [← h1]
  have HD : Hid (w1.heap[w.heap.size]? = some (.cells divCells 3 (0, 0))) := hD
  clear hD h1
  go_loop [4] (fun i => ∃ k : Nat, k ≤ 14 ∧ i = .int .i64 k ∧ Hid (∀ j, j < k → divs.getD j 0 ≠ p)) (fun i => 14 - (intOf i).toNat)
  case atStart => exact ⟨0, Nat.zero_le _, rfl, fun j hj => absurd hj (Nat.not_lt_zero _)⟩
  case round =>
    obtain ⟨k, hk, rfl, hne⟩ := hrel
    by_cases hlt : k < 14
    · have hc : w1.cell? ⟨w.heap.size, k, none⟩ = some (.int .i64 ((divs.getD k 0 : Nat) : Int)) := by
        rw [cell_of_row _ _ _ _ _ _ HD.out]
        simp [divCells, List.getD_eq_getElem?_getD, show k < divs.length from hlt]
      obtain ⟨d, hd⟩ : ∃ d, d = divs.getD k 0 := ⟨_, rfl⟩
      rw [← hd] at hc
      have Hd := Lib.hid hd
      clear hd
      by_cases hdp : d = p
      · subst hdp
        go_wp2
        go_ret
        refine ⟨ret_bool ?_, hB⟩
        have h2 : d ∈ divs := by
          rw [Hd.out, List.getD_eq_getElem?_getD, List.getElem?_eq_getElem (show k < divs.length from hlt)]
          exact List.getElem_mem _
        simp [dv, h2]
      · have hne2 : ((d : Int) == (p : Int)) = false := by rw [beq_eq_false_iff_ne]; omega
        go_wp2
        go_round
        case rel =>
          refine ⟨k + 1, by omega, by go_num, fun j hj => ?_⟩
          by_cases hjk : j < k
          · exact hne.out j hjk
          · obtain rfl : j = k := by omega
            rw [← Hd.out]; exact hdp
        case measure => simp [intOf]; omega
    · obtain rfl : k = 14 := by omega
      go_wp2
      go_ret
      refine ⟨ret_bool ?_, hB⟩
      have h2 : p ∉ divs := by
        intro h
        obtain ⟨j, hj, e⟩ := List.getElem_of_mem h
        refine hne.out j hj ?_
        rw [List.getD_eq_getElem?_getD, List.getElem?_eq_getElem hj]; exact e
      simp [dv, h2]

theorem info4 : (Try.prog.info? 4).map (fun i => (i.zero, i.size, i.bytes)) = some (some (.bool false), 1, 1) := by kernel_rfl

theorem bit_test (x : UInt8) (m : Nat) : (bits .and .u8 ((x.toNat : Int) / 2 ^ m) 1 == 1) = x.toNat.testBit m := by
  have hx := x.toNat_lt
  have e : (x.toNat : Int) / 2 ^ m = ((x.toNat / 2 ^ m : Nat) : Int) := by
    rw [Int.natCast_ediv, Int.natCast_pow]; rfl
  have hlt : x.toNat / 2 ^ m < 256 := Nat.lt_of_le_of_lt (Nat.div_le_self _ _) hx
  have h := u8_and_nat (x.toNat / 2 ^ m) 1 hlt (by omega)
  rw [e, show (1 : Int) = ((1 : Nat) : Int) from rfl, h, Nat.and_one_is_mod, Nat.testBit_eq_decide_div_mod_eq]
  by_cases h1 : x.toNat / 2 ^ m % 2 = 1
  · simp [h1]
  · rw [decide_eq_false h1]
    rw [beq_eq_false_iff_ne]
    omega

theorem mbit_of (l : List UInt8) (k : Nat) (hk : k / 8 < l.length) : mbit l k = (l[k / 8]).toNat.testBit (k % 8) := by
  unfold mbit
  rw [List.getD_eq_getElem?_getD, List.getElem?_eq_getElem hk]; rfl

set_option maxRecDepth 100000 in
theorem row_calls (a : Option Addr) (l : List UInt8) (cap : Nat) (w : World) (hl : l.length ≤ 17592186044416) (hb : IsBytes w a l) :
    Calls Try.prog 84 #[.slice a l.length cap] w fun e w' => e = .returned (.slice (some ⟨w.heap.size, 0, none⟩) (8 * l.length + 32) (8 * l.length + 32)) ∧
      w'.rowIs w.heap.size 4 (8 * l.length + 32) (fun j => .bool (bit l 0 j)) ∧ Below w.heap.size w w' := by
  have hmk := run_make_row' (P := Try.prog) 120 4 (.bool false) 1 Try.underlying120 info4 rfl .i64 .i64 (8 * l.length + 32) (by omega) (by omega)
  rw [show ((8 * l.length + 32 : Nat) : Int) = 8 * (l.length : Int) + 32 by omega] at hmk
  go_enter Try.func84, Try.ntmps84
  go_wp2
  clear hmk
  go_loopw [4] (fun i wr => ∃ k : Nat, k ≤ 8 * l.length ∧ i = .int .i64 k ∧ wr.rowIs w.heap.size 4 (8 * l.length + 32) (fun j => .bool (if j < k then mbit l j else false)) ∧ Below w.heap.size w wr) (fun i _ => 8 * l.length - (intOf i).toNat)
  case atStart => exact ⟨0, Nat.zero_le _, rfl, World.rowIs_made _ _ _ _, (Below.refl _ _).alloc (Nat.le_refl _) _⟩
  case round =>
    obtain ⟨k, hk, rfl, hrow, hbel⟩ := hrel
    by_cases hlt : k < 8 * l.length
    · obtain ⟨b, off, rfl, hcell⟩ := hb (k / 8) (by omega)
      have hbl : b < w.heap.size := hb.lt rfl (by omega)
      have hc2 := (hbel.cell (p := ⟨b, off + k / 8, none⟩) hbl).trans hcell
      obtain ⟨x, hx⟩ : ∃ x, x = l[k / 8]'(by omega) := ⟨_, rfl⟩
      rw [← hx] at hc2
      have hxl : x.toNat < 256 := x.toNat_lt
      have Hx := Lib.hid hx
      have hco := hrow.cell (i := k) (by omega)
      have hfr := hrow.frozen k
      have Hrow := Lib.hid hrow
      clear hx hrow hcell
      go_wp2
      go_roundw
      case rel =>
        refine ⟨k + 1, by omega, by go_num, ?_, hbel.setCell (Nat.le_refl _) _⟩
        refine (Hrow.out.set k _).congr fun j hj => ?_
        have e : (bits .and .u8 ((x.toNat : Int) / 2 ^ (k % 8)) 1 == 1) = mbit l k := by
          rw [bit_test, mbit_of l k (by omega), Hx.out]
        rw [e]
        by_cases h1 : j = k
        · subst h1; rw [if_pos rfl, if_pos (by omega)]
        · rw [if_neg h1]
          by_cases h2 : j < k
          · rw [if_pos h2, if_pos (by omega)]
          · rw [if_neg h2, if_neg (by omega)]
      case measure => simp [intOf]; omega
    · obtain rfl : k = 8 * l.length := by omega
      go_wp2
      have hrow2 : wr.rowIs w.heap.size 4 (8 * l.length + 32) (fun j => .bool (mbit l j)) := hrow.congr fun j hj => by
        by_cases h1 : j < 8 * l.length
        · rw [if_pos h1]
        · rw [if_neg h1, mbit_past l j (by omega)]
      clear hrow hb
      obtain ⟨wo, rfl⟩ : ∃ wo : World, wo = wr := ⟨_, rfl⟩
      go_loopw [5] (fun i wr => ∃ k : Nat, k ≤ 32 ∧ i = .int .i64 k ∧ wr.rowIs w.heap.size 4 (8 * l.length + 32) (fun j => .bool (if j < k then !mbit l j else mbit l j)) ∧ Below w.heap.size w wr) (fun i _ => 32 - (intOf i).toNat)
      case atStart => exact ⟨0, Nat.zero_le _, rfl, hrow2, hbel⟩
      case round =>
        obtain ⟨k, hk2, rfl, hrow, hbel2⟩ := hrel
        clear hbel hrow2
        by_cases hlt2 : k < 32
        · have hco := hrow.cell (i := k) (by omega)
          rw [if_neg (by omega)] at hco
          have hfr := hrow.frozen k
          have Hrow := Lib.hid hrow
          clear hrow
          go_wp2
          go_roundw
          case rel =>
            refine ⟨k + 1, by omega, by go_num, ?_, hbel2.setCell (Nat.le_refl _) _⟩
            refine (Hrow.out.set k _).congr fun j hj => ?_
            by_cases h1 : j = k
            · subst h1; rw [if_pos rfl, if_pos (by omega)]
            · rw [if_neg h1]
              by_cases h2 : j < k
              · rw [if_pos h2, if_pos (by omega)]
              · rw [if_neg h2, if_neg (by omega)]
          case measure => simp [intOf]; omega
        · obtain rfl : k = 32 := by omega
          go_wp2
          go_ret
          exact ⟨rfl, hrow.congr fun j hj => by rw [bit_start], hbel2⟩
end Go.Proofs.Ytdlbjllgdikadaa

namespace Go.Proofs.Ytdlbjllgdikadaa
open Go.RowKit CrcM

set_option maxRecDepth 100000 in
set_option maxHeartbeats 400000 in
theorem refsum_calls (a : Option Addr) (l : List UInt8) (cap : Nat) (w : World) (hl : l.length ≤ 17592186044416) (hb : IsBytes w a l) :
    Calls Try.prog 18 #[.slice a l.length cap] w fun e w' => e = .returned (.int .u32 ((sum l).toNat : Int)) ∧ Below w.heap.size w w' := by
  have h0 := row_calls a l cap w hl hb
  obtain ⟨g, hg⟩ : ∃ g, g = w.heap.size := ⟨_, rfl⟩
  rw [← hg] at h0 ⊢
  obtain ⟨N, hN⟩ : ∃ N, N = 8 * l.length + 32 := ⟨_, rfl⟩
  rw [← hN] at h0
  have HN := Lib.hid hN
  have hN1 : N ≤ 8 * l.length + 32 := by omega
  have hN2 : 8 * l.length + 32 ≤ N := by omega
  clear hN
  have Hg := Lib.hid hg
  clear hg
  go_enter Try.func18, Try.ntmps18
  go_wp2_with (go_at_call 84; refine h0.mono ?_; rintro e w1 ⟨rfl, hrow0, hw1⟩)
  clear h0
  have hrow1 : ∃ f : Nat → Bool, w1.rowIs g 4 N (fun j => .bool (f j)) ∧ Hid (∀ j, 0 ≤ j → j < N → f j = bit l 0 j) := ⟨bit l 0, hrow0, fun _ _ _ => rfl⟩
  clear hrow0 hb
  go_loopw [4] (fun i wr => ∃ k : Nat, k ≤ 8 * l.length ∧ i = .int .i64 k ∧ (∃ f : Nat → Bool, wr.rowIs g 4 N (fun j => .bool (f j)) ∧ Hid (∀ j, k ≤ j → j < N → f j = bit l k j)) ∧ Below g w wr) (fun i _ => 8 * l.length - (intOf i).toNat)
  case atStart => exact ⟨0, Nat.zero_le _, rfl, hrow1, hw1⟩
  case round =>
    obtain ⟨k, hk, rfl, ⟨f, hrow, hf⟩, hbel⟩ := hrel
    clear hrow1 hw1
    by_cases hlt : k < 8 * l.length
    · have hco := hrow.cell (i := k) (by omega)
      obtain ⟨c, hc⟩ : ∃ c, c = f k := ⟨_, rfl⟩
      rw [← hc] at hco
      have Hc := Lib.hid hc
      have Hrow := Lib.hid hrow
      clear hc hrow
      cases c with
      | false =>
        go_wp2
        go_roundw
        case rel =>
          refine ⟨k + 1, by omega, by go_num, ⟨f, Hrow.out, fun j h1 h2 => ?_⟩, hbel⟩
          rw [bit_step l k j (by omega), ← hf.out k (Nat.le_refl _) (by omega), ← Hc.out, hf.out j (by omega) h2]
          simp
        case measure => simp [intOf]; omega
      | true =>
        have hd : decide ((k : Int) < 8 * (l.length : Int)) = true := by simp; omega
        go_wp2
        clear hd
        have hkk : bit l k k = true := by rw [← hf.out k (Nat.le_refl _) (by omega), ← Hc.out]
        have Hkk := Lib.hid hkk
        clear hkk hco
        have hrow2 : ∃ f2 : Nat → Bool, wr.rowIs g 4 N (fun j => .bool (f2 j)) ∧ Hid (∀ j, k < j → j < N → f2 j = if j < k + 1 then bit l (k + 1) j else bit l k j) :=
          ⟨f, Hrow.out, fun j h1 h2 => by rw [if_neg (by omega)]; exact hf.out j (by omega) h2⟩
        clear Hrow
        obtain ⟨wo, rfl⟩ : ∃ wo : World, wo = wr := ⟨_, rfl⟩
        go_loopw [5] (fun i wr => ∃ m : Nat, 1 ≤ m ∧ m ≤ 33 ∧ i = .int .i64 m ∧ (∃ f2 : Nat → Bool, wr.rowIs g 4 N (fun j => .bool (f2 j)) ∧ Hid (∀ j, k < j → j < N → f2 j = if j < k + m then bit l (k + 1) j else bit l k j)) ∧ Below g w wr) (fun i _ => 33 - (intOf i).toNat)
        case atStart => exact ⟨1, Nat.le_refl _, by omega, rfl, hrow2, hbel⟩
        case round =>
          obtain ⟨m, hm1, hm2, rfl, ⟨f2, hrow3, hf2⟩, hbel2⟩ := hrel
          clear hrow2 hbel
          by_cases hlt2 : m < 33
          · have hco := hrow3.cell (i := k + m) (by omega)
            have hfr := hrow3.frozen (k + m)
            obtain ⟨c2, hc2⟩ : ∃ c2, c2 = f2 (k + m) := ⟨_, rfl⟩
            rw [← hc2] at hco
            have Hc2 := Lib.hid hc2
            have hgl : g < wr.heap.size := hrow3.lt
            have Hrow := Lib.hid hrow3
            have hs1 : IntKind.i64.wrap ((32 : Int) - (m : Int)) = ((32 - m : Nat) : Int) := by rw [IntWalk.i64_in _ (by omega)]; omega
            have hb1 : (0 : Int) ≤ (k : Int) + (m : Int) := by omega
            have hb2 : (k : Int) + (m : Int) < (N : Int) := by omega
            have hs2 : IntKind.i64.wrap ((k : Int) + (m : Int)) = (k : Int) + (m : Int) := IntWalk.i64_in _ (by omega)
            have hs3 : ((k : Int) + (m : Int)).toNat = k + m := by omega
            clear hc2 hrow3
            go_wp2_with fail
            go_region_with (go_at_call 85; refine (divisor_calls _ (by omega) _).mono ?_; rintro e w2 ⟨rfl, hw2⟩; have hco2 := (hw2.cell (p := ⟨g, k + m, none⟩) hgl).trans hco; have hfr2 := (hw2.frozen (p := ⟨g, k + m, none⟩) hgl).trans hfr)
            all_goals
              clear hs1 hs2 hs3
              go_wp2
              go_roundw
              · have hx : (!c2 == dv (32 - m)) = bit l (k + 1) (k + m) := by
                  rw [bit_step l k (k + m) (by omega), Hkk.out]
                  have h1 : c2 = bit l k (k + m) := by rw [Hc2.out, hf2.out _ (by omega) (by omega), if_neg (by omega)]
                  rw [← h1, show k + m - k = m by omega]
                  simp only [show k + m ≤ k + 32 by omega, decide_true, Bool.and_self, if_true]
                  cases c2 <;> cases dv (32 - m) <;> rfl
                rw [hx]
                refine ⟨m + 1, by omega, by omega, by go_num, ⟨fun j => if j = k + m then bit l (k + 1) (k + m) else f2 j, ?_, fun j h1 h2 => ?_⟩, ?_⟩
                · exact ((Hrow.out.of_block (hw2.block g hgl)).set (k + m) _).congr fun j hj => by by_cases e : j = k + m <;> simp [e]
                · show (if j = k + m then bit l (k + 1) (k + m) else f2 j) = _
                  by_cases e : j = k + m
                  · rw [if_pos e, if_pos (by omega), e]
                  · rw [if_neg e, hf2.out j h1 h2]
                    by_cases h3 : j < k + m
                    · rw [if_pos h3, if_pos (by omega)]
                    · rw [if_neg h3, if_neg (by omega)]
                · exact (hbel2.drew.trans (hw2.mono (by simp; omega))).setCell (Nat.le_refl _) _
              · simp [intOf]; omega
          · obtain rfl : m = 33 := by omega
            go_wp2
            go_roundw
            case rel =>
              refine ⟨k + 1, by omega, by go_num, ⟨f2, hrow3, fun j h1 h2 => ?_⟩, hbel2⟩
              rw [hf2.out j (by omega) h2]
              by_cases h3 : j < k + 33
              · rw [if_pos h3]
              · rw [if_neg h3, bit_step l k j (by omega)]
                simp [show ¬ j ≤ k + 32 by omega]
            case measure => simp [intOf]; omega
    · obtain rfl : k = 8 * l.length := by omega
      go_wp2
      have hend : ∀ q, q < 32 → wr.cell? ⟨g, 8 * l.length + q, none⟩ = some (.bool (!(sum l).getLsbD q)) := by
        intro q hq
        rw [hrow.cell (i := 8 * l.length + q) (by omega), hf.out _ (by omega) (by omega), ← bit_end l q hq]
        simp
      obtain ⟨s, hs⟩ : ∃ s, s = sum l := ⟨_, rfl⟩
      rw [← hs] at hend
      have Hend := Lib.hid hend
      have Hs := Lib.hid hs
      clear hs hend hrow hf
      go_loop [6, 7] (fun c i => ∃ m : Nat, m ≤ 32 ∧ i = .int .i64 ((m : Int) - 1) ∧ c = .int .u32 ((s.toNat / 2 ^ m : Nat) : Int)) (fun _ i => (intOf i + 1).toNat)
      case atStart => exact ⟨32, Nat.le_refl _, rfl, by rw [Nat.div_eq_of_lt s.isLt]; rfl⟩
      case round =>
        obtain ⟨m, hm, rfl, rfl⟩ := hrel
        cases m with
        | zero =>
          go_wp2
          go_ret
          exact ⟨ret_int (by rw [← Hs.out]), hbel⟩
        | succ q =>
          have hc := Hend.out q (by omega)
          have hq := sum_bit s q
          have hy : s.toNat / 2 ^ (q + 1) ≤ 2147483647 := by
            have h1 : s.toNat / 2 ^ (q + 1) ≤ s.toNat / 2 ^ 1 := Nat.div_le_div_left (Nat.pow_le_pow_right (by omega) (by omega)) (by omega)
            have h2 : s.toNat < 4294967296 := s.isLt
            omega
          obtain ⟨y, hyy⟩ : ∃ y, y = s.toNat / 2 ^ (q + 1) := ⟨_, rfl⟩
          obtain ⟨c, hcc⟩ : ∃ c, c = s.getLsbD q := ⟨_, rfl⟩
          rw [← hyy] at hq hy ⊢
          rw [← hcc] at hq hc
          have Hq := Lib.hid hq
          clear hyy hcc hq
          rw [show (((q + 1 : Nat) : Int) - 1) = (q : Int) by omega]
          cases c with
          | false =>
            go_wp2
            go_round
            case rel => exact ⟨q, by omega, rfl, congrArg (Value.int .u32) (by rw [Hq.out]; simp; omega)⟩
            case measure => simp [intOf]
          | true =>
            go_wp2
            go_round
            case rel => exact ⟨q, by omega, rfl, congrArg (Value.int .u32) (by rw [Hq.out]; simp; omega)⟩
            case measure => simp [intOf]
end Go.Proofs.Ytdlbjllgdikadaa

namespace Go.Proofs.Ytdlbjllgdikadaa
open Go.RowKit CrcM

theorem OwnB.made (w : World) (base : Nat) (hb : base ≤ w.heap.size) : OwnB (w.alloc (.cells #[] 5)) base (.slice (some ⟨w.heap.size, 0, none⟩) 0 0) [] :=
  World.ownsRow_made w #[] 0 hb (Nat.zero_le _) rfl

theorem byte_lit (w : World) (n : Nat) : IsBytes (w.alloc (.cells #[.int .u8 ((n : Int) % 256)] 5)) (some ⟨w.heap.size, 0, none⟩) [UInt8.ofNat (n % 256)] :=
  IsBytes.made (by simp [bvals, bval])

theorem crcB_take (s : BitVec 32) (k : Nat) (hk : k < 4) : (crcB s).take (k + 1) = (crcB s).take k ++ [UInt8.ofNat (s.toNat / 256 ^ k % 256)] := by
  obtain rfl | rfl | rfl | rfl : k = 0 ∨ k = 1 ∨ k = 2 ∨ k = 3 := by omega
  all_goals simp [crcB]

set_option maxRecDepth 100000 in
theorem refappend_calls (a : Option Addr) (l : List UInt8) (cap : Nat) (w : World) (hl : l.length ≤ 17592186044416) (hn : a = none → l.length = 0 ∧ cap = 0) (hb : IsBytes w a l) :
    Calls Try.prog 20 #[.slice a l.length cap] w fun e w' => ∃ v, e = .returned v ∧ OwnB w' w.heap.size v (l ++ crcB (sum l)) ∧ Below w.heap.size w w' := by
  have h0 := refsum_calls a l cap w hl hb
  obtain ⟨s, hs⟩ : ∃ s, s = sum l := ⟨_, rfl⟩
  rw [← hs] at h0 ⊢
  clear hs
  obtain ⟨g, hg⟩ : ∃ g, g = w.heap.size := ⟨_, rfl⟩
  have hg1 : g ≤ w.heap.size := by omega
  have hslt : s.toNat < 4294967296 := s.isLt
  rw [← hg] at h0 ⊢
  have Hg := Lib.hid hg
  clear hg
  go_enter Try.func20, Try.ntmps20
  go_wp2_with (first
    | (go_at_call 18; refine h0.mono ?_; rintro e w1 ⟨rfl, hw1⟩)
    | (at_builtin; refine wpList_append_bytes rfl (.tmp 8) (.tmp 9) rfl g (.slice (some ⟨w1.heap.size, 0, none⟩) 0 0) [] rfl (OwnB.made w1 g (by have := hw1.size; omega)) a l.length cap l rfl rfl hn ((hb.later (hw1.mono (by have := Hg.out; omega))).alloc _) (by simp; omega) (by have := hw1.size; simp; omega) ?_; intro v1 w2 hown1 hgr1))
  rw [List.nil_append] at hown1
  have hB2 : Below g w w2 := (hw1.alloc (by have := hw1.size; omega) _).grown hgr1 (by have := hw1.size; simp; omega) (fun k hk => by
    simp only [Value.ownBlock, Option.some.injEq] at hk
    have := hw1.size
    omega)
  clear hgr1 hb h0
  go_loopw [3, 4, 5] (fun c v i wr => ∃ k : Nat, k ≤ 4 ∧ i = .int .i64 k ∧ c = .int .u32 ((s.toNat / 256 ^ k : Nat) : Int) ∧ OwnB wr g v (l ++ (crcB s).take k) ∧ Below g w wr) (fun _ _ i _ => 4 - (intOf i).toNat)
  case atStart => exact ⟨0, Nat.zero_le _, rfl, by simp, by simpa using hown1, hB2⟩
  case round =>
    obtain ⟨k, hk, rfl, rfl, hown, hbel⟩ := hrel
    clear hown1 hB2 hw1
    have hsz := hbel.size
    by_cases hlt : k < 4
    · have ht := crcB_take s k hlt
      have hd : s.toNat / 256 ^ (k + 1) = s.toNat / 256 ^ k / 256 := by rw [Nat.pow_succ, Nat.div_div_eq_div_mul]
      have hcl : s.toNat / 256 ^ k < 4294967296 := Nat.lt_of_le_of_lt (Nat.div_le_self _ _) hslt
      obtain ⟨c, hc⟩ : ∃ c, c = s.toNat / 256 ^ k := ⟨_, rfl⟩
      rw [← hc] at ht hd hcl ⊢
      clear hc
      have Ht := Lib.hid ht
      have Hd := Lib.hid hd
      clear ht hd
      have hll : (l ++ (crcB s).take k).length ≤ l.length + 4 := by simp [crcB]; omega
      go_wp2_with (at_builtin; refine wpList_append_bytes rfl (.tmp 15) (.tmp 19) rfl g _ (l ++ (crcB s).take k) rfl (hown.later ((Below.refl _ _).alloc (Nat.le_refl _) _)) (some ⟨wr.heap.size, 0, none⟩) 1 1 [UInt8.ofNat (c % 256)] rfl rfl (fun h => by cases h) (byte_lit wr c) (by simp; omega) (by simp; omega) ?_; intro v2 w3 hown2 hgr2)
      go_roundw
      case rel =>
        refine ⟨k + 1, by omega, by go_num, congrArg (Value.int .u32) (by rw [Hd.out]; simp), by rw [Ht.out, ← List.append_assoc]; exact hown2, ?_⟩
        exact (hbel.alloc (by omega) _).grown hgr2 (by simp; omega) hown.blk
      case measure => simp [intOf]; omega
    · obtain rfl : k = 4 := by omega
      go_wp2
      go_ret
      exact ⟨_, rfl, by simpa [crcB] using hown, hbel⟩

theorem byte_of (x : UInt8) (y : Nat) (h : y % 256 = x.toNat) : UInt8.ofNat (y % 256) = x := by
  apply UInt8.toNat.inj
  have := x.toNat_lt
  simp [h]

/-- Four bytes are a sum's iff they are its number. -/
theorem crcB_iff (s : BitVec 32) (t : List UInt8) (ht : t.length = 4) : (crcB s == t) = (leN t == s.toNat) := by
  have hs : s.toNat < 4294967296 := s.isLt
  match t, ht with
  | [a, b, c, d], _ =>
    have ha := a.toNat_lt
    have hb := b.toNat_lt
    have hc := c.toNat_lt
    have hd := d.toNat_lt
    simp only [leN, crcB]
    by_cases h : a.toNat + 256 * (b.toNat + 256 * (c.toNat + 256 * (d.toNat + 256 * 0))) = s.toNat
    · rw [byte_of a _ (by omega), byte_of b _ (by omega), byte_of c _ (by omega), byte_of d _ (by omega), h, beq_self_eq_true, beq_self_eq_true]
    · rw [beq_eq_false_iff_ne.2 h, beq_eq_false_iff_ne]
      intro e
      simp only [List.cons.injEq, and_true] at e
      obtain ⟨e1, e2, e3, e4⟩ := e
      have f1 := congrArg UInt8.toNat e1
      have f2 := congrArg UInt8.toNat e2
      have f3 := congrArg UInt8.toNat e3
      have f4 := congrArg UInt8.toNat e4
      simp at f1 f2 f3 f4
      omega

theorem ends_same (l : List UInt8) (n : Nat) (h : l.length = n + 4) : (l.take n ++ crcB (sum (l.take n)) == l) = endsB l := by
  unfold endsB
  rw [show l.length - 4 = n by omega, decide_eq_true (show 4 ≤ l.length by omega), Bool.true_and, ← crcB_iff _ _ (by rw [List.length_drop]; omega)]
  have e : l.take n ++ l.drop n = l := List.take_append_drop n l
  by_cases hq : crcB (sum (l.take n)) = l.drop n
  · rw [hq, e, beq_self_eq_true, beq_self_eq_true]
  · rw [beq_eq_false_iff_ne.2 hq, beq_eq_false_iff_ne]
    intro h2
    apply hq
    have h3 : l.take n ++ crcB (sum (l.take n)) = l.take n ++ l.drop n := h2.trans e.symm
    exact List.append_cancel_left h3

set_option maxRecDepth 100000 in
theorem refends_calls (a : Option Addr) (l : List UInt8) (cap : Nat) (w : World) (hl : l.length ≤ 17592186044416) (hc : l.length ≤ cap) (hn : a = none → l.length = 0 ∧ cap = 0) (hb : IsBytes w a l) :
    Calls Try.prog 22 #[.slice a l.length cap] w fun e w' => e = .returned (.bool (endsB l)) ∧ Below w.heap.size w w' := by
  by_cases h4 : l.length < 4
  · have he : endsB l = false := by simp [endsB]; omega
    rw [he]
    have hd : decide ((4 : Int) ≤ (l.length : Int)) = false := by simp; omega
    go_enter Try.func22, Try.ntmps22
    go_wp2
    go_quiet (fail)
    go_wp2
    go_ret
    exact ⟨rfl, below_drewN (Below.refl _ _) _⟩
  · obtain ⟨n, hnn⟩ : ∃ n, l.length = n + 4 := ⟨l.length - 4, by omega⟩
    have hln : (l.take n).length = n := by rw [List.length_take]; omega
    have h0 : ∀ W, Below w.heap.size w W → Calls Try.prog 20 #[.slice a n cap] W fun e w' => ∃ v, e = .returned v ∧ OwnB w' W.heap.size v (l.take n ++ crcB (sum (l.take n))) ∧ Below W.heap.size W w' := fun W hW => by
      have := refappend_calls a (l.take n) cap W (by omega) (fun h => by have := hn h; omega) ((hb.later hW).take n)
      rw [hln] at this
      exact this
    obtain ⟨r, hr⟩ : ∃ r, r = l.take n ++ crcB (sum (l.take n)) := ⟨_, rfl⟩
    rw [← hr] at h0
    have hd : decide ((4 : Int) ≤ (l.length : Int)) = true := by simp; omega
    have hs : IntKind.i64.wrap ((l.length : Int) - 4) = (n : Int) := by rw [IntWalk.i64_in _ (by omega)]; omega
    have hn0 : (n : Int) ≤ (cap : Int) := by omega
    have e1 : ∀ x : SW (fun W => Below w.heap.size w W), (convert 22 9 (.slice a l.length cap)).run Try.prog x.W = .ok (.string ⟨l.toArray⟩) x.W := fun x => conv_text (hb.later x.h) rfl
    have hne : Nonempty (SW (fun W => Below w.heap.size w W)) := ⟨⟨w, Below.refl _ _⟩⟩
    have H0 := Lib.hid h0
    have Hnn := Lib.hid hnn
    have Hr := Lib.hid hr
    clear h0 hnn hln hr
    go_enter Try.func22, Try.ntmps22
    go_wp2
    refine wp_region_seq (fun W => Below w.heap.size w W) [(0, true), (1, true), (2, true), (3, true), (4, true), (5, true), (6, true), (7, true), (8, true), (11, true), (12, true), (9, false), (10, false), (13, true), (14, true), (15, true)] (by kernel_rfl) (by kernel_rfl) (fun d _ _ _ _ h => by cases d <;> exact h) (Below.refl _ _).drew ?_
    repeat (first
      | (refine wpSeq_skip (o := ⟨_, _, _, _, _, _⟩) rfl rfl ?_; simp only [Act.put, List.setIfInBounds_toArray, List.set_cons_zero, List.set_cons_succ])
      | (refine wpSeq_free (o := ⟨_, _, _, _, _, _⟩) rfl rfl (fun K hK => ?_); go_big_quiet_op; (refine hK _ ?_; clear hK K)))
    refine wpSeq_next (o := ⟨_, _, _, _, _, _⟩) rfl rfl (fun K hK => ?_)
    go_simp
    go_at_call 20
    refine (H0.out _ (by exact (Below.refl _ _).drew)).mono ?_
    rintro e w2 ⟨v, rfl, hown, hw2⟩
    obtain ⟨a2, c2, rfl, hb2, _, _, _, _⟩ := hown.slice
    have e2 := conv_text (w := w2) hb2 (cap := c2) rfl
    have hS2 : Below w.heap.size w w2 := (Below.refl _ _).drew.trans hw2
    refine hK.out _ _ hS2 ?_
    clear hK K
    refine wpSeq_next (o := ⟨_, _, _, _, _, _⟩) rfl rfl (fun K hK => ?_)
    go_simp
    refine hK.out _ _ hS2 ?_
    clear hK K
    repeat (first
      | (refine wpSeq_skip (o := ⟨_, _, _, _, _, _⟩) rfl rfl ?_; simp only [Act.put, List.setIfInBounds_toArray, List.set_cons_zero, List.set_cons_succ])
      | (refine wpSeq_free (o := ⟨_, _, _, _, _, _⟩) rfl rfl (fun K hK => ?_); go_big_quiet_op; (refine hK _ ?_; clear hK K)))
    refine wpSeq_nil ?_
    go_wp2
    go_ret
    exact ⟨ret_bool (by rw [Hr.out]; exact ends_same l n Hnn.out), hS2⟩
end Go.Proofs.Ytdlbjllgdikadaa
