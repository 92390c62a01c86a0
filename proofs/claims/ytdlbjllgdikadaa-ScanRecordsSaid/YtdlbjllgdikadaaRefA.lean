/- The walk of the reference of crc: divisor, row. -/
import Derived.Test.YtdlbjllgdikadaaCrcB
import Derived.Deep.OwnRows
namespace Go.Proofs.Ytdlbjllgdikadaa
open Go.RowKit CrcM

def divCells : Array Value := (divs.map fun (d : Nat) => Value.int .i64 (d : Int)).toArray

set_option maxRecDepth 100000 in
theorem divisor_calls (p : Nat) (hp : p ≤ 32) (w : World) :
    Calls Try.prog 85 #[.int .i64 (p : Int)] w fun e w' => e = .returned (.bool (dv p)) ∧ Below w.heap.size w w' := by
  go_enter Try.func85, Try.ntmps85
  go_wp2
  obtain ⟨w1, h1⟩ : ∃ w1, w1 = w.alloc (.cells divCells 3) := ⟨_, rfl⟩
  have hB : Below w.heap.size w w1 := by rw [h1]; exact (Below.refl _ _).alloc (Nat.le_refl _) _
  have hD : w1.heap[w.heap.size]? = some (.cells divCells 3 (0, 0)) := by rw [h1]; exact heap_alloc_new _ _
  change Code.wp _ _ _ _ (w.alloc (.cells divCells 3))
  rw [← h1]
  have HD : Hid (w1.heap[w.heap.size]? = some (.cells divCells 3 (0, 0))) := hD
  clear hD h1
  go_loop [4] (fun i => ∃ k : Nat, k ≤ 14 ∧ i = .int .i64 k ∧ Hid (∀ j, j < k → divs.getD j 0 ≠ p)) (fun i => 14 - (intOf i).toNat)
  case atStart => exact ⟨0, Nat.zero_le _, rfl, fun j hj => absurd hj (Nat.not_lt_zero _)⟩
  case round =>
    obtain ⟨k, hk, rfl, hne⟩ := hrel
    by_cases hlt : k < 14
    · have hc : w1.cell? ⟨w.heap.size, k, none⟩ = some (.int .i64 ((divs.getD k 0 : Nat) : Int)) := by
        rw [cell_of_row _ _ _ _ _ _ HD.out]
        simp [divCells, List.getD_eq_getElem?_getD, show k < divs.length from hlt]
      obtain ⟨d, hd⟩ : ∃ d, d = divs.getD k 0 := ⟨_, rfl⟩
      rw [← hd] at hc
      have Hd := Lib.hid hd
      clear hd
      by_cases hdp : d = p
      · subst hdp
        go_wp2
        go_ret
        refine ⟨ret_bool ?_, hB⟩
        have h2 : d ∈ divs := by
          rw [Hd.out, List.getD_eq_getElem?_getD, List.getElem?_eq_getElem (show k < divs.length from hlt)]
          exact List.getElem_mem _
        simp [dv, h2]
      · have hne2 : ((d : Int) == (p : Int)) = false := by rw [beq_eq_false_iff_ne]; omega
        go_wp2
        go_round
        case rel =>
          refine ⟨k + 1, by omega, by go_num, fun j hj => ?_⟩
          by_cases hjk : j < k
          · exact hne.out j hjk
          · obtain rfl : j = k := by omega
            rw [← Hd.out]; exact hdp
        case measure => simp [intOf]; omega
    · obtain rfl : k = 14 := by omega
      go_wp2
      go_ret
      refine ⟨ret_bool ?_, hB⟩
      have h2 : p ∉ divs := by
        intro h
        obtain ⟨j, hj, e⟩ := List.getElem_of_mem h
        refine hne.out j hj ?_
        rw [List.getD_eq_getElem?_getD, List.getElem?_eq_getElem hj]; exact e
      simp [dv, h2]

theorem info4 : (Try.prog.info? 4).map (fun i => (i.zero, i.size, i.bytes)) = some (some (.bool false), 1, 1) := by kernel_rfl

theorem bit_test (x : UInt8) (m : Nat) : (bits .and .u8 ((x.toNat : Int) / 2 ^ m) 1 == 1) = x.toNat.testBit m := by
  have hx := x.toNat_lt
  have e : (x.toNat : Int) / 2 ^ m = ((x.toNat / 2 ^ m : Nat) : Int) := by
    rw [Int.natCast_ediv, Int.natCast_pow]; rfl
  have hlt : x.toNat / 2 ^ m < 256 := Nat.lt_of_le_of_lt (Nat.div_le_self _ _) hx
  have h := u8_and_nat (x.toNat / 2 ^ m) 1 hlt (by omega)
  rw [e, show (1 : Int) = ((1 : Nat) : Int) from rfl, h, Nat.and_one_is_mod, Nat.testBit_eq_decide_div_mod_eq]
  by_cases h1 : x.toNat / 2 ^ m % 2 = 1
  · simp [h1]
  · rw [decide_eq_false h1]
    rw [beq_eq_false_iff_ne]
    omega

theorem mbit_of (l : List UInt8) (k : Nat) (hk : k / 8 < l.length) : mbit l k = (l[k / 8]).toNat.testBit (k % 8) := by
  unfold mbit
  rw [List.getD_eq_getElem?_getD, List.getElem?_eq_getElem hk]; rfl

set_option maxRecDepth 100000 in
theorem row_calls (a : Option Addr) (l : List UInt8) (cap : Nat) (w : World) (hl : l.length ≤ 17592186044416) (hb : IsBytes w a l) :
    Calls Try.prog 84 #[.slice a l.length cap] w fun e w' => e = .returned (.slice (some ⟨w.heap.size, 0, none⟩) (8 * l.length + 32) (8 * l.length + 32)) ∧
      w'.rowIs w.heap.size 4 (8 * l.length + 32) (fun j => .bool (bit l 0 j)) ∧ Below w.heap.size w w' := by
  have hmk := run_make_row' (P := Try.prog) 120 4 (.bool false) 1 Try.underlying120 info4 rfl .i64 .i64 (8 * l.length + 32) (by omega) (by omega)
  rw [show ((8 * l.length + 32 : Nat) : Int) = 8 * (l.length : Int) + 32 by omega] at hmk
  go_enter Try.func84, Try.ntmps84
  go_wp2
  clear hmk
  go_loopw [4] (fun i wr => ∃ k : Nat, k ≤ 8 * l.length ∧ i = .int .i64 k ∧ wr.rowIs w.heap.size 4 (8 * l.length + 32) (fun j => .bool (if j < k then mbit l j else false)) ∧ Below w.heap.size w wr) (fun i _ => 8 * l.length - (intOf i).toNat)
  case atStart => exact ⟨0, Nat.zero_le _, rfl, World.rowIs_made _ _ _ _, (Below.refl _ _).alloc (Nat.le_refl _) _⟩
  case round =>
    obtain ⟨k, hk, rfl, hrow, hbel⟩ := hrel
    by_cases hlt : k < 8 * l.length
    · obtain ⟨b, off, rfl, hcell⟩ := hb (k / 8) (by omega)
      have hbl : b < w.heap.size := hb.lt rfl (by omega)
      have hc2 := (hbel.cell (p := ⟨b, off + k / 8, none⟩) hbl).trans hcell
      obtain ⟨x, hx⟩ : ∃ x, x = l[k / 8]'(by omega) := ⟨_, rfl⟩
      rw [← hx] at hc2
      have hxl : x.toNat < 256 := x.toNat_lt
      have Hx := Lib.hid hx
      have hco := hrow.cell (i := k) (by omega)
      have hfr := hrow.frozen k
      have Hrow := Lib.hid hrow
      clear hx hrow hcell
      go_wp2
      go_roundw
      case rel =>
        refine ⟨k + 1, by omega, by go_num, ?_, hbel.setCell (Nat.le_refl _) _⟩
        refine (Hrow.out.set k _).congr fun j hj => ?_
        have e : (bits .and .u8 ((x.toNat : Int) / 2 ^ (k % 8)) 1 == 1) = mbit l k := by
          rw [bit_test, mbit_of l k (by omega), Hx.out]
        rw [e]
        by_cases h1 : j = k
        · subst h1; rw [if_pos rfl, if_pos (by omega)]
        · rw [if_neg h1]
          by_cases h2 : j < k
          · rw [if_pos h2, if_pos (by omega)]
          · rw [if_neg h2, if_neg (by omega)]
      case measure => simp [intOf]; omega
    · obtain rfl : k = 8 * l.length := by omega
      go_wp2
      have hrow2 : wr.rowIs w.heap.size 4 (8 * l.length + 32) (fun j => .bool (mbit l j)) := hrow.congr fun j hj => by
        by_cases h1 : j < 8 * l.length
        · rw [if_pos h1]
        · rw [if_neg h1, mbit_past l j (by omega)]
      clear hrow hb
      obtain ⟨wo, rfl⟩ : ∃ wo : World, wo = wr := ⟨_, rfl⟩
      go_loopw [5] (fun i wr => ∃ k : Nat, k ≤ 32 ∧ i = .int .i64 k ∧ wr.rowIs w.heap.size 4 (8 * l.length + 32) (fun j => .bool (if j < k then !mbit l j else mbit l j)) ∧ Below w.heap.size w wr) (fun i _ => 32 - (intOf i).toNat)
      case atStart => exact ⟨0, Nat.zero_le _, rfl, hrow2, hbel⟩
      case round =>
        obtain ⟨k, hk2, rfl, hrow, hbel2⟩ := hrel
        clear hbel hrow2
        by_cases hlt2 : k < 32
        · have hco := hrow.cell (i := k) (by omega)
          rw [if_neg (by omega)] at hco
          have hfr := hrow.frozen k
          have Hrow := Lib.hid hrow
          clear hrow
          go_wp2
          go_roundw
          case rel =>
            refine ⟨k + 1, by omega, by go_num, ?_, hbel2.setCell (Nat.le_refl _) _⟩
            refine (Hrow.out.set k _).congr fun j hj => ?_
            by_cases h1 : j = k
            · subst h1; rw [if_pos rfl, if_pos (by omega)]
            · rw [if_neg h1]
              by_cases h2 : j < k
              · rw [if_pos h2, if_pos (by omega)]
              · rw [if_neg h2, if_neg (by omega)]
          case measure => simp [intOf]; omega
        · obtain rfl : k = 32 := by omega
          go_wp2
          go_ret
          exact ⟨rfl, hrow.congr fun j hj => by rw [bit_start], hbel2⟩
end Go.Proofs.Ytdlbjllgdikadaa
