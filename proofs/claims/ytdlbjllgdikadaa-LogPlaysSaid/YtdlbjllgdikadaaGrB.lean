/- The walk of the package crc: the table. The walk of the package crc: Sum, Append, Ends. -/
import Derived.Test.YtdlbjllgdikadaaGrA
namespace Go.Proofs.Ytdlbjllgdikadaa
open Go.RowKit CrcM

@[go_sem] theorem max_u32 : IntKind.u32.max = 4294967295 := rfl
@[go_sem] theorem signed_u32 : IntKind.u32.signed = false := rfl

def itL (c : BitVec 32) : Nat → BitVec 32
  | 0 => c
  | k + 1 => L (itL c k)

theorem bx32 (a b : BitVec 32) : bits .xor .u32 (a.toNat : Int) (b.toNat : Int) = ((a ^^^ b).toNat : Int) := by
  rw [u32_xor_nat _ _ (by exact a.isLt) (by exact b.isLt), BitVec.toNat_xor]
theorem not32 (a : BitVec 32) : bits .xor .u32 4294967295 (a.toNat : Int) = ((~~~a).toNat : Int) := by
  have h : bits .xor .u32 ((4294967295#32).toNat : Int) (a.toNat : Int) = _ := bx32 4294967295#32 a
  have e : 4294967295#32 ^^^ a = ~~~a := by rw [show 4294967295#32 = BitVec.allOnes 32 by decide, BitVec.allOnes_xor]
  rw [e] at h
  exact h
attribute [go_sem] not32
theorem not_nat (a : BitVec 32) : ((~~~a).toNat : Int) = ((4294967295 - a.toNat : Nat) : Int) := by
  rw [BitVec.toNat_not]
theorem ba32 (a b : BitVec 32) : bits .and .u32 (a.toNat : Int) (b.toNat : Int) = ((a &&& b).toNat : Int) := by
  rw [u32_and_nat _ _ (by exact a.isLt) (by exact b.isLt), BitVec.toNat_and]
theorem bn32 (a : BitVec 32) : -(a.toNat : Int) % 4294967296 = ((-a).toNat : Int) := by
  rw [BitVec.toNat_neg]
  have := a.isLt
  by_cases h : a.toNat = 0
  · simp [h]
  · omega
theorem bs32 (a : BitVec 32) : (a.toNat : Int) / (2 : Int) = ((a >>> 1).toNat : Int) := by
  rw [BitVec.toNat_ushiftRight, Nat.shiftRight_eq_div_pow]
  simp

theorem L_arith (c : BitVec 32) : L c = (c >>> 1) ^^^ (3988292384#32 &&& -(c &&& 1#32)) := by
  unfold L
  congr 1
  have h : c &&& 1#32 = if c.getLsbD 0 then 1#32 else 0#32 := by
    apply BitVec.eq_of_getLsbD_eq
    intro i hi
    rw [BitVec.getLsbD_and]
    cases i with
    | zero => cases h : c.getLsbD 0 <;> simp
    | succ i =>
      have h1 : (1#32).getLsbD (i + 1) = false := by simp
      rw [h1, Bool.and_false]
      cases h : c.getLsbD 0 <;> simp
  rw [h]
  cases c.getLsbD 0 <;> decide

theorem L_spell (c : BitVec 32) : bits .xor .u32 ((c.toNat : Int) / 2) (bits .and .u32 3988292384 (-bits .and .u32 (c.toNat : Int) 1 % 4294967296)) = ((L c).toNat : Int) := by
  have e1 : bits .and .u32 (c.toNat : Int) 1 = ((c &&& 1#32).toNat : Int) := ba32 c 1#32
  have e2 : ∀ y : BitVec 32, bits .and .u32 3988292384 (y.toNat : Int) = ((3988292384#32 &&& y).toNat : Int) := fun y => ba32 3988292384#32 y
  rw [e1, bn32, e2, bs32, bx32, L_arith]

theorem turned_calls (c : BitVec 32) (w : World) :
    Calls Try.prog 108 #[.int .u32 (c.toNat : Int)] w fun e w' => e = .returned (.int .u32 ((L8 c).toNat : Int)) ∧ w = w' := by
  go_enter Try.func108, Try.ntmps108
  go_wp2
  go_loop [0, 3] (fun x i => ∃ k : Nat, k ≤ 8 ∧ i = .int .i64 k ∧ x = .int .u32 ((itL c k).toNat : Int)) (fun _ i => 8 - (intOf i).toNat)
  case atStart => exact ⟨0, Nat.zero_le _, rfl, rfl⟩
  case round =>
    obtain ⟨k, hk, rfl, rfl⟩ := hrel
    by_cases hlt : k < 8
    · go_wp2
      go_round
      case rel => exact ⟨k + 1, by omega, by go_num, by rw [L_spell]; rfl⟩
      case measure => simp [intOf]; omega
    · obtain rfl : k = 8 := by omega
      go_wp2
      go_ret
      exact ⟨rfl, rfl⟩

theorem turned_any (k : Nat) (hk : k < 4294967296) (w : World) :
    Calls Try.prog 108 #[.int .u32 (k : Int)] w fun e w' => e = .returned (.int .u32 ((L8 (BitVec.ofNat 32 k)).toNat : Int)) ∧ w = w' := by
  have h := turned_calls (BitVec.ofNat 32 k) w
  rw [BitVec.toNat_ofNat, Nat.mod_eq_of_lt hk] at h
  exact h

def tab (i : Nat) : Value := .int .u32 ((L8 (BitVec.ofNat 32 i)).toNat : Int)
def tabK (k : Nat) : Array Value := ((List.range 256).map fun i => if i < k then tab i else .int .u32 0).toArray
theorem tabK_size (k : Nat) : (tabK k).size = 256 := by simp [tabK]
theorem tabK_zero : tabK 0 = Array.replicate 256 (.int .u32 0) := by
  apply Array.ext
  · simp [tabK]
  · intro i h1 h2; simp [tabK]
theorem tabK_get (k i : Nat) (hi : i < 256) : (tabK k)[i]'(by rw [tabK_size]; exact hi) = if i < k then tab i else .int .u32 0 := by
  simp [tabK]
theorem tabK_set (k : Nat) : (tabK k).setIfInBounds k (tab k) = tabK (k + 1) := by
  apply Array.ext
  · simp [tabK]
  · intro i h1 h2
    simp only [tabK_size] at h2
    rw [Array.getElem_setIfInBounds (by rw [tabK_size]; exact h2), tabK_get k i h2, tabK_get (k + 1) i h2]
    by_cases h : k = i
    · subst h; simp
    · rw [if_neg h]
      by_cases h3 : i < k
      · rw [if_pos h3, if_pos (by omega)]
      · rw [if_neg h3, if_neg (by omega)]


theorem zero_tab : Try.zeroCells123 = tabK 0 := by rw [tabK_zero]; kernel_rfl


theorem tab_size : (Try.prog.info? 123).map (·.size) = some 256 := by kernel_rfl
theorem tabK_one : (tabK 256).all (·.oneCell') = true := by
  rw [Array.all_eq_true]
  intro i hi
  rw [tabK_size] at hi
  rw [tabK_get 256 i hi, if_pos hi]; rfl

set_option maxRecDepth 100000 in
theorem table_calls (w : World) :
    Calls Try.prog 86 #[] w fun e w' => e = .returned (.agg (tabK 256)) ∧ Below w.heap.size w w' := by
  go_enter Try.func86, Try.ntmps86
  go_wp2
  rw [zero_tab]
  go_loopw [3] (fun i wr => ∃ k : Nat, k ≤ 256 ∧ i = .int .i64 k ∧ wr = w.alloc (.cells (tabK k) 123)) (fun i _ => 256 - (intOf i).toNat)
  case atStart => exact ⟨0, Nat.zero_le _, rfl, rfl⟩
  case round =>
    obtain ⟨k, hk, rfl, rfl⟩ := hrel
    by_cases hlt : k < 256
    · have hsz : (tabK k)[k]? = some (.int .u32 0) := by
        rw [Array.getElem?_eq_getElem (by rw [tabK_size]; exact hlt), tabK_get k k hlt, if_neg (by omega)]
      go_wp2_with (go_at_call 108; refine (turned_any k (by omega) _).mono ?_; rintro e w' ⟨rfl, rfl⟩)
      go_roundw
      case rel => exact ⟨k + 1, by omega, by go_num, congrArg (fun x => w.alloc (.cells x 123)) (tabK_set k)⟩
      case measure => simp [intOf]; omega
    · obtain rfl : k = 256 := by omega
      go_wp2_with (first
        | (with_reducible refine wpList_load_row rfl 123 _ rfl w.heap.size rfl 123 (tabK 256) (0, 0) _ (heap_alloc_new _ _) Try.underlying123 rfl (by rw [tab_size, tabK_size]) ?_)
        | (with_reducible refine wpList_store_row rfl 123 _ _ rfl w.heap.size (tabK 256) rfl rfl 123 (tabK 256) (heap_alloc_new _ _) (by rw [tab_size, tabK_size]) rfl tabK_one ?_))
      refine bodyPost_ret (results_cell_row rfl _ _ w.heap.size 123 (tabK 256) (0, 0) _ rfl (setRow_heap _ _ _ _ _ _ (heap_alloc_new _ _)) Try.underlying123 rfl (by rw [tab_size, tabK_size])) rfl ⟨rfl, ?_⟩
      exact below_setRow ((Below.refl _ _).alloc (Nat.le_refl _) _) (Nat.le_refl _) _

theorem more_step (c : BitVec 32) (x : UInt8) : bits .xor .u32 ((L8 (BitVec.ofNat 32 (c.toNat % 256 ^^^ x.toNat))).toNat : Int) ((c.toNat : Int) / 256) = ((CrcM.step c x).toNat : Int) := by
  have e : (c.toNat : Int) / (256 : Int) = ((c >>> 8).toNat : Int) := by
    rw [BitVec.toNat_ushiftRight, Nat.shiftRight_eq_div_pow]; simp
  rw [e, bx32, step_table]

set_option maxRecDepth 100000 in
theorem more_calls (s : BitVec 32) (a : Option Addr) (l : List UInt8) (cap : Nat) (w : World) (hl : l.length ≤ 9223372036854775807) (hb : IsBytes w a l) :
    Calls Try.prog 19 #[.int .u32 (s.toNat : Int), .slice a l.length cap] w fun e w' => e = .returned (.int .u32 ((more s l).toNat : Int)) ∧ Below w.heap.size w w' := by
  go_enter Try.func19, Try.ntmps19
  go_wp2_with (first
    | (go_at_call 86; refine (table_calls _).mono ?_; rintro e w1 ⟨rfl, hw1⟩)
    | (with_reducible refine wpList_store_row rfl 123 _ _ rfl _ (tabK 256) rfl rfl 123 Try.zeroCells123 (heap_alloc_new _ _) (by rw [tab_size, tabK_size]) (by rw [zero_tab, tabK_size, tabK_size]) tabK_one ?_))
  obtain ⟨w2, h2⟩ : ∃ w2, w2 = (w1.alloc (Obj.cells Try.zeroCells123 123)).setRow w1.heap.size (tabK 256) := ⟨_, rfl⟩
  have hT : w2.heap[w1.heap.size]? = some (.cells (tabK 256) 123 (0, 0)) := by rw [h2]; exact setRow_heap _ _ _ _ _ _ (heap_alloc_new _ _)
  have hB : Below w1.heap.size w1 w2 := by rw [h2]; exact below_setRow ((Below.refl _ _).alloc (Nat.le_refl _) _) (Nat.le_refl _) _
  rw [← h2]
  clear h2
  have hb2 := (hb.later hw1).later hB
  have HT : Hid (w2.heap[w1.heap.size]? = some (.cells (tabK 256) 123 (0, 0))) := hT
  clear hT hb
  go_loop [6, 14] (fun c i => ∃ k : Nat, k ≤ l.length ∧ i = .int .i64 k ∧ c = .int .u32 ((run (~~~s) (l.take k)).toNat : Int)) (fun _ i => l.length - (intOf i).toNat)
  case atStart => exact ⟨0, Nat.zero_le _, rfl, congrArg (Value.int .u32) (not_nat s).symm⟩
  case round =>
    obtain ⟨k, hk, rfl, rfl⟩ := hrel
    by_cases hlt : k < l.length
    · obtain ⟨b, off, rfl, hc⟩ := hb2 k hlt
      obtain ⟨c, hcc⟩ : ∃ c, c = run (~~~s) (l.take k) := ⟨_, rfl⟩
      have hnext : run (~~~s) (l.take (k + 1)) = CrcM.step c l[k] := by
        rw [List.take_succ_eq_append_getElem hlt, run_append, ← hcc]; rfl
      rw [← hcc]
      obtain ⟨x, hx⟩ : ∃ x, x = l[k] := ⟨_, rfl⟩
      rw [← hx] at hc hnext
      have Hn := Lib.hid hnext
      clear hnext hcc hx
      have hxl : x.toNat < 256 := x.toNat_lt
      obtain ⟨n, hn⟩ : ∃ n, n = c.toNat % 256 ^^^ x.toNat := ⟨_, rfl⟩
      have hn2 : n < 256 := by rw [hn]; exact Nat.xor_lt_two_pow (n := 8) (Nat.mod_lt _ (by omega)) hxl
      have hix : bits .xor .u8 ((c.toNat : Int) % 256) (x.toNat : Int) = (n : Int) := by
        rw [hn]; exact u8_xor_nat (c.toNat % 256) x.toNat (Nat.mod_lt _ (by omega)) hxl
      have htb : w2.cell? ⟨w1.heap.size, n, none⟩ = some (.int .u32 ((L8 (BitVec.ofNat 32 n)).toNat : Int)) := by
        rw [cell_of_row _ _ _ _ _ _ HT.out, Array.getElem?_eq_getElem (by rw [tabK_size]; exact hn2), tabK_get 256 n hn2, if_pos hn2]; rfl
      have Hn2 := Lib.hid hn
      clear hn
      go_wp2
      go_round
      case rel => exact ⟨k + 1, by omega, by go_num, by rw [Hn.out, Hn2.out, more_step]⟩
      case measure => simp [intOf]; omega
    · obtain rfl : k = l.length := by omega
      go_wp2
      go_ret
      exact ⟨ret_int (not_nat _).symm, hw1.trans (hB.mono hw1.size)⟩
end Go.Proofs.Ytdlbjllgdikadaa

namespace Go.Proofs.Ytdlbjllgdikadaa
open Go.RowKit CrcM

theorem sum_calls (a : Option Addr) (l : List UInt8) (cap : Nat) (w : World) (hl : l.length ≤ 9223372036854775807) (hb : IsBytes w a l) :
    Calls Try.prog 17 #[.slice a l.length cap] w fun e w' => e = .returned (.int .u32 ((sum l).toNat : Int)) ∧ Below w.heap.size w w' := by
  have h0 : Calls Try.prog 19 #[.int .u32 0, .slice a l.length cap] w fun e w' => e = .returned (.int .u32 ((sum l).toNat : Int)) ∧ Below w.heap.size w w' := more_calls 0#32 a l cap w hl hb
  go_enter Try.func17, Try.ntmps17
  go_wp2_with (go_at_call 19; refine h0.mono ?_; rintro e w1 ⟨rfl, hw1⟩)
  go_ret
  exact ⟨rfl, hw1⟩

/-- A sum's four bytes, the lowest one first. -/
def crcB (s : BitVec 32) : List UInt8 := [UInt8.ofNat (s.toNat % 256), UInt8.ofNat (s.toNat / 256 % 256), UInt8.ofNat (s.toNat / 65536 % 256), UInt8.ofNat (s.toNat / 16777216 % 256)]

set_option maxRecDepth 100000 in
theorem append_calls (a : Option Addr) (l : List UInt8) (cap : Nat) (w : World) (hl : l.length ≤ 70368744177664) (hc : l.length ≤ cap) (hn : a = none → l = [] ∧ cap = 0) (hb : IsBytes w a l) :
    Calls Try.prog 16 #[.slice a l.length cap] w fun e w' => ∃ v, e = .returned v ∧ OwnB w' w.heap.size v (l ++ crcB (sum l)) ∧ Below w.heap.size w w' := by
  obtain ⟨c, hcd⟩ : ∃ c, c = sum l := ⟨_, rfl⟩
  have h0 := sum_calls a l cap w (by omega) hb
  rw [← hcd] at h0 ⊢
  have Hc := Lib.hid hcd
  clear hcd
  have hlt : c.toNat < 4294967296 := c.isLt
  have hB : #[Value.int .u8 ((c.toNat : Int) % 256), .int .u8 ((c.toNat : Int) / 256 % 256), .int .u8 ((c.toNat : Int) / 65536 % 256), .int .u8 ((c.toNat : Int) / 16777216)] = (bvals (crcB c)).toArray := by
    have h1 : c.toNat / 16777216 % 256 = c.toNat / 16777216 := Nat.mod_eq_of_lt (by omega)
    simp [bvals, bval, crcB, h1]
  have HB := Lib.hid hB
  clear hB
  have hlen : (crcB c).length = 4 := rfl
  have hn2 : a = none → l.length = 0 ∧ l.length = 0 := fun h => by simp [(hn h).1]
  go_enter Try.func16, Try.ntmps16
  go_wp2_with (first
    | (go_at_call 17; refine h0.mono ?_; rintro e w1 ⟨rfl, hw1⟩)
    | (at_builtin; refine wpList_append_full rfl (.tmp 11) (.tmp 23) rfl a l.length l.length l rfl rfl hn2 ((hb.later hw1).alloc _) ⟨w1.heap.size, 0, none⟩ 4 4 (crcB c) rfl rfl (IsBytes.made HB.out) (by omega) (by rw [hlen]; omega) ?_; intro v' w2 hown hgr))
  go_ret
  have hsz := hw1.size
  refine ⟨v', rfl, hown.mono (by simp; omega), ?_⟩
  exact (hw1.trans (((Below.refl _ _).alloc (Nat.le_refl _) _).mono hsz)).grown hgr (by simp; omega) (fun k hk => by cases hk)

/-- The number that bytes are, the lowest one first. -/
def leN : List UInt8 → Nat
  | [] => 0
  | b :: r => b.toNat + 256 * leN r

theorem leN_snoc (l : List UInt8) (b : UInt8) : leN (l ++ [b]) = leN l + b.toNat * 256 ^ l.length := by
  induction l with
  | nil => simp [leN]
  | cons x r ih =>
    simp only [List.cons_append, leN, ih, List.length_cons, Nat.pow_succ]
    rw [Nat.mul_add, ← Nat.add_assoc]
    congr 1
    rw [Nat.mul_comm (256 ^ r.length) 256, ← Nat.mul_assoc, ← Nat.mul_assoc, Nat.mul_comm 256 b.toNat]

theorem leN_lt (l : List UInt8) : leN l < 256 ^ l.length := by
  induction l with
  | nil => simp [leN]
  | cons x r ih =>
    have hx := x.toNat_lt
    simp only [leN, List.length_cons, Nat.pow_succ]
    omega

def endsB (l : List UInt8) : Bool := decide (4 ≤ l.length) && (leN (l.drop (l.length - 4)) == (sum (l.take (l.length - 4))).toNat)

theorem or_le (n x p q : Nat) (hn : n < p) (hp : ∃ i, p = 2 ^ i) (hq : q = n + x * p) (h32 : q < 4294967296) : bits .or .u32 (n : Int) ((x : Int) * (p : Int)) = (q : Int) := by
  have e : (x : Int) * (p : Int) = ((x * p : Nat) : Int) := by simp
  rw [e, u32_or_nat n (x * p) (by omega) (by omega)]
  congr 1
  obtain ⟨i, rfl⟩ := hp
  have := Nat.two_pow_add_eq_or_of_lt hn x
  rw [hq, Nat.or_comm, Nat.mul_comm x, ← this, Nat.add_comm]

set_option maxRecDepth 100000 in
theorem ends_calls (a : Option Addr) (l : List UInt8) (cap : Nat) (w : World) (hl : l.length ≤ 70368744177664) (hc : l.length ≤ cap) (hb : IsBytes w a l) :
    Calls Try.prog 21 #[.slice a l.length cap] w fun e w' => e = .returned (.bool (endsB l)) ∧ Below w.heap.size w w' := by
  by_cases h4 : l.length < 4
  · have he : endsB l = false := by simp [endsB]; omega
    rw [he]
    go_enter Try.func21, Try.ntmps21
    go_wp2
    go_ret
    exact ⟨rfl, Below.refl _ _⟩
  · obtain ⟨n, hn⟩ : ∃ n, l.length = n + 4 := ⟨l.length - 4, by omega⟩
    have h0 := sum_calls a (l.take n) cap w (by rw [List.length_take]; omega) (hb.take n)
    have hln : (l.take n).length = n := by rw [List.length_take]; omega
    rw [hln] at h0
    have he : endsB l = (leN (l.drop n) == (sum (l.take n)).toNat) := by
      unfold endsB
      rw [show l.length - 4 = n by omega]
      simp; omega
    rw [he]
    have hdl : (l.drop n).length = 4 := by rw [List.length_drop]; omega
    have hbd : ∀ k (hk : k < 4), ∃ b off x, a = some ⟨b, off, none⟩ ∧ w.cell? ⟨b, off + (n + k), none⟩ = some (.int .u8 ((x : UInt8).toNat : Int)) ∧ (l.drop n).take (k + 1) = (l.drop n).take k ++ [x] := by
      intro k hk
      obtain ⟨b, off, e, hcell⟩ := hb (n + k) (by omega)
      refine ⟨b, off, l[n + k]'(by omega), e, hcell, ?_⟩
      rw [List.take_succ_eq_append_getElem (by omega)]
      simp
    obtain ⟨s, hs⟩ : ∃ s, s = sum (l.take n) := ⟨_, rfl⟩
    rw [← hs] at h0 ⊢
    obtain ⟨t, ht⟩ : ∃ t, t = l.drop n := ⟨_, rfl⟩
    rw [← ht] at hbd hdl ⊢
    clear hs ht he hln
    have hn2 : (l.length : Int) = (n : Int) + 4 := by omega
    have Hbd := Lib.hid hbd
    clear hbd hb
    have hnb : n ≤ 70368744177660 := by omega
    have hcn : n ≤ cap := by omega
    rw [hn]
    clear hn hn2 hl hc
    go_enter Try.func21, Try.ntmps21
    go_wp2
    go_loop [3, 12] (fun c i => ∃ k : Nat, k ≤ 4 ∧ i = .int .i64 k ∧ c = .int .u32 ((leN (t.take k) : Nat) : Int)) (fun _ i => 4 - (intOf i).toNat)
    case atStart => exact ⟨0, Nat.zero_le _, rfl, by simp [leN]⟩
    case round =>
      obtain ⟨k, hk, rfl, rfl⟩ := hrel
      by_cases hlt : k < 4
      · obtain ⟨b, off, x, rfl, hcell, htk⟩ := Hbd.out k hlt
        have hx : x.toNat < 256 := x.toNat_lt
        have hnext : leN (t.take (k + 1)) = leN (t.take k) + x.toNat * 256 ^ k := by
          rw [htk, leN_snoc, List.length_take, show min k t.length = k by omega]
        have hqb := leN_lt (t.take k)
        rw [List.length_take, show min k t.length = k by omega] at hqb
        obtain ⟨y, hy⟩ : ∃ y, y = leN (t.take k) := ⟨_, rfl⟩
        rw [← hy] at hqb hnext ⊢
        clear htk hy
        obtain rfl | rfl | rfl | rfl : k = 0 ∨ k = 1 ∨ k = 2 ∨ k = 3 := by omega
        · have HN := Lib.hid (or_le y x.toNat 1 _ (by simpa using hqb) ⟨0, rfl⟩ (by simpa using hnext) (by rw [hnext]; simp at hqb ⊢; omega))
          simp only [Nat.add_zero] at hcell
          clear hnext
          go_wp2
          go_round
          case rel => exact ⟨1, by omega, rfl, congrArg (Value.int .u32) (by simpa using HN.out)⟩
          case measure => simp [intOf]
        · have HN := Lib.hid (or_le y x.toNat 256 _ (by simpa using hqb) ⟨8, rfl⟩ (by simpa using hnext) (by rw [hnext]; simp at hqb ⊢; omega))
          clear hnext
          go_wp2
          go_round
          case rel => exact ⟨2, by omega, rfl, congrArg (Value.int .u32) (HN.out)⟩
          case measure => simp [intOf]
        · have HN := Lib.hid (or_le y x.toNat 65536 _ (by simpa using hqb) ⟨16, rfl⟩ (by simpa using hnext) (by rw [hnext]; simp at hqb ⊢; omega))
          clear hnext
          go_wp2
          go_round
          case rel => exact ⟨3, by omega, rfl, congrArg (Value.int .u32) (HN.out)⟩
          case measure => simp [intOf]
        · have HN := Lib.hid (or_le y x.toNat 16777216 _ (by simpa using hqb) ⟨24, rfl⟩ (by simpa using hnext) (by rw [hnext]; simp at hqb ⊢; omega))
          clear hnext
          go_wp2
          go_round
          case rel => exact ⟨4, by omega, rfl, congrArg (Value.int .u32) (HN.out)⟩
          case measure => simp [intOf]
      · obtain rfl : k = 4 := by omega
        go_wp2_with (go_at_call 17; refine h0.mono ?_; rintro e w1 ⟨rfl, hw1⟩)
        go_ret
        refine ⟨ret_bool ?_, hw1⟩
        have e1 : t.take 4 = t := List.take_of_length_le (by omega)
        rw [e1]
        by_cases hq : leN t = s.toNat
        · rw [hq]; rw [beq_self_eq_true, beq_self_eq_true]
        · rw [beq_eq_false_iff_ne.2 hq, beq_eq_false_iff_ne.2 (by omega)]
end Go.Proofs.Ytdlbjllgdikadaa
