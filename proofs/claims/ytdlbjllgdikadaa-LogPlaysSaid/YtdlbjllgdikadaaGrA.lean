/- Plain mathematics of CRC-32: the register, its linearity, its injectivity, the long division. No program in sight. What the walks say of bytes: slices that read as bytes, slices that the call itself made. A region that draws its order, walked once, in the order of the text: what yields one value in every world of a class is taken first; what must come next, whatever the order, is carried out. The walk of a region by a plan, where values are built of parts too. The walk of a region by a plan, where a class of worlds may grow narrower behind an operation that is carried out. -/
import Derived.Test.YtdlbjllgdikadaaRows
import Derived.WalkKit
import Derived.WalkLawsBesides
import Derived.WalkSpells
import Derived.Lib.Hide
import Derived.Laws.CopyOwn
import Derived.Laws.AppendOwnNone
import Derived.Laws.IdiomStrings
import Derived.ArgAppend
import Derived.Lib.SlBytesConst
import Derived.BigQuiet
import Derived.Deep.RegionHeld
namespace CrcM

/-- One bit of the register's way. -/
def L (c : BitVec 32) : BitVec 32 := (c >>> 1) ^^^ (if c.getLsbD 0 then 0xedb88320#32 else 0#32)

def L8 (c : BitVec 32) : BitVec 32 := L (L (L (L (L (L (L (L c)))))))

theorem L_getLsbD (c : BitVec 32) (i : Nat) : (L c).getLsbD i = (c.getLsbD (i + 1) ^^ (c.getLsbD 0 && (0xedb88320#32).getLsbD i)) := by
  unfold L
  cases h : c.getLsbD 0
  · rw [BitVec.getLsbD_xor, if_neg (by simp), BitVec.getLsbD_ushiftRight, Nat.add_comm]; simp
  · rw [BitVec.getLsbD_xor, if_pos rfl, BitVec.getLsbD_ushiftRight, Nat.add_comm]; simp

theorem L_xor (a b : BitVec 32) : L (a ^^^ b) = L a ^^^ L b := by
  apply BitVec.eq_of_getLsbD_eq
  intro i hi
  simp only [BitVec.getLsbD_xor, L_getLsbD]
  cases a.getLsbD 0 <;> cases b.getLsbD 0 <;> cases a.getLsbD (i + 1) <;> cases b.getLsbD (i + 1) <;> simp

theorem L8_xor (a b : BitVec 32) : L8 (a ^^^ b) = L8 a ^^^ L8 b := by
  simp only [L8, L_xor]

theorem L_zero : L 0#32 = 0#32 := by decide

theorem L_even (c : BitVec 32) (h : c.getLsbD 0 = false) : L c = c >>> 1 := by
  unfold L
  rw [h, if_neg (by simp)]; simp

theorem L_eq_zero (d : BitVec 32) (h : L d = 0#32) : d = 0#32 := by
  have h31 : (L d).getLsbD 31 = false := by rw [h]; simp
  rw [L_getLsbD] at h31
  have hp : (0xedb88320#32).getLsbD 31 = true := by decide
  have h32 : d.getLsbD (31 + 1) = false := BitVec.getLsbD_of_ge _ _ (by omega)
  rw [hp, h32] at h31
  have h0 : d.getLsbD 0 = false := by simpa using h31
  apply BitVec.eq_of_getLsbD_eq
  intro i hi
  cases i with
  | zero => simpa using h0
  | succ i =>
    have := congrArg (fun x => x.getLsbD i) h
    simp only [L_getLsbD, h0] at this
    simpa using this

theorem xor_eq_zero (a b : BitVec 32) (h : a ^^^ b = 0#32) : a = b := by
  have := congrArg (fun x => x ^^^ b) h
  simpa [BitVec.xor_assoc] using this

theorem L_inj (a b : BitVec 32) (h : L a = L b) : a = b := by
  apply xor_eq_zero
  apply L_eq_zero
  rw [L_xor, h, BitVec.xor_self]

theorem L8_inj (a b : BitVec 32) (h : L8 a = L8 b) : a = b := by
  unfold L8 at h
  exact L_inj _ _ (L_inj _ _ (L_inj _ _ (L_inj _ _ (L_inj _ _ (L_inj _ _ (L_inj _ _ (L_inj _ _ h)))))))

/-- A register's low byte and the rest. -/
theorem L8_high (c : BitVec 32) (h : c &&& 255#32 = 0#32) : L8 c = c >>> 8 := by
  have hb : ∀ i, i < 8 → c.getLsbD i = false := by
    intro i hi
    have := congrArg (fun x => x.getLsbD i) h
    simp only [BitVec.getLsbD_and] at this
    have h255 : (255#32).getLsbD i = true := by
      have : ∀ j : Fin 8, (255#32).getLsbD j.val = true := by decide
      exact this ⟨i, hi⟩
    rw [h255] at this
    simpa using this
  unfold L8
  have e : ∀ k, k < 8 → (c >>> k).getLsbD 0 = false := by
    intro k hk
    simp [hb k hk]
  have s : ∀ k, k < 8 → L (c >>> k) = c >>> (k + 1) := by
    intro k hk
    rw [L_even _ (e k hk), ← BitVec.shiftRight_add]
  have s0 : L c = c >>> 1 := L_even c (hb 0 (by omega))
  rw [s0, s 1 (by omega), s 2 (by omega), s 3 (by omega), s 4 (by omega), s 5 (by omega), s 6 (by omega), s 7 (by omega)]

theorem L8_split (c : BitVec 32) : L8 c = L8 (c &&& 255#32) ^^^ (c >>> 8) := by
  have e : c = (c &&& 255#32) ^^^ (c &&& ~~~255#32) := by
    apply BitVec.eq_of_getLsbD_eq
    intro i hi
    simp only [BitVec.getLsbD_xor, BitVec.getLsbD_and, BitVec.getLsbD_not, hi, decide_true, Bool.true_and]
    cases c.getLsbD i <;> cases (255#32).getLsbD i <;> rfl
  have hz : (c &&& ~~~255#32) &&& 255#32 = 0#32 := by
    rw [BitVec.and_assoc]
    have : (~~~255#32) &&& 255#32 = 0#32 := by decide
    rw [this]; simp
  have hs : (c &&& ~~~255#32) >>> 8 = c >>> 8 := by
    apply BitVec.eq_of_getLsbD_eq
    intro i hi
    simp only [BitVec.getLsbD_ushiftRight, BitVec.getLsbD_and]
    by_cases h : 8 + i < 32
    · have : ∀ j : Fin 32, 8 ≤ j.val → (~~~255#32).getLsbD j.val = true := by decide
      rw [this ⟨8 + i, h⟩ (by simp)]; simp
    · rw [BitVec.getLsbD_of_ge c _ (by omega)]; simp
  conv => lhs; rw [e]
  rw [L8_xor, L8_high _ hz, hs]

/-- The register behind one byte. -/
def step (c : BitVec 32) (x : UInt8) : BitVec 32 := L8 (c ^^^ BitVec.ofNat 32 x.toNat)

/-- As the program's table has it. -/
theorem step_table (c : BitVec 32) (x : UInt8) :
    step c x = L8 (BitVec.ofNat 32 (c.toNat % 256 ^^^ x.toNat)) ^^^ (c >>> 8) := by
  unfold step
  rw [L8_split]
  have hx : x.toNat < 256 := x.toNat_lt
  congr 1
  · congr 1
    apply BitVec.eq_of_toNat_eq
    simp only [BitVec.toNat_and, BitVec.toNat_xor, BitVec.toNat_ofNat]
    have h1 : x.toNat % 2 ^ 32 = x.toNat := Nat.mod_eq_of_lt (by omega)
    have h2 : c.toNat % 256 ^^^ x.toNat < 256 := Nat.xor_lt_two_pow (n := 8) (Nat.mod_lt _ (by omega)) hx
    have h3 : (c.toNat % 256 ^^^ x.toNat) % 2 ^ 32 = c.toNat % 256 ^^^ x.toNat := Nat.mod_eq_of_lt (by omega)
    rw [h1, h3]
    have h255 : 255 % 2 ^ 32 = 2 ^ 8 - 1 := by decide
    rw [h255, Nat.and_two_pow_sub_one_eq_mod, Nat.xor_mod_two_pow, Nat.mod_eq_of_lt (a := x.toNat) (b := 2 ^ 8) hx]
  · apply BitVec.eq_of_getLsbD_eq
    intro i hi
    simp only [BitVec.getLsbD_ushiftRight, BitVec.getLsbD_xor]
    have : (BitVec.ofNat 32 x.toNat).getLsbD (8 + i) = false := by
      rw [BitVec.getLsbD_ofNat]
      have : x.toNat.testBit (8 + i) = false := Nat.testBit_lt_two_pow (Nat.lt_of_lt_of_le hx (by
        have : 2 ^ 8 ≤ 2 ^ (8 + i) := Nat.pow_le_pow_right (by omega) (by omega)
        simpa using this))
      simp [this]
    rw [this]; simp

def run (c : BitVec 32) (l : List UInt8) : BitVec 32 := l.foldl step c

theorem run_append (c : BitVec 32) (l m : List UInt8) : run c (l ++ m) = run (run c l) m := by simp [run]

theorem step_inj (a b : BitVec 32) (x : UInt8) (h : step a x = step b x) : a = b := by
  have := L8_inj _ _ h
  have := congrArg (fun z => z ^^^ BitVec.ofNat 32 x.toNat) this
  simpa [BitVec.xor_assoc] using this

theorem step_byte_inj (c : BitVec 32) (x y : UInt8) (h : step c x = step c y) : x = y := by
  have h1 := L8_inj _ _ h
  have h2 := congrArg (fun z => c ^^^ z) h1
  simp only [← BitVec.xor_assoc, BitVec.xor_self, BitVec.zero_xor] at h2
  have h3 := congrArg BitVec.toNat h2
  simp only [BitVec.toNat_ofNat] at h3
  have hx := x.toNat_lt
  have hy := y.toNat_lt
  apply UInt8.toNat.inj
  rw [Nat.mod_eq_of_lt (by omega), Nat.mod_eq_of_lt (by omega)] at h3
  exact h3

theorem run_inj (l : List UInt8) : ∀ a b, run a l = run b l → a = b := by
  induction l with
  | nil => intro a b h; exact h
  | cons x l ih => intro a b h; exact step_inj _ _ x (ih _ _ h)

/-- CRC-32 of bytes behind bytes whose sum is s. -/
def more (s : BitVec 32) (l : List UInt8) : BitVec 32 := ~~~ run (~~~ s) l
def sum (l : List UInt8) : BitVec 32 := more 0#32 l

theorem more_sum (l m : List UInt8) : more (sum l) m = sum (l ++ m) := by
  simp [sum, more, run_append]

/-- With one byte another one the sum is another one. -/
theorem sum_ne (l : List UInt8) (i : Nat) (hi : i < l.length) (x : UInt8) (h : sum (l.set i x) = sum l) : x = l[i] := by
  have e1 : l = l.take i ++ l[i] :: l.drop (i + 1) := by simp
  have e2 : l.set i x = l.take i ++ x :: l.drop (i + 1) := by
    rw [List.set_eq_take_append_cons_drop, if_pos hi]
  rw [e2] at h
  conv at h => rhs; rw [e1]
  unfold sum more at h
  have h' : run (~~~0#32) (l.take i ++ x :: l.drop (i + 1)) = run (~~~0#32) (l.take i ++ l[i] :: l.drop (i + 1)) := by
    have := congrArg (fun z => ~~~ z) h
    simpa using this
  rw [run_append, run_append] at h'
  have h2 := run_inj _ _ _ (show run (step (run (~~~0#32) (l.take i)) x) (l.drop (i + 1)) = run (step (run (~~~0#32) (l.take i)) l[i]) (l.drop (i + 1)) from h')
  exact step_byte_inj _ _ _ h2

/-! ### The long division -/

/-- One bit of a byte, at its place. -/
def eb (b : Bool) (i : Nat) : BitVec 32 := if b then 1#32 <<< i else 0#32

theorem L_eb1 (b : Bool) : L (eb b 1) = eb b 0 := by cases b <;> decide
theorem L_eb2 (b : Bool) : L (eb b 2) = eb b 1 := by cases b <;> decide
theorem L_eb3 (b : Bool) : L (eb b 3) = eb b 2 := by cases b <;> decide
theorem L_eb4 (b : Bool) : L (eb b 4) = eb b 3 := by cases b <;> decide
theorem L_eb5 (b : Bool) : L (eb b 5) = eb b 4 := by cases b <;> decide
theorem L_eb6 (b : Bool) : L (eb b 6) = eb b 5 := by cases b <;> decide
theorem L_eb7 (b : Bool) : L (eb b 7) = eb b 6 := by cases b <;> decide

def feed (c : BitVec 32) (b : Bool) : BitVec 32 := L (c ^^^ eb b 0)

theorem feed8 (c : BitVec 32) (b0 b1 b2 b3 b4 b5 b6 b7 : Bool) :
    feed (feed (feed (feed (feed (feed (feed (feed c b0) b1) b2) b3) b4) b5) b6) b7 =
      L8 (c ^^^ (eb b0 0 ^^^ (eb b1 1 ^^^ (eb b2 2 ^^^ (eb b3 3 ^^^ (eb b4 4 ^^^ (eb b5 5 ^^^ (eb b6 6 ^^^ eb b7 7)))))))) := by
  simp only [feed, L8, L_xor, L_eb1, L_eb2, L_eb3, L_eb4, L_eb5, L_eb6, L_eb7, BitVec.xor_assoc]

theorem byte_bits (x : UInt8) : BitVec.ofNat 32 x.toNat =
    eb (x.toNat.testBit 0) 0 ^^^ (eb (x.toNat.testBit 1) 1 ^^^ (eb (x.toNat.testBit 2) 2 ^^^ (eb (x.toNat.testBit 3) 3 ^^^ (eb (x.toNat.testBit 4) 4 ^^^ (eb (x.toNat.testBit 5) 5 ^^^ (eb (x.toNat.testBit 6) 6 ^^^ eb (x.toNat.testBit 7) 7)))))) := by
  have h : ∀ n : Fin 256, BitVec.ofNat 32 n.val =
    eb (n.val.testBit 0) 0 ^^^ (eb (n.val.testBit 1) 1 ^^^ (eb (n.val.testBit 2) 2 ^^^ (eb (n.val.testBit 3) 3 ^^^ (eb (n.val.testBit 4) 4 ^^^ (eb (n.val.testBit 5) 5 ^^^ (eb (n.val.testBit 6) 6 ^^^ eb (n.val.testBit 7) 7)))))) := by decide +kernel
  exact h ⟨x.toNat, x.toNat_lt⟩

/-- Bit j of a message, each byte's lowest one first. -/
def mbit (l : List UInt8) (j : Nat) : Bool := (l.getD (j / 8) 0).toNat.testBit (j % 8)

theorem mbit_past (l : List UInt8) (j : Nat) (h : 8 * l.length ≤ j) : mbit l j = false := by
  unfold mbit
  have : l.getD (j / 8) 0 = 0 := by
    rw [List.getD_eq_getElem?_getD, List.getElem?_eq_none (by omega)]; rfl
  rw [this]
  simp

/-- The register behind i bits. -/
def reg (l : List UInt8) : Nat → BitVec 32
  | 0 => ~~~0#32
  | i + 1 => feed (reg l i) (mbit l i)

theorem mbit_at (l : List UInt8) (n k : Nat) (hk : k < 8) (hn : n < l.length) : mbit l (8 * n + k) = l[n].toNat.testBit k := by
  unfold mbit
  have h1 : (8 * n + k) / 8 = n := by omega
  have h2 : (8 * n + k) % 8 = k := by omega
  rw [h1, h2, List.getD_eq_getElem?_getD, List.getElem?_eq_getElem hn]; rfl

theorem reg_run (l : List UInt8) (n : Nat) (hn : n ≤ l.length) : reg l (8 * n) = run (~~~0#32) (l.take n) := by
  induction n with
  | zero => simp [reg, run]
  | succ n ih =>
    have hl : n < l.length := by omega
    have e : 8 * (n + 1) = 8 * n + 7 + 1 := by omega
    rw [List.take_succ_eq_append_getElem hl, run_append, ← ih (by omega), e]
    show feed (feed (feed (feed (feed (feed (feed (feed (reg l (8 * n)) (mbit l (8 * n + 0))) (mbit l (8 * n + 1))) (mbit l (8 * n + 2))) (mbit l (8 * n + 3))) (mbit l (8 * n + 4))) (mbit l (8 * n + 5))) (mbit l (8 * n + 6))) (mbit l (8 * n + 7)) = _
    rw [feed8]
    rw [mbit_at l n 0 (by omega) hl, mbit_at l n 1 (by omega) hl, mbit_at l n 2 (by omega) hl, mbit_at l n 3 (by omega) hl, mbit_at l n 4 (by omega) hl, mbit_at l n 5 (by omega) hl, mbit_at l n 6 (by omega) hl, mbit_at l n 7 (by omega) hl, ← byte_bits]
    rfl

/-- The polynomial's powers below the highest one. -/
def divs : List Nat := [26, 23, 22, 16, 12, 11, 10, 8, 7, 5, 4, 2, 1, 0]
def dv (p : Nat) : Bool := divs.contains p

theorem poly_dv (k : Nat) (hk : k < 32) : (0xedb88320#32).getLsbD k = dv (31 - k) := by
  have h : ∀ j : Fin 32, (0xedb88320#32).getLsbD j.val = dv (31 - j.val) := by decide
  exact h ⟨k, hk⟩

/-- The row of bits behind i steps of the division, from place i on. -/
def bit (l : List UInt8) (i j : Nat) : Bool := (reg l i).getLsbD (j - i) ^^ mbit l j

theorem bit_start (l : List UInt8) (j : Nat) : bit l 0 j = if j < 32 then !mbit l j else mbit l j := by
  unfold bit reg
  by_cases h : j < 32
  · have h1 : (~~~0#32).getLsbD (j - 0) = true := by
      have : ∀ k : Fin 32, (~~~0#32).getLsbD (k.val - 0) = true := by decide
      exact this ⟨j, h⟩
    rw [h1, if_pos h]; simp
  · rw [BitVec.getLsbD_of_ge _ _ (by omega), if_neg h]; simp

theorem feed_bit (c : BitVec 32) (b : Bool) (k : Nat) : (feed c b).getLsbD k = (c.getLsbD (k + 1) ^^ ((c.getLsbD 0 ^^ b) && (0xedb88320#32).getLsbD k)) := by
  unfold feed
  rw [L_getLsbD, BitVec.getLsbD_xor, BitVec.getLsbD_xor]
  have h0 : (eb b 0).getLsbD 0 = b := by cases b <;> decide
  have h1 : (eb b 0).getLsbD (k + 1) = false := by cases b <;> simp [eb]
  rw [h0, h1]; simp

/-- A step of the division. -/
theorem bit_step (l : List UInt8) (i j : Nat) (hj : i < j) :
    bit l (i + 1) j = if bit l i i && decide (j ≤ i + 32) then bit l i j ^^ dv (32 - (j - i)) else bit l i j := by
  unfold bit
  rw [show reg l (i + 1) = feed (reg l i) (mbit l i) from rfl, feed_bit]
  have e1 : j - (i + 1) + 1 = j - i := by omega
  rw [e1, Nat.sub_self]
  by_cases h : j ≤ i + 32
  · rw [poly_dv _ (by omega), show 31 - (j - (i + 1)) = 32 - (j - i) by omega]
    simp only [h, decide_true, Bool.and_true]
    cases (reg l i).getLsbD 0 <;> cases mbit l i <;> cases (reg l i).getLsbD (j - i) <;> cases mbit l j <;> cases dv (32 - (j - i)) <;> rfl
  · rw [BitVec.getLsbD_of_ge (0xedb88320#32) _ (by omega)]
    simp [h]

/-- What is left. -/
theorem bit_end (l : List UInt8) (k : Nat) (hk : k < 32) : (!bit l (8 * l.length) (8 * l.length + k)) = (sum l).getLsbD k := by
  unfold bit sum more
  rw [mbit_past l _ (by omega), reg_run l _ (Nat.le_refl _), List.take_length, show 8 * l.length + k - 8 * l.length = k by omega]
  simp [hk]

theorem sum_bit (s : BitVec 32) (k : Nat) : s.toNat / 2 ^ k = 2 * (s.toNat / 2 ^ (k + 1)) + (s.getLsbD k).toNat := by
  have h : s.getLsbD k = s.toNat.testBit k := rfl
  rw [h, Nat.testBit_eq_decide_div_mod_eq, Nat.pow_succ, ← Nat.div_div_eq_div_mul]
  have := Nat.div_add_mod (s.toNat / 2 ^ k) 2
  by_cases h1 : s.toNat / 2 ^ k % 2 = 1
  · simp [h1]; omega
  · simp [h1]; omega

end CrcM

namespace Go.Proofs.Ytdlbjllgdikadaa
open Go.RowKit

theorem ret_int {k : IntKind} {a b : Int} (h : a = b) : Ending.returned (.int k a) = .returned (.int k b) := by rw [h]
theorem ret_bool {a b : Bool} (h : a = b) : Ending.returned (.bool a) = .returned (.bool b) := by rw [h]

/-- A number, however great, as a place among n. -/
theorem idx_mod (x m : Int) (n : Nat) (hm : m = (n : Int)) (hn : 0 < n) : ∃ k : Nat, (IntKind.u64.wrap x).tmod m = (k : Int) ∧ k < n := by
  subst hm
  have h0 : 0 ≤ IntKind.u64.wrap x := by rw [IntKind.wrap_u64]; exact Int.emod_nonneg _ (by decide)
  obtain ⟨y, hy⟩ := Int.eq_ofNat_of_zero_le h0
  rw [hy]
  exact ⟨y % n, rfl, Nat.mod_lt _ hn⟩

def bval (b : UInt8) : Value := .int .u8 (b.toNat : Int)
def bvals (l : List UInt8) : List Value := l.map bval

theorem bvals_length (l : List UInt8) : (bvals l).length = l.length := by simp [bvals]
theorem bvals_get (l : List UInt8) (i : Nat) (u : Value) (h : (bvals l)[i]? = some u) : ∃ hi : i < l.length, u = .int .u8 (l[i].toNat : Int) := by
  simp only [bvals, List.getElem?_map] at h
  cases hq : l[i]? with
  | none => simp [hq] at h
  | some x =>
    rw [hq] at h
    obtain ⟨hi, rfl⟩ := List.getElem?_eq_some_iff.1 hq
    exact ⟨hi, by simpa [bval] using h.symm⟩
theorem bvals_one (l : List UInt8) : ∀ u ∈ bvals l, u.oneCell' = true := by
  intro u hu
  simp only [bvals, List.mem_map] at hu
  obtain ⟨x, _, rfl⟩ := hu
  rfl

/-- A slice's first cells hold bytes. -/
def IsBytes (w : World) (a : Option Addr) (l : List UInt8) : Prop :=
  ∀ i (h : i < l.length), ∃ b off, a = some ⟨b, off, none⟩ ∧ w.cell? ⟨b, off + i, none⟩ = some (.int .u8 (l[i].toNat : Int))

theorem IsBytes.nil (w : World) (a : Option Addr) : IsBytes w a [] := fun i h => absurd h (Nat.not_lt_zero i)

theorem IsBytes.lt {w : World} {a : Option Addr} {l : List UInt8} (h : IsBytes w a l) {b off : Nat} (ha : a = some ⟨b, off, none⟩) (hl : 0 < l.length) : b < w.heap.size := by
  obtain ⟨b', off', e, hc⟩ := h 0 hl
  rw [ha] at e
  cases e
  exact World.block_lt_of_cell? w _ hc

theorem IsBytes.later {w w' : World} {a : Option Addr} {l : List UInt8} (h : IsBytes w a l) (hb : Below w.heap.size w w') : IsBytes w' a l := by
  intro i hi
  obtain ⟨b, off, e, hc⟩ := h i hi
  exact ⟨b, off, e, (hb.cell (p := ⟨b, off + i, none⟩) (World.block_lt_of_cell? w _ hc)).trans hc⟩

theorem IsBytes.alloc {w : World} {a : Option Addr} {l : List UInt8} (h : IsBytes w a l) (o : Obj) : IsBytes (w.alloc o) a l :=
  h.later ((Below.refl _ _).alloc (Nat.le_refl _) o)

theorem IsBytes.cell {w : World} {b off : Nat} {l : List UInt8} (h : IsBytes w (some ⟨b, off, none⟩) l) (i : Nat) (hi : i < l.length) :
    w.cell? ⟨b, off + i, none⟩ = some (.int .u8 (l[i].toNat : Int)) := by
  obtain ⟨b', off', e, hc⟩ := h i hi
  cases e
  exact hc

theorem IsBytes.cells {w : World} {ad : Addr} {l : List UInt8} (h : IsBytes w (some ad) l) : ∀ j u, (bvals l)[j]? = some u → w.cell? (ad.add j) = some u := by
  intro j u hu
  obtain ⟨hi, rfl⟩ := bvals_get l j u hu
  obtain ⟨b, off, e, hc⟩ := h j hi
  cases e
  rw [Addr.add_lit]
  exact hc

theorem IsBytes.take {w : World} {a : Option Addr} {l : List UInt8} (h : IsBytes w a l) (n : Nat) : IsBytes w a (l.take n) := by
  intro i hi
  have hi' : i < l.length := by rw [List.length_take] at hi; omega
  obtain ⟨b, off, e, hc⟩ := h i hi'
  exact ⟨b, off, e, by rw [List.getElem_take]; exact hc⟩

/-- 'x[n:]'. -/
theorem IsBytes.drop {w : World} {a : Option Addr} {l : List UInt8} (h : IsBytes w a l) (n cap : Nat) (hc : l.length ≤ cap) : IsBytes w (if cap = n then a else a.map (·.add n)) (l.drop n) := by
  intro i hi
  rw [List.length_drop] at hi
  obtain ⟨b, off, e, hcell⟩ := h (n + i) (by omega)
  rw [if_neg (by omega), e]
  exact ⟨b, off + n, by simp [Addr.add_lit], by rw [List.getElem_drop, Nat.add_assoc]; exact hcell⟩

/-- A slice of bytes that the call itself made (in blocks from 'base' on). -/
def OwnB (w : World) (base : Nat) (v : Value) (l : List UInt8) : Prop := w.ownsRow base 5 1 v l.length (bvals l)

theorem OwnB.slice {w : World} {base : Nat} {v : Value} {l : List UInt8} (h : OwnB w base v l) :
    ∃ a cap, v = .slice a l.length cap ∧ IsBytes w a l ∧ l.length ≤ cap ∧ cap ≤ maxLen ∧ (∀ x, a = some x → ∃ g, x = ⟨g, 0, none⟩ ∧ base ≤ g ∧ g < w.heap.size) ∧ (a = none → l = [] ∧ cap = 0) := by
  rcases h.2 with ⟨rfl, hn⟩ | ⟨g, cap, cur, rfl, hb, hg, hnc, hcm, hcs, htake⟩
  · have : l = [] := List.length_eq_zero_iff.1 hn
    subst this
    exact ⟨none, 0, rfl, IsBytes.nil _ _, Nat.zero_le _, Nat.zero_le _, fun x hx => by (cases hx), fun _ => ⟨rfl, rfl⟩⟩
  · refine ⟨some ⟨g, 0, none⟩, cap, rfl, ?_, hnc, hcm, fun x hx => ⟨g, by cases hx; rfl, hb, (Array.getElem?_eq_some_iff.1 hg).1⟩, fun hx => by cases hx⟩
    intro i hi
    refine ⟨g, 0, rfl, ?_⟩
    rw [Nat.zero_add, World.ownsRow.cellAt h i (by omega)]
    simp [bvals, bval, hi]

theorem OwnB.later {w w' : World} {base : Nat} {v : Value} {l : List UInt8} (h : OwnB w base v l) (hb : Below w.heap.size w w') : OwnB w' base v l := by
  refine ⟨h.1, ?_⟩
  rcases h.2 with hn | ⟨g, cap, cur, rfl, hbg, hg, rest⟩
  · exact .inl hn
  · exact .inr ⟨g, cap, cur, rfl, hbg, (hb.block g (Array.getElem?_eq_some_iff.1 hg).1).trans hg, rest⟩

theorem OwnB.mono {w : World} {base base' : Nat} {v : Value} {l : List UInt8} (h : OwnB w base v l) (hb : base' ≤ base) : OwnB w base' v l := by
  refine ⟨h.1, ?_⟩
  rcases h.2 with hn | ⟨g, cap, cur, rfl, hbg, rest⟩
  · exact .inl hn
  · exact .inr ⟨g, cap, cur, rfl, Nat.le_trans hb hbg, rest⟩

theorem OwnB.blk {w : World} {base : Nat} {v : Value} {l : List UInt8} (h : OwnB w base v l) : ∀ k, v.ownBlock = some k → base ≤ k := fun k hk => (World.ownsRow.lt h k hk).1

/-- What a contract leaves, handed on: a callee's frame over the caller's. -/
theorem below_call {B : Nat} {w w1 w2 : World} (h : Below B w w1) (hB : B ≤ w.heap.size) (k : Below w1.heap.size w1 w2) : Below B w w2 :=
  h.trans (k.mono (Nat.le_trans hB h.size))

theorem OwnB.stored {w : World} {base g n cap : Nat} {l : List UInt8} (h : OwnB w base (.slice (some ⟨g, 0, none⟩) n cap) l) (hn : n = l.length) (i : Nat) (x : UInt8) :
    OwnB (w.setCell ⟨g, i, none⟩ (.int .u8 (x.toNat : Int))) base (.slice (some ⟨g, 0, none⟩) n cap) (l.set i x) := by
  subst hn
  have h2 := (World.ownsRow.stored h i (.int .u8 (x.toNat : Int))).1
  unfold OwnB
  rw [List.length_set]
  have e : bvals (l.set i x) = (bvals l).set i (.int .u8 (x.toNat : Int)) := by simp [bvals, bval, List.map_set]
  rw [e]
  exact h2

theorem OwnB.bytes {w : World} {base n cap : Nat} {a : Option Addr} {l : List UInt8} (h : OwnB w base (.slice a n cap) l) : IsBytes w a l := by
  obtain ⟨a2, c2, e, hb, _⟩ := h.slice
  cases e
  exact hb

theorem OwnB.free {w : World} {base g n cap : Nat} {l : List UInt8} (h : OwnB w base (.slice (some ⟨g, 0, none⟩) n cap) l) (hn : n = l.length) (i : Nat) : w.frozen? ⟨g, i, none⟩ = false := by
  subst hn
  exact World.ownsRow.frozenAt h i

theorem OwnB.nil (w : World) (base : Nat) : OwnB w base (.slice none 0 0) [] := World.ownsRow_nil w base 5 1

theorem info5 : (Try.prog.info? 5).map (fun i => (i.zero, i.size, i.bytes)) = some (some (.int .u8 0), 1, 1) := by kernel_rfl

/-- 'append(v, x...)', v the call's own, x whatever reads as bytes. -/
theorem wpList_append_bytes {w : World} {ops : Array Oper} {rest : List Oper} {o : Oper} {a : Act} {Q : Exit → Act → World → Prop} (hgd : o.guard = none) (s x : Operand)
    (ho : o.op = .call { callee := .builtin .append, args := #[s, x], argTypes := #[22, 22] })
    (base : Nat) (v : Value) (l : List UInt8) (hs : a.eval s = v) (hown : OwnB w base v l)
    (ao : Option Addr) (m c : Nat) (src : List UInt8) (hx : a.eval x = .slice ao m c) (hm : m = src.length) (hnone : ao = none → m = 0 ∧ c = 0) (hsrc : IsBytes w ao src)
    (hlen : l.length + src.length ≤ 140737488355328) (hbase : base ≤ w.heap.size)
    (h : ∀ v' w', OwnB w' base v' (l ++ src) → w.grownBy w' v.ownBlock → wpList Try.prog ops Q rest (a.put o.dst v') w') : wpList Try.prog ops Q (o :: rest) a w := by
  obtain ⟨i0, hi, hz0, hz1, hz2⟩ := info_parts info5
  cases ao with
  | none =>
    obtain ⟨hm0, hc0⟩ := hnone rfl
    have hs0 : src = [] := List.length_eq_zero_iff.1 (by omega)
    subst hs0
    subst hc0
    subst hm0
    exact wpList_append_own_none hgd s x 22 ho base 5 i0 1 Try.underlying22 hi v l.length (bvals l) hs hown hx
      (h v w (by simpa using hown) ⟨rfl, rfl, rfl, Nat.le_refl _, fun _ _ _ => rfl⟩)
  | some ad =>
    subst hm
    refine wpList_append_own w hgd s x 22 ho base 5 i0 (.int .u8 0) 1 1 Try.underlying22 hi hz0 hz1 hz2 rfl (by decide) v l.length (bvals l) hs hown ad src.length c (bvals src) hx (by rw [bvals_length]; omega)
      hsrc.cells (bvals_one src) (by unfold maxLen; omega) (by omega) hbase ?_
    intro v' w' h1 h2 _
    exact h v' w' (by unfold OwnB; simpa [bvals] using h1) h2

/-- 'append(x, y...)', x whatever reads as bytes, without room. -/
theorem wpList_append_full {w : World} {ops : Array Oper} {rest : List Oper} {o : Oper} {a : Act} {Q : Exit → Act → World → Prop} (hgd : o.guard = none) (s x : Operand)
    (ho : o.op = .call { callee := .builtin .append, args := #[s, x], argTypes := #[22, 22] })
    (ao : Option Addr) (n cap : Nat) (l : List UInt8) (hs : a.eval s = .slice ao n cap) (hn : n = l.length) (hnone : ao = none → n = 0 ∧ cap = 0) (hl : IsBytes w ao l)
    (ad : Addr) (m c : Nat) (src : List UInt8) (hx : a.eval x = .slice (some ad) m c) (hm : m = src.length) (hsrc : IsBytes w (some ad) src)
    (hfull : cap < n + m) (hlen : l.length + src.length ≤ 140737488355328)
    (h : ∀ v' w', OwnB w' w.heap.size v' (l ++ src) → w.grownBy w' none → wpList Try.prog ops Q rest (a.put o.dst v') w') : wpList Try.prog ops Q (o :: rest) a w := by
  obtain ⟨i0, hi, hz0, hz1, hz2⟩ := info_parts info5
  subst hn
  subst hm
  refine wpList_append_grows w hgd s x 22 ho 5 i0 (.int .u8 0) 1 1 Try.underlying22 hi hz0 hz1 hz2 rfl (by decide) ao l.length cap (bvals l) hs hnone (by rw [bvals_length]; omega)
    (fun b hb => by subst hb; exact hl.cells) ad src.length c (bvals src) hx (by rw [bvals_length]; omega) hsrc.cells (bvals_one src) hfull (by unfold maxLen; omega) (by omega) ?_
  intro v' w' h1 h2
  exact h v' w' (by unfold OwnB; simpa [bvals] using h1) h2

/-- A block of bytes that has just been laid. -/
theorem IsBytes.made {w : World} {cs : Array Value} {t : TypeId} {l : List UInt8} (h : cs = (bvals l).toArray) : IsBytes (w.alloc (.cells cs t)) (some ⟨w.heap.size, 0, none⟩) l := by
  intro i hi
  refine ⟨w.heap.size, 0, rfl, ?_⟩
  rw [Nat.zero_add, World.cell?_alloc_new, h]
  simp [bvals, bval, hi]

/-- '[]byte("..")' of a constant. -/
@[go_sem] theorem kc22 (w : World) (C : Array Value) (n c : Nat) :
    (convert 22 22 (.slice (some ⟨w.heap.size, 0, none⟩) n c)).run Try.prog (w.alloc (.cells C 5)) = .ok (.slice (some ⟨w.heap.size, 0, none⟩) n c) (w.alloc (.cells C 5 (C.size, C.size + 1))) :=
  Lib.run_convert_bytes_const (P := Try.prog) w 22 5 C n c Try.underlying22 Try.underlying5

theorem IsBytes.marked {w : World} {cs : Array Value} {t : TypeId} {fr : Nat × Nat} {l : List UInt8} (h : cs = (bvals l).toArray) : IsBytes (w.alloc (.cells cs t fr)) (some ⟨w.heap.size, 0, none⟩) l := by
  intro i hi
  refine ⟨w.heap.size, 0, rfl, ?_⟩
  rw [Nat.zero_add, World.cell?_alloc_mark, h]
  simp [bvals, bval, hi]

/-- 'string(x)'. -/
theorem conv_text {w : World} {a : Option Addr} {n cap : Nat} {l : List UInt8} (h : IsBytes w a l) (hn : n = l.length) :
    (convert 22 9 (.slice a n cap)).run Try.prog w = .ok (.string ⟨l.toArray⟩) w := by
  subst hn
  cases a with
  | some ad =>
    exact run_convert_bytes_back (P := Try.prog) w 22 9 5 ad cap l Try.underlying22 Try.underlying5 Try.underlying9 (fun j hj => by
      obtain ⟨b, off, e, hc⟩ := h j hj
      cases e
      rw [Addr.add_lit]; exact hc)
  | none =>
    have hl : l = [] := by
      cases l with
      | nil => rfl
      | cons x r => obtain ⟨b, off, e, _⟩ := h 0 (by simp); cases e
    subst hl
    exact run_convert_bytes_nil (P := Try.prog) w 22 5 Try.underlying22 Try.underlying5 0 cap 9 Try.underlying9

end Go.Proofs.Ytdlbjllgdikadaa

namespace Go.Proofs.Ytdlbjllgdikadaa
open Go.RowKit

/-- A world that meets S: a type of its own, so that the walk's rules do not take it apart. -/
structure SW (S : World → Prop) where
  W : World
  h : S W

/-- An operation that yields a value, or halts: no call of a Go function, no store. -/
def valueOp : Op → Bool
  | .move _ | .assign _ | .pick .. | .load .. | .nilCheck _ | .binOp .. | .unOp .. | .convert .. | .slice .. | .fieldAddr .. | .field .. | .indexAddr .. | .index .. | .extract .. | .lookup .. | .makeInterface .. | .makeFunc .. => true
  | .call c => match c.callee with
    | .builtin .len => true
    | _ => false
  | _ => false

theorem run_v {P : Program} {s : Sem Value} {w w' : World} {n : Next} (h : (do pure (Next.value (← s)) : Sem Next).run P w = .ok n w') : ∃ x, n = .value x := by
  rw [Sem.run_bind] at h
  cases hs : s.run P w with
  | ok x w1 =>
    rw [hs] at h
    simp only [Result.andThen] at h
    cases h
    exact ⟨x, rfl⟩
  | halt x w1 =>
    rw [hs] at h
    simp [Result.andThen] at h

theorem run_bind_ok {P : Program} {α β : Type} {s : Sem α} {f : α → Sem β} {w w' : World} {n : β} {R : Prop} (h : (s >>= f).run P w = .ok n w') (k : ∀ a w1, (f a).run P w1 = .ok n w' → R) : R := by
  rw [Sem.run_bind] at h
  cases hs : s.run P w with
  | ok x w1 => rw [hs] at h; exact k x w1 h
  | halt x w1 => rw [hs] at h; simp [Result.andThen] at h

theorem valueOp_run {P : Program} {ev : Operand → Value} {o : Oper} {w w' : World} {n : Next} (hv : valueOp o.op = true) (h : (execOp ev o).run P w = .ok n w') : ∃ x, n = .value x := by
  unfold execOp at h
  cases ho : o.op <;> rw [ho] at hv h <;> simp only [valueOp, Bool.false_eq_true] at hv <;> simp only [] at h
  case move => simp only [Sem.run_pure] at h; cases h; exact ⟨_, rfl⟩
  case assign => simp only [Sem.run_pure] at h; cases h; exact ⟨_, rfl⟩
  case pick c a b =>
    rw [Sem.run_bind] at h
    cases hs : (asBool (ev c)).run P w with
    | ok x w1 =>
      rw [hs] at h
      simp only [Result.andThen] at h
      cases x <;> simp at h <;> exact ⟨_, h.1.symm⟩
    | halt x w1 => rw [hs] at h; simp [Result.andThen] at h
  case nilCheck x =>
    have hp : ∀ {β : Type} (w w' : World) (b : β), (runtimePanic RuntimeError.nilDeref : Sem β).run P w ≠ .ok b w' := by
      intro β w w' b h
      simp [runtimePanic, goPanic] at h
    split at h
    · exact absurd h (hp _ _ _)
    · exact absurd h (hp _ _ _)
    · exact absurd h (hp _ _ _)
    · split at h
      · exact absurd h (hp _ _ _)
      · refine run_bind_ok h fun _ _ h => ?_
        refine run_bind_ok h fun _ _ h => ?_
        split at h
        · refine run_bind_ok h fun _ _ h => ?_
          simp only [Sem.run_pure] at h
          cases h
          exact ⟨_, rfl⟩
        · simp only [Sem.run_pure] at h
          cases h
          exact ⟨_, rfl⟩
      · simp only [Sem.run_pure] at h; cases h; exact ⟨_, rfl⟩
    · simp only [Sem.run_pure] at h; cases h; exact ⟨_, rfl⟩
  case call c =>
    obtain ⟨callee, args, ts⟩ := c
    cases callee with
    | builtin b =>
      cases b <;> first
        | (exact run_v (s := Builtin.len_ ts o.type (args.map ev)) h)
        | (exact absurd hv (by simp))
    | value f => exact absurd hv (by simp)
    | invoke r m => exact absurd hv (by simp)
  all_goals exact run_v h

/-- The plan of a region's walk: which operation next; true: it is taken first; false: nothing else may come next. -/
def seqB (md : Region.Mode) (ops : Array Oper) : List (Nat × Bool) → Array Bool → Bool
  | [], listed => (Region.ready md ops listed).isEmpty
  | (k, f) :: r, listed =>
    (if f then (Region.ready md ops listed).contains k && Region.free md ops listed k && ((ops[k]?).map fun o => valueOp o.op).getD false
      else Region.ready md ops listed == [k]) && seqB md ops r (listed.setIfInBounds k true)

/-- The walk by the plan. -/
def wpSeq (P : Program) (ops : Array Oper) (Q : Exit → Act → World → Prop) (S : World → Prop) : List (Nat × Bool) → Act → World → Prop
  | [], a, w => Q .normal a w
  | (k, f) :: r, a, w => match ops[k]? with
    | none => False
    | some o =>
      if Region.wanted o (yielded ops a.tmps) = true then
        if f = true then o.quiet P a (fun W => ∃ x : SW S, W = x.W) (fun a' => wpSeq P ops Q S r a' w)
        else o.wp P a w (fun a' w' => S w' ∧ wpSeq P ops Q S r a' w') Q
      else wpSeq P ops Q S r (a.put o.dst undef) w

section
variable {P : Program} {ops : Array Oper} {Q : Exit → Act → World → Prop} {md : Region.Mode} {S : World → Prop}

theorem yieldsIf_of_quiet {o : Oper} {a : Act} {K : Act → Prop} (hv : valueOp o.op = true) (hwt : Region.wanted o (yielded ops a.tmps) = true)
    (h : o.quiet P a (fun W => ∃ x : SW S, W = x.W) K) : ∃ v, YieldsIf P ops S o v a ∧ K (a.put o.dst v) := by
  obtain ⟨v, h1, h2⟩ := h
  refine ⟨v, .inl ⟨hwt, fun W hW => ?_⟩, h2⟩
  have h3 := h1 W ⟨⟨W, hW⟩, rfl⟩
  unfold Oper.quietAt at h3
  cases hr : (execOp a.eval o).run P W with
  | halt x w' => rw [hr] at h3; exact h3.elim
  | ok n w' =>
    obtain ⟨x, rfl⟩ := valueOp_run hv hr
    rw [hr] at h3
    obtain ⟨e1, e2⟩ := h3
    rw [e1, e2]

theorem wpAnyH_seq (hs : Region.noSelect ops = true) (hQ : ∀ d v c a w, Q (.panic c) (Act.put a d v) w → Q (.panic c) a w) :
    ∀ (l : List (Nat × Bool)) (listed : Array Bool) (a : Act) (w : World), seqB md ops l listed = true → S w →
      wpSeq P ops Q S l a w → wpAnyH P md ops Q S l.length listed a w
  | [], listed, a, w, hB, hS, h => by
    simp only [seqB, List.isEmpty_iff] at hB
    simp only [wpSeq] at h
    exact ⟨hB, h⟩
  | (k, f) :: l, listed, a, w, hB, hS, h => by
    simp only [wpSeq] at h
    cases h0 : ops[k]? with
    | none => rw [h0] at h; exact h.elim
    | some o =>
      rw [h0] at h
      simp only [] at h
      cases f with
      | true =>
        simp only [seqB, if_true, Bool.and_eq_true, h0, Option.map_some, Option.getD_some] at hB
        obtain ⟨⟨⟨hr, hf⟩, hv⟩, hB'⟩ := hB
        split at h
        · rename_i hw
          rw [if_pos rfl] at h
          obtain ⟨v, hy, hK⟩ := yieldsIf_of_quiet hv hw h
          exact wpAnyH_take h0 hs hf hr (hQ _ _) hy hS (wpAnyH_seq hs hQ l _ _ _ hB' hS hK)
        · rename_i hw
          exact wpAnyH_take h0 hs hf hr (hQ _ _) (.inr ⟨by simpa using hw, rfl⟩) hS (wpAnyH_seq hs hQ l _ _ _ hB' hS h)
      | false =>
        simp only [seqB, Bool.false_eq_true, if_false, Bool.and_eq_true, beq_iff_eq] at hB
        obtain ⟨hr, hB'⟩ := hB
        refine wpAnyH_all hr (by simp) fun i hi => ?_
        rw [List.mem_singleton] at hi
        subst hi
        unfold wpOp
        simp only [h0]
        split
        · rename_i hw
          rw [if_pos hw, if_neg (by simp)] at h
          exact .inl (Oper.wp_mono (fun a' w' ⟨h1, h2⟩ => ⟨h1, wpAnyH_seq hs hQ l _ _ _ hB' h1 h2⟩) h)
        · rename_i hw
          rw [if_neg hw] at h
          exact ⟨hS, wpAnyH_seq hs hQ l _ _ _ hB' hS h⟩

/-- THE BEGINNING. -/
theorem wp_region_seq {id : Nat} {l : List Oper} {a : Act} {w : World} (S : World → Prop) (pl : List (Nat × Bool)) (hm : P.follows .mixedOrders = true)
    (hB : (Region.noSelect l.toArray && pl.length == l.length && seqB .any l.toArray pl (Array.replicate l.length false)) = true) (hQ : ∀ d v c a w, Q (.panic c) (Act.put a d v) w → Q (.panic c) a w)
    (hS : S w.drew) (h : wpSeq P l.toArray Q S pl a w.drew) : (Code.region id l.toArray true).wp P Q a w := by
  simp only [Bool.and_eq_true, beq_iff_eq] at hB
  refine wp_region_held_drew (S := S) hm hS fun _ => ?_
  have := wpAnyH_seq (md := .any) hB.1.1 hQ pl (Array.replicate l.length false) a w.drew hB.2 hS h
  simpa [hB.1.2] using this

variable {pl : List (Nat × Bool)} {k : Nat} {o : Oper} {a : Act} {w : World}

theorem wpSeq_skip {f : Bool} (ho : ops[k]? = some o) (hw : Region.wanted o (yielded ops a.tmps) = false) (h : wpSeq P ops Q S pl (a.put o.dst undef) w) : wpSeq P ops Q S ((k, f) :: pl) a w := by
  simp only [wpSeq, ho, hw]; exact h

theorem wpSeq_free (ho : ops[k]? = some o) (hw : Region.wanted o (yielded ops a.tmps) = true)
    (h : ∀ K : Act → Prop, (∀ a, wpSeq P ops Q S pl a w → K a) → o.quiet P a (fun W => ∃ x : SW S, W = x.W) K) : wpSeq P ops Q S ((k, true) :: pl) a w := by
  simp only [wpSeq, ho, hw, if_true]
  exact h _ (fun _ h => h)

theorem wpSeq_next (ho : ops[k]? = some o) (hw : Region.wanted o (yielded ops a.tmps) = true)
    (h : ∀ K : Act → World → Prop, Hid (∀ a w', S w' → wpSeq P ops Q S pl a w' → K a w') → o.wp P a w K Q) : wpSeq P ops Q S ((k, false) :: pl) a w := by
  simp only [wpSeq, ho, hw, if_true]
  exact h _ (show ∀ _ _, _ from fun _ _ h1 h2 => ⟨h1, h2⟩)

theorem wpSeq_nil (h : Q .normal a w) : wpSeq P ops Q S [] a w := by simpa only [wpSeq] using h

end

/-- A plan, made greedily (for reading it off). -/
def planOf (ops : Array Oper) : Nat → Array Bool → List (Nat × Bool)
  | 0, _ => []
  | fuel + 1, listed =>
    let rs := Region.ready .any ops listed
    match rs.find? (fun k => Region.free .any ops listed k && ((ops[k]?).map fun o => valueOp o.op).getD false) with
    | some k => (k, true) :: planOf ops fuel (listed.setIfInBounds k true)
    | none => match rs with
      | [k] => (k, false) :: planOf ops fuel (listed.setIfInBounds k true)
      | _ => []

end Go.Proofs.Ytdlbjllgdikadaa

namespace Go.Proofs.Ytdlbjllgdikadaa
open Go.RowKit

def valueOp2 (o : Op) : Bool := valueOp o || match o with
  | .build .. => true
  | _ => false

theorem valueOp2_run {P : Program} {ev : Operand → Value} {o : Oper} {w w' : World} {n : Next} (hv : valueOp2 o.op = true) (h : (execOp ev o).run P w = .ok n w') : ∃ x, n = .value x := by
  unfold valueOp2 at hv
  rw [Bool.or_eq_true] at hv
  rcases hv with hv | hv
  · exact valueOp_run hv h
  · unfold execOp at h
    cases ho : o.op <;> rw [ho] at hv h <;> simp only [Bool.false_eq_true] at hv <;> simp only [] at h
    exact run_v h

def seqB2 (md : Region.Mode) (ops : Array Oper) : List (Nat × Bool) → Array Bool → Bool
  | [], listed => (Region.ready md ops listed).isEmpty
  | (k, f) :: r, listed =>
    (if f then (Region.ready md ops listed).contains k && Region.free md ops listed k && ((ops[k]?).map fun o => valueOp2 o.op).getD false
      else Region.ready md ops listed == [k]) && seqB2 md ops r (listed.setIfInBounds k true)

section
variable {P : Program} {ops : Array Oper} {Q : Exit → Act → World → Prop} {md : Region.Mode} {S : World → Prop}

theorem yieldsIf_of_quiet2 {o : Oper} {a : Act} {K : Act → Prop} (hv : valueOp2 o.op = true) (hwt : Region.wanted o (yielded ops a.tmps) = true)
    (h : o.quiet P a (fun W => ∃ x : SW S, W = x.W) K) : ∃ v, YieldsIf P ops S o v a ∧ K (a.put o.dst v) := by
  obtain ⟨v, h1, h2⟩ := h
  refine ⟨v, .inl ⟨hwt, fun W hW => ?_⟩, h2⟩
  have h3 := h1 W ⟨⟨W, hW⟩, rfl⟩
  unfold Oper.quietAt at h3
  cases hr : (execOp a.eval o).run P W with
  | halt x w' => rw [hr] at h3; exact h3.elim
  | ok n w' =>
    obtain ⟨x, rfl⟩ := valueOp2_run hv hr
    rw [hr] at h3
    obtain ⟨e1, e2⟩ := h3
    rw [e1, e2]

theorem wpAnyH_seq2 (hs : Region.noSelect ops = true) (hQ : ∀ d v c a w, Q (.panic c) (Act.put a d v) w → Q (.panic c) a w) :
    ∀ (l : List (Nat × Bool)) (listed : Array Bool) (a : Act) (w : World), seqB2 md ops l listed = true → S w →
      wpSeq P ops Q S l a w → wpAnyH P md ops Q S l.length listed a w
  | [], listed, a, w, hB, hS, h => by
    simp only [seqB2, List.isEmpty_iff] at hB
    simp only [wpSeq] at h
    exact ⟨hB, h⟩
  | (k, f) :: l, listed, a, w, hB, hS, h => by
    simp only [wpSeq] at h
    cases h0 : ops[k]? with
    | none => rw [h0] at h; exact h.elim
    | some o =>
      rw [h0] at h
      simp only [] at h
      cases f with
      | true =>
        simp only [seqB2, if_true, Bool.and_eq_true, h0, Option.map_some, Option.getD_some] at hB
        obtain ⟨⟨⟨hr, hf⟩, hv⟩, hB'⟩ := hB
        split at h
        · rename_i hw
          rw [if_pos rfl] at h
          obtain ⟨v, hy, hK⟩ := yieldsIf_of_quiet2 hv hw h
          exact wpAnyH_take h0 hs hf hr (hQ _ _) hy hS (wpAnyH_seq2 hs hQ l _ _ _ hB' hS hK)
        · rename_i hw
          exact wpAnyH_take h0 hs hf hr (hQ _ _) (.inr ⟨by simpa using hw, rfl⟩) hS (wpAnyH_seq2 hs hQ l _ _ _ hB' hS h)
      | false =>
        simp only [seqB2, Bool.false_eq_true, if_false, Bool.and_eq_true, beq_iff_eq] at hB
        obtain ⟨hr, hB'⟩ := hB
        refine wpAnyH_all hr (by simp) fun i hi => ?_
        rw [List.mem_singleton] at hi
        subst hi
        unfold wpOp
        simp only [h0]
        split
        · rename_i hw
          rw [if_pos hw, if_neg (by simp)] at h
          exact .inl (Oper.wp_mono (fun a' w' ⟨h1, h2⟩ => ⟨h1, wpAnyH_seq2 hs hQ l _ _ _ hB' h1 h2⟩) h)
        · rename_i hw
          rw [if_neg hw] at h
          exact ⟨hS, wpAnyH_seq2 hs hQ l _ _ _ hB' hS h⟩

/-- THE BEGINNING. -/
theorem wp_region_seq2 {id : Nat} {l : List Oper} {a : Act} {w : World} (S : World → Prop) (pl : List (Nat × Bool)) (hm : P.follows .mixedOrders = true)
    (hB : (Region.noSelect l.toArray && pl.length == l.length && seqB2 .any l.toArray pl (Array.replicate l.length false)) = true) (hQ : ∀ d v c a w, Q (.panic c) (Act.put a d v) w → Q (.panic c) a w)
    (hS : S w.drew) (h : wpSeq P l.toArray Q S pl a w.drew) : (Code.region id l.toArray true).wp P Q a w := by
  simp only [Bool.and_eq_true, beq_iff_eq] at hB
  refine wp_region_held_drew (S := S) hm hS fun _ => ?_
  have := wpAnyH_seq2 (md := .any) hB.1.1 hQ pl (Array.replicate l.length false) a w.drew hB.2 hS h
  simpa [hB.1.2] using this
end

/-- A plan, made greedily (for reading it off). -/
def planOf2 (ops : Array Oper) : Nat → Array Bool → List (Nat × Bool)
  | 0, _ => []
  | fuel + 1, listed =>
    let rs := Region.ready .any ops listed
    match rs.find? (fun k => Region.free .any ops listed k && ((ops[k]?).map fun o => valueOp2 o.op).getD false) with
    | some k => (k, true) :: planOf2 ops fuel (listed.setIfInBounds k true)
    | none => match rs with
      | [k] => (k, false) :: planOf2 ops fuel (listed.setIfInBounds k true)
      | _ => []

end Go.Proofs.Ytdlbjllgdikadaa

namespace Go.Proofs.Ytdlbjllgdikadaa
open Go.RowKit

def wpSeqM (P : Program) (ops : Array Oper) (Q : Exit → Act → World → Prop) : List (Nat × Bool) → (World → Prop) → Act → World → Prop
  | [], _, a, w => Q .normal a w
  | (k, f) :: r, S, a, w => match ops[k]? with
    | none => False
    | some o =>
      if Region.wanted o (yielded ops a.tmps) = true then
        if f = true then o.quiet P a (fun W => ∃ x : SW S, W = x.W) (fun a' => wpSeqM P ops Q r S a' w)
        else o.wp P a w (fun a' w' => ∃ S' : World → Prop, (∀ W, S' W → S W) ∧ S' w' ∧ wpSeqM P ops Q r S' a' w') Q
      else wpSeqM P ops Q r S (a.put o.dst undef) w

section
variable {P : Program} {ops : Array Oper} {Q : Exit → Act → World → Prop} {md : Region.Mode}

theorem wpAnyH_mono {S S' : World → Prop} (hS : ∀ W, S' W → S W) : ∀ (n : Nat) (listed : Array Bool) (a : Act) (w : World), wpAnyH P md ops Q S' n listed a w → wpAnyH P md ops Q S n listed a w
  | 0, _, _, _, h => h
  | n + 1, _, _, _, h => ⟨h.1, fun i hi => wpOp_mono (fun a' w' h' => ⟨hS _ h'.1, wpAnyH_mono hS n _ a' w' h'.2⟩) (h.2 i hi)⟩

theorem wpAnyH_seqM (hs : Region.noSelect ops = true) (hQ : ∀ d v c a w, Q (.panic c) (Act.put a d v) w → Q (.panic c) a w) :
    ∀ (l : List (Nat × Bool)) (S : World → Prop) (listed : Array Bool) (a : Act) (w : World), seqB2 md ops l listed = true → S w →
      wpSeqM P ops Q l S a w → wpAnyH P md ops Q S l.length listed a w
  | [], S, listed, a, w, hB, hS, h => by
    simp only [seqB2, List.isEmpty_iff] at hB
    simp only [wpSeqM] at h
    exact ⟨hB, h⟩
  | (k, f) :: l, S, listed, a, w, hB, hS, h => by
    simp only [wpSeqM] at h
    cases h0 : ops[k]? with
    | none => rw [h0] at h; exact h.elim
    | some o =>
      rw [h0] at h
      simp only [] at h
      cases f with
      | true =>
        simp only [seqB2, if_true, Bool.and_eq_true, h0, Option.map_some, Option.getD_some] at hB
        obtain ⟨⟨⟨hr, hf⟩, hv⟩, hB'⟩ := hB
        split at h
        · rename_i hw
          rw [if_pos rfl] at h
          obtain ⟨v, hy, hK⟩ := yieldsIf_of_quiet2 hv hw h
          exact wpAnyH_take h0 hs hf hr (hQ _ _) hy hS (wpAnyH_seqM hs hQ l S _ _ _ hB' hS hK)
        · rename_i hw
          exact wpAnyH_take h0 hs hf hr (hQ _ _) (.inr ⟨by simpa using hw, rfl⟩) hS (wpAnyH_seqM hs hQ l S _ _ _ hB' hS h)
      | false =>
        simp only [seqB2, Bool.false_eq_true, if_false, Bool.and_eq_true, beq_iff_eq] at hB
        obtain ⟨hr, hB'⟩ := hB
        refine wpAnyH_all hr (by simp) fun i hi => ?_
        rw [List.mem_singleton] at hi
        subst hi
        unfold wpOp
        simp only [h0]
        split
        · rename_i hw
          rw [if_pos hw, if_neg (by simp)] at h
          exact .inl (Oper.wp_mono (fun a' w' ⟨S', h1, h2, h3⟩ => ⟨h1 _ h2, wpAnyH_mono h1 _ _ _ _ (wpAnyH_seqM hs hQ l S' _ _ _ hB' h2 h3)⟩) h)
        · rename_i hw
          rw [if_neg hw] at h
          exact ⟨hS, wpAnyH_seqM hs hQ l S _ _ _ hB' hS h⟩

/-- THE BEGINNING. -/
theorem wp_region_seqM {id : Nat} {l : List Oper} {a : Act} {w : World} (S : World → Prop) (pl : List (Nat × Bool)) (hm : P.follows .mixedOrders = true)
    (hB : (Region.noSelect l.toArray && pl.length == l.length && seqB2 .any l.toArray pl (Array.replicate l.length false)) = true) (hQ : ∀ d v c a w, Q (.panic c) (Act.put a d v) w → Q (.panic c) a w)
    (hS : S w.drew) (h : wpSeqM P l.toArray Q pl S a w.drew) : (Code.region id l.toArray true).wp P Q a w := by
  simp only [Bool.and_eq_true, beq_iff_eq] at hB
  refine wp_region_held_drew (S := S) hm hS fun _ => ?_
  have := wpAnyH_seqM (md := .any) hB.1.1 hQ pl S (Array.replicate l.length false) a w.drew hB.2 hS h
  simpa [hB.1.2] using this

variable {S : World → Prop} {pl : List (Nat × Bool)} {k : Nat} {o : Oper} {a : Act} {w : World}

theorem wpSeqM_skip {f : Bool} (ho : ops[k]? = some o) (hw : Region.wanted o (yielded ops a.tmps) = false) (h : wpSeqM P ops Q pl S (a.put o.dst undef) w) : wpSeqM P ops Q ((k, f) :: pl) S a w := by
  simp only [wpSeqM, ho, hw]; exact h

theorem wpSeqM_free (ho : ops[k]? = some o) (hw : Region.wanted o (yielded ops a.tmps) = true)
    (h : ∀ K : Act → Prop, (∀ a, wpSeqM P ops Q pl S a w → K a) → o.quiet P a (fun W => ∃ x : SW S, W = x.W) K) : wpSeqM P ops Q ((k, true) :: pl) S a w := by
  simp only [wpSeqM, ho, hw, if_true]
  exact h _ (fun _ h => h)

theorem wpSeqM_next (ho : ops[k]? = some o) (hw : Region.wanted o (yielded ops a.tmps) = true)
    (h : ∀ K : Act → World → Prop, Hid (∀ (S' : World → Prop) a w', (∀ W, S' W → S W) → S' w' → wpSeqM P ops Q pl S' a w' → K a w') → o.wp P a w K Q) : wpSeqM P ops Q ((k, false) :: pl) S a w := by
  simp only [wpSeqM, ho, hw, if_true]
  exact h _ (show ∀ (S' : World → Prop) _ _, _ from fun S' _ _ h0 h1 h2 => ⟨S', h0, h1, h2⟩)

theorem wpSeqM_nil (h : Q .normal a w) : wpSeqM P ops Q [] S a w := by simpa only [wpSeqM] using h
end

end Go.Proofs.Ytdlbjllgdikadaa
