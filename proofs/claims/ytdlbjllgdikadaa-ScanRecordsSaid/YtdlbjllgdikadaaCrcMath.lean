/-! Plain mathematics of CRC-32: the register, its linearity, its injectivity, the long division. No program in sight. -/
namespace CrcM

/-- One bit of the register's way. -/
def L (c : BitVec 32) : BitVec 32 := (c >>> 1) ^^^ (if c.getLsbD 0 then 0xedb88320#32 else 0#32)

def L8 (c : BitVec 32) : BitVec 32 := L (L (L (L (L (L (L (L c)))))))

theorem L_getLsbD (c : BitVec 32) (i : Nat) : (L c).getLsbD i = (c.getLsbD (i + 1) ^^ (c.getLsbD 0 && (0xedb88320#32).getLsbD i)) := by
  unfold L
  cases h : c.getLsbD 0
  · rw [BitVec.getLsbD_xor, if_neg (by simp), BitVec.getLsbD_ushiftRight, Nat.add_comm]; simp
  · rw [BitVec.getLsbD_xor, if_pos rfl, BitVec.getLsbD_ushiftRight, Nat.add_comm]; simp

theorem L_xor (a b : BitVec 32) : L (a ^^^ b) = L a ^^^ L b := by
  apply BitVec.eq_of_getLsbD_eq
  intro i hi
  simp only [BitVec.getLsbD_xor, L_getLsbD]
  cases a.getLsbD 0 <;> cases b.getLsbD 0 <;> cases a.getLsbD (i + 1) <;> cases b.getLsbD (i + 1) <;> simp

theorem L8_xor (a b : BitVec 32) : L8 (a ^^^ b) = L8 a ^^^ L8 b := by
  simp only [L8, L_xor]

theorem L_zero : L 0#32 = 0#32 := by decide

theorem L_even (c : BitVec 32) (h : c.getLsbD 0 = false) : L c = c >>> 1 := by
  unfold L
  rw [h, if_neg (by simp)]; simp

theorem L_eq_zero (d : BitVec 32) (h : L d = 0#32) : d = 0#32 := by
  have h31 : (L d).getLsbD 31 = false := by rw [h]; simp
  rw [L_getLsbD] at h31
  have hp : (0xedb88320#32).getLsbD 31 = true := by decide
  have h32 : d.getLsbD (31 + 1) = false := BitVec.getLsbD_of_ge _ _ (by omega)
  rw [hp, h32] at h31
  have h0 : d.getLsbD 0 = false := by simpa using h31
  apply BitVec.eq_of_getLsbD_eq
  intro i hi
  cases i with
  | zero => simpa using h0
  | succ i =>
    have := congrArg (fun x => x.getLsbD i) h
    simp only [L_getLsbD, h0] at this
    simpa using this

theorem xor_eq_zero (a b : BitVec 32) (h : a ^^^ b = 0#32) : a = b := by
  have := congrArg (fun x => x ^^^ b) h
  simpa [BitVec.xor_assoc] using this

theorem L_inj (a b : BitVec 32) (h : L a = L b) : a = b := by
  apply xor_eq_zero
  apply L_eq_zero
  rw [L_xor, h, BitVec.xor_self]

theorem L8_inj (a b : BitVec 32) (h : L8 a = L8 b) : a = b := by
  unfold L8 at h
  exact L_inj _ _ (L_inj _ _ (L_inj _ _ (L_inj _ _ (L_inj _ _ (L_inj _ _ (L_inj _ _ (L_inj _ _ h)))))))

/-- A register's low byte and the rest. -/
theorem L8_high (c : BitVec 32) (h : c &&& 255#32 = 0#32) : L8 c = c >>> 8 := by
  have hb : ∀ i, i < 8 → c.getLsbD i = false := by
    intro i hi
    have := congrArg (fun x => x.getLsbD i) h
    simp only [BitVec.getLsbD_and] at this
    have h255 : (255#32).getLsbD i = true := by
      have : ∀ j : Fin 8, (255#32).getLsbD j.val = true := by decide
      exact this ⟨i, hi⟩
    rw [h255] at this
    simpa using this
  unfold L8
  have e : ∀ k, k < 8 → (c >>> k).getLsbD 0 = false := by
    intro k hk
    simp [hb k hk]
  have s : ∀ k, k < 8 → L (c >>> k) = c >>> (k + 1) := by
    intro k hk
    rw [L_even _ (e k hk), ← BitVec.shiftRight_add]
  have s0 : L c = c >>> 1 := L_even c (hb 0 (by omega))
  rw [s0, s 1 (by omega), s 2 (by omega), s 3 (by omega), s 4 (by omega), s 5 (by omega), s 6 (by omega), s 7 (by omega)]

theorem L8_split (c : BitVec 32) : L8 c = L8 (c &&& 255#32) ^^^ (c >>> 8) := by
  have e : c = (c &&& 255#32) ^^^ (c &&& ~~~255#32) := by
    apply BitVec.eq_of_getLsbD_eq
    intro i hi
    simp only [BitVec.getLsbD_xor, BitVec.getLsbD_and, BitVec.getLsbD_not, hi, decide_true, Bool.true_and]
    cases c.getLsbD i <;> cases (255#32).getLsbD i <;> rfl
  have hz : (c &&& ~~~255#32) &&& 255#32 = 0#32 := by
    rw [BitVec.and_assoc]
    have : (~~~255#32) &&& 255#32 = 0#32 := by decide
    rw [this]; simp
  have hs : (c &&& ~~~255#32) >>> 8 = c >>> 8 := by
    apply BitVec.eq_of_getLsbD_eq
    intro i hi
    simp only [BitVec.getLsbD_ushiftRight, BitVec.getLsbD_and]
    by_cases h : 8 + i < 32
    · have : ∀ j : Fin 32, 8 ≤ j.val → (~~~255#32).getLsbD j.val = true := by decide
      rw [this ⟨8 + i, h⟩ (by simp)]; simp
    · rw [BitVec.getLsbD_of_ge c _ (by omega)]; simp
  conv => lhs; rw [e]
  rw [L8_xor, L8_high _ hz, hs]

/-- The register behind one byte. -/
def step (c : BitVec 32) (x : UInt8) : BitVec 32 := L8 (c ^^^ BitVec.ofNat 32 x.toNat)

/-- As the program's table has it. -/
theorem step_table (c : BitVec 32) (x : UInt8) :
    step c x = L8 (BitVec.ofNat 32 (c.toNat % 256 ^^^ x.toNat)) ^^^ (c >>> 8) := by
  unfold step
  rw [L8_split]
  have hx : x.toNat < 256 := x.toNat_lt
  congr 1
  · congr 1
    apply BitVec.eq_of_toNat_eq
    simp only [BitVec.toNat_and, BitVec.toNat_xor, BitVec.toNat_ofNat]
    have h1 : x.toNat % 2 ^ 32 = x.toNat := Nat.mod_eq_of_lt (by omega)
    have h2 : c.toNat % 256 ^^^ x.toNat < 256 := Nat.xor_lt_two_pow (n := 8) (Nat.mod_lt _ (by omega)) hx
    have h3 : (c.toNat % 256 ^^^ x.toNat) % 2 ^ 32 = c.toNat % 256 ^^^ x.toNat := Nat.mod_eq_of_lt (by omega)
    rw [h1, h3]
    have h255 : 255 % 2 ^ 32 = 2 ^ 8 - 1 := by decide
    rw [h255, Nat.and_two_pow_sub_one_eq_mod, Nat.xor_mod_two_pow, Nat.mod_eq_of_lt (a := x.toNat) (b := 2 ^ 8) hx]
  · apply BitVec.eq_of_getLsbD_eq
    intro i hi
    simp only [BitVec.getLsbD_ushiftRight, BitVec.getLsbD_xor]
    have : (BitVec.ofNat 32 x.toNat).getLsbD (8 + i) = false := by
      rw [BitVec.getLsbD_ofNat]
      have : x.toNat.testBit (8 + i) = false := Nat.testBit_lt_two_pow (Nat.lt_of_lt_of_le hx (by
        have : 2 ^ 8 ≤ 2 ^ (8 + i) := Nat.pow_le_pow_right (by omega) (by omega)
        simpa using this))
      simp [this]
    rw [this]; simp

def run (c : BitVec 32) (l : List UInt8) : BitVec 32 := l.foldl step c

theorem run_append (c : BitVec 32) (l m : List UInt8) : run c (l ++ m) = run (run c l) m := by simp [run]

theorem step_inj (a b : BitVec 32) (x : UInt8) (h : step a x = step b x) : a = b := by
  have := L8_inj _ _ h
  have := congrArg (fun z => z ^^^ BitVec.ofNat 32 x.toNat) this
  simpa [BitVec.xor_assoc] using this

theorem step_byte_inj (c : BitVec 32) (x y : UInt8) (h : step c x = step c y) : x = y := by
  have h1 := L8_inj _ _ h
  have h2 := congrArg (fun z => c ^^^ z) h1
  simp only [← BitVec.xor_assoc, BitVec.xor_self, BitVec.zero_xor] at h2
  have h3 := congrArg BitVec.toNat h2
  simp only [BitVec.toNat_ofNat] at h3
  have hx := x.toNat_lt
  have hy := y.toNat_lt
  apply UInt8.toNat.inj
  rw [Nat.mod_eq_of_lt (by omega), Nat.mod_eq_of_lt (by omega)] at h3
  exact h3

theorem run_inj (l : List UInt8) : ∀ a b, run a l = run b l → a = b := by
  induction l with
  | nil => intro a b h; exact h
  | cons x l ih => intro a b h; exact step_inj _ _ x (ih _ _ h)

/-- CRC-32 of bytes behind bytes whose sum is s. -/
def more (s : BitVec 32) (l : List UInt8) : BitVec 32 := ~~~ run (~~~ s) l
def sum (l : List UInt8) : BitVec 32 := more 0#32 l

theorem more_sum (l m : List UInt8) : more (sum l) m = sum (l ++ m) := by
  simp [sum, more, run_append]

/-- With one byte another one the sum is another one. -/
theorem sum_ne (l : List UInt8) (i : Nat) (hi : i < l.length) (x : UInt8) (h : sum (l.set i x) = sum l) : x = l[i] := by
  have e1 : l = l.take i ++ l[i] :: l.drop (i + 1) := by simp
  have e2 : l.set i x = l.take i ++ x :: l.drop (i + 1) := by
    rw [List.set_eq_take_append_cons_drop, if_pos hi]
  rw [e2] at h
  conv at h => rhs; rw [e1]
  unfold sum more at h
  have h' : run (~~~0#32) (l.take i ++ x :: l.drop (i + 1)) = run (~~~0#32) (l.take i ++ l[i] :: l.drop (i + 1)) := by
    have := congrArg (fun z => ~~~ z) h
    simpa using this
  rw [run_append, run_append] at h'
  have h2 := run_inj _ _ _ (show run (step (run (~~~0#32) (l.take i)) x) (l.drop (i + 1)) = run (step (run (~~~0#32) (l.take i)) l[i]) (l.drop (i + 1)) from h')
  exact step_byte_inj _ _ _ h2

/-! ### The long division -/

/-- One bit of a byte, at its place. -/
def eb (b : Bool) (i : Nat) : BitVec 32 := if b then 1#32 <<< i else 0#32

theorem L_eb1 (b : Bool) : L (eb b 1) = eb b 0 := by cases b <;> decide
theorem L_eb2 (b : Bool) : L (eb b 2) = eb b 1 := by cases b <;> decide
theorem L_eb3 (b : Bool) : L (eb b 3) = eb b 2 := by cases b <;> decide
theorem L_eb4 (b : Bool) : L (eb b 4) = eb b 3 := by cases b <;> decide
theorem L_eb5 (b : Bool) : L (eb b 5) = eb b 4 := by cases b <;> decide
theorem L_eb6 (b : Bool) : L (eb b 6) = eb b 5 := by cases b <;> decide
theorem L_eb7 (b : Bool) : L (eb b 7) = eb b 6 := by cases b <;> decide

def feed (c : BitVec 32) (b : Bool) : BitVec 32 := L (c ^^^ eb b 0)

theorem feed8 (c : BitVec 32) (b0 b1 b2 b3 b4 b5 b6 b7 : Bool) :
    feed (feed (feed (feed (feed (feed (feed (feed c b0) b1) b2) b3) b4) b5) b6) b7 =
      L8 (c ^^^ (eb b0 0 ^^^ (eb b1 1 ^^^ (eb b2 2 ^^^ (eb b3 3 ^^^ (eb b4 4 ^^^ (eb b5 5 ^^^ (eb b6 6 ^^^ eb b7 7)))))))) := by
  simp only [feed, L8, L_xor, L_eb1, L_eb2, L_eb3, L_eb4, L_eb5, L_eb6, L_eb7, BitVec.xor_assoc]

theorem byte_bits (x : UInt8) : BitVec.ofNat 32 x.toNat =
    eb (x.toNat.testBit 0) 0 ^^^ (eb (x.toNat.testBit 1) 1 ^^^ (eb (x.toNat.testBit 2) 2 ^^^ (eb (x.toNat.testBit 3) 3 ^^^ (eb (x.toNat.testBit 4) 4 ^^^ (eb (x.toNat.testBit 5) 5 ^^^ (eb (x.toNat.testBit 6) 6 ^^^ eb (x.toNat.testBit 7) 7)))))) := by
  have h : ∀ n : Fin 256, BitVec.ofNat 32 n.val =
    eb (n.val.testBit 0) 0 ^^^ (eb (n.val.testBit 1) 1 ^^^ (eb (n.val.testBit 2) 2 ^^^ (eb (n.val.testBit 3) 3 ^^^ (eb (n.val.testBit 4) 4 ^^^ (eb (n.val.testBit 5) 5 ^^^ (eb (n.val.testBit 6) 6 ^^^ eb (n.val.testBit 7) 7)))))) := by decide +kernel
  exact h ⟨x.toNat, x.toNat_lt⟩

/-- Bit j of a message, each byte's lowest one first. -/
def mbit (l : List UInt8) (j : Nat) : Bool := (l.getD (j / 8) 0).toNat.testBit (j % 8)

theorem mbit_past (l : List UInt8) (j : Nat) (h : 8 * l.length ≤ j) : mbit l j = false := by
  unfold mbit
  have : l.getD (j / 8) 0 = 0 := by
    rw [List.getD_eq_getElem?_getD, List.getElem?_eq_none (by omega)]; rfl
  rw [this]
  simp

/-- The register behind i bits. -/
def reg (l : List UInt8) : Nat → BitVec 32
  | 0 => ~~~0#32
  | i + 1 => feed (reg l i) (mbit l i)

theorem mbit_at (l : List UInt8) (n k : Nat) (hk : k < 8) (hn : n < l.length) : mbit l (8 * n + k) = l[n].toNat.testBit k := by
  unfold mbit
  have h1 : (8 * n + k) / 8 = n := by omega
  have h2 : (8 * n + k) % 8 = k := by omega
  rw [h1, h2, List.getD_eq_getElem?_getD, List.getElem?_eq_getElem hn]; rfl

theorem reg_run (l : List UInt8) (n : Nat) (hn : n ≤ l.length) : reg l (8 * n) = run (~~~0#32) (l.take n) := by
  induction n with
  | zero => simp [reg, run]
  | succ n ih =>
    have hl : n < l.length := by omega
    have e : 8 * (n + 1) = 8 * n + 7 + 1 := by omega
    rw [List.take_succ_eq_append_getElem hl, run_append, ← ih (by omega), e]
    show feed (feed (feed (feed (feed (feed (feed (feed (reg l (8 * n)) (mbit l (8 * n + 0))) (mbit l (8 * n + 1))) (mbit l (8 * n + 2))) (mbit l (8 * n + 3))) (mbit l (8 * n + 4))) (mbit l (8 * n + 5))) (mbit l (8 * n + 6))) (mbit l (8 * n + 7)) = _
    rw [feed8]
    rw [mbit_at l n 0 (by omega) hl, mbit_at l n 1 (by omega) hl, mbit_at l n 2 (by omega) hl, mbit_at l n 3 (by omega) hl, mbit_at l n 4 (by omega) hl, mbit_at l n 5 (by omega) hl, mbit_at l n 6 (by omega) hl, mbit_at l n 7 (by omega) hl, ← byte_bits]
    rfl

/-- The polynomial's powers below the highest one. -/
def divs : List Nat := [26, 23, 22, 16, 12, 11, 10, 8, 7, 5, 4, 2, 1, 0]
def dv (p : Nat) : Bool := divs.contains p

theorem poly_dv (k : Nat) (hk : k < 32) : (0xedb88320#32).getLsbD k = dv (31 - k) := by
  have h : ∀ j : Fin 32, (0xedb88320#32).getLsbD j.val = dv (31 - j.val) := by decide
  exact h ⟨k, hk⟩

/-- The row of bits behind i steps of the division, from place i on. -/
def bit (l : List UInt8) (i j : Nat) : Bool := (reg l i).getLsbD (j - i) ^^ mbit l j

theorem bit_start (l : List UInt8) (j : Nat) : bit l 0 j = if j < 32 then !mbit l j else mbit l j := by
  unfold bit reg
  by_cases h : j < 32
  · have h1 : (~~~0#32).getLsbD (j - 0) = true := by
      have : ∀ k : Fin 32, (~~~0#32).getLsbD (k.val - 0) = true := by decide
      exact this ⟨j, h⟩
    rw [h1, if_pos h]; simp
  · rw [BitVec.getLsbD_of_ge _ _ (by omega), if_neg h]; simp

theorem feed_bit (c : BitVec 32) (b : Bool) (k : Nat) : (feed c b).getLsbD k = (c.getLsbD (k + 1) ^^ ((c.getLsbD 0 ^^ b) && (0xedb88320#32).getLsbD k)) := by
  unfold feed
  rw [L_getLsbD, BitVec.getLsbD_xor, BitVec.getLsbD_xor]
  have h0 : (eb b 0).getLsbD 0 = b := by cases b <;> decide
  have h1 : (eb b 0).getLsbD (k + 1) = false := by cases b <;> simp [eb]
  rw [h0, h1]; simp

/-- A step of the division. -/
theorem bit_step (l : List UInt8) (i j : Nat) (hj : i < j) :
    bit l (i + 1) j = if bit l i i && decide (j ≤ i + 32) then bit l i j ^^ dv (32 - (j - i)) else bit l i j := by
  unfold bit
  rw [show reg l (i + 1) = feed (reg l i) (mbit l i) from rfl, feed_bit]
  have e1 : j - (i + 1) + 1 = j - i := by omega
  rw [e1, Nat.sub_self]
  by_cases h : j ≤ i + 32
  · rw [poly_dv _ (by omega), show 31 - (j - (i + 1)) = 32 - (j - i) by omega]
    simp only [h, decide_true, Bool.and_true]
    cases (reg l i).getLsbD 0 <;> cases mbit l i <;> cases (reg l i).getLsbD (j - i) <;> cases mbit l j <;> cases dv (32 - (j - i)) <;> rfl
  · rw [BitVec.getLsbD_of_ge (0xedb88320#32) _ (by omega)]
    simp [h]

/-- What is left. -/
theorem bit_end (l : List UInt8) (k : Nat) (hk : k < 32) : (!bit l (8 * l.length) (8 * l.length + k)) = (sum l).getLsbD k := by
  unfold bit sum more
  rw [mbit_past l _ (by omega), reg_run l _ (Nat.le_refl _), List.take_length, show 8 * l.length + k - 8 * l.length = k by omega]
  simp [hk]

theorem sum_bit (s : BitVec 32) (k : Nat) : s.toNat / 2 ^ k = 2 * (s.toNat / 2 ^ (k + 1)) + (s.getLsbD k).toNat := by
  have h : s.getLsbD k = s.toNat.testBit k := rfl
  rw [h, Nat.testBit_eq_decide_div_mod_eq, Nat.pow_succ, ← Nat.div_div_eq_div_mul]
  have := Nat.div_add_mod (s.toNat / 2 ^ k) 2
  by_cases h1 : s.toNat / 2 ^ k % 2 = 1
  · simp [h1]; omega
  · simp [h1]; omega

end CrcM
