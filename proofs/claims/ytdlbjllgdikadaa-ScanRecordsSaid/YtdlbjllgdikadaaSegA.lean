/- The walks of bytes.Clone, bytes.Equal and of segment's small functions. -/
import Derived.Test.YtdlbjllgdikadaaRefC
namespace Go.Proofs.Ytdlbjllgdikadaa
open Go.RowKit

@[go_sem] theorem eql22 (w : World) (a : Option Addr) (n c n' c' : Nat) : (binOp .eql 22 (.slice a n c) (.slice none n' c')).run Try.prog w = .ok (.bool a.isNone) w :=
  Lib.run_eql_slice_nil w 22 5 a n c n' c' Try.underlying22

set_option maxRecDepth 100000 in
theorem clone_calls (a : Option Addr) (l : List UInt8) (cap : Nat) (w : World) (hl : l.length ≤ 70368744177664) (hn : a = none → l.length = 0 ∧ cap = 0) (hb : IsBytes w a l) :
    Calls Try.prog 89 #[.slice a l.length cap] w fun e w' => ∃ v, e = .returned v ∧ OwnB w' w.heap.size v l ∧ Below w.heap.size w w' := by
  cases a with
  | none =>
    obtain ⟨h1, h2⟩ := hn rfl
    have hl0 : l = [] := List.length_eq_zero_iff.1 h1
    subst hl0
    subst h2
    go_enter Try.func89, Try.ntmps89
    go_wp2
    go_ret
    exact ⟨_, rfl, OwnB.nil _ _, Below.refl _ _⟩
  | some ad =>
    go_enter Try.func89, Try.ntmps89
    go_wp2_with (at_builtin; refine wpList_append_bytes rfl (.tmp 5) (.tmp 6) rfl w.heap.size (.slice (some ⟨w.heap.size, 0, none⟩) 0 0) [] rfl (OwnB.made w w.heap.size (Nat.le_refl _)) (some ad) l.length cap l rfl rfl (fun h => nomatch h) (hb.alloc _) (by simp; omega) (by simp) ?_; intro v1 w2 hown1 hgr1)
    go_ret
    rw [List.nil_append] at hown1
    refine ⟨v1, rfl, hown1, ?_⟩
    exact ((Below.refl _ w).alloc (Nat.le_refl _) _).grown hgr1 (by simp) (fun j hj => by simp [Value.ownBlock] at hj; omega)

theorem equal_calls (a1 a2 : Option Addr) (l1 l2 : List UInt8) (c1 c2 : Nat) (w : World) (h1 : IsBytes w a1 l1) (h2 : IsBytes w a2 l2) :
    Calls Try.prog 90 #[.slice a1 l1.length c1, .slice a2 l2.length c2] w fun e w' => e = .returned (.bool (l1 == l2)) ∧ w = w' := by
  have e1 := conv_text h1 (n := l1.length) (cap := c1) rfl
  have e2 := conv_text h2 (n := l2.length) (cap := c2) rfl
  go_enter Try.func90, Try.ntmps90
  go_wp2
  go_ret
  exact ⟨ret_bool (by rfl), rfl⟩

def kindB (k : UInt8) : Bool := k == 1 || k == 2

theorem isKind_calls (k : UInt8) (w : World) :
    Calls Try.prog 87 #[.int .u8 (k.toNat : Int)] w fun e w' => e = .returned (.bool (kindB k)) ∧ w = w' := by
  have hk := k.toNat_lt
  by_cases h1 : k = 1
  · subst h1
    go_enter Try.func87, Try.ntmps87
    go_wp2
    go_ret
    exact ⟨rfl, rfl⟩
  · have e1 : ((k.toNat : Int) == 1) = false := by
      rw [beq_eq_false_iff_ne]; intro h; exact h1 (UInt8.toNat.inj (by simp; omega))
    by_cases h2 : k = 2
    · subst h2
      go_enter Try.func87, Try.ntmps87
      go_wp2
      go_ret
      exact ⟨rfl, rfl⟩
    · have e2 : ((k.toNat : Int) == 2) = false := by
        rw [beq_eq_false_iff_ne]; intro h; exact h2 (UInt8.toNat.inj (by simp; omega))
      go_enter Try.func87, Try.ntmps87
      go_wp2
      go_ret
      exact ⟨ret_bool (by simp [kindB, h1, h2]), rfl⟩

/-- How many blocks so many bytes have. -/
def manyN (n : Nat) : Nat := if n = 0 then 1 else (n - 1) / 48 + 1

theorem many_calls (n : Nat) (hn : n ≤ 9223372036854775807) (w : World) :
    Calls Try.prog 27 #[.int .i64 (n : Int)] w fun e w' => e = .returned (.int .i64 (manyN n : Nat)) ∧ w = w' := by
  by_cases h0 : n = 0
  · subst h0
    go_enter Try.func27, Try.ntmps27
    go_wp2
    go_ret
    exact ⟨rfl, rfl⟩
  · go_enter Try.func27, Try.ntmps27
    go_wp2
    all_goals
      go_ret
      exact ⟨ret_int (by unfold manyN; rw [if_neg h0]; omega), rfl⟩

theorem start_calls (s : Nat) (hs : s < 18446744073709551616) (w : World) :
    Calls Try.prog 29 #[.int .u64 (s : Int)] w fun e w' => e = .returned (.int .u64 ((s / 8 * 8 : Nat) : Int)) ∧ w = w' := by
  go_enter Try.func29, Try.ntmps29
  go_wp2
  go_ret
  exact ⟨ret_int (by simp; omega), rfl⟩

theorem place_neg (s n : Int) (hn : n < 1) (w : World) :
    Calls Try.prog 30 #[.int .u64 s, .int .i64 n] w fun e w' => e = .returned (.tuple #[.int .i64 0, .int .i64 2]) ∧ w = w' := by
  go_enter Try.func30, Try.ntmps30
  go_wp2
  go_ret2
  exact ⟨rfl, rfl⟩

theorem place_pos (s m : Nat) (hs : s < 18446744073709551616) (hm : 1 ≤ m) (hm2 : m ≤ 9223372036854775807) (w : World) :
    Calls Try.prog 30 #[.int .u64 (s : Int), .int .i64 (m : Int)] w fun e w' => e = .returned (.tuple #[.int .i64 ((s % m : Nat) : Int), .int .i64 0]) ∧ w = w' := by
  have h0 : (m : Int) ≠ 0 := by omega
  have h1 : (s : Int) % (m : Int) ≤ 9223372036854775807 := by
    have := Int.emod_lt_of_pos (s : Int) (show (0 : Int) < (m : Int) by omega)
    omega
  have h2 : 0 ≤ (s : Int) % (m : Int) := Int.emod_nonneg _ h0
  go_enter Try.func30, Try.ntmps30
  go_wp2
  go_ret2
  exact ⟨by simp, rfl⟩

/-- A block. -/
structure Blk where
  serial : Nat
  kind : UInt8
  first : Bool
  last : Bool
  body : List UInt8

def Blk.cells (b : Blk) (a : Option Addr) (cap : Nat) : Array Value :=
  #[.int .u64 (b.serial : Int), .int .u8 (b.kind.toNat : Int), .bool b.first, .bool b.last, .slice a b.body.length cap]

def mayB (b : Blk) : Bool := decide (b.serial ≤ 1099511627776) && kindB b.kind && decide (b.body.length ≤ 48) && (b.last || b.body.length == 48)

set_option maxRecDepth 100000 in
theorem may_calls (b : Blk) (a : Option Addr) (cap : Nat) (w : World) (hs : b.serial < 18446744073709551616) (hl : b.body.length ≤ 9223372036854775807) :
    Calls Try.prog 33 #[.agg (b.cells a cap)] w fun e w' => e = .returned (.bool (mayB b)) ∧ Below w.heap.size w w' := by
  obtain ⟨s, k, f, la, body⟩ := b
  simp only [Blk.cells] at *
  have hB : Below w.heap.size w (w.alloc (.cells (Blk.cells ⟨s, k, f, la, body⟩ a cap) 43)) := (Below.refl _ _).alloc (Nat.le_refl _) _
  obtain ⟨q, hq⟩ : ∃ q, q = kindB k := ⟨_, rfl⟩
  have hk : ∀ W, Calls Try.prog 87 #[.int .u8 (k.toNat : Int)] W fun e w' => e = .returned (.bool q) ∧ W = w' := fun W => by rw [hq]; exact isKind_calls k W
  have Hq : Hid (kindB k = q) := hq.symm
  clear hq
  by_cases h1 : s ≤ 1099511627776
  · cases q with
    | false =>
      go_enter Try.func33, Try.ntmps33
      go_wp2_with (go_at_call 87; refine (hk _).mono ?_; rintro e w2 ⟨rfl, rfl⟩)
      go_ret
      exact ⟨ret_bool (by simp [mayB, Hq.out]), hB⟩
    | true =>
      by_cases h3 : body.length ≤ 48
      · cases la with
        | true =>
          go_enter Try.func33, Try.ntmps33
          go_wp2_with (go_at_call 87; refine (hk _).mono ?_; rintro e w2 ⟨rfl, rfl⟩)
          go_ret
          exact ⟨ret_bool (by simp [mayB, Hq.out, h1, h3]), hB⟩
        | false =>
          by_cases h4 : body.length = 48
          · have e4 : ((body.length : Int) == 48) = true := by rw [beq_iff_eq]; omega
            have H4 := Lib.hid h4
            clear h4
            go_enter Try.func33, Try.ntmps33
            go_wp2_with (go_at_call 87; refine (hk _).mono ?_; rintro e w2 ⟨rfl, rfl⟩)
            go_ret
            exact ⟨ret_bool (by simp [mayB, Hq.out, h1, H4.out]), hB⟩
          · have e4 : ((body.length : Int) == 48) = false := by rw [beq_eq_false_iff_ne]; omega
            go_enter Try.func33, Try.ntmps33
            go_wp2_with (go_at_call 87; refine (hk _).mono ?_; rintro e w2 ⟨rfl, rfl⟩)
            go_ret
            exact ⟨ret_bool (by simp [mayB, Hq.out, h1, h4]), hB⟩
      · go_enter Try.func33, Try.ntmps33
        go_wp2_with (go_at_call 87; refine (hk _).mono ?_; rintro e w2 ⟨rfl, rfl⟩)
        go_ret
        exact ⟨ret_bool (by simp [mayB, h3]), hB⟩
  · go_enter Try.func33, Try.ntmps33
    go_wp2_with (go_at_call 87; refine (hk _).mono ?_; rintro e w2 ⟨rfl, rfl⟩)
    go_ret
    exact ⟨ret_bool (by simp [mayB, h1]), hB⟩
end Go.Proofs.Ytdlbjllgdikadaa
