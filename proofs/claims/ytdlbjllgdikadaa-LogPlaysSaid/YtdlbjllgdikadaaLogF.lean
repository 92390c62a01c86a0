/- log: Append, Check; Sync's blocks. -/
import Derived.Test.YtdlbjllgdikadaaLogE
namespace Go.Proofs.Ytdlbjllgdikadaa
open Go.RowKit
set_option linter.unusedVariables false
set_option linter.unusedSimpArgs false

theorem append_log (B X D b : Nat) (d : Dev) (g : Lg) (v1 v2 : Value) (a : Option Addr) (l : List UInt8) (c : Nat) (w : World) (h : LogSt w B X D g v1 v2) (hD : DevAt w D b d) (hok : LgOk g)
    (hby : IsBytes w a l) (hn : a = none → l.length = 0 ∧ c = 0) (hl : l.length ≤ 1000000000) (hB : B ≤ w.heap.size) :
    Calls Try.prog 66 #[.pointer (some ⟨X, 0, none⟩), .slice a l.length c] w (WaitPost B X D d g v1 v2 1 l w) := by
  have hw := Lib.hid (show Calls Try.prog 96 #[.pointer (some ⟨X, 0, none⟩), .int .u8 1, .slice a l.length c] w (WaitPost B X D d g v1 v2 1 l w) from wait_log B X D b d g v1 v2 1 a l c w h hD hok hby hn hl hB)
  go_enter Try.func66, Try.ntmps66
  go_wp2_with (go_at_call 96; refine hw.out.mono ?_; rintro e w2 ⟨rfl, hp⟩)
  go_ret
  exact ⟨rfl, hp⟩
theorem check_log (B X D b : Nat) (d : Dev) (g : Lg) (v1 v2 : Value) (a : Option Addr) (l : List UInt8) (c : Nat) (w : World) (h : LogSt w B X D g v1 v2) (hD : DevAt w D b d) (hok : LgOk g)
    (hby : IsBytes w a l) (hn : a = none → l.length = 0 ∧ c = 0) (hl : l.length ≤ 1000000000) (hB : B ≤ w.heap.size) :
    Calls Try.prog 67 #[.pointer (some ⟨X, 0, none⟩), .slice a l.length c] w (WaitPost B X D d g v1 v2 2 l w) := by
  have hw := Lib.hid (show Calls Try.prog 96 #[.pointer (some ⟨X, 0, none⟩), .int .u8 2, .slice a l.length c] w (WaitPost B X D d g v1 v2 2 l w) from wait_log B X D b d g v1 v2 2 a l c w h hD hok hby hn hl hB)
  go_enter Try.func67, Try.ntmps67
  go_wp2_with (go_at_call 96; refine hw.out.mono ?_; rintro e w2 ⟨rfl, hp⟩)
  go_ret
  exact ⟨rfl, hp⟩
theorem wait_none (p : Option Addr) (k : Int) (a : Option Addr) (n c : Nat) (hn : n ≤ 9223372036854775807) (w : World) (h97 : Calls Try.prog 97 #[.pointer p] w fun e w' => e = .returned (.bool true) ∧ w = w') :
    Calls Try.prog 96 #[.pointer p, .int .u8 k, .slice a n c] w fun e w' => e = .returned (.int .i64 1) ∧ w = w' := by
  have hmany := Lib.hid (many_calls n hn w)
  go_enter Try.func96, Try.ntmps96
  go_wp2_with (first
    | (go_at_call 27; refine hmany.out.mono ?_; rintro e w2 ⟨rfl, rfl⟩)
    | (go_at_call 97; refine h97.mono ?_; rintro e w3 ⟨rfl, rfl⟩))
  go_ret
  exact ⟨rfl, rfl⟩
theorem append_none (p : Option Addr) (a : Option Addr) (n c : Nat) (hn : n ≤ 9223372036854775807) (w : World) (h97 : Calls Try.prog 97 #[.pointer p] w fun e w' => e = .returned (.bool true) ∧ w = w') :
    Calls Try.prog 66 #[.pointer p, .slice a n c] w fun e w' => e = .returned (.int .i64 1) ∧ w = w' := by
  have hw := Lib.hid (wait_none p 1 a n c hn w h97)
  go_enter Try.func66, Try.ntmps66
  go_wp2_with (go_at_call 96; refine hw.out.mono ?_; rintro e w2 ⟨rfl, rfl⟩)
  go_ret
  exact ⟨rfl, rfl⟩
theorem check_none (p : Option Addr) (a : Option Addr) (n c : Nat) (hn : n ≤ 9223372036854775807) (w : World) (h97 : Calls Try.prog 97 #[.pointer p] w fun e w' => e = .returned (.bool true) ∧ w = w') :
    Calls Try.prog 67 #[.pointer p, .slice a n c] w fun e w' => e = .returned (.int .i64 1) ∧ w = w' := by
  have hw := Lib.hid (wait_none p 2 a n c hn w h97)
  go_enter Try.func67, Try.ntmps67
  go_wp2_with (go_at_call 96; refine hw.out.mono ?_; rintro e w2 ⟨rfl, rfl⟩)
  go_ret
  exact ⟨rfl, rfl⟩
theorem sync_none (p : Option Addr) (w : World) (h97 : ∀ W, Below w.heap.size w W → Calls Try.prog 97 #[.pointer p] W fun e w' => e = .returned (.bool true) ∧ W = w') :
    Calls Try.prog 68 #[.pointer p] w fun e w' => e = .returned (.int .i64 1) ∧ Below w.heap.size w w' := by
  have hb := (Below.refl _ w).alloc (Nat.le_refl _) (.cells #[.pointer p] 101)
  have h97' := Lib.hid (h97 _ hb)
  clear h97
  go_enter Try.func68, Try.ntmps68
  go_wp2_with (go_at_call 97; refine h97'.out.mono ?_; rintro e w3 ⟨rfl, rfl⟩)
  go_ret
  exact ⟨rfl, hb⟩
theorem copy_none (p q : Option Addr) (w : World) (h97 : Calls Try.prog 97 #[.pointer p] w fun e w' => e = .returned (.bool true) ∧ w = w') :
    Calls Try.prog 73 #[.pointer p, .pointer q] w fun e w' => e = .returned (.pointer none) ∧ w = w' := by
  go_enter Try.func73, Try.ntmps73
  go_wp2_with (go_at_call 97; refine h97.mono ?_; rintro e w3 ⟨rfl, rfl⟩)
  go_ret
  exact ⟨rfl, rfl⟩

/-- Blocks are written till one is not. -/
def putD (s : Dev × Bool) (x : Blk) : Dev × Bool :=
  if s.2 then s else (writeD s.1 ((x.serial % s.1.blocks : Nat) : Int) (sealB x), writeE s.1 ((x.serial % s.1.blocks : Nat) : Int) (sealB x) != 0)
def putsD (s : Dev × Bool) (l : List Blk) : Dev × Bool := l.foldl putD s

theorem OwnRs.aside {T : List Nat} {w w' : World} {B : Nat} {v : Value} {l : List Rc} (h : OwnRs w B v l) (k : Aside T w w') (hT : ∀ q, q ∈ T → ∀ c t fz, w.heap[q]? = some (.cells c t fz) → t ≠ 91 ∧ t ≠ 5) : OwnRs w' B v l := by
  obtain ⟨r, h1, h2, h3⟩ := h
  refine ⟨r, h1, ownsRow_aside h2 k (fun q hq hm => ?_), fun p hp => OwnB.aside2 (h3 p hp) k fun q hq hm => ?_⟩
  · obtain ⟨c1, f1, z1⟩ := Lib.ownsRow_kind h2 q hq
    exact (hT q hm _ _ _ z1).1 rfl
  · obtain ⟨c1, f1, z1⟩ := Lib.ownsRow_kind (h3 p hp) q hq
    exact (hT q hm _ _ _ z1).2 rfl
theorem kinds3 {w : World} {X D b : Nat} {g : Lg} {v1 v2 : Value} {d : Dev} (h : LogAt w X D g v1 v2) (hD : DevAt w D b d) : ∀ q, q ∈ [X, D, b] → ∀ c t fz, w.heap[q]? = some (.cells c t fz) → t ≠ 91 ∧ t ≠ 5 := fun q hq c t fz e => by
  simp only [List.mem_cons, List.not_mem_nil, or_false] at hq
  rcases hq with rfl | rfl | rfl
  · rw [h] at e; simp at e; rw [← e.2.1]; decide
  · rw [hD.1] at e; simp at e; rw [← e.2.1]; decide
  · obtain ⟨_, ⟨M, ⟨es, cl, y2, _⟩, _⟩, _⟩ := hD
    rw [y2] at e; cases e
end Go.Proofs.Ytdlbjllgdikadaa
