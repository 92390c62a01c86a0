/- DevicePlays: the calls' row, the short ways. -/
import Derived.Test.YtdlbjllgdikadaaDevT
import Derived.Test.YtdlbjllgdikadaaDevG
namespace Go.Proofs.Ytdlbjllgdikadaa
open Go.RowKit

structure POp where
  kind : Int
  i : Int
  n : Int
  a : Option Addr
  B : List UInt8
  cap : Nat

def POp.cells (o : POp) : Array Value := #[.int .i64 o.kind, .int .i64 o.i, .int .i64 o.n, .slice o.a o.B.length o.cap]

/-- A row of calls, as it reads. -/
def IsOps (w : World) (a : Option Addr) (l : List POp) : Prop :=
  ∀ k (h : k < l.length), ∃ b off, a = some ⟨b, off, none⟩ ∧ (∀ q u, (l[k].cells)[q]? = some u → w.cell? ⟨b, off + 4 * k + q, none⟩ = some u) ∧
    IsBytes w l[k].a l[k].B ∧ l[k].B.length ≤ l[k].cap ∧ l[k].i ≤ 9223372036854775807 ∧ (l[k].a = none → l[k].B.length = 0 ∧ l[k].cap = 0)

theorem IsOps.below {N : Nat} {w w' : World} {a : Option Addr} {l : List POp} (h : IsOps w a l) (hb : Below N w w') (hN : w.heap.size ≤ N) : IsOps w' a l := by
  intro i hi
  obtain ⟨b, off, e, hc, hby, hle, hx⟩ := h i hi
  refine ⟨b, off, e, fun j u hu => ?_, hby.later (hb.mono hN), hle, hx⟩
  have := hc j u hu
  exact (hb.cell (p := ⟨b, off + 4 * i + j, none⟩) (Nat.lt_of_lt_of_le (World.block_lt_of_cell? w _ this) hN)).trans this

set_option maxRecDepth 100000 in
theorem plays_long (n : Int) (a : Option Addr) (l : List POp) (cap : Nat) (w : World) (h : 60 < l.length ∨ 100 < n ∧ n ≤ 16384) :
    Calls Try.prog 9 #[.int .i64 n, .slice a l.length cap] w fun e w' => e = .returned (.bool true) ∧ Below w.heap.size w w' := by
  by_cases b1 : 60 < l.length
  · clear h
    go_enter Try.func9, Try.ntmps9
    go_wp2_with (go_at_call 39; refine (known39_calls _).mono ?_; rintro e w9 ⟨rfl, hB9⟩)
    go_ret
    exact ⟨rfl, hB9⟩
  · obtain ⟨b2, b3⟩ : 100 < n ∧ n ≤ 16384 := by omega
    clear h
    go_enter Try.func9, Try.ntmps9
    go_wp2_with (go_at_call 39; refine (known39_calls _).mono ?_; rintro e w9 ⟨rfl, hB9⟩)
    go_ret
    exact ⟨rfl, hB9⟩

set_option maxRecDepth 100000 in
theorem plays_bad (n : Int) (a : Option Addr) (l : List POp) (cap : Nat) (w : World) (hl : l.length ≤ 60) (h : n < 16 ∨ 16384 < n) :
    Calls Try.prog 9 #[.int .i64 n, .slice a l.length cap] w fun e w' => e = .returned (.bool true) ∧ Below w.heap.size w w' := by
  have hbad := new_bad n w h
  by_cases b1 : n < 16
  · clear h
    go_enter Try.func9, Try.ntmps9
    go_wp2_with (first
      | (go_at_call 38; refine hbad.mono ?_; rintro e w1 ⟨rfl, rfl⟩)
      | (go_at_call 39; refine (known39_calls _).mono ?_; rintro e w9 ⟨rfl, hB9⟩))
    go_ret
    exact ⟨rfl, hB9⟩
  · have b2 : 16384 < n := by omega
    clear h
    go_enter Try.func9, Try.ntmps9
    go_wp2_with (first
      | (go_at_call 38; refine hbad.mono ?_; rintro e w1 ⟨rfl, rfl⟩)
      | (go_at_call 39; refine (known39_calls _).mono ?_; rintro e w9 ⟨rfl, hB9⟩))
    go_ret
    exact ⟨rfl, hB9⟩

end Go.Proofs.Ytdlbjllgdikadaa
