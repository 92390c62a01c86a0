/- log: Records; ContainsFunc of a checkpoint. -/
import Derived.Test.YtdlbjllgdikadaaLogC
namespace Go.Proofs.Ytdlbjllgdikadaa
open Go.RowKit
set_option linter.unusedVariables false
set_option linter.unusedSimpArgs false

theorem records_log (B X D : Nat) (g : Lg) (v1 v2 : Value) (w : World) (h : LogAt w X D g v1 v2) (hO : OwnRs w B v1 g.lasts) (hlen : g.lasts.length ≤ 1099511627776) (hbody : ∀ x ∈ g.lasts, x.body.length ≤ 70368744177664) :
    Calls Try.prog 69 #[.pointer (some ⟨X, 0, none⟩)] w fun e w' => ∃ v', e = .returned v' ∧ OwnRs w' w.heap.size v' g.lasts ∧ Below w.heap.size w w' := by
  have c3 := h.c3
  have ho := Lib.hid (own_recs B v1 g.lasts w hO hlen hbody)
  go_enter Try.func69, Try.ntmps69
  go_wp2_with (first
    | (go_at_call 97; refine (none_log X D g v1 v2 w h).mono ?_; rintro e w2 ⟨rfl, rfl⟩)
    | (go_at_call 102; refine ho.out.mono ?_; rintro e w3 ⟨v3, rfl, hO3, hB3⟩))
  go_ret
  exact ⟨v3, rfl, hO3, hB3⟩
theorem records_none (p : Option Addr) (w : World) (h97 : Calls Try.prog 97 #[.pointer p] w fun e w' => e = .returned (.bool true) ∧ w = w') :
    Calls Try.prog 69 #[.pointer p] w fun e w' => e = .returned (.slice none 0 0) ∧ w = w' := by
  go_enter Try.func69, Try.ntmps69
  go_wp2_with (go_at_call 97; refine h97.mono ?_; rintro e w2 ⟨rfl, rfl⟩)
  go_ret
  exact ⟨rfl, rfl⟩

def isCk (x : Rc) : Bool := x.kind == 2
theorem isCk_int (x : Rc) : ((x.kind.toNat : Int) == 2) = isCk x := by
  unfold isCk
  by_cases h : x.kind = 2
  · rw [h]; rfl
  · have h1 : (x.kind == 2) = false := by simpa using h
    rw [h1, beq_eq_false_iff_ne]
    intro e
    exact h (UInt8.toNat_inj.1 (by have : (2 : UInt8).toNat = 2 := rfl; omega))

theorem check_fn (x : Rc) (a : Option Addr) (c : Nat) (w : World) :
    Calls Try.prog 111 #[.agg #[.int .u8 (x.kind.toNat : Int), .int .u64 (x.from_ : Int), .slice a x.body.length c]] w fun e w' => e = .returned (.bool (isCk x)) ∧ Below w.heap.size w w' := by
  have hk := Lib.hid (isCk_int x)
  go_enter Try.func111, Try.ntmps111
  go_wp2
  go_ret
  exact ⟨congrArg (fun q => Ending.returned (.bool q)) hk.out, (Below.refl _ w).alloc (Nat.le_refl _) _⟩

set_option maxRecDepth 100000 in
theorem index_check (a : Option Addr) (l : List Rc) (c : Nat) (w : World) (hI : IsRs w a l) (hlen : l.length ≤ 1099511627776) :
    Calls Try.prog 114 #[.slice a l.length c, .func (.func 111) #[] #[]] w fun e w' => ∃ n : Int, e = .returned (.int .i64 n) ∧ Hid (0 ≤ n ↔ l.any isCk = true) ∧ -1 ≤ n ∧ Below w.heap.size w w' := by
  have hck := Lib.hid (fun x a c W => check_fn x a c W)
  go_enter Try.func114, Try.ntmps114
  go_wp2
  go_loopw [8] (fun iv wr => ∃ i : Nat, i ≤ l.length ∧ iv = .int .i64 (i : Int) ∧ (l.take i).any isCk = false ∧ Below w.heap.size w wr) (fun iv _ => l.length - (intOf iv).toNat)
  case atStart => exact ⟨0, Nat.zero_le _, rfl, rfl, Below.refl _ _⟩
  case round =>
    obtain ⟨i, hi, rfl, hany, hbw⟩ := hrel
    by_cases hlt : i < l.length
    · obtain ⟨b1, o1, a1, c1, rfl, p0, p1, p2, _⟩ := hI.cellsAt i hlt
      have hiI : (i : Int) < (l.length : Int) := by omega
      have f0 : wr.cell? ⟨b1, o1 + i * 3, none⟩ = _ := p0 ⟨wr, hbw⟩
      have f1 : wr.cell? ⟨b1, o1 + i * 3 + 1, none⟩ = _ := p1 ⟨wr, hbw⟩
      have f2 : wr.cell? ⟨b1, o1 + i * 3 + 2, none⟩ = _ := p2 ⟨wr, hbw⟩
      have htk : (l.take (i + 1)).any isCk = isCk l[i] := by rw [List.take_add_one, List.any_append, hany, List.getElem?_eq_getElem hlt]; simp
      obtain ⟨x, hx⟩ : ∃ x, x = l[i] := ⟨_, rfl⟩
      rw [← hx] at f0 f1 f2 htk
      have HX := Lib.hid (And.intro hx htk)
      clear hx htk p0 p1 p2 hany
      cases hc : isCk x with
      | true =>
        have hck' := Lib.hid (show ∀ W, Calls Try.prog 111 #[.agg #[.int .u8 (x.kind.toNat : Int), .int .u64 (x.from_ : Int), .slice a1 x.body.length c1]] W fun e w' => e = .returned (.bool true) ∧ Below W.heap.size W w' from fun W => by have := hck.out x a1 c1 W; rwa [hc] at this)
        have HC := Lib.hid hc
        clear hc
        go_wp2_with (go_at_call 111; refine (hck'.out _).mono ?_; rintro e w4 ⟨rfl, hB4⟩)
        go_ret
        exact ⟨(i : Int), rfl, Lib.hid ⟨fun _ => List.any_eq_true.2 ⟨x, by rw [HX.out.1]; exact List.getElem_mem hlt, HC.out⟩, fun _ => by omega⟩, by omega, below_call hbw (Nat.le_refl _) hB4⟩
      | false =>
        have hck' := Lib.hid (show ∀ W, Calls Try.prog 111 #[.agg #[.int .u8 (x.kind.toNat : Int), .int .u64 (x.from_ : Int), .slice a1 x.body.length c1]] W fun e w' => e = .returned (.bool false) ∧ Below W.heap.size W w' from fun W => by have := hck.out x a1 c1 W; rwa [hc] at this)
        have HC := Lib.hid hc
        clear hc
        go_wp2_with (go_at_call 111; refine (hck'.out _).mono ?_; rintro e w4 ⟨rfl, hB4⟩)
        go_roundw
        case rel => exact ⟨i + 1, by omega, by go_num, by rw [HX.out.2]; exact HC.out, below_call hbw (Nat.le_refl _) hB4⟩
        case measure => simp [intOf]; omega
    · have hie : i = l.length := by omega
      rw [hie, List.take_length] at hany
      have hiI : ¬ (i : Int) < (l.length : Int) := by omega
      have HA := Lib.hid hany
      clear hany
      go_wp2
      go_ret
      exact ⟨-1, rfl, Lib.hid ⟨fun h => absurd h (by omega), fun h => absurd h (by rw [← List.any_eq_true, HA.out]; decide)⟩, by omega, hbw⟩

theorem contains_check (a : Option Addr) (l : List Rc) (c : Nat) (w : World) (hI : IsRs w a l) (hlen : l.length ≤ 1099511627776) :
    Calls Try.prog 112 #[.slice a l.length c, .func (.func 111) #[] #[]] w fun e w' => e = .returned (.bool (l.any isCk)) ∧ Below w.heap.size w w' := by
  have hix := Lib.hid (index_check a l c w hI hlen)
  go_enter Try.func112, Try.ntmps112
  go_wp2_with (go_at_call 114; refine hix.out.mono ?_; rintro e w4 ⟨n, rfl, hn, hn1, hB4⟩)
  go_ret
  exact ⟨congrArg (fun q => Ending.returned (.bool q)) (show decide (0 ≤ n) = l.any isCk by rw [Bool.eq_iff_iff, decide_eq_true_iff]; exact hn.out), hB4⟩
end Go.Proofs.Ytdlbjllgdikadaa
