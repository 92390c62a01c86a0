/- log: Open, Blocks. -/
import Derived.Test.YtdlbjllgdikadaaLogF
namespace Go.Proofs.Ytdlbjllgdikadaa
open Go.RowKit
set_option linter.unusedVariables false
set_option linter.unusedSimpArgs false

theorem open_no (v0 : Value) (E : Nat) (hE : E ≠ 0) (w : World) (hf : Calls Try.prog 63 #[v0] w fun e w' => e = .returned (.tuple #[.slice none 0 0, .int .u64 0, .int .i64 (E : Int)]) ∧ Below w.heap.size w w') :
    Calls Try.prog 74 #[v0] w fun e w' => e = .returned (.tuple #[.pointer none, .int .i64 (E : Int)]) ∧ Below w.heap.size w w' := by
  have hEI : ((E : Int) != 0) = true := by rw [bne_iff_ne]; omega
  have Hf := Lib.hid hf
  clear hf
  go_enter Try.func74, Try.ntmps74
  go_wp2_with (go_at_call 63; refine Hf.out.mono ?_; rintro e w2 ⟨rfl, hB⟩)
  go_ret2
  exact ⟨rfl, hB⟩

def openG (N : Nat) (L : List Rc) : Lg := ⟨baseOf N L, N, L, [], 0, false⟩
set_option maxRecDepth 100000 in
theorem open_log (D b : Nat) (d : Dev) (L : List Rc) (N : Nat) (w : World) (h : DevAt w D b d) (hf : Calls Try.prog 63 #[.pointer (some ⟨D, 0, none⟩)] w fun e w' => ∃ v, e = .returned (.tuple #[v, .int .u64 (N : Int), .int .i64 0]) ∧ OwnRs w' w.heap.size v L ∧ Below w.heap.size w w')
    (hN : N < 18446744073709551616) (hL : ∀ r ∈ L, r.from_ < 18446744073709551616) :
    Calls Try.prog 74 #[.pointer (some ⟨D, 0, none⟩)] w fun e w' => ∃ X v1, e = .returned (.tuple #[.pointer (some ⟨X, 0, none⟩), .int .i64 0]) ∧ LogSt w' w.heap.size X D (openG N L) v1 (.slice none 0 0) ∧ DevAt w' D b d ∧ Below w.heap.size w w' ∧ w.heap.size ≤ X := by
  have Hf := Lib.hid hf
  have hset := Lib.hid (fun X v1 W h hO => settle_log w.heap.size X D ⟨0, N, L, [], 0, false⟩ v1 (.slice none 0 0) W h hO hN hL)
  clear hf
  go_enter Try.func74, Try.ntmps74
  go_upto_region 5 with (go_at_call 63; refine Hf.out.mono ?_; rintro e w2 ⟨v2, rfl, hO, hB⟩; obtain ⟨a2, c2, rfl, _⟩ := hO.slice)
  obtain ⟨w3, hw3⟩ : ∃ w3, w3 = w2.alloc (.cells #[.pointer (some ⟨D, 0, none⟩), .int .u64 0, .int .u64 (N : Int), .slice a2 L.length c2, .slice none 0 0, .int .i64 0, .bool false] 100) := ⟨_, rfl⟩
  have hb23 : Below w2.heap.size w2 w3 := by rw [hw3]; exact (Below.refl _ w2).alloc (Nat.le_refl _) _
  have hL3 : LogAt w3 w2.heap.size D ⟨0, N, L, [], 0, false⟩ (.slice a2 L.length c2) (.slice none 0 0) := by rw [hw3]; exact heap_alloc_new _ _
  have hO3 := hO.later hb23
  have hD3 := h.later (below_call hB (Nat.le_refl _) hb23)
  have hb3 := below_call hB (Nat.le_refl _) hb23
  have hX : w.heap.size ≤ w2.heap.size := hB.size
  have hDX : D ≠ w2.heap.size := by have := h.lt; omega
  have hbX : b ≠ w2.heap.size := by have := h.ltb; omega
  rw [← hw3]
  obtain ⟨X, hXe⟩ : ∃ X, X = w2.heap.size := ⟨_, rfl⟩
  rw [← hXe] at hL3 hX hDX hbX ⊢
  clear hw3 hXe hO h hB hb23
  go_wp2_with (go_at_call 101; refine (hset.out X _ w3 hL3 hO3).mono ?_; rintro e w4 ⟨rfl, hL4, hg4⟩)
  go_ret2
  have hO4 : OwnRs w4 w.heap.size (.slice a2 L.length c2) L := by
    obtain ⟨r, r1, r2, r3⟩ := hO3
    have hk : ∀ {B2 : Nat} {e : TypeId} {sz n : Nat} {v : Value} {xs : List Value}, w3.ownsRow B2 e sz v n xs → e ≠ 100 → w4.ownsRow B2 e sz v n xs := fun {B2 e sz n v xs} hp he => by
      refine World.ownsRow.kept hp hg4 ?_
      cases e1 : v.ownBlock with
      | none => exact .inl rfl
      | some q =>
        right
        intro e2
        injection e2 with e2
        obtain ⟨c1, f1, z1⟩ := Lib.ownsRow_kind hp q e1
        have h2 : w3.heap[X]? = _ := hL3
        rw [e2, h2] at z1
        simp at z1
        exact he z1.2.1.symm
    exact ⟨r, r1, hk r2 (by decide), fun p hp => hk (r3 p hp) (by decide)⟩
  exact ⟨X, _, rfl, ⟨hL4, hO4, OwnRs.nil _ _, fun q _ e => (nomatch e), hX⟩, hD3.kept hg4 (fun e => hDX (by injection e)) (fun e => hbX (by injection e)), hb3.grown hg4 hb3.size (fun q e => by injection e with e; omega), hX⟩

theorem blocks_log (n : Nat) (hn : n ≤ 9223372036854775807) (w : World) : Calls Try.prog 75 #[.int .i64 (n : Int)] w fun e w' => e = .returned (.int .i64 (manyN n : Nat)) ∧ w = w' := by
  have hm := Lib.hid (many_calls n hn w)
  go_enter Try.func75, Try.ntmps75
  go_wp2_with (go_at_call 27; refine hm.out.mono ?_; rintro e w2 ⟨rfl, rfl⟩)
  go_ret
  exact ⟨rfl, rfl⟩
end Go.Proofs.Ytdlbjllgdikadaa
