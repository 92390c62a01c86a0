/- Rounds of peers: known; such as are not there. -/
import Derived.Test.YtdlbjllgdikadabPeerE
namespace Go.Proofs.Ytdlbjllgdikadab
open Go.RowKit
set_option linter.unusedVariables false

def NoneAt (w : World) (p : Value) : Prop := p = .pointer none ∨ ∃ g, p = .pointer (some ⟨g, 0, none⟩) ∧ w.cell? ⟨g, 0, none⟩ = some (.int .i64 0)
theorem NoneAt.below {w w' : World} {p : Value} (h : NoneAt w p) (hb : Below w.heap.size w w') : NoneAt w' p := by
  rcases h with h | ⟨g, h, hc⟩
  · exact .inl h
  · exact .inr ⟨g, h, (hb.cell (p := ⟨g, 0, none⟩) (World.block_lt_of_cell? w _ hc)).trans hc⟩
theorem none_no (p : Value) (w : World) (h : NoneAt w p) : Calls Try.prog 21 #[p] w fun e w' => e = .returned (.bool true) ∧ w = w' := by
  rcases h with rfl | ⟨g, rfl, hc⟩
  · exact none_nil w
  · exact none_zero g w hc

theorem next_none (p : Value) (w : World) (h : NoneAt w p) : Calls Try.prog 9 #[p] w fun e w' => e = .returned (.tuple #[.int .i64 (-1), .bool false]) ∧ Below w.heap.size w w' := by
  have hn := none_no p _ (h.below ((Below.refl _ w).alloc (Nat.le_refl _) (.cells #[p] 23)))
  have HN := Lib.hid hn
  have hone : p.oneCell' = true := by rcases h with rfl | ⟨g, rfl, _⟩ <;> rfl
  clear hn
  rcases h with rfl | ⟨g, rfl, hc⟩
  all_goals
    go_enter Try.func9, Try.ntmps9
    go_wp2_with (go_at_call 21; refine HN.out.mono ?_; rintro e w2 ⟨rfl, rfl⟩)
    go_ret2
    exact ⟨rfl, (Below.refl _ _).alloc (Nat.le_refl _) _⟩
theorem tick_none (p : Value) (w : World) (h : NoneAt w p) : Calls Try.prog 10 #[p] w fun e w' => e = .returned (.slice none 0 0) ∧ w = w' := by
  have HN := Lib.hid (none_no p w h)
  go_enter Try.func10, Try.ntmps10
  go_wp2_with (go_at_call 21; refine HN.out.mono ?_; rintro e w2 ⟨rfl, rfl⟩)
  go_ret
  exact ⟨rfl, rfl⟩
theorem turn_none (p : Value) (i : Int) (good : Bool) (w : World) (h : NoneAt w p) : Calls Try.prog 25 #[p, .int .i64 i, .bool good] w fun e w' => e = .returned (.int .i64 1) ∧ w = w' := by
  have HN := Lib.hid (none_no p w h)
  go_enter Try.func25, Try.ntmps25
  go_wp2_with (go_at_call 21; refine HN.out.mono ?_; rintro e w2 ⟨rfl, rfl⟩)
  go_ret
  exact ⟨rfl, rfl⟩
theorem good_none (p : Value) (i : Int) (w : World) (h : NoneAt w p) : Calls Try.prog 11 #[p, .int .i64 i] w fun e w' => e = .returned (.int .i64 1) ∧ w = w' := by
  have HN := Lib.hid (turn_none p i true w h)
  go_enter Try.func11, Try.ntmps11
  go_wp2_with (go_at_call 25; refine HN.out.mono ?_; rintro e w2 ⟨rfl, rfl⟩)
  go_ret
  exact ⟨rfl, rfl⟩
theorem bad_none (p : Value) (i : Int) (w : World) (h : NoneAt w p) : Calls Try.prog 12 #[p, .int .i64 i] w fun e w' => e = .returned (.int .i64 1) ∧ w = w' := by
  have HN := Lib.hid (turn_none p i false w h)
  go_enter Try.func12, Try.ntmps12
  go_wp2_with (go_at_call 25; refine HN.out.mono ?_; rintro e w2 ⟨rfl, rfl⟩)
  go_ret
  exact ⟨rfl, rfl⟩
theorem hurry_none (p : Value) (i : Int) (w : World) (h : NoneAt w p) : Calls Try.prog 17 #[p, .int .i64 i] w fun e w' => e = .returned (.int .i64 1) ∧ w = w' := by
  have HN := Lib.hid (none_no p w h)
  go_enter Try.func17, Try.ntmps17
  go_wp2_with (go_at_call 21; refine HN.out.mono ?_; rintro e w2 ⟨rfl, rfl⟩)
  go_ret
  exact ⟨rfl, rfl⟩
theorem now_none (p : Value) (w : World) (h : NoneAt w p) : Calls Try.prog 18 #[p] w fun e w' => e = .returned (.int .u64 0) ∧ w = w' := by
  have HN := Lib.hid (none_no p w h)
  go_enter Try.func18, Try.ntmps18
  go_wp2_with (go_at_call 21; refine HN.out.mono ?_; rintro e w2 ⟨rfl, rfl⟩)
  go_ret
  exact ⟨rfl, rfl⟩
theorem copy_none (p : Value) (w : World) (h : NoneAt w p) : Calls Try.prog 15 #[p] w fun e w' => e = .returned (.pointer none) ∧ w = w' := by
  have HN := Lib.hid (none_no p w h)
  go_enter Try.func15, Try.ntmps15
  go_wp2_with (go_at_call 21; refine HN.out.mono ?_; rintro e w2 ⟨rfl, rfl⟩)
  go_ret
  exact ⟨rfl, rfl⟩
theorem look_none (p : Value) (i : Int) (w : World) (h : NoneAt w p) : Calls Try.prog 19 #[p, .int .i64 i] w fun e w' => e = .returned (.tuple #[stAgg St.none, .bool false]) ∧ Below w.heap.size w w' := by
  have HN := Lib.hid (none_no p _ (h.below ((Below.refl _ w).alloc (Nat.le_refl _) (.cells #[.int .u64 0, .int .i64 0, .bool false, .int .u64 0] 50))))
  go_enter Try.func19, Try.ntmps19
  go_wp2_with (go_at_call 21; refine HN.out.mono ?_; rintro e w2 ⟨rfl, rfl⟩)
  exact bodyPost_ret (v := .tuple #[stAgg St.none, .bool false]) (by simp [results, Try.results19, go_sem, stAgg, St.none]) rfl ⟨rfl, (Below.refl _ _).alloc (Nat.le_refl _) _⟩
end Go.Proofs.Ytdlbjllgdikadab
