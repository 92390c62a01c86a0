/- log: Copy; varvelaw22.great, same, blocksSame. -/
import Derived.Test.YtdlbjllgdikadaaLogX
import Derived.Test.YtdlbjllgdikadaaRecordsA
import Derived.Test.YtdlbjllgdikadaaGrO
namespace Go.Proofs.Ytdlbjllgdikadaa
open Go.RowKit
set_option linter.unusedVariables false
set_option linter.unusedSimpArgs false

theorem LogAt.storedD {w : World} {X D D' : Nat} {g g' : Lg} {v1 v2 u1 u2 : Value} (h : LogAt w X D g v1 v2) (q : Nat) (u : Value) (hu : (g.cells D v1 v2).setIfInBounds q u = g'.cells D' u1 u2) : LogAt (w.setCell ⟨X, q, none⟩ u) X D' g' u1 u2 := by
  unfold LogAt at *
  rw [heap_setCell_same w X q _ 100 _ h, hu]
set_option maxRecDepth 100000 in
theorem copy_log (B X D D' : Nat) (g : Lg) (v1 v2 : Value) (w : World) (h : LogSt w B X D g v1 v2) (hok : LgOk g) :
    Calls Try.prog 73 #[.pointer (some ⟨X, 0, none⟩), .pointer (some ⟨D', 0, none⟩)] w fun e w' => ∃ X' v1' v2', e = .returned (.pointer (some ⟨X', 0, none⟩)) ∧ LogSt w' w.heap.size X' D' g v1' v2' ∧ w.heap.size ≤ X' ∧ Below w.heap.size w w' := by
  have c0 := h.at_.c0
  have c1 := h.at_.c1
  have c2 := h.at_.c2
  have c3 := h.at_.c3
  have c4 := h.at_.c4
  have c5 := h.at_.c5
  have c6 := h.at_.c6
  have hl1 := hok.l1
  have hl2 := hok.l2
  have hXl := h.at_.lt
  obtain ⟨wa, hwa⟩ : ∃ wa, wa = w.alloc (.cells (g.cells D v1 v2) 100) := ⟨_, rfl⟩
  have hba : Below w.heap.size w wa := by rw [hwa]; exact (Below.refl _ w).alloc (Nat.le_refl _) _
  have hN : LogAt wa w.heap.size D g v1 v2 := by rw [hwa]; exact heap_alloc_new _ _
  have hown1 := Lib.hid (fun W (hb : Below w.heap.size w W) => own_recs B v1 g.lasts W (h.o1.later hb) (by omega) (fun x hx => by have := (hok.b1 x hx).1; omega))
  have hown2 := Lib.hid (fun W (hb : Below w.heap.size w W) => own_recs B v2 g.waits W (h.o2.later hb) (by omega) (fun x hx => by have := (hok.b2 x hx).1; omega))
  have hat := Lib.hid (fun W (hb : Below w.heap.size w W) => h.at_.later hb)
  have hnon := Lib.hid (fun W h => none_log X D g v1 v2 W h)
  have h0 := h.at_
  obtain ⟨a1, q1, rfl, _⟩ := h.o1.slice
  obtain ⟨a2, q2, rfl, _⟩ := h.o2.slice
  clear h hok
  go_enter Try.func73, Try.ntmps73
  go_upto_region 4 with (go_at_call 97; refine (hnon.out _ h0).mono ?_; rintro e w2 ⟨rfl, rfl⟩)
  clear c0 c1 c2 c3 c4 c5 c6
  have HWA := Lib.hid hwa
  change Code.wp _ _ _ _ (w.alloc (.cells (g.cells D (.slice a1 g.lasts.length q1) (.slice a2 g.waits.length q2)) 100))
  rw [← hwa]
  clear hwa
  have hcl : LogAt wa.drew X D g (.slice a1 g.lasts.length q1) (.slice a2 g.waits.length q2) := hat.out _ (below_call hba (Nat.le_refl _) (Below.refl _ wa).drew)
  have hNd : LogAt wa.drew w.heap.size D g (.slice a1 g.lasts.length q1) (.slice a2 g.waits.length q2) := hN
  have e3 : ∀ x : SW (fun W => LogAt W X D g (.slice a1 g.lasts.length q1) (.slice a2 g.waits.length q2)), x.W.cell? ⟨X, 3, none⟩ = some (.slice a1 g.lasts.length q1) := fun x => x.h.c3
  have e4 : ∀ x : SW (fun W => LogAt W X D g (.slice a1 g.lasts.length q1) (.slice a2 g.waits.length q2)), x.W.cell? ⟨X, 4, none⟩ = some (.slice a2 g.waits.length q2) := fun x => x.h.c4
  have hne : Nonempty (SW (fun W => LogAt W X D g (.slice a1 g.lasts.length q1) (.slice a2 g.waits.length q2))) := ⟨⟨wa.drew, hcl⟩⟩
  have hXne : X ≠ w.heap.size := by omega
  have hbd : Below w.heap.size w wa.drew := below_call hba (Nat.le_refl _) (Below.refl _ wa).drew
  refine wp_region_seq2 (fun W => LogAt W X D g (.slice a1 g.lasts.length q1) (.slice a2 g.waits.length q2)) [(0, true), (1, true), (2, true), (3, true), (4, true), (6, true), (7, true), (8, true), (9, true), (5, false), (10, false), (11, true), (12, true), (13, false), (14, true), (15, false), (16, true), (17, false)] (by kernel_rfl) (by kernel_rfl) (fun d _ _ _ _ h => by cases d <;> exact h) (hcl) ?_
  repeat (first
    | ((with_reducible refine wpSeq_skip (o := ⟨_, _, _, _, _, _⟩) (by with_unfolding_all exact rfl) (by with_unfolding_all exact rfl) ?_); simp only [Act.put, List.setIfInBounds_toArray, List.set_cons_zero, List.set_cons_succ])
    | ((with_reducible refine wpSeq_free (o := ⟨_, _, _, _, _, _⟩) (by with_unfolding_all exact rfl) (by with_unfolding_all exact rfl) (fun K hK => ?_)); go_big_quiet_op; (refine hK _ ?_; clear hK K)))
  with_reducible refine wpSeq_next (o := ⟨_, _, _, _, _, _⟩) (by with_unfolding_all exact rfl) (by with_unfolding_all exact rfl) (fun K hK => ?_)
  go_simp
  go_at_call 102
  refine (hown1.out _ hbd).mono ?_
  rintro e w3 ⟨v3, rfl, hO3, hB3⟩
  obtain ⟨a3, c3, rfl, _⟩ := hO3.slice
  have hb3 := below_call hbd (Nat.le_refl _) hB3
  refine hK.out _ _ (hat.out _ hb3) ?_
  clear hK K
  repeat (first
    | ((with_reducible refine wpSeq_skip (o := ⟨_, _, _, _, _, _⟩) (by with_unfolding_all exact rfl) (by with_unfolding_all exact rfl) ?_); simp only [Act.put, List.setIfInBounds_toArray, List.set_cons_zero, List.set_cons_succ])
    | ((with_reducible refine wpSeq_free (o := ⟨_, _, _, _, _, _⟩) (by with_unfolding_all exact rfl) (by with_unfolding_all exact rfl) (fun K hK => ?_)); go_big_quiet_op; (refine hK _ ?_; clear hK K)))
  with_reducible refine wpSeq_next (o := ⟨_, _, _, _, _, _⟩) (by with_unfolding_all exact rfl) (by with_unfolding_all exact rfl) (fun K hK => ?_)
  go_simp
  go_at_call 102
  refine (hown2.out _ hb3).mono ?_
  rintro e w4 ⟨v4, rfl, hO4, hB4⟩
  obtain ⟨a4, c4, rfl, _⟩ := hO4.slice
  have hb4 := below_call hb3 (Nat.le_refl _) hB4
  have hN4 := (hNd.later hB3).later hB4
  have hN5 := hN4.storedD (g' := g) (D' := D') (u1 := .slice a1 g.lasts.length q1) (u2 := .slice a2 g.waits.length q2) 0 (.pointer (some ⟨D', 0, none⟩)) rfl
  have hN6 := hN5.storedD (g' := g) (D' := D') (u1 := .slice a3 g.lasts.length c3) (u2 := .slice a2 g.waits.length q2) 3 (.slice a3 g.lasts.length c3) rfl
  have hN7 := hN6.storedD (g' := g) (D' := D') (u1 := .slice a3 g.lasts.length c3) (u2 := .slice a4 g.waits.length c4) 4 (.slice a4 g.waits.length c4) rfl
  have k0 := hN4.c0
  have k3 := hN5.c3
  have k4 := hN6.c4
  have z0 := hN4.free 0
  have z3 := hN5.free 3
  have z4 := hN6.free 4
  have hs4 := hat.out _ hb4
  have hs5 := hs4.other ⟨w.heap.size, 0, none⟩ (.pointer (some ⟨D', 0, none⟩)) hXne
  have hs6 := hs5.other ⟨w.heap.size, 3, none⟩ (.slice a3 g.lasts.length c3) hXne
  have hs7 := hs6.other ⟨w.heap.size, 4, none⟩ (.slice a4 g.waits.length c4) hXne
  refine hK.out _ _ (hs4) ?_
  clear hK K
  repeat (first
    | ((with_reducible refine wpSeq_skip (o := ⟨_, _, _, _, _, _⟩) (by with_unfolding_all exact rfl) (by with_unfolding_all exact rfl) ?_); simp only [Act.put, List.setIfInBounds_toArray, List.set_cons_zero, List.set_cons_succ])
    | ((with_reducible refine wpSeq_free (o := ⟨_, _, _, _, _, _⟩) (by with_unfolding_all exact rfl) (by with_unfolding_all exact rfl) (fun K hK => ?_)); go_big_quiet_op; (refine hK _ ?_; clear hK K)))
  with_reducible refine wpSeq_next (o := ⟨_, _, _, _, _, _⟩) (by with_unfolding_all exact rfl) (by with_unfolding_all exact rfl) (fun K hK => ?_)
  go_simp
  refine hK.out _ _ (hs5) ?_
  clear hK K
  repeat (first
    | ((with_reducible refine wpSeq_skip (o := ⟨_, _, _, _, _, _⟩) (by with_unfolding_all exact rfl) (by with_unfolding_all exact rfl) ?_); simp only [Act.put, List.setIfInBounds_toArray, List.set_cons_zero, List.set_cons_succ])
    | ((with_reducible refine wpSeq_free (o := ⟨_, _, _, _, _, _⟩) (by with_unfolding_all exact rfl) (by with_unfolding_all exact rfl) (fun K hK => ?_)); go_big_quiet_op; (refine hK _ ?_; clear hK K)))
  with_reducible refine wpSeq_next (o := ⟨_, _, _, _, _, _⟩) (by with_unfolding_all exact rfl) (by with_unfolding_all exact rfl) (fun K hK => ?_)
  go_simp
  refine hK.out _ _ (hs6) ?_
  clear hK K
  repeat (first
    | ((with_reducible refine wpSeq_skip (o := ⟨_, _, _, _, _, _⟩) (by with_unfolding_all exact rfl) (by with_unfolding_all exact rfl) ?_); simp only [Act.put, List.setIfInBounds_toArray, List.set_cons_zero, List.set_cons_succ])
    | ((with_reducible refine wpSeq_free (o := ⟨_, _, _, _, _, _⟩) (by with_unfolding_all exact rfl) (by with_unfolding_all exact rfl) (fun K hK => ?_)); go_big_quiet_op; (refine hK _ ?_; clear hK K)))
  with_reducible refine wpSeq_next (o := ⟨_, _, _, _, _, _⟩) (by with_unfolding_all exact rfl) (by with_unfolding_all exact rfl) (fun K hK => ?_)
  go_simp
  refine hK.out _ _ (hs7) ?_
  clear hK K
  repeat (first
    | ((with_reducible refine wpSeq_skip (o := ⟨_, _, _, _, _, _⟩) (by with_unfolding_all exact rfl) (by with_unfolding_all exact rfl) ?_); simp only [Act.put, List.setIfInBounds_toArray, List.set_cons_zero, List.set_cons_succ])
    | ((with_reducible refine wpSeq_free (o := ⟨_, _, _, _, _, _⟩) (by with_unfolding_all exact rfl) (by with_unfolding_all exact rfl) (fun K hK => ?_)); go_big_quiet_op; (refine hK _ ?_; clear hK K)))
  refine wpSeq_nil ?_
  have hO37 := (((hO3.later hB4).other hN4 (by decide) (by decide) 0 (.pointer (some ⟨D', 0, none⟩))).other hN5 (by decide) (by decide) 3 (.slice a3 g.lasts.length c3)).other hN6 (by decide) (by decide) 4 (.slice a4 g.waits.length c4)
  have hO47 := ((hO4.other hN4 (by decide) (by decide) 0 (.pointer (some ⟨D', 0, none⟩))).other hN5 (by decide) (by decide) 3 (.slice a3 g.lasts.length c3)).other hN6 (by decide) (by decide) 4 (.slice a4 g.waits.length c4)
  have hfin : LogSt (((w4.setCell ⟨w.heap.size, 0, none⟩ (.pointer (some ⟨D', 0, none⟩))).setCell ⟨w.heap.size, 3, none⟩ (.slice a3 g.lasts.length c3)).setCell ⟨w.heap.size, 4, none⟩ (.slice a4 g.waits.length c4)) w.heap.size w.heap.size D' g (.slice a3 g.lasts.length c3) (.slice a4 g.waits.length c4) :=
    ⟨hN7, hO37.mono hbd.size, hO47.mono (Nat.le_trans hbd.size hB3.size), fun q e1 e2 => by have y1 := (hO3.blk q e1).2; have y2 := (hO4.blk q e2).1; omega, Nat.le_refl _⟩
  have hbf : Below w.heap.size w (((w4.setCell ⟨w.heap.size, 0, none⟩ (.pointer (some ⟨D', 0, none⟩))).setCell ⟨w.heap.size, 3, none⟩ (.slice a3 g.lasts.length c3)).setCell ⟨w.heap.size, 4, none⟩ (.slice a4 g.waits.length c4)) := ((hb4.setCell (p := ⟨w.heap.size, 0, none⟩) (Nat.le_refl _) _).setCell (p := ⟨w.heap.size, 3, none⟩) (Nat.le_refl _) _).setCell (p := ⟨w.heap.size, 4, none⟩) (Nat.le_refl _) _
  have HF := Lib.hid (And.intro hfin hbf)
  clear hfin hbf hO37 hO47
  go_wp2
  go_ret
  exact ⟨w.heap.size, _, _, rfl, HF.out.1, Nat.le_refl _, HF.out.2⟩

/-- Are there great calls? -/
def greatB (l : List POp) : Bool := l.any (fun o => decide (1500 < o.B.length)) || decide (60 < l.length)
theorem great_calls (a : Option Addr) (l : List POp) (c : Nat) (w : World) (hI : IsOps w a l) (hlen : l.length ≤ 9223372036854775807) :
    Calls Try.prog 77 #[.slice a l.length c] w fun e w' => e = .returned (.bool (greatB l)) ∧ w = w' := by
  go_enter Try.func77, Try.ntmps77
  go_wp2
  go_loopw [6] (fun iv wr => ∃ i : Nat, i ≤ l.length ∧ iv = .int .i64 (i : Int) ∧ (l.take i).any (fun o => decide (1500 < o.B.length)) = false ∧ w = wr) (fun iv _ => l.length - (intOf iv).toNat)
  case atStart => exact ⟨0, Nat.zero_le _, rfl, rfl, rfl⟩
  case round =>
    obtain ⟨i, hi, rfl, hany, rfl⟩ := hrel
    by_cases hlt : i < l.length
    · obtain ⟨o, b1, o1, ho, rfl, _, _, _, k3, _⟩ := hI.cellsAt i hlt
      have hiI : (i : Int) < (l.length : Int) := by omega
      have htk : (l.take (i + 1)).any (fun o => decide (1500 < o.B.length)) = decide (1500 < o.B.length) := by rw [List.take_add_one, List.any_append, hany, List.getElem?_eq_getElem hlt, ← ho]; simp
      have HX := Lib.hid (And.intro ho htk)
      clear ho htk hany
      by_cases hb : 1500 < o.B.length
      · have hbI : (1500 : Int) < (o.B.length : Int) := by omega
        have HB := Lib.hid hb
        clear hb
        go_wp2
        go_ret
        refine ⟨?_, rfl⟩
        have : greatB l = true := by
          unfold greatB
          rw [List.any_eq_true.2 ⟨o, by rw [HX.out.1]; exact List.getElem_mem hlt, decide_eq_true HB.out⟩]; rfl
        rw [this]; rfl
      · have hbI : ¬ (1500 : Int) < (o.B.length : Int) := by omega
        have HB := Lib.hid hb
        clear hb
        go_wp2
        go_roundw
        case rel => exact ⟨i + 1, by omega, by go_num, by rw [HX.out.2]; exact decide_eq_false HB.out, trivial⟩
        case measure => simp [intOf]; omega
    · have hie : i = l.length := by omega
      rw [hie, List.take_length] at hany
      have hiI : ¬ (i : Int) < (l.length : Int) := by omega
      have hg : greatB l = decide ((60 : Int) < (l.length : Int)) := by unfold greatB; rw [hany, Bool.false_or]; exact decide_eq_decide.2 (by omega)
      have HG := Lib.hid hg
      clear hany hg
      go_wp2
      go_ret
      exact ⟨by rw [HG.out]; first | rfl | simp, rfl⟩
end Go.Proofs.Ytdlbjllgdikadaa
