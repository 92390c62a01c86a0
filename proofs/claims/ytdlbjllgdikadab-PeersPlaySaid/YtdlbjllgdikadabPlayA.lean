/- PeersPlay: Same, does. -/
import Derived.Test.YtdlbjllgdikadabRefS
import Derived.Test.YtdlbjllgdikadabFairA
namespace Go.Proofs.Ytdlbjllgdikadab
open Go.RowKit
set_option linter.unusedVariables false

def ReadN (w : World) (a : Option Addr) (l : List Nat) : Prop := ∀ i (hi : i < l.length), ∃ g, a = some ⟨g, 0, none⟩ ∧ w.cell? ⟨g, i, none⟩ = some (.int .i64 (l[i] : Int))

theorem readN_of {w : World} {a : Option Addr} {l : List Nat} {base : Nat} (h : ∀ i (hi : i < l.length), ∃ g, a = some ⟨g, 0, none⟩ ∧ base ≤ g ∧ w.cell? ⟨g, i, none⟩ = some (.int .i64 (l[i] : Int))) : ReadN w a l := fun i hi => by
  obtain ⟨q, z1, z2, z3⟩ := h i hi
  exact ⟨q, z1, z3⟩
theorem readN_aside {w w' : World} {a : Option Addr} {l : List Nat} {base V : Nat} (h : ∀ i (hi : i < l.length), ∃ g, a = some ⟨g, 0, none⟩ ∧ base ≤ g ∧ w.cell? ⟨g, i, none⟩ = some (.int .i64 (l[i] : Int))) (k : Aside [V] w w') (hV : V < base) : ReadN w' a l := fun i hi => by
  obtain ⟨q, z1, z2, z3⟩ := h i hi
  exact ⟨q, z1, (World.cell?_of_block (a := ⟨q, i, none⟩) (k.block q (World.block_lt_of_cell? w _ z3) (by simp; omega))).trans z3⟩

set_option maxRecDepth 100000 in
theorem same_calls (a1 a2 : Option Addr) (l : List Nat) (c1 c2 : Nat) (w : World) (h1 : ReadN w a1 l) (h2 : ReadN w a2 l) (hl : l.length ≤ 16) :
    Calls Try.prog 26 #[.slice a1 l.length c1, .slice a2 l.length c2] w fun e w' => e = .returned (.bool true) ∧ Aside [] w w' := by
  go_enter Try.func26, Try.ntmps26
  go_wp2
  go_loopw [5] (fun iv wr => ∃ (j q : Nat), j ≤ l.length ∧ iv = .int .i64 (j : Int) ∧ wr = w.drewN q) (fun iv _ => l.length - (intOf iv).toNat)
  case atStart => exact ⟨0, 0, Nat.zero_le _, rfl, rfl⟩
  case round =>
    obtain ⟨j, q, hj, rfl, rfl⟩ := hrel
    by_cases hlt : j < l.length
    · obtain ⟨g1, rfl, k1⟩ := h1 j hlt
      obtain ⟨g2, rfl, k2⟩ := h2 j hlt
      obtain ⟨x, hx⟩ : ∃ x, x = l[j] := ⟨_, rfl⟩
      rw [← hx] at k1 k2
      clear hx
      go_upto_region 6 with fail
      go_region
      go_wp2
      go_roundw
      case rel => exact ⟨j + 1, q + 1, by omega, by go_num, rfl⟩
      case measure => simp [intOf]; omega
    · obtain rfl : j = l.length := by omega
      go_wp2
      go_ret
      exact ⟨rfl, (Aside.refl _ _).drewN _⟩

/-- Both rounds, at the same point. -/
structure PW (w wr : World) (c g V G cap : Nat) (d : Rd) : Prop where
  rd : RdAt wr g d
  rf : RfAt wr V G cap d
  ok : RdOk c d
  bel : Below w.heap.size w wr
  lo : w.heap.size ≤ g ∧ w.heap.size ≤ V ∧ w.heap.size ≤ G
  ne : g ≠ V ∧ g ≠ G

theorem PW.later {w wr w2 : World} {c g V G cap : Nat} {d : Rd} (h : PW w wr c g V G cap d) (hb : Below wr.heap.size wr w2) : PW w w2 c g V G cap d :=
  ⟨h.rd.later hb, h.rf.later hb, h.ok, below_call h.bel (Nat.le_refl _) hb, h.lo, h.ne⟩
/-- The program's moves first, then the document's. -/
theorem PW.move {w wr w1 w2 : World} {c c2 g V G cap G2 cap2 : Nat} {d D : Rd} (h : PW w wr c g V G cap d) (h1 : RdAt w1 g D) (a1 : Aside [g] wr w1) (h2 : RfAt w2 V G2 cap2 D) (hG : G2 = G ∨ w1.heap.size ≤ G2) (a2 : Aside [V] w1 w2) (ok : RdOk c2 D) : PW w w2 c2 g V G2 cap2 D := by
  have hs := h.bel.size
  have hs1 := a1.size
  have hg := h1.lt
  refine ⟨h1.aside a2 (by simp; exact h.ne.1), h2, ok, ?_, ⟨h.lo.1, h.lo.2.1, ?_⟩, ⟨h.ne.1, ?_⟩⟩
  · exact (h.bel.trans (a1.toBelow (fun k hk => by simp at hk; rw [hk]; exact h.lo.1) hs)).trans (a2.toBelow (fun k hk => by simp at hk; rw [hk]; exact h.lo.2.1) (Nat.le_trans hs hs1))
  · rcases hG with rfl | hG
    · exact h.lo.2.2
    · omega
  · rcases hG with rfl | hG
    · exact h.ne.2
    · omega
/-- .. the document's round while the program's moves. -/
theorem PW.rf' {w wr w1 : World} {c g V G cap : Nat} {d : Rd} (h : PW w wr c g V G cap d) (a1 : Aside [g] wr w1) : RfAt w1 V G cap d :=
  h.rf.aside a1 (by simp; exact fun e => h.ne.1 e.symm) (by simp; exact fun e => h.ne.2 e.symm)

def DoesPost (w wr : World) (c g V : Nat) (d : Rd) (w' : World) : Prop := ∃ G' cap' d', PW w w' (c + 100) g V G' cap' d' ∧ d'.n = d.n ∧ d'.self = d.self ∧ Aside [g, V] wr w'

theorem Aside.left' {g V : Nat} {w w' : World} (h : Aside [g] w w') : Aside [g, V] w w' := h.mono (fun k hk => by simp at hk; simp [hk])
theorem Aside.right' {g V : Nat} {w w' : World} (h : Aside [V] w w') : Aside [g, V] w w' := h.mono (fun k hk => by simp at hk; simp [hk])
theorem tickTo_n (d : Rd) (m : Nat) : (tickTo d m).n = d.n ∧ (tickTo d m).self = d.self := ⟨rfl, rfl⟩

set_option maxRecDepth 100000 in
set_option maxHeartbeats 8000000 in
theorem does_calls (w wr0 : World) (c g V G cap : Nat) (d : Rd) (K N : Int) (h : PW w wr0 c g V G cap d) (hc : c ≤ 100000000) (hN : N ≤ 9223372036854775807) :
    Calls Try.prog 14 #[.pointer (some ⟨g, 0, none⟩), .pointer (some ⟨V, 0, none⟩), .agg #[.int .i64 K, .int .i64 N]] wr0 fun e w' => e = .returned (.bool true) ∧ DoesPost w wr0 c g V d w' := by
  have hgH : g < wr0.heap.size := h.rd.lt
  have hVH : V < wr0.heap.size := h.rf.lt
  have hGH : G < wr0.heap.size := h.rf.row.lt
  have b0 := heap_alloc_new wr0 (.cells #[.int .i64 K, .int .i64 N] 40)
  have hPb := Lib.hid (h.later ((Below.refl _ _).alloc (Nat.le_refl _) (.cells #[.int .i64 K, .int .i64 N] 40)))
  have p0 : (wr0.alloc (.cells #[.int .i64 K, .int .i64 N] 40)).cell? ⟨wr0.heap.size, 0, none⟩ = some (.int .i64 K) := by rw [cell_of_row _ _ 0 _ _ _ b0]; rfl
  have p1 : (wr0.alloc (.cells #[.int .i64 K, .int .i64 N] 40)).cell? ⟨wr0.heap.size, 1, none⟩ = some (.int .i64 N) := by rw [cell_of_row _ _ 1 _ _ _ b0]; rfl
  clear b0 h
  go_enter Try.func14, Try.ntmps14
  go_upto_region 2 with fail
  refine over_world (R := fun W => PW w W c g V G cap d ∧ Aside [g, V] wr0 W ∧ W.cell? ⟨wr0.heap.size, 0, none⟩ = some (.int .i64 K) ∧ W.cell? ⟨wr0.heap.size, 1, none⟩ = some (.int .i64 N)) ⟨hPb.out, Aside.below _ ((Below.refl _ _).alloc (Nat.le_refl _) _), p0, p1⟩ ?_
  clear hPb p0 p1
  obtain ⟨H, hH⟩ : ∃ H, H = wr0.heap.size := ⟨_, rfl⟩
  rw [← hH] at hgH hVH hGH ⊢
  clear hH
  rintro wb ⟨hPb, hAb, p0, p1⟩
  have hHlt := World.block_lt_of_cell? wb _ p1
  by_cases k1 : K = 1
  · subst k1
    have hmx : (if (0 : Int) < N then N else 0) % 100 = (if (0 : Int) < N then N else 0) % 100 := rfl
    obtain ⟨T, hT, hT100⟩ : ∃ T : Nat, (if (0 : Int) < N then N else 0) % 100 = (T : Int) ∧ T < 100 := by
      refine ⟨((if (0 : Int) < N then N else 0) % 100).toNat, ?_, ?_⟩ <;> split <;> omega
    clear hmx
    have HT := Lib.hid hT
    go_wp2
    all_goals
      clear hT
      go_loopw [19] (fun iv wq => ∃ (j G' cap' : Nat) (d' : Rd), j ≤ T ∧ iv = .int .i64 (j : Int) ∧ PW w wq (c + j) g V G' cap' d' ∧ d'.n = d.n ∧ d'.self = d.self ∧ Aside [g, V] wr0 wq) (fun iv _ => T - (intOf iv).toNat)
      case atStart => exact ⟨0, G, cap, d, Nat.zero_le _, rfl, hPb, rfl, rfl, hAb⟩
      case round =>
        clear hPb p0 p1 hAb
        obtain ⟨j, G1, cap1, d1, hj, rfl, hQ, hdn, hds, hAq⟩ := hrel
        by_cases hlt : j < T
        · have hlt' : (j : Int) < (T : Int) := by omega
          obtain ⟨e1, e2⟩ := tick_sixteen hQ.ok
          have ht1 := tick_rd g d1 (c + j) wr hQ.rd hQ.ok (by omega)
          have ht2 := fun W q => refTick_calls V G1 cap1 d1 (c + j) W q hQ.ok (by omega)
          rw [← e1, ← e2] at ht2
          have hlen := tickUp_len d1 16
          have hok2 : RdOk (c + (j + 1)) (tickTo d1 16) := tickTo_ok hQ.ok 16
          obtain ⟨L, hL⟩ : ∃ L, L = tickUp d1 16 := ⟨_, rfl⟩
          obtain ⟨D, hD⟩ : ∃ D, D = tickTo d1 16 := ⟨_, rfl⟩
          rw [← hL, ← hD] at ht1 ht2
          rw [← hL] at hlen
          rw [← hD] at hok2
          have hDn : D.n = d.n ∧ D.self = d.self := by rw [hD]; exact ⟨hdn, hds⟩
          have hVlt : V < wr.heap.size := hQ.rf.lt
          have H1 := Lib.hid ht1
          have H2 := Lib.hid ht2
          have H3 := Lib.hid (And.intro hok2 hDn)
          unfold RefPost at H2
          clear ht1 ht2 hL hD e1 e2 hok2 hDn hdn hds
          go_wp2_with (first
            | (go_at_call 10; refine H1.out.mono ?_; rintro e w1 ⟨v1, rfl, hO1, h1, a1⟩; obtain ⟨x1, cx1, rfl, hr1⟩ := hO1.slice; have rf1 := hQ.rf' a1)
            | (go_at_call 27; refine (H2.out _ rf1).mono ?_; rintro e w2 ⟨v2, rfl, hO2, G2, cap2, h2, hG2, a2⟩; obtain ⟨x2, cx2, rfl, hr2⟩ := hO2.slice; have hz1 := readN_aside hr1 a2 hVlt; have hz2 := readN_of hr2)
            | (go_at_call 26; refine (same_calls x1 x2 L cx1 cx2 w2 hz1 hz2 hlen).mono ?_; rintro e w3 ⟨rfl, a3⟩))
          go_roundw
          case rel =>
            have hm := hQ.move h1 a1 h2 hG2 a2 H3.out.1
            exact ⟨j + 1, G2, cap2, D, by omega, by go_num, hm.later (a3.toBelow (fun k hk => by cases hk) (Nat.le_refl _)), H3.out.2.1, H3.out.2.2, ((hAq.trans a1.left').trans a2.right').trans (a3.mono (fun k hk => by cases hk))⟩
          case measure => simp [intOf]; omega
        · obtain rfl : j = T := by omega
          have hok2 := hQ.ok.mono (c' := c + 100) (by omega)
          go_wp2
          go_ret
          exact ⟨rfl, G1, cap1, d1, ⟨hQ.rd, hQ.rf, hok2, hQ.bel, hQ.lo, hQ.ne⟩, hdn, hds, hAq⟩
  · by_cases k2 : K = 2
    · subst k2
      obtain ⟨r, hr⟩ := next_exists d
      have hn1 := Lib.hid (next_rd g d c wb hPb.rd hPb.ok r hr)
      have HN2 := Lib.hid (fun W q => refNext_calls V G cap d c W q hPb.ok r hr)
      have hok2 := (hPb.ok.next hr).mono (c' := c + 100) (by omega)
      go_wp2_with (first
        | (go_at_call 9; refine hn1.out.mono ?_; rintro e w1 ⟨rfl, h1, a1⟩; have rf1 := hPb.rf' a1)
        | (go_at_call 28; refine (HN2.out _ rf1).mono ?_; rintro e w2 ⟨rfl, G2, cap2, h2, hG2, a2⟩))
      go_ret
      exact ⟨rfl, G2, cap2, _, hPb.move h1 a1 h2 hG2 a2 hok2, (nextD_n d r).1, (nextD_n d r).2, (hAb.trans a1.left').trans a2.right'⟩
    · by_cases k3 : K = 3
      · subst k3
        have hE1 := fun W (q : RdAt W g d) => good_rd g d N c W q hPb.ok (by omega)
        have hE2 := fun W (q : RfAt W V G cap d) => refTurn_calls V G cap d N true c W q hPb.ok (by omega)
        unfold TurnPost at hE1
        obtain ⟨D, hD⟩ : ∃ D, D = turnD d N true := ⟨_, rfl⟩
        obtain ⟨m, hm⟩ : ∃ m, m = turnE d N := ⟨_, rfl⟩
        rw [← hm, ← hD] at hE1
        rw [← hm, ← hD] at hE2
        have hDn : D.n = d.n ∧ D.self = d.self := by rw [hD]; unfold turnD; split <;> exact ⟨rfl, rfl⟩
        have hok2 : RdOk (c + 100) D := by rw [hD]; exact (hPb.ok.turn N true).mono (by omega)
        have H1 := Lib.hid hE1
        have H2 := Lib.hid hE2
        have H3 := Lib.hid (And.intro hDn hok2)
        clear hE1 hE2 hD hm hDn hok2
        go_upto_region 15 with fail
        have hne : Nonempty (SW (fun W => W.cell? ⟨H, 1, none⟩ = some (.int .i64 N))) := ⟨⟨wb, p1⟩⟩
        have q1 : ∀ x : SW (fun W => W.cell? ⟨H, 1, none⟩ = some (.int .i64 N)), x.W.cell? ⟨H, 1, none⟩ = some (.int .i64 N) := fun x => x.h
        refine wp_region_seq2 (fun W => W.cell? ⟨H, 1, none⟩ = some (.int .i64 N)) [(0, true), (1, true), (2, true), (4, true), (5, true), (6, true), (3, false), (7, false), (8, true), (9, true)] (by kernel_rfl) (by kernel_rfl) (fun d _ _ _ _ h => by cases d <;> exact h) (p1) ?_
        repeat (first
          | ((with_reducible refine wpSeq_skip (o := ⟨_, _, _, _, _, _⟩) (by with_unfolding_all exact rfl) (by with_unfolding_all exact rfl) ?_); simp only [Act.put, List.setIfInBounds_toArray, List.set_cons_zero, List.set_cons_succ])
          | ((with_reducible refine wpSeq_free (o := ⟨_, _, _, _, _, _⟩) (by with_unfolding_all exact rfl) (by with_unfolding_all exact rfl) (fun K hK => ?_)); go_big_quiet_op; (refine hK _ ?_; clear hK K)))
        with_reducible refine wpSeq_next (o := ⟨_, _, _, _, _, _⟩) (by with_unfolding_all exact rfl) (by with_unfolding_all exact rfl) (fun K hK => ?_)
        go_simp
        go_at_call 11
        refine (H1.out wb.drew hPb.rd).mono ?_
        rintro e w1 ⟨rfl, h1, g1⟩
        have a1 : Aside [g] wb w1 := Aside.grown (w := wb) ⟨g1.os, g1.tape, g1.output, g1.size, g1.block⟩ (fun k hk _ => by injection hk with hk; simp [hk])
        have rf1 := hPb.rf' a1
        have c1 : w1.cell? ⟨H, 1, none⟩ = some (.int .i64 N) := (World.cell?_of_block (a := ⟨H, 1, none⟩) (a1.block H hHlt (by simp; omega))).trans p1
        refine hK.out _ _ (c1) ?_
        clear hK K
        repeat (first
          | ((with_reducible refine wpSeq_skip (o := ⟨_, _, _, _, _, _⟩) (by with_unfolding_all exact rfl) (by with_unfolding_all exact rfl) ?_); simp only [Act.put, List.setIfInBounds_toArray, List.set_cons_zero, List.set_cons_succ])
          | ((with_reducible refine wpSeq_free (o := ⟨_, _, _, _, _, _⟩) (by with_unfolding_all exact rfl) (by with_unfolding_all exact rfl) (fun K hK => ?_)); go_big_quiet_op; (refine hK _ ?_; clear hK K)))
        with_reducible refine wpSeq_next (o := ⟨_, _, _, _, _, _⟩) (by with_unfolding_all exact rfl) (by with_unfolding_all exact rfl) (fun K hK => ?_)
        go_simp
        go_at_call 29
        refine (H2.out _ rf1).mono ?_
        rintro e w2 ⟨rfl, G2, cap2, h2, hG2, a2⟩
        refine hK.out _ _ ((World.cell?_of_block (a := ⟨H, 1, none⟩) (a2.block H (Nat.lt_of_lt_of_le hHlt a1.size) (by simp; omega))).trans c1) ?_
        clear hK K
        repeat (first
          | ((with_reducible refine wpSeq_skip (o := ⟨_, _, _, _, _, _⟩) (by with_unfolding_all exact rfl) (by with_unfolding_all exact rfl) ?_); simp only [Act.put, List.setIfInBounds_toArray, List.set_cons_zero, List.set_cons_succ])
          | ((with_reducible refine wpSeq_free (o := ⟨_, _, _, _, _, _⟩) (by with_unfolding_all exact rfl) (by with_unfolding_all exact rfl) (fun K hK => ?_)); go_big_quiet_op; (refine hK _ ?_; clear hK K)))
        refine wpSeq_nil ?_
        go_wp2
        go_ret
        exact ⟨rfl, G2, cap2, D, hPb.move h1 a1 h2 hG2 a2 H3.out.2, H3.out.1.1, H3.out.1.2, (hAb.trans a1.left').trans a2.right'⟩
      · by_cases k4 : K = 4
        · subst k4
          have hE1 := fun W (q : RdAt W g d) => bad_rd g d N c W q hPb.ok (by omega)
          have hE2 := fun W (q : RfAt W V G cap d) => refTurn_calls V G cap d N false c W q hPb.ok (by omega)
          unfold TurnPost at hE1
          obtain ⟨D, hD⟩ : ∃ D, D = turnD d N false := ⟨_, rfl⟩
          obtain ⟨m, hm⟩ : ∃ m, m = turnE d N := ⟨_, rfl⟩
          rw [← hm, ← hD] at hE1
          rw [← hm, ← hD] at hE2
          have hDn : D.n = d.n ∧ D.self = d.self := by rw [hD]; unfold turnD; split <;> exact ⟨rfl, rfl⟩
          have hok2 : RdOk (c + 100) D := by rw [hD]; exact (hPb.ok.turn N false).mono (by omega)
          have H1 := Lib.hid hE1
          have H2 := Lib.hid hE2
          have H3 := Lib.hid (And.intro hDn hok2)
          clear hE1 hE2 hD hm hDn hok2
          go_upto_region 16 with fail
          have hne : Nonempty (SW (fun W => W.cell? ⟨H, 1, none⟩ = some (.int .i64 N))) := ⟨⟨wb, p1⟩⟩
          have q1 : ∀ x : SW (fun W => W.cell? ⟨H, 1, none⟩ = some (.int .i64 N)), x.W.cell? ⟨H, 1, none⟩ = some (.int .i64 N) := fun x => x.h
          refine wp_region_seq2 (fun W => W.cell? ⟨H, 1, none⟩ = some (.int .i64 N)) [(0, true), (1, true), (2, true), (4, true), (5, true), (6, true), (3, false), (7, false), (8, true), (9, true)] (by kernel_rfl) (by kernel_rfl) (fun d _ _ _ _ h => by cases d <;> exact h) (p1) ?_
          repeat (first
            | ((with_reducible refine wpSeq_skip (o := ⟨_, _, _, _, _, _⟩) (by with_unfolding_all exact rfl) (by with_unfolding_all exact rfl) ?_); simp only [Act.put, List.setIfInBounds_toArray, List.set_cons_zero, List.set_cons_succ])
            | ((with_reducible refine wpSeq_free (o := ⟨_, _, _, _, _, _⟩) (by with_unfolding_all exact rfl) (by with_unfolding_all exact rfl) (fun K hK => ?_)); go_big_quiet_op; (refine hK _ ?_; clear hK K)))
          with_reducible refine wpSeq_next (o := ⟨_, _, _, _, _, _⟩) (by with_unfolding_all exact rfl) (by with_unfolding_all exact rfl) (fun K hK => ?_)
          go_simp
          go_at_call 12
          refine (H1.out wb.drew hPb.rd).mono ?_
          rintro e w1 ⟨rfl, h1, g1⟩
          have a1 : Aside [g] wb w1 := Aside.grown (w := wb) ⟨g1.os, g1.tape, g1.output, g1.size, g1.block⟩ (fun k hk _ => by injection hk with hk; simp [hk])
          have rf1 := hPb.rf' a1
          have c1 : w1.cell? ⟨H, 1, none⟩ = some (.int .i64 N) := (World.cell?_of_block (a := ⟨H, 1, none⟩) (a1.block H hHlt (by simp; omega))).trans p1
          refine hK.out _ _ (c1) ?_
          clear hK K
          repeat (first
            | ((with_reducible refine wpSeq_skip (o := ⟨_, _, _, _, _, _⟩) (by with_unfolding_all exact rfl) (by with_unfolding_all exact rfl) ?_); simp only [Act.put, List.setIfInBounds_toArray, List.set_cons_zero, List.set_cons_succ])
            | ((with_reducible refine wpSeq_free (o := ⟨_, _, _, _, _, _⟩) (by with_unfolding_all exact rfl) (by with_unfolding_all exact rfl) (fun K hK => ?_)); go_big_quiet_op; (refine hK _ ?_; clear hK K)))
          with_reducible refine wpSeq_next (o := ⟨_, _, _, _, _, _⟩) (by with_unfolding_all exact rfl) (by with_unfolding_all exact rfl) (fun K hK => ?_)
          go_simp
          go_at_call 29
          refine (H2.out _ rf1).mono ?_
          rintro e w2 ⟨rfl, G2, cap2, h2, hG2, a2⟩
          refine hK.out _ _ ((World.cell?_of_block (a := ⟨H, 1, none⟩) (a2.block H (Nat.lt_of_lt_of_le hHlt a1.size) (by simp; omega))).trans c1) ?_
          clear hK K
          repeat (first
            | ((with_reducible refine wpSeq_skip (o := ⟨_, _, _, _, _, _⟩) (by with_unfolding_all exact rfl) (by with_unfolding_all exact rfl) ?_); simp only [Act.put, List.setIfInBounds_toArray, List.set_cons_zero, List.set_cons_succ])
            | ((with_reducible refine wpSeq_free (o := ⟨_, _, _, _, _, _⟩) (by with_unfolding_all exact rfl) (by with_unfolding_all exact rfl) (fun K hK => ?_)); go_big_quiet_op; (refine hK _ ?_; clear hK K)))
          refine wpSeq_nil ?_
          go_wp2
          go_ret
          exact ⟨rfl, G2, cap2, D, hPb.move h1 a1 h2 hG2 a2 H3.out.2, H3.out.1.1, H3.out.1.2, (hAb.trans a1.left').trans a2.right'⟩
        · by_cases k5 : K = 5
          · subst k5
            have hE1 := fun W (q : RdAt W g d) => hurry_rd g d N c W q hPb.ok
            have hE2 := fun W (q : RfAt W V G cap d) => refHurry_calls V G cap d N c W q hPb.ok
            unfold HurryPost at hE1
            obtain ⟨D, hD⟩ : ∃ D, D = hurryD d N := ⟨_, rfl⟩
            obtain ⟨m, hm⟩ : ∃ m, m = hurryE d N := ⟨_, rfl⟩
            rw [← hm, ← hD] at hE1
            rw [← hm, ← hD] at hE2
            have hDn : D.n = d.n ∧ D.self = d.self := by rw [hD]; unfold hurryD; split <;> exact ⟨rfl, rfl⟩
            have hok2 : RdOk (c + 100) D := by rw [hD]; exact (hPb.ok.hurry N).mono (by omega)
            have H1 := Lib.hid hE1
            have H2 := Lib.hid hE2
            have H3 := Lib.hid (And.intro hDn hok2)
            clear hE1 hE2 hD hm hDn hok2
            go_upto_region 18 with fail
            have hne : Nonempty (SW (fun W => W.cell? ⟨H, 1, none⟩ = some (.int .i64 N))) := ⟨⟨wb, p1⟩⟩
            have q1 : ∀ x : SW (fun W => W.cell? ⟨H, 1, none⟩ = some (.int .i64 N)), x.W.cell? ⟨H, 1, none⟩ = some (.int .i64 N) := fun x => x.h
            refine wp_region_seq2 (fun W => W.cell? ⟨H, 1, none⟩ = some (.int .i64 N)) [(0, true), (1, true), (2, true), (4, true), (5, true), (6, true), (3, false), (7, false), (8, true), (9, true)] (by kernel_rfl) (by kernel_rfl) (fun d _ _ _ _ h => by cases d <;> exact h) (p1) ?_
            repeat (first
              | ((with_reducible refine wpSeq_skip (o := ⟨_, _, _, _, _, _⟩) (by with_unfolding_all exact rfl) (by with_unfolding_all exact rfl) ?_); simp only [Act.put, List.setIfInBounds_toArray, List.set_cons_zero, List.set_cons_succ])
              | ((with_reducible refine wpSeq_free (o := ⟨_, _, _, _, _, _⟩) (by with_unfolding_all exact rfl) (by with_unfolding_all exact rfl) (fun K hK => ?_)); go_big_quiet_op; (refine hK _ ?_; clear hK K)))
            with_reducible refine wpSeq_next (o := ⟨_, _, _, _, _, _⟩) (by with_unfolding_all exact rfl) (by with_unfolding_all exact rfl) (fun K hK => ?_)
            go_simp
            go_at_call 17
            refine (H1.out wb.drew hPb.rd).mono ?_
            rintro e w1 ⟨rfl, h1, g1⟩
            have a1 : Aside [g] wb w1 := Aside.grown (w := wb) ⟨g1.os, g1.tape, g1.output, g1.size, g1.block⟩ (fun k hk _ => by injection hk with hk; simp [hk])
            have rf1 := hPb.rf' a1
            have c1 : w1.cell? ⟨H, 1, none⟩ = some (.int .i64 N) := (World.cell?_of_block (a := ⟨H, 1, none⟩) (a1.block H hHlt (by simp; omega))).trans p1
            refine hK.out _ _ (c1) ?_
            clear hK K
            repeat (first
              | ((with_reducible refine wpSeq_skip (o := ⟨_, _, _, _, _, _⟩) (by with_unfolding_all exact rfl) (by with_unfolding_all exact rfl) ?_); simp only [Act.put, List.setIfInBounds_toArray, List.set_cons_zero, List.set_cons_succ])
              | ((with_reducible refine wpSeq_free (o := ⟨_, _, _, _, _, _⟩) (by with_unfolding_all exact rfl) (by with_unfolding_all exact rfl) (fun K hK => ?_)); go_big_quiet_op; (refine hK _ ?_; clear hK K)))
            with_reducible refine wpSeq_next (o := ⟨_, _, _, _, _, _⟩) (by with_unfolding_all exact rfl) (by with_unfolding_all exact rfl) (fun K hK => ?_)
            go_simp
            go_at_call 30
            refine (H2.out _ rf1).mono ?_
            rintro e w2 ⟨rfl, G2, cap2, h2, hG2, a2⟩
            refine hK.out _ _ ((World.cell?_of_block (a := ⟨H, 1, none⟩) (a2.block H (Nat.lt_of_lt_of_le hHlt a1.size) (by simp; omega))).trans c1) ?_
            clear hK K
            repeat (first
              | ((with_reducible refine wpSeq_skip (o := ⟨_, _, _, _, _, _⟩) (by with_unfolding_all exact rfl) (by with_unfolding_all exact rfl) ?_); simp only [Act.put, List.setIfInBounds_toArray, List.set_cons_zero, List.set_cons_succ])
              | ((with_reducible refine wpSeq_free (o := ⟨_, _, _, _, _, _⟩) (by with_unfolding_all exact rfl) (by with_unfolding_all exact rfl) (fun K hK => ?_)); go_big_quiet_op; (refine hK _ ?_; clear hK K)))
            refine wpSeq_nil ?_
            go_wp2
            go_ret
            exact ⟨rfl, G2, cap2, D, hPb.move h1 a1 h2 hG2 a2 H3.out.2, H3.out.1.1, H3.out.1.2, (hAb.trans a1.left').trans a2.right'⟩
          · have e1 : (K == 1) = false := by rw [beq_eq_false_iff_ne]; exact k1
            have e2 : (K == 2) = false := by rw [beq_eq_false_iff_ne]; exact k2
            have e3 : (K == 3) = false := by rw [beq_eq_false_iff_ne]; exact k3
            have e4 : (K == 4) = false := by rw [beq_eq_false_iff_ne]; exact k4
            have e5 : (K == 5) = false := by rw [beq_eq_false_iff_ne]; exact k5
            have hok2 := hPb.ok.mono (c' := c + 100) (by omega)
            clear k1 k2 k3 k4 k5
            go_wp2
            go_ret
            exact ⟨rfl, G, cap, d, ⟨hPb.rd, hPb.rf, hok2, hPb.bel, hPb.lo, hPb.ne⟩, rfl, rfl, hAb⟩
end Go.Proofs.Ytdlbjllgdikadab
