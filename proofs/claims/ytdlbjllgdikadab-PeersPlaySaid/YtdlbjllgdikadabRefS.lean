/- The document's round of peers: Next. -/
import Derived.Test.YtdlbjllgdikadabRefR
import Derived.Deep.QuietTactic
namespace Go.Proofs.Ytdlbjllgdikadab
open Go.RowKit
set_option linter.unusedVariables false

def farI (d : Rd) : Option Nat → Int
  | none => 0
  | some b => (dist d b : Int)

theorem Sts.standing {w : World} {G n : Nat} {f : Nat → St} (h : Sts w G n f) (i : Nat) (hi : i < n) : ∀ j v, (stCells (f i))[j]? = some v → w.cell? ((⟨G, i * 4, none⟩ : Addr).add j) = some v := by
  intro j v hv
  rw [Addr.add_lit]
  match j with
  | 0 => rw [h.cell i hi 0 (by decide)]; simpa [stCells, stCell] using hv
  | 1 => rw [h.cell i hi 1 (by decide)]; simpa [stCells, stCell] using hv
  | 2 => rw [h.cell i hi 2 (by decide)]; simpa [stCells, stCell] using hv
  | 3 => rw [h.cell i hi 3 (by decide)]; simpa [stCells, stCell] using hv
  | n + 4 => simp [stCells] at hv

theorem refIs' (V G cap : Nat) (d : Rd) (i : Int) (v : Bool) (hv : isP d i = v) (w : World) (h : RfAt w V G cap d) : Calls Try.prog 20 #[.pointer (some ⟨V, 0, none⟩), .int .i64 i] w fun e w' => e = .returned (.bool v) ∧ w' = w :=
  (refIs_calls V G cap d i w h).mono fun _ _ ⟨h1, h2⟩ => ⟨by rw [h1, hv], h2.symm⟩

set_option maxRecDepth 100000 in
set_option maxHeartbeats 16000000 in
theorem refNext_calls (V G cap : Nat) (d : Rd) (c : Nat) (w : World) (h : RfAt w V G cap d) (hok : RdOk c d) (r : Option Nat) (hr : IsNext d r) :
    Calls Try.prog 28 #[.pointer (some ⟨V, 0, none⟩)] w fun e w' => e = .returned (.tuple #[.int .i64 (nextI r), .bool r.isSome]) ∧ RefPost V G (nextD d r) w w' := by
  have hl := hok.last
  have hn2 := hok.n2
  have hn16 := hok.n16
  go_enter Try.func28, Try.ntmps28
  go_wp2
  go_loopw [4, 5, 6] (fun bv fv st wr => ∃ (m : Nat) (q : Option Nat), m ≤ d.n ∧ bv = .int .i64 (nextI q) ∧ fv = .int .i64 (farI d q) ∧ st = .int .i64 (m : Int) ∧ NextLow d m q ∧ RfAt wr V G cap d ∧ Below w.heap.size w wr) (fun _ _ st _ => d.n - (intOf st).toNat)
  case atStart => exact ⟨0, none, Nat.zero_le _, rfl, rfl, rfl, NextLow.zero d, h, Below.refl _ _⟩
  case round =>
    clear h
    obtain ⟨m, q, hm, rfl, rfl, rfl, hq, hR, hB⟩ := hrel
    have c0 := hR.c0
    by_cases hlt : m < d.n
    · have hlt' : (m : Int) < (d.n : Int) := by omega
      have c4 := hR.c4
      have hst := Lib.hid (hR.row.standing m hlt)
      go_upto_region 7 with (first
        | (refine wpList_load_st rfl (.tmp 22) rfl ⟨G, m * 4, none⟩ rfl (d.by_ m) hst.out ?_)
        | (refine wpList_store_st rfl (.tmp 7) (.tmp 23) rfl wr.heap.size St.none (d.by_ m) rfl rfl (StAt.made wr) ?_; intro w4 hs4 hg4))
      have hB4 := ((Below.refl _ wr).alloc (Nat.le_refl _) (.cells #[.int .u64 0, .int .i64 0, .bool false, .int .u64 0] 50)).grown hg4 (by simp) (fun k hk => by cases hk; exact Nat.le_refl _)
      obtain ⟨H, hH⟩ : ∃ H, H = wr.heap.size := ⟨_, rfl⟩
      have hs5 : StAt w4 H (d.by_ m) := by rw [hH]; exact hs4
      rw [← hH]
      have hR4 := hR.later hB4
      have hB5 := below_call hB (Nat.le_refl _) hB4
      clear hs4 hg4 hB4 hR hB c0 c4 hst hH
      obtain ⟨s, hs⟩ : ∃ s, s = d.by_ m := ⟨_, rfl⟩
      rw [← hs] at hs5
      have HS := Lib.hid hs
      clear hs
      have x2 := hs5.c2
      have x0 := hs5.c0
      have c3 := hR4.c3
      simp only [Act.put]
      cases hp : isP d m with
      | false =>
        have his := refIs' V G cap d m false hp
        have hnr : ¬ ready d m := fun e => by
          have := (isP_iff d m).2 ⟨by omega, by omega, by have := e.2.1; omega⟩
          rw [hp] at this
          cases this
        clear hp
        have hne : Nonempty (SW (fun W => W.cell? ⟨H, 2, none⟩ = some (.bool s.busy))) := ⟨⟨w4, x2⟩⟩
        refine wp_region_seq2 (fun W => W.cell? ⟨H, 2, none⟩ = some (.bool s.busy)) [(0, true), (1, true), (2, false), (3, true), (4, true), (5, true), (6, true), (7, true), (8, true), (9, true), (10, true), (11, true), (12, true), (13, true), (14, true), (15, true), (16, true)] (by kernel_rfl) (by kernel_rfl) (fun d _ _ _ _ h => by cases d <;> exact h) (x2) ?_
        repeat (first
          | ((with_reducible refine wpSeq_skip (o := ⟨_, _, _, _, _, _⟩) (by with_unfolding_all exact rfl) (by with_unfolding_all exact rfl) ?_); simp only [Act.put, List.setIfInBounds_toArray, List.set_cons_zero, List.set_cons_succ])
          | ((with_reducible refine wpSeq_free (o := ⟨_, _, _, _, _, _⟩) (by with_unfolding_all exact rfl) (by with_unfolding_all exact rfl) (fun K hK => ?_)); go_big_quiet_op; (refine hK _ ?_; clear hK K)))
        with_reducible refine wpSeq_next (o := ⟨_, _, _, _, _, _⟩) (by with_unfolding_all exact rfl) (by with_unfolding_all exact rfl) (fun K hK => ?_)
        go_simp
        go_at_call 20
        refine (his _ hR4.drew).mono ?_
        rintro e w' ⟨rfl, rfl⟩
        refine hK.out _ _ (x2) ?_
        clear hK K
        repeat (first
          | ((with_reducible refine wpSeq_skip (o := ⟨_, _, _, _, _, _⟩) (by with_unfolding_all exact rfl) (by with_unfolding_all exact rfl) ?_); simp only [Act.put, List.setIfInBounds_toArray, List.set_cons_zero, List.set_cons_succ])
          | ((with_reducible refine wpSeq_free (o := ⟨_, _, _, _, _, _⟩) (by with_unfolding_all exact rfl) (by with_unfolding_all exact rfl) (fun K hK => ?_)); go_big_quiet_op; (refine hK _ ?_; clear hK K)))
        refine wpSeq_nil ?_
        go_wp2
        go_roundw
        case rel => exact ⟨m + 1, q, by omega, rfl, rfl, by go_num, hq.leave (fun e => hnr e.1), hR4.drew, hB5.drew⟩
        case measure => simp [intOf]; omega
      | true =>
        have his := refIs' V G cap d m true hp
        have hself : m ≠ d.self := by have := (isP_iff d m).1 hp; omega
        clear hp
        obtain ⟨su, sf, sb, ss⟩ := s
        have hne : Nonempty (SW (fun W => RfAt W V G cap d ∧ StAt W H ⟨su, sf, sb, ss⟩)) := ⟨⟨w4, hR4, hs5⟩⟩
        have p2 : ∀ x : SW (fun W => RfAt W V G cap d ∧ StAt W H ⟨su, sf, sb, ss⟩), x.W.cell? ⟨H, 2, none⟩ = some (.bool sb) := fun x => x.h.2.c2
        have p0 : ∀ x : SW (fun W => RfAt W V G cap d ∧ StAt W H ⟨su, sf, sb, ss⟩), x.W.cell? ⟨H, 0, none⟩ = some (.int .u64 (su : Int)) := fun x => x.h.2.c0
        have p3 : ∀ x : SW (fun W => RfAt W V G cap d ∧ StAt W H ⟨su, sf, sb, ss⟩), x.W.cell? ⟨V, 3, none⟩ = some (.int .u64 (d.now : Int)) := fun x => x.h.1.c3
        cases sb with
        | true =>
          have hnr : ¬ ready d m := fun e => by have := e.2.2.1; rw [← HS.out] at this; cases this
          refine wp_region_seq2 (fun W => RfAt W V G cap d ∧ StAt W H ⟨su, sf, true, ss⟩) [(0, true), (1, true), (2, false), (3, true), (4, true), (5, true), (6, true), (7, true), (8, true), (9, true), (10, true), (11, true), (12, true), (13, true), (14, true), (15, true), (16, true)] (by kernel_rfl) (by kernel_rfl) (fun d _ _ _ _ h => by cases d <;> exact h) (⟨hR4.drew, hs5⟩) ?_
          repeat (first
            | ((with_reducible refine wpSeq_skip (o := ⟨_, _, _, _, _, _⟩) (by with_unfolding_all exact rfl) (by with_unfolding_all exact rfl) ?_); simp only [Act.put, List.setIfInBounds_toArray, List.set_cons_zero, List.set_cons_succ])
            | ((with_reducible refine wpSeq_free (o := ⟨_, _, _, _, _, _⟩) (by with_unfolding_all exact rfl) (by with_unfolding_all exact rfl) (fun K hK => ?_)); go_big_quiet_op; (refine hK _ ?_; clear hK K)))
          with_reducible refine wpSeq_next (o := ⟨_, _, _, _, _, _⟩) (by with_unfolding_all exact rfl) (by with_unfolding_all exact rfl) (fun K hK => ?_)
          go_simp
          go_at_call 20
          refine (his _ hR4.drew).mono ?_
          rintro e w' ⟨rfl, rfl⟩
          refine hK.out _ _ (⟨hR4.drew, hs5⟩) ?_
          clear hK K
          repeat (first
            | ((with_reducible refine wpSeq_skip (o := ⟨_, _, _, _, _, _⟩) (by with_unfolding_all exact rfl) (by with_unfolding_all exact rfl) ?_); simp only [Act.put, List.setIfInBounds_toArray, List.set_cons_zero, List.set_cons_succ])
            | ((with_reducible refine wpSeq_free (o := ⟨_, _, _, _, _, _⟩) (by with_unfolding_all exact rfl) (by with_unfolding_all exact rfl) (fun K hK => ?_)); go_big_quiet_op; (refine hK _ ?_; clear hK K)))
          refine wpSeq_nil ?_
          go_wp2
          go_roundw
          case rel => exact ⟨m + 1, q, by omega, rfl, rfl, by go_num, hq.leave (fun e => hnr e.1), hR4.drew, hB5.drew⟩
          case measure => simp [intOf]; omega
        | false =>
          by_cases hdue : su ≤ d.now
          · have hready : ready d m := ⟨hlt, hself, by rw [← HS.out], by rw [← HS.out]; exact hdue⟩
            have hdue' : ¬ d.now < su := by omega
            have hsu : su = (d.by_ m).due := by rw [← HS.out]
            have HRd := Lib.hid (And.intro hready hsu)
            clear hready hsu
            refine wp_region_seq2 (fun W => RfAt W V G cap d ∧ StAt W H ⟨su, sf, false, ss⟩) [(0, true), (1, true), (2, false), (3, true), (4, true), (5, true), (6, true), (7, true), (8, true), (9, true), (10, true), (11, true), (12, true), (13, true), (14, true), (15, true), (16, true)] (by kernel_rfl) (by kernel_rfl) (fun d _ _ _ _ h => by cases d <;> exact h) (⟨hR4.drew, hs5⟩) ?_
            repeat (first
              | ((with_reducible refine wpSeq_skip (o := ⟨_, _, _, _, _, _⟩) (by with_unfolding_all exact rfl) (by with_unfolding_all exact rfl) ?_); simp only [Act.put, List.setIfInBounds_toArray, List.set_cons_zero, List.set_cons_succ])
              | ((with_reducible refine wpSeq_free (o := ⟨_, _, _, _, _, _⟩) (by with_unfolding_all exact rfl) (by with_unfolding_all exact rfl) (fun K hK => ?_)); go_big_quiet_op; (refine hK _ ?_; clear hK K)))
            with_reducible refine wpSeq_next (o := ⟨_, _, _, _, _, _⟩) (by with_unfolding_all exact rfl) (by with_unfolding_all exact rfl) (fun K hK => ?_)
            go_simp
            go_at_call 20
            refine (his _ hR4.drew).mono ?_
            rintro e w' ⟨rfl, rfl⟩
            refine hK.out _ _ (⟨hR4.drew, hs5⟩) ?_
            clear hK K
            repeat (first
              | ((with_reducible refine wpSeq_skip (o := ⟨_, _, _, _, _, _⟩) (by with_unfolding_all exact rfl) (by with_unfolding_all exact rfl) ?_); simp only [Act.put, List.setIfInBounds_toArray, List.set_cons_zero, List.set_cons_succ])
              | ((with_reducible refine wpSeq_free (o := ⟨_, _, _, _, _, _⟩) (by with_unfolding_all exact rfl) (by with_unfolding_all exact rfl) (fun K hK => ?_)); go_big_quiet_op; (refine hK _ ?_; clear hK K)))
            refine wpSeq_nil ?_
            clear p0 p2 p3 hne
            refine over_world (R := fun Wv => RfAt Wv V G cap d ∧ StAt Wv H ⟨su, sf, false, ss⟩ ∧ Below w.heap.size w Wv) ⟨hR4.drew, hs5, hB5.drew⟩ ?_
            clear hR4 hs5 hB5 c3 x2 x0
            rintro wv ⟨hR4, hs5, hB5⟩
            have c0 := hR4.c0
            have c2 := hR4.c2
            have c4 := hR4.c4
            have x0 := hs5.c0
            obtain ⟨D, hD⟩ : ∃ D, D = dist d m := ⟨_, rfl⟩
            have HD := Lib.hid hD
            rcases Nat.lt_or_ge d.last m with hml | hml
            · have hDv : (m : Int) - (d.last : Int) = (D : Int) := by rw [hD]; unfold dist; rw [if_neg (by omega)]; omega
              have hpos : ¬ ((m : Int) - (d.last : Int) ≤ 0) := by omega
              have HDv := Lib.hid hDv
              clear hDv hD
              go_upto_region 11 with fail
              rw [HDv.out]
              have hb0 : wv.cell? ⟨H, 0, none⟩ = some (.int .u64 (su : Int)) := x0
              cases q with
              | none =>
                rw [show nextI none = (-1 : Int) from rfl, show farI d none = (0 : Int) from rfl]
                have hne : Nonempty (SW (fun W => RfAt W V G cap d ∧ StAt W H ⟨su, sf, false, ss⟩)) := ⟨⟨wv, hR4, hs5⟩⟩
                have p0 : ∀ x : SW (fun W => RfAt W V G cap d ∧ StAt W H ⟨su, sf, false, ss⟩), x.W.cell? ⟨H, 0, none⟩ = some (.int .u64 (su : Int)) := fun x => x.h.2.c0
                have p4 : ∀ x : SW (fun W => RfAt W V G cap d ∧ StAt W H ⟨su, sf, false, ss⟩), x.W.cell? ⟨V, 4, none⟩ = some (.slice (some ⟨G, 0, none⟩) d.n cap) := fun x => x.h.1.c4
                refine wp_region_seq2 (fun W => RfAt W V G cap d ∧ StAt W H ⟨su, sf, false, ss⟩) [(0, true), (1, true), (2, true), (3, true), (4, true), (5, true), (6, true), (7, true), (8, true), (9, true), (10, true), (11, true), (12, true), (13, true), (14, true), (15, true), (16, true), (17, true), (18, true), (19, true), (20, true), (21, true), (22, true), (23, true), (24, true), (25, true), (26, true), (27, true), (28, true), (29, true), (30, true), (31, true), (32, true)] (by kernel_rfl) (by kernel_rfl) (fun d _ _ _ _ h => by cases d <;> exact h) (⟨hR4.drew, hs5⟩) ?_
                repeat (first
                  | ((with_reducible refine wpSeq_skip (o := ⟨_, _, _, _, _, _⟩) (by with_unfolding_all exact rfl) (by with_unfolding_all exact rfl) ?_); simp only [Act.put, List.setIfInBounds_toArray, List.set_cons_zero, List.set_cons_succ])
                  | ((with_reducible refine wpSeq_free (o := ⟨_, _, _, _, _, _⟩) (by with_unfolding_all exact rfl) (by with_unfolding_all exact rfl) (fun K hK => ?_)); go_big_quiet_op; (refine hK _ ?_; clear hK K)))
                refine wpSeq_nil ?_
                go_wp2
                go_roundw
                case rel => exact ⟨m + 1, some m, by omega, rfl, by rw [HD.out]; rfl, by go_num, hq.take HRd.out.1 trivial, hR4.drew, hB5.drew⟩
                case measure => simp [intOf]; omega
              | some b =>
                have hbn := hq.1.1
                have hbn' : (b : Int) < (d.n : Int) := by omega
                have s0b := hR4.s0 b hbn
                obtain ⟨E, hE⟩ : ∃ E, E = dist d b := ⟨_, rfl⟩
                rw [show nextI (some b) = (b : Int) from rfl, show farI d (some b) = (dist d b : Int) from rfl, ← hE]
                obtain ⟨ub, hub⟩ : ∃ ub, ub = (d.by_ b).due := ⟨_, rfl⟩
                rw [← hub] at s0b
                have HE := Lib.hid hE
                have HU := Lib.hid hub
                clear hE hub
                by_cases c1 : su < ub
                · have c1' : (su : Int) < (ub : Int) := by omega
                  have hne : Nonempty (SW (fun W => RfAt W V G cap d ∧ StAt W H ⟨su, sf, false, ss⟩)) := ⟨⟨wv, hR4, hs5⟩⟩
                  have p0 : ∀ x : SW (fun W => RfAt W V G cap d ∧ StAt W H ⟨su, sf, false, ss⟩), x.W.cell? ⟨H, 0, none⟩ = some (.int .u64 (su : Int)) := fun x => x.h.2.c0
                  have p4 : ∀ x : SW (fun W => RfAt W V G cap d ∧ StAt W H ⟨su, sf, false, ss⟩), x.W.cell? ⟨V, 4, none⟩ = some (.slice (some ⟨G, 0, none⟩) d.n cap) := fun x => x.h.1.c4
                  have pb : ∀ x : SW (fun W => RfAt W V G cap d ∧ StAt W H ⟨su, sf, false, ss⟩), x.W.cell? ⟨G, b * 4, none⟩ = some (.int .u64 (ub : Int)) := fun x => by rw [x.h.1.s0 b hbn, HU.out]
                  refine wp_region_seq2 (fun W => RfAt W V G cap d ∧ StAt W H ⟨su, sf, false, ss⟩) [(0, true), (1, true), (2, true), (3, true), (4, true), (5, true), (6, true), (7, true), (8, true), (9, true), (10, true), (11, true), (12, true), (13, true), (14, true), (15, true), (16, true), (17, true), (18, true), (19, true), (20, true), (21, true), (22, true), (23, true), (24, true), (25, true), (26, true), (27, true), (28, true), (29, true), (30, true), (31, true), (32, true)] (by kernel_rfl) (by kernel_rfl) (fun d _ _ _ _ h => by cases d <;> exact h) (⟨hR4.drew, hs5⟩) ?_
                  repeat (first
                    | ((with_reducible refine wpSeq_skip (o := ⟨_, _, _, _, _, _⟩) (by with_unfolding_all exact rfl) (by with_unfolding_all exact rfl) ?_); simp only [Act.put, List.setIfInBounds_toArray, List.set_cons_zero, List.set_cons_succ])
                    | ((with_reducible refine wpSeq_free (o := ⟨_, _, _, _, _, _⟩) (by with_unfolding_all exact rfl) (by with_unfolding_all exact rfl) (fun K hK => ?_)); go_big_quiet_op; (refine hK _ ?_; clear hK K)))
                  refine wpSeq_nil ?_
                  go_wp2
                  go_roundw
                  case rel => exact ⟨m + 1, some m, by omega, rfl, by rw [HD.out]; rfl, by go_num, hq.take HRd.out.1 (show nearer d (some b) m by show (d.by_ m).due < (d.by_ b).due ∨ ((d.by_ m).due = (d.by_ b).due ∧ dist d m < dist d b); rw [← HRd.out.2, ← HU.out, ← HD.out, ← HE.out]; omega), hR4.drew, hB5.drew⟩
                  case measure => simp [intOf]; omega
                · by_cases c2e : su = ub ∧ D < E
                  · have c3e : ((su : Int) == (ub : Int)) = true := by rw [beq_iff_eq]; omega
                    have c4e : (su == ub) = true := by rw [beq_iff_eq]; omega
                    have c5e : (D : Int) < (E : Int) := by omega
                    have C := Lib.hid c2e
                    clear c2e
                    have hne : Nonempty (SW (fun W => RfAt W V G cap d ∧ StAt W H ⟨su, sf, false, ss⟩)) := ⟨⟨wv, hR4, hs5⟩⟩
                    have p0 : ∀ x : SW (fun W => RfAt W V G cap d ∧ StAt W H ⟨su, sf, false, ss⟩), x.W.cell? ⟨H, 0, none⟩ = some (.int .u64 (su : Int)) := fun x => x.h.2.c0
                    have p4 : ∀ x : SW (fun W => RfAt W V G cap d ∧ StAt W H ⟨su, sf, false, ss⟩), x.W.cell? ⟨V, 4, none⟩ = some (.slice (some ⟨G, 0, none⟩) d.n cap) := fun x => x.h.1.c4
                    have pb : ∀ x : SW (fun W => RfAt W V G cap d ∧ StAt W H ⟨su, sf, false, ss⟩), x.W.cell? ⟨G, b * 4, none⟩ = some (.int .u64 (ub : Int)) := fun x => by rw [x.h.1.s0 b hbn, HU.out]
                    refine wp_region_seq2 (fun W => RfAt W V G cap d ∧ StAt W H ⟨su, sf, false, ss⟩) [(0, true), (1, true), (2, true), (3, true), (4, true), (5, true), (6, true), (7, true), (8, true), (9, true), (10, true), (11, true), (12, true), (13, true), (14, true), (15, true), (16, true), (17, true), (18, true), (19, true), (20, true), (21, true), (22, true), (23, true), (24, true), (25, true), (26, true), (27, true), (28, true), (29, true), (30, true), (31, true), (32, true)] (by kernel_rfl) (by kernel_rfl) (fun d _ _ _ _ h => by cases d <;> exact h) (⟨hR4.drew, hs5⟩) ?_
                    repeat (first
                      | ((with_reducible refine wpSeq_skip (o := ⟨_, _, _, _, _, _⟩) (by with_unfolding_all exact rfl) (by with_unfolding_all exact rfl) ?_); simp only [Act.put, List.setIfInBounds_toArray, List.set_cons_zero, List.set_cons_succ])
                      | ((with_reducible refine wpSeq_free (o := ⟨_, _, _, _, _, _⟩) (by with_unfolding_all exact rfl) (by with_unfolding_all exact rfl) (fun K hK => ?_)); go_big_quiet_op; (refine hK _ ?_; clear hK K)))
                    refine wpSeq_nil ?_
                    go_wp2
                    go_roundw
                    case rel => exact ⟨m + 1, some m, by omega, rfl, by rw [HD.out]; rfl, by go_num, hq.take HRd.out.1 (show nearer d (some b) m by show (d.by_ m).due < (d.by_ b).due ∨ ((d.by_ m).due = (d.by_ b).due ∧ dist d m < dist d b); rw [← HRd.out.2, ← HU.out, ← HD.out, ← HE.out]; have := C.out; omega), hR4.drew, hB5.drew⟩
                    case measure => simp [intOf]; omega
                  · by_cases c3e : su = ub
                    · have c4e : ((su : Int) == (ub : Int)) = true := by rw [beq_iff_eq]; omega
                      have c5e : (su == ub) = true := by rw [beq_iff_eq]; omega
                      have c6e : ¬ D < E := fun e => c2e ⟨c3e, e⟩
                      have c7e : ¬ (D : Int) < (E : Int) := by omega
                      have C := Lib.hid (And.intro c3e c2e)
                      clear c3e c2e
                      have hne : Nonempty (SW (fun W => RfAt W V G cap d ∧ StAt W H ⟨su, sf, false, ss⟩)) := ⟨⟨wv, hR4, hs5⟩⟩
                      have p0 : ∀ x : SW (fun W => RfAt W V G cap d ∧ StAt W H ⟨su, sf, false, ss⟩), x.W.cell? ⟨H, 0, none⟩ = some (.int .u64 (su : Int)) := fun x => x.h.2.c0
                      have p4 : ∀ x : SW (fun W => RfAt W V G cap d ∧ StAt W H ⟨su, sf, false, ss⟩), x.W.cell? ⟨V, 4, none⟩ = some (.slice (some ⟨G, 0, none⟩) d.n cap) := fun x => x.h.1.c4
                      have pb : ∀ x : SW (fun W => RfAt W V G cap d ∧ StAt W H ⟨su, sf, false, ss⟩), x.W.cell? ⟨G, b * 4, none⟩ = some (.int .u64 (ub : Int)) := fun x => by rw [x.h.1.s0 b hbn, HU.out]
                      refine wp_region_seq2 (fun W => RfAt W V G cap d ∧ StAt W H ⟨su, sf, false, ss⟩) [(0, true), (1, true), (2, true), (3, true), (4, true), (5, true), (6, true), (7, true), (8, true), (9, true), (10, true), (11, true), (12, true), (13, true), (14, true), (15, true), (16, true), (17, true), (18, true), (19, true), (20, true), (21, true), (22, true), (23, true), (24, true), (25, true), (26, true), (27, true), (28, true), (29, true), (30, true), (31, true), (32, true)] (by kernel_rfl) (by kernel_rfl) (fun d _ _ _ _ h => by cases d <;> exact h) (⟨hR4.drew, hs5⟩) ?_
                      repeat (first
                        | ((with_reducible refine wpSeq_skip (o := ⟨_, _, _, _, _, _⟩) (by with_unfolding_all exact rfl) (by with_unfolding_all exact rfl) ?_); simp only [Act.put, List.setIfInBounds_toArray, List.set_cons_zero, List.set_cons_succ])
                        | ((with_reducible refine wpSeq_free (o := ⟨_, _, _, _, _, _⟩) (by with_unfolding_all exact rfl) (by with_unfolding_all exact rfl) (fun K hK => ?_)); go_big_quiet_op; (refine hK _ ?_; clear hK K)))
                      refine wpSeq_nil ?_
                      go_wp2
                      go_roundw
                      case rel => exact ⟨m + 1, some b, by omega, rfl, by rw [HE.out]; rfl, by go_num, hq.leave (fun e => (show ¬ nearer d (some b) m by show ¬ ((d.by_ m).due < (d.by_ b).due ∨ ((d.by_ m).due = (d.by_ b).due ∧ dist d m < dist d b)); rw [← HRd.out.2, ← HU.out, ← HD.out, ← HE.out]; have := C.out; omega) e.2), hR4.drew, hB5.drew⟩
                      case measure => simp [intOf]; omega
                    · have c4e : ((su : Int) == (ub : Int)) = false := by rw [beq_eq_false_iff_ne]; omega
                      have c5e : (su == ub) = false := by rw [beq_eq_false_iff_ne]; omega
                      have C := Lib.hid c3e
                      clear c3e c2e
                      have hne : Nonempty (SW (fun W => RfAt W V G cap d ∧ StAt W H ⟨su, sf, false, ss⟩)) := ⟨⟨wv, hR4, hs5⟩⟩
                      have p0 : ∀ x : SW (fun W => RfAt W V G cap d ∧ StAt W H ⟨su, sf, false, ss⟩), x.W.cell? ⟨H, 0, none⟩ = some (.int .u64 (su : Int)) := fun x => x.h.2.c0
                      have p4 : ∀ x : SW (fun W => RfAt W V G cap d ∧ StAt W H ⟨su, sf, false, ss⟩), x.W.cell? ⟨V, 4, none⟩ = some (.slice (some ⟨G, 0, none⟩) d.n cap) := fun x => x.h.1.c4
                      have pb : ∀ x : SW (fun W => RfAt W V G cap d ∧ StAt W H ⟨su, sf, false, ss⟩), x.W.cell? ⟨G, b * 4, none⟩ = some (.int .u64 (ub : Int)) := fun x => by rw [x.h.1.s0 b hbn, HU.out]
                      refine wp_region_seq2 (fun W => RfAt W V G cap d ∧ StAt W H ⟨su, sf, false, ss⟩) [(0, true), (1, true), (2, true), (3, true), (4, true), (5, true), (6, true), (7, true), (8, true), (9, true), (10, true), (11, true), (12, true), (13, true), (14, true), (15, true), (16, true), (17, true), (18, true), (19, true), (20, true), (21, true), (22, true), (23, true), (24, true), (25, true), (26, true), (27, true), (28, true), (29, true), (30, true), (31, true), (32, true)] (by kernel_rfl) (by kernel_rfl) (fun d _ _ _ _ h => by cases d <;> exact h) (⟨hR4.drew, hs5⟩) ?_
                      repeat (first
                        | ((with_reducible refine wpSeq_skip (o := ⟨_, _, _, _, _, _⟩) (by with_unfolding_all exact rfl) (by with_unfolding_all exact rfl) ?_); simp only [Act.put, List.setIfInBounds_toArray, List.set_cons_zero, List.set_cons_succ])
                        | ((with_reducible refine wpSeq_free (o := ⟨_, _, _, _, _, _⟩) (by with_unfolding_all exact rfl) (by with_unfolding_all exact rfl) (fun K hK => ?_)); go_big_quiet_op; (refine hK _ ?_; clear hK K)))
                      refine wpSeq_nil ?_
                      go_wp2
                      go_roundw
                      case rel => exact ⟨m + 1, some b, by omega, rfl, by rw [HE.out]; rfl, by go_num, hq.leave (fun e => (show ¬ nearer d (some b) m by show ¬ ((d.by_ m).due < (d.by_ b).due ∨ ((d.by_ m).due = (d.by_ b).due ∧ dist d m < dist d b)); rw [← HRd.out.2, ← HU.out, ← HD.out, ← HE.out]; have := C.out; omega) e.2), hR4.drew, hB5.drew⟩
                      case measure => simp [intOf]; omega
            · have hDv : (m : Int) - (d.last : Int) + (d.n : Int) = (D : Int) := by rw [hD]; unfold dist; rw [if_pos hml]; omega
              have hneg : (m : Int) - (d.last : Int) ≤ 0 := by omega
              have HDv := Lib.hid hDv
              clear hDv hD
              go_upto_region 11 with fail
              rw [HDv.out]
              have hb0 : wv.cell? ⟨H, 0, none⟩ = some (.int .u64 (su : Int)) := x0
              cases q with
              | none =>
                rw [show nextI none = (-1 : Int) from rfl, show farI d none = (0 : Int) from rfl]
                have hne : Nonempty (SW (fun W => RfAt W V G cap d ∧ StAt W H ⟨su, sf, false, ss⟩)) := ⟨⟨wv, hR4, hs5⟩⟩
                have p0 : ∀ x : SW (fun W => RfAt W V G cap d ∧ StAt W H ⟨su, sf, false, ss⟩), x.W.cell? ⟨H, 0, none⟩ = some (.int .u64 (su : Int)) := fun x => x.h.2.c0
                have p4 : ∀ x : SW (fun W => RfAt W V G cap d ∧ StAt W H ⟨su, sf, false, ss⟩), x.W.cell? ⟨V, 4, none⟩ = some (.slice (some ⟨G, 0, none⟩) d.n cap) := fun x => x.h.1.c4
                refine wp_region_seq2 (fun W => RfAt W V G cap d ∧ StAt W H ⟨su, sf, false, ss⟩) [(0, true), (1, true), (2, true), (3, true), (4, true), (5, true), (6, true), (7, true), (8, true), (9, true), (10, true), (11, true), (12, true), (13, true), (14, true), (15, true), (16, true), (17, true), (18, true), (19, true), (20, true), (21, true), (22, true), (23, true), (24, true), (25, true), (26, true), (27, true), (28, true), (29, true), (30, true), (31, true), (32, true)] (by kernel_rfl) (by kernel_rfl) (fun d _ _ _ _ h => by cases d <;> exact h) (⟨hR4.drew, hs5⟩) ?_
                repeat (first
                  | ((with_reducible refine wpSeq_skip (o := ⟨_, _, _, _, _, _⟩) (by with_unfolding_all exact rfl) (by with_unfolding_all exact rfl) ?_); simp only [Act.put, List.setIfInBounds_toArray, List.set_cons_zero, List.set_cons_succ])
                  | ((with_reducible refine wpSeq_free (o := ⟨_, _, _, _, _, _⟩) (by with_unfolding_all exact rfl) (by with_unfolding_all exact rfl) (fun K hK => ?_)); go_big_quiet_op; (refine hK _ ?_; clear hK K)))
                refine wpSeq_nil ?_
                go_wp2
                go_roundw
                case rel => exact ⟨m + 1, some m, by omega, rfl, by rw [HD.out]; rfl, by go_num, hq.take HRd.out.1 trivial, hR4.drew, hB5.drew⟩
                case measure => simp [intOf]; omega
              | some b =>
                have hbn := hq.1.1
                have hbn' : (b : Int) < (d.n : Int) := by omega
                have s0b := hR4.s0 b hbn
                obtain ⟨E, hE⟩ : ∃ E, E = dist d b := ⟨_, rfl⟩
                rw [show nextI (some b) = (b : Int) from rfl, show farI d (some b) = (dist d b : Int) from rfl, ← hE]
                obtain ⟨ub, hub⟩ : ∃ ub, ub = (d.by_ b).due := ⟨_, rfl⟩
                rw [← hub] at s0b
                have HE := Lib.hid hE
                have HU := Lib.hid hub
                clear hE hub
                by_cases c1 : su < ub
                · have c1' : (su : Int) < (ub : Int) := by omega
                  have hne : Nonempty (SW (fun W => RfAt W V G cap d ∧ StAt W H ⟨su, sf, false, ss⟩)) := ⟨⟨wv, hR4, hs5⟩⟩
                  have p0 : ∀ x : SW (fun W => RfAt W V G cap d ∧ StAt W H ⟨su, sf, false, ss⟩), x.W.cell? ⟨H, 0, none⟩ = some (.int .u64 (su : Int)) := fun x => x.h.2.c0
                  have p4 : ∀ x : SW (fun W => RfAt W V G cap d ∧ StAt W H ⟨su, sf, false, ss⟩), x.W.cell? ⟨V, 4, none⟩ = some (.slice (some ⟨G, 0, none⟩) d.n cap) := fun x => x.h.1.c4
                  have pb : ∀ x : SW (fun W => RfAt W V G cap d ∧ StAt W H ⟨su, sf, false, ss⟩), x.W.cell? ⟨G, b * 4, none⟩ = some (.int .u64 (ub : Int)) := fun x => by rw [x.h.1.s0 b hbn, HU.out]
                  refine wp_region_seq2 (fun W => RfAt W V G cap d ∧ StAt W H ⟨su, sf, false, ss⟩) [(0, true), (1, true), (2, true), (3, true), (4, true), (5, true), (6, true), (7, true), (8, true), (9, true), (10, true), (11, true), (12, true), (13, true), (14, true), (15, true), (16, true), (17, true), (18, true), (19, true), (20, true), (21, true), (22, true), (23, true), (24, true), (25, true), (26, true), (27, true), (28, true), (29, true), (30, true), (31, true), (32, true)] (by kernel_rfl) (by kernel_rfl) (fun d _ _ _ _ h => by cases d <;> exact h) (⟨hR4.drew, hs5⟩) ?_
                  repeat (first
                    | ((with_reducible refine wpSeq_skip (o := ⟨_, _, _, _, _, _⟩) (by with_unfolding_all exact rfl) (by with_unfolding_all exact rfl) ?_); simp only [Act.put, List.setIfInBounds_toArray, List.set_cons_zero, List.set_cons_succ])
                    | ((with_reducible refine wpSeq_free (o := ⟨_, _, _, _, _, _⟩) (by with_unfolding_all exact rfl) (by with_unfolding_all exact rfl) (fun K hK => ?_)); go_big_quiet_op; (refine hK _ ?_; clear hK K)))
                  refine wpSeq_nil ?_
                  go_wp2
                  go_roundw
                  case rel => exact ⟨m + 1, some m, by omega, rfl, by rw [HD.out]; rfl, by go_num, hq.take HRd.out.1 (show nearer d (some b) m by show (d.by_ m).due < (d.by_ b).due ∨ ((d.by_ m).due = (d.by_ b).due ∧ dist d m < dist d b); rw [← HRd.out.2, ← HU.out, ← HD.out, ← HE.out]; omega), hR4.drew, hB5.drew⟩
                  case measure => simp [intOf]; omega
                · by_cases c2e : su = ub ∧ D < E
                  · have c3e : ((su : Int) == (ub : Int)) = true := by rw [beq_iff_eq]; omega
                    have c4e : (su == ub) = true := by rw [beq_iff_eq]; omega
                    have c5e : (D : Int) < (E : Int) := by omega
                    have C := Lib.hid c2e
                    clear c2e
                    have hne : Nonempty (SW (fun W => RfAt W V G cap d ∧ StAt W H ⟨su, sf, false, ss⟩)) := ⟨⟨wv, hR4, hs5⟩⟩
                    have p0 : ∀ x : SW (fun W => RfAt W V G cap d ∧ StAt W H ⟨su, sf, false, ss⟩), x.W.cell? ⟨H, 0, none⟩ = some (.int .u64 (su : Int)) := fun x => x.h.2.c0
                    have p4 : ∀ x : SW (fun W => RfAt W V G cap d ∧ StAt W H ⟨su, sf, false, ss⟩), x.W.cell? ⟨V, 4, none⟩ = some (.slice (some ⟨G, 0, none⟩) d.n cap) := fun x => x.h.1.c4
                    have pb : ∀ x : SW (fun W => RfAt W V G cap d ∧ StAt W H ⟨su, sf, false, ss⟩), x.W.cell? ⟨G, b * 4, none⟩ = some (.int .u64 (ub : Int)) := fun x => by rw [x.h.1.s0 b hbn, HU.out]
                    refine wp_region_seq2 (fun W => RfAt W V G cap d ∧ StAt W H ⟨su, sf, false, ss⟩) [(0, true), (1, true), (2, true), (3, true), (4, true), (5, true), (6, true), (7, true), (8, true), (9, true), (10, true), (11, true), (12, true), (13, true), (14, true), (15, true), (16, true), (17, true), (18, true), (19, true), (20, true), (21, true), (22, true), (23, true), (24, true), (25, true), (26, true), (27, true), (28, true), (29, true), (30, true), (31, true), (32, true)] (by kernel_rfl) (by kernel_rfl) (fun d _ _ _ _ h => by cases d <;> exact h) (⟨hR4.drew, hs5⟩) ?_
                    repeat (first
                      | ((with_reducible refine wpSeq_skip (o := ⟨_, _, _, _, _, _⟩) (by with_unfolding_all exact rfl) (by with_unfolding_all exact rfl) ?_); simp only [Act.put, List.setIfInBounds_toArray, List.set_cons_zero, List.set_cons_succ])
                      | ((with_reducible refine wpSeq_free (o := ⟨_, _, _, _, _, _⟩) (by with_unfolding_all exact rfl) (by with_unfolding_all exact rfl) (fun K hK => ?_)); go_big_quiet_op; (refine hK _ ?_; clear hK K)))
                    refine wpSeq_nil ?_
                    go_wp2
                    go_roundw
                    case rel => exact ⟨m + 1, some m, by omega, rfl, by rw [HD.out]; rfl, by go_num, hq.take HRd.out.1 (show nearer d (some b) m by show (d.by_ m).due < (d.by_ b).due ∨ ((d.by_ m).due = (d.by_ b).due ∧ dist d m < dist d b); rw [← HRd.out.2, ← HU.out, ← HD.out, ← HE.out]; have := C.out; omega), hR4.drew, hB5.drew⟩
                    case measure => simp [intOf]; omega
                  · by_cases c3e : su = ub
                    · have c4e : ((su : Int) == (ub : Int)) = true := by rw [beq_iff_eq]; omega
                      have c5e : (su == ub) = true := by rw [beq_iff_eq]; omega
                      have c6e : ¬ D < E := fun e => c2e ⟨c3e, e⟩
                      have c7e : ¬ (D : Int) < (E : Int) := by omega
                      have C := Lib.hid (And.intro c3e c2e)
                      clear c3e c2e
                      have hne : Nonempty (SW (fun W => RfAt W V G cap d ∧ StAt W H ⟨su, sf, false, ss⟩)) := ⟨⟨wv, hR4, hs5⟩⟩
                      have p0 : ∀ x : SW (fun W => RfAt W V G cap d ∧ StAt W H ⟨su, sf, false, ss⟩), x.W.cell? ⟨H, 0, none⟩ = some (.int .u64 (su : Int)) := fun x => x.h.2.c0
                      have p4 : ∀ x : SW (fun W => RfAt W V G cap d ∧ StAt W H ⟨su, sf, false, ss⟩), x.W.cell? ⟨V, 4, none⟩ = some (.slice (some ⟨G, 0, none⟩) d.n cap) := fun x => x.h.1.c4
                      have pb : ∀ x : SW (fun W => RfAt W V G cap d ∧ StAt W H ⟨su, sf, false, ss⟩), x.W.cell? ⟨G, b * 4, none⟩ = some (.int .u64 (ub : Int)) := fun x => by rw [x.h.1.s0 b hbn, HU.out]
                      refine wp_region_seq2 (fun W => RfAt W V G cap d ∧ StAt W H ⟨su, sf, false, ss⟩) [(0, true), (1, true), (2, true), (3, true), (4, true), (5, true), (6, true), (7, true), (8, true), (9, true), (10, true), (11, true), (12, true), (13, true), (14, true), (15, true), (16, true), (17, true), (18, true), (19, true), (20, true), (21, true), (22, true), (23, true), (24, true), (25, true), (26, true), (27, true), (28, true), (29, true), (30, true), (31, true), (32, true)] (by kernel_rfl) (by kernel_rfl) (fun d _ _ _ _ h => by cases d <;> exact h) (⟨hR4.drew, hs5⟩) ?_
                      repeat (first
                        | ((with_reducible refine wpSeq_skip (o := ⟨_, _, _, _, _, _⟩) (by with_unfolding_all exact rfl) (by with_unfolding_all exact rfl) ?_); simp only [Act.put, List.setIfInBounds_toArray, List.set_cons_zero, List.set_cons_succ])
                        | ((with_reducible refine wpSeq_free (o := ⟨_, _, _, _, _, _⟩) (by with_unfolding_all exact rfl) (by with_unfolding_all exact rfl) (fun K hK => ?_)); go_big_quiet_op; (refine hK _ ?_; clear hK K)))
                      refine wpSeq_nil ?_
                      go_wp2
                      go_roundw
                      case rel => exact ⟨m + 1, some b, by omega, rfl, by rw [HE.out]; rfl, by go_num, hq.leave (fun e => (show ¬ nearer d (some b) m by show ¬ ((d.by_ m).due < (d.by_ b).due ∨ ((d.by_ m).due = (d.by_ b).due ∧ dist d m < dist d b)); rw [← HRd.out.2, ← HU.out, ← HD.out, ← HE.out]; have := C.out; omega) e.2), hR4.drew, hB5.drew⟩
                      case measure => simp [intOf]; omega
                    · have c4e : ((su : Int) == (ub : Int)) = false := by rw [beq_eq_false_iff_ne]; omega
                      have c5e : (su == ub) = false := by rw [beq_eq_false_iff_ne]; omega
                      have C := Lib.hid c3e
                      clear c3e c2e
                      have hne : Nonempty (SW (fun W => RfAt W V G cap d ∧ StAt W H ⟨su, sf, false, ss⟩)) := ⟨⟨wv, hR4, hs5⟩⟩
                      have p0 : ∀ x : SW (fun W => RfAt W V G cap d ∧ StAt W H ⟨su, sf, false, ss⟩), x.W.cell? ⟨H, 0, none⟩ = some (.int .u64 (su : Int)) := fun x => x.h.2.c0
                      have p4 : ∀ x : SW (fun W => RfAt W V G cap d ∧ StAt W H ⟨su, sf, false, ss⟩), x.W.cell? ⟨V, 4, none⟩ = some (.slice (some ⟨G, 0, none⟩) d.n cap) := fun x => x.h.1.c4
                      have pb : ∀ x : SW (fun W => RfAt W V G cap d ∧ StAt W H ⟨su, sf, false, ss⟩), x.W.cell? ⟨G, b * 4, none⟩ = some (.int .u64 (ub : Int)) := fun x => by rw [x.h.1.s0 b hbn, HU.out]
                      refine wp_region_seq2 (fun W => RfAt W V G cap d ∧ StAt W H ⟨su, sf, false, ss⟩) [(0, true), (1, true), (2, true), (3, true), (4, true), (5, true), (6, true), (7, true), (8, true), (9, true), (10, true), (11, true), (12, true), (13, true), (14, true), (15, true), (16, true), (17, true), (18, true), (19, true), (20, true), (21, true), (22, true), (23, true), (24, true), (25, true), (26, true), (27, true), (28, true), (29, true), (30, true), (31, true), (32, true)] (by kernel_rfl) (by kernel_rfl) (fun d _ _ _ _ h => by cases d <;> exact h) (⟨hR4.drew, hs5⟩) ?_
                      repeat (first
                        | ((with_reducible refine wpSeq_skip (o := ⟨_, _, _, _, _, _⟩) (by with_unfolding_all exact rfl) (by with_unfolding_all exact rfl) ?_); simp only [Act.put, List.setIfInBounds_toArray, List.set_cons_zero, List.set_cons_succ])
                        | ((with_reducible refine wpSeq_free (o := ⟨_, _, _, _, _, _⟩) (by with_unfolding_all exact rfl) (by with_unfolding_all exact rfl) (fun K hK => ?_)); go_big_quiet_op; (refine hK _ ?_; clear hK K)))
                      refine wpSeq_nil ?_
                      go_wp2
                      go_roundw
                      case rel => exact ⟨m + 1, some b, by omega, rfl, by rw [HE.out]; rfl, by go_num, hq.leave (fun e => (show ¬ nearer d (some b) m by show ¬ ((d.by_ m).due < (d.by_ b).due ∨ ((d.by_ m).due = (d.by_ b).due ∧ dist d m < dist d b)); rw [← HRd.out.2, ← HU.out, ← HD.out, ← HE.out]; have := C.out; omega) e.2), hR4.drew, hB5.drew⟩
                      case measure => simp [intOf]; omega
          · have hnr : ¬ ready d m := fun e => by have := e.2.2.2; rw [← HS.out] at this; exact hdue this
            have hdue' : d.now < su := by omega
            refine wp_region_seq2 (fun W => RfAt W V G cap d ∧ StAt W H ⟨su, sf, false, ss⟩) [(0, true), (1, true), (2, false), (3, true), (4, true), (5, true), (6, true), (7, true), (8, true), (9, true), (10, true), (11, true), (12, true), (13, true), (14, true), (15, true), (16, true)] (by kernel_rfl) (by kernel_rfl) (fun d _ _ _ _ h => by cases d <;> exact h) (⟨hR4.drew, hs5⟩) ?_
            repeat (first
              | ((with_reducible refine wpSeq_skip (o := ⟨_, _, _, _, _, _⟩) (by with_unfolding_all exact rfl) (by with_unfolding_all exact rfl) ?_); simp only [Act.put, List.setIfInBounds_toArray, List.set_cons_zero, List.set_cons_succ])
              | ((with_reducible refine wpSeq_free (o := ⟨_, _, _, _, _, _⟩) (by with_unfolding_all exact rfl) (by with_unfolding_all exact rfl) (fun K hK => ?_)); go_big_quiet_op; (refine hK _ ?_; clear hK K)))
            with_reducible refine wpSeq_next (o := ⟨_, _, _, _, _, _⟩) (by with_unfolding_all exact rfl) (by with_unfolding_all exact rfl) (fun K hK => ?_)
            go_simp
            go_at_call 20
            refine (his _ hR4.drew).mono ?_
            rintro e w' ⟨rfl, rfl⟩
            refine hK.out _ _ (⟨hR4.drew, hs5⟩) ?_
            clear hK K
            repeat (first
              | ((with_reducible refine wpSeq_skip (o := ⟨_, _, _, _, _, _⟩) (by with_unfolding_all exact rfl) (by with_unfolding_all exact rfl) ?_); simp only [Act.put, List.setIfInBounds_toArray, List.set_cons_zero, List.set_cons_succ])
              | ((with_reducible refine wpSeq_free (o := ⟨_, _, _, _, _, _⟩) (by with_unfolding_all exact rfl) (by with_unfolding_all exact rfl) (fun K hK => ?_)); go_big_quiet_op; (refine hK _ ?_; clear hK K)))
            refine wpSeq_nil ?_
            go_wp2
            go_roundw
            case rel => exact ⟨m + 1, q, by omega, rfl, rfl, by go_num, hq.leave (fun e => hnr e.1), hR4.drew, hB5.drew⟩
            case measure => simp [intOf]; omega
    · obtain rfl : m = d.n := by omega
      have hq2 := hq.all.unique hl hr
      subst hq2
      cases q with
      | none =>
        rw [show nextI none = (-1 : Int) from rfl]
        go_wp2
        go_ret2
        exact ⟨rfl, G, cap, hR, .inl rfl, Aside.below _ hB⟩
      | some b =>
        have hbn := hr.1.1
        have hbn' : (b : Int) < (d.n : Int) := by omega
        rw [show nextI (some b) = (b : Int) from rfl]
        have c2 := hR.c2
        have f2 := hR.free 2
        have k1 := hR.stored (d' := { d with last := b }) (G' := G) (cap' := cap) 2 (.int .i64 (b : Int)) rfl hR.row (fun e => hR.ne e.symm) hR.le
        have a1 := (Aside.below [V] hB).setCell ⟨V, 2, none⟩ (.int .i64 (b : Int)) (fun _ => by simp)
        have K1 := Lib.hid (And.intro k1 a1)
        clear k1 a1
        go_upto_region 17 with fail
        refine over_world (R := fun Wv => RfAt Wv V G cap { d with last := b } ∧ Aside [V] w Wv) K1.out ?_
        clear K1 hR hB c0 c2 f2 hq
        rintro wv ⟨hV, hA⟩
        have c4 := hV.c4
        have hrow := hV.row
        have hVs := hV.lt
        go_upto_region 18 with (first
          | (at_builtin; refine wpList_append_sts rfl (.tmp 97) (.tmp 101) rfl wv rfl rfl G d.n cap d.by_ rfl (hrow.later ((Below.refl _ _).alloc (Nat.le_refl _) _)) (by omega) hn16 ?_; intro G' cap' w8 hS8 hle8 hG8 hB8; have c48 := (hV.later hB8).c4; have f48 := (hV.later hB8).free 4))
        have hV8 := hV.later hB8
        have hG'V : G' ≠ V := by omega
        have hV9 := hV8.stored (d' := { d with last := b }) (G' := G') (cap' := cap') 4 (.slice (some ⟨G', 0, none⟩) d.n cap') rfl hS8 hG'V hle8
        have hA9 : Aside [V] w (w8.setCell ⟨V, 4, none⟩ (.slice (some ⟨G', 0, none⟩) d.n cap')) := (hA.trans (Aside.below _ hB8)).setCell _ _ (fun _ => by simp)
        have hGw : w.heap.size ≤ G' := by have := hA.size; omega
        refine over_world (R := fun Wv => RfAt Wv V G' cap' { d with last := b } ∧ Aside [V] w Wv) ⟨hV9, hA9⟩ ?_
        clear hV hA hV8 hV9 hA9 hB8 hS8 c48 f48 hrow c4 hVs
        rintro wv ⟨hV, hA⟩
        have hAn : ∀ (p : Addr), p.block = G' → p.block < w.heap.size → p.block ∈ [V] := fun p e q => by omega
        have c4' : wv.cell? ⟨V, 4, none⟩ = some (.slice (some ⟨G', 0, none⟩) d.n cap') := hV.c4
        have s2 := hV.s2 b hbn
        have f2 := hV.row.free (b * 4 + 2)
        have hP := hV.rowput b 2 hbn (by decide) { d.by_ b with busy := true } (.bool true) rfl (fun k hk hn => by
          match k with
          | 0 => rfl
          | 1 => rfl
          | 2 => exact absurd rfl hn
          | 3 => rfl
          | n + 4 => omega)
        have hPa := hA.setCell ⟨G', b * 4 + 2, none⟩ (.bool true) (hAn _ rfl)
        have HP := Lib.hid (And.intro hP hPa)
        clear hP hPa
        go_upto_region 19 with fail
        refine over_world (R := fun Wv => RfAt Wv V G' cap' { d with last := b, by_ := updS d.by_ b { d.by_ b with busy := true } } ∧ Aside [V] w Wv) HP.out ?_
        clear hV hA c4' s2 f2 HP
        rintro wv ⟨hV, hA⟩
        have c4' : wv.cell? ⟨V, 4, none⟩ = some (.slice (some ⟨G', 0, none⟩) d.n cap') := hV.c4
        have c3' : wv.cell? ⟨V, 3, none⟩ = some (.int .u64 (d.now : Int)) := hV.c3
        have s3 := hV.s3 b hbn
        have f3 := hV.row.free (b * 4 + 3)
        have hP := hV.rowput b 3 hbn (by decide) { d.by_ b with busy := true, since := d.now } (.int .u64 (d.now : Int)) rfl (fun k hk hn => by
          show _ = stCell (updS d.by_ b _ b) k
          rw [updS_same]
          match k with
          | 0 => rfl
          | 1 => rfl
          | 2 => rfl
          | 3 => exact absurd rfl hn
          | n + 4 => omega)
        have hP2 : RfAt (wv.setCell ⟨G', b * 4 + 3, none⟩ (.int .u64 (d.now : Int))) V G' cap' (nextD d (some b)) := by
          have e : nextD d (some b) = { d with last := b, by_ := updS (updS d.by_ b { d.by_ b with busy := true }) b { d.by_ b with busy := true, since := d.now } } := by rw [updS_updS]; rfl
          rw [e]; exact hP
        have hPa := hA.setCell ⟨G', b * 4 + 3, none⟩ (.int .u64 (d.now : Int)) (hAn _ rfl)
        have HP := Lib.hid (And.intro hP2 hPa)
        clear hP hPa hP2
        go_region
        refine over_world (R := fun Wv => RfAt Wv V G' cap' (nextD d (some b)) ∧ Aside [V] w Wv) ⟨HP.out.1.drew, HP.out.2.drew⟩ ?_
        clear hV hA c4' c3' s3 f3 HP
        rintro wv ⟨hV, hA⟩
        go_wp2
        go_ret2
        exact ⟨rfl, G', cap', hV, .inr hGw, hA⟩
end Go.Proofs.Ytdlbjllgdikadab
