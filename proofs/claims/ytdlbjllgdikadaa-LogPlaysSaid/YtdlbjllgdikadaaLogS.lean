/- varvelaw22.same, blocksSame. -/
import Derived.Test.YtdlbjllgdikadaaLogY
namespace Go.Proofs.Ytdlbjllgdikadaa
open Go.RowKit
set_option linter.unusedVariables false
set_option linter.unusedSimpArgs false

set_option maxRecDepth 100000 in
set_option maxHeartbeats 4000000 in
theorem sameLog_calls (F : Nat → Prop) (B X D b R V n j : Nat) (d : Dev) (g : Lg) (r : RLg) (rd : RDev) (v1 v2 u1 u2 : Value) (w : World) (h : LogSt w B X D g v1 v2) (hD : DevAt w D b d) (hR : RSt F w R V n r rd u1 u2) (hrel : LRel n j g r) (hdn : d.blocks = n) (hok : LgOk g) :
    Calls Try.prog 82 #[.pointer (some ⟨X, 0, none⟩), .pointer (some ⟨R, 0, none⟩)] w fun e w' => e = .returned (.bool true) ∧ Below w.heap.size w w' := by
  have hl1 := hok.l1
  have hll := hR.num.ll
  have hrec := Lib.hid (records_log B X D g v1 v2 w h.at_ h.o1 (by omega) (fun x hx => by have := (hok.b1 x hx).1; omega))
  have hlas := Lib.hid (fun W (hb : Below w.heap.size w W) => (hR.later hb).lasts)
  rw [← hrel.lasts] at hlas
  obtain ⟨nw, hnw⟩ : ∃ nw, nw = r.W.length := ⟨_, rfl⟩
  have hwt := Lib.hid (fun W (hb : Below w.heap.size w W) => (show Calls Try.prog 70 #[.pointer (some ⟨X, 0, none⟩)] W fun e w' => e = .returned (.int .i64 (nw : Int)) ∧ W = w' from by
    have := waiting_log B X D g v1 v2 W (h.later hb).at_ (h.later hb).o2
    rwa [hrel.waits, ← hnw] at this))
  obtain ⟨ro, hro⟩ : ∃ ro, ro = roomR n r := ⟨_, rfl⟩
  have hrm := Lib.hid (fun W (hb : Below w.heap.size w W) => (show Calls Try.prog 71 #[.pointer (some ⟨X, 0, none⟩)] W fun e w' => e = .returned (.int .i64 ro) ∧ Below W.heap.size W w' from by
    have := roomM_log X D b d g v1 v2 W (h.later hb).at_ (hD.later hb) hok.bn (by have := hok.nx; omega) (by have := hok.my; omega) (by have := hok.nx; omega)
    rwa [hrel.room d hdn, ← hro] at this))
  have hrr := Lib.hid (fun W (hb : Below w.heap.size w W) => (show Calls Try.prog 105 #[.pointer (some ⟨R, 0, none⟩)] W fun e w' => e = .returned (.int .i64 ro) ∧ Below W.heap.size W w' from by
    have := rroom_calls F R V n r rd u1 u2 W (hR.later hb)
    rwa [← hro] at this))
  obtain ⟨of, hof⟩ : ∃ of, of = r.off := ⟨_, rfl⟩
  have hdo := Lib.hid (fun W (hb : Below w.heap.size w W) => (show Calls Try.prog 72 #[.pointer (some ⟨X, 0, none⟩)] W fun e w' => e = .returned (.bool of) ∧ W = w' from by
    have := down_log X D g v1 v2 W (h.later hb).at_
    rwa [hrel.down, ← hof] at this))
  obtain ⟨a2, q2, rfl, _⟩ := hR.o2.slice
  obtain ⟨L, hL⟩ : ∃ L, L = g.lasts := ⟨_, rfl⟩
  rw [← hL] at hrec hlas hl1
  have c2 : ∀ W, Below w.heap.size w W → W.cell? ⟨R, 2, none⟩ = some (.slice a2 nw q2) := fun W hb => by have := (hR.later hb).at_.c2; rwa [← hnw] at this
  have c4 : ∀ W, Below w.heap.size w W → W.cell? ⟨R, 4, none⟩ = some (.bool of) := fun W hb => by have := (hR.later hb).at_.c4; rwa [← hof] at this
  have HC := Lib.hid (And.intro c2 c4)
  clear c2 c4 hL hof hro hnw hrel hok h hD hR hdn
  go_enter Try.func82, Try.ntmps82
  go_upto_region 2 with (go_at_call 69; refine hrec.out.mono ?_; rintro e w1 ⟨v5, rfl, hO5, hB5⟩; obtain ⟨a5, c5, rfl, _, _, _, _, hno5⟩ := hO5.slice)
  have e2 : ∀ x : SW (fun W => Below w1.heap.size w1 W), x.W.cell? ⟨R, 2, none⟩ = some (.slice a2 nw q2) := fun x => HC.out.1 _ (below_call hB5 (Nat.le_refl _) x.h)
  have e4 : ∀ x : SW (fun W => Below w1.heap.size w1 W), x.W.cell? ⟨R, 4, none⟩ = some (.bool of) := fun x => HC.out.2 _ (below_call hB5 (Nat.le_refl _) x.h)
  have hne : Nonempty (SW (fun W => Below w1.heap.size w1 W)) := ⟨⟨w1, Below.refl _ _⟩⟩
  have HO5 := Lib.hid (And.intro hO5 hno5)
  clear hO5 hno5
  refine wp_region_seq2 (fun W => Below w1.heap.size w1 W) [(0, true), (1, true), (2, false), (3, false), (4, true), (5, true), (6, true), (8, true), (9, true), (10, true), (11, true), (12, true), (7, false), (13, true), (14, true), (15, true), (16, true), (18, true), (17, false), (19, false), (20, true), (21, true), (22, true), (23, true), (25, true), (26, true), (27, true), (28, true), (24, false), (29, true), (30, true)] (by kernel_rfl) (by kernel_rfl) (fun d _ _ _ _ h => by cases d <;> exact h) ((Below.refl _ w1).drew) ?_
  repeat (first
    | ((with_reducible refine wpSeq_skip (o := ⟨_, _, _, _, _, _⟩) (by with_unfolding_all exact rfl) (by with_unfolding_all exact rfl) ?_); simp only [Act.put, List.setIfInBounds_toArray, List.set_cons_zero, List.set_cons_succ])
    | ((with_reducible refine wpSeq_free (o := ⟨_, _, _, _, _, _⟩) (by with_unfolding_all exact rfl) (by with_unfolding_all exact rfl) (fun K hK => ?_)); go_big_quiet_op; (refine hK _ ?_; clear hK K)))
  with_reducible refine wpSeq_next (o := ⟨_, _, _, _, _, _⟩) (by with_unfolding_all exact rfl) (by with_unfolding_all exact rfl) (fun K hK => ?_)
  go_simp
  go_at_call 107
  refine (hlas.out _ (below_call hB5 (Nat.le_refl _) (Below.refl _ w1).drew)).mono ?_
  rintro e w2 ⟨u, rfl, hU, rfl⟩
  obtain ⟨a6, c6, rfl, _, hI6, _⟩ := hU.slice
  refine hK.out _ _ ((Below.refl _ w1).drew) ?_
  clear hK K
  repeat (first
    | ((with_reducible refine wpSeq_skip (o := ⟨_, _, _, _, _, _⟩) (by with_unfolding_all exact rfl) (by with_unfolding_all exact rfl) ?_); simp only [Act.put, List.setIfInBounds_toArray, List.set_cons_zero, List.set_cons_succ])
    | ((with_reducible refine wpSeq_free (o := ⟨_, _, _, _, _, _⟩) (by with_unfolding_all exact rfl) (by with_unfolding_all exact rfl) (fun K hK => ?_)); go_big_quiet_op; (refine hK _ ?_; clear hK K)))
  with_reducible refine wpSeq_next (o := ⟨_, _, _, _, _, _⟩) (by with_unfolding_all exact rfl) (by with_unfolding_all exact rfl) (fun K hK => ?_)
  go_simp
  go_at_call 60
  have hI5 := (HO5.out.1.later (Below.refl _ w1).drew).slice
  obtain ⟨a7, c7, e7, hI7, _⟩ := hI5
  injection e7 with z1 z2 z3
  rw [← z1] at hI7
  refine (sameRs_calls L L a5 a6 c5 c6 w1.drew hI7 hI6 (by omega)).mono ?_
  rintro e w3 ⟨q3, rfl, hq3, hB3⟩
  obtain rfl := hq3.2 rfl
  have hb3 := below_call (Below.refl _ w1).drew (Nat.le_refl _) hB3
  clear z1 z2 z3
  refine hK.out _ _ (hb3) ?_
  clear hK K
  repeat (first
    | ((with_reducible refine wpSeq_skip (o := ⟨_, _, _, _, _, _⟩) (by with_unfolding_all exact rfl) (by with_unfolding_all exact rfl) ?_); simp only [Act.put, List.setIfInBounds_toArray, List.set_cons_zero, List.set_cons_succ])
    | ((with_reducible refine wpSeq_free (o := ⟨_, _, _, _, _, _⟩) (by with_unfolding_all exact rfl) (by with_unfolding_all exact rfl) (fun K hK => ?_)); go_big_quiet_op; (refine hK _ ?_; clear hK K)))
  with_reducible refine wpSeq_next (o := ⟨_, _, _, _, _, _⟩) (by with_unfolding_all exact rfl) (by with_unfolding_all exact rfl) (fun K hK => ?_)
  go_simp
  go_at_call 70
  refine (hwt.out _ (below_call hB5 (Nat.le_refl _) hb3)).mono ?_
  rintro e w4 ⟨rfl, rfl⟩
  refine hK.out _ _ (hb3) ?_
  clear hK K
  repeat (first
    | ((with_reducible refine wpSeq_skip (o := ⟨_, _, _, _, _, _⟩) (by with_unfolding_all exact rfl) (by with_unfolding_all exact rfl) ?_); simp only [Act.put, List.setIfInBounds_toArray, List.set_cons_zero, List.set_cons_succ])
    | ((with_reducible refine wpSeq_free (o := ⟨_, _, _, _, _, _⟩) (by with_unfolding_all exact rfl) (by with_unfolding_all exact rfl) (fun K hK => ?_)); go_big_quiet_op; (refine hK _ ?_; clear hK K)))
  with_reducible refine wpSeq_next (o := ⟨_, _, _, _, _, _⟩) (by with_unfolding_all exact rfl) (by with_unfolding_all exact rfl) (fun K hK => ?_)
  go_simp
  go_at_call 71
  refine (hrm.out _ (below_call hB5 (Nat.le_refl _) hb3)).mono ?_
  rintro e w5 ⟨rfl, hB6⟩
  have hb5 := below_call hb3 (Nat.le_refl _) hB6
  refine hK.out _ _ (hb5) ?_
  clear hK K
  repeat (first
    | ((with_reducible refine wpSeq_skip (o := ⟨_, _, _, _, _, _⟩) (by with_unfolding_all exact rfl) (by with_unfolding_all exact rfl) ?_); simp only [Act.put, List.setIfInBounds_toArray, List.set_cons_zero, List.set_cons_succ])
    | ((with_reducible refine wpSeq_free (o := ⟨_, _, _, _, _, _⟩) (by with_unfolding_all exact rfl) (by with_unfolding_all exact rfl) (fun K hK => ?_)); go_big_quiet_op; (refine hK _ ?_; clear hK K)))
  with_reducible refine wpSeq_next (o := ⟨_, _, _, _, _, _⟩) (by with_unfolding_all exact rfl) (by with_unfolding_all exact rfl) (fun K hK => ?_)
  go_simp
  go_at_call 105
  refine (hrr.out _ (below_call hB5 (Nat.le_refl _) hb5)).mono ?_
  rintro e w6 ⟨rfl, hB7⟩
  have hb6 := below_call hb5 (Nat.le_refl _) hB7
  refine hK.out _ _ (hb6) ?_
  clear hK K
  repeat (first
    | ((with_reducible refine wpSeq_skip (o := ⟨_, _, _, _, _, _⟩) (by with_unfolding_all exact rfl) (by with_unfolding_all exact rfl) ?_); simp only [Act.put, List.setIfInBounds_toArray, List.set_cons_zero, List.set_cons_succ])
    | ((with_reducible refine wpSeq_free (o := ⟨_, _, _, _, _, _⟩) (by with_unfolding_all exact rfl) (by with_unfolding_all exact rfl) (fun K hK => ?_)); go_big_quiet_op; (refine hK _ ?_; clear hK K)))
  with_reducible refine wpSeq_next (o := ⟨_, _, _, _, _, _⟩) (by with_unfolding_all exact rfl) (by with_unfolding_all exact rfl) (fun K hK => ?_)
  go_simp
  go_at_call 72
  refine (hdo.out _ (below_call hB5 (Nat.le_refl _) hb6)).mono ?_
  rintro e w7 ⟨rfl, rfl⟩
  refine hK.out _ _ (hb6) ?_
  clear hK K
  repeat (first
    | ((with_reducible refine wpSeq_skip (o := ⟨_, _, _, _, _, _⟩) (by with_unfolding_all exact rfl) (by with_unfolding_all exact rfl) ?_); simp only [Act.put, List.setIfInBounds_toArray, List.set_cons_zero, List.set_cons_succ])
    | ((with_reducible refine wpSeq_free (o := ⟨_, _, _, _, _, _⟩) (by with_unfolding_all exact rfl) (by with_unfolding_all exact rfl) (fun K hK => ?_)); go_big_quiet_op; (refine hK _ ?_; clear hK K)))
  refine wpSeq_nil ?_
  have hO := HO5.out.1.later hb6
  have hno := HO5.out.2
  have hbw := below_call hB5 (Nat.le_refl _) hb6
  obtain ⟨N, hN⟩ : ∃ N, N = L.length := ⟨_, rfl⟩
  rw [← hN]
  obtain ⟨rr, r1, r2, r3⟩ := hO.trips
  have hrN : rr.length = N := by rw [hN, ← r1, List.length_map]
  have hrow : N = 0 ∨ ∃ gg, a5 = some ⟨gg, 0, none⟩ ∧ RowW w6 w.heap.size gg c5 rr := by
    cases a5 with
    | none =>
      left
      have := (hno rfl).1
      rw [hN, this]; rfl
    | some ad =>
      right
      rcases r2.2 with ⟨e0, _⟩ | ⟨gg, cp, cur, e0, _⟩
      · cases e0
      · have e1 := e0
        injection e1 with e1 e2 e3
        injection e1 with e1
        subst e1
        exact ⟨gg, rfl, by rw [← hN, ← hrN] at r2; exact r2, fun p hp => ⟨_, rfl, r3 p hp⟩⟩
  have HN := Lib.hid hrN
  have hNl : N ≤ 1000000000 := by omega
  refine over_world (R := fun W => (N = 0 ∨ ∃ gg, a5 = some ⟨gg, 0, none⟩ ∧ RowW W w.heap.size gg c5 rr) ∧ Below w.heap.size w W) ⟨hrow, hbw⟩ ?_
  clear hrow hbw hno hO r1 r2 r3 hN hrN hb6 hB7 hb5 hB6 hb3 hB3 hI7 hI6 hU e2 e4 hne HO5 hq3 hB5 hrm hrr hdo hwt hlas hrec HC
  rintro wa ⟨hrow, hba⟩
  go_wp2
  go_loopw [43] (fun iv wq => ∃ i : Nat, i ≤ N ∧ iv = .int .i64 (i : Int) ∧ (N = 0 ∨ ∃ gg, a5 = some ⟨gg, 0, none⟩ ∧ RowW wq w.heap.size gg c5 rr) ∧ Below w.heap.size w wq) (fun iv _ => N - (intOf iv).toNat)
  case atStart => exact ⟨0, Nat.zero_le _, rfl, hrow, hba⟩
  case round =>
    clear hrow hba
    obtain ⟨i, hi, rfl, hrow, hba⟩ := hrel
    by_cases hiN : i < N
    · obtain ⟨gg, rfl, hRw⟩ := hrow.resolve_left (by omega)
      have hir : i < rr.length := by have := HN.out; omega
      have hiI : (i : Int) < (N : Int) := by omega
      obtain ⟨l0, hl0, hob0, hc0⟩ := hRw.at_ i hir
      obtain ⟨p, hp⟩ : ∃ p, p = rr[i] := ⟨_, rfl⟩
      rw [← hp] at hl0 hob0 hc0
      have HP := Lib.hid hp
      have hpl : p.1.body.length ≤ 9223372036854775807 := by
        obtain ⟨_, c6, e6, _, h7, h8, _⟩ := hob0.slice
        injection e6 with q1 q2 q3
        unfold maxLen at h8
        omega
      clear hp
      go_wp2
      go_loopw [52] (fun kv wq => ∃ k : Nat, k ≤ p.1.body.length ∧ kv = .int .i64 (k : Int) ∧ RowW wq w.heap.size gg c5 rr ∧ Below w.heap.size w wq) (fun kv _ => p.1.body.length - (intOf kv).toNat)
      case atStart => exact ⟨0, Nat.zero_le _, rfl, hRw, hba⟩
      case round =>
        clear hRw hba hob0 hc0 hl0
        obtain ⟨k, hk, rfl, hRw, hba⟩ := hrel
        by_cases hkl : k < p.1.body.length
        · obtain ⟨l0, hl0, hob0, hc0⟩ := hRw.at_ i hir
          rw [← HP.out] at hl0 hob0 hc0
          have hkI : (k : Int) < (p.1.body.length : Int) := by omega
          obtain ⟨a7, c7, e7, hby7, _, _, hbk7, hno7⟩ := hob0.slice
          injection e7 with e7a e7b e7c
          obtain ⟨ad, had⟩ : ∃ ad, p.2.1 = some ad := by
            cases hq : p.2.1 with
            | none => rw [hq] at e7a; have := (hno7 e7a.symm).1; rw [this] at hl0; simp at hl0; omega
            | some ad => exact ⟨ad, rfl⟩
          obtain ⟨gb, hgb, hgl, _⟩ := hbk7 ad (by rw [← e7a, had])
          rw [hgb] at had
          rw [had] at hob0 hc0
          have hkl0 : k < l0.length := by omega
          have hcell : wr.cell? ⟨gb, k, none⟩ = some (.int .u8 (l0[k].toNat : Int)) := by
            have := hob0.bytes.cell k hkl0
            rw [Nat.zero_add] at this
            exact this
          have hfr := hob0.free hl0.symm k
          have hst := hRw.stored hob0 k (l0[k] + 1)
          have hbs := hba.setCell (p := ⟨gb, k, none⟩) (by show w.heap.size ≤ gb; omega) (.int .u8 ((l0[k] + 1).toNat : Int))
          rw [← inc_u8] at hst hbs
          obtain ⟨y, hy⟩ : ∃ y, y = l0[k] := ⟨_, rfl⟩
          rw [← hy] at hcell hst hbs
          have HY := Lib.hid (And.intro hy had)
          clear hy hby7 hbk7 hno7 e7a e7b e7c hgb had hob0
          go_wp2
          go_roundw
          case rel => exact ⟨k + 1, by omega, by go_num, hst, hbs⟩
          case measure => simp [intOf]; omega
        · have hke : ¬ (k : Int) < (p.1.body.length : Int) := by omega
          go_wp2
          go_roundw
          case rel => exact ⟨i + 1, by omega, by go_num, .inr ⟨gg, rfl, hRw⟩, hba⟩
          case measure => simp [intOf]; omega
    · have hie : ¬ (i : Int) < (N : Int) := by omega
      go_wp2
      go_ret
      exact ⟨rfl, hba⟩

set_option maxRecDepth 100000 in
set_option maxHeartbeats 4000000 in
theorem blksame_calls (D b V n k0 : Nat) (d : Dev) (rd : RDev) (w : World) (hD : DevAt w D b d) (hV : RefAt w V rd) (hrel : PRel n k0 d rd) (hn : n ≤ 40) :
    Calls Try.prog 83 #[.pointer (some ⟨D, 0, none⟩), .pointer (some ⟨V, 0, none⟩)] w fun e w' => e = .returned (.bool true) ∧ Below w.heap.size w w' := by
  have hcop := Lib.hid (copy_dev D b d w hD)
  obtain ⟨Bt, hBt⟩ : ∃ Bt, Bt = rd.B := ⟨_, rfl⟩
  have hBl : Bt.length = 64 * n := by rw [hBt]; exact hrel.len
  obtain ⟨ds, hds⟩ : ∃ ds, ds = d.down := ⟨_, rfl⟩
  obtain ⟨st, hst⟩ : ∃ st, st = d.set := ⟨_, rfl⟩
  have hdn := Lib.hid (fun W (hb : Below w.heap.size w W) => (show Calls Try.prog 43 #[.pointer (some ⟨D, 0, none⟩)] W fun e w' => e = .returned (.bool ds) ∧ W = w' from by rw [hds]; exact down_dev D b d W (hD.later hb)))
  have hse := Lib.hid (fun W (hb : Below w.heap.size w W) => (show Calls Try.prog 44 #[.pointer (some ⟨D, 0, none⟩)] W fun e w' => e = .returned (.bool st) ∧ W = w' from by rw [hst]; exact isSet_dev D b d W (hD.later hb)))
  have v0 : ∀ W, Below w.heap.size w W → W.cell? ⟨V, 0, none⟩ = some (.string ⟨Bt.toArray⟩) := fun W hb => by rw [hBt]; exact (hV.later hb).c0
  have v1 : ∀ W, Below w.heap.size w W → W.cell? ⟨V, 1, none⟩ = some (.bool st) := fun W hb => by rw [hst, hrel.set]; exact (hV.later hb).c1
  have v2 : ∀ W, Below w.heap.size w W → W.cell? ⟨V, 2, none⟩ = some (.bool ds) := fun W hb => by rw [hds, hrel.down]; exact (hV.later hb).c2
  have hmem : ∀ k, k < n → win Bt k = d.mem k := fun k hk => by rw [hBt]; exact hrel.mem k hk
  have hdb := hrel.blocks
  have HV := Lib.hid (And.intro v0 (And.intro v1 (And.intro v2 hmem)))
  clear v0 v1 v2 hmem hrel hV hD hst hds hBt
  go_enter Try.func83, Try.ntmps83
  go_upto_region 3 with (first
    | (go_at_call 53; refine hcop.out.mono ?_; rintro e w1 ⟨D', b', rfl, hD1, hlo, hlb, hB1⟩)
    | (go_at_call 46; refine (up_dev D' b' d w1 hD1).mono ?_; rintro e w2 ⟨rfl, hD2, hg2⟩))
  have hb2 : Below w.heap.size w w2 := hB1.grown hg2 hB1.size (fun q e => by cases e; exact hlo)
  obtain ⟨d2, hd2⟩ : ∃ d2, d2 = { d with down := false } := ⟨_, rfl⟩
  rw [← hd2] at hD2
  have hd2b : d2.blocks = n := by rw [hd2]; exact hdb
  have hd2m : ∀ k, d2.mem k = d.mem k := fun k => by rw [hd2]
  have hd2d : d2.down = false := by rw [hd2]
  have HD2 := Lib.hid (And.intro hd2b (And.intro hd2m hd2d))
  have hblk := Lib.hid (fun W (hb : DevAt W D' b' d2) => (show Calls Try.prog 55 #[.pointer (some ⟨D', 0, none⟩)] W fun e w' => e = .returned (.int .i64 (n : Int)) ∧ W = w' from by rw [← hd2b]; exact blocks_dev D' b' d2 W hb))
  refine over_world (R := fun W => DevAt W D' b' d2 ∧ Below w.heap.size w W) ⟨hD2, hb2⟩ ?_
  clear hD2 hb2 hg2 hB1 hD1 hlb hlo hd2b hd2m hd2d hd2 hdb hcop
  rintro wa ⟨hDa, hba⟩
  go_wp2_with (go_at_call 55; refine (hblk.out _ hDa).mono ?_; rintro e w3 ⟨rfl, rfl⟩)
  go_loopw [15] (fun iv wq => ∃ k : Nat, k ≤ n ∧ iv = .int .i64 (k : Int) ∧ DevAt wq D' b' d2 ∧ Below w.heap.size w wq) (fun iv _ => n - (intOf iv).toNat)
  case atStart => exact ⟨0, Nat.zero_le _, rfl, hDa, hba⟩
  case round =>
    clear hDa hba
    obtain ⟨k, hk, rfl, hDa, hba⟩ := hrel
    by_cases hlt : k < n
    · have hkI : (k : Int) < (n : Int) := by omega
      have hrd : Calls Try.prog 45 #[.pointer (some ⟨D', 0, none⟩), .int .i64 (k : Int)] wr fun e w' => ∃ g, e = .returned (.tuple #[.slice (some ⟨g, 0, none⟩) 64 64, .int .i64 0]) ∧ ArrT w' g 132 (d2.mem k) ∧ (d2.mem k).length = 64 ∧ Below wr.heap.size wr w' := by
        obtain ⟨z1, _, z3⟩ := HD2.out
        have hm0 : mayE d2 (k : Int) = 0 := by
          rw [mayE, z3, if_neg Bool.false_ne_true, if_neg (by omega)]
        refine (read_dev D' b' d2 (k : Int) wr hDa).mono ?_
        rintro e w' (⟨q2, _⟩ | ⟨_, g, rfl, q3, q4, _, q5⟩)
        · exact absurd hm0 q2
        · exact ⟨g, rfl, q3, q4, q5⟩
      have hwin := HV.out.2.2.2 k hlt
      rw [← HD2.out.2.1 k] at hwin
      obtain ⟨v, hv⟩ : ∃ v, v = d2.mem k := ⟨_, rfl⟩
      rw [← hv] at hrd hwin
      have hx : (⟨Bt.toArray⟩ : ByteArray).extract (64 * k) (64 * k + 64) = ⟨v.toArray⟩ := by
        rw [str_sub, ← hwin, show 64 * k + 64 - 64 * k = 64 by omega]
        rfl
      have hb1 : 64 * (k : Int) + 64 ≤ (Bt.length : Int) := by omega
      have hb2 : (k : Int) < 100 := by omega
      have Hrd := Lib.hid hrd
      have HBl := Lib.hid hBl
      clear hrd hv hwin hBl
      go_upto_region 7 with (go_at_call 45; refine Hrd.out.mono ?_; rintro e w5 ⟨g, rfl, hg5, hv64, hB5⟩)
      have hne : Nonempty (SW (fun W => Below w5.heap.size w5 W)) := ⟨⟨w5, Below.refl _ _⟩⟩
      have t1 : ∀ x : SW (fun W => Below w5.heap.size w5 W), (convert 22 9 (.slice (some ⟨g, 0, none⟩) 64 64)).run Try.prog x.W = .ok (.string ⟨v.toArray⟩) x.W := fun x => conv_text ((hg5.later x.h).bytes) hv64.symm
      have t2 : ∀ x : SW (fun W => Below w5.heap.size w5 W), x.W.cell? ⟨V, 0, none⟩ = some (.string ⟨Bt.toArray⟩) := fun x => HV.out.1 _ (below_call (below_call hba (Nat.le_refl _) hB5) (Nat.le_refl _) x.h)
      refine wp_region_seq2 (fun W => Below w5.heap.size w5 W) [(0, true), (1, true), (2, true), (3, true), (4, true), (5, true), (6, true), (7, true), (8, true), (9, true), (10, true), (11, true), (12, true), (13, true), (14, true), (15, true), (16, true)] (by kernel_rfl) (by kernel_rfl) (fun d _ _ _ _ h => by cases d <;> exact h) ((Below.refl _ _).drew) ?_
      repeat (first
        | ((with_reducible refine wpSeq_skip (o := ⟨_, _, _, _, _, _⟩) (by with_unfolding_all exact rfl) (by with_unfolding_all exact rfl) ?_); simp only [Act.put, List.setIfInBounds_toArray, List.set_cons_zero, List.set_cons_succ])
        | ((with_reducible refine wpSeq_free (o := ⟨_, _, _, _, _, _⟩) (by with_unfolding_all exact rfl) (by with_unfolding_all exact rfl) (fun K hK => ?_)); go_big_quiet_op; (refine hK _ ?_; clear hK K)))
      refine wpSeq_nil ?_
      go_wp2
      go_roundw
      case rel => exact ⟨k + 1, by omega, by go_num, (hDa.later hB5).later (Below.refl _ w5).drew, below_call (below_call hba (Nat.le_refl _) hB5) (Nat.le_refl _) (Below.refl _ w5).drew⟩
      case measure => simp [intOf]; omega
    · have hkI : ¬ (k : Int) < (n : Int) := by omega
      go_upto_region 10 with fail
      have hne : Nonempty (SW (fun W => Below wr.heap.size wr W)) := ⟨⟨wr, Below.refl _ _⟩⟩
      have t0 : ∀ x : SW (fun W => Below wr.heap.size wr W), x.W.cell? ⟨V, 0, none⟩ = some (.string ⟨Bt.toArray⟩) := fun x => HV.out.1 _ (below_call hba (Nat.le_refl _) x.h)
      have t1 : ∀ x : SW (fun W => Below wr.heap.size wr W), x.W.cell? ⟨V, 1, none⟩ = some (.bool st) := fun x => HV.out.2.1 _ (below_call hba (Nat.le_refl _) x.h)
      have t2 : ∀ x : SW (fun W => Below wr.heap.size wr W), x.W.cell? ⟨V, 2, none⟩ = some (.bool ds) := fun x => HV.out.2.2.1 _ (below_call hba (Nat.le_refl _) x.h)
      have hsz : (⟨Bt.toArray⟩ : ByteArray).size = 64 * n := by rw [← hBl]; rfl
      have hbd := below_call hba (Nat.le_refl _) (Below.refl _ wr).drew
      have hwr : IntKind.i64.wrap ((n : Int) * 64) = ((64 * n : Nat) : Int) := by rw [IntKind.wrap_i64]; omega
      have hDd := hDa.later (Below.refl _ wr).drew
      refine wp_region_seq2 (fun W => Below wr.heap.size wr W) [(0, true), (3, true), (4, true), (5, true), (6, true), (7, true), (1, false), (2, true), (8, true), (9, true), (10, true), (12, true), (13, true), (14, true), (15, true), (11, false), (16, true), (17, true), (18, true), (19, true), (21, true), (22, true), (23, true), (24, true), (20, false), (25, true), (26, true), (27, true)] (by kernel_rfl) (by kernel_rfl) (fun d _ _ _ _ h => by cases d <;> exact h) ((Below.refl _ wr).drew) ?_
      repeat (first
        | ((with_reducible refine wpSeq_skip (o := ⟨_, _, _, _, _, _⟩) (by with_unfolding_all exact rfl) (by with_unfolding_all exact rfl) ?_); simp only [Act.put, List.setIfInBounds_toArray, List.set_cons_zero, List.set_cons_succ])
        | ((with_reducible refine wpSeq_free (o := ⟨_, _, _, _, _, _⟩) (by with_unfolding_all exact rfl) (by with_unfolding_all exact rfl) (fun K hK => ?_)); go_big_quiet_op; (refine hK _ ?_; clear hK K)))
      with_reducible refine wpSeq_next (o := ⟨_, _, _, _, _, _⟩) (by with_unfolding_all exact rfl) (by with_unfolding_all exact rfl) (fun K hK => ?_)
      go_simp
      go_at_call 55
      refine (hblk.out _ hDd).mono ?_
      rintro e w6 ⟨rfl, rfl⟩
      refine hK.out _ _ ((Below.refl _ wr).drew) ?_
      clear hK K
      repeat (first
        | ((with_reducible refine wpSeq_skip (o := ⟨_, _, _, _, _, _⟩) (by with_unfolding_all exact rfl) (by with_unfolding_all exact rfl) ?_); simp only [Act.put, List.setIfInBounds_toArray, List.set_cons_zero, List.set_cons_succ])
        | ((with_reducible refine wpSeq_free (o := ⟨_, _, _, _, _, _⟩) (by with_unfolding_all exact rfl) (by with_unfolding_all exact rfl) (fun K hK => ?_)); go_big_quiet_op; (refine hK _ ?_; clear hK K)))
      with_reducible refine wpSeq_next (o := ⟨_, _, _, _, _, _⟩) (by with_unfolding_all exact rfl) (by with_unfolding_all exact rfl) (fun K hK => ?_)
      go_simp
      go_at_call 43
      refine (hdn.out _ hbd).mono ?_
      rintro e w7 ⟨rfl, rfl⟩
      refine hK.out _ _ ((Below.refl _ wr).drew) ?_
      clear hK K
      repeat (first
        | ((with_reducible refine wpSeq_skip (o := ⟨_, _, _, _, _, _⟩) (by with_unfolding_all exact rfl) (by with_unfolding_all exact rfl) ?_); simp only [Act.put, List.setIfInBounds_toArray, List.set_cons_zero, List.set_cons_succ])
        | ((with_reducible refine wpSeq_free (o := ⟨_, _, _, _, _, _⟩) (by with_unfolding_all exact rfl) (by with_unfolding_all exact rfl) (fun K hK => ?_)); go_big_quiet_op; (refine hK _ ?_; clear hK K)))
      with_reducible refine wpSeq_next (o := ⟨_, _, _, _, _, _⟩) (by with_unfolding_all exact rfl) (by with_unfolding_all exact rfl) (fun K hK => ?_)
      go_simp
      go_at_call 44
      refine (hse.out _ hbd).mono ?_
      rintro e w8 ⟨rfl, rfl⟩
      refine hK.out _ _ ((Below.refl _ wr).drew) ?_
      clear hK K
      repeat (first
        | ((with_reducible refine wpSeq_skip (o := ⟨_, _, _, _, _, _⟩) (by with_unfolding_all exact rfl) (by with_unfolding_all exact rfl) ?_); simp only [Act.put, List.setIfInBounds_toArray, List.set_cons_zero, List.set_cons_succ])
        | ((with_reducible refine wpSeq_free (o := ⟨_, _, _, _, _, _⟩) (by with_unfolding_all exact rfl) (by with_unfolding_all exact rfl) (fun K hK => ?_)); go_big_quiet_op; (refine hK _ ?_; clear hK K)))
      refine wpSeq_nil ?_
      go_wp2
      go_ret
      exact ⟨rfl, hbd⟩
end Go.Proofs.Ytdlbjllgdikadaa
