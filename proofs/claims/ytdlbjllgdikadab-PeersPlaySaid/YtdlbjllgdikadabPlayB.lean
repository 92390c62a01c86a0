/- PeersPlay walked. -/
import Derived.Test.YtdlbjllgdikadabPlayA
import Derived.Deep.CutBlock
import Derived.Laws.StructEq
namespace Go.Proofs.Ytdlbjllgdikadab
open Go.RowKit
set_option linter.unusedVariables false

structure PP where
  kind : Int
  n : Int
/-- A row of calls, as it reads. -/
def IsPs (w : World) (a : Option Addr) (l : List PP) : Prop := ∀ i (h : i < l.length), ∃ b off, a = some ⟨b, off, none⟩ ∧ w.cell? ⟨b, off + i * 2, none⟩ = some (.int .i64 l[i].kind) ∧ w.cell? ⟨b, off + i * 2 + 1, none⟩ = some (.int .i64 l[i].n) ∧ l[i].n ≤ 9223372036854775807
theorem IsPs.below {N : Nat} {w w' : World} {a : Option Addr} {l : List PP} (h : IsPs w a l) (hb : Below N w w') (hN : w.heap.size ≤ N) : IsPs w' a l := by
  intro i hi
  obtain ⟨b, off, e, h1, h2, h3⟩ := h i hi
  exact ⟨b, off, e, (hb.cell (p := ⟨b, off + i * 2, none⟩) (Nat.lt_of_lt_of_le (World.block_lt_of_cell? w _ h1) hN)).trans h1, (hb.cell (p := ⟨b, off + i * 2 + 1, none⟩) (Nat.lt_of_lt_of_le (World.block_lt_of_cell? w _ h2) hN)).trans h2, h3⟩

set_option maxRecDepth 100000 in
set_option maxHeartbeats 2000000 in
theorem play_long (n self : Int) (a : Option Addr) (l : List PP) (cap : Nat) (w : World) (hl : 100 < l.length) :
    Calls Try.prog 4 #[.int .i64 n, .int .i64 self, .slice a l.length cap] w fun e w' => e = .returned (.bool true) ∧ Below w.heap.size w w' := by
  go_enter Try.func4, Try.ntmps4
  go_wp2_with (first
    | (go_at_call 8; refine (known_calls _).mono ?_; rintro e w9 ⟨rfl, hB9⟩))
  go_ret
  exact ⟨rfl, hB9⟩

set_option maxRecDepth 100000 in
set_option maxHeartbeats 2000000 in
theorem play_bad (n self : Int) (a : Option Addr) (l : List PP) (cap : Nat) (w : World) (hl : l.length ≤ 100) (h : ¬ (2 ≤ n ∧ n ≤ 16 ∧ 0 ≤ self ∧ self < n)) :
    Calls Try.prog 4 #[.int .i64 n, .int .i64 self, .slice a l.length cap] w fun e w' => e = .returned (.bool true) ∧ Below w.heap.size w w' := by
  have h1 := Lib.hid (new_bad n self w h)
  have h2 := Lib.hid (may_no n self w h)
  clear h
  go_enter Try.func4, Try.ntmps4
  go_wp2_with (first
    | (go_at_call 6; refine h1.out.mono ?_; rintro e w1 ⟨rfl, rfl⟩)
    | (go_at_call 7; refine h2.out.mono ?_; rintro e w1 ⟨rfl, rfl⟩)
    | (go_at_call 8; refine (known_calls _).mono ?_; rintro e w9 ⟨rfl, hB9⟩))
  go_ret
  exact ⟨rfl, hB9⟩

theorem neq50 (a b c : Int) (t : Bool) (W : World) : (binOp .neq 50 (.agg #[.int .u64 a, .int .i64 b, .bool t, .int .u64 c]) (.agg #[.int .u64 a, .int .i64 b, .bool t, .int .u64 c])).run Try.prog W = .ok (.bool false) W := by
  rw [run_neq_struct]
  simp [go_sem]
def Play (w wr : World) (c g V n self : Nat) : Prop := ∃ G cap d, PW w wr c g V G cap d ∧ d.n = n ∧ d.self = self

set_option maxRecDepth 100000 in
set_option maxHeartbeats 16000000 in
theorem play_good (n self : Nat) (a : Option Addr) (l : List PP) (cap : Nat) (w : World) (h2 : 2 ≤ n) (h16 : n ≤ 16) (hs : self < n) (hl : l.length ≤ 100) (hops : IsPs w a l) :
    Calls Try.prog 4 #[.int .i64 (n : Int), .int .i64 (self : Int), .slice a l.length cap] w fun e w' => e = .returned (.bool true) ∧ Below w.heap.size w w' := by
  have h1 := Lib.hid (new_good n self w h2 h16 hs)
  have h3 := Lib.hid (may_yes (n : Int) (self : Int))
  have h4 := Lib.hid (fun W => refNew_calls n self W h2 h16 hs)
  unfold RfNew at h4
  go_enter Try.func4, Try.ntmps4
  go_wp2_with (first
    | (go_at_call 6; refine h1.out.mono ?_; rintro e w1 ⟨rfl, hr1, hb1⟩)
    | (go_at_call 7; refine (h3.out w1 (by omega)).mono ?_; rintro e w2 ⟨rfl, rfl⟩)
    | (go_at_call 13; refine (h4.out w1).mono ?_; rintro e w2 ⟨⟨V, G, cap0, rfl, hV2, hVlo, hGlo⟩, hb2⟩))
  have hP0 : Play w w2 0 w.heap.size V n self := by
    have hl1 := hr1.lt
    have hz := hb1.size
    exact ⟨G, cap0, newR n self, ⟨hr1.later hb2, hV2, RdOk.new h2 h16 hs, below_call hb1 (Nat.le_refl _) hb2, ⟨Nat.le_refl _, by omega, by omega⟩, ⟨by omega, by omega⟩⟩, rfl, rfl⟩
  clear hr1 hb1 hV2 hb2 h1 h4 hVlo hGlo
  go_loopw [7, 9, 50] (fun rv wv iv wr => ∃ (j g V : Nat), j ≤ l.length ∧ rv = .pointer (some ⟨g, 0, none⟩) ∧ wv = .pointer (some ⟨V, 0, none⟩) ∧ iv = .int .i64 (j : Int) ∧ Play w wr (100 * j) g V n self) (fun _ _ iv _ => l.length - (intOf iv).toNat)
  case atStart => exact ⟨0, _, V, Nat.zero_le _, rfl, rfl, rfl, hP0⟩
  case round =>
    clear hP0
    obtain ⟨j, g, V, hj, rfl, rfl, rfl, hP⟩ := hrel
    obtain ⟨G, cap1, d, hW, hdn, hds⟩ := hP
    by_cases hlt : j < l.length
    · obtain ⟨b0, o0, rfl, p0, p1, p2⟩ := (hops.below hW.bel (Nat.le_refl _)) j hlt
      obtain ⟨K, hK⟩ : ∃ K, K = l[j].kind := ⟨_, rfl⟩
      obtain ⟨N, hN⟩ : ∃ N, N = l[j].n := ⟨_, rfl⟩
      rw [← hK] at p0
      rw [← hN] at p1 p2
      clear hK hN
      have hdoes := fun W q => does_calls w W (100 * j) g V G cap1 d K N q (by omega) p2
      have HD := Lib.hid hdoes
      have HW := Lib.hid hW
      have Hd := Lib.hid (And.intro hdn hds)
      unfold DoesPost at HD
      clear hdoes hdn hds
      go_upto_region 12 with fail
      obtain ⟨H, hH⟩ : ∃ H, H = wr.heap.size := ⟨_, rfl⟩
      have b0 := heap_alloc_new wr (.cells #[.int .i64 K, .int .i64 N] 40)
      have hHg : g < wr.heap.size ∧ V < wr.heap.size := ⟨HW.out.rd.lt, HW.out.rf.lt⟩
      rw [← hH] at b0 hHg ⊢
      refine over_world (R := fun W => PW w W (100 * j) g V G cap1 d ∧ W.heap[H]? = some (.cells #[.int .i64 K, .int .i64 N] 40 (0, 0))) ⟨HW.out.later ((Below.refl _ _).alloc (Nat.le_refl _) _), b0⟩ ?_
      clear HW hW p0 p1 b0 hH h3
      rintro wv ⟨hW, hH⟩
      have p0 : wv.cell? ⟨H, 0, none⟩ = some (.int .i64 K) := by rw [cell_of_row _ _ 0 _ _ _ hH]; rfl
      have p1 : wv.cell? ⟨H, 1, none⟩ = some (.int .i64 N) := by rw [cell_of_row _ _ 1 _ _ _ hH]; rfl
      go_upto_region 14 with (first
        | (go_at_call 14; refine (HD.out _ hW).mono ?_; rintro e w3 ⟨rfl, G3, cap3, d3, hW3, hn3, hs3, hA3⟩))
      have hH3 : w3.heap[H]? = some (.cells #[.int .i64 K, .int .i64 N] 40 (0, 0)) := (hA3.block H (lt_of_block hH) (by simp; omega)).trans hH
      have hd3 : d3.n = n ∧ d3.self = self := ⟨hn3.trans Hd.out.1, hs3.trans Hd.out.2⟩
      have Hd3 := Lib.hid hd3
      have hcp := Lib.hid (copy_rd g d3 w3 hW3.rd hW3.ok.n2)
      clear HD hW hH p0 p1 hA3 hn3 hs3 hd3 Hd
      go_upto_block 2 with (first
        | (go_at_call 15; refine hcp.out.mono ?_; rintro e w4 ⟨rfl, hc4, hB4⟩))
      have hW4 := hW3.later hB4
      have p0 : w4.cell? ⟨H, 0, none⟩ = some (.int .i64 K) := by rw [cell_of_row _ _ 0 _ _ _ ((hB4.block H (lt_of_block hH3)).trans hH3)]; rfl
      have p1 : w4.cell? ⟨H, 1, none⟩ = some (.int .i64 N) := by rw [cell_of_row _ _ 1 _ _ _ ((hB4.block H (lt_of_block hH3)).trans hH3)]; rfl
      have hHl := lt_of_block hH3
      have hgl := hW3.rd.lt
      have hGl := hW3.rf.row.lt
      have hsz := hW3.bel.size
      have hsz4 := hB4.size
      have hg2l := hc4.lt
      obtain ⟨g2, hg2⟩ : ∃ g2, g2 = w3.heap.size := ⟨_, rfl⟩
      rw [← hg2] at hc4 hHl hgl hGl hsz hsz4 hg2l ⊢
      have Hg2 := Lib.hid hg2
      have HB4 := Lib.hid hB4
      have HW3 := Lib.hid hW3
      clear hcp hH3 hg2 hB4 hW3
      go_cut [7, 9] from 61 to 84 (fun rv wv wc => ∃ g V : Nat, rv = .pointer (some ⟨g, 0, none⟩) ∧ wv = .pointer (some ⟨V, 0, none⟩) ∧ Play w wc (100 * (j + 1)) g V n self)
      case first =>
        have hok3 : RdOk (100 * (j + 1)) d3 := hW4.ok
        by_cases k6 : K = 6
        · subst k6
          obtain ⟨r, hr⟩ := next_exists d3
          have hn1 := Lib.hid (next_rd g d3 _ w4 hW4.rd hok3 r hr)
          have hok5 := hok3.next hr
          have hn2 := Lib.hid (fun W q => tick_rd g (nextD d3 r) _ W q hok5 (by omega))
          have hn3 := Lib.hid (fun W q => refCopy_calls V G3 cap3 d3 W q)
          go_wp2_with (first
            | (go_at_call 9; refine hn1.out.mono ?_; rintro e w5 ⟨rfl, h5, a5⟩)
            | (go_at_call 10; refine (hn2.out _ h5).mono ?_; rintro e w6 ⟨v6, rfl, _, h6, a6⟩; have rf6 := hW4.rf' (a5.trans a6))
            | (go_at_call 16; refine (hn3.out _ rf6).mono ?_; rintro e w7 ⟨rfl, h7, hB7⟩))
          go_meet
          have a46 := a5.trans a6
          have hz := a46.size
          have hB46 : Below w.heap.size w w6 := hW4.bel.trans (a46.toBelow (fun k hk => by simp at hk; rw [hk]; exact hW4.lo.1) hW4.bel.size)
          exact ⟨g2, w6.heap.size, rfl, rfl, G3, cap3, d3, ⟨(hc4.aside a46 (by simp; omega)).later hB7, h7, hok3, below_call hB46 (Nat.le_refl _) hB7, ⟨hsz, hB46.size, HW3.out.lo.2.2⟩, ⟨by omega, by omega⟩⟩, Hd3.out.1, Hd3.out.2⟩
        · by_cases k7 : K = 7
          · subst k7
            obtain ⟨r, hr⟩ := next_exists d3
            have hn1 := Lib.hid (next_rd g2 d3 _ w4 hc4 hok3 r hr)
            have hok5 := hok3.next hr
            have hn2 := Lib.hid (fun W q => hurry_rd g2 (nextD d3 r) N _ W q hok5)
            unfold HurryPost at hn2
            go_wp2_with (first
              | (go_at_call 9; refine hn1.out.mono ?_; rintro e w5 ⟨rfl, h5, a5⟩; have p15 : w5.cell? ⟨H, 1, none⟩ = some (.int .i64 N) := (World.cell?_of_block (a := ⟨H, 1, none⟩) (a5.block H (by show H < _; omega) (by simp; omega))).trans p1)
              | (go_at_call 17; refine (hn2.out _ h5).mono ?_; rintro e w6 ⟨rfl, h6, g6⟩))
            go_meet
            have a6 := a5.put g6 (fun k hk => .inr (by injection hk with hk; simp [hk]))
            have hB36 : Below w3.heap.size w3 w6 := HB4.out.trans (a6.toBelow (fun k hk => by simp at hk; rw [hk, Hg2.out]; exact Nat.le_refl _) HB4.out.size)
            exact ⟨g, V, rfl, rfl, G3, cap3, d3, HW3.out.later hB36, Hd3.out.1, Hd3.out.2⟩
          · have e6 : (K == 6) = false := by rw [beq_eq_false_iff_ne]; exact k6
            have e7 : (K == 7) = false := by rw [beq_eq_false_iff_ne]; exact k7
            clear k6 k7
            go_wp2
            go_meet
            exact ⟨g, V, rfl, rfl, G3, cap3, d3, hW4, Hd3.out.1, Hd3.out.2⟩
      obtain ⟨g', V', rfl, rfl, hP⟩ := hcut
      clear hW4 p0 p1 hHl hgl hGl hsz hsz4 hc4 Hg2 HB4 HW3 Hd3 hg2l hHg
      obtain ⟨G', cap', d', hW, hdn, hds⟩ := hP
      have hno := Lib.hid (fun W q => now_rd g' d' W q hW.ok.n2)
      have c3 := hW.rf.c3
      go_upto_region 24 with fail
      have hne : Nonempty (SW (fun W => W.cell? ⟨V', 3, none⟩ = some (.int .u64 (d'.now : Int)))) := ⟨⟨wc, c3⟩⟩
      have q3 : ∀ x : SW (fun W => W.cell? ⟨V', 3, none⟩ = some (.int .u64 (d'.now : Int))), x.W.cell? ⟨V', 3, none⟩ = some (.int .u64 (d'.now : Int)) := fun x => x.h
      refine wp_region_seq2 (fun W => W.cell? ⟨V', 3, none⟩ = some (.int .u64 (d'.now : Int))) [(0, true), (2, true), (3, true), (4, true), (5, true), (1, false), (6, true)] (by kernel_rfl) (by kernel_rfl) (fun d _ _ _ _ h => by cases d <;> exact h) (c3) ?_
      repeat (first
        | ((with_reducible refine wpSeq_skip (o := ⟨_, _, _, _, _, _⟩) (by with_unfolding_all exact rfl) (by with_unfolding_all exact rfl) ?_); simp only [Act.put, List.setIfInBounds_toArray, List.set_cons_zero, List.set_cons_succ])
        | ((with_reducible refine wpSeq_free (o := ⟨_, _, _, _, _, _⟩) (by with_unfolding_all exact rfl) (by with_unfolding_all exact rfl) (fun K hK => ?_)); go_big_quiet_op; (refine hK _ ?_; clear hK K)))
      with_reducible refine wpSeq_next (o := ⟨_, _, _, _, _, _⟩) (by with_unfolding_all exact rfl) (by with_unfolding_all exact rfl) (fun K hK => ?_)
      go_simp
      go_at_call 18
      refine (hno.out wc.drew hW.rd).mono ?_
      rintro e w5 ⟨rfl, rfl⟩
      refine hK.out _ _ (c3) ?_
      clear hK K
      repeat (first
        | ((with_reducible refine wpSeq_skip (o := ⟨_, _, _, _, _, _⟩) (by with_unfolding_all exact rfl) (by with_unfolding_all exact rfl) ?_); simp only [Act.put, List.setIfInBounds_toArray, List.set_cons_zero, List.set_cons_succ])
        | ((with_reducible refine wpSeq_free (o := ⟨_, _, _, _, _, _⟩) (by with_unfolding_all exact rfl) (by with_unfolding_all exact rfl) (fun K hK => ?_)); go_big_quiet_op; (refine hK _ ?_; clear hK K)))
      refine wpSeq_nil ?_
      have hW5 : PW w wc.drew (100 * (j + 1)) g' V' G' cap' d' := ⟨hW.rd, hW.rf.drew, hW.ok, hW.bel.drew, hW.lo, hW.ne⟩
      clear hW c3 hne q3 hno
      go_wp2
      go_loopw [13] (fun iv wr => ∃ m : Nat, m ≤ n + 2 ∧ iv = .int .i64 ((m : Int) - 1) ∧ PW w wr (100 * (j + 1)) g' V' G' cap' d') (fun iv _ => n + 2 - (intOf iv + 1).toNat)
      case atStart => exact ⟨0, Nat.zero_le _, rfl, hW5⟩
      case round =>
        clear hW5
        obtain ⟨m, hm, rfl, hQ⟩ := hrel
        by_cases hmn : m < n + 2
        · have hle : (m : Int) - 1 ≤ (n : Int) := by omega
          cases hp : isP d' ((m : Int) - 1) with
          | false =>
            have hlk := Lib.hid (look_no g' d' ((m : Int) - 1) wr hQ.rd hQ.ok.n2 hp)
            have his := Lib.hid (refIs' V' G' cap' d' ((m : Int) - 1) false hp)
            clear hp
            go_upto_region 30 with (first
              | (go_at_call 19; refine hlk.out.mono ?_; rintro e w6 ⟨rfl, hB6⟩)
              | (refine wpList_store_st rfl (.tmp 14) (.tmp 101) rfl w6.heap.size St.none St.none rfl rfl (StAt.made w6) ?_; intro w7 hs7 hg7))
            have hB7 := below_call hB6 (Nat.le_refl _) (((Below.refl _ w6).alloc (Nat.le_refl _) (.cells #[.int .u64 0, .int .i64 0, .bool false, .int .u64 0] 50)).grown hg7 (by simp) (fun k hk => by cases hk; exact Nat.le_refl _))
            have hQ7 := hQ.later hB7
            (try simp only [Act.put])
            have hne : Nonempty (SW (fun _ => True)) := ⟨⟨w7, trivial⟩⟩
            refine wp_region_seq2 (fun _ => True) [(0, true), (1, true), (2, true), (3, false), (4, true), (5, true), (6, true), (7, true), (8, true), (9, true), (10, true), (11, true), (12, true), (13, true), (14, true), (15, true), (16, true), (17, true), (18, true)] (by kernel_rfl) (by kernel_rfl) (fun d _ _ _ _ h => by cases d <;> exact h) (trivial) ?_
            repeat (first
              | ((with_reducible refine wpSeq_skip (o := ⟨_, _, _, _, _, _⟩) (by with_unfolding_all exact rfl) (by with_unfolding_all exact rfl) ?_); simp only [Act.put, List.setIfInBounds_toArray, List.set_cons_zero, List.set_cons_succ])
              | ((with_reducible refine wpSeq_free (o := ⟨_, _, _, _, _, _⟩) (by with_unfolding_all exact rfl) (by with_unfolding_all exact rfl) (fun K hK => ?_)); go_big_quiet_op; (refine hK _ ?_; clear hK K)))
            with_reducible refine wpSeq_next (o := ⟨_, _, _, _, _, _⟩) (by with_unfolding_all exact rfl) (by with_unfolding_all exact rfl) (fun K hK => ?_)
            go_simp
            go_at_call 20
            refine (his.out _ hQ7.rf.drew).mono ?_
            rintro e w8 ⟨rfl, rfl⟩
            refine hK.out _ _ (trivial) ?_
            clear hK K
            repeat (first
              | ((with_reducible refine wpSeq_skip (o := ⟨_, _, _, _, _, _⟩) (by with_unfolding_all exact rfl) (by with_unfolding_all exact rfl) ?_); simp only [Act.put, List.setIfInBounds_toArray, List.set_cons_zero, List.set_cons_succ])
              | ((with_reducible refine wpSeq_free (o := ⟨_, _, _, _, _, _⟩) (by with_unfolding_all exact rfl) (by with_unfolding_all exact rfl) (fun K hK => ?_)); go_big_quiet_op; (refine hK _ ?_; clear hK K)))
            refine wpSeq_nil ?_
            have hQ8 : PW w w7.drew (100 * (j + 1)) g' V' G' cap' d' := ⟨hQ7.rd, hQ7.rf.drew, hQ7.ok, hQ7.bel.drew, hQ7.lo, hQ7.ne⟩
            go_wp2
            go_roundw
            case rel => exact ⟨m + 1, by omega, by go_num, hQ8⟩
            case measure => simp [intOf]; omega
          | true =>
            obtain ⟨k, hk, hkn, hks⟩ := isP_in hp
            rw [hk] at hp hle ⊢
            have HK := Lib.hid hk
            have hlk := Lib.hid (look_yes g' d' k wr hQ.rd hQ.ok.n2 hQ.ok.n16 hp)
            have his := Lib.hid (refIs' V' G' cap' d' (k : Int) true hp)
            have hkn' : (k : Int) < (d'.n : Int) := by omega
            clear hp hk
            go_upto_region 30 with (first
              | (go_at_call 19; refine hlk.out.mono ?_; rintro e w6 ⟨rfl, hB6⟩)
              | (refine wpList_store_st rfl (.tmp 14) (.tmp 101) rfl w6.heap.size St.none (d'.by_ k) rfl rfl (StAt.made w6) ?_; intro w7 hs7 hg7))
            have hB7 := below_call hB6 (Nat.le_refl _) (((Below.refl _ w6).alloc (Nat.le_refl _) (.cells #[.int .u64 0, .int .i64 0, .bool false, .int .u64 0] 50)).grown hg7 (by simp) (fun k hk => by cases hk; exact Nat.le_refl _))
            have hQ7 := hQ.later hB7
            (try simp only [Act.put])
            obtain ⟨X, hX⟩ : ∃ X, X = w6.heap.size := ⟨_, rfl⟩
            rw [← hX] at hs7 ⊢
            obtain ⟨s, hs⟩ : ∃ s, s = d'.by_ k := ⟨_, rfl⟩
            have hst : Sts w7 G' d'.n d'.by_ := hQ7.rf.row
            have r0 : w7.cell? ⟨G', k * 4, none⟩ = some (.int .u64 (s.due : Int)) := by rw [hs]; exact hQ7.rf.s0 k hkn
            have r1 : w7.cell? ⟨G', k * 4 + 1, none⟩ = some (.int .i64 (s.fails : Int)) := by rw [hs]; exact hQ7.rf.s1 k hkn
            have r2 : w7.cell? ⟨G', k * 4 + 2, none⟩ = some (.bool s.busy) := by rw [hs]; exact hQ7.rf.s2 k hkn
            have r3 : w7.cell? ⟨G', k * 4 + 3, none⟩ = some (.int .u64 (s.since : Int)) := by rw [hs]; exact hQ7.rf.s3 k hkn
            rw [← hs] at hs7
            have HS := Lib.hid hs
            clear hs hX hst
            have neq := neq50 (s.due : Int) (s.fails : Int) (s.since : Int) s.busy
            have x0 := hs7.c0
            have x1 := hs7.c1
            have x2 := hs7.c2
            have x3 := hs7.c3
            have c4 := hQ7.rf.c4
            obtain ⟨S, hS⟩ : ∃ S : World → Prop, S = fun W => W.cell? ⟨G', k * 4, none⟩ = some (.int .u64 (s.due : Int)) ∧ W.cell? ⟨G', k * 4 + 1, none⟩ = some (.int .i64 (s.fails : Int)) ∧ W.cell? ⟨G', k * 4 + 2, none⟩ = some (.bool s.busy) ∧ W.cell? ⟨G', k * 4 + 3, none⟩ = some (.int .u64 (s.since : Int)) ∧ W.cell? ⟨X, 0, none⟩ = some (.int .u64 (s.due : Int)) ∧ W.cell? ⟨X, 1, none⟩ = some (.int .i64 (s.fails : Int)) ∧ W.cell? ⟨X, 2, none⟩ = some (.bool s.busy) ∧ W.cell? ⟨X, 3, none⟩ = some (.int .u64 (s.since : Int)) ∧ W.cell? ⟨V', 4, none⟩ = some (.slice (some ⟨G', 0, none⟩) d'.n cap') := ⟨_, rfl⟩
            have hSw : S w7 := by rw [hS]; exact ⟨r0, r1, r2, r3, x0, x1, x2, x3, c4⟩
            have hSd : S w7.drew := by rw [hS]; exact ⟨r0, r1, r2, r3, x0, x1, x2, x3, c4⟩
            have hSy : ∀ W, S W → W.cell? ⟨G', k * 4, none⟩ = some (.int .u64 (s.due : Int)) ∧ W.cell? ⟨G', k * 4 + 1, none⟩ = some (.int .i64 (s.fails : Int)) ∧ W.cell? ⟨G', k * 4 + 2, none⟩ = some (.bool s.busy) ∧ W.cell? ⟨G', k * 4 + 3, none⟩ = some (.int .u64 (s.since : Int)) ∧ W.cell? ⟨X, 0, none⟩ = some (.int .u64 (s.due : Int)) ∧ W.cell? ⟨X, 1, none⟩ = some (.int .i64 (s.fails : Int)) ∧ W.cell? ⟨X, 2, none⟩ = some (.bool s.busy) ∧ W.cell? ⟨X, 3, none⟩ = some (.int .u64 (s.since : Int)) ∧ W.cell? ⟨V', 4, none⟩ = some (.slice (some ⟨G', 0, none⟩) d'.n cap') := fun W h => by rw [hS] at h; exact h
            have hSx := fun x : SW S => hSy x.W x.h
            clear hSy
            clear hS r0 r1 r2 r3 x0 x1 x2 x3 c4
            have hne : Nonempty (SW S) := ⟨⟨w7, hSw⟩⟩
            have y0 := fun x : SW S => (hSx x).1
            have y1 := fun x : SW S => (hSx x).2.1
            have y2 := fun x : SW S => (hSx x).2.2.1
            have y3 := fun x : SW S => (hSx x).2.2.2.1
            have z0 := fun x : SW S => (hSx x).2.2.2.2.1
            have z1 := fun x : SW S => (hSx x).2.2.2.2.2.1
            have z2 := fun x : SW S => (hSx x).2.2.2.2.2.2.1
            have z3 := fun x : SW S => (hSx x).2.2.2.2.2.2.2.1
            have z4 := fun x : SW S => (hSx x).2.2.2.2.2.2.2.2
            clear hSx
            refine wp_region_seq2 (S) [(0, true), (1, true), (2, true), (3, false), (4, true), (5, true), (6, true), (7, true), (8, true), (9, true), (10, true), (11, true), (12, true), (13, true), (14, true), (15, true), (16, true), (17, true), (18, true)] (by kernel_rfl) (by kernel_rfl) (fun d _ _ _ _ h => by cases d <;> exact h) (hSd) ?_
            repeat (first
              | ((with_reducible refine wpSeq_skip (o := ⟨_, _, _, _, _, _⟩) (by with_unfolding_all exact rfl) (by with_unfolding_all exact rfl) ?_); simp only [Act.put, List.setIfInBounds_toArray, List.set_cons_zero, List.set_cons_succ])
              | ((with_reducible refine wpSeq_free (o := ⟨_, _, _, _, _, _⟩) (by with_unfolding_all exact rfl) (by with_unfolding_all exact rfl) (fun K hK => ?_)); go_big_quiet_op; (refine hK _ ?_; clear hK K)))
            with_reducible refine wpSeq_next (o := ⟨_, _, _, _, _, _⟩) (by with_unfolding_all exact rfl) (by with_unfolding_all exact rfl) (fun K hK => ?_)
            go_simp
            go_at_call 20
            refine (his.out _ hQ7.rf.drew).mono ?_
            rintro e w8 ⟨rfl, rfl⟩
            refine hK.out _ _ (hSd) ?_
            clear hK K
            repeat (first
              | ((with_reducible refine wpSeq_skip (o := ⟨_, _, _, _, _, _⟩) (by with_unfolding_all exact rfl) (by with_unfolding_all exact rfl) ?_); simp only [Act.put, List.setIfInBounds_toArray, List.set_cons_zero, List.set_cons_succ])
              | ((with_reducible refine wpSeq_free (o := ⟨_, _, _, _, _, _⟩) (by with_unfolding_all exact rfl) (by with_unfolding_all exact rfl) (fun K hK => ?_)); go_big_quiet_op; (refine hK _ ?_; clear hK K)))
            refine wpSeq_nil ?_
            have hQ8 : PW w w7.drew (100 * (j + 1)) g' V' G' cap' d' := ⟨hQ7.rd, hQ7.rf.drew, hQ7.ok, hQ7.bel.drew, hQ7.lo, hQ7.ne⟩
            clear y0 y1 y2 y3 z0 z1 z2 z3 z4
            go_wp2
            go_roundw
            case rel => exact ⟨m + 1, by omega, by have := HK.out; congr 1; omega, hQ8⟩
            case measure => have := HK.out; simp [intOf]; omega
        · obtain rfl : m = n + 2 := by omega
          have hgt : ¬ ((n : Int) + 2 - 1 ≤ (n : Int)) := by omega
          go_wp2
          go_roundw
          case rel => exact ⟨j + 1, g', V', by omega, rfl, rfl, by go_num, G', cap', d', hQ, hdn, hds⟩
          case measure => simp [intOf]; omega
    · obtain rfl : j = l.length := by omega
      go_wp2_with (go_at_call 8; refine (known_calls _).mono ?_; rintro e w9 ⟨rfl, hB9⟩)
      go_ret
      exact ⟨rfl, below_call hW.bel (Nat.le_refl _) hB9⟩

theorem peersPlay_walk (n self : Int) (a : Option Addr) (l : List PP) (cap : Nat) (w : World) (hops : IsPs w a l) :
    Calls Try.prog 4 #[.int .i64 n, .int .i64 self, .slice a l.length cap] w fun e w' => e = .returned (.bool true) ∧ Below w.heap.size w w' := by
  by_cases hl : l.length ≤ 100
  · by_cases h : 2 ≤ n ∧ n ≤ 16 ∧ 0 ≤ self ∧ self < n
    · obtain ⟨h1, h2, h3, h4⟩ := h
      obtain ⟨k, rfl⟩ := Int.eq_ofNat_of_zero_le (show 0 ≤ n by omega)
      obtain ⟨s, rfl⟩ := Int.eq_ofNat_of_zero_le h3
      exact play_good k s a l cap w (by omega) (by omega) (by omega) hl hops
    · exact play_bad n self a l cap w hl h
  · exact play_long n self a l cap w (by omega)
end Go.Proofs.Ytdlbjllgdikadab
