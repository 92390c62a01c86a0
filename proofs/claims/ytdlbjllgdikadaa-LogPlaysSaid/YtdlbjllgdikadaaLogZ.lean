/- varvelaw22.LogPlays, walked. -/
import Derived.Test.YtdlbjllgdikadaaLogZA
import Derived.Deep.CutBlock
namespace Go.Proofs.Ytdlbjllgdikadaa
open Go.RowKit
set_option linter.unusedVariables false
set_option linter.unusedSimpArgs false

set_option maxHeartbeats 60000000 in
set_option maxRecDepth 100000 in
theorem logPlays_good (n : Nat) (a : Option Addr) (l : List POp) (cap : Nat) (w : World) (hl : l.length ≤ 60) (h16 : 16 ≤ n) (h40 : n ≤ 40) (hB : ∀ o ∈ l, o.B.length ≤ 1500) (hops : IsOps w a l) :
    Calls Try.prog 14 #[.int .i64 (n : Int), .slice a l.length cap] w fun e w' => e = .returned (.bool true) ∧ Below w.heap.size w w' := by
  have hg0 : greatB l = false := by
    unfold greatB
    rw [Bool.or_eq_false_iff]
    refine ⟨?_, decide_eq_false (by omega)⟩
    cases hc : l.any (fun o => decide (1500 < o.B.length)) with
    | false => rfl
    | true =>
      obtain ⟨o, ho, h⟩ := List.any_eq_true.1 hc
      have := of_decide_eq_true h
      have := hB o ho
      omega
  have hgr := great_calls a l cap w hops (by omega)
  rw [hg0] at hgr
  have Hgr := Lib.hid hgr
  have hnew := Lib.hid (new_dev n w h16 (by omega))
  have hkn := Lib.hid known76_calls
  have hn1 : 1 ≤ n ∧ n ≤ 40 := ⟨by omega, h40⟩
  have hp0 := Lib.hid (PRel.start n)
  obtain ⟨d0, hd0⟩ : ∃ d0, d0 = newD n := ⟨_, rfl⟩
  obtain ⟨rd0, hrd0⟩ : ∃ rd0, rd0 = rnewD n := ⟨_, rfl⟩
  have hup0 : d0.down = false := by rw [hd0]; rfl
  have hblk0 : d0.blocks = n := by rw [hd0]; rfl
  have hrn := Lib.hid (fun W => rnew_calls n (by omega) W)
  rw [← hd0, ← hrd0] at hp0
  rw [← hd0] at hnew
  rw [← hrd0] at hrn
  have hopen := Lib.hid (fun D b W h => open_dev D b d0 W h hup0 (by omega) (by omega))
  obtain ⟨N0, hN0⟩ : ∃ N0, N0 = nextS (devRun d0) := ⟨_, rfl⟩
  obtain ⟨L0, hL0⟩ : ∃ L0, L0 = lastsOf (refRecs (devRun d0)) := ⟨_, rfl⟩
  have hropen := Lib.hid (fun F V W (h : RefAt W V rd0) hF => ropen_dev F V n 0 d0 rd0 W h hp0.out hn1.1 hn1.2 hF)
  have HOPS := Lib.hid hops
  have HBB := Lib.hid hB
  clear hgr hg0 hd0 hrd0 hup0 hops hN0 hL0 hB
  go_enter Try.func14, Try.ntmps14
  go_upto_block 0 with (first
    | (go_at_call 77; refine Hgr.out.mono ?_; rintro e w1 ⟨rfl, rfl⟩)
    | (go_at_call 38; refine hnew.out.mono ?_; rintro e w1 ⟨D, b, rfl, hD1, hDl, hbl, hB1⟩)
    | (go_at_call 74; refine (hopen.out _ _ _ hD1).mono ?_; rintro e w2 ⟨X, v1, rfl, hL2, hD2, hB2, hX2⟩)
    | (go_at_call 47; refine (hrn.out _).mono ?_; rintro e w3 ⟨V, rfl, hR3, hV3, hB3⟩)
    | (go_at_call 78; refine (hropen.out (FF w.heap.size (.slice none 0 0) v1 (.slice none 0 0)) _ _ hR3 (fun q hq => by rcases hq with e | e | e | e; exact Nat.lt_of_lt_of_le (hL2.o1.blk q e).2 hB3.size; cases e; cases e; exact Nat.lt_of_lt_of_le e (Nat.le_trans hB1.size (Nat.le_trans hB2.size hB3.size)))).mono ?_; rintro e w4 ⟨R, u1, rfl, hRL4, hU4, hR4, hB4⟩))
  have hM4 : MidE n 0 w.heap.size (.slice none 0 0) (.pointer (some ⟨D, 0, none⟩)) (.pointer (some ⟨X, 0, none⟩)) (.pointer (some ⟨V, 0, none⟩)) (.pointer (some ⟨R, 0, none⟩)) w4 :=
    ⟨_, _, _, _, _, _, _, _, _, _, _, _, _, rfl, rfl, rfl, rfl, Mid.start (w := w1) (W := w2) (W1 := w3) hL2 hD2 hR3 hp0.out ⟨hDl, hbl, Nat.le_trans hB1.size (Nat.le_trans hB2.size hV3), hB1.size⟩ hB2 hB3 hRL4 hU4 hR4 hB4 hn1⟩
  have hb4 := below_call (below_call (below_call hB1 (Nat.le_refl _) hB2) (Nat.le_refl _) hB3) (Nat.le_refl _) hB4
  refine over_world (R := fun W => MidE n 0 w.heap.size (.slice none 0 0) (.pointer (some ⟨D, 0, none⟩)) (.pointer (some ⟨X, 0, none⟩)) (.pointer (some ⟨V, 0, none⟩)) (.pointer (some ⟨R, 0, none⟩)) W ∧ Below w.heap.size w W) ⟨hM4, hb4⟩ ?_
  clear hM4 hb4 hB4 hR4 hU4 hRL4 hB3 hV3 hR3 hX2 hB2 hD2 hL2 hB1 hbl hDl hD1 Hgr hnew hrn hopen hropen hp0 hblk0
  rintro w5 ⟨hM5, hb5⟩
  go_wp2
  go_loopw [5, 7, 9, 10, 58] (fun dv xv vv wv iv wr => ∃ (j : Nat) (I : Value), j ≤ l.length ∧ iv = .int .i64 (j : Int) ∧ MidE n j w.heap.size I dv xv vv wv wr ∧ Below w.heap.size w wr) (fun _ _ _ _ iv _ => l.length - (intOf iv).toNat)
  case atStart => exact ⟨0, _, Nat.zero_le _, rfl, hM5, hb5⟩
  case round =>
    clear hM5 hb5
    obtain ⟨j, I0, hj, rfl, ⟨X, D, b, R, V, g, d, r, rd, v1, v2, u1, u2, rfl, rfl, rfl, rfl, hM⟩, hbw⟩ := hrel
    by_cases hlt : j < l.length
    · obtain ⟨o, b0, o0, ho, rfl, p0, p1, p2, p3, hby, hle, hmax, hno⟩ := (HOPS.out.below hbw (Nat.le_refl _)).cellsAt j hlt
      have hbyw : IsBytes w o.a o.B := by rw [ho]; obtain ⟨_, _, _, _, h, _⟩ := HOPS.out j hlt; exact h
      have hoB : o.B.length ≤ 1500 := by rw [ho]; exact HBB.out _ (List.getElem_mem hlt)
      clear ho
      have hjI : (j : Int) < (l.length : Int) := by omega
      go_upto_block 2 with (first
        | (refine wpList_store_op2 rfl (.tmp 12) (.tmp 61) rfl wr.heap.size noneO o rfl rfl (heap_alloc_new _ _) ?_; intro w3 hO3 hg3; have hB3 := ((Below.refl _ wr).alloc (Nat.le_refl _) (.cells noneO.cells 114)).grown hg3 (by simp) (fun k hk => by cases hk; exact Nat.le_refl _); have q0 := hO3.c0; have q3 := hO3.c3; have q3a := (hO3.later ((Below.refl _ w3).alloc (Nat.le_refl _) (.cells #[] 5))).c3)
        | (at_builtin; refine wpList_append_bytes rfl (.tmp 62) (.tmp 64) rfl w3.heap.size (.slice (some ⟨w3.heap.size, 0, none⟩) 0 0) [] rfl (OwnB.made w3 w3.heap.size (Nat.le_refl _)) o.a o.B.length o.cap o.B rfl rfl hno ((hby.later hB3).alloc _) (by simp; omega) (by simp) ?_; intro v4 w4 hown4 hgr4; rw [List.nil_append] at hown4; obtain ⟨ai, ci, rfl, hbi, hli, _, hblk, hni⟩ := hown4.slice; have hB34 : Below w3.heap.size w3 w4 := ((Below.refl _ w3).alloc (Nat.le_refl _) _).grown hgr4 (by simp) (fun k hk => by simp [Value.ownBlock] at hk; omega); have q04 := (hO3.later hB34).c0))
      have hM3 := hM.later hB3
      have hM4 : Mid n j w.heap.size w4 (.slice ai o.B.length ci) X D b R V g d r rd v1 v2 u1 u2 := hM3.turn hB34 (fun q hq => by have := World.ownsRow.lt hown4 q hq; exact this)
      have hO4 := hO3.later hB34
      have hb4 := below_call (below_call hbw (Nat.le_refl _) hB3) (Nat.le_refl _) hB34
      have hni' : ai = none → o.B.length = 0 ∧ ci = 0 := fun e => by obtain ⟨z1, z2⟩ := hni e; exact ⟨by rw [z1]; rfl, z2⟩
      obtain ⟨H, hH⟩ : ∃ H, H = wr.heap.size := ⟨_, rfl⟩
      obtain ⟨G, hG⟩ : ∃ G, G = w3.heap.size := ⟨_, rfl⟩
      rw [← hG] at hown4
      rw [← hH] at hO4 ⊢
      have HGN := Lib.hid (show w.heap.size ≤ G by rw [hG]; exact Nat.le_trans hbw.size hB3.size)
      obtain ⟨kd, hkd⟩ : ∃ kd, kd = o.kind := ⟨_, rfl⟩
      refine over_world (R := fun W => Mid n j w.heap.size W (.slice ai o.B.length ci) X D b R V g d r rd v1 v2 u1 u2 ∧ OpA W H o ∧ Below w.heap.size w W ∧ OwnB W G (.slice ai o.B.length ci) o.B) ⟨hM4, hO4, hb4, hown4⟩ ?_
      clear hM4 hO4 hb4 hown4 hH hG q0 q3 q3a q04 hgr4 hB34 hM hM3 hO3 hby hB3 hg3 p0 p1 p2 p3 hblk hbi hni
      rw [← hkd]
      clear hkd
      rintro w5 ⟨hM5, hO5, hb5, hI5⟩
      go_cut [5, 7, 9, 10, 14, 15, 16, 17, 18, 19] from 68 to 167 (fun dv xv vv wv okv _ _ _ _ _ wc => okv = .bool true ∧ MidE n (j + 1) w.heap.size (.slice ai o.B.length ci) dv xv vv wv wc ∧ OwnB wc G (.slice ai o.B.length ci) o.B ∧ Below w.heap.size w wc)
      case first =>
        have hj9 : j ≤ 900 := by omega
        have hok := (hM5.syncPre hj9).2.2.2
        have hOKK := Lib.hid hok
        clear hok
        by_cases k1 : kd = 1
        ·
          subst k1
          have hap := Lib.hid (append_log w.heap.size X D b d g v1 v2 ai o.B ci w5.drew (hM5.later (Below.refl _ w5).drew).log (hM5.later (Below.refl _ w5).drew).dev hOKK.out (hI5.later (Below.refl _ w5).drew).bytes hni' (by omega) hM5.lo.2.2.2.2)
          have hMd := hM5.later (Below.refl _ w5).drew
          have hOd := hO5.later (Below.refl _ w5).drew
          have hId := hI5.later (Below.refl _ w5).drew
          have hbd := below_call hb5 (Nat.le_refl _) (Below.refl _ w5).drew
          go_upto_region 16 with fail
          have e3 : ∀ x : SW (fun W => OpA W H o), x.W.cell? ⟨H, 3, none⟩ = some (.slice o.a o.B.length o.cap) := fun x => x.h.c3
          have hne : Nonempty (SW (fun W => OpA W H o)) := ⟨⟨w5.drew, hOd⟩⟩
          refine wp_region_seq2 (fun W => OpA W H o) [(0, true), (1, true), (3, true), (4, true), (5, true), (2, false), (6, false), (7, true), (8, true)] (by kernel_rfl) (by kernel_rfl) (fun d _ _ _ _ h => by cases d <;> exact h) (hOd) ?_
          repeat (first
            | ((with_reducible refine wpSeq_skip (o := ⟨_, _, _, _, _, _⟩) (by with_unfolding_all exact rfl) (by with_unfolding_all exact rfl) ?_); simp only [Act.put, List.setIfInBounds_toArray, List.set_cons_zero, List.set_cons_succ])
            | ((with_reducible refine wpSeq_free (o := ⟨_, _, _, _, _, _⟩) (by with_unfolding_all exact rfl) (by with_unfolding_all exact rfl) (fun K hK => ?_)); go_big_quiet_op; (refine hK _ ?_; clear hK K)))
          with_reducible refine wpSeq_next (o := ⟨_, _, _, _, _, _⟩) (by with_unfolding_all exact rfl) (by with_unfolding_all exact rfl) (fun K hK => ?_)
          go_simp
          go_at_call 66
          refine hap.out.mono ?_
          rintro e w6 hp
          obtain ⟨rfl, ⟨v2', hH6⟩, hK6⟩ := hMd.waitDone 1 (.inl rfl) o.B hp
          have hO6 := hK6.op hOd
          refine hK.out _ _ (hO6) ?_
          clear hK K
          repeat (first
            | ((with_reducible refine wpSeq_skip (o := ⟨_, _, _, _, _, _⟩) (by with_unfolding_all exact rfl) (by with_unfolding_all exact rfl) ?_); simp only [Act.put, List.setIfInBounds_toArray, List.set_cons_zero, List.set_cons_succ])
            | ((with_reducible refine wpSeq_free (o := ⟨_, _, _, _, _, _⟩) (by with_unfolding_all exact rfl) (by with_unfolding_all exact rfl) (fun K hK => ?_)); go_big_quiet_op; (refine hK _ ?_; clear hK K)))
          with_reducible refine wpSeq_next (o := ⟨_, _, _, _, _, _⟩) (by with_unfolding_all exact rfl) (by with_unfolding_all exact rfl) (fun K hK => ?_)
          go_simp
          go_at_call 79
          refine (rwait_calls _ R V n r rd u1 u2 1 o.a o.B o.cap w6 hH6.rst hH6.low (hbyw.later (hbd.trans hK6.bel)) hno (by omega)).mono ?_
          rintro e w7 hp2
          obtain ⟨rfl, ⟨u2', hM7⟩, hK7⟩ := hH6.waitDone hMd.rel hMd.pr 1 (.inl rfl) o.B rfl h40 (by omega) hp2
          refine hK.out _ _ (hK7.op hO6) ?_
          clear hK K
          repeat (first
            | ((with_reducible refine wpSeq_skip (o := ⟨_, _, _, _, _, _⟩) (by with_unfolding_all exact rfl) (by with_unfolding_all exact rfl) ?_); simp only [Act.put, List.setIfInBounds_toArray, List.set_cons_zero, List.set_cons_succ])
            | ((with_reducible refine wpSeq_free (o := ⟨_, _, _, _, _, _⟩) (by with_unfolding_all exact rfl) (by with_unfolding_all exact rfl) (fun K hK => ?_)); go_big_quiet_op; (refine hK _ ?_; clear hK K)))
          refine wpSeq_nil ?_
          go_wp2
          go_meet
          exact ⟨rfl, ⟨_, _, _, _, _, _, _, _, _, _, _, _, _, rfl, rfl, rfl, rfl, hM7.more (Nat.le_succ j)⟩, hK7.own (hK6.own hId), (hbd.trans hK6.bel).trans hK7.bel⟩
        · by_cases k2 : kd = 2
          ·
            subst k2
            have hap := Lib.hid (check_log w.heap.size X D b d g v1 v2 ai o.B ci w5.drew (hM5.later (Below.refl _ w5).drew).log (hM5.later (Below.refl _ w5).drew).dev hOKK.out (hI5.later (Below.refl _ w5).drew).bytes hni' (by omega) hM5.lo.2.2.2.2)
            have hMd := hM5.later (Below.refl _ w5).drew
            have hOd := hO5.later (Below.refl _ w5).drew
            have hId := hI5.later (Below.refl _ w5).drew
            have hbd := below_call hb5 (Nat.le_refl _) (Below.refl _ w5).drew
            go_upto_region 18 with fail
            have e3 : ∀ x : SW (fun W => OpA W H o), x.W.cell? ⟨H, 3, none⟩ = some (.slice o.a o.B.length o.cap) := fun x => x.h.c3
            have hne : Nonempty (SW (fun W => OpA W H o)) := ⟨⟨w5.drew, hOd⟩⟩
            refine wp_region_seq2 (fun W => OpA W H o) [(0, true), (1, true), (3, true), (4, true), (5, true), (2, false), (6, false), (7, true), (8, true)] (by kernel_rfl) (by kernel_rfl) (fun d _ _ _ _ h => by cases d <;> exact h) (hOd) ?_
            repeat (first
              | ((with_reducible refine wpSeq_skip (o := ⟨_, _, _, _, _, _⟩) (by with_unfolding_all exact rfl) (by with_unfolding_all exact rfl) ?_); simp only [Act.put, List.setIfInBounds_toArray, List.set_cons_zero, List.set_cons_succ])
              | ((with_reducible refine wpSeq_free (o := ⟨_, _, _, _, _, _⟩) (by with_unfolding_all exact rfl) (by with_unfolding_all exact rfl) (fun K hK => ?_)); go_big_quiet_op; (refine hK _ ?_; clear hK K)))
            with_reducible refine wpSeq_next (o := ⟨_, _, _, _, _, _⟩) (by with_unfolding_all exact rfl) (by with_unfolding_all exact rfl) (fun K hK => ?_)
            go_simp
            go_at_call 67
            refine hap.out.mono ?_
            rintro e w6 hp
            obtain ⟨rfl, ⟨v2', hH6⟩, hK6⟩ := hMd.waitDone 2 (.inr rfl) o.B hp
            have hO6 := hK6.op hOd
            refine hK.out _ _ (hO6) ?_
            clear hK K
            repeat (first
              | ((with_reducible refine wpSeq_skip (o := ⟨_, _, _, _, _, _⟩) (by with_unfolding_all exact rfl) (by with_unfolding_all exact rfl) ?_); simp only [Act.put, List.setIfInBounds_toArray, List.set_cons_zero, List.set_cons_succ])
              | ((with_reducible refine wpSeq_free (o := ⟨_, _, _, _, _, _⟩) (by with_unfolding_all exact rfl) (by with_unfolding_all exact rfl) (fun K hK => ?_)); go_big_quiet_op; (refine hK _ ?_; clear hK K)))
            with_reducible refine wpSeq_next (o := ⟨_, _, _, _, _, _⟩) (by with_unfolding_all exact rfl) (by with_unfolding_all exact rfl) (fun K hK => ?_)
            go_simp
            go_at_call 79
            refine (rwait_calls _ R V n r rd u1 u2 2 o.a o.B o.cap w6 hH6.rst hH6.low (hbyw.later (hbd.trans hK6.bel)) hno (by omega)).mono ?_
            rintro e w7 hp2
            obtain ⟨rfl, ⟨u2', hM7⟩, hK7⟩ := hH6.waitDone hMd.rel hMd.pr 2 (.inr rfl) o.B rfl h40 (by omega) hp2
            refine hK.out _ _ (hK7.op hO6) ?_
            clear hK K
            repeat (first
              | ((with_reducible refine wpSeq_skip (o := ⟨_, _, _, _, _, _⟩) (by with_unfolding_all exact rfl) (by with_unfolding_all exact rfl) ?_); simp only [Act.put, List.setIfInBounds_toArray, List.set_cons_zero, List.set_cons_succ])
              | ((with_reducible refine wpSeq_free (o := ⟨_, _, _, _, _, _⟩) (by with_unfolding_all exact rfl) (by with_unfolding_all exact rfl) (fun K hK => ?_)); go_big_quiet_op; (refine hK _ ?_; clear hK K)))
            refine wpSeq_nil ?_
            go_wp2
            go_meet
            exact ⟨rfl, ⟨_, _, _, _, _, _, _, _, _, _, _, _, _, rfl, rfl, rfl, rfl, hM7.more (Nat.le_succ j)⟩, hK7.own (hK6.own hId), (hbd.trans hK6.bel).trans hK7.bel⟩
          · by_cases k3 : kd = 3
            ·
              subst k3
              obtain ⟨y1, y2, y3, y4⟩ := hM5.syncPre hj9
              have hsy := Lib.hid (sync_walk w.heap.size X D b d g v1 v2 w5 hM5.log hM5.dev y4 y3 y1 y2)
              have hmn := hM5.rel.mn
              have hM5h := Lib.hid hM5
              have hI5h := Lib.hid hI5
              clear y1 y2 y3 y4
              go_wp2_with (first
                | (go_at_call 68; refine hsy.out.mono ?_; rintro e w6 hp; obtain ⟨he6, ⟨v1', v2', hH6⟩, hK6⟩ := hM5h.out.syncDone hp; obtain ⟨E, hE⟩ : ∃ E : Int, E = (if (putsD (d, g.down || d.down) (catB g.waits)).2 then 11 else 0 : Int) := ⟨_, rfl⟩; rw [← hE] at he6; subst he6; have hHH := Lib.hid hH6; have HEE := Lib.hid hE; clear hH6 hE hp)
                | (go_at_call 80; refine (rsync_calls _ R V n r rd u1 u2 w6 hHH.out.rst hHH.out.low (40 * j) d hM5h.out.pr (by omega)).mono ?_; rintro e w7 hp2; obtain ⟨he7, hM7, hK7⟩ := hHH.out.syncDone hM5h.out.rel hM5h.out.pr rfl rfl hn1.1 h40 hj9 hp2; rw [← HEE.out] at he7; subst he7; have hM7h := Lib.hid hM7; clear hM7 hp2))
              go_meet
              obtain ⟨r', rd', u1', u2', hM7⟩ := hM7h.out
              exact ⟨rfl, ⟨_, _, _, _, _, _, _, _, _, _, _, _, _, rfl, rfl, rfl, rfl, hM7⟩, hK7.own (hK6.own hI5), (hb5.trans hK6.bel).trans hK7.bel⟩
            · by_cases k4 : kd = 4
              ·
                subst k4
                have hMd := hM5.later (Below.refl _ w5).drew
                have hOd := hO5.later (Below.refl _ w5).drew
                have hId := hI5.later (Below.refl _ w5).drew
                have hbd := below_call hb5 (Nat.le_refl _) (Below.refl _ w5).drew
                obtain ⟨hcE, hcP⟩ := hM5.pr.crash h16 o.i o.n hmax
                have HCE := Lib.hid (And.intro hcE hcP)
                clear hcE hcP
                go_upto_region 22 with fail
                have e1 : ∀ x : SW (fun W => OpA W H o), x.W.cell? ⟨H, 1, none⟩ = some (.int .i64 o.i) := fun x => x.h.c1
                have e2 : ∀ x : SW (fun W => OpA W H o), x.W.cell? ⟨H, 2, none⟩ = some (.int .i64 o.n) := fun x => x.h.c2
                have hne : Nonempty (SW (fun W => OpA W H o)) := ⟨⟨w5.drew, hOd⟩⟩
                refine wp_region_seq2 (fun W => OpA W H o) [(0, true), (1, true), (2, true), (3, true), (4, true), (6, true), (7, true), (8, true), (9, true), (10, true), (5, false), (11, false), (12, true), (13, true)] (by kernel_rfl) (by kernel_rfl) (fun d _ _ _ _ h => by cases d <;> exact h) (hOd) ?_
                repeat (first
                  | ((with_reducible refine wpSeq_skip (o := ⟨_, _, _, _, _, _⟩) (by with_unfolding_all exact rfl) (by with_unfolding_all exact rfl) ?_); simp only [Act.put, List.setIfInBounds_toArray, List.set_cons_zero, List.set_cons_succ])
                  | ((with_reducible refine wpSeq_free (o := ⟨_, _, _, _, _, _⟩) (by with_unfolding_all exact rfl) (by with_unfolding_all exact rfl) (fun K hK => ?_)); go_big_quiet_op; (refine hK _ ?_; clear hK K)))
                with_reducible refine wpSeq_next (o := ⟨_, _, _, _, _, _⟩) (by with_unfolding_all exact rfl) (by with_unfolding_all exact rfl) (fun K hK => ?_)
                go_simp
                go_at_call 40
                refine (crash_dev D b d o.i o.n w5.drew hMd.dev).mono ?_
                rintro e w6 ⟨rfl, hd6, hg6⟩
                obtain ⟨hH6, hK6⟩ := hMd.dev1 hd6 (Aside.grown hg6 (fun q e _ => by cases e; simp))
                have hO6 := hK6.op hOd
                refine hK.out _ _ (hO6) ?_
                clear hK K
                repeat (first
                  | ((with_reducible refine wpSeq_skip (o := ⟨_, _, _, _, _, _⟩) (by with_unfolding_all exact rfl) (by with_unfolding_all exact rfl) ?_); simp only [Act.put, List.setIfInBounds_toArray, List.set_cons_zero, List.set_cons_succ])
                  | ((with_reducible refine wpSeq_free (o := ⟨_, _, _, _, _, _⟩) (by with_unfolding_all exact rfl) (by with_unfolding_all exact rfl) (fun K hK => ?_)); go_big_quiet_op; (refine hK _ ?_; clear hK K)))
                with_reducible refine wpSeq_next (o := ⟨_, _, _, _, _, _⟩) (by with_unfolding_all exact rfl) (by with_unfolding_all exact rfl) (fun K hK => ?_)
                go_simp
                go_at_call 50
                refine (rcrash_calls V rd o.i o.n w6 hH6.rst.dev).mono ?_
                rintro e w7 ⟨rfl, hV7, hg7⟩
                obtain ⟨hM7, hK7⟩ := hH6.dev2 hV7 (Aside.grown hg7 (fun q e _ => by cases e; simp)) hMd.rel HCE.out.2
                rw [← HCE.out.1]
                refine hK.out _ _ (hK7.op hO6) ?_
                clear hK K
                repeat (first
                  | ((with_reducible refine wpSeq_skip (o := ⟨_, _, _, _, _, _⟩) (by with_unfolding_all exact rfl) (by with_unfolding_all exact rfl) ?_); simp only [Act.put, List.setIfInBounds_toArray, List.set_cons_zero, List.set_cons_succ])
                  | ((with_reducible refine wpSeq_free (o := ⟨_, _, _, _, _, _⟩) (by with_unfolding_all exact rfl) (by with_unfolding_all exact rfl) (fun K hK => ?_)); go_big_quiet_op; (refine hK _ ?_; clear hK K)))
                refine wpSeq_nil ?_
                go_wp2
                go_meet
                exact ⟨rfl, ⟨_, _, _, _, _, _, _, _, _, _, _, _, _, rfl, rfl, rfl, rfl, hM7.more (Nat.le_succ j)⟩, hK7.own (hK6.own hId), (hbd.trans hK6.bel).trans hK7.bel⟩
              · by_cases k5 : kd = 5
                ·
                  subst k5
                  have hdn := Lib.hid (down_dev D b d w5 hM5.dev)
                  obtain ⟨ds, hds⟩ : ∃ ds, ds = d.down := ⟨_, rfl⟩
                  rw [← hds] at hdn
                  have HDS := Lib.hid hds
                  clear hds
                  go_upto_if 113 with (go_at_call 43; refine hdn.out.mono ?_; rintro e w6 ⟨rfl, rfl⟩)
                  go_cut [15, 16] from 114 to 125 (fun _ _ wc => Below w5.heap.size w5 wc)
                  case first =>
                    cases hd1 : ds with
                    | false =>
                      subst hd1
                      go_wp2
                      go_meet
                      exact Below.refl _ _
                    | true =>
                      subst hd1
                      have hono := Lib.hid (open_no (.pointer (some ⟨D, 0, none⟩)) 11 (by decide) w5 (find_down D b d w5 hM5.dev HDS.out.symm))
                      go_wp2_with (go_at_call 74; refine hono.out.mono ?_; rintro e w6 ⟨rfl, hB6⟩)
                      go_meet
                      exact hB6
                  case rest =>
                    have hMc := hM5.later hcut
                    have hIc := hI5.later hcut
                    have hbc := below_call hb5 (Nat.le_refl _) hcut
                    have hbl := hM5.pr.blocks
                    clear hcut hM5 hI5 hb5 hO5 hdn HDS
                    go_wp2_with (first
                      | (go_at_call 46; refine (up_dev D b d wc hMc.dev).mono ?_; rintro e w6 ⟨rfl, hd6, hg6⟩; obtain ⟨hH6, hK6⟩ := hMc.dev1 hd6 (Aside.grown hg6 (fun q e _ => by cases e; simp)); have z2 := hH6.rst.dev.c2; have z3 := hH6.rst.dev.free 2; obtain ⟨hM7, hK7⟩ := hH6.dev2 (W1 := w6.setCell ⟨V, 2, none⟩ (.bool false)) (rd' := { rd with off := false }) (hH6.rst.dev.stored 2 (.bool false) rfl) ((Aside.refl _ w6).setCell ⟨V, 2, none⟩ _ (fun _ => by simp)) hMc.rel hMc.pr.up; obtain ⟨d6, hd6e⟩ : ∃ d6, d6 = ({ d with down := false } : Dev) := ⟨_, rfl⟩; have hup6 : d6.down = false := (by rw [hd6e]); have hbl6 : d6.blocks = n := (by rw [hd6e]; exact hbl); rw [← hd6e] at hM7; have HM7 := Lib.hid (And.intro hM7 (And.intro hup6 hbl6)); clear hM7 hup6 hbl6 hd6e hd6 hg6 hH6)
                      | (go_at_call 74; refine (open_dev D b d6 _ HM7.out.1.dev HM7.out.2.1 (by rw [HM7.out.2.2]; omega) (by rw [HM7.out.2.2]; omega)).mono ?_; rintro e w8 ⟨X', v1', rfl, hL8, hD8, hB8, hX8⟩)
                      | (go_at_call 78; refine (ropen_dev (FF w.heap.size (.slice ai o.B.length ci) v1' (.slice none 0 0)) V n (40 * j) d6 _ w8 (HM7.out.1.rst.dev.later hB8) HM7.out.1.pr hn1.1 hn1.2 (HM7.out.1.openLow hL8 hB8)).mono ?_; rintro e w9 ⟨R', u1', rfl, hRL9, hU9, hR9, hB9⟩))
                    go_meet
                    exact ⟨rfl, ⟨_, _, _, _, _, _, _, _, _, _, _, _, _, rfl, rfl, rfl, rfl, (HM7.out.1.reopen hL8 hD8 hB8 hRL9 hU9 hR9 hB9 (by omega)).more (Nat.le_succ j)⟩, ((hK7.own (hK6.own hIc)).later hB8).later hB9, below_call (below_call ((hbc.trans hK6.bel).trans hK7.bel) (Nat.le_refl _) hB8) (Nat.le_refl _) hB9⟩
                · by_cases k6 : kd = 6
                  ·
                    subst k6
                    go_wp2_with (first
                      | (go_at_call 53; refine (copy_dev D b d w5 hM5.dev).mono ?_; rintro e w6 ⟨D', b', rfl, hD6, hlD, hlb, hB6⟩; have hM6 := hM5.later hB6)
                      | (go_at_call 54; refine (rcopy_calls V rd w6 hM6.rst.dev).mono ?_; rintro e w7 ⟨V', rfl, hV7, hlV, hB7⟩; have hM7 := hM6.later hB7)
                      | (go_at_call 73; refine (copy_log w.heap.size X D D' g v1 v2 w7 hM7.log hOKK.out).mono ?_; rintro e w8 ⟨X', v1', v2', rfl, hL8, hX8, hB8⟩; have hRF := hM7.copyRst hL8 hB8)
                      | (go_at_call 81; refine (rlcopy_calls _ R V V' n r rd u1 u2 w8 hRF.1 hRF.2).mono ?_; rintro e w9 ⟨R', u1', u2', rfl, hRL9, hU9, hW9, hR9, hB9⟩))
                    go_meet
                    exact ⟨rfl, ⟨_, _, _, _, _, _, _, _, _, _, _, _, _, rfl, rfl, rfl, rfl, (hM7.copied hL8 ((hD6.later hB7).later hB8) (hV7.later hB8) ⟨Nat.le_trans hM5.lo.2.2.2.2 hlD, Nat.le_trans hM5.lo.2.2.2.2 hlb, Nat.le_trans hM6.lo.2.2.2.2 hlV⟩ hB8 hRL9 hU9 hW9 hR9 hB9).more (Nat.le_succ j)⟩, (((hI5.later hB6).later hB7).later hB8).later hB9, below_call (below_call (below_call (below_call hb5 (Nat.le_refl _) hB6) (Nat.le_refl _) hB7) (Nat.le_refl _) hB8) (Nat.le_refl _) hB9⟩
                  · by_cases k7 : kd = 7
                    ·
                      subst k7
                      have hw2 := hM5.rel.wait d hM5.pr.blocks 2 (.inr rfl) o.B
                      have hbl := hM5.pr.blocks
                      have hpre := hM5.syncPre hj9
                      have HW2 := Lib.hid (And.intro hw2 hpre)
                      clear hw2 hpre
                      go_wp2_with (first
                        | (go_at_call 53; refine (copy_dev D b d w5 hM5.dev).mono ?_; rintro e w6 ⟨D', b', rfl, hD6, hlD, hlb, hB6⟩; have hM6 := hM5.later hB6)
                        | (go_at_call 73; refine (copy_log w.heap.size X D D' g v1 v2 w6 hM6.log hOKK.out).mono ?_; rintro e w7 ⟨X', v1', v2', rfl, hL7, hX7, hB7⟩; have hD7 := hD6.later hB7)
                        | (go_at_call 67; refine (check_log w6.heap.size X' D' b' d g v1' v2' ai o.B ci w7 hL7 hD7 hOKK.out ((hI5.later hB6).later hB7).bytes hni' (by omega) hB7.size).mono ?_; rintro e w8 ⟨rfl, v2'', hL8, hA8, _, _⟩; have hD8 := DevAt.waits hL7 hD7 hA8)
                        | (go_at_call 68; refine (sync_walk w6.heap.size X' D' b' d (waitG d g 2 o.B) v1' v2'' w8 hL8 hD8 (HW2.out.1.2.ok h40 (by omega)) HW2.out.2.2.2.1 ⟨hM5.pr.ok, (by have z1 := hM5.pr.low; have z2 := HW2.out.1.2.mn; rw [HW2.out.1.2.waits, catB_sum]; omega)⟩ (fun x hx => (HW2.out.1.2.wf x (by rw [← HW2.out.1.2.waits]; exact hx)).2.2.2)).mono ?_; rintro e w9 ⟨rfl, v1'', v2''', hL9, hD9, hA9, _⟩))
                      all_goals
                        have hlo6 : w5.heap.size ≤ w6.heap.size := hB6.size
                        have hA8b : Below w5.heap.size w7 w8 := hA8.toBelow (fun q hq => by
                          rcases List.mem_cons.1 hq with e | e
                          · rw [e]; exact Nat.le_trans hlo6 hX7
                          · exact Nat.le_trans hlo6 (hL7.o2.blk q (own_list e)).1) (Nat.le_trans hlo6 hB7.size)
                        have hA9b : Below w5.heap.size w8 w9 := hA9.toBelow (fun q hq => by
                          simp only [List.mem_cons] at hq
                          rcases hq with e | e | e | e
                          · rw [e]; exact Nat.le_trans hlo6 hX7
                          · rw [e]; exact hlD
                          · rw [e]; exact hlb
                          · exact Nat.le_trans hlo6 (hL8.o1.blk q (own_list e)).1) (Nat.le_trans (Nat.le_trans hlo6 hB7.size) hA8b.size)
                        have hBall : Below w5.heap.size w5 w9 := ((below_call hB6 (Nat.le_refl _) hB7).trans hA8b).trans hA9b
                        go_meet
                        exact ⟨rfl, ⟨_, _, _, _, _, _, _, _, _, _, _, _, _, rfl, rfl, rfl, rfl, (hM5.later hBall).more (Nat.le_succ j)⟩, hI5.later hBall, below_call hb5 (Nat.le_refl _) hBall⟩
                    ·
                      go_wp2
                      go_meet
                      exact ⟨rfl, ⟨_, _, _, _, _, _, _, _, _, _, _, _, _, rfl, rfl, rfl, rfl, hM5.more (Nat.le_succ j)⟩, hI5, hb5⟩
      case rest =>
        obtain ⟨rfl, ⟨X6, D6, b6, R6, V6, g6, d6, r6, rd6, v16, v26, u16, u26, rfl, rfl, rfl, rfl, hM6⟩, hI6, hb6⟩ := hcut
        clear hM5 hO5 hb5 hI5
        obtain ⟨nB, hnB⟩ : ∃ nB, nB = o.B.length := ⟨_, rfl⟩
        rw [← hnB] at hM6 hI6 ⊢
        have hnl : nB ≤ 1500 := by omega
        have hlB : o.B.length = nB := hnB.symm
        obtain ⟨l0, hl0⟩ : ∃ l0, l0 = o.B := ⟨_, rfl⟩
        rw [← hl0] at hI6 hlB
        clear hnB hl0 hbyw hno hle hni' hoB
        go_wp2
        go_loopw [169] (fun kv wq => ∃ (k : Nat) (lc : List UInt8), k ≤ nB ∧ kv = .int .i64 (k : Int) ∧ lc.length = nB ∧ OwnB wq G (.slice ai nB ci) lc ∧ Mid n (j + 1) w.heap.size wq (.slice ai nB ci) X6 D6 b6 R6 V6 g6 d6 r6 rd6 v16 v26 u16 u26 ∧ Below w.heap.size w wq) (fun kv _ => nB - (intOf kv).toNat)
        case atStart => exact ⟨0, l0, Nat.zero_le _, rfl, hlB, hI6, hM6, hb6⟩
        case round =>
          clear hI6 hM6 hb6
          obtain ⟨k, lc, hk, rfl, hlc, hIq, hMq, hbq⟩ := hrel
          by_cases hkl : k < nB
          · have hkI : (k : Int) < (nB : Int) := by omega
            obtain ⟨gi, hgi⟩ : ∃ gi, ai = some ⟨gi, 0, none⟩ := by
              rcases hIq.2 with ⟨e0, h0⟩ | ⟨g0, cp, cu, e0, _⟩
              · omega
              · injection e0 with e1 e2 e3
                exact ⟨g0, e1⟩
            subst hgi
            have hkc : k < lc.length := by omega
            have hcell : wr.cell? ⟨gi, k, none⟩ = some (.int .u8 (lc[k].toNat : Int)) := by
              have := hIq.bytes.cell k hkc
              rw [Nat.zero_add] at this
              exact this
            have hfr := hIq.free hlc.symm k
            have hst := hIq.stored hlc.symm k (lc[k] + 1)
            have hIq2 : OwnB wr G (.slice (some ⟨gi, 0, none⟩) lc.length ci) lc := by rw [hlc]; exact hIq
            have hMs : Mid n (j + 1) w.heap.size (wr.setCell ⟨gi, k, none⟩ (.int .u8 ((lc[k] + 1).toNat : Int))) (.slice (some ⟨gi, 0, none⟩) nB ci) X6 D6 b6 R6 V6 g6 d6 r6 rd6 v16 v26 u16 u26 := by
              have := Mid.setIn (l := lc) (c := ci) (by rw [hlc]; exact hMq) hIq2 k (.int .u8 ((lc[k] + 1).toNat : Int))
              rwa [hlc] at this
            have hGn : w.heap.size ≤ gi := by have h1 := (World.ownsRow.lt hIq gi rfl).1; have := HGN.out; omega
            have hbs := hbq.setCell (p := ⟨gi, k, none⟩) (by show _ ≤ gi; exact hGn) (.int .u8 ((lc[k] + 1).toNat : Int))
            rw [← inc_u8] at hst hbs hMs
            have hlcs : (lc.set k (lc[k] + 1)).length = nB := by rw [List.length_set]; exact hlc
            obtain ⟨lc2, hlc2⟩ : ∃ lc2, lc2 = lc.set k (lc[k] + 1) := ⟨_, rfl⟩
            rw [← hlc2] at hst hlcs
            obtain ⟨y, hy⟩ : ∃ y, y = lc[k] := ⟨_, rfl⟩
            rw [← hy] at hcell hst hbs hMs
            have HY := Lib.hid (And.intro hy hlc2)
            have HMS := Lib.hid (And.intro hst (And.intro hMs (And.intro hbs hlcs)))
            clear hy hlc2 hst hMs hbs hlcs hIq2 hlc hGn
            go_wp2
            go_roundw
            case rel => exact ⟨k + 1, lc2, by omega, by go_num, HMS.out.2.2.2, HMS.out.1, HMS.out.2.1, HMS.out.2.2.1⟩
            case measure => simp [intOf]; omega
          · have hkI : ¬ (k : Int) < (nB : Int) := by omega
            have hok6 := hMq.rel.ok h40 (by omega)
            have hsm := Lib.hid (sameLog_calls _ w.heap.size X6 D6 b6 R6 V6 n (j + 1) d6 g6 r6 rd6 v16 v26 u16 u26 wr hMq.log hMq.dev hMq.rst hMq.rel hMq.pr.blocks hok6)
            have hbs := Lib.hid (fun W (hb : Below wr.heap.size wr W) => blksame_calls D6 b6 V6 n _ d6 rd6 W (hMq.dev.later hb) (hMq.rst.dev.later hb) hMq.pr h40)
            clear hok6
            go_wp2_with (first
              | (go_at_call 82; refine hsm.out.mono ?_; rintro e w7 ⟨rfl, hB7⟩)
              | (go_at_call 83; refine (hbs.out _ hB7).mono ?_; rintro e w8 ⟨rfl, hB8⟩))
            go_roundw
            case rel => exact ⟨j + 1, _, by omega, by go_num, ⟨_, _, _, _, _, _, _, _, _, _, _, _, _, rfl, rfl, rfl, rfl, (hMq.later hB7).later hB8⟩, below_call (below_call hbq (Nat.le_refl _) hB7) (Nat.le_refl _) hB8⟩
            case measure => simp [intOf]; omega
    · have hje : ¬ (j : Int) < (l.length : Int) := by omega
      go_wp2_with (go_at_call 76; refine (hkn.out _).mono ?_; rintro e w7 ⟨rfl, hB7⟩)
      go_ret
      exact ⟨rfl, below_call hbw (Nat.le_refl _) hB7⟩
end Go.Proofs.Ytdlbjllgdikadaa
