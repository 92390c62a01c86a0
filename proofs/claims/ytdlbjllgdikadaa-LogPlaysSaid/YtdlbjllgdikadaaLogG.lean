/- log: Sync. -/
import Derived.Test.YtdlbjllgdikadaaLogI
import Derived.Shelf.RegionOpen
namespace Go.Proofs.Ytdlbjllgdikadaa
open Go.RowKit
set_option linter.unusedVariables false
set_option linter.unusedSimpArgs false

attribute [local go_sem] Oper.semAt_some

set_option maxRecDepth 100000 in
set_option maxHeartbeats 8000000 in
theorem sync_walk (B X D b : Nat) (d : Dev) (g : Lg) (v1 v2 : Value) (w : World) (h : LogSt w B X D g v1 v2) (hD : DevAt w D b d) (hok : LgOk g) (h1 : 1 ≤ d.blocks) (hdw : DevW d (catB g.waits).length)
    (hmay : ∀ r ∈ g.waits, mayS r.kind r.from_ r.body = true) :
    Calls Try.prog 68 #[.pointer (some ⟨X, 0, none⟩)] w (SyncPost B X D b d g v1 v2 w) := by
  have hnon := Lib.hid (fun W h => none_log X D g v1 v2 W h)
  have hb0 := (Below.refl _ w).alloc (Nat.le_refl _) (.cells #[.pointer (some ⟨X, 0, none⟩)] 101)
  have hP0 : PtrAt (w.alloc (.cells #[.pointer (some ⟨X, 0, none⟩)] 101)) w.heap.size X := heap_alloc_new _ _
  have hL0 := h.at_.later hb0
  have hXl := h.at_.lt
  have hDl := hD.lt
  have hbl := hD.ltb
  have hS0 : SyncW w (w.alloc (.cells #[.pointer (some ⟨X, 0, none⟩)] 101)) B w.heap.size X D b d g v1 v2 := ⟨hP0, hL0, hD.later hb0, h.o1.later hb0, h.o2.later hb0, Aside.below _ hb0⟩
  have c0 := hP0.cell
  obtain ⟨P, hP⟩ : ∃ P, P = w.heap.size := ⟨_, rfl⟩
  have HH := Lib.hid (And.intro h (And.intro hok hmay))
  have HK3 := Lib.hid (kinds3 h.at_ hD)
  clear h hok hmay hD hb0 hP0
  refine (callsIn_wide (n := 6)).1 ?_
  refine callsIn_of_wp_marks Try.func68 rfl trivial ?_ rfl
  simp only [Try.ntmps68, List.size_toArray, List.length_cons, List.length_nil, Nat.reduceAdd, Nat.reduceSub, Array.replicate_succ, Array.replicate_zero, List.push_toArray, List.append_toArray, List.nil_append, List.cons_append]
  refine wpIn_wide.2 ?_
  go_upto_region 4 with (go_at_call 97; refine (hnon.out _ hL0).mono ?_; rintro e w3 ⟨rfl, rfl⟩)
  rw [← hP]
  rw [← hP] at hS0 hXl hDl hbl
  have HP := Lib.hid hP
  refine over_world (R := fun W => SyncW w W B P X D b d g v1 v2) hS0 ?_
  clear hL0 hS0 c0 hP hnon
  rintro wa hS
  have hdn := Lib.hid (fun W hD => down_dev D b d W hD)
  have hPX : P ≠ X := by omega
  have hPT : P ∉ [X, D, b] := by simp; omega
  go_cut [] from 18 to 32 (fun wc => SyncW w wc B P X D b d { g with down := g.down || d.down } v1 v2)
  case first =>
    have hcl : SyncCls P X D g v1 v2 wa.drew := ⟨hS.ptr, hS.log⟩
    have e0 : ∀ x : SW (SyncCls P X D g v1 v2), x.W.cell? ⟨P, 0, none⟩ = some (.pointer (some ⟨X, 0, none⟩)) := fun x => x.h.1.cell
    have e1 : ∀ x : SW (SyncCls P X D g v1 v2), x.W.cell? ⟨X, 0, none⟩ = some (.pointer (some ⟨D, 0, none⟩)) := fun x => x.h.2.c0
    have e6 : ∀ x : SW (SyncCls P X D g v1 v2), x.W.cell? ⟨X, 6, none⟩ = some (.bool g.down) := fun x => x.h.2.c6
    have hne : Nonempty (SW (SyncCls P X D g v1 v2)) := ⟨⟨wa.drew, hcl⟩⟩
    have hSd : SyncW w wa.drew B P X D b d g v1 v2 := hS.later (Below.refl _ wa).drew
    have hfin := hSd.store (g' := { g with down := g.down || d.down }) hPX 6 (.bool (g.down || d.down)) rfl rfl rfl
    have c6 : wa.drew.cell? ⟨X, 6, none⟩ = some (.bool g.down) := hSd.log.c6
    have f6 := hSd.log.free 6
    cases hd : g.down with
    | true =>
      rw [hd] at e6 c6 hfin
      have HF := Lib.hid hfin
      clear hfin
      refine wp_region_seqN (SyncCls P X D g v1 v2) 15 [(0, true), (1, true), (2, true), (3, true), (4, true), (5, true), (6, true), (7, true), (8, true), (9, true), (10, true), (11, false), (12, true), (13, true), (14, true), (15, false)] (by kernel_rfl) (by kernel_rfl) (hcl) ?_
      repeat (first
        | ((with_reducible refine wpSeqL_skip (o := ⟨_, _, _, _, _, _⟩) (by with_unfolding_all exact rfl) (by with_unfolding_all exact rfl) ?_); simp only [Act.put, List.setIfInBounds_toArray, List.set_cons_zero, List.set_cons_succ])
        | ((with_reducible refine wpSeqL_free (o := ⟨_, _, _, _, _, _⟩) (by with_unfolding_all exact rfl) (by with_unfolding_all exact rfl) (fun K hK => ?_)); go_big_quiet_op; (refine hK _ ?_; clear hK K)))
      with_reducible refine wpSeqL_next (o := ⟨_, _, _, _, _, _⟩) (by with_unfolding_all exact rfl) (by with_unfolding_all exact rfl) (fun K hK => ?_)
      go_simp
      refine hK.out _ _ (fun h => absurd rfl h) ?_
      clear hK K
      repeat (first
        | ((with_reducible refine wpSeqL_skip (o := ⟨_, _, _, _, _, _⟩) (by with_unfolding_all exact rfl) (by with_unfolding_all exact rfl) ?_); simp only [Act.put, List.setIfInBounds_toArray, List.set_cons_zero, List.set_cons_succ])
        | ((with_reducible refine wpSeqL_free (o := ⟨_, _, _, _, _, _⟩) (by with_unfolding_all exact rfl) (by with_unfolding_all exact rfl) (fun K hK => ?_)); go_big_quiet_op; (refine hK _ ?_; clear hK K)))
      refine wpSeqL_nilN ?_
      go_wp2
      go_meet
      simp only [hd]
      exact HF.out
    | false =>
      rw [hd] at e6 c6 hfin
      have HF := Lib.hid hfin
      clear hfin
      refine wp_region_seqN (SyncCls P X D g v1 v2) 15 [(0, true), (1, true), (2, true), (3, true), (4, true), (5, true), (6, true), (7, true), (8, true), (9, true), (10, true), (11, false), (12, true), (13, true), (14, true), (15, false)] (by kernel_rfl) (by kernel_rfl) (hcl) ?_
      repeat (first
        | ((with_reducible refine wpSeqL_skip (o := ⟨_, _, _, _, _, _⟩) (by with_unfolding_all exact rfl) (by with_unfolding_all exact rfl) ?_); simp only [Act.put, List.setIfInBounds_toArray, List.set_cons_zero, List.set_cons_succ])
        | ((with_reducible refine wpSeqL_free (o := ⟨_, _, _, _, _, _⟩) (by with_unfolding_all exact rfl) (by with_unfolding_all exact rfl) (fun K hK => ?_)); go_big_quiet_op; (refine hK _ ?_; clear hK K)))
      with_reducible refine wpSeqL_next (o := ⟨_, _, _, _, _, _⟩) (by with_unfolding_all exact rfl) (by with_unfolding_all exact rfl) (fun K hK => ?_)
      go_simp
      go_at_call 43
      refine (hdn.out _ hSd.dev).mono ?_
      rintro e w4 ⟨rfl, rfl⟩
      refine hK.out _ _ (fun _ => hcl) ?_
      clear hK K
      repeat (first
        | ((with_reducible refine wpSeqL_skip (o := ⟨_, _, _, _, _, _⟩) (by with_unfolding_all exact rfl) (by with_unfolding_all exact rfl) ?_); simp only [Act.put, List.setIfInBounds_toArray, List.set_cons_zero, List.set_cons_succ])
        | ((with_reducible refine wpSeqL_free (o := ⟨_, _, _, _, _, _⟩) (by with_unfolding_all exact rfl) (by with_unfolding_all exact rfl) (fun K hK => ?_)); go_big_quiet_op; (refine hK _ ?_; clear hK K)))
      with_reducible refine wpSeqL_next (o := ⟨_, _, _, _, _, _⟩) (by with_unfolding_all exact rfl) (by with_unfolding_all exact rfl) (fun K hK => ?_)
      go_simp
      refine hK.out _ _ (fun h => absurd rfl h) ?_
      clear hK K
      repeat (first
        | ((with_reducible refine wpSeqL_skip (o := ⟨_, _, _, _, _, _⟩) (by with_unfolding_all exact rfl) (by with_unfolding_all exact rfl) ?_); simp only [Act.put, List.setIfInBounds_toArray, List.set_cons_zero, List.set_cons_succ])
        | ((with_reducible refine wpSeqL_free (o := ⟨_, _, _, _, _, _⟩) (by with_unfolding_all exact rfl) (by with_unfolding_all exact rfl) (fun K hK => ?_)); go_big_quiet_op; (refine hK _ ?_; clear hK K)))
      refine wpSeqL_nilN ?_
      go_wp2
      go_meet
      simp only [hd]
      exact HF.out
  case rest =>
    clear hS hdn
    obtain ⟨q0, hq0⟩ : ∃ q0, q0 = (g.down || d.down) := ⟨_, rfl⟩
    rw [← hq0] at hcut
    obtain ⟨a2, c2, rfl, hI2, _⟩ := hcut.o2.slice
    have cP := hcut.ptr.cell
    have c4 := hcut.log.c4
    have HQ := Lib.hid hq0
    have hn := HH.out.2.1.l2
    go_upto_block 0 with fail
    go_cut [] from 5 to 72 (fun w2 => SyncW w w2 B P X D b (putsD (d, q0) (catB g.waits)).1 { g with down := (putsD (d, q0) (catB g.waits)).2 } v1 (.slice a2 g.waits.length c2))
    case first =>
      go_wp2
      go_loopw [38] (fun iv wr => ∃ i : Nat, i ≤ g.waits.length ∧ iv = .int .i64 (i : Int) ∧ SyncW w wr B P X D b (putsD (d, q0) (catB (g.waits.take i))).1 { g with down := (putsD (d, q0) (catB (g.waits.take i))).2 } v1 (.slice a2 g.waits.length c2)) (fun iv _ => g.waits.length - (intOf iv).toNat)
      case atStart => exact ⟨0, Nat.zero_le _, rfl, hcut⟩
      case round =>
        clear hcut hI2 cP c4 hq0
        obtain ⟨i, hi, rfl, hS⟩ := hrel
        by_cases hlt : i < g.waits.length
        · have hiI : (i : Int) < (g.waits.length : Int) := by omega
          obtain ⟨a9, c9, e9, hI9, _⟩ := hS.o2.slice
          obtain ⟨rfl, rfl⟩ : a9 = a2 ∧ c9 = c2 := by injection e9 with q1 q2 q3; exact ⟨q1.symm, q3.symm⟩
          clear e9
          obtain ⟨b1, o1, ab, cb, rfl, p0, p1, p2, hbb, hbc, hbn⟩ := hI9.cellsAt i hlt
          have f0 : wr.cell? ⟨b1, o1 + i * 3, none⟩ = _ := p0 ⟨wr, Below.refl _ _⟩
          have f1 : wr.cell? ⟨b1, o1 + i * 3 + 1, none⟩ = _ := p1 ⟨wr, Below.refl _ _⟩
          have f2 : wr.cell? ⟨b1, o1 + i * 3 + 2, none⟩ = _ := p2 ⟨wr, Below.refl _ _⟩
          have hmr := HH.out.2.2 g.waits[i] (List.getElem_mem hlt)
          have hbr := HH.out.2.1.b2 g.waits[i] (List.getElem_mem hlt)
          have hct := catB_take g.waits i hlt
          have hcs := catB_split g.waits i hlt
          obtain ⟨r, hr⟩ : ∃ r, r = g.waits[i] := ⟨_, rfl⟩
          simp only [← hr] at f0 f1 f2 hmr hbr hct hcs hbb hbc hbn
          obtain ⟨s, hs⟩ : ∃ s, s = putsD (d, q0) (catB (g.waits.take i)) := ⟨_, rfl⟩
          rw [← hs] at hS
          have hsp : splitL r.kind r.from_ r.body = blksOf r := by
            have h0 : splitE r.kind r.from_ r.body = 0 := by unfold splitE; rw [if_pos hmr, if_pos hbr.1]
            unfold splitL blksOf
            rw [if_pos h0]
          obtain ⟨w4, hw4⟩ : ∃ w4, w4 = wr.alloc (.cells #[.int .u8 (r.kind.toNat : Int), .int .u64 (r.from_ : Int), .slice ab r.body.length cb] 91) := ⟨_, rfl⟩
          have hb4 : Below wr.heap.size wr w4 := by rw [hw4]; exact (Below.refl _ _).alloc (Nat.le_refl _) _
          have hX0 : w4.cell? ⟨wr.heap.size, 0, none⟩ = some (.int .u8 (r.kind.toNat : Int)) := by rw [hw4, World.cell?_alloc_new]; rfl
          have hX1 : w4.cell? ⟨wr.heap.size, 1, none⟩ = some (.int .u64 (r.from_ : Int)) := by rw [hw4, World.cell?_alloc_new]; rfl
          have hX2 : w4.cell? ⟨wr.heap.size, 2, none⟩ = some (.slice ab r.body.length cb) := by rw [hw4, World.cell?_alloc_new]; rfl
          have hspc := split_calls r.kind r.from_ (by omega) ab r.body cb hbc (by omega) w4 (fun e => by obtain ⟨z1, z2⟩ := hbn e; exact ⟨by rw [z1]; rfl, z2⟩) (hbb.later hb4)
          unfold SplitPost at hspc
          rw [hsp] at hspc
          have Hsp := Lib.hid hspc
          have HBR := Lib.hid hbr.1
          have HR := Lib.hid (And.intro hr (And.intro hmr (And.intro hct (And.intro hcs hs))))
          have hXl2 := hS.log.lt
          have hDl2 := hS.dev.lt
          have hbl2 := hS.dev.ltb
          have hPl2 : P < wr.heap.size := lt_of_block hS.ptr
          clear p0 p1 p2 hmr hbr hct hcs hspc hsp hr hs hI9 hbb hbc hbn
          go_upto_region 8 with fail
          rw [← hw4]
          have hS4 := hS.later hb4
          have h4s : wr.heap.size < w4.heap.size := by rw [hw4]; simp
          clear hw4 hS f0 f1 f2
          go_upto_region 9 with (go_at_call 24; refine Hsp.out.mono ?_; rintro e w5 ⟨v5, rfl, hO5, hB5⟩; obtain ⟨a5, c5, rfl, _⟩ := hO5.slice)
          have hS5 := hS4.later hB5
          obtain ⟨B1, hB1⟩ : ∃ B1, B1 = w4.heap.size := ⟨_, rfl⟩
          rw [← hB1] at hO5
          obtain ⟨hXB, hDB, hbB, hPB⟩ : X < B1 ∧ D < B1 ∧ b < B1 ∧ P < B1 := by omega
          obtain ⟨Bl, hBl⟩ : ∃ Bl, Bl = blksOf r := ⟨_, rfl⟩
          rw [← hBl] at hO5 ⊢
          have HBl := Lib.hid hBl
          refine over_world (R := fun W => SyncW w W B P X D b s.1 { g with down := s.2 } v1 (.slice (some ⟨b1, o1, none⟩) g.waits.length c9) ∧ OwnBs W B1 (.slice a5 Bl.length c5) Bl) ⟨hS5, hO5⟩ ?_
          clear hS5 hO5 hB5 hS4 h4s hB1 hb4 hX0 hX1 hX2 Hsp hBl hXl2 hDl2 hbl2 hPl2
          rintro wv ⟨hS5, hO5⟩
          have hBlen : Bl.length = manyN r.body.length := by rw [HBl.out]; exact blkTo_length _ _ _ _ _
          have hmle := manyN_le r.body.length
          have HBL := Lib.hid (And.intro hBlen hmle)
          have hBlb : Bl.length ≤ 524289 := by have := HBR.out; omega
          clear hBlen hmle
          go_wp2
          obtain ⟨wo, hwo⟩ : ∃ wo, wo = wr := ⟨_, rfl⟩
          subst hwo
          go_loopw [54] (fun iv wq => ∃ j : Nat, j ≤ Bl.length ∧ iv = .int .i64 (j : Int) ∧ SyncW w wq B P X D b (putsD s (Bl.take j)).1 { g with down := (putsD s (Bl.take j)).2 } v1 (.slice (some ⟨b1, o1, none⟩) g.waits.length c9) ∧ OwnBs wq B1 (.slice a5 Bl.length c5) Bl) (fun iv _ => Bl.length - (intOf iv).toNat)
          case atStart => exact ⟨0, Nat.zero_le _, rfl, hS5, hO5⟩
          case round =>
            clear hS5 hO5
            obtain ⟨j, hj, rfl, hS, hO⟩ := hrel
            by_cases hjl : j < Bl.length
            · have hjI : (j : Int) < (Bl.length : Int) := by omega
              obtain ⟨a8, c8, e8, hIB, _⟩ := hO.slice
              obtain ⟨rfl, rfl⟩ : a8 = a5 ∧ c8 = c5 := by injection e8 with q1 q2 q3; exact ⟨q1.symm, q3.symm⟩
              clear e8
              obtain ⟨b2, o2, ay, cy, ha, f0, f1, f2, f3, f4, hby, hyc, hyn⟩ := hIB.at j hjl
              have htk : Bl.take (j + 1) = Bl.take j ++ [Bl[j]] := by rw [List.take_add_one, List.getElem?_eq_getElem hjl]; rfl
              have hym : mayB Bl[j] = true := by
                simp only [HBl.out, blksOf, blkTo, List.getElem_map, List.getElem_range]
                refine blk_mayS _ _ _ HR.out.2.1 _ ?_
                have := HBL.out.1
                omega
              have hdw2 : DevW (putsD s (Bl.take j)).1 1 := by
                refine putsD_devw _ s _ ?_
                rw [HR.out.2.2.2.2]
                refine putsD_devw _ _ _ (hdw.mono ?_)
                have := HR.out.2.2.2.1
                rw [← HBl.out] at this
                rw [List.length_take]
                omega
              have hbl2 : (putsD s (Bl.take j)).1.blocks = d.blocks := by rw [putsD_blocks, HR.out.2.2.2.2, putsD_blocks]
              obtain ⟨y, hy⟩ : ∃ y, y = Bl[j] := ⟨_, rfl⟩
              simp only [← hy] at f0 f1 f2 f3 f4 hby hyc hyn htk hym
              cases ha
              have hst : putsD s (Bl.take (j + 1)) = putD (putsD s (Bl.take j)) y := by rw [htk, putsD_snoc]
              obtain ⟨t, ht⟩ : ∃ t, t = putsD s (Bl.take j) := ⟨_, rfl⟩
              rw [← ht] at hS hdw2 hbl2 hst
              have hys : y.serial ≤ 1099511627776 ∧ y.body.length ≤ 48 := by unfold mayB at hym; simp at hym; exact ⟨hym.1.1.1, hym.1.2⟩
              obtain ⟨w7, hw7⟩ : ∃ w7, w7 = wr.alloc (.cells #[.int .u64 (y.serial : Int), .int .u8 (y.kind.toNat : Int), .bool y.first, .bool y.last, .slice ay y.body.length cy] 43) := ⟨_, rfl⟩
              have hb7 : Below wr.heap.size wr w7 := by rw [hw7]; exact (Below.refl _ _).alloc (Nat.le_refl _) _
              have hY7 : BlkAt w7 wr.heap.size y ay cy := by rw [hw7]; exact heap_alloc_new _ _
              have hS7 := hS.later hb7
              have hO7 := hO.later hb7
              have hby7 := hby.later hb7
              have HY := Lib.hid (And.intro hym (And.intro hdw2 (And.intro hbl2 (And.intro hst hys))))
              have hXr := hS.log.lt
              have hDr := hS.dev.lt
              have hbr := hS.dev.ltb
              have hPr := lt_of_block hS.ptr
              clear hym hdw2 hbl2 hst hys hy htk ht hIB
              go_upto_region 12 with fail
              rw [← hw7]
              obtain ⟨H, hH⟩ : ∃ H, H = wr.heap.size := ⟨_, rfl⟩
              rw [← hH] at hY7 hXr hDr hbr hPr ⊢
              clear hH hw7 hb7 hS hO hby f0 f1 f2 f3 f4
              refine over_world (R := fun W => SyncW w W B P X D b t.1 { g with down := t.2 } v1 (.slice (some ⟨b1, o1, none⟩) g.waits.length c9) ∧ OwnBs W B1 (.slice (some ⟨b2, o2, none⟩) Bl.length c8) Bl ∧ IsBytes W ay y.body ∧ BlkAt W H y ay cy) ⟨hS7, hO7, hby7, hY7⟩ ?_
              clear hS7 hO7 hby7 hY7
              rintro wx ⟨hS7, hO7, hby7, hY7⟩
              obtain ⟨G, hG⟩ : ∃ G : Lg, G = { g with down := t.2 } := ⟨_, rfl⟩
              obtain ⟨V2, hV2⟩ : ∃ V2, V2 = Value.slice (some ⟨b1, o1, none⟩) g.waits.length c9 := ⟨_, rfl⟩
              rw [← hG, ← hV2] at hS7
              have hSd : SyncW w wx.drew B P X D b t.1 G v1 V2 := hS7.later (Below.refl _ wx).drew
              have hOd := hO7.later (Below.refl _ wx).drew
              have hbyd := hby7.later (Below.refl _ wx).drew
              have hYd : BlkAt wx.drew H y ay cy := hY7.later (Below.refl _ wx).drew
              have hcl : (fun W => SyncCls P X D G v1 V2 W ∧ BlkAt W H y ay cy) wx.drew := ⟨⟨hSd.ptr, hSd.log⟩, hYd⟩
              have e0 : ∀ x : SW (fun W => SyncCls P X D G v1 V2 W ∧ BlkAt W H y ay cy), x.W.cell? ⟨P, 0, none⟩ = some (.pointer (some ⟨X, 0, none⟩)) := fun x => x.h.1.1.cell
              have e6 : ∀ x : SW (fun W => SyncCls P X D G v1 V2 W ∧ BlkAt W H y ay cy), x.W.cell? ⟨X, 6, none⟩ = some (.bool G.down) := fun x => x.h.1.2.c6
              have y0 : ∀ x : SW (fun W => SyncCls P X D G v1 V2 W ∧ BlkAt W H y ay cy), x.W.cell? ⟨H, 0, none⟩ = some (.int .u64 (y.serial : Int)) := fun x => x.h.2.cell 0 _ rfl
              have y1 : ∀ x : SW (fun W => SyncCls P X D G v1 V2 W ∧ BlkAt W H y ay cy), x.W.cell? ⟨H, 1, none⟩ = some (.int .u8 (y.kind.toNat : Int)) := fun x => x.h.2.cell 1 _ rfl
              have y2 : ∀ x : SW (fun W => SyncCls P X D G v1 V2 W ∧ BlkAt W H y ay cy), x.W.cell? ⟨H, 2, none⟩ = some (.bool y.first) := fun x => x.h.2.cell 2 _ rfl
              have y3 : ∀ x : SW (fun W => SyncCls P X D G v1 V2 W ∧ BlkAt W H y ay cy), x.W.cell? ⟨H, 3, none⟩ = some (.bool y.last) := fun x => x.h.2.cell 3 _ rfl
              have y4 : ∀ x : SW (fun W => SyncCls P X D G v1 V2 W ∧ BlkAt W H y ay cy), x.W.cell? ⟨H, 4, none⟩ = some (.slice ay y.body.length cy) := fun x => x.h.2.cell 4 _ rfl
              have hne : Nonempty (SW (fun W => SyncCls P X D G v1 V2 W ∧ BlkAt W H y ay cy)) := ⟨⟨wx.drew, hcl⟩⟩
              have hDV := hSd.dev
              have hkk := kinds3 hSd.log hSd.dev
              have hfree := fun (W : World) (h : LogAt W X D G v1 V2) => h.free 6
              have hGd : G.down = t.2 := by rw [hG]
              have HG := Lib.hid (And.intro hG hV2)
              cases ht2 : t.2 with
              | true =>
                rw [hGd, ht2] at e6
                have c6 : wx.drew.cell? ⟨X, 6, none⟩ = some (.bool true) := by rw [hSd.log.c6, hGd, ht2]
                have f6 := hSd.log.free 6
                have hGs : G = { g with down := true } := by rw [hG, ht2]
                have hput : putD t y = t := by unfold putD; rw [if_pos ht2]
                have hfin : SyncW w (wx.drew.setCell ⟨X, 6, none⟩ (.bool true)) B P X D b (putD t y).1 { g with down := (putD t y).2 } v1 V2 := by
                  rw [hput, ht2, ← hGs]
                  exact hSd.store hPX 6 (.bool true) (by rw [hGs]; rfl) rfl rfl
                have hO6 : OwnBs (wx.drew.setCell ⟨X, 6, none⟩ (.bool true)) B1 (.slice (some ⟨b2, o2, none⟩) Bl.length c8) Bl := hOd.other hSd.log (by decide) (by decide) 6 _
                have HF := Lib.hid (And.intro hfin hO6)
                clear hfin hO6 hput hG hV2 hGd ht2 hkk hfree hDV hGs
                refine wp_region_seqN (fun W => SyncCls P X D G v1 V2 W ∧ BlkAt W H y ay cy) 13 [(0, true), (1, true), (2, true), (3, true), (4, true), (5, true), (6, true), (7, true), (8, false), (9, true), (10, true), (11, true), (12, true), (13, false)] (by kernel_rfl) (by kernel_rfl) (hcl) ?_
                repeat (first
                  | ((with_reducible refine wpSeqL_skip (o := ⟨_, _, _, _, _, _⟩) (by with_unfolding_all exact rfl) (by with_unfolding_all exact rfl) ?_); simp only [Act.put, List.setIfInBounds_toArray, List.set_cons_zero, List.set_cons_succ])
                  | ((with_reducible refine wpSeqL_free (o := ⟨_, _, _, _, _, _⟩) (by with_unfolding_all exact rfl) (by with_unfolding_all exact rfl) (fun K hK => ?_)); go_big_quiet_op; (refine hK _ ?_; clear hK K)))
                with_reducible refine wpSeqL_next (o := ⟨_, _, _, _, _, _⟩) (by with_unfolding_all exact rfl) (by with_unfolding_all exact rfl) (fun K hK => ?_)
                go_simp
                refine hK.out _ _ (fun h => absurd rfl h) ?_
                clear hK K
                repeat (first
                  | ((with_reducible refine wpSeqL_skip (o := ⟨_, _, _, _, _, _⟩) (by with_unfolding_all exact rfl) (by with_unfolding_all exact rfl) ?_); simp only [Act.put, List.setIfInBounds_toArray, List.set_cons_zero, List.set_cons_succ])
                  | ((with_reducible refine wpSeqL_free (o := ⟨_, _, _, _, _, _⟩) (by with_unfolding_all exact rfl) (by with_unfolding_all exact rfl) (fun K hK => ?_)); go_big_quiet_op; (refine hK _ ?_; clear hK K)))
                refine wpSeqL_nilN ?_
                go_wp2
                go_roundw
                case rel =>
                  refine ⟨j + 1, by omega, by go_num, ?_, HF.out.2⟩
                  rw [HY.out.2.2.2.1, ← HG.out.2]; exact HF.out.1
                case measure => simp [intOf]; omega
              | false =>
                rw [hGd, ht2] at e6
                have hput := Lib.hid (put_log X D b t.1 G v1 V2 y ay cy wx.drew hSd.log hSd.dev HY.out.2.1.1 (by have := HY.out.2.2.1; omega) HY.out.1 hbyd hyc hyn (by have := HY.out.2.2.2.2.1; omega) (by have := HY.out.2.2.2.2.2; omega))
                obtain ⟨E, hE⟩ : ∃ E, E = writeE t.1 ((y.serial % t.1.blocks : Nat) : Int) (sealB y) := ⟨_, rfl⟩
                obtain ⟨d2, hd2⟩ : ∃ d2, d2 = writeD t.1 ((y.serial % t.1.blocks : Nat) : Int) (sealB y) := ⟨_, rfl⟩
                rw [← hE, ← hd2] at hput
                have hEI : ((E : Int) != 0) = (E != 0) := by
                  cases E with
                  | zero => rfl
                  | succ n => have h1 : ((n + 1) != 0) = true := by simp
                              rw [h1]; rw [bne_iff_ne]; omega
                have hpd : putD t y = (d2, E != 0) := by unfold putD; rw [ht2, if_neg Bool.false_ne_true, hd2, hE]
                have hG0 : ∀ W q, SyncW w W B P X D b d2 G v1 V2 → SyncW w (W.setCell ⟨X, 6, none⟩ (.bool q)) B P X D b d2 { g with down := q } v1 V2 := fun W q hh => hh.store hPX 6 (.bool q) (by rw [hG]; rfl) (by rw [hG]) (by rw [hG])
                have HG0 := Lib.hid hG0
                have HPD := Lib.hid (And.intro hpd hEI)
                clear hG0 hpd hG hV2 hGd ht2 hE hd2 hEI
                refine wp_region_seqN (fun W => SyncCls P X D G v1 V2 W ∧ BlkAt W H y ay cy) 13 [(0, true), (1, true), (2, true), (3, true), (4, true), (5, true), (6, true), (7, true), (8, false), (9, true), (10, true), (11, true), (12, true), (13, false)] (by kernel_rfl) (by kernel_rfl) (hcl) ?_
                repeat (first
                  | ((with_reducible refine wpSeqL_skip (o := ⟨_, _, _, _, _, _⟩) (by with_unfolding_all exact rfl) (by with_unfolding_all exact rfl) ?_); simp only [Act.put, List.setIfInBounds_toArray, List.set_cons_zero, List.set_cons_succ])
                  | ((with_reducible refine wpSeqL_free (o := ⟨_, _, _, _, _, _⟩) (by with_unfolding_all exact rfl) (by with_unfolding_all exact rfl) (fun K hK => ?_)); go_big_quiet_op; (refine hK _ ?_; clear hK K)))
                with_reducible refine wpSeqL_next (o := ⟨_, _, _, _, _, _⟩) (by with_unfolding_all exact rfl) (by with_unfolding_all exact rfl) (fun K hK => ?_)
                go_simp
                go_at_call 98
                refine hput.out.mono ?_
                rintro e w8 ⟨rfl, hD8, hA8⟩
                have hXT : X ∉ [D, b] := fun hm => by
                  simp only [List.mem_cons, List.not_mem_nil, or_false] at hm
                  rcases hm with e | e
                  · have := hDV.1; rw [← e, hSd.log] at this; simp at this
                  · obtain ⟨_, ⟨M, ⟨es, cl, y2, _⟩, _⟩, _⟩ := hDV; rw [← e, hSd.log] at y2; cases y2
                have hS8 : SyncW w w8 B P X D b d2 G v1 V2 := ⟨hSd.ptr.aside hA8 (by simp; omega), hSd.log.aside hA8 hXT, hD8, hSd.o1.aside hA8 (fun q hq => hkk q (List.mem_cons_of_mem _ hq)), hSd.o2.aside hA8 (fun q hq => hkk q (List.mem_cons_of_mem _ hq)), hSd.as_.trans (hA8.mono (fun q hq => List.mem_cons_of_mem _ hq))⟩
                have hO8 := hOd.aside hA8 (fun q hq => by simp at hq; omega)
                have c68 := hS8.log.c6
                have f68 := hS8.log.free 6
                refine hK.out _ _ (fun _ => ⟨⟨hS8.ptr, hS8.log⟩, (hA8.block H (lt_of_block hYd) (by simp; omega)).trans hYd⟩) ?_
                clear hK K
                repeat (first
                  | ((with_reducible refine wpSeqL_skip (o := ⟨_, _, _, _, _, _⟩) (by with_unfolding_all exact rfl) (by with_unfolding_all exact rfl) ?_); simp only [Act.put, List.setIfInBounds_toArray, List.set_cons_zero, List.set_cons_succ])
                  | ((with_reducible refine wpSeqL_free (o := ⟨_, _, _, _, _, _⟩) (by with_unfolding_all exact rfl) (by with_unfolding_all exact rfl) (fun K hK => ?_)); go_big_quiet_op; (refine hK _ ?_; clear hK K)))
                with_reducible refine wpSeqL_next (o := ⟨_, _, _, _, _, _⟩) (by with_unfolding_all exact rfl) (by with_unfolding_all exact rfl) (fun K hK => ?_)
                go_simp
                refine hK.out _ _ (fun h => absurd rfl h) ?_
                clear hK K
                repeat (first
                  | ((with_reducible refine wpSeqL_skip (o := ⟨_, _, _, _, _, _⟩) (by with_unfolding_all exact rfl) (by with_unfolding_all exact rfl) ?_); simp only [Act.put, List.setIfInBounds_toArray, List.set_cons_zero, List.set_cons_succ])
                  | ((with_reducible refine wpSeqL_free (o := ⟨_, _, _, _, _, _⟩) (by with_unfolding_all exact rfl) (by with_unfolding_all exact rfl) (fun K hK => ?_)); go_big_quiet_op; (refine hK _ ?_; clear hK K)))
                refine wpSeqL_nilN ?_
                have hfin := HG0.out w8 ((E : Int) != 0) hS8
                have hO9 := hO8.other hS8.log (by decide) (by decide) 6 (.bool ((E : Int) != 0))
                have HF := Lib.hid (And.intro hfin hO9)
                clear hfin hO9 hO8 hS8 c68 f68
                go_wp2
                go_roundw
                case rel =>
                  refine ⟨j + 1, by omega, by go_num, ?_, HF.out.2⟩
                  rw [HY.out.2.2.2.1, HPD.out.1, ← HG.out.2, ← HPD.out.2]; exact HF.out.1
                case measure => simp [intOf]; omega
            · have hie : j = Bl.length := by omega
              subst hie
              rw [List.take_length] at hS
              have hfin : SyncW w wr B P X D b (putsD (d, q0) (catB (g.waits.take (i + 1)))).1 { g with down := (putsD (d, q0) (catB (g.waits.take (i + 1)))).2 } v1 (.slice (some ⟨b1, o1, none⟩) g.waits.length c9) := by
                rw [HR.out.2.2.1, putsD_app, ← HR.out.2.2.2.2, ← HBl.out]; exact hS
              have HF := Lib.hid hfin
              clear hfin
              go_wp2
              go_roundw
              case rel => exact ⟨i + 1, by omega, by go_num, HF.out⟩
              case measure => simp [intOf]; omega
        · have hie : i = g.waits.length := by omega
          subst hie
          rw [List.take_length] at hS
          go_wp2
          go_meet
          exact hS
    case rest =>
      clear hI2 cP c4
      obtain ⟨s, hs⟩ : ∃ s, s = putsD (d, q0) (catB g.waits) := ⟨_, rfl⟩
      rw [← hs] at hcut
      have hpost : ∀ (e : Ending) (w' : World), e = .returned (.int .i64 (if s.2 then 11 else 0 : Int)) → (∃ v1' v2', LogSt w' B X D (syncG s.2 g) v1' v2' ∧ DevAt w' D b s.1 ∧ Aside (X :: D :: b :: v1.ownBlock.toList) w w' ∧ (∀ q, v1'.ownBlock = some q → v1.ownBlock = some q ∨ w.heap.size ≤ q) ∧ (∀ q, v2'.ownBlock = some q → (Value.slice a2 g.waits.length c2).ownBlock = some q) ∧
        (∀ F : Nat → Prop, (∀ q, F q → q < w.heap.size) → RsOff F w v1 g.lasts → RsOff F w (Value.slice a2 g.waits.length c2) g.waits → RsOff F w' v1' (syncG s.2 g).lasts ∧ RsOff F w' v2' (syncG s.2 g).waits)) → SyncPost B X D b d g v1 (.slice a2 g.waits.length c2) w e w' := fun e w' h1 h2 => by
        unfold SyncPost
        rw [← HQ.out, ← hs]
        exact ⟨h1, h2⟩
      have HPO := Lib.hid hpost
      have cP : wc.cell? ⟨P, 0, none⟩ = some (.pointer (some ⟨X, 0, none⟩)) := hcut.ptr.cell
      have c6 : wc.cell? ⟨X, 6, none⟩ = some (.bool s.2) := hcut.log.c6
      clear hpost hs hq0
      cases hs2 : s.2 with
      | true =>
        rw [hs2] at c6
        have hsg : syncG s.2 g = { g with down := true } := by rw [hs2]; rfl
        have hK3 := HK3.out
        have hfin : SyncPost B X D b d g v1 (.slice a2 g.waits.length c2) w (.returned (.int .i64 11)) wc := by
          rw [hsg] at HPO
          refine HPO.out _ _ (by rw [hs2]; rfl) ⟨v1, _, ⟨?_, hcut.o1, hcut.o2, HH.out.1.ap, HH.out.1.lo⟩, hcut.dev, hcut.as_.mono (fun k hk => by simp at hk ⊢; rcases hk with h | h | h <;> simp [h]), fun q e => .inl e, fun q e => e, fun F hF h1 h2 => ⟨h1.aside HH.out.1.o1 hcut.as_ (fun q hq hm => ?_), h2.aside HH.out.1.o2 hcut.as_ (fun q hq hm => ?_)⟩⟩
          · have := hcut.log
            rw [hs2] at this
            exact this
          · obtain ⟨d1, f1, z1⟩ := HH.out.1.o1.kind q hq
            exact (hK3 q hm _ _ _ z1).1 rfl
          · obtain ⟨d1, f1, z1⟩ := HH.out.1.o2.kind q hq
            exact (hK3 q hm _ _ _ z1).1 rfl
        have HF := Lib.hid hfin
        clear hfin hcut
        go_wp2
        refine ⟨_, results_tmp rfl _ _ _, ?_⟩
        exact HF.out
      | false =>
        rw [hs2] at c6
        have hS : SyncW w wc B P X D b s.1 { g with down := false } v1 (.slice a2 g.waits.length c2) := by rw [hs2] at hcut; exact hcut
        obtain ⟨G, hG⟩ : ∃ G : Lg, G = { g with down := false } := ⟨_, rfl⟩
        rw [← hG] at hS
        have hGl : G.lasts = g.lasts := by rw [hG]
        have hGw : G.waits = g.waits := by rw [hG]
        obtain ⟨r1, x1, x2, x3⟩ := hS.o1
        obtain ⟨r2, y1, y2, y3⟩ := hS.o2
        have hr1 : r1.length = g.lasts.length := by rw [← hGl, ← x1, List.length_map]
        have hr2 : r2.length = g.waits.length := by rw [← hGw, ← y1, List.length_map]
        obtain ⟨a1, c1, rfl, _⟩ := hS.o1.slice
        obtain ⟨m1, hm1⟩ : ∃ m1, m1 = G.lasts.length := ⟨_, rfl⟩
        rw [hGl] at hm1
        clear hcut
        have hn1 := HH.out.2.1.l1
        have HOW := Lib.hid (show ∀ F : Nat → Prop, (∀ q, F q → q < w.heap.size) → RsOff F w (.slice a1 G.lasts.length c1) g.lasts → RsOff F w (.slice a2 g.waits.length c2) g.waits → ∀ p ∈ r1 ++ r2, ∀ q, (Value.slice p.2.1 p.1.body.length p.2.2).ownBlock = some q → ¬ F q from fun F hF z1 z2 p hp => by
          have hK3 := HK3.out
          rcases List.mem_append.1 hp with hp | hp
          · refine (z1.aside HH.out.1.o1 hS.as_ (fun q hq hm => ?_)) r1 (by rw [x1, hGl]) ⟨B, by rw [hr1, ← hGl]; exact x2⟩ p hp
            obtain ⟨d1, f1, z⟩ := HH.out.1.o1.kind q hq
            exact (hK3 q hm _ _ _ z).1 rfl
          · refine (z2.aside HH.out.1.o2 hS.as_ (fun q hq hm => ?_)) r2 (by rw [y1, hGw]) ⟨B, by rw [hr2]; rw [hGw] at y2; exact y2⟩ p hp
            obtain ⟨d1, f1, z⟩ := HH.out.1.o2.kind q hq
            exact (hK3 q hm _ _ _ z).1 rfl)
        have HG := Lib.hid (And.intro hG (And.intro hGl (And.intro hGw (And.intro hr1 hr2))))
        go_upto_region 17 with fail
        obtain ⟨V1, hV1⟩ : ∃ V1, V1 = Value.slice a1 G.lasts.length c1 := ⟨_, rfl⟩
        obtain ⟨V2, hV2⟩ : ∃ V2, V2 = Value.slice a2 g.waits.length c2 := ⟨_, rfl⟩
        have hSd : SyncW w wc.drew B P X D b s.1 G V1 V2 := by rw [hV1, hV2]; exact hS.later (Below.refl _ wc).drew
        have hx2 : wc.drew.ownsRow B 91 3 V1 r1.length (rcellsOf r1) := by rw [hV1, hr1, ← hGl]; exact ownsRow_later x2 (Below.refl _ wc).drew
        have hy2 : wc.drew.ownsRow B 91 3 V2 r2.length (rcellsOf r2) := by rw [hV2, hr2]; rw [hGw] at y2; exact ownsRow_later y2 (Below.refl _ wc).drew
        have hx3 : ∀ p ∈ r1, OwnB wc.drew B (.slice p.2.1 p.1.body.length p.2.2) p.1.body := fun p hp => (x3 p hp).later (Below.refl _ wc).drew
        have hy3 : ∀ p ∈ r2, OwnB wc.drew B (.slice p.2.1 p.1.body.length p.2.2) p.1.body := fun p hp => (y3 p hp).later (Below.refl _ wc).drew
        have hcl : SyncCls P X D G V1 V2 wc.drew := ⟨hSd.ptr, hSd.log⟩
        have e0 : ∀ x : SW (SyncCls P X D G V1 V2), x.W.cell? ⟨P, 0, none⟩ = some (.pointer (some ⟨X, 0, none⟩)) := fun x => x.h.1.cell
        have e3 : ∀ x : SW (SyncCls P X D G V1 V2), x.W.cell? ⟨X, 3, none⟩ = some (.slice a1 G.lasts.length c1) := fun x => x.h.2.c3.trans (by rw [hV1])
        have e4 : ∀ x : SW (SyncCls P X D G V1 V2), x.W.cell? ⟨X, 4, none⟩ = some (.slice a2 g.waits.length c2) := fun x => x.h.2.c4.trans (by rw [hV2])
        have hne : Nonempty (SW (SyncCls P X D G V1 V2)) := ⟨⟨wc.drew, hcl⟩⟩
        have HR := Lib.hid (And.intro x1 (And.intro y1 (And.intro hV1 hV2)))
        have hV2n : a2 = none → g.waits.length = 0 ∧ c2 = 0 := fun e => by
          obtain ⟨_, c9, e9, _, _, _, _, hno⟩ := HH.out.1.o2.slice
          injection e9 with q1 q2 q3
          obtain ⟨z1, z2⟩ := hno (by rw [← q1]; exact e)
          exact ⟨by rw [z1]; rfl, by omega⟩
        have hB9 : B ≤ wc.drew.heap.size := by have := hSd.log.lt; have := HH.out.1.lo; omega
        have hsrc : ∀ ad, a2 = some ad → ∀ j u, (rcellsOf r2)[j]? = some u → wc.drew.cell? (ad.add j) = some u := fun ad e j u hu => by
          rcases hy2.2 with ⟨e1, _⟩ | ⟨g9, cap9, cur9, e1, _⟩
          · rw [hV2, e] at e1; cases e1
          · have h5 := World.ownsRow.cells hy2 (g := g9) (by rw [e1]; rfl) j u hu
            rw [hV2, e] at e1
            injection e1 with e1
            injection e1 with e1
            rw [e1]; exact h5
        have HZ := Lib.hid (And.intro hsrc (And.intro hV2n (And.intro hx3 (And.intro hy3 (And.intro hx2 (And.intro hy2 hB9))))))
        clear hG hGl hGw x1 x2 x3 y1 y2 y3 hS hV1 hm1 hV2 hV2n hsrc hx3 hy3 hx2 hy2 hr1 hr2
        refine wp_region_seqN (SyncCls P X D G V1 V2) 12 [(0, true), (1, true), (2, true), (3, true), (4, true), (5, true), (6, true), (7, true), (8, true), (9, false), (10, true), (11, true), (12, false)] (by kernel_rfl) (by kernel_rfl) (hcl) ?_
        repeat (first
          | ((with_reducible refine wpSeqL_skip (o := ⟨_, _, _, _, _, _⟩) (by with_unfolding_all exact rfl) (by with_unfolding_all exact rfl) ?_); simp only [Act.put, List.setIfInBounds_toArray, List.set_cons_zero, List.set_cons_succ])
          | ((with_reducible refine wpSeqL_free (o := ⟨_, _, _, _, _, _⟩) (by with_unfolding_all exact rfl) (by with_unfolding_all exact rfl) (fun K hK => ?_)); go_big_quiet_op; (refine hK _ ?_; clear hK K)))
        with_reducible refine wpSeqL_next (o := ⟨_, _, _, _, _, _⟩) (by with_unfolding_all exact rfl) (by with_unfolding_all exact rfl) (fun K hK => ?_)
        obtain ⟨hsrc, hV2n, hx3, hy3, hx2, hy2, hB9⟩ := HZ.out
        obtain ⟨hGl, hGw, hr1, hr2⟩ := HG.out.2
        rw [hGl]
        rw [HR.out.2.2.1, hGl] at hx2
        refine wp_append_recs (.tmp 81) (.tmp 85) rfl B (.slice a1 g.lasts.length c1) r1 rfl hx2 a2 g.waits.length c2 r2 rfl hr2.symm hV2n hsrc (by omega) hB9 ?_
        intro v5 w5 hrow5 hg5 hwh5
        obtain ⟨a5, n5, q5, rfl⟩ : ∃ a n c, v5 = .slice a n c := by
          rcases hrow5.2 with ⟨rfl, _⟩ | ⟨gg, cap, cur, rfl, _⟩
          · exact ⟨_, _, _, rfl⟩
          · exact ⟨_, _, _, rfl⟩
        have hn5 : n5 = (r1 ++ r2).length := by
          rcases hrow5.2 with ⟨e, hz⟩ | ⟨gg, cap, cur, e, _⟩
          · injection e with _ e2 _; omega
          · injection e
        simp only [Act.put, List.setIfInBounds_toArray, List.set_cons_zero, List.set_cons_succ]
        have hV1k : ∀ q, (Value.slice a1 g.lasts.length c1).ownBlock = some q → ∃ cs fz, wc.drew.heap[q]? = some (.cells cs 91 fz) := fun q e => Lib.ownsRow_kind hx2 q e
        have hXne : ∀ q, (Value.slice a1 g.lasts.length c1).ownBlock = some q → X ≠ q ∧ P ≠ q ∧ D ≠ q ∧ b ≠ q := fun q e => by
          obtain ⟨cs, fz, z⟩ := hV1k q e
          refine ⟨fun e2 => ?_, fun e2 => ?_, fun e2 => ?_, fun e2 => ?_⟩
          · have h := hSd.log; rw [← e2] at z; rw [show wc.drew.heap[X]? = _ from h] at z; simp at z
          · have h := hSd.ptr; rw [← e2] at z; rw [show wc.drew.heap[P]? = _ from h] at z; simp at z
          · have h := hSd.dev.1; rw [← e2] at z; rw [h] at z; simp at z
          · obtain ⟨_, ⟨M, ⟨es, cl, y2, _⟩, _⟩, _⟩ := hSd.dev; rw [← e2] at z; rw [y2] at z; cases z
        have hat5 : LogAt w5 X D G V1 V2 := hSd.log.kept hg5 (fun e => (hXne X e.symm).1 rfl)
        have hptr5 : PtrAt w5 P X := (hg5.block P (lt_of_block hSd.ptr) (fun e => (hXne P e.symm).2.1 rfl)).trans hSd.ptr
        have hdev5 : DevAt w5 D b s.1 := hSd.dev.kept hg5 (fun e => (hXne D e.symm).2.2.1 rfl) (fun e => (hXne b e.symm).2.2.2 rfl)
        have hbod5 : ∀ p ∈ r1 ++ r2, OwnB w5 B (.slice p.2.1 p.1.body.length p.2.2) p.1.body := fun p hp => by
          have h0 : OwnB wc.drew B (.slice p.2.1 p.1.body.length p.2.2) p.1.body := by
            rcases List.mem_append.1 hp with hp | hp
            · exact hx3 p hp
            · exact hy3 p hp
          refine World.ownsRow.kept h0 hg5 ?_
          cases e : (Value.slice p.2.1 p.1.body.length p.2.2).ownBlock with
          | none => exact .inl rfl
          | some q =>
            right
            intro e2
            obtain ⟨d1, f1, z1⟩ := Lib.ownsRow_kind h0 q e
            obtain ⟨d2, f2, z2⟩ := hV1k q e2.symm
            rw [z1] at z2
            simp at z2
        have hA5 : Aside (X :: D :: b :: (Value.slice a1 g.lasts.length c1).ownBlock.toList) w w5 := (hSd.as_.mono (fun k hk => by simp at hk ⊢; rcases hk with h | h | h <;> simp [h])).put hg5 (fun q e => .inr (by rw [e]; simp))
        have hcw5 := hat5.cell 3 V1 rfl
        have hf5 := hat5.free 3
        have H5 := Lib.hid (And.intro hn5 (And.intro hrow5 (And.intro hbod5 (And.intro hA5 (And.intro hdev5 (And.intro hat5 (And.intro hptr5 hwh5)))))))
        rw [HR.out.2.2.1] at hcw5
        rw [hGl] at hcw5
        clear hn5 hGl hGw hr1 hr2 hV2n hsrc hXne hV1k hx3 hy3 hx2 hy2 hrow5 hbod5 hA5 hdev5 hg5 hwh5
        refine hK.out _ _ (fun _ => ⟨hptr5, hat5⟩) ?_
        clear hK K
        repeat (first
          | ((with_reducible refine wpSeqL_skip (o := ⟨_, _, _, _, _, _⟩) (by with_unfolding_all exact rfl) (by with_unfolding_all exact rfl) ?_); simp only [Act.put, List.setIfInBounds_toArray, List.set_cons_zero, List.set_cons_succ])
          | ((with_reducible refine wpSeqL_free (o := ⟨_, _, _, _, _, _⟩) (by with_unfolding_all exact rfl) (by with_unfolding_all exact rfl) (fun K hK => ?_)); go_big_quiet_op; (refine hK _ ?_; clear hK K)))
        with_reducible refine wpSeqL_next (o := ⟨_, _, _, _, _, _⟩) (by with_unfolding_all exact rfl) (by with_unfolding_all exact rfl) (fun K hK => ?_)
        go_simp
        refine hK.out _ _ (fun h => absurd rfl h) ?_
        clear hK K
        repeat (first
          | ((with_reducible refine wpSeqL_skip (o := ⟨_, _, _, _, _, _⟩) (by with_unfolding_all exact rfl) (by with_unfolding_all exact rfl) ?_); simp only [Act.put, List.setIfInBounds_toArray, List.set_cons_zero, List.set_cons_succ])
          | ((with_reducible refine wpSeqL_free (o := ⟨_, _, _, _, _, _⟩) (by with_unfolding_all exact rfl) (by with_unfolding_all exact rfl) (fun K hK => ?_)); go_big_quiet_op; (refine hK _ ?_; clear hK K)))
        refine wpSeqL_nilN ?_
        obtain ⟨hn5, hrow5, hbod5, hA5, hdev5, _, _, hwh5⟩ := H5.out
        have hV : SyncV (X :: D :: b :: (Value.slice a1 g.lasts.length c1).ownBlock.toList) w (w5.setCell ⟨X, 3, none⟩ (.slice a5 n5 q5)) B P X D b s.1 { g with lasts := g.lasts ++ g.waits, down := false } (.slice a5 n5 q5) (.slice a2 g.waits.length c2) (r1 ++ r2) := by
          rw [← HR.out.2.2.2]
          exact SyncV.made (by assumption) (by assumption) hdev5 hA5 hPX (by simp) 3 (.slice a5 n5 q5) (by rw [HG.out.1]; rfl) (r1 ++ r2) hrow5 hbod5
        have hwh : ∀ q, (Value.slice a5 n5 q5).ownBlock = some q → (Value.slice a1 g.lasts.length c1).ownBlock = some q ∨ w.heap.size ≤ q := fun q e => by
          rcases hwh5 with h1 | h1
          · exact .inl (by rw [← h1]; exact e)
          · right; have := h1 q e; have := hSd.as_.size; omega
        have hrr : (r1 ++ r2).map (·.1) = g.lasts ++ g.waits := by rw [List.map_append, HR.out.1, HR.out.2.1, HG.out.2.1, HG.out.2.2.1]
        have hgl := HG.out.2.1
        rw [hgl] at HPO ⊢
        obtain ⟨rr, hrrd⟩ : ∃ rr, rr = r1 ++ r2 := ⟨_, rfl⟩
        rw [← hrrd] at hV hrr hn5
        have hlr : rr.length ≤ 2000000000 := by
          have h3 : rr.length = g.lasts.length + g.waits.length := by rw [← List.length_append, ← hrr, List.length_map]
          omega
        have HRR := Lib.hid (And.intro hrr (And.intro hwh hn5))
        have HOF := Lib.hid HOW.out
        rw [← hrrd, hgl] at HOF
        clear HOW
        refine over_world (R := fun W => SyncV (X :: D :: b :: (Value.slice a1 g.lasts.length c1).ownBlock.toList) w W B P X D b s.1 { g with lasts := g.lasts ++ g.waits, down := false } (.slice a5 n5 q5) (.slice a2 g.waits.length c2) rr) hV ?_
        clear hV hwh hrrd hrr hn5 hrow5 hbod5 hA5 hdev5 hwh5 hat5 hptr5 hcw5 hf5 H5 hSd hcl e0 e3 e4 hne HR hgl cP c6 HZ
        rintro w6 hV
        obtain ⟨T, hT⟩ : ∃ T, T = X :: D :: b :: (Value.slice a1 g.lasts.length c1).ownBlock.toList := ⟨_, rfl⟩
        have hXT : X ∈ T := by rw [hT]; simp
        obtain ⟨G2, hG2⟩ : ∃ G2 : Lg, G2 = { g with lasts := g.lasts ++ g.waits, down := false } := ⟨_, rfl⟩
        rw [← hT, ← hG2] at hV
        have HT := Lib.hid (And.intro hT hG2)
        clear hT hG2
        have cP : w6.cell? ⟨P, 0, none⟩ = some (.pointer (some ⟨X, 0, none⟩)) := hV.ptr.cell
        have c3 : w6.cell? ⟨X, 3, none⟩ = some (.slice a5 n5 q5) := hV.log.c3
        go_upto_block 4 with (go_at_call 99; refine (back_made _ _ _ _).mono ?_; rintro e w7 ⟨rfl, rfl⟩)
        have hn5 := HRR.out.2.2
        subst hn5
        go_wp2
        have h0w : w.heap.size ≤ w6.heap.size := hV.as_.size
        refine wp_rangeBack (rr := rr) (w6 := w6) (w0 := w) (gb := 0) rfl rfl h0w hV (by rw [HRR.out.1, HT.out.2]) (by omega) ?assign ?body ?done
        case assign =>
          intro l x W K hK
          unfold backAct rcA at hK
          simp only [List.setIfInBounds_toArray, List.set_cons_zero, List.set_cons_succ] at hK
          unfold benc rec2
          gi_wp2
          exact hK
        case body =>
          intro l x Bx W hVx hR hBx hsz
          have hxl := x.isLt
          have hdl : (rr.drop x.val).length = rr.length - x.val := by rw [List.length_drop]
          have hdrop : ∀ j u, (rcellsOf (rr.drop x.val))[j]? = some u → (rcellsOf rr)[x.val * 3 + j]? = some u := fun j u hu => by
            have h1 : rcellsOf rr = rcellsOf (rr.take x.val) ++ rcellsOf (rr.drop x.val) := by rw [← rcellsOf_append, List.take_append_drop]
            rw [h1, List.getElem?_append_right (by rw [rcellsOf_length, List.length_take]; omega)]
            have : x.val * 3 + j - (rcellsOf (rr.take x.val)).length = j := by rw [rcellsOf_length, List.length_take]; omega
            rw [this]; exact hu
          obtain ⟨p, hp⟩ : ∃ p, p = rr[x] := ⟨_, rfl⟩
          rw [← hp] at hR ⊢
          have hck := isCk_int p.1
          have f0 : W.cell? ⟨Bx, 0, none⟩ = some (.int .u8 (p.1.kind.toNat : Int)) := by rw [cell_of_row W Bx 0 _ _ _ hR]; rfl
          have HP := Lib.hid (And.intro hp (And.intro hdl hdrop))
          obtain ⟨xi, hxi⟩ : ∃ xi, xi = x.val := ⟨_, rfl⟩
          rw [← hxi] at hxl hdl hdrop ⊢
          have HX := Lib.hid hxi
          clear hp hxi hdl hdrop
          unfold backAct
          simp only [List.setIfInBounds_toArray, List.set_cons_zero, List.set_cons_succ]
          cases hc : isCk p.1 with
          | false =>
            rw [hc] at hck
            have HC := Lib.hid hc
            clear hc
            gi_wp2
          | true =>
            rw [hc] at hck
            have HC := Lib.hid hc
            clear hc
            have hVd := hVx.later (Below.refl _ W).drew
            have cPd : W.drew.cell? ⟨P, 0, none⟩ = some (.pointer (some ⟨X, 0, none⟩)) := hVd.ptr.cell
            have c3d : W.drew.cell? ⟨X, 3, none⟩ = some (.slice a5 rr.length q5) := hVd.log.c3
            have f3d := hVd.log.free 3
            have hXI : (xi : Int) ≤ (rr.length : Int) := by omega
            obtain ⟨gb, hgb, hq5⟩ : ∃ gb, a5 = some ⟨gb, 0, none⟩ ∧ rr.length ≤ q5 := by
              rcases hVx.row.2 with ⟨e0, hz⟩ | ⟨gg, cap, cur, e0, _, hgg, hnc, _⟩
              · omega
              · injection e0 with e1 e2 e3
                exact ⟨gg, e1, by omega⟩
            subst hgb
            have hxq : xi ≤ q5 := by omega
            have hxq2 : ¬ q5 = xi := by omega
            have hclone := Lib.hid (show Calls Try.prog 100 #[.slice (some ⟨gb, xi * 3, none⟩) (rr.length - xi) (q5 - xi)] W.drew fun e w' => ∃ a n c, e = .returned (.slice a n c) ∧ w'.ownsRow W.drew.heap.size 91 3 (.slice a n c) (rr.drop xi).length (rcellsOf (rr.drop xi)) ∧ Below W.drew.heap.size W.drew w' from by
              have hcc := clone_recs (some ⟨gb, xi * 3, none⟩) (rr.drop xi) (q5 - xi) W.drew (by rw [List.length_drop]; omega) (fun e => nomatch e) (fun ad e j u hu => by
                cases e
                have h2 := HP.out.2.2 j u (by rw [← HX.out]; exact hu)
                have h3 := World.ownsRow.cells hVd.row (g := gb) rfl _ u h2
                rw [Addr.add_lit] at h3 ⊢
                rw [← HX.out, Nat.zero_add] at h3
                exact h3) (by rw [List.length_drop]; omega)
              rw [List.length_drop] at hcc
              refine hcc.mono ?_
              rintro e w' ⟨v, rfl, h1, h2⟩
              obtain ⟨a, n, c, rfl⟩ : ∃ a n c, v = .slice a n c := by
                rcases h1.2 with ⟨rfl, _⟩ | ⟨gg, cap, cur, rfl, _⟩
                · exact ⟨_, _, _, rfl⟩
                · exact ⟨_, _, _, rfl⟩
              exact ⟨a, n, c, rfl, by rw [List.length_drop]; exact h1, h2⟩)
            have hfin := Lib.hid (show ∀ (w7 : World) (a7 : Option Addr) (n7 c7 : Nat), w7.ownsRow W.drew.heap.size 91 3 (.slice a7 n7 c7) (rr.drop xi).length (rcellsOf (rr.drop xi)) → Below W.drew.heap.size W.drew w7 →
              KeepsFrom (w6.heap.size + 1) W (w7.setCell ⟨X, 3, none⟩ (.slice a7 n7 c7)) ∧ ∃ v6, SyncV T w (w7.setCell ⟨X, 3, none⟩ (.slice a7 n7 c7)) B P X D b s.1 { G2 with lasts := G2.lasts.drop xi } v6 (.slice a2 g.waits.length c2) (rr.drop xi) ∧ ∀ q, v6.ownBlock = some q → w.heap.size ≤ q from fun w7 a7 n7 c7 hrow7 hB7 => by
              have hV7 := hVd.later hB7
              have hXl : X < w6.heap.size := hV.log.lt
              have hBW : B ≤ W.drew.heap.size := by have := HH.out.1.lo; have := hVd.log.lt; omega
              have hszd : W.drew.heap.size = W.heap.size := rfl
              refine ⟨⟨by simp; have := hB7.size; omega, fun k o hB hk hoc => ?_⟩, .slice a7 n7 c7, ?_, fun q e => ?_⟩
              · have hkX : k ≠ X := by omega
                rw [heap_setCell_other _ ⟨X, 3, none⟩ k _ hkX]
                exact (hB7.block k (Array.getElem?_eq_some_iff.1 hk).1).trans hk
              · refine SyncV.made hV7.ptr hV7.log hV7.dev hV7.as_ hPX hXT 3 (.slice a7 n7 c7) (g' := { G2 with lasts := G2.lasts.drop xi }) rfl (rr.drop xi) ?_ (fun p hp => hV7.bod p (List.mem_of_mem_drop hp))
                refine ⟨hrow7.1, ?_⟩
                rcases hrow7.2 with h0 | ⟨gg, cap, cur, e0, hbg, rest⟩
                · exact .inl h0
                · exact .inr ⟨gg, cap, cur, e0, Nat.le_trans hBW hbg, rest⟩
              · have := (World.ownsRow.lt hrow7 q e).1
                omega)
            gi_wp2
            clear hVx hR f0 hck cP c3
            have hmix : Try.prog.follows .mixedOrders = true := by kernel_rfl
            have cPu : W.cell? ⟨P, 0, none⟩ = some (.pointer (some ⟨X, 0, none⟩)) := cPd
            have c3u : W.cell? ⟨X, 3, none⟩ = some (.slice (some ⟨gb, 0, none⟩) rr.length q5) := c3d
            gi_region_with_o (refine ⟨trivial, ?_⟩; gi_at_call 100; refine (callsIn_wide.2 hclone.out).mono ?_; rintro e w7 ⟨a7, n7, c7, rfl, hrow7, hB7⟩; have c37 : w7.cell? ⟨X, 3, none⟩ = some (.slice (some ⟨gb, 0, none⟩) rr.length q5) := (hVd.later hB7).log.c3; have c07 : w7.cell? ⟨P, 0, none⟩ = some (.pointer (some ⟨X, 0, none⟩)) := (hVd.later hB7).ptr.cell; have f37 : w7.frozen? ⟨X, 3, none⟩ = false := (hVd.later hB7).log.free 3)
            all_goals (gi_wp2; exact hfin.out _ _ _ _ hrow7 hB7)
        case done =>
          clear hV c3 cP
          intro Dq W v6 rr' hDq hDef hmap hV hfr hmem
          have HMEM := Lib.hid hmem
          clear hmem
          have hN := HH.out.2.1
          have hG2n : G2.next = g.next ∧ G2.many = g.many := by rw [HT.out.2]; exact ⟨rfl, rfl⟩
          obtain ⟨L, hL⟩ : ∃ L, L = fromLast G2.lasts := ⟨_, rfl⟩
          rw [← hL] at hV hmap
          obtain ⟨G3, hG3⟩ : ∃ G3 : Lg, G3 = { G2 with lasts := L } := ⟨_, rfl⟩
          rw [← hG3] at hV
          have hnx := hN.nx
          have hmy := hN.my
          have hG3n : G3.next = g.next ∧ G3.many = g.many ∧ G3.lasts = L ∧ G3.down = false := by rw [hG3]; exact ⟨hG2n.1, hG2n.2, rfl, by rw [HT.out.2]⟩
          have H3 := Lib.hid (And.intro hG3n (And.intro hL (And.intro hmap (And.intro hfr (And.intro hG3 hDef)))))
          refine (fun h => And.intro h (by simpa [Exit.inBlock] using h)) ?_
          obtain ⟨V2, hV2⟩ : ∃ V2, V2 = Value.slice a2 g.waits.length c2 := ⟨_, rfl⟩
          rw [← hV2] at hV
          have hVd := hV.later (Below.refl _ W).drew
          have hcl : SyncCls P X D G3 v6 V2 W.drew := ⟨hVd.ptr, hVd.log⟩
          have e0 : ∀ x : SW (SyncCls P X D G3 v6 V2), x.W.cell? ⟨P, 0, none⟩ = some (.pointer (some ⟨X, 0, none⟩)) := fun x => x.h.1.cell
          have e2 : ∀ x : SW (SyncCls P X D G3 v6 V2), x.W.cell? ⟨X, 2, none⟩ = some (.int .u64 (g.next : Int)) := fun x => by rw [x.h.2.c2, hG3n.1]
          have e5 : ∀ x : SW (SyncCls P X D G3 v6 V2), x.W.cell? ⟨X, 5, none⟩ = some (.int .i64 (g.many : Int)) := fun x => by rw [x.h.2.c5, hG3n.2.1]
          have hne : Nonempty (SW (SyncCls P X D G3 v6 V2)) := ⟨⟨W.drew, hcl⟩⟩
          have c2d : W.drew.cell? ⟨X, 2, none⟩ = some (.int .u64 (g.next : Int)) := by rw [hVd.log.c2, hG3n.1]
          have f2d := hVd.log.free 2
          have hw1 : IntKind.u64.wrap ((g.next : Int) + (g.many : Int)) = (g.next : Int) + (g.many : Int) := by rw [IntKind.wrap_u64]; omega
          have hfin := SyncV.made hVd.ptr hVd.log hVd.dev hVd.as_ hPX hXT 2 (.int .u64 ((g.next : Int) + (g.many : Int))) (g' := { G3 with next := g.next + g.many }) (u1 := v6) (u2 := V2) rfl rr' hVd.row hVd.bod
          have hXD : Dq ≠ X := fun e => by
            have h2 : W.heap[X]? = _ := hVd.log
            rw [← e, hDef] at h2
            cases h2
          have hDk : (W.drew.setCell ⟨X, 2, none⟩ (.int .u64 ((g.next : Int) + (g.many : Int)))).heap[Dq]? = some (.deferred (some [])) := (heap_setCell_other W.drew ⟨X, 2, none⟩ Dq _ hXD).trans hDef
          have HF := Lib.hid (And.intro hfin hDk)
          clear hfin hDk hG2n hL hmap hG3 hG3n hV2 hDef hfr
          go_wp2
          refine wp_region_seqN (SyncCls P X D G3 v6 V2) 14 [(0, true), (1, true), (2, true), (3, true), (4, true), (5, true), (6, true), (7, true), (8, true), (9, true), (10, true), (11, true), (12, true), (13, true), (14, false)] (by kernel_rfl) (by kernel_rfl) (hcl) ?_
          repeat (first
            | ((with_reducible refine wpSeqL_skip (o := ⟨_, _, _, _, _, _⟩) (by with_unfolding_all exact rfl) (by with_unfolding_all exact rfl) ?_); simp only [Act.put, List.setIfInBounds_toArray, List.set_cons_zero, List.set_cons_succ])
            | ((with_reducible refine wpSeqL_free (o := ⟨_, _, _, _, _, _⟩) (by with_unfolding_all exact rfl) (by with_unfolding_all exact rfl) (fun K hK => ?_)); go_big_quiet_op; (refine hK _ ?_; clear hK K)))
          with_reducible refine wpSeqL_next (o := ⟨_, _, _, _, _, _⟩) (by with_unfolding_all exact rfl) (by with_unfolding_all exact rfl) (fun K hK => ?_)
          go_simp
          refine hK.out _ _ (fun h => absurd rfl h) ?_
          clear hK K
          repeat (first
            | ((with_reducible refine wpSeqL_skip (o := ⟨_, _, _, _, _, _⟩) (by with_unfolding_all exact rfl) (by with_unfolding_all exact rfl) ?_); simp only [Act.put, List.setIfInBounds_toArray, List.set_cons_zero, List.set_cons_succ])
            | ((with_reducible refine wpSeqL_free (o := ⟨_, _, _, _, _, _⟩) (by with_unfolding_all exact rfl) (by with_unfolding_all exact rfl) (fun K hK => ?_)); go_big_quiet_op; (refine hK _ ?_; clear hK K)))
          refine wpSeqL_nilN ?_
          obtain ⟨hV8, hD8⟩ := HF.out
          refine over_world (R := fun W => SyncV T w W B P X D b s.1 { G3 with next := g.next + g.many } v6 V2 rr' ∧ W.heap[Dq]? = some (.deferred (some []))) ⟨hV8, hD8⟩ ?_
          clear HF hV8 hD8 hVd hV hcl e0 e2 e5 hne c2d f2d
          rintro W8 ⟨hV8, hD8⟩
          have c58 : W8.cell? ⟨X, 5, none⟩ = some (.int .i64 (G3.many : Int)) := hV8.log.c5
          have f58 := hV8.log.free 5
          have c58d : W8.drew.cell? ⟨X, 5, none⟩ = some (.int .i64 (G3.many : Int)) := c58
          have f58d : W8.drew.frozen? ⟨X, 5, none⟩ = false := f58
          have hVd := hV8.later (Below.refl _ W8).drew
          have hcl : PtrAt W8.drew P X := hVd.ptr
          have e0 : ∀ x : SW (fun W => PtrAt W P X), x.W.cell? ⟨P, 0, none⟩ = some (.pointer (some ⟨X, 0, none⟩)) := fun x => x.h.cell
          have hne : Nonempty (SW (fun W => PtrAt W P X)) := ⟨⟨W8.drew, hcl⟩⟩
          have c4d : W8.drew.cell? ⟨X, 4, none⟩ = some V2 := hVd.log.c4
          have f4d := hVd.log.free 4
          have hV9 := SyncV.made hVd.ptr hVd.log hVd.dev hVd.as_ hPX hXT 4 (.slice none 0 0) (g' := { G3 with next := g.next + g.many, waits := [] }) (u1 := v6) (u2 := .slice none 0 0) rfl rr' hVd.row hVd.bod
          have c59 : (W8.drew.setCell ⟨X, 4, none⟩ (.slice none 0 0)).cell? ⟨X, 5, none⟩ = some (.int .i64 (G3.many : Int)) := hV9.log.c5
          have f59 := hV9.log.free 5
          have hP9 := hV9.ptr
          have hV10 := SyncV.made hV9.ptr hV9.log hV9.dev hV9.as_ hPX hXT 5 (.int .i64 0) (g' := { G3 with next := g.next + g.many, waits := [], many := 0 }) (u1 := v6) (u2 := .slice none 0 0) rfl rr' hV9.row hV9.bod
          have hD10 : ((W8.drew.setCell ⟨X, 4, none⟩ (.slice none 0 0)).setCell ⟨X, 5, none⟩ (.int .i64 0)).heap[Dq]? = some (.deferred (some [])) := (heap_setCell_other _ ⟨X, 5, none⟩ Dq _ hXD).trans ((heap_setCell_other _ ⟨X, 4, none⟩ Dq _ hXD).trans hD8)
          have HF := Lib.hid (And.intro hV10 hD10)
          clear hV10 hD10 hV9
          go_wp2
          refine wp_region_seqN (fun W => PtrAt W P X) 7 [(0, true), (1, true), (2, true), (3, true), (4, false), (5, true), (6, true), (7, false)] (by kernel_rfl) (by kernel_rfl) (hcl) ?_
          repeat (first
            | ((with_reducible refine wpSeqL_skip (o := ⟨_, _, _, _, _, _⟩) (by with_unfolding_all exact rfl) (by with_unfolding_all exact rfl) ?_); simp only [Act.put, List.setIfInBounds_toArray, List.set_cons_zero, List.set_cons_succ])
            | ((with_reducible refine wpSeqL_free (o := ⟨_, _, _, _, _, _⟩) (by with_unfolding_all exact rfl) (by with_unfolding_all exact rfl) (fun K hK => ?_)); go_big_quiet_op; (refine hK _ ?_; clear hK K)))
          with_reducible refine wpSeqL_next (o := ⟨_, _, _, _, _, _⟩) (by with_unfolding_all exact rfl) (by with_unfolding_all exact rfl) (fun K hK => ?_)
          go_simp
          refine hK.out _ _ (fun _ => hP9) ?_
          clear hK K
          repeat (first
            | ((with_reducible refine wpSeqL_skip (o := ⟨_, _, _, _, _, _⟩) (by with_unfolding_all exact rfl) (by with_unfolding_all exact rfl) ?_); simp only [Act.put, List.setIfInBounds_toArray, List.set_cons_zero, List.set_cons_succ])
            | ((with_reducible refine wpSeqL_free (o := ⟨_, _, _, _, _, _⟩) (by with_unfolding_all exact rfl) (by with_unfolding_all exact rfl) (fun K hK => ?_)); go_big_quiet_op; (refine hK _ ?_; clear hK K)))
          with_reducible refine wpSeqL_next (o := ⟨_, _, _, _, _, _⟩) (by with_unfolding_all exact rfl) (by with_unfolding_all exact rfl) (fun K hK => ?_)
          go_simp
          refine hK.out _ _ (fun h => absurd rfl h) ?_
          clear hK K
          repeat (first
            | ((with_reducible refine wpSeqL_skip (o := ⟨_, _, _, _, _, _⟩) (by with_unfolding_all exact rfl) (by with_unfolding_all exact rfl) ?_); simp only [Act.put, List.setIfInBounds_toArray, List.set_cons_zero, List.set_cons_succ])
            | ((with_reducible refine wpSeqL_free (o := ⟨_, _, _, _, _, _⟩) (by with_unfolding_all exact rfl) (by with_unfolding_all exact rfl) (fun K hK => ?_)); go_big_quiet_op; (refine hK _ ?_; clear hK K)))
          refine wpSeqL_nilN ?_
          obtain ⟨hV10, hD10⟩ := HF.out
          refine over_world (R := fun W => SyncV T w W B P X D b s.1 { G3 with next := g.next + g.many, waits := [], many := 0 } v6 (.slice none 0 0) rr' ∧ W.heap[Dq]? = some (.deferred (some []))) ⟨hV10, hD10⟩ ?_
          clear HF hV10 hD10 hVd hV8 hcl e0 hne c4d f4d c59 f59 hP9
          rintro WA ⟨hVA, hDA⟩
          obtain ⟨⟨_, _, hG3l, hG3d⟩, hL3, hmap3, hfr3, hG3e, _⟩ := H3.out
          have hsub : ∀ r ∈ L, r ∈ g.lasts ++ g.waits := fun r hr => by
            rw [hL3, HT.out.2] at hr
            exact fromLast_sub _ r hr
          have hfrom : ∀ r ∈ L, r.from_ < 18446744073709551616 := fun r hr => by
            rcases List.mem_append.1 (hsub r hr) with h | h
            · have := (hN.b1 r h).2; omega
            · have := (hN.b2 r h).2; omega
          have hOA : OwnRs WA B v6 L := ⟨rr', hmap3, by rw [← hmap3, List.length_map]; exact hVA.row, hVA.bod⟩
          have hset := Lib.hid (settle_log B X D { G3 with next := g.next + g.many, waits := [], many := 0 } v6 (.slice none 0 0) WA hVA.log (by show OwnRs WA B v6 G3.lasts; rw [hG3l]; exact hOA) (by show g.next + g.many < _; omega) (by show ∀ r ∈ G3.lasts, _; rw [hG3l]; exact hfrom))
          have cPA : WA.cell? ⟨P, 0, none⟩ = some (.pointer (some ⟨X, 0, none⟩)) := hVA.ptr.cell
          have HGG := Lib.hid (And.intro hG3l (And.intro hG3d (And.intro hL3 (And.intro hmap3 hfr3))))
          clear hG3l hG3d hL3 hmap3 hfr3 hG3e hsub hfrom
          go_wp2_with (go_at_call 101; refine hset.out.mono ?_; rintro e WB ⟨rfl, hLB, hgB⟩)
          have hVB : SyncV T w WB B P X D b s.1 { { G3 with next := g.next + g.many, waits := [], many := 0 } with base := baseOf (g.next + g.many) G3.lasts } v6 (.slice none 0 0) rr' := by
            have hk : ∀ {B2 : Nat} {e : TypeId} {sz n : Nat} {v : Value} {xs : List Value}, WA.ownsRow B2 e sz v n xs → e ≠ 100 → WB.ownsRow B2 e sz v n xs := fun {B2 e sz n v xs} hp he => by
              refine World.ownsRow.kept hp hgB ?_
              cases e1 : v.ownBlock with
              | none => exact .inl rfl
              | some q =>
                right
                intro e2
                injection e2 with e2
                obtain ⟨c1, f1, z1⟩ := Lib.ownsRow_kind hp q e1
                have h2 : WA.heap[X]? = _ := hVA.log
                rw [e2, h2] at z1
                simp at z1
                exact he z1.2.1.symm
            have hDX : D ≠ X := fun e => by have h1 := hVA.dev.1; rw [e, hVA.log] at h1; simp at h1
            have hbX : b ≠ X := fun e => by obtain ⟨_, ⟨M, ⟨es, cl, y2, _⟩, _⟩, _⟩ := hVA.dev; rw [e, hVA.log] at y2; cases y2
            exact ⟨(hgB.block P (lt_of_block hVA.ptr) (fun e => hPX (by injection e))).trans hVA.ptr, hLB, hVA.dev.kept hgB (fun e => hDX (by injection e)) (fun e => hbX (by injection e)), hk hVA.row (by decide), fun p hp => hk (hVA.bod p hp) (by decide), hVA.as_.put hgB (fun k e => .inr (by injection e with e; rw [← e]; exact hXT))⟩
          have hDB : WB.heap[Dq]? = some (.deferred (some [])) := (hgB.block Dq (Array.getElem?_eq_some_iff.1 hDA).1 (fun e => hXD (by injection e))).trans hDA
          have hbl6 : b < (w6.alloc (.cells #[.slice a5 rr.length q5] 83)).heap.size := by rw [World.size_alloc]; have := HP.out; omega
          have hVC := hVB.own (N := (w6.alloc (.cells #[.slice a5 rr.length q5] 83)).heap.size) (by rw [World.size_alloc]; omega) hbl6 (grownBy_putObj' WB Dq (.deferred none)) (fun r e => by injection e with e; subst e; exact ⟨hDq, _, hDB, rfl⟩)
          refine ⟨by simp, .inl ⟨_, _, rfl, run_takeDeferred hDB, ?_⟩⟩
          refine ⟨_, results_tmp rfl _ _ _, ?_⟩
          obtain ⟨hG3l, hG3d, hL3, hmap3, hfr3⟩ := HGG.out
          have hGl2 := HG.out.2.1
          rw [hGl2]
          have hsy : syncG s.2 g = { { G3 with next := g.next + g.many, waits := [], many := 0 } with base := baseOf (g.next + g.many) G3.lasts } := by
            unfold syncG
            rw [hs2, if_neg Bool.false_ne_true]
            have h5 : fromLast (g.lasts ++ g.waits) = G3.lasts := by rw [hG3l, hL3, HT.out.2]
            rw [h5]
            cases G3
            simp only at hG3d
            rw [hG3d]
          refine HPO.out _ _ (by rw [hs2]; rfl) ⟨v6, .slice none 0 0, ?_, hVC.dev, by rw [← HT.out.1]; exact hVC.as_, fun q e => ?_, fun q e => (nomatch e), fun F hF z1 z2 => ?_⟩
          · rw [hsy]
            refine ⟨hVC.log, ?_, OwnRs.nil _ _, fun q _ e => (nomatch e), HH.out.1.lo⟩
            show OwnRs _ B v6 G3.lasts
            rw [hG3l]
            exact ⟨rr', hmap3, by rw [← hmap3, List.length_map]; exact hVC.row, hVC.bod⟩
          · rcases hfr3 q e with h | h
            · exact HRR.out.2.1 q h
            · exact .inr h
          · rw [hsy]
            exact ⟨RsOff.of (B := B) rr' (hmap3.trans hG3l.symm) hVC.row (fun p hp => HOF.out F hF z1 z2 p (HMEM.out p hp)), RsOff.nil _ _⟩
end Go.Proofs.Ytdlbjllgdikadaa
