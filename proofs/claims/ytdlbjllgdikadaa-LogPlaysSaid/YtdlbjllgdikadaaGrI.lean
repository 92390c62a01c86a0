/- The document's Decode: a block whose marks may be. What is sealed reads as it was; the document's Encode of what may not be. -/
import Derived.Test.YtdlbjllgdikadaaGrH
import Derived.Deep.Cut
import Derived.Test.YtdlbjllgdikadaaGrD
namespace Go.Proofs.Ytdlbjllgdikadaa
open Go.RowKit CrcM

set_option linter.unusedSimpArgs false in
set_option maxHeartbeats 4000000 in
set_option maxRecDepth 100000 in
theorem refdecode_rest (a : Option Addr) (l : List UInt8) (cap : Nat) (w : World) (h : l.length = 64) (hc : l.length ≤ cap) (hby : IsBytes w a l) (hs : endsB l = true) (h8 : ¬ 15 < byteAt l 8) (h9 : ¬ 48 < byteAt l 9) :
    Calls Try.prog 37 #[.slice a l.length cap] w (DecPost l w) := by
  have hB0 : Below w.heap.size w ((w.alloc (.cells (noneB.cells none 0) 43)).alloc (.cells (noneB.cells none 0) 43)) := ((Below.refl _ _).alloc (Nat.le_refl _) _).alloc (by simp) _
  have hR0 : BlkAt ((w.alloc (.cells (noneB.cells none 0) 43)).alloc (.cells (noneB.cells none 0) 43)) w.heap.size noneB none 0 := heap_alloc2_old _ _ _
  have hN0 : BlkAt ((w.alloc (.cells (noneB.cells none 0) 43)).alloc (.cells (noneB.cells none 0) 43)) (w.heap.size + 1) noneB none 0 := heap_alloc2_new _ _ _
  obtain ⟨b, off, rfl⟩ : ∃ b off, a = some ⟨b, off, none⟩ := (by obtain ⟨b, off, e, _⟩ := hby 0 (by omega); exact ⟨b, off, e⟩)
  have he : ∀ W, Below w.heap.size w W → Calls Try.prog 22 #[.slice (some ⟨b, off, none⟩) 64 cap] W fun e w' => e = .returned (.bool true) ∧ Below W.heap.size W w' := fun W hW => by
    have := refends_calls (some ⟨b, off, none⟩) l cap W (by omega) hc (fun e => nomatch e) (hby.later hW)
    rw [hs, h] at this
    exact this
  have Hs := Lib.hid hs
  have Hh := Lib.hid h
  rw [h] at hc ⊢
  clear h hs
  go_enter Try.func37, Try.ntmps37
  go_wp2_with (first
    | (refine wpList_store_blk rfl (.tmp 4) (.tmp 10) rfl (w.heap.size + 1) noneB noneB none none 0 0 rfl rfl hN0 ?_; intro w1 hN1 hg1; have hR1 := hR0.kept hg1 (by simp); have hB1 := hB0.grown hg1 (by simp; omega) (fun k hk => by cases hk; omega); clear hg1)
    | (go_at_call 22; refine (he _ hB1).mono ?_; rintro e w2 ⟨rfl, hB2⟩; have hN2 := hN1.later hB2; have hR2 := hR1.later hB2; have hB3 := below_call hB1 (Nat.le_refl _) hB2; clear hB2)
    | (refine wpList_store_blk rfl (.tmp 5) (.tmp 19) rfl w2.heap.size noneB noneB none none 0 0 rfl rfl (heap_alloc_new _ _) ?_; intro w4 hX4 hg4; have hR4 := BlkAt.kept (hR2.later ((Below.refl _ _).alloc (Nat.le_refl _) _)) hg4 (by have := lt_of_block hR2; intro e; injection e; omega); have hN4 := BlkAt.kept (hN2.later ((Below.refl _ _).alloc (Nat.le_refl _) _)) hg4 (by have := lt_of_block hN2; intro e; injection e; omega); have hB4 := (hB3.alloc hB3.size _).grown hg4 (by have := hB3.size; simp; omega) (fun k hk => by cases hk; exact hB3.size); clear hg4))
  have hlow : w.heap.size + 1 < w2.heap.size := lt_of_block hN2
  obtain ⟨H, hH⟩ : ∃ H, H = w2.heap.size := ⟨_, rfl⟩
  rw [← hH] at hX4 hlow ⊢
  clear hH hR2 hN2 hB3 hR1 hN1 hB1 hR0 hN0 hB0
  go_loopw [6] (fun i wr => ∃ j : Nat, j ≤ 8 ∧ i = .int .i64 ((j : Int) - 1) ∧ BlkAt wr H ⟨leN ((l.take 8).drop j), 0, false, false, []⟩ none 0 ∧ BlkAt wr w.heap.size noneB none 0 ∧ BlkAt wr (w.heap.size + 1) noneB none 0 ∧ Below w.heap.size w wr) (fun i _ => ((intOf i) + 1).toNat)
  case atStart =>
    refine ⟨8, Nat.le_refl _, rfl, ?_, hR4, hN4, hB4⟩
    rw [List.drop_eq_nil_of_le (by rw [List.length_take]; omega)]
    exact hX4
  case round =>
    clear hX4 hR4 hN4 hB4
    obtain ⟨j, hj, rfl, hb, hr, hn, hB⟩ := hrel
    by_cases hlt : 0 < j
    · obtain ⟨q, rfl⟩ : ∃ q, j = q + 1 := ⟨j - 1, by omega⟩
      obtain ⟨y, hy⟩ : ∃ y, y = l[q]'(by have := Hh.out; omega) := ⟨_, rfl⟩
      have pj := (hby.later hB).cell q (by have := Hh.out; omega)
      rw [← hy] at pj
      have ph : wr.cell? ⟨H, 0, none⟩ = some (.int .u64 (leN ((l.take 8).drop (q + 1)) : Nat)) := hb.cell 0 _ rfl
      have pf := hb.free 0
      obtain ⟨hst, hbd⟩ := leN_drop l q y (by omega) Hh.out hy
      have hnew : ∀ u, u = Value.int .u64 ((leN ((l.take 8).drop q) : Nat) : Int) → BlkAt (wr.setCell ⟨H, 0, none⟩ u) H ⟨leN ((l.take 8).drop q), 0, false, false, []⟩ none 0 := fun u hu => hb.stored 0 u (by rw [hu]; rfl)
      obtain ⟨m, hm⟩ : ∃ m, m = leN ((l.take 8).drop (q + 1)) := ⟨_, rfl⟩
      rw [← hm] at ph hst hbd
      have hq64 : (q : Int) < 64 := by omega
      have hyl := y.toNat_lt
      have Hst := Lib.hid hst
      have Hy := Lib.hid hy
      clear hy hm hst
      go_wp2
      go_region
      all_goals
        go_wp2
        go_roundw
      case rel =>
        have h1 := hnew _ (congrArg (Value.int .u64) (by rw [Hst.out]))
        have e1 : w.heap.size ≠ H := by omega
        have e2 : w.heap.size + 1 ≠ H := by omega
        exact ⟨q, by omega, rfl, h1, hr.other _ _ e1, hn.other _ _ e2, (hB.setCell (p := ⟨H, 0, none⟩) (by simp; omega) _).drew⟩
      case measure => simp [intOf]
    · obtain rfl : j = 0 := by omega
      rw [List.drop_zero] at hb
      obtain ⟨n8, hn8⟩ : ∃ n, n = byteAt l 8 := ⟨_, rfl⟩
      obtain ⟨n9, hn9⟩ : ∃ n, n = byteAt l 9 := ⟨_, rfl⟩
      have hlt8 : n8 < 256 := by rw [hn8]; exact UInt8.toNat_lt _
      have hlt9 : n9 < 256 := by rw [hn9]; exact UInt8.toNat_lt _
      have c8 : wr.cell? ⟨b, off + 8, none⟩ = some (.int .u8 (n8 : Int)) := by
        rw [(hby.later hB).cell 8 (by have := Hh.out; omega), hn8]
        simp [byteAt, Hh.out]
      have c9 : wr.cell? ⟨b, off + 9, none⟩ = some (.int .u8 (n9 : Int)) := by
        rw [(hby.later hB).cell 9 (by have := Hh.out; omega), hn9]
        simp [byteAt, Hh.out]
      rw [← hn8] at h8
      rw [← hn9] at h9
      obtain ⟨S, hS⟩ : ∃ S, S = leN (l.take 8) := ⟨_, rfl⟩
      rw [← hS] at hb
      have hS64 : S < 18446744073709551616 := by
        have h1 := leN_lt (l.take 8)
        have h2 : (l.take 8).length = 8 := by rw [List.length_take, Hh.out]; rfl
        rw [h2] at h1
        omega
      obtain ⟨kk, hK⟩ : ∃ kk : UInt8, kk = UInt8.ofNat (n8 % 4 + n8 / 16 * 16) := ⟨_, rfl⟩
      have hK2 : (n8 : Int) % 4 = (kk.toNat : Int) := by rw [hK]; simp; omega
      obtain ⟨F, hF⟩ : ∃ F : Bool, F = (n8 / 4 % 2 == 1) := ⟨_, rfl⟩
      have hF2 : ((n8 : Int) / 4 % 2 == 1) = F := by rw [hF, Bool.eq_iff_iff, beq_iff_eq, beq_iff_eq]; omega
      obtain ⟨A, hA⟩ : ∃ A : Bool, A = (n8 / 8 % 2 == 1) := ⟨_, rfl⟩
      have hA2 : ((n8 : Int) / 8 == 1) = A := by rw [hA, Bool.eq_iff_iff, beq_iff_eq, beq_iff_eq]; omega
      obtain ⟨body, hbody⟩ : ∃ t, t = (l.drop 10).take n9 := ⟨_, rfl⟩
      have hbl : body.length = n9 := by rw [hbody, List.length_take, List.length_drop, Hh.out]; omega
      have hX : decX l = ⟨S, kk, F, A, body⟩ := by
        unfold decX
        rw [← hn8, ← hn9, hS, hK, hF, hA, hbody, Nat.min_eq_left (by omega)]
      obtain ⟨x, hx⟩ : ∃ x : Blk, x = ⟨S, kk, F, A, body⟩ := ⟨_, rfl⟩
      have hX' : decX l = x := by rw [hX, hx]
      have hxs : x.serial < 18446744073709551616 := by rw [hx]; exact hS64
      have hbx : x.body = body := by rw [hx]
      have hb3 := ((hb.stored (b' := ⟨S, 0, false, A, []⟩) (a' := none) (cap' := 0) 3 (.bool A) rfl).stored (b' := ⟨S, 0, F, A, []⟩) (a' := none) (cap' := 0) 2 (.bool F) rfl).stored (b' := ⟨S, kk, F, A, []⟩) (a' := none) (cap' := 0) 1 (.int .u8 (kk.toNat : Int)) rfl
      have q1 := hb.cell 1 _ rfl
      have q2 := hb.cell 2 _ rfl
      have q3 := hb.cell 3 _ rfl
      have r1 := hb.free 1
      have r2 := hb.free 2
      have r3 := hb.free 3
      have e1 : w.heap.size ≠ H := by omega
      have e2 : w.heap.size + 1 ≠ H := by omega
      have HX := Lib.hid hX'
      have Hx := Lib.hid hx
      have Hb3 := Lib.hid hb3
      have Hbx := Lib.hid hbx
      have Hbl := Lib.hid hbl
      have Hbody := Lib.hid hbody
      have Hn8 := Lib.hid hn8
      have Hn9 := Lib.hid hn9
      have E1 := Lib.hid e1
      have E2 := Lib.hid e2
      clear hX hX' hx hb3 hbx hbl hbody hn8 hn9 hK hF hA hS e1 e2
      go_upto_region 18 with fail
      refine over_world (R := fun W => BlkAt W H ⟨S, kk, F, A, []⟩ none 0 ∧ BlkAt W w.heap.size noneB none 0 ∧ BlkAt W (w.heap.size + 1) noneB none 0 ∧ Below w.heap.size w W) ?_ ?_
      · refine ⟨Hb3.out, ((hr.other _ _ E1.out).other _ _ E1.out).other _ _ E1.out, ((hn.other _ _ E2.out).other _ _ E2.out).other _ _ E2.out, ?_⟩
        exact ((hB.setCell (p := ⟨H, 3, none⟩) (Nat.le_of_lt (Nat.lt_of_succ_lt hlow)) _).setCell (p := ⟨H, 2, none⟩) (Nat.le_of_lt (Nat.lt_of_succ_lt hlow)) _).setCell (p := ⟨H, 1, none⟩) (Nat.le_of_lt (Nat.lt_of_succ_lt hlow)) _
      rintro wx ⟨hb, hr, hn, hB⟩
      have p4 : wx.cell? ⟨H, 4, none⟩ = some (.slice none 0 0) := hb.cell 4 _ rfl
      have pf4 := hb.free 4
      have hHx := lt_of_block hb
      have hbb : IsBytes wx (some ⟨b, off + 10, none⟩) body := by
        rw [Hbody.out]
        have h1 := (hby.later hB).drop 10 cap (by rw [Hh.out]; exact hc)
        rw [if_neg (by omega)] at h1
        have h2 := h1.take n9
        simpa [Addr.add_lit] using h2
      go_upto_region 19 with (at_builtin; go_loud (refine wpList_append_bytes rfl (.tmp 60) (.tmp 64) rfl wx.heap.size (.slice (some ⟨wx.heap.size, 0, none⟩) 0 0) [] rfl (OwnB.made wx wx.heap.size (Nat.le_refl _)) (some ⟨b, off + 10, none⟩) _ _ body rfl (by have := Hbl.out; omega) (fun h => nomatch h) (hbb.alloc _) (by have := Hbl.out; simp; omega) (by simp) ?_; intro v5 w5 hown5 hgr5; have hB5 := ((Below.refl _ wx).alloc (Nat.le_refl _) (.cells #[] 5)).grown hgr5 (by simp) (fun k hk => by simp [Value.ownBlock] at hk; omega); clear hgr5; rw [List.nil_append] at hown5; obtain ⟨a5, c5, rfl, hs5⟩ := hown5.slice; have hb5 := hb.later hB5; have p5 : w5.cell? ⟨H, 4, none⟩ = some (.slice none 0 0) := hb5.cell 4 _ rfl; have pf5 := hb5.free 4))
      have hb6 : BlkAt (w5.setCell ⟨H, 4, none⟩ (.slice a5 body.length c5)) H x a5 c5 := hb5.stored 4 _ (by rw [Hx.out]; rfl)
      have hr6 := (hr.later hB5).other ⟨H, 4, none⟩ (.slice a5 body.length c5) E1.out
      have hn6 := (hn.later hB5).other ⟨H, 4, none⟩ (.slice a5 body.length c5) E2.out
      have hB6 := (below_call hB (Nat.le_refl _) hB5).setCell (p := ⟨H, 4, none⟩) (Nat.le_of_lt (Nat.lt_of_succ_lt hlow)) (.slice a5 body.length c5)
      have hown6 := own_past hown5 H 4 hHx (.slice a5 body.length c5)
      obtain ⟨w6, hw6⟩ : ∃ w6, w6 = w5.setCell ⟨H, 4, none⟩ (.slice a5 body.length c5) := ⟨_, rfl⟩
      rw [← hw6] at hb6 hr6 hn6 hB6 hown6 ⊢
      clear hw6 hb5 p5 pf5 hb hr hn hown5 hB5 p4 pf4 hbb
      go_wp2
      go_loop [9] (fun i => ∃ q : Nat, 10 + n9 ≤ q ∧ q ≤ 60 ∧ i = .int .i64 q ∧ ∀ p, 10 + n9 ≤ p → p < q → byteAt l p = 0) (fun i => 60 - (intOf i).toNat)
      case atStart => exact ⟨10 + n9, Nat.le_refl _, by omega, by go_num, fun p h1 h2 => absurd h1 (by omega)⟩
      case round =>
      obtain ⟨q, hq1, hq2, rfl, hz⟩ := hrel
      by_cases hlt2 : q < 60
      · have cq : w6.cell? ⟨b, off + q, none⟩ = some (.int .u8 (byteAt l q : Nat)) := by
          rw [(hby.later hB6).cell q (by have := Hh.out; omega)]
          have : q < l.length := by have := Hh.out; omega
          simp [byteAt, this]
        have hq64 : (q : Int) < 64 := by omega
        by_cases h0 : byteAt l q = 0
        · rw [h0] at cq
          have H0 := Lib.hid h0
          have Hz := Lib.hid hz
          clear h0 hz
          go_wp2
          go_round
          case rel => exact ⟨q + 1, by omega, by omega, by go_num, fun p h1 h2 => by
            by_cases h3 : p = q
            · rw [h3]; exact H0.out
            · exact Hz.out p h1 (by omega)⟩
          case measure => simp [intOf]; omega
        · have hbad : decOk l = false := by
            have h1 : ¬ (sealB (decX l) == l) = true := by
              rw [seal_iff l Hh.out Hs.out]
              intro h2
              exact h0 (h2.2 q (by rw [← Hn9.out]; omega) hlt2)
            simp only [decOk, Bool.and_eq_false_iff]
            right
            simpa using h1
          obtain ⟨y, hy⟩ : ∃ y, y = byteAt l q := ⟨_, rfl⟩
          rw [← hy] at cq h0
          have hy0 : ((y : Int) == 0) = false := by rw [beq_eq_false_iff_ne]; omega
          clear hy hz
          have hD : decE l = 4 := by simp [decE, Hh.out, Hs.out, hbad]
          have hDB : decB l = noneB := by simp [decB, hD]
          have HD := Lib.hid hD
          have HDB := Lib.hid hDB
          clear hD hDB hbad
          go_wp2_with (first
            | (refine wpList_load_blk rfl (.tmp 4) rfl (w.heap.size + 1) noneB none 0 rfl hn6 ?_)
            | (refine wpList_store_blk rfl (.tmp 2) (.tmp 78) rfl w.heap.size noneB noneB none none 0 0 rfl rfl hr6 ?_; intro w8 hr8 hg8; have hB8 := hB6.grown hg8 hB6.size (fun k hk => by cases hk; exact Nat.le_refl _)))
          exact ret_blk rfl rfl rfl rfl hr8 ⟨none, 0, by rw [HD.out, HDB.out]; rfl, by rw [HDB.out]; exact OwnB.nil _ _, hB8⟩
      · obtain rfl : q = 60 := by omega
        have hseal : (sealB (decX l) == l) = true := by
          rw [seal_iff l Hh.out Hs.out, ← Hn9.out]
          exact ⟨by omega, fun i h1 h2 => hz i h1 h2⟩
        have Hseal := Lib.hid hseal
        clear hseal hz
        cases hmay : mayB x with
        | false =>
          have hbad : decOk l = false := by simp only [decOk, HX.out, hmay, Bool.false_and]
          have Hmay := Lib.hid hmay
          clear hmay
          have hD : decE l = 4 := by simp [decE, Hh.out, Hs.out, hbad]
          have hDB : decB l = noneB := by simp [decB, hD]
          have HD := Lib.hid hD
          have HDB := Lib.hid hDB
          clear hD hDB hbad
          go_wp2_with (first
            | (refine wpList_load_blk rfl (.tmp 5) rfl H x a5 c5 rfl hb6 ?_)
            | (go_at_call 34; refine (refmay_calls x a5 c5 _ hxs (by rw [Hbx.out, Hbl.out]; omega)).mono ?_; rintro e w7 ⟨rfl, hB7⟩; rw [Hmay.out]; have hn7 := hn6.later hB7; have hr7 := hr6.later hB7; have hBt := below_call hB6 (Nat.le_refl _) hB7)
            | (refine wpList_load_blk rfl (.tmp 4) rfl (w.heap.size + 1) noneB none 0 rfl hn7 ?_)
            | (refine wpList_store_blk rfl (.tmp 2) (.tmp 82) rfl w.heap.size noneB noneB none none 0 0 rfl rfl hr7 ?_; intro w8 hr8 hg8; have hB8 := hBt.grown hg8 hBt.size (fun k hk => by cases hk; exact Nat.le_refl _)))
          exact ret_blk rfl rfl rfl rfl hr8 ⟨none, 0, by rw [HD.out, HDB.out]; rfl, by rw [HDB.out]; exact OwnB.nil _ _, hB8⟩
        | true =>
          have hok : decOk l = true := by rw [decOk, Hseal.out, HX.out, hmay]; rfl
          have Hmay := Lib.hid hmay
          have hD : decE l = 0 := by simp [decE, Hh.out, Hs.out, hok]
          have hDB : decB l = x := by simp only [decB, hD, if_true]; exact HX.out
          have HD := Lib.hid hD
          have HDB := Lib.hid hDB
          clear hD hDB hok hmay
          go_wp2_with (first
            | (go_at_call 34; refine (refmay_calls x a5 c5 _ hxs (by rw [Hbx.out, Hbl.out]; omega)).mono ?_; rintro e w7 ⟨rfl, hB7⟩; rw [Hmay.out]; have hb7 := hb6.later hB7; have hr7 := hr6.later hB7; have hBt := below_call hB6 (Nat.le_refl _) hB7)
            | (refine wpList_load_blk rfl (.tmp 5) rfl H x a5 c5 rfl hb6 ?_)
            | (refine wpList_load_blk rfl (.tmp 5) rfl H x a5 c5 rfl hb7 ?_)
            | (refine wpList_store_blk rfl (.tmp 2) (.tmp 83) rfl w.heap.size noneB x none a5 0 c5 rfl rfl hr7 ?_; intro w8 hr8 hg8; have hB8 := hBt.grown hg8 hBt.size (fun k hk => by cases hk; exact Nat.le_refl _)))
          exact ret_blk rfl rfl rfl rfl hr8 ⟨a5, c5, by rw [HD.out, HDB.out]; rfl, by rw [HDB.out, Hbx.out]; exact own_final hown6 hB7 hg8 (Nat.lt_trans (Nat.lt_of_succ_lt hlow) hHx) hB.size, hB8⟩

theorem refdecode_calls (a : Option Addr) (l : List UInt8) (cap : Nat) (w : World) (hc : l.length ≤ cap) (hby : IsBytes w a l) :
    Calls Try.prog 37 #[.slice a l.length cap] w (DecPost l w) := by
  by_cases h : l.length = 64
  · cases hs : endsB l with
    | false => exact refdecode_sum a l cap w h hc hby hs
    | true =>
      by_cases h8 : 15 < byteAt l 8
      · exact refdecode_mark a l cap w h hc hby hs h8
      · by_cases h9 : 48 < byteAt l 9
        · exact refdecode_nine a l cap w h hc hby hs h8 h9
        · exact refdecode_rest a l cap w h hc hby hs h8 h9
  · exact refdecode_len a l cap w h

end Go.Proofs.Ytdlbjllgdikadaa

namespace Go.Proofs.Ytdlbjllgdikadaa
open Go.RowKit CrcM

theorem leN_leB (n : Nat) : ∀ s, s < 256 ^ n → leN (leB s n) = s := by
  induction n with
  | zero => intro s hs; simp at hs; subst hs; rfl
  | succ n ih =>
    intro s hs
    have e : s = (UInt8.ofNat (s % 256)).toNat + 256 * (s / 256) := by simp; omega
    rw [e, leB_cons, leN, ih (s / 256) (by rw [Nat.pow_succ] at hs; omega)]

theorem seal_form (x : Blk) : sealB x = leB x.serial 8 ++ (UInt8.ofNat (markN x) :: UInt8.ofNat x.body.length :: (x.body ++ (List.replicate (50 - x.body.length) 0 ++ crcB (sum (encB x))))) := by
  unfold sealB encB
  simp only [List.append_assoc, List.cons_append, List.nil_append]

theorem seal_length (x : Blk) (h : x.body.length ≤ 48) : (sealB x).length = 64 := by
  unfold sealB
  rw [List.length_append, encB_length x h]
  rfl

theorem seal_ends (x : Blk) : endsB (sealB x) = true := by
  unfold sealB
  rw [ends_of _ _ rfl, beq_self_eq_true]

theorem decX_seal (x : Blk) (hm : mayB x = true) : decX (sealB x) = x := by
  have hmm := hm
  simp only [mayB, Bool.and_eq_true, decide_eq_true_eq, kindB_iff] at hmm
  obtain ⟨⟨⟨hs, hk1, hk2⟩, hl⟩, _⟩ := hmm
  have e8 : (leB x.serial 8).length = 8 := leB_length _ _
  have h8 : byteAt (sealB x) 8 = markN x := by
    unfold byteAt
    rw [seal_form, List.getD_eq_getElem?_getD, List.getElem?_append_right (by rw [e8]; exact Nat.le_refl _), e8]
    have : markN x < 256 := by unfold markN; split <;> split <;> omega
    simp; omega
  have h9 : byteAt (sealB x) 9 = x.body.length := by
    unfold byteAt
    rw [seal_form, List.getD_eq_getElem?_getD, List.getElem?_append_right (by rw [e8]; decide), e8]
    simp; omega
  have ht : (sealB x).take 8 = leB x.serial 8 := by
    rw [seal_form, List.take_append_of_le_length (by rw [e8]; exact Nat.le_refl _), List.take_of_length_le (by rw [e8]; exact Nat.le_refl _)]
  have hd : (sealB x).drop 10 = x.body ++ (List.replicate (50 - x.body.length) 0 ++ crcB (sum (encB x))) := by
    rw [seal_form, show (10 : Nat) = (leB x.serial 8).length + 2 by rw [e8], ← List.drop_drop, List.drop_left]
    rfl
  unfold decX
  rw [h8, h9, ht, hd, leN_leB 8 _ (by omega), Nat.min_eq_left hl, List.take_left]
  obtain ⟨s, k, f, la, body⟩ := x
  have hk : UInt8.ofNat (markN ⟨s, k, f, la, body⟩ % 4 + markN ⟨s, k, f, la, body⟩ / 16 * 16) = k := by
    apply UInt8.toNat.inj
    unfold markN
    simp only at hk1 hk2
    cases f <;> cases la <;> simp <;> omega
  have hf : (markN ⟨s, k, f, la, body⟩ / 4 % 2 == 1) = f := by
    unfold markN
    simp only at hk1 hk2
    cases f <;> cases la <;> simp <;> omega
  have ha : (markN ⟨s, k, f, la, body⟩ / 8 % 2 == 1) = la := by
    unfold markN
    simp only at hk1 hk2
    cases f <;> cases la <;> simp <;> omega
  rw [hk, hf, ha]

theorem dec_seal (x : Blk) (hm : mayB x = true) : decE (sealB x) = 0 ∧ decB (sealB x) = x := by
  have hmm := hm
  simp only [mayB, Bool.and_eq_true, decide_eq_true_eq] at hmm
  have hX := decX_seal x hm
  have h : decE (sealB x) = 0 := by
    unfold decE decOk
    rw [seal_length x hmm.1.2, seal_ends, hX, hm, beq_self_eq_true]
    rfl
  exact ⟨h, by unfold decB; rw [if_pos h, hX]⟩

set_option maxRecDepth 100000 in
theorem refencode_bad (b : Blk) (a : Option Addr) (cap : Nat) (w : World) (hs : b.serial < 18446744073709551616) (hl : b.body.length ≤ 9223372036854775807) (hbad : mayB b = false) :
    Calls Try.prog 32 #[.agg (b.cells a cap)] w fun e w' => e = .returned (.tuple #[.slice none 0 0, .int .i64 2]) ∧ Below w.heap.size w w' := by
  have hm : ∀ W, Calls Try.prog 34 #[.agg (b.cells a cap)] W fun e w' => e = .returned (.bool false) ∧ Below W.heap.size W w' := fun W => by
    rw [← hbad]; exact refmay_calls b a cap W hs hl
  have Hbad := Lib.hid hbad
  clear hbad
  obtain ⟨s, k, f, la, body⟩ := b
  simp only [Blk.cells] at *
  have hB : Below w.heap.size w (w.alloc (.cells (Blk.cells ⟨s, k, f, la, body⟩ a cap) 43)) := (Below.refl _ _).alloc (Nat.le_refl _) _
  go_enter Try.func32, Try.ntmps32
  go_wp2_with (go_at_call 34; refine (hm _).mono ?_; rintro e w2 ⟨rfl, hB2⟩)
  go_ret2
  exact ⟨rfl, below_call hB (by simp) hB2⟩

end Go.Proofs.Ytdlbjllgdikadaa
