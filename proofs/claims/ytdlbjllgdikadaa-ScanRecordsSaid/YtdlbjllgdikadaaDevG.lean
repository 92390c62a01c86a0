/- The law DeviceCrash walked. -/
import Derived.Test.YtdlbjllgdikadaaDevF
namespace Go.Proofs.Ytdlbjllgdikadaa
open Go.RowKit

theorem IsBytes.cell' {w : World} {a : Option Addr} {l : List UInt8} (h : IsBytes w a l) (i : Nat) (hi : i < l.length) : ∃ b off, a = some ⟨b, off, none⟩ ∧ w.cell? ⟨b, off + i, none⟩ = some (.int .u8 (l[i].toNat : Int)) := h i hi

theorem zeroC57 : Try.zeroCells57 = (bvals (List.replicate 1024 0)).toArray := by kernel_rfl

set_option maxHeartbeats 4000000 in
set_option maxRecDepth 100000 in
theorem deviceCrash_walk (a : Option Addr) (l : List UInt8) (cap : Nat) (n p : Int) (hn : n ≤ 9223372036854775807) (w : World) (hby : IsBytes w a l) :
    Calls Try.prog 8 #[.slice a l.length cap, .int .i64 n, .int .i64 p] w fun e w' => e = .returned (.bool true) ∧ Below w.heap.size w w' := by
  have hnew := new_dev 16 w (by decide) (by decide)
  by_cases hbig : 20 < l.length ∨ n < 0 ∨ p < 0 ∨ 64 < p
  · by_cases b1 : 20 < l.length
    · go_enter Try.func8, Try.ntmps8
      go_wp2_with (first
        | (go_at_call 38; refine hnew.mono ?_; rintro e w1 ⟨D, b, rfl, hD1, hD0, hb0, hB1⟩)
        | (go_at_call 39; refine (known39_calls _).mono ?_; rintro e w9 ⟨rfl, hB9⟩))
      go_ret
      exact ⟨rfl, below_call hB1 (Nat.le_refl _) hB9⟩
    · by_cases b2 : n < 0
      · go_enter Try.func8, Try.ntmps8
        go_wp2_with (first
          | (go_at_call 38; refine hnew.mono ?_; rintro e w1 ⟨D, b, rfl, hD1, hD0, hb0, hB1⟩)
          | (go_at_call 39; refine (known39_calls _).mono ?_; rintro e w9 ⟨rfl, hB9⟩))
        go_ret
        exact ⟨rfl, below_call hB1 (Nat.le_refl _) hB9⟩
      · by_cases b3 : p < 0
        · go_enter Try.func8, Try.ntmps8
          go_wp2_with (first
            | (go_at_call 38; refine hnew.mono ?_; rintro e w1 ⟨D, b, rfl, hD1, hD0, hb0, hB1⟩)
            | (go_at_call 39; refine (known39_calls _).mono ?_; rintro e w9 ⟨rfl, hB9⟩))
          go_ret
          exact ⟨rfl, below_call hB1 (Nat.le_refl _) hB9⟩
        · have b4 : 64 < p := by omega
          go_enter Try.func8, Try.ntmps8
          go_wp2_with (first
            | (go_at_call 38; refine hnew.mono ?_; rintro e w1 ⟨D, b, rfl, hD1, hD0, hb0, hB1⟩)
            | (go_at_call 39; refine (known39_calls _).mono ?_; rintro e w9 ⟨rfl, hB9⟩))
          go_ret
          exact ⟨rfl, below_call hB1 (Nat.le_refl _) hB9⟩
  · have h20 : l.length ≤ 20 := by omega
    have h1 : 0 ≤ n := by omega
    have h2 : 0 ≤ p := by omega
    have h3 : p ≤ 64 := by omega
    clear hbig
    obtain ⟨ce, cr⟩ := crash_start n p h1 h2 h3
    have hcr : ∀ D b W, DevAt W D b (newD 16) → Calls Try.prog 40 #[.pointer (some ⟨D, 0, none⟩), .int .i64 n, .int .i64 p] W fun e w' => e = .returned (.int .i64 0) ∧ DevAt w' D b (crashD (newD 16) n p) ∧ W.grownBy w' (some D) := fun D b W h => by
      have := crash_dev D b (newD 16) n p W h
      rw [ce] at this
      exact this
    have Cr := Lib.hid cr
    clear cr ce
    go_enter Try.func8, Try.ntmps8
    go_wp2_with (first
      | (go_at_call 38; refine hnew.mono ?_; rintro e w1 ⟨D, b, rfl, hD1, hD0, hb0, hB1⟩)
      | (go_at_call 40; refine (hcr D b _ hD1).mono ?_; rintro e w2 ⟨rfl, hD2, hg2⟩; have hB2 := hB1.grown hg2 hB1.size (fun k hk => by injection hk with hk; omega)))
    have hA2 : w.heap.size ≤ w2.heap.size := hB2.size
    have ha2 : ArrT (w2.alloc (.cells Try.zeroCells57 57)) w2.heap.size 57 (List.replicate 1024 0) := by rw [zeroC57]; exact heap_alloc_new _ _
    have hD2' := hD2.later ((Below.refl _ w2).alloc (Nat.le_refl _) (.cells Try.zeroCells57 57))
    have hB2' := hB2.alloc hB2.size (.cells Try.zeroCells57 57)
    have hAD : w2.heap.size ≠ D := by have := hD2.lt; omega
    have hAb : w2.heap.size ≠ b := by have := hD2.ltb; omega
    have hAlt : w2.heap.size < (w2.alloc (.cells Try.zeroCells57 57)).heap.size := by simp
    obtain ⟨A, hA⟩ : ∃ A, A = w2.heap.size := ⟨_, rfl⟩
    rw [← hA] at ha2 hAD hAb hA2 ⊢
    obtain ⟨w3, hw3⟩ : ∃ w3, w3 = w2.alloc (.cells Try.zeroCells57 57) := ⟨_, rfl⟩
    rw [← hw3] at ha2 hD2' hB2' ⊢
    clear hA hw3 hD2 hB2 hg2 hcr hnew hD1 hB1 hAlt
    have hAn : A ∉ [D, b] := by simp; exact ⟨hAD, hAb⟩
    have ho : DevOk (crashD (newD 16) n p) ∧ (-(0 : Nat) : Int) ≤ (crashD (newD 16) n p).writes := by
      obtain ⟨_, q1, _, _, q2, _⟩ := Cr.out
      obtain ⟨_, _, q3⟩ := q2 (by simpa using h1)
      exact ⟨⟨by omega, by omega, by omega, by omega⟩, by omega⟩
    have hfull : ∀ (q : Int) (x : UInt8) (W : World), q = (x.toNat : Int) → Calls Try.prog 41 #[.int .u8 q] W fun e w' => e = .returned (.slice (some ⟨W.heap.size, 0, none⟩) 64 64) ∧ ArrB w' W.heap.size (ones x) ∧ Below W.heap.size W w' := fun q x W h => by rw [h]; exact full_calls x W
    go_loopw [53] (fun i wr => ∃ (j : Nat) (d : Dev) (L : List UInt8), j ≤ l.length ∧ i = .int .i64 j ∧ DevAt wr D b d ∧ ArrT wr A 57 L ∧ CrashRel n p j d L ∧ DevOk d ∧ -(j : Int) ≤ d.writes ∧ Below w.heap.size w wr) (fun i _ => l.length - (intOf i).toNat)
    case atStart => exact ⟨0, _, _, Nat.zero_le _, rfl, hD2', ha2, Cr.out, ho.1, ho.2, hB2'⟩
    case round =>
      clear hD2' ha2 hB2' ho Cr
      obtain ⟨j, d, L, hj, rfl, hD, ha, hC, hO, hwj, hBw⟩ := hrel
      by_cases hlt : j < l.length
      · obtain ⟨y, hy⟩ : ∃ y, y = l[j] := ⟨_, rfl⟩
        have cy := (hby.later hBw).cell' j hlt
        obtain ⟨b0, o0, rfl, cy⟩ := cy
        rw [← hy] at cy
        obtain ⟨k, hk⟩ : ∃ k, k = y.toNat % 16 := ⟨_, rfl⟩
        have hk16 : k < 16 := by rw [hk]; exact Nat.mod_lt _ (by decide)
        have hki : (y.toNat : Int) % 16 = (k : Int) := by rw [hk]; simp
        obtain ⟨x, hxe⟩ : ∃ x, x = UInt8.ofNat (j + 1) := ⟨_, rfl⟩
        have hx : (j : Int) + 1 = (x.toNat : Int) := by rw [hxe]; simp; omega
        have hL1024 : L.length = 1024 := hC.2.2.1
        obtain ⟨hE, hC'⟩ := crash_step n p h2 h3 j d L hC k hk16 x
        have hO' := writeD_ok hO (by omega) (k : Int) (ones x)
        have hwr : ∀ g W, DevAt W D b d → ArrB W g (ones x) → g ∉ [D, b] → Calls Try.prog 42 #[.pointer (some ⟨D, 0, none⟩), .int .i64 (k : Int), .slice (some ⟨g, 0, none⟩) 64 64] W (WritePost D b d k (ones x) W) := fun g W q1 q2 q3 => by
          have := write_dev D b d k (some ⟨g, 0, none⟩) (ones x) 64 W q1 hO q2.bytes (fun q off e => by cases e; exact q3)
          rw [ones_length] at this
          exact this
        have HC := Lib.hid hC'
        have HO := Lib.hid hO'
        have HCo := Lib.hid hC
        clear hy hk hxe hC hC' hO'
        obtain ⟨pn, rfl⟩ := Int.eq_ofNat_of_zero_le h2
        have hpn : pn ≤ 64 := by omega
        have hk64 : (k : Int) < 16 := by omega
        rcases Int.lt_trichotomy (j : Int) n with hc | hc | hc
        · rw [if_pos hc] at hE
          have HE := Lib.hid hE
          have HN := Lib.hid (show crashN n pn j = 64 by rw [crashN, if_pos hc])
          have hc2 : ((j : Int) == n) = false := by rw [beq_eq_false_iff_ne]; omega
          clear hE
          go_wp2_with (first
            | (go_at_call 41; refine (full_calls x _).mono ?_; rintro e w3 ⟨rfl, hg3, hB3⟩; have hD3 := hD.later hB3; have ha3 := ha.later hB3; have hn3 : wr.heap.size ∉ [D, b] := (by have := hD.lt; have := hD.ltb; simp; omega))
            | (go_at_call 42; refine (hwr _ _ hD3 hg3 hn3).mono ?_; rintro e w4 ⟨rfl, hD4, hA4⟩; rw [HE.out]; have ha4 := ha3.aside hA4 hAn; have hg4 : IsBytes w4 (some ⟨wr.heap.size, 0, none⟩) (ones x) := hg3.bytes.aside hA4 (fun _ _ e => by cases e; exact hn3))
            | (refine wpList_copy_arr (t := 57) rfl (.tmp 96) (.tmp 97) rfl A (k * 64) 64 64 L rfl ha4 (by omega) (some ⟨wr.heap.size, 0, none⟩) 64 64 (ones x) rfl (ones_length x).symm hg4 ?_; intro w5 n5 ha5 hg5))
          go_roundw
          case rel =>
            have hCr5 := HC.out
            rw [HN.out] at hCr5
            exact ⟨j + 1, writeD d k (ones x), _, by omega, by go_num, hD4.kept hg5 (fun e => hAD (by injection e with e; exact e.symm)) (fun e => hAb (by injection e with e; exact e.symm)), ha5, hCr5, HO.out.1, by have := HO.out.2; omega, (below_call hBw (Nat.le_refl _) hB3).trans ((hA4.toBelow (fun k hk => by simp at hk; omega) (Nat.le_trans hBw.size hB3.size)).grown hg5 (Nat.le_trans hBw.size (Nat.le_trans hB3.size hA4.size)) (fun k hk => by injection hk with hk; omega))⟩
          case measure => simp [intOf]; omega
        · rw [if_neg (by omega)] at hE
          have HE := Lib.hid hE
          have HN := Lib.hid (show crashN n pn j = pn by rw [crashN, if_neg (by omega), if_pos hc]; simp)
          have hc2 : ((j : Int) == n) = true := by rw [beq_iff_eq]; exact hc
          have Hc := Lib.hid hc
          have hcl : ¬ (j : Int) < n := by omega
          clear hE hc
          go_wp2_with (first
            | (go_at_call 41; refine (full_calls x _).mono ?_; rintro e w3 ⟨rfl, hg3, hB3⟩; have hD3 := hD.later hB3; have ha3 := ha.later hB3; have hn3 : wr.heap.size ∉ [D, b] := (by have := hD.lt; have := hD.ltb; simp; omega))
            | (go_at_call 42; refine (hwr _ _ hD3 hg3 hn3).mono ?_; rintro e w4 ⟨rfl, hD4, hA4⟩; rw [HE.out]; have ha4 := ha3.aside hA4 hAn; have hg4 : IsBytes w4 (some ⟨wr.heap.size, 0, none⟩) (ones x) := hg3.bytes.aside hA4 (fun _ _ e => by cases e; exact hn3))
            | (refine wpList_copy_arr (t := 57) rfl (.tmp 96) (.tmp 97) rfl A (k * 64) pn 64 L rfl ha4 (by omega) (some ⟨wr.heap.size, 0, none⟩) 64 64 (ones x) rfl (ones_length x).symm hg4 ?_; intro w5 n5 ha5 hg5))
          go_roundw
          case rel =>
            have hCr5 := HC.out
            rw [HN.out] at hCr5
            exact ⟨j + 1, writeD d k (ones x), _, by omega, by go_num, hD4.kept hg5 (fun e => hAD (by injection e with e; exact e.symm)) (fun e => hAb (by injection e with e; exact e.symm)), ha5, hCr5, HO.out.1, by have := HO.out.2; omega, (below_call hBw (Nat.le_refl _) hB3).trans ((hA4.toBelow (fun k hk => by simp at hk; omega) (Nat.le_trans hBw.size hB3.size)).grown hg5 (Nat.le_trans hBw.size (Nat.le_trans hB3.size hA4.size)) (fun k hk => by injection hk with hk; omega))⟩
          case measure => simp [intOf]; omega
        · rw [if_neg (by omega)] at hE
          have HE := Lib.hid hE
          have HN := Lib.hid (show crashN n pn j = 0 by rw [crashN, if_neg (by omega), if_neg (by omega)])
          have hc2 : ((j : Int) == n) = false := by rw [beq_eq_false_iff_ne]; omega
          clear hE
          go_wp2_with (first
            | (go_at_call 41; refine (full_calls x _).mono ?_; rintro e w3 ⟨rfl, hg3, hB3⟩; have hD3 := hD.later hB3; have ha3 := ha.later hB3; have hn3 : wr.heap.size ∉ [D, b] := (by have := hD.lt; have := hD.ltb; simp; omega))
            | (go_at_call 42; refine (hwr _ _ hD3 hg3 hn3).mono ?_; rintro e w4 ⟨rfl, hD4, hA4⟩; rw [HE.out]; have ha4 := ha3.aside hA4 hAn; have hg4 : IsBytes w4 (some ⟨wr.heap.size, 0, none⟩) (ones x) := hg3.bytes.aside hA4 (fun _ _ e => by cases e; exact hn3))
            | (refine wpList_copy_arr (t := 57) rfl (.tmp 96) (.tmp 97) rfl A (k * 64) 0 64 L rfl ha4 (by omega) (some ⟨wr.heap.size, 0, none⟩) 64 64 (ones x) rfl (ones_length x).symm hg4 ?_; intro w5 n5 ha5 hg5))
          go_roundw
          case rel =>
            have hCr5 := HC.out
            rw [HN.out] at hCr5
            exact ⟨j + 1, writeD d k (ones x), _, by omega, by go_num, hD4.kept hg5 (fun e => hAD (by injection e with e; exact e.symm)) (fun e => hAb (by injection e with e; exact e.symm)), ha5, hCr5, HO.out.1, by have := HO.out.2; omega, (below_call hBw (Nat.le_refl _) hB3).trans ((hA4.toBelow (fun k hk => by simp at hk; omega) (Nat.le_trans hBw.size hB3.size)).grown hg5 (Nat.le_trans hBw.size (Nat.le_trans hB3.size hA4.size)) (fun k hk => by injection hk with hk; omega))⟩
          case measure => simp [intOf]; omega
      · obtain rfl : j = l.length := by omega
        obtain ⟨hbl, hpx, hL, hmm, hle, hgt⟩ := hC
        have Hbl := Lib.hid hbl
        have Hmm := Lib.hid hmm
        have HL := Lib.hid hL
        by_cases hc : (l.length : Int) ≤ n
        · obtain ⟨f1, f2, f3⟩ := hle hc
          have h43 : ∀ W, DevAt W D b d → Calls Try.prog 43 #[.pointer (some ⟨D, 0, none⟩)] W fun e w' => e = .returned (.bool false) ∧ W = w' := fun W q => by rw [← f1]; exact down_dev D b d W q
          have h44 : ∀ W, DevAt W D b d → Calls Try.prog 44 #[.pointer (some ⟨D, 0, none⟩)] W fun e w' => e = .returned (.bool true) ∧ W = w' := fun W q => by rw [← f2]; exact isSet_dev D b d W q
          have h45 : Calls Try.prog 45 #[.pointer (some ⟨D, 0, none⟩), .int .i64 0] wr fun e w' => ∃ g, e = .returned (.tuple #[.slice (some ⟨g, 0, none⟩) 64 64, .int .i64 0]) ∧ Below wr.heap.size wr w' := by
            have hm0 : mayE d 0 = 0 := by rw [mayE, f1, if_neg (by decide), if_neg (by omega)]
            refine (read_dev D b d 0 wr hD).mono ?_
            rintro e w' (⟨q2, _⟩ | ⟨_, g, rfl, _, _, _, q4⟩)
            · exact absurd hm0 q2
            · exact ⟨g, rfl, q4⟩
          clear hbl hmm hL hle hgt f1 f2 f3 hO hwj hpx
          go_upto_region 30 with (first
            | (go_at_call 43; refine (h43 _ (by assumption)).mono ?_; rintro e wq ⟨rfl, rfl⟩)
            | (go_at_call 44; refine (h44 _ hD).mono ?_; rintro e wq ⟨rfl, rfl⟩)
            | (go_at_call 45; refine h45.mono ?_; rintro e w5 ⟨g, rfl, hB5⟩; have hD5 := hD.later hB5; have ha5 := ha.later hB5; have hBw5 := below_call hBw (Nat.le_refl _) hB5; clear hD)
            | (go_at_call 46; refine (up_dev D b d _ hD5).mono ?_; rintro e w7 ⟨rfl, hDu, hgu⟩; have hau : ArrT w7 A 57 L := (hgu.block A (lt_of_block ha5) (fun e => hAD (by injection e))).trans ha5; have hBu := (hBw5).grown hgu (hBw5).size (fun k hk => by injection hk with hk; omega)))
          refine over_world (R := fun W => DevAt W D b { d with down := false } ∧ ArrT W A 57 L ∧ Below w.heap.size w W) ⟨hDu, hau, hBu⟩ ?_
          rintro wv ⟨hDv, hav, hBv⟩
          clear hDu hau hBu
          go_wp2
          go_loopw [126] (fun i wr => ∃ j : Nat, j ≤ 16 ∧ i = .int .i64 j ∧ DevAt wr D b { d with down := false } ∧ ArrT wr A 57 L ∧ Below w.heap.size w wr) (fun i _ => 16 - (intOf i).toNat)
          case atStart => exact ⟨0, Nat.zero_le _, rfl, hDv, hav, hBv⟩
          case round =>
            clear hDv hav hBv
            obtain ⟨i, hi, rfl, hDi, hai, hBi⟩ := hrel
            by_cases hlt2 : i < 16
            · have hrd : Calls Try.prog 45 #[.pointer (some ⟨D, 0, none⟩), .int .i64 (i : Int)] wr fun e w' => ∃ g, e = .returned (.tuple #[.slice (some ⟨g, 0, none⟩) 64 64, .int .i64 0]) ∧ ArrT w' g 132 (win L i) ∧ Below wr.heap.size wr w' := by
                have hm0 : mayE { d with down := false } (i : Int) = 0 := by
                  have := Hbl.out
                  rw [mayE, if_neg Bool.false_ne_true, if_neg (by show ¬ ((i : Int) < 0 ∨ (d.blocks : Int) ≤ (i : Int)); omega)]
                refine (read_dev D b _ (i : Int) wr hDi).mono ?_
                rintro e w' (⟨q2, _⟩ | ⟨_, g, rfl, q3, _, _, q4⟩)
                · exact absurd hm0 q2
                · refine ⟨g, rfl, ?_, q4⟩
                  have : ({ d with down := false } : Dev).mem (i : Int).toNat = win L i := by rw [Int.toNat_natCast]; exact Hmm.out i hlt2
                  rw [this] at q3; exact q3
              have hwl : (win L i).length = 64 := win_length L i HL.out hlt2
              have hwin : ∀ W, ArrT W A 57 L → IsBytes W (some ⟨A, i * 64, none⟩) (win L i) := fun W q => by
                have := (q.bytes.drop (64 * i) 1024 (by rw [HL.out]; exact Nat.le_refl _)).take 64
                rw [if_neg (by omega)] at this
                simpa [Addr.add_lit, win, Nat.mul_comm] using this
              obtain ⟨V, hV⟩ : ∃ V, V = win L i := ⟨_, rfl⟩
              rw [← hV] at hrd hwl hwin
              have hi16 : (i : Int) < 16 := by omega
              have Hrd := Lib.hid hrd
              clear hrd hV
              go_upto_region 34 with (go_at_call 45; refine Hrd.out.mono ?_; rintro e w5 ⟨g, rfl, hg5, hB5⟩)
              have ha5 := hai.later hB5
              have hD5 := hDi.later hB5
              have hne : Nonempty (SW (fun W => Below w5.heap.size w5 W)) := ⟨⟨w5, Below.refl _ _⟩⟩
              have t1 : ∀ x : SW (fun W => Below w5.heap.size w5 W), (convert 22 9 (.slice (some ⟨g, 0, none⟩) 64 64)).run Try.prog x.W = .ok (.string ⟨V.toArray⟩) x.W := fun x => conv_text ((hg5.later x.h).bytes) hwl.symm
              have t2 : ∀ x : SW (fun W => Below w5.heap.size w5 W), (convert 22 9 (.slice (some ⟨A, i * 64, none⟩) 64 64)).run Try.prog x.W = .ok (.string ⟨V.toArray⟩) x.W := fun x => conv_text (hwin _ (ha5.later x.h)) hwl.symm
              refine wp_region_seq2 (fun W => Below w5.heap.size w5 W) [(0, true), (1, true), (2, true), (3, true), (4, true), (5, true), (6, true), (7, true), (8, true), (9, true), (10, true)] (by kernel_rfl) (by kernel_rfl) (fun d _ _ _ _ h => by cases d <;> exact h) ((Below.refl _ _).drew) ?_
              repeat (first
                | (refine wpSeq_skip (o := ⟨_, _, _, _, _, _⟩) rfl rfl ?_; simp only [Act.put, List.setIfInBounds_toArray, List.set_cons_zero, List.set_cons_succ])
                | (refine wpSeq_free (o := ⟨_, _, _, _, _, _⟩) rfl rfl (fun K hK => ?_); go_big_quiet_op; (refine hK _ ?_; clear hK K)))
              refine wpSeq_nil ?_
              go_wp2
              go_roundw
              case rel => exact ⟨i + 1, by omega, by go_num, hD5, ha5, below_call hBi (Nat.le_refl _) hB5.drew⟩
              case measure => simp [intOf]; omega
            · obtain rfl : i = 16 := by omega
              go_wp2_with (go_at_call 39; refine (known39_calls _).mono ?_; rintro e w9 ⟨rfl, hB9⟩)
              go_ret
              exact ⟨rfl, below_call hBi (Nat.le_refl _) hB9⟩
        · obtain ⟨f1, f2⟩ := hgt (by omega)
          have h43 : ∀ W, DevAt W D b d → Calls Try.prog 43 #[.pointer (some ⟨D, 0, none⟩)] W fun e w' => e = .returned (.bool true) ∧ W = w' := fun W q => by rw [← f1]; exact down_dev D b d W q
          have h44 : ∀ W, DevAt W D b d → Calls Try.prog 44 #[.pointer (some ⟨D, 0, none⟩)] W fun e w' => e = .returned (.bool false) ∧ W = w' := fun W q => by rw [← f2]; exact isSet_dev D b d W q
          have h45 : Calls Try.prog 45 #[.pointer (some ⟨D, 0, none⟩), .int .i64 0] wr fun e w' => e = .returned (.tuple #[.slice none 0 0, .int .i64 11]) ∧ wr = w' := by
            have hm0 : mayE d 0 = 11 := by rw [mayE, f1, if_pos rfl]
            refine (read_dev D b d 0 wr hD).mono ?_
            rintro e w' (⟨_, rfl, q3⟩ | ⟨q1, _⟩)
            · exact ⟨by rw [hm0]; rfl, q3⟩
            · rw [hm0] at q1; cases q1
          clear hbl hmm hL hle hgt f1 f2 hO hwj hpx
          go_upto_region 30 with (first
            | (go_at_call 43; refine (h43 _ hD).mono ?_; rintro e wq ⟨rfl, rfl⟩)
            | (go_at_call 44; refine (h44 _ hD).mono ?_; rintro e wq ⟨rfl, rfl⟩)
            | (go_at_call 45; refine h45.mono ?_; rintro e w5 ⟨rfl, rfl⟩)
            | (go_at_call 46; refine (up_dev D b d _ hD).mono ?_; rintro e w7 ⟨rfl, hDu, hgu⟩; have hau : ArrT w7 A 57 L := (hgu.block A (lt_of_block ha) (fun e => hAD (by injection e))).trans ha; have hBu := (hBw).grown hgu (hBw).size (fun k hk => by injection hk with hk; omega)))
          refine over_world (R := fun W => DevAt W D b { d with down := false } ∧ ArrT W A 57 L ∧ Below w.heap.size w W) ⟨hDu, hau, hBu⟩ ?_
          rintro wv ⟨hDv, hav, hBv⟩
          clear hDu hau hBu
          go_wp2
          go_loopw [126] (fun i wr => ∃ j : Nat, j ≤ 16 ∧ i = .int .i64 j ∧ DevAt wr D b { d with down := false } ∧ ArrT wr A 57 L ∧ Below w.heap.size w wr) (fun i _ => 16 - (intOf i).toNat)
          case atStart => exact ⟨0, Nat.zero_le _, rfl, hDv, hav, hBv⟩
          case round =>
            clear hDv hav hBv
            obtain ⟨i, hi, rfl, hDi, hai, hBi⟩ := hrel
            by_cases hlt2 : i < 16
            · have hrd : Calls Try.prog 45 #[.pointer (some ⟨D, 0, none⟩), .int .i64 (i : Int)] wr fun e w' => ∃ g, e = .returned (.tuple #[.slice (some ⟨g, 0, none⟩) 64 64, .int .i64 0]) ∧ ArrT w' g 132 (win L i) ∧ Below wr.heap.size wr w' := by
                have hm0 : mayE { d with down := false } (i : Int) = 0 := by
                  have := Hbl.out
                  rw [mayE, if_neg Bool.false_ne_true, if_neg (by show ¬ ((i : Int) < 0 ∨ (d.blocks : Int) ≤ (i : Int)); omega)]
                refine (read_dev D b _ (i : Int) wr hDi).mono ?_
                rintro e w' (⟨q2, _⟩ | ⟨_, g, rfl, q3, _, _, q4⟩)
                · exact absurd hm0 q2
                · refine ⟨g, rfl, ?_, q4⟩
                  have : ({ d with down := false } : Dev).mem (i : Int).toNat = win L i := by rw [Int.toNat_natCast]; exact Hmm.out i hlt2
                  rw [this] at q3; exact q3
              have hwl : (win L i).length = 64 := win_length L i HL.out hlt2
              have hwin : ∀ W, ArrT W A 57 L → IsBytes W (some ⟨A, i * 64, none⟩) (win L i) := fun W q => by
                have := (q.bytes.drop (64 * i) 1024 (by rw [HL.out]; exact Nat.le_refl _)).take 64
                rw [if_neg (by omega)] at this
                simpa [Addr.add_lit, win, Nat.mul_comm] using this
              obtain ⟨V, hV⟩ : ∃ V, V = win L i := ⟨_, rfl⟩
              rw [← hV] at hrd hwl hwin
              have hi16 : (i : Int) < 16 := by omega
              have Hrd := Lib.hid hrd
              clear hrd hV
              go_upto_region 34 with (go_at_call 45; refine Hrd.out.mono ?_; rintro e w5 ⟨g, rfl, hg5, hB5⟩)
              have ha5 := hai.later hB5
              have hD5 := hDi.later hB5
              have hne : Nonempty (SW (fun W => Below w5.heap.size w5 W)) := ⟨⟨w5, Below.refl _ _⟩⟩
              have t1 : ∀ x : SW (fun W => Below w5.heap.size w5 W), (convert 22 9 (.slice (some ⟨g, 0, none⟩) 64 64)).run Try.prog x.W = .ok (.string ⟨V.toArray⟩) x.W := fun x => conv_text ((hg5.later x.h).bytes) hwl.symm
              have t2 : ∀ x : SW (fun W => Below w5.heap.size w5 W), (convert 22 9 (.slice (some ⟨A, i * 64, none⟩) 64 64)).run Try.prog x.W = .ok (.string ⟨V.toArray⟩) x.W := fun x => conv_text (hwin _ (ha5.later x.h)) hwl.symm
              refine wp_region_seq2 (fun W => Below w5.heap.size w5 W) [(0, true), (1, true), (2, true), (3, true), (4, true), (5, true), (6, true), (7, true), (8, true), (9, true), (10, true)] (by kernel_rfl) (by kernel_rfl) (fun d _ _ _ _ h => by cases d <;> exact h) ((Below.refl _ _).drew) ?_
              repeat (first
                | (refine wpSeq_skip (o := ⟨_, _, _, _, _, _⟩) rfl rfl ?_; simp only [Act.put, List.setIfInBounds_toArray, List.set_cons_zero, List.set_cons_succ])
                | (refine wpSeq_free (o := ⟨_, _, _, _, _, _⟩) rfl rfl (fun K hK => ?_); go_big_quiet_op; (refine hK _ ?_; clear hK K)))
              refine wpSeq_nil ?_
              go_wp2
              go_roundw
              case rel => exact ⟨i + 1, by omega, by go_num, hD5, ha5, below_call hBi (Nat.le_refl _) hB5.drew⟩
              case measure => simp [intOf]; omega
            · obtain rfl : i = 16 := by omega
              go_wp2_with (go_at_call 39; refine (known39_calls _).mono ?_; rintro e w9 ⟨rfl, hB9⟩)
              go_ret
              exact ⟨rfl, below_call hBi (Nat.le_refl _) hB9⟩

end Go.Proofs.Ytdlbjllgdikadaa
