/- The law SegmentSplits walked. -/
import Derived.Test.YtdlbjllgdikadaaSegE
namespace Go.Proofs.Ytdlbjllgdikadaa
open Go.RowKit

theorem u64_of {n : Int} (h : (Lit.int .u64 n).wf = true) : ∃ x : Nat, n = (x : Int) ∧ x < 18446744073709551616 := by
  have hb : 0 ≤ n ∧ n ≤ 18446744073709551615 := by
    simp [Lit.wf, IntKind.min, IntKind.max, IntKind.signed, IntKind.bits] at h
    omega
  exact ⟨n.toNat, by omega, by omega⟩

theorem i64_of {n : Int} (h : (Lit.int .i64 n).wf = true) : n ≤ 9223372036854775807 := by
  simp [Lit.wf, IntKind.min, IntKind.max, IntKind.signed, IntKind.bits] at h
  omega

theorem start_eq (s : Nat) : ((s / 8 * 8 : Nat) : Int) = (s : Int) / 8 * 8 := by omega

/-- 'append([]byte{}, x...)' : a row of the call's own. -/
theorem fresh_bytes {w w1 : World} {v1 : Value} {p : List UInt8} (hown1 : OwnB w1 w.heap.size v1 ([] ++ p)) (hgr : (w.alloc (.cells #[] 5)).grownBy w1 (Value.slice (some ⟨w.heap.size, 0, none⟩) 0 0).ownBlock) :
    ∃ a c, v1 = .slice a p.length c ∧ IsBytes w1 a p ∧ p.length ≤ c ∧ (a = none → p.length = 0 ∧ c = 0) ∧ Below w.heap.size w w1 := by
  rw [List.nil_append] at hown1
  obtain ⟨ab, cb, rfl, h1, h2, _, _, h3⟩ := hown1.slice
  exact ⟨ab, cb, rfl, h1, h2, fun h => by obtain ⟨x, y⟩ := h3 h; exact ⟨by rw [x]; rfl, y⟩, ((Below.refl _ w).alloc (Nat.le_refl _) _).grown hgr (by simp) (fun k hk => by simp [Value.ownBlock] at hk; omega)⟩

set_option maxHeartbeats 1600000 in
set_option maxRecDepth 100000 in
theorem segmentSplits_walk (k : UInt8) (s : Nat) (hs : s < 18446744073709551616) (a : Option Addr) (rec : List UInt8) (cap : Nat) (n : Int) (hn63 : n ≤ 9223372036854775807) (w : World) (hcap : rec.length ≤ cap) (hno : a = none → rec = [] ∧ cap = 0) (hby : IsBytes w a rec) :
    Calls Try.prog 5 #[.int .u8 (k.toNat : Int), .int .u64 (s : Int), .slice a rec.length cap, .int .i64 n] w fun e w' => e = .returned (.bool true) ∧ Below w.heap.size w w' := by
  by_cases hbig : 2000 < rec.length
  · go_enter Try.func5, Try.ntmps5
    go_wp2_with (go_at_call 23; refine (known23_calls _).mono ?_; rintro e w1 ⟨rfl, hw1⟩)
    go_ret
    exact ⟨rfl, hw1⟩
  · have hno' : a = none → rec.length = 0 ∧ cap = 0 := fun h => by obtain ⟨h1, h2⟩ := hno h; exact ⟨by rw [h1]; rfl, h2⟩
    obtain ⟨E, hE⟩ : ∃ E, splitE k s rec = E := ⟨_, rfl⟩
    obtain ⟨m, hm⟩ : ∃ m, manyN rec.length = m := ⟨_, rfl⟩
    have hmle : m ≤ 2001 := by have := manyN_le rec.length; omega
    have hsp : ∀ W a2 c2, rec.length ≤ c2 → (a2 = none → rec.length = 0 ∧ c2 = 0) → IsBytes W a2 rec → Calls Try.prog 24 #[.int .u8 (k.toNat : Int), .int .u64 (s : Int), .slice a2 rec.length c2] W fun e W' => ∃ a3 n3 c3, e = .returned (.tuple #[.slice a3 n3 c3, .int .i64 (E : Nat)]) ∧ n3 = (splitL k s rec).length ∧ IsBs W' a3 (splitL k s rec) ∧ Below W.heap.size W W' := by
      intro W a2 c2 h1 h2 h3
      refine (split_calls k s hs a2 rec c2 h1 (by omega) W h2 h3).mono ?_
      rintro e W' ⟨v, rfl, hown, hb⟩
      obtain ⟨a3, c3, rfl, hbs, _⟩ := hown.slice
      exact ⟨a3, _, c3, by rw [hE], rfl, hbs, hb⟩
    have hrsp : ∀ W, Below w.heap.size w W → Calls Try.prog 25 #[.int .u8 (k.toNat : Int), .int .u64 (s : Int), .slice a rec.length cap] W fun e W' => ∃ a3 n3 c3, e = .returned (.tuple #[.slice a3 n3 c3, .int .i64 (E : Nat)]) ∧ n3 = (splitL k s rec).length ∧ IsBs W' a3 (splitL k s rec) ∧ Below W.heap.size W W' := by
      intro W hW
      refine (refsplit_calls k s hs a rec cap hcap (by omega) W hno' (hby.later hW)).mono ?_
      rintro e W' ⟨v, rfl, hown, hb⟩
      obtain ⟨a3, c3, rfl, hbs, _⟩ := hown.slice
      exact ⟨a3, _, c3, by rw [hE], rfl, hbs, hb⟩
    have hmany : ∀ W, Calls Try.prog 27 #[.int .i64 (rec.length : Int)] W fun e w' => e = .returned (.int .i64 (m : Nat)) ∧ W = w' := fun W => by rw [← hm]; exact many_calls _ (by omega) W
    have hrmany : ∀ W, Calls Try.prog 28 #[.int .i64 (rec.length : Int)] W fun e w' => e = .returned (.int .i64 (m : Nat)) ∧ W = w' := fun W => by rw [← hm]; exact refmany_calls _ (by omega) W
    have hstart : ∀ W, Calls Try.prog 29 #[.int .u64 (s : Int)] W fun e w' => e = .returned (.int .u64 ((s : Int) / 8 * 8)) ∧ W = w' := fun W => by rw [← start_eq]; exact start_calls s hs W
    have hlenL : (splitL k s rec).length ≤ 2001 := by
      unfold splitL
      split
      · rw [blkTo_length, hm]; exact hmle
      · simp
    obtain ⟨L, hL⟩ : ∃ L, splitL k s rec = L := ⟨_, rfl⟩
    rw [hL] at hsp hrsp hlenL
    clear hE hm hL
    by_cases hn : n < 1
    · have hplace : ∀ W, Calls Try.prog 30 #[.int .u64 (s : Int), .int .i64 n] W fun e w' => e = .returned (.tuple #[.int .i64 0, .int .i64 2]) ∧ W = w' := fun W => place_neg s n hn W
      go_enter Try.func5, Try.ntmps5
      go_wp2_with (first
        | (at_builtin; refine wpList_append_bytes rfl (.tmp 20) (.tmp 21) rfl w.heap.size (.slice (some ⟨w.heap.size, 0, none⟩) 0 0) [] rfl (OwnB.made w w.heap.size (Nat.le_refl _)) a rec.length cap rec rfl rfl hno' (hby.alloc _) (by simp; omega) (by simp) ?_; intro v1 w1 hown1 hgr1; have hall := fresh_bytes hown1 hgr1; clear hown1 hgr1; obtain ⟨a1, c1, rfl, hb1, hc1, hn1, hB1⟩ := hall)
        | (go_at_call 24; refine (hsp _ a1 c1 hc1 hn1 hb1).mono ?_; rintro e w2 ⟨a3, n3, c3, rfl, rfl, hbs, hB2⟩; have hB12 := below_call hB1 (Nat.le_refl _) hB2)
        | (go_at_call 25; refine (hrsp _ hB12).mono ?_; rintro e w3 ⟨a4, n4, c4, rfl, rfl, hbs', hB3⟩; have hB13 := below_call hB12 (Nat.le_refl _) hB3)
        | (go_at_call 26; refine (sameAll_calls L L a3 a4 c3 c4 _ (hbs.later hB3) hbs' (by omega) (by omega)).mono ?_; rintro e w4 ⟨q, rfl, hq, hB4⟩; obtain rfl := hq.2 rfl; have hB14 := below_call hB13 (Nat.le_refl _) hB4; have t1 := conv_text (((hb1.later hB2).later hB3).later hB4) (n := rec.length) (cap := c1) rfl; have t2 := conv_text (hby.later hB14) (n := rec.length) (cap := cap) rfl)
        | (go_at_call 27; refine (hmany _).mono ?_; rintro e w5 ⟨rfl, rfl⟩)
        | (go_at_call 28; refine (hrmany _).mono ?_; rintro e w5 ⟨rfl, rfl⟩)
        | (go_at_call 29; refine (hstart _).mono ?_; rintro e w5 ⟨rfl, rfl⟩)
        | (go_at_call 30; refine (hplace _).mono ?_; rintro e w5 ⟨rfl, rfl⟩)
        | (go_at_call 23; refine (known23_calls _).mono ?_; rintro e w6 ⟨rfl, hB6⟩))
      go_ret
      exact ⟨rfl, below_call hB14 (Nat.le_refl _) hB6⟩
    · obtain ⟨M, rfl⟩ := Int.eq_ofNat_of_zero_le (show 0 ≤ n by omega)
      have hplace : ∀ W, Calls Try.prog 30 #[.int .u64 (s : Int), .int .i64 (M : Int)] W fun e w' => e = .returned (.tuple #[.int .i64 ((s % M : Nat) : Int), .int .i64 0]) ∧ W = w' := fun W => place_pos s M hs (by omega) (by omega) W
      obtain ⟨p, hp⟩ : ∃ p, s % M = p := ⟨_, rfl⟩
      have hp1 : p < M := by rw [← hp]; exact Nat.mod_lt _ (by omega)
      have hp2 : p ≤ s := by rw [← hp]; exact Nat.mod_le _ _
      have hp3 : ((s : Int) - (p : Int)).tmod (M : Int) = 0 := by
        rw [Int.tmod_eq_emod_of_nonneg (by omega), ← hp]
        apply Int.emod_eq_zero_of_dvd
        rw [← Int.natCast_sub (Nat.mod_le _ _)]
        exact Int.natCast_dvd_natCast.2 (Nat.dvd_sub_mod s)
      rw [hp] at hplace
      clear hp
      go_enter Try.func5, Try.ntmps5
      go_wp2_with (first
        | (at_builtin; refine wpList_append_bytes rfl (.tmp 20) (.tmp 21) rfl w.heap.size (.slice (some ⟨w.heap.size, 0, none⟩) 0 0) [] rfl (OwnB.made w w.heap.size (Nat.le_refl _)) a rec.length cap rec rfl rfl hno' (hby.alloc _) (by simp; omega) (by simp) ?_; intro v1 w1 hown1 hgr1; have hall := fresh_bytes hown1 hgr1; clear hown1 hgr1; obtain ⟨a1, c1, rfl, hb1, hc1, hn1, hB1⟩ := hall)
        | (go_at_call 24; refine (hsp _ a1 c1 hc1 hn1 hb1).mono ?_; rintro e w2 ⟨a3, n3, c3, rfl, rfl, hbs, hB2⟩; have hB12 := below_call hB1 (Nat.le_refl _) hB2)
        | (go_at_call 25; refine (hrsp _ hB12).mono ?_; rintro e w3 ⟨a4, n4, c4, rfl, rfl, hbs', hB3⟩; have hB13 := below_call hB12 (Nat.le_refl _) hB3)
        | (go_at_call 26; refine (sameAll_calls L L a3 a4 c3 c4 _ (hbs.later hB3) hbs' (by omega) (by omega)).mono ?_; rintro e w4 ⟨q, rfl, hq, hB4⟩; obtain rfl := hq.2 rfl; have hB14 := below_call hB13 (Nat.le_refl _) hB4; have t1 := conv_text (((hb1.later hB2).later hB3).later hB4) (n := rec.length) (cap := c1) rfl; have t2 := conv_text (hby.later hB14) (n := rec.length) (cap := cap) rfl)
        | (go_at_call 27; refine (hmany _).mono ?_; rintro e w5 ⟨rfl, rfl⟩)
        | (go_at_call 28; refine (hrmany _).mono ?_; rintro e w5 ⟨rfl, rfl⟩)
        | (go_at_call 29; refine (hstart _).mono ?_; rintro e w5 ⟨rfl, rfl⟩)
        | (go_at_call 30; refine (hplace _).mono ?_; rintro e w5 ⟨rfl, rfl⟩)
        | (go_at_call 23; refine (known23_calls _).mono ?_; rintro e w6 ⟨rfl, hB6⟩))
      go_ret
      exact ⟨rfl, below_call hB14 (Nat.le_refl _) hB6⟩

end Go.Proofs.Ytdlbjllgdikadaa
