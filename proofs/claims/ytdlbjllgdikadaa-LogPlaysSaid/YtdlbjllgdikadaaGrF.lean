/- Encode of what may not be; the law's known. The law SegmentSplits walked. The document's May and Encode. The document's Encode. -/
import Derived.Test.YtdlbjllgdikadaaGrE
namespace Go.Proofs.Ytdlbjllgdikadaa
open Go.RowKit

set_option maxRecDepth 100000 in
theorem encode_bad (b : Blk) (a : Option Addr) (cap : Nat) (w : World) (hs : b.serial < 18446744073709551616) (hl : b.body.length ≤ 9223372036854775807) (hbad : mayB b = false) :
    Calls Try.prog 31 #[.agg (b.cells a cap)] w fun e w' => e = .returned (.tuple #[.slice none 0 0, .int .i64 2]) ∧ Below w.heap.size w w' := by
  have hm : ∀ W, Calls Try.prog 33 #[.agg (b.cells a cap)] W fun e w' => e = .returned (.bool false) ∧ Below W.heap.size W w' := fun W => by
    rw [← hbad]; exact may_calls b a cap W hs hl
  have Hbad := Lib.hid hbad
  clear hbad
  obtain ⟨s, k, f, la, body⟩ := b
  simp only [Blk.cells] at *
  have hB : Below w.heap.size w (w.alloc (.cells (Blk.cells ⟨s, k, f, la, body⟩ a cap) 43)) := (Below.refl _ _).alloc (Nat.le_refl _) _
  go_enter Try.func31, Try.ntmps31
  go_wp2_with (go_at_call 33; refine (hm _).mono ?_; rintro e w2 ⟨rfl, hB2⟩)
  go_ret2
  exact ⟨rfl, below_call hB (by simp) hB2⟩

set_option maxHeartbeats 1600000 in
def placeN (n : Int) : Int := if n < 1 then 0 else 35 % n
def placeE (n : Int) : Int := if n < 1 then 2 else 0
def manyI (n : Int) : Int := (manyN n.toNat : Nat)

set_option maxRecDepth 100000 in
theorem known23_calls (w : World) : Calls Try.prog 23 #[] w fun e w' => e = .returned (.bool true) ∧ Below w.heap.size w w' := by
  have h1 : ∀ n W, n ≤ 9223372036854775807 → Calls Try.prog 30 #[.int .u64 35, .int .i64 n] W fun e w' => e = .returned (.tuple #[.int .i64 (placeN n), .int .i64 (placeE n)]) ∧ W = w' := by
    intro n W hn
    by_cases h : n < 1
    · unfold placeN placeE
      rw [if_pos h, if_pos h]
      exact place_neg 35 n h W
    · unfold placeN placeE
      rw [if_neg h, if_neg h]
      obtain ⟨m, rfl⟩ := Int.eq_ofNat_of_zero_le (show 0 ≤ n by omega)
      exact place_pos 35 m (by decide) (by omega) (by omega) W
  have h3 : ∀ W, Calls Try.prog 31 #[.agg #[.int .u64 0, .int .u8 1, .bool true, .bool false, .slice none 0 0]] W fun e w' => e = .returned (.tuple #[.slice none 0 0, .int .i64 2]) ∧ Below W.heap.size W w' := fun W =>
    encode_bad ⟨0, 1, true, false, []⟩ none 0 W (by decide) (by decide) (by decide)
  have h4 : ∀ n W, 0 ≤ n → n ≤ 9223372036854775807 → Calls Try.prog 27 #[.int .i64 n] W fun e w' => e = .returned (.int .i64 (manyI n)) ∧ W = w' := by
    intro n W h0 h1
    obtain ⟨m, rfl⟩ := Int.eq_ofNat_of_zero_le h0
    exact many_calls m (by omega) W
  have h7 : ∀ W, Calls Try.prog 29 #[.int .u64 35] W fun e w' => e = .returned (.int .u64 32) ∧ W = w' := fun W => start_calls 35 (by decide) W
  have p1 : placeN 16 = 3 := by decide
  have p2 : placeE 16 = 0 := by decide
  have p3 : placeE 0 = 2 := by decide
  have p4 : manyI 0 = 1 := by decide
  have p5 : manyI 48 = 1 := by decide
  have p6 : manyI 49 = 2 := by decide
  go_enter Try.func23, Try.ntmps23
  go_wp2_with (first
    | (go_at_call 30; refine (h1 _ _ (by decide)).mono ?_; rintro e w2 ⟨rfl, rfl⟩)
    | (go_at_call 31; refine (h3 _).mono ?_; rintro e w3 ⟨rfl, hB3⟩)
    | (go_at_call 27; refine (h4 _ _ (by decide) (by decide)).mono ?_; rintro e w2 ⟨rfl, rfl⟩)
    | (go_at_call 29; refine (h7 _).mono ?_; rintro e w2 ⟨rfl, rfl⟩))
  go_ret
  exact ⟨rfl, hB3⟩

end Go.Proofs.Ytdlbjllgdikadaa

namespace Go.Proofs.Ytdlbjllgdikadaa
open Go.RowKit

theorem u64_of {n : Int} (h : (Lit.int .u64 n).wf = true) : ∃ x : Nat, n = (x : Int) ∧ x < 18446744073709551616 := by
  have hb : 0 ≤ n ∧ n ≤ 18446744073709551615 := by
    simp [Lit.wf, IntKind.min, IntKind.max, IntKind.signed, IntKind.bits] at h
    omega
  exact ⟨n.toNat, by omega, by omega⟩

theorem i64_of {n : Int} (h : (Lit.int .i64 n).wf = true) : n ≤ 9223372036854775807 := by
  simp [Lit.wf, IntKind.min, IntKind.max, IntKind.signed, IntKind.bits] at h
  omega

theorem start_eq (s : Nat) : ((s / 8 * 8 : Nat) : Int) = (s : Int) / 8 * 8 := by omega

/-- 'append([]byte{}, x...)' : a row of the call's own. -/
theorem fresh_bytes {w w1 : World} {v1 : Value} {p : List UInt8} (hown1 : OwnB w1 w.heap.size v1 ([] ++ p)) (hgr : (w.alloc (.cells #[] 5)).grownBy w1 (Value.slice (some ⟨w.heap.size, 0, none⟩) 0 0).ownBlock) :
    ∃ a c, v1 = .slice a p.length c ∧ IsBytes w1 a p ∧ p.length ≤ c ∧ (a = none → p.length = 0 ∧ c = 0) ∧ Below w.heap.size w w1 := by
  rw [List.nil_append] at hown1
  obtain ⟨ab, cb, rfl, h1, h2, _, _, h3⟩ := hown1.slice
  exact ⟨ab, cb, rfl, h1, h2, fun h => by obtain ⟨x, y⟩ := h3 h; exact ⟨by rw [x]; rfl, y⟩, ((Below.refl _ w).alloc (Nat.le_refl _) _).grown hgr (by simp) (fun k hk => by simp [Value.ownBlock] at hk; omega)⟩

set_option maxHeartbeats 1600000 in
set_option maxRecDepth 100000 in
theorem segmentSplits_walk (k : UInt8) (s : Nat) (hs : s < 18446744073709551616) (a : Option Addr) (rec : List UInt8) (cap : Nat) (n : Int) (hn63 : n ≤ 9223372036854775807) (w : World) (hcap : rec.length ≤ cap) (hno : a = none → rec = [] ∧ cap = 0) (hby : IsBytes w a rec) :
    Calls Try.prog 5 #[.int .u8 (k.toNat : Int), .int .u64 (s : Int), .slice a rec.length cap, .int .i64 n] w fun e w' => e = .returned (.bool true) ∧ Below w.heap.size w w' := by
  by_cases hbig : 2000 < rec.length
  · go_enter Try.func5, Try.ntmps5
    go_wp2_with (go_at_call 23; refine (known23_calls _).mono ?_; rintro e w1 ⟨rfl, hw1⟩)
    go_ret
    exact ⟨rfl, hw1⟩
  · have hno' : a = none → rec.length = 0 ∧ cap = 0 := fun h => by obtain ⟨h1, h2⟩ := hno h; exact ⟨by rw [h1]; rfl, h2⟩
    obtain ⟨E, hE⟩ : ∃ E, splitE k s rec = E := ⟨_, rfl⟩
    obtain ⟨m, hm⟩ : ∃ m, manyN rec.length = m := ⟨_, rfl⟩
    have hmle : m ≤ 2001 := by have := manyN_le rec.length; omega
    have hsp : ∀ W a2 c2, rec.length ≤ c2 → (a2 = none → rec.length = 0 ∧ c2 = 0) → IsBytes W a2 rec → Calls Try.prog 24 #[.int .u8 (k.toNat : Int), .int .u64 (s : Int), .slice a2 rec.length c2] W fun e W' => ∃ a3 n3 c3, e = .returned (.tuple #[.slice a3 n3 c3, .int .i64 (E : Nat)]) ∧ n3 = (splitL k s rec).length ∧ IsBs W' a3 (splitL k s rec) ∧ Below W.heap.size W W' := by
      intro W a2 c2 h1 h2 h3
      refine (split_calls k s hs a2 rec c2 h1 (by omega) W h2 h3).mono ?_
      rintro e W' ⟨v, rfl, hown, hb⟩
      obtain ⟨a3, c3, rfl, hbs, _⟩ := hown.slice
      exact ⟨a3, _, c3, by rw [hE], rfl, hbs, hb⟩
    have hrsp : ∀ W, Below w.heap.size w W → Calls Try.prog 25 #[.int .u8 (k.toNat : Int), .int .u64 (s : Int), .slice a rec.length cap] W fun e W' => ∃ a3 n3 c3, e = .returned (.tuple #[.slice a3 n3 c3, .int .i64 (E : Nat)]) ∧ n3 = (splitL k s rec).length ∧ IsBs W' a3 (splitL k s rec) ∧ Below W.heap.size W W' := by
      intro W hW
      refine (refsplit_calls k s hs a rec cap hcap (by omega) W hno' (hby.later hW)).mono ?_
      rintro e W' ⟨v, rfl, hown, hb⟩
      obtain ⟨a3, c3, rfl, hbs, _⟩ := hown.slice
      exact ⟨a3, _, c3, by rw [hE], rfl, hbs, hb⟩
    have hmany : ∀ W, Calls Try.prog 27 #[.int .i64 (rec.length : Int)] W fun e w' => e = .returned (.int .i64 (m : Nat)) ∧ W = w' := fun W => by rw [← hm]; exact many_calls _ (by omega) W
    have hrmany : ∀ W, Calls Try.prog 28 #[.int .i64 (rec.length : Int)] W fun e w' => e = .returned (.int .i64 (m : Nat)) ∧ W = w' := fun W => by rw [← hm]; exact refmany_calls _ (by omega) W
    have hstart : ∀ W, Calls Try.prog 29 #[.int .u64 (s : Int)] W fun e w' => e = .returned (.int .u64 ((s : Int) / 8 * 8)) ∧ W = w' := fun W => by rw [← start_eq]; exact start_calls s hs W
    have hlenL : (splitL k s rec).length ≤ 2001 := by
      unfold splitL
      split
      · rw [blkTo_length, hm]; exact hmle
      · simp
    obtain ⟨L, hL⟩ : ∃ L, splitL k s rec = L := ⟨_, rfl⟩
    rw [hL] at hsp hrsp hlenL
    clear hE hm hL
    by_cases hn : n < 1
    · have hplace : ∀ W, Calls Try.prog 30 #[.int .u64 (s : Int), .int .i64 n] W fun e w' => e = .returned (.tuple #[.int .i64 0, .int .i64 2]) ∧ W = w' := fun W => place_neg s n hn W
      go_enter Try.func5, Try.ntmps5
      go_wp2_with (first
        | (at_builtin; refine wpList_append_bytes rfl (.tmp 20) (.tmp 21) rfl w.heap.size (.slice (some ⟨w.heap.size, 0, none⟩) 0 0) [] rfl (OwnB.made w w.heap.size (Nat.le_refl _)) a rec.length cap rec rfl rfl hno' (hby.alloc _) (by simp; omega) (by simp) ?_; intro v1 w1 hown1 hgr1; have hall := fresh_bytes hown1 hgr1; clear hown1 hgr1; obtain ⟨a1, c1, rfl, hb1, hc1, hn1, hB1⟩ := hall)
        | (go_at_call 24; refine (hsp _ a1 c1 hc1 hn1 hb1).mono ?_; rintro e w2 ⟨a3, n3, c3, rfl, rfl, hbs, hB2⟩; have hB12 := below_call hB1 (Nat.le_refl _) hB2)
        | (go_at_call 25; refine (hrsp _ hB12).mono ?_; rintro e w3 ⟨a4, n4, c4, rfl, rfl, hbs', hB3⟩; have hB13 := below_call hB12 (Nat.le_refl _) hB3)
        | (go_at_call 26; refine (sameAll_calls L L a3 a4 c3 c4 _ (hbs.later hB3) hbs' (by omega) (by omega)).mono ?_; rintro e w4 ⟨q, rfl, hq, hB4⟩; obtain rfl := hq.2 rfl; have hB14 := below_call hB13 (Nat.le_refl _) hB4; have t1 := conv_text (((hb1.later hB2).later hB3).later hB4) (n := rec.length) (cap := c1) rfl; have t2 := conv_text (hby.later hB14) (n := rec.length) (cap := cap) rfl)
        | (go_at_call 27; refine (hmany _).mono ?_; rintro e w5 ⟨rfl, rfl⟩)
        | (go_at_call 28; refine (hrmany _).mono ?_; rintro e w5 ⟨rfl, rfl⟩)
        | (go_at_call 29; refine (hstart _).mono ?_; rintro e w5 ⟨rfl, rfl⟩)
        | (go_at_call 30; refine (hplace _).mono ?_; rintro e w5 ⟨rfl, rfl⟩)
        | (go_at_call 23; refine (known23_calls _).mono ?_; rintro e w6 ⟨rfl, hB6⟩))
      go_ret
      exact ⟨rfl, below_call hB14 (Nat.le_refl _) hB6⟩
    · obtain ⟨M, rfl⟩ := Int.eq_ofNat_of_zero_le (show 0 ≤ n by omega)
      have hplace : ∀ W, Calls Try.prog 30 #[.int .u64 (s : Int), .int .i64 (M : Int)] W fun e w' => e = .returned (.tuple #[.int .i64 ((s % M : Nat) : Int), .int .i64 0]) ∧ W = w' := fun W => place_pos s M hs (by omega) (by omega) W
      obtain ⟨p, hp⟩ : ∃ p, s % M = p := ⟨_, rfl⟩
      have hp1 : p < M := by rw [← hp]; exact Nat.mod_lt _ (by omega)
      have hp2 : p ≤ s := by rw [← hp]; exact Nat.mod_le _ _
      have hp3 : ((s : Int) - (p : Int)).tmod (M : Int) = 0 := by
        rw [Int.tmod_eq_emod_of_nonneg (by omega), ← hp]
        apply Int.emod_eq_zero_of_dvd
        rw [← Int.natCast_sub (Nat.mod_le _ _)]
        exact Int.natCast_dvd_natCast.2 (Nat.dvd_sub_mod s)
      rw [hp] at hplace
      clear hp
      go_enter Try.func5, Try.ntmps5
      go_wp2_with (first
        | (at_builtin; refine wpList_append_bytes rfl (.tmp 20) (.tmp 21) rfl w.heap.size (.slice (some ⟨w.heap.size, 0, none⟩) 0 0) [] rfl (OwnB.made w w.heap.size (Nat.le_refl _)) a rec.length cap rec rfl rfl hno' (hby.alloc _) (by simp; omega) (by simp) ?_; intro v1 w1 hown1 hgr1; have hall := fresh_bytes hown1 hgr1; clear hown1 hgr1; obtain ⟨a1, c1, rfl, hb1, hc1, hn1, hB1⟩ := hall)
        | (go_at_call 24; refine (hsp _ a1 c1 hc1 hn1 hb1).mono ?_; rintro e w2 ⟨a3, n3, c3, rfl, rfl, hbs, hB2⟩; have hB12 := below_call hB1 (Nat.le_refl _) hB2)
        | (go_at_call 25; refine (hrsp _ hB12).mono ?_; rintro e w3 ⟨a4, n4, c4, rfl, rfl, hbs', hB3⟩; have hB13 := below_call hB12 (Nat.le_refl _) hB3)
        | (go_at_call 26; refine (sameAll_calls L L a3 a4 c3 c4 _ (hbs.later hB3) hbs' (by omega) (by omega)).mono ?_; rintro e w4 ⟨q, rfl, hq, hB4⟩; obtain rfl := hq.2 rfl; have hB14 := below_call hB13 (Nat.le_refl _) hB4; have t1 := conv_text (((hb1.later hB2).later hB3).later hB4) (n := rec.length) (cap := c1) rfl; have t2 := conv_text (hby.later hB14) (n := rec.length) (cap := cap) rfl)
        | (go_at_call 27; refine (hmany _).mono ?_; rintro e w5 ⟨rfl, rfl⟩)
        | (go_at_call 28; refine (hrmany _).mono ?_; rintro e w5 ⟨rfl, rfl⟩)
        | (go_at_call 29; refine (hstart _).mono ?_; rintro e w5 ⟨rfl, rfl⟩)
        | (go_at_call 30; refine (hplace _).mono ?_; rintro e w5 ⟨rfl, rfl⟩)
        | (go_at_call 23; refine (known23_calls _).mono ?_; rintro e w6 ⟨rfl, hB6⟩))
      go_ret
      exact ⟨rfl, below_call hB14 (Nat.le_refl _) hB6⟩

end Go.Proofs.Ytdlbjllgdikadaa

namespace Go.Proofs.Ytdlbjllgdikadaa
open Go.RowKit CrcM

set_option maxHeartbeats 1000000 in
set_option maxRecDepth 100000 in
theorem refmay_calls (b : Blk) (a : Option Addr) (cap : Nat) (w : World) (hs : b.serial < 18446744073709551616) (hl : b.body.length ≤ 9223372036854775807) :
    Calls Try.prog 34 #[.agg (b.cells a cap)] w fun e w' => e = .returned (.bool (mayB b)) ∧ Below w.heap.size w w' := by
  obtain ⟨s, k, f, la, body⟩ := b
  simp only [Blk.cells] at *
  have hB : Below w.heap.size w (w.alloc (.cells (Blk.cells ⟨s, k, f, la, body⟩ a cap) 43)) := (Below.refl _ _).alloc (Nat.le_refl _) _
  have hkl := k.toNat_lt
  have Hk := Lib.hid (kindB_iff k)
  by_cases h1 : s ≤ 1099511627776
  · by_cases hk1 : 1 ≤ k.toNat
    · by_cases hk2 : k.toNat ≤ 2
      · have Hkt : Hid (kindB k = true) := Hk.out.2 ⟨hk1, hk2⟩
        by_cases h3 : body.length ≤ 48
        · cases la with
          | true =>
            go_enter Try.func34, Try.ntmps34
            go_wp2
            go_ret
            exact ⟨ret_bool (by simp [mayB, Hkt.out, h1, h3]), hB⟩
          | false =>
            by_cases h4 : body.length = 48
            · have e4 : ((body.length : Int) == 48) = true := by rw [beq_iff_eq]; omega
              have H4 := Lib.hid h4
              clear h4
              go_enter Try.func34, Try.ntmps34
              go_wp2
              go_ret
              exact ⟨ret_bool (by simp [mayB, Hkt.out, h1, H4.out]), hB⟩
            · have e4 : ((body.length : Int) == 48) = false := by rw [beq_eq_false_iff_ne]; omega
              go_enter Try.func34, Try.ntmps34
              go_wp2
              go_ret
              exact ⟨ret_bool (by simp [mayB, Hkt.out, h1, h4]), hB⟩
        · go_enter Try.func34, Try.ntmps34
          go_wp2
          go_ret
          exact ⟨ret_bool (by simp [mayB, h3]), hB⟩
      · have Hkt : Hid (kindB k = false) := by
          rw [← Bool.not_eq_true]; intro h; have := Hk.out.1 h; omega
        go_enter Try.func34, Try.ntmps34
        go_wp2
        go_ret
        exact ⟨ret_bool (by simp [mayB, Hkt.out]), hB⟩
    · have Hkt : Hid (kindB k = false) := by
        rw [← Bool.not_eq_true]; intro h; have := Hk.out.1 h; omega
      go_enter Try.func34, Try.ntmps34
      go_wp2
      go_ret
      exact ⟨ret_bool (by simp [mayB, Hkt.out]), hB⟩
  · go_enter Try.func34, Try.ntmps34
    go_wp2
    go_ret
    exact ⟨ret_bool (by simp [mayB, h1]), hB⟩

/-- The bytes of a block ahead of its sum. -/
def leB (s n : Nat) : List UInt8 := (List.range n).map fun i => UInt8.ofNat (s / 256 ^ i % 256)
def markN (b : Blk) : Nat := b.kind.toNat + (if b.first then 4 else 0) + (if b.last then 8 else 0)
def encB (b : Blk) : List UInt8 := leB b.serial 8 ++ [UInt8.ofNat (markN b), UInt8.ofNat b.body.length] ++ b.body ++ List.replicate (50 - b.body.length) 0
def sealB (b : Blk) : List UInt8 := encB b ++ crcB (sum (encB b))

theorem leB_succ (s n : Nat) : leB s (n + 1) = leB s n ++ [UInt8.ofNat (s / 256 ^ n % 256)] := by simp [leB, List.range_succ]
theorem leB_length (s n : Nat) : (leB s n).length = n := by simp [leB]
theorem encB_length (b : Blk) (h : b.body.length ≤ 48) : (encB b).length = 60 := by
  simp [encB, leB_length]; omega

end Go.Proofs.Ytdlbjllgdikadaa

namespace Go.Proofs.Ytdlbjllgdikadaa
open Go.RowKit CrcM

theorem boxAt {w W : World} {cs : Array Value} (h : Below (w.heap.size + 1) (w.alloc (.cells cs 43)) W) (q : Nat) (u : Value) (hu : cs[q]? = some u) : W.cell? ⟨w.heap.size, q, none⟩ = some u := by
  rw [h.cell (p := ⟨w.heap.size, q, none⟩) (Nat.lt_succ_self _), World.cell?_alloc_new, hu]

theorem two_lit (w : World) (x y : Int) (m n : Nat) (hx : x = ((m % 256 : Nat) : Int)) (hy : y = ((n % 256 : Nat) : Int)) : IsBytes (w.alloc (.cells #[.int .u8 x, .int .u8 y] 5)) (some ⟨w.heap.size, 0, none⟩) [UInt8.ofNat m, UInt8.ofNat n] :=
  IsBytes.made (by subst hx hy; simp [bvals, bval])

def sliceLen : Value → Nat
  | .slice _ n _ => n
  | _ => 0

def EncPost (b : Blk) (w : World) (e : Ending) (w' : World) : Prop :=
  ∃ v, e = .returned (.tuple #[v, .int .i64 0]) ∧ OwnB w' w.heap.size v (sealB b) ∧ Below w.heap.size w w'

set_option linter.unusedSimpArgs false in
set_option maxHeartbeats 4000000 in
set_option maxRecDepth 100000 in
theorem refencode_good (b : Blk) (a : Option Addr) (cap : Nat) (w : World) (hno : a = none → b.body.length = 0 ∧ cap = 0) (hby : IsBytes w a b.body) (hmay : mayB b = true) :
    Calls Try.prog 32 #[.agg (b.cells a cap)] w (EncPost b w) := by
  have hmm := hmay
  simp only [mayB, Bool.and_eq_true, decide_eq_true_eq, kindB_iff] at hmm
  obtain ⟨⟨⟨hs, hk1, hk2⟩, hl⟩, _⟩ := hmm
  have hm : ∀ W, Calls Try.prog 34 #[.agg (b.cells a cap)] W fun e w' => e = .returned (.bool true) ∧ Below W.heap.size W w' := fun W => by
    rw [← hmay]; exact refmay_calls b a cap W (by omega) (by omega)
  have Hmay := Lib.hid hmay
  have Hel := Lib.hid (encB_length b hl)
  clear hmay
  obtain ⟨s, k, f, la, body⟩ := b
  simp only [Blk.cells] at *
  obtain ⟨g, hg⟩ : ∃ g, g = w.heap.size + 1 := ⟨_, rfl⟩
  have hB : Below g (w.alloc (.cells (Blk.cells ⟨s, k, f, la, body⟩ a cap) 43)) (w.alloc (.cells (Blk.cells ⟨s, k, f, la, body⟩ a cap) 43)) := Below.refl _ _
  have Hg := Lib.hid hg
  simp only [Blk.cells] at hB
  clear hg
  go_enter Try.func32, Try.ntmps32
  go_wp2_with (go_at_call 34; refine (hm _).mono ?_; rintro e w2 ⟨rfl, hB2⟩; have hB3 := below_call hB (by have := Hg.out; simp; omega) hB2; have p0 := boxAt (Hg.out ▸ hB3) 0 _ rfl)
  go_loopw [4, 5, 6] (fun v x i wr => ∃ j : Nat, j ≤ 8 ∧ i = .int .i64 j ∧ x = .int .u64 ((s / 256 ^ j : Nat) : Int) ∧ OwnB wr g v (leB s j) ∧ Below g (w.alloc (.cells #[.int .u64 (s : Int), .int .u8 (k.toNat : Int), .bool f, .bool la, .slice a body.length cap] 43)) wr) (fun _ _ i _ => 8 - (intOf i).toNat)
  case atStart => exact ⟨0, Nat.zero_le _, rfl, by simp, OwnB.nil _ _, hB3⟩
  case round =>
    obtain ⟨j, hj, rfl, rfl, hown, hbel⟩ := hrel
    clear hB3 hB2 hB p0
    have hsz := hbel.size
    rw [World.size_alloc] at hsz
    have hgs : g ≤ wr.heap.size := by have := Hg.out; omega
    by_cases hlt : j < 8
    · have ht := leB_succ s j
      have hd : s / 256 ^ (j + 1) = s / 256 ^ j / 256 := by rw [Nat.pow_succ, Nat.div_div_eq_div_mul]
      have hcl : s / 256 ^ j ≤ 1099511627776 := Nat.le_trans (Nat.div_le_self _ _) hs
      obtain ⟨c, hc⟩ : ∃ c, c = s / 256 ^ j := ⟨_, rfl⟩
      rw [← hc] at ht hd hcl ⊢
      clear hc
      have Ht := Lib.hid ht
      have Hd := Lib.hid hd
      clear ht hd
      have hll : (leB s j).length ≤ 8 := by rw [leB_length]; exact hj
      go_wp2_with (at_builtin; refine wpList_append_bytes rfl (.tmp 17) (.tmp 21) rfl g _ (leB s j) rfl (hown.later ((Below.refl _ _).alloc (Nat.le_refl _) _)) (some ⟨wr.heap.size, 0, none⟩) 1 1 [UInt8.ofNat (c % 256)] rfl rfl (fun h => nomatch h) (byte_lit wr c) (by simp; omega) (by simp; omega) ?_; intro v3 w3 hown3 hgr3)
      go_roundw
      case rel =>
        refine ⟨j + 1, by omega, by go_num, congrArg (Value.int .u64) (by rw [Hd.out]; simp), by rw [Ht.out]; exact hown3, ?_⟩
        exact (hbel.alloc (by omega) _).grown hgr3 (by simp; omega) hown.blk
      case measure => simp [intOf]; omega
    · obtain rfl : j = 8 := by omega
      have p1 := boxAt (Hg.out ▸ hbel) 1 _ rfl
      have p2 := boxAt (Hg.out ▸ hbel) 2 _ rfl
      have p3 := boxAt (Hg.out ▸ hbel) 3 _ rfl
      have p4 := boxAt (Hg.out ▸ hbel) 4 _ rfl
      have hbody : ∀ W, Below g wr W → IsBytes W a body := fun W hW => by
        have h1 : Below w.heap.size w wr := ((Below.refl _ w).alloc (Nat.le_refl _) _).trans (hbel.mono (by have := Hg.out; omega))
        exact hby.later (h1.trans (hW.mono (by have := Hg.out; omega)))
      obtain ⟨M, hM⟩ : ∃ M, M = markN ⟨s, k, f, la, body⟩ := ⟨_, rfl⟩
      have hMi : (M : Int) = (k.toNat : Int) + (if f then 4 else 0) + (if la then 8 else 0) := by rw [hM]; unfold markN; cases f <;> cases la <;> simp
      have HM := Lib.hid hM
      clear hM
      have hgs' : ∀ {W : World}, wr.heap.size ≤ W.heap.size → g ≤ W.heap.size := fun h => Nat.le_trans hgs h
      have hP : (leB s 8).length = 8 := leB_length s 8
      cases f <;> cases la
      all_goals
        simp only [Bool.false_eq_true, if_false, if_true, Int.add_zero] at hMi
        go_wp2_with (first
          | (at_builtin; refine wpList_append_bytes rfl (.tmp 35) (.tmp 41) rfl g _ (leB s 8) rfl (hown.later ((Below.refl _ _).alloc (Nat.le_refl _) _)) (some ⟨wr.heap.size, 0, none⟩) 2 2 [UInt8.ofNat M, UInt8.ofNat body.length] rfl rfl (fun h => nomatch h) (two_lit wr _ _ M body.length (by omega) (by omega)) (by simp; omega) (by simp; omega) ?_; intro v3 w3 hown3 hgr3; have hB3 := ((Below.refl g wr).alloc hgs _).grown hgr3 (by simp; omega) hown.blk; have hs3 := hB3.size; have r4 := (hB3.cell (p := ⟨w.heap.size, 4, none⟩) (by have := Hg.out; simp; omega)).trans p4)
          | (at_builtin; refine wpList_append_bytes rfl (.tmp 43) (.tmp 45) rfl g _ (leB s 8 ++ [UInt8.ofNat M, UInt8.ofNat body.length]) rfl hown3 a body.length cap body rfl rfl hno (hbody _ hB3) (by simp; omega) (by omega) ?_; intro v4 w4 hown4 hgr4))
        have hB4 := hB3.grown hgr4 (hgs' hs3) hown3.blk
        obtain ⟨P, hPd⟩ : ∃ P, P = leB s 8 ++ [UInt8.ofNat M, UInt8.ofNat body.length] ++ body := ⟨_, rfl⟩
        have hPl : P.length = 10 + body.length := by rw [hPd]; simp; omega
        rw [← hPd] at hown4
        have HPd := Lib.hid hPd
        clear hPd hown3 hown hgr3 hgr4
        obtain ⟨wo, rfl⟩ : ∃ wo : World, wo = wr := ⟨_, rfl⟩
        go_loopw [4] (fun v wr => ∃ q, q ≤ 50 - body.length ∧ OwnB wr g v (P ++ List.replicate q 0) ∧ Below g wo wr) (fun v _ => 60 - sliceLen v)
        · exact ⟨0, Nat.zero_le _, by simpa using hown4, hB4⟩
        · obtain ⟨q, hq, hown5, hbel5⟩ := hrel
          have hs5 := hbel5.size
          have hgs5 : g ≤ wr.heap.size := Nat.le_trans hgs hs5
          obtain ⟨a5, c5, rfl, hb5, hc5, _, _, hn5⟩ := hown5.slice
          have hl5 : (P ++ List.replicate q (0 : UInt8)).length = 10 + body.length + q := by simp; omega
          have hsn : ∀ u, P ++ List.replicate (q + 1) (0 : UInt8) = (P ++ List.replicate q (0 : UInt8)) ++ [u] ∨ u ≠ 0 := fun u => by
            by_cases h : u = 0
            · left; rw [h, List.replicate_succ', List.append_assoc]
            · exact .inr h
          have hend : q = 50 - body.length → P ++ List.replicate q (0 : UInt8) = encB ⟨s, k, _, _, body⟩ := fun h => by rw [h, HPd.out, HM.out]; rfl
          obtain ⟨R, hR⟩ : ∃ R, R = P ++ List.replicate q (0 : UInt8) := ⟨_, rfl⟩
          rw [← hR] at hown5 hb5 hc5 hn5 hl5 hsn hend ⊢
          clear hR
          obtain ⟨n5, hn5e⟩ : ∃ n5, n5 = R.length := ⟨_, rfl⟩
          rw [← hn5e] at hown5 hl5 hc5 ⊢
          have Hsn := Lib.hid hsn
          have Hend := Lib.hid hend
          have Hn5 := Lib.hid hn5e
          have hRl : R.length ≤ 60 := by omega
          clear hsn hend hn5e
          by_cases hlt : q < 50 - body.length
          · have hlt5 : n5 < 60 := by omega
            have Hl5 := Lib.hid hl5
            clear hl5
            go_wp2_with (at_builtin; refine wpList_append_bytes rfl (.tmp 50) (.tmp 51) rfl g _ R rfl (hown5.later ((Below.refl _ _).alloc (Nat.le_refl _) _)) (some ⟨wr.heap.size, 0, none⟩) 1 1 [0] rfl rfl (fun h => nomatch h) (IsBytes.made rfl) (by simp; omega) (by simp; omega) ?_; intro v6 w6 hown6 hgr6; have hv6 : sliceLen v6 = n5 + 1 := (by obtain ⟨_, _, rfl, _⟩ := hown6.slice; simp [sliceLen, ← Hn5.out]))
            go_roundw
            · refine ⟨q + 1, by omega, ?_, (hbel5.alloc hgs5 _).grown hgr6 (by simp; omega) hown5.blk⟩
              rcases Hsn.out 0 with h | h
              · rw [h]; exact hown6
              · exact absurd rfl h
            · rw [hv6]; simp [sliceLen]; omega
          · have hqe : q = 50 - body.length := by omega
            have hap := refappend_calls a5 R c5 wr (by omega) (fun h => by obtain ⟨x, y⟩ := hn5 h; exact ⟨by rw [x]; rfl, y⟩) hb5
            rw [← Hn5.out] at hap
            have Hq := Lib.hid hqe
            have hn60 : 60 ≤ n5 := by omega
            clear hqe hl5
            go_wp2_with (go_at_call 20; refine hap.mono ?_; rintro e w6 ⟨v6, rfl, hown6, hB6⟩)
            go_ret2
            refine ⟨_, rfl, ?_, ?_⟩
            · unfold sealB
              rw [← Hend.out Hq.out]
              exact hown6.mono (by have := Hg.out; omega)
            · have h1 : Below w.heap.size w wo := ((Below.refl _ w).alloc (Nat.le_refl _) _).trans (hbel.mono (by have := Hg.out; omega))
              have h2 : Below w.heap.size w wr := h1.trans (hbel5.mono (by have := Hg.out; omega))
              exact below_call h2 (Nat.le_refl _) (hB6.mono (by have := Hg.out; omega))

end Go.Proofs.Ytdlbjllgdikadaa
