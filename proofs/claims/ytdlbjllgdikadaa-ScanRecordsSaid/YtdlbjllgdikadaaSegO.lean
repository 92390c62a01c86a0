/- The law SegmentBack walked. -/
import Derived.Test.YtdlbjllgdikadaaSegN
namespace Go.Proofs.Ytdlbjllgdikadaa
open Go.RowKit CrcM

theorem IsBs.at {w : World} {a : Option Addr} {l : List Blk} (h : IsBs w a l) (j : Nat) (hj : j < l.length) :
    ∃ b off ab cap, a = some ⟨b, off, none⟩ ∧
      w.cell? ⟨b, off + j * 5, none⟩ = some (.int .u64 (l[j].serial : Int)) ∧
      w.cell? ⟨b, off + j * 5 + 1, none⟩ = some (.int .u8 (l[j].kind.toNat : Int)) ∧
      w.cell? ⟨b, off + j * 5 + 2, none⟩ = some (.bool l[j].first) ∧
      w.cell? ⟨b, off + j * 5 + 3, none⟩ = some (.bool l[j].last) ∧
      w.cell? ⟨b, off + j * 5 + 4, none⟩ = some (.slice ab l[j].body.length cap) ∧
      IsBytes w ab l[j].body ∧ l[j].body.length ≤ cap ∧ (ab = none → l[j].body.length = 0 ∧ cap = 0) := by
  obtain ⟨b, off, ab, cap, e, hc, hby, hle, hno⟩ := h j hj
  have key : ∀ q u, ((l[j]).cells ab cap)[q]? = some u → w.cell? ⟨b, off + j * 5 + q, none⟩ = some u := by
    intro q u hu
    have h1 := hc q u hu
    rw [Nat.mul_comm] at h1
    exact h1
  exact ⟨b, off, ab, cap, e, key 0 _ rfl, key 1 _ rfl, key 2 _ rfl, key 3 _ rfl, key 4 _ rfl, hby, hle, fun e => by obtain ⟨x, y⟩ := hno e; exact ⟨by rw [x]; rfl, y⟩⟩

theorem part_len (rec : List UInt8) (j : Nat) : (partB rec j).length = min 48 (rec.length - 48 * j) := by
  rw [partB, List.length_take, List.length_drop]

theorem take_part (rec : List UInt8) (j : Nat) : rec.take (48 * (j + 1)) = rec.take (48 * j) ++ partB rec j := by
  rw [Nat.mul_add, Nat.mul_one, List.take_add, partB]

theorem blk_may (k : UInt8) (s : Nat) (rec : List UInt8) (hk : kindB k = true) (hs : s + rec.length < 1099511627776) (j : Nat) (hj : j < manyN rec.length) : mayB (blkAt k s (manyN rec.length) rec j) = true := by
  have hm := manyN_le rec.length
  have hl := part_len rec j
  have h1 : (decide (s + j ≤ 1099511627776)) = true := by rw [decide_eq_true_iff]; omega
  have h2 : (decide ((partB rec j).length ≤ 48)) = true := by rw [decide_eq_true_iff]; omega
  have h3 : ((j + 1 == manyN rec.length) || (partB rec j).length == 48) = true := by
    by_cases h : j + 1 = manyN rec.length
    · simp [h]
    · have : (partB rec j).length = 48 := by
        unfold manyN at hj h
        split at hj <;> split at h <;> omega
      simp [this]
  show (decide (s + j ≤ 1099511627776) && kindB k && decide ((partB rec j).length ≤ 48) && ((j + 1 == manyN rec.length) || (partB rec j).length == 48)) = true
  rw [h1, hk, h2, h3]; rfl

/-- A block with one byte of it another one. -/
theorem dec_one (x : Blk) (hm : mayB x = true) (q : Nat) (hq : q < (sealB x).length) (by_ : UInt8) :
    decE ((sealB x).set q ((sealB x)[q] ^^^ by_)) = if by_ = 0 then 0 else 6 := by
  by_cases h : by_ = 0
  · rw [if_pos h, h, UInt8.xor_zero, List.set_getElem_self]
    exact (dec_seal x hm).1
  · rw [if_neg h]
    have hl : (sealB x).length = 64 := by
      have hmm := hm
      simp only [mayB, Bool.and_eq_true, decide_eq_true_eq] at hmm
      exact seal_length x hmm.1.2
    have he := ends_one' (encB x) (sealB x) rfl q hq ((sealB x)[q] ^^^ by_)
    have hne : ((sealB x)[q] ^^^ by_ == (sealB x)[q]) = false := by
      rw [beq_eq_false_iff_ne]
      intro e
      apply h
      have := congrArg (fun t => (sealB x)[q] ^^^ t) e
      simpa [← UInt8.xor_assoc] using this
    rw [hne] at he
    unfold decE
    rw [List.length_set, if_pos hl, he]
    rfl

theorem str_app (a b : List UInt8) : (⟨a.toArray⟩ : ByteArray) ++ (⟨b.toArray⟩ : ByteArray) = ⟨(a ++ b).toArray⟩ := by
  apply ByteArray.ext
  simp [ByteArray.data_append]

set_option linter.unusedSimpArgs false in
set_option maxHeartbeats 4000000 in
set_option maxRecDepth 100000 in
theorem segmentBack_walk (ck : Bool) (s : Nat) (hs : s < 18446744073709551616) (a : Option Addr) (rec : List UInt8) (cap : Nat) (blk at_ : Int) (by_ : UInt8) (w : World) (hcap : rec.length ≤ cap) (hno : a = none → rec = [] ∧ cap = 0) (hby : IsBytes w a rec) :
    Calls Try.prog 7 #[.bool ck, .int .u64 (s : Int), .slice a rec.length cap, .int .i64 blk, .int .i64 at_, .int .u8 (by_.toNat : Int)] w fun e w' => e = .returned (.bool true) ∧ Below w.heap.size w w' := by
  by_cases hbig : 600 < rec.length ∨ 549755813888 < s
  · by_cases hb1 : 600 < rec.length
    · go_enter Try.func7, Try.ntmps7
      go_wp2_with (go_at_call 23; refine (known23_calls _).mono ?_; rintro e w1 ⟨rfl, hw1⟩)
      go_ret
      exact ⟨rfl, hw1⟩
    · have hb2 : 549755813888 < s := by omega
      go_enter Try.func7, Try.ntmps7
      go_wp2_with (go_at_call 23; refine (known23_calls _).mono ?_; rintro e w1 ⟨rfl, hw1⟩)
      go_ret
      exact ⟨rfl, hw1⟩
  · have h600 : rec.length ≤ 600 := by omega
    have hs39 : s ≤ 549755813888 := by omega
    have hno' : a = none → rec.length = 0 ∧ cap = 0 := fun e => by obtain ⟨h1, h2⟩ := hno e; exact ⟨by rw [h1]; rfl, h2⟩
    clear hbig
    obtain ⟨k, hk⟩ : ∃ k : UInt8, k = if ck then 2 else 1 := ⟨_, rfl⟩
    have hkB : kindB k = true := by rw [hk]; cases ck <;> rfl
    obtain ⟨m, hm⟩ : ∃ m, m = manyN rec.length := ⟨_, rfl⟩
    have hm1 : 1 ≤ m := hm ▸ manyN_pos _
    have hm2 : m ≤ 601 := by have := manyN_le rec.length; omega
    have hm0 : ((m : Int) == 0) = false := by rw [beq_eq_false_iff_ne]; omega
    have hE : splitE k s rec = 0 := by
      have h1 : mayS k s rec = true := by simp [mayS, hkB]; omega
      simp [splitE, h1]; omega
    have hL : splitL k s rec = blkTo k s m rec m := by simp [splitL, hE, ← hm]
    have h24 : Calls Try.prog 24 #[.int .u8 (k.toNat : Int), .int .u64 (s : Int), .slice a rec.length cap] w fun e w' => ∃ a3 c3, e = .returned (.tuple #[.slice a3 m c3, .int .i64 0]) ∧ IsBs w' a3 (blkTo k s m rec m) ∧ Below w.heap.size w w' := by
      refine (split_calls k s hs a rec cap hcap (by omega) w hno' hby).mono ?_
      rintro e w' ⟨v, rfl, hown, hB⟩
      rw [hL] at hown
      obtain ⟨a3, c3, rfl, h1, _⟩ := hown.slice
      rw [blkTo_length] 
      exact ⟨a3, c3, by rw [hE]; rfl, h1, hB⟩
    have hmany : ∀ W, Calls Try.prog 27 #[.int .i64 (rec.length : Int)] W fun e w' => e = .returned (.int .i64 (m : Nat)) ∧ W = w' := fun W => by rw [hm]; exact many_calls _ (by omega) W
    have hmayB : ∀ j, j < m → mayB (blkAt k s m rec j) = true := fun j hj => by
      rw [hm] at hj ⊢
      exact blk_may k s rec hkB (by omega) j hj
    have hall : rec.take (48 * m) = rec := by
      apply List.take_of_length_le
      rw [hm]; unfold manyN; split <;> omega
    have Hall := Lib.hid hall
    have Hmay := Lib.hid hmayB
    have Hm := Lib.hid hm
    have Hk := Lib.hid hk
    clear hE hL hkB hall hmayB hm
    go_enter Try.func7, Try.ntmps7
    go_upto_if 35 with fail
    go_cut [13] from 27 to 35 (fun t wc => t = .int .u8 (k.toNat : Int) ∧ wc = w)
    case first =>
      cases ck
      · go_wp2
        go_meet
        exact ⟨by rw [Hk.out]; rfl, rfl⟩
      · go_wp2
        go_meet
        exact ⟨by rw [Hk.out]; rfl, rfl⟩
    case rest =>
      obtain ⟨rfl, rfl⟩ := hcut
      clear hk
      go_wp2_with (first
        | (go_at_call 24; refine h24.mono ?_; rintro e w1 ⟨a3, c3, rfl, hbs, hB1⟩)
        | (go_at_call 27; refine (hmany _).mono ?_; rintro e w2 ⟨rfl, rfl⟩))
      clear h24 hmany
      have hLn : (blkTo k s m rec m).length = m := blkTo_length _ _ _ _ _
      go_loopw [16, 60] (fun t i wr => ∃ j : Nat, j ≤ m ∧ i = .int .i64 j ∧ t = .string ⟨(rec.take (48 * j)).toArray⟩ ∧ IsBs wr a3 (blkTo k s m rec m) ∧ Below wc.heap.size wc wr) (fun _ i _ => m - (intOf i).toNat)
      case atStart => exact ⟨0, Nat.zero_le _, rfl, rfl, hbs, hB1⟩
      case round =>
        clear hbs hB1
        obtain ⟨j, hj, rfl, rfl, hbs, hB⟩ := hrel
        by_cases hlt : j < m
        · obtain ⟨b, off, ab, cb, rfl, q0, q1, q2, q3, q4, hbb, hlb, hnb⟩ := hbs.at j (by rw [hLn]; exact hlt)
          have hget : (blkTo k s m rec m)[j]'(by rw [hLn]; exact hlt) = blkAt k s m rec j := by simp [blkTo]
          rw [hget] at q0 q1 q2 q3 q4 hbb hlb hnb
          obtain ⟨x, hx⟩ : ∃ x, x = blkAt k s m rec j := ⟨_, rfl⟩
          have hma : mayB x = true := by rw [hx]; exact Hmay.out j hlt
          have hx0 : (x.serial : Int) = (s : Int) + (j : Int) := by rw [hx]; simp [blkAt]
          have hx1 : x.kind = k := by rw [hx]; rfl
          have hx2 : x.first = ((j : Int) == 0) := by rw [hx, Bool.eq_iff_iff]; simp [blkAt]
          have hx3 : x.last = ((j : Int) == (m : Int) - 1) := by rw [hx, Bool.eq_iff_iff]; simp [blkAt]; omega
          have hxb : rec.take (48 * (j + 1)) = rec.take (48 * j) ++ x.body := by rw [take_part, hx]; rfl
          obtain ⟨d1, d2⟩ := dec_seal x hma
          have h35 : ∀ W a7 c7, (sealB x).length ≤ c7 → IsBytes W a7 (sealB x) → Calls Try.prog 35 #[.slice a7 (sealB x).length c7] W fun e w' => ∃ a9 c9, e = .returned (.tuple #[.agg (x.cells a9 c9), .int .i64 0]) ∧ OwnB w' W.heap.size (.slice a9 x.body.length c9) x.body ∧ Below W.heap.size W w' := fun W a7 c7 h1 h2 => by
            refine (decode_calls a7 (sealB x) c7 W h1 h2).mono ?_
            rintro e w' ⟨a9, c9, rfl, h3, h4⟩
            rw [d1, d2]
            rw [d2] at h3
            exact ⟨a9, c9, rfl, h3, h4⟩
          rw [← hx] at q0 q1 q2 q3 q4 hbb hlb hnb
          have hb48 : x.body.length ≤ 48 := by
            have hmm := hma
            simp only [mayB, Bool.and_eq_true, decide_eq_true_eq] at hmm
            exact hmm.1.2
          have hlen : ¬ 9223372036854775807 < min (48 * j) rec.length + x.body.length := by omega
          have Hx0 := Lib.hid hx0
          have Hx1 := Lib.hid hx1
          have Hx2 := Lib.hid hx2
          have Hx3 := Lib.hid hx3
          have Hxb := Lib.hid hxb
          have Hma := Lib.hid hma
          clear hget hx hx0 hx1 hx2 hx3 hxb hma d1 d2
          go_wp2_with (first
            | (refine wpList_store_blk rfl (.tmp 18) (.tmp 64) rfl wr.heap.size noneB x none ab 0 cb rfl rfl (heap_alloc_new _ _) ?_; intro w6 hX6 hg6; have hB06 : Below wr.heap.size wr w6 := ((Below.refl _ wr).alloc (Nat.le_refl _) _).grown hg6 (by simp) (fun k hk => by cases hk; exact Nat.le_refl _); clear hg6)
            | (refine wpList_load_blk rfl (.tmp 18) rfl wr.heap.size x ab cb rfl hX6 ?_)
            | (go_at_call 31; refine (encode_good x ab cb _ hlb hnb (hbb.later hB06) Hma.out).mono ?_; rintro e w7 ⟨v7, rfl, hown7, hB7⟩; obtain ⟨a7, c7, rfl, hs7⟩ := hown7.slice; have hB07 := below_call hB06 (Nat.le_refl _) hB7)
            | (go_at_call 35; refine (h35 _ a7 c7 hs7.2.1 hs7.1).mono ?_; rintro e w8 ⟨a9, c9, rfl, hown8, hB8⟩; have hB08 := below_call hB07 (Nat.le_refl _) hB8)
            | (refine wpList_store_blk rfl (.tmp 21) (.tmp 73) rfl w8.heap.size noneB x none a9 0 c9 rfl rfl (heap_alloc_new _ _) ?_; intro w9 hY9 hg9; have hB89 : Below w8.heap.size w8 w9 := ((Below.refl _ w8).alloc (Nat.le_refl _) _).grown hg9 (by simp) (fun k hk => by cases hk; exact Nat.le_refl _); clear hg9; have hB09 := below_call hB08 (Nat.le_refl _) hB89; have hown9 := hown8.later hB89; have t9 := conv_text hown9.bytes (n := x.body.length) (cap := c9) rfl; have Y0 : w9.cell? ⟨w8.heap.size, 0, none⟩ = some (.int .u64 ((s : Int) + (j : Int))) := (by rw [← Hx0.out]; exact hY9.cell 0 _ rfl); have Y1 : w9.cell? ⟨w8.heap.size, 1, none⟩ = some (.int .u8 (k.toNat : Int)) := (by rw [← Hx1.out]; exact hY9.cell 1 _ rfl); have Y2 : w9.cell? ⟨w8.heap.size, 2, none⟩ = some (.bool ((j : Int) == 0)) := (by rw [← Hx2.out]; exact hY9.cell 2 _ rfl); have Y3 : w9.cell? ⟨w8.heap.size, 3, none⟩ = some (.bool ((j : Int) == (m : Int) - 1)) := (by rw [← Hx3.out]; exact hY9.cell 3 _ rfl); have Y4 : w9.cell? ⟨w8.heap.size, 4, none⟩ = some (.slice a9 x.body.length c9) := hY9.cell 4 _ rfl))
          go_roundw
          case rel =>
            refine ⟨j + 1, by omega, by go_num, ?_, hbs.later hB09, below_call hB (Nat.le_refl _) hB09⟩
            rw [str_app, Hxb.out]
          case measure => simp [intOf]; omega
        · obtain rfl : j = m := by omega
          obtain ⟨q, hix, hq⟩ := idx_mod blk (j : Int) j rfl (by omega)
          have hget : ∀ h, (blkTo k s j rec j)[q]'h = blkAt k s j rec q := fun h => by simp [blkTo]
          obtain ⟨b, off, ab, cb, rfl, q0, q1, q2, q3, q4, hbb, hlb, hnb⟩ := hbs.at q (by rw [hLn]; exact hq)
          rw [hget] at q0 q1 q2 q3 q4 hbb hlb hnb
          obtain ⟨x, hx⟩ : ∃ x, x = blkAt k s j rec q := ⟨_, rfl⟩
          have hma : mayB x = true := by rw [hx]; exact Hmay.out q hq
          rw [← hx] at q0 q1 q2 q3 q4 hbb hlb hnb
          obtain ⟨T, hT⟩ : ∃ T, T = sealB x := ⟨_, rfl⟩
          have hT64 : T.length = 64 := by
            rw [hT]
            have hmm := hma
            simp only [mayB, Bool.and_eq_true, decide_eq_true_eq] at hmm
            exact seal_length x hmm.1.2
          obtain ⟨p, hip, hp⟩ := idx_mod at_ 64 64 rfl (by decide)
          obtain ⟨y, hy⟩ : ∃ y, y = T[p]'(by rw [hT64]; exact hp) := ⟨_, rfl⟩
          have hd1 := dec_one x hma p (by rw [← hT, hT64]; exact hp) by_
          have hT2 : T.set p (y ^^^ by_) = (sealB x).set p ((sealB x)[p]'(by rw [← hT, hT64]; exact hp) ^^^ by_) := by
            subst hT; rw [hy]
          rw [← hT2] at hd1
          have hle : Below wr.heap.size wr wr := Below.refl _ _
          have h31 : Calls Try.prog 31 #[.agg (x.cells ab cb)] wr fun e w' => ∃ g c, e = .returned (.tuple #[.slice (some ⟨g, 0, none⟩) 64 c, .int .i64 0]) ∧ OwnB w' wr.heap.size (.slice (some ⟨g, 0, none⟩) 64 c) T ∧ wr.heap.size ≤ g ∧ Below wr.heap.size wr w' := by
            refine (encode_good x ab cb wr hlb hnb hbb hma).mono ?_
            rintro e w' ⟨v, rfl, h1, h2⟩
            rw [← hT] at h1
            obtain ⟨a7, c7, rfl, h3, _, _, h5, h6⟩ := h1.slice
            rw [hT64] at h1
            cases a7 with
            | none =>
              have := (h6 rfl).1
              rw [this] at hT64
              cases hT64
            | some ad =>
              obtain ⟨g, rfl, hg1, _⟩ := h5 _ rfl
              exact ⟨g, c7, by rw [hT64], h1, hg1, h2⟩
          have hxor : bits .xor .u8 (y.toNat : Int) (by_.toNat : Int) = ((y ^^^ by_).toNat : Int) := by
            rw [u8_xor_nat _ _ y.toNat_lt by_.toNat_lt]
            simp
          obtain ⟨z, hz⟩ : ∃ z, z = y ^^^ by_ := ⟨_, rfl⟩
          rw [← hz] at hd1 hxor
          have tr := conv_text (hby.later hB) (n := rec.length) (cap := cap) rfl
          have tr2 := Hall.out
          have hb0 : ((by_.toNat : Int) == 0) = (by_ == 0) := by
            rw [Bool.eq_iff_iff, beq_iff_eq, beq_iff_eq]
            exact ⟨fun h => UInt8.toNat.inj (by simp; omega), fun h => by rw [h]; rfl⟩
          have HT64 := Lib.hid hT64
          have hyo : ∀ h, T[p]'h = y := fun h => hy.symm
          have Hy := Lib.hid hyo
          clear hbs hx hma hT hT2 hz hy hle hT64 hget hyo
          go_upto_region 23 with (first
            | (go_at_call 31; refine h31.mono ?_; rintro e w6 ⟨g, c7, rfl, hown6, hg6, hB6⟩; have pc : w6.cell? ⟨g, p, none⟩ = some (.int .u8 (y.toNat : Int)) := (by have h := hown6.bytes.cell p (by rw [HT64.out]; exact hp); rw [Nat.zero_add, Hy.out] at h; exact h); have pf := hown6.free HT64.out.symm p))
          have hst := hown6.stored HT64.out.symm p z
          refine over_world (R := fun W => IsBytes W (some ⟨g, 0, none⟩) (T.set p z) ∧ Below wr.heap.size wr W) ⟨hst.bytes, hB6.setCell (p := ⟨g, p, none⟩) hg6 _⟩ ?_
          rintro w7 ⟨hb7, hB7⟩
          have hle7 : 64 ≤ c7 := by
            obtain ⟨_, _, e, _, h2, _⟩ := hown6.slice
            injection e with e1 e2 e3
            omega
          have hl7 : (T.set p z).length = 64 := by rw [List.length_set]; exact HT64.out
          have h35 := decode_calls (some ⟨g, 0, none⟩) (T.set p z) c7 w7 (by rw [hl7]; exact hle7) hb7
          rw [hl7] at h35
          have hp35 : ∀ e w', DecPost (T.set p z) w7 e w' → ∃ v a9 c9, e = .returned (.tuple #[.agg ((v : Blk).cells a9 c9), .int .i64 ((if by_ = 0 then 0 else 6 : Nat) : Int)]) ∧ Below w7.heap.size w7 w' := by
            rintro e w' ⟨a9, c9, rfl, _, h2⟩
            rw [hd1]
            exact ⟨_, a9, c9, rfl, h2⟩
          have Hp35 := Lib.hid hp35
          have hB7w := below_call hB (Nat.le_refl _) hB7
          clear hp35 hl7 hd1 hb7 hst hown6 pc pf
          by_cases h0 : by_ = 0
          · subst h0
            go_wp2_with (first
              | (go_at_call 35; refine h35.mono ?_; rintro e w8 hq; obtain ⟨v8, a9, c9, rfl, hB8⟩ := Hp35.out _ _ hq; clear hq)
              | (refine wpList_store_blk rfl (.tmp 25) (.tmp 153) rfl w8.heap.size noneB v8 none a9 0 c9 rfl rfl (heap_alloc_new _ _) ?_; intro w9 hY9 hg9; have hB89 : Below w8.heap.size w8 w9 := ((Below.refl _ w8).alloc (Nat.le_refl _) _).grown hg9 (by simp) (fun k hk => by cases hk; exact Nat.le_refl _); clear hg9; have hB9 := below_call (below_call hB7w (Nat.le_refl _) hB8) (Nat.le_refl _) hB89)
              | (go_at_call 23; refine (known23_calls _).mono ?_; rintro e w10 ⟨rfl, hB10⟩))
            go_ret
            exact ⟨rfl, below_call hB9 (Nat.le_refl _) hB10⟩
          · have hb1 : (by_ == 0) = false := by rw [beq_eq_false_iff_ne]; exact h0
            rw [hb1] at hb0
            have hi6 : ((if by_ = 0 then 0 else 6 : Nat) : Int) = 6 := by rw [if_neg h0]; rfl
            have Hi6 := Lib.hid hi6
            clear hi6 hb1
            go_wp2_with (first
              | (go_at_call 35; refine h35.mono ?_; rintro e w8 hq; obtain ⟨v8, a9, c9, rfl, hB8⟩ := Hp35.out _ _ hq; clear hq; rw [Hi6.out])
              | (refine wpList_store_blk rfl (.tmp 25) (.tmp 153) rfl w8.heap.size noneB v8 none a9 0 c9 rfl rfl (heap_alloc_new _ _) ?_; intro w9 hY9 hg9; have hB89 : Below w8.heap.size w8 w9 := ((Below.refl _ w8).alloc (Nat.le_refl _) _).grown hg9 (by simp) (fun k hk => by cases hk; exact Nat.le_refl _); clear hg9; have hB9 := below_call (below_call hB7w (Nat.le_refl _) hB8) (Nat.le_refl _) hB89)
              | (go_at_call 23; refine (known23_calls _).mono ?_; rintro e w10 ⟨rfl, hB10⟩))
            go_ret
            exact ⟨rfl, below_call hB9 (Nat.le_refl _) hB10⟩

end Go.Proofs.Ytdlbjllgdikadaa
