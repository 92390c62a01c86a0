/- When a block's bytes are those of what they say: in plain words. The document's Decode. -/
import Derived.Test.YtdlbjllgdikadaaGrG
namespace Go.Proofs.Ytdlbjllgdikadaa
open Go.RowKit CrcM

theorem leB_cons (b : UInt8) (n k : Nat) : leB (b.toNat + 256 * n) (k + 1) = b :: leB n k := by
  have hb := b.toNat_lt
  unfold leB
  rw [List.range_succ_eq_map, List.map_cons, List.map_map]
  have h0 : UInt8.ofNat ((b.toNat + 256 * n) / 256 ^ 0 % 256) = b := by
    apply UInt8.toNat.inj
    simp
  rw [h0]
  congr 1
  apply List.map_congr_left
  intro i _
  have e : (b.toNat + 256 * n) / 256 ^ (i + 1) = n / 256 ^ i := by
    rw [Nat.pow_succ, Nat.mul_comm (256 ^ i) 256, ← Nat.div_div_eq_div_mul]
    congr 1
    omega
  simp only [Function.comp, Nat.succ_eq_add_one, e]

theorem leB_leN (t : List UInt8) : leB (leN t) t.length = t := by
  induction t with
  | nil => rfl
  | cons b r ih => rw [leN, List.length_cons, leB_cons, ih]

theorem mark_byte (l : List UInt8) : UInt8.ofNat (markN (decX l)) = l.getD 8 0 := by
  apply UInt8.toNat.inj
  have h8 : byteAt l 8 < 256 := UInt8.toNat_lt _
  obtain ⟨n, hn⟩ : ∃ n, n = byteAt l 8 := ⟨_, rfl⟩
  have hn' : (l.getD 8 0).toNat = n := hn.symm
  rw [hn']
  rw [← hn] at h8
  simp only [markN, decX, ← hn]
  have e : (UInt8.ofNat (n % 4 + n / 16 * 16)).toNat = n % 4 + n / 16 * 16 := by simp; omega
  rw [e]
  have e2 : ((if (n / 4 % 2 == 1) = true then 4 else 0) : Nat) = n / 4 % 2 * 4 := by
    by_cases h : n / 4 % 2 = 1 <;> simp [h] <;> omega
  have e3 : ((if (n / 8 % 2 == 1) = true then 8 else 0) : Nat) = n / 8 % 2 * 8 := by
    by_cases h : n / 8 % 2 = 1 <;> simp [h] <;> omega
  rw [e2, e3]
  simp
  omega

theorem split60 (l : List UInt8) (h : l.length = 64) (n : Nat) (hn : n ≤ 50) :
    l.take 60 = l.take 8 ++ [l.getD 8 0, l.getD 9 0] ++ (l.drop 10).take n ++ (l.drop (10 + n)).take (50 - n) := by
  have h1 : l.take 60 = l.take 8 ++ (l.drop 8).take 52 := by
    rw [show (60 : Nat) = 8 + 52 from rfl, List.take_add]
  have h2 : (l.drop 8).take 52 = (l.drop 8).take 2 ++ (l.drop 10).take 50 := by
    rw [show (52 : Nat) = 2 + 50 from rfl, List.take_add, List.drop_drop]
  have h3 : (l.drop 8).take 2 = [l.getD 8 0, l.getD 9 0] := by
    apply List.ext_getElem
    · simp; omega
    · intro i h4 h5
      have hi : i < 2 := by simpa using h5
      rcases (by omega : i = 0 ∨ i = 1) with rfl | rfl
      · simp [h]
      · simp [h]
  have h4 : (l.drop 10).take 50 = (l.drop 10).take n ++ (l.drop (10 + n)).take (50 - n) := by
    rw [show (50 : Nat) = n + (50 - n) by omega, List.take_add, List.drop_drop]
    simp
  rw [h1, h2, h3, h4]
  simp only [List.append_assoc]

theorem encB_decX (l : List UInt8) (h : l.length = 64) :
    encB (decX l) = l.take 8 ++ [l.getD 8 0, UInt8.ofNat (min (byteAt l 9) 48)] ++ (l.drop 10).take (min (byteAt l 9) 48) ++ List.replicate (50 - min (byteAt l 9) 48) 0 := by
  have e8 : (l.take 8).length = 8 := by rw [List.length_take, h]; rfl
  have hs : leB (decX l).serial 8 = l.take 8 := by
    have := leB_leN (l.take 8)
    rw [e8] at this
    exact this
  have hb : (decX l).body.length = min (byteAt l 9) 48 := by
    show ((l.drop 10).take (min (byteAt l 9) 48)).length = _
    rw [List.length_take, List.length_drop, h]
    omega
  unfold encB
  rw [hs, mark_byte, hb]
  rfl

theorem seal_iff (l : List UInt8) (h : l.length = 64) (he : endsB l = true) :
    (sealB (decX l) == l) = true ↔ byteAt l 9 ≤ 48 ∧ ∀ i, 10 + byteAt l 9 ≤ i → i < 60 → byteAt l i = 0 := by
  have hl : l.take 60 ++ crcB (sum (l.take 60)) = l := by
    have := ends_same l 60 h
    rw [he] at this
    exact beq_iff_eq.1 this
  have hy9 : (l.getD 9 0).toNat = byteAt l 9 := rfl
  have hlt9 : byteAt l 9 < 256 := UInt8.toNat_lt _
  obtain ⟨n, hn⟩ : ∃ n, n = min (byteAt l 9) 48 := ⟨_, rfl⟩
  have hn48 : n ≤ 48 := by omega
  have key : encB (decX l) = l.take 60 ↔ UInt8.ofNat n = l.getD 9 0 ∧ List.replicate (50 - n) 0 = (l.drop (10 + n)).take (50 - n) := by
    rw [encB_decX l h, split60 l h n (by omega), ← hn]
    constructor
    · intro e
      have e1 := List.append_inj e (by simp)
      have e2 := List.append_inj e1.1 (by simp)
      have e3 := List.append_inj e2.1 rfl
      exact ⟨by simpa using e3.2, e1.2⟩
    · rintro ⟨e1, e2⟩
      rw [e1, e2]
  have hz : List.replicate (50 - n) (0 : UInt8) = (l.drop (10 + n)).take (50 - n) ↔ ∀ i, 10 + n ≤ i → i < 60 → byteAt l i = 0 := by
    constructor
    · intro e i h1 h2
      have h3 : ((l.drop (10 + n)).take (50 - n))[i - (10 + n)]? = some 0 := by rw [← e, List.getElem?_replicate, if_pos (by omega)]
      rw [List.getElem?_take_of_lt (by omega), List.getElem?_drop, show 10 + n + (i - (10 + n)) = i by omega] at h3
      unfold byteAt
      rw [List.getD_eq_getElem?_getD, h3]
      rfl
    · intro hall
      symm
      rw [List.eq_replicate_iff]
      refine ⟨by rw [List.length_take, List.length_drop, h]; omega, fun b hb => ?_⟩
      obtain ⟨k, hk, rfl⟩ := List.getElem_of_mem hb
      rw [List.length_take, List.length_drop, h] at hk
      have := hall (10 + n + k) (by omega) (by omega)
      unfold byteAt at this
      rw [List.getD_eq_getElem?_getD, List.getElem?_eq_getElem (by omega)] at this
      apply UInt8.toNat.inj
      rw [List.getElem_take, List.getElem_drop]
      simpa using this
  have hseal : (sealB (decX l) == l) = true ↔ encB (decX l) = l.take 60 := by
    rw [beq_iff_eq]
    constructor
    · intro e
      have e60 : (encB (decX l)).length = 60 := encB_length _ (by
        show ((l.drop 10).take (min (byteAt l 9) 48)).length ≤ 48
        rw [List.length_take]; omega)
      have := congrArg (List.take 60) e
      unfold sealB at this
      rw [← e60, List.take_left, e60] at this
      exact this
    · intro e
      unfold sealB
      rw [e]; exact hl
  rw [hseal, key, hz]
  constructor
  · rintro ⟨h1, h2⟩
    have h3 : byteAt l 9 = n := by
      rw [← hy9, ← h1]; simp; omega
    refine ⟨by omega, ?_⟩
    rw [h3]; exact h2
  · rintro ⟨h1, h2⟩
    have h3 : byteAt l 9 = n := by omega
    rw [h3] at h2
    refine ⟨?_, h2⟩
    apply UInt8.toNat.inj
    rw [hy9, h3]; simp; omega

end Go.Proofs.Ytdlbjllgdikadaa

namespace Go.Proofs.Ytdlbjllgdikadaa
open Go.RowKit CrcM

set_option maxHeartbeats 1000000 in
theorem refdecode_len (a : Option Addr) (l : List UInt8) (cap : Nat) (w : World) (h : l.length ≠ 64) :
    Calls Try.prog 37 #[.slice a l.length cap] w (DecPost l w) := by
  have e0 : ((l.length : Int) == 64) = false := by rw [beq_eq_false_iff_ne]; omega
  have hE : decE l = 4 := by simp [decE, h]
  have hB : decB l = noneB := by simp [decB, hE]
  have HE := Lib.hid hE
  have HB := Lib.hid hB
  clear hE hB
  have hB0 : Below w.heap.size w ((w.alloc (.cells (noneB.cells none 0) 43)).alloc (.cells (noneB.cells none 0) 43)) := ((Below.refl _ _).alloc (Nat.le_refl _) _).alloc (by simp) _
  have hR0 : BlkAt ((w.alloc (.cells (noneB.cells none 0) 43)).alloc (.cells (noneB.cells none 0) 43)) w.heap.size noneB none 0 := heap_alloc2_old _ _ _
  have hN0 : BlkAt ((w.alloc (.cells (noneB.cells none 0) 43)).alloc (.cells (noneB.cells none 0) 43)) (w.heap.size + 1) noneB none 0 := heap_alloc2_new _ _ _
  go_enter Try.func37, Try.ntmps37
  go_wp2_with (first
    | (refine wpList_store_blk rfl (.tmp 4) (.tmp 10) rfl (w.heap.size + 1) noneB noneB none none 0 0 rfl rfl hN0 ?_; intro w1 hN1 hg1; have hR1 := hR0.kept hg1 (by simp); have hB1 := hB0.grown hg1 (by simp; omega) (fun k hk => by cases hk; omega); clear hg1)
    | (refine wpList_load_blk rfl (.tmp 4) rfl (w.heap.size + 1) noneB none 0 rfl hN1 ?_)
    | (refine wpList_store_blk rfl (.tmp 2) (.tmp 14) rfl w.heap.size noneB noneB none none 0 0 rfl rfl hR1 ?_; intro w8 hr8 hg8; have hB8 := hB1.grown hg8 hB1.size (fun k hk => by cases hk; exact Nat.le_refl _)))
  exact ret_blk rfl rfl rfl rfl hr8 ⟨none, 0, by rw [HE.out, HB.out]; rfl, by rw [HB.out]; exact OwnB.nil _ _, hB8⟩

set_option maxHeartbeats 1000000 in
theorem refdecode_sum (a : Option Addr) (l : List UInt8) (cap : Nat) (w : World) (h : l.length = 64) (hc : l.length ≤ cap) (hby : IsBytes w a l) (hs : endsB l = false) :
    Calls Try.prog 37 #[.slice a l.length cap] w (DecPost l w) := by
  have hE : decE l = 6 := by simp [decE, h, hs]
  have hB : decB l = noneB := by simp [decB, hE]
  have HE := Lib.hid hE
  have HB := Lib.hid hB
  clear hE hB
  have hB0 : Below w.heap.size w ((w.alloc (.cells (noneB.cells none 0) 43)).alloc (.cells (noneB.cells none 0) 43)) := ((Below.refl _ _).alloc (Nat.le_refl _) _).alloc (by simp) _
  have hR0 : BlkAt ((w.alloc (.cells (noneB.cells none 0) 43)).alloc (.cells (noneB.cells none 0) 43)) w.heap.size noneB none 0 := heap_alloc2_old _ _ _
  have hN0 : BlkAt ((w.alloc (.cells (noneB.cells none 0) 43)).alloc (.cells (noneB.cells none 0) 43)) (w.heap.size + 1) noneB none 0 := heap_alloc2_new _ _ _
  have he : ∀ W, Below w.heap.size w W → Calls Try.prog 22 #[.slice a 64 cap] W fun e w' => e = .returned (.bool false) ∧ Below W.heap.size W w' := fun W hW => by
    have := refends_calls a l cap W (by omega) hc (fun e => by obtain ⟨b, off, e2, _⟩ := hby 0 (by omega); rw [e2] at e; cases e) (hby.later hW)
    rw [hs, h] at this
    exact this
  rw [h]
  clear h hs
  go_enter Try.func37, Try.ntmps37
  go_wp2_with (first
    | (refine wpList_store_blk rfl (.tmp 4) (.tmp 10) rfl (w.heap.size + 1) noneB noneB none none 0 0 rfl rfl hN0 ?_; intro w1 hN1 hg1; have hR1 := hR0.kept hg1 (by simp); have hB1 := hB0.grown hg1 (by simp; omega) (fun k hk => by cases hk; omega); clear hg1)
    | (go_at_call 22; refine (he _ hB1).mono ?_; rintro e w2 ⟨rfl, hB2⟩; have hN2 := hN1.later hB2; have hR2 := hR1.later hB2; have hB3 := below_call hB1 (Nat.le_refl _) hB2)
    | (refine wpList_load_blk rfl (.tmp 4) rfl (w.heap.size + 1) noneB none 0 rfl hN2 ?_)
    | (refine wpList_store_blk rfl (.tmp 2) (.tmp 18) rfl w.heap.size noneB noneB none none 0 0 rfl rfl hR2 ?_; intro w8 hr8 hg8; have hB8 := hB3.grown hg8 hB3.size (fun k hk => by cases hk; exact Nat.le_refl _)))
  exact ret_blk rfl rfl rfl rfl hr8 ⟨none, 0, by rw [HE.out, HB.out]; rfl, by rw [HB.out]; exact OwnB.nil _ _, hB8⟩

theorem leN_drop (l : List UInt8) (j : Nat) (y : UInt8) (hj : j < 8) (hl : l.length = 64) (hy : y = l[j]'(by omega)) :
    leN ((l.take 8).drop j) = leN ((l.take 8).drop (j + 1)) * 256 + y.toNat ∧ leN ((l.take 8).drop (j + 1)) * 256 + y.toNat < 18446744073709551616 := by
  have h8 : (l.take 8).length = 8 := by rw [List.length_take, hl]; rfl
  have e : leN ((l.take 8).drop j) = leN ((l.take 8).drop (j + 1)) * 256 + y.toNat := by
    rw [List.drop_eq_getElem_cons (by rw [h8]; exact hj), leN, List.getElem_take, ← hy, Nat.mul_comm, Nat.add_comm]
  refine ⟨e, ?_⟩
  rw [← e]
  have h1 := leN_lt ((l.take 8).drop j)
  rw [List.length_drop, h8] at h1
  have h2 : 256 ^ (8 - j) ≤ 256 ^ 8 := Nat.pow_le_pow_right (by decide) (by omega)
  omega

theorem mark_bad (l : List UInt8) (h : 15 < byteAt l 8) : decOk l = false := by
  have hlt : byteAt l 8 < 256 := UInt8.toNat_lt _
  have hk : kindB (decX l).kind = false := by
    rw [← Bool.not_eq_true, kindB_iff]
    show ¬ (1 ≤ (UInt8.ofNat (byteAt l 8 % 4 + byteAt l 8 / 16 * 16)).toNat ∧ (UInt8.ofNat (byteAt l 8 % 4 + byteAt l 8 / 16 * 16)).toNat ≤ 2)
    have e : (UInt8.ofNat (byteAt l 8 % 4 + byteAt l 8 / 16 * 16)).toNat = byteAt l 8 % 4 + byteAt l 8 / 16 * 16 := by simp; omega
    rw [e]; omega
  simp [decOk, mayB, hk]

theorem len_bad (l : List UInt8) (h : l.length = 64) (he : endsB l = true) (h9 : 48 < byteAt l 9) : decOk l = false := by
  have : ¬ (sealB (decX l) == l) = true := by rw [seal_iff l h he]; omega
  simp only [decOk, Bool.and_eq_false_iff]
  right
  simpa using this

set_option linter.unusedSimpArgs false in
set_option maxHeartbeats 2000000 in
set_option maxRecDepth 100000 in
theorem refdecode_mark (a : Option Addr) (l : List UInt8) (cap : Nat) (w : World) (h : l.length = 64) (hc : l.length ≤ cap) (hby : IsBytes w a l) (hs : endsB l = true) (h8 : 15 < byteAt l 8) :
    Calls Try.prog 37 #[.slice a l.length cap] w (DecPost l w) := by
  have hB0 : Below w.heap.size w ((w.alloc (.cells (noneB.cells none 0) 43)).alloc (.cells (noneB.cells none 0) 43)) := ((Below.refl _ _).alloc (Nat.le_refl _) _).alloc (by simp) _
  have hR0 : BlkAt ((w.alloc (.cells (noneB.cells none 0) 43)).alloc (.cells (noneB.cells none 0) 43)) w.heap.size noneB none 0 := heap_alloc2_old _ _ _
  have hN0 : BlkAt ((w.alloc (.cells (noneB.cells none 0) 43)).alloc (.cells (noneB.cells none 0) 43)) (w.heap.size + 1) noneB none 0 := heap_alloc2_new _ _ _
  obtain ⟨b, off, rfl⟩ : ∃ b off, a = some ⟨b, off, none⟩ := (by obtain ⟨b, off, e, _⟩ := hby 0 (by omega); exact ⟨b, off, e⟩)
  have he : ∀ W, Below w.heap.size w W → Calls Try.prog 22 #[.slice (some ⟨b, off, none⟩) 64 cap] W fun e w' => e = .returned (.bool true) ∧ Below W.heap.size W w' := fun W hW => by
    have := refends_calls (some ⟨b, off, none⟩) l cap W (by omega) hc (fun e => nomatch e) (hby.later hW)
    rw [hs, h] at this
    exact this
  have Hs := Lib.hid hs
  have Hh := Lib.hid h
  rw [h] at hc ⊢
  clear h hs
  go_enter Try.func37, Try.ntmps37
  go_wp2_with (first
    | (refine wpList_store_blk rfl (.tmp 4) (.tmp 10) rfl (w.heap.size + 1) noneB noneB none none 0 0 rfl rfl hN0 ?_; intro w1 hN1 hg1; have hR1 := hR0.kept hg1 (by simp); have hB1 := hB0.grown hg1 (by simp; omega) (fun k hk => by cases hk; omega); clear hg1)
    | (go_at_call 22; refine (he _ hB1).mono ?_; rintro e w2 ⟨rfl, hB2⟩; have hN2 := hN1.later hB2; have hR2 := hR1.later hB2; have hB3 := below_call hB1 (Nat.le_refl _) hB2; clear hB2)
    | (refine wpList_store_blk rfl (.tmp 5) (.tmp 19) rfl w2.heap.size noneB noneB none none 0 0 rfl rfl (heap_alloc_new _ _) ?_; intro w4 hX4 hg4; have hR4 := BlkAt.kept (hR2.later ((Below.refl _ _).alloc (Nat.le_refl _) _)) hg4 (by have := lt_of_block hR2; intro e; injection e; omega); have hN4 := BlkAt.kept (hN2.later ((Below.refl _ _).alloc (Nat.le_refl _) _)) hg4 (by have := lt_of_block hN2; intro e; injection e; omega); have hB4 := (hB3.alloc hB3.size _).grown hg4 (by have := hB3.size; simp; omega) (fun k hk => by cases hk; exact hB3.size); clear hg4))
  have hlow : w.heap.size + 1 < w2.heap.size := lt_of_block hN2
  obtain ⟨H, hH⟩ : ∃ H, H = w2.heap.size := ⟨_, rfl⟩
  rw [← hH] at hX4 hlow ⊢
  clear hH hR2 hN2 hB3 hR1 hN1 hB1 hR0 hN0 hB0
  go_loopw [6] (fun i wr => ∃ j : Nat, j ≤ 8 ∧ i = .int .i64 ((j : Int) - 1) ∧ BlkAt wr H ⟨leN ((l.take 8).drop j), 0, false, false, []⟩ none 0 ∧ BlkAt wr w.heap.size noneB none 0 ∧ BlkAt wr (w.heap.size + 1) noneB none 0 ∧ Below w.heap.size w wr) (fun i _ => ((intOf i) + 1).toNat)
  case atStart =>
    refine ⟨8, Nat.le_refl _, rfl, ?_, hR4, hN4, hB4⟩
    rw [List.drop_eq_nil_of_le (by rw [List.length_take]; omega)]
    exact hX4
  case round =>
    clear hX4 hR4 hN4 hB4
    obtain ⟨j, hj, rfl, hb, hr, hn, hB⟩ := hrel
    by_cases hlt : 0 < j
    · obtain ⟨q, rfl⟩ : ∃ q, j = q + 1 := ⟨j - 1, by omega⟩
      obtain ⟨y, hy⟩ : ∃ y, y = l[q]'(by have := Hh.out; omega) := ⟨_, rfl⟩
      have pj := (hby.later hB).cell q (by have := Hh.out; omega)
      rw [← hy] at pj
      have ph : wr.cell? ⟨H, 0, none⟩ = some (.int .u64 (leN ((l.take 8).drop (q + 1)) : Nat)) := hb.cell 0 _ rfl
      have pf := hb.free 0
      obtain ⟨hst, hbd⟩ := leN_drop l q y (by omega) Hh.out hy
      have hnew : ∀ u, u = Value.int .u64 ((leN ((l.take 8).drop q) : Nat) : Int) → BlkAt (wr.setCell ⟨H, 0, none⟩ u) H ⟨leN ((l.take 8).drop q), 0, false, false, []⟩ none 0 := fun u hu => hb.stored 0 u (by rw [hu]; rfl)
      obtain ⟨m, hm⟩ : ∃ m, m = leN ((l.take 8).drop (q + 1)) := ⟨_, rfl⟩
      rw [← hm] at ph hst hbd
      have hq64 : (q : Int) < 64 := by omega
      have hyl := y.toNat_lt
      have Hst := Lib.hid hst
      have Hy := Lib.hid hy
      clear hy hm hst
      go_wp2
      go_region
      all_goals
        go_wp2
        go_roundw
      case rel =>
        have h1 := hnew _ (congrArg (Value.int .u64) (by rw [Hst.out]))
        have e1 : w.heap.size ≠ H := by omega
        have e2 : w.heap.size + 1 ≠ H := by omega
        exact ⟨q, by omega, rfl, h1, hr.other _ _ e1, hn.other _ _ e2, (hB.setCell (p := ⟨H, 0, none⟩) (by simp; omega) _).drew⟩
      case measure => simp [intOf]
    · obtain rfl : j = 0 := by omega
      rw [List.drop_zero] at hb
      obtain ⟨n8, hn8⟩ : ∃ n, n = byteAt l 8 := ⟨_, rfl⟩
      obtain ⟨n9, hn9⟩ : ∃ n, n = byteAt l 9 := ⟨_, rfl⟩
      have hlt8 : n8 < 256 := by rw [hn8]; exact UInt8.toNat_lt _
      have hlt9 : n9 < 256 := by rw [hn9]; exact UInt8.toNat_lt _
      have c8 : wr.cell? ⟨b, off + 8, none⟩ = some (.int .u8 (n8 : Int)) := by
        rw [(hby.later hB).cell 8 (by have := Hh.out; omega), hn8]
        simp [byteAt, Hh.out]
      have c9 : wr.cell? ⟨b, off + 9, none⟩ = some (.int .u8 (n9 : Int)) := by
        rw [(hby.later hB).cell 9 (by have := Hh.out; omega), hn9]
        simp [byteAt, Hh.out]
      rw [← hn8] at h8
      have hbad : decOk l = false := mark_bad l (by rw [← hn8]; exact h8)
      have hD : decE l = 4 := by simp [decE, Hh.out, Hs.out, hbad]
      have hDB : decB l = noneB := by simp [decB, hD]
      have HD := Lib.hid hD
      have HDB := Lib.hid hDB
      clear hD hDB hbad
      clear hn8 hn9
      go_wp2_with (first
        | (refine wpList_load_blk rfl (.tmp 4) rfl (w.heap.size + 1) noneB none 0 rfl hn ?_)
        | (refine wpList_store_blk rfl (.tmp 2) (.tmp 47) rfl w.heap.size noneB noneB none none 0 0 rfl rfl hr ?_; intro w8 hr8 hg8; have hB8 := hB.grown hg8 hB.size (fun k hk => by cases hk; exact Nat.le_refl _)))
      exact ret_blk rfl rfl rfl rfl hr8 ⟨none, 0, by rw [HD.out, HDB.out]; rfl, by rw [HDB.out]; exact OwnB.nil _ _, hB8⟩

set_option linter.unusedSimpArgs false in
set_option maxHeartbeats 2000000 in
set_option maxRecDepth 100000 in
theorem refdecode_nine (a : Option Addr) (l : List UInt8) (cap : Nat) (w : World) (h : l.length = 64) (hc : l.length ≤ cap) (hby : IsBytes w a l) (hs : endsB l = true) (h8 : ¬ 15 < byteAt l 8) (h9 : 48 < byteAt l 9) :
    Calls Try.prog 37 #[.slice a l.length cap] w (DecPost l w) := by
  have hB0 : Below w.heap.size w ((w.alloc (.cells (noneB.cells none 0) 43)).alloc (.cells (noneB.cells none 0) 43)) := ((Below.refl _ _).alloc (Nat.le_refl _) _).alloc (by simp) _
  have hR0 : BlkAt ((w.alloc (.cells (noneB.cells none 0) 43)).alloc (.cells (noneB.cells none 0) 43)) w.heap.size noneB none 0 := heap_alloc2_old _ _ _
  have hN0 : BlkAt ((w.alloc (.cells (noneB.cells none 0) 43)).alloc (.cells (noneB.cells none 0) 43)) (w.heap.size + 1) noneB none 0 := heap_alloc2_new _ _ _
  obtain ⟨b, off, rfl⟩ : ∃ b off, a = some ⟨b, off, none⟩ := (by obtain ⟨b, off, e, _⟩ := hby 0 (by omega); exact ⟨b, off, e⟩)
  have he : ∀ W, Below w.heap.size w W → Calls Try.prog 22 #[.slice (some ⟨b, off, none⟩) 64 cap] W fun e w' => e = .returned (.bool true) ∧ Below W.heap.size W w' := fun W hW => by
    have := refends_calls (some ⟨b, off, none⟩) l cap W (by omega) hc (fun e => nomatch e) (hby.later hW)
    rw [hs, h] at this
    exact this
  have Hs := Lib.hid hs
  have Hh := Lib.hid h
  rw [h] at hc ⊢
  clear h hs
  go_enter Try.func37, Try.ntmps37
  go_wp2_with (first
    | (refine wpList_store_blk rfl (.tmp 4) (.tmp 10) rfl (w.heap.size + 1) noneB noneB none none 0 0 rfl rfl hN0 ?_; intro w1 hN1 hg1; have hR1 := hR0.kept hg1 (by simp); have hB1 := hB0.grown hg1 (by simp; omega) (fun k hk => by cases hk; omega); clear hg1)
    | (go_at_call 22; refine (he _ hB1).mono ?_; rintro e w2 ⟨rfl, hB2⟩; have hN2 := hN1.later hB2; have hR2 := hR1.later hB2; have hB3 := below_call hB1 (Nat.le_refl _) hB2; clear hB2)
    | (refine wpList_store_blk rfl (.tmp 5) (.tmp 19) rfl w2.heap.size noneB noneB none none 0 0 rfl rfl (heap_alloc_new _ _) ?_; intro w4 hX4 hg4; have hR4 := BlkAt.kept (hR2.later ((Below.refl _ _).alloc (Nat.le_refl _) _)) hg4 (by have := lt_of_block hR2; intro e; injection e; omega); have hN4 := BlkAt.kept (hN2.later ((Below.refl _ _).alloc (Nat.le_refl _) _)) hg4 (by have := lt_of_block hN2; intro e; injection e; omega); have hB4 := (hB3.alloc hB3.size _).grown hg4 (by have := hB3.size; simp; omega) (fun k hk => by cases hk; exact hB3.size); clear hg4))
  have hlow : w.heap.size + 1 < w2.heap.size := lt_of_block hN2
  obtain ⟨H, hH⟩ : ∃ H, H = w2.heap.size := ⟨_, rfl⟩
  rw [← hH] at hX4 hlow ⊢
  clear hH hR2 hN2 hB3 hR1 hN1 hB1 hR0 hN0 hB0
  go_loopw [6] (fun i wr => ∃ j : Nat, j ≤ 8 ∧ i = .int .i64 ((j : Int) - 1) ∧ BlkAt wr H ⟨leN ((l.take 8).drop j), 0, false, false, []⟩ none 0 ∧ BlkAt wr w.heap.size noneB none 0 ∧ BlkAt wr (w.heap.size + 1) noneB none 0 ∧ Below w.heap.size w wr) (fun i _ => ((intOf i) + 1).toNat)
  case atStart =>
    refine ⟨8, Nat.le_refl _, rfl, ?_, hR4, hN4, hB4⟩
    rw [List.drop_eq_nil_of_le (by rw [List.length_take]; omega)]
    exact hX4
  case round =>
    clear hX4 hR4 hN4 hB4
    obtain ⟨j, hj, rfl, hb, hr, hn, hB⟩ := hrel
    by_cases hlt : 0 < j
    · obtain ⟨q, rfl⟩ : ∃ q, j = q + 1 := ⟨j - 1, by omega⟩
      obtain ⟨y, hy⟩ : ∃ y, y = l[q]'(by have := Hh.out; omega) := ⟨_, rfl⟩
      have pj := (hby.later hB).cell q (by have := Hh.out; omega)
      rw [← hy] at pj
      have ph : wr.cell? ⟨H, 0, none⟩ = some (.int .u64 (leN ((l.take 8).drop (q + 1)) : Nat)) := hb.cell 0 _ rfl
      have pf := hb.free 0
      obtain ⟨hst, hbd⟩ := leN_drop l q y (by omega) Hh.out hy
      have hnew : ∀ u, u = Value.int .u64 ((leN ((l.take 8).drop q) : Nat) : Int) → BlkAt (wr.setCell ⟨H, 0, none⟩ u) H ⟨leN ((l.take 8).drop q), 0, false, false, []⟩ none 0 := fun u hu => hb.stored 0 u (by rw [hu]; rfl)
      obtain ⟨m, hm⟩ : ∃ m, m = leN ((l.take 8).drop (q + 1)) := ⟨_, rfl⟩
      rw [← hm] at ph hst hbd
      have hq64 : (q : Int) < 64 := by omega
      have hyl := y.toNat_lt
      have Hst := Lib.hid hst
      have Hy := Lib.hid hy
      clear hy hm hst
      go_wp2
      go_region
      all_goals
        go_wp2
        go_roundw
      case rel =>
        have h1 := hnew _ (congrArg (Value.int .u64) (by rw [Hst.out]))
        have e1 : w.heap.size ≠ H := by omega
        have e2 : w.heap.size + 1 ≠ H := by omega
        exact ⟨q, by omega, rfl, h1, hr.other _ _ e1, hn.other _ _ e2, (hB.setCell (p := ⟨H, 0, none⟩) (by simp; omega) _).drew⟩
      case measure => simp [intOf]
    · obtain rfl : j = 0 := by omega
      rw [List.drop_zero] at hb
      obtain ⟨n8, hn8⟩ : ∃ n, n = byteAt l 8 := ⟨_, rfl⟩
      obtain ⟨n9, hn9⟩ : ∃ n, n = byteAt l 9 := ⟨_, rfl⟩
      have hlt8 : n8 < 256 := by rw [hn8]; exact UInt8.toNat_lt _
      have hlt9 : n9 < 256 := by rw [hn9]; exact UInt8.toNat_lt _
      have c8 : wr.cell? ⟨b, off + 8, none⟩ = some (.int .u8 (n8 : Int)) := by
        rw [(hby.later hB).cell 8 (by have := Hh.out; omega), hn8]
        simp [byteAt, Hh.out]
      have c9 : wr.cell? ⟨b, off + 9, none⟩ = some (.int .u8 (n9 : Int)) := by
        rw [(hby.later hB).cell 9 (by have := Hh.out; omega), hn9]
        simp [byteAt, Hh.out]
      rw [← hn8] at h8
      rw [← hn9] at h9
      have hbad : decOk l = false := len_bad l Hh.out Hs.out (by rw [← hn9]; exact h9)
      have hD : decE l = 4 := by simp [decE, Hh.out, Hs.out, hbad]
      have hDB : decB l = noneB := by simp [decB, hD]
      have HD := Lib.hid hD
      have HDB := Lib.hid hDB
      clear hD hDB hbad
      clear hn8 hn9
      go_wp2_with (first
        | (refine wpList_load_blk rfl (.tmp 4) rfl (w.heap.size + 1) noneB none 0 rfl hn ?_)
        | (refine wpList_store_blk rfl (.tmp 2) (.tmp 47) rfl w.heap.size noneB noneB none none 0 0 rfl rfl hr ?_; intro w8 hr8 hg8; have hB8 := hB.grown hg8 hB.size (fun k hk => by cases hk; exact Nat.le_refl _)))
      exact ret_blk rfl rfl rfl rfl hr8 ⟨none, 0, by rw [HD.out, HDB.out]; rfl, by rw [HDB.out]; exact OwnB.nil _ _, hB8⟩

end Go.Proofs.Ytdlbjllgdikadaa
