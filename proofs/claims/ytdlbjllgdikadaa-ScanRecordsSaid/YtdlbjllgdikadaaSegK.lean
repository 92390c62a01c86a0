/- The document's Decode. -/
import Derived.Test.YtdlbjllgdikadaaSegJ
namespace Go.Proofs.Ytdlbjllgdikadaa
open Go.RowKit CrcM

set_option maxHeartbeats 1000000 in
theorem refdecode_len (a : Option Addr) (l : List UInt8) (cap : Nat) (w : World) (h : l.length ≠ 64) :
    Calls Try.prog 37 #[.slice a l.length cap] w (DecPost l w) := by
  have e0 : ((l.length : Int) == 64) = false := by rw [beq_eq_false_iff_ne]; omega
  have hE : decE l = 4 := by simp [decE, h]
  have hB : decB l = noneB := by simp [decB, hE]
  have HE := Lib.hid hE
  have HB := Lib.hid hB
  clear hE hB
  have hB0 : Below w.heap.size w ((w.alloc (.cells (noneB.cells none 0) 43)).alloc (.cells (noneB.cells none 0) 43)) := ((Below.refl _ _).alloc (Nat.le_refl _) _).alloc (by simp) _
  have hR0 : BlkAt ((w.alloc (.cells (noneB.cells none 0) 43)).alloc (.cells (noneB.cells none 0) 43)) w.heap.size noneB none 0 := heap_alloc2_old _ _ _
  have hN0 : BlkAt ((w.alloc (.cells (noneB.cells none 0) 43)).alloc (.cells (noneB.cells none 0) 43)) (w.heap.size + 1) noneB none 0 := heap_alloc2_new _ _ _
  go_enter Try.func37, Try.ntmps37
  go_wp2_with (first
    | (refine wpList_store_blk rfl (.tmp 4) (.tmp 10) rfl (w.heap.size + 1) noneB noneB none none 0 0 rfl rfl hN0 ?_; intro w1 hN1 hg1; have hR1 := hR0.kept hg1 (by simp); have hB1 := hB0.grown hg1 (by simp; omega) (fun k hk => by cases hk; omega); clear hg1)
    | (refine wpList_load_blk rfl (.tmp 4) rfl (w.heap.size + 1) noneB none 0 rfl hN1 ?_)
    | (refine wpList_store_blk rfl (.tmp 2) (.tmp 14) rfl w.heap.size noneB noneB none none 0 0 rfl rfl hR1 ?_; intro w8 hr8 hg8; have hB8 := hB1.grown hg8 hB1.size (fun k hk => by cases hk; exact Nat.le_refl _)))
  exact ret_blk rfl rfl rfl rfl hr8 ⟨none, 0, by rw [HE.out, HB.out]; rfl, by rw [HB.out]; exact OwnB.nil _ _, hB8⟩

set_option maxHeartbeats 1000000 in
theorem refdecode_sum (a : Option Addr) (l : List UInt8) (cap : Nat) (w : World) (h : l.length = 64) (hc : l.length ≤ cap) (hby : IsBytes w a l) (hs : endsB l = false) :
    Calls Try.prog 37 #[.slice a l.length cap] w (DecPost l w) := by
  have hE : decE l = 6 := by simp [decE, h, hs]
  have hB : decB l = noneB := by simp [decB, hE]
  have HE := Lib.hid hE
  have HB := Lib.hid hB
  clear hE hB
  have hB0 : Below w.heap.size w ((w.alloc (.cells (noneB.cells none 0) 43)).alloc (.cells (noneB.cells none 0) 43)) := ((Below.refl _ _).alloc (Nat.le_refl _) _).alloc (by simp) _
  have hR0 : BlkAt ((w.alloc (.cells (noneB.cells none 0) 43)).alloc (.cells (noneB.cells none 0) 43)) w.heap.size noneB none 0 := heap_alloc2_old _ _ _
  have hN0 : BlkAt ((w.alloc (.cells (noneB.cells none 0) 43)).alloc (.cells (noneB.cells none 0) 43)) (w.heap.size + 1) noneB none 0 := heap_alloc2_new _ _ _
  have he : ∀ W, Below w.heap.size w W → Calls Try.prog 22 #[.slice a 64 cap] W fun e w' => e = .returned (.bool false) ∧ Below W.heap.size W w' := fun W hW => by
    have := refends_calls a l cap W (by omega) hc (fun e => by obtain ⟨b, off, e2, _⟩ := hby 0 (by omega); rw [e2] at e; cases e) (hby.later hW)
    rw [hs, h] at this
    exact this
  rw [h]
  clear h hs
  go_enter Try.func37, Try.ntmps37
  go_wp2_with (first
    | (refine wpList_store_blk rfl (.tmp 4) (.tmp 10) rfl (w.heap.size + 1) noneB noneB none none 0 0 rfl rfl hN0 ?_; intro w1 hN1 hg1; have hR1 := hR0.kept hg1 (by simp); have hB1 := hB0.grown hg1 (by simp; omega) (fun k hk => by cases hk; omega); clear hg1)
    | (go_at_call 22; refine (he _ hB1).mono ?_; rintro e w2 ⟨rfl, hB2⟩; have hN2 := hN1.later hB2; have hR2 := hR1.later hB2; have hB3 := below_call hB1 (Nat.le_refl _) hB2)
    | (refine wpList_load_blk rfl (.tmp 4) rfl (w.heap.size + 1) noneB none 0 rfl hN2 ?_)
    | (refine wpList_store_blk rfl (.tmp 2) (.tmp 18) rfl w.heap.size noneB noneB none none 0 0 rfl rfl hR2 ?_; intro w8 hr8 hg8; have hB8 := hB3.grown hg8 hB3.size (fun k hk => by cases hk; exact Nat.le_refl _)))
  exact ret_blk rfl rfl rfl rfl hr8 ⟨none, 0, by rw [HE.out, HB.out]; rfl, by rw [HB.out]; exact OwnB.nil _ _, hB8⟩

theorem leN_drop (l : List UInt8) (j : Nat) (y : UInt8) (hj : j < 8) (hl : l.length = 64) (hy : y = l[j]'(by omega)) :
    leN ((l.take 8).drop j) = leN ((l.take 8).drop (j + 1)) * 256 + y.toNat ∧ leN ((l.take 8).drop (j + 1)) * 256 + y.toNat < 18446744073709551616 := by
  have h8 : (l.take 8).length = 8 := by rw [List.length_take, hl]; rfl
  have e : leN ((l.take 8).drop j) = leN ((l.take 8).drop (j + 1)) * 256 + y.toNat := by
    rw [List.drop_eq_getElem_cons (by rw [h8]; exact hj), leN, List.getElem_take, ← hy, Nat.mul_comm, Nat.add_comm]
  refine ⟨e, ?_⟩
  rw [← e]
  have h1 := leN_lt ((l.take 8).drop j)
  rw [List.length_drop, h8] at h1
  have h2 : 256 ^ (8 - j) ≤ 256 ^ 8 := Nat.pow_le_pow_right (by decide) (by omega)
  omega

theorem mark_bad (l : List UInt8) (h : 15 < byteAt l 8) : decOk l = false := by
  have hlt : byteAt l 8 < 256 := UInt8.toNat_lt _
  have hk : kindB (decX l).kind = false := by
    rw [← Bool.not_eq_true, kindB_iff]
    show ¬ (1 ≤ (UInt8.ofNat (byteAt l 8 % 4 + byteAt l 8 / 16 * 16)).toNat ∧ (UInt8.ofNat (byteAt l 8 % 4 + byteAt l 8 / 16 * 16)).toNat ≤ 2)
    have e : (UInt8.ofNat (byteAt l 8 % 4 + byteAt l 8 / 16 * 16)).toNat = byteAt l 8 % 4 + byteAt l 8 / 16 * 16 := by simp; omega
    rw [e]; omega
  simp [decOk, mayB, hk]

theorem len_bad (l : List UInt8) (h : l.length = 64) (he : endsB l = true) (h9 : 48 < byteAt l 9) : decOk l = false := by
  have : ¬ (sealB (decX l) == l) = true := by rw [seal_iff l h he]; omega
  simp only [decOk, Bool.and_eq_false_iff]
  right
  simpa using this

set_option linter.unusedSimpArgs false in
set_option maxHeartbeats 2000000 in
set_option maxRecDepth 100000 in
theorem refdecode_mark (a : Option Addr) (l : List UInt8) (cap : Nat) (w : World) (h : l.length = 64) (hc : l.length ≤ cap) (hby : IsBytes w a l) (hs : endsB l = true) (h8 : 15 < byteAt l 8) :
    Calls Try.prog 37 #[.slice a l.length cap] w (DecPost l w) := by
  have hB0 : Below w.heap.size w ((w.alloc (.cells (noneB.cells none 0) 43)).alloc (.cells (noneB.cells none 0) 43)) := ((Below.refl _ _).alloc (Nat.le_refl _) _).alloc (by simp) _
  have hR0 : BlkAt ((w.alloc (.cells (noneB.cells none 0) 43)).alloc (.cells (noneB.cells none 0) 43)) w.heap.size noneB none 0 := heap_alloc2_old _ _ _
  have hN0 : BlkAt ((w.alloc (.cells (noneB.cells none 0) 43)).alloc (.cells (noneB.cells none 0) 43)) (w.heap.size + 1) noneB none 0 := heap_alloc2_new _ _ _
  obtain ⟨b, off, rfl⟩ : ∃ b off, a = some ⟨b, off, none⟩ := (by obtain ⟨b, off, e, _⟩ := hby 0 (by omega); exact ⟨b, off, e⟩)
  have he : ∀ W, Below w.heap.size w W → Calls Try.prog 22 #[.slice (some ⟨b, off, none⟩) 64 cap] W fun e w' => e = .returned (.bool true) ∧ Below W.heap.size W w' := fun W hW => by
    have := refends_calls (some ⟨b, off, none⟩) l cap W (by omega) hc (fun e => nomatch e) (hby.later hW)
    rw [hs, h] at this
    exact this
  have Hs := Lib.hid hs
  have Hh := Lib.hid h
  rw [h] at hc ⊢
  clear h hs
  go_enter Try.func37, Try.ntmps37
  go_wp2_with (first
    | (refine wpList_store_blk rfl (.tmp 4) (.tmp 10) rfl (w.heap.size + 1) noneB noneB none none 0 0 rfl rfl hN0 ?_; intro w1 hN1 hg1; have hR1 := hR0.kept hg1 (by simp); have hB1 := hB0.grown hg1 (by simp; omega) (fun k hk => by cases hk; omega); clear hg1)
    | (go_at_call 22; refine (he _ hB1).mono ?_; rintro e w2 ⟨rfl, hB2⟩; have hN2 := hN1.later hB2; have hR2 := hR1.later hB2; have hB3 := below_call hB1 (Nat.le_refl _) hB2; clear hB2)
    | (refine wpList_store_blk rfl (.tmp 5) (.tmp 19) rfl w2.heap.size noneB noneB none none 0 0 rfl rfl (heap_alloc_new _ _) ?_; intro w4 hX4 hg4; have hR4 := BlkAt.kept (hR2.later ((Below.refl _ _).alloc (Nat.le_refl _) _)) hg4 (by have := lt_of_block hR2; intro e; injection e; omega); have hN4 := BlkAt.kept (hN2.later ((Below.refl _ _).alloc (Nat.le_refl _) _)) hg4 (by have := lt_of_block hN2; intro e; injection e; omega); have hB4 := (hB3.alloc hB3.size _).grown hg4 (by have := hB3.size; simp; omega) (fun k hk => by cases hk; exact hB3.size); clear hg4))
  have hlow : w.heap.size + 1 < w2.heap.size := lt_of_block hN2
  obtain ⟨H, hH⟩ : ∃ H, H = w2.heap.size := ⟨_, rfl⟩
  rw [← hH] at hX4 hlow ⊢
  clear hH hR2 hN2 hB3 hR1 hN1 hB1 hR0 hN0 hB0
  go_loopw [6] (fun i wr => ∃ j : Nat, j ≤ 8 ∧ i = .int .i64 ((j : Int) - 1) ∧ BlkAt wr H ⟨leN ((l.take 8).drop j), 0, false, false, []⟩ none 0 ∧ BlkAt wr w.heap.size noneB none 0 ∧ BlkAt wr (w.heap.size + 1) noneB none 0 ∧ Below w.heap.size w wr) (fun i _ => ((intOf i) + 1).toNat)
  case atStart =>
    refine ⟨8, Nat.le_refl _, rfl, ?_, hR4, hN4, hB4⟩
    rw [List.drop_eq_nil_of_le (by rw [List.length_take]; omega)]
    exact hX4
  case round =>
    clear hX4 hR4 hN4 hB4
    obtain ⟨j, hj, rfl, hb, hr, hn, hB⟩ := hrel
    by_cases hlt : 0 < j
    · obtain ⟨q, rfl⟩ : ∃ q, j = q + 1 := ⟨j - 1, by omega⟩
      obtain ⟨y, hy⟩ : ∃ y, y = l[q]'(by have := Hh.out; omega) := ⟨_, rfl⟩
      have pj := (hby.later hB).cell q (by have := Hh.out; omega)
      rw [← hy] at pj
      have ph : wr.cell? ⟨H, 0, none⟩ = some (.int .u64 (leN ((l.take 8).drop (q + 1)) : Nat)) := hb.cell 0 _ rfl
      have pf := hb.free 0
      obtain ⟨hst, hbd⟩ := leN_drop l q y (by omega) Hh.out hy
      have hnew : ∀ u, u = Value.int .u64 ((leN ((l.take 8).drop q) : Nat) : Int) → BlkAt (wr.setCell ⟨H, 0, none⟩ u) H ⟨leN ((l.take 8).drop q), 0, false, false, []⟩ none 0 := fun u hu => hb.stored 0 u (by rw [hu]; rfl)
      obtain ⟨m, hm⟩ : ∃ m, m = leN ((l.take 8).drop (q + 1)) := ⟨_, rfl⟩
      rw [← hm] at ph hst hbd
      have hq64 : (q : Int) < 64 := by omega
      have hyl := y.toNat_lt
      have Hst := Lib.hid hst
      have Hy := Lib.hid hy
      clear hy hm hst
      go_wp2
      go_region
      all_goals
        go_wp2
        go_roundw
      case rel =>
        have h1 := hnew _ (congrArg (Value.int .u64) (by rw [Hst.out]))
        have e1 : w.heap.size ≠ H := by omega
        have e2 : w.heap.size + 1 ≠ H := by omega
        exact ⟨q, by omega, rfl, h1, hr.other _ _ e1, hn.other _ _ e2, (hB.setCell (p := ⟨H, 0, none⟩) (by simp; omega) _).drew⟩
      case measure => simp [intOf]
    · obtain rfl : j = 0 := by omega
      rw [List.drop_zero] at hb
      obtain ⟨n8, hn8⟩ : ∃ n, n = byteAt l 8 := ⟨_, rfl⟩
      obtain ⟨n9, hn9⟩ : ∃ n, n = byteAt l 9 := ⟨_, rfl⟩
      have hlt8 : n8 < 256 := by rw [hn8]; exact UInt8.toNat_lt _
      have hlt9 : n9 < 256 := by rw [hn9]; exact UInt8.toNat_lt _
      have c8 : wr.cell? ⟨b, off + 8, none⟩ = some (.int .u8 (n8 : Int)) := by
        rw [(hby.later hB).cell 8 (by have := Hh.out; omega), hn8]
        simp [byteAt, Hh.out]
      have c9 : wr.cell? ⟨b, off + 9, none⟩ = some (.int .u8 (n9 : Int)) := by
        rw [(hby.later hB).cell 9 (by have := Hh.out; omega), hn9]
        simp [byteAt, Hh.out]
      rw [← hn8] at h8
      have hbad : decOk l = false := mark_bad l (by rw [← hn8]; exact h8)
      have hD : decE l = 4 := by simp [decE, Hh.out, Hs.out, hbad]
      have hDB : decB l = noneB := by simp [decB, hD]
      have HD := Lib.hid hD
      have HDB := Lib.hid hDB
      clear hD hDB hbad
      clear hn8 hn9
      go_wp2_with (first
        | (refine wpList_load_blk rfl (.tmp 4) rfl (w.heap.size + 1) noneB none 0 rfl hn ?_)
        | (refine wpList_store_blk rfl (.tmp 2) (.tmp 47) rfl w.heap.size noneB noneB none none 0 0 rfl rfl hr ?_; intro w8 hr8 hg8; have hB8 := hB.grown hg8 hB.size (fun k hk => by cases hk; exact Nat.le_refl _)))
      exact ret_blk rfl rfl rfl rfl hr8 ⟨none, 0, by rw [HD.out, HDB.out]; rfl, by rw [HDB.out]; exact OwnB.nil _ _, hB8⟩

set_option linter.unusedSimpArgs false in
set_option maxHeartbeats 2000000 in
set_option maxRecDepth 100000 in
theorem refdecode_nine (a : Option Addr) (l : List UInt8) (cap : Nat) (w : World) (h : l.length = 64) (hc : l.length ≤ cap) (hby : IsBytes w a l) (hs : endsB l = true) (h8 : ¬ 15 < byteAt l 8) (h9 : 48 < byteAt l 9) :
    Calls Try.prog 37 #[.slice a l.length cap] w (DecPost l w) := by
  have hB0 : Below w.heap.size w ((w.alloc (.cells (noneB.cells none 0) 43)).alloc (.cells (noneB.cells none 0) 43)) := ((Below.refl _ _).alloc (Nat.le_refl _) _).alloc (by simp) _
  have hR0 : BlkAt ((w.alloc (.cells (noneB.cells none 0) 43)).alloc (.cells (noneB.cells none 0) 43)) w.heap.size noneB none 0 := heap_alloc2_old _ _ _
  have hN0 : BlkAt ((w.alloc (.cells (noneB.cells none 0) 43)).alloc (.cells (noneB.cells none 0) 43)) (w.heap.size + 1) noneB none 0 := heap_alloc2_new _ _ _
  obtain ⟨b, off, rfl⟩ : ∃ b off, a = some ⟨b, off, none⟩ := (by obtain ⟨b, off, e, _⟩ := hby 0 (by omega); exact ⟨b, off, e⟩)
  have he : ∀ W, Below w.heap.size w W → Calls Try.prog 22 #[.slice (some ⟨b, off, none⟩) 64 cap] W fun e w' => e = .returned (.bool true) ∧ Below W.heap.size W w' := fun W hW => by
    have := refends_calls (some ⟨b, off, none⟩) l cap W (by omega) hc (fun e => nomatch e) (hby.later hW)
    rw [hs, h] at this
    exact this
  have Hs := Lib.hid hs
  have Hh := Lib.hid h
  rw [h] at hc ⊢
  clear h hs
  go_enter Try.func37, Try.ntmps37
  go_wp2_with (first
    | (refine wpList_store_blk rfl (.tmp 4) (.tmp 10) rfl (w.heap.size + 1) noneB noneB none none 0 0 rfl rfl hN0 ?_; intro w1 hN1 hg1; have hR1 := hR0.kept hg1 (by simp); have hB1 := hB0.grown hg1 (by simp; omega) (fun k hk => by cases hk; omega); clear hg1)
    | (go_at_call 22; refine (he _ hB1).mono ?_; rintro e w2 ⟨rfl, hB2⟩; have hN2 := hN1.later hB2; have hR2 := hR1.later hB2; have hB3 := below_call hB1 (Nat.le_refl _) hB2; clear hB2)
    | (refine wpList_store_blk rfl (.tmp 5) (.tmp 19) rfl w2.heap.size noneB noneB none none 0 0 rfl rfl (heap_alloc_new _ _) ?_; intro w4 hX4 hg4; have hR4 := BlkAt.kept (hR2.later ((Below.refl _ _).alloc (Nat.le_refl _) _)) hg4 (by have := lt_of_block hR2; intro e; injection e; omega); have hN4 := BlkAt.kept (hN2.later ((Below.refl _ _).alloc (Nat.le_refl _) _)) hg4 (by have := lt_of_block hN2; intro e; injection e; omega); have hB4 := (hB3.alloc hB3.size _).grown hg4 (by have := hB3.size; simp; omega) (fun k hk => by cases hk; exact hB3.size); clear hg4))
  have hlow : w.heap.size + 1 < w2.heap.size := lt_of_block hN2
  obtain ⟨H, hH⟩ : ∃ H, H = w2.heap.size := ⟨_, rfl⟩
  rw [← hH] at hX4 hlow ⊢
  clear hH hR2 hN2 hB3 hR1 hN1 hB1 hR0 hN0 hB0
  go_loopw [6] (fun i wr => ∃ j : Nat, j ≤ 8 ∧ i = .int .i64 ((j : Int) - 1) ∧ BlkAt wr H ⟨leN ((l.take 8).drop j), 0, false, false, []⟩ none 0 ∧ BlkAt wr w.heap.size noneB none 0 ∧ BlkAt wr (w.heap.size + 1) noneB none 0 ∧ Below w.heap.size w wr) (fun i _ => ((intOf i) + 1).toNat)
  case atStart =>
    refine ⟨8, Nat.le_refl _, rfl, ?_, hR4, hN4, hB4⟩
    rw [List.drop_eq_nil_of_le (by rw [List.length_take]; omega)]
    exact hX4
  case round =>
    clear hX4 hR4 hN4 hB4
    obtain ⟨j, hj, rfl, hb, hr, hn, hB⟩ := hrel
    by_cases hlt : 0 < j
    · obtain ⟨q, rfl⟩ : ∃ q, j = q + 1 := ⟨j - 1, by omega⟩
      obtain ⟨y, hy⟩ : ∃ y, y = l[q]'(by have := Hh.out; omega) := ⟨_, rfl⟩
      have pj := (hby.later hB).cell q (by have := Hh.out; omega)
      rw [← hy] at pj
      have ph : wr.cell? ⟨H, 0, none⟩ = some (.int .u64 (leN ((l.take 8).drop (q + 1)) : Nat)) := hb.cell 0 _ rfl
      have pf := hb.free 0
      obtain ⟨hst, hbd⟩ := leN_drop l q y (by omega) Hh.out hy
      have hnew : ∀ u, u = Value.int .u64 ((leN ((l.take 8).drop q) : Nat) : Int) → BlkAt (wr.setCell ⟨H, 0, none⟩ u) H ⟨leN ((l.take 8).drop q), 0, false, false, []⟩ none 0 := fun u hu => hb.stored 0 u (by rw [hu]; rfl)
      obtain ⟨m, hm⟩ : ∃ m, m = leN ((l.take 8).drop (q + 1)) := ⟨_, rfl⟩
      rw [← hm] at ph hst hbd
      have hq64 : (q : Int) < 64 := by omega
      have hyl := y.toNat_lt
      have Hst := Lib.hid hst
      have Hy := Lib.hid hy
      clear hy hm hst
      go_wp2
      go_region
      all_goals
        go_wp2
        go_roundw
      case rel =>
        have h1 := hnew _ (congrArg (Value.int .u64) (by rw [Hst.out]))
        have e1 : w.heap.size ≠ H := by omega
        have e2 : w.heap.size + 1 ≠ H := by omega
        exact ⟨q, by omega, rfl, h1, hr.other _ _ e1, hn.other _ _ e2, (hB.setCell (p := ⟨H, 0, none⟩) (by simp; omega) _).drew⟩
      case measure => simp [intOf]
    · obtain rfl : j = 0 := by omega
      rw [List.drop_zero] at hb
      obtain ⟨n8, hn8⟩ : ∃ n, n = byteAt l 8 := ⟨_, rfl⟩
      obtain ⟨n9, hn9⟩ : ∃ n, n = byteAt l 9 := ⟨_, rfl⟩
      have hlt8 : n8 < 256 := by rw [hn8]; exact UInt8.toNat_lt _
      have hlt9 : n9 < 256 := by rw [hn9]; exact UInt8.toNat_lt _
      have c8 : wr.cell? ⟨b, off + 8, none⟩ = some (.int .u8 (n8 : Int)) := by
        rw [(hby.later hB).cell 8 (by have := Hh.out; omega), hn8]
        simp [byteAt, Hh.out]
      have c9 : wr.cell? ⟨b, off + 9, none⟩ = some (.int .u8 (n9 : Int)) := by
        rw [(hby.later hB).cell 9 (by have := Hh.out; omega), hn9]
        simp [byteAt, Hh.out]
      rw [← hn8] at h8
      rw [← hn9] at h9
      have hbad : decOk l = false := len_bad l Hh.out Hs.out (by rw [← hn9]; exact h9)
      have hD : decE l = 4 := by simp [decE, Hh.out, Hs.out, hbad]
      have hDB : decB l = noneB := by simp [decB, hD]
      have HD := Lib.hid hD
      have HDB := Lib.hid hDB
      clear hD hDB hbad
      clear hn8 hn9
      go_wp2_with (first
        | (refine wpList_load_blk rfl (.tmp 4) rfl (w.heap.size + 1) noneB none 0 rfl hn ?_)
        | (refine wpList_store_blk rfl (.tmp 2) (.tmp 47) rfl w.heap.size noneB noneB none none 0 0 rfl rfl hr ?_; intro w8 hr8 hg8; have hB8 := hB.grown hg8 hB.size (fun k hk => by cases hk; exact Nat.le_refl _)))
      exact ret_blk rfl rfl rfl rfl hr8 ⟨none, 0, by rw [HD.out, HDB.out]; rfl, by rw [HDB.out]; exact OwnB.nil _ _, hB8⟩

end Go.Proofs.Ytdlbjllgdikadaa
