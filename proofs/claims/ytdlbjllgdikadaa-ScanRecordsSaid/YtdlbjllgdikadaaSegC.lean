/- The document's Many, Split, Same, SameAll. -/
import Derived.Test.YtdlbjllgdikadaaSegB
import Derived.Test.YtdlbjllgdikadaaSeq
namespace Go.Proofs.Ytdlbjllgdikadaa
open Go.RowKit

theorem refmany_calls (n : Nat) (hn : n ≤ 70368744177664) (w : World) :
    Calls Try.prog 28 #[.int .i64 (n : Int)] w fun e w' => e = .returned (.int .i64 (manyN n : Nat)) ∧ w = w' := by
  go_enter Try.func28, Try.ntmps28
  go_wp2
  go_loop [0, 3] (fun x c => ∃ j r : Nat, x = .int .i64 r ∧ c = .int .i64 ((j + 1 : Nat) : Int) ∧ 48 * j + r = n ∧ (0 < n → 0 < r)) (fun x _ => (intOf x).toNat)
  case atStart => exact ⟨0, n, rfl, rfl, by omega, fun h => h⟩
  case round =>
    obtain ⟨j, r, rfl, rfl, hsum, hpos⟩ := hrel
    by_cases hlt : 48 < r
    · go_wp2
      go_round
      case rel => exact ⟨j + 1, r - 48, by go_num, by go_num, by omega, fun _ => by omega⟩
      case measure => simp [intOf]; omega
    · go_wp2
      go_ret
      exact ⟨ret_int (by unfold manyN; split <;> omega), rfl⟩

theorem kindB_iff (k : UInt8) : kindB k = true ↔ 1 ≤ k.toNat ∧ k.toNat ≤ 2 := by
  have e1 : k = 1 ↔ k.toNat = 1 := ⟨fun h => by rw [h]; rfl, fun h => UInt8.toNat.inj h⟩
  have e2 : k = 2 ↔ k.toNat = 2 := ⟨fun h => by rw [h]; rfl, fun h => UInt8.toNat.inj h⟩
  simp only [kindB, Bool.or_eq_true, beq_iff_eq, e1, e2]
  omega

set_option maxRecDepth 100000 in
theorem refsplit_bad (k : UInt8) (s : Nat) (hs : s < 18446744073709551616) (a : Option Addr) (rec : List UInt8) (cap : Nat) (hl : rec.length ≤ 70368744177664) (w : World) (hbad : mayS k s rec = false) :
    Calls Try.prog 25 #[.int .u8 (k.toNat : Int), .int .u64 (s : Int), .slice a rec.length cap] w (SplitPost k s rec w) := by
  obtain ⟨m, hm⟩ : ∃ m, m = manyN rec.length := ⟨_, rfl⟩
  have hm1 : 1 ≤ m := hm ▸ manyN_pos _
  have hm2 : m ≤ rec.length + 1 := hm ▸ manyN_le _
  have hmany : ∀ W, Calls Try.prog 28 #[.int .i64 (rec.length : Int)] W fun e w' => e = .returned (.int .i64 (m : Nat)) ∧ W = w' := fun W => by rw [hm]; exact refmany_calls _ hl W
  have Hm := Lib.hid hm
  clear hm
  have he : SplitPost k s rec w (.returned (.tuple #[.slice none 0 0, .int .i64 2])) w :=
    ⟨.slice none 0 0, by simp [splitE, hbad], by simp [splitL, splitE, hbad]; exact OwnBs.nil _ _, Below.refl _ _⟩
  have hk := kindB_iff k
  have hkl := k.toNat_lt
  rw [mayS, ← Hm.out] at hbad
  by_cases h0 : k.toNat < 1
  · clear hbad
    go_enter Try.func25, Try.ntmps25
    go_wp2_with (go_at_call 28; refine (hmany _).mono ?_; rintro e w2 ⟨rfl, rfl⟩)
    go_ret2
    exact he
  · by_cases h1 : 2 < k.toNat
    · clear hbad
      go_enter Try.func25, Try.ntmps25
      go_wp2_with (go_at_call 28; refine (hmany _).mono ?_; rintro e w2 ⟨rfl, rfl⟩)
      go_ret2
      exact he
    · by_cases h2 : s ≤ 1099511627776
      · have h3 : 1099511627776 < s + (m - 1) := by
          rw [hk.2 (by omega)] at hbad
          simp [h2] at hbad
          exact hbad
        clear hbad
        go_enter Try.func25, Try.ntmps25
        go_wp2_with (go_at_call 28; refine (hmany _).mono ?_; rintro e w2 ⟨rfl, rfl⟩)
        go_ret2
        exact he
      · clear hbad
        go_enter Try.func25, Try.ntmps25
        go_wp2_with (go_at_call 28; refine (hmany _).mono ?_; rintro e w2 ⟨rfl, rfl⟩)
        go_ret2
        exact he

set_option maxRecDepth 100000 in
theorem refsplit_long (k : UInt8) (s : Nat) (hs : s < 18446744073709551616) (a : Option Addr) (rec : List UInt8) (cap : Nat) (hl : rec.length ≤ 70368744177664) (w : World) (hbad : mayS k s rec = true) (h3 : 524288 < rec.length) :
    Calls Try.prog 25 #[.int .u8 (k.toNat : Int), .int .u64 (s : Int), .slice a rec.length cap] w (SplitPost k s rec w) := by
  obtain ⟨m, hm⟩ : ∃ m, m = manyN rec.length := ⟨_, rfl⟩
  have hm1 : 1 ≤ m := hm ▸ manyN_pos _
  have hm2 : m ≤ rec.length + 1 := hm ▸ manyN_le _
  have hmany : ∀ W, Calls Try.prog 28 #[.int .i64 (rec.length : Int)] W fun e w' => e = .returned (.int .i64 (m : Nat)) ∧ W = w' := fun W => by rw [hm]; exact refmany_calls _ hl W
  have Hm := Lib.hid hm
  clear hm
  have hmay := hbad
  simp only [mayS, ← Hm.out, Bool.and_eq_true, decide_eq_true_eq, kindB_iff] at hmay
  obtain ⟨⟨⟨hk1, hk2⟩, h1⟩, h2⟩ := hmay
  have hE : splitE k s rec = 3 := by simp [splitE, hbad]; omega
  have HE := Lib.hid hE
  clear hE hbad
  go_enter Try.func25, Try.ntmps25
  go_wp2_with (go_at_call 28; refine (hmany _).mono ?_; rintro e w2 ⟨rfl, rfl⟩)
  go_ret2
  exact ⟨.slice none 0 0, by rw [HE.out]; rfl, by simp [splitL, HE.out]; exact OwnBs.nil _ _, Below.refl _ _⟩

theorem refround_blk {w wr w2 : World} {v v1 : Value} {l : List Blk} {p : List UInt8} (hown : OwnBs wr w.heap.size v l)
    (hown1 : OwnB w2 wr.heap.size v1 ([] ++ p)) (hgr : (wr.alloc (.cells #[] 5)).grownBy w2 (Value.slice (some ⟨wr.heap.size, 0, none⟩) 0 0).ownBlock) (hbel : Below w.heap.size w wr) :
    ∃ ab cb, v1 = .slice ab p.length cb ∧ OwnBs w2 w.heap.size v l ∧ OwnB w2 w.heap.size (.slice ab p.length cb) p ∧ Below w.heap.size w w2 := by
  rw [List.nil_append] at hown1
  obtain ⟨ab, cb, rfl, _⟩ := hown1.slice
  have hB : Below wr.heap.size wr w2 := ((Below.refl _ wr).alloc (Nat.le_refl _) _).grown hgr (by simp) (fun k hk => by simp [Value.ownBlock] at hk; omega)
  exact ⟨ab, cb, rfl, hown.later hB, hown1.mono hbel.size, below_call hbel (Nat.le_refl _) hB⟩

theorem refblk_cells (k : UInt8) (s m j : Nat) (rec : List UInt8) (ab : Option Addr) (cb : Nat) :
    (#[.int .u64 ((s : Int) + (j : Int)), .int .u8 (k.toNat : Int), .bool ((j : Int) == 0), .bool ((j : Int) + 1 == (m : Int)), .slice ab (partB rec j).length cb] : Array Value) = (blkAt k s m rec j).cells ab cb := by
  have e1 : ((j : Int) == 0) = (j == 0) := by rw [Bool.eq_iff_iff]; simp
  have e2 : ((j : Int) + 1 == (m : Int)) = (j + 1 == m) := by rw [Bool.eq_iff_iff]; simp; omega
  simp only [Blk.cells, blkAt, e1, e2]
  simp

set_option maxHeartbeats 1600000 in
set_option maxRecDepth 100000 in
theorem refsplit_good (k : UInt8) (s : Nat) (hs : s < 18446744073709551616) (a : Option Addr) (rec : List UInt8) (cap : Nat) (hl : rec.length ≤ 70368744177664) (w : World) (hbad : mayS k s rec = true) (h3 : rec.length ≤ 524288) (hcap : rec.length ≤ cap) (hno : a = none → rec.length = 0 ∧ cap = 0) (hby : IsBytes w a rec) :
    Calls Try.prog 25 #[.int .u8 (k.toNat : Int), .int .u64 (s : Int), .slice a rec.length cap] w (SplitPost k s rec w) := by
  obtain ⟨m, hm⟩ : ∃ m, m = manyN rec.length := ⟨_, rfl⟩
  have hm1 : 1 ≤ m := hm ▸ manyN_pos _
  have hm2 : m ≤ rec.length + 1 := hm ▸ manyN_le _
  have hmany : ∀ W, Calls Try.prog 28 #[.int .i64 (rec.length : Int)] W fun e w' => e = .returned (.int .i64 (m : Nat)) ∧ W = w' := fun W => by rw [hm]; exact refmany_calls _ hl W
  have hmn : 48 * (m - 1) ≤ rec.length ∧ (0 < rec.length → 48 * (m - 1) < rec.length) ∧ rec.length ≤ 48 * m := by rw [hm]; unfold manyN; split <;> omega
  have Hm := Lib.hid hm
  clear hm
  have hmay := hbad
  simp only [mayS, ← Hm.out, Bool.and_eq_true, decide_eq_true_eq, kindB_iff] at hmay
  obtain ⟨⟨⟨hk1, hk2⟩, h1⟩, h2⟩ := hmay
  have hE : splitE k s rec = 0 := by simp [splitE, hbad, h3]
  have hLs : splitL k s rec = blkTo k s m rec m := by simp [splitL, hE, ← Hm.out]
  have HE := Lib.hid hE
  have HL := Lib.hid hLs
  clear hE hLs hbad
  go_enter Try.func25, Try.ntmps25
  go_wp2_with (go_at_call 28; refine (hmany _).mono ?_; rintro e w2 ⟨rfl, rfl⟩)
  go_loopw [9, 10] (fun v i wr => ∃ j : Nat, j ≤ m ∧ i = .int .i64 j ∧ OwnBs wr w.heap.size v (blkTo k s m rec j) ∧ Below w.heap.size w wr) (fun _ i _ => m - (intOf i).toNat)
  case atStart => exact ⟨0, Nat.zero_le _, rfl, OwnBs.nil _ _, Below.refl _ _⟩
  case round =>
    obtain ⟨j, hj, rfl, hown, hbel⟩ := hrel
    have hsz := hbel.size
    by_cases hlt : j < m
    · have hll : (blkTo k s m rec j).length ≤ 1099511627776 := by rw [blkTo_length]; omega
      have hpb : (partB rec j).length ≤ 48 := by rw [partB, List.length_take]; omega
      by_cases hq : cap = 48 * j
      · have hnil : ∀ W, IsBytes W a (partB rec j) := by
          intro W i hi
          rw [partB, List.length_take, List.length_drop] at hi
          omega
        have he : rec.length < 48 * (j + 1) := by omega
        have hnn : a = none → rec.length - 48 * j = 0 ∧ cap - 48 * j = 0 := fun h => by omega
        have hq1 : cap ≤ 48 * j := by omega
        have hq2 : 48 * j ≤ cap := by omega
        clear hq
        have hpl : rec.length - 48 * j = (partB rec j).length := by rw [partB, List.length_take, List.length_drop]; omega
        have Hpl := Lib.hid hpl
        clear hpl
        go_wp2_with (first | (at_builtin; refine wpList_append_bytes rfl (.tmp 62) (.tmp 67) rfl wr.heap.size (.slice (some ⟨wr.heap.size, 0, none⟩) 0 0) [] rfl (OwnB.made wr wr.heap.size (Nat.le_refl _)) a _ _ (partB rec j) rfl Hpl.out (fun h => hnn h) (hnil _) (by simp; omega) (by simp) ?_; intro v1 w2 hown1 hgr1; have hall := refround_blk hown hown1 hgr1 hbel; clear hown1 hgr1; obtain ⟨ab, cb, rfl, hown2, hbody2, hbel2⟩ := hall; have hs2 := hbel2.size) | (at_builtin; refine wpList_append_blk rfl (.tmp 50) (.tmp 70) rfl w.heap.size _ (blkTo k s m rec j) rfl (hown2.later ((Below.refl _ _).alloc (Nat.le_refl _) _)) (blkAt k s m rec j) ab cb w2.heap.size 1 rfl rfl (fun q u hu => by rw [World.cell?_alloc_new, refblk_cells k s m j rec ab cb]; exact hu) (hbody2.later ((Below.refl _ _).alloc (Nat.le_refl _) _)) hll (by simp; omega) ?_; intro v3 w3 hown3 hgr3))
        go_roundw
        case rel =>
          refine ⟨j + 1, by omega, by go_num, by rw [blkTo_succ]; exact hown3, ?_⟩
          exact (hbel2.alloc (by omega) _).grown hgr3 (by simp; omega) (fun q hq => (hown2.blk q hq).1)
        case measure => simp [intOf]; omega
      · have hqc : 48 * j < cap := by omega
        have hdrop : IsBytes w (a.map fun x => x.add (48 * j)) (partB rec j) := by
          have h4 := (hby.drop (48 * j) cap hcap).take 48
          rw [if_neg hq] at h4
          exact h4
        have hnone : (a.map fun x => x.add (48 * j)) = none → False := by
          intro h
          rw [Option.map_eq_none_iff] at h
          have := hno h
          omega
        by_cases he : rec.length < 48 * (j + 1)
        · have hpl : rec.length - 48 * j = (partB rec j).length := by rw [partB, List.length_take, List.length_drop]; omega
          have Hpl := Lib.hid hpl
          clear hpl
          go_wp2_with (first | (at_builtin; refine wpList_append_bytes rfl (.tmp 62) (.tmp 67) rfl wr.heap.size (.slice (some ⟨wr.heap.size, 0, none⟩) 0 0) [] rfl (OwnB.made wr wr.heap.size (Nat.le_refl _)) (a.map fun x => x.add (48 * j)) _ _ (partB rec j) rfl Hpl.out (fun h => (hnone h).elim) ((hdrop.later (hbel.mono (Nat.le_refl _))).alloc _) (by simp; omega) (by simp) ?_; intro v1 w2 hown1 hgr1; have hall := refround_blk hown hown1 hgr1 hbel; clear hown1 hgr1; obtain ⟨ab, cb, rfl, hown2, hbody2, hbel2⟩ := hall; have hs2 := hbel2.size) | (at_builtin; refine wpList_append_blk rfl (.tmp 50) (.tmp 70) rfl w.heap.size _ (blkTo k s m rec j) rfl (hown2.later ((Below.refl _ _).alloc (Nat.le_refl _) _)) (blkAt k s m rec j) ab cb w2.heap.size 1 rfl rfl (fun q u hu => by rw [World.cell?_alloc_new, refblk_cells k s m j rec ab cb]; exact hu) (hbody2.later ((Below.refl _ _).alloc (Nat.le_refl _) _)) hll (by simp; omega) ?_; intro v3 w3 hown3 hgr3))
          go_roundw
          case rel =>
            refine ⟨j + 1, by omega, by go_num, by rw [blkTo_succ]; exact hown3, ?_⟩
            exact (hbel2.alloc (by omega) _).grown hgr3 (by simp; omega) (fun q hq => (hown2.blk q hq).1)
          case measure => simp [intOf]; omega
        · have hpl : 48 = (partB rec j).length := by rw [partB, List.length_take, List.length_drop]; omega
          have Hpl := Lib.hid hpl
          clear hpl
          go_wp2_with (first | (at_builtin; refine wpList_append_bytes rfl (.tmp 62) (.tmp 67) rfl wr.heap.size (.slice (some ⟨wr.heap.size, 0, none⟩) 0 0) [] rfl (OwnB.made wr wr.heap.size (Nat.le_refl _)) (a.map fun x => x.add (48 * j)) _ _ (partB rec j) rfl (by have := Hpl.out; omega) (fun h => (hnone h).elim) ((hdrop.later (hbel.mono (Nat.le_refl _))).alloc _) (by simp; omega) (by simp) ?_; intro v1 w2 hown1 hgr1; have hall := refround_blk hown hown1 hgr1 hbel; clear hown1 hgr1; obtain ⟨ab, cb, rfl, hown2, hbody2, hbel2⟩ := hall; have hs2 := hbel2.size) | (at_builtin; refine wpList_append_blk rfl (.tmp 50) (.tmp 70) rfl w.heap.size _ (blkTo k s m rec j) rfl (hown2.later ((Below.refl _ _).alloc (Nat.le_refl _) _)) (blkAt k s m rec j) ab cb w2.heap.size 1 rfl rfl (fun q u hu => by rw [World.cell?_alloc_new, refblk_cells k s m j rec ab cb]; exact hu) (hbody2.later ((Below.refl _ _).alloc (Nat.le_refl _) _)) hll (by simp; omega) ?_; intro v3 w3 hown3 hgr3))
          go_roundw
          case rel =>
            refine ⟨j + 1, by omega, by go_num, by rw [blkTo_succ]; exact hown3, ?_⟩
            exact (hbel2.alloc (by omega) _).grown hgr3 (by simp; omega) (fun q hq => (hown2.blk q hq).1)
          case measure => simp [intOf]; omega
    · obtain rfl : j = m := by omega
      go_wp2
      go_ret2
      exact ⟨_, by rw [HE.out]; rfl, by rw [HL.out]; exact hown, hbel⟩

theorem refsplit_calls (k : UInt8) (s : Nat) (hs : s < 18446744073709551616) (a : Option Addr) (rec : List UInt8) (cap : Nat) (hcap : rec.length ≤ cap) (hl : rec.length ≤ 70368744177664) (w : World) (hno : a = none → rec.length = 0 ∧ cap = 0) (hby : IsBytes w a rec) :
    Calls Try.prog 25 #[.int .u8 (k.toNat : Int), .int .u64 (s : Int), .slice a rec.length cap] w (SplitPost k s rec w) := by
  by_cases h1 : mayS k s rec = true
  · by_cases h2 : rec.length ≤ 524288
    · exact refsplit_good k s hs a rec cap hl w h1 h2 hcap hno hby
    · exact refsplit_long k s hs a rec cap hl w h1 (by omega)
  · exact refsplit_bad k s hs a rec cap hl w (by simpa using h1)

end Go.Proofs.Ytdlbjllgdikadaa
