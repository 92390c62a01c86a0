/- segment.Split. -/
import Derived.Test.YtdlbjllgdikadaaBlks
namespace Go.Proofs.Ytdlbjllgdikadaa
open Go.RowKit

def partB (rec : List UInt8) (i : Nat) : List UInt8 := (rec.drop (48 * i)).take 48
def blkAt (k : UInt8) (s many : Nat) (rec : List UInt8) (i : Nat) : Blk := ⟨s + i, k, i == 0, i + 1 == many, partB rec i⟩
def blkTo (k : UInt8) (s many : Nat) (rec : List UInt8) (n : Nat) : List Blk := (List.range n).map (blkAt k s many rec)
theorem blkTo_succ (k : UInt8) (s many : Nat) (rec : List UInt8) (n : Nat) : blkTo k s many rec (n + 1) = blkTo k s many rec n ++ [blkAt k s many rec n] := by
  simp [blkTo, List.range_succ]
theorem blkTo_length (k : UInt8) (s many : Nat) (rec : List UInt8) (n : Nat) : (blkTo k s many rec n).length = n := by simp [blkTo]

theorem IsBytes.under {N : Nat} {w w' : World} {a : Option Addr} {l : List UInt8} (h : IsBytes w a l) (hb : Below N w w') (hlt : ∀ b off, a = some ⟨b, off, none⟩ → 0 < l.length → b < N) : IsBytes w' a l := by
  intro i hi
  obtain ⟨b, off, e, hc⟩ := h i hi
  exact ⟨b, off, e, (hb.cell (p := ⟨b, off + i, none⟩) (hlt b off e (by omega))).trans hc⟩

def mayS (k : UInt8) (s : Nat) (rec : List UInt8) : Bool := kindB k && decide (s ≤ 1099511627776) && decide (s + (manyN rec.length - 1) ≤ 1099511627776)
def splitE (k : UInt8) (s : Nat) (rec : List UInt8) : Nat := if mayS k s rec then (if rec.length ≤ 524288 then 0 else 3) else 2
def splitL (k : UInt8) (s : Nat) (rec : List UInt8) : List Blk := if splitE k s rec = 0 then blkTo k s (manyN rec.length) rec (manyN rec.length) else []

/-- The variable that the closure captures. -/
def LeftAt (w : World) (L : Nat) (l : List UInt8) : Prop :=
  ∃ a cap, w.heap[L]? = some (.cells #[.slice a l.length cap] 22 (0, 0)) ∧ IsBytes w a l ∧ l.length ≤ cap ∧ (a = none → l.length = 0 ∧ cap = 0) ∧ ∀ b off, a = some ⟨b, off, none⟩ → 0 < l.length → b < L

theorem LeftAt.cut {w : World} {L n cap : Nat} {a : Option Addr} {v : Value} {l : List UInt8} (hblk : w.heap[L]? = some (.cells #[v] 22 (0, 0))) (hby : IsBytes w a l) (hcap : l.length ≤ cap) (hn : n ≤ l.length)
    (hlt : ∀ b off, a = some ⟨b, off, none⟩ → 0 < l.length → b < L) (hq : cap ≠ n) (hno : a = none → l.length = 0 ∧ cap = 0) (f : Addr → Addr) (hf : ∀ b off, f ⟨b, off, none⟩ = ⟨b, off + n, none⟩) :
    LeftAt (w.setCell ⟨L, 0, none⟩ (.slice (a.map f) (l.length - n) (cap - n))) L (l.drop n) := by
  refine ⟨_, _, by rw [List.length_drop]; exact one_setCell hblk, ?_, by rw [List.length_drop]; omega, ?_, ?_⟩
  · have h2 := hby.drop n cap hcap
    rw [if_neg hq] at h2
    intro i hi
    obtain ⟨b, off, e, hc⟩ := h2 i hi
    rw [List.length_drop] at hi
    obtain ⟨b0, o0, e0, _⟩ := hby 0 (by omega)
    subst e0
    rw [Option.map_some, Addr.add_lit] at e
    cases e
    have hb : b < L := hlt b o0 rfl (by omega)
    refine ⟨b, o0 + n, by rw [Option.map_some, hf], ?_⟩
    rw [World.cell?_of_block (w := w) (Below.heap_setCell _ _ _ _ (by simp; omega))]
    exact hc
  · intro h
    rw [Option.map_eq_none_iff] at h
    have := hno h
    rw [List.length_drop]; omega
  · intro b off e hpos
    rw [List.length_drop] at hpos
    obtain ⟨b0, o0, e0, _⟩ := hby 0 (by omega)
    subst e0
    obtain ⟨b1, o1, e1, _⟩ := hby 0 (by omega)
    cases e1
    rw [Option.map_some, hf] at e
    cases e
    exact hlt _ _ rfl (by omega)

theorem LeftAt.none {w : World} {L : Nat} {a : Option Addr} {v : Value} (hblk : w.heap[L]? = some (.cells #[v] 22 (0, 0))) :
    LeftAt (w.setCell ⟨L, 0, none⟩ (.slice a 0 0)) L [] :=
  ⟨_, _, one_setCell hblk, IsBytes.nil _ _, Nat.le_refl _, fun _ => ⟨rfl, rfl⟩, fun _ _ _ h => absurd h (Nat.lt_irrefl 0)⟩

def PartPost (w : World) (L : Nat) (l : List UInt8) (e : Ending) (w' : World) : Prop :=
  ∃ v w1 u, e = .returned v ∧ OwnB w1 w.heap.size v (l.take 48) ∧ Below w.heap.size w w1 ∧ w' = w1.setCell ⟨L, 0, none⟩ u ∧ LeftAt w' L (l.drop 48) ∧ L < w.heap.size

set_option maxRecDepth 100000 in
theorem part_calls (L : Nat) (l : List UInt8) (hl : l.length ≤ 70368744177664) (w : World) (hL : LeftAt w L l) :
    Calls Try.prog 88 #[.pointer (some ⟨L, 0, none⟩)] w (PartPost w L l) := by
  obtain ⟨a, cap, hblk, hby, hcap, hno, hlt⟩ := hL
  have hc := cell_of_one hblk
  have hLs := lt_of_block hblk
  by_cases hs : l.length ≤ 48
  · have hd : l.drop 48 = [] := List.drop_eq_nil_of_le hs
    have ht : l.take 48 = l := List.take_of_length_le hs
    have hclone := clone_calls a l cap w (by omega) hno hby
    have Hd := Lib.hid hd
    have Ht := Lib.hid ht
    clear hd ht
    by_cases hq : cap = l.length
    · subst hq
      go_enter Try.func88, Try.ntmps88
      go_wp2_with (go_at_call 89; refine hclone.mono ?_; rintro e w2 ⟨v, rfl, hown, hB⟩; have hblk2 := (hB.block L hLs).trans hblk; have hc2 := cell_of_one hblk2; have hf2 := free_of_one hblk2)
      go_ret
      exact ⟨_, w2, _, rfl, by rw [Ht.out]; exact hown, hB, rfl, by rw [Hd.out]; exact LeftAt.none hblk2, hLs⟩
    · have hlc : l.length < cap := by omega
      go_enter Try.func88, Try.ntmps88
      go_wp2_with (go_at_call 89; refine hclone.mono ?_; rintro e w2 ⟨v, rfl, hown, hB⟩; have hblk2 := (hB.block L hLs).trans hblk; have hc2 := cell_of_one hblk2; have hf2 := free_of_one hblk2)
      go_ret
      have := LeftAt.cut (n := l.length) hblk2 (hby.later hB) hcap (Nat.le_refl _) hlt (by omega) hno (fun x => x.add l.length) (fun b o => Addr.add_lit b o l.length)
      rw [List.drop_length, Nat.sub_self] at this
      exact ⟨_, w2, _, rfl, by rw [Ht.out]; exact hown, hB, rfl, by rw [Hd.out]; exact this, hLs⟩
  · have htl : (l.take 48).length = 48 := by rw [List.length_take]; omega
    have hclone := clone_calls a (l.take 48) cap w (by omega) (fun h => by have := hno h; omega) (hby.take 48)
    rw [htl] at hclone
    have Htl := Lib.hid htl
    clear htl
    by_cases hq : cap = 48
    · omega
    · have hlc : 48 < cap := by omega
      go_enter Try.func88, Try.ntmps88
      go_wp2_with (go_at_call 89; refine hclone.mono ?_; rintro e w2 ⟨v, rfl, hown, hB⟩; have hblk2 := (hB.block L hLs).trans hblk; have hc2 := cell_of_one hblk2; have hf2 := free_of_one hblk2)
      go_ret
      exact ⟨_, w2, _, rfl, hown, hB, rfl, LeftAt.cut (n := 48) hblk2 (hby.later hB) hcap (by omega) hlt (by omega) hno _ (fun _ _ => rfl), hLs⟩

theorem partB_drop (rec : List UInt8) (i : Nat) : (rec.drop (48 * i)).take 48 = partB rec i := rfl

theorem manyN_le (n : Nat) : manyN n ≤ n + 1 := by unfold manyN; split <;> omega
theorem manyN_pos (n : Nat) : 1 ≤ manyN n := by unfold manyN; split <;> omega

def SplitPost (k : UInt8) (s : Nat) (rec : List UInt8) (w : World) (e : Ending) (w' : World) : Prop :=
  ∃ v, e = .returned (.tuple #[v, .int .i64 (splitE k s rec : Nat)]) ∧ OwnBs w' w.heap.size v (splitL k s rec) ∧ Below w.heap.size w w'

theorem LeftAt.lt {w : World} {L : Nat} {l : List UInt8} (h : LeftAt w L l) : L < w.heap.size := by
  obtain ⟨_, _, h1, _⟩ := h
  exact lt_of_block h1

theorem LeftAt.later {w w' : World} {L : Nat} {l : List UInt8} (h : LeftAt w L l) (hb : Below w.heap.size w w') : LeftAt w' L l := by
  obtain ⟨a, cap, h1, h2, h3, h4, h5⟩ := h
  exact ⟨a, cap, (hb.block L (lt_of_block h1)).trans h1, h2.later hb, h3, h4, h5⟩

theorem LeftAt.grown {w w' : World} {L : Nat} {l : List UInt8} (h : LeftAt w L l) {row : Option Nat} (hg : w.grownBy w' row) (hr : row ≠ some L) (hlow : ∀ k, row = some k → L ≤ k) : LeftAt w' L l := by
  obtain ⟨a, cap, h1, h2, h3, h4, h5⟩ := h
  have hL := lt_of_block h1
  refine ⟨a, cap, (hg.block L hL (fun e => hr e.symm)).trans h1, ?_, h3, h4, h5⟩
  exact h2.under ((Below.refl L w).grown hg (Nat.le_of_lt hL) hlow) h5

set_option maxRecDepth 100000 in
theorem split_bad (k : UInt8) (s : Nat) (hs : s < 18446744073709551616) (a : Option Addr) (rec : List UInt8) (cap : Nat) (_hcap : rec.length ≤ cap) (hl : rec.length ≤ 70368744177664) (w : World) (_hno : a = none → rec.length = 0 ∧ cap = 0) (_hby : IsBytes w a rec) (hbad : mayS k s rec = false) :
    Calls Try.prog 24 #[.int .u8 (k.toNat : Int), .int .u64 (s : Int), .slice a rec.length cap] w (SplitPost k s rec w) := by
  obtain ⟨m, hm⟩ : ∃ m, m = manyN rec.length := ⟨_, rfl⟩
  have hm1 : 1 ≤ m := hm ▸ manyN_pos _
  have hm2 : m ≤ rec.length + 1 := hm ▸ manyN_le _
  have hmany : ∀ W, Calls Try.prog 27 #[.int .i64 (rec.length : Int)] W fun e w' => e = .returned (.int .i64 (m : Nat)) ∧ W = w' := fun W => by rw [hm]; exact many_calls _ (by omega) W
  obtain ⟨q, hq⟩ : ∃ q, q = kindB k := ⟨_, rfl⟩
  have hk : ∀ W, Calls Try.prog 87 #[.int .u8 (k.toNat : Int)] W fun e w' => e = .returned (.bool q) ∧ W = w' := fun W => by rw [hq]; exact isKind_calls k W
  have Hq : Hid (kindB k = q) := hq.symm
  have Hm := Lib.hid hm
  clear hq hm
  have he : SplitPost k s rec w (.returned (.tuple #[.slice none 0 0, .int .i64 2])) w :=
    ⟨.slice none 0 0, by simp [splitE, hbad], by simp [splitL, splitE, hbad]; exact OwnBs.nil _ _, Below.refl _ _⟩
  have Hbad := Lib.hid hbad
  clear hbad
  cases q with
  | false =>
    go_enter Try.func24, Try.ntmps24
    go_wp2_with (first | (go_at_call 27; refine (hmany _).mono ?_; rintro e w2 ⟨rfl, rfl⟩) | (go_at_call 87; refine (hk _).mono ?_; rintro e w2 ⟨rfl, rfl⟩))
    go_ret2
    exact he
  | true =>
    by_cases h1 : s ≤ 1099511627776
    · have h2 : 1099511627776 < s + (m - 1) := by
        have := Hbad.out
        simp only [mayS, Hq.out, h1, ← Hm.out] at this
        simp at this
        omega
      go_enter Try.func24, Try.ntmps24
      go_wp2_with (first | (go_at_call 27; refine (hmany _).mono ?_; rintro e w2 ⟨rfl, rfl⟩) | (go_at_call 87; refine (hk _).mono ?_; rintro e w2 ⟨rfl, rfl⟩))
      go_ret2
      exact he
    · go_enter Try.func24, Try.ntmps24
      go_wp2_with (first | (go_at_call 27; refine (hmany _).mono ?_; rintro e w2 ⟨rfl, rfl⟩) | (go_at_call 87; refine (hk _).mono ?_; rintro e w2 ⟨rfl, rfl⟩))
      go_ret2
      exact he

set_option maxRecDepth 100000 in
theorem split_long (k : UInt8) (s : Nat) (hs : s < 18446744073709551616) (a : Option Addr) (rec : List UInt8) (cap : Nat) (_hcap : rec.length ≤ cap) (hl : rec.length ≤ 70368744177664) (w : World) (_hno : a = none → rec.length = 0 ∧ cap = 0) (_hby : IsBytes w a rec) (hbad : mayS k s rec = true) (h3 : 524288 < rec.length) :
    Calls Try.prog 24 #[.int .u8 (k.toNat : Int), .int .u64 (s : Int), .slice a rec.length cap] w (SplitPost k s rec w) := by
  obtain ⟨m, hm⟩ : ∃ m, m = manyN rec.length := ⟨_, rfl⟩
  have hm1 : 1 ≤ m := hm ▸ manyN_pos _
  have hm2 : m ≤ rec.length + 1 := hm ▸ manyN_le _
  have hmany : ∀ W, Calls Try.prog 27 #[.int .i64 (rec.length : Int)] W fun e w' => e = .returned (.int .i64 (m : Nat)) ∧ W = w' := fun W => by rw [hm]; exact many_calls _ (by omega) W
  obtain ⟨q, hq⟩ : ∃ q, q = kindB k := ⟨_, rfl⟩
  have hk : ∀ W, Calls Try.prog 87 #[.int .u8 (k.toNat : Int)] W fun e w' => e = .returned (.bool q) ∧ W = w' := fun W => by rw [hq]; exact isKind_calls k W
  have Hq : Hid (kindB k = q) := hq.symm
  have Hm := Lib.hid hm
  clear hq hm
  have hmay := hbad
  simp only [mayS, Hq.out, ← Hm.out, Bool.and_eq_true, decide_eq_true_eq] at hmay
  obtain ⟨⟨rfl, h1⟩, h2⟩ := hmay
  have hE : splitE k s rec = 3 := by simp [splitE, hbad]; omega
  have HE := Lib.hid hE
  clear hE hbad
  go_enter Try.func24, Try.ntmps24
  go_wp2_with (first | (go_at_call 27; refine (hmany _).mono ?_; rintro e w2 ⟨rfl, rfl⟩) | (go_at_call 87; refine (hk _).mono ?_; rintro e w2 ⟨rfl, rfl⟩))
  go_ret2
  exact ⟨.slice none 0 0, by rw [HE.out]; rfl, by simp [splitL, HE.out]; exact OwnBs.nil _ _, Below.refl _ _⟩

/-- What a round's call of the closure leaves. -/
theorem round_blk {wr w1 w2 : World} {B : Nat} {v v1 u : Value} {l : List Blk} {rec p : List UInt8} (hown : OwnBs wr B v l) (hleft : LeftAt wr B rec)
    (hv1 : OwnB w1 wr.heap.size v1 p) (hB1 : Below wr.heap.size wr w1) (hw2 : w2 = w1.setCell ⟨B, 0, none⟩ u) :
    ∃ ab cb, v1 = .slice ab p.length cb ∧ OwnBs w2 B v l ∧ OwnB w2 B (.slice ab p.length cb) p ∧ w1.heap.size ≤ w2.heap.size ∧ Below B wr w2 := by
  obtain ⟨ab, cb, rfl, _⟩ := hv1.slice
  obtain ⟨a0, c0, hblk, _⟩ := hleft
  have hlt := lt_of_block hblk
  have hblk1 := (hB1.block B hlt).trans hblk
  subst hw2
  refine ⟨ab, cb, rfl, (hown.later hB1).other hblk1 (by decide) (by decide) 0 u, ?_, by simp, ?_⟩
  · refine ownsRow_setCell_other (hv1.mono (Nat.le_of_lt hlt)) ?_ u
    intro e
    obtain ⟨c', f', h'⟩ := Lib.ownsRow_kind hv1 _ e
    rw [hblk1] at h'
    simp at h'
  · exact (hB1.mono (Nat.le_of_lt hlt)).setCell (Nat.le_refl _) u

theorem blk_cells (k : UInt8) (s m j : Nat) (rec : List UInt8) (ab : Option Addr) (cb : Nat) :
    (#[.int .u64 ((s : Int) + (j : Int)), .int .u8 (k.toNat : Int), .bool ((j : Int) == 0), .bool ((j : Int) == (m : Int) - 1), .slice ab (min 48 (rec.length - 48 * j)) cb] : Array Value) = (blkAt k s m rec j).cells ab cb := by
  have e1 : ((j : Int) == 0) = (j == 0) := by rw [Bool.eq_iff_iff]; simp
  have e2 : ((j : Int) == (m : Int) - 1) = (j + 1 == m) := by rw [Bool.eq_iff_iff]; simp; omega
  simp only [Blk.cells, blkAt, partB, e1, e2, List.length_take, List.length_drop]
  simp

set_option maxRecDepth 100000 in
theorem split_good (k : UInt8) (s : Nat) (hs : s < 18446744073709551616) (a : Option Addr) (rec : List UInt8) (cap : Nat) (hcap : rec.length ≤ cap) (hl : rec.length ≤ 70368744177664) (w : World) (hno : a = none → rec.length = 0 ∧ cap = 0) (hby : IsBytes w a rec) (hbad : mayS k s rec = true) (h3 : rec.length ≤ 524288) :
    Calls Try.prog 24 #[.int .u8 (k.toNat : Int), .int .u64 (s : Int), .slice a rec.length cap] w (SplitPost k s rec w) := by
  obtain ⟨m, hm⟩ : ∃ m, m = manyN rec.length := ⟨_, rfl⟩
  have hm1 : 1 ≤ m := hm ▸ manyN_pos _
  have hm2 : m ≤ rec.length + 1 := hm ▸ manyN_le _
  have hmany : ∀ W, Calls Try.prog 27 #[.int .i64 (rec.length : Int)] W fun e w' => e = .returned (.int .i64 (m : Nat)) ∧ W = w' := fun W => by rw [hm]; exact many_calls _ (by omega) W
  obtain ⟨q, hq⟩ : ∃ q, q = kindB k := ⟨_, rfl⟩
  have hk : ∀ W, Calls Try.prog 87 #[.int .u8 (k.toNat : Int)] W fun e w' => e = .returned (.bool q) ∧ W = w' := fun W => by rw [hq]; exact isKind_calls k W
  have Hq : Hid (kindB k = q) := hq.symm
  have Hm := Lib.hid hm
  clear hq hm
  have hmay := hbad
  simp only [mayS, Hq.out, ← Hm.out, Bool.and_eq_true, decide_eq_true_eq] at hmay
  obtain ⟨⟨rfl, h1⟩, h2⟩ := hmay
  have hE : splitE k s rec = 0 := by simp [splitE, hbad, h3]
  have hLs : splitL k s rec = blkTo k s m rec m := by simp [splitL, hE, ← Hm.out]
  have HE := Lib.hid hE
  have HL := Lib.hid hLs
  clear hE hLs hbad
  have hA : Below w.heap.size w (w.alloc (.cells #[.slice a rec.length cap] 22)) := (Below.refl _ _).alloc (Nat.le_refl _) _
  have hL0 : LeftAt (w.alloc (.cells #[.slice a rec.length cap] 22)) w.heap.size rec :=
    ⟨a, cap, heap_alloc_new _ _, hby.alloc _, hcap, hno, fun b off e hpos => hby.lt e hpos⟩
  go_enter Try.func24, Try.ntmps24
  go_wp2_with (first | (go_at_call 27; refine (hmany _).mono ?_; rintro e w2 ⟨rfl, rfl⟩) | (go_at_call 87; refine (hk _).mono ?_; rintro e w2 ⟨rfl, rfl⟩))
  go_loopw [11, 39] (fun v i wr => ∃ j : Nat, j ≤ m ∧ i = .int .i64 j ∧ OwnBs wr w.heap.size v (blkTo k s m rec j) ∧ LeftAt wr w.heap.size (rec.drop (48 * j)) ∧ Below w.heap.size w wr) (fun _ i _ => m - (intOf i).toNat)
  case atStart => exact ⟨0, Nat.zero_le _, rfl, OwnBs.nil _ _, hL0, hA⟩
  case round =>
    obtain ⟨j, hj, rfl, hown, hleft, hbel⟩ := hrel
    clear hL0 hA
    have hsz := hbel.size
    have hLlt := hleft.lt
    by_cases hlt : j < m
    · have hpl : (rec.drop (48 * j)).length ≤ 70368744177664 := by rw [List.length_drop]; omega
      have hpart := part_calls w.heap.size _ hpl _ hleft
      have hll : (blkTo k s m rec j).length ≤ 1099511627776 := by rw [blkTo_length]; omega
      go_wp2_with (first | (go_at_call 88; refine hpart.mono ?_; rintro e w2 ⟨v1, w1, u, rfl, hv1, hB1, hw2, hleft2, hlt2⟩; have hall := round_blk hown hleft hv1 hB1 hw2; clear hw2; obtain ⟨ab, cb, rfl, hown2, hbody2, hsz2, hbel2⟩ := hall; have hs2 := hbel2.size) | (at_builtin; refine wpList_append_blk rfl (.tmp 42) (.tmp 57) rfl w.heap.size _ (blkTo k s m rec j) rfl (hown2.later ((Below.refl _ _).alloc (Nat.le_refl _) _)) (blkAt k s m rec j) ab cb w2.heap.size 1 rfl rfl (fun q u hu => by rw [World.cell?_alloc_new, blk_cells k s m j rec ab cb]; exact hu) (hbody2.later ((Below.refl _ _).alloc (Nat.le_refl _) _)) hll (by simp; omega) ?_; intro v3 w3 hown3 hgr3))
      go_roundw
      case rel =>
        refine ⟨j + 1, by omega, by go_num, by rw [blkTo_succ]; exact hown3, ?_, ?_⟩
        · rw [Nat.mul_add, Nat.mul_one, ← List.drop_drop]
          refine (hleft2.later ((Below.refl _ _).alloc (Nat.le_refl _) _)).grown hgr3 ?_ (fun q hq => (hown2.blk q hq).1)
          intro e
          obtain ⟨c1, f1, z1⟩ := hown2.kind _ e
          obtain ⟨a4, c4, z4, _⟩ := hleft2
          rw [z4] at z1
          simp at z1
        · exact ((hbel.trans hbel2).alloc (by omega) _).grown hgr3 (by simp; omega) (fun q hq => (hown2.blk q hq).1)
      case measure => simp [intOf]; omega
    · obtain rfl : j = m := by omega
      go_wp2
      go_ret2
      exact ⟨_, by rw [HE.out]; rfl, by rw [HL.out]; exact hown, hbel⟩

theorem split_calls (k : UInt8) (s : Nat) (hs : s < 18446744073709551616) (a : Option Addr) (rec : List UInt8) (cap : Nat) (hcap : rec.length ≤ cap) (hl : rec.length ≤ 70368744177664) (w : World) (hno : a = none → rec.length = 0 ∧ cap = 0) (hby : IsBytes w a rec) :
    Calls Try.prog 24 #[.int .u8 (k.toNat : Int), .int .u64 (s : Int), .slice a rec.length cap] w (SplitPost k s rec w) := by
  by_cases h1 : mayS k s rec = true
  · by_cases h2 : rec.length ≤ 524288
    · exact split_good k s hs a rec cap hcap hl w hno hby h1 h2
    · exact split_long k s hs a rec cap hcap hl w hno hby h1 (by omega)
  · exact split_bad k s hs a rec cap hcap hl w hno hby (by simpa using h1)

end Go.Proofs.Ytdlbjllgdikadaa
