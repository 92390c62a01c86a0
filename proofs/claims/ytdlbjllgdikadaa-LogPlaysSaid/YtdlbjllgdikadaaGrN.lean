/- The document's device: its functions. The document's device: Write. -/
import Derived.Test.YtdlbjllgdikadaaGrM
namespace Go.Proofs.Ytdlbjllgdikadaa
open Go.RowKit

structure RDev where
  B : List UInt8
  set : Bool
  off : Bool
  writes : Int
  prefix_ : Int

def strV (l : List UInt8) : Value := .string ⟨l.toArray⟩
def RDev.cells (r : RDev) : Array Value := #[strV r.B, .bool r.set, .bool r.off, .int .i64 r.writes, .int .i64 r.prefix_]
/-- The document's device in memory. -/
def RefAt (w : World) (V : Nat) (r : RDev) : Prop := w.heap[V]? = some (.cells r.cells 70 (0, 0))

theorem RefAt.cell {w : World} {V : Nat} {r : RDev} (h : RefAt w V r) (q : Nat) (u : Value) (hu : r.cells[q]? = some u) : w.cell? ⟨V, q, none⟩ = some u := by
  rw [cell_of_row w V q _ _ _ h, hu]
theorem RefAt.c0 {w : World} {V : Nat} {r : RDev} (h : RefAt w V r) : w.cell? ⟨V, 0, none⟩ = some (.string ⟨r.B.toArray⟩) := h.cell 0 _ rfl
theorem RefAt.c1 {w : World} {V : Nat} {r : RDev} (h : RefAt w V r) : w.cell? ⟨V, 1, none⟩ = some (.bool r.set) := h.cell 1 _ rfl
theorem RefAt.c2 {w : World} {V : Nat} {r : RDev} (h : RefAt w V r) : w.cell? ⟨V, 2, none⟩ = some (.bool r.off) := h.cell 2 _ rfl
theorem RefAt.c3 {w : World} {V : Nat} {r : RDev} (h : RefAt w V r) : w.cell? ⟨V, 3, none⟩ = some (.int .i64 r.writes) := h.cell 3 _ rfl
theorem RefAt.c4 {w : World} {V : Nat} {r : RDev} (h : RefAt w V r) : w.cell? ⟨V, 4, none⟩ = some (.int .i64 r.prefix_) := h.cell 4 _ rfl
theorem RefAt.free {w : World} {V : Nat} {r : RDev} (h : RefAt w V r) (q : Nat) : w.frozen? ⟨V, q, none⟩ = false := frozen_of_row w V q _ _ h
theorem RefAt.lt {w : World} {V : Nat} {r : RDev} (h : RefAt w V r) : V < w.heap.size := lt_of_block h
theorem RefAt.later {w w' : World} {V : Nat} {r : RDev} (h : RefAt w V r) (hb : Below w.heap.size w w') : RefAt w' V r := (hb.block V h.lt).trans h
theorem RefAt.aside {T : List Nat} {w w' : World} {V : Nat} {r : RDev} (h : RefAt w V r) (k : Aside T w w') (hV : V ∉ T) : RefAt w' V r := (k.block V h.lt hV).trans h
theorem RefAt.kept {w w' : World} {V : Nat} {r : RDev} {row : Option Nat} (h : RefAt w V r) (hg : w.grownBy w' row) (hV : some V ≠ row) : RefAt w' V r := (hg.block V h.lt hV).trans h
theorem RefAt.stored {w : World} {V : Nat} {r r' : RDev} (h : RefAt w V r) (q : Nat) (u : Value) (hu : r.cells.setIfInBounds q u = r'.cells) : RefAt (w.setCell ⟨V, q, none⟩ u) V r' := by
  unfold RefAt at *
  rw [heap_setCell_same w V q _ 70 _ h, hu]

def rdE (r : RDev) (i : Int) : Nat := if r.off then 11 else if i < 0 ∨ ((r.B.length / 64 : Nat) : Int) ≤ i then 2 else 0
def rdL (r : RDev) (i : Int) : List UInt8 := if rdE r i = 0 then (r.B.drop (64 * i.toNat)).take 64 else []

theorem str_sub (l : List UInt8) (i j : Nat) : (⟨l.toArray⟩ : ByteArray).extract i j = ⟨((l.drop i).take (j - i)).toArray⟩ := by
  apply ByteArray.ext
  rw [ByteArray.data_extract]
  simp

set_option maxRecDepth 100000 in
theorem rread_calls (V : Nat) (r : RDev) (i : Int) (w : World) (h : RefAt w V r) (hl : r.B.length ≤ 1048576) :
    Calls Try.prog 49 #[.pointer (some ⟨V, 0, none⟩), .int .i64 i] w fun e w' => e = .returned (.tuple #[strV (rdL r i), .int .i64 (rdE r i : Nat)]) ∧ w = w' := by
  have c0 := h.c0
  have c2 := h.c2
  cases ho : r.off with
  | true =>
    rw [ho] at c2
    have hE : rdE r i = 11 := by simp [rdE, ho]
    have hL : rdL r i = [] := by simp [rdL, hE]
    rw [hE, hL]
    clear hE hL
    go_enter Try.func49, Try.ntmps49
    go_wp2
    go_ret2
    exact ⟨rfl, rfl⟩
  | false =>
    rw [ho] at c2
    by_cases h1 : i < 0
    · have hE : rdE r i = 2 := by simp [rdE, ho, h1]
      have hL : rdL r i = [] := by simp [rdL, hE]
      rw [hE, hL]
      clear hE hL
      go_enter Try.func49, Try.ntmps49
      go_wp2
      go_ret2
      exact ⟨rfl, rfl⟩
    · by_cases h2 : ((r.B.length / 64 : Nat) : Int) ≤ i
      · have hE : rdE r i = 2 := by rw [rdE, ho, if_neg (by decide), if_pos (.inr h2)]
        have hL : rdL r i = [] := by simp [rdL, hE]
        rw [hE, hL]
        clear hE hL
        have h2' : (r.B.length : Int) / 64 ≤ i := by omega
        go_enter Try.func49, Try.ntmps49
        go_wp2
        go_ret2
        exact ⟨rfl, rfl⟩
      · have hE : rdE r i = 0 := by rw [rdE, ho, if_neg (by decide), if_neg (by omega)]
        obtain ⟨n, rfl⟩ := Int.eq_ofNat_of_zero_le (show 0 ≤ i by omega)
        have hn : 64 * n + 64 ≤ r.B.length := by omega
        have hL : rdL r n = (r.B.drop (64 * n)).take 64 := by simp [rdL, hE]
        rw [hE, hL]
        clear hE hL
        have h2' : (n : Int) < (r.B.length : Int) / 64 := by omega
        go_enter Try.func49, Try.ntmps49
        go_wp2
        go_ret2
        refine ⟨?_, rfl⟩
        show Ending.returned (.tuple #[.string ((⟨r.B.toArray⟩ : ByteArray).extract (64 * n) (64 * n + 64)), .int .i64 0]) = _
        rw [str_sub, show 64 * n + 64 - 64 * n = 64 by omega]
        rfl

def rcE (r : RDev) (n p : Int) : Nat := if r.off then 11 else if n < 0 ∨ p < 0 ∨ 64 < p then 2 else 0
def rcD (r : RDev) (n p : Int) : RDev := if rcE r n p = 0 then { r with set := true, writes := n, prefix_ := p } else r

theorem rcrash_calls (V : Nat) (r : RDev) (n p : Int) (w : World) (h : RefAt w V r) :
    Calls Try.prog 50 #[.pointer (some ⟨V, 0, none⟩), .int .i64 n, .int .i64 p] w fun e w' => e = .returned (.int .i64 (rcE r n p : Nat)) ∧ RefAt w' V (rcD r n p) ∧ w.grownBy w' (some V) := by
  have c2 := h.c2
  have hid : w.grownBy w (some V) := ⟨rfl, rfl, rfl, Nat.le_refl _, fun _ _ _ => rfl⟩
  cases ho : r.off with
  | true =>
    rw [ho] at c2
    have hE : rcE r n p = 11 := by simp [rcE, ho]
    have hD : rcD r n p = r := by simp [rcD, hE]
    rw [hE, hD]
    clear hE hD
    go_enter Try.func50, Try.ntmps50
    go_wp2
    go_ret
    exact ⟨rfl, h, hid⟩
  | false =>
    rw [ho] at c2
    by_cases hbad : n < 0 ∨ p < 0 ∨ 64 < p
    · have hE : rcE r n p = 2 := by simp [rcE, ho, hbad]
      have hD : rcD r n p = r := by simp [rcD, hE]
      rw [hE, hD]
      clear hE hD
      by_cases b1 : n < 0
      · go_enter Try.func50, Try.ntmps50
        go_wp2
        go_ret
        exact ⟨rfl, h, hid⟩
      · by_cases b2 : p < 0
        · go_enter Try.func50, Try.ntmps50
          go_wp2
          go_ret
          exact ⟨rfl, h, hid⟩
        · have b3 : 64 < p := by omega
          go_enter Try.func50, Try.ntmps50
          go_wp2
          go_ret
          exact ⟨rfl, h, hid⟩
    · have hE : rcE r n p = 0 := by simp only [rcE, ho, hbad, if_false]; rfl
      have hD : rcD r n p = { r with set := true, writes := n, prefix_ := p } := by rw [rcD, if_pos hE]
      rw [hE, hD]
      clear hE hD
      have b1 : 0 ≤ n := by omega
      have b2 : 0 ≤ p := by omega
      have b3 : p ≤ 64 := by omega
      have c1 := h.c1
      have c3 := h.c3
      have c4 := h.c4
      have f1 := h.free 1
      have f3 := h.free 3
      have f4 := h.free 4
      have hs := ((h.stored (r' := { r with set := true }) 1 (.bool true) rfl).stored (r' := { r with set := true, writes := n }) 3 (.int .i64 n) rfl).stored (r' := { r with set := true, writes := n, prefix_ := p }) 4 (.int .i64 p) rfl
      clear hbad
      go_enter Try.func50, Try.ntmps50
      go_wp2
      go_ret
      exact ⟨rfl, hs, ⟨rfl, rfl, rfl, by simp, fun k _ hk => by
        have hk' : k ≠ V := fun e => hk (by rw [e])
        rw [heap_setCell_other _ _ _ _ hk', heap_setCell_other _ _ _ _ hk', heap_setCell_other _ _ _ _ hk']⟩⟩

theorem info70s : (Try.prog.info? 70).map (·.size) = some 5 := by kernel_rfl
theorem RDev.one (r : RDev) : r.cells.all (·.oneCell') = true := by simp [RDev.cells, Value.oneCell', strV]

set_option maxRecDepth 100000 in
theorem rcopy_calls (V : Nat) (r : RDev) (w : World) (h : RefAt w V r) :
    Calls Try.prog 54 #[.pointer (some ⟨V, 0, none⟩)] w fun e w' => ∃ V', e = .returned (.pointer (some ⟨V', 0, none⟩)) ∧ RefAt w' V' r ∧ w.heap.size ≤ V' ∧ Below w.heap.size w w' := by
  have c0 := h.c0
  have c1 := h.c1
  have c2 := h.c2
  have c3 := h.c3
  have c4 := h.c4
  go_enter Try.func54, Try.ntmps54
  go_wp2
  go_ret
  exact ⟨w.heap.size, rfl, heap_alloc_new _ _, Nat.le_refl _, (Below.refl _ w).alloc (Nat.le_refl _) _⟩

def rwipeD (r : RDev) : RDev := { r with B := List.replicate r.B.length 0, set := false, off := false }

set_option maxRecDepth 100000 in
theorem rwipe_calls (V : Nat) (r : RDev) (w : World) (h : RefAt w V r) (hl : r.B.length ≤ 1048576) :
    Calls Try.prog 52 #[.pointer (some ⟨V, 0, none⟩)] w fun e w' => e = .returned (.tuple #[]) ∧ RefAt w' V (rwipeD r) ∧ Aside [V] w w' := by
  have c0 := h.c0
  go_enter Try.func52, Try.ntmps52
  go_wp2_with (refine wpList_make_bytes rfl (.tmp 7) (.tmp 7) rfl r.B.length r.B.length r.B.length rfl rfl rfl rfl (by omega) ?_; intro w2 ha2 hg2; have t2 := conv_text (ArrB.bytes ha2) (n := r.B.length) (cap := r.B.length) (by simp); have h2 := h.kept hg2 (fun e => by cases e); have c02 := h2.c0; have f02 := h2.free 0; have c12 := h2.c1; have c22 := h2.c2; have f12 := h2.free 1; have f22 := h2.free 2)
  have hs := ((h2.stored (r' := { r with B := List.replicate r.B.length 0 }) 0 (strV (List.replicate r.B.length 0)) rfl).stored (r' := { r with B := List.replicate r.B.length 0, set := false }) 1 (.bool false) rfl).stored (r' := rwipeD r) 2 (.bool false) rfl
  have hA := ((((Aside.refl [V] w).put hg2 (fun k hk => by cases hk)).setCell ⟨V, 0, none⟩ (strV (List.replicate r.B.length 0)) (fun _ => by simp)).setCell ⟨V, 1, none⟩ (.bool false) (fun _ => by simp)).setCell ⟨V, 2, none⟩ (.bool false) (fun _ => by simp)
  go_end0
  exact ⟨rfl, hs, hA⟩

def rnewD (n : Nat) : RDev := ⟨List.replicate (64 * n) 0, false, false, 0, 0⟩

set_option maxRecDepth 100000 in
theorem rnew_calls (n : Nat) (hn : n ≤ 16384) (w : World) :
    Calls Try.prog 47 #[.int .i64 (n : Int)] w fun e w' => ∃ V, e = .returned (.pointer (some ⟨V, 0, none⟩)) ∧ RefAt w' V (rnewD n) ∧ w.heap.size ≤ V ∧ Below w.heap.size w w' := by
  go_enter Try.func47, Try.ntmps47
  go_wp2_with (refine wpList_make_bytes rfl (.tmp 4) (.tmp 4) rfl (64 * n) _ _ rfl rfl (by simp) (by simp) (by omega) ?_; intro w2 ha2 hg2; have t2 := conv_text (ArrB.bytes ha2) (n := 64 * n) (cap := 64 * n) (by simp))
  go_ret
  have hB : Below w.heap.size w w2 := (Below.refl _ w).grown hg2 (Nat.le_refl _) (fun _ h => nomatch h)
  exact ⟨w2.heap.size, rfl, heap_alloc_new _ _, hB.size, hB.alloc hB.size _⟩

end Go.Proofs.Ytdlbjllgdikadaa

namespace Go.Proofs.Ytdlbjllgdikadaa
open Go.RowKit

def rwE (r : RDev) (i : Int) (l : List UInt8) : Nat := if rdE r i = 0 then (if l.length = 64 then (if r.set && r.writes == 0 then 11 else 0) else 2) else rdE r i
def sub64 (B : List UInt8) (i : Nat) (s : List UInt8) : List UInt8 := B.take (64 * i) ++ s ++ B.drop (64 * i + 64)
def rwD (r : RDev) (i : Int) (l : List UInt8) : RDev :=
  if rdE r i = 0 ∧ l.length = 64 then
    (if r.set && r.writes == 0 then { r with B := sub64 r.B i.toNat (l.take r.prefix_.toNat ++ ((r.B.drop (64 * i.toNat)).take 64).drop r.prefix_.toNat), set := false, off := true }
      else { r with B := sub64 r.B i.toNat l, writes := if r.set then r.writes - 1 else r.writes })
  else r

def RWPost (V : Nat) (r : RDev) (i : Int) (l : List UInt8) (w : World) (e : Ending) (w' : World) : Prop :=
  e = .returned (.int .i64 (rwE r i l : Nat)) ∧ RefAt w' V (rwD r i l) ∧ Aside [V] w w'

theorem rwrite_no (V : Nat) (r : RDev) (i : Int) (a : Option Addr) (l : List UInt8) (cap : Nat) (w : World) (h : RefAt w V r) (hl : r.B.length ≤ 1048576) (hbad : rdE r i ≠ 0) :
    Calls Try.prog 48 #[.pointer (some ⟨V, 0, none⟩), .int .i64 i, .slice a l.length cap] w (RWPost V r i l w) := by
  have hm := rread_calls V r i w h hl
  have hE : rwE r i l = rdE r i := by rw [rwE, if_neg hbad]
  have hD : rwD r i l = r := by rw [rwD, if_neg (fun e => hbad e.1)]
  unfold RWPost
  rw [hE, hD]
  obtain ⟨m, hmm⟩ : ∃ m, m = rdE r i := ⟨_, rfl⟩
  rw [← hmm] at hm hbad ⊢
  have hm0 : ((m : Int) == 0) = false := by rw [beq_eq_false_iff_ne]; omega
  clear hE hD hmm
  go_enter Try.func48, Try.ntmps48
  go_wp2_with (go_at_call 49; refine hm.mono ?_; rintro e w2 ⟨rfl, rfl⟩)
  go_ret
  exact ⟨rfl, h, Aside.refl _ _⟩

theorem rwrite_len (V : Nat) (r : RDev) (i : Int) (a : Option Addr) (l : List UInt8) (cap : Nat) (w : World) (h : RefAt w V r) (hl : r.B.length ≤ 1048576) (hok : rdE r i = 0) (h64 : l.length ≠ 64) :
    Calls Try.prog 48 #[.pointer (some ⟨V, 0, none⟩), .int .i64 i, .slice a l.length cap] w (RWPost V r i l w) := by
  have hm := rread_calls V r i w h hl
  have hE : rwE r i l = 2 := by rw [rwE, if_pos hok, if_neg h64]
  have hD : rwD r i l = r := by rw [rwD, if_neg (fun e => h64 e.2)]
  unfold RWPost
  rw [hE, hD]
  rw [hok] at hm
  have hl0 : ((l.length : Int) == 64) = false := by rw [beq_eq_false_iff_ne]; omega
  clear hE hD hok
  go_enter Try.func48, Try.ntmps48
  go_wp2_with (go_at_call 49; refine hm.mono ?_; rintro e w2 ⟨rfl, rfl⟩)
  go_ret
  exact ⟨rfl, h, Aside.refl _ _⟩

theorem rd_in {r : RDev} {i : Int} (h : rdE r i = 0) : ∃ n : Nat, i = (n : Int) ∧ 64 * n + 64 ≤ r.B.length := by
  unfold rdE at h
  split at h
  · cases h
  · split at h
    · cases h
    · exact ⟨i.toNat, by omega, by omega⟩

/-- Three strings, side by side. -/
theorem str_three (B s : List UInt8) (n : Nat) :
    ((⟨B.toArray⟩ : ByteArray).extract 0 (64 * n) ++ ⟨s.toArray⟩ ++ (⟨B.toArray⟩ : ByteArray).extract (64 * n + 64) B.length) = ⟨(sub64 B n s).toArray⟩ := by
  rw [str_sub, str_sub, str_app, str_app]
  unfold sub64
  rw [List.drop_zero, Nat.sub_zero, List.take_of_length_le (l := B.drop (64 * n + 64)) (by rw [List.length_drop]; exact Nat.le_refl _)]

set_option maxHeartbeats 1000000 in
set_option maxRecDepth 100000 in
theorem rwrite_ok (V : Nat) (r : RDev) (i : Int) (a : Option Addr) (l : List UInt8) (cap : Nat) (w : World) (h : RefAt w V r) (hl : r.B.length ≤ 1048576) (hok : rdE r i = 0) (h64 : l.length = 64) (hby : IsBytes w a l) (hc : (r.set && r.writes == 0) = false) (hw1 : -9223372036854775808 < r.writes) (hw2 : r.writes ≤ 9223372036854775807) :
    Calls Try.prog 48 #[.pointer (some ⟨V, 0, none⟩), .int .i64 i, .slice a l.length cap] w (RWPost V r i l w) := by
  have hm := rread_calls V r i w h hl
  have hE : rwE r i l = 0 := by rw [rwE, if_pos hok, if_pos h64, hc]; rfl
  have hD : rwD r i l = { r with B := sub64 r.B i.toNat l, writes := if r.set then r.writes - 1 else r.writes } := by rw [rwD, if_pos ⟨hok, h64⟩, hc]; rfl
  obtain ⟨n, rfl, hn⟩ := rd_in hok
  unfold RWPost
  rw [hE, hD, Int.toNat_natCast]
  rw [hok] at hm
  have hoff : r.off = false := by
    unfold rdE at hok
    cases hq : r.off
    · rfl
    · rw [hq] at hok; cases hok
  have c0 := h.c0
  have c1 := h.c1
  have c2 := h.c2
  have c3 := h.c3
  have f0 := h.free 0
  have f3 := h.free 3
  rw [hoff] at c2
  have t1 := conv_text hby (n := 64) (cap := cap) h64.symm
  have H64 := Lib.hid h64
  have Hok := Lib.hid hok
  have Hoff := Lib.hid hoff
  rw [h64]
  obtain ⟨q, hq⟩ : ∃ q, q = rdL r n := ⟨_, rfl⟩
  rw [← hq] at hm
  obtain ⟨S, hS⟩ : ∃ S, S = r.set := ⟨_, rfl⟩
  rw [← hS] at c1 hc
  obtain ⟨B, hB⟩ : ∃ B, B = r.B := ⟨_, rfl⟩
  rw [← hB] at c0 hl hn
  have hs0 := h.stored (r' := { r with B := sub64 B n l }) 0 (strV (sub64 B n l)) rfl
  have HB := Lib.hid hB
  have HS := Lib.hid hS
  clear hE hD hok hoff h64 hq hS hB
  have hl64 : l.length = 64 := H64.out
  have hAs := (Aside.refl [V] w).setCell ⟨V, 0, none⟩ (strV (sub64 B n l)) (fun _ => by simp)
  have h3 := str_three B l n
  obtain ⟨R, hR⟩ : ∃ R : RDev, R = { r with B := sub64 r.B n l, writes := if r.set then r.writes - 1 else r.writes } := ⟨_, rfl⟩
  rw [← hR]
  have HR := Lib.hid hR
  clear hR
  obtain ⟨wq, hwq⟩ : ∃ q, q = r.writes := ⟨_, rfl⟩
  rw [← hwq] at hw1 hw2 c3 hc
  have Hw := Lib.hid hwq
  clear hwq
  cases S
  · have hR2 : R = { r with B := sub64 B n l } := by rw [HR.out, ← HS.out, HB.out]; rfl
    rw [← hR2] at hs0
    clear hR2
    go_enter Try.func48, Try.ntmps48
    go_upto_region 11 with (go_at_call 49; refine hm.mono ?_; rintro e w2 ⟨rfl, rfl⟩)
    go_region
    obtain ⟨w5, hw5⟩ : ∃ w5, w5 = (w.setCell ⟨V, 0, none⟩ (strV (sub64 B n l))).drew := ⟨_, rfl⟩
    have h5 : RefAt w5 V R := by rw [hw5]; exact hs0
    have hA5 : Aside [V] w w5 := by rw [hw5]; exact hAs.drew
    have c51 := h5.c1
    have c52 := h5.c2
    show Exit.then _ _ _ _ (w.setCell ⟨V, 0, none⟩ (strV (sub64 B n l))).drew
    rw [← hw5]
    rw [HR.out] at c51 c52
    clear hs0 hAs hw5
    have c51' : w5.cell? ⟨V, 1, none⟩ = some (.bool false) := by rw [c51]; exact congrArg (fun b => some (Value.bool b)) HS.out.symm
    have c52' : w5.cell? ⟨V, 2, none⟩ = some (.bool false) := by rw [c52]; exact congrArg (fun b => some (Value.bool b)) Hoff.out
    clear c51 c52
    go_wp2
    go_ret
    exact ⟨rfl, h5, hA5⟩
  · have hw0 : (wq == 0) = false := by simpa using hc
    have hR2 : R = { r with B := sub64 B n l, writes := wq - 1 } := by rw [HR.out, ← HS.out, HB.out, Hw.out]; rfl
    go_enter Try.func48, Try.ntmps48
    go_upto_region 11 with (go_at_call 49; refine hm.mono ?_; rintro e w2 ⟨rfl, rfl⟩)
    go_region
    obtain ⟨w5, hw5⟩ : ∃ w5, w5 = (w.setCell ⟨V, 0, none⟩ (strV (sub64 B n l))).drew := ⟨_, rfl⟩
    have h5 : RefAt w5 V { r with B := sub64 B n l } := by rw [hw5]; exact hs0
    have hA5 : Aside [V] w w5 := by rw [hw5]; exact hAs.drew
    have c51 : w5.cell? ⟨V, 1, none⟩ = some (.bool true) := by rw [h5.c1]; exact congrArg (fun b => some (Value.bool b)) HS.out.symm
    have c52 : w5.cell? ⟨V, 2, none⟩ = some (.bool false) := by rw [h5.c2]; exact congrArg (fun b => some (Value.bool b)) Hoff.out
    have c53 : w5.cell? ⟨V, 3, none⟩ = some (.int .i64 wq) := by rw [h5.c3]; exact congrArg (fun b => some (Value.int .i64 b)) Hw.out.symm
    have f53 := h5.free 3
    have hs5 := h5.stored (r' := R) 3 (.int .i64 (wq - 1)) (by rw [hR2]; rfl)
    have hA6 := hA5.setCell ⟨V, 3, none⟩ (.int .i64 (wq - 1)) (fun _ => by simp)
    show Exit.then _ _ _ _ (w.setCell ⟨V, 0, none⟩ (strV (sub64 B n l))).drew
    rw [← hw5]
    clear hs0 hAs hw5 hR2
    go_wp2
    go_ret
    exact ⟨rfl, hs5, hA6⟩

set_option maxHeartbeats 1000000 in
set_option maxRecDepth 100000 in
theorem rwrite_torn (V : Nat) (r : RDev) (i : Int) (a : Option Addr) (l : List UInt8) (cap : Nat) (w : World) (h : RefAt w V r) (hl : r.B.length ≤ 1048576) (hok : rdE r i = 0) (h64 : l.length = 64) (hby : IsBytes w a l) (hc : (r.set && r.writes == 0) = true) (hp0 : 0 ≤ r.prefix_) (hp1 : r.prefix_ ≤ 64) (hcap : 64 ≤ cap) :
    Calls Try.prog 48 #[.pointer (some ⟨V, 0, none⟩), .int .i64 i, .slice a l.length cap] w (RWPost V r i l w) := by
  have hm := rread_calls V r i w h hl
  have hE : rwE r i l = 11 := by rw [rwE, if_pos hok, if_pos h64, hc]; rfl
  have hD : rwD r i l = { r with B := sub64 r.B i.toNat (l.take r.prefix_.toNat ++ ((r.B.drop (64 * i.toNat)).take 64).drop r.prefix_.toNat), set := false, off := true } := by rw [rwD, if_pos ⟨hok, h64⟩, hc]; rfl
  have hq0 : rdL r i = (r.B.drop (64 * i.toNat)).take 64 := by rw [rdL, if_pos hok]
  rw [← hq0] at hD
  obtain ⟨n, rfl, hn⟩ := rd_in hok
  unfold RWPost
  rw [hE, hD, Int.toNat_natCast]
  rw [hok] at hm
  have hoff : r.off = false := by
    unfold rdE at hok
    cases hq : r.off
    · rfl
    · rw [hq] at hok; cases hok
  obtain ⟨hS, hW⟩ : r.set = true ∧ r.writes = 0 := by simpa using hc
  obtain ⟨P, hP⟩ := Int.eq_ofNat_of_zero_le hp0
  have c0 := h.c0
  have c1 := h.c1
  have c2 := h.c2
  have c3 := h.c3
  have c4 := h.c4
  have f0 := h.free 0
  have f1 := h.free 1
  have f2 := h.free 2
  have hP64 : P ≤ 64 := by omega
  rw [hoff] at c2
  rw [hS] at c1
  rw [hW] at c3
  rw [hP] at c4
  have hq64 : (rdL r n).length = 64 := by rw [hq0, List.length_take, List.length_drop, Int.toNat_natCast]; omega
  obtain ⟨q, hq⟩ : ∃ q, q = rdL r n := ⟨_, rfl⟩
  rw [← hq] at hm hq64
  obtain ⟨R, hR⟩ : ∃ R : RDev, R = { r with B := sub64 r.B n (l.take r.prefix_.toNat ++ (rdL r n).drop r.prefix_.toNat), set := false, off := true } := ⟨_, rfl⟩
  rw [← hR]
  have hPn : r.prefix_.toNat = P := by omega
  rw [← hq, hPn] at hR
  have HR := Lib.hid hR
  have H64 := Lib.hid h64
  have t0 := conv_text hby (n := 64) (cap := cap) h64.symm
  have htp : (l.take P).length = P := by rw [List.length_take, h64]; omega
  have t1 := conv_text (hby.take P) (n := P) (cap := cap) htp.symm
  have hp64 : (P : Int) ≤ 64 := by omega
  have hpc : (P : Int) ≤ (cap : Int) := by omega
  rw [h64]
  obtain ⟨B, hB⟩ : ∃ B, B = r.B := ⟨_, rfl⟩
  rw [← hB] at c0 hl hn
  have HB := Lib.hid hB
  rw [strV] at hm
  clear hE hD hok hoff h64 hq0 hq hB hR hS hW hP hp0 hp1 hc hPn
  go_enter Try.func48, Try.ntmps48
  go_upto_region 8 with (go_at_call 49; refine hm.mono ?_; rintro e w2 ⟨rfl, rfl⟩)
  have hne : Nonempty (SW (fun W => Below w.heap.size w W)) := ⟨⟨w, Below.refl _ _⟩⟩
  have p4 : ∀ x : SW (fun W => Below w.heap.size w W), x.W.cell? ⟨V, 4, none⟩ = some (.int .i64 (P : Int)) := fun x => (x.h.cell (p := ⟨V, 4, none⟩) h.lt).trans c4
  have pT : ∀ x : SW (fun W => Below w.heap.size w W), (convert 22 9 (.slice a P cap)).run Try.prog x.W = .ok (.string ⟨(l.take P).toArray⟩) x.W := fun x => conv_text ((hby.take P).later x.h) htp.symm
  refine wp_region_seq2 (fun W => Below w.heap.size w W) [(0, true), (1, true), (2, true), (3, true), (4, true), (5, true), (6, true), (7, true), (8, true), (9, true), (10, true), (11, true), (12, true), (13, true), (14, true)] (by kernel_rfl) (by kernel_rfl) (fun d _ _ _ _ h => by cases d <;> exact h) ((Below.refl _ _).drew) ?_
  repeat (first
    | (refine wpSeq_skip (o := ⟨_, _, _, _, _, _⟩) rfl rfl ?_; simp only [Act.put, List.setIfInBounds_toArray, List.set_cons_zero, List.set_cons_succ])
    | (refine wpSeq_free (o := ⟨_, _, _, _, _, _⟩) rfl rfl (fun K hK => ?_); go_big_quiet_op; (refine hK _ ?_; clear hK K)))
  refine wpSeq_nil ?_
  have hT : (⟨(l.take P).toArray⟩ : ByteArray) ++ (⟨q.toArray⟩ : ByteArray).extract P 64 = ⟨(l.take P ++ q.drop P).toArray⟩ := by
    rw [str_sub, str_app, List.take_of_length_le (l := q.drop P) (by rw [List.length_drop, hq64]; exact Nat.le_refl _)]
  rw [hT]
  obtain ⟨T, hTT⟩ : ∃ T, T = l.take P ++ q.drop P := ⟨_, rfl⟩
  have hTl : T.length = 64 := by rw [hTT, List.length_append, htp, List.length_drop, hq64]; omega
  have hRT : R = { r with B := sub64 B n T, set := false, off := true } := by rw [HR.out, HB.out, hTT]
  rw [← hTT]
  clear hT hTT HR hne p4 pT t1 t0 hm hp64 hpc hP64 htp
  have h5 : RefAt w.drew V r := h
  have hA5 : Aside [V] w w.drew := (Aside.refl _ _).drew
  have d0 : w.drew.cell? ⟨V, 0, none⟩ = _ := c0
  have d1 : w.drew.cell? ⟨V, 1, none⟩ = _ := c1
  have d2 : w.drew.cell? ⟨V, 2, none⟩ = _ := c2
  have d3 : w.drew.cell? ⟨V, 3, none⟩ = _ := c3
  have e1 : w.drew.frozen? ⟨V, 1, none⟩ = _ := f1
  have e2 : w.drew.frozen? ⟨V, 2, none⟩ = _ := f2
  obtain ⟨w5, hw5⟩ : ∃ w5, w5 = w.drew := ⟨_, rfl⟩
  rw [← hw5] at h5 hA5 d0 d1 d2 d3 e1 e2 ⊢
  clear c0 c1 c2 c3 c4 f0 f1 f2 hw5 hby
  go_upto_region 11 with fail
  have h6 := (h5.stored (r' := { r with set := false }) 1 (.bool false) rfl).stored (r' := { r with set := false, off := true }) 2 (.bool true) rfl
  have hA6 := (hA5.setCell ⟨V, 1, none⟩ (.bool false) (fun _ => by simp)).setCell ⟨V, 2, none⟩ (.bool true) (fun _ => by simp)
  obtain ⟨w6, hw6⟩ : ∃ w6, w6 = (w5.setCell ⟨V, 1, none⟩ (.bool false)).setCell ⟨V, 2, none⟩ (.bool true) := ⟨_, rfl⟩
  rw [← hw6] at h6 hA6 ⊢
  clear hw6 h5 hA5 d0 d1 d2 d3 e1 e2
  have d0 : w6.cell? ⟨V, 0, none⟩ = some (.string ⟨B.toArray⟩) := by rw [HB.out]; exact h6.c0
  have e0 := h6.free 0
  have h3 := str_three B T n
  have hs6 := h6.stored (r' := { r with B := sub64 B n T, set := false, off := true }) 0 (strV (sub64 B n T)) rfl
  have hAs := hA6.setCell ⟨V, 0, none⟩ (strV (sub64 B n T)) (fun _ => by simp)
  have l2 : (w6.setCell ⟨V, 0, none⟩ (strV (sub64 B n T))).drew.cell? ⟨V, 2, none⟩ = some (.bool true) := hs6.c2
  rw [← hRT] at hs6
  clear hRT
  go_region
  obtain ⟨w7, hw7⟩ : ∃ w7, w7 = (w6.setCell ⟨V, 0, none⟩ (strV (sub64 B n T))).drew := ⟨_, rfl⟩
  have h7 : RefAt w7 V R := by rw [hw7]; exact hs6
  have hA7 : Aside [V] w w7 := by rw [hw7]; exact hAs.drew
  show Exit.then _ _ _ _ (w6.setCell ⟨V, 0, none⟩ (strV (sub64 B n T))).drew
  rw [← hw7] at l2 ⊢
  clear hw7 hs6 hAs
  go_wp2
  go_ret
  exact ⟨rfl, h7, hA7⟩

theorem rwrite_calls (V : Nat) (r : RDev) (i : Int) (a : Option Addr) (l : List UInt8) (cap : Nat) (w : World) (h : RefAt w V r) (hl : r.B.length ≤ 1048576) (hby : IsBytes w a l) (hw1 : -9223372036854775808 < r.writes) (hw2 : r.writes ≤ 9223372036854775807) (hp0 : 0 ≤ r.prefix_) (hp1 : r.prefix_ ≤ 64) (hcap : l.length ≤ cap) :
    Calls Try.prog 48 #[.pointer (some ⟨V, 0, none⟩), .int .i64 i, .slice a l.length cap] w (RWPost V r i l w) := by
  by_cases h0 : rdE r i = 0
  · by_cases h64 : l.length = 64
    · cases hc : (r.set && r.writes == 0) with
      | false => exact rwrite_ok V r i a l cap w h hl h0 h64 hby hc hw1 hw2
      | true => exact rwrite_torn V r i a l cap w h hl h0 h64 hby hc hp0 hp1 (by omega)
    · exact rwrite_len V r i a l cap w h hl h0 h64
  · exact rwrite_no V r i a l cap w h hl h0

end Go.Proofs.Ytdlbjllgdikadaa
