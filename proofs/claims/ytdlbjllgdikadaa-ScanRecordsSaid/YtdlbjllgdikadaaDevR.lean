/- The document's device: its functions. -/
import Derived.Test.YtdlbjllgdikadaaDevG
namespace Go.Proofs.Ytdlbjllgdikadaa
open Go.RowKit

structure RDev where
  B : List UInt8
  set : Bool
  off : Bool
  writes : Int
  prefix_ : Int

def strV (l : List UInt8) : Value := .string ⟨l.toArray⟩
def RDev.cells (r : RDev) : Array Value := #[strV r.B, .bool r.set, .bool r.off, .int .i64 r.writes, .int .i64 r.prefix_]
/-- The document's device in memory. -/
def RefAt (w : World) (V : Nat) (r : RDev) : Prop := w.heap[V]? = some (.cells r.cells 70 (0, 0))

theorem RefAt.cell {w : World} {V : Nat} {r : RDev} (h : RefAt w V r) (q : Nat) (u : Value) (hu : r.cells[q]? = some u) : w.cell? ⟨V, q, none⟩ = some u := by
  rw [cell_of_row w V q _ _ _ h, hu]
theorem RefAt.c0 {w : World} {V : Nat} {r : RDev} (h : RefAt w V r) : w.cell? ⟨V, 0, none⟩ = some (.string ⟨r.B.toArray⟩) := h.cell 0 _ rfl
theorem RefAt.c1 {w : World} {V : Nat} {r : RDev} (h : RefAt w V r) : w.cell? ⟨V, 1, none⟩ = some (.bool r.set) := h.cell 1 _ rfl
theorem RefAt.c2 {w : World} {V : Nat} {r : RDev} (h : RefAt w V r) : w.cell? ⟨V, 2, none⟩ = some (.bool r.off) := h.cell 2 _ rfl
theorem RefAt.c3 {w : World} {V : Nat} {r : RDev} (h : RefAt w V r) : w.cell? ⟨V, 3, none⟩ = some (.int .i64 r.writes) := h.cell 3 _ rfl
theorem RefAt.c4 {w : World} {V : Nat} {r : RDev} (h : RefAt w V r) : w.cell? ⟨V, 4, none⟩ = some (.int .i64 r.prefix_) := h.cell 4 _ rfl
theorem RefAt.free {w : World} {V : Nat} {r : RDev} (h : RefAt w V r) (q : Nat) : w.frozen? ⟨V, q, none⟩ = false := frozen_of_row w V q _ _ h
theorem RefAt.lt {w : World} {V : Nat} {r : RDev} (h : RefAt w V r) : V < w.heap.size := lt_of_block h
theorem RefAt.later {w w' : World} {V : Nat} {r : RDev} (h : RefAt w V r) (hb : Below w.heap.size w w') : RefAt w' V r := (hb.block V h.lt).trans h
theorem RefAt.aside {T : List Nat} {w w' : World} {V : Nat} {r : RDev} (h : RefAt w V r) (k : Aside T w w') (hV : V ∉ T) : RefAt w' V r := (k.block V h.lt hV).trans h
theorem RefAt.kept {w w' : World} {V : Nat} {r : RDev} {row : Option Nat} (h : RefAt w V r) (hg : w.grownBy w' row) (hV : some V ≠ row) : RefAt w' V r := (hg.block V h.lt hV).trans h
theorem RefAt.stored {w : World} {V : Nat} {r r' : RDev} (h : RefAt w V r) (q : Nat) (u : Value) (hu : r.cells.setIfInBounds q u = r'.cells) : RefAt (w.setCell ⟨V, q, none⟩ u) V r' := by
  unfold RefAt at *
  rw [heap_setCell_same w V q _ 70 _ h, hu]

def rdE (r : RDev) (i : Int) : Nat := if r.off then 11 else if i < 0 ∨ ((r.B.length / 64 : Nat) : Int) ≤ i then 2 else 0
def rdL (r : RDev) (i : Int) : List UInt8 := if rdE r i = 0 then (r.B.drop (64 * i.toNat)).take 64 else []

theorem str_sub (l : List UInt8) (i j : Nat) : (⟨l.toArray⟩ : ByteArray).extract i j = ⟨((l.drop i).take (j - i)).toArray⟩ := by
  apply ByteArray.ext
  rw [ByteArray.data_extract]
  simp

set_option maxRecDepth 100000 in
theorem rread_calls (V : Nat) (r : RDev) (i : Int) (w : World) (h : RefAt w V r) (hl : r.B.length ≤ 1048576) :
    Calls Try.prog 49 #[.pointer (some ⟨V, 0, none⟩), .int .i64 i] w fun e w' => e = .returned (.tuple #[strV (rdL r i), .int .i64 (rdE r i : Nat)]) ∧ w = w' := by
  have c0 := h.c0
  have c2 := h.c2
  cases ho : r.off with
  | true =>
    rw [ho] at c2
    have hE : rdE r i = 11 := by simp [rdE, ho]
    have hL : rdL r i = [] := by simp [rdL, hE]
    rw [hE, hL]
    clear hE hL
    go_enter Try.func49, Try.ntmps49
    go_wp2
    go_ret2
    exact ⟨rfl, rfl⟩
  | false =>
    rw [ho] at c2
    by_cases h1 : i < 0
    · have hE : rdE r i = 2 := by simp [rdE, ho, h1]
      have hL : rdL r i = [] := by simp [rdL, hE]
      rw [hE, hL]
      clear hE hL
      go_enter Try.func49, Try.ntmps49
      go_wp2
      go_ret2
      exact ⟨rfl, rfl⟩
    · by_cases h2 : ((r.B.length / 64 : Nat) : Int) ≤ i
      · have hE : rdE r i = 2 := by rw [rdE, ho, if_neg (by decide), if_pos (.inr h2)]
        have hL : rdL r i = [] := by simp [rdL, hE]
        rw [hE, hL]
        clear hE hL
        have h2' : (r.B.length : Int) / 64 ≤ i := by omega
        go_enter Try.func49, Try.ntmps49
        go_wp2
        go_ret2
        exact ⟨rfl, rfl⟩
      · have hE : rdE r i = 0 := by rw [rdE, ho, if_neg (by decide), if_neg (by omega)]
        obtain ⟨n, rfl⟩ := Int.eq_ofNat_of_zero_le (show 0 ≤ i by omega)
        have hn : 64 * n + 64 ≤ r.B.length := by omega
        have hL : rdL r n = (r.B.drop (64 * n)).take 64 := by simp [rdL, hE]
        rw [hE, hL]
        clear hE hL
        have h2' : (n : Int) < (r.B.length : Int) / 64 := by omega
        go_enter Try.func49, Try.ntmps49
        go_wp2
        go_ret2
        refine ⟨?_, rfl⟩
        show Ending.returned (.tuple #[.string ((⟨r.B.toArray⟩ : ByteArray).extract (64 * n) (64 * n + 64)), .int .i64 0]) = _
        rw [str_sub, show 64 * n + 64 - 64 * n = 64 by omega]
        rfl

def rcE (r : RDev) (n p : Int) : Nat := if r.off then 11 else if n < 0 ∨ p < 0 ∨ 64 < p then 2 else 0
def rcD (r : RDev) (n p : Int) : RDev := if rcE r n p = 0 then { r with set := true, writes := n, prefix_ := p } else r

theorem rcrash_calls (V : Nat) (r : RDev) (n p : Int) (w : World) (h : RefAt w V r) :
    Calls Try.prog 50 #[.pointer (some ⟨V, 0, none⟩), .int .i64 n, .int .i64 p] w fun e w' => e = .returned (.int .i64 (rcE r n p : Nat)) ∧ RefAt w' V (rcD r n p) ∧ w.grownBy w' (some V) := by
  have c2 := h.c2
  have hid : w.grownBy w (some V) := ⟨rfl, rfl, rfl, Nat.le_refl _, fun _ _ _ => rfl⟩
  cases ho : r.off with
  | true =>
    rw [ho] at c2
    have hE : rcE r n p = 11 := by simp [rcE, ho]
    have hD : rcD r n p = r := by simp [rcD, hE]
    rw [hE, hD]
    clear hE hD
    go_enter Try.func50, Try.ntmps50
    go_wp2
    go_ret
    exact ⟨rfl, h, hid⟩
  | false =>
    rw [ho] at c2
    by_cases hbad : n < 0 ∨ p < 0 ∨ 64 < p
    · have hE : rcE r n p = 2 := by simp [rcE, ho, hbad]
      have hD : rcD r n p = r := by simp [rcD, hE]
      rw [hE, hD]
      clear hE hD
      by_cases b1 : n < 0
      · go_enter Try.func50, Try.ntmps50
        go_wp2
        go_ret
        exact ⟨rfl, h, hid⟩
      · by_cases b2 : p < 0
        · go_enter Try.func50, Try.ntmps50
          go_wp2
          go_ret
          exact ⟨rfl, h, hid⟩
        · have b3 : 64 < p := by omega
          go_enter Try.func50, Try.ntmps50
          go_wp2
          go_ret
          exact ⟨rfl, h, hid⟩
    · have hE : rcE r n p = 0 := by simp only [rcE, ho, hbad, if_false]; rfl
      have hD : rcD r n p = { r with set := true, writes := n, prefix_ := p } := by rw [rcD, if_pos hE]
      rw [hE, hD]
      clear hE hD
      have b1 : 0 ≤ n := by omega
      have b2 : 0 ≤ p := by omega
      have b3 : p ≤ 64 := by omega
      have c1 := h.c1
      have c3 := h.c3
      have c4 := h.c4
      have f1 := h.free 1
      have f3 := h.free 3
      have f4 := h.free 4
      have hs := ((h.stored (r' := { r with set := true }) 1 (.bool true) rfl).stored (r' := { r with set := true, writes := n }) 3 (.int .i64 n) rfl).stored (r' := { r with set := true, writes := n, prefix_ := p }) 4 (.int .i64 p) rfl
      clear hbad
      go_enter Try.func50, Try.ntmps50
      go_wp2
      go_ret
      exact ⟨rfl, hs, ⟨rfl, rfl, rfl, by simp, fun k _ hk => by
        have hk' : k ≠ V := fun e => hk (by rw [e])
        rw [heap_setCell_other _ _ _ _ hk', heap_setCell_other _ _ _ _ hk', heap_setCell_other _ _ _ _ hk']⟩⟩

theorem info70s : (Try.prog.info? 70).map (·.size) = some 5 := by kernel_rfl
theorem RDev.one (r : RDev) : r.cells.all (·.oneCell') = true := by simp [RDev.cells, Value.oneCell', strV]

set_option maxRecDepth 100000 in
theorem rcopy_calls (V : Nat) (r : RDev) (w : World) (h : RefAt w V r) :
    Calls Try.prog 54 #[.pointer (some ⟨V, 0, none⟩)] w fun e w' => ∃ V', e = .returned (.pointer (some ⟨V', 0, none⟩)) ∧ RefAt w' V' r ∧ w.heap.size ≤ V' ∧ Below w.heap.size w w' := by
  have c0 := h.c0
  have c1 := h.c1
  have c2 := h.c2
  have c3 := h.c3
  have c4 := h.c4
  go_enter Try.func54, Try.ntmps54
  go_wp2
  go_ret
  exact ⟨w.heap.size, rfl, heap_alloc_new _ _, Nat.le_refl _, (Below.refl _ w).alloc (Nat.le_refl _) _⟩

def rwipeD (r : RDev) : RDev := { r with B := List.replicate r.B.length 0, set := false, off := false }

set_option maxRecDepth 100000 in
theorem rwipe_calls (V : Nat) (r : RDev) (w : World) (h : RefAt w V r) (hl : r.B.length ≤ 1048576) :
    Calls Try.prog 52 #[.pointer (some ⟨V, 0, none⟩)] w fun e w' => e = .returned (.tuple #[]) ∧ RefAt w' V (rwipeD r) ∧ Aside [V] w w' := by
  have c0 := h.c0
  go_enter Try.func52, Try.ntmps52
  go_wp2_with (refine wpList_make_bytes rfl (.tmp 7) (.tmp 7) rfl r.B.length r.B.length r.B.length rfl rfl rfl rfl (by omega) ?_; intro w2 ha2 hg2; have t2 := conv_text (ArrB.bytes ha2) (n := r.B.length) (cap := r.B.length) (by simp); have h2 := h.kept hg2 (fun e => by cases e); have c02 := h2.c0; have f02 := h2.free 0; have c12 := h2.c1; have c22 := h2.c2; have f12 := h2.free 1; have f22 := h2.free 2)
  have hs := ((h2.stored (r' := { r with B := List.replicate r.B.length 0 }) 0 (strV (List.replicate r.B.length 0)) rfl).stored (r' := { r with B := List.replicate r.B.length 0, set := false }) 1 (.bool false) rfl).stored (r' := rwipeD r) 2 (.bool false) rfl
  have hA := ((((Aside.refl [V] w).put hg2 (fun k hk => by cases hk)).setCell ⟨V, 0, none⟩ (strV (List.replicate r.B.length 0)) (fun _ => by simp)).setCell ⟨V, 1, none⟩ (.bool false) (fun _ => by simp)).setCell ⟨V, 2, none⟩ (.bool false) (fun _ => by simp)
  go_end0
  exact ⟨rfl, hs, hA⟩

def rnewD (n : Nat) : RDev := ⟨List.replicate (64 * n) 0, false, false, 0, 0⟩

set_option maxRecDepth 100000 in
theorem rnew_calls (n : Nat) (hn : n ≤ 16384) (w : World) :
    Calls Try.prog 47 #[.int .i64 (n : Int)] w fun e w' => ∃ V, e = .returned (.pointer (some ⟨V, 0, none⟩)) ∧ RefAt w' V (rnewD n) ∧ w.heap.size ≤ V ∧ Below w.heap.size w w' := by
  go_enter Try.func47, Try.ntmps47
  go_wp2_with (refine wpList_make_bytes rfl (.tmp 4) (.tmp 4) rfl (64 * n) _ _ rfl rfl (by simp) (by simp) (by omega) ?_; intro w2 ha2 hg2; have t2 := conv_text (ArrB.bytes ha2) (n := 64 * n) (cap := 64 * n) (by simp))
  go_ret
  have hB : Below w.heap.size w w2 := (Below.refl _ w).grown hg2 (Nat.le_refl _) (fun _ h => nomatch h)
  exact ⟨w2.heap.size, rfl, heap_alloc_new _ _, hB.size, hB.alloc hB.size _⟩

end Go.Proofs.Ytdlbjllgdikadaa
