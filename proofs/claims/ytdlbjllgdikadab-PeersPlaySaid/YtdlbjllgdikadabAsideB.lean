/- What a call turns; slices that read as bytes. -/
import Derived.Test.YtdlbjllgdikadabPeerC
namespace Go.Proofs.Ytdlbjllgdikadab
open Go.RowKit

def bval (b : UInt8) : Value := .int .u8 (b.toNat : Int)
def bvals (l : List UInt8) : List Value := l.map bval

theorem bvals_length (l : List UInt8) : (bvals l).length = l.length := by simp [bvals]
theorem bvals_get (l : List UInt8) (i : Nat) (u : Value) (h : (bvals l)[i]? = some u) : ∃ hi : i < l.length, u = .int .u8 (l[i].toNat : Int) := by
  simp only [bvals, List.getElem?_map] at h
  cases hq : l[i]? with
  | none => simp [hq] at h
  | some x =>
    rw [hq] at h
    obtain ⟨hi, rfl⟩ := List.getElem?_eq_some_iff.1 hq
    exact ⟨hi, by simpa [bval] using h.symm⟩
theorem bvals_one (l : List UInt8) : ∀ u ∈ bvals l, u.oneCell' = true := by
  intro u hu
  simp only [bvals, List.mem_map] at hu
  obtain ⟨x, _, rfl⟩ := hu
  rfl

/-- A slice's first cells hold bytes. -/
def IsBytes (w : World) (a : Option Addr) (l : List UInt8) : Prop :=
  ∀ i (h : i < l.length), ∃ b off, a = some ⟨b, off, none⟩ ∧ w.cell? ⟨b, off + i, none⟩ = some (.int .u8 (l[i].toNat : Int))

theorem IsBytes.nil (w : World) (a : Option Addr) : IsBytes w a [] := fun i h => absurd h (Nat.not_lt_zero i)

theorem IsBytes.lt {w : World} {a : Option Addr} {l : List UInt8} (h : IsBytes w a l) {b off : Nat} (ha : a = some ⟨b, off, none⟩) (hl : 0 < l.length) : b < w.heap.size := by
  obtain ⟨b', off', e, hc⟩ := h 0 hl
  rw [ha] at e
  cases e
  exact World.block_lt_of_cell? w _ hc

theorem IsBytes.later {w w' : World} {a : Option Addr} {l : List UInt8} (h : IsBytes w a l) (hb : Below w.heap.size w w') : IsBytes w' a l := by
  intro i hi
  obtain ⟨b, off, e, hc⟩ := h i hi
  exact ⟨b, off, e, (hb.cell (p := ⟨b, off + i, none⟩) (World.block_lt_of_cell? w _ hc)).trans hc⟩

theorem IsBytes.alloc {w : World} {a : Option Addr} {l : List UInt8} (h : IsBytes w a l) (o : Obj) : IsBytes (w.alloc o) a l :=
  h.later ((Below.refl _ _).alloc (Nat.le_refl _) o)

theorem IsBytes.cell {w : World} {b off : Nat} {l : List UInt8} (h : IsBytes w (some ⟨b, off, none⟩) l) (i : Nat) (hi : i < l.length) :
    w.cell? ⟨b, off + i, none⟩ = some (.int .u8 (l[i].toNat : Int)) := by
  obtain ⟨b', off', e, hc⟩ := h i hi
  cases e
  exact hc

theorem IsBytes.cells {w : World} {ad : Addr} {l : List UInt8} (h : IsBytes w (some ad) l) : ∀ j u, (bvals l)[j]? = some u → w.cell? (ad.add j) = some u := by
  intro j u hu
  obtain ⟨hi, rfl⟩ := bvals_get l j u hu
  obtain ⟨b, off, e, hc⟩ := h j hi
  cases e
  rw [Addr.add_lit]
  exact hc

/-- w' is w, but for the blocks of T, and new blocks. -/
structure Aside (T : List Nat) (w w' : World) : Prop where
  os : w'.os = w.os
  tape : w'.tape = w.tape
  output : w'.output = w.output
  size : w.heap.size ≤ w'.heap.size
  block : ∀ k, k < w.heap.size → k ∉ T → w'.heap[k]? = w.heap[k]?

variable {T : List Nat} {w w' w2 : World}
theorem Aside.refl (T : List Nat) (w : World) : Aside T w w := ⟨rfl, rfl, rfl, Nat.le_refl _, fun _ _ _ => rfl⟩
theorem Aside.trans (h : Aside T w w') (k : Aside T w' w2) : Aside T w w2 :=
  ⟨k.os.trans h.os, k.tape.trans h.tape, k.output.trans h.output, Nat.le_trans h.size k.size, fun i hi hn => (k.block i (Nat.lt_of_lt_of_le hi h.size) hn).trans (h.block i hi hn)⟩
theorem Aside.mono {T' : List Nat} (h : Aside T w w') (hT : ∀ k, k ∈ T → k ∈ T') : Aside T' w w' :=
  ⟨h.os, h.tape, h.output, h.size, fun i hi hn => h.block i hi (fun e => hn (hT i e))⟩
theorem Aside.below (T : List Nat) (h : Below w.heap.size w w') : Aside T w w' := ⟨h.os, h.tape, h.output, h.size, fun i hi _ => h.block i hi⟩
theorem Aside.grown {row : Option Nat} (h : w.grownBy w' row) (hT : ∀ k, row = some k → k < w.heap.size → k ∈ T) : Aside T w w' :=
  ⟨h.os, h.tape, h.output, h.size, fun i hi hn => h.block i hi (fun e => hn (hT i e.symm hi))⟩
/-- All that it turned is new. -/
theorem Aside.toBelow {B : Nat} (h : Aside T w w') (hT : ∀ k, k ∈ T → B ≤ k) (hB : B ≤ w.heap.size) : Below B w w' :=
  ⟨h.os, h.tape, h.output, h.size, fun i hi => h.block i (Nat.lt_of_lt_of_le hi hB) (fun e => absurd (hT i e) (by omega))⟩
theorem Aside.drew (h : Aside T w w') : Aside T w w'.drew := ⟨h.os, h.tape, h.output, h.size, h.block⟩
theorem Aside.setCell (h : Aside T w w') (p : Addr) (u : Value) (hp : p.block < w.heap.size → p.block ∈ T) : Aside T w (w'.setCell p u) :=
  ⟨h.os, h.tape, h.output, by simpa using h.size, fun i hi hn => by
    have hne : i ≠ p.block := fun e => hn (e ▸ hp (e ▸ hi))
    rw [heap_setCell_other _ _ _ _ hne]
    exact h.block i hi hn⟩
theorem Aside.put (h : Aside T w w') {row : Option Nat} (hg : w'.grownBy w2 row) (hr : ∀ k, row = some k → w.heap.size ≤ k ∨ k ∈ T) : Aside T w w2 :=
  ⟨hg.os.trans h.os, hg.tape.trans h.tape, hg.output.trans h.output, Nat.le_trans h.size hg.size, fun i hi hn =>
    (hg.block i (Nat.lt_of_lt_of_le hi h.size) (fun e => by rcases hr i e.symm with h1 | h1; exact absurd h1 (by omega); exact hn h1)).trans (h.block i hi hn)⟩
theorem Aside.alloc (h : Aside T w w') (o : Obj) : Aside T w (w'.alloc o) := h.trans (Aside.below T ((Below.refl _ _).alloc (Nat.le_refl _) _))

theorem IsBytes.aside {a : Option Addr} {l : List UInt8} (h : IsBytes w a l) (k : Aside T w w') (hT : ∀ b off, a = some ⟨b, off, none⟩ → b ∉ T) : IsBytes w' a l := by
  intro i hi
  obtain ⟨b, off, e, hc⟩ := h i hi
  refine ⟨b, off, e, ?_⟩
  rw [World.cell?_of_block (a := ⟨b, off + i, none⟩) (k.block b (World.block_lt_of_cell? w _ hc) (hT b off e))]
  exact hc
theorem RdAt.aside {g : Nat} {d : Rd} (h : RdAt w g d) (k : Aside T w w') (hg : g ∉ T) : RdAt w' g d := (k.block g h.lt hg).trans h
theorem RdAt.drewN {g : Nat} {d : Rd} (h : RdAt w g d) (n : Nat) : RdAt (w.drewN n) g d := h
theorem Aside.drewN (h : Aside T w w') (n : Nat) : Aside T w (w'.drewN n) := ⟨h.os, h.tape, h.output, h.size, h.block⟩
end Go.Proofs.Ytdlbjllgdikadab
