/- What a call turns: some blocks that were there, and new ones. -/
import Derived.Test.YtdlbjllgdikadaaDevA
namespace Go.Proofs.Ytdlbjllgdikadaa
open Go.RowKit

/-- w' is w, but for the blocks of T, and new blocks. -/
structure Aside (T : List Nat) (w w' : World) : Prop where
  os : w'.os = w.os
  tape : w'.tape = w.tape
  output : w'.output = w.output
  size : w.heap.size ≤ w'.heap.size
  block : ∀ k, k < w.heap.size → k ∉ T → w'.heap[k]? = w.heap[k]?

variable {T : List Nat} {w w' w2 : World}
theorem Aside.refl (T : List Nat) (w : World) : Aside T w w := ⟨rfl, rfl, rfl, Nat.le_refl _, fun _ _ _ => rfl⟩
theorem Aside.trans (h : Aside T w w') (k : Aside T w' w2) : Aside T w w2 :=
  ⟨k.os.trans h.os, k.tape.trans h.tape, k.output.trans h.output, Nat.le_trans h.size k.size, fun i hi hn => (k.block i (Nat.lt_of_lt_of_le hi h.size) hn).trans (h.block i hi hn)⟩
theorem Aside.mono {T' : List Nat} (h : Aside T w w') (hT : ∀ k, k ∈ T → k ∈ T') : Aside T' w w' :=
  ⟨h.os, h.tape, h.output, h.size, fun i hi hn => h.block i hi (fun e => hn (hT i e))⟩
theorem Aside.below (T : List Nat) (h : Below w.heap.size w w') : Aside T w w' := ⟨h.os, h.tape, h.output, h.size, fun i hi _ => h.block i hi⟩
theorem Aside.grown {row : Option Nat} (h : w.grownBy w' row) (hT : ∀ k, row = some k → k < w.heap.size → k ∈ T) : Aside T w w' :=
  ⟨h.os, h.tape, h.output, h.size, fun i hi hn => h.block i hi (fun e => hn (hT i e.symm hi))⟩
/-- All that it turned is new. -/
theorem Aside.toBelow {B : Nat} (h : Aside T w w') (hT : ∀ k, k ∈ T → B ≤ k) (hB : B ≤ w.heap.size) : Below B w w' :=
  ⟨h.os, h.tape, h.output, h.size, fun i hi => h.block i (Nat.lt_of_lt_of_le hi hB) (fun e => absurd (hT i e) (by omega))⟩
theorem Aside.drew (h : Aside T w w') : Aside T w w'.drew := ⟨h.os, h.tape, h.output, h.size, h.block⟩
theorem Aside.setCell (h : Aside T w w') (p : Addr) (u : Value) (hp : p.block < w.heap.size → p.block ∈ T) : Aside T w (w'.setCell p u) :=
  ⟨h.os, h.tape, h.output, by simpa using h.size, fun i hi hn => by
    have hne : i ≠ p.block := fun e => hn (e ▸ hp (e ▸ hi))
    rw [heap_setCell_other _ _ _ _ hne]
    exact h.block i hi hn⟩
theorem Aside.put (h : Aside T w w') {row : Option Nat} (hg : w'.grownBy w2 row) (hr : ∀ k, row = some k → w.heap.size ≤ k ∨ k ∈ T) : Aside T w w2 :=
  ⟨hg.os.trans h.os, hg.tape.trans h.tape, hg.output.trans h.output, Nat.le_trans h.size hg.size, fun i hi hn =>
    (hg.block i (Nat.lt_of_lt_of_le hi h.size) (fun e => by rcases hr i e.symm with h1 | h1; exact absurd h1 (by omega); exact hn h1)).trans (h.block i hi hn)⟩
theorem Aside.alloc (h : Aside T w w') (o : Obj) : Aside T w (w'.alloc o) := h.trans (Aside.below T ((Below.refl _ _).alloc (Nat.le_refl _) _))

theorem IsBytes.aside {a : Option Addr} {l : List UInt8} (h : IsBytes w a l) (k : Aside T w w') (hT : ∀ b off, a = some ⟨b, off, none⟩ → b ∉ T) : IsBytes w' a l := by
  intro i hi
  obtain ⟨b, off, e, hc⟩ := h i hi
  refine ⟨b, off, e, ?_⟩
  rw [World.cell?_of_block (a := ⟨b, off + i, none⟩) (k.block b (World.block_lt_of_cell? w _ hc) (hT b off e))]
  exact hc
theorem DevAt.aside {D b : Nat} {d : Dev} (h : DevAt w D b d) (k : Aside T w w') (hD : D ∉ T) (hb : b ∉ T) : DevAt w' D b d := by
  have hl := h.lt
  obtain ⟨h1, ⟨M, ⟨es, c, h2, h22⟩, h3⟩, h4⟩ := h
  exact ⟨(k.block D hl hD).trans h1, ⟨M, ⟨es, c, (k.block b (Array.getElem?_eq_some_iff.1 h2).1 hb).trans h2, h22⟩, h3⟩, h4⟩
theorem ArrT.aside {g : Nat} {t : TypeId} {l : List UInt8} (h : ArrT w g t l) (k : Aside T w w') (hg : g ∉ T) : ArrT w' g t l := (k.block g (lt_of_block h) hg).trans h

end Go.Proofs.Ytdlbjllgdikadaa
