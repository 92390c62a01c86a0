/- DevicePlays: what the loop's round needs. -/
import Derived.Test.YtdlbjllgdikadaaDevU
import Derived.Test.YtdlbjllgdikadaaSegN
import Derived.Deep.CutRange
namespace Go.Proofs.Ytdlbjllgdikadaa
open Go.RowKit

/-- A call in memory. -/
def OpAt (w : World) (H : Nat) (o : POp) : Prop := w.heap[H]? = some (.cells o.cells 66 (0, 0))
def noneO : POp := ⟨0, 0, 0, none, [], 0⟩
theorem OpAt.cell {w : World} {H : Nat} {o : POp} (h : OpAt w H o) (q : Nat) (u : Value) (hu : o.cells[q]? = some u) : w.cell? ⟨H, q, none⟩ = some u := by
  rw [cell_of_row w H q _ _ _ h, hu]
theorem OpAt.c0 {w : World} {H : Nat} {o : POp} (h : OpAt w H o) : w.cell? ⟨H, 0, none⟩ = some (.int .i64 o.kind) := h.cell 0 _ rfl
theorem OpAt.c1 {w : World} {H : Nat} {o : POp} (h : OpAt w H o) : w.cell? ⟨H, 1, none⟩ = some (.int .i64 o.i) := h.cell 1 _ rfl
theorem OpAt.c2 {w : World} {H : Nat} {o : POp} (h : OpAt w H o) : w.cell? ⟨H, 2, none⟩ = some (.int .i64 o.n) := h.cell 2 _ rfl
theorem OpAt.c3 {w : World} {H : Nat} {o : POp} (h : OpAt w H o) : w.cell? ⟨H, 3, none⟩ = some (.slice o.a o.B.length o.cap) := h.cell 3 _ rfl
theorem OpAt.later {w w' : World} {H : Nat} {o : POp} (h : OpAt w H o) (hb : Below w.heap.size w w') : OpAt w' H o := (hb.block H (lt_of_block h)).trans h
theorem OpAt.aside {T : List Nat} {w w' : World} {H : Nat} {o : POp} (h : OpAt w H o) (k : Aside T w w') (hT : H ∉ T) : OpAt w' H o := (k.block H (lt_of_block h) hT).trans h
theorem info66s : (Try.prog.info? 66).map (·.size) = some 4 := by kernel_rfl
theorem POp.one (o : POp) : o.cells.all (·.oneCell') = true := by simp [POp.cells, Value.oneCell']

theorem wpList_store_op {w : World} {ops : Array Oper} {rest : List Oper} {o : Oper} {ac : Act} {Q : Exit → Act → World → Prop} (hgd : o.guard = none) (x y : Operand) (ho : o.op = .store 66 x y)
    (H : Nat) (old q : POp) (hx : ac.eval x = .pointer (some ⟨H, 0, none⟩)) (hy : ac.eval y = .agg q.cells) (hb : OpAt w H old)
    (h : ∀ w', OpAt w' H q → w.grownBy w' (some H) → wpList Try.prog ops Q rest (ac.put o.dst undef) w') : wpList Try.prog ops Q (o :: rest) ac w :=
  wpList_store_row hgd 66 x y ho H _ hx hy 66 _ hb info66s rfl (POp.one _) (h _ (setRow_heap w H _ _ _ _ hb) (grown_setRow _))

theorem OwnB.aside {T : List Nat} {w w' : World} {base : Nat} {v : Value} {l : List UInt8} (h : OwnB w base v l) (k : Aside T w w') (hT : ∀ x, x ∈ T → x < base) : OwnB w' base v l := by
  refine ⟨h.1, ?_⟩
  rcases h.2 with hn | ⟨g, cap, cur, rfl, hbg, hg, rest⟩
  · exact .inl hn
  · exact .inr ⟨g, cap, cur, rfl, hbg, (k.block g (Array.getElem?_eq_some_iff.1 hg).1 (fun e => by have := hT g e; omega)).trans hg, rest⟩

/-- A device and the document's one lie apart. -/
theorem DevAt.apart {w : World} {D b V : Nat} {d : Dev} {r : RDev} (h : DevAt w D b d) (hr : RefAt w V r) : D ≠ V ∧ b ≠ V := by
  obtain ⟨h1, ⟨M, ⟨es, c, h2, _⟩, _⟩, _⟩ := h
  refine ⟨fun e => ?_, fun e => ?_⟩
  · rw [e, hr] at h1; cases h1
  · rw [e, hr] at h2; cases h2

/-- A call of the row, its cells in the walk's spelling. -/
theorem IsOps.cellsAt {w : World} {a : Option Addr} {l : List POp} (h : IsOps w a l) (j : Nat) (hj : j < l.length) :
    ∃ o b off, o = l[j] ∧ a = some ⟨b, off, none⟩ ∧
      w.cell? ⟨b, off + j * 4, none⟩ = some (.int .i64 o.kind) ∧ w.cell? ⟨b, off + j * 4 + 1, none⟩ = some (.int .i64 o.i) ∧
      w.cell? ⟨b, off + j * 4 + 2, none⟩ = some (.int .i64 o.n) ∧ w.cell? ⟨b, off + j * 4 + 3, none⟩ = some (.slice o.a o.B.length o.cap) ∧
      IsBytes w o.a o.B ∧ o.B.length ≤ o.cap ∧ o.i ≤ 9223372036854775807 ∧ (o.a = none → o.B.length = 0 ∧ o.cap = 0) := by
  obtain ⟨b, off, e, hc, hby, hle, hx⟩ := h j hj
  have key : ∀ q u, (l[j].cells)[q]? = some u → w.cell? ⟨b, off + j * 4 + q, none⟩ = some u := by
    intro q u hu
    have h1 := hc q u hu
    rw [Nat.mul_comm] at h1
    exact h1
  exact ⟨l[j], b, off, rfl, e, key 0 _ rfl, key 1 _ rfl, key 2 _ rfl, key 3 _ rfl, hby, hle, hx⟩

/-- What holds of the two devices, over w. -/
structure Two (n k : Nat) (w W : World) (D b V : Nat) (d : Dev) (r : RDev) : Prop where
  dev : DevAt W D b d
  ref : RefAt W V r
  rel : PRel n k d r
  lo : w.heap.size ≤ D ∧ w.heap.size ≤ b ∧ w.heap.size ≤ V
  bel : Below w.heap.size w W

theorem Two.later {n k : Nat} {w W W' : World} {D b V : Nat} {d : Dev} {r : RDev} (h : Two n k w W D b V d r) (hb : Below W.heap.size W W') : Two n k w W' D b V d r :=
  ⟨h.dev.later hb, h.ref.later hb, h.rel, h.lo, below_call h.bel (Nat.le_refl _) hb⟩
theorem Two.more {n k k' : Nat} {w W : World} {D b V : Nat} {d : Dev} {r : RDev} (h : Two n k w W D b V d r) (hk : k ≤ k') : Two n k' w W D b V d r :=
  ⟨h.dev, h.ref, h.rel.more hk, h.lo, h.bel⟩
theorem Two.drew {n k : Nat} {w W : World} {D b V : Nat} {d : Dev} {r : RDev} (h : Two n k w W D b V d r) : Two n k w W.drew D b V d r :=
  ⟨h.dev, h.ref, h.rel, h.lo, h.bel.drew⟩

theorem Two.turn {n k k' : Nat} {w W W' : World} {D b V D' b' V' : Nat} {d d' : Dev} {r r' : RDev} (h : Two n k w W D b V d r) (hA : Aside [D, b, V] W W') (hd : DevAt W' D' b' d') (hr : RefAt W' V' r') (hp : PRel n k' d' r')
    (hl : w.heap.size ≤ D' ∧ w.heap.size ≤ b' ∧ w.heap.size ≤ V') : Two n k' w W' D' b' V' d' r' :=
  ⟨hd, hr, hp, hl, h.bel.trans (hA.toBelow (fun k hk => by have := h.lo; simp at hk; omega) h.bel.size)⟩
theorem Two.setCell {n k : Nat} {w W : World} {D b V : Nat} {d : Dev} {r : RDev} (h : Two n k w W D b V d r) (p : Addr) (u : Value) (hD : D ≠ p.block) (hb : b ≠ p.block) (hV : V ≠ p.block) (hp : w.heap.size ≤ p.block) : Two n k w (W.setCell p u) D b V d r :=
  ⟨h.dev.other p u hD hb, (heap_setCell_other _ _ _ _ hV).trans h.ref, h.rel, h.lo, h.bel.setCell hp u⟩
theorem Aside.left {D b V : Nat} {w w' : World} (h : Aside [D, b] w w') : Aside [D, b, V] w w' := h.mono (fun k hk => by simp at hk ⊢; omega)
theorem Aside.right {D b V : Nat} {w w' : World} (h : Aside [V] w w') : Aside [D, b, V] w w' := h.mono (fun k hk => by simp at hk ⊢; omega)
theorem Two.write {n k : Nat} {w W W1 W2 : World} {D b V : Nat} {d : Dev} {r : RDev} (h : Two n k w W D b V d r) (hk : k ≤ 1000) {i : Int} {l : List UInt8} (hd : DevAt W1 D b (writeD d i l)) (h1 : Aside [D, b] W W1) (hr : RefAt W2 V (rwD r i l)) (h2 : Aside [V] W1 W2) :
    Two n (k + 1) w W2 D b V (writeD d i l) (rwD r i l) :=
  have ha := hd.apart (h.ref.aside h1 (by have := h.dev.apart h.ref; simp; omega))
  h.turn (h1.left.trans h2.right) (hd.aside h2 (by simp; exact ha.1) (by simp; exact ha.2)) hr (h.rel.write hk i l).2 h.lo

/-- A row of bytes is no device. -/
theorem Two.off {n k : Nat} {w W : World} {D b V : Nat} {d : Dev} {r : RDev} (h : Two n k w W D b V d r) {g : Nat} {cur : Array Value} (hg : W.heap[g]? = some (.cells cur 5 (0, 0))) : D ≠ g ∧ b ≠ g ∧ V ≠ g := by
  obtain ⟨h1, ⟨M, ⟨es, c, h2, _⟩, _⟩, _⟩ := h.dev
  refine ⟨fun e => ?_, fun e => ?_, fun e => ?_⟩
  · rw [e, hg] at h1; cases h1
  · rw [e, hg] at h2; cases h2
  · have h3 := h.ref
    unfold RefAt at h3
    rw [e, hg] at h3; cases h3

end Go.Proofs.Ytdlbjllgdikadaa
