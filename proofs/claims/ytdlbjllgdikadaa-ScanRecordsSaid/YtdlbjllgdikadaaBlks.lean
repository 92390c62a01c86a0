/- Slices of blocks: such as the call made (OwnBs), such as it reads (IsBs). -/
import Derived.Test.YtdlbjllgdikadaaSegA
import Derived.Lib.OwnKind
namespace Go.Proofs.Ytdlbjllgdikadaa
open Go.RowKit

theorem info43 : (Try.prog.info? 43).map (fun i => (i.zero, i.size, i.bytes)) = some (some (.agg #[.int .u64 0, .int .u8 0, .bool false, .bool false, .slice none 0 0]), 5, 40) := by kernel_rfl

theorem Blk.cells_size (b : Blk) (a : Option Addr) (c : Nat) : (b.cells a c).size = 5 := rfl

def cellsOf : List (Blk × Option Addr × Nat) → List Value
  | [] => []
  | p :: r => (p.1.cells p.2.1 p.2.2).toList ++ cellsOf r

theorem cellsOf_append (r s : List (Blk × Option Addr × Nat)) : cellsOf (r ++ s) = cellsOf r ++ cellsOf s := by
  induction r with
  | nil => rfl
  | cons p r ih => simp [cellsOf, ih]

theorem cellsOf_length (r : List (Blk × Option Addr × Nat)) : (cellsOf r).length = r.length * 5 := by
  induction r with
  | nil => rfl
  | cons p r ih => simp [cellsOf, ih, Blk.cells]; omega

theorem cellsOf_get (r : List (Blk × Option Addr × Nat)) (i : Nat) (hi : i < r.length) (j : Nat) (hj : j < 5) :
    (cellsOf r)[5 * i + j]? = (r[i].1.cells r[i].2.1 r[i].2.2)[j]? := by
  induction r generalizing i with
  | nil => exact absurd hi (Nat.not_lt_zero i)
  | cons p r ih =>
    cases i with
    | zero =>
      rw [cellsOf, List.getElem?_append_left (by simp [Blk.cells]; omega)]
      simp
    | succ i =>
      rw [cellsOf, List.getElem?_append_right (by simp [Blk.cells]; omega)]
      have e : 5 * (i + 1) + j - (p.1.cells p.2.1 p.2.2).toList.length = 5 * i + j := by simp [Blk.cells]; omega
      rw [e, ih i (by simpa using hi)]
      simp

/-- A slice of blocks that the call itself made, each body too. -/
def OwnBs (w : World) (base : Nat) (v : Value) (l : List Blk) : Prop :=
  ∃ r : List (Blk × Option Addr × Nat), r.map (·.1) = l ∧ w.ownsRow base 43 5 v l.length (cellsOf r) ∧ ∀ p ∈ r, OwnB w base (.slice p.2.1 p.1.body.length p.2.2) p.1.body

theorem OwnBs.nil (w : World) (base : Nat) : OwnBs w base (.slice none 0 0) [] := ⟨[], rfl, World.ownsRow_nil w base 43 5, fun _ hp => nomatch hp⟩

theorem ownsRow_later {w w' : World} {base : Nat} {e : TypeId} {size : Nat} {v : Value} {n : Nat} {xs : List Value} (h : w.ownsRow base e size v n xs) (hb : Below w.heap.size w w') : w'.ownsRow base e size v n xs := by
  refine ⟨h.1, ?_⟩
  rcases h.2 with hn | ⟨g, cap, cur, rfl, hbg, hg, rest⟩
  · exact .inl hn
  · exact .inr ⟨g, cap, cur, rfl, hbg, (hb.block g (Array.getElem?_eq_some_iff.1 hg).1).trans hg, rest⟩

theorem OwnBs.later {w w' : World} {base : Nat} {v : Value} {l : List Blk} (h : OwnBs w base v l) (hb : Below w.heap.size w w') : OwnBs w' base v l := by
  obtain ⟨r, h1, h2, h3⟩ := h
  exact ⟨r, h1, ownsRow_later h2 hb, fun p hp => (h3 p hp).later hb⟩

theorem OwnBs.mono {w : World} {base base' : Nat} {v : Value} {l : List Blk} (h : OwnBs w base v l) (hb : base' ≤ base) : OwnBs w base' v l := by
  obtain ⟨r, h1, h2, h3⟩ := h
  refine ⟨r, h1, ⟨h2.1, ?_⟩, fun p hp => (h3 p hp).mono hb⟩
  rcases h2.2 with hn | ⟨g, cap, cur, rfl, hbg, rest⟩
  · exact .inl hn
  · exact .inr ⟨g, cap, cur, rfl, Nat.le_trans hb hbg, rest⟩

theorem OwnBs.blk {w : World} {base : Nat} {v : Value} {l : List Blk} (h : OwnBs w base v l) : ∀ k, v.ownBlock = some k → base ≤ k ∧ k < w.heap.size := fun k hk => by
  obtain ⟨r, h1, h2, h3⟩ := h
  exact World.ownsRow.lt h2 k hk

theorem OwnBs.kind {w : World} {base : Nat} {v : Value} {l : List Blk} (h : OwnBs w base v l) : ∀ g, v.ownBlock = some g → ∃ c fz, w.heap[g]? = some (.cells c 43 fz) := by
  obtain ⟨r, h1, h2, h3⟩ := h
  exact Lib.ownsRow_kind h2

/-- Another block's cell is written: one that is no row of blocks and no row of bytes. -/
theorem OwnBs.other {w : World} {base : Nat} {v : Value} {l : List Blk} (h : OwnBs w base v l) {b : Nat} {c : Array Value} {t : TypeId} {fz : Nat × Nat} (hb : w.heap[b]? = some (.cells c t fz)) (h43 : t ≠ 43) (h5 : t ≠ 5) (i : Nat) (u : Value) :
    OwnBs (w.setCell ⟨b, i, none⟩ u) base v l := by
  obtain ⟨r, h1, h2, h3⟩ := h
  refine ⟨r, h1, ownsRow_setCell_other h2 ?_ u, fun p hp => ownsRow_setCell_other (h3 p hp) ?_ u⟩
  · intro e
    obtain ⟨c', f', h'⟩ := Lib.ownsRow_kind h2 _ e
    rw [hb] at h'
    simp only [Option.some.injEq, Obj.cells.injEq] at h'
    exact h43 h'.2.1
  · intro e
    obtain ⟨c', f', h'⟩ := Lib.ownsRow_kind (h3 p hp) _ e
    rw [hb] at h'
    simp only [Option.some.injEq, Obj.cells.injEq] at h'
    exact h5 h'.2.1

/-- 'append(v, b)'. -/
theorem wpList_append_blk {w : World} {ops : Array Oper} {rest : List Oper} {o : Oper} {a : Act} {Q : Exit → Act → World → Prop} (hgd : o.guard = none) (s x : Operand)
    (ho : o.op = .call { callee := .builtin .append, args := #[s, x], argTypes := #[32, 32] })
    (base : Nat) (v : Value) (l : List Blk) (hs : a.eval s = v) (hown : OwnBs w base v l)
    (b : Blk) (ab : Option Addr) (cap g n : Nat) (hx : a.eval x = .slice (some ⟨g, 0, none⟩) n n) (hn : n = 1) (hcells : ∀ j u, (b.cells ab cap)[j]? = some u → w.cell? ⟨g, j, none⟩ = some u)
    (hbody : OwnB w base (.slice ab b.body.length cap) b.body)
    (hlen : l.length ≤ 1099511627776) (hbase : base ≤ w.heap.size)
    (h : ∀ v' w', OwnBs w' base v' (l ++ [b]) → w.grownBy w' v.ownBlock → wpList Try.prog ops Q rest (a.put o.dst v') w') : wpList Try.prog ops Q (o :: rest) a w := by
  obtain ⟨i0, hi, hz0, hz1, hz2⟩ := info_parts info43
  obtain ⟨r, h1, h2, h3⟩ := hown
  subst hn
  refine wpList_append_own w hgd s x 32 ho base 43 i0 (.agg #[.int .u64 0, .int .u8 0, .bool false, .bool false, .slice none 0 0]) 5 40 (by kernel_rfl) hi hz0 hz1 hz2 rfl (by decide) v l.length (cellsOf r) hs h2 ⟨g, 0, none⟩ 1 1 (b.cells ab cap).toList hx rfl
    (fun j u hu => by rw [Addr.add_lit, Nat.zero_add]; exact hcells j u (by simpa using hu)) (fun u hu => by
      simp [Blk.cells] at hu
      rcases hu with rfl | rfl | rfl | rfl | rfl <;> rfl) (by unfold maxLen; omega) (by omega) hbase ?_
  intro v' w' k1 k2 _
  refine h v' w' ⟨r ++ [(b, ab, cap)], by simp [h1], ?_, ?_⟩ k2
  · rw [cellsOf_append, List.length_append]
    simpa [cellsOf] using k1
  · have hk : ∀ p : Blk × Option Addr × Nat, OwnB w base (.slice p.2.1 p.1.body.length p.2.2) p.1.body → OwnB w' base (.slice p.2.1 p.1.body.length p.2.2) p.1.body := by
      intro p hp
      refine World.ownsRow.kept hp k2 ?_
      cases e : (Value.slice p.2.1 p.1.body.length p.2.2).ownBlock with
      | none => exact .inl rfl
      | some q =>
        right
        intro e2
        obtain ⟨c1, f1, z1⟩ := Lib.ownsRow_kind hp q e
        obtain ⟨c2, f2, z2⟩ := Lib.ownsRow_kind h2 q e2.symm
        rw [z1] at z2
        simp at z2
    intro p hp
    rcases List.mem_append.1 hp with hp | hp
    · exact hk p (h3 p hp)
    · rw [List.mem_singleton] at hp
      subst hp
      exact hk _ hbody

/-- A slice of blocks, as it reads. -/
def IsBs (w : World) (a : Option Addr) (l : List Blk) : Prop :=
  ∀ i (h : i < l.length), ∃ b off ab cap, a = some ⟨b, off, none⟩ ∧ (∀ j u, (l[i].cells ab cap)[j]? = some u → w.cell? ⟨b, off + 5 * i + j, none⟩ = some u) ∧
    IsBytes w ab l[i].body ∧ l[i].body.length ≤ cap ∧ (ab = none → l[i].body = [] ∧ cap = 0)

theorem OwnBs.slice {w : World} {base : Nat} {v : Value} {l : List Blk} (h : OwnBs w base v l) :
    ∃ a cap, v = .slice a l.length cap ∧ IsBs w a l ∧ l.length ≤ cap ∧ cap ≤ maxLen ∧ (∀ x, a = some x → ∃ g, x = ⟨g, 0, none⟩ ∧ base ≤ g ∧ g < w.heap.size) ∧ (a = none → l = [] ∧ cap = 0) := by
  obtain ⟨r, h1, h2, h3⟩ := h
  have hl : r.length = l.length := by rw [← h1, List.length_map]
  rcases h2.2 with ⟨rfl, hn⟩ | ⟨g, cap, cur, rfl, hb, hg, hnc, hcm, hcs, htake⟩
  · have hnil : l = [] := List.length_eq_zero_iff.1 hn
    subst hnil
    exact ⟨none, 0, rfl, fun i hi => absurd hi (Nat.not_lt_zero i), Nat.zero_le _, Nat.zero_le _, fun x hx => (nomatch hx), fun _ => ⟨rfl, rfl⟩⟩
  · refine ⟨some ⟨g, 0, none⟩, cap, rfl, ?_, hnc, hcm, fun x hx => ⟨g, by cases hx; rfl, hb, (Array.getElem?_eq_some_iff.1 hg).1⟩, fun hx => nomatch hx⟩
    intro i hi
    have hir : i < r.length := by omega
    have e : l[i] = r[i].1 := by simp only [← h1, List.getElem_map]
    rw [e]
    have hown := h3 r[i] (List.getElem_mem hir)
    obtain ⟨a2, c2, e2, hby, hle, _, _, hno⟩ := hown.slice
    refine ⟨g, 0, r[i].2.1, r[i].2.2, rfl, ?_, hown.bytes, ?_, ?_⟩
    · intro j u hu
      have hj : j < 5 := (Array.getElem?_eq_some_iff.1 hu).1
      rw [Nat.zero_add, World.ownsRow.cellAt h2 (5 * i + j) (by omega), cellsOf_get r i hir j hj]
      exact hu
    · cases e2; exact hle
    · cases e2; exact hno

theorem IsBs.below {N : Nat} {w w' : World} {a : Option Addr} {l : List Blk} (h : IsBs w a l) (hb : Below N w w') (hN : w.heap.size ≤ N) : IsBs w' a l := by
  intro i hi
  obtain ⟨b, off, ab, cap, e, hc, hby, hle, hno⟩ := h i hi
  refine ⟨b, off, ab, cap, e, fun j u hu => ?_, hby.later (hb.mono hN), hle, hno⟩
  have := hc j u hu
  exact (hb.cell (p := ⟨b, off + 5 * i + j, none⟩) (Nat.lt_of_lt_of_le (World.block_lt_of_cell? w _ this) hN)).trans this

theorem IsBs.later {w w' : World} {a : Option Addr} {l : List Blk} (h : IsBs w a l) (hb : Below w.heap.size w w') : IsBs w' a l := h.below hb (Nat.le_refl _)

end Go.Proofs.Ytdlbjllgdikadaa
