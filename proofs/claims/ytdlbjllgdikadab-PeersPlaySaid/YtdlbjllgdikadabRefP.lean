/- The document's round of peers in memory: New, Is, Copy, end. -/
import Derived.Test.YtdlbjllgdikadabPeerG
namespace Go.Proofs.Ytdlbjllgdikadab
open Go.RowKit
set_option linter.unusedVariables false

def rfCells (d : Rd) (G cap : Nat) : Array Value := #[.int .i64 (d.n : Int), .int .i64 (d.self : Int), .int .i64 (d.last : Int), .int .u64 (d.now : Int), .slice (some ⟨G, 0, none⟩) d.n cap]
/-- A row of standings. -/
def Sts (w : World) (G n : Nat) (f : Nat → St) : Prop := ∃ cs : Array Value, w.heap[G]? = some (.cells cs 50 (0, 0)) ∧ ∀ i, i < n → ∀ j, j < 4 → cs[i * 4 + j]? = some (stCell (f i) j)
structure RfAt (w : World) (V G cap : Nat) (d : Rd) : Prop where
  head : w.heap[V]? = some (.cells (rfCells d G cap) 48 (0, 0))
  row : Sts w G d.n d.by_
  le : d.n ≤ cap

section
variable {w w' : World} {V G cap n : Nat} {d : Rd} {f : Nat → St}
theorem Sts.lt (h : Sts w G n f) : G < w.heap.size := by obtain ⟨cs, h, _⟩ := h; exact lt_of_block h
theorem Sts.cell (h : Sts w G n f) (i : Nat) (hi : i < n) (j : Nat) (hj : j < 4) : w.cell? ⟨G, i * 4 + j, none⟩ = some (stCell (f i) j) := by
  obtain ⟨cs, h1, h2⟩ := h
  rw [cell_of_row w G _ _ _ _ h1]; exact h2 i hi j hj
theorem Sts.free (h : Sts w G n f) (q : Nat) : w.frozen? ⟨G, q, none⟩ = false := by obtain ⟨cs, h, _⟩ := h; exact frozen_of_row w G q _ _ h
theorem Sts.aside {T : List Nat} (h : Sts w G n f) (k : Aside T w w') (hG : G ∉ T) : Sts w' G n f := by
  have hl := h.lt
  obtain ⟨cs, h1, h2⟩ := h
  exact ⟨cs, (k.block G hl hG).trans h1, h2⟩
theorem Sts.later (h : Sts w G n f) (hb : Below w.heap.size w w') : Sts w' G n f := by
  have hl := h.lt
  obtain ⟨cs, h1, h2⟩ := h
  exact ⟨cs, (hb.block G hl).trans h1, h2⟩
theorem Sts.other (h : Sts w G n f) (p : Addr) (u : Value) (hp : G ≠ p.block) : Sts (w.setCell p u) G n f := by
  obtain ⟨cs, h1, h2⟩ := h
  exact ⟨cs, (heap_setCell_other w p G u hp).trans h1, h2⟩
theorem Sts.put (h : Sts w G n f) (i j : Nat) (hi : i < n) (hj : j < 4) (s : St) (u : Value) (hu : stCell s j = u) (ho : ∀ k, k < 4 → k ≠ j → stCell s k = stCell (f i) k) : Sts (w.setCell ⟨G, i * 4 + j, none⟩ u) G n (updS f i s) := by
  obtain ⟨cs, h1, h2⟩ := h
  refine ⟨_, heap_setCell_same w G _ _ 50 u h1, fun k hk q hq => ?_⟩
  rw [Array.getElem?_setIfInBounds]
  have hb : i * 4 + j < cs.size := (Array.getElem?_eq_some_iff.1 (h2 i hi j hj)).1
  by_cases e : k = i
  · subst e
    rw [updS_same]
    by_cases e2 : q = j
    · subst e2
      rw [if_pos rfl, if_pos hb, hu]
    · rw [if_neg (by omega), ho q hq e2]
      exact h2 k hk q hq
  · rw [updS_other _ _ _ _ e, if_neg (by omega)]
    exact h2 k hk q hq
theorem RfAt.ne (h : RfAt w V G cap d) : V ≠ G := by
  intro e
  obtain ⟨cs, h1, _⟩ := h.row
  have h2 := h.head
  rw [e, h1] at h2
  simp at h2
theorem RfAt.cell (h : RfAt w V G cap d) (q : Nat) (u : Value) (hu : (rfCells d G cap)[q]? = some u) : w.cell? ⟨V, q, none⟩ = some u := by
  rw [cell_of_row w V q _ _ _ h.head, hu]
theorem RfAt.c0 (h : RfAt w V G cap d) : w.cell? ⟨V, 0, none⟩ = some (.int .i64 (d.n : Int)) := h.cell 0 _ rfl
theorem RfAt.c1 (h : RfAt w V G cap d) : w.cell? ⟨V, 1, none⟩ = some (.int .i64 (d.self : Int)) := h.cell 1 _ rfl
theorem RfAt.c2 (h : RfAt w V G cap d) : w.cell? ⟨V, 2, none⟩ = some (.int .i64 (d.last : Int)) := h.cell 2 _ rfl
theorem RfAt.c3 (h : RfAt w V G cap d) : w.cell? ⟨V, 3, none⟩ = some (.int .u64 (d.now : Int)) := h.cell 3 _ rfl
theorem RfAt.c4 (h : RfAt w V G cap d) : w.cell? ⟨V, 4, none⟩ = some (.slice (some ⟨G, 0, none⟩) d.n cap) := h.cell 4 _ rfl
theorem RfAt.free (h : RfAt w V G cap d) (q : Nat) : w.frozen? ⟨V, q, none⟩ = false := frozen_of_row w V q _ _ h.head
theorem RfAt.lt (h : RfAt w V G cap d) : V < w.heap.size := lt_of_block h.head
theorem RfAt.later (h : RfAt w V G cap d) (hb : Below w.heap.size w w') : RfAt w' V G cap d := ⟨(hb.block V h.lt).trans h.head, h.row.later hb, h.le⟩
theorem RfAt.aside {T : List Nat} (h : RfAt w V G cap d) (k : Aside T w w') (hV : V ∉ T) (hG : G ∉ T) : RfAt w' V G cap d := ⟨(k.block V h.lt hV).trans h.head, h.row.aside k hG, h.le⟩
theorem RfAt.drewN (h : RfAt w V G cap d) (q : Nat) : RfAt (w.drewN q) V G cap d := ⟨h.head, h.row, h.le⟩
theorem RfAt.stored {d' : Rd} {G' cap' : Nat} (h : RfAt w V G cap d) (q : Nat) (u : Value) (hu : (rfCells d G cap).setIfInBounds q u = rfCells d' G' cap') (hr : Sts w G' d'.n d'.by_) (hG : G' ≠ V) (hle : d'.n ≤ cap') : RfAt (w.setCell ⟨V, q, none⟩ u) V G' cap' d' :=
  ⟨by rw [heap_setCell_same w V q _ 48 _ h.head, hu], hr.other _ _ hG, hle⟩
theorem RfAt.rowput (h : RfAt w V G cap d) (i j : Nat) (hi : i < d.n) (hj : j < 4) (s : St) (u : Value) (hu : stCell s j = u) (ho : ∀ k, k < 4 → k ≠ j → stCell s k = stCell (d.by_ i) k) : RfAt (w.setCell ⟨G, i * 4 + j, none⟩ u) V G cap { d with by_ := updS d.by_ i s } :=
  ⟨(heap_setCell_other _ _ _ _ (fun e => h.ne e)).trans h.head, h.row.put i j hi hj s u hu ho, h.le⟩
theorem RfAt.s0 (h : RfAt w V G cap d) (i : Nat) (hi : i < d.n) : w.cell? ⟨G, i * 4, none⟩ = some (.int .u64 ((d.by_ i).due : Int)) := h.row.cell i hi 0 (by decide)
theorem RfAt.s1 (h : RfAt w V G cap d) (i : Nat) (hi : i < d.n) : w.cell? ⟨G, i * 4 + 1, none⟩ = some (.int .i64 ((d.by_ i).fails : Int)) := h.row.cell i hi 1 (by decide)
theorem RfAt.s2 (h : RfAt w V G cap d) (i : Nat) (hi : i < d.n) : w.cell? ⟨G, i * 4 + 2, none⟩ = some (.bool (d.by_ i).busy) := h.row.cell i hi 2 (by decide)
theorem RfAt.s3 (h : RfAt w V G cap d) (i : Nat) (hi : i < d.n) : w.cell? ⟨G, i * 4 + 3, none⟩ = some (.int .u64 ((d.by_ i).since : Int)) := h.row.cell i hi 3 (by decide)
end

theorem refIs_calls (V G cap : Nat) (d : Rd) (i : Int) (w : World) (h : RfAt w V G cap d) : Calls Try.prog 20 #[.pointer (some ⟨V, 0, none⟩), .int .i64 i] w fun e w' => e = .returned (.bool (isP d i)) ∧ w = w' := by
  have c0 := h.c0
  have c1 := h.c1
  by_cases h1 : 0 ≤ i
  · by_cases h2 : i < (d.n : Int)
    · by_cases h3 : i = (d.self : Int)
      · have hp : isP d i = false := by unfold isP; simp [h3]
        have hz : (i != (d.self : Int)) = false := by simp [h3]
        rw [hp]
        have H3 := Lib.hid h3
        clear h3 hp
        go_enter Try.func20, Try.ntmps20
        go_wp2
        go_ret
        exact ⟨rfl, rfl⟩
      · have hp : isP d i = true := by unfold isP; simp [h1, h2, h3]
        have hz : (i != (d.self : Int)) = true := by simp [h3]
        rw [hp]
        clear h3 hp
        go_enter Try.func20, Try.ntmps20
        go_wp2
        go_ret
        exact ⟨rfl, rfl⟩
    · have hp : isP d i = false := by unfold isP; simp [h2]
      rw [hp]
      clear hp
      go_enter Try.func20, Try.ntmps20
      go_wp2
      go_ret
      exact ⟨rfl, rfl⟩
  · have hp : isP d i = false := by unfold isP; simp [h1]
    rw [hp]
    clear hp
    go_enter Try.func20, Try.ntmps20
    go_wp2
    go_ret
    exact ⟨rfl, rfl⟩

theorem info50' : (Try.prog.info? 50).map (fun i => (i.zero, i.size, i.bytes)) = some (some (.agg #[.int .u64 0, .int .i64 0, .bool false, .int .u64 0]), 4, 32) := by kernel_rfl
theorem made50 (n : Nat) : madeCells (Value.agg #[.int .u64 0, .int .i64 0, .bool false, .int .u64 0]).cells (n * 4) = Array.ofFn (n := n * 4) fun q => stCell St.none (q.val % 4) := by
  apply Array.ext_getElem?
  intro k
  by_cases hk : k < n * 4
  · have h4 : k % 4 < 4 := Nat.mod_lt _ (by decide)
    simp only [madeCells, Value.cells, Array.getElem?_map, Array.getElem?_ofFn, hk, dif_pos, Array.getElem?_range, if_true, Option.map_some]
    congr 1
    match h : k % 4, h4 with
    | 0, _ => simp; rfl
    | 1, _ => simp; rfl
    | 2, _ => simp; rfl
    | 3, _ => simp; rfl
  · rw [Array.getElem?_eq_none (by simp [madeCells]; omega), Array.getElem?_eq_none (by simp; omega)]
theorem make46 (n : Nat) (h : n ≤ 16) (W : World) : (Instr.makeSlice 46 (.int .i64 (n : Int)) (.int .i64 (n : Int))).run Try.prog W = .ok (.slice (some ⟨W.heap.size, 0, none⟩) n n) (W.alloc (.cells (Array.ofFn (n := n * 4) fun q => stCell St.none (q.val % 4)) 50)) := by
  obtain ⟨i0, hi, hz0, hz1, hz2⟩ := info_parts info50'
  have := run_makeSlice (P := Try.prog) W 46 50 i0 _ Try.underlying46 hi hz0 .i64 .i64 (n : Int) (n : Int) (by omega) (by omega) (by rw [hz1]; omega) (by rw [hz2]; omega) (by omega)
  rw [this, hz1, Int.toNat_natCast, made50]

/-- A value that is a round of the document's. -/
def RfNew (B : Nat) (w' : World) (d : Rd) (e : Ending) : Prop := ∃ V G cap, e = .returned (.pointer (some ⟨V, 0, none⟩)) ∧ RfAt w' V G cap d ∧ B ≤ V ∧ B ≤ G

theorem refNew_calls (n self : Nat) (w : World) (h2 : 2 ≤ n) (h16 : n ≤ 16) (hs : self < n) : Calls Try.prog 13 #[.int .i64 (n : Int), .int .i64 (self : Int)] w fun e w' => RfNew w.heap.size w' (newR n self) e ∧ Below w.heap.size w w' := by
  have m46 := make46 n h16
  go_enter Try.func13, Try.ntmps13
  go_wp2
  go_ret
  refine ⟨⟨w.heap.size + 1, w.heap.size, n, rfl, ⟨?_, ⟨Array.ofFn (n := n * 4) fun q => stCell St.none (q.val % 4), ?_, ?_⟩, Nat.le_refl _⟩, Nat.le_succ _, Nat.le_refl _⟩, ((Below.refl _ _).alloc (Nat.le_refl _) _).alloc (by simp) _⟩
  · have := heap_alloc_new (w.alloc (.cells (Array.ofFn (n := n * 4) fun q => stCell St.none (q.val % 4)) 50)) (.cells (rfCells (newR n self) w.heap.size n) 48)
    rw [World.size_alloc] at this
    exact this
  · exact ((((Below.refl _ (w.alloc (.cells (Array.ofFn (n := n * 4) fun q => stCell St.none (q.val % 4)) 50))).alloc (Nat.le_refl _) _).block w.heap.size (by simp))).trans (heap_alloc_new _ _)
  · intro i hi j hj
    have hi2 : i < n := hi
    have hk : i * 4 + j < n * 4 := by omega
    rw [Array.getElem?_ofFn, dif_pos hk, show (i * 4 + j) % 4 = j by omega]
    rfl

theorem info48 : (Try.prog.info? 48).map (·.size) = some 5 := by kernel_rfl
@[go_sem] theorem zeroV48 (w : World) : (zeroValue 48).run Try.prog w = .ok (.agg #[.int .i64 0, .int .i64 0, .int .i64 0, .int .u64 0, .slice none 0 0]) w := by kernel_rfl
set_option maxRecDepth 100000 in
theorem refCopy_calls (V G cap : Nat) (d : Rd) (w : World) (h : RfAt w V G cap d) : Calls Try.prog 16 #[.pointer (some ⟨V, 0, none⟩)] w fun e w' => e = .returned (.pointer (some ⟨w.heap.size, 0, none⟩)) ∧ RfAt w' w.heap.size G cap d ∧ Below w.heap.size w w' := by
  have ha : (w.alloc (.cells #[.int .i64 0, .int .i64 0, .int .i64 0, .int .u64 0, .slice none 0 0] 48)).heap[w.heap.size]? = some (.cells #[.int .i64 0, .int .i64 0, .int .i64 0, .int .u64 0, .slice none 0 0] 48 (0, 0)) := heap_alloc_new _ _
  have hs := Lib.hid (setRow_heap _ w.heap.size _ (rfCells d G cap) 48 _ ha)
  go_enter Try.func16, Try.ntmps16
  go_wp2_with (first
    | (refine wpList_load_row rfl 48 (.tmp 5) rfl V rfl 48 (rfCells d G cap) (0, 0) _ h.head Try.underlying48 rfl (by rw [info48]; rfl) ?_)
    | (refine wpList_store_row rfl 48 (.tmp 3) (.tmp 6) rfl w.heap.size (rfCells d G cap) rfl rfl 48 _ ha (by rw [info48]; rfl) rfl (by simp [rfCells, Value.oneCell']) ?_))
  go_ret
  have hb : Below w.heap.size w ((w.alloc (.cells #[.int .i64 0, .int .i64 0, .int .i64 0, .int .u64 0, .slice none 0 0] 48)).setRow w.heap.size (rfCells d G cap)) := ((Below.refl _ _).alloc (Nat.le_refl _) _).grown (grown_setRow _) (by simp) (fun k hk => by cases hk; exact Nat.le_refl _)
  exact ⟨rfl, ⟨hs.out, h.row.later hb, h.le⟩, hb⟩

def stVals (n : Nat) (f : Nat → St) : List Value := (List.range (n * 4)).map fun k => stCell (f (k / 4)) (k % 4)
theorem stCell_one (s : St) (j : Nat) (hj : j < 4) : (stCell s j).oneCell' = true := by
  match j, hj with
  | 0, _ => rfl
  | 1, _ => rfl
  | 2, _ => rfl
  | 3, _ => rfl

/-- 'append([]Standing{}, r.L...)'. -/
theorem wpList_append_sts {w : World} {ops : Array Oper} {rest : List Oper} {o : Oper} {a : Act} {Q : Exit → Act → World → Prop} (hgd : o.guard = none) (s x : Operand)
    (ho : o.op = .call { callee := .builtin .append, args := #[s, x], argTypes := #[46, 46] })
    (w0 : World) (hw : w = w0.alloc (.cells #[] 50)) (hs : a.eval s = .slice (some ⟨w0.heap.size, 0, none⟩) 0 0)
    (G n cap : Nat) (f : Nat → St) (hx : a.eval x = .slice (some ⟨G, 0, none⟩) n cap) (hrow : Sts w G n f) (h0 : 0 < n) (hn : n ≤ 16)
    (h : ∀ G' cap' w', Sts w' G' n f → n ≤ cap' → w0.heap.size ≤ G' → Below w0.heap.size w0 w' → wpList Try.prog ops Q rest (a.put o.dst (.slice (some ⟨G', 0, none⟩) n cap')) w') : wpList Try.prog ops Q (o :: rest) a w := by
  obtain ⟨i0, hi, hz0, hz1, hz2⟩ := info_parts info50'
  subst hw
  refine wpList_append_own (w0.alloc (.cells #[] 50)) hgd s x 46 ho w0.heap.size 50 i0 _ 4 32 Try.underlying46 hi hz0 hz1 hz2 rfl (by decide) _ 0 [] hs (World.ownsRow_made w0 #[] 0 (Nat.le_refl _) (Nat.zero_le _) rfl) ⟨G, 0, none⟩ n cap (stVals n f) hx
    (by simp [stVals]) (fun j u hu => ?_) (fun u hu => ?_) (by unfold maxLen; omega) (by omega) (by simp) ?_
  · have hj : j < n * 4 := by
      have := (List.getElem?_eq_some_iff.1 hu).1
      simpa [stVals] using this
    rw [Addr.add_lit, Nat.zero_add]
    have := hrow.cell (j / 4) (by omega) (j % 4) (Nat.mod_lt _ (by decide))
    rw [show j / 4 * 4 + j % 4 = j by omega] at this
    rw [this]
    simpa [stVals, hj] using hu
  · simp only [stVals, List.mem_map] at hu
    obtain ⟨k, _, rfl⟩ := hu
    exact stCell_one _ _ (Nat.mod_lt _ (by decide))
  · intro v' w' k1 k2 _
    rw [List.nil_append, Nat.zero_add] at k1
    rcases k1.2 with ⟨_, hz⟩ | ⟨g, cap', cur, rfl, hb, hg, hnc, hcm, hcs, htake⟩
    · omega
    · refine h g cap' w' ⟨cur, hg, fun i hi j hj => ?_⟩ hnc hb (((Below.refl _ w0).alloc (Nat.le_refl _) _).grown k2 (by simp) (fun k hk => by simp [Value.ownBlock] at hk; omega))
      have hk : i * 4 + j < n * 4 := by omega
      have e : (stVals n f)[i * 4 + j]? = some (stCell (f i) j) := by
        simp only [stVals, List.getElem?_map, List.getElem?_range hk, Option.map_some]
        rw [show (i * 4 + j) / 4 = i by omega, show (i * 4 + j) % 4 = j by omega]
      rw [← htake, List.getElem?_take, if_pos hk] at e
      simpa using e
end Go.Proofs.Ytdlbjllgdikadab
