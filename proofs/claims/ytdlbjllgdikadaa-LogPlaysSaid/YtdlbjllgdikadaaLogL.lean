/- varvelaw22.LogPlays: what a round's calls leave. -/
import Derived.Test.YtdlbjllgdikadaaLogO
import Derived.Test.YtdlbjllgdikadaaLogV
namespace Go.Proofs.Ytdlbjllgdikadaa
open Go.RowKit
set_option linter.unusedVariables false
set_option linter.unusedSimpArgs false

/-- A call, in a block of its own. -/
def OpA (w : World) (H : Nat) (o : POp) : Prop := w.heap[H]? = some (.cells o.cells 114 (0, 0))
theorem OpA.cell {w : World} {H : Nat} {o : POp} (h : OpA w H o) (q : Nat) (u : Value) (hu : o.cells[q]? = some u) : w.cell? ⟨H, q, none⟩ = some u := by
  rw [cell_of_row w H q _ _ _ h, hu]
theorem OpA.c0 {w : World} {H : Nat} {o : POp} (h : OpA w H o) : w.cell? ⟨H, 0, none⟩ = some (.int .i64 o.kind) := h.cell 0 _ rfl
theorem OpA.c1 {w : World} {H : Nat} {o : POp} (h : OpA w H o) : w.cell? ⟨H, 1, none⟩ = some (.int .i64 o.i) := h.cell 1 _ rfl
theorem OpA.c2 {w : World} {H : Nat} {o : POp} (h : OpA w H o) : w.cell? ⟨H, 2, none⟩ = some (.int .i64 o.n) := h.cell 2 _ rfl
theorem OpA.c3 {w : World} {H : Nat} {o : POp} (h : OpA w H o) : w.cell? ⟨H, 3, none⟩ = some (.slice o.a o.B.length o.cap) := h.cell 3 _ rfl
theorem OpA.later {w w' : World} {H : Nat} {o : POp} (h : OpA w H o) (hb : Below w.heap.size w w') : OpA w' H o := (hb.block H (lt_of_block h)).trans h
theorem info114s : (Try.prog.info? 114).map (·.size) = some 4 := by kernel_rfl
theorem wpList_store_op2 {w : World} {ops : Array Oper} {rest : List Oper} {o : Oper} {ac : Act} {Q : Exit → Act → World → Prop} (hgd : o.guard = none) (x y : Operand) (ho : o.op = .store 114 x y)
    (H : Nat) (old q : POp) (hx : ac.eval x = .pointer (some ⟨H, 0, none⟩)) (hy : ac.eval y = .agg q.cells) (hb : OpA w H old)
    (h : ∀ w', OpA w' H q → w.grownBy w' (some H) → wpList Try.prog ops Q rest (ac.put o.dst undef) w') : wpList Try.prog ops Q (o :: rest) ac w :=
  wpList_store_row hgd 114 x y ho H _ hx hy 114 _ hb info114s rfl (POp.one _) (h _ (setRow_heap w H _ _ _ _ hb) (grown_setRow _))

/-- Rows of bytes and calls stay. -/
structure Keep (n0 : Nat) (W W1 : World) : Prop where
  bel : Below n0 W W1
  keeps : ∀ (q : Nat) (c : Array Value) (t : TypeId) (fz : Nat × Nat), W.heap[q]? = some (.cells c t fz) → (t = 5 ∨ t = 114) → W1.heap[q]? = some (.cells c t fz)
theorem Keep.trans {n0 : Nat} {W W1 W2 : World} (h : Keep n0 W W1) (k : Keep n0 W1 W2) : Keep n0 W W2 :=
  ⟨h.bel.trans k.bel, fun q c t fz e ht => k.keeps q c t fz (h.keeps q c t fz e ht) ht⟩
theorem Keep.below {n0 : Nat} {W W1 : World} (hb : Below W.heap.size W W1) (hn : n0 ≤ W.heap.size) : Keep n0 W W1 :=
  ⟨hb.mono hn, fun q c t fz e _ => (hb.block q (Array.getElem?_eq_some_iff.1 e).1).trans e⟩
theorem Keep.aside {n0 : Nat} {T : List Nat} {W W1 : World} (k : Aside T W W1) (hlo : ∀ q ∈ T, n0 ≤ q) (hn : n0 ≤ W.heap.size) (hT : ∀ q ∈ T, ∀ c t fz, W.heap[q]? = some (.cells c t fz) → t ≠ 5 ∧ t ≠ 114) : Keep n0 W W1 :=
  ⟨k.toBelow hlo hn, fun q c t fz e ht => (k.block q (Array.getElem?_eq_some_iff.1 e).1 (fun hm => by rcases ht with ht | ht; exact (hT q hm c t fz e).1 ht; exact (hT q hm c t fz e).2 ht)).trans e⟩
theorem Keep.op {n0 : Nat} {W W1 : World} {H : Nat} {o : POp} (k : Keep n0 W W1) (h : OpA W H o) : OpA W1 H o := k.keeps H _ _ _ h (.inr rfl)
theorem Keep.own {n0 base : Nat} {W W1 : World} {v : Value} {l : List UInt8} (k : Keep n0 W W1) (h : OwnB W base v l) : OwnB W1 base v l := by
  refine ⟨h.1, ?_⟩
  rcases h.2 with hn | ⟨g, cap, cur, rfl, hb, hg, rest⟩
  · exact .inl hn
  · exact .inr ⟨g, cap, cur, rfl, hb, k.keeps g _ _ _ hg (.inl rfl), rest⟩

section
variable {n j n0 : Nat} {W W1 W2 : World} {I : Value} {X D b R V : Nat} {g g' : Lg} {d d' : Dev} {r r' : RLg} {rd rd' : RDev} {v1 v2 u1 u2 v1' v2' u1' u2' : Value}

theorem Mid.keep (h : Mid n j n0 W I X D b R V g d r rd v1 v2 u1 u2) {T : List Nat} (k : Aside T W W1) (hT : ∀ q ∈ T, q = X ∨ q = D ∨ q = b ∨ v1.ownBlock = some q ∨ v2.ownBlock = some q) : Keep n0 W W1 := by
  refine Keep.aside k (fun q hq => ?_) h.lo.2.2.2.2 fun q hq c t fz hc => ?_
  · rcases hT q hq with e | e | e | e | e
    · rw [e]; exact h.log.lo
    · rw [e]; exact h.lo.1
    · rw [e]; exact h.lo.2.1
    · exact (h.log.o1.blk q e).1
    · exact (h.log.o2.blk q e).1
  · rcases hT q hq with e | e | e | e | e
    · have z : W.heap[X]? = _ := h.log.at_
      rw [e, z] at hc; simp at hc; rw [← hc.2.1]; decide
    · rw [e, h.dev.1] at hc; simp at hc; rw [← hc.2.1]; decide
    · obtain ⟨_, ⟨M, ⟨es, cl, z, _⟩, _⟩, _⟩ := h.dev
      rw [e, z] at hc; cases hc
    · obtain ⟨c1, f1, z⟩ := h.log.o1.kind q e
      rw [z] at hc; simp at hc; rw [← hc.2.1]; decide
    · obtain ⟨c1, f1, z⟩ := h.log.o2.kind q e
      rw [z] at hc; simp at hc; rw [← hc.2.1]; decide
theorem Half.keep (h : Half n n0 W I X D b R V g d r rd v1 v2 u1 u2) (k : Aside [R, V] W W1) : Keep n0 W W1 := by
  refine Keep.aside k (fun q hq => ?_) h.lo.2.2.2.2 fun q hq c t fz hc => ?_
  · simp only [List.mem_cons, List.not_mem_nil, or_false] at hq
    rcases hq with rfl | rfl
    · exact h.lo.2.2.1
    · exact h.lo.2.2.2.1
  · simp only [List.mem_cons, List.not_mem_nil, or_false] at hq
    rcases hq with rfl | rfl
    · have z : W.heap[q]? = _ := h.rst.at_
      rw [z] at hc; simp at hc; rw [← hc.2.1]; decide
    · have z : W.heap[q]? = _ := h.rst.dev
      rw [z] at hc; simp at hc; rw [← hc.2.1]; decide
theorem own_list {v : Value} {q : Nat} (h : q ∈ v.ownBlock.toList) : v.ownBlock = some q := by
  cases e : v.ownBlock with
  | none => rw [e] at h; cases h
  | some x => rw [e] at h; simp at h; rw [h]

/-- Behind Append, Check. -/
theorem Mid.waitDone (h : Mid n j n0 W I X D b R V g d r rd v1 v2 u1 u2) (k : UInt8) (hk : k = 1 ∨ k = 2) (B : List UInt8) {e : Ending} (hp : WaitPost n0 X D d g v1 v2 k B W e W1) :
    e = .returned (.int .i64 (waitRE n r k B : Nat)) ∧ (∃ v2', Half n n0 W1 I X D b R V (waitG d g k B) d r rd v1 v2' u1 u2) ∧ Keep n0 W W1 := by
  obtain ⟨he, v2', hl, hA, hv, ho⟩ := hp
  have hw := h.rel.wait d h.pr.blocks k hk B
  have hT : ∀ q ∈ X :: v2.ownBlock.toList, q = X ∨ q = D ∨ q = b ∨ v1.ownBlock = some q ∨ v2.ownBlock = some q := fun q hq => by
    rcases List.mem_cons.1 hq with e | e
    · exact .inl e
    · exact .inr (.inr (.inr (.inr (own_list e))))
  have hG1 : (waitG d g k B).lasts = g.lasts := by unfold waitG; split <;> rfl
  refine ⟨by rw [he, hw.1], ⟨v2', h.half hl (DevAt.waits h.log h.dev hA) hA hT (fun q e => .inl e) hv ?_ (ho _ h.il h.of2)⟩, h.keep hA hT⟩
  rw [hG1]
  exact h.of1.aside h.log.o1 hA (fun q hq hm => by
    rcases List.mem_cons.1 hm with e | e
    · obtain ⟨c1, f1, z⟩ := h.log.o1.kind q hq
      have z2 : W.heap[X]? = _ := h.log.at_
      rw [e, z2] at z; simp at z
    · exact h.log.ap q hq (own_list e))
theorem Half.waitDone (h : Half n n0 W I X D b R V g' d r rd v1 v2 u1 u2) {g : Lg} (hrel : LRel n j g r) (hpr : PRel n (40 * j) d rd) (k : UInt8) (hk : k = 1 ∨ k = 2) (B : List UInt8) (hg : g' = waitG d g k B) {e : Ending} (hn : n ≤ 40) (hj : j ≤ 1000) (hp : RWaitPost (FF n0 I v1 v2) R V n r rd u1 k B W e W1) :
    e = .returned (.int .i64 (waitRE n r k B : Nat)) ∧ (∃ u2', Mid n j n0 W1 I X D b R V g' d (waitRG n r k B) rd v1 v2 u1 u2') ∧ Keep n0 W W1 := by
  obtain ⟨he, u2', hat, hu1, hu2, hA⟩ := hp
  have hw := hrel.wait d hpr.blocks k hk B
  rw [← hg] at hw
  have hA2 : Aside [R, V] W W1 := hA.mono fun q hq => by rw [List.mem_singleton] at hq; rw [hq]; simp
  have hV : V ∉ [R] := by
    simp only [List.mem_singleton]
    exact Ne.symm (h.rst.at_.neV h.rst.dev)
  have hL : (waitRG n r k B).L = r.L := by unfold waitRG; split <;> rfl
  refine ⟨he, ⟨u2', h.full ⟨hat, h.rst.dev.aside hA hV, by rw [hL]; exact hu1, hu2, h.rst.len, h.rst.n40, hw.2.num hn hj⟩ hA2 hw.2 hpr⟩, h.keep hA2⟩
/-- Behind Sync. -/
theorem Mid.syncDone (h : Mid n j n0 W I X D b R V g d r rd v1 v2 u1 u2) {e : Ending} (hp : SyncPost n0 X D b d g v1 v2 W e W1) :
    e = .returned (.int .i64 (if (putsD (d, g.down || d.down) (catB g.waits)).2 then 11 else 0 : Int)) ∧ (∃ v1' v2', Half n n0 W1 I X D b R V (syncG (putsD (d, g.down || d.down) (catB g.waits)).2 g) (putsD (d, g.down || d.down) (catB g.waits)).1 r rd v1' v2' u1 u2) ∧ Keep n0 W W1 := by
  obtain ⟨he, v1', v2', hl, hd, hA, hv1, hv2, ho⟩ := hp
  have hT : ∀ q ∈ X :: D :: b :: v1.ownBlock.toList, q = X ∨ q = D ∨ q = b ∨ v1.ownBlock = some q ∨ v2.ownBlock = some q := fun q hq => by
    simp only [List.mem_cons] at hq
    rcases hq with e | e | e | e
    · exact .inl e
    · exact .inr (.inl e)
    · exact .inr (.inr (.inl e))
    · exact .inr (.inr (.inr (.inl (own_list e))))
  obtain ⟨o1, o2⟩ := ho _ h.il h.of1 h.of2
  exact ⟨he, ⟨v1', v2', h.half hl hd hA hT hv1 (fun q e => .inl (hv2 q e)) o1 o2⟩, h.keep hA hT⟩
theorem Half.syncDone (h : Half n n0 W I X D b R V g' d' r rd v1 v2 u1 u2) {g : Lg} {d : Dev} (hrel : LRel n j g r) (hpr : PRel n (40 * j) d rd) (hg : g' = syncG (putsD (d, g.down || d.down) (catB g.waits)).2 g) (hd : d' = (putsD (d, g.down || d.down) (catB g.waits)).1) {e : Ending} (h1 : 1 ≤ n) (hn : n ≤ 40) (hj : j ≤ 900) (hp : RSyncPost (FF n0 I v1 v2) R V r rd W e W1) :
    e = .returned (.int .i64 (if (putsD (d, g.down || d.down) (catB g.waits)).2 then 11 else 0 : Int)) ∧ (∃ r' rd' u1' u2', Mid n (j + 1) n0 W1 I X D b R V g' d' r' rd' v1 v2 u1' u2') ∧ Keep n0 W W1 := by
  obtain ⟨he, u1', u2', hs⟩ := hp
  have hlen : (catB r.W).length ≤ 40 := by rw [catB_sum]; have := hrel.mn; omega
  have hp2 := puts_rel h1 (catB r.W) (40 * j) d rd (r.off || rd.off) hpr (by omega)
  have hq : (g.down || d.down) = (r.off || rd.off) := by rw [hrel.down, hpr.down]
  rw [hq, hrel.waits] at hg hd ⊢
  rw [← hp2.1] at he hs
  have hr' := hrel.sync (putsD (d, r.off || rd.off) (catB r.W)).2
  rw [← hg] at hr'
  rw [← hd] at hp2
  have hpr' : PRel n (40 * (j + 1)) d' (putsR (rd, r.off || rd.off) (catB r.W)).1 := hp2.2.more (by omega)
  exact ⟨he, ⟨_, _, u1', u2', h.full ⟨hs.log, hs.dev, hs.o1, hs.o2, hpr'.len, ⟨h1, hn⟩, hr'.num hn (by omega)⟩ hs.as_ hr' hpr'⟩, h.keep hs.as_⟩
end
end Go.Proofs.Ytdlbjllgdikadaa
