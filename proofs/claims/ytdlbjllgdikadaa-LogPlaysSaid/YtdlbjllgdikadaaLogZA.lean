/- varvelaw22.LogPlays: devices, copies, a new opening, in a round. -/
import Derived.Test.YtdlbjllgdikadaaLogL
namespace Go.Proofs.Ytdlbjllgdikadaa
open Go.RowKit
set_option linter.unusedVariables false
set_option linter.unusedSimpArgs false

theorem LogSt.mono {w : World} {B B' X D : Nat} {g : Lg} {v1 v2 : Value} (h : LogSt w B X D g v1 v2) (hB : B' ≤ B) : LogSt w B' X D g v1 v2 :=
  ⟨h.at_, h.o1.mono hB, h.o2.mono hB, h.ap, Nat.le_trans hB h.lo⟩
def MidE (n j n0 : Nat) (I dv xv vv wv : Value) (W : World) : Prop := ∃ X D b R V g d r rd v1 v2 u1 u2, dv = .pointer (some ⟨D, 0, none⟩) ∧ xv = .pointer (some ⟨X, 0, none⟩) ∧ vv = .pointer (some ⟨V, 0, none⟩) ∧ wv = .pointer (some ⟨R, 0, none⟩) ∧ Mid n j n0 W I X D b R V g d r rd v1 v2 u1 u2

section
variable {n j n0 : Nat} {W W1 W2 : World} {I : Value} {X D b R V : Nat} {g g' : Lg} {d d' : Dev} {r r' : RLg} {rd rd' : RDev} {v1 v2 u1 u2 v1' v2' u1' u2' : Value}
theorem Mid.low (h : Mid n j n0 W I X D b R V g d r rd v1 v2 u1 u2) : ∀ q, FF n0 I v1 v2 q → q < W.heap.size := fun q hq => by
  rcases hq with e | e | e | e
  · exact (h.log.o1.blk q e).2
  · exact (h.log.o2.blk q e).2
  · exact h.il q e
  · exact Nat.lt_of_lt_of_le e h.lo.2.2.2.2
/-- The device has turned. -/
theorem Mid.dev1 (h : Mid n j n0 W I X D b R V g d r rd v1 v2 u1 u2) (hd : DevAt W1 D b d') (k : Aside [D] W W1) : Half n n0 W1 I X D b R V g d' r rd v1 v2 u1 u2 ∧ Keep n0 W W1 := by
  have hk : ∀ q, q ∈ [D] → ∀ c t fz, W.heap[q]? = some (.cells c t fz) → t ≠ 91 ∧ t ≠ 5 := fun q hq c t fz e => kinds3 h.log.at_ h.dev q (by simp at hq ⊢; exact .inr (.inl hq)) c t fz e
  have hX : X ∉ [D] := fun e => by
    rw [List.mem_singleton] at e
    have z : W.heap[X]? = _ := h.log.at_
    rw [e, h.dev.1] at z; simp at z
  have hT : ∀ q ∈ [D], q = X ∨ q = D ∨ q = b ∨ v1.ownBlock = some q ∨ v2.ownBlock = some q := fun q hq => .inr (.inl (List.mem_singleton.1 hq))
  refine ⟨h.half ⟨h.log.at_.aside k hX, h.log.o1.aside k hk, h.log.o2.aside k hk, h.log.ap, h.log.lo⟩ hd k hT (fun q e => .inl e) (fun q e => .inl e) (h.of1.aside h.log.o1 k fun q hq hm => ?_) (h.of2.aside h.log.o2 k fun q hq hm => ?_), h.keep k hT⟩
  · obtain ⟨c1, f1, z⟩ := h.log.o1.kind q hq
    exact (hk q hm _ _ _ z).1 rfl
  · obtain ⟨c1, f1, z⟩ := h.log.o2.kind q hq
    exact (hk q hm _ _ _ z).1 rfl
/-- The document's device too. -/
theorem Half.dev2 (h : Half n n0 W I X D b R V g d r rd v1 v2 u1 u2) {j : Nat} (hV : RefAt W1 V rd') (k : Aside [V] W W1) (rel : LRel n j g r) (pr : PRel n (40 * j) d rd') : Mid n j n0 W1 I X D b R V g d r rd' v1 v2 u1 u2 ∧ Keep n0 W W1 := by
  have k2 : Aside [R, V] W W1 := k.mono fun q hq => by rw [List.mem_singleton] at hq; rw [hq]; simp
  have hR : R ∉ [V] := by rw [List.mem_singleton]; exact h.rst.at_.neV h.rst.dev
  exact ⟨h.full ⟨h.rst.at_.aside k hR, hV, h.rst.o1.asideV h.rst.dev k, h.rst.o2.asideV h.rst.dev k, pr.len, h.rst.n40, h.rst.num⟩ k2 rel pr, h.keep k2⟩
/-- Both are opened anew. -/
theorem Mid.reopen {X' R' : Nat} (h : Mid n j n0 W I X D b R V g d r rd v1 v2 u1 u2) (hL : LogSt W1 W.heap.size X' D (openG (nextS (devRun d)) (lastsOf (refRecs (devRun d)))) v1' (.slice none 0 0)) (hD : DevAt W1 D b d) (hB : Below W.heap.size W W1)
    (hat : RLogAt W2 R' V ⟨lastsOf (refRecs (devRun d)), [], nextS (devRun d), false⟩ u1' (.slice none 0 0)) (hU : WinRs (FF n0 I v1' (.slice none 0 0)) W2 u1' (lastsOf (refRecs (devRun d)))) (hR : W1.heap.size ≤ R') (hB2 : Below W1.heap.size W1 W2) (hj : j ≤ 1000) :
    Mid n j n0 W2 I X' D b R' V (openG (nextS (devRun d)) (lastsOf (refRecs (devRun d)))) d ⟨lastsOf (refRecs (devRun d)), [], nextS (devRun d), false⟩ rd v1' (.slice none 0 0) u1' (.slice none 0 0) := by
  have hb := h.pr.blocks
  have hn := h.rst.n40
  have hrel : LRel n j (openG (nextS (devRun d)) (lastsOf (refRecs (devRun d)))) ⟨lastsOf (refRecs (devRun d)), [], nextS (devRun d), false⟩ := by
    have := LRel.openD d (by omega) (by omega)
    rw [hb] at this
    exact this.more (Nat.zero_le _)
  exact ⟨(hL.mono h.lo.2.2.2.2).later hB2, hD.later hB2, ⟨hat, (h.rst.dev.later hB).later hB2, hU, WinRs.nil _ _, h.rst.len, hn, hrel.num hn.2 hj⟩, hrel, h.pr, ⟨h.lo.1, h.lo.2.1, by have := h.lo.2.2.2.2; have := hB.size; omega, h.lo.2.2.2.1, Nat.le_trans h.lo.2.2.2.2 (Nat.le_trans hB.size hB2.size)⟩,
    (hL.o1.offLow (F := fun q => I.ownBlock = some q) h.il).later hL.o1 hB2, RsOff.nil _ _, fun q hq => Nat.lt_of_lt_of_le (h.il q hq) (Nat.le_trans hB.size hB2.size)⟩
theorem Mid.openLow {X' : Nat} (h : Mid n j n0 W I X D b R V g d r rd v1 v2 u1 u2) (hL : LogSt W1 W.heap.size X' D g' v1' (.slice none 0 0)) (hB : Below W.heap.size W W1) : ∀ q, FF n0 I v1' (.slice none 0 0) q → q < W1.heap.size := fun q hq => by
  rcases hq with e | e | e | e
  · exact (hL.o1.blk q e).2
  · cases e
  · exact Nat.lt_of_lt_of_le (h.il q e) hB.size
  · exact Nat.lt_of_lt_of_le e (Nat.le_trans h.lo.2.2.2.2 hB.size)
/-- Copies are gone on with: the log's copy is there. -/
theorem Mid.copyRst {X' D' : Nat} (h : Mid n j n0 W I X D b R V g d r rd v1 v2 u1 u2) (hL : LogSt W1 W.heap.size X' D' g v1' v2') (hB : Below W.heap.size W W1) : RSt (FF n0 I v1' v2') W1 R V n r rd u1 u2 ∧ ∀ q, FF n0 I v1' v2' q → q < W1.heap.size := by
  refine ⟨(h.rst.weak fun q hq => ?_).later hB, fun q hq => ?_⟩
  · rcases hq with e | e | e | e
    · exact .inr (hL.o1.blk q e).1
    · exact .inr (hL.o2.blk q e).1
    · exact .inl (.inr (.inr (.inl e)))
    · exact .inl (.inr (.inr (.inr e)))
  · rcases hq with e | e | e | e
    · exact (hL.o1.blk q e).2
    · exact (hL.o2.blk q e).2
    · exact Nat.lt_of_lt_of_le (h.il q e) hB.size
    · exact Nat.lt_of_lt_of_le e (Nat.le_trans h.lo.2.2.2.2 hB.size)
theorem Mid.copied {X' D' b' R' V' : Nat} (h : Mid n j n0 W I X D b R V g d r rd v1 v2 u1 u2) (hL : LogSt W1 W.heap.size X' D' g v1' v2') (hD : DevAt W1 D' b' d) (hV : RefAt W1 V' rd) (hlo : n0 ≤ D' ∧ n0 ≤ b' ∧ n0 ≤ V') (hB : Below W.heap.size W W1)
    (hat : RLogAt W2 R' V' r u1' u2') (hU1 : WinRs (FF n0 I v1' v2') W2 u1' r.L) (hU2 : WinRs (FF n0 I v1' v2') W2 u2' r.W) (hR : W1.heap.size ≤ R') (hB2 : Below W1.heap.size W1 W2) : Mid n j n0 W2 I X' D' b' R' V' g d r rd v1' v2' u1' u2' :=
  ⟨(hL.mono h.lo.2.2.2.2).later hB2, hD.later hB2, ⟨hat, hV.later hB2, hU1, hU2, h.rst.len, h.rst.n40, h.rst.num⟩, h.rel, h.pr, ⟨hlo.1, hlo.2.1, by have := h.lo.2.2.2.2; have := hB.size; omega, hlo.2.2, Nat.le_trans h.lo.2.2.2.2 (Nat.le_trans hB.size hB2.size)⟩,
    (hL.o1.offLow (F := fun q => I.ownBlock = some q) h.il).later hL.o1 hB2, (hL.o2.offLow (F := fun q => I.ownBlock = some q) h.il).later hL.o2 hB2, fun q hq => Nat.lt_of_lt_of_le (h.il q hq) (Nat.le_trans hB.size hB2.size)⟩
/-- Behind the opening of both. -/
theorem Mid.start {w W W1 W2 : World} {X D b R V : Nat} {d : Dev} {rd : RDev} {v1 u1 : Value} (hL : LogSt W w.heap.size X D (openG (nextS (devRun d)) (lastsOf (refRecs (devRun d)))) v1 (.slice none 0 0)) (hD : DevAt W D b d) (hV : RefAt W1 V rd) (hp : PRel n 0 d rd)
    (hlo : n0 ≤ D ∧ n0 ≤ b ∧ n0 ≤ V ∧ n0 ≤ w.heap.size) (hB0 : Below w.heap.size w W) (hB : Below W.heap.size W W1) (hat : RLogAt W2 R V ⟨lastsOf (refRecs (devRun d)), [], nextS (devRun d), false⟩ u1 (.slice none 0 0)) (hU : WinRs (FF n0 (.slice none 0 0) v1 (.slice none 0 0)) W2 u1 (lastsOf (refRecs (devRun d)))) (hR : W1.heap.size ≤ R) (hB2 : Below W1.heap.size W1 W2) (hn : 1 ≤ n ∧ n ≤ 40) :
    Mid n 0 n0 W2 (.slice none 0 0) X D b R V (openG (nextS (devRun d)) (lastsOf (refRecs (devRun d)))) d ⟨lastsOf (refRecs (devRun d)), [], nextS (devRun d), false⟩ rd v1 (.slice none 0 0) u1 (.slice none 0 0) := by
  have hb := hp.blocks
  have hrel : LRel n 0 (openG (nextS (devRun d)) (lastsOf (refRecs (devRun d)))) ⟨lastsOf (refRecs (devRun d)), [], nextS (devRun d), false⟩ := by
    have := LRel.openD d (by omega) (by omega)
    rwa [hb] at this
  have hB12 := below_call hB (Nat.le_refl _) hB2
  exact ⟨(hL.mono hlo.2.2.2).later hB12, hD.later hB12, ⟨hat, hV.later hB2, hU, WinRs.nil _ _, hp.len, hn, hrel.num hn.2 (Nat.zero_le _)⟩, hrel, hp, ⟨hlo.1, hlo.2.1, by have := hlo.2.2.2; have := hB0.size; have := hB.size; omega, hlo.2.2.1, by have := hlo.2.2.2; have := hB0.size; have := hB12.size; omega⟩,
    (fun rr _ _ p _ q _ e => nomatch e), (fun rr _ _ p _ q _ e => nomatch e), (fun q e => nomatch e)⟩
/-- What Sync asks for. -/
theorem Mid.syncPre (h : Mid n j n0 W I X D b R V g d r rd v1 v2 u1 u2) (hj : j ≤ 900) : DevW d (catB g.waits).length ∧ (∀ x ∈ g.waits, mayS x.kind x.from_ x.body = true) ∧ 1 ≤ d.blocks ∧ LgOk g := by
  have h1 := h.rel.mn
  have h2 := h.rst.n40
  have h3 := h.pr.low
  have h4 : (catB g.waits).length = sumM r.W := by rw [h.rel.waits, catB_sum]
  exact ⟨⟨h.pr.ok, by rw [h4]; omega⟩, fun x hx => (h.rel.wf x (by rw [← h.rel.waits]; exact hx)).2.2.2, by rw [h.pr.blocks]; exact h2.1, h.rel.ok h2.2 (by omega)⟩
end
end Go.Proofs.Ytdlbjllgdikadaa
