/- The walk of a region by a plan, where values are built of parts too. -/
import Derived.Test.YtdlbjllgdikadaaSeq
namespace Go.Proofs.Ytdlbjllgdikadaa
open Go.RowKit

def valueOp2 (o : Op) : Bool := valueOp o || match o with
  | .build .. => true
  | _ => false

theorem valueOp2_run {P : Program} {ev : Operand → Value} {o : Oper} {w w' : World} {n : Next} (hv : valueOp2 o.op = true) (h : (execOp ev o).run P w = .ok n w') : ∃ x, n = .value x := by
  unfold valueOp2 at hv
  rw [Bool.or_eq_true] at hv
  rcases hv with hv | hv
  · exact valueOp_run hv h
  · unfold execOp at h
    cases ho : o.op <;> rw [ho] at hv h <;> simp only [Bool.false_eq_true] at hv <;> simp only [] at h
    exact run_v h

def seqB2 (md : Region.Mode) (ops : Array Oper) : List (Nat × Bool) → Array Bool → Bool
  | [], listed => (Region.ready md ops listed).isEmpty
  | (k, f) :: r, listed =>
    (if f then (Region.ready md ops listed).contains k && Region.free md ops listed k && ((ops[k]?).map fun o => valueOp2 o.op).getD false
      else Region.ready md ops listed == [k]) && seqB2 md ops r (listed.setIfInBounds k true)

section
variable {P : Program} {ops : Array Oper} {Q : Exit → Act → World → Prop} {md : Region.Mode} {S : World → Prop}

theorem yieldsIf_of_quiet2 {o : Oper} {a : Act} {K : Act → Prop} (hv : valueOp2 o.op = true) (hwt : Region.wanted o (yielded ops a.tmps) = true)
    (h : o.quiet P a (fun W => ∃ x : SW S, W = x.W) K) : ∃ v, YieldsIf P ops S o v a ∧ K (a.put o.dst v) := by
  obtain ⟨v, h1, h2⟩ := h
  refine ⟨v, .inl ⟨hwt, fun W hW => ?_⟩, h2⟩
  have h3 := h1 W ⟨⟨W, hW⟩, rfl⟩
  unfold Oper.quietAt at h3
  cases hr : (execOp a.eval o).run P W with
  | halt x w' => rw [hr] at h3; exact h3.elim
  | ok n w' =>
    obtain ⟨x, rfl⟩ := valueOp2_run hv hr
    rw [hr] at h3
    obtain ⟨e1, e2⟩ := h3
    rw [e1, e2]

theorem wpAnyH_seq2 (hs : Region.noSelect ops = true) (hQ : ∀ d v c a w, Q (.panic c) (Act.put a d v) w → Q (.panic c) a w) :
    ∀ (l : List (Nat × Bool)) (listed : Array Bool) (a : Act) (w : World), seqB2 md ops l listed = true → S w →
      wpSeq P ops Q S l a w → wpAnyH P md ops Q S l.length listed a w
  | [], listed, a, w, hB, hS, h => by
    simp only [seqB2, List.isEmpty_iff] at hB
    simp only [wpSeq] at h
    exact ⟨hB, h⟩
  | (k, f) :: l, listed, a, w, hB, hS, h => by
    simp only [wpSeq] at h
    cases h0 : ops[k]? with
    | none => rw [h0] at h; exact h.elim
    | some o =>
      rw [h0] at h
      simp only [] at h
      cases f with
      | true =>
        simp only [seqB2, if_true, Bool.and_eq_true, h0, Option.map_some, Option.getD_some] at hB
        obtain ⟨⟨⟨hr, hf⟩, hv⟩, hB'⟩ := hB
        split at h
        · rename_i hw
          rw [if_pos rfl] at h
          obtain ⟨v, hy, hK⟩ := yieldsIf_of_quiet2 hv hw h
          exact wpAnyH_take h0 hs hf hr (hQ _ _) hy hS (wpAnyH_seq2 hs hQ l _ _ _ hB' hS hK)
        · rename_i hw
          exact wpAnyH_take h0 hs hf hr (hQ _ _) (.inr ⟨by simpa using hw, rfl⟩) hS (wpAnyH_seq2 hs hQ l _ _ _ hB' hS h)
      | false =>
        simp only [seqB2, Bool.false_eq_true, if_false, Bool.and_eq_true, beq_iff_eq] at hB
        obtain ⟨hr, hB'⟩ := hB
        refine wpAnyH_all hr (by simp) fun i hi => ?_
        rw [List.mem_singleton] at hi
        subst hi
        unfold wpOp
        simp only [h0]
        split
        · rename_i hw
          rw [if_pos hw, if_neg (by simp)] at h
          exact .inl (Oper.wp_mono (fun a' w' ⟨h1, h2⟩ => ⟨h1, wpAnyH_seq2 hs hQ l _ _ _ hB' h1 h2⟩) h)
        · rename_i hw
          rw [if_neg hw] at h
          exact ⟨hS, wpAnyH_seq2 hs hQ l _ _ _ hB' hS h⟩

/-- THE BEGINNING. -/
theorem wp_region_seq2 {id : Nat} {l : List Oper} {a : Act} {w : World} (S : World → Prop) (pl : List (Nat × Bool)) (hm : P.follows .mixedOrders = true)
    (hB : (Region.noSelect l.toArray && pl.length == l.length && seqB2 .any l.toArray pl (Array.replicate l.length false)) = true) (hQ : ∀ d v c a w, Q (.panic c) (Act.put a d v) w → Q (.panic c) a w)
    (hS : S w.drew) (h : wpSeq P l.toArray Q S pl a w.drew) : (Code.region id l.toArray true).wp P Q a w := by
  simp only [Bool.and_eq_true, beq_iff_eq] at hB
  refine wp_region_held_drew (S := S) hm hS fun _ => ?_
  have := wpAnyH_seq2 (md := .any) hB.1.1 hQ pl (Array.replicate l.length false) a w.drew hB.2 hS h
  simpa [hB.1.2] using this
end

/-- A plan, made greedily (for reading it off). -/
def planOf2 (ops : Array Oper) : Nat → Array Bool → List (Nat × Bool)
  | 0, _ => []
  | fuel + 1, listed =>
    let rs := Region.ready .any ops listed
    match rs.find? (fun k => Region.free .any ops listed k && ((ops[k]?).map fun o => valueOp2 o.op).getD false) with
    | some k => (k, true) :: planOf2 ops fuel (listed.setIfInBounds k true)
    | none => match rs with
      | [k] => (k, false) :: planOf2 ops fuel (listed.setIfInBounds k true)
      | _ => []

end Go.Proofs.Ytdlbjllgdikadaa
