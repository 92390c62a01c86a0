/- The walk of a region by a plan, where a class of worlds may grow narrower behind an operation that is carried out. -/
import Derived.Test.YtdlbjllgdikadaaSeqB
namespace Go.Proofs.Ytdlbjllgdikadaa
open Go.RowKit

def wpSeqM (P : Program) (ops : Array Oper) (Q : Exit → Act → World → Prop) : List (Nat × Bool) → (World → Prop) → Act → World → Prop
  | [], _, a, w => Q .normal a w
  | (k, f) :: r, S, a, w => match ops[k]? with
    | none => False
    | some o =>
      if Region.wanted o (yielded ops a.tmps) = true then
        if f = true then o.quiet P a (fun W => ∃ x : SW S, W = x.W) (fun a' => wpSeqM P ops Q r S a' w)
        else o.wp P a w (fun a' w' => ∃ S' : World → Prop, (∀ W, S' W → S W) ∧ S' w' ∧ wpSeqM P ops Q r S' a' w') Q
      else wpSeqM P ops Q r S (a.put o.dst undef) w

section
variable {P : Program} {ops : Array Oper} {Q : Exit → Act → World → Prop} {md : Region.Mode}

theorem wpAnyH_mono {S S' : World → Prop} (hS : ∀ W, S' W → S W) : ∀ (n : Nat) (listed : Array Bool) (a : Act) (w : World), wpAnyH P md ops Q S' n listed a w → wpAnyH P md ops Q S n listed a w
  | 0, _, _, _, h => h
  | n + 1, _, _, _, h => ⟨h.1, fun i hi => wpOp_mono (fun a' w' h' => ⟨hS _ h'.1, wpAnyH_mono hS n _ a' w' h'.2⟩) (h.2 i hi)⟩

theorem wpAnyH_seqM (hs : Region.noSelect ops = true) (hQ : ∀ d v c a w, Q (.panic c) (Act.put a d v) w → Q (.panic c) a w) :
    ∀ (l : List (Nat × Bool)) (S : World → Prop) (listed : Array Bool) (a : Act) (w : World), seqB2 md ops l listed = true → S w →
      wpSeqM P ops Q l S a w → wpAnyH P md ops Q S l.length listed a w
  | [], S, listed, a, w, hB, hS, h => by
    simp only [seqB2, List.isEmpty_iff] at hB
    simp only [wpSeqM] at h
    exact ⟨hB, h⟩
  | (k, f) :: l, S, listed, a, w, hB, hS, h => by
    simp only [wpSeqM] at h
    cases h0 : ops[k]? with
    | none => rw [h0] at h; exact h.elim
    | some o =>
      rw [h0] at h
      simp only [] at h
      cases f with
      | true =>
        simp only [seqB2, if_true, Bool.and_eq_true, h0, Option.map_some, Option.getD_some] at hB
        obtain ⟨⟨⟨hr, hf⟩, hv⟩, hB'⟩ := hB
        split at h
        · rename_i hw
          rw [if_pos rfl] at h
          obtain ⟨v, hy, hK⟩ := yieldsIf_of_quiet2 hv hw h
          exact wpAnyH_take h0 hs hf hr (hQ _ _) hy hS (wpAnyH_seqM hs hQ l S _ _ _ hB' hS hK)
        · rename_i hw
          exact wpAnyH_take h0 hs hf hr (hQ _ _) (.inr ⟨by simpa using hw, rfl⟩) hS (wpAnyH_seqM hs hQ l S _ _ _ hB' hS h)
      | false =>
        simp only [seqB2, Bool.false_eq_true, if_false, Bool.and_eq_true, beq_iff_eq] at hB
        obtain ⟨hr, hB'⟩ := hB
        refine wpAnyH_all hr (by simp) fun i hi => ?_
        rw [List.mem_singleton] at hi
        subst hi
        unfold wpOp
        simp only [h0]
        split
        · rename_i hw
          rw [if_pos hw, if_neg (by simp)] at h
          exact .inl (Oper.wp_mono (fun a' w' ⟨S', h1, h2, h3⟩ => ⟨h1 _ h2, wpAnyH_mono h1 _ _ _ _ (wpAnyH_seqM hs hQ l S' _ _ _ hB' h2 h3)⟩) h)
        · rename_i hw
          rw [if_neg hw] at h
          exact ⟨hS, wpAnyH_seqM hs hQ l S _ _ _ hB' hS h⟩

/-- THE BEGINNING. -/
theorem wp_region_seqM {id : Nat} {l : List Oper} {a : Act} {w : World} (S : World → Prop) (pl : List (Nat × Bool)) (hm : P.follows .mixedOrders = true)
    (hB : (Region.noSelect l.toArray && pl.length == l.length && seqB2 .any l.toArray pl (Array.replicate l.length false)) = true) (hQ : ∀ d v c a w, Q (.panic c) (Act.put a d v) w → Q (.panic c) a w)
    (hS : S w.drew) (h : wpSeqM P l.toArray Q pl S a w.drew) : (Code.region id l.toArray true).wp P Q a w := by
  simp only [Bool.and_eq_true, beq_iff_eq] at hB
  refine wp_region_held_drew (S := S) hm hS fun _ => ?_
  have := wpAnyH_seqM (md := .any) hB.1.1 hQ pl S (Array.replicate l.length false) a w.drew hB.2 hS h
  simpa [hB.1.2] using this

variable {S : World → Prop} {pl : List (Nat × Bool)} {k : Nat} {o : Oper} {a : Act} {w : World}

theorem wpSeqM_skip {f : Bool} (ho : ops[k]? = some o) (hw : Region.wanted o (yielded ops a.tmps) = false) (h : wpSeqM P ops Q pl S (a.put o.dst undef) w) : wpSeqM P ops Q ((k, f) :: pl) S a w := by
  simp only [wpSeqM, ho, hw]; exact h

theorem wpSeqM_free (ho : ops[k]? = some o) (hw : Region.wanted o (yielded ops a.tmps) = true)
    (h : ∀ K : Act → Prop, (∀ a, wpSeqM P ops Q pl S a w → K a) → o.quiet P a (fun W => ∃ x : SW S, W = x.W) K) : wpSeqM P ops Q ((k, true) :: pl) S a w := by
  simp only [wpSeqM, ho, hw, if_true]
  exact h _ (fun _ h => h)

theorem wpSeqM_next (ho : ops[k]? = some o) (hw : Region.wanted o (yielded ops a.tmps) = true)
    (h : ∀ K : Act → World → Prop, Hid (∀ (S' : World → Prop) a w', (∀ W, S' W → S W) → S' w' → wpSeqM P ops Q pl S' a w' → K a w') → o.wp P a w K Q) : wpSeqM P ops Q ((k, false) :: pl) S a w := by
  simp only [wpSeqM, ho, hw, if_true]
  exact h _ (show ∀ (S' : World → Prop) _ _, _ from fun S' _ _ h0 h1 h2 => ⟨S', h0, h1, h2⟩)

theorem wpSeqM_nil (h : Q .normal a w) : wpSeqM P ops Q [] S a w := by simpa only [wpSeqM] using h
end

end Go.Proofs.Ytdlbjllgdikadaa
