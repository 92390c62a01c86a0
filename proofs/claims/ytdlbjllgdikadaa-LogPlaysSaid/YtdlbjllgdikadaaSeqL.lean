/- The walk of a drawn region by a plan whose last operation, for which all others wait, may leave the class of worlds (it stores to a cell that the region reads). -/
import Derived.Test.YtdlbjllgdikadaaGrA
namespace Go.Proofs.Ytdlbjllgdikadaa
open Go.RowKit
set_option linter.unusedVariables false

def wpAnyL (P : Program) (md : Region.Mode) (ops : Array Oper) (Q : Exit → Act → World → Prop) (S : World → Prop) (last : Nat) : Nat → Array Bool → Act → World → Prop
  | 0, listed, a, w => Region.ready md ops listed = [] ∧ Q .normal a w
  | fuel + 1, listed, a, w =>
    (Region.ready md ops listed = [] → Q .normal a w) ∧
    ∀ i ∈ Region.ready md ops listed, wpOp P ops Q i (fun a' w' => (i ≠ last → S w') ∧ wpAnyL P md ops Q S last fuel (listed.setIfInBounds i true) a' w') a w

/-- Number j waits for number i. -/
def waitsFor (md : Region.Mode) (ops : Array Oper) : Nat → Nat → Nat → Bool
  | 0, _, _ => false
  | n + 1, j, i => match ops[j]? with
    | none => false
    | some o => o.after.any fun e => Region.binds md e && (e.on == i || waitsFor md ops n e.on i)

section
variable {P : Program} {ops : Array Oper} {Q : Exit → Act → World → Prop} {md : Region.Mode} {S : World → Prop} {last : Nat}

def ClosedL (md : Region.Mode) (ops : Array Oper) (listed : Array Bool) : Prop :=
  ∀ j o, ops[j]? = some o → listed.getD j false = true → ∀ e ∈ o.after, Region.binds md e = true → listed.getD e.on false = true

theorem closed_start : ClosedL md ops (Array.replicate ops.size false) := fun j o h1 h2 => by
  have hj : j < ops.size := (Array.getElem?_eq_some_iff.1 h1).1
  simp [hj] at h2

theorem closed_step {listed : Array Bool} {i : Nat} (h : ClosedL md ops listed) (hi : i ∈ Region.ready md ops listed) : ClosedL md ops (listed.setIfInBounds i true) := fun j o h1 h2 e he hb => by
  by_cases hji : i = j
  · subst hji
    obtain ⟨_, o', ho', hall⟩ := mem_ready.1 hi
    rw [h1] at ho'
    cases ho'
    exact getD_set_true (hall e he hb)
  · rw [getD_set_ne false hji] at h2
    exact getD_set_true (h j o h1 h2 e he hb)

theorem waits_spec {listed : Array Bool} (hc : ClosedL md ops listed) : ∀ (n j i : Nat), waitsFor md ops n j i = true → (j ∈ Region.ready md ops listed ∨ listed.getD j false = true) → listed.getD i false = true
  | 0, j, i, h, _ => by simp [waitsFor] at h
  | n + 1, j, i, h, hj => by
    unfold waitsFor at h
    cases ho : ops[j]? with
    | none => rw [ho] at h; simp at h
    | some o =>
      rw [ho] at h
      simp only [Array.any_eq_true, Bool.and_eq_true, Bool.or_eq_true, beq_iff_eq] at h
      have hall : ∀ e ∈ o.after, Region.binds md e = true → listed.getD e.on false = true := by
        rcases hj with hj | hj
        · obtain ⟨_, o', ho', hall⟩ := mem_ready.1 hj
          rw [ho] at ho'; cases ho'
          exact hall
        · exact hc j o ho hj
      obtain ⟨q, hq, hb, h2⟩ := h
      have h3 := hall _ (Array.getElem_mem hq) hb
      rcases h2 with h2 | h2
      · rw [← h2]; exact h3
      · exact waits_spec hc n _ i h2 (.inr h3)

theorem wpAny_of_L : ∀ (fuel : Nat) (listed : Array Bool) (a : Act) (w : World), wpAnyL P md ops Q S last fuel listed a w → wpAny P md ops Q fuel listed a w
  | 0, _, _, _, h => h
  | fuel + 1, _, _, _, h => ⟨h.1, fun i hi => wpOp_mono (fun a' w' h' => wpAny_of_L fuel _ a' w' h'.2) (h.2 i hi)⟩

theorem wpAnyL_first {i n : Nat} {oi : Oper} {v : Value} (hi : ops[i]? = some oi) (hsel : ∀ (j : Nat) (o : Oper) cs b, ops[j]? = some o → o.op ≠ .select cs b)
    (hQ : ∀ c a w, Q (.panic c) (a.put oi.dst v) w → Q (.panic c) a w) (hwt : waitsFor md ops n last i = true) (hil : i ≠ last) :
    ∀ (fuel : Nat) (listed : Array Bool) (a : Act) (w : World), ClosedL md ops listed →
      (∀ j oj, ops[j]? = some oj → j ≠ i → listed.getD j true = false → (∀ e ∈ oj.after, Region.binds md e = true → e.on ≠ i) → oi.apart ops oj = true) →
      i ∈ Region.ready md ops listed → YieldsIf P ops S oi v a → S w →
      wpAnyL P md ops Q S last fuel (listed.setIfInBounds i true) (a.put oi.dst v) w → wpAnyL P md ops Q S last (fuel + 1) listed a w := by
  intro fuel
  induction fuel with
  | zero =>
    intro listed a w _ _ hr hy hS H
    refine ⟨fun h => (by rw [h] at hr; cases hr), fun j hj => ?_⟩
    by_cases hji : j = i
    · subst hji; exact hy.wpOp hi hS ⟨fun _ => hS, H⟩
    · have := ready_mono hj hji
      rw [H.1] at this
      cases this
  | succ fuel ih =>
    intro listed a w hc hfree hr hy hS H
    refine ⟨fun h => (by rw [h] at hr; cases hr), fun j hj => ?_⟩
    by_cases hji : j = i
    · subst hji; exact hy.wpOp hi hS ⟨fun _ => hS, H⟩
    · have hjl : j ≠ last := fun e => by
        subst e
        have h1 := waits_spec hc n j i hwt (.inl hj)
        have h0 := (mem_ready.1 hr).1
        have hib : i < listed.size := by
          rcases Nat.lt_or_ge i listed.size with h' | h'
          · exact h'
          · simp [Array.getElem?_eq_none h'] at h1
        simp [hib] at h0 h1
        rw [h0] at h1; cases h1
      have h1 := H.2 j (ready_mono hj hji)
      obtain ⟨hjun, oj, hoj, hall⟩ := mem_ready.1 hj
      have hnot : ∀ e ∈ oj.after, Region.binds md e = true → e.on ≠ i := fun e he hb heq => by
        have h1 := hall e he hb
        have h0 := (mem_ready.1 hr).1
        rw [heq] at h1
        rcases Nat.lt_or_ge i listed.size with h' | h'
        · simp [h'] at h0 h1; rw [h0] at h1; cases h1
        · simp [Array.getElem?_eq_none h'] at h1
      have h2 := wpOp_putIf hoj (hfree j oj hoj hji hjun hnot) (fun cs b => hsel i oi cs b hi) (fun cs b => hsel j oj cs b hoj) hQ hy h1
      have hfree' : ∀ k ok, ops[k]? = some ok → k ≠ i → (listed.setIfInBounds j true).getD k true = false →
          (∀ e ∈ ok.after, Region.binds md e = true → e.on ≠ i) → oi.apart ops ok = true := fun k ok hk hki hun hno => by
        refine hfree k ok hk hki ?_ hno
        by_cases hjk : j = k
        · subst hjk; exact hjun
        · rw [getD_set_ne true hjk] at hun; exact hun
      refine wpOp_mono (fun a' w' h3 => ⟨h3.2.1, ih (listed.setIfInBounds j true) a' w' (closed_step hc hj) hfree' (ready_mono hr (Ne.symm hji)) h3.1 (h3.2.1 hjl) ?_⟩) h2
      rw [Array.setIfInBounds_comm _ _ hji]
      exact h3.2.2

/-- The plan, checked. -/
def seqBL (md : Region.Mode) (ops : Array Oper) (last : Nat) : List (Nat × Bool) → Array Bool → Bool
  | [], listed => (Region.ready md ops listed).isEmpty
  | (k, f) :: r, listed =>
    (if f then (Region.ready md ops listed).contains k && Region.free md ops listed k && ((ops[k]?).map fun o => valueOp2 o.op).getD false && (k != last && waitsFor md ops ops.size last k)
      else Region.ready md ops listed == [k] && (k != last || r.isEmpty)) && seqBL md ops last r (listed.setIfInBounds k true)

def wpSeqL (P : Program) (ops : Array Oper) (Q : Exit → Act → World → Prop) (S : World → Prop) (last : Nat) : List (Nat × Bool) → Act → World → Prop
  | [], a, w => Q .normal a w
  | (k, f) :: r, a, w => match ops[k]? with
    | none => False
    | some o =>
      if Region.wanted o (yielded ops a.tmps) = true then
        if f = true then o.quiet P a (fun W => ∃ x : SW S, W = x.W) (fun a' => wpSeqL P ops Q S last r a' w)
        else o.wp P a w (fun a' w' => (k ≠ last → S w') ∧ wpSeqL P ops Q S last r a' w') Q
      else wpSeqL P ops Q S last r (a.put o.dst undef) w

theorem wpAnyL_seq (hs : Region.noSelect ops = true) (hQ : ∀ d v c a w, Q (.panic c) (Act.put a d v) w → Q (.panic c) a w) :
    ∀ (l : List (Nat × Bool)) (listed : Array Bool) (a : Act) (w : World), seqBL md ops last l listed = true → ClosedL md ops listed → (l ≠ [] → S w) →
      wpSeqL P ops Q S last l a w → wpAnyL P md ops Q S last l.length listed a w
  | [], listed, a, w, hB, _, hS, h => by
    simp only [seqBL, List.isEmpty_iff] at hB
    simp only [wpSeqL] at h
    exact ⟨hB, h⟩
  | (k, f) :: l, listed, a, w, hB, hc, hS, h => by
    have hSw := hS (by simp)
    clear hS
    simp only [wpSeqL] at h
    cases h0 : ops[k]? with
    | none => rw [h0] at h; exact h.elim
    | some o =>
      rw [h0] at h
      simp only [] at h
      cases f with
      | true =>
        simp only [seqBL, if_true, Bool.and_eq_true, h0, Option.map_some, Option.getD_some, bne_iff_ne] at hB
        obtain ⟨⟨⟨⟨hr, hf⟩, hv⟩, hkl, hwt⟩, hB'⟩ := hB
        have hr' : k ∈ Region.ready md ops listed := by simpa using hr
        have hc' := closed_step hc hr'
        split at h
        · rename_i hw
          rw [if_pos rfl] at h
          obtain ⟨v, hy, hK⟩ := yieldsIf_of_quiet2 hv hw h
          exact wpAnyL_first h0 (Region.noSelect_spec hs) (hQ _ _) hwt hkl l.length listed a w hc (Region.free_spec h0 hf) hr' hy hSw (wpAnyL_seq hs hQ l _ _ _ hB' hc' (fun _ => hSw) hK)
        · rename_i hw
          exact wpAnyL_first h0 (Region.noSelect_spec hs) (hQ _ _) hwt hkl l.length listed a w hc (Region.free_spec h0 hf) hr' (.inr ⟨by simpa using hw, rfl⟩) hSw (wpAnyL_seq hs hQ l _ _ _ hB' hc' (fun _ => hSw) h)
      | false =>
        simp only [seqBL, Bool.false_eq_true, if_false, Bool.and_eq_true, beq_iff_eq, Bool.or_eq_true, bne_iff_ne, List.isEmpty_iff] at hB
        obtain ⟨⟨hr, hle⟩, hB'⟩ := hB
        have hr' : k ∈ Region.ready md ops listed := by rw [hr]; simp
        have hc' := closed_step hc hr'
        refine ⟨fun h1 => (by rw [hr] at h1; cases h1), fun i hi => ?_⟩
        rw [hr, List.mem_singleton] at hi
        subst hi
        unfold wpOp
        simp only [h0]
        have hSS : ∀ w', (i ≠ last → S w') → l ≠ [] → S w' := fun w' h1 h2 => h1 (fun e => by rcases hle with h3 | h3; exact h3 e; exact h2 h3)
        split
        · rename_i hw
          rw [if_pos hw, if_neg (by simp)] at h
          exact .inl (Oper.wp_mono (fun a' w' ⟨h1, h2⟩ => ⟨h1, wpAnyL_seq hs hQ l _ _ _ hB' hc' (hSS w' h1) h2⟩) h)
        · rename_i hw
          rw [if_neg hw] at h
          exact ⟨fun _ => hSw, wpAnyL_seq hs hQ l _ _ _ hB' hc' (fun _ => hSw) h⟩

/-- THE BEGINNING. -/
theorem wp_region_seqL {id : Nat} {l : List Oper} {a : Act} {w : World} (S : World → Prop) (last : Nat) (pl : List (Nat × Bool)) (hm : P.follows .mixedOrders = true)
    (hB : (Region.noSelect l.toArray && pl.length == l.length && seqBL .any l.toArray last pl (Array.replicate l.length false)) = true) (hQ : ∀ d v c a w, Q (.panic c) (Act.put a d v) w → Q (.panic c) a w)
    (hS : S w.drew) (h : wpSeqL P l.toArray Q S last pl a w.drew) : (Code.region id l.toArray true).wp P Q a w := by
  simp only [Bool.and_eq_true, beq_iff_eq] at hB
  refine wp_region_any hm (wpAny_of_L (S := S) (last := last) _ _ _ _ ?_)
  have hc : ClosedL .any l.toArray (Array.replicate l.length false) := closed_start (md := .any) (ops := l.toArray)
  have := wpAnyL_seq (md := .any) (last := last) hB.1.1 hQ pl (Array.replicate l.length false) a w.drew hB.2 hc (fun _ => hS) h
  simpa [hB.1.2] using this

variable {pl : List (Nat × Bool)} {k : Nat} {o : Oper} {a : Act} {w : World}
theorem wpSeqL_skip {f : Bool} (ho : ops[k]? = some o) (hw : Region.wanted o (yielded ops a.tmps) = false) (h : wpSeqL P ops Q S last pl (a.put o.dst undef) w) : wpSeqL P ops Q S last ((k, f) :: pl) a w := by
  simp only [wpSeqL, ho, hw]; exact h
theorem wpSeqL_free (ho : ops[k]? = some o) (hw : Region.wanted o (yielded ops a.tmps) = true)
    (h : ∀ K : Act → Prop, (∀ a, wpSeqL P ops Q S last pl a w → K a) → o.quiet P a (fun W => ∃ x : SW S, W = x.W) K) : wpSeqL P ops Q S last ((k, true) :: pl) a w := by
  simp only [wpSeqL, ho, hw, if_true]
  exact h _ (fun _ h => h)
theorem wpSeqL_next (ho : ops[k]? = some o) (hw : Region.wanted o (yielded ops a.tmps) = true)
    (h : ∀ K : Act → World → Prop, Hid (∀ a w', (k ≠ last → S w') → wpSeqL P ops Q S last pl a w' → K a w') → o.wp P a w K Q) : wpSeqL P ops Q S last ((k, false) :: pl) a w := by
  simp only [wpSeqL, ho, hw, if_true]
  exact h _ (show ∀ _ _, _ from fun a w' h1 h2 => ⟨h1, h2⟩)
theorem wpSeqL_nil (h : Q .normal a w) : wpSeqL P ops Q S last [] a w := by simpa only [wpSeqL] using h
end
end Go.Proofs.Ytdlbjllgdikadaa
