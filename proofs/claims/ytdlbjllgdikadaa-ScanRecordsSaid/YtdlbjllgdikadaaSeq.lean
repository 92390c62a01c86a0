/- A region that draws its order, walked once, in the order of the text: what yields one value in every world of a class is taken first; what must come next, whatever the order, is carried out. -/
import Derived.Test.YtdlbjllgdikadaaBase
import Derived.BigQuiet
import Derived.Deep.RegionHeld
namespace Go.Proofs.Ytdlbjllgdikadaa
open Go.RowKit

/-- A world that meets S: a type of its own, so that the walk's rules do not take it apart. -/
structure SW (S : World → Prop) where
  W : World
  h : S W

/-- An operation that yields a value, or halts: no call of a Go function, no store. -/
def valueOp : Op → Bool
  | .move _ | .assign _ | .pick .. | .load .. | .nilCheck _ | .binOp .. | .unOp .. | .convert .. | .slice .. | .fieldAddr .. | .field .. | .indexAddr .. | .index .. | .extract .. | .lookup .. | .makeInterface .. | .makeFunc .. => true
  | .call c => match c.callee with
    | .builtin .len => true
    | _ => false
  | _ => false

theorem run_v {P : Program} {s : Sem Value} {w w' : World} {n : Next} (h : (do pure (Next.value (← s)) : Sem Next).run P w = .ok n w') : ∃ x, n = .value x := by
  rw [Sem.run_bind] at h
  cases hs : s.run P w with
  | ok x w1 =>
    rw [hs] at h
    simp only [Result.andThen] at h
    cases h
    exact ⟨x, rfl⟩
  | halt x w1 =>
    rw [hs] at h
    simp [Result.andThen] at h

theorem run_bind_ok {P : Program} {α β : Type} {s : Sem α} {f : α → Sem β} {w w' : World} {n : β} {R : Prop} (h : (s >>= f).run P w = .ok n w') (k : ∀ a w1, (f a).run P w1 = .ok n w' → R) : R := by
  rw [Sem.run_bind] at h
  cases hs : s.run P w with
  | ok x w1 => rw [hs] at h; exact k x w1 h
  | halt x w1 => rw [hs] at h; simp [Result.andThen] at h

theorem valueOp_run {P : Program} {ev : Operand → Value} {o : Oper} {w w' : World} {n : Next} (hv : valueOp o.op = true) (h : (execOp ev o).run P w = .ok n w') : ∃ x, n = .value x := by
  unfold execOp at h
  cases ho : o.op <;> rw [ho] at hv h <;> simp only [valueOp, Bool.false_eq_true] at hv <;> simp only [] at h
  case move => simp only [Sem.run_pure] at h; cases h; exact ⟨_, rfl⟩
  case assign => simp only [Sem.run_pure] at h; cases h; exact ⟨_, rfl⟩
  case pick c a b =>
    rw [Sem.run_bind] at h
    cases hs : (asBool (ev c)).run P w with
    | ok x w1 =>
      rw [hs] at h
      simp only [Result.andThen] at h
      cases x <;> simp at h <;> exact ⟨_, h.1.symm⟩
    | halt x w1 => rw [hs] at h; simp [Result.andThen] at h
  case nilCheck x =>
    have hp : ∀ {β : Type} (w w' : World) (b : β), (runtimePanic RuntimeError.nilDeref : Sem β).run P w ≠ .ok b w' := by
      intro β w w' b h
      simp [runtimePanic, goPanic] at h
    split at h
    · exact absurd h (hp _ _ _)
    · exact absurd h (hp _ _ _)
    · exact absurd h (hp _ _ _)
    · split at h
      · exact absurd h (hp _ _ _)
      · refine run_bind_ok h fun _ _ h => ?_
        refine run_bind_ok h fun _ _ h => ?_
        split at h
        · refine run_bind_ok h fun _ _ h => ?_
          simp only [Sem.run_pure] at h
          cases h
          exact ⟨_, rfl⟩
        · simp only [Sem.run_pure] at h
          cases h
          exact ⟨_, rfl⟩
      · simp only [Sem.run_pure] at h; cases h; exact ⟨_, rfl⟩
    · simp only [Sem.run_pure] at h; cases h; exact ⟨_, rfl⟩
  case call c =>
    obtain ⟨callee, args, ts⟩ := c
    cases callee with
    | builtin b =>
      cases b <;> first
        | (exact run_v (s := Builtin.len_ ts o.type (args.map ev)) h)
        | (exact absurd hv (by simp))
    | value f => exact absurd hv (by simp)
    | invoke r m => exact absurd hv (by simp)
  all_goals exact run_v h

/-- The plan of a region's walk: which operation next; true: it is taken first; false: nothing else may come next. -/
def seqB (md : Region.Mode) (ops : Array Oper) : List (Nat × Bool) → Array Bool → Bool
  | [], listed => (Region.ready md ops listed).isEmpty
  | (k, f) :: r, listed =>
    (if f then (Region.ready md ops listed).contains k && Region.free md ops listed k && ((ops[k]?).map fun o => valueOp o.op).getD false
      else Region.ready md ops listed == [k]) && seqB md ops r (listed.setIfInBounds k true)

/-- The walk by the plan. -/
def wpSeq (P : Program) (ops : Array Oper) (Q : Exit → Act → World → Prop) (S : World → Prop) : List (Nat × Bool) → Act → World → Prop
  | [], a, w => Q .normal a w
  | (k, f) :: r, a, w => match ops[k]? with
    | none => False
    | some o =>
      if Region.wanted o (yielded ops a.tmps) = true then
        if f = true then o.quiet P a (fun W => ∃ x : SW S, W = x.W) (fun a' => wpSeq P ops Q S r a' w)
        else o.wp P a w (fun a' w' => S w' ∧ wpSeq P ops Q S r a' w') Q
      else wpSeq P ops Q S r (a.put o.dst undef) w

section
variable {P : Program} {ops : Array Oper} {Q : Exit → Act → World → Prop} {md : Region.Mode} {S : World → Prop}

theorem yieldsIf_of_quiet {o : Oper} {a : Act} {K : Act → Prop} (hv : valueOp o.op = true) (hwt : Region.wanted o (yielded ops a.tmps) = true)
    (h : o.quiet P a (fun W => ∃ x : SW S, W = x.W) K) : ∃ v, YieldsIf P ops S o v a ∧ K (a.put o.dst v) := by
  obtain ⟨v, h1, h2⟩ := h
  refine ⟨v, .inl ⟨hwt, fun W hW => ?_⟩, h2⟩
  have h3 := h1 W ⟨⟨W, hW⟩, rfl⟩
  unfold Oper.quietAt at h3
  cases hr : (execOp a.eval o).run P W with
  | halt x w' => rw [hr] at h3; exact h3.elim
  | ok n w' =>
    obtain ⟨x, rfl⟩ := valueOp_run hv hr
    rw [hr] at h3
    obtain ⟨e1, e2⟩ := h3
    rw [e1, e2]

theorem wpAnyH_seq (hs : Region.noSelect ops = true) (hQ : ∀ d v c a w, Q (.panic c) (Act.put a d v) w → Q (.panic c) a w) :
    ∀ (l : List (Nat × Bool)) (listed : Array Bool) (a : Act) (w : World), seqB md ops l listed = true → S w →
      wpSeq P ops Q S l a w → wpAnyH P md ops Q S l.length listed a w
  | [], listed, a, w, hB, hS, h => by
    simp only [seqB, List.isEmpty_iff] at hB
    simp only [wpSeq] at h
    exact ⟨hB, h⟩
  | (k, f) :: l, listed, a, w, hB, hS, h => by
    simp only [wpSeq] at h
    cases h0 : ops[k]? with
    | none => rw [h0] at h; exact h.elim
    | some o =>
      rw [h0] at h
      simp only [] at h
      cases f with
      | true =>
        simp only [seqB, if_true, Bool.and_eq_true, h0, Option.map_some, Option.getD_some] at hB
        obtain ⟨⟨⟨hr, hf⟩, hv⟩, hB'⟩ := hB
        split at h
        · rename_i hw
          rw [if_pos rfl] at h
          obtain ⟨v, hy, hK⟩ := yieldsIf_of_quiet hv hw h
          exact wpAnyH_take h0 hs hf hr (hQ _ _) hy hS (wpAnyH_seq hs hQ l _ _ _ hB' hS hK)
        · rename_i hw
          exact wpAnyH_take h0 hs hf hr (hQ _ _) (.inr ⟨by simpa using hw, rfl⟩) hS (wpAnyH_seq hs hQ l _ _ _ hB' hS h)
      | false =>
        simp only [seqB, Bool.false_eq_true, if_false, Bool.and_eq_true, beq_iff_eq] at hB
        obtain ⟨hr, hB'⟩ := hB
        refine wpAnyH_all hr (by simp) fun i hi => ?_
        rw [List.mem_singleton] at hi
        subst hi
        unfold wpOp
        simp only [h0]
        split
        · rename_i hw
          rw [if_pos hw, if_neg (by simp)] at h
          exact .inl (Oper.wp_mono (fun a' w' ⟨h1, h2⟩ => ⟨h1, wpAnyH_seq hs hQ l _ _ _ hB' h1 h2⟩) h)
        · rename_i hw
          rw [if_neg hw] at h
          exact ⟨hS, wpAnyH_seq hs hQ l _ _ _ hB' hS h⟩

/-- THE BEGINNING. -/
theorem wp_region_seq {id : Nat} {l : List Oper} {a : Act} {w : World} (S : World → Prop) (pl : List (Nat × Bool)) (hm : P.follows .mixedOrders = true)
    (hB : (Region.noSelect l.toArray && pl.length == l.length && seqB .any l.toArray pl (Array.replicate l.length false)) = true) (hQ : ∀ d v c a w, Q (.panic c) (Act.put a d v) w → Q (.panic c) a w)
    (hS : S w.drew) (h : wpSeq P l.toArray Q S pl a w.drew) : (Code.region id l.toArray true).wp P Q a w := by
  simp only [Bool.and_eq_true, beq_iff_eq] at hB
  refine wp_region_held_drew (S := S) hm hS fun _ => ?_
  have := wpAnyH_seq (md := .any) hB.1.1 hQ pl (Array.replicate l.length false) a w.drew hB.2 hS h
  simpa [hB.1.2] using this

variable {pl : List (Nat × Bool)} {k : Nat} {o : Oper} {a : Act} {w : World}

theorem wpSeq_skip {f : Bool} (ho : ops[k]? = some o) (hw : Region.wanted o (yielded ops a.tmps) = false) (h : wpSeq P ops Q S pl (a.put o.dst undef) w) : wpSeq P ops Q S ((k, f) :: pl) a w := by
  simp only [wpSeq, ho, hw]; exact h

theorem wpSeq_free (ho : ops[k]? = some o) (hw : Region.wanted o (yielded ops a.tmps) = true)
    (h : ∀ K : Act → Prop, (∀ a, wpSeq P ops Q S pl a w → K a) → o.quiet P a (fun W => ∃ x : SW S, W = x.W) K) : wpSeq P ops Q S ((k, true) :: pl) a w := by
  simp only [wpSeq, ho, hw, if_true]
  exact h _ (fun _ h => h)

theorem wpSeq_next (ho : ops[k]? = some o) (hw : Region.wanted o (yielded ops a.tmps) = true)
    (h : ∀ K : Act → World → Prop, Hid (∀ a w', S w' → wpSeq P ops Q S pl a w' → K a w') → o.wp P a w K Q) : wpSeq P ops Q S ((k, false) :: pl) a w := by
  simp only [wpSeq, ho, hw, if_true]
  exact h _ (show ∀ _ _, _ from fun _ _ h1 h2 => ⟨h1, h2⟩)

theorem wpSeq_nil (h : Q .normal a w) : wpSeq P ops Q S [] a w := by simpa only [wpSeq] using h

end

/-- A plan, made greedily (for reading it off). -/
def planOf (ops : Array Oper) : Nat → Array Bool → List (Nat × Bool)
  | 0, _ => []
  | fuel + 1, listed =>
    let rs := Region.ready .any ops listed
    match rs.find? (fun k => Region.free .any ops listed k && ((ops[k]?).map fun o => valueOp o.op).getD false) with
    | some k => (k, true) :: planOf ops fuel (listed.setIfInBounds k true)
    | none => match rs with
      | [k] => (k, false) :: planOf ops fuel (listed.setIfInBounds k true)
      | _ => []

end Go.Proofs.Ytdlbjllgdikadaa
