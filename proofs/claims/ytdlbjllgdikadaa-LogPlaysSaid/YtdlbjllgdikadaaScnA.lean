/- scan: the plain law: records of blocks. scan: the plain law: the run. Rows of records: such as the call made (OwnRs), such as it reads (IsRs). Turned from Blks by mkrecs.py. scan: the document's way to the run, the plain law. scan, the document's: where a record ends. scan, the document's: Same. scan: a range over whole's records: what the iterator owes, what the body owes, the law. -/
import Derived.Test.YtdlbjllgdikadaaGrI
import Derived.Test.YtdlbjllgdikadaaGrK
import Derived.Test.YtdlbjllgdikadaaGrE
import Derived.RangeFuncNested
import Derived.RangeFuncBound
import Derived.RangeFuncCalls
import Derived.RangeFuncLeaves
import Derived.RangeFuncBox
import Derived.Shelf.Abstract
import Derived.Shelf.RegionOpen
import Derived.WalkKit
import Derived.OwnWalkIn
import Derived.TacticsInMore
import Derived.LoopNIn
import Derived.LoopIn
import Derived.Maps.AppendAt
import Derived.Maps.OwnIn
namespace Go.Proofs.Ytdlbjllgdikadaa
set_option linter.unusedVariables false

structure Rc where
  kind : UInt8
  from_ : Nat
  body : List UInt8

/-- The program's way: a record that has begun, or none. -/
def goStep (g : Bool) (r : Rc) (x : Blk) : Bool × Rc × List Rc :=
  let r1 : Rc := if x.first then ⟨x.kind, x.serial, []⟩ else r
  let g1 : Bool := if x.first then true else g
  let g2 : Bool := g1 && x.kind == r1.kind
  if g2 then
    let r2 : Rc := { r1 with body := r1.body ++ x.body }
    if x.last then (false, r2, [r2]) else (true, r2, [])
  else (false, r1, [])
def goRecs : Bool → Rc → List Blk → List Rc
  | _, _, [] => []
  | g, r, x :: l => (goStep g r x).2.2 ++ goRecs (goStep g r x).1 (goStep g r x).2.1 l

/-- The document's way. -/
def contB (k : UInt8) : List UInt8 → List Blk → Option (List UInt8)
  | _, [] => none
  | acc, y :: l => if y.first || y.kind != k then none else if y.last then some (acc ++ y.body) else contB k (acc ++ y.body) l
def recAt (x : Blk) (l : List Blk) : Option (List UInt8) := if x.last then some x.body else contB x.kind x.body l
def refRecs : List Blk → List Rc
  | [] => []
  | x :: l => (if x.first then (match recAt x l with | some b => [⟨x.kind, x.serial, b⟩] | none => []) else []) ++ refRecs l

theorem goRecs_is (l : List Blk) : (∀ r, goRecs false r l = refRecs l) ∧ ∀ k s acc, goRecs true ⟨k, s, acc⟩ l = (match contB k acc l with | some b => [⟨k, s, b⟩] | none => []) ++ refRecs l := by
  induction l with
  | nil => exact ⟨fun _ => rfl, fun _ _ _ => rfl⟩
  | cons x l ih =>
    obtain ⟨ih1, ih2⟩ := ih
    have hfirst : x.first = true → ∀ g r, goRecs g r (x :: l) = refRecs (x :: l) := by
      intro hf g r
      simp only [goRecs, goStep, hf, if_true, refRecs, recAt, beq_self_eq_true, Bool.and_self, List.nil_append]
      by_cases hl : x.last = true
      · simp only [hl, if_true, ih1]
      · have hl2 : x.last = false := by simpa using hl
        simp only [hl2, Bool.false_eq_true, if_false, ih2, List.nil_append]
    constructor
    · intro r
      by_cases hf : x.first = true
      · exact hfirst hf _ _
      · have hf2 : x.first = false := by simpa using hf
        simp only [goRecs, goStep, hf2, Bool.false_eq_true, if_false, Bool.false_and, refRecs, List.nil_append, ih1]
    · intro k s acc
      by_cases hf : x.first = true
      · rw [hfirst hf]
        simp only [contB, hf, Bool.true_or, if_true, List.nil_append]
      · have hf2 : x.first = false := by simpa using hf
        by_cases hk : x.kind = k
        · subst hk
          by_cases hl : x.last = true
          · simp [goRecs, goStep, hf2, hl, contB, refRecs, ih1]
          · have hl2 : x.last = false := by simpa using hl
            simp [goRecs, goStep, hf2, hl2, contB, refRecs, ih2]
        · have hk2 : (x.kind == k) = false := by simpa using hk
          simp [goRecs, goStep, hf2, hk2, hk, contB, refRecs, ih1]

/-- From the last checkpoint on: the program's way. -/
def findStep (c : Bool) (l : List Rc) (r : Rc) : Bool × List Rc :=
  if r.kind == 2 then (true, [r]) else if c then (true, l ++ [r]) else (false, l)
def findGo : Bool → List Rc → List Rc → List Rc
  | c, l, [] => l
  | c, l, r :: rs => findGo (findStep c l r).1 (findStep c l r).2 rs
/-- The document's way. -/
def lastsOf : List Rc → List Rc
  | [] => []
  | r :: rs => if rs.any (fun x => x.kind == 2) then lastsOf rs else if r.kind == 2 then r :: rs else []
theorem findGo_is (rs : List Rc) : ∀ c l, findGo c l rs = if rs.any (fun x => x.kind == 2) then lastsOf rs else if c then l ++ rs else l := by
  induction rs with
  | nil => intro c l; cases c <;> simp [findGo]
  | cons r rs ih =>
    intro c l
    simp only [findGo, findStep]
    by_cases hk : (r.kind == 2) = true
    · rw [if_pos hk, ih]
      simp only [List.any_cons, hk, Bool.true_or, if_true, lastsOf]
      split <;> simp
    · have hk2 : (r.kind == 2) = false := by simpa using hk
      rw [if_neg hk]
      cases c
      · rw [if_neg Bool.false_ne_true, ih]
        simp only [List.any_cons, hk2, Bool.false_or, lastsOf, Bool.false_eq_true, if_false]
        split <;> rfl
      · rw [if_pos rfl, ih]
        simp only [List.any_cons, hk2, Bool.false_or, lastsOf, if_true, Bool.false_eq_true, if_false]
        split <;> simp_all
theorem findGo_lasts (rs : List Rc) : findGo false [] rs = lastsOf rs := by
  rw [findGo_is]
  split
  · rfl
  · rename_i h
    simp only [Bool.false_eq_true, if_false]
    cases rs with
    | nil => rfl
    | cons r rs =>
      simp only [List.any_cons, Bool.or_eq_true, not_or] at h
      simp only [lastsOf]
      rw [if_neg h.2, if_neg h.1]

end Go.Proofs.Ytdlbjllgdikadaa

namespace Go.Proofs.Ytdlbjllgdikadaa
set_option linter.unusedVariables false

/-- Does a place hold a block that belongs there? -/
def goodB (n : Nat) (mem : Nat → List UInt8) (i : Nat) : Bool := decE (mem i) == 0 && (decB (mem i)).serial % n == i
def allTo (n : Nat) (mem : Nat → List UInt8) (m : Nat) : List Blk := ((List.range m).filter (goodB n mem)).map fun i => decB (mem i)
def findS (l : List Blk) (s : Nat) : Option Blk := l.find? fun x => x.serial == s
def topS (l : List Blk) : Nat := l.foldl (fun m x => max m x.serial) 0
/-- The blocks from a serial on downward. -/
def downFrom (l : List Blk) : Nat → List Blk
  | 0 => match findS l 0 with
    | none => []
    | some x => [x]
  | s + 1 => match findS l (s + 1) with
    | none => []
    | some x => x :: downFrom l s
def runOf (l : List Blk) : List Blk := (downFrom l (topS l)).reverse

theorem allTo_zero (n : Nat) (mem : Nat → List UInt8) : allTo n mem 0 = [] := rfl
theorem allTo_yes {n : Nat} {mem : Nat → List UInt8} {m : Nat} (h : goodB n mem m = true) : allTo n mem (m + 1) = allTo n mem m ++ [decB (mem m)] := by
  unfold allTo
  rw [List.range_succ, List.filter_append, List.filter_cons_of_pos h, List.filter_nil, List.map_append]
  rfl
theorem allTo_no {n : Nat} {mem : Nat → List UInt8} {m : Nat} (h : goodB n mem m = false) : allTo n mem (m + 1) = allTo n mem m := by
  unfold allTo
  rw [List.range_succ, List.filter_append, List.filter_cons_of_neg (by rw [h]; exact Bool.false_ne_true), List.filter_nil, List.append_nil]
theorem goodB_iff {n : Nat} {mem : Nat → List UInt8} {i : Nat} : goodB n mem i = true ↔ decE (mem i) = 0 ∧ (decB (mem i)).serial % n = i := by
  unfold goodB; simp
theorem mem_allTo {n : Nat} {mem : Nat → List UInt8} {m : Nat} {x : Blk} (h : x ∈ allTo n mem m) : ∃ i, i < m ∧ goodB n mem i = true ∧ x = decB (mem i) := by
  unfold allTo at h
  simp only [List.mem_map, List.mem_filter, List.mem_range] at h
  obtain ⟨i, ⟨h1, h2⟩, h3⟩ := h
  exact ⟨i, h1, h2, h3.symm⟩
theorem allTo_serial {n : Nat} {mem : Nat → List UInt8} {m : Nat} {x : Blk} (h : x ∈ allTo n mem m) : x.serial % n < m := by
  obtain ⟨i, h1, h2, rfl⟩ := mem_allTo h
  rw [(goodB_iff.1 h2).2]; exact h1
theorem dec_may {l : List UInt8} (h : decE l = 0) : mayB (decB l) = true := by
  have hb : decB l = decX l := by unfold decB; rw [if_pos h]
  rw [hb]
  unfold decE at h
  split at h
  · split at h
    · split at h
      · rename_i h3
        unfold decOk at h3
        rw [Bool.and_eq_true] at h3
        exact h3.1
      · cases h
    · cases h
  · cases h
theorem may_serial {b : Blk} (h : mayB b = true) : b.serial ≤ 1099511627776 ∧ b.body.length ≤ 48 := by
  unfold mayB at h
  simp only [Bool.and_eq_true, decide_eq_true_eq] at h
  exact ⟨h.1.1.1, h.1.2⟩
theorem allTo_may {n : Nat} {mem : Nat → List UInt8} {m : Nat} {x : Blk} (h : x ∈ allTo n mem m) : x.serial ≤ 1099511627776 ∧ x.body.length ≤ 48 := by
  obtain ⟨i, _, h2, rfl⟩ := mem_allTo h
  exact may_serial (dec_may (goodB_iff.1 h2).1)

theorem findS_mem {l : List Blk} {s : Nat} {x : Blk} (h : findS l s = some x) : x ∈ l ∧ x.serial = s := by
  unfold findS at h
  exact ⟨List.mem_of_find?_eq_some h, by simpa using List.find?_some h⟩
theorem findS_none {l : List Blk} {s : Nat} (h : ∀ x ∈ l, x.serial ≠ s) : findS l s = none := by
  unfold findS
  rw [List.find?_eq_none]
  intro x hx
  simpa using h x hx
/-- One more. -/
theorem findS_snoc {l : List Blk} {x : Blk} (h : ∀ y ∈ l, y.serial ≠ x.serial) (s : Nat) : findS (l ++ [x]) s = if s = x.serial then some x else findS l s := by
  unfold findS
  rw [List.find?_append]
  by_cases e : s = x.serial
  · subst e
    rw [if_pos rfl]
    have := findS_none h
    unfold findS at this
    rw [this]
    simp
  · rw [if_neg e]
    have e2 : (x.serial == s) = false := by rw [beq_eq_false_iff_ne]; exact fun e3 => e e3.symm
    cases hf : List.find? (fun x => x.serial == s) l
    · simp [e2]
    · simp
theorem allTo_new {n : Nat} {mem : Nat → List UInt8} {m : Nat} (h : goodB n mem m = true) : ∀ y ∈ allTo n mem m, y.serial ≠ (decB (mem m)).serial := by
  intro y hy e
  have h1 := allTo_serial hy
  rw [e, (goodB_iff.1 h).2] at h1
  omega
theorem topS_snoc (l : List Blk) (x : Blk) : topS (l ++ [x]) = max (topS l) x.serial := by
  unfold topS; rw [List.foldl_append]; rfl
theorem topS_ge {l : List Blk} {x : Blk} (h : x ∈ l) : x.serial ≤ topS l := by
  have : ∀ (l : List Blk) (m : Nat), m ≤ l.foldl (fun m x => max m x.serial) m ∧ ∀ x ∈ l, x.serial ≤ l.foldl (fun m x => max m x.serial) m := by
    intro l
    induction l with
    | nil => intro m; exact ⟨Nat.le_refl _, fun x h => by cases h⟩
    | cons y r ih =>
      intro m
      obtain ⟨h1, h2⟩ := ih (max m y.serial)
      refine ⟨Nat.le_trans (Nat.le_max_left _ _) h1, fun x hx => ?_⟩
      rcases List.mem_cons.1 hx with rfl | hx
      · exact Nat.le_trans (Nat.le_max_right _ _) h1
      · exact h2 x hx
  exact (this l 0).2 x h
theorem topS_mem {l : List Blk} (h : l ≠ []) : ∃ x ∈ l, x.serial = topS l := by
  have : ∀ (l : List Blk) (m : Nat), l.foldl (fun m x => max m x.serial) m = m ∨ ∃ x ∈ l, x.serial = l.foldl (fun m x => max m x.serial) m := by
    intro l
    induction l with
    | nil => intro m; exact .inl rfl
    | cons y r ih =>
      intro m
      rcases ih (max m y.serial) with h1 | ⟨x, hx, h1⟩
      · rcases Nat.le_total m y.serial with h2 | h2
        · exact .inr ⟨y, .head _, by simp only [List.foldl_cons]; rw [h1, Nat.max_eq_right h2]⟩
        · left; simp only [List.foldl_cons]; rw [h1, Nat.max_eq_left h2]
      · exact .inr ⟨x, .tail _ hx, h1⟩
  rcases this l 0 with h1 | h1
  · cases l with
    | nil => exact absurd rfl h
    | cons y r =>
      have := topS_ge (l := y :: r) (x := y) (.head _)
      refine ⟨y, .head _, ?_⟩
      unfold topS at this ⊢
      rw [h1] at this ⊢
      omega
  · exact h1
theorem topS_le {l : List Blk} (c : Nat) (h : ∀ x ∈ l, x.serial ≤ c) : topS l ≤ c := by
  cases l with
  | nil => exact Nat.zero_le _
  | cons y r =>
    obtain ⟨x, hx, e⟩ := topS_mem (l := y :: r) (by simp)
    rw [← e]; exact h x hx

theorem downFrom_some {l : List Blk} {s : Nat} {x : Blk} (h : findS l s = some x) : downFrom l s = x :: (match s with | 0 => [] | s + 1 => downFrom l s) := by
  cases s with
  | zero => simp only [downFrom, h]
  | succ s => simp only [downFrom, h]
theorem downFrom_none {l : List Blk} {s : Nat} (h : findS l s = none) : downFrom l s = [] := by
  cases s with
  | zero => simp only [downFrom, h]
  | succ s => simp only [downFrom, h]
theorem downFrom_nil (s : Nat) : downFrom [] s = [] := downFrom_none rfl

/-- Each serial stands once. -/
theorem find_of_mem {n : Nat} {mem : Nat → List UInt8} {m : Nat} {x : Blk} (h : x ∈ allTo n mem m) : findS (allTo n mem m) x.serial = some x := by
  cases hf : findS (allTo n mem m) x.serial with
  | none =>
    unfold findS at hf
    rw [List.find?_eq_none] at hf
    have := hf x h
    simp at this
  | some y =>
    obtain ⟨h1, h2⟩ := findS_mem hf
    obtain ⟨i, _, hi, rfl⟩ := mem_allTo h
    obtain ⟨j, _, hj, rfl⟩ := mem_allTo h1
    have e1 := (goodB_iff.1 hi).2
    have e2 := (goodB_iff.1 hj).2
    rw [h2, e1] at e2
    rw [e2]

/-- A run has few blocks: each place holds one. -/
theorem downFrom_mem {l : List Blk} {x : Blk} : ∀ {s : Nat}, x ∈ downFrom l s → x ∈ l ∧ x.serial ≤ s
  | 0, h => by
    cases hf : findS l 0 with
    | none => rw [downFrom_none hf] at h; cases h
    | some y =>
      rw [downFrom_some hf] at h
      simp at h
      subst h
      exact ⟨(findS_mem hf).1, Nat.le_of_eq (findS_mem hf).2⟩
  | s + 1, h => by
    cases hf : findS l (s + 1) with
    | none => rw [downFrom_none hf] at h; cases h
    | some y =>
      rw [downFrom_some hf] at h
      rcases List.mem_cons.1 h with rfl | h
      · exact ⟨(findS_mem hf).1, Nat.le_of_eq (findS_mem hf).2⟩
      · obtain ⟨h1, h2⟩ := downFrom_mem h
        exact ⟨h1, by omega⟩
theorem downFrom_nodup {l : List Blk} : ∀ s, (downFrom l s).Pairwise fun x y => x.serial ≠ y.serial
  | 0 => by
    cases hf : findS l 0 with
    | none => rw [downFrom_none hf]; exact List.Pairwise.nil
    | some y => rw [downFrom_some hf]; simp
  | s + 1 => by
    cases hf : findS l (s + 1) with
    | none => rw [downFrom_none hf]; exact List.Pairwise.nil
    | some y =>
      rw [downFrom_some hf]
      refine List.Pairwise.cons (fun z hz => ?_) (downFrom_nodup s)
      have h1 := (downFrom_mem hz).2
      have h2 := (findS_mem hf).2
      omega

end Go.Proofs.Ytdlbjllgdikadaa

namespace Go.Proofs.Ytdlbjllgdikadaa
open Go.RowKit
set_option linter.unusedVariables false

def Rc.cells (r : Rc) (a : Option Addr) (cap : Nat) : Array Value := #[.int .u8 (r.kind.toNat : Int), .int .u64 (r.from_ : Int), .slice a r.body.length cap]

theorem info91 : (Try.prog.info? 91).map (fun i => (i.zero, i.size, i.bytes)) = some (some (.agg #[.int .u8 0, .int .u64 0, .slice none 0 0]), 3, 40) := by kernel_rfl

theorem Rc.cells_size (b : Rc) (a : Option Addr) (c : Nat) : (b.cells a c).size = 3 := rfl

def rcellsOf : List (Rc × Option Addr × Nat) → List Value
  | [] => []
  | p :: r => (p.1.cells p.2.1 p.2.2).toList ++ rcellsOf r

theorem rcellsOf_append (r s : List (Rc × Option Addr × Nat)) : rcellsOf (r ++ s) = rcellsOf r ++ rcellsOf s := by
  induction r with
  | nil => rfl
  | cons p r ih => simp [rcellsOf, ih]

theorem rcellsOf_length (r : List (Rc × Option Addr × Nat)) : (rcellsOf r).length = r.length * 3 := by
  induction r with
  | nil => rfl
  | cons p r ih => simp [rcellsOf, ih, Rc.cells]; omega

theorem rcellsOf_get (r : List (Rc × Option Addr × Nat)) (i : Nat) (hi : i < r.length) (j : Nat) (hj : j < 3) :
    (rcellsOf r)[3 * i + j]? = (r[i].1.cells r[i].2.1 r[i].2.2)[j]? := by
  induction r generalizing i with
  | nil => exact absurd hi (Nat.not_lt_zero i)
  | cons p r ih =>
    cases i with
    | zero =>
      rw [rcellsOf, List.getElem?_append_left (by simp [Rc.cells]; omega)]
      simp
    | succ i =>
      rw [rcellsOf, List.getElem?_append_right (by simp [Rc.cells]; omega)]
      have e : 3 * (i + 1) + j - (p.1.cells p.2.1 p.2.2).toList.length = 3 * i + j := by simp [Rc.cells]; omega
      rw [e, ih i (by simpa using hi)]
      simp

/-- A slice of blocks that the call itself made, each body too. -/
def OwnRs (w : World) (base : Nat) (v : Value) (l : List Rc) : Prop :=
  ∃ r : List (Rc × Option Addr × Nat), r.map (·.1) = l ∧ w.ownsRow base 91 3 v l.length (rcellsOf r) ∧ ∀ p ∈ r, OwnB w base (.slice p.2.1 p.1.body.length p.2.2) p.1.body

theorem OwnRs.nil (w : World) (base : Nat) : OwnRs w base (.slice none 0 0) [] := ⟨[], rfl, World.ownsRow_nil w base 91 3, fun _ hp => nomatch hp⟩

theorem OwnRs.later {w w' : World} {base : Nat} {v : Value} {l : List Rc} (h : OwnRs w base v l) (hb : Below w.heap.size w w') : OwnRs w' base v l := by
  obtain ⟨r, h1, h2, h3⟩ := h
  exact ⟨r, h1, ownsRow_later h2 hb, fun p hp => (h3 p hp).later hb⟩

theorem OwnRs.mono {w : World} {base base' : Nat} {v : Value} {l : List Rc} (h : OwnRs w base v l) (hb : base' ≤ base) : OwnRs w base' v l := by
  obtain ⟨r, h1, h2, h3⟩ := h
  refine ⟨r, h1, ⟨h2.1, ?_⟩, fun p hp => (h3 p hp).mono hb⟩
  rcases h2.2 with hn | ⟨g, cap, cur, rfl, hbg, rest⟩
  · exact .inl hn
  · exact .inr ⟨g, cap, cur, rfl, Nat.le_trans hb hbg, rest⟩

theorem OwnRs.blk {w : World} {base : Nat} {v : Value} {l : List Rc} (h : OwnRs w base v l) : ∀ k, v.ownBlock = some k → base ≤ k ∧ k < w.heap.size := fun k hk => by
  obtain ⟨r, h1, h2, h3⟩ := h
  exact World.ownsRow.lt h2 k hk

theorem OwnRs.kind {w : World} {base : Nat} {v : Value} {l : List Rc} (h : OwnRs w base v l) : ∀ g, v.ownBlock = some g → ∃ c fz, w.heap[g]? = some (.cells c 91 fz) := by
  obtain ⟨r, h1, h2, h3⟩ := h
  exact Lib.ownsRow_kind h2

/-- Another block's cell is written: one that is no row of blocks and no row of bytes. -/
theorem OwnRs.other {w : World} {base : Nat} {v : Value} {l : List Rc} (h : OwnRs w base v l) {b : Nat} {c : Array Value} {t : TypeId} {fz : Nat × Nat} (hb : w.heap[b]? = some (.cells c t fz)) (h91 : t ≠ 91) (h5 : t ≠ 5) (i : Nat) (u : Value) :
    OwnRs (w.setCell ⟨b, i, none⟩ u) base v l := by
  obtain ⟨r, h1, h2, h3⟩ := h
  refine ⟨r, h1, ownsRow_setCell_other h2 ?_ u, fun p hp => ownsRow_setCell_other (h3 p hp) ?_ u⟩
  · intro e
    obtain ⟨c', f', h'⟩ := Lib.ownsRow_kind h2 _ e
    rw [hb] at h'
    simp only [Option.some.injEq, Obj.cells.injEq] at h'
    exact h91 h'.2.1
  · intro e
    obtain ⟨c', f', h'⟩ := Lib.ownsRow_kind (h3 p hp) _ e
    rw [hb] at h'
    simp only [Option.some.injEq, Obj.cells.injEq] at h'
    exact h5 h'.2.1

/-- 'append(v, b)'. -/
theorem wpList_append_rec {w : World} {ops : Array Oper} {rest : List Oper} {o : Oper} {a : Act} {Q : Exit → Act → World → Prop} (hgd : o.guard = none) (s x : Operand)
    (ho : o.op = .call { callee := .builtin .append, args := #[s, x], argTypes := #[83, 83] })
    (base : Nat) (v : Value) (l : List Rc) (hs : a.eval s = v) (hown : OwnRs w base v l)
    (b : Rc) (ab : Option Addr) (cap g n : Nat) (hx : a.eval x = .slice (some ⟨g, 0, none⟩) n n) (hn : n = 1) (hcells : ∀ j u, (b.cells ab cap)[j]? = some u → w.cell? ⟨g, j, none⟩ = some u)
    (hbody : OwnB w base (.slice ab b.body.length cap) b.body)
    (hlen : l.length ≤ 1099511627776) (hbase : base ≤ w.heap.size)
    (h : ∀ v' w', OwnRs w' base v' (l ++ [b]) → w.grownBy w' v.ownBlock → wpList Try.prog ops Q rest (a.put o.dst v') w') : wpList Try.prog ops Q (o :: rest) a w := by
  obtain ⟨i0, hi, hz0, hz1, hz2⟩ := info_parts info91
  obtain ⟨r, h1, h2, h3⟩ := hown
  subst hn
  refine wpList_append_own w hgd s x 83 ho base 91 i0 (.agg #[.int .u8 0, .int .u64 0, .slice none 0 0]) 3 40 (by kernel_rfl) hi hz0 hz1 hz2 rfl (by decide) v l.length (rcellsOf r) hs h2 ⟨g, 0, none⟩ 1 1 (b.cells ab cap).toList hx rfl
    (fun j u hu => by rw [Addr.add_lit, Nat.zero_add]; exact hcells j u (by simpa using hu)) (fun u hu => by
      simp [Rc.cells] at hu
      rcases hu with rfl | rfl | rfl <;> rfl) (by unfold maxLen; omega) (by omega) hbase ?_
  intro v' w' k1 k2 _
  refine h v' w' ⟨r ++ [(b, ab, cap)], by simp [h1], ?_, ?_⟩ k2
  · rw [rcellsOf_append, List.length_append]
    simpa [rcellsOf] using k1
  · have hk : ∀ p : Rc × Option Addr × Nat, OwnB w base (.slice p.2.1 p.1.body.length p.2.2) p.1.body → OwnB w' base (.slice p.2.1 p.1.body.length p.2.2) p.1.body := by
      intro p hp
      refine World.ownsRow.kept hp k2 ?_
      cases e : (Value.slice p.2.1 p.1.body.length p.2.2).ownBlock with
      | none => exact .inl rfl
      | some q =>
        right
        intro e2
        obtain ⟨c1, f1, z1⟩ := Lib.ownsRow_kind hp q e
        obtain ⟨c2, f2, z2⟩ := Lib.ownsRow_kind h2 q e2.symm
        rw [z1] at z2
        simp at z2
    intro p hp
    rcases List.mem_append.1 hp with hp | hp
    · exact hk p (h3 p hp)
    · rw [List.mem_singleton] at hp
      subst hp
      exact hk _ hbody

/-- A slice of blocks, as it reads. -/
def IsRs (w : World) (a : Option Addr) (l : List Rc) : Prop :=
  ∀ i (h : i < l.length), ∃ b off ab cap, a = some ⟨b, off, none⟩ ∧ (∀ j u, (l[i].cells ab cap)[j]? = some u → w.cell? ⟨b, off + 3 * i + j, none⟩ = some u) ∧
    IsBytes w ab l[i].body ∧ l[i].body.length ≤ cap ∧ (ab = none → l[i].body = [] ∧ cap = 0)

theorem OwnRs.slice {w : World} {base : Nat} {v : Value} {l : List Rc} (h : OwnRs w base v l) :
    ∃ a cap, v = .slice a l.length cap ∧ IsRs w a l ∧ l.length ≤ cap ∧ cap ≤ maxLen ∧ (∀ x, a = some x → ∃ g, x = ⟨g, 0, none⟩ ∧ base ≤ g ∧ g < w.heap.size) ∧ (a = none → l = [] ∧ cap = 0) := by
  obtain ⟨r, h1, h2, h3⟩ := h
  have hl : r.length = l.length := by rw [← h1, List.length_map]
  rcases h2.2 with ⟨rfl, hn⟩ | ⟨g, cap, cur, rfl, hb, hg, hnc, hcm, hcs, htake⟩
  · have hnil : l = [] := List.length_eq_zero_iff.1 hn
    subst hnil
    exact ⟨none, 0, rfl, fun i hi => absurd hi (Nat.not_lt_zero i), Nat.zero_le _, Nat.zero_le _, fun x hx => (nomatch hx), fun _ => ⟨rfl, rfl⟩⟩
  · refine ⟨some ⟨g, 0, none⟩, cap, rfl, ?_, hnc, hcm, fun x hx => ⟨g, by cases hx; rfl, hb, (Array.getElem?_eq_some_iff.1 hg).1⟩, fun hx => nomatch hx⟩
    intro i hi
    have hir : i < r.length := by omega
    have e : l[i] = r[i].1 := by simp only [← h1, List.getElem_map]
    rw [e]
    have hown := h3 r[i] (List.getElem_mem hir)
    obtain ⟨a2, c2, e2, hby, hle, _, _, hno⟩ := hown.slice
    refine ⟨g, 0, r[i].2.1, r[i].2.2, rfl, ?_, hown.bytes, ?_, ?_⟩
    · intro j u hu
      have hj : j < 3 := (Array.getElem?_eq_some_iff.1 hu).1
      rw [Nat.zero_add, World.ownsRow.cellAt h2 (3 * i + j) (by omega), rcellsOf_get r i hir j hj]
      exact hu
    · cases e2; exact hle
    · cases e2; exact hno

theorem IsRs.below {N : Nat} {w w' : World} {a : Option Addr} {l : List Rc} (h : IsRs w a l) (hb : Below N w w') (hN : w.heap.size ≤ N) : IsRs w' a l := by
  intro i hi
  obtain ⟨b, off, ab, cap, e, hc, hby, hle, hno⟩ := h i hi
  refine ⟨b, off, ab, cap, e, fun j u hu => ?_, hby.later (hb.mono hN), hle, hno⟩
  have := hc j u hu
  exact (hb.cell (p := ⟨b, off + 3 * i + j, none⟩) (Nat.lt_of_lt_of_le (World.block_lt_of_cell? w _ this) hN)).trans this

theorem IsRs.later {w w' : World} {a : Option Addr} {l : List Rc} (h : IsRs w a l) (hb : Below w.heap.size w w') : IsRs w' a l := h.below hb (Nat.le_refl _)

end Go.Proofs.Ytdlbjllgdikadaa

namespace Go.Proofs.Ytdlbjllgdikadaa
set_option linter.unusedVariables false

def below1 (A : List Blk) : Nat → List Blk
  | 0 => []
  | t + 1 => downFrom A t
theorem downFrom_hit {A : List Blk} {s : Nat} {x : Blk} (h : findS A s = some x) : downFrom A s = x :: below1 A s := by
  cases s with
  | zero => exact downFrom_some h
  | succ s => exact downFrom_some h
/-- How far the document has come: done, from the top downward. -/
def RunInv (A done : List Blk) : Prop :=
  (done = [] ∧ True) ∨ (∃ d x, done = d ++ [x] ∧ downFrom A (topS A) = done ++ below1 A x.serial)
theorem RunInv.start (A : List Blk) : RunInv A [] := .inl ⟨rfl, trivial⟩
theorem RunInv.len {A done : List Blk} (h : RunInv A done) : done.length ≤ (downFrom A (topS A)).length := by
  rcases h with ⟨rfl, _⟩ | ⟨d, x, _, e⟩
  · exact Nat.zero_le _
  · rw [e, List.length_append]; omega
theorem RunInv.first {n : Nat} {mem : Nat → List UInt8} {m : Nat} {x : Blk} (hx : x ∈ allTo n mem m) (hmax : ∀ y ∈ allTo n mem m, y.serial ≤ x.serial) : RunInv (allTo n mem m) [x] := by
  have ht : topS (allTo n mem m) = x.serial := Nat.le_antisymm (topS_le _ hmax) (topS_ge hx)
  refine .inr ⟨[], x, rfl, ?_⟩
  rw [ht, downFrom_hit (find_of_mem hx)]; rfl
theorem RunInv.next {n : Nat} {mem : Nat → List UInt8} {m : Nat} {d : List Blk} {x y : Blk} (h : downFrom (allTo n mem m) (topS (allTo n mem m)) = (d ++ [x]) ++ below1 (allTo n mem m) x.serial) (hy : y ∈ allTo n mem m) (hs : y.serial + 1 = x.serial) : RunInv (allTo n mem m) ((d ++ [x]) ++ [y]) := by
  refine .inr ⟨d ++ [x], y, rfl, ?_⟩
  rw [h, ← hs]
  show (d ++ [x]) ++ downFrom (allTo n mem m) y.serial = _
  rw [downFrom_hit (find_of_mem hy)]
  simp
theorem RunInv.stop {A d : List Blk} {x : Blk} (h : downFrom A (topS A) = (d ++ [x]) ++ below1 A x.serial) (hno : ∀ y ∈ A, y.serial + 1 ≠ x.serial) : runOf A = (d ++ [x]).reverse := by
  unfold runOf
  rw [h]
  cases hs : x.serial with
  | zero => simp [below1]
  | succ t =>
    have : findS A t = none := findS_none fun y hy e => hno y hy (by rw [hs, e])
    simp only [below1, downFrom_none this, List.append_nil]
theorem run_empty : runOf [] = [] := by unfold runOf; rw [downFrom_nil]; rfl
end Go.Proofs.Ytdlbjllgdikadaa

namespace Go.Proofs.Ytdlbjllgdikadaa
open Go.RowKit
set_option linter.unusedVariables false
set_option linter.unusedSimpArgs false

def endGo (k : UInt8) (s : Nat) : Nat → List Blk → Int
  | _, [] => -1
  | i, y :: r => if (decide (s < i) && y.first) || y.kind != k then -1 else if y.last then (i : Int) else endGo k s (i + 1) r
def endOf (l : List Blk) (s : Nat) : Int := match l[s]? with
  | none => -1
  | some x => endGo x.kind s s (l.drop s)
def bodies (l : List Blk) : List UInt8 := (l.map (·.body)).flatten
theorem bodies_cons (x : Blk) (l : List Blk) : bodies (x :: l) = x.body ++ bodies l := rfl
theorem bodies_append (l r : List Blk) : bodies (l ++ r) = bodies l ++ bodies r := by simp [bodies]
theorem bodies_len (l : List Blk) (h : ∀ x ∈ l, x.body.length ≤ 100) : (bodies l).length ≤ 100 * l.length := by
  induction l with
  | nil => exact Nat.zero_le _
  | cons x l ih =>
    rw [bodies_cons, List.length_append, List.length_cons]
    have h1 := h x (.head _)
    have h2 := ih (fun y hy => h y (.tail _ hy))
    omega
theorem endGo_cont (k : UInt8) (s : Nat) : ∀ (r : List Blk) (i : Nat) (acc : List UInt8), s < i →
    (endGo k s i r = -1 ∧ contB k acc r = none) ∨ (∃ m, m < r.length ∧ endGo k s i r = ((i + m : Nat) : Int) ∧ contB k acc r = some (acc ++ bodies (r.take (m + 1)))) := by
  intro r
  induction r with
  | nil => intro i acc h; exact .inl ⟨rfl, rfl⟩
  | cons y r ih =>
    intro i acc h
    simp only [endGo, contB, decide_eq_true h, Bool.true_and]
    by_cases h1 : (y.first || y.kind != k) = true
    · rw [if_pos h1, if_pos h1]; exact .inl ⟨rfl, rfl⟩
    · rw [if_neg h1, if_neg h1]
      by_cases h2 : y.last = true
      · rw [if_pos h2, if_pos h2]
        exact .inr ⟨0, by simp, rfl, by simp [bodies]⟩
      · rw [if_neg h2, if_neg h2]
        rcases ih (i + 1) (acc ++ y.body) (by omega) with h3 | ⟨m, h3, h4, h5⟩
        · exact .inl h3
        · refine .inr ⟨m + 1, by simp; omega, by rw [h4]; congr 1; omega, ?_⟩
          rw [h5, List.take_succ_cons, bodies_cons, List.append_assoc]
theorem endOf_rec (l : List Blk) (s : Nat) (hs : s < l.length) :
    (endOf l s = -1 ∧ recAt l[s] (l.drop (s + 1)) = none) ∨ (∃ m, s + m < l.length ∧ endOf l s = ((s + m : Nat) : Int) ∧ recAt l[s] (l.drop (s + 1)) = some (bodies ((l.drop s).take (m + 1)))) := by
  have hd : l.drop s = l[s] :: l.drop (s + 1) := List.drop_eq_getElem_cons hs
  unfold endOf
  rw [List.getElem?_eq_getElem hs]
  dsimp only
  rw [hd]
  simp only [endGo, Nat.lt_irrefl, decide_false, Bool.false_and, Bool.false_or, bne_self_eq_false, Bool.false_eq_true, if_false]
  unfold recAt
  by_cases h2 : l[s].last = true
  · rw [if_pos h2, if_pos h2]
    exact .inr ⟨0, by omega, rfl, by show _ = some (bodies [l[s]]); rw [bodies_cons]; simp [bodies]⟩
  · rw [if_neg h2, if_neg h2]
    rcases endGo_cont l[s].kind s (l.drop (s + 1)) (s + 1) l[s].body (by omega) with h3 | ⟨m, h3, h4, h5⟩
    · exact .inl h3
    · refine .inr ⟨m + 1, by rw [List.length_drop] at h3; omega, by rw [h4]; congr 1; omega, ?_⟩
      rw [h5, List.take_succ_cons, bodies_cons]
theorem endOf_at (l : List Blk) (s : Nat) (hs : s < l.length) : endOf l s = endGo l[s].kind s s (l.drop s) := by
  unfold endOf; rw [List.getElem?_eq_getElem hs]

set_option maxRecDepth 100000 in
set_option maxHeartbeats 2000000 in
theorem end_calls (L : List Blk) (s : Nat) (a1 : Option Addr) (c1 : Nat) (w : World) (h1 : IsBs w a1 L) (hs : s < L.length) (hl1 : L.length ≤ 1099511627777) :
    Calls Try.prog 95 #[.slice a1 L.length c1, .int .i64 (s : Int)] w fun e w' => e = .returned (.int .i64 (endOf L s)) ∧ Below w.heap.size w w' := by
  obtain ⟨A, b0, o0, ab0, cb0, hA, rfl, s0, s1, s2, s3, s4, hby0, _, _⟩ := h1.cellsAt s hs
  have hAs : L[s] = A := by rw [List.getElem?_eq_getElem hs] at hA; exact Option.some.inj hA
  have hend : endOf L s = endGo A.kind s s (L.drop s) := by rw [endOf_at L s hs, hAs]
  have HE := Lib.hid hend
  clear hend hA hAs
  have hsI : (s : Int) < (L.length : Int) := by omega
  go_enter Try.func95, Try.ntmps95
  go_wp2
  go_loopw [5] (fun i wr => ∃ j : Nat, s ≤ j ∧ j ≤ L.length ∧ i = .int .i64 j ∧ endOf L s = endGo A.kind s j (L.drop j) ∧ Below w.heap.size w wr) (fun i _ => L.length - (intOf i).toNat)
  case atStart => exact ⟨s, Nat.le_refl _, Nat.le_of_lt hs, rfl, HE.out, Below.refl _ _⟩
  case round =>
    obtain ⟨j, hsj, hj, rfl, hgo, hbel⟩ := hrel
    by_cases hlt : j < L.length
    · obtain ⟨B, b1, o1, ab1, cb1, hB, e1, p0, p1, p2, p3, p4, hby1, _, _⟩ := h1.cellsAt j hlt
      cases e1
      have hd : L.drop j = B :: L.drop (j + 1) := by
        rw [List.drop_eq_getElem_cons hlt]
        rw [List.getElem?_eq_getElem hlt] at hB
        rw [Option.some.inj hB]
      rw [hd] at hgo
      simp only [endGo] at hgo
      have Hgo := Lib.hid hgo
      clear hgo hB hd
      have hjI : (j : Int) < (L.length : Int) := by omega
      have hne : Nonempty (SW (fun W => Below w.heap.size w W)) := ⟨⟨w, Below.refl _ _⟩⟩
      have hkI : ((B.kind.toNat : Int) != (A.kind.toNat : Int)) = (B.kind != A.kind) := by
        by_cases e : B.kind = A.kind
        · rw [e]; simp
        · have e2 : ¬ (B.kind.toNat : Int) = (A.kind.toNat : Int) := fun h => e (UInt8.toNat_inj.1 (by omega))
          rw [bne_iff_ne.2 e, bne_iff_ne.2 e2]
      have hp2 := p2
      by_cases hgt : s < j
      · have hgtI : (s : Int) < (j : Int) := by omega
        cases hf : B.first
        · simp only [hf] at p2
          have HF := Lib.hid hf
          clear hf hp2
          cases hk : (B.kind != A.kind)
          · rw [hk] at hkI
            cases hl : B.last
            · simp only [hl] at p3
              have Hh := Lib.hid (And.intro hk hl)
              clear hk hl
              go_wp2
              refine wp_region_seq2 (fun W => Below w.heap.size w W) [(0, true), (1, true), (2, true), (3, true), (4, true), (5, true), (6, true), (7, true), (8, true), (9, true), (10, true), (11, true), (12, true), (13, true), (14, true), (15, true), (16, true), (17, true), (18, true), (19, true), (20, true), (21, true), (22, true)] (by kernel_rfl) (by kernel_rfl) (fun d _ _ _ _ h => by cases d <;> exact h) (hbel.drew) ?_
              repeat (first
                | ((with_reducible refine wpSeq_skip (o := ⟨_, _, _, _, _, _⟩) (by with_unfolding_all exact rfl) (by with_unfolding_all exact rfl) ?_); simp only [Act.put, List.setIfInBounds_toArray, List.set_cons_zero, List.set_cons_succ])
                | ((with_reducible refine wpSeq_free (o := ⟨_, _, _, _, _, _⟩) (by with_unfolding_all exact rfl) (by with_unfolding_all exact rfl) (fun K hK => ?_)); go_big_quiet_op; (refine hK _ ?_; clear hK K)))
              refine wpSeq_nil ?_
              have p3w : wr.drew.cell? ⟨b0, o0 + j * 5 + 3, none⟩ = _ := p3 ⟨wr.drew, hbel.drew⟩
              go_wp2
              go_roundw
              case rel => exact ⟨j + 1, by omega, by omega, by go_num, by rw [Hgo.out, if_neg (by rw [decide_eq_true (show s < j by omega), HF.out]; rw [Hh.out.1]; decide), if_neg (by rw [Hh.out.2]; decide)], hbel.drew⟩
              case measure => simp [intOf]; omega
            · simp only [hl] at p3
              have Hh := Lib.hid (And.intro hk hl)
              clear hk hl
              go_wp2
              refine wp_region_seq2 (fun W => Below w.heap.size w W) [(0, true), (1, true), (2, true), (3, true), (4, true), (5, true), (6, true), (7, true), (8, true), (9, true), (10, true), (11, true), (12, true), (13, true), (14, true), (15, true), (16, true), (17, true), (18, true), (19, true), (20, true), (21, true), (22, true)] (by kernel_rfl) (by kernel_rfl) (fun d _ _ _ _ h => by cases d <;> exact h) (hbel.drew) ?_
              repeat (first
                | ((with_reducible refine wpSeq_skip (o := ⟨_, _, _, _, _, _⟩) (by with_unfolding_all exact rfl) (by with_unfolding_all exact rfl) ?_); simp only [Act.put, List.setIfInBounds_toArray, List.set_cons_zero, List.set_cons_succ])
                | ((with_reducible refine wpSeq_free (o := ⟨_, _, _, _, _, _⟩) (by with_unfolding_all exact rfl) (by with_unfolding_all exact rfl) (fun K hK => ?_)); go_big_quiet_op; (refine hK _ ?_; clear hK K)))
              refine wpSeq_nil ?_
              have p3w : wr.drew.cell? ⟨b0, o0 + j * 5 + 3, none⟩ = _ := p3 ⟨wr.drew, hbel.drew⟩
              go_wp2
              go_ret
              exact ⟨by rw [Hgo.out, if_neg (by rw [decide_eq_true (show s < j by omega), HF.out]; rw [Hh.out.1]; decide), if_pos Hh.out.2]; rfl, hbel.drew⟩
          · rw [hk] at hkI
            have Hh := Lib.hid hk
            clear hk
            go_wp2
            refine wp_region_seq2 (fun W => Below w.heap.size w W) [(0, true), (1, true), (2, true), (3, true), (4, true), (5, true), (6, true), (7, true), (8, true), (9, true), (10, true), (11, true), (12, true), (13, true), (14, true), (15, true), (16, true), (17, true), (18, true), (19, true), (20, true), (21, true), (22, true)] (by kernel_rfl) (by kernel_rfl) (fun d _ _ _ _ h => by cases d <;> exact h) (hbel.drew) ?_
            repeat (first
              | ((with_reducible refine wpSeq_skip (o := ⟨_, _, _, _, _, _⟩) (by with_unfolding_all exact rfl) (by with_unfolding_all exact rfl) ?_); simp only [Act.put, List.setIfInBounds_toArray, List.set_cons_zero, List.set_cons_succ])
              | ((with_reducible refine wpSeq_free (o := ⟨_, _, _, _, _, _⟩) (by with_unfolding_all exact rfl) (by with_unfolding_all exact rfl) (fun K hK => ?_)); go_big_quiet_op; (refine hK _ ?_; clear hK K)))
            refine wpSeq_nil ?_
            have p3w : wr.drew.cell? ⟨b0, o0 + j * 5 + 3, none⟩ = _ := p3 ⟨wr.drew, hbel.drew⟩
            go_wp2
            go_ret
            exact ⟨by rw [Hgo.out, if_pos (by rw [decide_eq_true (show s < j by omega), HF.out]; rw [Hh.out]; simp)]; rfl, hbel.drew⟩
        · simp only [hf] at p2
          have HF := Lib.hid hf
          clear hf hp2
          go_wp2
          refine wp_region_seq2 (fun W => Below w.heap.size w W) [(0, true), (1, true), (2, true), (3, true), (4, true), (5, true), (6, true), (7, true), (8, true), (9, true), (10, true), (11, true), (12, true), (13, true), (14, true), (15, true), (16, true), (17, true), (18, true), (19, true), (20, true), (21, true), (22, true)] (by kernel_rfl) (by kernel_rfl) (fun d _ _ _ _ h => by cases d <;> exact h) (hbel.drew) ?_
          repeat (first
            | ((with_reducible refine wpSeq_skip (o := ⟨_, _, _, _, _, _⟩) (by with_unfolding_all exact rfl) (by with_unfolding_all exact rfl) ?_); simp only [Act.put, List.setIfInBounds_toArray, List.set_cons_zero, List.set_cons_succ])
            | ((with_reducible refine wpSeq_free (o := ⟨_, _, _, _, _, _⟩) (by with_unfolding_all exact rfl) (by with_unfolding_all exact rfl) (fun K hK => ?_)); go_big_quiet_op; (refine hK _ ?_; clear hK K)))
          refine wpSeq_nil ?_
          have p3w : wr.drew.cell? ⟨b0, o0 + j * 5 + 3, none⟩ = _ := p3 ⟨wr.drew, hbel.drew⟩
          go_wp2
          go_ret
          exact ⟨by rw [Hgo.out, if_pos (by rw [decide_eq_true (show s < j by omega), HF.out]; rfl)]; rfl, hbel.drew⟩
      · have hgtI : ¬ (s : Int) < (j : Int) := by omega
        clear hp2
        cases hk : (B.kind != A.kind)
        · rw [hk] at hkI
          cases hl : B.last
          · simp only [hl] at p3
            have Hh := Lib.hid (And.intro hk hl)
            clear hk hl
            go_wp2
            refine wp_region_seq2 (fun W => Below w.heap.size w W) [(0, true), (1, true), (2, true), (3, true), (4, true), (5, true), (6, true), (7, true), (8, true), (9, true), (10, true), (11, true), (12, true), (13, true), (14, true), (15, true), (16, true), (17, true), (18, true), (19, true), (20, true), (21, true), (22, true)] (by kernel_rfl) (by kernel_rfl) (fun d _ _ _ _ h => by cases d <;> exact h) (hbel.drew) ?_
            repeat (first
              | ((with_reducible refine wpSeq_skip (o := ⟨_, _, _, _, _, _⟩) (by with_unfolding_all exact rfl) (by with_unfolding_all exact rfl) ?_); simp only [Act.put, List.setIfInBounds_toArray, List.set_cons_zero, List.set_cons_succ])
              | ((with_reducible refine wpSeq_free (o := ⟨_, _, _, _, _, _⟩) (by with_unfolding_all exact rfl) (by with_unfolding_all exact rfl) (fun K hK => ?_)); go_big_quiet_op; (refine hK _ ?_; clear hK K)))
            refine wpSeq_nil ?_
            have p3w : wr.drew.cell? ⟨b0, o0 + j * 5 + 3, none⟩ = _ := p3 ⟨wr.drew, hbel.drew⟩
            go_wp2
            go_roundw
            case rel => exact ⟨j + 1, by omega, by omega, by go_num, by rw [Hgo.out, if_neg (by rw [decide_eq_false (show ¬ s < j by omega)]; rw [Hh.out.1]; simp), if_neg (by rw [Hh.out.2]; decide)], hbel.drew⟩
            case measure => simp [intOf]; omega
          · simp only [hl] at p3
            have Hh := Lib.hid (And.intro hk hl)
            clear hk hl
            go_wp2
            refine wp_region_seq2 (fun W => Below w.heap.size w W) [(0, true), (1, true), (2, true), (3, true), (4, true), (5, true), (6, true), (7, true), (8, true), (9, true), (10, true), (11, true), (12, true), (13, true), (14, true), (15, true), (16, true), (17, true), (18, true), (19, true), (20, true), (21, true), (22, true)] (by kernel_rfl) (by kernel_rfl) (fun d _ _ _ _ h => by cases d <;> exact h) (hbel.drew) ?_
            repeat (first
              | ((with_reducible refine wpSeq_skip (o := ⟨_, _, _, _, _, _⟩) (by with_unfolding_all exact rfl) (by with_unfolding_all exact rfl) ?_); simp only [Act.put, List.setIfInBounds_toArray, List.set_cons_zero, List.set_cons_succ])
              | ((with_reducible refine wpSeq_free (o := ⟨_, _, _, _, _, _⟩) (by with_unfolding_all exact rfl) (by with_unfolding_all exact rfl) (fun K hK => ?_)); go_big_quiet_op; (refine hK _ ?_; clear hK K)))
            refine wpSeq_nil ?_
            have p3w : wr.drew.cell? ⟨b0, o0 + j * 5 + 3, none⟩ = _ := p3 ⟨wr.drew, hbel.drew⟩
            go_wp2
            go_ret
            exact ⟨by rw [Hgo.out, if_neg (by rw [decide_eq_false (show ¬ s < j by omega)]; rw [Hh.out.1]; simp), if_pos Hh.out.2]; rfl, hbel.drew⟩
        · rw [hk] at hkI
          have Hh := Lib.hid hk
          clear hk
          go_wp2
          refine wp_region_seq2 (fun W => Below w.heap.size w W) [(0, true), (1, true), (2, true), (3, true), (4, true), (5, true), (6, true), (7, true), (8, true), (9, true), (10, true), (11, true), (12, true), (13, true), (14, true), (15, true), (16, true), (17, true), (18, true), (19, true), (20, true), (21, true), (22, true)] (by kernel_rfl) (by kernel_rfl) (fun d _ _ _ _ h => by cases d <;> exact h) (hbel.drew) ?_
          repeat (first
            | ((with_reducible refine wpSeq_skip (o := ⟨_, _, _, _, _, _⟩) (by with_unfolding_all exact rfl) (by with_unfolding_all exact rfl) ?_); simp only [Act.put, List.setIfInBounds_toArray, List.set_cons_zero, List.set_cons_succ])
            | ((with_reducible refine wpSeq_free (o := ⟨_, _, _, _, _, _⟩) (by with_unfolding_all exact rfl) (by with_unfolding_all exact rfl) (fun K hK => ?_)); go_big_quiet_op; (refine hK _ ?_; clear hK K)))
          refine wpSeq_nil ?_
          have p3w : wr.drew.cell? ⟨b0, o0 + j * 5 + 3, none⟩ = _ := p3 ⟨wr.drew, hbel.drew⟩
          go_wp2
          go_ret
          exact ⟨by rw [Hgo.out, if_pos (by rw [decide_eq_false (show ¬ s < j by omega)]; rw [Hh.out]; simp)]; rfl, hbel.drew⟩
    · obtain rfl : j = L.length := by omega
      rw [List.drop_length] at hgo
      have e : endOf L s = -1 := hgo
      have HE2 := Lib.hid e
      clear e hgo
      go_wp2
      go_ret
      exact ⟨by rw [HE2.out]; rfl, hbel⟩
end Go.Proofs.Ytdlbjllgdikadaa

namespace Go.Proofs.Ytdlbjllgdikadaa
open Go.RowKit
set_option linter.unusedVariables false
set_option linter.unusedSimpArgs false

/-- A record of a slice, its cells in the walk's spelling, in every world that keeps what is below. -/
theorem IsRs.cellsAt {w : World} {a : Option Addr} {l : List Rc} (h : IsRs w a l) (j : Nat) (hj : j < l.length) :
    ∃ b off ab cap, a = some ⟨b, off, none⟩ ∧
      (∀ x : SW (fun W => Below w.heap.size w W), x.W.cell? ⟨b, off + j * 3, none⟩ = some (.int .u8 (l[j].kind.toNat : Int))) ∧
      (∀ x : SW (fun W => Below w.heap.size w W), x.W.cell? ⟨b, off + j * 3 + 1, none⟩ = some (.int .u64 (l[j].from_ : Int))) ∧
      (∀ x : SW (fun W => Below w.heap.size w W), x.W.cell? ⟨b, off + j * 3 + 2, none⟩ = some (.slice ab l[j].body.length cap)) ∧
      IsBytes w ab l[j].body ∧ l[j].body.length ≤ cap ∧ (ab = none → l[j].body = [] ∧ cap = 0) := by
  obtain ⟨b, off, ab, cap, e, hc, hby, hle, hno⟩ := h j hj
  have key : ∀ q u, ((l[j]).cells ab cap)[q]? = some u → ∀ x : SW (fun W => Below w.heap.size w W), x.W.cell? ⟨b, off + j * 3 + q, none⟩ = some u := by
    intro q u hu x
    have h1 := hc q u hu
    rw [Nat.mul_comm] at h1
    exact (x.h.cell (p := ⟨b, off + j * 3 + q, none⟩) (World.block_lt_of_cell? w _ h1)).trans h1
  exact ⟨b, off, ab, cap, e, key 0 _ rfl, key 1 _ rfl, key 2 _ rfl, hby, hle, hno⟩

def SamePost (x y : List Rc) (w : World) (e : Ending) (w' : World) : Prop := ∃ q : Bool, e = .returned (.bool q) ∧ (q = true ↔ x = y) ∧ Below w.heap.size w w'
theorem Rc.ext' {x y : Rc} (h1 : x.kind = y.kind) (h2 : x.from_ = y.from_) (h3 : x.body = y.body) : x = y := by
  obtain ⟨a, b, c⟩ := x
  obtain ⟨a', b', c'⟩ := y
  cases h1; cases h2; cases h3; rfl

set_option maxRecDepth 100000 in
set_option maxHeartbeats 2000000 in
theorem sameRs_calls (x y : List Rc) (a1 a2 : Option Addr) (c1 c2 : Nat) (w : World) (h1 : IsRs w a1 x) (h2 : IsRs w a2 y) (hl1 : x.length ≤ 70368744177664) :
    Calls Try.prog 60 #[.slice a1 x.length c1, .slice a2 y.length c2] w (SamePost x y w) := by
  by_cases hn : x.length = y.length
  · have e0 : ((x.length : Int) == (y.length : Int)) = true := by rw [beq_iff_eq]; omega
    have e9 : ((x.length : Int) != (y.length : Int)) = false := by rw [bne, e0]; rfl
    have Hn := Lib.hid hn
    clear hn
    go_enter Try.func60, Try.ntmps60
    go_wp2
    go_loopw [5] (fun i wr => ∃ j : Nat, j ≤ x.length ∧ i = .int .i64 j ∧ x.take j = y.take j ∧ Below w.heap.size w wr) (fun i _ => x.length - (intOf i).toNat)
    case atStart => exact ⟨0, Nat.zero_le _, rfl, rfl, Below.refl _ _⟩
    case round =>
      obtain ⟨j, hj, rfl, htake, hbel⟩ := hrel
      by_cases hlt : j < x.length
      · have hjy : j < y.length := by have := Hn.out; omega
        obtain ⟨b1, o1, ab1, cb1, rfl, p0, p1, p2, hby1, _, _⟩ := h1.cellsAt j hlt
        obtain ⟨b2, o2, ab2, cb2, rfl, q0, q1, q2, hby2, _, _⟩ := h2.cellsAt j hjy
        have hxj : x[j]? = some x[j] := List.getElem?_eq_getElem hlt
        have hyj : y[j]? = some y[j] := List.getElem?_eq_getElem hjy
        obtain ⟨A, hA⟩ : ∃ A, A = x[j] := ⟨_, rfl⟩
        obtain ⟨B, hB⟩ : ∃ B, B = y[j] := ⟨_, rfl⟩
        rw [← hA] at p0 p1 p2 hby1 hxj
        rw [← hB] at q0 q1 q2 hby2 hyj
        have HAB := Lib.hid (And.intro hxj (And.intro hyj htake))
        clear hxj hyj htake hA hB
        have hconv1 : ∀ s : SW (fun W => Below w.heap.size w W), (convert 22 9 (.slice ab1 A.body.length cb1)).run Try.prog s.W = .ok (.string ⟨A.body.toArray⟩) s.W := fun s => conv_text (hby1.later s.h) rfl
        have hconv2 : ∀ s : SW (fun W => Below w.heap.size w W), (convert 22 9 (.slice ab2 B.body.length cb2)).run Try.prog s.W = .ok (.string ⟨B.body.toArray⟩) s.W := fun s => conv_text (hby2.later s.h) rfl
        have hne : Nonempty (SW (fun W => Below w.heap.size w W)) := ⟨⟨w, Below.refl _ _⟩⟩
        by_cases k1 : A.kind = B.kind
        · have k1I : ((A.kind.toNat : Int) != (B.kind.toNat : Int)) = false := by rw [k1]; simp
          have K1 := Lib.hid k1
          clear k1
          by_cases k2 : A.from_ = B.from_
          · have k2I : ((A.from_ : Int) != (B.from_ : Int)) = false := by rw [k2]; simp
            have K2 := Lib.hid k2
            clear k2
            by_cases k3 : A.body = B.body
            · have k3I : (A.body == B.body) = true := by rw [k3]; exact beq_self_eq_true _
              have k3J : (A.body != B.body) = false := by rw [k3]; simp
              have K3 := Lib.hid k3
              clear k3
              go_wp2
              refine wp_region_seq2 (fun W => Below w.heap.size w W) [(0, true), (1, true), (2, true), (3, true), (4, true), (5, true), (6, true), (7, true), (8, true), (9, true), (10, true), (11, true), (12, true), (13, true), (14, true), (15, true), (16, true), (17, true), (18, true), (19, true), (20, true), (21, true), (22, true), (23, true), (24, true), (25, true), (26, true), (27, true), (28, true), (29, true), (30, true), (31, true), (32, true), (33, true), (34, true), (35, true), (36, true), (37, true), (38, true)] (by kernel_rfl) (by kernel_rfl) (fun d _ _ _ _ h => by cases d <;> exact h) (hbel.drew) ?_
              repeat (first
                | ((with_reducible refine wpSeq_skip (o := ⟨_, _, _, _, _, _⟩) (by with_unfolding_all exact rfl) (by with_unfolding_all exact rfl) ?_); simp only [Act.put, List.setIfInBounds_toArray, List.set_cons_zero, List.set_cons_succ])
                | ((with_reducible refine wpSeq_free (o := ⟨_, _, _, _, _, _⟩) (by with_unfolding_all exact rfl) (by with_unfolding_all exact rfl) (fun K hK => ?_)); go_big_quiet_op; (refine hK _ ?_; clear hK K)))
              refine wpSeq_nil ?_
              go_wp2
              go_roundw
              case rel =>
                refine ⟨j + 1, by omega, by go_num, ?_, hbel.drew⟩
                obtain ⟨f1, f2, f3⟩ := HAB.out
                rw [List.take_add_one, List.take_add_one, f3, f1, f2, Rc.ext' K1.out K2.out K3.out]
              case measure => simp [intOf]; omega
            · have k3I : (A.body == B.body) = false := by rw [beq_eq_false_iff_ne]; exact k3
              have k3J : (A.body != B.body) = true := by rw [bne_iff_ne]; exact k3
              have K3 := Lib.hid k3
              clear k3
              go_wp2
              refine wp_region_seq2 (fun W => Below w.heap.size w W) [(0, true), (1, true), (2, true), (3, true), (4, true), (5, true), (6, true), (7, true), (8, true), (9, true), (10, true), (11, true), (12, true), (13, true), (14, true), (15, true), (16, true), (17, true), (18, true), (19, true), (20, true), (21, true), (22, true), (23, true), (24, true), (25, true), (26, true), (27, true), (28, true), (29, true), (30, true), (31, true), (32, true), (33, true), (34, true), (35, true), (36, true), (37, true), (38, true)] (by kernel_rfl) (by kernel_rfl) (fun d _ _ _ _ h => by cases d <;> exact h) (hbel.drew) ?_
              repeat (first
                | ((with_reducible refine wpSeq_skip (o := ⟨_, _, _, _, _, _⟩) (by with_unfolding_all exact rfl) (by with_unfolding_all exact rfl) ?_); simp only [Act.put, List.setIfInBounds_toArray, List.set_cons_zero, List.set_cons_succ])
                | ((with_reducible refine wpSeq_free (o := ⟨_, _, _, _, _, _⟩) (by with_unfolding_all exact rfl) (by with_unfolding_all exact rfl) (fun K hK => ?_)); go_big_quiet_op; (refine hK _ ?_; clear hK K)))
              refine wpSeq_nil ?_
              go_wp2
              go_ret
              refine ⟨false, rfl, ?_, hbel.drew⟩
              simp only [Bool.false_eq_true, false_iff]
              intro h
              obtain ⟨f1, f2, f3⟩ := HAB.out
              rw [h, f2] at f1
              exact K3.out (by rw [Option.some.inj f1])
          · have k2I : ((A.from_ : Int) != (B.from_ : Int)) = true := by rw [bne_iff_ne]; exact fun e => k2 (by omega)
            have K2 := Lib.hid k2
            clear k2
            go_wp2
            refine wp_region_seq2 (fun W => Below w.heap.size w W) [(0, true), (1, true), (2, true), (3, true), (4, true), (5, true), (6, true), (7, true), (8, true), (9, true), (10, true), (11, true), (12, true), (13, true), (14, true), (15, true), (16, true), (17, true), (18, true), (19, true), (20, true), (21, true), (22, true), (23, true), (24, true), (25, true), (26, true), (27, true), (28, true), (29, true), (30, true), (31, true), (32, true), (33, true), (34, true), (35, true), (36, true), (37, true), (38, true)] (by kernel_rfl) (by kernel_rfl) (fun d _ _ _ _ h => by cases d <;> exact h) (hbel.drew) ?_
            repeat (first
              | ((with_reducible refine wpSeq_skip (o := ⟨_, _, _, _, _, _⟩) (by with_unfolding_all exact rfl) (by with_unfolding_all exact rfl) ?_); simp only [Act.put, List.setIfInBounds_toArray, List.set_cons_zero, List.set_cons_succ])
              | ((with_reducible refine wpSeq_free (o := ⟨_, _, _, _, _, _⟩) (by with_unfolding_all exact rfl) (by with_unfolding_all exact rfl) (fun K hK => ?_)); go_big_quiet_op; (refine hK _ ?_; clear hK K)))
            refine wpSeq_nil ?_
            go_wp2
            go_ret
            refine ⟨false, rfl, ?_, hbel.drew⟩
            simp only [Bool.false_eq_true, false_iff]
            intro h
            obtain ⟨f1, f2, f3⟩ := HAB.out
            rw [h, f2] at f1
            exact K2.out (by rw [Option.some.inj f1])
        · have k1I : ((A.kind.toNat : Int) != (B.kind.toNat : Int)) = true := by rw [bne_iff_ne]; exact fun e => k1 (UInt8.toNat_inj.1 (by omega))
          have K1 := Lib.hid k1
          clear k1
          go_wp2
          refine wp_region_seq2 (fun W => Below w.heap.size w W) [(0, true), (1, true), (2, true), (3, true), (4, true), (5, true), (6, true), (7, true), (8, true), (9, true), (10, true), (11, true), (12, true), (13, true), (14, true), (15, true), (16, true), (17, true), (18, true), (19, true), (20, true), (21, true), (22, true), (23, true), (24, true), (25, true), (26, true), (27, true), (28, true), (29, true), (30, true), (31, true), (32, true), (33, true), (34, true), (35, true), (36, true), (37, true), (38, true)] (by kernel_rfl) (by kernel_rfl) (fun d _ _ _ _ h => by cases d <;> exact h) (hbel.drew) ?_
          repeat (first
            | ((with_reducible refine wpSeq_skip (o := ⟨_, _, _, _, _, _⟩) (by with_unfolding_all exact rfl) (by with_unfolding_all exact rfl) ?_); simp only [Act.put, List.setIfInBounds_toArray, List.set_cons_zero, List.set_cons_succ])
            | ((with_reducible refine wpSeq_free (o := ⟨_, _, _, _, _, _⟩) (by with_unfolding_all exact rfl) (by with_unfolding_all exact rfl) (fun K hK => ?_)); go_big_quiet_op; (refine hK _ ?_; clear hK K)))
          refine wpSeq_nil ?_
          go_wp2
          go_ret
          refine ⟨false, rfl, ?_, hbel.drew⟩
          simp only [Bool.false_eq_true, false_iff]
          intro h
          obtain ⟨f1, f2, f3⟩ := HAB.out
          rw [h, f2] at f1
          exact K1.out (by rw [Option.some.inj f1])
      · obtain rfl : j = x.length := by omega
        go_wp2
        go_ret
        exact ⟨true, rfl, by rw [List.take_length, Hn.out, List.take_length] at htake; rw [htake]; simp, hbel⟩
  · have e0 : ((x.length : Int) == (y.length : Int)) = false := by rw [beq_eq_false_iff_ne]; omega
    go_enter Try.func60, Try.ntmps60
    go_wp2
    go_ret
    exact ⟨false, rfl, by simp; intro h; exact hn (by rw [h]), Below.refl _ _⟩
end Go.Proofs.Ytdlbjllgdikadaa

namespace Go.Proofs.Ytdlbjllgdikadaa
open Go.RowKit Go.Shelf
set_option linter.unusedVariables false

abbrev RTrip := Rc × Option Addr × Nat
def renc (x : RTrip) : Value := .agg (x.1.cells x.2.1 x.2.2)
def noneR : Rc := ⟨0, 0, []⟩
/-- A record that came: its body's bytes. -/
def RBody (W : World) (base : Nat) (p : RTrip) : Prop := OwnB W base (.slice p.2.1 p.1.body.length p.2.2) p.1.body

/-- What lay below n₀ lies as it lay, but for block X. -/
structure Lo (n₀ X : Nat) (W W' : World) : Prop where
  size : W.heap.size ≤ W'.heap.size
  block : ∀ k, k < n₀ → k ≠ X → W'.heap[k]? = W.heap[k]?
section
variable {n₀ X : Nat} {W W' W2 : World}
theorem Lo.refl (n₀ X : Nat) (W : World) : Lo n₀ X W W := ⟨Nat.le_refl _, fun _ _ _ => rfl⟩
theorem Lo.trans (h : Lo n₀ X W W') (k : Lo n₀ X W' W2) : Lo n₀ X W W2 := ⟨Nat.le_trans h.size k.size, fun i hi hX => (k.block i hi hX).trans (h.block i hi hX)⟩
theorem Lo.of (h : Below n₀ W W') : Lo n₀ X W W' := ⟨h.size, fun k hk _ => h.block k hk⟩
theorem Lo.grown {row : Option Nat} (h : Lo n₀ X W W') (hg : W'.grownBy W2 row) (hn : n₀ ≤ W'.heap.size) (hr : ∀ r, row = some r → n₀ ≤ r ∨ r = X) : Lo n₀ X W W2 :=
  h.trans ⟨hg.size, fun k hk hX => hg.block k (by omega) (fun e => by rcases hr k e.symm with h1 | h1 <;> omega)⟩
theorem Lo.alloc (h : Lo n₀ X W W') (hn : n₀ ≤ W'.heap.size) (o : Obj) : Lo n₀ X W (W'.alloc o) := h.grown (World.grownBy_alloc W' o none) hn (fun r e => by cases e)
end
/-- What a round keeps: what lay below n₀ (but X), block H, and all rows of bytes. -/
structure RKeeps (n₀ X H : Nat) (W W' : World) : Prop where
  below : Lo n₀ X W W'
  own : W'.heap[H]? = W.heap[H]?
  bytes : ∀ (k : Nat) (cs : Array Value) (fz : Nat × Nat), W.heap[k]? = some (.cells cs 5 fz) → W'.heap[k]? = some (.cells cs 5 fz)

section
variable {n₀ X H : Nat} {W W' W2 : World}
theorem RKeeps.refl (n₀ X H : Nat) (W : World) : RKeeps n₀ X H W W := ⟨Lo.refl _ _ _, rfl, fun _ _ _ h => h⟩
theorem RKeeps.trans (h : RKeeps n₀ X H W W') (k : RKeeps n₀ X H W' W2) : RKeeps n₀ X H W W2 := ⟨h.below.trans k.below, k.own.trans h.own, fun i cs fz e => k.bytes i cs fz (h.bytes i cs fz e)⟩
theorem RKeeps.grown {row : Option Nat} (hg : W.grownBy W' row) (hn : n₀ ≤ W.heap.size) (hH : H < W.heap.size) (hrow : ∀ r, row = some r → (n₀ ≤ r ∨ r = X) ∧ r ≠ H ∧ ∀ cs fz, W.heap[r]? ≠ some (.cells cs 5 fz)) : RKeeps n₀ X H W W' :=
  ⟨(Lo.refl n₀ X W).grown hg hn (fun k e => (hrow k e).1), hg.block H hH (fun e => (hrow H e.symm).2.1 rfl), fun k cs fz e => (hg.block k (Array.getElem?_eq_some_iff.1 e).1 (fun e2 => (hrow k e2.symm).2.2 cs fz e)).trans e⟩
theorem RKeeps.putObj {l : Nat} {o : Obj} (o' : Obj) (hn : n₀ ≤ l) (hl : W.heap[l]? = some o) (hc : o.isCells = false) (hlH : l ≠ H) (hH : H < W.heap.size) : RKeeps n₀ X H W (W.putObj l o') :=
  RKeeps.grown (grownBy_putObj' W l o') (by have := (Array.getElem?_eq_some_iff.1 hl).1; omega) hH (fun r e => by cases e; exact ⟨.inl hn, hlH, fun cs fz e2 => by rw [hl] at e2; cases e2; cases hc⟩)
theorem RBody.kept {base : Nat} {p : RTrip} (h : RBody W base p) (k : RKeeps n₀ X H W W') : RBody W' base p := by
  refine ⟨h.1, ?_⟩
  rcases h.2 with hn | ⟨g, cap, cur, e, hbg, hg, rest⟩
  · exact .inl hn
  · exact .inr ⟨g, cap, cur, e, hbg, k.bytes g _ _ hg, rest⟩
end

/-- What the iterator turns, the caller's word abides: block H, rows of bytes, blocks of its own. -/
def RAbides (n₀ H : Nat) (J : List RTrip → World → Prop) : Prop := ∀ s W W' row, J s W → W.grownBy W' row → (∀ r, row = some r → n₀ ≤ r ∧ (r = H ∨ ∃ cs t fz, W.heap[r]? = some (.cells cs t fz) ∧ (t = 5 ∨ t = 43))) → J s W'

/-- THE ITERATOR's CONTRACT: all whole records of L come, in their order. -/
def WholeStops (F : Fence) (n n₀ X : Nat) (lb : Array Value) (L : List Blk) (w : World) : Prop :=
  ∀ (l : Nat) (J : List RTrip → World → Prop) (W : World), Below w.heap.size w W → RAbides n₀ W.heap.size J →
    (∀ pre x W1, J pre W1 → pre.length < L.length → W.heap.size < W1.heap.size → YieldAt F (n - 1) Try.prog l #[renc x] W1 fun e W' => e = .returned (.bool true) ∧ J (pre ++ [x]) W' ∧ RKeeps n₀ X W.heap.size W1 W') →
    J [] W →
    CallsIn F n Try.prog 110 (#[.func (.yield l) #[] #[]] ++ lb) W fun e W' => (∃ v, e = .returned v) ∧ ∃ xs, xs.map (·.1) = goRecs false noneR L ∧ J xs W' ∧ ∀ p ∈ xs, RBody W' n₀ p

def wholePost (n₀ X H : Nat) (I : List RTrip → World → Prop) (xs : List RTrip) (W : World) : Exit → Act → World → Prop
  | .normal, _, W' => KeepsOthers W W' ∧ RKeeps n₀ X H W W' ∧ I xs W'
  | _, _, _ => False

variable {F : Fence} {n : Nat}
/-- A RANGE OVER whole's RECORDS, whose body never leaves. -/
theorem wpIn_rangeW {g : Operand} {ps : Array Tmp} {assign body : Code} {Q : Exit → Act → World → Prop} {a : Act} {w : World}
    (hro : F.round = none) (h1 : 1 ≤ n) {lb : Array Value} (hg : a.eval g = .func (.func 110) #[] lb) (hFg : F.fn 110) (eg : ∀ args w, (callFunc 110 args).run Try.prog w = .ok (.enter 110 args) w)
    {n₀ X : Nat} {L : List Blk} (hseq : WholeStops F (n - 1) n₀ X lb L w) (hn₀ : n₀ ≤ w.heap.size) (hps : ps.size = 1)
    (I : List RTrip → World → Prop) (hI : OwnFrom w.heap.size I) (hI2 : RAbides n₀ (w.heap.size + 2) I) (h0 : I [] w) (Ax : RTrip → Act → World → Prop) (hAx : ∀ x a', OwnFrom w.heap.size (fun (_ : Unit) W => Ax x a' W))
    (hassign : ∀ (l : Nat) (pre : List RTrip) (x : RTrip) (W : World) (K : Act → World → Prop), I pre W → w.heap.size + 2 < W.heap.size → (∀ a' W', KeepsOthers W W' → RKeeps n₀ X (w.heap.size + 2) W W' → I pre W' → Ax x a' W' → K a' W') →
      assign.wpIn (F.inRound l) (n - 1 - 1) Try.prog (Exit.then K (fun _ _ _ => False)) { tmps := (ps.zip #[renc x]).foldl (fun t (p, v) => t.setIfInBounds p v) a.tmps, defers := [] } W)
    (hbody : ∀ (l : Nat) (pre : List RTrip) (x : RTrip) (a' : Act) (W : World), w.heap.size + 2 < W.heap.size → I pre W → Ax x a' W → pre.length < L.length → body.wpIn (F.inRound l) (n - 1 - 1) Try.prog (wholePost n₀ X (w.heap.size + 2) I (pre ++ [x]) W) a' W)
    (hdone : ∀ (D : Nat) (xs : List RTrip) (W : World), w.heap.size ≤ D → xs.map (·.1) = goRecs false noneR L → (∀ p ∈ xs, RBody W n₀ p) → I xs W → W.heap[D]? = some (.deferred (some [])) → Q .normal { a with defers := { target := .collected D, args := #[] } :: a.defers } W) :
    (Code.rangeFunc g ps assign body).wpIn F n Try.prog Q a w := by
  refine wpIn_rangeFunc ?_
  intro fn hfn
  rw [hro]
  obtain ⟨rec, hrec⟩ : ∃ rec : LoopState → Option Code → Loop, rec = fun st pe => { state := st, pending := pe, fn, tmps := a.tmps, params := ps, assign, body, defers := w.heap.size } := ⟨_, rfl⟩
  obtain ⟨W1, hW1⟩ : ∃ W1, (w.alloc (.deferred (some []))).alloc (.loop (rec .ready none)) = W1 := ⟨_, rfl⟩
  have hL1 : W1.heap[w.heap.size + 1]? = some (.loop (rec .ready none)) := by
    rw [← hW1]; have := World.alloc_heap_new (w.alloc (.deferred (some []))) (.loop (rec .ready none)); rwa [World.size_alloc] at this
  have hK1 : W1.heap[w.heap.size]? = some (.deferred (some [])) := by
    rw [← hW1]; exact (Below.heap_alloc _ _ _ (by simp)).trans (World.alloc_heap_new w _)
  have hI1 : I [] W1 := by rw [← hW1]; exact hI.alloc _ (hI.alloc _ h0)
  have hb1 : Below w.heap.size w W1 := by
    rw [← hW1]; exact ((Below.refl _ w).alloc (Nat.le_refl _) _).alloc (by simp) _
  have hs1 : W1.heap.size = w.heap.size + 2 := by rw [← hW1]; simp
  refine ⟨w.heap.size + 1, [{ target := .collected w.heap.size, args := #[] }], W1, { target := .fn (.func 110) lb, args := #[.func (.yield (w.heap.size + 1)) #[] #[]] }, W1, 110,
    #[.func (.yield (w.heap.size + 1)) #[] #[]] ++ lb, W1, ?_, ?_, ?_, ?_, fun _ => h1, ?_⟩
  · rw [← hW1, hrec]; exact run_enterLoop_outer _ _ _ _ _
  · simp only [resolve, hg]
    simp [go_sem]
  · intro f' hf'; simp [Target.leads] at hf'; subst hf'; exact hFg
  · simp [invoke, go_sem, eg]
  · have hnc : ∀ {A B : World} {row : Option Nat}, A.grownBy B row → (∀ r, row = some r → n₀ ≤ r ∧ (r = W1.heap.size ∨ ∃ cs t fz, A.heap[r]? = some (.cells cs t fz) ∧ (t = 5 ∨ t = 43))) →
        ∀ (k : Nat) (o : Obj), k < W1.heap.size → A.heap[k]? = some o → o.isCells = false → B.heap[k]? = some o := fun {A B row} hg' hr k o hk ho hc =>
      (hg'.block k (Array.getElem?_eq_some_iff.1 ho).1 (fun e => by
        rcases (hr k e.symm).2 with e2 | ⟨cs, t, fz, e2, _⟩
        · omega
        · rw [ho] at e2; cases e2; cases hc)).trans ho
    refine (hseq (w.heap.size + 1)
      (fun pre W => I pre W ∧ W.heap[w.heap.size + 1]? = some (.loop (rec .ready none)) ∧ W.heap[w.heap.size]? = some (.deferred (some [])))
      W1 hb1
      (fun s A B row hs hg' hr => ⟨hI2 s A B row hs.1 hg' (by rw [hs1] at hr; exact hr), hnc hg' hr _ _ (by omega) hs.2.1 rfl, hnc hg' hr _ _ (by omega) hs.2.2 rfl⟩)
      ?_ ⟨hI1, hL1, hK1⟩).mono ?_
    · -- ONE ROUND
      rintro pre x W ⟨hi, hl, hk⟩ hlen hHs
      rw [hs1] at hHs ⊢
      have hy := run_yield (P := Try.prog) (args := #[renc x]) hl (by rw [hrec]; exact hps.symm)
      rw [hrec] at hy
      refine ⟨fn, _, assign, body, hy, roundIn_of_wpIn hfn (hassign _ pre x W _ hi hHs fun a' Wa hka hra hia hxa => ⟨_, run_beginRound (hka.same _ _ hl rfl) (by rw [hrec]), ?_⟩)⟩
      have hla := hka.same _ _ hl rfl
      have hkk := hka.same _ _ hk rfl
      have hsa := hka.size
      have hHa : w.heap.size + 2 < Wa.heap.size := by omega
      have hl2 : (Wa.putObj (w.heap.size + 1) (.loop { rec .ready none with state := .busy })).heap[w.heap.size + 1]? = some (.loop { rec .ready none with state := .busy }) := World.putObj_heap_same (by omega)
      have hk2 : (Wa.putObj (w.heap.size + 1) (.loop { rec .ready none with state := .busy })).heap[w.heap.size]? = some (.deferred (some [])) := (World.putObj_heap_other (by omega)).trans hkk
      have hw2 : RKeeps n₀ X (w.heap.size + 2) Wa (Wa.putObj (w.heap.size + 1) (.loop { rec .ready none with state := .busy })) := RKeeps.putObj _ (by omega) hla rfl (by omega) hHa
      refine wpIn_mono (hbody _ pre x a' _ (by rw [World.putObj_size]; exact hHa) (hI.putObj _ hia (by omega) hla rfl) ((hAx x a').putObj (s := ()) _ hxa (by omega) hla rfl) hlen) ?_
      rintro e a3 W3 hp
      cases e with
      | normal =>
        obtain ⟨hk3, hkp3, hi3⟩ := hp
        have hl3 := hk3.same _ _ hl2 rfl
        have hr3 := run_endRound (P := Try.prog) none hl3
        have hs3 := hk3.size
        rw [World.putObj_size] at hs3
        rw [hrec] at hr3 hl3
        refine ⟨_, _, hr3, rfl, ⟨hI.putObj _ hi3 (by omega) hl3 rfl, by rw [hrec]; exact World.putObj_heap_same (by omega), (World.putObj_heap_other (by omega)).trans (hk3.same _ _ hk2 rfl)⟩, ((hra.trans hw2).trans hkp3).trans (RKeeps.putObj _ (by omega) hl3 rfl (by omega) (by omega))⟩
      | ret => exact hp.elim
      | exit id => exact hp.elim
      | goto t => exact hp.elim
      | panic ch => exact hp.elim
      | outgrown => exact hp.elim
    · -- BEHIND THE ITERATOR
      rintro e W2 ⟨⟨v, rfl⟩, xs, hS, ⟨hi, hl, hk⟩, hB⟩
      exact ⟨none, _, by have := run_endLoop (P := Try.prog) hl (by rw [hrec]; simp); rw [hrec] at this; exact this, hdone _ xs _ (Nat.le_refl _) hS (fun p hp => ownsRow_putObj (hB p hp) _ hl rfl) (hI.putObj _ hi (by omega) hl rfl) ((World.putObj_heap_other (by omega)).trans hk)⟩

end Go.Proofs.Ytdlbjllgdikadaa
