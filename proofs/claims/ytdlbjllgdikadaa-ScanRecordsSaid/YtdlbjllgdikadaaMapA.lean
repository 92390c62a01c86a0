/- Maps keyed by integers, as functions. -/
import Derived.Test.YtdlbjllgdikadaaSegH
import Derived.MapKept
import Derived.Laws.Externs
namespace Go.Proofs.Ytdlbjllgdikadaa
open Go.RowKit Go.MapKept

def keyIs (kd : IntKind) (k : Int) : Value → Bool
  | .int j n => decide (j = kd) && decide (n = k)
  | _ => false
theorem keyIs_int (kd : IntKind) (k n : Int) : keyIs kd k (.int kd n) = decide (n = k) := by simp [keyIs]

def firstV (kd : IntKind) : List MapEntry → Int → Option Value
  | [], _ => none
  | e :: es, k => if keyIs kd k e.key = true then some e.val else firstV kd es k

/-- A block that is a map; what it holds, as a function. -/
def MapFn (w : World) (b : Nat) (kd : IntKind) (M : Int → Option Value) : Prop :=
  ∃ es clock, w.heap[b]? = some (.map es clock) ∧ (∀ x ∈ es.toList, IsKey (.int kd) x.key) ∧ ∀ k, firstV kd es.toList k = M k

def updM (M : Int → Option Value) (k : Int) (v : Value) : Int → Option Value := fun q => if q = k then some v else M q

theorem isKey_int {kd : IntKind} {v : Value} (h : IsKey (.int kd) v) : ∃ n, v = .int kd n := by
  cases v <;> simp [IsKey] at h
  subst h
  exact ⟨_, rfl⟩

theorem findNow_first (kd : IntKind) (k : Int) : ∀ (l : List MapEntry) (i : Nat), (∀ x ∈ l, IsKey (.int kd) x.key) →
    (Instr.findNow (.int kd) (.int kd k) l i = some none ∧ firstV kd l k = none) ∨
    ∃ j e, Instr.findNow (.int kd) (.int kd k) l i = some (some (i + j, e.val)) ∧ l[j]? = some e ∧ e.key = .int kd k ∧ firstV kd l k = some e.val ∧
      ∀ v q, firstV kd (l.modify j fun e => { e with key := .int kd k, val := v }) q = if q = k then some v else firstV kd l q
  | [], _, _ => .inl ⟨rfl, rfl⟩
  | e :: es, i, h => by
    obtain ⟨n, hn⟩ := isKey_int (h e (.head _))
    by_cases hk : n = k
    · subst hk
      refine .inr ⟨0, e, by simp [Instr.findNow, Instr.sameNow, hn], rfl, hn, by simp [firstV, hn, keyIs_int], fun v q => ?_⟩
      have hm : (e :: es).modify 0 (fun e => { e with key := .int kd n, val := v }) = { e with key := .int kd n, val := v } :: es := rfl
      rw [hm]
      simp only [firstV, hn, keyIs_int, decide_eq_true_eq]
      by_cases hq : n = q
      · simp [hq]
      · rw [if_neg hq, if_neg (fun e => hq e.symm), if_neg hq]
    · have hne : Instr.sameNow (.int kd) (.int kd k) e.key = some false := by
        rw [hn]
        simp [Instr.sameNow]
        omega
      have hnk : keyIs kd k e.key = false := by rw [hn, keyIs_int]; simp; exact hk
      rcases findNow_first kd k es (i + 1) (fun x hx => h x (.tail _ hx)) with ⟨h1, h2⟩ | ⟨j, e', h1, h2, h3, h4, h5⟩
      · exact .inl ⟨by simp [Instr.findNow, hne, h1], by simp [firstV, hnk, h2]⟩
      · refine .inr ⟨j + 1, e', by simp [Instr.findNow, hne, h1]; omega, by simpa using h2, h3, by simp [firstV, hnk, h4], fun v q => ?_⟩
        have hm : (e :: es).modify (j + 1) (fun e => { e with key := .int kd k, val := v }) = e :: es.modify j (fun e => { e with key := .int kd k, val := v }) := by
          simp
        rw [hm]
        simp only [firstV, h5]
        by_cases hq : keyIs kd q e.key = true
        · rw [if_pos hq, if_pos hq, if_neg]
          intro e2
          rw [e2, hnk] at hq
          cases hq
        · rw [if_neg hq, if_neg hq]

theorem firstV_push (kd : IntKind) (l : List MapEntry) (k : Int) (v : Value) (b : Nat) (h : firstV kd l k = none) (q : Int) :
    firstV kd (l ++ [{ key := .int kd k, val := v, born := b }]) q = if q = k then some v else firstV kd l q := by
  induction l with
  | nil =>
    simp only [List.nil_append, firstV, keyIs_int, decide_eq_true_eq]
    by_cases hq : k = q
    · simp [hq]
    · rw [if_neg hq, if_neg (fun e => hq e.symm)]
  | cons e es ih =>
    simp only [firstV] at h
    split at h
    · cases h
    · rename_i hne
      simp only [List.cons_append, firstV, ih h]
      by_cases hq : keyIs kd q e.key = true
      · rw [if_pos hq, if_pos hq, if_neg]
        intro e2
        rw [e2] at hq
        exact hne hq
      · rw [if_neg hq, if_neg hq]

section
variable {P : Program} {w : World} {b : Nat} {kd : IntKind} {M : Int → Option Value} {t kt et : TypeId}

theorem MapFn.lt (h : MapFn w b kd M) : b < w.heap.size := by
  obtain ⟨es, c, hb, _⟩ := h
  exact (Array.getElem?_eq_some_iff.1 hb).1

theorem MapFn.later {w' : World} (h : MapFn w b kd M) (hb : Below w.heap.size w w') : MapFn w' b kd M := by
  have hlt := h.lt
  obtain ⟨es, c, h1, h2⟩ := h
  exact ⟨es, c, (hb.block b hlt).trans h1, h2⟩

theorem MapFn.kept {w' : World} {row : Option Nat} (h : MapFn w b kd M) (hg : w.grownBy w' row) (hne : some b ≠ row) : MapFn w' b kd M := by
  have hlt := h.lt
  obtain ⟨es, c, h1, h2⟩ := h
  exact ⟨es, c, (hg.block b hlt hne).trans h1, h2⟩

theorem MapFn.other (h : MapFn w b kd M) (p : Addr) (u : Value) (hp : b ≠ p.block) : MapFn (w.setCell p u) b kd M := by
  obtain ⟨es, c, h1, h2⟩ := h
  exact ⟨es, c, (heap_setCell_other w p b u hp).trans h1, h2⟩

theorem MapFn.made (w : World) (kd : IntKind) : MapFn (w.alloc (.map #[] 0)) w.heap.size kd (fun _ => none) :=
  ⟨#[], 0, heap_alloc_new _ _, by simp, fun _ => rfl⟩

theorem MapFn.run_lookup (h : MapFn w b kd M) (ht : P.underlying t = some (.map kt et)) (hk : P.underlying kt = some (.int kd)) (z : Value) (hz : (zeroValue et).run P w = .ok z w) (k : Int) :
    (Instr.lookup t (.map (some b)) (.int kd k) false).run P w = .ok ((M k).getD z) w ∧ (Instr.lookup t (.map (some b)) (.int kd k) true).run P w = .ok (.tuple #[(M k).getD z, .bool (M k).isSome]) w := by
  obtain ⟨es, c, hb, hks, hM⟩ := h
  have hik : IsKey (.int kd) (.int kd k) := rfl
  rw [← hM k]
  rcases findNow_first kd k es.toList 0 hks with ⟨h1, h2⟩ | ⟨j, e, h1, _, _, h4, _⟩
  · rw [h2]
    constructor <;> simp [Instr.lookup, run_underlying ht, MapKept.run_getObj_map hb, run_checkKey hk hik, run_findKey hk h1, hz, Result.andThen]
  · rw [h4]
    constructor <;> simp [Instr.lookup, run_underlying ht, MapKept.run_getObj_map hb, run_checkKey hk hik, run_findKey hk h1, Result.andThen]

theorem MapFn.run_update (h : MapFn w b kd M) (ht : P.underlying t = some (.map kt et)) (hk : P.underlying kt = some (.int kd)) (k : Int) (v : Value) :
    ∃ w', (Instr.mapUpdate t (.map (some b)) (.int kd k) v).run P w = .ok () w' ∧ MapFn w' b kd (updM M k v) ∧ w.grownBy w' (some b) := by
  obtain ⟨es, c, hb, hks, hM⟩ := h
  have hik : IsKey (.int kd) (.int kd k) := rfl
  have hgr : ∀ o : Obj, w.grownBy { w with heap := w.heap.setIfInBounds b o } (some b) := fun o =>
    ⟨rfl, rfl, rfl, by simp, fun q _ hq => (heap_set hb).2 q (fun e => hq (by rw [e]))⟩
  rcases findNow_first kd k es.toList 0 hks with ⟨h1, h2⟩ | ⟨j, e, h1, h2, h3, _, h5⟩
  · refine ⟨{ w with heap := w.heap.setIfInBounds b (.map (es.push { key := .int kd k, val := v, born := c }) (c + 1)) }, ?_, ⟨_, _, (heap_set hb).1, ?_, ?_⟩, hgr _⟩
    · simp [Instr.mapUpdate, run_underlying ht, MapKept.run_getObj_map hb, run_checkKey hk hik, run_findKey hk h1, run_setObj_map _ hb, Result.andThen]
    · intro x hx
      simp only [Array.toList_push, List.mem_append, List.mem_singleton] at hx
      rcases hx with hx | rfl
      · exact hks x hx
      · exact hik
    · intro q
      rw [Array.toList_push, firstV_push kd _ k v _ h2, hM q]
      rfl
  · have hj : es[j]? = some e := by simpa using h2
    refine ⟨{ w with heap := w.heap.setIfInBounds b (.map (es.modify j fun e => { e with key := .int kd k, val := v }) c) }, ?_, ⟨_, _, (heap_set hb).1, ?_, ?_⟩, hgr _⟩
    · simp [Instr.mapUpdate, run_underlying ht, MapKept.run_getObj_map hb, run_checkKey hk hik, run_findKey hk h1, hj, h3, run_keyThatStays hik, run_setObj_map _ hb, Result.andThen]
    · have hkey : ∀ e', es[j]? = some e' → ({ e' with key := .int kd k, val := v } : MapEntry).key = e'.key := fun e' he' => by rw [hj] at he'; cases he'; exact h3.symm
      exact isKey_modify hks _ _ hkey
    · intro q
      rw [Array.toList_modify, h5 v q, hM q]
      rfl

theorem MapFn.run_clear (h : MapFn w b kd M) (ht : P.underlying t = some (.map kt et)) (ty : TypeId) :
    ∃ w', (Builtin.clear_ #[t] ty #[.map (some b)]).run P w = .ok (.tuple #[]) w' ∧ MapFn w' b kd (fun _ => none) ∧ w.grownBy w' (some b) := by
  obtain ⟨es, c, hb, hks, hM⟩ := h
  refine ⟨{ w with heap := w.heap.setIfInBounds b (.map #[] c) }, ?_, ⟨#[], c, (heap_set hb).1, by simp, fun _ => rfl⟩, ⟨rfl, rfl, rfl, by simp, fun q _ hq => (heap_set hb).2 q (fun e => hq (by rw [e]))⟩⟩
  simp [Builtin.clear_, run_underlying ht, MapKept.run_getObj_map hb, run_setObj_map _ hb, Result.andThen]

/-- 'm[k] = v'. -/
theorem wp_update_fn {o : Oper} {a : Act} {K : Act → World → Prop} {Q : Exit → Act → World → Prop} (m x v : Operand) (hop : o.op = .mapUpdate t m x v)
    (ht : P.underlying t = some (.map kt et)) (hk : P.underlying kt = some (.int kd)) (h : MapFn w b kd M) (k : Int) (u : Value)
    (hm : a.eval m = .map (some b)) (hx : a.eval x = .int kd k) (hv : a.eval v = u)
    (hK : ∀ w', MapFn w' b kd (updM M k u) → w.grownBy w' (some b) → K (a.put o.dst undef) w') : o.wp P a w K Q := by
  obtain ⟨w', hrun, r1, r2⟩ := h.run_update ht hk k u
  unfold Oper.wp
  simp [execOp, hop, hm, hx, hv, hrun, Result.andThen]
  exact hK w' r1 r2

theorem wpList_update_fn {ops : Array Oper} {rest : List Oper} {o : Oper} {a : Act} {Q : Exit → Act → World → Prop} (hg : o.guard = none) (m x v : Operand) (hop : o.op = .mapUpdate t m x v)
    (ht : P.underlying t = some (.map kt et)) (hk : P.underlying kt = some (.int kd)) (h : MapFn w b kd M) (k : Int) (u : Value)
    (hm : a.eval m = .map (some b)) (hx : a.eval x = .int kd k) (hv : a.eval v = u)
    (hK : ∀ w', MapFn w' b kd (updM M k u) → w.grownBy w' (some b) → wpList P ops Q rest (a.put o.dst undef) w') : wpList P ops Q (o :: rest) a w :=
  wpList_plain hg fun _ hK' => wp_update_fn m x v hop ht hk h k u hm hx hv fun w' h1 h2 => hK' _ _ (hK w' h1 h2)

theorem wpList_clear_fn {ops : Array Oper} {rest : List Oper} {o : Oper} {a : Act} {Q : Exit → Act → World → Prop} (hg : o.guard = none) (m : Operand) (ho : o.op = .call { callee := .builtin .clear, args := #[m], argTypes := #[t] })
    (ht : P.underlying t = some (.map kt et)) (h : MapFn w b kd M) (hm : a.eval m = .map (some b))
    (hK : ∀ w', MapFn w' b kd (fun _ => none) → w.grownBy w' (some b) → wpList P ops Q rest (a.put o.dst (.tuple #[])) w') : wpList P ops Q (o :: rest) a w := by
  refine wpList_plain hg fun _ hK' => ?_
  obtain ⟨w', hrun, r1, r2⟩ := h.run_clear ht o.type
  unfold Oper.wp
  simp [execOp, ho, resolve, invoke, builtin, hm, hrun, Result.andThen]
  exact hK' _ _ (hK w' r1 r2)
end

end Go.Proofs.Ytdlbjllgdikadaa
