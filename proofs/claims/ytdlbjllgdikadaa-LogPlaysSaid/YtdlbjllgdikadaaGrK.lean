/- Maps keyed by integers, as functions. device: what a device is; its small functions. What a call turns: some blocks that were there, and new ones. -/
import Derived.Test.YtdlbjllgdikadaaGrG
import Derived.MapKept
import Derived.Laws.Externs
namespace Go.Proofs.Ytdlbjllgdikadaa
open Go.RowKit Go.MapKept

def keyIs (kd : IntKind) (k : Int) : Value → Bool
  | .int j n => decide (j = kd) && decide (n = k)
  | _ => false
theorem keyIs_int (kd : IntKind) (k n : Int) : keyIs kd k (.int kd n) = decide (n = k) := by simp [keyIs]

def firstV (kd : IntKind) : List MapEntry → Int → Option Value
  | [], _ => none
  | e :: es, k => if keyIs kd k e.key = true then some e.val else firstV kd es k

/-- A block that is a map; what it holds, as a function. -/
def MapFn (w : World) (b : Nat) (kd : IntKind) (M : Int → Option Value) : Prop :=
  ∃ es clock, w.heap[b]? = some (.map es clock) ∧ (∀ x ∈ es.toList, IsKey (.int kd) x.key) ∧ ∀ k, firstV kd es.toList k = M k

def updM (M : Int → Option Value) (k : Int) (v : Value) : Int → Option Value := fun q => if q = k then some v else M q

theorem isKey_int {kd : IntKind} {v : Value} (h : IsKey (.int kd) v) : ∃ n, v = .int kd n := by
  cases v <;> simp [IsKey] at h
  subst h
  exact ⟨_, rfl⟩

theorem findNow_first (kd : IntKind) (k : Int) : ∀ (l : List MapEntry) (i : Nat), (∀ x ∈ l, IsKey (.int kd) x.key) →
    (Instr.findNow (.int kd) (.int kd k) l i = some none ∧ firstV kd l k = none) ∨
    ∃ j e, Instr.findNow (.int kd) (.int kd k) l i = some (some (i + j, e.val)) ∧ l[j]? = some e ∧ e.key = .int kd k ∧ firstV kd l k = some e.val ∧
      ∀ v q, firstV kd (l.modify j fun e => { e with key := .int kd k, val := v }) q = if q = k then some v else firstV kd l q
  | [], _, _ => .inl ⟨rfl, rfl⟩
  | e :: es, i, h => by
    obtain ⟨n, hn⟩ := isKey_int (h e (.head _))
    by_cases hk : n = k
    · subst hk
      refine .inr ⟨0, e, by simp [Instr.findNow, Instr.sameNow, hn], rfl, hn, by simp [firstV, hn, keyIs_int], fun v q => ?_⟩
      have hm : (e :: es).modify 0 (fun e => { e with key := .int kd n, val := v }) = { e with key := .int kd n, val := v } :: es := rfl
      rw [hm]
      simp only [firstV, hn, keyIs_int, decide_eq_true_eq]
      by_cases hq : n = q
      · simp [hq]
      · rw [if_neg hq, if_neg (fun e => hq e.symm), if_neg hq]
    · have hne : Instr.sameNow (.int kd) (.int kd k) e.key = some false := by
        rw [hn]
        simp [Instr.sameNow]
        omega
      have hnk : keyIs kd k e.key = false := by rw [hn, keyIs_int]; simp; exact hk
      rcases findNow_first kd k es (i + 1) (fun x hx => h x (.tail _ hx)) with ⟨h1, h2⟩ | ⟨j, e', h1, h2, h3, h4, h5⟩
      · exact .inl ⟨by simp [Instr.findNow, hne, h1], by simp [firstV, hnk, h2]⟩
      · refine .inr ⟨j + 1, e', by simp [Instr.findNow, hne, h1]; omega, by simpa using h2, h3, by simp [firstV, hnk, h4], fun v q => ?_⟩
        have hm : (e :: es).modify (j + 1) (fun e => { e with key := .int kd k, val := v }) = e :: es.modify j (fun e => { e with key := .int kd k, val := v }) := by
          simp
        rw [hm]
        simp only [firstV, h5]
        by_cases hq : keyIs kd q e.key = true
        · rw [if_pos hq, if_pos hq, if_neg]
          intro e2
          rw [e2, hnk] at hq
          cases hq
        · rw [if_neg hq, if_neg hq]

theorem firstV_push (kd : IntKind) (l : List MapEntry) (k : Int) (v : Value) (b : Nat) (h : firstV kd l k = none) (q : Int) :
    firstV kd (l ++ [{ key := .int kd k, val := v, born := b }]) q = if q = k then some v else firstV kd l q := by
  induction l with
  | nil =>
    simp only [List.nil_append, firstV, keyIs_int, decide_eq_true_eq]
    by_cases hq : k = q
    · simp [hq]
    · rw [if_neg hq, if_neg (fun e => hq e.symm)]
  | cons e es ih =>
    simp only [firstV] at h
    split at h
    · cases h
    · rename_i hne
      simp only [List.cons_append, firstV, ih h]
      by_cases hq : keyIs kd q e.key = true
      · rw [if_pos hq, if_pos hq, if_neg]
        intro e2
        rw [e2] at hq
        exact hne hq
      · rw [if_neg hq, if_neg hq]

section
variable {P : Program} {w : World} {b : Nat} {kd : IntKind} {M : Int → Option Value} {t kt et : TypeId}

theorem MapFn.lt (h : MapFn w b kd M) : b < w.heap.size := by
  obtain ⟨es, c, hb, _⟩ := h
  exact (Array.getElem?_eq_some_iff.1 hb).1

theorem MapFn.later {w' : World} (h : MapFn w b kd M) (hb : Below w.heap.size w w') : MapFn w' b kd M := by
  have hlt := h.lt
  obtain ⟨es, c, h1, h2⟩ := h
  exact ⟨es, c, (hb.block b hlt).trans h1, h2⟩

theorem MapFn.kept {w' : World} {row : Option Nat} (h : MapFn w b kd M) (hg : w.grownBy w' row) (hne : some b ≠ row) : MapFn w' b kd M := by
  have hlt := h.lt
  obtain ⟨es, c, h1, h2⟩ := h
  exact ⟨es, c, (hg.block b hlt hne).trans h1, h2⟩

theorem MapFn.other (h : MapFn w b kd M) (p : Addr) (u : Value) (hp : b ≠ p.block) : MapFn (w.setCell p u) b kd M := by
  obtain ⟨es, c, h1, h2⟩ := h
  exact ⟨es, c, (heap_setCell_other w p b u hp).trans h1, h2⟩

theorem MapFn.made (w : World) (kd : IntKind) : MapFn (w.alloc (.map #[] 0)) w.heap.size kd (fun _ => none) :=
  ⟨#[], 0, heap_alloc_new _ _, by simp, fun _ => rfl⟩

theorem MapFn.run_lookup (h : MapFn w b kd M) (ht : P.underlying t = some (.map kt et)) (hk : P.underlying kt = some (.int kd)) (z : Value) (hz : (zeroValue et).run P w = .ok z w) (k : Int) :
    (Instr.lookup t (.map (some b)) (.int kd k) false).run P w = .ok ((M k).getD z) w ∧ (Instr.lookup t (.map (some b)) (.int kd k) true).run P w = .ok (.tuple #[(M k).getD z, .bool (M k).isSome]) w := by
  obtain ⟨es, c, hb, hks, hM⟩ := h
  have hik : IsKey (.int kd) (.int kd k) := rfl
  rw [← hM k]
  rcases findNow_first kd k es.toList 0 hks with ⟨h1, h2⟩ | ⟨j, e, h1, _, _, h4, _⟩
  · rw [h2]
    constructor <;> simp [Instr.lookup, run_underlying ht, MapKept.run_getObj_map hb, run_checkKey hk hik, run_findKey hk h1, hz, Result.andThen]
  · rw [h4]
    constructor <;> simp [Instr.lookup, run_underlying ht, MapKept.run_getObj_map hb, run_checkKey hk hik, run_findKey hk h1, Result.andThen]

theorem MapFn.run_update (h : MapFn w b kd M) (ht : P.underlying t = some (.map kt et)) (hk : P.underlying kt = some (.int kd)) (k : Int) (v : Value) :
    ∃ w', (Instr.mapUpdate t (.map (some b)) (.int kd k) v).run P w = .ok () w' ∧ MapFn w' b kd (updM M k v) ∧ w.grownBy w' (some b) := by
  obtain ⟨es, c, hb, hks, hM⟩ := h
  have hik : IsKey (.int kd) (.int kd k) := rfl
  have hgr : ∀ o : Obj, w.grownBy { w with heap := w.heap.setIfInBounds b o } (some b) := fun o =>
    ⟨rfl, rfl, rfl, by simp, fun q _ hq => (heap_set hb).2 q (fun e => hq (by rw [e]))⟩
  rcases findNow_first kd k es.toList 0 hks with ⟨h1, h2⟩ | ⟨j, e, h1, h2, h3, _, h5⟩
  · refine ⟨{ w with heap := w.heap.setIfInBounds b (.map (es.push { key := .int kd k, val := v, born := c }) (c + 1)) }, ?_, ⟨_, _, (heap_set hb).1, ?_, ?_⟩, hgr _⟩
    · simp [Instr.mapUpdate, run_underlying ht, MapKept.run_getObj_map hb, run_checkKey hk hik, run_findKey hk h1, run_setObj_map _ hb, Result.andThen]
    · intro x hx
      simp only [Array.toList_push, List.mem_append, List.mem_singleton] at hx
      rcases hx with hx | rfl
      · exact hks x hx
      · exact hik
    · intro q
      rw [Array.toList_push, firstV_push kd _ k v _ h2, hM q]
      rfl
  · have hj : es[j]? = some e := by simpa using h2
    refine ⟨{ w with heap := w.heap.setIfInBounds b (.map (es.modify j fun e => { e with key := .int kd k, val := v }) c) }, ?_, ⟨_, _, (heap_set hb).1, ?_, ?_⟩, hgr _⟩
    · simp [Instr.mapUpdate, run_underlying ht, MapKept.run_getObj_map hb, run_checkKey hk hik, run_findKey hk h1, hj, h3, run_keyThatStays hik, run_setObj_map _ hb, Result.andThen]
    · have hkey : ∀ e', es[j]? = some e' → ({ e' with key := .int kd k, val := v } : MapEntry).key = e'.key := fun e' he' => by rw [hj] at he'; cases he'; exact h3.symm
      exact isKey_modify hks _ _ hkey
    · intro q
      rw [Array.toList_modify, h5 v q, hM q]
      rfl

theorem MapFn.run_clear (h : MapFn w b kd M) (ht : P.underlying t = some (.map kt et)) (ty : TypeId) :
    ∃ w', (Builtin.clear_ #[t] ty #[.map (some b)]).run P w = .ok (.tuple #[]) w' ∧ MapFn w' b kd (fun _ => none) ∧ w.grownBy w' (some b) := by
  obtain ⟨es, c, hb, hks, hM⟩ := h
  refine ⟨{ w with heap := w.heap.setIfInBounds b (.map #[] c) }, ?_, ⟨#[], c, (heap_set hb).1, by simp, fun _ => rfl⟩, ⟨rfl, rfl, rfl, by simp, fun q _ hq => (heap_set hb).2 q (fun e => hq (by rw [e]))⟩⟩
  simp [Builtin.clear_, run_underlying ht, MapKept.run_getObj_map hb, run_setObj_map _ hb, Result.andThen]

/-- 'm[k] = v'. -/
theorem wp_update_fn {o : Oper} {a : Act} {K : Act → World → Prop} {Q : Exit → Act → World → Prop} (m x v : Operand) (hop : o.op = .mapUpdate t m x v)
    (ht : P.underlying t = some (.map kt et)) (hk : P.underlying kt = some (.int kd)) (h : MapFn w b kd M) (k : Int) (u : Value)
    (hm : a.eval m = .map (some b)) (hx : a.eval x = .int kd k) (hv : a.eval v = u)
    (hK : ∀ w', MapFn w' b kd (updM M k u) → w.grownBy w' (some b) → K (a.put o.dst undef) w') : o.wp P a w K Q := by
  obtain ⟨w', hrun, r1, r2⟩ := h.run_update ht hk k u
  unfold Oper.wp
  simp [execOp, hop, hm, hx, hv, hrun, Result.andThen]
  exact hK w' r1 r2

theorem wpList_update_fn {ops : Array Oper} {rest : List Oper} {o : Oper} {a : Act} {Q : Exit → Act → World → Prop} (hg : o.guard = none) (m x v : Operand) (hop : o.op = .mapUpdate t m x v)
    (ht : P.underlying t = some (.map kt et)) (hk : P.underlying kt = some (.int kd)) (h : MapFn w b kd M) (k : Int) (u : Value)
    (hm : a.eval m = .map (some b)) (hx : a.eval x = .int kd k) (hv : a.eval v = u)
    (hK : ∀ w', MapFn w' b kd (updM M k u) → w.grownBy w' (some b) → wpList P ops Q rest (a.put o.dst undef) w') : wpList P ops Q (o :: rest) a w :=
  wpList_plain hg fun _ hK' => wp_update_fn m x v hop ht hk h k u hm hx hv fun w' h1 h2 => hK' _ _ (hK w' h1 h2)

theorem wpList_clear_fn {ops : Array Oper} {rest : List Oper} {o : Oper} {a : Act} {Q : Exit → Act → World → Prop} (hg : o.guard = none) (m : Operand) (ho : o.op = .call { callee := .builtin .clear, args := #[m], argTypes := #[t] })
    (ht : P.underlying t = some (.map kt et)) (h : MapFn w b kd M) (hm : a.eval m = .map (some b))
    (hK : ∀ w', MapFn w' b kd (fun _ => none) → w.grownBy w' (some b) → wpList P ops Q rest (a.put o.dst (.tuple #[])) w') : wpList P ops Q (o :: rest) a w := by
  refine wpList_plain hg fun _ hK' => ?_
  obtain ⟨w', hrun, r1, r2⟩ := h.run_clear ht o.type
  unfold Oper.wp
  simp [execOp, ho, resolve, invoke, builtin, hm, hrun, Result.andThen]
  exact hK' _ _ (hK w' r1 r2)
end

end Go.Proofs.Ytdlbjllgdikadaa

namespace Go.Proofs.Ytdlbjllgdikadaa
open Go.RowKit

structure Dev where
  blocks : Nat
  set : Bool
  down : Bool
  writes : Int
  prefix_ : Int
  mem : Nat → List UInt8

def Dev.cells (d : Dev) (b : Nat) : Array Value := #[.int .i64 (d.blocks : Int), .map (some b), .bool d.set, .bool d.down, .int .i64 d.writes, .int .i64 d.prefix_]

def arrV (l : List UInt8) : Value := .agg (bvals l).toArray
def zero64 : List UInt8 := List.replicate 64 0

/-- What a map of blocks holds. -/
def Mem (n : Nat) (M : Int → Option Value) (mem : Nat → List UInt8) : Prop := ∀ i : Nat, i < n → (M (i : Int)).getD (arrV zero64) = arrV (mem i) ∧ (mem i).length = 64

/-- A device in memory: block D its fields, block b its map. -/
def DevAt (w : World) (D b : Nat) (d : Dev) : Prop :=
  w.heap[D]? = some (.cells (d.cells b) 130 (0, 0)) ∧ (∃ M, MapFn w b .i64 M ∧ Mem d.blocks M d.mem) ∧ d.blocks ≤ 16384

theorem DevAt.ne {w : World} {D b : Nat} {d : Dev} (h : DevAt w D b d) : D ≠ b := by
  obtain ⟨h1, ⟨M, ⟨es, c, h2, _⟩, _⟩, _⟩ := h
  intro e
  rw [e, h2] at h1
  cases h1

theorem DevAt.cell {w : World} {D b : Nat} {d : Dev} (h : DevAt w D b d) (q : Nat) (u : Value) (hu : (d.cells b)[q]? = some u) : w.cell? ⟨D, q, none⟩ = some u := by
  rw [cell_of_row w D q _ _ _ h.1, hu]

theorem DevAt.c0 {w : World} {D b : Nat} {d : Dev} (h : DevAt w D b d) : w.cell? ⟨D, 0, none⟩ = some (.int .i64 (d.blocks : Int)) := h.cell 0 _ rfl
theorem DevAt.c1 {w : World} {D b : Nat} {d : Dev} (h : DevAt w D b d) : w.cell? ⟨D, 1, none⟩ = some (.map (some b)) := h.cell 1 _ rfl
theorem DevAt.c2 {w : World} {D b : Nat} {d : Dev} (h : DevAt w D b d) : w.cell? ⟨D, 2, none⟩ = some (.bool d.set) := h.cell 2 _ rfl
theorem DevAt.c3 {w : World} {D b : Nat} {d : Dev} (h : DevAt w D b d) : w.cell? ⟨D, 3, none⟩ = some (.bool d.down) := h.cell 3 _ rfl
theorem DevAt.c4 {w : World} {D b : Nat} {d : Dev} (h : DevAt w D b d) : w.cell? ⟨D, 4, none⟩ = some (.int .i64 d.writes) := h.cell 4 _ rfl
theorem DevAt.c5 {w : World} {D b : Nat} {d : Dev} (h : DevAt w D b d) : w.cell? ⟨D, 5, none⟩ = some (.int .i64 d.prefix_) := h.cell 5 _ rfl
theorem DevAt.free {w : World} {D b : Nat} {d : Dev} (h : DevAt w D b d) (q : Nat) : w.frozen? ⟨D, q, none⟩ = false := frozen_of_row w D q _ _ h.1
theorem DevAt.lt {w : World} {D b : Nat} {d : Dev} (h : DevAt w D b d) : D < w.heap.size := lt_of_block h.1
theorem DevAt.ltb {w : World} {D b : Nat} {d : Dev} (h : DevAt w D b d) : b < w.heap.size := by
  obtain ⟨_, ⟨M, h2, _⟩, _⟩ := h
  exact h2.lt

theorem DevAt.later {w w' : World} {D b : Nat} {d : Dev} (h : DevAt w D b d) (hb : Below w.heap.size w w') : DevAt w' D b d := by
  have hl := h.lt
  obtain ⟨h1, ⟨M, h2, h3⟩, h4⟩ := h
  exact ⟨(hb.block D hl).trans h1, ⟨M, h2.later hb, h3⟩, h4⟩

theorem DevAt.kept {w w' : World} {D b : Nat} {d : Dev} {row : Option Nat} (h : DevAt w D b d) (hg : w.grownBy w' row) (hD : some D ≠ row) (hb : some b ≠ row) : DevAt w' D b d := by
  have hl := h.lt
  obtain ⟨h1, ⟨M, h2, h3⟩, h4⟩ := h
  exact ⟨(hg.block D hl hD).trans h1, ⟨M, h2.kept hg hb, h3⟩, h4⟩

theorem DevAt.other {w : World} {D b : Nat} {d : Dev} (h : DevAt w D b d) (p : Addr) (u : Value) (hD : D ≠ p.block) (hb : b ≠ p.block) : DevAt (w.setCell p u) D b d := by
  obtain ⟨h1, ⟨M, h2, h3⟩, h4⟩ := h
  exact ⟨(heap_setCell_other w p D u hD).trans h1, ⟨M, h2.other p u hb, h3⟩, h4⟩

/-- A field is written. -/
theorem DevAt.stored {w : World} {D b : Nat} {d d' : Dev} (h : DevAt w D b d) (q : Nat) (u : Value) (hu : (d.cells b).setIfInBounds q u = d'.cells b) (hn : d'.blocks = d.blocks) (hm : d'.mem = d.mem) : DevAt (w.setCell ⟨D, q, none⟩ u) D b d' := by
  have hne := h.ne
  obtain ⟨h1, ⟨M, h2, h3⟩, h4⟩ := h
  refine ⟨?_, ⟨M, h2.other _ _ (fun e => hne e.symm), by rw [hn, hm]; exact h3⟩, by rw [hn]; exact h4⟩
  rw [heap_setCell_same w D q _ 130 _ h1, hu]

@[go_sem] theorem eqlMap (w : World) (b : Nat) : (binOp .eql 128 (.map (some b)) (.map none)).run Try.prog w = .ok (.bool false) w :=
  run_eql_map_nil w 128 3 132 (some b) Try.underlying128

/-- What is wrong with a block's number. -/
def mayE (d : Dev) (i : Int) : Nat := if d.down then 11 else if i < 0 ∨ (d.blocks : Int) ≤ i then 2 else 0

theorem may_dev (D b : Nat) (d : Dev) (i : Int) (w : World) (h : DevAt w D b d) :
    Calls Try.prog 91 #[.pointer (some ⟨D, 0, none⟩), .int .i64 i] w fun e w' => e = .returned (.int .i64 (mayE d i : Nat)) ∧ w = w' := by
  have c0 := h.c0
  have c1 := h.c1
  have c3 := h.c3
  cases hd : d.down with
  | true =>
    rw [hd] at c3
    go_enter Try.func91, Try.ntmps91
    go_wp2
    go_ret
    exact ⟨by simp [mayE, hd], rfl⟩
  | false =>
    rw [hd] at c3
    by_cases h1 : i < 0
    · go_enter Try.func91, Try.ntmps91
      go_wp2
      go_ret
      exact ⟨by simp [mayE, hd, h1], rfl⟩
    · by_cases h2 : (d.blocks : Int) ≤ i
      · go_enter Try.func91, Try.ntmps91
        go_wp2
        go_ret
        exact ⟨by simp [mayE, hd, h2], rfl⟩
      · have h2' : i < (d.blocks : Int) := by omega
        go_enter Try.func91, Try.ntmps91
        go_wp2
        go_ret
        exact ⟨by rw [mayE, hd, if_neg (by decide), if_neg (by omega)]; rfl, rfl⟩

theorem grown_setCell (w : World) (p : Addr) (u : Value) : w.grownBy (w.setCell p u) (some p.block) :=
  ⟨rfl, rfl, rfl, by simp, fun k _ hk => heap_setCell_other w p k u (fun e => hk (by rw [e]))⟩

theorem down_dev (D b : Nat) (d : Dev) (w : World) (h : DevAt w D b d) :
    Calls Try.prog 43 #[.pointer (some ⟨D, 0, none⟩)] w fun e w' => e = .returned (.bool d.down) ∧ w = w' := by
  have c1 := h.c1
  have c3 := h.c3
  go_enter Try.func43, Try.ntmps43
  go_wp2
  go_ret
  exact ⟨rfl, rfl⟩

theorem isSet_dev (D b : Nat) (d : Dev) (w : World) (h : DevAt w D b d) :
    Calls Try.prog 44 #[.pointer (some ⟨D, 0, none⟩)] w fun e w' => e = .returned (.bool d.set) ∧ w = w' := by
  have c2 := h.c2
  go_enter Try.func44, Try.ntmps44
  go_wp2
  go_ret
  exact ⟨rfl, rfl⟩

theorem blocks_dev (D b : Nat) (d : Dev) (w : World) (h : DevAt w D b d) :
    Calls Try.prog 55 #[.pointer (some ⟨D, 0, none⟩)] w fun e w' => e = .returned (.int .i64 (d.blocks : Int)) ∧ w = w' := by
  have c0 := h.c0
  go_enter Try.func55, Try.ntmps55
  go_wp2
  go_ret
  exact ⟨rfl, rfl⟩

theorem up_dev (D b : Nat) (d : Dev) (w : World) (h : DevAt w D b d) :
    Calls Try.prog 46 #[.pointer (some ⟨D, 0, none⟩)] w fun e w' => e = .returned (.tuple #[]) ∧ DevAt w' D b { d with down := false } ∧ w.grownBy w' (some D) := by
  have c3 := h.c3
  have f3 := h.free 3
  have hs := h.stored (d' := { d with down := false }) 3 (.bool false) rfl rfl rfl
  go_enter Try.func46, Try.ntmps46
  go_wp2
  go_end0
  exact ⟨rfl, hs, grown_setCell _ _ _⟩

def crashE (d : Dev) (n p : Int) : Nat := if mayE d 0 = 0 then (if n < 0 ∨ p < 0 ∨ 64 < p then 2 else 0) else mayE d 0
def crashD (d : Dev) (n p : Int) : Dev := if crashE d n p = 0 then { d with set := true, writes := n, prefix_ := p } else d

theorem crash_dev (D b : Nat) (d : Dev) (n p : Int) (w : World) (h : DevAt w D b d) :
    Calls Try.prog 40 #[.pointer (some ⟨D, 0, none⟩), .int .i64 n, .int .i64 p] w fun e w' => e = .returned (.int .i64 (crashE d n p : Nat)) ∧ DevAt w' D b (crashD d n p) ∧ w.grownBy w' (some D) := by
  have hm := may_dev D b d 0 w h
  obtain ⟨m, hmm⟩ : ∃ m, m = mayE d 0 := ⟨_, rfl⟩
  rw [← hmm] at hm
  by_cases h0 : m = 0
  · subst h0
    have HM := Lib.hid hmm
    clear hmm
    by_cases hbad : n < 0 ∨ p < 0 ∨ 64 < p
    · have hE : crashE d n p = 2 := by rw [crashE, if_pos HM.out.symm, if_pos hbad]
      have hD : crashD d n p = d := by rw [crashD, hE]; rfl
      rw [hE, hD]
      by_cases b1 : n < 0
      · go_enter Try.func40, Try.ntmps40
        go_wp2_with (go_at_call 91; refine hm.mono ?_; rintro e w2 ⟨rfl, rfl⟩)
        go_ret
        exact ⟨rfl, h, ⟨rfl, rfl, rfl, Nat.le_refl _, fun _ _ _ => rfl⟩⟩
      · by_cases b2 : p < 0
        · go_enter Try.func40, Try.ntmps40
          go_wp2_with (go_at_call 91; refine hm.mono ?_; rintro e w2 ⟨rfl, rfl⟩)
          go_ret
          exact ⟨rfl, h, ⟨rfl, rfl, rfl, Nat.le_refl _, fun _ _ _ => rfl⟩⟩
        · have b3 : 64 < p := by omega
          go_enter Try.func40, Try.ntmps40
          go_wp2_with (go_at_call 91; refine hm.mono ?_; rintro e w2 ⟨rfl, rfl⟩)
          go_ret
          exact ⟨rfl, h, ⟨rfl, rfl, rfl, Nat.le_refl _, fun _ _ _ => rfl⟩⟩
    · have hE : crashE d n p = 0 := by rw [crashE, if_pos HM.out.symm, if_neg hbad]
      have hD : crashD d n p = { d with set := true, writes := n, prefix_ := p } := by rw [crashD, hE]; rfl
      rw [hE, hD]
      clear hE hD
      have b1 : 0 ≤ n := by omega
      have b2 : 0 ≤ p := by omega
      have b3 : p ≤ 64 := by omega
      have c2 := h.c2
      have c4 := h.c4
      have c5 := h.c5
      have f2 := h.free 2
      have f4 := h.free 4
      have f5 := h.free 5
      have hs := ((h.stored (d' := { d with set := true }) 2 (.bool true) rfl rfl rfl).stored (d' := { d with set := true, writes := n }) 4 (.int .i64 n) rfl rfl rfl).stored (d' := { d with set := true, writes := n, prefix_ := p }) 5 (.int .i64 p) rfl rfl rfl
      clear hbad
      go_enter Try.func40, Try.ntmps40
      go_wp2_with (go_at_call 91; refine hm.mono ?_; rintro e w2 ⟨rfl, rfl⟩)
      go_ret
      exact ⟨rfl, hs, ⟨rfl, rfl, rfl, by simp, fun k _ hk => by
        have hk' : k ≠ D := fun e => hk (by rw [e])
        rw [heap_setCell_other _ _ _ _ hk', heap_setCell_other _ _ _ _ hk', heap_setCell_other _ _ _ _ hk']⟩⟩
  · have hE : crashE d n p = m := by rw [crashE, if_neg (by rw [← hmm]; exact h0), hmm]
    have hD : crashD d n p = d := by rw [crashD, if_neg (by rw [hE]; exact h0)]
    rw [hE, hD]
    have hm0 : ((m : Int) == 0) = false := by rw [beq_eq_false_iff_ne]; omega
    clear hE hD hmm
    go_enter Try.func40, Try.ntmps40
    go_wp2_with (go_at_call 91; refine hm.mono ?_; rintro e w2 ⟨rfl, rfl⟩)
    go_ret
    exact ⟨rfl, h, ⟨rfl, rfl, rfl, Nat.le_refl _, fun _ _ _ => rfl⟩⟩

/-- A block of memory of a given type that holds these bytes, and no more. -/
def ArrT (w : World) (g : Nat) (t : TypeId) (l : List UInt8) : Prop := w.heap[g]? = some (.cells (bvals l).toArray t (0, 0))

theorem ArrT.bytes {w : World} {g : Nat} {t : TypeId} {l : List UInt8} (h : ArrT w g t l) : IsBytes w (some ⟨g, 0, none⟩) l := fun i hi =>
  ⟨g, 0, rfl, by rw [Nat.zero_add, cell_of_row w g i _ _ _ h]; simp [bvals, bval, hi]⟩
theorem ArrT.stored {w : World} {g : Nat} {t : TypeId} {l : List UInt8} (h : ArrT w g t l) (i : Nat) (x : UInt8) : ArrT (w.setCell ⟨g, i, none⟩ (.int .u8 (x.toNat : Int))) g t (l.set i x) := by
  unfold ArrT at *
  rw [heap_setCell_same w g i _ t _ h]
  simp [bvals, bval, List.map_set]
theorem ArrT.free {w : World} {g : Nat} {t : TypeId} {l : List UInt8} (h : ArrT w g t l) (i : Nat) : w.frozen? ⟨g, i, none⟩ = false := frozen_of_row w g i _ _ h
theorem ArrT.later {w w' : World} {g : Nat} {t : TypeId} {l : List UInt8} (h : ArrT w g t l) (hb : Below w.heap.size w w') : ArrT w' g t l := (hb.block g (lt_of_block h)).trans h
theorem ArrT.cell {w : World} {g : Nat} {t : TypeId} {l : List UInt8} (h : ArrT w g t l) (i : Nat) (hi : i < l.length) : w.cell? ⟨g, i, none⟩ = some (.int .u8 (l[i].toNat : Int)) := by
  rw [cell_of_row w g i _ _ _ h]
  simp [bvals, bval, hi]

theorem info132 : (Try.prog.info? 132).map (·.size) = some 64 := by kernel_rfl
theorem zeroV132 (w : World) : (zeroValue 132).run Try.prog w = .ok (arrV zero64) w := by kernel_rfl
theorem bvals_cell (l : List UInt8) : (bvals l).toArray.all (·.oneCell') = true := by
  rw [Array.all_eq_true_iff_forall_mem]
  intro v hv
  exact bvals_one l v (by simpa using hv)

/-- 'x = a', a an array of bytes. -/
theorem wpList_store_arr {w : World} {ops : Array Oper} {rest : List Oper} {o : Oper} {ac : Act} {Q : Exit → Act → World → Prop} (hgd : o.guard = none) (x y : Operand) (ho : o.op = .store 132 x y)
    (g : Nat) (old l : List UInt8) (hx : ac.eval x = .pointer (some ⟨g, 0, none⟩)) (hy : ac.eval y = arrV l) (hb : ArrT w g 132 old) (hold : old.length = 64) (hl : l.length = 64)
    (h : ∀ w', ArrT w' g 132 l → w.grownBy w' (some g) → wpList Try.prog ops Q rest (ac.put o.dst undef) w') : wpList Try.prog ops Q (o :: rest) ac w :=
  wpList_store_row hgd 132 x y ho g _ hx hy 132 _ hb (by rw [info132]; simp [bvals, hl]) (by simp [bvals, hold, hl]) (bvals_cell l) (h _ (setRow_heap w g _ _ _ _ hb) (grown_setRow _))

def ReadPost (d : Dev) (i : Int) (w : World) (e : Ending) (w' : World) : Prop :=
  (mayE d i ≠ 0 ∧ e = .returned (.tuple #[.slice none 0 0, .int .i64 (mayE d i : Nat)]) ∧ w = w') ∨
  (mayE d i = 0 ∧ ∃ g, e = .returned (.tuple #[.slice (some ⟨g, 0, none⟩) 64 64, .int .i64 0]) ∧ ArrT w' g 132 (d.mem i.toNat) ∧ (d.mem i.toNat).length = 64 ∧ w.heap.size ≤ g ∧ Below w.heap.size w w')

theorem DevAt.read {w : World} {D b : Nat} {d : Dev} (h : DevAt w D b d) (i : Nat) (hi : i < d.blocks) : (Instr.lookup 128 (.map (some b)) (.int .i64 (i : Int)) false).run Try.prog w = .ok (arrV (d.mem i)) w ∧ (d.mem i).length = 64 := by
  obtain ⟨_, ⟨M, h2, h3⟩, _⟩ := h
  obtain ⟨h4, h5⟩ := h3 i hi
  have := (h2.run_lookup Try.underlying128 Try.underlying3 _ (zeroV132 w) (i : Int)).1
  rw [h4] at this
  exact ⟨this, h5⟩

set_option maxRecDepth 100000 in
theorem read_dev (D b : Nat) (d : Dev) (i : Int) (w : World) (h : DevAt w D b d) :
    Calls Try.prog 45 #[.pointer (some ⟨D, 0, none⟩), .int .i64 i] w (ReadPost d i w) := by
  have hm := may_dev D b d i w h
  obtain ⟨m, hmm⟩ : ∃ m, m = mayE d i := ⟨_, rfl⟩
  rw [← hmm] at hm
  by_cases h0 : m = 0
  · have hi : 0 ≤ i ∧ i < (d.blocks : Int) := by
      rw [h0] at hmm
      unfold mayE at hmm
      split at hmm
      · cases hmm
      · split at hmm
        · cases hmm
        · omega
    obtain ⟨n, rfl⟩ := Int.eq_ofNat_of_zero_le hi.1
    obtain ⟨hr, hl⟩ := h.read n (by omega)
    subst h0
    have c1 := h.c1
    have HM := Lib.hid hmm
    clear hmm
    obtain ⟨L, hL⟩ : ∃ L, L = d.mem n := ⟨_, rfl⟩
    rw [← hL] at hr hl
    have HL := Lib.hid hL
    clear hL
    have ha : ArrT (w.alloc (.cells (bvals zero64).toArray 132)) w.heap.size 132 zero64 := heap_alloc_new _ _
    go_enter Try.func45, Try.ntmps45
    go_wp2_with (first
      | (go_at_call 91; refine hm.mono ?_; rintro e w2 ⟨rfl, rfl⟩)
      | (refine wpList_store_arr rfl (.tmp 7) (.tmp 19) rfl w.heap.size zero64 L rfl rfl ha rfl hl ?_; intro w4 ha4 hg4))
    go_ret2
    refine .inr ⟨HM.out.symm, w.heap.size, rfl, ?_, ?_, Nat.le_refl _, ?_⟩
    · rw [Int.toNat_natCast, ← HL.out]; exact ha4
    · rw [Int.toNat_natCast, ← HL.out]; exact hl
    · exact ((Below.refl _ w).alloc (Nat.le_refl _) _).grown hg4 (by simp) (fun k hk => by cases hk; exact Nat.le_refl _)
  · have hm0 : ((m : Int) == 0) = false := by rw [beq_eq_false_iff_ne]; omega
    have HM := Lib.hid hmm
    clear hmm
    go_enter Try.func45, Try.ntmps45
    go_wp2_with (go_at_call 91; refine hm.mono ?_; rintro e w2 ⟨rfl, rfl⟩)
    go_ret2
    exact .inl ⟨by rw [← HM.out]; exact h0, by rw [← HM.out]; rfl, rfl⟩

end Go.Proofs.Ytdlbjllgdikadaa

namespace Go.Proofs.Ytdlbjllgdikadaa
open Go.RowKit

/-- w' is w, but for the blocks of T, and new blocks. -/
structure Aside (T : List Nat) (w w' : World) : Prop where
  os : w'.os = w.os
  tape : w'.tape = w.tape
  output : w'.output = w.output
  size : w.heap.size ≤ w'.heap.size
  block : ∀ k, k < w.heap.size → k ∉ T → w'.heap[k]? = w.heap[k]?

variable {T : List Nat} {w w' w2 : World}
theorem Aside.refl (T : List Nat) (w : World) : Aside T w w := ⟨rfl, rfl, rfl, Nat.le_refl _, fun _ _ _ => rfl⟩
theorem Aside.trans (h : Aside T w w') (k : Aside T w' w2) : Aside T w w2 :=
  ⟨k.os.trans h.os, k.tape.trans h.tape, k.output.trans h.output, Nat.le_trans h.size k.size, fun i hi hn => (k.block i (Nat.lt_of_lt_of_le hi h.size) hn).trans (h.block i hi hn)⟩
theorem Aside.mono {T' : List Nat} (h : Aside T w w') (hT : ∀ k, k ∈ T → k ∈ T') : Aside T' w w' :=
  ⟨h.os, h.tape, h.output, h.size, fun i hi hn => h.block i hi (fun e => hn (hT i e))⟩
theorem Aside.below (T : List Nat) (h : Below w.heap.size w w') : Aside T w w' := ⟨h.os, h.tape, h.output, h.size, fun i hi _ => h.block i hi⟩
theorem Aside.grown {row : Option Nat} (h : w.grownBy w' row) (hT : ∀ k, row = some k → k < w.heap.size → k ∈ T) : Aside T w w' :=
  ⟨h.os, h.tape, h.output, h.size, fun i hi hn => h.block i hi (fun e => hn (hT i e.symm hi))⟩
/-- All that it turned is new. -/
theorem Aside.toBelow {B : Nat} (h : Aside T w w') (hT : ∀ k, k ∈ T → B ≤ k) (hB : B ≤ w.heap.size) : Below B w w' :=
  ⟨h.os, h.tape, h.output, h.size, fun i hi => h.block i (Nat.lt_of_lt_of_le hi hB) (fun e => absurd (hT i e) (by omega))⟩
theorem Aside.drew (h : Aside T w w') : Aside T w w'.drew := ⟨h.os, h.tape, h.output, h.size, h.block⟩
theorem Aside.setCell (h : Aside T w w') (p : Addr) (u : Value) (hp : p.block < w.heap.size → p.block ∈ T) : Aside T w (w'.setCell p u) :=
  ⟨h.os, h.tape, h.output, by simpa using h.size, fun i hi hn => by
    have hne : i ≠ p.block := fun e => hn (e ▸ hp (e ▸ hi))
    rw [heap_setCell_other _ _ _ _ hne]
    exact h.block i hi hn⟩
theorem Aside.put (h : Aside T w w') {row : Option Nat} (hg : w'.grownBy w2 row) (hr : ∀ k, row = some k → w.heap.size ≤ k ∨ k ∈ T) : Aside T w w2 :=
  ⟨hg.os.trans h.os, hg.tape.trans h.tape, hg.output.trans h.output, Nat.le_trans h.size hg.size, fun i hi hn =>
    (hg.block i (Nat.lt_of_lt_of_le hi h.size) (fun e => by rcases hr i e.symm with h1 | h1; exact absurd h1 (by omega); exact hn h1)).trans (h.block i hi hn)⟩
theorem Aside.alloc (h : Aside T w w') (o : Obj) : Aside T w (w'.alloc o) := h.trans (Aside.below T ((Below.refl _ _).alloc (Nat.le_refl _) _))

theorem IsBytes.aside {a : Option Addr} {l : List UInt8} (h : IsBytes w a l) (k : Aside T w w') (hT : ∀ b off, a = some ⟨b, off, none⟩ → b ∉ T) : IsBytes w' a l := by
  intro i hi
  obtain ⟨b, off, e, hc⟩ := h i hi
  refine ⟨b, off, e, ?_⟩
  rw [World.cell?_of_block (a := ⟨b, off + i, none⟩) (k.block b (World.block_lt_of_cell? w _ hc) (hT b off e))]
  exact hc
theorem DevAt.aside {D b : Nat} {d : Dev} (h : DevAt w D b d) (k : Aside T w w') (hD : D ∉ T) (hb : b ∉ T) : DevAt w' D b d := by
  have hl := h.lt
  obtain ⟨h1, ⟨M, ⟨es, c, h2, h22⟩, h3⟩, h4⟩ := h
  exact ⟨(k.block D hl hD).trans h1, ⟨M, ⟨es, c, (k.block b (Array.getElem?_eq_some_iff.1 h2).1 hb).trans h2, h22⟩, h3⟩, h4⟩
theorem ArrT.aside {g : Nat} {t : TypeId} {l : List UInt8} (h : ArrT w g t l) (k : Aside T w w') (hg : g ∉ T) : ArrT w' g t l := (k.block g (lt_of_block h) hg).trans h

end Go.Proofs.Ytdlbjllgdikadaa
