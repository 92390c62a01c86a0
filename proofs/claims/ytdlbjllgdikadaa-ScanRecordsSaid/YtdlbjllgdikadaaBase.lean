/- What the walks say of bytes: slices that read as bytes, slices that the call itself made. -/
import Derived.Test.YtdlbjllgdikadaaRows
import Derived.WalkKit
import Derived.WalkLawsBesides
import Derived.WalkSpells
import Derived.Lib.Hide
import Derived.Laws.CopyOwn
import Derived.Laws.AppendOwnNone
import Derived.Laws.IdiomStrings
import Derived.ArgAppend
import Derived.Lib.SlBytesConst
namespace Go.Proofs.Ytdlbjllgdikadaa
open Go.RowKit

theorem ret_int {k : IntKind} {a b : Int} (h : a = b) : Ending.returned (.int k a) = .returned (.int k b) := by rw [h]
theorem ret_bool {a b : Bool} (h : a = b) : Ending.returned (.bool a) = .returned (.bool b) := by rw [h]

/-- A number, however great, as a place among n. -/
theorem idx_mod (x m : Int) (n : Nat) (hm : m = (n : Int)) (hn : 0 < n) : ∃ k : Nat, (IntKind.u64.wrap x).tmod m = (k : Int) ∧ k < n := by
  subst hm
  have h0 : 0 ≤ IntKind.u64.wrap x := by rw [IntKind.wrap_u64]; exact Int.emod_nonneg _ (by decide)
  obtain ⟨y, hy⟩ := Int.eq_ofNat_of_zero_le h0
  rw [hy]
  exact ⟨y % n, rfl, Nat.mod_lt _ hn⟩

def bval (b : UInt8) : Value := .int .u8 (b.toNat : Int)
def bvals (l : List UInt8) : List Value := l.map bval

theorem bvals_length (l : List UInt8) : (bvals l).length = l.length := by simp [bvals]
theorem bvals_get (l : List UInt8) (i : Nat) (u : Value) (h : (bvals l)[i]? = some u) : ∃ hi : i < l.length, u = .int .u8 (l[i].toNat : Int) := by
  simp only [bvals, List.getElem?_map] at h
  cases hq : l[i]? with
  | none => simp [hq] at h
  | some x =>
    rw [hq] at h
    obtain ⟨hi, rfl⟩ := List.getElem?_eq_some_iff.1 hq
    exact ⟨hi, by simpa [bval] using h.symm⟩
theorem bvals_one (l : List UInt8) : ∀ u ∈ bvals l, u.oneCell' = true := by
  intro u hu
  simp only [bvals, List.mem_map] at hu
  obtain ⟨x, _, rfl⟩ := hu
  rfl

/-- A slice's first cells hold bytes. -/
def IsBytes (w : World) (a : Option Addr) (l : List UInt8) : Prop :=
  ∀ i (h : i < l.length), ∃ b off, a = some ⟨b, off, none⟩ ∧ w.cell? ⟨b, off + i, none⟩ = some (.int .u8 (l[i].toNat : Int))

theorem IsBytes.nil (w : World) (a : Option Addr) : IsBytes w a [] := fun i h => absurd h (Nat.not_lt_zero i)

theorem IsBytes.lt {w : World} {a : Option Addr} {l : List UInt8} (h : IsBytes w a l) {b off : Nat} (ha : a = some ⟨b, off, none⟩) (hl : 0 < l.length) : b < w.heap.size := by
  obtain ⟨b', off', e, hc⟩ := h 0 hl
  rw [ha] at e
  cases e
  exact World.block_lt_of_cell? w _ hc

theorem IsBytes.later {w w' : World} {a : Option Addr} {l : List UInt8} (h : IsBytes w a l) (hb : Below w.heap.size w w') : IsBytes w' a l := by
  intro i hi
  obtain ⟨b, off, e, hc⟩ := h i hi
  exact ⟨b, off, e, (hb.cell (p := ⟨b, off + i, none⟩) (World.block_lt_of_cell? w _ hc)).trans hc⟩

theorem IsBytes.alloc {w : World} {a : Option Addr} {l : List UInt8} (h : IsBytes w a l) (o : Obj) : IsBytes (w.alloc o) a l :=
  h.later ((Below.refl _ _).alloc (Nat.le_refl _) o)

theorem IsBytes.cell {w : World} {b off : Nat} {l : List UInt8} (h : IsBytes w (some ⟨b, off, none⟩) l) (i : Nat) (hi : i < l.length) :
    w.cell? ⟨b, off + i, none⟩ = some (.int .u8 (l[i].toNat : Int)) := by
  obtain ⟨b', off', e, hc⟩ := h i hi
  cases e
  exact hc

theorem IsBytes.cells {w : World} {ad : Addr} {l : List UInt8} (h : IsBytes w (some ad) l) : ∀ j u, (bvals l)[j]? = some u → w.cell? (ad.add j) = some u := by
  intro j u hu
  obtain ⟨hi, rfl⟩ := bvals_get l j u hu
  obtain ⟨b, off, e, hc⟩ := h j hi
  cases e
  rw [Addr.add_lit]
  exact hc

theorem IsBytes.take {w : World} {a : Option Addr} {l : List UInt8} (h : IsBytes w a l) (n : Nat) : IsBytes w a (l.take n) := by
  intro i hi
  have hi' : i < l.length := by rw [List.length_take] at hi; omega
  obtain ⟨b, off, e, hc⟩ := h i hi'
  exact ⟨b, off, e, by rw [List.getElem_take]; exact hc⟩

/-- 'x[n:]'. -/
theorem IsBytes.drop {w : World} {a : Option Addr} {l : List UInt8} (h : IsBytes w a l) (n cap : Nat) (hc : l.length ≤ cap) : IsBytes w (if cap = n then a else a.map (·.add n)) (l.drop n) := by
  intro i hi
  rw [List.length_drop] at hi
  obtain ⟨b, off, e, hcell⟩ := h (n + i) (by omega)
  rw [if_neg (by omega), e]
  exact ⟨b, off + n, by simp [Addr.add_lit], by rw [List.getElem_drop, Nat.add_assoc]; exact hcell⟩

/-- A slice of bytes that the call itself made (in blocks from 'base' on). -/
def OwnB (w : World) (base : Nat) (v : Value) (l : List UInt8) : Prop := w.ownsRow base 5 1 v l.length (bvals l)

theorem OwnB.slice {w : World} {base : Nat} {v : Value} {l : List UInt8} (h : OwnB w base v l) :
    ∃ a cap, v = .slice a l.length cap ∧ IsBytes w a l ∧ l.length ≤ cap ∧ cap ≤ maxLen ∧ (∀ x, a = some x → ∃ g, x = ⟨g, 0, none⟩ ∧ base ≤ g ∧ g < w.heap.size) ∧ (a = none → l = [] ∧ cap = 0) := by
  rcases h.2 with ⟨rfl, hn⟩ | ⟨g, cap, cur, rfl, hb, hg, hnc, hcm, hcs, htake⟩
  · have : l = [] := List.length_eq_zero_iff.1 hn
    subst this
    exact ⟨none, 0, rfl, IsBytes.nil _ _, Nat.zero_le _, Nat.zero_le _, fun x hx => by (cases hx), fun _ => ⟨rfl, rfl⟩⟩
  · refine ⟨some ⟨g, 0, none⟩, cap, rfl, ?_, hnc, hcm, fun x hx => ⟨g, by cases hx; rfl, hb, (Array.getElem?_eq_some_iff.1 hg).1⟩, fun hx => by cases hx⟩
    intro i hi
    refine ⟨g, 0, rfl, ?_⟩
    rw [Nat.zero_add, World.ownsRow.cellAt h i (by omega)]
    simp [bvals, bval, hi]

theorem OwnB.later {w w' : World} {base : Nat} {v : Value} {l : List UInt8} (h : OwnB w base v l) (hb : Below w.heap.size w w') : OwnB w' base v l := by
  refine ⟨h.1, ?_⟩
  rcases h.2 with hn | ⟨g, cap, cur, rfl, hbg, hg, rest⟩
  · exact .inl hn
  · exact .inr ⟨g, cap, cur, rfl, hbg, (hb.block g (Array.getElem?_eq_some_iff.1 hg).1).trans hg, rest⟩

theorem OwnB.mono {w : World} {base base' : Nat} {v : Value} {l : List UInt8} (h : OwnB w base v l) (hb : base' ≤ base) : OwnB w base' v l := by
  refine ⟨h.1, ?_⟩
  rcases h.2 with hn | ⟨g, cap, cur, rfl, hbg, rest⟩
  · exact .inl hn
  · exact .inr ⟨g, cap, cur, rfl, Nat.le_trans hb hbg, rest⟩

theorem OwnB.blk {w : World} {base : Nat} {v : Value} {l : List UInt8} (h : OwnB w base v l) : ∀ k, v.ownBlock = some k → base ≤ k := fun k hk => (World.ownsRow.lt h k hk).1

/-- What a contract leaves, handed on: a callee's frame over the caller's. -/
theorem below_call {B : Nat} {w w1 w2 : World} (h : Below B w w1) (hB : B ≤ w.heap.size) (k : Below w1.heap.size w1 w2) : Below B w w2 :=
  h.trans (k.mono (Nat.le_trans hB h.size))

theorem OwnB.stored {w : World} {base g n cap : Nat} {l : List UInt8} (h : OwnB w base (.slice (some ⟨g, 0, none⟩) n cap) l) (hn : n = l.length) (i : Nat) (x : UInt8) :
    OwnB (w.setCell ⟨g, i, none⟩ (.int .u8 (x.toNat : Int))) base (.slice (some ⟨g, 0, none⟩) n cap) (l.set i x) := by
  subst hn
  have h2 := (World.ownsRow.stored h i (.int .u8 (x.toNat : Int))).1
  unfold OwnB
  rw [List.length_set]
  have e : bvals (l.set i x) = (bvals l).set i (.int .u8 (x.toNat : Int)) := by simp [bvals, bval, List.map_set]
  rw [e]
  exact h2

theorem OwnB.bytes {w : World} {base n cap : Nat} {a : Option Addr} {l : List UInt8} (h : OwnB w base (.slice a n cap) l) : IsBytes w a l := by
  obtain ⟨a2, c2, e, hb, _⟩ := h.slice
  cases e
  exact hb

theorem OwnB.free {w : World} {base g n cap : Nat} {l : List UInt8} (h : OwnB w base (.slice (some ⟨g, 0, none⟩) n cap) l) (hn : n = l.length) (i : Nat) : w.frozen? ⟨g, i, none⟩ = false := by
  subst hn
  exact World.ownsRow.frozenAt h i

theorem OwnB.nil (w : World) (base : Nat) : OwnB w base (.slice none 0 0) [] := World.ownsRow_nil w base 5 1

theorem info5 : (Try.prog.info? 5).map (fun i => (i.zero, i.size, i.bytes)) = some (some (.int .u8 0), 1, 1) := by kernel_rfl

/-- 'append(v, x...)', v the call's own, x whatever reads as bytes. -/
theorem wpList_append_bytes {w : World} {ops : Array Oper} {rest : List Oper} {o : Oper} {a : Act} {Q : Exit → Act → World → Prop} (hgd : o.guard = none) (s x : Operand)
    (ho : o.op = .call { callee := .builtin .append, args := #[s, x], argTypes := #[22, 22] })
    (base : Nat) (v : Value) (l : List UInt8) (hs : a.eval s = v) (hown : OwnB w base v l)
    (ao : Option Addr) (m c : Nat) (src : List UInt8) (hx : a.eval x = .slice ao m c) (hm : m = src.length) (hnone : ao = none → m = 0 ∧ c = 0) (hsrc : IsBytes w ao src)
    (hlen : l.length + src.length ≤ 140737488355328) (hbase : base ≤ w.heap.size)
    (h : ∀ v' w', OwnB w' base v' (l ++ src) → w.grownBy w' v.ownBlock → wpList Try.prog ops Q rest (a.put o.dst v') w') : wpList Try.prog ops Q (o :: rest) a w := by
  obtain ⟨i0, hi, hz0, hz1, hz2⟩ := info_parts info5
  cases ao with
  | none =>
    obtain ⟨hm0, hc0⟩ := hnone rfl
    have hs0 : src = [] := List.length_eq_zero_iff.1 (by omega)
    subst hs0
    subst hc0
    subst hm0
    exact wpList_append_own_none hgd s x 22 ho base 5 i0 1 Try.underlying22 hi v l.length (bvals l) hs hown hx
      (h v w (by simpa using hown) ⟨rfl, rfl, rfl, Nat.le_refl _, fun _ _ _ => rfl⟩)
  | some ad =>
    subst hm
    refine wpList_append_own w hgd s x 22 ho base 5 i0 (.int .u8 0) 1 1 Try.underlying22 hi hz0 hz1 hz2 rfl (by decide) v l.length (bvals l) hs hown ad src.length c (bvals src) hx (by rw [bvals_length]; omega)
      hsrc.cells (bvals_one src) (by unfold maxLen; omega) (by omega) hbase ?_
    intro v' w' h1 h2 _
    exact h v' w' (by unfold OwnB; simpa [bvals] using h1) h2

/-- 'append(x, y...)', x whatever reads as bytes, without room. -/
theorem wpList_append_full {w : World} {ops : Array Oper} {rest : List Oper} {o : Oper} {a : Act} {Q : Exit → Act → World → Prop} (hgd : o.guard = none) (s x : Operand)
    (ho : o.op = .call { callee := .builtin .append, args := #[s, x], argTypes := #[22, 22] })
    (ao : Option Addr) (n cap : Nat) (l : List UInt8) (hs : a.eval s = .slice ao n cap) (hn : n = l.length) (hnone : ao = none → n = 0 ∧ cap = 0) (hl : IsBytes w ao l)
    (ad : Addr) (m c : Nat) (src : List UInt8) (hx : a.eval x = .slice (some ad) m c) (hm : m = src.length) (hsrc : IsBytes w (some ad) src)
    (hfull : cap < n + m) (hlen : l.length + src.length ≤ 140737488355328)
    (h : ∀ v' w', OwnB w' w.heap.size v' (l ++ src) → w.grownBy w' none → wpList Try.prog ops Q rest (a.put o.dst v') w') : wpList Try.prog ops Q (o :: rest) a w := by
  obtain ⟨i0, hi, hz0, hz1, hz2⟩ := info_parts info5
  subst hn
  subst hm
  refine wpList_append_grows w hgd s x 22 ho 5 i0 (.int .u8 0) 1 1 Try.underlying22 hi hz0 hz1 hz2 rfl (by decide) ao l.length cap (bvals l) hs hnone (by rw [bvals_length]; omega)
    (fun b hb => by subst hb; exact hl.cells) ad src.length c (bvals src) hx (by rw [bvals_length]; omega) hsrc.cells (bvals_one src) hfull (by unfold maxLen; omega) (by omega) ?_
  intro v' w' h1 h2
  exact h v' w' (by unfold OwnB; simpa [bvals] using h1) h2

/-- A block of bytes that has just been laid. -/
theorem IsBytes.made {w : World} {cs : Array Value} {t : TypeId} {l : List UInt8} (h : cs = (bvals l).toArray) : IsBytes (w.alloc (.cells cs t)) (some ⟨w.heap.size, 0, none⟩) l := by
  intro i hi
  refine ⟨w.heap.size, 0, rfl, ?_⟩
  rw [Nat.zero_add, World.cell?_alloc_new, h]
  simp [bvals, bval, hi]

/-- '[]byte("..")' of a constant. -/
@[go_sem] theorem kc22 (w : World) (C : Array Value) (n c : Nat) :
    (convert 22 22 (.slice (some ⟨w.heap.size, 0, none⟩) n c)).run Try.prog (w.alloc (.cells C 5)) = .ok (.slice (some ⟨w.heap.size, 0, none⟩) n c) (w.alloc (.cells C 5 (C.size, C.size + 1))) :=
  Lib.run_convert_bytes_const (P := Try.prog) w 22 5 C n c Try.underlying22 Try.underlying5

theorem IsBytes.marked {w : World} {cs : Array Value} {t : TypeId} {fr : Nat × Nat} {l : List UInt8} (h : cs = (bvals l).toArray) : IsBytes (w.alloc (.cells cs t fr)) (some ⟨w.heap.size, 0, none⟩) l := by
  intro i hi
  refine ⟨w.heap.size, 0, rfl, ?_⟩
  rw [Nat.zero_add, World.cell?_alloc_mark, h]
  simp [bvals, bval, hi]

/-- 'string(x)'. -/
theorem conv_text {w : World} {a : Option Addr} {n cap : Nat} {l : List UInt8} (h : IsBytes w a l) (hn : n = l.length) :
    (convert 22 9 (.slice a n cap)).run Try.prog w = .ok (.string ⟨l.toArray⟩) w := by
  subst hn
  cases a with
  | some ad =>
    exact run_convert_bytes_back (P := Try.prog) w 22 9 5 ad cap l Try.underlying22 Try.underlying5 Try.underlying9 (fun j hj => by
      obtain ⟨b, off, e, hc⟩ := h j hj
      cases e
      rw [Addr.add_lit]; exact hc)
  | none =>
    have hl : l = [] := by
      cases l with
      | nil => rfl
      | cons x r => obtain ⟨b, off, e, _⟩ := h 0 (by simp); cases e
    subst hl
    exact run_convert_bytes_nil (P := Try.prog) w 22 5 Try.underlying22 Try.underlying5 0 cap 9 Try.underlying9

end Go.Proofs.Ytdlbjllgdikadaa
