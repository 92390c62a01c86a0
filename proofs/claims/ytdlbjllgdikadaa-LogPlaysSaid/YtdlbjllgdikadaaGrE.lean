/- The walks of bytes.Clone, bytes.Equal and of segment's small functions. Slices of blocks: such as the call made (OwnBs), such as it reads (IsBs). segment.Split. The document's Many, Split, Same, SameAll. The document's Same and SameAll. -/
import Derived.Test.YtdlbjllgdikadaaGrC
import Derived.Lib.OwnKind
import Derived.Test.YtdlbjllgdikadaaGrA
namespace Go.Proofs.Ytdlbjllgdikadaa
open Go.RowKit

@[go_sem] theorem eql22 (w : World) (a : Option Addr) (n c n' c' : Nat) : (binOp .eql 22 (.slice a n c) (.slice none n' c')).run Try.prog w = .ok (.bool a.isNone) w :=
  Lib.run_eql_slice_nil w 22 5 a n c n' c' Try.underlying22

set_option maxRecDepth 100000 in
theorem clone_calls (a : Option Addr) (l : List UInt8) (cap : Nat) (w : World) (hl : l.length ≤ 70368744177664) (hn : a = none → l.length = 0 ∧ cap = 0) (hb : IsBytes w a l) :
    Calls Try.prog 89 #[.slice a l.length cap] w fun e w' => ∃ v, e = .returned v ∧ OwnB w' w.heap.size v l ∧ Below w.heap.size w w' := by
  cases a with
  | none =>
    obtain ⟨h1, h2⟩ := hn rfl
    have hl0 : l = [] := List.length_eq_zero_iff.1 h1
    subst hl0
    subst h2
    go_enter Try.func89, Try.ntmps89
    go_wp2
    go_ret
    exact ⟨_, rfl, OwnB.nil _ _, Below.refl _ _⟩
  | some ad =>
    go_enter Try.func89, Try.ntmps89
    go_wp2_with (at_builtin; refine wpList_append_bytes rfl (.tmp 5) (.tmp 6) rfl w.heap.size (.slice (some ⟨w.heap.size, 0, none⟩) 0 0) [] rfl (OwnB.made w w.heap.size (Nat.le_refl _)) (some ad) l.length cap l rfl rfl (fun h => nomatch h) (hb.alloc _) (by simp; omega) (by simp) ?_; intro v1 w2 hown1 hgr1)
    go_ret
    rw [List.nil_append] at hown1
    refine ⟨v1, rfl, hown1, ?_⟩
    exact ((Below.refl _ w).alloc (Nat.le_refl _) _).grown hgr1 (by simp) (fun j hj => by simp [Value.ownBlock] at hj; omega)

theorem equal_calls (a1 a2 : Option Addr) (l1 l2 : List UInt8) (c1 c2 : Nat) (w : World) (h1 : IsBytes w a1 l1) (h2 : IsBytes w a2 l2) :
    Calls Try.prog 90 #[.slice a1 l1.length c1, .slice a2 l2.length c2] w fun e w' => e = .returned (.bool (l1 == l2)) ∧ w = w' := by
  have e1 := conv_text h1 (n := l1.length) (cap := c1) rfl
  have e2 := conv_text h2 (n := l2.length) (cap := c2) rfl
  go_enter Try.func90, Try.ntmps90
  go_wp2
  go_ret
  exact ⟨ret_bool (by rfl), rfl⟩

def kindB (k : UInt8) : Bool := k == 1 || k == 2

theorem isKind_calls (k : UInt8) (w : World) :
    Calls Try.prog 87 #[.int .u8 (k.toNat : Int)] w fun e w' => e = .returned (.bool (kindB k)) ∧ w = w' := by
  have hk := k.toNat_lt
  by_cases h1 : k = 1
  · subst h1
    go_enter Try.func87, Try.ntmps87
    go_wp2
    go_ret
    exact ⟨rfl, rfl⟩
  · have e1 : ((k.toNat : Int) == 1) = false := by
      rw [beq_eq_false_iff_ne]; intro h; exact h1 (UInt8.toNat.inj (by simp; omega))
    by_cases h2 : k = 2
    · subst h2
      go_enter Try.func87, Try.ntmps87
      go_wp2
      go_ret
      exact ⟨rfl, rfl⟩
    · have e2 : ((k.toNat : Int) == 2) = false := by
        rw [beq_eq_false_iff_ne]; intro h; exact h2 (UInt8.toNat.inj (by simp; omega))
      go_enter Try.func87, Try.ntmps87
      go_wp2
      go_ret
      exact ⟨ret_bool (by simp [kindB, h1, h2]), rfl⟩

/-- How many blocks so many bytes have. -/
def manyN (n : Nat) : Nat := if n = 0 then 1 else (n - 1) / 48 + 1

theorem many_calls (n : Nat) (hn : n ≤ 9223372036854775807) (w : World) :
    Calls Try.prog 27 #[.int .i64 (n : Int)] w fun e w' => e = .returned (.int .i64 (manyN n : Nat)) ∧ w = w' := by
  by_cases h0 : n = 0
  · subst h0
    go_enter Try.func27, Try.ntmps27
    go_wp2
    go_ret
    exact ⟨rfl, rfl⟩
  · go_enter Try.func27, Try.ntmps27
    go_wp2
    all_goals
      go_ret
      exact ⟨ret_int (by unfold manyN; rw [if_neg h0]; omega), rfl⟩

theorem start_calls (s : Nat) (hs : s < 18446744073709551616) (w : World) :
    Calls Try.prog 29 #[.int .u64 (s : Int)] w fun e w' => e = .returned (.int .u64 ((s / 8 * 8 : Nat) : Int)) ∧ w = w' := by
  go_enter Try.func29, Try.ntmps29
  go_wp2
  go_ret
  exact ⟨ret_int (by simp; omega), rfl⟩

theorem place_neg (s n : Int) (hn : n < 1) (w : World) :
    Calls Try.prog 30 #[.int .u64 s, .int .i64 n] w fun e w' => e = .returned (.tuple #[.int .i64 0, .int .i64 2]) ∧ w = w' := by
  go_enter Try.func30, Try.ntmps30
  go_wp2
  go_ret2
  exact ⟨rfl, rfl⟩

theorem place_pos (s m : Nat) (hs : s < 18446744073709551616) (hm : 1 ≤ m) (hm2 : m ≤ 9223372036854775807) (w : World) :
    Calls Try.prog 30 #[.int .u64 (s : Int), .int .i64 (m : Int)] w fun e w' => e = .returned (.tuple #[.int .i64 ((s % m : Nat) : Int), .int .i64 0]) ∧ w = w' := by
  have h0 : (m : Int) ≠ 0 := by omega
  have h1 : (s : Int) % (m : Int) ≤ 9223372036854775807 := by
    have := Int.emod_lt_of_pos (s : Int) (show (0 : Int) < (m : Int) by omega)
    omega
  have h2 : 0 ≤ (s : Int) % (m : Int) := Int.emod_nonneg _ h0
  go_enter Try.func30, Try.ntmps30
  go_wp2
  go_ret2
  exact ⟨by simp, rfl⟩

/-- A block. -/
structure Blk where
  serial : Nat
  kind : UInt8
  first : Bool
  last : Bool
  body : List UInt8

def Blk.cells (b : Blk) (a : Option Addr) (cap : Nat) : Array Value :=
  #[.int .u64 (b.serial : Int), .int .u8 (b.kind.toNat : Int), .bool b.first, .bool b.last, .slice a b.body.length cap]

def mayB (b : Blk) : Bool := decide (b.serial ≤ 1099511627776) && kindB b.kind && decide (b.body.length ≤ 48) && (b.last || b.body.length == 48)

set_option maxRecDepth 100000 in
theorem may_calls (b : Blk) (a : Option Addr) (cap : Nat) (w : World) (hs : b.serial < 18446744073709551616) (hl : b.body.length ≤ 9223372036854775807) :
    Calls Try.prog 33 #[.agg (b.cells a cap)] w fun e w' => e = .returned (.bool (mayB b)) ∧ Below w.heap.size w w' := by
  obtain ⟨s, k, f, la, body⟩ := b
  simp only [Blk.cells] at *
  have hB : Below w.heap.size w (w.alloc (.cells (Blk.cells ⟨s, k, f, la, body⟩ a cap) 43)) := (Below.refl _ _).alloc (Nat.le_refl _) _
  obtain ⟨q, hq⟩ : ∃ q, q = kindB k := ⟨_, rfl⟩
  have hk : ∀ W, Calls Try.prog 87 #[.int .u8 (k.toNat : Int)] W fun e w' => e = .returned (.bool q) ∧ W = w' := fun W => by rw [hq]; exact isKind_calls k W
  have Hq : Hid (kindB k = q) := hq.symm
  clear hq
  by_cases h1 : s ≤ 1099511627776
  · cases q with
    | false =>
      go_enter Try.func33, Try.ntmps33
      go_wp2_with (go_at_call 87; refine (hk _).mono ?_; rintro e w2 ⟨rfl, rfl⟩)
      go_ret
      exact ⟨ret_bool (by simp [mayB, Hq.out]), hB⟩
    | true =>
      by_cases h3 : body.length ≤ 48
      · cases la with
        | true =>
          go_enter Try.func33, Try.ntmps33
          go_wp2_with (go_at_call 87; refine (hk _).mono ?_; rintro e w2 ⟨rfl, rfl⟩)
          go_ret
          exact ⟨ret_bool (by simp [mayB, Hq.out, h1, h3]), hB⟩
        | false =>
          by_cases h4 : body.length = 48
          · have e4 : ((body.length : Int) == 48) = true := by rw [beq_iff_eq]; omega
            have H4 := Lib.hid h4
            clear h4
            go_enter Try.func33, Try.ntmps33
            go_wp2_with (go_at_call 87; refine (hk _).mono ?_; rintro e w2 ⟨rfl, rfl⟩)
            go_ret
            exact ⟨ret_bool (by simp [mayB, Hq.out, h1, H4.out]), hB⟩
          · have e4 : ((body.length : Int) == 48) = false := by rw [beq_eq_false_iff_ne]; omega
            go_enter Try.func33, Try.ntmps33
            go_wp2_with (go_at_call 87; refine (hk _).mono ?_; rintro e w2 ⟨rfl, rfl⟩)
            go_ret
            exact ⟨ret_bool (by simp [mayB, Hq.out, h1, h4]), hB⟩
      · go_enter Try.func33, Try.ntmps33
        go_wp2_with (go_at_call 87; refine (hk _).mono ?_; rintro e w2 ⟨rfl, rfl⟩)
        go_ret
        exact ⟨ret_bool (by simp [mayB, h3]), hB⟩
  · go_enter Try.func33, Try.ntmps33
    go_wp2_with (go_at_call 87; refine (hk _).mono ?_; rintro e w2 ⟨rfl, rfl⟩)
    go_ret
    exact ⟨ret_bool (by simp [mayB, h1]), hB⟩
end Go.Proofs.Ytdlbjllgdikadaa

namespace Go.Proofs.Ytdlbjllgdikadaa
open Go.RowKit

theorem info43 : (Try.prog.info? 43).map (fun i => (i.zero, i.size, i.bytes)) = some (some (.agg #[.int .u64 0, .int .u8 0, .bool false, .bool false, .slice none 0 0]), 5, 40) := by kernel_rfl

theorem Blk.cells_size (b : Blk) (a : Option Addr) (c : Nat) : (b.cells a c).size = 5 := rfl

def cellsOf : List (Blk × Option Addr × Nat) → List Value
  | [] => []
  | p :: r => (p.1.cells p.2.1 p.2.2).toList ++ cellsOf r

theorem cellsOf_append (r s : List (Blk × Option Addr × Nat)) : cellsOf (r ++ s) = cellsOf r ++ cellsOf s := by
  induction r with
  | nil => rfl
  | cons p r ih => simp [cellsOf, ih]

theorem cellsOf_length (r : List (Blk × Option Addr × Nat)) : (cellsOf r).length = r.length * 5 := by
  induction r with
  | nil => rfl
  | cons p r ih => simp [cellsOf, ih, Blk.cells]; omega

theorem cellsOf_get (r : List (Blk × Option Addr × Nat)) (i : Nat) (hi : i < r.length) (j : Nat) (hj : j < 5) :
    (cellsOf r)[5 * i + j]? = (r[i].1.cells r[i].2.1 r[i].2.2)[j]? := by
  induction r generalizing i with
  | nil => exact absurd hi (Nat.not_lt_zero i)
  | cons p r ih =>
    cases i with
    | zero =>
      rw [cellsOf, List.getElem?_append_left (by simp [Blk.cells]; omega)]
      simp
    | succ i =>
      rw [cellsOf, List.getElem?_append_right (by simp [Blk.cells]; omega)]
      have e : 5 * (i + 1) + j - (p.1.cells p.2.1 p.2.2).toList.length = 5 * i + j := by simp [Blk.cells]; omega
      rw [e, ih i (by simpa using hi)]
      simp

/-- A slice of blocks that the call itself made, each body too. -/
def OwnBs (w : World) (base : Nat) (v : Value) (l : List Blk) : Prop :=
  ∃ r : List (Blk × Option Addr × Nat), r.map (·.1) = l ∧ w.ownsRow base 43 5 v l.length (cellsOf r) ∧ ∀ p ∈ r, OwnB w base (.slice p.2.1 p.1.body.length p.2.2) p.1.body

theorem OwnBs.nil (w : World) (base : Nat) : OwnBs w base (.slice none 0 0) [] := ⟨[], rfl, World.ownsRow_nil w base 43 5, fun _ hp => nomatch hp⟩

theorem ownsRow_later {w w' : World} {base : Nat} {e : TypeId} {size : Nat} {v : Value} {n : Nat} {xs : List Value} (h : w.ownsRow base e size v n xs) (hb : Below w.heap.size w w') : w'.ownsRow base e size v n xs := by
  refine ⟨h.1, ?_⟩
  rcases h.2 with hn | ⟨g, cap, cur, rfl, hbg, hg, rest⟩
  · exact .inl hn
  · exact .inr ⟨g, cap, cur, rfl, hbg, (hb.block g (Array.getElem?_eq_some_iff.1 hg).1).trans hg, rest⟩

theorem OwnBs.later {w w' : World} {base : Nat} {v : Value} {l : List Blk} (h : OwnBs w base v l) (hb : Below w.heap.size w w') : OwnBs w' base v l := by
  obtain ⟨r, h1, h2, h3⟩ := h
  exact ⟨r, h1, ownsRow_later h2 hb, fun p hp => (h3 p hp).later hb⟩

theorem OwnBs.mono {w : World} {base base' : Nat} {v : Value} {l : List Blk} (h : OwnBs w base v l) (hb : base' ≤ base) : OwnBs w base' v l := by
  obtain ⟨r, h1, h2, h3⟩ := h
  refine ⟨r, h1, ⟨h2.1, ?_⟩, fun p hp => (h3 p hp).mono hb⟩
  rcases h2.2 with hn | ⟨g, cap, cur, rfl, hbg, rest⟩
  · exact .inl hn
  · exact .inr ⟨g, cap, cur, rfl, Nat.le_trans hb hbg, rest⟩

theorem OwnBs.blk {w : World} {base : Nat} {v : Value} {l : List Blk} (h : OwnBs w base v l) : ∀ k, v.ownBlock = some k → base ≤ k ∧ k < w.heap.size := fun k hk => by
  obtain ⟨r, h1, h2, h3⟩ := h
  exact World.ownsRow.lt h2 k hk

theorem OwnBs.kind {w : World} {base : Nat} {v : Value} {l : List Blk} (h : OwnBs w base v l) : ∀ g, v.ownBlock = some g → ∃ c fz, w.heap[g]? = some (.cells c 43 fz) := by
  obtain ⟨r, h1, h2, h3⟩ := h
  exact Lib.ownsRow_kind h2

/-- Another block's cell is written: one that is no row of blocks and no row of bytes. -/
theorem OwnBs.other {w : World} {base : Nat} {v : Value} {l : List Blk} (h : OwnBs w base v l) {b : Nat} {c : Array Value} {t : TypeId} {fz : Nat × Nat} (hb : w.heap[b]? = some (.cells c t fz)) (h43 : t ≠ 43) (h5 : t ≠ 5) (i : Nat) (u : Value) :
    OwnBs (w.setCell ⟨b, i, none⟩ u) base v l := by
  obtain ⟨r, h1, h2, h3⟩ := h
  refine ⟨r, h1, ownsRow_setCell_other h2 ?_ u, fun p hp => ownsRow_setCell_other (h3 p hp) ?_ u⟩
  · intro e
    obtain ⟨c', f', h'⟩ := Lib.ownsRow_kind h2 _ e
    rw [hb] at h'
    simp only [Option.some.injEq, Obj.cells.injEq] at h'
    exact h43 h'.2.1
  · intro e
    obtain ⟨c', f', h'⟩ := Lib.ownsRow_kind (h3 p hp) _ e
    rw [hb] at h'
    simp only [Option.some.injEq, Obj.cells.injEq] at h'
    exact h5 h'.2.1

/-- 'append(v, b)'. -/
theorem wpList_append_blk {w : World} {ops : Array Oper} {rest : List Oper} {o : Oper} {a : Act} {Q : Exit → Act → World → Prop} (hgd : o.guard = none) (s x : Operand)
    (ho : o.op = .call { callee := .builtin .append, args := #[s, x], argTypes := #[32, 32] })
    (base : Nat) (v : Value) (l : List Blk) (hs : a.eval s = v) (hown : OwnBs w base v l)
    (b : Blk) (ab : Option Addr) (cap g n : Nat) (hx : a.eval x = .slice (some ⟨g, 0, none⟩) n n) (hn : n = 1) (hcells : ∀ j u, (b.cells ab cap)[j]? = some u → w.cell? ⟨g, j, none⟩ = some u)
    (hbody : OwnB w base (.slice ab b.body.length cap) b.body)
    (hlen : l.length ≤ 1099511627776) (hbase : base ≤ w.heap.size)
    (h : ∀ v' w', OwnBs w' base v' (l ++ [b]) → w.grownBy w' v.ownBlock → wpList Try.prog ops Q rest (a.put o.dst v') w') : wpList Try.prog ops Q (o :: rest) a w := by
  obtain ⟨i0, hi, hz0, hz1, hz2⟩ := info_parts info43
  obtain ⟨r, h1, h2, h3⟩ := hown
  subst hn
  refine wpList_append_own w hgd s x 32 ho base 43 i0 (.agg #[.int .u64 0, .int .u8 0, .bool false, .bool false, .slice none 0 0]) 5 40 (by kernel_rfl) hi hz0 hz1 hz2 rfl (by decide) v l.length (cellsOf r) hs h2 ⟨g, 0, none⟩ 1 1 (b.cells ab cap).toList hx rfl
    (fun j u hu => by rw [Addr.add_lit, Nat.zero_add]; exact hcells j u (by simpa using hu)) (fun u hu => by
      simp [Blk.cells] at hu
      rcases hu with rfl | rfl | rfl | rfl | rfl <;> rfl) (by unfold maxLen; omega) (by omega) hbase ?_
  intro v' w' k1 k2 _
  refine h v' w' ⟨r ++ [(b, ab, cap)], by simp [h1], ?_, ?_⟩ k2
  · rw [cellsOf_append, List.length_append]
    simpa [cellsOf] using k1
  · have hk : ∀ p : Blk × Option Addr × Nat, OwnB w base (.slice p.2.1 p.1.body.length p.2.2) p.1.body → OwnB w' base (.slice p.2.1 p.1.body.length p.2.2) p.1.body := by
      intro p hp
      refine World.ownsRow.kept hp k2 ?_
      cases e : (Value.slice p.2.1 p.1.body.length p.2.2).ownBlock with
      | none => exact .inl rfl
      | some q =>
        right
        intro e2
        obtain ⟨c1, f1, z1⟩ := Lib.ownsRow_kind hp q e
        obtain ⟨c2, f2, z2⟩ := Lib.ownsRow_kind h2 q e2.symm
        rw [z1] at z2
        simp at z2
    intro p hp
    rcases List.mem_append.1 hp with hp | hp
    · exact hk p (h3 p hp)
    · rw [List.mem_singleton] at hp
      subst hp
      exact hk _ hbody

/-- A slice of blocks, as it reads. -/
def IsBs (w : World) (a : Option Addr) (l : List Blk) : Prop :=
  ∀ i (h : i < l.length), ∃ b off ab cap, a = some ⟨b, off, none⟩ ∧ (∀ j u, (l[i].cells ab cap)[j]? = some u → w.cell? ⟨b, off + 5 * i + j, none⟩ = some u) ∧
    IsBytes w ab l[i].body ∧ l[i].body.length ≤ cap ∧ (ab = none → l[i].body = [] ∧ cap = 0)

theorem OwnBs.slice {w : World} {base : Nat} {v : Value} {l : List Blk} (h : OwnBs w base v l) :
    ∃ a cap, v = .slice a l.length cap ∧ IsBs w a l ∧ l.length ≤ cap ∧ cap ≤ maxLen ∧ (∀ x, a = some x → ∃ g, x = ⟨g, 0, none⟩ ∧ base ≤ g ∧ g < w.heap.size) ∧ (a = none → l = [] ∧ cap = 0) := by
  obtain ⟨r, h1, h2, h3⟩ := h
  have hl : r.length = l.length := by rw [← h1, List.length_map]
  rcases h2.2 with ⟨rfl, hn⟩ | ⟨g, cap, cur, rfl, hb, hg, hnc, hcm, hcs, htake⟩
  · have hnil : l = [] := List.length_eq_zero_iff.1 hn
    subst hnil
    exact ⟨none, 0, rfl, fun i hi => absurd hi (Nat.not_lt_zero i), Nat.zero_le _, Nat.zero_le _, fun x hx => (nomatch hx), fun _ => ⟨rfl, rfl⟩⟩
  · refine ⟨some ⟨g, 0, none⟩, cap, rfl, ?_, hnc, hcm, fun x hx => ⟨g, by cases hx; rfl, hb, (Array.getElem?_eq_some_iff.1 hg).1⟩, fun hx => nomatch hx⟩
    intro i hi
    have hir : i < r.length := by omega
    have e : l[i] = r[i].1 := by simp only [← h1, List.getElem_map]
    rw [e]
    have hown := h3 r[i] (List.getElem_mem hir)
    obtain ⟨a2, c2, e2, hby, hle, _, _, hno⟩ := hown.slice
    refine ⟨g, 0, r[i].2.1, r[i].2.2, rfl, ?_, hown.bytes, ?_, ?_⟩
    · intro j u hu
      have hj : j < 5 := (Array.getElem?_eq_some_iff.1 hu).1
      rw [Nat.zero_add, World.ownsRow.cellAt h2 (5 * i + j) (by omega), cellsOf_get r i hir j hj]
      exact hu
    · cases e2; exact hle
    · cases e2; exact hno

theorem IsBs.below {N : Nat} {w w' : World} {a : Option Addr} {l : List Blk} (h : IsBs w a l) (hb : Below N w w') (hN : w.heap.size ≤ N) : IsBs w' a l := by
  intro i hi
  obtain ⟨b, off, ab, cap, e, hc, hby, hle, hno⟩ := h i hi
  refine ⟨b, off, ab, cap, e, fun j u hu => ?_, hby.later (hb.mono hN), hle, hno⟩
  have := hc j u hu
  exact (hb.cell (p := ⟨b, off + 5 * i + j, none⟩) (Nat.lt_of_lt_of_le (World.block_lt_of_cell? w _ this) hN)).trans this

theorem IsBs.later {w w' : World} {a : Option Addr} {l : List Blk} (h : IsBs w a l) (hb : Below w.heap.size w w') : IsBs w' a l := h.below hb (Nat.le_refl _)

end Go.Proofs.Ytdlbjllgdikadaa

namespace Go.Proofs.Ytdlbjllgdikadaa
open Go.RowKit

def partB (rec : List UInt8) (i : Nat) : List UInt8 := (rec.drop (48 * i)).take 48
def blkAt (k : UInt8) (s many : Nat) (rec : List UInt8) (i : Nat) : Blk := ⟨s + i, k, i == 0, i + 1 == many, partB rec i⟩
def blkTo (k : UInt8) (s many : Nat) (rec : List UInt8) (n : Nat) : List Blk := (List.range n).map (blkAt k s many rec)
theorem blkTo_succ (k : UInt8) (s many : Nat) (rec : List UInt8) (n : Nat) : blkTo k s many rec (n + 1) = blkTo k s many rec n ++ [blkAt k s many rec n] := by
  simp [blkTo, List.range_succ]
theorem blkTo_length (k : UInt8) (s many : Nat) (rec : List UInt8) (n : Nat) : (blkTo k s many rec n).length = n := by simp [blkTo]

theorem IsBytes.under {N : Nat} {w w' : World} {a : Option Addr} {l : List UInt8} (h : IsBytes w a l) (hb : Below N w w') (hlt : ∀ b off, a = some ⟨b, off, none⟩ → 0 < l.length → b < N) : IsBytes w' a l := by
  intro i hi
  obtain ⟨b, off, e, hc⟩ := h i hi
  exact ⟨b, off, e, (hb.cell (p := ⟨b, off + i, none⟩) (hlt b off e (by omega))).trans hc⟩

def mayS (k : UInt8) (s : Nat) (rec : List UInt8) : Bool := kindB k && decide (s ≤ 1099511627776) && decide (s + (manyN rec.length - 1) ≤ 1099511627776)
def splitE (k : UInt8) (s : Nat) (rec : List UInt8) : Nat := if mayS k s rec then (if rec.length ≤ 524288 then 0 else 3) else 2
def splitL (k : UInt8) (s : Nat) (rec : List UInt8) : List Blk := if splitE k s rec = 0 then blkTo k s (manyN rec.length) rec (manyN rec.length) else []

/-- The variable that the closure captures. -/
def LeftAt (w : World) (L : Nat) (l : List UInt8) : Prop :=
  ∃ a cap, w.heap[L]? = some (.cells #[.slice a l.length cap] 22 (0, 0)) ∧ IsBytes w a l ∧ l.length ≤ cap ∧ (a = none → l.length = 0 ∧ cap = 0) ∧ ∀ b off, a = some ⟨b, off, none⟩ → 0 < l.length → b < L

theorem LeftAt.cut {w : World} {L n cap : Nat} {a : Option Addr} {v : Value} {l : List UInt8} (hblk : w.heap[L]? = some (.cells #[v] 22 (0, 0))) (hby : IsBytes w a l) (hcap : l.length ≤ cap) (hn : n ≤ l.length)
    (hlt : ∀ b off, a = some ⟨b, off, none⟩ → 0 < l.length → b < L) (hq : cap ≠ n) (hno : a = none → l.length = 0 ∧ cap = 0) (f : Addr → Addr) (hf : ∀ b off, f ⟨b, off, none⟩ = ⟨b, off + n, none⟩) :
    LeftAt (w.setCell ⟨L, 0, none⟩ (.slice (a.map f) (l.length - n) (cap - n))) L (l.drop n) := by
  refine ⟨_, _, by rw [List.length_drop]; exact one_setCell hblk, ?_, by rw [List.length_drop]; omega, ?_, ?_⟩
  · have h2 := hby.drop n cap hcap
    rw [if_neg hq] at h2
    intro i hi
    obtain ⟨b, off, e, hc⟩ := h2 i hi
    rw [List.length_drop] at hi
    obtain ⟨b0, o0, e0, _⟩ := hby 0 (by omega)
    subst e0
    rw [Option.map_some, Addr.add_lit] at e
    cases e
    have hb : b < L := hlt b o0 rfl (by omega)
    refine ⟨b, o0 + n, by rw [Option.map_some, hf], ?_⟩
    rw [World.cell?_of_block (w := w) (Below.heap_setCell _ _ _ _ (by simp; omega))]
    exact hc
  · intro h
    rw [Option.map_eq_none_iff] at h
    have := hno h
    rw [List.length_drop]; omega
  · intro b off e hpos
    rw [List.length_drop] at hpos
    obtain ⟨b0, o0, e0, _⟩ := hby 0 (by omega)
    subst e0
    obtain ⟨b1, o1, e1, _⟩ := hby 0 (by omega)
    cases e1
    rw [Option.map_some, hf] at e
    cases e
    exact hlt _ _ rfl (by omega)

theorem LeftAt.none {w : World} {L : Nat} {a : Option Addr} {v : Value} (hblk : w.heap[L]? = some (.cells #[v] 22 (0, 0))) :
    LeftAt (w.setCell ⟨L, 0, none⟩ (.slice a 0 0)) L [] :=
  ⟨_, _, one_setCell hblk, IsBytes.nil _ _, Nat.le_refl _, fun _ => ⟨rfl, rfl⟩, fun _ _ _ h => absurd h (Nat.lt_irrefl 0)⟩

def PartPost (w : World) (L : Nat) (l : List UInt8) (e : Ending) (w' : World) : Prop :=
  ∃ v w1 u, e = .returned v ∧ OwnB w1 w.heap.size v (l.take 48) ∧ Below w.heap.size w w1 ∧ w' = w1.setCell ⟨L, 0, none⟩ u ∧ LeftAt w' L (l.drop 48) ∧ L < w.heap.size

set_option maxRecDepth 100000 in
theorem part_calls (L : Nat) (l : List UInt8) (hl : l.length ≤ 70368744177664) (w : World) (hL : LeftAt w L l) :
    Calls Try.prog 88 #[.pointer (some ⟨L, 0, none⟩)] w (PartPost w L l) := by
  obtain ⟨a, cap, hblk, hby, hcap, hno, hlt⟩ := hL
  have hc := cell_of_one hblk
  have hLs := lt_of_block hblk
  by_cases hs : l.length ≤ 48
  · have hd : l.drop 48 = [] := List.drop_eq_nil_of_le hs
    have ht : l.take 48 = l := List.take_of_length_le hs
    have hclone := clone_calls a l cap w (by omega) hno hby
    have Hd := Lib.hid hd
    have Ht := Lib.hid ht
    clear hd ht
    by_cases hq : cap = l.length
    · subst hq
      go_enter Try.func88, Try.ntmps88
      go_wp2_with (go_at_call 89; refine hclone.mono ?_; rintro e w2 ⟨v, rfl, hown, hB⟩; have hblk2 := (hB.block L hLs).trans hblk; have hc2 := cell_of_one hblk2; have hf2 := free_of_one hblk2)
      go_ret
      exact ⟨_, w2, _, rfl, by rw [Ht.out]; exact hown, hB, rfl, by rw [Hd.out]; exact LeftAt.none hblk2, hLs⟩
    · have hlc : l.length < cap := by omega
      go_enter Try.func88, Try.ntmps88
      go_wp2_with (go_at_call 89; refine hclone.mono ?_; rintro e w2 ⟨v, rfl, hown, hB⟩; have hblk2 := (hB.block L hLs).trans hblk; have hc2 := cell_of_one hblk2; have hf2 := free_of_one hblk2)
      go_ret
      have := LeftAt.cut (n := l.length) hblk2 (hby.later hB) hcap (Nat.le_refl _) hlt (by omega) hno (fun x => x.add l.length) (fun b o => Addr.add_lit b o l.length)
      rw [List.drop_length, Nat.sub_self] at this
      exact ⟨_, w2, _, rfl, by rw [Ht.out]; exact hown, hB, rfl, by rw [Hd.out]; exact this, hLs⟩
  · have htl : (l.take 48).length = 48 := by rw [List.length_take]; omega
    have hclone := clone_calls a (l.take 48) cap w (by omega) (fun h => by have := hno h; omega) (hby.take 48)
    rw [htl] at hclone
    have Htl := Lib.hid htl
    clear htl
    by_cases hq : cap = 48
    · omega
    · have hlc : 48 < cap := by omega
      go_enter Try.func88, Try.ntmps88
      go_wp2_with (go_at_call 89; refine hclone.mono ?_; rintro e w2 ⟨v, rfl, hown, hB⟩; have hblk2 := (hB.block L hLs).trans hblk; have hc2 := cell_of_one hblk2; have hf2 := free_of_one hblk2)
      go_ret
      exact ⟨_, w2, _, rfl, hown, hB, rfl, LeftAt.cut (n := 48) hblk2 (hby.later hB) hcap (by omega) hlt (by omega) hno _ (fun _ _ => rfl), hLs⟩

theorem partB_drop (rec : List UInt8) (i : Nat) : (rec.drop (48 * i)).take 48 = partB rec i := rfl

theorem manyN_le (n : Nat) : manyN n ≤ n + 1 := by unfold manyN; split <;> omega
theorem manyN_pos (n : Nat) : 1 ≤ manyN n := by unfold manyN; split <;> omega

def SplitPost (k : UInt8) (s : Nat) (rec : List UInt8) (w : World) (e : Ending) (w' : World) : Prop :=
  ∃ v, e = .returned (.tuple #[v, .int .i64 (splitE k s rec : Nat)]) ∧ OwnBs w' w.heap.size v (splitL k s rec) ∧ Below w.heap.size w w'

theorem LeftAt.lt {w : World} {L : Nat} {l : List UInt8} (h : LeftAt w L l) : L < w.heap.size := by
  obtain ⟨_, _, h1, _⟩ := h
  exact lt_of_block h1

theorem LeftAt.later {w w' : World} {L : Nat} {l : List UInt8} (h : LeftAt w L l) (hb : Below w.heap.size w w') : LeftAt w' L l := by
  obtain ⟨a, cap, h1, h2, h3, h4, h5⟩ := h
  exact ⟨a, cap, (hb.block L (lt_of_block h1)).trans h1, h2.later hb, h3, h4, h5⟩

theorem LeftAt.grown {w w' : World} {L : Nat} {l : List UInt8} (h : LeftAt w L l) {row : Option Nat} (hg : w.grownBy w' row) (hr : row ≠ some L) (hlow : ∀ k, row = some k → L ≤ k) : LeftAt w' L l := by
  obtain ⟨a, cap, h1, h2, h3, h4, h5⟩ := h
  have hL := lt_of_block h1
  refine ⟨a, cap, (hg.block L hL (fun e => hr e.symm)).trans h1, ?_, h3, h4, h5⟩
  exact h2.under ((Below.refl L w).grown hg (Nat.le_of_lt hL) hlow) h5

set_option maxRecDepth 100000 in
theorem split_bad (k : UInt8) (s : Nat) (hs : s < 18446744073709551616) (a : Option Addr) (rec : List UInt8) (cap : Nat) (_hcap : rec.length ≤ cap) (hl : rec.length ≤ 70368744177664) (w : World) (_hno : a = none → rec.length = 0 ∧ cap = 0) (_hby : IsBytes w a rec) (hbad : mayS k s rec = false) :
    Calls Try.prog 24 #[.int .u8 (k.toNat : Int), .int .u64 (s : Int), .slice a rec.length cap] w (SplitPost k s rec w) := by
  obtain ⟨m, hm⟩ : ∃ m, m = manyN rec.length := ⟨_, rfl⟩
  have hm1 : 1 ≤ m := hm ▸ manyN_pos _
  have hm2 : m ≤ rec.length + 1 := hm ▸ manyN_le _
  have hmany : ∀ W, Calls Try.prog 27 #[.int .i64 (rec.length : Int)] W fun e w' => e = .returned (.int .i64 (m : Nat)) ∧ W = w' := fun W => by rw [hm]; exact many_calls _ (by omega) W
  obtain ⟨q, hq⟩ : ∃ q, q = kindB k := ⟨_, rfl⟩
  have hk : ∀ W, Calls Try.prog 87 #[.int .u8 (k.toNat : Int)] W fun e w' => e = .returned (.bool q) ∧ W = w' := fun W => by rw [hq]; exact isKind_calls k W
  have Hq : Hid (kindB k = q) := hq.symm
  have Hm := Lib.hid hm
  clear hq hm
  have he : SplitPost k s rec w (.returned (.tuple #[.slice none 0 0, .int .i64 2])) w :=
    ⟨.slice none 0 0, by simp [splitE, hbad], by simp [splitL, splitE, hbad]; exact OwnBs.nil _ _, Below.refl _ _⟩
  have Hbad := Lib.hid hbad
  clear hbad
  cases q with
  | false =>
    go_enter Try.func24, Try.ntmps24
    go_wp2_with (first | (go_at_call 27; refine (hmany _).mono ?_; rintro e w2 ⟨rfl, rfl⟩) | (go_at_call 87; refine (hk _).mono ?_; rintro e w2 ⟨rfl, rfl⟩))
    go_ret2
    exact he
  | true =>
    by_cases h1 : s ≤ 1099511627776
    · have h2 : 1099511627776 < s + (m - 1) := by
        have := Hbad.out
        simp only [mayS, Hq.out, h1, ← Hm.out] at this
        simp at this
        omega
      go_enter Try.func24, Try.ntmps24
      go_wp2_with (first | (go_at_call 27; refine (hmany _).mono ?_; rintro e w2 ⟨rfl, rfl⟩) | (go_at_call 87; refine (hk _).mono ?_; rintro e w2 ⟨rfl, rfl⟩))
      go_ret2
      exact he
    · go_enter Try.func24, Try.ntmps24
      go_wp2_with (first | (go_at_call 27; refine (hmany _).mono ?_; rintro e w2 ⟨rfl, rfl⟩) | (go_at_call 87; refine (hk _).mono ?_; rintro e w2 ⟨rfl, rfl⟩))
      go_ret2
      exact he

set_option maxRecDepth 100000 in
theorem split_long (k : UInt8) (s : Nat) (hs : s < 18446744073709551616) (a : Option Addr) (rec : List UInt8) (cap : Nat) (_hcap : rec.length ≤ cap) (hl : rec.length ≤ 70368744177664) (w : World) (_hno : a = none → rec.length = 0 ∧ cap = 0) (_hby : IsBytes w a rec) (hbad : mayS k s rec = true) (h3 : 524288 < rec.length) :
    Calls Try.prog 24 #[.int .u8 (k.toNat : Int), .int .u64 (s : Int), .slice a rec.length cap] w (SplitPost k s rec w) := by
  obtain ⟨m, hm⟩ : ∃ m, m = manyN rec.length := ⟨_, rfl⟩
  have hm1 : 1 ≤ m := hm ▸ manyN_pos _
  have hm2 : m ≤ rec.length + 1 := hm ▸ manyN_le _
  have hmany : ∀ W, Calls Try.prog 27 #[.int .i64 (rec.length : Int)] W fun e w' => e = .returned (.int .i64 (m : Nat)) ∧ W = w' := fun W => by rw [hm]; exact many_calls _ (by omega) W
  obtain ⟨q, hq⟩ : ∃ q, q = kindB k := ⟨_, rfl⟩
  have hk : ∀ W, Calls Try.prog 87 #[.int .u8 (k.toNat : Int)] W fun e w' => e = .returned (.bool q) ∧ W = w' := fun W => by rw [hq]; exact isKind_calls k W
  have Hq : Hid (kindB k = q) := hq.symm
  have Hm := Lib.hid hm
  clear hq hm
  have hmay := hbad
  simp only [mayS, Hq.out, ← Hm.out, Bool.and_eq_true, decide_eq_true_eq] at hmay
  obtain ⟨⟨rfl, h1⟩, h2⟩ := hmay
  have hE : splitE k s rec = 3 := by simp [splitE, hbad]; omega
  have HE := Lib.hid hE
  clear hE hbad
  go_enter Try.func24, Try.ntmps24
  go_wp2_with (first | (go_at_call 27; refine (hmany _).mono ?_; rintro e w2 ⟨rfl, rfl⟩) | (go_at_call 87; refine (hk _).mono ?_; rintro e w2 ⟨rfl, rfl⟩))
  go_ret2
  exact ⟨.slice none 0 0, by rw [HE.out]; rfl, by simp [splitL, HE.out]; exact OwnBs.nil _ _, Below.refl _ _⟩

/-- What a round's call of the closure leaves. -/
theorem round_blk {wr w1 w2 : World} {B : Nat} {v v1 u : Value} {l : List Blk} {rec p : List UInt8} (hown : OwnBs wr B v l) (hleft : LeftAt wr B rec)
    (hv1 : OwnB w1 wr.heap.size v1 p) (hB1 : Below wr.heap.size wr w1) (hw2 : w2 = w1.setCell ⟨B, 0, none⟩ u) :
    ∃ ab cb, v1 = .slice ab p.length cb ∧ OwnBs w2 B v l ∧ OwnB w2 B (.slice ab p.length cb) p ∧ w1.heap.size ≤ w2.heap.size ∧ Below B wr w2 := by
  obtain ⟨ab, cb, rfl, _⟩ := hv1.slice
  obtain ⟨a0, c0, hblk, _⟩ := hleft
  have hlt := lt_of_block hblk
  have hblk1 := (hB1.block B hlt).trans hblk
  subst hw2
  refine ⟨ab, cb, rfl, (hown.later hB1).other hblk1 (by decide) (by decide) 0 u, ?_, by simp, ?_⟩
  · refine ownsRow_setCell_other (hv1.mono (Nat.le_of_lt hlt)) ?_ u
    intro e
    obtain ⟨c', f', h'⟩ := Lib.ownsRow_kind hv1 _ e
    rw [hblk1] at h'
    simp at h'
  · exact (hB1.mono (Nat.le_of_lt hlt)).setCell (Nat.le_refl _) u

theorem blk_cells (k : UInt8) (s m j : Nat) (rec : List UInt8) (ab : Option Addr) (cb : Nat) :
    (#[.int .u64 ((s : Int) + (j : Int)), .int .u8 (k.toNat : Int), .bool ((j : Int) == 0), .bool ((j : Int) == (m : Int) - 1), .slice ab (min 48 (rec.length - 48 * j)) cb] : Array Value) = (blkAt k s m rec j).cells ab cb := by
  have e1 : ((j : Int) == 0) = (j == 0) := by rw [Bool.eq_iff_iff]; simp
  have e2 : ((j : Int) == (m : Int) - 1) = (j + 1 == m) := by rw [Bool.eq_iff_iff]; simp; omega
  simp only [Blk.cells, blkAt, partB, e1, e2, List.length_take, List.length_drop]
  simp

set_option maxRecDepth 100000 in
theorem split_good (k : UInt8) (s : Nat) (hs : s < 18446744073709551616) (a : Option Addr) (rec : List UInt8) (cap : Nat) (hcap : rec.length ≤ cap) (hl : rec.length ≤ 70368744177664) (w : World) (hno : a = none → rec.length = 0 ∧ cap = 0) (hby : IsBytes w a rec) (hbad : mayS k s rec = true) (h3 : rec.length ≤ 524288) :
    Calls Try.prog 24 #[.int .u8 (k.toNat : Int), .int .u64 (s : Int), .slice a rec.length cap] w (SplitPost k s rec w) := by
  obtain ⟨m, hm⟩ : ∃ m, m = manyN rec.length := ⟨_, rfl⟩
  have hm1 : 1 ≤ m := hm ▸ manyN_pos _
  have hm2 : m ≤ rec.length + 1 := hm ▸ manyN_le _
  have hmany : ∀ W, Calls Try.prog 27 #[.int .i64 (rec.length : Int)] W fun e w' => e = .returned (.int .i64 (m : Nat)) ∧ W = w' := fun W => by rw [hm]; exact many_calls _ (by omega) W
  obtain ⟨q, hq⟩ : ∃ q, q = kindB k := ⟨_, rfl⟩
  have hk : ∀ W, Calls Try.prog 87 #[.int .u8 (k.toNat : Int)] W fun e w' => e = .returned (.bool q) ∧ W = w' := fun W => by rw [hq]; exact isKind_calls k W
  have Hq : Hid (kindB k = q) := hq.symm
  have Hm := Lib.hid hm
  clear hq hm
  have hmay := hbad
  simp only [mayS, Hq.out, ← Hm.out, Bool.and_eq_true, decide_eq_true_eq] at hmay
  obtain ⟨⟨rfl, h1⟩, h2⟩ := hmay
  have hE : splitE k s rec = 0 := by simp [splitE, hbad, h3]
  have hLs : splitL k s rec = blkTo k s m rec m := by simp [splitL, hE, ← Hm.out]
  have HE := Lib.hid hE
  have HL := Lib.hid hLs
  clear hE hLs hbad
  have hA : Below w.heap.size w (w.alloc (.cells #[.slice a rec.length cap] 22)) := (Below.refl _ _).alloc (Nat.le_refl _) _
  have hL0 : LeftAt (w.alloc (.cells #[.slice a rec.length cap] 22)) w.heap.size rec :=
    ⟨a, cap, heap_alloc_new _ _, hby.alloc _, hcap, hno, fun b off e hpos => hby.lt e hpos⟩
  go_enter Try.func24, Try.ntmps24
  go_wp2_with (first | (go_at_call 27; refine (hmany _).mono ?_; rintro e w2 ⟨rfl, rfl⟩) | (go_at_call 87; refine (hk _).mono ?_; rintro e w2 ⟨rfl, rfl⟩))
  go_loopw [11, 39] (fun v i wr => ∃ j : Nat, j ≤ m ∧ i = .int .i64 j ∧ OwnBs wr w.heap.size v (blkTo k s m rec j) ∧ LeftAt wr w.heap.size (rec.drop (48 * j)) ∧ Below w.heap.size w wr) (fun _ i _ => m - (intOf i).toNat)
  case atStart => exact ⟨0, Nat.zero_le _, rfl, OwnBs.nil _ _, hL0, hA⟩
  case round =>
    obtain ⟨j, hj, rfl, hown, hleft, hbel⟩ := hrel
    clear hL0 hA
    have hsz := hbel.size
    have hLlt := hleft.lt
    by_cases hlt : j < m
    · have hpl : (rec.drop (48 * j)).length ≤ 70368744177664 := by rw [List.length_drop]; omega
      have hpart := part_calls w.heap.size _ hpl _ hleft
      have hll : (blkTo k s m rec j).length ≤ 1099511627776 := by rw [blkTo_length]; omega
      go_wp2_with (first | (go_at_call 88; refine hpart.mono ?_; rintro e w2 ⟨v1, w1, u, rfl, hv1, hB1, hw2, hleft2, hlt2⟩; have hall := round_blk hown hleft hv1 hB1 hw2; clear hw2; obtain ⟨ab, cb, rfl, hown2, hbody2, hsz2, hbel2⟩ := hall; have hs2 := hbel2.size) | (at_builtin; refine wpList_append_blk rfl (.tmp 42) (.tmp 57) rfl w.heap.size _ (blkTo k s m rec j) rfl (hown2.later ((Below.refl _ _).alloc (Nat.le_refl _) _)) (blkAt k s m rec j) ab cb w2.heap.size 1 rfl rfl (fun q u hu => by rw [World.cell?_alloc_new, blk_cells k s m j rec ab cb]; exact hu) (hbody2.later ((Below.refl _ _).alloc (Nat.le_refl _) _)) hll (by simp; omega) ?_; intro v3 w3 hown3 hgr3))
      go_roundw
      case rel =>
        refine ⟨j + 1, by omega, by go_num, by rw [blkTo_succ]; exact hown3, ?_, ?_⟩
        · rw [Nat.mul_add, Nat.mul_one, ← List.drop_drop]
          refine (hleft2.later ((Below.refl _ _).alloc (Nat.le_refl _) _)).grown hgr3 ?_ (fun q hq => (hown2.blk q hq).1)
          intro e
          obtain ⟨c1, f1, z1⟩ := hown2.kind _ e
          obtain ⟨a4, c4, z4, _⟩ := hleft2
          rw [z4] at z1
          simp at z1
        · exact ((hbel.trans hbel2).alloc (by omega) _).grown hgr3 (by simp; omega) (fun q hq => (hown2.blk q hq).1)
      case measure => simp [intOf]; omega
    · obtain rfl : j = m := by omega
      go_wp2
      go_ret2
      exact ⟨_, by rw [HE.out]; rfl, by rw [HL.out]; exact hown, hbel⟩

theorem split_calls (k : UInt8) (s : Nat) (hs : s < 18446744073709551616) (a : Option Addr) (rec : List UInt8) (cap : Nat) (hcap : rec.length ≤ cap) (hl : rec.length ≤ 70368744177664) (w : World) (hno : a = none → rec.length = 0 ∧ cap = 0) (hby : IsBytes w a rec) :
    Calls Try.prog 24 #[.int .u8 (k.toNat : Int), .int .u64 (s : Int), .slice a rec.length cap] w (SplitPost k s rec w) := by
  by_cases h1 : mayS k s rec = true
  · by_cases h2 : rec.length ≤ 524288
    · exact split_good k s hs a rec cap hcap hl w hno hby h1 h2
    · exact split_long k s hs a rec cap hcap hl w hno hby h1 (by omega)
  · exact split_bad k s hs a rec cap hcap hl w hno hby (by simpa using h1)

end Go.Proofs.Ytdlbjllgdikadaa

namespace Go.Proofs.Ytdlbjllgdikadaa
open Go.RowKit

theorem refmany_calls (n : Nat) (hn : n ≤ 70368744177664) (w : World) :
    Calls Try.prog 28 #[.int .i64 (n : Int)] w fun e w' => e = .returned (.int .i64 (manyN n : Nat)) ∧ w = w' := by
  go_enter Try.func28, Try.ntmps28
  go_wp2
  go_loop [0, 3] (fun x c => ∃ j r : Nat, x = .int .i64 r ∧ c = .int .i64 ((j + 1 : Nat) : Int) ∧ 48 * j + r = n ∧ (0 < n → 0 < r)) (fun x _ => (intOf x).toNat)
  case atStart => exact ⟨0, n, rfl, rfl, by omega, fun h => h⟩
  case round =>
    obtain ⟨j, r, rfl, rfl, hsum, hpos⟩ := hrel
    by_cases hlt : 48 < r
    · go_wp2
      go_round
      case rel => exact ⟨j + 1, r - 48, by go_num, by go_num, by omega, fun _ => by omega⟩
      case measure => simp [intOf]; omega
    · go_wp2
      go_ret
      exact ⟨ret_int (by unfold manyN; split <;> omega), rfl⟩

theorem kindB_iff (k : UInt8) : kindB k = true ↔ 1 ≤ k.toNat ∧ k.toNat ≤ 2 := by
  have e1 : k = 1 ↔ k.toNat = 1 := ⟨fun h => by rw [h]; rfl, fun h => UInt8.toNat.inj h⟩
  have e2 : k = 2 ↔ k.toNat = 2 := ⟨fun h => by rw [h]; rfl, fun h => UInt8.toNat.inj h⟩
  simp only [kindB, Bool.or_eq_true, beq_iff_eq, e1, e2]
  omega

set_option maxRecDepth 100000 in
theorem refsplit_bad (k : UInt8) (s : Nat) (hs : s < 18446744073709551616) (a : Option Addr) (rec : List UInt8) (cap : Nat) (hl : rec.length ≤ 70368744177664) (w : World) (hbad : mayS k s rec = false) :
    Calls Try.prog 25 #[.int .u8 (k.toNat : Int), .int .u64 (s : Int), .slice a rec.length cap] w (SplitPost k s rec w) := by
  obtain ⟨m, hm⟩ : ∃ m, m = manyN rec.length := ⟨_, rfl⟩
  have hm1 : 1 ≤ m := hm ▸ manyN_pos _
  have hm2 : m ≤ rec.length + 1 := hm ▸ manyN_le _
  have hmany : ∀ W, Calls Try.prog 28 #[.int .i64 (rec.length : Int)] W fun e w' => e = .returned (.int .i64 (m : Nat)) ∧ W = w' := fun W => by rw [hm]; exact refmany_calls _ hl W
  have Hm := Lib.hid hm
  clear hm
  have he : SplitPost k s rec w (.returned (.tuple #[.slice none 0 0, .int .i64 2])) w :=
    ⟨.slice none 0 0, by simp [splitE, hbad], by simp [splitL, splitE, hbad]; exact OwnBs.nil _ _, Below.refl _ _⟩
  have hk := kindB_iff k
  have hkl := k.toNat_lt
  rw [mayS, ← Hm.out] at hbad
  by_cases h0 : k.toNat < 1
  · clear hbad
    go_enter Try.func25, Try.ntmps25
    go_wp2_with (go_at_call 28; refine (hmany _).mono ?_; rintro e w2 ⟨rfl, rfl⟩)
    go_ret2
    exact he
  · by_cases h1 : 2 < k.toNat
    · clear hbad
      go_enter Try.func25, Try.ntmps25
      go_wp2_with (go_at_call 28; refine (hmany _).mono ?_; rintro e w2 ⟨rfl, rfl⟩)
      go_ret2
      exact he
    · by_cases h2 : s ≤ 1099511627776
      · have h3 : 1099511627776 < s + (m - 1) := by
          rw [hk.2 (by omega)] at hbad
          simp [h2] at hbad
          exact hbad
        clear hbad
        go_enter Try.func25, Try.ntmps25
        go_wp2_with (go_at_call 28; refine (hmany _).mono ?_; rintro e w2 ⟨rfl, rfl⟩)
        go_ret2
        exact he
      · clear hbad
        go_enter Try.func25, Try.ntmps25
        go_wp2_with (go_at_call 28; refine (hmany _).mono ?_; rintro e w2 ⟨rfl, rfl⟩)
        go_ret2
        exact he

set_option maxRecDepth 100000 in
theorem refsplit_long (k : UInt8) (s : Nat) (hs : s < 18446744073709551616) (a : Option Addr) (rec : List UInt8) (cap : Nat) (hl : rec.length ≤ 70368744177664) (w : World) (hbad : mayS k s rec = true) (h3 : 524288 < rec.length) :
    Calls Try.prog 25 #[.int .u8 (k.toNat : Int), .int .u64 (s : Int), .slice a rec.length cap] w (SplitPost k s rec w) := by
  obtain ⟨m, hm⟩ : ∃ m, m = manyN rec.length := ⟨_, rfl⟩
  have hm1 : 1 ≤ m := hm ▸ manyN_pos _
  have hm2 : m ≤ rec.length + 1 := hm ▸ manyN_le _
  have hmany : ∀ W, Calls Try.prog 28 #[.int .i64 (rec.length : Int)] W fun e w' => e = .returned (.int .i64 (m : Nat)) ∧ W = w' := fun W => by rw [hm]; exact refmany_calls _ hl W
  have Hm := Lib.hid hm
  clear hm
  have hmay := hbad
  simp only [mayS, ← Hm.out, Bool.and_eq_true, decide_eq_true_eq, kindB_iff] at hmay
  obtain ⟨⟨⟨hk1, hk2⟩, h1⟩, h2⟩ := hmay
  have hE : splitE k s rec = 3 := by simp [splitE, hbad]; omega
  have HE := Lib.hid hE
  clear hE hbad
  go_enter Try.func25, Try.ntmps25
  go_wp2_with (go_at_call 28; refine (hmany _).mono ?_; rintro e w2 ⟨rfl, rfl⟩)
  go_ret2
  exact ⟨.slice none 0 0, by rw [HE.out]; rfl, by simp [splitL, HE.out]; exact OwnBs.nil _ _, Below.refl _ _⟩

theorem refround_blk {w wr w2 : World} {v v1 : Value} {l : List Blk} {p : List UInt8} (hown : OwnBs wr w.heap.size v l)
    (hown1 : OwnB w2 wr.heap.size v1 ([] ++ p)) (hgr : (wr.alloc (.cells #[] 5)).grownBy w2 (Value.slice (some ⟨wr.heap.size, 0, none⟩) 0 0).ownBlock) (hbel : Below w.heap.size w wr) :
    ∃ ab cb, v1 = .slice ab p.length cb ∧ OwnBs w2 w.heap.size v l ∧ OwnB w2 w.heap.size (.slice ab p.length cb) p ∧ Below w.heap.size w w2 := by
  rw [List.nil_append] at hown1
  obtain ⟨ab, cb, rfl, _⟩ := hown1.slice
  have hB : Below wr.heap.size wr w2 := ((Below.refl _ wr).alloc (Nat.le_refl _) _).grown hgr (by simp) (fun k hk => by simp [Value.ownBlock] at hk; omega)
  exact ⟨ab, cb, rfl, hown.later hB, hown1.mono hbel.size, below_call hbel (Nat.le_refl _) hB⟩

theorem refblk_cells (k : UInt8) (s m j : Nat) (rec : List UInt8) (ab : Option Addr) (cb : Nat) :
    (#[.int .u64 ((s : Int) + (j : Int)), .int .u8 (k.toNat : Int), .bool ((j : Int) == 0), .bool ((j : Int) + 1 == (m : Int)), .slice ab (partB rec j).length cb] : Array Value) = (blkAt k s m rec j).cells ab cb := by
  have e1 : ((j : Int) == 0) = (j == 0) := by rw [Bool.eq_iff_iff]; simp
  have e2 : ((j : Int) + 1 == (m : Int)) = (j + 1 == m) := by rw [Bool.eq_iff_iff]; simp; omega
  simp only [Blk.cells, blkAt, e1, e2]
  simp

set_option maxHeartbeats 1600000 in
set_option maxRecDepth 100000 in
theorem refsplit_good (k : UInt8) (s : Nat) (hs : s < 18446744073709551616) (a : Option Addr) (rec : List UInt8) (cap : Nat) (hl : rec.length ≤ 70368744177664) (w : World) (hbad : mayS k s rec = true) (h3 : rec.length ≤ 524288) (hcap : rec.length ≤ cap) (hno : a = none → rec.length = 0 ∧ cap = 0) (hby : IsBytes w a rec) :
    Calls Try.prog 25 #[.int .u8 (k.toNat : Int), .int .u64 (s : Int), .slice a rec.length cap] w (SplitPost k s rec w) := by
  obtain ⟨m, hm⟩ : ∃ m, m = manyN rec.length := ⟨_, rfl⟩
  have hm1 : 1 ≤ m := hm ▸ manyN_pos _
  have hm2 : m ≤ rec.length + 1 := hm ▸ manyN_le _
  have hmany : ∀ W, Calls Try.prog 28 #[.int .i64 (rec.length : Int)] W fun e w' => e = .returned (.int .i64 (m : Nat)) ∧ W = w' := fun W => by rw [hm]; exact refmany_calls _ hl W
  have hmn : 48 * (m - 1) ≤ rec.length ∧ (0 < rec.length → 48 * (m - 1) < rec.length) ∧ rec.length ≤ 48 * m := by rw [hm]; unfold manyN; split <;> omega
  have Hm := Lib.hid hm
  clear hm
  have hmay := hbad
  simp only [mayS, ← Hm.out, Bool.and_eq_true, decide_eq_true_eq, kindB_iff] at hmay
  obtain ⟨⟨⟨hk1, hk2⟩, h1⟩, h2⟩ := hmay
  have hE : splitE k s rec = 0 := by simp [splitE, hbad, h3]
  have hLs : splitL k s rec = blkTo k s m rec m := by simp [splitL, hE, ← Hm.out]
  have HE := Lib.hid hE
  have HL := Lib.hid hLs
  clear hE hLs hbad
  go_enter Try.func25, Try.ntmps25
  go_wp2_with (go_at_call 28; refine (hmany _).mono ?_; rintro e w2 ⟨rfl, rfl⟩)
  go_loopw [9, 10] (fun v i wr => ∃ j : Nat, j ≤ m ∧ i = .int .i64 j ∧ OwnBs wr w.heap.size v (blkTo k s m rec j) ∧ Below w.heap.size w wr) (fun _ i _ => m - (intOf i).toNat)
  case atStart => exact ⟨0, Nat.zero_le _, rfl, OwnBs.nil _ _, Below.refl _ _⟩
  case round =>
    obtain ⟨j, hj, rfl, hown, hbel⟩ := hrel
    have hsz := hbel.size
    by_cases hlt : j < m
    · have hll : (blkTo k s m rec j).length ≤ 1099511627776 := by rw [blkTo_length]; omega
      have hpb : (partB rec j).length ≤ 48 := by rw [partB, List.length_take]; omega
      by_cases hq : cap = 48 * j
      · have hnil : ∀ W, IsBytes W a (partB rec j) := by
          intro W i hi
          rw [partB, List.length_take, List.length_drop] at hi
          omega
        have he : rec.length < 48 * (j + 1) := by omega
        have hnn : a = none → rec.length - 48 * j = 0 ∧ cap - 48 * j = 0 := fun h => by omega
        have hq1 : cap ≤ 48 * j := by omega
        have hq2 : 48 * j ≤ cap := by omega
        clear hq
        have hpl : rec.length - 48 * j = (partB rec j).length := by rw [partB, List.length_take, List.length_drop]; omega
        have Hpl := Lib.hid hpl
        clear hpl
        go_wp2_with (first | (at_builtin; refine wpList_append_bytes rfl (.tmp 62) (.tmp 67) rfl wr.heap.size (.slice (some ⟨wr.heap.size, 0, none⟩) 0 0) [] rfl (OwnB.made wr wr.heap.size (Nat.le_refl _)) a _ _ (partB rec j) rfl Hpl.out (fun h => hnn h) (hnil _) (by simp; omega) (by simp) ?_; intro v1 w2 hown1 hgr1; have hall := refround_blk hown hown1 hgr1 hbel; clear hown1 hgr1; obtain ⟨ab, cb, rfl, hown2, hbody2, hbel2⟩ := hall; have hs2 := hbel2.size) | (at_builtin; refine wpList_append_blk rfl (.tmp 50) (.tmp 70) rfl w.heap.size _ (blkTo k s m rec j) rfl (hown2.later ((Below.refl _ _).alloc (Nat.le_refl _) _)) (blkAt k s m rec j) ab cb w2.heap.size 1 rfl rfl (fun q u hu => by rw [World.cell?_alloc_new, refblk_cells k s m j rec ab cb]; exact hu) (hbody2.later ((Below.refl _ _).alloc (Nat.le_refl _) _)) hll (by simp; omega) ?_; intro v3 w3 hown3 hgr3))
        go_roundw
        case rel =>
          refine ⟨j + 1, by omega, by go_num, by rw [blkTo_succ]; exact hown3, ?_⟩
          exact (hbel2.alloc (by omega) _).grown hgr3 (by simp; omega) (fun q hq => (hown2.blk q hq).1)
        case measure => simp [intOf]; omega
      · have hqc : 48 * j < cap := by omega
        have hdrop : IsBytes w (a.map fun x => x.add (48 * j)) (partB rec j) := by
          have h4 := (hby.drop (48 * j) cap hcap).take 48
          rw [if_neg hq] at h4
          exact h4
        have hnone : (a.map fun x => x.add (48 * j)) = none → False := by
          intro h
          rw [Option.map_eq_none_iff] at h
          have := hno h
          omega
        by_cases he : rec.length < 48 * (j + 1)
        · have hpl : rec.length - 48 * j = (partB rec j).length := by rw [partB, List.length_take, List.length_drop]; omega
          have Hpl := Lib.hid hpl
          clear hpl
          go_wp2_with (first | (at_builtin; refine wpList_append_bytes rfl (.tmp 62) (.tmp 67) rfl wr.heap.size (.slice (some ⟨wr.heap.size, 0, none⟩) 0 0) [] rfl (OwnB.made wr wr.heap.size (Nat.le_refl _)) (a.map fun x => x.add (48 * j)) _ _ (partB rec j) rfl Hpl.out (fun h => (hnone h).elim) ((hdrop.later (hbel.mono (Nat.le_refl _))).alloc _) (by simp; omega) (by simp) ?_; intro v1 w2 hown1 hgr1; have hall := refround_blk hown hown1 hgr1 hbel; clear hown1 hgr1; obtain ⟨ab, cb, rfl, hown2, hbody2, hbel2⟩ := hall; have hs2 := hbel2.size) | (at_builtin; refine wpList_append_blk rfl (.tmp 50) (.tmp 70) rfl w.heap.size _ (blkTo k s m rec j) rfl (hown2.later ((Below.refl _ _).alloc (Nat.le_refl _) _)) (blkAt k s m rec j) ab cb w2.heap.size 1 rfl rfl (fun q u hu => by rw [World.cell?_alloc_new, refblk_cells k s m j rec ab cb]; exact hu) (hbody2.later ((Below.refl _ _).alloc (Nat.le_refl _) _)) hll (by simp; omega) ?_; intro v3 w3 hown3 hgr3))
          go_roundw
          case rel =>
            refine ⟨j + 1, by omega, by go_num, by rw [blkTo_succ]; exact hown3, ?_⟩
            exact (hbel2.alloc (by omega) _).grown hgr3 (by simp; omega) (fun q hq => (hown2.blk q hq).1)
          case measure => simp [intOf]; omega
        · have hpl : 48 = (partB rec j).length := by rw [partB, List.length_take, List.length_drop]; omega
          have Hpl := Lib.hid hpl
          clear hpl
          go_wp2_with (first | (at_builtin; refine wpList_append_bytes rfl (.tmp 62) (.tmp 67) rfl wr.heap.size (.slice (some ⟨wr.heap.size, 0, none⟩) 0 0) [] rfl (OwnB.made wr wr.heap.size (Nat.le_refl _)) (a.map fun x => x.add (48 * j)) _ _ (partB rec j) rfl (by have := Hpl.out; omega) (fun h => (hnone h).elim) ((hdrop.later (hbel.mono (Nat.le_refl _))).alloc _) (by simp; omega) (by simp) ?_; intro v1 w2 hown1 hgr1; have hall := refround_blk hown hown1 hgr1 hbel; clear hown1 hgr1; obtain ⟨ab, cb, rfl, hown2, hbody2, hbel2⟩ := hall; have hs2 := hbel2.size) | (at_builtin; refine wpList_append_blk rfl (.tmp 50) (.tmp 70) rfl w.heap.size _ (blkTo k s m rec j) rfl (hown2.later ((Below.refl _ _).alloc (Nat.le_refl _) _)) (blkAt k s m rec j) ab cb w2.heap.size 1 rfl rfl (fun q u hu => by rw [World.cell?_alloc_new, refblk_cells k s m j rec ab cb]; exact hu) (hbody2.later ((Below.refl _ _).alloc (Nat.le_refl _) _)) hll (by simp; omega) ?_; intro v3 w3 hown3 hgr3))
          go_roundw
          case rel =>
            refine ⟨j + 1, by omega, by go_num, by rw [blkTo_succ]; exact hown3, ?_⟩
            exact (hbel2.alloc (by omega) _).grown hgr3 (by simp; omega) (fun q hq => (hown2.blk q hq).1)
          case measure => simp [intOf]; omega
    · obtain rfl : j = m := by omega
      go_wp2
      go_ret2
      exact ⟨_, by rw [HE.out]; rfl, by rw [HL.out]; exact hown, hbel⟩

theorem refsplit_calls (k : UInt8) (s : Nat) (hs : s < 18446744073709551616) (a : Option Addr) (rec : List UInt8) (cap : Nat) (hcap : rec.length ≤ cap) (hl : rec.length ≤ 70368744177664) (w : World) (hno : a = none → rec.length = 0 ∧ cap = 0) (hby : IsBytes w a rec) :
    Calls Try.prog 25 #[.int .u8 (k.toNat : Int), .int .u64 (s : Int), .slice a rec.length cap] w (SplitPost k s rec w) := by
  by_cases h1 : mayS k s rec = true
  · by_cases h2 : rec.length ≤ 524288
    · exact refsplit_good k s hs a rec cap hl w h1 h2 hcap hno hby
    · exact refsplit_long k s hs a rec cap hl w h1 (by omega)
  · exact refsplit_bad k s hs a rec cap hl w (by simpa using h1)

end Go.Proofs.Ytdlbjllgdikadaa

namespace Go.Proofs.Ytdlbjllgdikadaa
open Go.RowKit

def sameB (x y : Blk) : Bool := ((x.serial : Int) == (y.serial : Int)) && ((x.kind.toNat : Int) == (y.kind.toNat : Int)) && (x.first == y.first) && (x.last == y.last) && (x.body == y.body)

theorem sameB_iff (x y : Blk) : sameB x y = true ↔ x = y := by
  obtain ⟨a, b, c, d, e⟩ := x
  obtain ⟨a', b', c', d', e'⟩ := y
  have hk : (b.toNat : Int) = (b'.toNat : Int) ↔ b = b' := ⟨fun h => UInt8.toNat.inj (by omega), fun h => by rw [h]⟩
  simp only [sameB, Bool.and_eq_true, beq_iff_eq, hk, Blk.mk.injEq, Int.natCast_inj, and_assoc]

set_option maxHeartbeats 1000000 in
set_option maxRecDepth 100000 in
theorem same_calls (x y : Blk) (a1 a2 : Option Addr) (c1 c2 : Nat) (w : World) (h1 : IsBytes w a1 x.body) (h2 : IsBytes w a2 y.body) :
    Calls Try.prog 36 #[.agg (x.cells a1 c1), .agg (y.cells a2 c2)] w fun e w' => e = .returned (.bool (sameB x y)) ∧ Below w.heap.size w w' := by
  obtain ⟨s, k, f, la, body⟩ := x
  obtain ⟨s', k', f', la', body'⟩ := y
  simp only [Blk.cells] at *
  have hB : Below w.heap.size w ((w.alloc (.cells (Blk.cells ⟨s, k, f, la, body⟩ a1 c1) 43)).alloc (.cells (Blk.cells ⟨s', k', f', la', body'⟩ a2 c2) 43)) := ((Below.refl _ _).alloc (Nat.le_refl _) _).alloc (by simp) _
  have e1 := conv_text (h1.later hB) (n := body.length) (cap := c1) rfl
  have e2 := conv_text (h2.later hB) (n := body'.length) (cap := c2) rfl
  simp only [Blk.cells] at *
  have hr : ∀ q : Bool, q = sameB ⟨s, k, f, la, body⟩ ⟨s', k', f', la', body'⟩ → Ending.returned (.bool q) = .returned (.bool (sameB ⟨s, k, f, la, body⟩ ⟨s', k', f', la', body'⟩)) := fun q h => by rw [h]
  have Hr := Lib.hid hr
  clear hr
  obtain ⟨q1, hq1⟩ : ∃ q1, ((s : Int) == (s' : Int)) = q1 := ⟨_, rfl⟩
  obtain ⟨q2, hq2⟩ : ∃ q2, ((k.toNat : Int) == (k'.toNat : Int)) = q2 := ⟨_, rfl⟩
  cases q1 with
  | false =>
    go_enter Try.func36, Try.ntmps36
    go_wp2
    go_ret
    exact ⟨Hr.out _ (by simp [sameB, hq1]), hB⟩
  | true =>
    cases q2 with
    | false =>
      go_enter Try.func36, Try.ntmps36
      go_wp2
      go_ret
      exact ⟨Hr.out _ (by simp [sameB, hq2]), hB⟩
    | true =>
      obtain ⟨q3, hq3⟩ : ∃ q3, (f == f') = q3 := ⟨_, rfl⟩
      cases q3 with
      | false =>
        go_enter Try.func36, Try.ntmps36
        go_wp2
        go_ret
        exact ⟨Hr.out _ (by simp [sameB, hq3]), hB⟩
      | true =>
        obtain ⟨q4, hq4⟩ : ∃ q4, (la == la') = q4 := ⟨_, rfl⟩
        cases q4 with
        | false =>
          go_enter Try.func36, Try.ntmps36
          go_wp2
          go_ret
          exact ⟨Hr.out _ (by simp [sameB, hq4]), hB⟩
        | true =>
          go_enter Try.func36, Try.ntmps36
          go_wp2
          go_ret
          exact ⟨Hr.out _ (by simp only [sameB, hq1, hq2, hq3, hq4, Bool.true_and]), hB⟩

/-- A block of a slice, its cells in the walk's spelling, in every world that keeps what is below. -/
theorem IsBs.cellsAt {w : World} {a : Option Addr} {l : List Blk} (h : IsBs w a l) (j : Nat) (hj : j < l.length) :
    ∃ B b off ab cap, l[j]? = some B ∧ a = some ⟨b, off, none⟩ ∧
      (∀ x : SW (fun W => Below w.heap.size w W), x.W.cell? ⟨b, off + j * 5, none⟩ = some (.int .u64 (B.serial : Int))) ∧
      (∀ x : SW (fun W => Below w.heap.size w W), x.W.cell? ⟨b, off + j * 5 + 1, none⟩ = some (.int .u8 (B.kind.toNat : Int))) ∧
      (∀ x : SW (fun W => Below w.heap.size w W), x.W.cell? ⟨b, off + j * 5 + 2, none⟩ = some (.bool B.first)) ∧
      (∀ x : SW (fun W => Below w.heap.size w W), x.W.cell? ⟨b, off + j * 5 + 3, none⟩ = some (.bool B.last)) ∧
      (∀ x : SW (fun W => Below w.heap.size w W), x.W.cell? ⟨b, off + j * 5 + 4, none⟩ = some (.slice ab B.body.length cap)) ∧
      IsBytes w ab B.body ∧ B.body.length ≤ cap ∧ (ab = none → B.body = [] ∧ cap = 0) := by
  obtain ⟨b, off, ab, cap, e, hc, hby, hle, hno⟩ := h j hj
  have key : ∀ q u, ((l[j]).cells ab cap)[q]? = some u → ∀ x : SW (fun W => Below w.heap.size w W), x.W.cell? ⟨b, off + j * 5 + q, none⟩ = some u := by
    intro q u hu x
    have h1 := hc q u hu
    rw [Nat.mul_comm] at h1
    exact (x.h.cell (p := ⟨b, off + j * 5 + q, none⟩) (World.block_lt_of_cell? w _ h1)).trans h1
  exact ⟨l[j], b, off, ab, cap, by simp [hj], e, key 0 _ rfl, key 1 _ rfl, key 2 _ rfl, key 3 _ rfl, key 4 _ rfl, hby, hle, hno⟩

def AllPost (x y : List Blk) (w : World) (e : Ending) (w' : World) : Prop := ∃ q : Bool, e = .returned (.bool q) ∧ (q = true ↔ x = y) ∧ Below w.heap.size w w'

set_option maxRecDepth 100000 in
theorem sameAll_calls (x y : List Blk) (a1 a2 : Option Addr) (c1 c2 : Nat) (w : World) (h1 : IsBs w a1 x) (h2 : IsBs w a2 y) (hl1 : x.length ≤ 70368744177664) (_hl2 : y.length ≤ 70368744177664) :
    Calls Try.prog 26 #[.slice a1 x.length c1, .slice a2 y.length c2] w (AllPost x y w) := by
  by_cases hn : x.length = y.length
  · have e0 : ((x.length : Int) == (y.length : Int)) = true := by rw [beq_iff_eq]; omega
    have e9 : ((x.length : Int) != (y.length : Int)) = false := by rw [bne, e0]; rfl
    have Hn := Lib.hid hn
    clear hn
    go_enter Try.func26, Try.ntmps26
    go_wp2
    go_loopw [5] (fun i wr => ∃ j : Nat, j ≤ x.length ∧ i = .int .i64 j ∧ x.take j = y.take j ∧ Below w.heap.size w wr) (fun i _ => x.length - (intOf i).toNat)
    case atStart => exact ⟨0, Nat.zero_le _, rfl, rfl, Below.refl _ _⟩
    case round =>
      obtain ⟨j, hj, rfl, htake, hbel⟩ := hrel
      by_cases hlt : j < x.length
      · obtain ⟨B1, b1, o1, ab1, cb1, hB1, rfl, p0, p1, p2, p3, p4, hby1, _, _⟩ := h1.cellsAt j hlt
        obtain ⟨B2, b2, o2, ab2, cb2, hB2, rfl, q0, q1, q2, q3, q4, hby2, _, _⟩ := h2.cellsAt j (by have := Hn.out; omega)
        obtain ⟨q, hq⟩ : ∃ q, sameB B1 B2 = q := ⟨_, rfl⟩
        have hsame : ∀ W, Below w.heap.size w W → Calls Try.prog 36 #[.agg (B1.cells ab1 cb1), .agg (B2.cells ab2 cb2)] W fun e w' => e = .returned (.bool q) ∧ Below W.heap.size W w' := fun W hW => by
          rw [← hq]; exact same_calls B1 B2 ab1 ab2 cb1 cb2 W (hby1.later hW) (hby2.later hW)
        have Hq := Lib.hid hq
        clear hq
        have Htk := Lib.hid htake
        have HB1 := Lib.hid hB1
        have HB2 := Lib.hid hB2
        have hjy : j < y.length := by have := Hn.out; omega
        clear htake hB1 hB2
        have hne : Nonempty (SW (fun W => Below w.heap.size w W)) := ⟨⟨w, Below.refl _ _⟩⟩
        go_wp2
        refine wp_region_seq (fun W => Below w.heap.size w W) [(0, true), (1, true), (2, true), (3, true), (4, true), (5, true), (6, true), (7, true), (8, false), (9, true)] (by kernel_rfl) (by kernel_rfl) (fun d _ _ _ _ h => by cases d <;> exact h) (hbel.drew) ?_
        repeat (first
          | (refine wpSeq_skip (o := ⟨_, _, _, _, _, _⟩) rfl rfl ?_; simp only [Act.put, List.setIfInBounds_toArray, List.set_cons_zero, List.set_cons_succ])
          | (refine wpSeq_free (o := ⟨_, _, _, _, _, _⟩) rfl rfl (fun K hK => ?_); go_big_quiet_op; (refine hK _ ?_; clear hK K)))
        refine wpSeq_next (o := ⟨_, _, _, _, _, _⟩) rfl rfl (fun K hK => ?_)
        go_simp
        go_at_call 36
        refine (hsame _ hbel.drew).mono ?_
        rintro e w2 ⟨rfl, hbel2⟩
        have hbel3 := below_call hbel.drew (Nat.le_refl _) hbel2
        refine hK.out _ _ (hbel3) ?_
        clear hK K
        repeat (first
          | (refine wpSeq_skip (o := ⟨_, _, _, _, _, _⟩) rfl rfl ?_; simp only [Act.put, List.setIfInBounds_toArray, List.set_cons_zero, List.set_cons_succ])
          | (refine wpSeq_free (o := ⟨_, _, _, _, _, _⟩) rfl rfl (fun K hK => ?_); go_big_quiet_op; (refine hK _ ?_; clear hK K)))
        refine wpSeq_nil ?_
        cases q with
        | true =>
          go_wp2
          go_roundw
          case rel =>
            refine ⟨j + 1, by omega, by go_num, ?_, hbel3⟩
            have e1 := (sameB_iff B1 B2).1 Hq.out
            rw [List.take_add_one, List.take_add_one, Htk.out, HB1.out, HB2.out, e1]
          case measure => simp [intOf]; omega
        | false =>
          go_wp2
          go_ret
          refine ⟨false, rfl, ?_, hbel3⟩
          simp only [Bool.false_eq_true, false_iff]
          intro h
          have e1 := HB1.out
          rw [h, HB2.out] at e1
          have := (sameB_iff B1 B2).2 (Option.some.inj e1).symm
          rw [Hq.out] at this
          cases this
      · obtain rfl : j = x.length := by omega
        go_wp2
        go_ret
        exact ⟨true, rfl, by rw [List.take_length, Hn.out, List.take_length] at htake; rw [htake]; simp, hbel⟩
  · have e0 : ((x.length : Int) == (y.length : Int)) = false := by rw [beq_eq_false_iff_ne]; omega
    go_enter Try.func26, Try.ntmps26
    go_wp2
    go_ret
    exact ⟨false, rfl, by simp; intro h; exact hn (by rw [h]), Below.refl _ _⟩

end Go.Proofs.Ytdlbjllgdikadaa
