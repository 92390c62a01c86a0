/- log: a log in memory; none, settle, room, Down, Waiting, Room. -/
import Derived.Test.YtdlbjllgdikadaaTornA
namespace Go.Proofs.Ytdlbjllgdikadaa
open Go.RowKit
set_option linter.unusedVariables false
set_option linter.unusedSimpArgs false

/-- A log, without its device. -/
structure Lg where
  base : Nat
  next : Nat
  lasts : List Rc
  waits : List Rc
  many : Nat
  down : Bool
def Lg.cells (g : Lg) (D : Nat) (v1 v2 : Value) : Array Value := #[.pointer (some ⟨D, 0, none⟩), .int .u64 (g.base : Int), .int .u64 (g.next : Int), v1, v2, .int .i64 (g.many : Int), .bool g.down]
def LogAt (w : World) (X D : Nat) (g : Lg) (v1 v2 : Value) : Prop := w.heap[X]? = some (.cells (g.cells D v1 v2) 100 (0, 0))

section
variable {w w' : World} {X D : Nat} {g g' : Lg} {v1 v2 : Value}
theorem LogAt.cell (h : LogAt w X D g v1 v2) (q : Nat) (u : Value) (hu : (g.cells D v1 v2)[q]? = some u) : w.cell? ⟨X, q, none⟩ = some u := by rw [cell_of_row w X q _ _ _ h, hu]
theorem LogAt.c0 (h : LogAt w X D g v1 v2) : w.cell? ⟨X, 0, none⟩ = some (.pointer (some ⟨D, 0, none⟩)) := h.cell 0 _ rfl
theorem LogAt.c1 (h : LogAt w X D g v1 v2) : w.cell? ⟨X, 1, none⟩ = some (.int .u64 (g.base : Int)) := h.cell 1 _ rfl
theorem LogAt.c2 (h : LogAt w X D g v1 v2) : w.cell? ⟨X, 2, none⟩ = some (.int .u64 (g.next : Int)) := h.cell 2 _ rfl
theorem LogAt.c3 (h : LogAt w X D g v1 v2) : w.cell? ⟨X, 3, none⟩ = some v1 := h.cell 3 _ rfl
theorem LogAt.c4 (h : LogAt w X D g v1 v2) : w.cell? ⟨X, 4, none⟩ = some v2 := h.cell 4 _ rfl
theorem LogAt.c5 (h : LogAt w X D g v1 v2) : w.cell? ⟨X, 5, none⟩ = some (.int .i64 (g.many : Int)) := h.cell 5 _ rfl
theorem LogAt.c6 (h : LogAt w X D g v1 v2) : w.cell? ⟨X, 6, none⟩ = some (.bool g.down) := h.cell 6 _ rfl
theorem LogAt.free (h : LogAt w X D g v1 v2) (q : Nat) : w.frozen? ⟨X, q, none⟩ = false := frozen_of_row w X q _ _ h
theorem LogAt.lt (h : LogAt w X D g v1 v2) : X < w.heap.size := lt_of_block h
theorem LogAt.later (h : LogAt w X D g v1 v2) (hb : Below w.heap.size w w') : LogAt w' X D g v1 v2 := (hb.block X (lt_of_block h)).trans h
theorem LogAt.aside {T : List Nat} (h : LogAt w X D g v1 v2) (k : Aside T w w') (hT : X ∉ T) : LogAt w' X D g v1 v2 := (k.block X (lt_of_block h) hT).trans h
theorem LogAt.kept {row : Option Nat} (h : LogAt w X D g v1 v2) (k : w.grownBy w' row) (hT : some X ≠ row) : LogAt w' X D g v1 v2 := (k.block X (lt_of_block h) hT).trans h
theorem LogAt.other (h : LogAt w X D g v1 v2) (p : Addr) (u : Value) (hX : X ≠ p.block) : LogAt (w.setCell p u) X D g v1 v2 := (heap_setCell_other w p X u hX).trans h
theorem LogAt.stored {u1 u2 : Value} (h : LogAt w X D g v1 v2) (q : Nat) (u : Value) (hu : (g.cells D v1 v2).setIfInBounds q u = g'.cells D u1 u2) : LogAt (w.setCell ⟨X, q, none⟩ u) X D g' u1 u2 := by
  unfold LogAt
  rw [heap_setCell_same w X q _ 100 _ h, hu]
end

theorem none_log (X D : Nat) (g : Lg) (v1 v2 : Value) (w : World) (h : LogAt w X D g v1 v2) :
    Calls Try.prog 97 #[.pointer (some ⟨X, 0, none⟩)] w fun e w' => e = .returned (.bool false) ∧ w = w' := by
  have c0 := h.c0
  go_enter Try.func97, Try.ntmps97
  go_wp2
  go_ret
  exact ⟨rfl, rfl⟩
theorem none_nil (w : World) : Calls Try.prog 97 #[.pointer none] w fun e w' => e = .returned (.bool true) ∧ w = w' := by
  go_enter Try.func97, Try.ntmps97
  go_wp2
  go_ret
  exact ⟨rfl, rfl⟩
theorem none_zero (X : Nat) (w : World) (h : w.cell? ⟨X, 0, none⟩ = some (.pointer none)) :
    Calls Try.prog 97 #[.pointer (some ⟨X, 0, none⟩)] w fun e w' => e = .returned (.bool true) ∧ w = w' := by
  go_enter Try.func97, Try.ntmps97
  go_wp2
  go_ret
  exact ⟨rfl, rfl⟩

/-- What the document calls the base. -/
def baseOf (next : Nat) (l : List Rc) : Nat := match l with
  | [] => next / 8 * 8
  | r :: _ => r.from_ / 8 * 8

theorem OwnRs.off {w : World} {B X : Nat} {v : Value} {l : List Rc} {cs : Array Value} {t : TypeId} {fz : Nat × Nat} (h : OwnRs w B v l) (hX : w.heap[X]? = some (.cells cs t fz)) (ht : t ≠ 91) : v.ownBlock ≠ some X := fun e => by
  obtain ⟨c1, f1, z1⟩ := h.kind X e
  rw [hX] at z1
  simp at z1
  exact ht z1.2.1

theorem settle_log (B X D : Nat) (g : Lg) (v1 v2 : Value) (w : World) (h : LogAt w X D g v1 v2) (hO : OwnRs w B v1 g.lasts) (hn : g.next < 18446744073709551616) (hf : ∀ r ∈ g.lasts, r.from_ < 18446744073709551616) :
    Calls Try.prog 101 #[.pointer (some ⟨X, 0, none⟩)] w fun e w' => e = .returned (.tuple #[]) ∧ LogAt w' X D { g with base := baseOf g.next g.lasts } v1 v2 ∧ w.grownBy w' (some X) := by
  obtain ⟨base, next, lasts, waits, many, down⟩ := g
  simp only at hO hn hf ⊢
  have hoff := hO.off h (by decide)
  obtain ⟨a, c, rfl, hI, _, _, _, hno⟩ := hO.slice
  have c0 := h.c0
  have c1 := h.c1
  have c2 := h.c2
  have c3 := h.c3
  have f1 := h.free 1
  have h1 := h.stored (g' := ⟨next / 8 * 8, next, lasts, waits, many, down⟩) 1 (.int .u64 ((next / 8 * 8 : Nat) : Int)) rfl
  have hs := Lib.hid (fun s hs W => start_calls s hs W)
  have HN := Lib.hid hn
  simp only at c1 c2 c3
  cases lasts with
  | nil =>
    have hb : baseOf next [] = next / 8 * 8 := rfl
    rw [hb]
    have H1 := Lib.hid h1
    clear hI hO h1 hb h hf hno hn
    simp only [List.length_nil] at c3 ⊢
    go_enter Try.func101, Try.ntmps101
    go_wp2_with (go_at_call 29; refine (hs.out next HN.out _).mono ?_; rintro e w3 ⟨rfl, rfl⟩)
    go_end0
    exact ⟨rfl, H1.out, grown_setCell _ _ _⟩
  | cons r rs =>
    have hb : baseOf next (r :: rs) = r.from_ / 8 * 8 := rfl
    rw [hb]
    have h2 := h1.stored (g' := ⟨r.from_ / 8 * 8, next, r :: rs, waits, many, down⟩) 1 (.int .u64 ((r.from_ / 8 * 8 : Nat) : Int)) rfl
    have c31 := h1.c3
    obtain ⟨gb, ab, cb, rfl, _, hgl, hk, _⟩ := hO.memAt 0 (by simp)
    have y1 : w.cell? ⟨gb, 1, none⟩ = some (.int .u64 (r.from_ : Int)) := hk 1 _ rfl
    have hgX : gb ≠ X := fun e => hoff (by rw [e]; rfl)
    have hr := hf r (List.mem_cons_self ..)
    obtain ⟨n, hn1⟩ : ∃ n, n = (r :: rs).length := ⟨_, rfl⟩
    have hnI : (0 : Int) < (n : Int) := by rw [hn1]; simp only [List.length_cons]; omega
    have H2 := Lib.hid h2
    have HR := Lib.hid hr
    rw [← hn1] at c3 h2 H2
    have Hn1 := Lib.hid hn1
    have tok : True := trivial
    clear hI hO h1 hb h hf hno hn hoff hk h2 c31 hr hn1
    go_enter Try.func101, Try.ntmps101
    go_wp2_with (first
      | (go_at_call 29; have _t := tok; clear tok _t; refine (hs.out next HN.out _).mono ?_; rintro e w3 ⟨rfl, rfl⟩)
      | (go_at_call 29; refine (hs.out r.from_ HR.out _).mono ?_; rintro e w4 ⟨rfl, rfl⟩))
    go_end0
    have hle : (rs.length + 1) = n := by rw [Hn1.out]; rfl
    rw [hle]
    exact ⟨rfl, H2.out, ⟨rfl, rfl, rfl, by simp, fun k _ hk => by
      have hk' : k ≠ X := fun e => hk (by rw [e])
      rw [heap_setCell_other _ _ _ _ hk', heap_setCell_other _ _ _ _ hk']⟩⟩

set_option maxRecDepth 100000 in
/-- How many blocks are free. -/
theorem room_log (X D b : Nat) (d : Dev) (g : Lg) (v1 v2 : Value) (more : Nat) (w : World) (h : LogAt w X D g v1 v2) (hD : DevAt w D b d) (hbn : g.base ≤ g.next) (hnb : g.next ≤ g.base + 4611686018427387904) (hm : more ≤ 4611686018427387904) (hn : g.next < 18446744073709551616) :
    Calls Try.prog 103 #[.pointer (some ⟨X, 0, none⟩), .int .i64 (more : Int)] w fun e w' => e = .returned (.int .i64 ((d.blocks : Int) - ((g.next - g.base : Nat) : Int) - (more : Int))) ∧ Below w.heap.size w w' := by
  have e0 : ∀ x : SW (fun W => Below w.heap.size w W), x.W.cell? ⟨X, 0, none⟩ = some (.pointer (some ⟨D, 0, none⟩)) := fun x => (h.later x.h).c0
  have e1 : ∀ x : SW (fun W => Below w.heap.size w W), x.W.cell? ⟨X, 1, none⟩ = some (.int .u64 (g.base : Int)) := fun x => (h.later x.h).c1
  have e2 : ∀ x : SW (fun W => Below w.heap.size w W), x.W.cell? ⟨X, 2, none⟩ = some (.int .u64 (g.next : Int)) := fun x => (h.later x.h).c2
  have hbl := Lib.hid (fun W hb => blocks_dev D b d W (hD.later (w' := W) hb))
  have hne : Nonempty (SW (fun W => Below w.heap.size w W)) := ⟨⟨w, Below.refl _ _⟩⟩
  have hdb := hD.2.2
  have hsub : (g.next : Int) - (g.base : Int) = ((g.next - g.base : Nat) : Int) := by omega
  go_enter Try.func103, Try.ntmps103
  go_wp2
  refine wp_region_seq2 (fun W => Below w.heap.size w W) [(0, true), (1, true), (2, true), (3, true), (5, true), (6, true), (7, true), (8, true), (9, true), (10, true), (11, true), (12, true), (13, true), (14, true), (16, true), (4, false), (15, true), (17, true), (18, true)] (by kernel_rfl) (by kernel_rfl) (fun d _ _ _ _ h => by cases d <;> exact h) ((Below.refl _ w).drew) ?_
  repeat (first
    | ((with_reducible refine wpSeq_skip (o := ⟨_, _, _, _, _, _⟩) (by with_unfolding_all exact rfl) (by with_unfolding_all exact rfl) ?_); simp only [Act.put, List.setIfInBounds_toArray, List.set_cons_zero, List.set_cons_succ])
    | ((with_reducible refine wpSeq_free (o := ⟨_, _, _, _, _, _⟩) (by with_unfolding_all exact rfl) (by with_unfolding_all exact rfl) (fun K hK => ?_)); go_big_quiet_op; (refine hK _ ?_; clear hK K)))
  with_reducible refine wpSeq_next (o := ⟨_, _, _, _, _, _⟩) (by with_unfolding_all exact rfl) (by with_unfolding_all exact rfl) (fun K hK => ?_)
  go_simp
  go_at_call 55
  refine (hbl.out _ (Below.refl _ w).drew).mono ?_
  rintro e w3 ⟨rfl, rfl⟩
  refine hK.out _ _ ((Below.refl _ w).drew) ?_
  clear hK K
  repeat (first
    | ((with_reducible refine wpSeq_skip (o := ⟨_, _, _, _, _, _⟩) (by with_unfolding_all exact rfl) (by with_unfolding_all exact rfl) ?_); simp only [Act.put, List.setIfInBounds_toArray, List.set_cons_zero, List.set_cons_succ])
    | ((with_reducible refine wpSeq_free (o := ⟨_, _, _, _, _, _⟩) (by with_unfolding_all exact rfl) (by with_unfolding_all exact rfl) (fun K hK => ?_)); go_big_quiet_op; (refine hK _ ?_; clear hK K)))
  refine wpSeq_nil ?_
  go_wp2
  go_ret
  exact ⟨rfl, (Below.refl _ w).drew⟩

theorem down_log (X D : Nat) (g : Lg) (v1 v2 : Value) (w : World) (h : LogAt w X D g v1 v2) :
    Calls Try.prog 72 #[.pointer (some ⟨X, 0, none⟩)] w fun e w' => e = .returned (.bool g.down) ∧ w = w' := by
  have c6 := h.c6
  go_enter Try.func72, Try.ntmps72
  go_wp2_with (go_at_call 97; refine (none_log X D g v1 v2 w h).mono ?_; rintro e w2 ⟨rfl, rfl⟩)
  go_ret
  exact ⟨rfl, rfl⟩
theorem down_none (p : Option Addr) (w : World) (h97 : Calls Try.prog 97 #[.pointer p] w fun e w' => e = .returned (.bool true) ∧ w = w') :
    Calls Try.prog 72 #[.pointer p] w fun e w' => e = .returned (.bool true) ∧ w = w' := by
  go_enter Try.func72, Try.ntmps72
  go_wp2_with (go_at_call 97; refine h97.mono ?_; rintro e w2 ⟨rfl, rfl⟩)
  go_ret
  exact ⟨rfl, rfl⟩
theorem waiting_log (B X D : Nat) (g : Lg) (v1 v2 : Value) (w : World) (h : LogAt w X D g v1 v2) (hO : OwnRs w B v2 g.waits) :
    Calls Try.prog 70 #[.pointer (some ⟨X, 0, none⟩)] w fun e w' => e = .returned (.int .i64 (g.waits.length : Int)) ∧ w = w' := by
  obtain ⟨a, c, rfl, _⟩ := hO.slice
  have c4 := h.c4
  go_enter Try.func70, Try.ntmps70
  go_wp2_with (go_at_call 97; refine (none_log X D g v1 _ w h).mono ?_; rintro e w2 ⟨rfl, rfl⟩)
  go_ret
  exact ⟨rfl, rfl⟩
theorem waiting_none (p : Option Addr) (w : World) (h97 : Calls Try.prog 97 #[.pointer p] w fun e w' => e = .returned (.bool true) ∧ w = w') :
    Calls Try.prog 70 #[.pointer p] w fun e w' => e = .returned (.int .i64 0) ∧ w = w' := by
  go_enter Try.func70, Try.ntmps70
  go_wp2_with (go_at_call 97; refine h97.mono ?_; rintro e w2 ⟨rfl, rfl⟩)
  go_ret
  exact ⟨rfl, rfl⟩
theorem room_none (p : Option Addr) (w : World) (h97 : Calls Try.prog 97 #[.pointer p] w fun e w' => e = .returned (.bool true) ∧ w = w') :
    Calls Try.prog 71 #[.pointer p] w fun e w' => e = .returned (.int .i64 0) ∧ w = w' := by
  go_enter Try.func71, Try.ntmps71
  go_wp2_with (go_at_call 72; refine (down_none p w h97).mono ?_; rintro e w2 ⟨rfl, rfl⟩)
  go_ret
  exact ⟨rfl, rfl⟩

def roomI (d : Dev) (g : Lg) : Int := if g.down then 0 else (d.blocks : Int) - ((g.next - g.base : Nat) : Int) - (g.many : Int)
set_option maxRecDepth 100000 in
theorem roomM_log (X D b : Nat) (d : Dev) (g : Lg) (v1 v2 : Value) (w : World) (h : LogAt w X D g v1 v2) (hD : DevAt w D b d) (hbn : g.base ≤ g.next) (hnb : g.next ≤ g.base + 4611686018427387904) (hm : g.many ≤ 4611686018427387904) (hn : g.next < 18446744073709551616) :
    Calls Try.prog 71 #[.pointer (some ⟨X, 0, none⟩)] w fun e w' => e = .returned (.int .i64 (roomI d g)) ∧ Below w.heap.size w w' := by
  have hd72 := down_log X D g v1 v2 w h
  cases hd : g.down with
  | true =>
    rw [hd] at hd72
    have HR := Lib.hid (show roomI d g = 0 by unfold roomI; rw [hd, if_pos rfl])
    rw [HR.out]
    clear hd
    go_enter Try.func71, Try.ntmps71
    go_wp2_with (go_at_call 72; refine hd72.mono ?_; rintro e w2 ⟨rfl, rfl⟩)
    go_ret
    exact ⟨rfl, Below.refl _ _⟩
  | false =>
    rw [hd] at hd72
    have HR := Lib.hid (show roomI d g = (d.blocks : Int) - ((g.next - g.base : Nat) : Int) - (g.many : Int) by unfold roomI; rw [hd, if_neg Bool.false_ne_true])
    rw [HR.out]
    clear hd
    have e5 : ∀ x : SW (fun W => Below w.heap.size w W), x.W.cell? ⟨X, 5, none⟩ = some (.int .i64 (g.many : Int)) := fun x => (h.later x.h).c5
    have hrm := Lib.hid (fun W (hb : Below w.heap.size w W) => room_log X D b d g v1 v2 g.many W (h.later hb) (hD.later hb) hbn hnb hm hn)
    have hne : Nonempty (SW (fun W => Below w.heap.size w W)) := ⟨⟨w, Below.refl _ _⟩⟩
    go_enter Try.func71, Try.ntmps71
    go_upto_region 3 with (go_at_call 72; refine hd72.mono ?_; rintro e w2 ⟨rfl, rfl⟩)
    refine wp_region_seq2 (fun W => Below w.heap.size w W) [(0, true), (1, true), (2, true), (3, true), (4, true), (5, true), (6, true), (7, false), (8, true)] (by kernel_rfl) (by kernel_rfl) (fun d _ _ _ _ h => by cases d <;> exact h) ((Below.refl _ w).drew) ?_
    repeat (first
      | ((with_reducible refine wpSeq_skip (o := ⟨_, _, _, _, _, _⟩) (by with_unfolding_all exact rfl) (by with_unfolding_all exact rfl) ?_); simp only [Act.put, List.setIfInBounds_toArray, List.set_cons_zero, List.set_cons_succ])
      | ((with_reducible refine wpSeq_free (o := ⟨_, _, _, _, _, _⟩) (by with_unfolding_all exact rfl) (by with_unfolding_all exact rfl) (fun K hK => ?_)); go_big_quiet_op; (refine hK _ ?_; clear hK K)))
    with_reducible refine wpSeq_next (o := ⟨_, _, _, _, _, _⟩) (by with_unfolding_all exact rfl) (by with_unfolding_all exact rfl) (fun K hK => ?_)
    go_simp
    go_at_call 103
    refine (hrm.out _ (Below.refl _ w).drew).mono ?_
    rintro e w3 ⟨rfl, hB3⟩
    refine hK.out _ _ (below_call (Below.refl _ w).drew (Nat.le_refl _) hB3) ?_
    clear hK K
    repeat (first
      | ((with_reducible refine wpSeq_skip (o := ⟨_, _, _, _, _, _⟩) (by with_unfolding_all exact rfl) (by with_unfolding_all exact rfl) ?_); simp only [Act.put, List.setIfInBounds_toArray, List.set_cons_zero, List.set_cons_succ])
      | ((with_reducible refine wpSeq_free (o := ⟨_, _, _, _, _, _⟩) (by with_unfolding_all exact rfl) (by with_unfolding_all exact rfl) (fun K hK => ?_)); go_big_quiet_op; (refine hK _ ?_; clear hK K)))
    refine wpSeq_nil ?_
    go_wp2
    go_ret
    exact ⟨rfl, below_call (Below.refl _ w).drew (Nat.le_refl _) hB3⟩
end Go.Proofs.Ytdlbjllgdikadaa
