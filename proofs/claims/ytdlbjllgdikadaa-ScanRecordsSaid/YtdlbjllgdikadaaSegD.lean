/- The document's Same and SameAll. -/
import Derived.Test.YtdlbjllgdikadaaSegC
namespace Go.Proofs.Ytdlbjllgdikadaa
open Go.RowKit

def sameB (x y : Blk) : Bool := ((x.serial : Int) == (y.serial : Int)) && ((x.kind.toNat : Int) == (y.kind.toNat : Int)) && (x.first == y.first) && (x.last == y.last) && (x.body == y.body)

theorem sameB_iff (x y : Blk) : sameB x y = true ↔ x = y := by
  obtain ⟨a, b, c, d, e⟩ := x
  obtain ⟨a', b', c', d', e'⟩ := y
  have hk : (b.toNat : Int) = (b'.toNat : Int) ↔ b = b' := ⟨fun h => UInt8.toNat.inj (by omega), fun h => by rw [h]⟩
  simp only [sameB, Bool.and_eq_true, beq_iff_eq, hk, Blk.mk.injEq, Int.natCast_inj, and_assoc]

set_option maxHeartbeats 1000000 in
set_option maxRecDepth 100000 in
theorem same_calls (x y : Blk) (a1 a2 : Option Addr) (c1 c2 : Nat) (w : World) (h1 : IsBytes w a1 x.body) (h2 : IsBytes w a2 y.body) :
    Calls Try.prog 36 #[.agg (x.cells a1 c1), .agg (y.cells a2 c2)] w fun e w' => e = .returned (.bool (sameB x y)) ∧ Below w.heap.size w w' := by
  obtain ⟨s, k, f, la, body⟩ := x
  obtain ⟨s', k', f', la', body'⟩ := y
  simp only [Blk.cells] at *
  have hB : Below w.heap.size w ((w.alloc (.cells (Blk.cells ⟨s, k, f, la, body⟩ a1 c1) 43)).alloc (.cells (Blk.cells ⟨s', k', f', la', body'⟩ a2 c2) 43)) := ((Below.refl _ _).alloc (Nat.le_refl _) _).alloc (by simp) _
  have e1 := conv_text (h1.later hB) (n := body.length) (cap := c1) rfl
  have e2 := conv_text (h2.later hB) (n := body'.length) (cap := c2) rfl
  simp only [Blk.cells] at *
  have hr : ∀ q : Bool, q = sameB ⟨s, k, f, la, body⟩ ⟨s', k', f', la', body'⟩ → Ending.returned (.bool q) = .returned (.bool (sameB ⟨s, k, f, la, body⟩ ⟨s', k', f', la', body'⟩)) := fun q h => by rw [h]
  have Hr := Lib.hid hr
  clear hr
  obtain ⟨q1, hq1⟩ : ∃ q1, ((s : Int) == (s' : Int)) = q1 := ⟨_, rfl⟩
  obtain ⟨q2, hq2⟩ : ∃ q2, ((k.toNat : Int) == (k'.toNat : Int)) = q2 := ⟨_, rfl⟩
  cases q1 with
  | false =>
    go_enter Try.func36, Try.ntmps36
    go_wp2
    go_ret
    exact ⟨Hr.out _ (by simp [sameB, hq1]), hB⟩
  | true =>
    cases q2 with
    | false =>
      go_enter Try.func36, Try.ntmps36
      go_wp2
      go_ret
      exact ⟨Hr.out _ (by simp [sameB, hq2]), hB⟩
    | true =>
      obtain ⟨q3, hq3⟩ : ∃ q3, (f == f') = q3 := ⟨_, rfl⟩
      cases q3 with
      | false =>
        go_enter Try.func36, Try.ntmps36
        go_wp2
        go_ret
        exact ⟨Hr.out _ (by simp [sameB, hq3]), hB⟩
      | true =>
        obtain ⟨q4, hq4⟩ : ∃ q4, (la == la') = q4 := ⟨_, rfl⟩
        cases q4 with
        | false =>
          go_enter Try.func36, Try.ntmps36
          go_wp2
          go_ret
          exact ⟨Hr.out _ (by simp [sameB, hq4]), hB⟩
        | true =>
          go_enter Try.func36, Try.ntmps36
          go_wp2
          go_ret
          exact ⟨Hr.out _ (by simp only [sameB, hq1, hq2, hq3, hq4, Bool.true_and]), hB⟩

/-- A block of a slice, its cells in the walk's spelling, in every world that keeps what is below. -/
theorem IsBs.cellsAt {w : World} {a : Option Addr} {l : List Blk} (h : IsBs w a l) (j : Nat) (hj : j < l.length) :
    ∃ B b off ab cap, l[j]? = some B ∧ a = some ⟨b, off, none⟩ ∧
      (∀ x : SW (fun W => Below w.heap.size w W), x.W.cell? ⟨b, off + j * 5, none⟩ = some (.int .u64 (B.serial : Int))) ∧
      (∀ x : SW (fun W => Below w.heap.size w W), x.W.cell? ⟨b, off + j * 5 + 1, none⟩ = some (.int .u8 (B.kind.toNat : Int))) ∧
      (∀ x : SW (fun W => Below w.heap.size w W), x.W.cell? ⟨b, off + j * 5 + 2, none⟩ = some (.bool B.first)) ∧
      (∀ x : SW (fun W => Below w.heap.size w W), x.W.cell? ⟨b, off + j * 5 + 3, none⟩ = some (.bool B.last)) ∧
      (∀ x : SW (fun W => Below w.heap.size w W), x.W.cell? ⟨b, off + j * 5 + 4, none⟩ = some (.slice ab B.body.length cap)) ∧
      IsBytes w ab B.body ∧ B.body.length ≤ cap ∧ (ab = none → B.body = [] ∧ cap = 0) := by
  obtain ⟨b, off, ab, cap, e, hc, hby, hle, hno⟩ := h j hj
  have key : ∀ q u, ((l[j]).cells ab cap)[q]? = some u → ∀ x : SW (fun W => Below w.heap.size w W), x.W.cell? ⟨b, off + j * 5 + q, none⟩ = some u := by
    intro q u hu x
    have h1 := hc q u hu
    rw [Nat.mul_comm] at h1
    exact (x.h.cell (p := ⟨b, off + j * 5 + q, none⟩) (World.block_lt_of_cell? w _ h1)).trans h1
  exact ⟨l[j], b, off, ab, cap, by simp [hj], e, key 0 _ rfl, key 1 _ rfl, key 2 _ rfl, key 3 _ rfl, key 4 _ rfl, hby, hle, hno⟩

def AllPost (x y : List Blk) (w : World) (e : Ending) (w' : World) : Prop := ∃ q : Bool, e = .returned (.bool q) ∧ (q = true ↔ x = y) ∧ Below w.heap.size w w'

set_option maxRecDepth 100000 in
theorem sameAll_calls (x y : List Blk) (a1 a2 : Option Addr) (c1 c2 : Nat) (w : World) (h1 : IsBs w a1 x) (h2 : IsBs w a2 y) (hl1 : x.length ≤ 70368744177664) (_hl2 : y.length ≤ 70368744177664) :
    Calls Try.prog 26 #[.slice a1 x.length c1, .slice a2 y.length c2] w (AllPost x y w) := by
  by_cases hn : x.length = y.length
  · have e0 : ((x.length : Int) == (y.length : Int)) = true := by rw [beq_iff_eq]; omega
    have e9 : ((x.length : Int) != (y.length : Int)) = false := by rw [bne, e0]; rfl
    have Hn := Lib.hid hn
    clear hn
    go_enter Try.func26, Try.ntmps26
    go_wp2
    go_loopw [5] (fun i wr => ∃ j : Nat, j ≤ x.length ∧ i = .int .i64 j ∧ x.take j = y.take j ∧ Below w.heap.size w wr) (fun i _ => x.length - (intOf i).toNat)
    case atStart => exact ⟨0, Nat.zero_le _, rfl, rfl, Below.refl _ _⟩
    case round =>
      obtain ⟨j, hj, rfl, htake, hbel⟩ := hrel
      by_cases hlt : j < x.length
      · obtain ⟨B1, b1, o1, ab1, cb1, hB1, rfl, p0, p1, p2, p3, p4, hby1, _, _⟩ := h1.cellsAt j hlt
        obtain ⟨B2, b2, o2, ab2, cb2, hB2, rfl, q0, q1, q2, q3, q4, hby2, _, _⟩ := h2.cellsAt j (by have := Hn.out; omega)
        obtain ⟨q, hq⟩ : ∃ q, sameB B1 B2 = q := ⟨_, rfl⟩
        have hsame : ∀ W, Below w.heap.size w W → Calls Try.prog 36 #[.agg (B1.cells ab1 cb1), .agg (B2.cells ab2 cb2)] W fun e w' => e = .returned (.bool q) ∧ Below W.heap.size W w' := fun W hW => by
          rw [← hq]; exact same_calls B1 B2 ab1 ab2 cb1 cb2 W (hby1.later hW) (hby2.later hW)
        have Hq := Lib.hid hq
        clear hq
        have Htk := Lib.hid htake
        have HB1 := Lib.hid hB1
        have HB2 := Lib.hid hB2
        have hjy : j < y.length := by have := Hn.out; omega
        clear htake hB1 hB2
        have hne : Nonempty (SW (fun W => Below w.heap.size w W)) := ⟨⟨w, Below.refl _ _⟩⟩
        go_wp2
        refine wp_region_seq (fun W => Below w.heap.size w W) [(0, true), (1, true), (2, true), (3, true), (4, true), (5, true), (6, true), (7, true), (8, false), (9, true)] (by kernel_rfl) (by kernel_rfl) (fun d _ _ _ _ h => by cases d <;> exact h) (hbel.drew) ?_
        repeat (first
          | (refine wpSeq_skip (o := ⟨_, _, _, _, _, _⟩) rfl rfl ?_; simp only [Act.put, List.setIfInBounds_toArray, List.set_cons_zero, List.set_cons_succ])
          | (refine wpSeq_free (o := ⟨_, _, _, _, _, _⟩) rfl rfl (fun K hK => ?_); go_big_quiet_op; (refine hK _ ?_; clear hK K)))
        refine wpSeq_next (o := ⟨_, _, _, _, _, _⟩) rfl rfl (fun K hK => ?_)
        go_simp
        go_at_call 36
        refine (hsame _ hbel.drew).mono ?_
        rintro e w2 ⟨rfl, hbel2⟩
        have hbel3 := below_call hbel.drew (Nat.le_refl _) hbel2
        refine hK.out _ _ (hbel3) ?_
        clear hK K
        repeat (first
          | (refine wpSeq_skip (o := ⟨_, _, _, _, _, _⟩) rfl rfl ?_; simp only [Act.put, List.setIfInBounds_toArray, List.set_cons_zero, List.set_cons_succ])
          | (refine wpSeq_free (o := ⟨_, _, _, _, _, _⟩) rfl rfl (fun K hK => ?_); go_big_quiet_op; (refine hK _ ?_; clear hK K)))
        refine wpSeq_nil ?_
        cases q with
        | true =>
          go_wp2
          go_roundw
          case rel =>
            refine ⟨j + 1, by omega, by go_num, ?_, hbel3⟩
            have e1 := (sameB_iff B1 B2).1 Hq.out
            rw [List.take_add_one, List.take_add_one, Htk.out, HB1.out, HB2.out, e1]
          case measure => simp [intOf]; omega
        | false =>
          go_wp2
          go_ret
          refine ⟨false, rfl, ?_, hbel3⟩
          simp only [Bool.false_eq_true, false_iff]
          intro h
          have e1 := HB1.out
          rw [h, HB2.out] at e1
          have := (sameB_iff B1 B2).2 (Option.some.inj e1).symm
          rw [Hq.out] at this
          cases this
      · obtain rfl : j = x.length := by omega
        go_wp2
        go_ret
        exact ⟨true, rfl, by rw [List.take_length, Hn.out, List.take_length] at htake; rw [htake]; simp, hbel⟩
  · have e0 : ((x.length : Int) == (y.length : Int)) = false := by rw [beq_eq_false_iff_ne]; omega
    go_enter Try.func26, Try.ntmps26
    go_wp2
    go_ret
    exact ⟨false, rfl, by simp; intro h; exact hn (by rw [h]), Below.refl _ _⟩

end Go.Proofs.Ytdlbjllgdikadaa
