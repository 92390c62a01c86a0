/- segment.Encode of what may be. -/
import Derived.Test.YtdlbjllgdikadaaSegG
import Derived.OwnWalk
import Derived.Test.YtdlbjllgdikadaaSeqB
namespace Go.Proofs.Ytdlbjllgdikadaa
open Go.RowKit CrcM

/-- A block of memory that holds these bytes, and no more. -/
def ArrB (w : World) (g : Nat) (l : List UInt8) : Prop := w.heap[g]? = some (.cells (bvals l).toArray 5 (0, 0))

theorem ArrB.own {w : World} {g base : Nat} {l : List UInt8} (h : ArrB w g l) (hb : base ≤ g) (hm : l.length ≤ 140737488355328) : OwnB w base (.slice (some ⟨g, 0, none⟩) l.length l.length) l :=
  ⟨by simp [bvals], .inr ⟨g, l.length, _, rfl, hb, h, Nat.le_refl _, by unfold maxLen; omega, by simp [bvals], by rw [List.toList_toArray, Nat.mul_one, List.take_of_length_le (by rw [bvals_length]; exact Nat.le_refl _)]⟩⟩

theorem ArrB.of {w : World} {g base n : Nat} {l : List UInt8} (h : OwnB w base (.slice (some ⟨g, 0, none⟩) n n) l) : ArrB w g l := by
  obtain ⟨h1, h2⟩ := h
  rcases h2 with ⟨h3, _⟩ | ⟨g', cap, cur, e, _, hg, _, _, hs, ht⟩
  · cases h3
  · cases e
    unfold ArrB
    rw [hg]
    have : cur.toList = bvals l := by
      rw [← ht, List.take_of_length_le]
      simp [hs]
    rw [← this]

theorem ArrB.stored {w : World} {g : Nat} {l : List UInt8} (h : ArrB w g l) (i : Nat) (x : UInt8) : ArrB (w.setCell ⟨g, i, none⟩ (.int .u8 (x.toNat : Int))) g (l.set i x) := by
  unfold ArrB at *
  rw [heap_setCell_same w g i _ 5 _ h]
  simp [bvals, bval, List.map_set]

theorem ArrB.cell {w : World} {g : Nat} {l : List UInt8} (h : ArrB w g l) (i : Nat) (hi : i < l.length) : w.cell? ⟨g, i, none⟩ = some (.int .u8 (l[i].toNat : Int)) := by
  rw [cell_of_row w g i _ _ _ h]
  simp [bvals, bval, hi]

theorem ArrB.free {w : World} {g : Nat} {l : List UInt8} (h : ArrB w g l) (i : Nat) : w.frozen? ⟨g, i, none⟩ = false := frozen_of_row w g i _ _ h

theorem ArrB.later {w w' : World} {g : Nat} {l : List UInt8} (h : ArrB w g l) (hb : Below w.heap.size w w') : ArrB w' g l := (hb.block g (lt_of_block h)).trans h

/-- 'make([]byte, n)'. -/
theorem wpList_make_bytes {w : World} {ops : Array Oper} {rest : List Oper} {o : Oper} {a : Act} {Q : Exit → Act → World → Prop} (hgd : o.guard = none) (l c : Operand)
    (ho : o.op = .makeSlice 22 l c) (n : Nat) (L C : Int) (hl : a.eval l = .int .i64 L) (hc : a.eval c = .int .i64 C) (hL : L = (n : Int)) (hC : C = (n : Int)) (hn : n ≤ 140737488355328)
    (h : ∀ w', ArrB w' w.heap.size (List.replicate n 0) → w.grownBy w' none → wpList Try.prog ops Q rest (a.put o.dst (.slice (some ⟨w.heap.size, 0, none⟩) n n)) w') : wpList Try.prog ops Q (o :: rest) a w := by
  obtain ⟨i0, hi, hz0, hz1, hz2⟩ := info_parts info5
  refine wpList_make_full w hgd l c 22 ho w.heap.size 5 i0 (.int .u8 0) 1 Try.underlying22 hi hz0 hz1 .i64 .i64 L C n hl hc hL hC (by rw [hz2]; omega) (by unfold maxLen; omega) (Nat.le_refl _) ?_
  intro w' h1 h2
  refine h w' (ArrB.of (base := w.heap.size) (n := n) ?_) h2
  unfold OwnB
  rw [List.length_replicate]
  have e : (madeCells (Value.int .u8 0).cells (n * 1)).toList = bvals (List.replicate n 0) := by
    rw [Nat.mul_one]
    apply List.ext_getElem
    · simp [madeCells, bvals]
    · intro i h3 h4
      have h5 : i % 1 = 0 := Nat.mod_one i
      simp [madeCells, Value.cells, bvals, bval, h5]
  rw [← e]
  exact h1

/-- 'copy(b[off:], x)'. -/
theorem wp_copy_bytes {w : World} {o : Oper} {a : Act} {K : Act → World → Prop} {Q : Exit → Act → World → Prop} (d s : Operand)
    (ho : o.op = .call { callee := .builtin .copy, args := #[d, s], argTypes := #[22, 22] })
    (g off dLen dCap : Nat) (l : List UInt8) (hd : a.eval d = .slice (some ⟨g, off, none⟩) dLen dCap) (hg : ArrB w g l) (hfit : off + dLen ≤ l.length)
    (ao : Option Addr) (m c : Nat) (src : List UInt8) (hs : a.eval s = .slice ao m c) (hm : m = src.length) (hsrc : IsBytes w ao src)
    (h : ∀ w' n, ArrB w' g (l.take off ++ (src.take dLen ++ l.drop (off + (src.take dLen).length))) → Below g w w' → K (a.put o.dst (goInt n)) w') : o.wp Try.prog a w K Q := by
  have hsz : (Try.prog.info? 5).map (·.size) = some 1 := by kernel_rfl
  have hl : (src.take dLen).length = Nat.min m dLen := by rw [List.length_take, hm, Nat.min_comm]
  by_cases h0 : src.take dLen = []
  · have hrun := run_copy_none (P := Try.prog) w 22 22 o.type 5 (some ⟨g, off, none⟩) ao dLen dCap m c Try.underlying22 hsz (by rw [← hl, h0]; rfl)
    unfold Oper.wp
    simp [execOp, ho, resolve, invoke, builtin, hd, hs, hrun, Result.andThen]
    refine h w 0 ?_ (Below.refl _ _)
    rw [h0]
    simpa using hg
  · have hpos : 0 < src.length := by
      cases src with
      | nil => simp at h0
      | cons x r => simp
    obtain ⟨b, of2, rfl, _⟩ := hsrc 0 hpos
    have hrun := run_copy_row (P := Try.prog) w 22 22 o.type 5 g off dLen dCap ⟨b, of2, none⟩ m c (bvals l).toArray 5 (bvals (src.take dLen)) Try.underlying22 hsz hg (by rw [bvals_length, hl])
      (hsrc.take dLen).cells (by have := Nat.min_le_right m dLen; rw [bvals_length, hl, List.size_toArray, bvals_length]; change off + min m dLen ≤ _; omega) (bvals_one _)
    unfold Oper.wp
    simp [execOp, ho, resolve, invoke, builtin, hd, hs, hrun, Result.andThen]
    refine h _ _ ?_ (below_setRow (Below.refl _ _) (Nat.le_refl _) _)
    unfold ArrB
    rw [setRow_heap w g _ _ 5 (0, 0) hg]
    simp [bvals, List.map_take, List.map_drop]


def encH (s : Nat) (x : UInt8) (n : Nat) : List UInt8 := leB s 8 ++ [x, UInt8.ofNat n] ++ List.replicate 50 0
theorem encH_set (s : Nat) (x : UInt8) (n : Nat) : ((leB s 8 ++ List.replicate (60 - 8) 0).set 8 x).set 9 (UInt8.ofNat n) = encH s x n := by
  unfold encH
  rw [List.set_append_right _ _ (by rw [leB_length]; exact Nat.le_refl _), leB_length, List.set_append_right _ _ (by rw [leB_length]; omega), leB_length, List.append_assoc]
  rfl
theorem encH_set8 (s : Nat) (x y : UInt8) (n : Nat) : (encH s x n).set 8 y = encH s y n := by
  unfold encH
  rw [List.append_assoc, List.set_append_right _ _ (by rw [leB_length]; exact Nat.le_refl _), leB_length, List.append_assoc]
  rfl
theorem enc_fin (s : Nat) (x : UInt8) (body : List UInt8) (h : body.length ≤ 48) :
    (encH s x body.length).take 10 ++ (body.take 50 ++ (encH s x body.length).drop (10 + (body.take 50).length)) = leB s 8 ++ [x, UInt8.ofNat body.length] ++ body ++ List.replicate (50 - body.length) 0 := by
  have e : body.take 50 = body := List.take_of_length_le (by omega)
  have e10 : (leB s 8 ++ [x, UInt8.ofNat body.length]).length = 10 := by simp [leB_length]
  rw [e]
  unfold encH
  rw [List.take_append_of_le_length (by rw [e10]; exact Nat.le_refl _), List.take_of_length_le (by rw [e10]; exact Nat.le_refl _), ← List.drop_drop, show (leB s 8 ++ [x, UInt8.ofNat body.length] ++ List.replicate 50 (0 : UInt8)).drop 10 = List.replicate 50 0 from by
    rw [← e10, List.drop_left], List.drop_replicate]
  simp only [List.append_assoc]
theorem over_world {C : World → Prop} {R : World → Prop} {W : World} (h1 : R W) (h : ∀ W', R W' → C W') : C W := h W h1

theorem boxAt2 {w W : World} {g : Nat} {cs : Array Value} (hg : g = w.heap.size + 1) (h : Below g (w.alloc (.cells cs 43)) W) (q : Nat) (u : Value) (hu : cs[q]? = some u) : W.cell? ⟨w.heap.size, q, none⟩ = some u := by
  subst hg
  exact boxAt h q u hu
theorem leB_set (s j : Nat) (hj : j < 8) : (leB s j ++ List.replicate (60 - j) 0).set j (UInt8.ofNat (s / 256 ^ j % 256)) = leB s (j + 1) ++ List.replicate (60 - (j + 1)) 0 := by
  rw [List.set_append_right _ _ (by rw [leB_length]; exact Nat.le_refl _), leB_length, Nat.sub_self, leB_succ, List.append_assoc]
  obtain ⟨q, hq⟩ : ∃ q, 60 - j = q + 1 := ⟨59 - j, by omega⟩
  rw [hq, List.replicate_succ, List.set_cons_zero, show 60 - (j + 1) = q by omega]
  rfl
theorem ofNat_mod (n : Nat) : ((UInt8.ofNat (n % 256)).toNat : Int) = (n : Int) % 256 := by simp
theorem pow_eight (s j : Nat) : (((s : Int) / 2 ^ (8 * j)) % 256) = ((s / 256 ^ j : Nat) : Int) % 256 := by
  rw [Int.pow_mul]; simp

set_option linter.unusedSimpArgs false in
set_option maxHeartbeats 4000000 in
set_option maxRecDepth 100000 in
theorem encode_good (b : Blk) (a : Option Addr) (cap : Nat) (w : World) (hcap : b.body.length ≤ cap) (hno : a = none → b.body.length = 0 ∧ cap = 0) (hby : IsBytes w a b.body) (hmay : mayB b = true) :
    Calls Try.prog 31 #[.agg (b.cells a cap)] w (EncPost b w) := by
  have hmm := hmay
  simp only [mayB, Bool.and_eq_true, decide_eq_true_eq, kindB_iff] at hmm
  obtain ⟨⟨⟨hs, hk1, hk2⟩, hl⟩, _⟩ := hmm
  have hm : ∀ W, Calls Try.prog 33 #[.agg (b.cells a cap)] W fun e w' => e = .returned (.bool true) ∧ Below W.heap.size W w' := fun W => by
    rw [← hmay]; exact may_calls b a cap W (by omega) (by omega)
  have Hmay := Lib.hid hmay
  have Hel := Lib.hid (encB_length b hl)
  clear hmay
  obtain ⟨s, k, f, la, body⟩ := b
  simp only [Blk.cells] at *
  obtain ⟨g, hg⟩ : ∃ g, g = w.heap.size + 1 := ⟨_, rfl⟩
  have hB : Below g (w.alloc (.cells (Blk.cells ⟨s, k, f, la, body⟩ a cap) 43)) (w.alloc (.cells (Blk.cells ⟨s, k, f, la, body⟩ a cap) 43)) := Below.refl _ _
  have Hg := Lib.hid hg
  simp only [Blk.cells] at hB
  clear hg
  go_enter Try.func31, Try.ntmps31
  go_wp2_with (first
    | (go_at_call 33; refine (hm _).mono ?_; rintro e w2 ⟨rfl, hB2⟩; have hB3 := below_call hB (by have := Hg.out; simp; omega) hB2; clear hB2 hB)
    | (refine wpList_make_bytes rfl _ _ rfl 60 60 60 rfl rfl rfl rfl (by decide) ?_; intro w3 harr hgr; have hB4 := hB3.grown hgr (by have := hB3.size; have := Hg.out; simp at *; omega) (fun _ h => nomatch h); have hgG : g ≤ w2.heap.size := (by have := hB3.size; have := Hg.out; simp at *; omega); clear hgr hB3))
  obtain ⟨G, hG⟩ : ∃ G, G = w2.heap.size := ⟨_, rfl⟩
  rw [← hG] at harr hgG ⊢
  clear hG
  obtain ⟨X, hX⟩ : ∃ X, X = w.alloc (.cells #[.int .u64 (s : Int), .int .u8 (k.toNat : Int), .bool f, .bool la, .slice a body.length cap] 43) := ⟨_, rfl⟩
  rw [← hX] at hB4
  have hpX : ∀ q u, (#[.int .u64 (s : Int), .int .u8 (k.toNat : Int), .bool f, .bool la, .slice a body.length cap] : Array Value)[q]? = some u → ∀ W, Below g X W → W.cell? ⟨w.heap.size, q, none⟩ = some u := fun q u hu W h => boxAt2 Hg.out (hX ▸ h) q u hu
  have hgo : ∀ W, Below g X W → Below w.heap.size w W := fun W h => by
    subst hX
    exact ((Below.refl _ w).alloc (Nat.le_refl _) _).trans (h.mono (by have := Hg.out; omega))
  have HpX := Lib.hid hpX
  have Hgo := Lib.hid hgo
  clear hX hpX hgo
  go_loopw [10] (fun i wr => ∃ j : Nat, j ≤ 8 ∧ i = .int .i64 j ∧ ArrB wr G (leB s j ++ List.replicate (60 - j) 0) ∧ Below g X wr) (fun i _ => 8 - (intOf i).toNat)
  case atStart => exact ⟨0, Nat.zero_le _, rfl, harr, hB4⟩
  case round =>
    clear harr hB4
    obtain ⟨j, hj, rfl, harr, hbel⟩ := hrel
    have hfr := harr.free j
    by_cases hlt : j < 8
    · have p0 := HpX.out 0 _ rfl _ hbel
      have hcell := harr.cell j (by simp [leB_length]; omega)
      have hnew := harr.stored j (UInt8.ofNat (s / 256 ^ j % 256))
      rw [leB_set s j hlt, ofNat_mod, ← pow_eight] at hnew
      have Hnew := Lib.hid hnew
      clear hnew
      go_wp2
      go_roundw
      case rel => exact ⟨j + 1, by omega, by go_num, by simpa using Hnew.out, hbel.setCell hgG _⟩
      case measure => simp [intOf]; omega
    · obtain rfl : j = 8 := by omega
      have hne : Nonempty (SW (fun W => Below g X W)) := ⟨⟨wr, hbel⟩⟩
      have p1 : ∀ x : SW (fun W => Below g X W), x.W.cell? ⟨w.heap.size, 1, none⟩ = some (.int .u8 (k.toNat : Int)) := fun x => HpX.out 1 _ rfl _ x.h
      have p4 : ∀ x : SW (fun W => Below g X W), x.W.cell? ⟨w.heap.size, 4, none⟩ = some (.slice a body.length cap) := fun x => HpX.out 4 _ rfl _ x.h
      have hf8 := harr.free 8
      have hc8 := harr.cell 8 (by simp [leB_length])
      have hc9 := harr.cell 9 (by simp [leB_length])
      have hf9 := harr.free 9
      go_wp2
      refine wp_region_seq2 (fun W => Below g X W) [(0, true), (1, true), (2, true), (3, true), (4, true), (5, true), (6, true), (7, true), (8, true), (9, false), (10, true), (11, false)] (by kernel_rfl) (by kernel_rfl) (fun d _ _ _ _ h => by cases d <;> exact h) (hbel.drew) ?_
      repeat (first
        | (refine wpSeq_skip (o := ⟨_, _, _, _, _, _⟩) rfl rfl ?_; simp only [Act.put, List.setIfInBounds_toArray, List.set_cons_zero, List.set_cons_succ])
        | (refine wpSeq_free (o := ⟨_, _, _, _, _, _⟩) rfl rfl (fun K hK => ?_); go_big_quiet_op; (refine hK _ ?_; clear hK K)))
      refine wpSeq_next (o := ⟨_, _, _, _, _, _⟩) rfl rfl (fun K hK => ?_)
      go_simp
      refine hK.out _ _ ((hbel.setCell (p := ⟨G, 8, none⟩) hgG _).drew) ?_
      clear hK K
      repeat (first
        | (refine wpSeq_skip (o := ⟨_, _, _, _, _, _⟩) rfl rfl ?_; simp only [Act.put, List.setIfInBounds_toArray, List.set_cons_zero, List.set_cons_succ])
        | (refine wpSeq_free (o := ⟨_, _, _, _, _, _⟩) rfl rfl (fun K hK => ?_); go_big_quiet_op; (refine hK _ ?_; clear hK K)))
      refine wpSeq_next (o := ⟨_, _, _, _, _, _⟩) rfl rfl (fun K hK => ?_)
      go_simp
      refine hK.out _ _ (((hbel.setCell (p := ⟨G, 8, none⟩) hgG _).setCell (p := ⟨G, 9, none⟩) hgG _).drew) ?_
      clear hK K
      repeat (first
        | (refine wpSeq_skip (o := ⟨_, _, _, _, _, _⟩) rfl rfl ?_; simp only [Act.put, List.setIfInBounds_toArray, List.set_cons_zero, List.set_cons_succ])
        | (refine wpSeq_free (o := ⟨_, _, _, _, _, _⟩) rfl rfl (fun K hK => ?_); go_big_quiet_op; (refine hK _ ?_; clear hK K)))
      refine wpSeq_nil ?_
      refine over_world (R := fun W => ArrB W G (encH s k body.length) ∧ Below g X W) ⟨?_, ((hbel.setCell (p := ⟨G, 8, none⟩) hgG _).setCell (p := ⟨G, 9, none⟩) hgG _).drew⟩ ?_
      · have h9 := (harr.stored 8 k).stored 9 (UInt8.ofNat body.length)
        rw [encH_set s k body.length] at h9
        have e : (UInt8.ofNat body.length).toNat = body.length := by simp; omega
        rw [e] at h9
        exact h9
      rintro w4 ⟨harr4, hB4⟩
      clear harr hbel hfr hf8 hf9 hc8 hc9
      obtain ⟨M, hM⟩ : ∃ M, M = markN ⟨s, k, f, la, body⟩ := ⟨_, rfl⟩
      have hbody : ∀ W, Below g X W → IsBytes W a body := fun W h => hby.later (Hgo.out W h)
      obtain ⟨E, hE⟩ : ∃ E, E = encB ⟨s, k, f, la, body⟩ := ⟨_, rfl⟩
      have hEM : leB s 8 ++ [UInt8.ofNat M, UInt8.ofNat body.length] ++ body ++ List.replicate (50 - body.length) 0 = E := by rw [hE, hM]; rfl
      have hES : sealB ⟨s, k, f, la, body⟩ = E ++ crcB (sum E) := by rw [hE]; rfl
      have hEL : E.length = 60 := by rw [hE]; exact Hel.out
      have HEM := Lib.hid hEM
      have HES := Lib.hid hES
      have HEL := Lib.hid hEL
      have HM := Lib.hid hM
      clear hM hEM hES hEL hE Hel
      have hf4 := harr4.free 8
      have hc4 : w4.cell? ⟨G, 8, none⟩ = some (.int .u8 (k.toNat : Int)) := by
        rw [harr4.cell 8 (by simp [encH, leB_length])]
        simp [encH, leB_length]
      have hp2 := HpX.out 2 _ rfl _ hB4
      have hp3 := HpX.out 3 _ rfl _ hB4
      have hk12 : k.toNat = 1 ∨ k.toNat = 2 := by omega
      have ho4 : bits .or .u8 (k.toNat : Int) 4 = (k.toNat : Int) + 4 := by rcases hk12 with h | h <;> rw [h] <;> decide
      have ho8 : bits .or .u8 (k.toNat : Int) 8 = (k.toNat : Int) + 8 := by rcases hk12 with h | h <;> rw [h] <;> decide
      have ho12 : bits .or .u8 ((k.toNat : Int) + 4) 8 = (k.toNat : Int) + 12 := by rcases hk12 with h | h <;> rw [h] <;> decide
      clear hk12
      have hst : ∀ (W : World) (x : UInt8) (q : Int), ArrB W G (encH s x body.length) → Below g X W → 0 ≤ q → q < 256 → ArrB (W.setCell ⟨G, 8, none⟩ (.int .u8 q)) G (encH s (UInt8.ofNat q.toNat) body.length) ∧ Below g X (W.setCell ⟨G, 8, none⟩ (.int .u8 q)) := by
        intro W x q h1 h2 h3 h4
        refine ⟨?_, h2.setCell hgG _⟩
        have h5 := h1.stored 8 (UInt8.ofNat q.toNat)
        have e : ((UInt8.ofNat q.toNat).toNat : Int) = q := by simp; omega
        rw [encH_set8, e] at h5
        exact h5
      have Hst := Lib.hid hst
      clear hst
      cases f <;> cases la
      all_goals
        go_wp2
        refine over_world (R := fun W => ArrB W G (encH s (UInt8.ofNat M) body.length) ∧ Below g X W) ?_ ?_
        · first
            | exact ⟨by rw [HM.out]; simpa [markN] using harr4, hB4⟩
            | (have h1 := Hst.out _ _ ((k.toNat : Int) + 4) harr4 hB4 (by omega) (by omega)
               exact ⟨by rw [HM.out]; exact h1.1, h1.2⟩)
            | (have h1 := Hst.out _ _ ((k.toNat : Int) + 8) harr4 hB4 (by omega) (by omega)
               exact ⟨by rw [HM.out]; exact h1.1, h1.2⟩)
            | (have h0 := Hst.out _ _ ((k.toNat : Int) + 4) harr4 hB4 (by omega) (by omega)
               have h1 := Hst.out _ _ ((k.toNat : Int) + 12) h0.1 h0.2 (by omega) (by omega)
               exact ⟨by rw [HM.out]; exact h1.1, h1.2⟩)
        rintro w6 ⟨ha6, hB6⟩
        clear harr4 hB4 hf4 hc4 hp2 hp3
        refine wp_region_seq2 (fun W => Below g X W) [(0, true), (1, true), (2, true), (3, true), (4, false)] (by kernel_rfl) (by kernel_rfl) (fun d _ _ _ _ h => by cases d <;> exact h) (hB6.drew) ?_
        repeat (first
          | (refine wpSeq_skip (o := ⟨_, _, _, _, _, _⟩) rfl rfl ?_; simp only [Act.put, List.setIfInBounds_toArray, List.set_cons_zero, List.set_cons_succ])
          | (refine wpSeq_free (o := ⟨_, _, _, _, _, _⟩) rfl rfl (fun K hK => ?_); go_big_quiet_op; (refine hK _ ?_; clear hK K)))
        refine wpSeq_next (o := ⟨_, _, _, _, _, _⟩) rfl rfl (fun K hK => ?_)
        refine wp_copy_bytes _ _ rfl G 10 50 50 (encH s (UInt8.ofNat M) body.length) rfl ha6 (by simp [encH, leB_length]) a body.length cap body rfl rfl (hbody _ hB6.drew) ?_
        intro w7 n7 ha7 hB7
        refine hK.out _ _ ((hB6.drew.trans (hB7.mono hgG))) ?_
        clear hK K
        repeat (first
          | (refine wpSeq_skip (o := ⟨_, _, _, _, _, _⟩) rfl rfl ?_; simp only [Act.put, List.setIfInBounds_toArray, List.set_cons_zero, List.set_cons_succ])
          | (refine wpSeq_free (o := ⟨_, _, _, _, _, _⟩) rfl rfl (fun K hK => ?_); go_big_quiet_op; (refine hK _ ?_; clear hK K)))
        refine wpSeq_nil ?_
        rw [enc_fin s (UInt8.ofNat M) body hl, HEM.out] at ha7
        have hap := append_calls (some ⟨G, 0, none⟩) E 60 w7 (by rw [HEL.out]; decide) (by rw [HEL.out]; exact Nat.le_refl _) (fun h => nomatch h) (ha7.own (base := G) (Nat.le_refl _) (by rw [HEL.out]; decide)).bytes
        rw [HEL.out] at hap
        have hB8 := Hgo.out _ (hB6.drew.trans (hB7.mono hgG))
        clear ha7
        go_wp2_with (go_at_call 16; refine hap.mono ?_; rintro e w9 ⟨v9, rfl, hown9, hB9⟩)
        go_ret2
        exact ⟨_, rfl, by rw [HES.out]; exact hown9.mono hB8.size, below_call hB8 (Nat.le_refl _) hB9⟩

end Go.Proofs.Ytdlbjllgdikadaa
