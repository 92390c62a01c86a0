/- segment.Encode of what may be. segment.Decode. -/
import Derived.Test.YtdlbjllgdikadaaGrF
import Derived.OwnWalk
import Derived.Test.YtdlbjllgdikadaaGrA
import Derived.RegionTactic
import Derived.Laws.BitsAllLaws
import Derived.ChangeAlike
namespace Go.Proofs.Ytdlbjllgdikadaa
open Go.RowKit CrcM

/-- A block of memory that holds these bytes, and no more. -/
def ArrB (w : World) (g : Nat) (l : List UInt8) : Prop := w.heap[g]? = some (.cells (bvals l).toArray 5 (0, 0))

theorem ArrB.own {w : World} {g base : Nat} {l : List UInt8} (h : ArrB w g l) (hb : base ≤ g) (hm : l.length ≤ 140737488355328) : OwnB w base (.slice (some ⟨g, 0, none⟩) l.length l.length) l :=
  ⟨by simp [bvals], .inr ⟨g, l.length, _, rfl, hb, h, Nat.le_refl _, by unfold maxLen; omega, by simp [bvals], by rw [List.toList_toArray, Nat.mul_one, List.take_of_length_le (by rw [bvals_length]; exact Nat.le_refl _)]⟩⟩

theorem ArrB.of {w : World} {g base n : Nat} {l : List UInt8} (h : OwnB w base (.slice (some ⟨g, 0, none⟩) n n) l) : ArrB w g l := by
  obtain ⟨h1, h2⟩ := h
  rcases h2 with ⟨h3, _⟩ | ⟨g', cap, cur, e, _, hg, _, _, hs, ht⟩
  · cases h3
  · cases e
    unfold ArrB
    rw [hg]
    have : cur.toList = bvals l := by
      rw [← ht, List.take_of_length_le]
      simp [hs]
    rw [← this]

theorem ArrB.stored {w : World} {g : Nat} {l : List UInt8} (h : ArrB w g l) (i : Nat) (x : UInt8) : ArrB (w.setCell ⟨g, i, none⟩ (.int .u8 (x.toNat : Int))) g (l.set i x) := by
  unfold ArrB at *
  rw [heap_setCell_same w g i _ 5 _ h]
  simp [bvals, bval, List.map_set]

theorem ArrB.cell {w : World} {g : Nat} {l : List UInt8} (h : ArrB w g l) (i : Nat) (hi : i < l.length) : w.cell? ⟨g, i, none⟩ = some (.int .u8 (l[i].toNat : Int)) := by
  rw [cell_of_row w g i _ _ _ h]
  simp [bvals, bval, hi]

theorem ArrB.free {w : World} {g : Nat} {l : List UInt8} (h : ArrB w g l) (i : Nat) : w.frozen? ⟨g, i, none⟩ = false := frozen_of_row w g i _ _ h

theorem ArrB.later {w w' : World} {g : Nat} {l : List UInt8} (h : ArrB w g l) (hb : Below w.heap.size w w') : ArrB w' g l := (hb.block g (lt_of_block h)).trans h

/-- 'make([]byte, n)'. -/
theorem wpList_make_bytes {w : World} {ops : Array Oper} {rest : List Oper} {o : Oper} {a : Act} {Q : Exit → Act → World → Prop} (hgd : o.guard = none) (l c : Operand)
    (ho : o.op = .makeSlice 22 l c) (n : Nat) (L C : Int) (hl : a.eval l = .int .i64 L) (hc : a.eval c = .int .i64 C) (hL : L = (n : Int)) (hC : C = (n : Int)) (hn : n ≤ 140737488355328)
    (h : ∀ w', ArrB w' w.heap.size (List.replicate n 0) → w.grownBy w' none → wpList Try.prog ops Q rest (a.put o.dst (.slice (some ⟨w.heap.size, 0, none⟩) n n)) w') : wpList Try.prog ops Q (o :: rest) a w := by
  obtain ⟨i0, hi, hz0, hz1, hz2⟩ := info_parts info5
  refine wpList_make_full w hgd l c 22 ho w.heap.size 5 i0 (.int .u8 0) 1 Try.underlying22 hi hz0 hz1 .i64 .i64 L C n hl hc hL hC (by rw [hz2]; omega) (by unfold maxLen; omega) (Nat.le_refl _) ?_
  intro w' h1 h2
  refine h w' (ArrB.of (base := w.heap.size) (n := n) ?_) h2
  unfold OwnB
  rw [List.length_replicate]
  have e : (madeCells (Value.int .u8 0).cells (n * 1)).toList = bvals (List.replicate n 0) := by
    rw [Nat.mul_one]
    apply List.ext_getElem
    · simp [madeCells, bvals]
    · intro i h3 h4
      have h5 : i % 1 = 0 := Nat.mod_one i
      simp [madeCells, Value.cells, bvals, bval, h5]
  rw [← e]
  exact h1

/-- 'copy(b[off:], x)'. -/
theorem wp_copy_bytes {w : World} {o : Oper} {a : Act} {K : Act → World → Prop} {Q : Exit → Act → World → Prop} (d s : Operand)
    (ho : o.op = .call { callee := .builtin .copy, args := #[d, s], argTypes := #[22, 22] })
    (g off dLen dCap : Nat) (l : List UInt8) (hd : a.eval d = .slice (some ⟨g, off, none⟩) dLen dCap) (hg : ArrB w g l) (hfit : off + dLen ≤ l.length)
    (ao : Option Addr) (m c : Nat) (src : List UInt8) (hs : a.eval s = .slice ao m c) (hm : m = src.length) (hsrc : IsBytes w ao src)
    (h : ∀ w' n, ArrB w' g (l.take off ++ (src.take dLen ++ l.drop (off + (src.take dLen).length))) → Below g w w' → K (a.put o.dst (goInt n)) w') : o.wp Try.prog a w K Q := by
  have hsz : (Try.prog.info? 5).map (·.size) = some 1 := by kernel_rfl
  have hl : (src.take dLen).length = Nat.min m dLen := by rw [List.length_take, hm, Nat.min_comm]
  by_cases h0 : src.take dLen = []
  · have hrun := run_copy_none (P := Try.prog) w 22 22 o.type 5 (some ⟨g, off, none⟩) ao dLen dCap m c Try.underlying22 hsz (by rw [← hl, h0]; rfl)
    unfold Oper.wp
    simp [execOp, ho, resolve, invoke, builtin, hd, hs, hrun, Result.andThen]
    refine h w 0 ?_ (Below.refl _ _)
    rw [h0]
    simpa using hg
  · have hpos : 0 < src.length := by
      cases src with
      | nil => simp at h0
      | cons x r => simp
    obtain ⟨b, of2, rfl, _⟩ := hsrc 0 hpos
    have hrun := run_copy_row (P := Try.prog) w 22 22 o.type 5 g off dLen dCap ⟨b, of2, none⟩ m c (bvals l).toArray 5 (bvals (src.take dLen)) Try.underlying22 hsz hg (by rw [bvals_length, hl])
      (hsrc.take dLen).cells (by have := Nat.min_le_right m dLen; rw [bvals_length, hl, List.size_toArray, bvals_length]; change off + min m dLen ≤ _; omega) (bvals_one _)
    unfold Oper.wp
    simp [execOp, ho, resolve, invoke, builtin, hd, hs, hrun, Result.andThen]
    refine h _ _ ?_ (below_setRow (Below.refl _ _) (Nat.le_refl _) _)
    unfold ArrB
    rw [setRow_heap w g _ _ 5 (0, 0) hg]
    simp [bvals, List.map_take, List.map_drop]


def encH (s : Nat) (x : UInt8) (n : Nat) : List UInt8 := leB s 8 ++ [x, UInt8.ofNat n] ++ List.replicate 50 0
theorem encH_set (s : Nat) (x : UInt8) (n : Nat) : ((leB s 8 ++ List.replicate (60 - 8) 0).set 8 x).set 9 (UInt8.ofNat n) = encH s x n := by
  unfold encH
  rw [List.set_append_right _ _ (by rw [leB_length]; exact Nat.le_refl _), leB_length, List.set_append_right _ _ (by rw [leB_length]; omega), leB_length, List.append_assoc]
  rfl
theorem encH_set8 (s : Nat) (x y : UInt8) (n : Nat) : (encH s x n).set 8 y = encH s y n := by
  unfold encH
  rw [List.append_assoc, List.set_append_right _ _ (by rw [leB_length]; exact Nat.le_refl _), leB_length, List.append_assoc]
  rfl
theorem enc_fin (s : Nat) (x : UInt8) (body : List UInt8) (h : body.length ≤ 48) :
    (encH s x body.length).take 10 ++ (body.take 50 ++ (encH s x body.length).drop (10 + (body.take 50).length)) = leB s 8 ++ [x, UInt8.ofNat body.length] ++ body ++ List.replicate (50 - body.length) 0 := by
  have e : body.take 50 = body := List.take_of_length_le (by omega)
  have e10 : (leB s 8 ++ [x, UInt8.ofNat body.length]).length = 10 := by simp [leB_length]
  rw [e]
  unfold encH
  rw [List.take_append_of_le_length (by rw [e10]; exact Nat.le_refl _), List.take_of_length_le (by rw [e10]; exact Nat.le_refl _), ← List.drop_drop, show (leB s 8 ++ [x, UInt8.ofNat body.length] ++ List.replicate 50 (0 : UInt8)).drop 10 = List.replicate 50 0 from by
    rw [← e10, List.drop_left], List.drop_replicate]
  simp only [List.append_assoc]
theorem over_world {C : World → Prop} {R : World → Prop} {W : World} (h1 : R W) (h : ∀ W', R W' → C W') : C W := h W h1

theorem boxAt2 {w W : World} {g : Nat} {cs : Array Value} (hg : g = w.heap.size + 1) (h : Below g (w.alloc (.cells cs 43)) W) (q : Nat) (u : Value) (hu : cs[q]? = some u) : W.cell? ⟨w.heap.size, q, none⟩ = some u := by
  subst hg
  exact boxAt h q u hu
theorem leB_set (s j : Nat) (hj : j < 8) : (leB s j ++ List.replicate (60 - j) 0).set j (UInt8.ofNat (s / 256 ^ j % 256)) = leB s (j + 1) ++ List.replicate (60 - (j + 1)) 0 := by
  rw [List.set_append_right _ _ (by rw [leB_length]; exact Nat.le_refl _), leB_length, Nat.sub_self, leB_succ, List.append_assoc]
  obtain ⟨q, hq⟩ : ∃ q, 60 - j = q + 1 := ⟨59 - j, by omega⟩
  rw [hq, List.replicate_succ, List.set_cons_zero, show 60 - (j + 1) = q by omega]
  rfl
theorem ofNat_mod (n : Nat) : ((UInt8.ofNat (n % 256)).toNat : Int) = (n : Int) % 256 := by simp
theorem pow_eight (s j : Nat) : (((s : Int) / 2 ^ (8 * j)) % 256) = ((s / 256 ^ j : Nat) : Int) % 256 := by
  rw [Int.pow_mul]; simp

set_option linter.unusedSimpArgs false in
set_option maxHeartbeats 4000000 in
set_option maxRecDepth 100000 in
theorem encode_good (b : Blk) (a : Option Addr) (cap : Nat) (w : World) (hcap : b.body.length ≤ cap) (hno : a = none → b.body.length = 0 ∧ cap = 0) (hby : IsBytes w a b.body) (hmay : mayB b = true) :
    Calls Try.prog 31 #[.agg (b.cells a cap)] w (EncPost b w) := by
  have hmm := hmay
  simp only [mayB, Bool.and_eq_true, decide_eq_true_eq, kindB_iff] at hmm
  obtain ⟨⟨⟨hs, hk1, hk2⟩, hl⟩, _⟩ := hmm
  have hm : ∀ W, Calls Try.prog 33 #[.agg (b.cells a cap)] W fun e w' => e = .returned (.bool true) ∧ Below W.heap.size W w' := fun W => by
    rw [← hmay]; exact may_calls b a cap W (by omega) (by omega)
  have Hmay := Lib.hid hmay
  have Hel := Lib.hid (encB_length b hl)
  clear hmay
  obtain ⟨s, k, f, la, body⟩ := b
  simp only [Blk.cells] at *
  obtain ⟨g, hg⟩ : ∃ g, g = w.heap.size + 1 := ⟨_, rfl⟩
  have hB : Below g (w.alloc (.cells (Blk.cells ⟨s, k, f, la, body⟩ a cap) 43)) (w.alloc (.cells (Blk.cells ⟨s, k, f, la, body⟩ a cap) 43)) := Below.refl _ _
  have Hg := Lib.hid hg
  simp only [Blk.cells] at hB
  clear hg
  go_enter Try.func31, Try.ntmps31
  go_wp2_with (first
    | (go_at_call 33; refine (hm _).mono ?_; rintro e w2 ⟨rfl, hB2⟩; have hB3 := below_call hB (by have := Hg.out; simp; omega) hB2; clear hB2 hB)
    | (refine wpList_make_bytes rfl _ _ rfl 60 60 60 rfl rfl rfl rfl (by decide) ?_; intro w3 harr hgr; have hB4 := hB3.grown hgr (by have := hB3.size; have := Hg.out; simp at *; omega) (fun _ h => nomatch h); have hgG : g ≤ w2.heap.size := (by have := hB3.size; have := Hg.out; simp at *; omega); clear hgr hB3))
  obtain ⟨G, hG⟩ : ∃ G, G = w2.heap.size := ⟨_, rfl⟩
  rw [← hG] at harr hgG ⊢
  clear hG
  obtain ⟨X, hX⟩ : ∃ X, X = w.alloc (.cells #[.int .u64 (s : Int), .int .u8 (k.toNat : Int), .bool f, .bool la, .slice a body.length cap] 43) := ⟨_, rfl⟩
  rw [← hX] at hB4
  have hpX : ∀ q u, (#[.int .u64 (s : Int), .int .u8 (k.toNat : Int), .bool f, .bool la, .slice a body.length cap] : Array Value)[q]? = some u → ∀ W, Below g X W → W.cell? ⟨w.heap.size, q, none⟩ = some u := fun q u hu W h => boxAt2 Hg.out (hX ▸ h) q u hu
  have hgo : ∀ W, Below g X W → Below w.heap.size w W := fun W h => by
    subst hX
    exact ((Below.refl _ w).alloc (Nat.le_refl _) _).trans (h.mono (by have := Hg.out; omega))
  have HpX := Lib.hid hpX
  have Hgo := Lib.hid hgo
  clear hX hpX hgo
  go_loopw [10] (fun i wr => ∃ j : Nat, j ≤ 8 ∧ i = .int .i64 j ∧ ArrB wr G (leB s j ++ List.replicate (60 - j) 0) ∧ Below g X wr) (fun i _ => 8 - (intOf i).toNat)
  case atStart => exact ⟨0, Nat.zero_le _, rfl, harr, hB4⟩
  case round =>
    clear harr hB4
    obtain ⟨j, hj, rfl, harr, hbel⟩ := hrel
    have hfr := harr.free j
    by_cases hlt : j < 8
    · have p0 := HpX.out 0 _ rfl _ hbel
      have hcell := harr.cell j (by simp [leB_length]; omega)
      have hnew := harr.stored j (UInt8.ofNat (s / 256 ^ j % 256))
      rw [leB_set s j hlt, ofNat_mod, ← pow_eight] at hnew
      have Hnew := Lib.hid hnew
      clear hnew
      go_wp2
      go_roundw
      case rel => exact ⟨j + 1, by omega, by go_num, by simpa using Hnew.out, hbel.setCell hgG _⟩
      case measure => simp [intOf]; omega
    · obtain rfl : j = 8 := by omega
      have hne : Nonempty (SW (fun W => Below g X W)) := ⟨⟨wr, hbel⟩⟩
      have p1 : ∀ x : SW (fun W => Below g X W), x.W.cell? ⟨w.heap.size, 1, none⟩ = some (.int .u8 (k.toNat : Int)) := fun x => HpX.out 1 _ rfl _ x.h
      have p4 : ∀ x : SW (fun W => Below g X W), x.W.cell? ⟨w.heap.size, 4, none⟩ = some (.slice a body.length cap) := fun x => HpX.out 4 _ rfl _ x.h
      have hf8 := harr.free 8
      have hc8 := harr.cell 8 (by simp [leB_length])
      have hc9 := harr.cell 9 (by simp [leB_length])
      have hf9 := harr.free 9
      go_wp2
      refine wp_region_seq2 (fun W => Below g X W) [(0, true), (1, true), (2, true), (3, true), (4, true), (5, true), (6, true), (7, true), (8, true), (9, false), (10, true), (11, false)] (by kernel_rfl) (by kernel_rfl) (fun d _ _ _ _ h => by cases d <;> exact h) (hbel.drew) ?_
      repeat (first
        | (refine wpSeq_skip (o := ⟨_, _, _, _, _, _⟩) rfl rfl ?_; simp only [Act.put, List.setIfInBounds_toArray, List.set_cons_zero, List.set_cons_succ])
        | (refine wpSeq_free (o := ⟨_, _, _, _, _, _⟩) rfl rfl (fun K hK => ?_); go_big_quiet_op; (refine hK _ ?_; clear hK K)))
      refine wpSeq_next (o := ⟨_, _, _, _, _, _⟩) rfl rfl (fun K hK => ?_)
      go_simp
      refine hK.out _ _ ((hbel.setCell (p := ⟨G, 8, none⟩) hgG _).drew) ?_
      clear hK K
      repeat (first
        | (refine wpSeq_skip (o := ⟨_, _, _, _, _, _⟩) rfl rfl ?_; simp only [Act.put, List.setIfInBounds_toArray, List.set_cons_zero, List.set_cons_succ])
        | (refine wpSeq_free (o := ⟨_, _, _, _, _, _⟩) rfl rfl (fun K hK => ?_); go_big_quiet_op; (refine hK _ ?_; clear hK K)))
      refine wpSeq_next (o := ⟨_, _, _, _, _, _⟩) rfl rfl (fun K hK => ?_)
      go_simp
      refine hK.out _ _ (((hbel.setCell (p := ⟨G, 8, none⟩) hgG _).setCell (p := ⟨G, 9, none⟩) hgG _).drew) ?_
      clear hK K
      repeat (first
        | (refine wpSeq_skip (o := ⟨_, _, _, _, _, _⟩) rfl rfl ?_; simp only [Act.put, List.setIfInBounds_toArray, List.set_cons_zero, List.set_cons_succ])
        | (refine wpSeq_free (o := ⟨_, _, _, _, _, _⟩) rfl rfl (fun K hK => ?_); go_big_quiet_op; (refine hK _ ?_; clear hK K)))
      refine wpSeq_nil ?_
      refine over_world (R := fun W => ArrB W G (encH s k body.length) ∧ Below g X W) ⟨?_, ((hbel.setCell (p := ⟨G, 8, none⟩) hgG _).setCell (p := ⟨G, 9, none⟩) hgG _).drew⟩ ?_
      · have h9 := (harr.stored 8 k).stored 9 (UInt8.ofNat body.length)
        rw [encH_set s k body.length] at h9
        have e : (UInt8.ofNat body.length).toNat = body.length := by simp; omega
        rw [e] at h9
        exact h9
      rintro w4 ⟨harr4, hB4⟩
      clear harr hbel hfr hf8 hf9 hc8 hc9
      obtain ⟨M, hM⟩ : ∃ M, M = markN ⟨s, k, f, la, body⟩ := ⟨_, rfl⟩
      have hbody : ∀ W, Below g X W → IsBytes W a body := fun W h => hby.later (Hgo.out W h)
      obtain ⟨E, hE⟩ : ∃ E, E = encB ⟨s, k, f, la, body⟩ := ⟨_, rfl⟩
      have hEM : leB s 8 ++ [UInt8.ofNat M, UInt8.ofNat body.length] ++ body ++ List.replicate (50 - body.length) 0 = E := by rw [hE, hM]; rfl
      have hES : sealB ⟨s, k, f, la, body⟩ = E ++ crcB (sum E) := by rw [hE]; rfl
      have hEL : E.length = 60 := by rw [hE]; exact Hel.out
      have HEM := Lib.hid hEM
      have HES := Lib.hid hES
      have HEL := Lib.hid hEL
      have HM := Lib.hid hM
      clear hM hEM hES hEL hE Hel
      have hf4 := harr4.free 8
      have hc4 : w4.cell? ⟨G, 8, none⟩ = some (.int .u8 (k.toNat : Int)) := by
        rw [harr4.cell 8 (by simp [encH, leB_length])]
        simp [encH, leB_length]
      have hp2 := HpX.out 2 _ rfl _ hB4
      have hp3 := HpX.out 3 _ rfl _ hB4
      have hk12 : k.toNat = 1 ∨ k.toNat = 2 := by omega
      have ho4 : bits .or .u8 (k.toNat : Int) 4 = (k.toNat : Int) + 4 := by rcases hk12 with h | h <;> rw [h] <;> decide
      have ho8 : bits .or .u8 (k.toNat : Int) 8 = (k.toNat : Int) + 8 := by rcases hk12 with h | h <;> rw [h] <;> decide
      have ho12 : bits .or .u8 ((k.toNat : Int) + 4) 8 = (k.toNat : Int) + 12 := by rcases hk12 with h | h <;> rw [h] <;> decide
      clear hk12
      have hst : ∀ (W : World) (x : UInt8) (q : Int), ArrB W G (encH s x body.length) → Below g X W → 0 ≤ q → q < 256 → ArrB (W.setCell ⟨G, 8, none⟩ (.int .u8 q)) G (encH s (UInt8.ofNat q.toNat) body.length) ∧ Below g X (W.setCell ⟨G, 8, none⟩ (.int .u8 q)) := by
        intro W x q h1 h2 h3 h4
        refine ⟨?_, h2.setCell hgG _⟩
        have h5 := h1.stored 8 (UInt8.ofNat q.toNat)
        have e : ((UInt8.ofNat q.toNat).toNat : Int) = q := by simp; omega
        rw [encH_set8, e] at h5
        exact h5
      have Hst := Lib.hid hst
      clear hst
      cases f <;> cases la
      all_goals
        go_wp2
        refine over_world (R := fun W => ArrB W G (encH s (UInt8.ofNat M) body.length) ∧ Below g X W) ?_ ?_
        · first
            | exact ⟨by rw [HM.out]; simpa [markN] using harr4, hB4⟩
            | (have h1 := Hst.out _ _ ((k.toNat : Int) + 4) harr4 hB4 (by omega) (by omega)
               exact ⟨by rw [HM.out]; exact h1.1, h1.2⟩)
            | (have h1 := Hst.out _ _ ((k.toNat : Int) + 8) harr4 hB4 (by omega) (by omega)
               exact ⟨by rw [HM.out]; exact h1.1, h1.2⟩)
            | (have h0 := Hst.out _ _ ((k.toNat : Int) + 4) harr4 hB4 (by omega) (by omega)
               have h1 := Hst.out _ _ ((k.toNat : Int) + 12) h0.1 h0.2 (by omega) (by omega)
               exact ⟨by rw [HM.out]; exact h1.1, h1.2⟩)
        rintro w6 ⟨ha6, hB6⟩
        clear harr4 hB4 hf4 hc4 hp2 hp3
        refine wp_region_seq2 (fun W => Below g X W) [(0, true), (1, true), (2, true), (3, true), (4, false)] (by kernel_rfl) (by kernel_rfl) (fun d _ _ _ _ h => by cases d <;> exact h) (hB6.drew) ?_
        repeat (first
          | (refine wpSeq_skip (o := ⟨_, _, _, _, _, _⟩) rfl rfl ?_; simp only [Act.put, List.setIfInBounds_toArray, List.set_cons_zero, List.set_cons_succ])
          | (refine wpSeq_free (o := ⟨_, _, _, _, _, _⟩) rfl rfl (fun K hK => ?_); go_big_quiet_op; (refine hK _ ?_; clear hK K)))
        refine wpSeq_next (o := ⟨_, _, _, _, _, _⟩) rfl rfl (fun K hK => ?_)
        refine wp_copy_bytes _ _ rfl G 10 50 50 (encH s (UInt8.ofNat M) body.length) rfl ha6 (by simp [encH, leB_length]) a body.length cap body rfl rfl (hbody _ hB6.drew) ?_
        intro w7 n7 ha7 hB7
        refine hK.out _ _ ((hB6.drew.trans (hB7.mono hgG))) ?_
        clear hK K
        repeat (first
          | (refine wpSeq_skip (o := ⟨_, _, _, _, _, _⟩) rfl rfl ?_; simp only [Act.put, List.setIfInBounds_toArray, List.set_cons_zero, List.set_cons_succ])
          | (refine wpSeq_free (o := ⟨_, _, _, _, _, _⟩) rfl rfl (fun K hK => ?_); go_big_quiet_op; (refine hK _ ?_; clear hK K)))
        refine wpSeq_nil ?_
        rw [enc_fin s (UInt8.ofNat M) body hl, HEM.out] at ha7
        have hap := append_calls (some ⟨G, 0, none⟩) E 60 w7 (by rw [HEL.out]; decide) (by rw [HEL.out]; exact Nat.le_refl _) (fun h => nomatch h) (ha7.own (base := G) (Nat.le_refl _) (by rw [HEL.out]; decide)).bytes
        rw [HEL.out] at hap
        have hB8 := Hgo.out _ (hB6.drew.trans (hB7.mono hgG))
        clear ha7
        go_wp2_with (go_at_call 16; refine hap.mono ?_; rintro e w9 ⟨v9, rfl, hown9, hB9⟩)
        go_ret2
        exact ⟨_, rfl, by rw [HES.out]; exact hown9.mono hB8.size, below_call hB8 (Nat.le_refl _) hB9⟩

end Go.Proofs.Ytdlbjllgdikadaa

namespace Go.Proofs.Ytdlbjllgdikadaa
open Go.RowKit CrcM

def noneB : Blk := ⟨0, 0, false, false, []⟩
def byteAt (l : List UInt8) (i : Nat) : Nat := (l.getD i 0).toNat
/-- What a block's bytes say, taken as they stand. -/
def decX (l : List UInt8) : Blk := ⟨leN (l.take 8), UInt8.ofNat (byteAt l 8 % 4 + byteAt l 8 / 16 * 16), byteAt l 8 / 4 % 2 == 1, byteAt l 8 / 8 % 2 == 1, (l.drop 10).take (min (byteAt l 9) 48)⟩
def decOk (l : List UInt8) : Bool := mayB (decX l) && (sealB (decX l) == l)
def decE (l : List UInt8) : Nat := if l.length = 64 then (if endsB l then (if decOk l then 0 else 4) else 6) else 4
def decB (l : List UInt8) : Blk := if decE l = 0 then decX l else noneB

/-- A block in memory. -/
def BlkAt (w : World) (H : Nat) (b : Blk) (a : Option Addr) (cap : Nat) : Prop := w.heap[H]? = some (.cells (b.cells a cap) 43 (0, 0))

theorem BlkAt.cell {w : World} {H : Nat} {b : Blk} {a : Option Addr} {cap : Nat} (h : BlkAt w H b a cap) (q : Nat) (u : Value) (hu : (b.cells a cap)[q]? = some u) : w.cell? ⟨H, q, none⟩ = some u := by
  rw [cell_of_row w H q _ _ _ h, hu]
theorem BlkAt.free {w : World} {H : Nat} {b : Blk} {a : Option Addr} {cap : Nat} (h : BlkAt w H b a cap) (q : Nat) : w.frozen? ⟨H, q, none⟩ = false := frozen_of_row w H q _ _ h
theorem BlkAt.stored {w : World} {H : Nat} {b b' : Blk} {a a' : Option Addr} {cap cap' : Nat} (h : BlkAt w H b a cap) (q : Nat) (u : Value) (hu : (b.cells a cap).setIfInBounds q u = b'.cells a' cap') : BlkAt (w.setCell ⟨H, q, none⟩ u) H b' a' cap' := by
  unfold BlkAt at *
  rw [heap_setCell_same w H q _ 43 _ h, hu]
theorem BlkAt.later {w w' : World} {H : Nat} {b : Blk} {a : Option Addr} {cap : Nat} (h : BlkAt w H b a cap) (hb : Below w.heap.size w w') : BlkAt w' H b a cap := (hb.block H (lt_of_block h)).trans h
theorem BlkAt.other {w : World} {H : Nat} {b : Blk} {a : Option Addr} {cap : Nat} (h : BlkAt w H b a cap) (p : Addr) (u : Value) (hp : H ≠ p.block) : BlkAt (w.setCell p u) H b a cap := (heap_setCell_other w p H u hp).trans h

theorem info43s : (Try.prog.info? 43).map (·.size) = some 5 := by kernel_rfl

theorem ret_blk {fn : Func} {p u : Tmp} (h : fn.results = #[.cell p 43, .tmp u]) {R : Ending → World → Prop} {ac : Act} {w : World} {H : Nat} {b : Blk} {a : Option Addr} {cap : Nat} {v : Value}
    (hp : ac.tmps.getD p undef = .pointer (some ⟨H, 0, none⟩)) (hv : ac.tmps.getD u undef = v) (hd : ac.defers = []) (hb : BlkAt w H b a cap) (hR : R (.returned (.tuple #[.agg (b.cells a cap), v])) w) : bodyPost Try.prog fn R .ret ac w := by
  refine bodyPost_ret ?_ hd hR
  rw [results_cell_tmp h, hp, hv]
  simp [asAddr, run_loadVar_row w H 43 43 _ _ _ hb Try.underlying43 rfl info43s, Result.andThen]

theorem Blk.one (b : Blk) (a : Option Addr) (cap : Nat) : (b.cells a cap).all (·.oneCell') = true := by simp [Blk.cells, Value.oneCell']

theorem grown_setRow {w : World} {H : Nat} (cs : Array Value) : w.grownBy (w.setRow H cs) (some H) :=
  ⟨rfl, rfl, rfl, by simp, fun k _ hk => setRow_other w H k cs (fun e => hk (by rw [e]))⟩

/-- 'x = b': a block is written whole. -/
theorem wpList_store_blk {w : World} {ops : Array Oper} {rest : List Oper} {o : Oper} {ac : Act} {Q : Exit → Act → World → Prop} (hgd : o.guard = none) (x y : Operand) (ho : o.op = .store 43 x y)
    (H : Nat) (b b' : Blk) (a a' : Option Addr) (cap cap' : Nat) (hx : ac.eval x = .pointer (some ⟨H, 0, none⟩)) (hy : ac.eval y = .agg (b'.cells a' cap')) (hb : BlkAt w H b a cap)
    (h : ∀ w', BlkAt w' H b' a' cap' → w.grownBy w' (some H) → wpList Try.prog ops Q rest (ac.put o.dst undef) w') : wpList Try.prog ops Q (o :: rest) ac w :=
  wpList_store_row hgd 43 x y ho H _ hx hy 43 _ hb info43s rfl (Blk.one _ _ _) (h _ (setRow_heap w H _ _ _ _ hb) (grown_setRow _))

theorem wp_store_blk {w : World} {o : Oper} {ac : Act} {K : Act → World → Prop} {Q : Exit → Act → World → Prop} (x y : Operand) (ho : o.op = .store 43 x y)
    (H : Nat) (b b' : Blk) (a a' : Option Addr) (cap cap' : Nat) (hx : ac.eval x = .pointer (some ⟨H, 0, none⟩)) (hy : ac.eval y = .agg (b'.cells a' cap')) (hb : BlkAt w H b a cap)
    (h : ∀ w', BlkAt w' H b' a' cap' → w.grownBy w' (some H) → K (ac.put o.dst undef) w') : o.wp Try.prog ac w K Q :=
  wp_store_row 43 x y ho H _ hx hy 43 _ hb info43s rfl (Blk.one _ _ _) (h _ (setRow_heap w H _ _ _ _ hb) (grown_setRow _))

/-- 'b' is read whole. -/
theorem wpList_load_blk {w : World} {ops : Array Oper} {rest : List Oper} {o : Oper} {ac : Act} {Q : Exit → Act → World → Prop} (hgd : o.guard = none) (x : Operand) (ho : o.op = .load 43 x)
    (H : Nat) (b : Blk) (a : Option Addr) (cap : Nat) (hx : ac.eval x = .pointer (some ⟨H, 0, none⟩)) (hb : BlkAt w H b a cap)
    (h : wpList Try.prog ops Q rest (ac.put o.dst (.agg (b.cells a cap))) w) : wpList Try.prog ops Q (o :: rest) ac w :=
  wpList_load_row hgd 43 x ho H hx 43 _ (0, 0) _ hb Try.underlying43 rfl info43s h

theorem BlkAt.kept {w w' : World} {H : Nat} {b : Blk} {a : Option Addr} {cap : Nat} {row : Option Nat} (h : BlkAt w H b a cap) (hg : w.grownBy w' row) (hne : some H ≠ row) : BlkAt w' H b a cap := (hg.block H (lt_of_block h) hne).trans h

def DecPost (l : List UInt8) (w : World) (e : Ending) (w' : World) : Prop :=
  ∃ a cap, e = .returned (.tuple #[.agg ((decB l).cells a cap), .int .i64 (decE l : Nat)]) ∧ OwnB w' w.heap.size (.slice a (decB l).body.length cap) (decB l).body ∧ Below w.heap.size w w'

theorem decode_len (a : Option Addr) (l : List UInt8) (cap : Nat) (w : World) (h : l.length ≠ 64) :
    Calls Try.prog 35 #[.slice a l.length cap] w (DecPost l w) := by
  have e0 : ((l.length : Int) == 64) = false := by rw [beq_eq_false_iff_ne]; omega
  have hE : decE l = 4 := by simp [decE, h]
  have hB : decB l = noneB := by simp [decB, hE]
  have HE := Lib.hid hE
  have HB := Lib.hid hB
  clear hE hB
  have h1 : Below w.heap.size w (w.alloc (.cells (noneB.cells none 0) 43)) := (Below.refl _ _).alloc (Nat.le_refl _) _
  have h2 : BlkAt (w.alloc (.cells (noneB.cells none 0) 43)) w.heap.size noneB none 0 := heap_alloc_new _ _
  go_enter Try.func35, Try.ntmps35
  go_wp2
  exact ret_blk rfl rfl rfl rfl h2 ⟨none, 0, by rw [HE.out, HB.out]; rfl, by rw [HB.out]; exact OwnB.nil _ _, h1⟩

theorem decode_sum (a : Option Addr) (l : List UInt8) (cap : Nat) (w : World) (h : l.length = 64) (hc : l.length ≤ cap) (hby : IsBytes w a l) (hs : endsB l = false) :
    Calls Try.prog 35 #[.slice a l.length cap] w (DecPost l w) := by
  have hE : decE l = 6 := by simp [decE, h, hs]
  have hB : decB l = noneB := by simp [decB, hE]
  have HE := Lib.hid hE
  have HB := Lib.hid hB
  clear hE hB
  have h1 : Below w.heap.size w (w.alloc (.cells (noneB.cells none 0) 43)) := (Below.refl _ _).alloc (Nat.le_refl _) _
  have h2 : BlkAt (w.alloc (.cells (noneB.cells none 0) 43)) w.heap.size noneB none 0 := heap_alloc_new _ _
  have he := ends_calls a l cap (w.alloc (.cells (noneB.cells none 0) 43)) (by omega) hc (hby.alloc _)
  rw [hs, h] at he
  have Hh := Lib.hid h
  rw [h]
  clear h hs
  go_enter Try.func35, Try.ntmps35
  go_wp2_with (first
    | (go_at_call 21; refine he.mono ?_; rintro e w2 ⟨rfl, hB2⟩; have h3 := h2.later hB2; have hB3 := below_call h1 (Nat.le_refl _) hB2)
    | (refine wpList_store_blk rfl (.tmp 2) (.tmp 17) rfl w.heap.size noneB noneB none none 0 0 rfl rfl h3 ?_; intro w3 h4 hg3; have hB4 := hB3.grown hg3 hB3.size (fun k hk => by cases hk; exact Nat.le_refl _)))
  exact ret_blk rfl rfl rfl rfl h4 ⟨none, 0, by rw [HE.out, HB.out]; rfl, by rw [HB.out]; exact OwnB.nil _ _, hB4⟩
theorem kind_bits : ∀ n : Nat, n < 256 → bits .andNot .u8 (n : Int) 12 = ((n % 4 + n / 16 * 16 : Nat) : Int) ∧ (bits .and .u8 (n : Int) 4 != 0) = (n / 4 % 2 == 1) ∧ (bits .and .u8 (n : Int) 8 != 0) = (n / 8 % 2 == 1) := by
  decide +kernel

theorem own_past {w : World} {base n cap : Nat} {a : Option Addr} {l : List UInt8} (h : OwnB w base (.slice a n cap) l) (H q : Nat) (hH : H < base) (u : Value) : OwnB (w.setCell ⟨H, q, none⟩ u) base (.slice a n cap) l := by
  refine ownsRow_setCell_other h ?_ u
  intro e
  have := (World.ownsRow.lt h _ e).1
  exact absurd (Nat.lt_of_lt_of_le hH this) (Nat.lt_irrefl _)

theorem own_final {w w7 w8 : World} {base B R n cap : Nat} {a : Option Addr} {l : List UInt8} (h : OwnB w base (.slice a n cap) l) (h7 : Below w.heap.size w w7) (h8 : w7.grownBy w8 (some R)) (hR : R < base) (hB : B ≤ base) : OwnB w8 B (.slice a n cap) l := by
  refine OwnB.mono (World.ownsRow.kept (h.later h7) h8 ?_) hB
  right
  intro e
  have := (World.ownsRow.lt h _ e).1
  exact absurd (Nat.lt_of_lt_of_le hR this) (Nat.lt_irrefl _)

theorem or_u64 (t : List UInt8) (y : UInt8) (j : Nat) (ht : t.length = j) (hj : j < 8) : bits .or .u64 (leN t : Nat) (IntKind.u64.wrap (IntKind.u64.wrap (y.toNat : Int) * 2 ^ (8 * j))) = ((leN (t ++ [y]) : Nat) : Int) := by
  have hy := y.toNat_lt
  have h1 : IntKind.u64.wrap (y.toNat : Int) = (y.toNat : Int) := by rw [IntKind.wrap_u64]; omega
  have hp : (256 : Nat) ^ j ≤ 256 ^ 7 := Nat.pow_le_pow_right (by decide) (by omega)
  have hlt : y.toNat * 256 ^ j < 18446744073709551616 := by
    have := Nat.mul_le_mul (show y.toNat ≤ 255 by omega) hp
    omega
  have e2 : (y.toNat : Int) * 2 ^ (8 * j) = ((y.toNat * 256 ^ j : Nat) : Int) := by
    rw [Int.pow_mul]; simp
  have h2 : IntKind.u64.wrap ((y.toNat * 256 ^ j : Nat) : Int) = ((y.toNat * 256 ^ j : Nat) : Int) := by rw [IntKind.wrap_u64]; omega
  have hl := leN_lt t
  rw [ht] at hl
  rw [h1, e2, h2, u64_or_nat _ _ (by omega) hlt, leN_snoc, ht]
  congr 1
  have e3 : (256 : Nat) ^ j = 2 ^ (8 * j) := by rw [Nat.pow_mul]
  rw [e3] at hl ⊢
  have := Nat.two_pow_add_eq_or_of_lt hl y.toNat
  rw [Nat.or_comm, Nat.mul_comm y.toNat, ← this, Nat.add_comm]

theorem take_snoc (l : List UInt8) (j : Nat) (y : UInt8) (hj : j < l.length) (hy : y = l[j]) : l.take (j + 1) = l.take j ++ [y] := by
  rw [hy, List.take_succ_eq_append_getElem hj]

set_option linter.unusedSimpArgs false in
set_option maxHeartbeats 4000000 in
set_option maxRecDepth 100000 in
theorem decode_bad (a : Option Addr) (l : List UInt8) (cap : Nat) (w : World) (h : l.length = 64) (hc : l.length ≤ cap) (hby : IsBytes w a l) (hs : endsB l = true) (hm0 : mayB (decX l) = false) :
    Calls Try.prog 35 #[.slice a l.length cap] w (DecPost l w) := by
  obtain ⟨g, hg⟩ : ∃ g, g = w.heap.size + 1 := ⟨_, rfl⟩
  have h1 : Below w.heap.size w (w.alloc (.cells (noneB.cells none 0) 43)) := (Below.refl _ _).alloc (Nat.le_refl _) _
  have h2 : BlkAt (w.alloc (.cells (noneB.cells none 0) 43)) w.heap.size noneB none 0 := heap_alloc_new _ _
  have he := ends_calls a l cap (w.alloc (.cells (noneB.cells none 0) 43)) (by omega) hc (hby.alloc _)
  rw [hs, h] at he
  have Hh := Lib.hid h
  have Hs := Lib.hid hs
  rw [h] at hc ⊢
  obtain ⟨b, off, rfl⟩ : ∃ b off, a = some ⟨b, off, none⟩ := (by obtain ⟨b, off, e, _⟩ := hby 0 (by omega); exact ⟨b, off, e⟩)
  obtain ⟨n8, hn8⟩ : ∃ n, n = byteAt l 8 := ⟨_, rfl⟩
  have hlt8 : n8 < 256 := by rw [hn8]; exact UInt8.toNat_lt _
  obtain ⟨k1, k2, k3⟩ := kind_bits n8 hlt8
  obtain ⟨kk, hK⟩ : ∃ kk : UInt8, kk = UInt8.ofNat (n8 % 4 + n8 / 16 * 16) := ⟨_, rfl⟩
  have hKn : n8 % 4 + n8 / 16 * 16 = kk.toNat := by rw [hK]; simp; omega
  obtain ⟨F, hF⟩ : ∃ F : Bool, F = (n8 / 4 % 2 == 1) := ⟨_, rfl⟩
  obtain ⟨A, hA⟩ : ∃ A : Bool, A = (n8 / 8 % 2 == 1) := ⟨_, rfl⟩
  rw [hKn] at k1
  rw [← hF] at k2
  rw [← hA] at k3
  have c8 : ∀ W, Below w.heap.size w W → W.cell? ⟨b, off + 8, none⟩ = some (.int .u8 (n8 : Int)) := fun W hW => by
    rw [(hby.later hW).cell 8 (by omega), hn8]
    simp [byteAt, h]
  have HK := Lib.hid hK
  have HF := Lib.hid hF
  have HA := Lib.hid hA
  have Hn8 := Lib.hid hn8
  have C8 := Lib.hid c8
  clear h hs hK hKn hF hA hn8 c8
  go_enter Try.func35, Try.ntmps35
  go_wp2_with (go_at_call 21; refine he.mono ?_; rintro e w2 ⟨rfl, hB2⟩; have h3 := h2.later hB2; have hB3 := below_call h1 (Nat.le_refl _) hB2)
  clear he h2 h1 hB2
  have hne : Nonempty (SW (fun W => Below w.heap.size w W)) := ⟨⟨w2, hB3⟩⟩
  have p8 : ∀ x : SW (fun W => Below w.heap.size w W), x.W.cell? ⟨b, off + 8, none⟩ = some (.int .u8 (n8 : Int)) := fun x => C8.out _ x.h
  refine wp_region_seq2 (fun W => Below w.heap.size w W) [(0, true), (1, true), (2, true), (3, true), (4, true), (5, true), (6, true), (7, true), (8, true), (9, true), (10, true), (11, true), (12, true), (13, true), (14, true), (15, false), (16, false)] (by kernel_rfl) (by kernel_rfl) (fun d _ _ _ _ h => by cases d <;> exact h) (hB3.drew) ?_
  repeat (first
    | (refine wpSeq_skip (o := ⟨_, _, _, _, _, _⟩) rfl rfl ?_; simp only [Act.put, List.setIfInBounds_toArray, List.set_cons_zero, List.set_cons_succ])
    | (refine wpSeq_free (o := ⟨_, _, _, _, _, _⟩) rfl rfl (fun K hK => ?_); go_big_quiet_op; (refine hK _ ?_; clear hK K)))
  refine wpSeq_next (o := ⟨_, _, _, _, _, _⟩) rfl rfl (fun K hK => ?_)
  go_simp
  refine hK.out _ _ ((hB3.alloc hB3.size _).drew) ?_
  clear hK K
  repeat (first
    | (refine wpSeq_skip (o := ⟨_, _, _, _, _, _⟩) rfl rfl ?_; simp only [Act.put, List.setIfInBounds_toArray, List.set_cons_zero, List.set_cons_succ])
    | (refine wpSeq_free (o := ⟨_, _, _, _, _, _⟩) rfl rfl (fun K hK => ?_); go_big_quiet_op; (refine hK _ ?_; clear hK K)))
  refine wpSeq_next (o := ⟨_, _, _, _, _, _⟩) rfl rfl (fun K hK => ?_)
  refine wp_store_blk _ _ rfl w2.heap.size noneB ⟨0, kk, F, A, []⟩ none none 0 0 rfl rfl (heap_alloc_new _ _) ?_
  intro w4 hb4 hg4
  have hB4 := (hB3.alloc hB3.size (.cells (noneB.cells none 0) 43)).drew.grown hg4 (by have := hB3.size; simp; omega) (fun k hk => by cases hk; exact hB3.size)
  have hr4 : BlkAt w4 w.heap.size noneB none 0 := BlkAt.kept (w := (w2.alloc (.cells (noneB.cells none 0) 43)).drew) (h3.later ((Below.refl _ _).alloc (Nat.le_refl _) _).drew) hg4 (by have := lt_of_block h3; intro e; injection e; omega)
  refine hK.out _ _ (hB4) ?_
  clear hK K
  repeat (first
    | (refine wpSeq_skip (o := ⟨_, _, _, _, _, _⟩) rfl rfl ?_; simp only [Act.put, List.setIfInBounds_toArray, List.set_cons_zero, List.set_cons_succ])
    | (refine wpSeq_free (o := ⟨_, _, _, _, _, _⟩) rfl rfl (fun K hK => ?_); go_big_quiet_op; (refine hK _ ?_; clear hK K)))
  refine wpSeq_nil ?_
  obtain ⟨H, hH⟩ : ∃ H, H = w2.heap.size := ⟨_, rfl⟩
  have hlow : w.heap.size < H := by rw [hH]; exact lt_of_block h3
  rw [← hH] at hb4 ⊢
  clear hg4 h3 hB3 hH p8 hne
  go_wp2
  go_loopw [33] (fun i wr => ∃ j : Nat, j ≤ 8 ∧ i = .int .i64 j ∧ BlkAt wr H ⟨leN (l.take j), kk, F, A, []⟩ none 0 ∧ BlkAt wr w.heap.size noneB none 0 ∧ Below w.heap.size w wr) (fun i _ => 8 - (intOf i).toNat)
  case atStart => exact ⟨0, Nat.zero_le _, rfl, hb4, hr4, hB4⟩
  case round =>
    clear hb4 hr4 hB4
    obtain ⟨j, hj, rfl, hb, hr, hB⟩ := hrel
    by_cases hlt : j < 8
    · obtain ⟨y, hy⟩ : ∃ y, y = l[j]'(by have := Hh.out; omega) := ⟨_, rfl⟩
      have pj := (hby.later hB).cell j (by have := Hh.out; omega)
      rw [← hy] at pj
      have ph : wr.cell? ⟨H, 0, none⟩ = some (.int .u64 (leN (l.take j) : Nat)) := hb.cell 0 _ rfl
      have pf := hb.free 0
      have hj64 : (j : Int) < 64 := by omega
      have hj8 : (j : Int) < 8 := by omega
      have hnew : ∀ u, u = Value.int .u64 ((leN (l.take (j + 1)) : Nat) : Int) → BlkAt (wr.setCell ⟨H, 0, none⟩ u) H ⟨leN (l.take (j + 1)), kk, F, A, []⟩ none 0 := fun u hu => hb.stored 0 u (by rw [hu]; rfl)
      have hst := or_u64 (l.take j) y j (by rw [List.length_take]; have := Hh.out; omega) hlt
      rw [← take_snoc l j y (by have := Hh.out; omega) hy] at hst
      obtain ⟨m, hm⟩ : ∃ m, m = leN (l.take j) := ⟨_, rfl⟩
      obtain ⟨m', hm'⟩ : ∃ m', m' = leN (l.take (j + 1)) := ⟨_, rfl⟩
      rw [← hm] at ph hst
      rw [← hm'] at hst hnew
      have Hy := Lib.hid hy
      have Hm' := Lib.hid hm'
      clear hy hm hm'
      go_wp2
      go_region
      all_goals
        go_wp2
        go_roundw
        case rel =>
          have h1 := hnew _ rfl
          have hne : w.heap.size ≠ H := by omega
          rw [Hm'.out] at h1 ⊢
          exact ⟨j + 1, by omega, by go_num, h1, hr.other _ _ hne, (hB.setCell (p := ⟨H, 0, none⟩) (Nat.le_of_lt hlow) _).drew⟩
        case measure => simp [intOf]; omega
    · obtain rfl : j = 8 := by omega
      obtain ⟨n9, hn9⟩ : ∃ n, n = byteAt l 9 := ⟨_, rfl⟩
      have hlt9 : n9 < 256 := by rw [hn9]; exact UInt8.toNat_lt _
      have c9 : wr.cell? ⟨b, off + 9, none⟩ = some (.int .u8 (n9 : Int)) := by
        rw [(hby.later hB).cell 9 (by have := Hh.out; omega), hn9]
        simp [byteAt, Hh.out]
      obtain ⟨S, hS⟩ : ∃ S, S = leN (l.take 8) := ⟨_, rfl⟩
      rw [← hS] at hb
      have hS64 : S < 18446744073709551616 := by
        have h1 := leN_lt (l.take 8)
        have h2 : (l.take 8).length = 8 := by rw [List.length_take, Hh.out]; rfl
        rw [h2] at h1
        omega
      obtain ⟨body, hbody⟩ : ∃ t, t = (l.drop 10).take (min n9 48) := ⟨_, rfl⟩
      have hbl : body.length = min n9 48 := by rw [hbody, List.length_take, List.length_drop, Hh.out]; omega
      have hb48 : body.length ≤ 48 := by omega
      have hX : decX l = ⟨S, kk, F, A, body⟩ := by
        unfold decX
        rw [hS, HK.out, HF.out, HA.out, hbody, hn9, Hn8.out]
      obtain ⟨x, hx⟩ : ∃ x : Blk, x = ⟨S, kk, F, A, body⟩ := ⟨_, rfl⟩
      have hcl := clone_calls (some ⟨b, off + 10, none⟩) body (cap - 10) wr (by omega) (fun h => nomatch h) (by
        rw [hbody]
        have h1 := (hby.later hB).drop 10 cap (by rw [Hh.out]; exact hc)
        rw [if_neg (by omega)] at h1
        have h2 := h1.take (min n9 48)
        simpa [Addr.add_lit] using h2)
      have hbw : body = x.body := by rw [hx]
      rw [hbw] at hcl hbl hb48
      have hb' : BlkAt wr H ⟨x.serial, x.kind, x.first, x.last, []⟩ none 0 := by rw [hx]; exact hb
      have hE : ∀ m s, mayB x = m → (sealB x == l) = s → decE l = if m && s then 0 else 4 := fun m s h1 h2 => by
        simp only [decE, Hh.out, Hs.out, decOk, hX, ← hx, h1, h2, if_true]
      have hX' : decX l = x := by rw [hX, hx]
      have HE := Lib.hid hE
      have HX := Lib.hid hX'
      have hxs : x.serial < 18446744073709551616 := by rw [hx]; exact hS64
      have hmay : mayB x = false := by rw [← hX']; exact hm0
      clear hE hX' hX hx hb hbody hS hS64 hbw hn9
      have hD := HE.out false _ hmay rfl
      have hDB : decB l = noneB := by simp [decB, hD]
      simp only [Bool.false_and, Bool.false_eq_true, if_false] at hD
      have HD := Lib.hid hD
      have HDB := Lib.hid hDB
      clear hD hDB
      by_cases h48 : n9 ≤ 48
      · rw [hbl, Nat.min_eq_left h48] at hcl
        clear hbl
        go_wp2_with (first
          | (go_at_call 89; refine hcl.mono ?_; rintro e w5 ⟨v5, rfl, hown5, hB5⟩; obtain ⟨a5, c5, rfl, hs5⟩ := hown5.slice; have hb5 := hb'.later hB5; have hr5 := hr.later hB5; have pc5 := hb5.cell 4 _ rfl; have pf5 := hb5.free 4; have hb6 := hb5.stored (b' := x) (a' := a5) (cap' := c5) 4 (.slice a5 x.body.length c5) rfl; have hr6 := hr5.other ⟨H, 4, none⟩ (.slice a5 x.body.length c5) (by simp; omega); have hB6 := (below_call hB (Nat.le_refl _) hB5).setCell (p := ⟨H, 4, none⟩) (Nat.le_of_lt hlow) (.slice a5 x.body.length c5); have hown6 := own_past hown5 H 4 (lt_of_block hb') (.slice a5 x.body.length c5))
          | (refine wpList_load_blk rfl (.tmp 4) rfl H x a5 c5 rfl hb6 ?_)
          | (go_at_call 31; refine (encode_bad x a5 c5 _ hxs (by omega) hmay).mono ?_; rintro e w7 ⟨rfl, hB7⟩; have hr7 := hr6.later hB7; have hBt := below_call hB6 (Nat.le_refl _) hB7)
          | (refine wpList_store_blk rfl (.tmp 2) (.tmp 72) rfl w.heap.size noneB noneB none none 0 0 rfl rfl hr7 ?_; intro w8 hr8 hg8; have hB8 := hBt.grown hg8 hBt.size (fun k hk => by cases hk; exact Nat.le_refl _)))
        exact ret_blk rfl rfl rfl rfl hr8 ⟨none, 0, by rw [HD.out, HDB.out]; rfl, by rw [HDB.out]; exact OwnB.nil _ _, hB8⟩
      · rw [hbl, Nat.min_eq_right (by omega : 48 ≤ n9)] at hcl
        clear hbl
        go_wp2_with (first
          | (go_at_call 89; refine hcl.mono ?_; rintro e w5 ⟨v5, rfl, hown5, hB5⟩; obtain ⟨a5, c5, rfl, hs5⟩ := hown5.slice; have hb5 := hb'.later hB5; have hr5 := hr.later hB5; have pc5 := hb5.cell 4 _ rfl; have pf5 := hb5.free 4; have hb6 := hb5.stored (b' := x) (a' := a5) (cap' := c5) 4 (.slice a5 x.body.length c5) rfl; have hr6 := hr5.other ⟨H, 4, none⟩ (.slice a5 x.body.length c5) (by simp; omega); have hB6 := (below_call hB (Nat.le_refl _) hB5).setCell (p := ⟨H, 4, none⟩) (Nat.le_of_lt hlow) (.slice a5 x.body.length c5); have hown6 := own_past hown5 H 4 (lt_of_block hb') (.slice a5 x.body.length c5))
          | (refine wpList_load_blk rfl (.tmp 4) rfl H x a5 c5 rfl hb6 ?_)
          | (go_at_call 31; refine (encode_bad x a5 c5 _ hxs (by omega) hmay).mono ?_; rintro e w7 ⟨rfl, hB7⟩; have hr7 := hr6.later hB7; have hBt := below_call hB6 (Nat.le_refl _) hB7)
          | (refine wpList_store_blk rfl (.tmp 2) (.tmp 72) rfl w.heap.size noneB noneB none none 0 0 rfl rfl hr7 ?_; intro w8 hr8 hg8; have hB8 := hBt.grown hg8 hBt.size (fun k hk => by cases hk; exact Nat.le_refl _)))
        exact ret_blk rfl rfl rfl rfl hr8 ⟨none, 0, by rw [HD.out, HDB.out]; rfl, by rw [HDB.out]; exact OwnB.nil _ _, hB8⟩

set_option linter.unusedSimpArgs false in
set_option maxHeartbeats 4000000 in
set_option maxRecDepth 100000 in
theorem decode_ne (a : Option Addr) (l : List UInt8) (cap : Nat) (w : World) (h : l.length = 64) (hc : l.length ≤ cap) (hby : IsBytes w a l) (hs : endsB l = true) (hm0 : mayB (decX l) = true) (hs0 : (sealB (decX l) == l) = false) :
    Calls Try.prog 35 #[.slice a l.length cap] w (DecPost l w) := by
  obtain ⟨g, hg⟩ : ∃ g, g = w.heap.size + 1 := ⟨_, rfl⟩
  have h1 : Below w.heap.size w (w.alloc (.cells (noneB.cells none 0) 43)) := (Below.refl _ _).alloc (Nat.le_refl _) _
  have h2 : BlkAt (w.alloc (.cells (noneB.cells none 0) 43)) w.heap.size noneB none 0 := heap_alloc_new _ _
  have he := ends_calls a l cap (w.alloc (.cells (noneB.cells none 0) 43)) (by omega) hc (hby.alloc _)
  rw [hs, h] at he
  have Hh := Lib.hid h
  have Hs := Lib.hid hs
  rw [h] at hc ⊢
  obtain ⟨b, off, rfl⟩ : ∃ b off, a = some ⟨b, off, none⟩ := (by obtain ⟨b, off, e, _⟩ := hby 0 (by omega); exact ⟨b, off, e⟩)
  obtain ⟨n8, hn8⟩ : ∃ n, n = byteAt l 8 := ⟨_, rfl⟩
  have hlt8 : n8 < 256 := by rw [hn8]; exact UInt8.toNat_lt _
  obtain ⟨k1, k2, k3⟩ := kind_bits n8 hlt8
  obtain ⟨kk, hK⟩ : ∃ kk : UInt8, kk = UInt8.ofNat (n8 % 4 + n8 / 16 * 16) := ⟨_, rfl⟩
  have hKn : n8 % 4 + n8 / 16 * 16 = kk.toNat := by rw [hK]; simp; omega
  obtain ⟨F, hF⟩ : ∃ F : Bool, F = (n8 / 4 % 2 == 1) := ⟨_, rfl⟩
  obtain ⟨A, hA⟩ : ∃ A : Bool, A = (n8 / 8 % 2 == 1) := ⟨_, rfl⟩
  rw [hKn] at k1
  rw [← hF] at k2
  rw [← hA] at k3
  have c8 : ∀ W, Below w.heap.size w W → W.cell? ⟨b, off + 8, none⟩ = some (.int .u8 (n8 : Int)) := fun W hW => by
    rw [(hby.later hW).cell 8 (by omega), hn8]
    simp [byteAt, h]
  have HK := Lib.hid hK
  have HF := Lib.hid hF
  have HA := Lib.hid hA
  have Hn8 := Lib.hid hn8
  have C8 := Lib.hid c8
  clear h hs hK hKn hF hA hn8 c8
  go_enter Try.func35, Try.ntmps35
  go_wp2_with (go_at_call 21; refine he.mono ?_; rintro e w2 ⟨rfl, hB2⟩; have h3 := h2.later hB2; have hB3 := below_call h1 (Nat.le_refl _) hB2)
  clear he h2 h1 hB2
  have hne : Nonempty (SW (fun W => Below w.heap.size w W)) := ⟨⟨w2, hB3⟩⟩
  have p8 : ∀ x : SW (fun W => Below w.heap.size w W), x.W.cell? ⟨b, off + 8, none⟩ = some (.int .u8 (n8 : Int)) := fun x => C8.out _ x.h
  refine wp_region_seq2 (fun W => Below w.heap.size w W) [(0, true), (1, true), (2, true), (3, true), (4, true), (5, true), (6, true), (7, true), (8, true), (9, true), (10, true), (11, true), (12, true), (13, true), (14, true), (15, false), (16, false)] (by kernel_rfl) (by kernel_rfl) (fun d _ _ _ _ h => by cases d <;> exact h) (hB3.drew) ?_
  repeat (first
    | (refine wpSeq_skip (o := ⟨_, _, _, _, _, _⟩) rfl rfl ?_; simp only [Act.put, List.setIfInBounds_toArray, List.set_cons_zero, List.set_cons_succ])
    | (refine wpSeq_free (o := ⟨_, _, _, _, _, _⟩) rfl rfl (fun K hK => ?_); go_big_quiet_op; (refine hK _ ?_; clear hK K)))
  refine wpSeq_next (o := ⟨_, _, _, _, _, _⟩) rfl rfl (fun K hK => ?_)
  go_simp
  refine hK.out _ _ ((hB3.alloc hB3.size _).drew) ?_
  clear hK K
  repeat (first
    | (refine wpSeq_skip (o := ⟨_, _, _, _, _, _⟩) rfl rfl ?_; simp only [Act.put, List.setIfInBounds_toArray, List.set_cons_zero, List.set_cons_succ])
    | (refine wpSeq_free (o := ⟨_, _, _, _, _, _⟩) rfl rfl (fun K hK => ?_); go_big_quiet_op; (refine hK _ ?_; clear hK K)))
  refine wpSeq_next (o := ⟨_, _, _, _, _, _⟩) rfl rfl (fun K hK => ?_)
  refine wp_store_blk _ _ rfl w2.heap.size noneB ⟨0, kk, F, A, []⟩ none none 0 0 rfl rfl (heap_alloc_new _ _) ?_
  intro w4 hb4 hg4
  have hB4 := (hB3.alloc hB3.size (.cells (noneB.cells none 0) 43)).drew.grown hg4 (by have := hB3.size; simp; omega) (fun k hk => by cases hk; exact hB3.size)
  have hr4 : BlkAt w4 w.heap.size noneB none 0 := BlkAt.kept (w := (w2.alloc (.cells (noneB.cells none 0) 43)).drew) (h3.later ((Below.refl _ _).alloc (Nat.le_refl _) _).drew) hg4 (by have := lt_of_block h3; intro e; injection e; omega)
  refine hK.out _ _ (hB4) ?_
  clear hK K
  repeat (first
    | (refine wpSeq_skip (o := ⟨_, _, _, _, _, _⟩) rfl rfl ?_; simp only [Act.put, List.setIfInBounds_toArray, List.set_cons_zero, List.set_cons_succ])
    | (refine wpSeq_free (o := ⟨_, _, _, _, _, _⟩) rfl rfl (fun K hK => ?_); go_big_quiet_op; (refine hK _ ?_; clear hK K)))
  refine wpSeq_nil ?_
  obtain ⟨H, hH⟩ : ∃ H, H = w2.heap.size := ⟨_, rfl⟩
  have hlow : w.heap.size < H := by rw [hH]; exact lt_of_block h3
  rw [← hH] at hb4 ⊢
  clear hg4 h3 hB3 hH p8 hne
  go_wp2
  go_loopw [33] (fun i wr => ∃ j : Nat, j ≤ 8 ∧ i = .int .i64 j ∧ BlkAt wr H ⟨leN (l.take j), kk, F, A, []⟩ none 0 ∧ BlkAt wr w.heap.size noneB none 0 ∧ Below w.heap.size w wr) (fun i _ => 8 - (intOf i).toNat)
  case atStart => exact ⟨0, Nat.zero_le _, rfl, hb4, hr4, hB4⟩
  case round =>
    clear hb4 hr4 hB4
    obtain ⟨j, hj, rfl, hb, hr, hB⟩ := hrel
    by_cases hlt : j < 8
    · obtain ⟨y, hy⟩ : ∃ y, y = l[j]'(by have := Hh.out; omega) := ⟨_, rfl⟩
      have pj := (hby.later hB).cell j (by have := Hh.out; omega)
      rw [← hy] at pj
      have ph : wr.cell? ⟨H, 0, none⟩ = some (.int .u64 (leN (l.take j) : Nat)) := hb.cell 0 _ rfl
      have pf := hb.free 0
      have hj64 : (j : Int) < 64 := by omega
      have hj8 : (j : Int) < 8 := by omega
      have hnew : ∀ u, u = Value.int .u64 ((leN (l.take (j + 1)) : Nat) : Int) → BlkAt (wr.setCell ⟨H, 0, none⟩ u) H ⟨leN (l.take (j + 1)), kk, F, A, []⟩ none 0 := fun u hu => hb.stored 0 u (by rw [hu]; rfl)
      have hst := or_u64 (l.take j) y j (by rw [List.length_take]; have := Hh.out; omega) hlt
      rw [← take_snoc l j y (by have := Hh.out; omega) hy] at hst
      obtain ⟨m, hm⟩ : ∃ m, m = leN (l.take j) := ⟨_, rfl⟩
      obtain ⟨m', hm'⟩ : ∃ m', m' = leN (l.take (j + 1)) := ⟨_, rfl⟩
      rw [← hm] at ph hst
      rw [← hm'] at hst hnew
      have Hy := Lib.hid hy
      have Hm' := Lib.hid hm'
      clear hy hm hm'
      go_wp2
      go_region
      all_goals
        go_wp2
        go_roundw
        case rel =>
          have h1 := hnew _ rfl
          have hne : w.heap.size ≠ H := by omega
          rw [Hm'.out] at h1 ⊢
          exact ⟨j + 1, by omega, by go_num, h1, hr.other _ _ hne, (hB.setCell (p := ⟨H, 0, none⟩) (Nat.le_of_lt hlow) _).drew⟩
        case measure => simp [intOf]; omega
    · obtain rfl : j = 8 := by omega
      obtain ⟨n9, hn9⟩ : ∃ n, n = byteAt l 9 := ⟨_, rfl⟩
      have hlt9 : n9 < 256 := by rw [hn9]; exact UInt8.toNat_lt _
      have c9 : wr.cell? ⟨b, off + 9, none⟩ = some (.int .u8 (n9 : Int)) := by
        rw [(hby.later hB).cell 9 (by have := Hh.out; omega), hn9]
        simp [byteAt, Hh.out]
      obtain ⟨S, hS⟩ : ∃ S, S = leN (l.take 8) := ⟨_, rfl⟩
      rw [← hS] at hb
      have hS64 : S < 18446744073709551616 := by
        have h1 := leN_lt (l.take 8)
        have h2 : (l.take 8).length = 8 := by rw [List.length_take, Hh.out]; rfl
        rw [h2] at h1
        omega
      obtain ⟨body, hbody⟩ : ∃ t, t = (l.drop 10).take (min n9 48) := ⟨_, rfl⟩
      have hbl : body.length = min n9 48 := by rw [hbody, List.length_take, List.length_drop, Hh.out]; omega
      have hb48 : body.length ≤ 48 := by omega
      have hX : decX l = ⟨S, kk, F, A, body⟩ := by
        unfold decX
        rw [hS, HK.out, HF.out, HA.out, hbody, hn9, Hn8.out]
      obtain ⟨x, hx⟩ : ∃ x : Blk, x = ⟨S, kk, F, A, body⟩ := ⟨_, rfl⟩
      have hcl := clone_calls (some ⟨b, off + 10, none⟩) body (cap - 10) wr (by omega) (fun h => nomatch h) (by
        rw [hbody]
        have h1 := (hby.later hB).drop 10 cap (by rw [Hh.out]; exact hc)
        rw [if_neg (by omega)] at h1
        have h2 := h1.take (min n9 48)
        simpa [Addr.add_lit] using h2)
      have hbw : body = x.body := by rw [hx]
      rw [hbw] at hcl hbl hb48
      have hb' : BlkAt wr H ⟨x.serial, x.kind, x.first, x.last, []⟩ none 0 := by rw [hx]; exact hb
      have hE : ∀ m s, mayB x = m → (sealB x == l) = s → decE l = if m && s then 0 else 4 := fun m s h1 h2 => by
        simp only [decE, Hh.out, Hs.out, decOk, hX, ← hx, h1, h2, if_true]
      have hX' : decX l = x := by rw [hX, hx]
      have HE := Lib.hid hE
      have HX := Lib.hid hX'
      have hxs : x.serial < 18446744073709551616 := by rw [hx]; exact hS64
      have hmay : mayB x = true := by rw [← hX']; exact hm0
      have hsl : (sealB x == l) = false := by rw [← hX']; exact hs0
      clear hE hX' hX hx hb hbody hS hS64 hbw hn9
      have heq7 : ∀ (a7 : Option Addr) (c7 : Nat) (W : World), IsBytes W a7 (sealB x) → Below w.heap.size w W → Calls Try.prog 90 #[.slice a7 (sealB x).length c7, .slice (some ⟨b, off, none⟩) 64 cap] W fun e w' => e = .returned (.bool (sealB x == l)) ∧ W = w' := fun a7 c7 W h1 h2 => by
        have h := equal_calls a7 (some ⟨b, off, none⟩) (sealB x) l c7 cap W h1 (hby.later h2)
        rw [Hh.out] at h
        exact h
      have hD := HE.out true false hmay hsl
      have hDB : decB l = noneB := by simp [decB, hD]
      simp only [Bool.and_false, Bool.false_eq_true, if_false] at hD
      rw [hsl] at heq7
      have HD := Lib.hid hD
      have HDB := Lib.hid hDB
      have Hsl := Lib.hid hsl
      clear hD hDB hsl
      by_cases h48 : n9 ≤ 48
      · rw [hbl, Nat.min_eq_left h48] at hcl
        clear hbl
        go_wp2_with (first
          | (go_at_call 89; refine hcl.mono ?_; rintro e w5 ⟨v5, rfl, hown5, hB5⟩; obtain ⟨a5, c5, rfl, hs5⟩ := hown5.slice; have hb5 := hb'.later hB5; have hr5 := hr.later hB5; have pc5 := hb5.cell 4 _ rfl; have pf5 := hb5.free 4; have hb6 := hb5.stored (b' := x) (a' := a5) (cap' := c5) 4 (.slice a5 x.body.length c5) rfl; have hr6 := hr5.other ⟨H, 4, none⟩ (.slice a5 x.body.length c5) (by simp; omega); have hB6 := (below_call hB (Nat.le_refl _) hB5).setCell (p := ⟨H, 4, none⟩) (Nat.le_of_lt hlow) (.slice a5 x.body.length c5); have hown6 := own_past hown5 H 4 (lt_of_block hb') (.slice a5 x.body.length c5))
          | (refine wpList_load_blk rfl (.tmp 4) rfl H x a5 c5 rfl hb6 ?_)
          | (go_at_call 31; refine (encode_good x a5 c5 _ hs5.2.1 (fun e => by obtain ⟨q1, q2⟩ := hs5.2.2.2.2 e; exact ⟨by rw [q1]; rfl, q2⟩) (hown6.bytes) hmay).mono ?_; rintro e w7 ⟨v7, rfl, hown7, hB7⟩; obtain ⟨a7, c7, rfl, _⟩ := hown7.slice; have hr7 := hr6.later hB7; have hBt := below_call hB6 (Nat.le_refl _) hB7)
          | (go_at_call 90; refine (heq7 a7 c7 _ hown7.bytes hBt).mono ?_; rintro e w9 ⟨rfl, rfl⟩)
          | (refine wpList_store_blk rfl (.tmp 2) (.tmp 72) rfl w.heap.size noneB noneB none none 0 0 rfl rfl hr7 ?_; intro w8 hr8 hg8; have hB8 := hBt.grown hg8 hBt.size (fun k hk => by cases hk; exact Nat.le_refl _)))
        exact ret_blk rfl rfl rfl rfl hr8 ⟨none, 0, by rw [HD.out, HDB.out]; rfl, by rw [HDB.out]; exact OwnB.nil _ _, hB8⟩
      · rw [hbl, Nat.min_eq_right (by omega : 48 ≤ n9)] at hcl
        clear hbl
        go_wp2_with (first
          | (go_at_call 89; refine hcl.mono ?_; rintro e w5 ⟨v5, rfl, hown5, hB5⟩; obtain ⟨a5, c5, rfl, hs5⟩ := hown5.slice; have hb5 := hb'.later hB5; have hr5 := hr.later hB5; have pc5 := hb5.cell 4 _ rfl; have pf5 := hb5.free 4; have hb6 := hb5.stored (b' := x) (a' := a5) (cap' := c5) 4 (.slice a5 x.body.length c5) rfl; have hr6 := hr5.other ⟨H, 4, none⟩ (.slice a5 x.body.length c5) (by simp; omega); have hB6 := (below_call hB (Nat.le_refl _) hB5).setCell (p := ⟨H, 4, none⟩) (Nat.le_of_lt hlow) (.slice a5 x.body.length c5); have hown6 := own_past hown5 H 4 (lt_of_block hb') (.slice a5 x.body.length c5))
          | (refine wpList_load_blk rfl (.tmp 4) rfl H x a5 c5 rfl hb6 ?_)
          | (go_at_call 31; refine (encode_good x a5 c5 _ hs5.2.1 (fun e => by obtain ⟨q1, q2⟩ := hs5.2.2.2.2 e; exact ⟨by rw [q1]; rfl, q2⟩) (hown6.bytes) hmay).mono ?_; rintro e w7 ⟨v7, rfl, hown7, hB7⟩; obtain ⟨a7, c7, rfl, _⟩ := hown7.slice; have hr7 := hr6.later hB7; have hBt := below_call hB6 (Nat.le_refl _) hB7)
          | (go_at_call 90; refine (heq7 a7 c7 _ hown7.bytes hBt).mono ?_; rintro e w9 ⟨rfl, rfl⟩)
          | (refine wpList_store_blk rfl (.tmp 2) (.tmp 72) rfl w.heap.size noneB noneB none none 0 0 rfl rfl hr7 ?_; intro w8 hr8 hg8; have hB8 := hBt.grown hg8 hBt.size (fun k hk => by cases hk; exact Nat.le_refl _)))
        exact ret_blk rfl rfl rfl rfl hr8 ⟨none, 0, by rw [HD.out, HDB.out]; rfl, by rw [HDB.out]; exact OwnB.nil _ _, hB8⟩

set_option linter.unusedSimpArgs false in
set_option maxHeartbeats 4000000 in
set_option maxRecDepth 100000 in
theorem decode_ok (a : Option Addr) (l : List UInt8) (cap : Nat) (w : World) (h : l.length = 64) (hc : l.length ≤ cap) (hby : IsBytes w a l) (hs : endsB l = true) (hm0 : mayB (decX l) = true) (hs0 : (sealB (decX l) == l) = true) :
    Calls Try.prog 35 #[.slice a l.length cap] w (DecPost l w) := by
  obtain ⟨g, hg⟩ : ∃ g, g = w.heap.size + 1 := ⟨_, rfl⟩
  have h1 : Below w.heap.size w (w.alloc (.cells (noneB.cells none 0) 43)) := (Below.refl _ _).alloc (Nat.le_refl _) _
  have h2 : BlkAt (w.alloc (.cells (noneB.cells none 0) 43)) w.heap.size noneB none 0 := heap_alloc_new _ _
  have he := ends_calls a l cap (w.alloc (.cells (noneB.cells none 0) 43)) (by omega) hc (hby.alloc _)
  rw [hs, h] at he
  have Hh := Lib.hid h
  have Hs := Lib.hid hs
  rw [h] at hc ⊢
  obtain ⟨b, off, rfl⟩ : ∃ b off, a = some ⟨b, off, none⟩ := (by obtain ⟨b, off, e, _⟩ := hby 0 (by omega); exact ⟨b, off, e⟩)
  obtain ⟨n8, hn8⟩ : ∃ n, n = byteAt l 8 := ⟨_, rfl⟩
  have hlt8 : n8 < 256 := by rw [hn8]; exact UInt8.toNat_lt _
  obtain ⟨k1, k2, k3⟩ := kind_bits n8 hlt8
  obtain ⟨kk, hK⟩ : ∃ kk : UInt8, kk = UInt8.ofNat (n8 % 4 + n8 / 16 * 16) := ⟨_, rfl⟩
  have hKn : n8 % 4 + n8 / 16 * 16 = kk.toNat := by rw [hK]; simp; omega
  obtain ⟨F, hF⟩ : ∃ F : Bool, F = (n8 / 4 % 2 == 1) := ⟨_, rfl⟩
  obtain ⟨A, hA⟩ : ∃ A : Bool, A = (n8 / 8 % 2 == 1) := ⟨_, rfl⟩
  rw [hKn] at k1
  rw [← hF] at k2
  rw [← hA] at k3
  have c8 : ∀ W, Below w.heap.size w W → W.cell? ⟨b, off + 8, none⟩ = some (.int .u8 (n8 : Int)) := fun W hW => by
    rw [(hby.later hW).cell 8 (by omega), hn8]
    simp [byteAt, h]
  have HK := Lib.hid hK
  have HF := Lib.hid hF
  have HA := Lib.hid hA
  have Hn8 := Lib.hid hn8
  have C8 := Lib.hid c8
  clear h hs hK hKn hF hA hn8 c8
  go_enter Try.func35, Try.ntmps35
  go_wp2_with (go_at_call 21; refine he.mono ?_; rintro e w2 ⟨rfl, hB2⟩; have h3 := h2.later hB2; have hB3 := below_call h1 (Nat.le_refl _) hB2)
  clear he h2 h1 hB2
  have hne : Nonempty (SW (fun W => Below w.heap.size w W)) := ⟨⟨w2, hB3⟩⟩
  have p8 : ∀ x : SW (fun W => Below w.heap.size w W), x.W.cell? ⟨b, off + 8, none⟩ = some (.int .u8 (n8 : Int)) := fun x => C8.out _ x.h
  refine wp_region_seq2 (fun W => Below w.heap.size w W) [(0, true), (1, true), (2, true), (3, true), (4, true), (5, true), (6, true), (7, true), (8, true), (9, true), (10, true), (11, true), (12, true), (13, true), (14, true), (15, false), (16, false)] (by kernel_rfl) (by kernel_rfl) (fun d _ _ _ _ h => by cases d <;> exact h) (hB3.drew) ?_
  repeat (first
    | (refine wpSeq_skip (o := ⟨_, _, _, _, _, _⟩) rfl rfl ?_; simp only [Act.put, List.setIfInBounds_toArray, List.set_cons_zero, List.set_cons_succ])
    | (refine wpSeq_free (o := ⟨_, _, _, _, _, _⟩) rfl rfl (fun K hK => ?_); go_big_quiet_op; (refine hK _ ?_; clear hK K)))
  refine wpSeq_next (o := ⟨_, _, _, _, _, _⟩) rfl rfl (fun K hK => ?_)
  go_simp
  refine hK.out _ _ ((hB3.alloc hB3.size _).drew) ?_
  clear hK K
  repeat (first
    | (refine wpSeq_skip (o := ⟨_, _, _, _, _, _⟩) rfl rfl ?_; simp only [Act.put, List.setIfInBounds_toArray, List.set_cons_zero, List.set_cons_succ])
    | (refine wpSeq_free (o := ⟨_, _, _, _, _, _⟩) rfl rfl (fun K hK => ?_); go_big_quiet_op; (refine hK _ ?_; clear hK K)))
  refine wpSeq_next (o := ⟨_, _, _, _, _, _⟩) rfl rfl (fun K hK => ?_)
  refine wp_store_blk _ _ rfl w2.heap.size noneB ⟨0, kk, F, A, []⟩ none none 0 0 rfl rfl (heap_alloc_new _ _) ?_
  intro w4 hb4 hg4
  have hB4 := (hB3.alloc hB3.size (.cells (noneB.cells none 0) 43)).drew.grown hg4 (by have := hB3.size; simp; omega) (fun k hk => by cases hk; exact hB3.size)
  have hr4 : BlkAt w4 w.heap.size noneB none 0 := BlkAt.kept (w := (w2.alloc (.cells (noneB.cells none 0) 43)).drew) (h3.later ((Below.refl _ _).alloc (Nat.le_refl _) _).drew) hg4 (by have := lt_of_block h3; intro e; injection e; omega)
  refine hK.out _ _ (hB4) ?_
  clear hK K
  repeat (first
    | (refine wpSeq_skip (o := ⟨_, _, _, _, _, _⟩) rfl rfl ?_; simp only [Act.put, List.setIfInBounds_toArray, List.set_cons_zero, List.set_cons_succ])
    | (refine wpSeq_free (o := ⟨_, _, _, _, _, _⟩) rfl rfl (fun K hK => ?_); go_big_quiet_op; (refine hK _ ?_; clear hK K)))
  refine wpSeq_nil ?_
  obtain ⟨H, hH⟩ : ∃ H, H = w2.heap.size := ⟨_, rfl⟩
  have hlow : w.heap.size < H := by rw [hH]; exact lt_of_block h3
  rw [← hH] at hb4 ⊢
  clear hg4 h3 hB3 hH p8 hne
  go_wp2
  go_loopw [33] (fun i wr => ∃ j : Nat, j ≤ 8 ∧ i = .int .i64 j ∧ BlkAt wr H ⟨leN (l.take j), kk, F, A, []⟩ none 0 ∧ BlkAt wr w.heap.size noneB none 0 ∧ Below w.heap.size w wr) (fun i _ => 8 - (intOf i).toNat)
  case atStart => exact ⟨0, Nat.zero_le _, rfl, hb4, hr4, hB4⟩
  case round =>
    clear hb4 hr4 hB4
    obtain ⟨j, hj, rfl, hb, hr, hB⟩ := hrel
    by_cases hlt : j < 8
    · obtain ⟨y, hy⟩ : ∃ y, y = l[j]'(by have := Hh.out; omega) := ⟨_, rfl⟩
      have pj := (hby.later hB).cell j (by have := Hh.out; omega)
      rw [← hy] at pj
      have ph : wr.cell? ⟨H, 0, none⟩ = some (.int .u64 (leN (l.take j) : Nat)) := hb.cell 0 _ rfl
      have pf := hb.free 0
      have hj64 : (j : Int) < 64 := by omega
      have hj8 : (j : Int) < 8 := by omega
      have hnew : ∀ u, u = Value.int .u64 ((leN (l.take (j + 1)) : Nat) : Int) → BlkAt (wr.setCell ⟨H, 0, none⟩ u) H ⟨leN (l.take (j + 1)), kk, F, A, []⟩ none 0 := fun u hu => hb.stored 0 u (by rw [hu]; rfl)
      have hst := or_u64 (l.take j) y j (by rw [List.length_take]; have := Hh.out; omega) hlt
      rw [← take_snoc l j y (by have := Hh.out; omega) hy] at hst
      obtain ⟨m, hm⟩ : ∃ m, m = leN (l.take j) := ⟨_, rfl⟩
      obtain ⟨m', hm'⟩ : ∃ m', m' = leN (l.take (j + 1)) := ⟨_, rfl⟩
      rw [← hm] at ph hst
      rw [← hm'] at hst hnew
      have Hy := Lib.hid hy
      have Hm' := Lib.hid hm'
      clear hy hm hm'
      go_wp2
      go_region
      all_goals
        go_wp2
        go_roundw
        case rel =>
          have h1 := hnew _ rfl
          have hne : w.heap.size ≠ H := by omega
          rw [Hm'.out] at h1 ⊢
          exact ⟨j + 1, by omega, by go_num, h1, hr.other _ _ hne, (hB.setCell (p := ⟨H, 0, none⟩) (Nat.le_of_lt hlow) _).drew⟩
        case measure => simp [intOf]; omega
    · obtain rfl : j = 8 := by omega
      obtain ⟨n9, hn9⟩ : ∃ n, n = byteAt l 9 := ⟨_, rfl⟩
      have hlt9 : n9 < 256 := by rw [hn9]; exact UInt8.toNat_lt _
      have c9 : wr.cell? ⟨b, off + 9, none⟩ = some (.int .u8 (n9 : Int)) := by
        rw [(hby.later hB).cell 9 (by have := Hh.out; omega), hn9]
        simp [byteAt, Hh.out]
      obtain ⟨S, hS⟩ : ∃ S, S = leN (l.take 8) := ⟨_, rfl⟩
      rw [← hS] at hb
      have hS64 : S < 18446744073709551616 := by
        have h1 := leN_lt (l.take 8)
        have h2 : (l.take 8).length = 8 := by rw [List.length_take, Hh.out]; rfl
        rw [h2] at h1
        omega
      obtain ⟨body, hbody⟩ : ∃ t, t = (l.drop 10).take (min n9 48) := ⟨_, rfl⟩
      have hbl : body.length = min n9 48 := by rw [hbody, List.length_take, List.length_drop, Hh.out]; omega
      have hb48 : body.length ≤ 48 := by omega
      have hX : decX l = ⟨S, kk, F, A, body⟩ := by
        unfold decX
        rw [hS, HK.out, HF.out, HA.out, hbody, hn9, Hn8.out]
      obtain ⟨x, hx⟩ : ∃ x : Blk, x = ⟨S, kk, F, A, body⟩ := ⟨_, rfl⟩
      have hcl := clone_calls (some ⟨b, off + 10, none⟩) body (cap - 10) wr (by omega) (fun h => nomatch h) (by
        rw [hbody]
        have h1 := (hby.later hB).drop 10 cap (by rw [Hh.out]; exact hc)
        rw [if_neg (by omega)] at h1
        have h2 := h1.take (min n9 48)
        simpa [Addr.add_lit] using h2)
      have hbw : body = x.body := by rw [hx]
      rw [hbw] at hcl hbl hb48
      have hb' : BlkAt wr H ⟨x.serial, x.kind, x.first, x.last, []⟩ none 0 := by rw [hx]; exact hb
      have hE : ∀ m s, mayB x = m → (sealB x == l) = s → decE l = if m && s then 0 else 4 := fun m s h1 h2 => by
        simp only [decE, Hh.out, Hs.out, decOk, hX, ← hx, h1, h2, if_true]
      have hX' : decX l = x := by rw [hX, hx]
      have HE := Lib.hid hE
      have HX := Lib.hid hX'
      have hxs : x.serial < 18446744073709551616 := by rw [hx]; exact hS64
      have hmay : mayB x = true := by rw [← hX']; exact hm0
      have hsl : (sealB x == l) = true := by rw [← hX']; exact hs0
      clear hE hX' hX hx hb hbody hS hS64 hbw hn9
      have heq7 : ∀ (a7 : Option Addr) (c7 : Nat) (W : World), IsBytes W a7 (sealB x) → Below w.heap.size w W → Calls Try.prog 90 #[.slice a7 (sealB x).length c7, .slice (some ⟨b, off, none⟩) 64 cap] W fun e w' => e = .returned (.bool (sealB x == l)) ∧ W = w' := fun a7 c7 W h1 h2 => by
        have h := equal_calls a7 (some ⟨b, off, none⟩) (sealB x) l c7 cap W h1 (hby.later h2)
        rw [Hh.out] at h
        exact h
      have hD := HE.out true true hmay hsl
      simp only [Bool.and_self, if_true] at hD
      have hDB : decB l = x := by simp only [decB, hD, if_true]; exact HX.out
      rw [hsl] at heq7
      have HD := Lib.hid hD
      have HDB := Lib.hid hDB
      have Hsl := Lib.hid hsl
      clear hD hDB hsl
      by_cases h48 : n9 ≤ 48
      · rw [hbl, Nat.min_eq_left h48] at hcl
        clear hbl
        go_wp2_with (first
          | (go_at_call 89; refine hcl.mono ?_; rintro e w5 ⟨v5, rfl, hown5, hB5⟩; obtain ⟨a5, c5, rfl, hs5⟩ := hown5.slice; have hb5 := hb'.later hB5; have hr5 := hr.later hB5; have pc5 := hb5.cell 4 _ rfl; have pf5 := hb5.free 4; have hb6 := hb5.stored (b' := x) (a' := a5) (cap' := c5) 4 (.slice a5 x.body.length c5) rfl; have hr6 := hr5.other ⟨H, 4, none⟩ (.slice a5 x.body.length c5) (by simp; omega); have hB6 := (below_call hB (Nat.le_refl _) hB5).setCell (p := ⟨H, 4, none⟩) (Nat.le_of_lt hlow) (.slice a5 x.body.length c5); have hown6 := own_past hown5 H 4 (lt_of_block hb') (.slice a5 x.body.length c5))
          | (refine wpList_load_blk rfl (.tmp 4) rfl H x a5 c5 rfl hb6 ?_)
          | (go_at_call 31; refine (encode_good x a5 c5 _ hs5.2.1 (fun e => by obtain ⟨q1, q2⟩ := hs5.2.2.2.2 e; exact ⟨by rw [q1]; rfl, q2⟩) (hown6.bytes) hmay).mono ?_; rintro e w7 ⟨v7, rfl, hown7, hB7⟩; obtain ⟨a7, c7, rfl, _⟩ := hown7.slice; have hr7 := hr6.later hB7; have hBt := below_call hB6 (Nat.le_refl _) hB7)
          | (go_at_call 90; refine (heq7 a7 c7 _ hown7.bytes hBt).mono ?_; rintro e w9 ⟨rfl, rfl⟩)
          | (refine wpList_load_blk rfl (.tmp 4) rfl H x a5 c5 rfl (hb6.later hB7) ?_)
          | (refine wpList_store_blk rfl (.tmp 2) (.tmp 73) rfl w.heap.size noneB x none a5 0 c5 rfl rfl hr7 ?_; intro w8 hr8 hg8; have hB8 := hBt.grown hg8 hBt.size (fun k hk => by cases hk; exact Nat.le_refl _)))
        exact ret_blk rfl rfl rfl rfl hr8 ⟨a5, c5, by rw [HD.out, HDB.out]; rfl, by rw [HDB.out]; exact own_final hown6 hB7 hg8 (Nat.lt_of_lt_of_le (lt_of_block hr) (Nat.le_refl _)) (hB.size), hB8⟩
      · rw [hbl, Nat.min_eq_right (by omega : 48 ≤ n9)] at hcl
        clear hbl
        go_wp2_with (first
          | (go_at_call 89; refine hcl.mono ?_; rintro e w5 ⟨v5, rfl, hown5, hB5⟩; obtain ⟨a5, c5, rfl, hs5⟩ := hown5.slice; have hb5 := hb'.later hB5; have hr5 := hr.later hB5; have pc5 := hb5.cell 4 _ rfl; have pf5 := hb5.free 4; have hb6 := hb5.stored (b' := x) (a' := a5) (cap' := c5) 4 (.slice a5 x.body.length c5) rfl; have hr6 := hr5.other ⟨H, 4, none⟩ (.slice a5 x.body.length c5) (by simp; omega); have hB6 := (below_call hB (Nat.le_refl _) hB5).setCell (p := ⟨H, 4, none⟩) (Nat.le_of_lt hlow) (.slice a5 x.body.length c5); have hown6 := own_past hown5 H 4 (lt_of_block hb') (.slice a5 x.body.length c5))
          | (refine wpList_load_blk rfl (.tmp 4) rfl H x a5 c5 rfl hb6 ?_)
          | (go_at_call 31; refine (encode_good x a5 c5 _ hs5.2.1 (fun e => by obtain ⟨q1, q2⟩ := hs5.2.2.2.2 e; exact ⟨by rw [q1]; rfl, q2⟩) (hown6.bytes) hmay).mono ?_; rintro e w7 ⟨v7, rfl, hown7, hB7⟩; obtain ⟨a7, c7, rfl, _⟩ := hown7.slice; have hr7 := hr6.later hB7; have hBt := below_call hB6 (Nat.le_refl _) hB7)
          | (go_at_call 90; refine (heq7 a7 c7 _ hown7.bytes hBt).mono ?_; rintro e w9 ⟨rfl, rfl⟩)
          | (refine wpList_load_blk rfl (.tmp 4) rfl H x a5 c5 rfl (hb6.later hB7) ?_)
          | (refine wpList_store_blk rfl (.tmp 2) (.tmp 73) rfl w.heap.size noneB x none a5 0 c5 rfl rfl hr7 ?_; intro w8 hr8 hg8; have hB8 := hBt.grown hg8 hBt.size (fun k hk => by cases hk; exact Nat.le_refl _)))
        exact ret_blk rfl rfl rfl rfl hr8 ⟨a5, c5, by rw [HD.out, HDB.out]; rfl, by rw [HDB.out]; exact own_final hown6 hB7 hg8 (Nat.lt_of_lt_of_le (lt_of_block hr) (Nat.le_refl _)) (hB.size), hB8⟩


theorem decode_calls (a : Option Addr) (l : List UInt8) (cap : Nat) (w : World) (hc : l.length ≤ cap) (hby : IsBytes w a l) :
    Calls Try.prog 35 #[.slice a l.length cap] w (DecPost l w) := by
  by_cases h : l.length = 64
  · cases hs : endsB l with
    | false => exact decode_sum a l cap w h hc hby hs
    | true =>
      cases hm : mayB (decX l) with
      | false => exact decode_bad a l cap w h hc hby hs hm
      | true =>
        cases hsl : (sealB (decX l) == l) with
        | false => exact decode_ne a l cap w h hc hby hs hm hsl
        | true => exact decode_ok a l cap w h hc hby hs hm hsl
  · exact decode_len a l cap w h

end Go.Proofs.Ytdlbjllgdikadaa
