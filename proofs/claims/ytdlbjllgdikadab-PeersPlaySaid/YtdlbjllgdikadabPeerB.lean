/- Rounds of peers: end, turn, Good, Bad, Hurry, Look, Copy. -/
import Derived.Test.YtdlbjllgdikadabPeerA
import Derived.Deep.Cut
import Derived.Deep.CutRange
import Derived.Laws.Tables
import Derived.RegionTactic
import Derived.OwnWalk
import Derived.WalkKit
import Derived.Laws.CopyOwn
import Derived.Laws.AppendOwnNone
import Derived.ArgAppend
import Derived.ChangeAlike
import Derived.Lib.OwnKind
namespace Go.Proofs.Ytdlbjllgdikadab
open Go.RowKit

theorem over_world {C : World → Prop} {R : World → Prop} {W : World} (h1 : R W) (h : ∀ W', R W' → C W') : C W := h W h1

theorem updS_updS (f : Nat → St) (i : Nat) (s t : St) : updS (updS f i s) i t = updS f i t := by
  funext k
  unfold updS
  split <;> rfl

/-- How a peer stands is written, part by part. -/
theorem RdAt.put {w : World} {g : Nat} {d : Rd} {f : Nat → St} {i : Nat} {s : St} (h : RdAt w g { d with by_ := updS f i s }) (hi : i < 16) (j : Nat) (hj : j < 4) (t : St) (u : Value) (hu : stCell t j = u)
    (o0 : j ≠ 0 → t.due = s.due) (o1 : j ≠ 1 → t.fails = s.fails) (o2 : j ≠ 2 → t.busy = s.busy) (o3 : j ≠ 3 → t.since = s.since) : RdAt (w.setCell ⟨g, 4 + i * 4 + j, none⟩ u) g { d with by_ := updS f i t } := by
  have := h.storedS i j hi hj t u hu (fun k hk hkj => by
    show _ = stCell (updS f i s i) k
    rw [updS_same]
    match k with
    | 0 => simp only [stCell, o0 (fun e => hkj e.symm)]
    | 1 => simp only [stCell, o1 (fun e => hkj e.symm)]
    | 2 => simp only [stCell, o2 (fun e => hkj e.symm)]
    | 3 => simp only [stCell, o3 (fun e => hkj e.symm)]
    | n + 4 => omega)
  rw [show ({ d with by_ := updS (updS f i s) i t } : Rd) = { d with by_ := updS f i t } by rw [updS_updS]] at this
  exact this
theorem RdAt.begin {w : World} {g : Nat} {d : Rd} (h : RdAt w g d) (i : Nat) : RdAt w g { d with by_ := updS d.by_ i (d.by_ i) } := by
  have e : updS d.by_ i (d.by_ i) = d.by_ := by
    funext k; unfold updS; split
    · rename_i e; rw [e]
    · rfl
  rw [e]; exact h
theorem grown_set {w w' : World} {g : Nat} (h : w.grownBy w' (some g)) (p : Addr) (u : Value) (hp : p.block = g) : w.grownBy (w'.setCell p u) (some g) :=
  ⟨h.os, h.tape, h.output, by simpa using h.size, fun k hk hkg => (heap_setCell_other w' p k u (fun e => hkg (by rw [e, hp]))).trans (h.block k hk hkg)⟩
theorem grown_refl (w : World) (row : Option Nat) : w.grownBy w row := ⟨rfl, rfl, rfl, Nat.le_refl _, fun _ _ _ => rfl⟩

theorem back_val (now F : Nat) (h1 : now ≤ 1099511627776) : IntKind.u64.wrap ((now : Int) + IntKind.u64.wrap (if wrap64 (2 ^ (if 10 < (F : Int) + 1 then 10 else (F : Int) + 1).toNat) < 64 then wrap64 (2 ^ (if 10 < (F : Int) + 1 then 10 else (F : Int) + 1).toNat) else 64)) = ((now + backOf (F + 1) : Nat) : Int) := by
  have e : (if 10 < (F : Int) + 1 then 10 else (F : Int) + 1).toNat = min (F + 1) 10 := by
    split <;> omega
  rw [e]
  obtain ⟨m, hm⟩ : ∃ m, m = min (F + 1) 10 := ⟨_, rfl⟩
  unfold backOf
  rw [← hm]
  have hm10 : m ≤ 10 := by omega
  have h2 : ∀ m, m ≤ 10 → IntKind.u64.wrap (if wrap64 (2 ^ m) < 64 then wrap64 (2 ^ m) else 64) = ((min 64 (2 ^ m) : Nat) : Int) := by decide +kernel
  rw [h2 m hm10]
  have := Nat.min_le_left 64 (2 ^ m)
  generalize min 64 (2 ^ m) = q at this ⊢
  rw [IntKind.wrap_u64]
  omega

theorem RdAt.beside {w : World} {g : Nat} {d : Rd} (h : RdAt w g d) (p q : Nat) (hpq : p ≠ q) (u : Value) : (w.setCell ⟨g, p, none⟩ u).cell? ⟨g, q, none⟩ = w.cell? ⟨g, q, none⟩ := by
  rw [cell_of_row _ g q _ _ _ (heap_setCell_same w g p _ 57 u h), cell_of_row w g q _ _ _ h, Array.getElem?_setIfInBounds_ne hpq]
/-- The first part. -/
theorem RdAt.put0 {w : World} {g : Nat} {d : Rd} {f : Nat → St} {i : Nat} {s : St} (h : RdAt w g { d with by_ := updS f i s }) (hi : i < 16) (t : St) (u : Value) (hu : stCell t 0 = u)
    (o1 : t.fails = s.fails) (o2 : t.busy = s.busy) (o3 : t.since = s.since) : RdAt (w.setCell ⟨g, 4 + i * 4, none⟩ u) g { d with by_ := updS f i t } :=
  h.put hi 0 (by decide) t u hu (fun e => absurd rfl e) (fun _ => o1) (fun _ => o2) (fun _ => o3)
set_option maxRecDepth 100000 in
theorem end_good (g : Nat) (d : Rd) (i : Nat) (c : Nat) (w : World) (h : RdAt w g d) (hok : RdOk c d) (hc : c ≤ 1099511627776) (hi : i < d.n) :
    Calls Try.prog 24 #[.pointer (some ⟨g, 0, none⟩), .int .i64 (i : Int), .bool true] w fun e w' => e = .returned (.tuple #[]) ∧ RdAt w' g (endD d i true) ∧ w.grownBy w' (some g) := by
  have hi16 : i < 16 := by have := hok.n16; omega
  have c3 := h.c3
  have s0 := h.s0 i hi16
  have s1 := h.s1 i hi16
  have s2 := h.s2 i hi16
  have s3 := h.s3 i hi16
  have f0 := h.free (4 + i * 4)
  have f1 := h.free (4 + i * 4 + 1)
  have f2 := h.free (4 + i * 4 + 2)
  have f3 := h.free (4 + i * 4 + 3)
  have hnow := hok.now
  have k1 := (h.begin i).put hi16 2 (by decide) { d.by_ i with busy := false } (.bool false) rfl (fun _ => rfl) (fun _ => rfl) (fun e => absurd rfl e) (fun _ => rfl)
  have k2 := k1.put hi16 3 (by decide) { d.by_ i with busy := false, since := 0 } (.int .u64 0) rfl (fun _ => rfl) (fun _ => rfl) (fun _ => rfl) (fun e => absurd rfl e)
  have k3 := k2.put hi16 1 (by decide) { d.by_ i with busy := false, since := 0, fails := 0 } (.int .i64 0) rfl (fun _ => rfl) (fun e => absurd rfl e) (fun _ => rfl) (fun _ => rfl)
  have k4 := k3.put0 hi16 ⟨d.now + 4, 0, false, 0⟩ (.int .u64 ((d.now : Int) + 4)) rfl rfl rfl rfl
  rw [← show endD d i true = { d with by_ := updS d.by_ i ⟨d.now + 4, 0, false, 0⟩ } from rfl] at k4
  have g4 := grown_set (grown_set (grown_set (grown_set (grown_refl w (some g)) ⟨g, 4 + i * 4 + 2, none⟩ (.bool false) rfl) ⟨g, 4 + i * 4 + 3, none⟩ (.int .u64 0) rfl) ⟨g, 4 + i * 4 + 1, none⟩ (.int .i64 0) rfl) ⟨g, 4 + i * 4, none⟩ (.int .u64 ((d.now : Int) + 4)) rfl
  have K4 := Lib.hid (And.intro k4 g4)
  clear k1 k2 k3 k4 g4
  go_enter Try.func24, Try.ntmps24
  go_wp2
  refine bodyPost_ret (v := .tuple #[]) (by simp [results, Try.results24, go_sem]) rfl ?_
  exact ⟨rfl, K4.out.1, K4.out.2⟩

set_option maxRecDepth 100000 in
theorem end_bad (g : Nat) (d : Rd) (i : Nat) (c : Nat) (w : World) (h : RdAt w g d) (hok : RdOk c d) (hc : c ≤ 1099511627776) (hi : i < d.n) :
    Calls Try.prog 24 #[.pointer (some ⟨g, 0, none⟩), .int .i64 (i : Int), .bool false] w fun e w' => e = .returned (.tuple #[]) ∧ RdAt w' g (endD d i false) ∧ w.grownBy w' (some g) := by
  have hi16 : i < 16 := by have := hok.n16; omega
  have c3 := h.c3
  have s0 := h.s0 i hi16
  have s1 := h.s1 i hi16
  have s2 := h.s2 i hi16
  have s3 := h.s3 i hi16
  have f0 := h.free (4 + i * 4)
  have f1 := h.free (4 + i * 4 + 1)
  have f2 := h.free (4 + i * 4 + 2)
  have f3 := h.free (4 + i * 4 + 3)
  have hnow := hok.now
  have hf := hok.fails i
  obtain ⟨F, hF⟩ : ∃ F, F = (d.by_ i).fails := ⟨_, rfl⟩
  rw [← hF] at s1 hf
  have k1 := (h.begin i).put hi16 2 (by decide) { d.by_ i with busy := false } (.bool false) rfl (fun _ => rfl) (fun _ => rfl) (fun e => absurd rfl e) (fun _ => rfl)
  have k2 := k1.put hi16 3 (by decide) { d.by_ i with busy := false, since := 0 } (.int .u64 0) rfl (fun _ => rfl) (fun _ => rfl) (fun _ => rfl) (fun e => absurd rfl e)
  have k3 := k2.put hi16 1 (by decide) { d.by_ i with busy := false, since := 0, fails := F + 1 } (.int .i64 ((F : Int) + 1)) rfl (fun _ => rfl) (fun e => absurd rfl e) (fun _ => rfl) (fun _ => rfl)
  have g3 := grown_set (grown_set (grown_set (grown_refl w (some g)) ⟨g, 4 + i * 4 + 2, none⟩ (.bool false) rfl) ⟨g, 4 + i * 4 + 3, none⟩ (.int .u64 0) rfl) ⟨g, 4 + i * 4 + 1, none⟩ (.int .i64 ((F : Int) + 1)) rfl
  have K3 := Lib.hid (And.intro k3 g3)
  clear k1 k2 k3 g3
  have HF := Lib.hid hF
  clear hF
  go_enter Try.func24, Try.ntmps24
  go_upto_region 5 with fail
  refine over_world (R := fun W => RdAt W g { d with by_ := updS d.by_ i { d.by_ i with busy := false, since := 0, fails := F + 1 } } ∧ w.grownBy W (some g)) K3.out ?_
  rintro wv ⟨hv, gv⟩
  clear K3 c3 s0 s1 s2 s3 f0 f1 f2 f3
  have hcl : wv.cell? ⟨g, 3, none⟩ = some (.int .u64 (d.now : Int)) ∧ wv.cell? ⟨g, 4 + i * 4 + 1, none⟩ = some (.int .i64 ((F : Int) + 1)) := by
    refine ⟨hv.c3, ?_⟩
    rw [hv.s1 i hi16]; show some (Value.int .i64 ((updS d.by_ i _ i).fails : Int)) = _; rw [updS_same]; rfl
  have s0 := hv.s0 i hi16
  have hcl2 : ∀ u, ((wv.setCell ⟨g, 4 + i * 4, none⟩ u).drew).cell? ⟨g, 3, none⟩ = some (.int .u64 (d.now : Int)) ∧ ((wv.setCell ⟨g, 4 + i * 4, none⟩ u).drew).cell? ⟨g, 4 + i * 4 + 1, none⟩ = some (.int .i64 ((F : Int) + 1)) := fun u => 
    ⟨(hv.beside _ _ (by omega) u).trans hcl.1, (hv.beside _ _ (by omega) u).trans hcl.2⟩
  have f0 := hv.free (4 + i * 4)
  have hne : Nonempty (SW (fun W => W.cell? ⟨g, 3, none⟩ = some (.int .u64 (d.now : Int)) ∧ W.cell? ⟨g, 4 + i * 4 + 1, none⟩ = some (.int .i64 ((F : Int) + 1)))) := ⟨⟨wv, hcl⟩⟩
  have t3 : ∀ x : SW (fun W => W.cell? ⟨g, 3, none⟩ = some (.int .u64 (d.now : Int)) ∧ W.cell? ⟨g, 4 + i * 4 + 1, none⟩ = some (.int .i64 ((F : Int) + 1))), x.W.cell? ⟨g, 3, none⟩ = some (.int .u64 (d.now : Int)) := fun x => x.h.1
  have t1 : ∀ x : SW (fun W => W.cell? ⟨g, 3, none⟩ = some (.int .u64 (d.now : Int)) ∧ W.cell? ⟨g, 4 + i * 4 + 1, none⟩ = some (.int .i64 ((F : Int) + 1))), x.W.cell? ⟨g, 4 + i * 4 + 1, none⟩ = some (.int .i64 ((F : Int) + 1)) := fun x => x.h.2
  refine wp_region_seq2 (fun W => W.cell? ⟨g, 3, none⟩ = some (.int .u64 (d.now : Int)) ∧ W.cell? ⟨g, 4 + i * 4 + 1, none⟩ = some (.int .i64 ((F : Int) + 1))) [(0, true), (1, true), (2, true), (3, true), (4, true), (5, true), (6, true), (7, true), (8, true), (9, false), (10, true), (11, false), (12, true), (13, true), (14, true), (15, true), (16, false)] (by kernel_rfl) (by kernel_rfl) (fun d _ _ _ _ h => by cases d <;> exact h) (hcl) ?_
  repeat (first
    | (refine wpSeq_skip (o := ⟨_, _, _, _, _, _⟩) rfl rfl ?_; simp only [Act.put, List.setIfInBounds_toArray, List.set_cons_zero, List.set_cons_succ])
    | (refine wpSeq_free (o := ⟨_, _, _, _, _, _⟩) rfl rfl (fun K hK => ?_); go_big_quiet_op; (refine hK _ ?_; clear hK K)))
  refine wpSeq_next (o := ⟨_, _, _, _, _, _⟩) rfl rfl (fun K hK => ?_)
  go_simp
  refine hK.out _ _ (hcl) ?_
  clear hK K
  repeat (first
    | (refine wpSeq_skip (o := ⟨_, _, _, _, _, _⟩) rfl rfl ?_; simp only [Act.put, List.setIfInBounds_toArray, List.set_cons_zero, List.set_cons_succ])
    | (refine wpSeq_free (o := ⟨_, _, _, _, _, _⟩) rfl rfl (fun K hK => ?_); go_big_quiet_op; (refine hK _ ?_; clear hK K)))
  refine wpSeq_next (o := ⟨_, _, _, _, _, _⟩) rfl rfl (fun K hK => ?_)
  go_simp
  refine hK.out _ _ (hcl) ?_
  clear hK K
  repeat (first
    | (refine wpSeq_skip (o := ⟨_, _, _, _, _, _⟩) rfl rfl ?_; simp only [Act.put, List.setIfInBounds_toArray, List.set_cons_zero, List.set_cons_succ])
    | (refine wpSeq_free (o := ⟨_, _, _, _, _, _⟩) rfl rfl (fun K hK => ?_); go_big_quiet_op; (refine hK _ ?_; clear hK K)))
  refine wpSeq_next (o := ⟨_, _, _, _, _, _⟩) rfl rfl (fun K hK => ?_)
  go_simp
  refine hK.out _ _ (hcl2 _) ?_
  clear hK K
  repeat (first
    | (refine wpSeq_skip (o := ⟨_, _, _, _, _, _⟩) rfl rfl ?_; simp only [Act.put, List.setIfInBounds_toArray, List.set_cons_zero, List.set_cons_succ])
    | (refine wpSeq_free (o := ⟨_, _, _, _, _, _⟩) rfl rfl (fun K hK => ?_); go_big_quiet_op; (refine hK _ ?_; clear hK K)))
  refine wpSeq_nil ?_
  rw [back_val d.now F (by omega)]
  generalize (if (10 : Int) < (F : Int) + 1 then (10 : Int) else (F : Int) + 1) = m1
  generalize (if wrap64 (2 ^ m1.toNat) < 64 then wrap64 (2 ^ m1.toNat) else 64) = m2
  have k4 := hv.put0 hi16 ⟨d.now + backOf (F + 1), F + 1, false, 0⟩ (.int .u64 ((d.now : Int) + (backOf (F + 1) : Int))) rfl rfl rfl rfl
  rw [← show endD d i false = { d with by_ := updS d.by_ i ⟨d.now + backOf (F + 1), F + 1, false, 0⟩ } by rw [HF.out]; rfl] at k4
  have g4 := grown_set gv ⟨g, 4 + i * 4, none⟩ (.int .u64 ((d.now : Int) + (backOf (F + 1) : Int))) rfl
  have K4 := Lib.hid (And.intro k4 g4)
  clear k4 g4
  go_wp2
  go_end0
  exact ⟨rfl, K4.out.1, ⟨K4.out.2.os, K4.out.2.tape, K4.out.2.output, K4.out.2.size, K4.out.2.block⟩⟩
end Go.Proofs.Ytdlbjllgdikadab
