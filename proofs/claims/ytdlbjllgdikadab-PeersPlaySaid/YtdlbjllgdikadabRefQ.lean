/- The document's round of peers: end. -/
import Derived.Test.YtdlbjllgdikadabRefP
namespace Go.Proofs.Ytdlbjllgdikadab
open Go.RowKit
set_option linter.unusedVariables false

theorem RfAt.put4 {w : World} {V G cap : Nat} {d : Rd} (h : RfAt w V G cap d) (i : Nat) (hi : i < d.n) (s : St) :
    RfAt ((((w.setCell ⟨G, i * 4, none⟩ (stCell s 0)).setCell ⟨G, i * 4 + 1, none⟩ (stCell s 1)).setCell ⟨G, i * 4 + 2, none⟩ (stCell s 2)).setCell ⟨G, i * 4 + 3, none⟩ (stCell s 3)) V G cap { d with by_ := updS d.by_ i s } := by
  have p0 := h.rowput i 0 hi (by decide) { d.by_ i with due := s.due } (stCell s 0) rfl (fun k hk hn => by
    match k with
    | 0 => exact absurd rfl hn
    | 1 => rfl
    | 2 => rfl
    | 3 => rfl
    | n + 4 => omega)
  have p1 := p0.rowput i 1 hi (by decide) { d.by_ i with due := s.due, fails := s.fails } (stCell s 1) rfl (fun k hk hn => by
    show _ = stCell (updS d.by_ i _ i) k
    rw [updS_same]
    match k with
    | 0 => rfl
    | 1 => exact absurd rfl hn
    | 2 => rfl
    | 3 => rfl
    | n + 4 => omega)
  have p2 := p1.rowput i 2 hi (by decide) { d.by_ i with due := s.due, fails := s.fails, busy := s.busy } (stCell s 2) rfl (fun k hk hn => by
    show _ = stCell (updS (updS d.by_ i _) i _ i) k
    rw [updS_same]
    match k with
    | 0 => rfl
    | 1 => rfl
    | 2 => exact absurd rfl hn
    | 3 => rfl
    | n + 4 => omega)
  have p3 := p2.rowput i 3 hi (by decide) s (stCell s 3) rfl (fun k hk hn => by
    show _ = stCell (updS (updS (updS d.by_ i _) i _) i _ i) k
    rw [updS_same]
    match k with
    | 0 => rfl
    | 1 => rfl
    | 2 => rfl
    | 3 => exact absurd rfl hn
    | n + 4 => omega)
  simp only [updS_updS] at p3
  exact p3

theorem RfAt.drew {w : World} {V G cap : Nat} {d : Rd} (h : RfAt w V G cap d) : RfAt w.drew V G cap d := ⟨h.head, h.row, h.le⟩
theorem StAt.put {w : World} {g : Nat} {s : St} (h : StAt w g s) (j : Nat) (hj : j < 4) (t : St) (u : Value) (hu : stCell t j = u) (ho : ∀ k, k < 4 → k ≠ j → stCell t k = stCell s k) : StAt (w.setCell ⟨g, j, none⟩ u) g t := by
  unfold StAt
  rw [heap_setCell_same w g j _ 50 u h]
  have e : ∀ s : St, stCells s = [stCell s 0, stCell s 1, stCell s 2, stCell s 3] := fun _ => rfl
  match j, hj with
  | 0, _ => rw [e s, e t, ← hu, ho 1 (by decide) (by decide), ho 2 (by decide) (by decide), ho 3 (by decide) (by decide)]; rfl
  | 1, _ => rw [e s, e t, ← hu, ho 0 (by decide) (by decide), ho 2 (by decide) (by decide), ho 3 (by decide) (by decide)]; rfl
  | 2, _ => rw [e s, e t, ← hu, ho 0 (by decide) (by decide), ho 1 (by decide) (by decide), ho 3 (by decide) (by decide)]; rfl
  | 3, _ => rw [e s, e t, ← hu, ho 0 (by decide) (by decide), ho 1 (by decide) (by decide), ho 2 (by decide) (by decide)]; rfl
theorem RfAt.other {w : World} {V G cap : Nat} {d : Rd} (h : RfAt w V G cap d) (p : Addr) (u : Value) (hV : V ≠ p.block) (hG : G ≠ p.block) : RfAt (w.setCell p u) V G cap d :=
  ⟨(heap_setCell_other w p V u hV).trans h.head, h.row.other _ _ hG, h.le⟩
def RefPost (V G : Nat) (D : Rd) (w w' : World) : Prop := ∃ G' cap', RfAt w' V G' cap' D ∧ (G' = G ∨ w.heap.size ≤ G') ∧ Aside [V] w w'

theorem wait_is (k F : Nat) (h1 : k ≤ F) (h2 : k ≤ 6) (h3 : k = F ∨ k = 6) : 2 ^ k = backOf F := by
  unfold backOf
  have e : ∀ k, k ≤ 6 → 2 ^ k ≤ 64 := by decide
  rcases h3 with rfl | rfl
  · rw [Nat.min_eq_left (show k ≤ 10 by omega), Nat.min_eq_right (e k h2)]
  · have e2 : ∀ m, m ≤ 10 → 6 ≤ m → min 64 (2 ^ m) = 2 ^ 6 := by decide
    exact (e2 (min F 10) (by omega) (by omega)).symm

set_option maxRecDepth 100000 in
set_option maxHeartbeats 4000000 in
theorem refEnd_good (V G cap : Nat) (d : Rd) (i c : Nat) (w : World) (h : RfAt w V G cap d) (hok : RdOk c d) (hc : c ≤ 1099511627776) (hi : i < d.n) :
    Calls Try.prog 31 #[.pointer (some ⟨V, 0, none⟩), .int .i64 (i : Int), .bool true] w fun e w' => e = .returned (.tuple #[]) ∧ RefPost V G (endD d i true) w w' := by
  have c3 := h.c3
  have hnow := hok.now
  go_enter Try.func31, Try.ntmps31
  go_upto_region 9 with (refine wpList_store_st rfl (.tmp 6) (.tmp 14) rfl w.heap.size St.none ⟨d.now + 4, 0, false, 0⟩ rfl rfl (StAt.made w) ?_; intro w4 hs4 hg4)
  have hB4 := ((Below.refl _ w).alloc (Nat.le_refl _) (.cells #[.int .u64 0, .int .i64 0, .bool false, .int .u64 0] 50)).grown hg4 (by simp) (fun k hk => by cases hk; exact Nat.le_refl _)
  refine over_world (R := fun W => RfAt W V G cap d ∧ StAt W w.heap.size ⟨d.now + 4, 0, false, 0⟩ ∧ Aside [V] w W) ⟨h.later hB4, hs4, Aside.below _ hB4⟩ ?_
  clear hB4 hs4 hg4 h c3
  rintro wv ⟨hV, hX, hA⟩
  obtain ⟨H, hH⟩ : ∃ H, H = w.heap.size := ⟨_, rfl⟩
  rw [← hH] at hX ⊢
  have HH := Lib.hid hH
  clear hH
  have hVs := hV.lt
  have hHV : H ≠ V := fun e => by
    have h1 : wv.heap[H]? = some (.cells (stCells ⟨d.now + 4, 0, false, 0⟩).toArray 50 (0, 0)) := hX
    rw [e, hV.head] at h1
    simp at h1
  have hrow := hV.row
  have c4 := hV.c4
  go_wp2_with (first
    | (at_builtin; refine wpList_append_sts rfl (.tmp 47) (.tmp 51) rfl wv rfl rfl G d.n cap d.by_ rfl (hrow.later ((Below.refl _ _).alloc (Nat.le_refl _) _)) (by have := hok.n2; omega) hok.n16 ?_; intro G' cap' w8 hS8 hle8 hG8 hB8; have c48 := (hV.later hB8).c4; have f48 := (hV.later hB8).free 4))
  have hV8 := hV.later hB8
  have hX8 := hX.later hB8
  have hG'V : G' ≠ V := by omega
  have hV9 := hV8.stored (d' := d) (G' := G') (cap' := cap') 4 (.slice (some ⟨G', 0, none⟩) d.n cap') rfl hS8 hG'V hle8
  have hX9 : StAt (w8.setCell ⟨V, 4, none⟩ (.slice (some ⟨G', 0, none⟩) d.n cap')) H ⟨d.now + 4, 0, false, 0⟩ := (heap_setCell_other _ _ _ _ hHV).trans hX8
  have hA9 : Aside [V] w (w8.setCell ⟨V, 4, none⟩ (.slice (some ⟨G', 0, none⟩) d.n cap')) := (hA.trans (Aside.below _ hB8)).setCell _ _ (fun _ => by simp)
  have hHG : H ≠ G' := by have := hX.lt; omega
  have hGw : w.heap.size ≤ G' := by have := hA.size; omega
  refine over_world (R := fun Wv => RfAt Wv V G' cap' d ∧ StAt Wv H ⟨d.now + 4, 0, false, 0⟩ ∧ Aside [V] w Wv) ⟨hV9, hX9, hA9⟩ ?_
  clear hV hX hA hV8 hX8 hV9 hX9 hA9 hB8 hS8 c48 f48 hrow c4 hVs
  rintro wv ⟨hV, hX, hA⟩
  have c4 := hV.c4
  have x0 := hX.c0
  have x1 := hX.c1
  have x2 := hX.c2
  have x3 := hX.c3
  have s0 := hV.s0 i hi
  have s1 := hV.s1 i hi
  have s2 := hV.s2 i hi
  have s3 := hV.s3 i hi
  have f0 := hV.row.free (i * 4)
  have f1 := hV.row.free (i * 4 + 1)
  have f2 := hV.row.free (i * 4 + 2)
  have f3 := hV.row.free (i * 4 + 3)
  have hP := Lib.hid (hV.put4 i hi ⟨d.now + 4, 0, false, 0⟩)
  have hi' : (i : Int) < (d.n : Int) := by omega
  go_region
  have hAn : ∀ (p : Addr), p.block = G' → p.block < w.heap.size → p.block ∈ [V] := fun p e q => by omega
  refine over_world (R := fun Wv => RfAt Wv V G' cap' (endD d i true) ∧ Aside [V] w Wv) ⟨hP.out.drew, ((((hA.setCell _ _ (hAn _ rfl)).setCell _ _ (hAn _ rfl)).setCell _ _ (hAn _ rfl)).setCell _ _ (hAn _ rfl)).drew⟩ ?_
  clear hP hX hV hA x0 x1 x2 x3 s0 s1 s2 s3 f0 f1 f2 f3 c4
  rintro wv ⟨hV, hA⟩
  go_wp2
  go_end0
  exact ⟨rfl, G', cap', hV, .inr hGw, hA⟩

set_option maxRecDepth 100000 in
set_option maxHeartbeats 8000000 in
theorem refEnd_bad (V G cap : Nat) (d : Rd) (i c : Nat) (w : World) (h : RfAt w V G cap d) (hok : RdOk c d) (hc : c ≤ 1099511627776) (hi : i < d.n) :
    Calls Try.prog 31 #[.pointer (some ⟨V, 0, none⟩), .int .i64 (i : Int), .bool false] w fun e w' => e = .returned (.tuple #[]) ∧ RefPost V G (endD d i false) w w' := by
  have c3 := h.c3
  have hnow := hok.now
  have hf := hok.fails i
  have hi' : (i : Int) < (d.n : Int) := by omega
  go_enter Try.func31, Try.ntmps31
  go_upto_region 2 with (refine wpList_store_st rfl (.tmp 6) (.tmp 14) rfl w.heap.size St.none ⟨d.now + 4, 0, false, 0⟩ rfl rfl (StAt.made w) ?_; intro w4 hs4 hg4)
  have hB4 := ((Below.refl _ w).alloc (Nat.le_refl _) (.cells #[.int .u64 0, .int .i64 0, .bool false, .int .u64 0] 50)).grown hg4 (by simp) (fun k hk => by cases hk; exact Nat.le_refl _)
  have hHw : ∀ W : World, Aside [V] w W → ∀ u, Aside [V] w (W.setCell ⟨w.heap.size, 1, none⟩ u) ∧ Aside [V] w (W.setCell ⟨w.heap.size, 0, none⟩ u) := fun W q u => ⟨q.setCell _ _ (fun e => absurd e (Nat.lt_irrefl _)), q.setCell _ _ (fun e => absurd e (Nat.lt_irrefl _))⟩
  have hHVw : w.heap.size ≠ V := by have := h.lt; omega
  have hHGw : w.heap.size ≠ G := by have := h.row.lt; omega
  refine over_world (R := fun W => RfAt W V G cap d ∧ StAt W w.heap.size ⟨d.now + 4, 0, false, 0⟩ ∧ Aside [V] w W) ⟨h.later hB4, hs4, Aside.below _ hB4⟩ ?_
  clear hB4 hs4 hg4 h c3
  rintro wv ⟨hV, hX, hA⟩
  obtain ⟨H, hH⟩ : ∃ H, H = w.heap.size := ⟨_, rfl⟩
  rw [← hH] at hX hHw hHVw hHGw ⊢
  have HH := Lib.hid hH
  have HW := Lib.hid hHw
  clear hH hHw
  have c4 := hV.c4
  have x1 := hX.c1
  have fx1 := hX.free 1
  have s1 := hV.s1 i hi
  obtain ⟨F, hF⟩ : ∃ F, F = (d.by_ i).fails := ⟨_, rfl⟩
  rw [← hF] at s1 hf
  have HF := Lib.hid hF
  clear hF
  have k1 : StAt (wv.setCell ⟨H, 1, none⟩ (.int .i64 ((F : Int) + 1))) H ⟨d.now + 4, F + 1, false, 0⟩ := hX.put 1 (by decide) ⟨d.now + 4, F + 1, false, 0⟩ _ rfl (fun k hk hn => by
    match k with
    | 0 => rfl
    | 1 => exact absurd rfl hn
    | 2 => rfl
    | 3 => rfl
    | n + 4 => omega)
  have k2 : RfAt (wv.setCell ⟨H, 1, none⟩ (.int .i64 ((F : Int) + 1))) V G cap d := hV.other _ _ (fun e => hHVw e.symm) (fun e => hHGw e.symm)
  have k3 := (HW.out wv hA (.int .i64 ((F : Int) + 1))).1
  have KK := Lib.hid (And.intro k1 (And.intro k2 k3))
  clear k1 k2 k3
  go_upto_region 3 with fail
  refine over_world (R := fun W => RfAt W V G cap d ∧ StAt W H ⟨d.now + 4, F + 1, false, 0⟩ ∧ Aside [V] w W) ⟨KK.out.2.1, KK.out.1, KK.out.2.2⟩ ?_
  clear KK hV hX hA c4 x1 fx1 s1
  rintro wv ⟨hV, hX, hA⟩
  have x1 := hX.c1
  have hd : ∀ a b : Value, a = a := fun _ _ => rfl
  clear hd
  go_wp2
  go_loop [7, 8] (fun wt iv => ∃ k : Nat, k ≤ F + 1 ∧ k ≤ 6 ∧ wt = .int .u64 ((2 ^ k : Nat) : Int) ∧ iv = .int .i64 (k : Int)) (fun _ iv => F + 1 - (intOf iv).toNat)
  case atStart => exact ⟨0, Nat.zero_le _, Nat.zero_le _, rfl, rfl⟩
  case round =>
    obtain ⟨k, hk1, hk2, rfl, rfl⟩ := hrel
    by_cases hkk : k < F + 1 ∧ k < 6
    · obtain ⟨W, hW⟩ : ∃ W, W = 2 ^ k := ⟨_, rfl⟩
      have hW32 : W ≤ 32 := by
        have e : ∀ k, k < 6 → 2 ^ k ≤ 32 := by decide
        rw [hW]; exact e k hkk.2
      have hWs : 2 ^ (k + 1) = 2 * W := by rw [hW, Nat.pow_succ, Nat.mul_comm]
      rw [← hW]
      have HWs := Lib.hid hWs
      have hk3 : (k : Int) < (F : Int) + 1 := by omega
      have hW64 : (W : Int) < 64 := by omega
      obtain ⟨hk4, hk5⟩ := hkk
      clear hW hWs
      go_wp2
      go_round
      case rel => exact ⟨k + 1, by omega, by omega, by rw [HWs.out]; go_num, by go_num⟩
      case measure => simp [intOf]; omega
    · have hwb := wait_is k (F + 1) hk1 hk2 (by omega)
      obtain ⟨W, hW⟩ : ∃ W, W = 2 ^ k := ⟨_, rfl⟩
      rw [← hW] at hwb ⊢
      have hW64 : W ≤ 64 := by rw [hwb]; exact backOf_le _
      have hW0 : W = 64 ∨ W < 64 := by omega
      have hkF : ¬ ((k : Int) < (F : Int) + 1 ∧ (W : Int) < 64) := by
        intro e
        have : k = 6 := by omega
        rw [this] at hW
        omega
      have x0 := hX.c0
      have fx0 := hX.free 0
      have c3 := hV.c3
      have k1 : StAt (wv.setCell ⟨H, 0, none⟩ (.int .u64 ((d.now : Int) + (W : Int)))) H ⟨d.now + W, F + 1, false, 0⟩ := hX.put 0 (by decide) ⟨d.now + W, F + 1, false, 0⟩ _ (by simp [stCell]) (fun k hk hn => by
        match k with
        | 0 => exact absurd rfl hn
        | 1 => rfl
        | 2 => rfl
        | 3 => rfl
        | n + 4 => omega)
      have k2 : RfAt (wv.setCell ⟨H, 0, none⟩ (.int .u64 ((d.now : Int) + (W : Int)))) V G cap d := hV.other _ _ (fun e => hHVw e.symm) (fun e => hHGw e.symm)
      have k3 := (HW.out wv hA (.int .u64 ((d.now : Int) + (W : Int)))).2
      have KK := Lib.hid (And.intro k1 (And.intro k2 k3))
      have HWB := Lib.hid hwb
      have HWW := Lib.hid hW
      clear k1 k2 k3 hwb hW hW0
      by_cases hkc : (k : Int) < (F : Int) + 1
      · have hW6 : ¬ (W : Int) < 64 := fun e => hkF ⟨hkc, e⟩
        clear hkF
        go_upto_region 9 with fail
        refine over_world (R := fun W' => RfAt W' V G cap d ∧ StAt W' H ⟨d.now + W, F + 1, false, 0⟩ ∧ Aside [V] w W') ⟨KK.out.2.1, KK.out.1, KK.out.2.2⟩ ?_
        clear KK hV hX hA x0 fx0 c3
        rintro wv ⟨hV, hX, hA⟩
        have hVs := hV.lt
        have hHV : H ≠ V := fun e => by
          have h1 : wv.heap[H]? = some (.cells (stCells ⟨d.now + W, F + 1, false, 0⟩).toArray 50 (0, 0)) := hX
          rw [e, hV.head] at h1
          simp at h1
        have hrow := hV.row
        have c4 := hV.c4
        go_wp2_with (first
          | (at_builtin; refine wpList_append_sts rfl (.tmp 47) (.tmp 51) rfl wv rfl rfl G d.n cap d.by_ rfl (hrow.later ((Below.refl _ _).alloc (Nat.le_refl _) _)) (by have := hok.n2; omega) hok.n16 ?_; intro G' cap' w8 hS8 hle8 hG8 hB8; have c48 := (hV.later hB8).c4; have f48 := (hV.later hB8).free 4))
        have hV8 := hV.later hB8
        have hX8 := hX.later hB8
        have hG'V : G' ≠ V := by omega
        have hV9 := hV8.stored (d' := d) (G' := G') (cap' := cap') 4 (.slice (some ⟨G', 0, none⟩) d.n cap') rfl hS8 hG'V hle8
        have hX9 : StAt (w8.setCell ⟨V, 4, none⟩ (.slice (some ⟨G', 0, none⟩) d.n cap')) H ⟨d.now + W, F + 1, false, 0⟩ := (heap_setCell_other _ _ _ _ hHV).trans hX8
        have hA9 : Aside [V] w (w8.setCell ⟨V, 4, none⟩ (.slice (some ⟨G', 0, none⟩) d.n cap')) := (hA.trans (Aside.below _ hB8)).setCell _ _ (fun _ => by simp)
        have hHG : H ≠ G' := by have := hX.lt; omega
        have hGw : w.heap.size ≤ G' := by have := hA.size; omega
        refine over_world (R := fun Wv => RfAt Wv V G' cap' d ∧ StAt Wv H ⟨d.now + W, F + 1, false, 0⟩ ∧ Aside [V] w Wv) ⟨hV9, hX9, hA9⟩ ?_
        clear hV hX hA hV8 hX8 hV9 hX9 hA9 hB8 hS8 c48 f48 hrow c4 hVs
        rintro wv ⟨hV, hX, hA⟩
        have c4 := hV.c4
        have x0 := hX.c0
        have x1 := hX.c1
        have x2 := hX.c2
        have x3 := hX.c3
        have s0 := hV.s0 i hi
        have s1 := hV.s1 i hi
        have s2 := hV.s2 i hi
        have s3 := hV.s3 i hi
        have f0 := hV.row.free (i * 4)
        have f1 := hV.row.free (i * 4 + 1)
        have f2 := hV.row.free (i * 4 + 2)
        have f3 := hV.row.free (i * 4 + 3)
        have hP := Lib.hid (hV.put4 i hi ⟨d.now + W, F + 1, false, 0⟩)
        have hi' : (i : Int) < (d.n : Int) := by omega
        go_region
        have hAn : ∀ (p : Addr), p.block = G' → p.block < w.heap.size → p.block ∈ [V] := fun p e q => by omega
        refine over_world (R := fun Wv => RfAt Wv V G' cap' (endD d i false) ∧ Aside [V] w Wv) ⟨(by have q := hP.out.drew; have e : endD d i false = { d with by_ := updS d.by_ i ⟨d.now + W, F + 1, false, 0⟩ } := (by rw [HWB.out, HF.out]; rfl); rw [e]; exact q), ((((hA.setCell _ _ (hAn _ rfl)).setCell _ _ (hAn _ rfl)).setCell _ _ (hAn _ rfl)).setCell _ _ (hAn _ rfl)).drew⟩ ?_
        clear hP hX hV hA x0 x1 x2 x3 s0 s1 s2 s3 f0 f1 f2 f3 c4
        rintro wv ⟨hV, hA⟩
        go_wp2
        go_end0
        exact ⟨rfl, G', cap', hV, .inr hGw, hA⟩
      · clear hkF
        go_upto_region 9 with fail
        refine over_world (R := fun W' => RfAt W' V G cap d ∧ StAt W' H ⟨d.now + W, F + 1, false, 0⟩ ∧ Aside [V] w W') ⟨KK.out.2.1, KK.out.1, KK.out.2.2⟩ ?_
        clear KK hV hX hA x0 fx0 c3
        rintro wv ⟨hV, hX, hA⟩
        have hVs := hV.lt
        have hHV : H ≠ V := fun e => by
          have h1 : wv.heap[H]? = some (.cells (stCells ⟨d.now + W, F + 1, false, 0⟩).toArray 50 (0, 0)) := hX
          rw [e, hV.head] at h1
          simp at h1
        have hrow := hV.row
        have c4 := hV.c4
        go_wp2_with (first
          | (at_builtin; refine wpList_append_sts rfl (.tmp 47) (.tmp 51) rfl wv rfl rfl G d.n cap d.by_ rfl (hrow.later ((Below.refl _ _).alloc (Nat.le_refl _) _)) (by have := hok.n2; omega) hok.n16 ?_; intro G' cap' w8 hS8 hle8 hG8 hB8; have c48 := (hV.later hB8).c4; have f48 := (hV.later hB8).free 4))
        have hV8 := hV.later hB8
        have hX8 := hX.later hB8
        have hG'V : G' ≠ V := by omega
        have hV9 := hV8.stored (d' := d) (G' := G') (cap' := cap') 4 (.slice (some ⟨G', 0, none⟩) d.n cap') rfl hS8 hG'V hle8
        have hX9 : StAt (w8.setCell ⟨V, 4, none⟩ (.slice (some ⟨G', 0, none⟩) d.n cap')) H ⟨d.now + W, F + 1, false, 0⟩ := (heap_setCell_other _ _ _ _ hHV).trans hX8
        have hA9 : Aside [V] w (w8.setCell ⟨V, 4, none⟩ (.slice (some ⟨G', 0, none⟩) d.n cap')) := (hA.trans (Aside.below _ hB8)).setCell _ _ (fun _ => by simp)
        have hHG : H ≠ G' := by have := hX.lt; omega
        have hGw : w.heap.size ≤ G' := by have := hA.size; omega
        refine over_world (R := fun Wv => RfAt Wv V G' cap' d ∧ StAt Wv H ⟨d.now + W, F + 1, false, 0⟩ ∧ Aside [V] w Wv) ⟨hV9, hX9, hA9⟩ ?_
        clear hV hX hA hV8 hX8 hV9 hX9 hA9 hB8 hS8 c48 f48 hrow c4 hVs
        rintro wv ⟨hV, hX, hA⟩
        have c4 := hV.c4
        have x0 := hX.c0
        have x1 := hX.c1
        have x2 := hX.c2
        have x3 := hX.c3
        have s0 := hV.s0 i hi
        have s1 := hV.s1 i hi
        have s2 := hV.s2 i hi
        have s3 := hV.s3 i hi
        have f0 := hV.row.free (i * 4)
        have f1 := hV.row.free (i * 4 + 1)
        have f2 := hV.row.free (i * 4 + 2)
        have f3 := hV.row.free (i * 4 + 3)
        have hP := Lib.hid (hV.put4 i hi ⟨d.now + W, F + 1, false, 0⟩)
        have hi' : (i : Int) < (d.n : Int) := by omega
        go_region
        have hAn : ∀ (p : Addr), p.block = G' → p.block < w.heap.size → p.block ∈ [V] := fun p e q => by omega
        refine over_world (R := fun Wv => RfAt Wv V G' cap' (endD d i false) ∧ Aside [V] w Wv) ⟨(by have q := hP.out.drew; have e : endD d i false = { d with by_ := updS d.by_ i ⟨d.now + W, F + 1, false, 0⟩ } := (by rw [HWB.out, HF.out]; rfl); rw [e]; exact q), ((((hA.setCell _ _ (hAn _ rfl)).setCell _ _ (hAn _ rfl)).setCell _ _ (hAn _ rfl)).setCell _ _ (hAn _ rfl)).drew⟩ ?_
        clear hP hX hV hA x0 x1 x2 x3 s0 s1 s2 s3 f0 f1 f2 f3 c4
        rintro wv ⟨hV, hA⟩
        go_wp2
        go_end0
        exact ⟨rfl, G', cap', hV, .inr hGw, hA⟩

end Go.Proofs.Ytdlbjllgdikadab
