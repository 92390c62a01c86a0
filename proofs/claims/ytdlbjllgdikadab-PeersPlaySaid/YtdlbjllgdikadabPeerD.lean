/- Rounds of peers: Next. -/
import Derived.Test.YtdlbjllgdikadabAsideB
import Derived.Deep.QuietTactic
namespace Go.Proofs.Ytdlbjllgdikadab
open Go.RowKit

/-- What Next works on: the round g, the cell H that holds its pointer, the cell B that holds the best one. -/
structure NextW (w : World) (g H B : Nat) (d : Rd) (r : Option Nat) : Prop where
  rd : RdAt w g d
  box : w.heap[H]? = some (.cells #[.pointer (some ⟨g, 0, none⟩)] 23 (0, 0))
  best : w.heap[B]? = some (.cells #[.int .i64 (nextI r)] 3 (0, 0))

theorem NextW.cH {w : World} {g H B : Nat} {d : Rd} {r : Option Nat} (h : NextW w g H B d r) : w.cell? ⟨H, 0, none⟩ = some (.pointer (some ⟨g, 0, none⟩)) := by
  rw [cell_of_row w H 0 _ _ _ h.box]; rfl
theorem NextW.cB {w : World} {g H B : Nat} {d : Rd} {r : Option Nat} (h : NextW w g H B d r) : w.cell? ⟨B, 0, none⟩ = some (.int .i64 (nextI r)) := by
  rw [cell_of_row w B 0 _ _ _ h.best]; rfl

theorem NextW.turn {w : World} {g H : Nat} {d : Rd} {r : Option Nat} {n : Nat} (h : NextW w g H (H + 1) d r) (i : Nat) (hg : g < H) : NextW ((w.drewN n).setCell ⟨H + 1, 0, none⟩ (.int .i64 (i : Int))) g H (H + 1) d (some i) := by
  refine ⟨?_, ?_, ?_⟩
  · exact (heap_setCell_other _ _ _ _ (by show g ≠ H + 1; omega)).trans h.rd
  · exact (heap_setCell_other _ _ _ _ (by show H ≠ H + 1; omega)).trans h.box
  · exact (heap_setCell_same _ (H + 1) 0 _ 3 _ h.best)
theorem ahead_none (g H B : Nat) (d : Rd) (i : Nat) (w : World) (h : NextW w g H B d none) :
    Calls Try.prog 22 #[.int .i64 (i : Int), .pointer (some ⟨B, 0, none⟩), .pointer (some ⟨H, 0, none⟩)] w fun e w' => e = .returned (.bool true) ∧ ∃ n, w' = w.drewN n := by
  have cB := h.cB
  simp only [nextI] at cB
  go_enter Try.func22, Try.ntmps22
  go_wp2
  go_quiet (fail)
  go_wp2
  go_ret
  exact ⟨rfl, _, rfl⟩
theorem ahead_some (g H B : Nat) (d : Rd) (i b : Nat) (w : World) (h : NextW w g H B d (some b)) (hi : i < 16) (hb : b < 16) :
    Calls Try.prog 22 #[.int .i64 (i : Int), .pointer (some ⟨B, 0, none⟩), .pointer (some ⟨H, 0, none⟩)] w fun e w' => e = .returned (.bool (decide ((d.by_ i).due < (d.by_ b).due))) ∧ ∃ n, w' = w.drewN n := by
  have cB := h.cB
  have cH := h.cH
  have s0 := h.rd.s0 i hi
  have s1 := h.rd.s0 b hb
  have hb0 : decide ((b : Int) < 0) = false := decide_eq_false (by omega)
  simp only [nextI] at cB
  go_enter Try.func22, Try.ntmps22
  go_wp2
  go_quiet (fail)
  go_wp2
  go_ret
  exact ⟨rfl, _, rfl⟩
theorem below_drewN {B : Nat} {w w' : World} (h : Below B w w') (n : Nat) : Below B w (w'.drewN n) := ⟨h.os, h.tape, h.output, h.size, h.block⟩
theorem is_rd' (g : Nat) (d : Rd) (i : Int) (v : Bool) (hv : isP d i = v) (w : World) (h : RdAt w g d) : Calls Try.prog 23 #[.pointer (some ⟨g, 0, none⟩), .int .i64 i] w fun e w' => e = .returned (.bool v) ∧ w' = w :=
  (is_rd g d i w h).mono fun _ _ ⟨h1, h2⟩ => ⟨by rw [h1, hv], h2.symm⟩
theorem NextW.drewN {w : World} {g H B : Nat} {d : Rd} {r : Option Nat} (h : NextW w g H B d r) (n : Nat) : NextW (w.drewN n) g H B d r := ⟨h.rd, h.box, h.best⟩

set_option maxRecDepth 100000 in
set_option maxHeartbeats 8000000 in
theorem next_rd (g : Nat) (d : Rd) (c : Nat) (w : World) (h : RdAt w g d) (hok : RdOk c d) (r : Option Nat) (hr : IsNext d r) :
    Calls Try.prog 9 #[.pointer (some ⟨g, 0, none⟩)] w fun e w' => e = .returned (.tuple #[.int .i64 (nextI r), .bool r.isSome]) ∧ RdAt w' g (nextD d r) ∧ Aside [g] w w' := by
  have hno := fun W q => none_rd g d W q hok.n2
  have h0 : RdAt (w.alloc (.cells #[.pointer (some ⟨g, 0, none⟩)] 23)) g d := h.later ((Below.refl _ _).alloc (Nat.le_refl _) _)
  go_enter Try.func9, Try.ntmps9
  go_wp2_with (first
    | (go_at_call 21; refine (hno _ h0).mono ?_; rintro e w2 ⟨rfl, rfl⟩))
  have hN : NextW ((w.alloc (.cells #[.pointer (some ⟨g, 0, none⟩)] 23)).alloc (.cells #[.int .i64 (-1)] 3)) g w.heap.size (w.heap.size + 1) d none := by
    refine ⟨h0.later ((Below.refl _ _).alloc (Nat.le_refl _) _), ?_, ?_⟩
    · exact (((Below.refl _ _).alloc (Nat.le_refl _) _).block w.heap.size (by simp)).trans (heap_alloc_new _ _)
    · have := heap_alloc_new (w.alloc (.cells #[.pointer (some ⟨g, 0, none⟩)] 23)) (.cells #[.int .i64 (-1)] 3)
      simp only [World.size_alloc] at this
      exact this
  have hB : Below w.heap.size w ((w.alloc (.cells #[.pointer (some ⟨g, 0, none⟩)] 23)).alloc (.cells #[.int .i64 (-1)] 3)) := ((Below.refl _ _).alloc (Nat.le_refl _) _).alloc (by simp) _
  have hgl := h.lt
  obtain ⟨H, hH⟩ : ∃ H, H = w.heap.size := ⟨_, rfl⟩
  rw [← hH] at hN ⊢
  have hgH : g < H := by omega
  have HH := Lib.hid hH
  clear hH h0 hgl
  have hl := hok.last
  have hn2 := hok.n2
  have hn16 := hok.n16
  go_loopw [6] (fun st wr => ∃ (m : Nat) (q : Option Nat), m ≤ d.n ∧ st = .int .i64 ((m : Int) + 1) ∧ NextTo d m q ∧ NextW wr g H (H + 1) d q ∧ Below w.heap.size w wr) (fun st _ => d.n + 1 - (intOf st).toNat)
  case atStart => exact ⟨0, none, Nat.zero_le _, rfl, NextTo.zero hl, hN, hB⟩
  case round =>
    clear hN hB
    obtain ⟨m, q, hm, rfl, hq, hW, hBw⟩ := hrel
    have c0 := hW.rd.c0
    have c2 := hW.rd.c2
    have cH := hW.cH
    by_cases hlt : m < d.n
    · have hcmp : (m : Int) + 1 ≤ (d.n : Int) := by omega
      obtain ⟨hi1, hi2⟩ := dist_at m hl hlt
      go_upto_region 8 with fail
      go_quiet (fail)
      refine over_world (R := fun W => NextW W g H (H + 1) d q ∧ Below w.heap.size w W) ⟨hW.drewN _, below_drewN hBw _⟩ ?_
      clear hW hBw c0 c2 cH
      rintro wr ⟨hW, hBw⟩
      have cH := hW.cH
      have hid : ((d.last : Int) + ((m : Int) + 1)) % (d.n : Int) = (((d.last + (m + 1)) % d.n : Nat) : Int) := rfl
      rw [hid]
      obtain ⟨i, hi⟩ : ∃ i, i = (d.last + (m + 1)) % d.n := ⟨_, rfl⟩
      rw [← hi] at hi1 hi2 ⊢
      clear hi hid
      have hi16 : i < 16 := by omega
      have hi16' : (i : Int) < 16 := by omega
      have s0 := hW.rd.s0 i hi16
      have s2 := hW.rd.s2 i hi16
      have c3 := hW.rd.c3
      have hHi2 := Lib.hid hi2
      clear hi2
      go_upto_region 9 with fail
      cases hp : isP d i with
      | false =>
        have his := is_rd' g d i false hp
        have hnr : ¬ ready d i := fun e => by
          have := (isP_iff d i).2 ⟨by omega, by omega, by have := e.2.1; omega⟩
          rw [hp] at this
          cases this
        clear hp
        go_quiet ((first | (go_at_call 23; refine Calls.quiet_of_same (his _ ?_); exact hW.rd)))
        go_wp2
        go_roundw
        case rel => exact ⟨m + 1, q, by omega, by go_num, hq.leave hl i hi1 hHi2.out (fun e => hnr e.1), hW.drewN _, below_drewN hBw _⟩
        case measure => simp [intOf]; omega
      | true => 
        have his := is_rd' g d i true hp
        have hself : i ≠ d.self := by have := (isP_iff d i).1 hp; omega
        clear hp
        cases hb : (d.by_ i).busy with
        | true =>
          have hnr : ¬ ready d i := fun e => by rw [e.2.2.1] at hb; cases hb
          rw [hb] at s2
          clear hb
          go_quiet ((first | (go_at_call 23; refine Calls.quiet_of_same (his _ ?_); exact hW.rd)))
          go_wp2
          go_roundw
          case rel => exact ⟨m + 1, q, by omega, by go_num, hq.leave hl i hi1 hHi2.out (fun e => hnr e.1), hW.drewN _, below_drewN hBw _⟩
          case measure => simp [intOf]; omega
        | false =>
          rw [hb] at s2
          have Hb := Lib.hid hb
          clear hb
          by_cases hd : (d.by_ i).due ≤ d.now
          · cases q with
            | none =>
              have hah := fun W => ahead_none g H (H + 1) d i W
              have Hah := Lib.hid hah
              clear hah
              go_quiet ((first | (go_at_call 23; refine Calls.quiet_of_same (his _ ?_); exact hW.rd) | (go_at_call 22; refine Calls.quiet_of (Hah.out _ ?_); exact hW.drewN _)))
              have cB := hW.cB
              have fB := frozen_of_row wr (H + 1) 0 _ _ hW.best
              go_wp2
              go_roundw
              case rel => 
                refine ⟨m + 1, some i, by omega, by go_num, hq.take hl i hHi2.out ⟨hi1, hself, Hb.out, hd⟩ trivial, ?_, ?_⟩
                · exact hW.turn i hgH
                · exact (below_drewN hBw nq).setCell (p := ⟨H + 1, 0, none⟩) (by rw [HH.out]; exact Nat.le_succ _) _
              case measure => simp [intOf]; omega
            | some b =>
              have hb16 : b < 16 := by have := hq.1.1; omega
              by_cases hdu : (d.by_ i).due < (d.by_ b).due
              · have hah := fun W q => ahead_some g H (H + 1) d i b W q hi16 hb16
                rw [decide_eq_true hdu] at hah
                have Hah := Lib.hid hah
                clear hah
                go_quiet ((first | (go_at_call 23; refine Calls.quiet_of_same (his _ ?_); exact hW.rd) | (go_at_call 22; refine Calls.quiet_of (Hah.out _ ?_); exact hW.drewN _)))
                have cB := hW.cB
                have fB := frozen_of_row wr (H + 1) 0 _ _ hW.best
                go_wp2
                go_roundw
                case rel => 
                  refine ⟨m + 1, some i, by omega, by go_num, hq.take hl i hHi2.out ⟨hi1, hself, Hb.out, hd⟩ hdu, ?_, ?_⟩
                  · exact hW.turn i hgH
                  · exact (below_drewN hBw nq).setCell (p := ⟨H + 1, 0, none⟩) (by rw [HH.out]; exact Nat.le_succ _) _
                case measure => simp [intOf]; omega
              · have hah := fun W q => ahead_some g H (H + 1) d i b W q hi16 hb16
                rw [decide_eq_false hdu] at hah
                have Hah := Lib.hid hah
                clear hah
                go_quiet ((first | (go_at_call 23; refine Calls.quiet_of_same (his _ ?_); exact hW.rd) | (go_at_call 22; refine Calls.quiet_of (Hah.out _ ?_); exact hW.drewN _)))
                go_wp2
                go_roundw
                case rel => exact ⟨m + 1, some b, by omega, by go_num, hq.leave hl i hi1 hHi2.out (fun e => hdu e.2), hW.drewN _, below_drewN hBw _⟩
                case measure => simp [intOf]; omega
          · have hnr : ¬ ready d i := fun e => hd e.2.2.2
            go_quiet ((first | (go_at_call 23; refine Calls.quiet_of_same (his _ ?_); exact hW.rd)))
            go_wp2
            go_roundw
            case rel => exact ⟨m + 1, q, by omega, by go_num, hq.leave hl i hi1 hHi2.out (fun e => hnr e.1), hW.drewN _, below_drewN hBw _⟩
            case measure => simp [intOf]; omega
    · obtain rfl : m = d.n := by omega
      have hq2 := hq.all.unique hl hr
      subst hq2
      have cB := hW.cB
      have cmp : ¬ ((d.n : Int) + 1 ≤ (d.n : Int)) := by omega
      cases q with
      | none =>
        simp only [nextI] at cB
        go_wp2
        go_ret2
        exact ⟨rfl, hW.rd, Aside.below _ hBw⟩
      | some b =>
        have hb16 : b < 16 := by have := hr.1.1; omega
        have hb16' : (b : Int) < 16 := by omega
        simp only [nextI] at cB
        have f2 := hW.rd.free 2
        have k1 := hW.rd.stored4 (d' := { d with last := b }) 2 (.int .i64 (b : Int)) (by decide) rfl (fun k hk hn => by
          match k with
          | 0 => rfl
          | 1 => rfl
          | 2 => exact absurd rfl hn
          | 3 => rfl
          | n + 4 => omega) rfl
        have K1 := Lib.hid k1
        clear k1
        go_upto_region 14 with fail
        refine over_world (R := fun W => RdAt W g { d with last := b } ∧ W.cell? ⟨H, 0, none⟩ = some (.pointer (some ⟨g, 0, none⟩)) ∧ W.cell? ⟨H + 1, 0, none⟩ = some (.int .i64 (b : Int)) ∧ Aside [g] w W) ⟨K1.out, ?_, ?_, (Aside.below _ hBw).setCell _ _ (fun _ => by simp)⟩ ?_
        · exact (World.cell?_of_block (a := ⟨H, 0, none⟩) (heap_setCell_other _ _ _ _ (by show H ≠ g; omega))).trans cH
        · exact (World.cell?_of_block (a := ⟨H + 1, 0, none⟩) (heap_setCell_other _ _ _ _ (by show H + 1 ≠ g; omega))).trans cB
        clear hW hBw c0 c2 cH cB f2 K1 hq
        rintro wr ⟨hV, cH, cB, hA⟩
        have c3 := hV.c3
        have s2 := hV.s2 b hb16
        have s3 := hV.s3 b hb16
        have f2 := hV.free (4 + b * 4 + 2)
        have f3 := hV.free (4 + b * 4 + 3)
        have k1 := (hV.begin b).put hb16 2 (by decide) { d.by_ b with busy := true } (.bool true) rfl (fun _ => rfl) (fun _ => rfl) (fun e => absurd rfl e) (fun _ => rfl)
        have k2 := k1.put hb16 3 (by decide) { d.by_ b with busy := true, since := d.now } (.int .u64 (d.now : Int)) rfl (fun _ => rfl) (fun _ => rfl) (fun _ => rfl) (fun e => absurd rfl e)
        have a2 := (hA.setCell ⟨g, 4 + b * 4 + 2, none⟩ (.bool true) (fun _ => by simp)).setCell ⟨g, 4 + b * 4 + 3, none⟩ (.int .u64 (d.now : Int)) (fun _ => by simp)
        have K2 := Lib.hid (And.intro k2 a2)
        clear k1 k2 a2
        go_region
        refine over_world (R := fun W => RdAt W g (nextD d (some b)) ∧ W.cell? ⟨H + 1, 0, none⟩ = some (.int .i64 (b : Int)) ∧ Aside [g] w W) ⟨K2.out.1, ?_, K2.out.2.drew⟩ ?_
        · show ((wr.setCell _ _).setCell _ _).cell? _ = _
          rw [World.cell?_setCell_far _ _ _ _ (by show g ≠ H + 1; omega), World.cell?_setCell_far _ _ _ _ (by show g ≠ H + 1; omega)]
          exact cB
        clear K2 c3 s2 s3 f2 f3 hV cB cH hA
        rintro wr ⟨hV, cB, hA⟩
        go_wp2
        go_ret2
        exact ⟨rfl, hV, hA⟩
end Go.Proofs.Ytdlbjllgdikadab
