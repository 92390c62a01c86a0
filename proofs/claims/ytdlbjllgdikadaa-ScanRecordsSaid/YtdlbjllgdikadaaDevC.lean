/- device: a torn Write; Write. -/
import Derived.Test.YtdlbjllgdikadaaDevB
namespace Go.Proofs.Ytdlbjllgdikadaa
open Go.RowKit

set_option linter.unusedSimpArgs false in
set_option maxHeartbeats 2000000 in
set_option maxRecDepth 100000 in
theorem write_torn (D b : Nat) (d : Dev) (i : Int) (a : Option Addr) (l : List UInt8) (cap : Nat) (w : World) (h : DevAt w D b d) (hd : DevOk d) (hok : mayE d i = 0) (hl : l.length = 64) (hby : IsBytes w a l) (hao : ∀ q off, a = some ⟨q, off, none⟩ → q ∉ [D, b]) (hset : d.set = true) (hwr : d.writes = 0) :
    Calls Try.prog 42 #[.pointer (some ⟨D, 0, none⟩), .int .i64 i, .slice a l.length cap] w (WritePost D b d i l w) := by
  have hm := may_dev D b d i w h
  have hcond : (d.set && d.writes == 0) = true := by rw [hset, hwr]; rfl
  have hE : writeE d i l = 11 := by rw [writeE, if_pos hok, if_pos hl, hcond]; rfl
  have hD : writeD d i l = { d with set := false, down := true, mem := updB d.mem i.toNat (l.take d.prefix_.toNat ++ (d.mem i.toNat).drop d.prefix_.toNat) } := by rw [writeD, if_pos ⟨hok, hl⟩, hcond]; rfl
  obtain ⟨n, rfl, hn⟩ := may_in hok
  unfold WritePost
  rw [hE, hD, Int.toNat_natCast]
  rw [hok] at hm
  obtain ⟨hr, hlr⟩ := h.read n hn
  obtain ⟨L, hL⟩ : ∃ L, L = d.mem n := ⟨_, rfl⟩
  rw [← hL] at hr hlr ⊢
  have hdn : d.down = false := by
    unfold mayE at hok
    cases hq : d.down
    · rfl
    · rw [hq] at hok; cases hok
  have c1 := h.c1
  have Hhl := Lib.hid hl
  rw [hl]
  have Hok := Lib.hid hok
  obtain ⟨hp0, hp64, _, _⟩ := hd
  obtain ⟨p, hp⟩ := Int.eq_ofNat_of_zero_le hp0
  have hp64' : p ≤ 64 := by omega
  rw [hp, Int.toNat_natCast]
  have Hset := Lib.hid hset
  have Hwr := Lib.hid hwr
  have Hp := Lib.hid hp
  clear hE hD hok hl hL hcond hset hwr hp hp0 hp64
  have ha : ArrT (w.alloc (.cells (bvals zero64).toArray 132)) w.heap.size 132 zero64 := heap_alloc_new _ _
  go_enter Try.func42, Try.ntmps42
  go_upto_region 7 with (first
    | (go_at_call 91; refine hm.mono ?_; rintro e w2 ⟨rfl, rfl⟩)
    | (refine wpList_store_arr rfl (.tmp 8) (.tmp 28) rfl w.heap.size zero64 L rfl rfl ha rfl hlr ?_; intro w4 ha4 hg4; have hA4 : Aside [] w w4 := ((Aside.refl [] w).alloc _).put hg4 (fun k hk => .inl (by cases hk; exact Nat.le_refl _)); have h4 := h.aside hA4 (by simp) (by simp); clear hg4))
  have c2 := h4.c2
  have c4 := h4.c4
  have hb4 := hby.aside hA4 (fun _ _ _ => by simp)
  have hgD : D ≠ w.heap.size := by have := h.lt; omega
  have hgb : b ≠ w.heap.size := by have := h.ltb; omega
  obtain ⟨g, hg⟩ : ∃ g, g = w.heap.size := ⟨_, rfl⟩
  rw [← hg] at ha4 hgD hgb ⊢
  have Hg := Lib.hid hg
  clear hg hr c1 ha hm
  have c5 := h4.c5
  rw [Hset.out] at c2
  rw [Hwr.out] at c4
  rw [Hp.out] at c5
  have c3 := h4.c3
  have f2 := h4.free 2
  have f3 := h4.free 3
  have hD5 := (h4.stored (d' := { d with set := false }) 2 (.bool false) rfl rfl rfl).stored (d' := { d with set := false, down := true }) 3 (.bool true) rfl rfl rfl
  have hA5 : Aside [D, b] w ((w4.setCell ⟨D, 2, none⟩ (.bool false)).setCell ⟨D, 3, none⟩ (.bool true)) := ((hA4.mono (T' := [D, b]) (fun _ h => by cases h)).setCell _ _ (fun _ => by simp)).setCell _ _ (fun _ => by simp)
  have ha5 : ArrT ((w4.setCell ⟨D, 2, none⟩ (.bool false)).setCell ⟨D, 3, none⟩ (.bool true)) g 132 L := (heap_setCell_other _ _ _ _ (fun e => hgD e.symm)).trans ((heap_setCell_other _ _ _ _ (fun e => hgD e.symm)).trans ha4)
  have hb5 := hby.aside hA5 hao
  go_upto_region 9 with fail
  refine over_world (R := fun W => DevAt W D b { d with set := false, down := true } ∧ Aside [D, b] w W ∧ ArrT W g 132 L ∧ IsBytes W a l) ⟨hD5, hA5, ha5, hb5⟩ ?_
  rintro w7 ⟨hD7, hA7, ha7, hb7⟩
  clear hD5 hA5 ha5 hb5 c2 c3 c4 c5 f2 f3 h4 ha4 hA4 hb4
  have hpg : g ≠ D := fun e => hgD e.symm
  have hp64i : (p : Int) ≤ 64 := by omega
  go_upto_region 10 with (refine wpList_copy_arr (t := 132) rfl (.tmp 51) (.tmp 52) rfl g 0 p 64 L rfl ha7 (by omega) a 64 cap l rfl Hhl.out.symm hb7 ?_; intro w5 n5 ha5 hg5)
  have ha6 : ArrT w5 g 132 (l.take p ++ L.drop p) := by
    have e : List.take 0 L ++ (List.take p l ++ List.drop (0 + (List.take p l).length) L) = l.take p ++ L.drop p := by
      rw [List.length_take, Hhl.out, Nat.min_eq_left hp64']
      simp
    rw [e] at ha5
    exact ha5
  have hlen : (l.take p ++ L.drop p).length = 64 := by
    rw [List.length_append, List.length_take, List.length_drop, Hhl.out, hlr]; omega
  obtain ⟨R, hR⟩ : ∃ R, R = l.take p ++ L.drop p := ⟨_, rfl⟩
  rw [← hR] at ha6 hlen
  have HR := Lib.hid hR
  clear hR
  have hA5 : Aside [D, b] w w5 := hA7.put hg5 (fun k hk => .inl (by cases hk; rw [Hg.out]; exact Nat.le_refl _))
  have h5 := hD7.kept hg5 (fun e => hgD (by injection e)) (fun e => hgb (by injection e))
  have c15 := h5.c1
  obtain ⟨M, hM, hup⟩ := h5.map
  clear ha5 hg5 ha7 hb7
  have hne : Nonempty (SW (fun W => W.cell? ⟨D, 1, none⟩ = some (.map (some b)) ∧ ArrT W g 132 R)) := ⟨⟨w5, c15, ha6⟩⟩
  have p1 : ∀ x : SW (fun W => W.cell? ⟨D, 1, none⟩ = some (.map (some b)) ∧ ArrT W g 132 R), x.W.cell? ⟨D, 1, none⟩ = some (.map (some b)) := fun x => x.h.1
  simp only [Act.put, List.setIfInBounds_toArray, List.set_cons_zero, List.set_cons_succ]
  refine wp_region_seq2 (fun W => W.cell? ⟨D, 1, none⟩ = some (.map (some b)) ∧ ArrT W g 132 R) [(0, true), (1, true), (2, true), (3, true), (4, true), (5, true), (6, false)] (by kernel_rfl) (by kernel_rfl) (fun d _ _ _ _ h => by cases d <;> exact h) (⟨c15, ha6⟩) ?_
  repeat (first
    | (refine wpSeq_load_arr (.tmp 8) g R (o := ⟨_, _, _, _, _, _⟩) rfl rfl rfl rfl (fun W h => h.2) hlen ?_; simp only [Act.put, List.setIfInBounds_toArray, List.set_cons_zero, List.set_cons_succ])
    | (refine wpSeq_skip (o := ⟨_, _, _, _, _, _⟩) rfl rfl ?_; simp only [Act.put, List.setIfInBounds_toArray, List.set_cons_zero, List.set_cons_succ])
    | (refine wpSeq_free (o := ⟨_, _, _, _, _, _⟩) rfl rfl (fun K hK => ?_); go_big_quiet_op; (refine hK _ ?_; clear hK K)))
  refine wpSeq_next (o := ⟨_, _, _, _, _, _⟩) rfl rfl (fun K hK => ?_)
  refine wp_update_fn (w := w5.drew) _ _ _ rfl Try.underlying128 Try.underlying3 hM n (arrV R) rfl rfl rfl ?_
  intro w6 hM6 hg6
  have hk6 : ∀ k, k < w5.heap.size → k ≠ b → w6.heap[k]? = w5.heap[k]? := fun k hk hb => hg6.block k hk (fun e => hb (by injection e))
  have hD6 := hup w6 n R hlen hM6 (hk6 D h5.lt h5.ne)
  have hA6 : Aside [D, b] w w6 := hA5.drew.put hg6 (fun k hk => .inr (by injection hk with hk; simp [← hk]))
  refine hK.out _ _ (⟨(World.cell?_of_block (a := ⟨D, 1, none⟩) (hk6 D h5.lt h5.ne)).trans c15, (hk6 g (lt_of_block ha6) (fun e => hgb e.symm)).trans ha6⟩) ?_
  clear hK K
  repeat (first
    | (refine wpSeq_load_arr (.tmp 8) g R (o := ⟨_, _, _, _, _, _⟩) rfl rfl rfl rfl (fun W h => h.2) hlen ?_; simp only [Act.put, List.setIfInBounds_toArray, List.set_cons_zero, List.set_cons_succ])
    | (refine wpSeq_skip (o := ⟨_, _, _, _, _, _⟩) rfl rfl ?_; simp only [Act.put, List.setIfInBounds_toArray, List.set_cons_zero, List.set_cons_succ])
    | (refine wpSeq_free (o := ⟨_, _, _, _, _, _⟩) rfl rfl (fun K hK => ?_); go_big_quiet_op; (refine hK _ ?_; clear hK K)))
  refine wpSeq_nil ?_
  have l3 : w6.cell? ⟨D, 3, none⟩ = some (.bool true) := hD6.c3
  go_wp2
  go_ret
  exact ⟨rfl, by rw [← HR.out, ← Hp.out]; exact hD6, hA6⟩

theorem write_dev (D b : Nat) (d : Dev) (i : Int) (a : Option Addr) (l : List UInt8) (cap : Nat) (w : World) (h : DevAt w D b d) (hd : DevOk d) (hby : IsBytes w a l) (hao : ∀ q off, a = some ⟨q, off, none⟩ → q ∉ [D, b]) :
    Calls Try.prog 42 #[.pointer (some ⟨D, 0, none⟩), .int .i64 i, .slice a l.length cap] w (WritePost D b d i l w) := by
  by_cases h0 : mayE d i = 0
  · by_cases hl : l.length = 64
    · cases hc : (d.set && d.writes == 0) with
      | false => exact write_ok D b d i a l cap w h hd h0 hl hby hc
      | true =>
        rw [Bool.and_eq_true, beq_iff_eq] at hc
        exact write_torn D b d i a l cap w h hd h0 hl hby hao hc.1 hc.2
    · exact write_len D b d i a l cap w h h0 hl
  · exact write_no D b d i a l cap w h h0

end Go.Proofs.Ytdlbjllgdikadaa
