/- device: Write, Wipe, Copy, New. device: a torn Write; Write. device: New, Wipe, Copy. -/
import Derived.Test.YtdlbjllgdikadaaGrK
import Derived.Deep.CutRange
import Derived.Carry
namespace Go.Proofs.Ytdlbjllgdikadaa
open Go.RowKit

/-- 'copy(a[off:], x)', a an array of bytes. -/
theorem wpList_copy_arr {t : TypeId} {w : World} {ops : Array Oper} {rest : List Oper} {o : Oper} {a : Act} {Q : Exit → Act → World → Prop} (hgd : o.guard = none) (d s : Operand)
    (ho : o.op = .call { callee := .builtin .copy, args := #[d, s], argTypes := #[22, 22] })
    (g off dLen dCap : Nat) (l : List UInt8) (hd : a.eval d = .slice (some ⟨g, off, none⟩) dLen dCap) (hg : ArrT w g t l) (hfit : off + dLen ≤ l.length)
    (ao : Option Addr) (m c : Nat) (src : List UInt8) (hs : a.eval s = .slice ao m c) (hm : m = src.length) (hsrc : IsBytes w ao src)
    (h : ∀ w' n, ArrT w' g t (l.take off ++ (src.take dLen ++ l.drop (off + (src.take dLen).length))) → w.grownBy w' (some g) → wpList Try.prog ops Q rest (a.put o.dst (goInt n)) w') : wpList Try.prog ops Q (o :: rest) a w := by
  refine wpList_plain hgd fun K hK => ?_
  have hsz : (Try.prog.info? 5).map (·.size) = some 1 := by kernel_rfl
  have hl : (src.take dLen).length = Nat.min m dLen := by rw [List.length_take, hm, Nat.min_comm]
  by_cases h0 : src.take dLen = []
  · have hrun := run_copy_none (P := Try.prog) w 22 22 o.type 5 (some ⟨g, off, none⟩) ao dLen dCap m c Try.underlying22 hsz (by rw [← hl, h0]; rfl)
    unfold Oper.wp
    simp [execOp, ho, resolve, invoke, builtin, hd, hs, hrun, Result.andThen]
    refine hK _ _ (h w 0 ?_ ⟨rfl, rfl, rfl, Nat.le_refl _, fun _ _ _ => rfl⟩)
    rw [h0]
    simpa using hg
  · have hpos : 0 < src.length := by
      cases src with
      | nil => simp at h0
      | cons x r => simp
    obtain ⟨b, of2, rfl, _⟩ := hsrc 0 hpos
    have hrun := run_copy_row (P := Try.prog) w 22 22 o.type 5 g off dLen dCap ⟨b, of2, none⟩ m c (bvals l).toArray t (bvals (src.take dLen)) Try.underlying22 hsz hg (by rw [bvals_length, hl])
      (hsrc.take dLen).cells (by have := Nat.min_le_right m dLen; rw [bvals_length, hl, List.size_toArray, bvals_length]; change off + min m dLen ≤ _; omega) (bvals_one _)
    unfold Oper.wp
    simp [execOp, ho, resolve, invoke, builtin, hd, hs, hrun, Result.andThen]
    refine hK _ _ (h _ _ ?_ (grown_setRow _))
    unfold ArrT
    rw [setRow_heap w g _ _ t (0, 0) hg]
    simp [bvals, List.map_take, List.map_drop]

/-- A load of an array, taken first. -/
theorem wpSeq_load_arr {ops : Array Oper} {Q : Exit → Act → World → Prop} {S : World → Prop} {pl : List (Nat × Bool)} {k : Nat} {o : Oper} {a : Act} {w : World} (x : Operand) (g : Nat) (l : List UInt8)
    (ho : ops[k]? = some o) (hw : Region.wanted o (yielded ops a.tmps) = true) (hop : o.op = .load 132 x) (hx : a.eval x = .pointer (some ⟨g, 0, none⟩)) (hS : ∀ W, S W → ArrT W g 132 l) (hl : l.length = 64)
    (h : wpSeq Try.prog ops Q S pl (a.put o.dst (arrV l)) w) : wpSeq Try.prog ops Q S ((k, true) :: pl) a w := by
  refine wpSeq_free ho hw fun K hK => ⟨arrV l, ?_, hK _ h⟩
  rintro W ⟨y, rfl⟩
  have hi : (Try.prog.info? 132).map (·.size) = some (bvals l).toArray.size := by rw [info132]; simp [bvals, hl]
  have hr := run_loadVar_row (P := Try.prog) y.W g 132 132 _ _ _ (hS _ y.h) Try.underlying132 rfl hi
  unfold Oper.quietAt
  simp only [execOp, hop, hx, Instr.loadAt, Instr.sureAddr, Sem.run_bind, Sem.run_pure, Result.andThen_ok, hr]
  exact ⟨rfl, rfl⟩

def updB (m : Nat → List UInt8) (k : Nat) (l : List UInt8) : Nat → List UInt8 := fun i => if i = k then l else m i
def writeE (d : Dev) (i : Int) (l : List UInt8) : Nat := if mayE d i = 0 then (if l.length = 64 then (if d.set && d.writes == 0 then 11 else 0) else 2) else mayE d i
def writeD (d : Dev) (i : Int) (l : List UInt8) : Dev :=
  if mayE d i = 0 ∧ l.length = 64 then
    (if d.set && d.writes == 0 then { d with set := false, down := true, mem := updB d.mem i.toNat (l.take d.prefix_.toNat ++ (d.mem i.toNat).drop d.prefix_.toNat) }
      else { d with writes := d.writes - 1, mem := updB d.mem i.toNat l })
  else d

/-- What a device's numbers may be. -/
def DevOk (d : Dev) : Prop := 0 ≤ d.prefix_ ∧ d.prefix_ ≤ 64 ∧ -9223372036854775808 < d.writes ∧ d.writes ≤ 9223372036854775807

def WritePost (D b : Nat) (d : Dev) (i : Int) (l : List UInt8) (w : World) (e : Ending) (w' : World) : Prop :=
  e = .returned (.int .i64 (writeE d i l : Nat)) ∧ DevAt w' D b (writeD d i l) ∧ Aside [D, b] w w'

theorem write_no (D b : Nat) (d : Dev) (i : Int) (a : Option Addr) (l : List UInt8) (cap : Nat) (w : World) (h : DevAt w D b d) (hbad : mayE d i ≠ 0) :
    Calls Try.prog 42 #[.pointer (some ⟨D, 0, none⟩), .int .i64 i, .slice a l.length cap] w (WritePost D b d i l w) := by
  have hm := may_dev D b d i w h
  have hE : writeE d i l = mayE d i := by rw [writeE, if_neg hbad]
  have hD : writeD d i l = d := by rw [writeD, if_neg (fun e => hbad e.1)]
  unfold WritePost
  rw [hE, hD]
  obtain ⟨m, hmm⟩ : ∃ m, m = mayE d i := ⟨_, rfl⟩
  rw [← hmm] at hm hbad ⊢
  have hm0 : ((m : Int) == 0) = false := by rw [beq_eq_false_iff_ne]; omega
  clear hE hD hmm
  go_enter Try.func42, Try.ntmps42
  go_wp2_with (go_at_call 91; refine hm.mono ?_; rintro e w2 ⟨rfl, rfl⟩)
  go_ret
  exact ⟨rfl, h, Aside.refl _ _⟩

theorem write_len (D b : Nat) (d : Dev) (i : Int) (a : Option Addr) (l : List UInt8) (cap : Nat) (w : World) (h : DevAt w D b d) (hok : mayE d i = 0) (hl : l.length ≠ 64) :
    Calls Try.prog 42 #[.pointer (some ⟨D, 0, none⟩), .int .i64 i, .slice a l.length cap] w (WritePost D b d i l w) := by
  have hm := may_dev D b d i w h
  have hE : writeE d i l = 2 := by rw [writeE, if_pos hok, if_neg hl]
  have hD : writeD d i l = d := by rw [writeD, if_neg (fun e => hl e.2)]
  unfold WritePost
  rw [hE, hD]
  rw [hok] at hm
  have hl0 : ((l.length : Int) == 64) = false := by rw [beq_eq_false_iff_ne]; omega
  clear hE hD hok
  go_enter Try.func42, Try.ntmps42
  go_wp2_with (go_at_call 91; refine hm.mono ?_; rintro e w2 ⟨rfl, rfl⟩)
  go_ret
  exact ⟨rfl, h, Aside.refl _ _⟩

theorem DevAt.map {w : World} {D b : Nat} {d : Dev} (h : DevAt w D b d) : ∃ M, MapFn w b .i64 M ∧ ∀ w' (n : Nat) (l : List UInt8), l.length = 64 → MapFn w' b .i64 (updM M n (arrV l)) → w'.heap[D]? = w.heap[D]? → DevAt w' D b { d with mem := updB d.mem n l } := by
  obtain ⟨h1, ⟨M, h2, h3⟩, h4⟩ := h
  refine ⟨M, h2, fun w' n l hl h5 h6 => ⟨h6.trans h1, ⟨_, h5, fun i hi => ?_⟩, h4⟩⟩
  unfold updM updB
  by_cases e : i = n
  · subst e
    simp [hl]
  · have e2 : ¬ ((i : Int) = (n : Int)) := by omega
    simp only [if_neg e, if_neg e2]
    exact h3 i hi

theorem may_in {d : Dev} {i : Int} (h : mayE d i = 0) : ∃ n : Nat, i = (n : Int) ∧ n < d.blocks := by
  unfold mayE at h
  split at h
  · cases h
  · split at h
    · cases h
    · exact ⟨i.toNat, by omega, by omega⟩

set_option linter.unusedSimpArgs false in
set_option maxHeartbeats 2000000 in
set_option maxRecDepth 100000 in
theorem write_ok (D b : Nat) (d : Dev) (i : Int) (a : Option Addr) (l : List UInt8) (cap : Nat) (w : World) (h : DevAt w D b d) (hd : DevOk d) (hok : mayE d i = 0) (hl : l.length = 64) (hby : IsBytes w a l) (hplain : (d.set && d.writes == 0) = false) :
    Calls Try.prog 42 #[.pointer (some ⟨D, 0, none⟩), .int .i64 i, .slice a l.length cap] w (WritePost D b d i l w) := by
  have hm := may_dev D b d i w h
  have hE : writeE d i l = 0 := by rw [writeE, if_pos hok, if_pos hl, hplain]; rfl
  have hD : writeD d i l = { d with writes := d.writes - 1, mem := updB d.mem i.toNat l } := by rw [writeD, if_pos ⟨hok, hl⟩, hplain]; rfl
  obtain ⟨n, rfl, hn⟩ := may_in hok
  unfold WritePost
  rw [hE, hD, Int.toNat_natCast]
  rw [hok] at hm
  obtain ⟨hr, hlr⟩ := h.read n hn
  obtain ⟨L, hL⟩ : ∃ L, L = d.mem n := ⟨_, rfl⟩
  rw [← hL] at hr hlr
  have hdn : d.down = false := by
    unfold mayE at hok
    cases hq : d.down
    · rfl
    · rw [hq] at hok; cases hok
  have c1 := h.c1
  have Hhl := Lib.hid hl
  rw [hl]
  have Hok := Lib.hid hok
  have Hpl := Lib.hid hplain
  obtain ⟨_, _, hdw, hdw2⟩ := hd
  clear hE hD hok hl hL hplain
  have ha : ArrT (w.alloc (.cells (bvals zero64).toArray 132)) w.heap.size 132 zero64 := heap_alloc_new _ _
  go_enter Try.func42, Try.ntmps42
  go_upto_region 7 with (first
    | (go_at_call 91; refine hm.mono ?_; rintro e w2 ⟨rfl, rfl⟩)
    | (refine wpList_store_arr rfl (.tmp 8) (.tmp 28) rfl w.heap.size zero64 L rfl rfl ha rfl hlr ?_; intro w4 ha4 hg4; have hA4 : Aside [] w w4 := ((Aside.refl [] w).alloc _).put hg4 (fun k hk => .inl (by cases hk; exact Nat.le_refl _)); have h4 := h.aside hA4 (by simp) (by simp); clear hg4))
  have c2 := h4.c2
  have c4 := h4.c4
  have hb4 := hby.aside hA4 (fun _ _ _ => by simp)
  have hgD : D ≠ w.heap.size := by have := h.lt; omega
  have hgb : b ≠ w.heap.size := by have := h.ltb; omega
  obtain ⟨g, hg⟩ : ∃ g, g = w.heap.size := ⟨_, rfl⟩
  rw [← hg] at ha4 hgD hgb ⊢
  have Hg := Lib.hid hg
  clear hg hr c1 ha hm
  obtain ⟨S, W, hS⟩ : ∃ S W, S = d.set ∧ W = d.writes := ⟨_, _, rfl, rfl⟩
  obtain ⟨hS, hW⟩ := hS
  rw [← hS] at c2
  rw [← hW] at c4 hdw hdw2
  have hpl2 := Hpl.out
  rw [← hS, ← hW] at hpl2
  have HS := Lib.hid hS
  have HW := Lib.hid hW
  clear hS hW
  have hlast : ∀ W2, DevAt W2 D b { d with mem := updB d.mem n l } → Aside [D, b] w W2 → W2.cell? ⟨D, 3, none⟩ = some (.bool false) ∧ W2.cell? ⟨D, 4, none⟩ = some (.int .i64 W) ∧ W2.frozen? ⟨D, 4, none⟩ = false ∧
      DevAt (W2.setCell ⟨D, 4, none⟩ (.int .i64 (W - 1))) D b { d with writes := d.writes - 1, mem := updB d.mem n l } ∧ Aside [D, b] w (W2.setCell ⟨D, 4, none⟩ (.int .i64 (W - 1))) := by
    intro W2 h1 h2
    refine ⟨?_, ?_, h1.free 4, ?_, h2.setCell _ _ (fun _ => by simp)⟩
    · rw [← hdn]; exact h1.c3
    · rw [HW.out]; exact h1.c4
    · exact h1.stored 4 _ (by rw [HW.out]; rfl) rfl rfl
  have Hlast := Lib.hid hlast
  clear hlast
  cases S
  all_goals
    simp only [Bool.false_and, Bool.true_and] at hpl2
    go_upto_region 10 with (refine wpList_copy_arr (t := 132) rfl (.tmp 51) (.tmp 52) rfl g 0 64 64 L rfl ha4 (by omega) a 64 cap l rfl Hhl.out.symm hb4 ?_; intro w5 n5 ha5 hg5)
    have ha6 : ArrT w5 g 132 l := by
      have e : List.take 0 L ++ (List.take 64 l ++ List.drop (0 + (List.take 64 l).length) L) = l := by
        have e1 : l.take 64 = l := List.take_of_length_le (by rw [Hhl.out]; exact Nat.le_refl _)
        rw [e1, Hhl.out, List.drop_eq_nil_of_le (by omega)]
        simp
      rw [e] at ha5
      exact ha5
    have hA5 : Aside [] w w5 := hA4.put hg5 (fun k hk => .inl (by cases hk; rw [Hg.out]; exact Nat.le_refl _))
    have h5 := h.aside hA5 (by simp) (by simp)
    have c15 := h5.c1
    obtain ⟨M, hM, hup⟩ := h5.map
    clear ha5 hg5 ha4 hb4 c2 c4 h4
    have hne : Nonempty (SW (fun W => W.cell? ⟨D, 1, none⟩ = some (.map (some b)) ∧ ArrT W g 132 l)) := ⟨⟨w5, c15, ha6⟩⟩
    have p1 : ∀ x : SW (fun W => W.cell? ⟨D, 1, none⟩ = some (.map (some b)) ∧ ArrT W g 132 l), x.W.cell? ⟨D, 1, none⟩ = some (.map (some b)) := fun x => x.h.1
    simp only [Act.put, List.setIfInBounds_toArray, List.set_cons_zero, List.set_cons_succ]
    refine wp_region_seq2 (fun W => W.cell? ⟨D, 1, none⟩ = some (.map (some b)) ∧ ArrT W g 132 l) [(0, true), (1, true), (2, true), (3, true), (4, true), (5, true), (6, false)] (by kernel_rfl) (by kernel_rfl) (fun d _ _ _ _ h => by cases d <;> exact h) (⟨c15, ha6⟩) ?_
    repeat (first
      | (refine wpSeq_load_arr (.tmp 8) g l (o := ⟨_, _, _, _, _, _⟩) rfl rfl rfl rfl (fun W h => h.2) Hhl.out ?_; simp only [Act.put, List.setIfInBounds_toArray, List.set_cons_zero, List.set_cons_succ])
      | (refine wpSeq_skip (o := ⟨_, _, _, _, _, _⟩) rfl rfl ?_; simp only [Act.put, List.setIfInBounds_toArray, List.set_cons_zero, List.set_cons_succ])
      | (refine wpSeq_free (o := ⟨_, _, _, _, _, _⟩) rfl rfl (fun K hK => ?_); go_big_quiet_op; (refine hK _ ?_; clear hK K)))
    refine wpSeq_next (o := ⟨_, _, _, _, _, _⟩) rfl rfl (fun K hK => ?_)
    refine wp_update_fn (w := w5.drew) _ _ _ rfl Try.underlying128 Try.underlying3 hM n (arrV l) rfl rfl rfl ?_
    intro w6 hM6 hg6
    have hk6 : ∀ k, k < w5.heap.size → k ≠ b → w6.heap[k]? = w5.heap[k]? := fun k hk hb => hg6.block k hk (fun e => hb (by injection e))
    have hD6 := hup w6 n l Hhl.out hM6 (hk6 D h5.lt h5.ne)
    have hA6 : Aside [D, b] w w6 := (hA5.mono (fun _ h => by cases h)).drew.put hg6 (fun k hk => .inr (by injection hk with hk; simp [← hk]))
    refine hK.out _ _ (⟨(World.cell?_of_block (a := ⟨D, 1, none⟩) (hk6 D h5.lt h5.ne)).trans c15, (hk6 g (lt_of_block ha6) (fun e => hgb e.symm)).trans ha6⟩) ?_
    clear hK K
    repeat (first
      | (refine wpSeq_load_arr (.tmp 8) g l (o := ⟨_, _, _, _, _, _⟩) rfl rfl rfl rfl (fun W h => h.2) Hhl.out ?_; simp only [Act.put, List.setIfInBounds_toArray, List.set_cons_zero, List.set_cons_succ])
      | (refine wpSeq_skip (o := ⟨_, _, _, _, _, _⟩) rfl rfl ?_; simp only [Act.put, List.setIfInBounds_toArray, List.set_cons_zero, List.set_cons_succ])
      | (refine wpSeq_free (o := ⟨_, _, _, _, _, _⟩) rfl rfl (fun K hK => ?_); go_big_quiet_op; (refine hK _ ?_; clear hK K)))
    refine wpSeq_nil ?_
    obtain ⟨l1, l2, l3, l4, l5⟩ := Hlast.out w6 hD6 hA6
    go_wp2
    go_ret
    exact ⟨rfl, l4, l5⟩

end Go.Proofs.Ytdlbjllgdikadaa

namespace Go.Proofs.Ytdlbjllgdikadaa
open Go.RowKit

set_option linter.unusedSimpArgs false in
set_option maxHeartbeats 2000000 in
set_option maxRecDepth 100000 in
theorem write_torn (D b : Nat) (d : Dev) (i : Int) (a : Option Addr) (l : List UInt8) (cap : Nat) (w : World) (h : DevAt w D b d) (hd : DevOk d) (hok : mayE d i = 0) (hl : l.length = 64) (hby : IsBytes w a l) (hao : ∀ q off, a = some ⟨q, off, none⟩ → q ∉ [D, b]) (hset : d.set = true) (hwr : d.writes = 0) :
    Calls Try.prog 42 #[.pointer (some ⟨D, 0, none⟩), .int .i64 i, .slice a l.length cap] w (WritePost D b d i l w) := by
  have hm := may_dev D b d i w h
  have hcond : (d.set && d.writes == 0) = true := by rw [hset, hwr]; rfl
  have hE : writeE d i l = 11 := by rw [writeE, if_pos hok, if_pos hl, hcond]; rfl
  have hD : writeD d i l = { d with set := false, down := true, mem := updB d.mem i.toNat (l.take d.prefix_.toNat ++ (d.mem i.toNat).drop d.prefix_.toNat) } := by rw [writeD, if_pos ⟨hok, hl⟩, hcond]; rfl
  obtain ⟨n, rfl, hn⟩ := may_in hok
  unfold WritePost
  rw [hE, hD, Int.toNat_natCast]
  rw [hok] at hm
  obtain ⟨hr, hlr⟩ := h.read n hn
  obtain ⟨L, hL⟩ : ∃ L, L = d.mem n := ⟨_, rfl⟩
  rw [← hL] at hr hlr ⊢
  have hdn : d.down = false := by
    unfold mayE at hok
    cases hq : d.down
    · rfl
    · rw [hq] at hok; cases hok
  have c1 := h.c1
  have Hhl := Lib.hid hl
  rw [hl]
  have Hok := Lib.hid hok
  obtain ⟨hp0, hp64, _, _⟩ := hd
  obtain ⟨p, hp⟩ := Int.eq_ofNat_of_zero_le hp0
  have hp64' : p ≤ 64 := by omega
  rw [hp, Int.toNat_natCast]
  have Hset := Lib.hid hset
  have Hwr := Lib.hid hwr
  have Hp := Lib.hid hp
  clear hE hD hok hl hL hcond hset hwr hp hp0 hp64
  have ha : ArrT (w.alloc (.cells (bvals zero64).toArray 132)) w.heap.size 132 zero64 := heap_alloc_new _ _
  go_enter Try.func42, Try.ntmps42
  go_upto_region 7 with (first
    | (go_at_call 91; refine hm.mono ?_; rintro e w2 ⟨rfl, rfl⟩)
    | (refine wpList_store_arr rfl (.tmp 8) (.tmp 28) rfl w.heap.size zero64 L rfl rfl ha rfl hlr ?_; intro w4 ha4 hg4; have hA4 : Aside [] w w4 := ((Aside.refl [] w).alloc _).put hg4 (fun k hk => .inl (by cases hk; exact Nat.le_refl _)); have h4 := h.aside hA4 (by simp) (by simp); clear hg4))
  have c2 := h4.c2
  have c4 := h4.c4
  have hb4 := hby.aside hA4 (fun _ _ _ => by simp)
  have hgD : D ≠ w.heap.size := by have := h.lt; omega
  have hgb : b ≠ w.heap.size := by have := h.ltb; omega
  obtain ⟨g, hg⟩ : ∃ g, g = w.heap.size := ⟨_, rfl⟩
  rw [← hg] at ha4 hgD hgb ⊢
  have Hg := Lib.hid hg
  clear hg hr c1 ha hm
  have c5 := h4.c5
  rw [Hset.out] at c2
  rw [Hwr.out] at c4
  rw [Hp.out] at c5
  have c3 := h4.c3
  have f2 := h4.free 2
  have f3 := h4.free 3
  have hD5 := (h4.stored (d' := { d with set := false }) 2 (.bool false) rfl rfl rfl).stored (d' := { d with set := false, down := true }) 3 (.bool true) rfl rfl rfl
  have hA5 : Aside [D, b] w ((w4.setCell ⟨D, 2, none⟩ (.bool false)).setCell ⟨D, 3, none⟩ (.bool true)) := ((hA4.mono (T' := [D, b]) (fun _ h => by cases h)).setCell _ _ (fun _ => by simp)).setCell _ _ (fun _ => by simp)
  have ha5 : ArrT ((w4.setCell ⟨D, 2, none⟩ (.bool false)).setCell ⟨D, 3, none⟩ (.bool true)) g 132 L := (heap_setCell_other _ _ _ _ (fun e => hgD e.symm)).trans ((heap_setCell_other _ _ _ _ (fun e => hgD e.symm)).trans ha4)
  have hb5 := hby.aside hA5 hao
  go_upto_region 9 with fail
  refine over_world (R := fun W => DevAt W D b { d with set := false, down := true } ∧ Aside [D, b] w W ∧ ArrT W g 132 L ∧ IsBytes W a l) ⟨hD5, hA5, ha5, hb5⟩ ?_
  rintro w7 ⟨hD7, hA7, ha7, hb7⟩
  clear hD5 hA5 ha5 hb5 c2 c3 c4 c5 f2 f3 h4 ha4 hA4 hb4
  have hpg : g ≠ D := fun e => hgD e.symm
  have hp64i : (p : Int) ≤ 64 := by omega
  go_upto_region 10 with (refine wpList_copy_arr (t := 132) rfl (.tmp 51) (.tmp 52) rfl g 0 p 64 L rfl ha7 (by omega) a 64 cap l rfl Hhl.out.symm hb7 ?_; intro w5 n5 ha5 hg5)
  have ha6 : ArrT w5 g 132 (l.take p ++ L.drop p) := by
    have e : List.take 0 L ++ (List.take p l ++ List.drop (0 + (List.take p l).length) L) = l.take p ++ L.drop p := by
      rw [List.length_take, Hhl.out, Nat.min_eq_left hp64']
      simp
    rw [e] at ha5
    exact ha5
  have hlen : (l.take p ++ L.drop p).length = 64 := by
    rw [List.length_append, List.length_take, List.length_drop, Hhl.out, hlr]; omega
  obtain ⟨R, hR⟩ : ∃ R, R = l.take p ++ L.drop p := ⟨_, rfl⟩
  rw [← hR] at ha6 hlen
  have HR := Lib.hid hR
  clear hR
  have hA5 : Aside [D, b] w w5 := hA7.put hg5 (fun k hk => .inl (by cases hk; rw [Hg.out]; exact Nat.le_refl _))
  have h5 := hD7.kept hg5 (fun e => hgD (by injection e)) (fun e => hgb (by injection e))
  have c15 := h5.c1
  obtain ⟨M, hM, hup⟩ := h5.map
  clear ha5 hg5 ha7 hb7
  have hne : Nonempty (SW (fun W => W.cell? ⟨D, 1, none⟩ = some (.map (some b)) ∧ ArrT W g 132 R)) := ⟨⟨w5, c15, ha6⟩⟩
  have p1 : ∀ x : SW (fun W => W.cell? ⟨D, 1, none⟩ = some (.map (some b)) ∧ ArrT W g 132 R), x.W.cell? ⟨D, 1, none⟩ = some (.map (some b)) := fun x => x.h.1
  simp only [Act.put, List.setIfInBounds_toArray, List.set_cons_zero, List.set_cons_succ]
  refine wp_region_seq2 (fun W => W.cell? ⟨D, 1, none⟩ = some (.map (some b)) ∧ ArrT W g 132 R) [(0, true), (1, true), (2, true), (3, true), (4, true), (5, true), (6, false)] (by kernel_rfl) (by kernel_rfl) (fun d _ _ _ _ h => by cases d <;> exact h) (⟨c15, ha6⟩) ?_
  repeat (first
    | (refine wpSeq_load_arr (.tmp 8) g R (o := ⟨_, _, _, _, _, _⟩) rfl rfl rfl rfl (fun W h => h.2) hlen ?_; simp only [Act.put, List.setIfInBounds_toArray, List.set_cons_zero, List.set_cons_succ])
    | (refine wpSeq_skip (o := ⟨_, _, _, _, _, _⟩) rfl rfl ?_; simp only [Act.put, List.setIfInBounds_toArray, List.set_cons_zero, List.set_cons_succ])
    | (refine wpSeq_free (o := ⟨_, _, _, _, _, _⟩) rfl rfl (fun K hK => ?_); go_big_quiet_op; (refine hK _ ?_; clear hK K)))
  refine wpSeq_next (o := ⟨_, _, _, _, _, _⟩) rfl rfl (fun K hK => ?_)
  refine wp_update_fn (w := w5.drew) _ _ _ rfl Try.underlying128 Try.underlying3 hM n (arrV R) rfl rfl rfl ?_
  intro w6 hM6 hg6
  have hk6 : ∀ k, k < w5.heap.size → k ≠ b → w6.heap[k]? = w5.heap[k]? := fun k hk hb => hg6.block k hk (fun e => hb (by injection e))
  have hD6 := hup w6 n R hlen hM6 (hk6 D h5.lt h5.ne)
  have hA6 : Aside [D, b] w w6 := hA5.drew.put hg6 (fun k hk => .inr (by injection hk with hk; simp [← hk]))
  refine hK.out _ _ (⟨(World.cell?_of_block (a := ⟨D, 1, none⟩) (hk6 D h5.lt h5.ne)).trans c15, (hk6 g (lt_of_block ha6) (fun e => hgb e.symm)).trans ha6⟩) ?_
  clear hK K
  repeat (first
    | (refine wpSeq_load_arr (.tmp 8) g R (o := ⟨_, _, _, _, _, _⟩) rfl rfl rfl rfl (fun W h => h.2) hlen ?_; simp only [Act.put, List.setIfInBounds_toArray, List.set_cons_zero, List.set_cons_succ])
    | (refine wpSeq_skip (o := ⟨_, _, _, _, _, _⟩) rfl rfl ?_; simp only [Act.put, List.setIfInBounds_toArray, List.set_cons_zero, List.set_cons_succ])
    | (refine wpSeq_free (o := ⟨_, _, _, _, _, _⟩) rfl rfl (fun K hK => ?_); go_big_quiet_op; (refine hK _ ?_; clear hK K)))
  refine wpSeq_nil ?_
  have l3 : w6.cell? ⟨D, 3, none⟩ = some (.bool true) := hD6.c3
  go_wp2
  go_ret
  exact ⟨rfl, by rw [← HR.out, ← Hp.out]; exact hD6, hA6⟩

theorem write_dev (D b : Nat) (d : Dev) (i : Int) (a : Option Addr) (l : List UInt8) (cap : Nat) (w : World) (h : DevAt w D b d) (hd : DevOk d) (hby : IsBytes w a l) (hao : ∀ q off, a = some ⟨q, off, none⟩ → q ∉ [D, b]) :
    Calls Try.prog 42 #[.pointer (some ⟨D, 0, none⟩), .int .i64 i, .slice a l.length cap] w (WritePost D b d i l w) := by
  by_cases h0 : mayE d i = 0
  · by_cases hl : l.length = 64
    · cases hc : (d.set && d.writes == 0) with
      | false => exact write_ok D b d i a l cap w h hd h0 hl hby hc
      | true =>
        rw [Bool.and_eq_true, beq_iff_eq] at hc
        exact write_torn D b d i a l cap w h hd h0 hl hby hao hc.1 hc.2
    · exact write_len D b d i a l cap w h h0 hl
  · exact write_no D b d i a l cap w h h0

end Go.Proofs.Ytdlbjllgdikadaa

namespace Go.Proofs.Ytdlbjllgdikadaa
open Go.RowKit

def newD (n : Nat) : Dev := ⟨n, false, false, 0, 0, fun _ => zero64⟩

theorem new_dev (n : Nat) (w : World) (h1 : 16 ≤ n) (h2 : n ≤ 16384) :
    Calls Try.prog 38 #[.int .i64 (n : Int)] w fun e w' => ∃ D b, e = .returned (.tuple #[.pointer (some ⟨D, 0, none⟩), .int .i64 0]) ∧ DevAt w' D b (newD n) ∧ w.heap.size ≤ D ∧ w.heap.size ≤ b ∧ Below w.heap.size w w' := by
  have hmm := @run_makeMap Try.prog
  have hD : DevAt ((w.alloc (.map #[] 0)).alloc (.cells ((newD n).cells w.heap.size) 130)) (w.heap.size + 1) w.heap.size (newD n) :=
    ⟨heap_alloc2_new _ _ _, ⟨_, (MapFn.made w .i64).later ((Below.refl _ _).alloc (Nat.le_refl _) _), fun i _ => ⟨rfl, rfl⟩⟩, h2⟩
  have hB : Below w.heap.size w ((w.alloc (.map #[] 0)).alloc (.cells ((newD n).cells w.heap.size) 130)) := ((Below.refl _ _).alloc (Nat.le_refl _) _).alloc (by simp) _
  go_enter Try.func38, Try.ntmps38
  go_wp2
  go_ret2
  exact ⟨w.heap.size + 1, w.heap.size, rfl, hD, by omega, Nat.le_refl _, hB⟩

theorem new_bad (n : Int) (w : World) (h : n < 16 ∨ 16384 < n) :
    Calls Try.prog 38 #[.int .i64 n] w fun e w' => e = .returned (.tuple #[.pointer none, .int .i64 2]) ∧ w = w' := by
  by_cases h1 : n < 16
  · go_enter Try.func38, Try.ntmps38
    go_wp2
    go_ret2
    exact ⟨rfl, rfl⟩
  · have h2 : 16384 < n := by omega
    go_enter Try.func38, Try.ntmps38
    go_wp2
    go_ret2
    exact ⟨rfl, rfl⟩

def wipeD (d : Dev) : Dev := { d with set := false, down := false, mem := fun _ => zero64 }

set_option maxRecDepth 100000 in
theorem wipe_dev (D b : Nat) (d : Dev) (w : World) (h : DevAt w D b d) :
    Calls Try.prog 51 #[.pointer (some ⟨D, 0, none⟩)] w fun e w' => e = .returned (.tuple #[]) ∧ DevAt w' D b (wipeD d) ∧ Aside [D, b] w w' := by
  have c1 := h.c1
  have hne := h.ne
  have hlt := h.lt
  obtain ⟨h1, ⟨M, h2, h3⟩, h4⟩ := h
  go_enter Try.func51, Try.ntmps51
  go_upto_region 2 with (refine wpList_clear_fn rfl (.tmp 7) rfl Try.underlying128 h2 rfl ?_; intro w2 hM2 hg2)
  have hD2 : DevAt w2 D b { d with mem := fun _ => zero64 } := ⟨(hg2.block D hlt (fun e => hne (by injection e))).trans h1, ⟨_, hM2, fun i _ => ⟨rfl, rfl⟩⟩, h4⟩
  have hA2 : Aside [D, b] w w2 := (Aside.refl _ w).put hg2 (fun k hk => .inr (by injection hk with hk; simp [← hk]))
  have c2 := hD2.c2
  have c3 := hD2.c3
  have f2 := hD2.free 2
  have f3 := hD2.free 3
  have hs := (hD2.stored (d' := { d with set := false, mem := fun _ => zero64 }) 2 (.bool false) rfl rfl rfl).stored (d' := wipeD d) 3 (.bool false) rfl rfl rfl
  have hA3 := (hA2.setCell ⟨D, 2, none⟩ (.bool false) (fun _ => by simp)).setCell ⟨D, 3, none⟩ (.bool false) (fun _ => by simp)
  go_wp2
  go_end0
  exact ⟨rfl, hs, hA3⟩

section
variable {P : Program} (w : World)
theorem run_typeAssert_map (t xT k e : TypeId) (v : Value) (h : P.underlying t = some (.map k e)) : (Instr.typeAssert (.iface t v) xT t false).run P w = .ok v w := by
  simp [Instr.typeAssert, run_underlying h, go_sem, Result.andThen]
theorem run_maps_clone {r : Nat} {es : Array MapEntry} {clock : Nat} (t : TypeId) (hb : w.heap[r]? = some (.map es clock)) :
    (Extern.MapsClone.clone #[.iface t (.map (some r))]).run P w = .ok (.iface t (.map (some w.heap.size))) (w.alloc (.map es clock)) := by
  have e : Extern.MapsClone.clone #[.iface t (.map (some r))] = (getObj r >>= fun o => match o with
      | .map entries clock => (newObj (.map entries clock) >>= fun n => pure (.iface t (.map (some n))))
      | _ => stuck "maps.clone: a map expected") := rfl
  rw [e]
  simp [MapKept.run_getObj_map hb, Result.andThen, go_sem]
end

set_option maxRecDepth 100000 in
set_option maxHeartbeats 1000000 in
theorem clone_map (b : Nat) (es : Array MapEntry) (clock : Nat) (w : World) (hb : w.heap[b]? = some (.map es clock)) :
    Calls Try.prog 92 #[.map (some b)] w fun e w' => e = .returned (.map (some w.heap.size)) ∧ w' = w.alloc (.map es clock) := by
  go_enter Try.func92, Try.ntmps92
  go_wp2
  rw [run_callFunc_extern Try.func109 (by kernel_rfl) (by kernel_rfl) (by kernel_rfl) (e := Extern.MapsClone.clone) (by kernel_rfl), run_maps_clone w 128 hb]
  simp only [Result.andThen]
  rw [Oper.upon_value]
  go_wp2
  rw [run_typeAssert_map _ 128 20 3 132 _ Try.underlying128]
  simp only [Result.andThen]
  rw [Oper.upon_value]
  go_wp2
  go_ret
  exact ⟨rfl, rfl⟩

theorem info130s : (Try.prog.info? 130).map (·.size) = some 6 := by kernel_rfl
theorem Dev.one (d : Dev) (b : Nat) : (d.cells b).all (·.oneCell') = true := by simp [Dev.cells, Value.oneCell']

set_option maxRecDepth 100000 in
theorem copy_dev (D b : Nat) (d : Dev) (w : World) (h : DevAt w D b d) :
    Calls Try.prog 53 #[.pointer (some ⟨D, 0, none⟩)] w fun e w' => ∃ D' b', e = .returned (.pointer (some ⟨D', 0, none⟩)) ∧ DevAt w' D' b' d ∧ w.heap.size ≤ D' ∧ w.heap.size ≤ b' ∧ Below w.heap.size w w' := by
  have c0 := h.c0
  have c1 := h.c1
  have c2 := h.c2
  have c3 := h.c3
  have c4 := h.c4
  have c5 := h.c5
  have hl := h.lt
  have hlb := h.ltb
  obtain ⟨h1, ⟨M, h2, h3⟩, h4⟩ := h
  obtain ⟨es, ck, hb, hM1, hM2⟩ := h2
  go_enter Try.func53, Try.ntmps53
  go_wp2_with (first
    | (refine wpList_store_row rfl 130 (.tmp 3) (.tmp 15) rfl w.heap.size (d.cells b) rfl rfl 130 #[.int .i64 0, .map none, .bool false, .bool false, .int .i64 0, .int .i64 0] (heap_alloc_new _ _) info130s rfl (Dev.one d b) ?_; obtain ⟨w2, hw2⟩ : ∃ w2, w2 = (w.alloc (.cells #[.int .i64 0, .map none, .bool false, .bool false, .int .i64 0, .int .i64 0] 130)).setRow w.heap.size (d.cells b) := ⟨_, rfl⟩; have hB2 : Below w.heap.size w w2 := (by rw [hw2]; exact ((Below.refl _ w).alloc (Nat.le_refl _) _).grown (grown_setRow _) (by simp) (fun k hk => by cases hk; exact Nat.le_refl _)); have hD2 : w2.heap[w.heap.size]? = some (.cells (d.cells b) 130 (0, 0)) := (by rw [hw2]; exact setRow_heap _ _ _ _ _ _ (heap_alloc_new _ _)); rw [← hw2]; clear hw2; have c1' : w2.cell? ⟨D, 1, none⟩ = some (.map (some b)) := (hB2.cell (p := ⟨D, 1, none⟩) hl).trans c1; have hb2 : w2.heap[b]? = some (.map es ck) := (hB2.block b hlb).trans hb; have hl2 := lt_of_block hD2)
    | (go_at_call 92; refine (clone_map b es ck _ hb2).mono ?_; rintro e w3 ⟨rfl, hw3⟩; have hB3 : Below w2.heap.size w2 w3 := (by rw [hw3]; exact (Below.refl _ _).alloc (Nat.le_refl _) _); have hD3 := (hB3.block w.heap.size hl2).trans hD2; have hM3 : w3.heap[w2.heap.size]? = some (.map es ck) := (by rw [hw3]; exact heap_alloc_new _ _); clear hw3; have k1 : w3.cell? ⟨w.heap.size, 1, none⟩ = some (.map (some b)) := cell_of_row _ _ _ _ _ _ hD3; have k2 := frozen_of_row w3 w.heap.size 1 _ _ hD3))
  have hne : w2.heap.size ≠ w.heap.size := by omega
  have hB0 := (below_call hB2 (Nat.le_refl _) hB3).setCell (p := ⟨w.heap.size, 1, none⟩) (Nat.le_refl _) (.map (some w2.heap.size))
  go_ret
  refine ⟨w.heap.size, w2.heap.size, rfl, ⟨?_, ⟨M, ⟨es, ck, (heap_setCell_other _ _ _ _ hne).trans hM3, hM1, hM2⟩, h3⟩, h4⟩, Nat.le_refl _, Nat.le_of_lt hl2, hB0⟩
  rw [heap_setCell_same _ _ _ _ _ _ hD3]
  rfl

end Go.Proofs.Ytdlbjllgdikadaa
