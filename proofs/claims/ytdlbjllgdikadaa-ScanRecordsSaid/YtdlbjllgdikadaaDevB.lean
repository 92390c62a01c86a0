/- device: Write, Wipe, Copy, New. -/
import Derived.Test.YtdlbjllgdikadaaAside
import Derived.Deep.CutRange
namespace Go.Proofs.Ytdlbjllgdikadaa
open Go.RowKit

/-- 'copy(a[off:], x)', a an array of bytes. -/
theorem wpList_copy_arr {t : TypeId} {w : World} {ops : Array Oper} {rest : List Oper} {o : Oper} {a : Act} {Q : Exit → Act → World → Prop} (hgd : o.guard = none) (d s : Operand)
    (ho : o.op = .call { callee := .builtin .copy, args := #[d, s], argTypes := #[22, 22] })
    (g off dLen dCap : Nat) (l : List UInt8) (hd : a.eval d = .slice (some ⟨g, off, none⟩) dLen dCap) (hg : ArrT w g t l) (hfit : off + dLen ≤ l.length)
    (ao : Option Addr) (m c : Nat) (src : List UInt8) (hs : a.eval s = .slice ao m c) (hm : m = src.length) (hsrc : IsBytes w ao src)
    (h : ∀ w' n, ArrT w' g t (l.take off ++ (src.take dLen ++ l.drop (off + (src.take dLen).length))) → w.grownBy w' (some g) → wpList Try.prog ops Q rest (a.put o.dst (goInt n)) w') : wpList Try.prog ops Q (o :: rest) a w := by
  refine wpList_plain hgd fun K hK => ?_
  have hsz : (Try.prog.info? 5).map (·.size) = some 1 := by kernel_rfl
  have hl : (src.take dLen).length = Nat.min m dLen := by rw [List.length_take, hm, Nat.min_comm]
  by_cases h0 : src.take dLen = []
  · have hrun := run_copy_none (P := Try.prog) w 22 22 o.type 5 (some ⟨g, off, none⟩) ao dLen dCap m c Try.underlying22 hsz (by rw [← hl, h0]; rfl)
    unfold Oper.wp
    simp [execOp, ho, resolve, invoke, builtin, hd, hs, hrun, Result.andThen]
    refine hK _ _ (h w 0 ?_ ⟨rfl, rfl, rfl, Nat.le_refl _, fun _ _ _ => rfl⟩)
    rw [h0]
    simpa using hg
  · have hpos : 0 < src.length := by
      cases src with
      | nil => simp at h0
      | cons x r => simp
    obtain ⟨b, of2, rfl, _⟩ := hsrc 0 hpos
    have hrun := run_copy_row (P := Try.prog) w 22 22 o.type 5 g off dLen dCap ⟨b, of2, none⟩ m c (bvals l).toArray t (bvals (src.take dLen)) Try.underlying22 hsz hg (by rw [bvals_length, hl])
      (hsrc.take dLen).cells (by have := Nat.min_le_right m dLen; rw [bvals_length, hl, List.size_toArray, bvals_length]; change off + min m dLen ≤ _; omega) (bvals_one _)
    unfold Oper.wp
    simp [execOp, ho, resolve, invoke, builtin, hd, hs, hrun, Result.andThen]
    refine hK _ _ (h _ _ ?_ (grown_setRow _))
    unfold ArrT
    rw [setRow_heap w g _ _ t (0, 0) hg]
    simp [bvals, List.map_take, List.map_drop]

/-- A load of an array, taken first. -/
theorem wpSeq_load_arr {ops : Array Oper} {Q : Exit → Act → World → Prop} {S : World → Prop} {pl : List (Nat × Bool)} {k : Nat} {o : Oper} {a : Act} {w : World} (x : Operand) (g : Nat) (l : List UInt8)
    (ho : ops[k]? = some o) (hw : Region.wanted o (yielded ops a.tmps) = true) (hop : o.op = .load 132 x) (hx : a.eval x = .pointer (some ⟨g, 0, none⟩)) (hS : ∀ W, S W → ArrT W g 132 l) (hl : l.length = 64)
    (h : wpSeq Try.prog ops Q S pl (a.put o.dst (arrV l)) w) : wpSeq Try.prog ops Q S ((k, true) :: pl) a w := by
  refine wpSeq_free ho hw fun K hK => ⟨arrV l, ?_, hK _ h⟩
  rintro W ⟨y, rfl⟩
  have hi : (Try.prog.info? 132).map (·.size) = some (bvals l).toArray.size := by rw [info132]; simp [bvals, hl]
  have hr := run_loadVar_row (P := Try.prog) y.W g 132 132 _ _ _ (hS _ y.h) Try.underlying132 rfl hi
  unfold Oper.quietAt
  simp only [execOp, hop, hx, Instr.loadAt, Instr.sureAddr, Sem.run_bind, Sem.run_pure, Result.andThen_ok, hr]
  exact ⟨rfl, rfl⟩

def updB (m : Nat → List UInt8) (k : Nat) (l : List UInt8) : Nat → List UInt8 := fun i => if i = k then l else m i
def writeE (d : Dev) (i : Int) (l : List UInt8) : Nat := if mayE d i = 0 then (if l.length = 64 then (if d.set && d.writes == 0 then 11 else 0) else 2) else mayE d i
def writeD (d : Dev) (i : Int) (l : List UInt8) : Dev :=
  if mayE d i = 0 ∧ l.length = 64 then
    (if d.set && d.writes == 0 then { d with set := false, down := true, mem := updB d.mem i.toNat (l.take d.prefix_.toNat ++ (d.mem i.toNat).drop d.prefix_.toNat) }
      else { d with writes := d.writes - 1, mem := updB d.mem i.toNat l })
  else d

/-- What a device's numbers may be. -/
def DevOk (d : Dev) : Prop := 0 ≤ d.prefix_ ∧ d.prefix_ ≤ 64 ∧ -9223372036854775808 < d.writes ∧ d.writes ≤ 9223372036854775807

def WritePost (D b : Nat) (d : Dev) (i : Int) (l : List UInt8) (w : World) (e : Ending) (w' : World) : Prop :=
  e = .returned (.int .i64 (writeE d i l : Nat)) ∧ DevAt w' D b (writeD d i l) ∧ Aside [D, b] w w'

theorem write_no (D b : Nat) (d : Dev) (i : Int) (a : Option Addr) (l : List UInt8) (cap : Nat) (w : World) (h : DevAt w D b d) (hbad : mayE d i ≠ 0) :
    Calls Try.prog 42 #[.pointer (some ⟨D, 0, none⟩), .int .i64 i, .slice a l.length cap] w (WritePost D b d i l w) := by
  have hm := may_dev D b d i w h
  have hE : writeE d i l = mayE d i := by rw [writeE, if_neg hbad]
  have hD : writeD d i l = d := by rw [writeD, if_neg (fun e => hbad e.1)]
  unfold WritePost
  rw [hE, hD]
  obtain ⟨m, hmm⟩ : ∃ m, m = mayE d i := ⟨_, rfl⟩
  rw [← hmm] at hm hbad ⊢
  have hm0 : ((m : Int) == 0) = false := by rw [beq_eq_false_iff_ne]; omega
  clear hE hD hmm
  go_enter Try.func42, Try.ntmps42
  go_wp2_with (go_at_call 91; refine hm.mono ?_; rintro e w2 ⟨rfl, rfl⟩)
  go_ret
  exact ⟨rfl, h, Aside.refl _ _⟩

theorem write_len (D b : Nat) (d : Dev) (i : Int) (a : Option Addr) (l : List UInt8) (cap : Nat) (w : World) (h : DevAt w D b d) (hok : mayE d i = 0) (hl : l.length ≠ 64) :
    Calls Try.prog 42 #[.pointer (some ⟨D, 0, none⟩), .int .i64 i, .slice a l.length cap] w (WritePost D b d i l w) := by
  have hm := may_dev D b d i w h
  have hE : writeE d i l = 2 := by rw [writeE, if_pos hok, if_neg hl]
  have hD : writeD d i l = d := by rw [writeD, if_neg (fun e => hl e.2)]
  unfold WritePost
  rw [hE, hD]
  rw [hok] at hm
  have hl0 : ((l.length : Int) == 64) = false := by rw [beq_eq_false_iff_ne]; omega
  clear hE hD hok
  go_enter Try.func42, Try.ntmps42
  go_wp2_with (go_at_call 91; refine hm.mono ?_; rintro e w2 ⟨rfl, rfl⟩)
  go_ret
  exact ⟨rfl, h, Aside.refl _ _⟩

theorem DevAt.map {w : World} {D b : Nat} {d : Dev} (h : DevAt w D b d) : ∃ M, MapFn w b .i64 M ∧ ∀ w' (n : Nat) (l : List UInt8), l.length = 64 → MapFn w' b .i64 (updM M n (arrV l)) → w'.heap[D]? = w.heap[D]? → DevAt w' D b { d with mem := updB d.mem n l } := by
  obtain ⟨h1, ⟨M, h2, h3⟩, h4⟩ := h
  refine ⟨M, h2, fun w' n l hl h5 h6 => ⟨h6.trans h1, ⟨_, h5, fun i hi => ?_⟩, h4⟩⟩
  unfold updM updB
  by_cases e : i = n
  · subst e
    simp [hl]
  · have e2 : ¬ ((i : Int) = (n : Int)) := by omega
    simp only [if_neg e, if_neg e2]
    exact h3 i hi

theorem may_in {d : Dev} {i : Int} (h : mayE d i = 0) : ∃ n : Nat, i = (n : Int) ∧ n < d.blocks := by
  unfold mayE at h
  split at h
  · cases h
  · split at h
    · cases h
    · exact ⟨i.toNat, by omega, by omega⟩

set_option linter.unusedSimpArgs false in
set_option maxHeartbeats 2000000 in
set_option maxRecDepth 100000 in
theorem write_ok (D b : Nat) (d : Dev) (i : Int) (a : Option Addr) (l : List UInt8) (cap : Nat) (w : World) (h : DevAt w D b d) (hd : DevOk d) (hok : mayE d i = 0) (hl : l.length = 64) (hby : IsBytes w a l) (hplain : (d.set && d.writes == 0) = false) :
    Calls Try.prog 42 #[.pointer (some ⟨D, 0, none⟩), .int .i64 i, .slice a l.length cap] w (WritePost D b d i l w) := by
  have hm := may_dev D b d i w h
  have hE : writeE d i l = 0 := by rw [writeE, if_pos hok, if_pos hl, hplain]; rfl
  have hD : writeD d i l = { d with writes := d.writes - 1, mem := updB d.mem i.toNat l } := by rw [writeD, if_pos ⟨hok, hl⟩, hplain]; rfl
  obtain ⟨n, rfl, hn⟩ := may_in hok
  unfold WritePost
  rw [hE, hD, Int.toNat_natCast]
  rw [hok] at hm
  obtain ⟨hr, hlr⟩ := h.read n hn
  obtain ⟨L, hL⟩ : ∃ L, L = d.mem n := ⟨_, rfl⟩
  rw [← hL] at hr hlr
  have hdn : d.down = false := by
    unfold mayE at hok
    cases hq : d.down
    · rfl
    · rw [hq] at hok; cases hok
  have c1 := h.c1
  have Hhl := Lib.hid hl
  rw [hl]
  have Hok := Lib.hid hok
  have Hpl := Lib.hid hplain
  obtain ⟨_, _, hdw, hdw2⟩ := hd
  clear hE hD hok hl hL hplain
  have ha : ArrT (w.alloc (.cells (bvals zero64).toArray 132)) w.heap.size 132 zero64 := heap_alloc_new _ _
  go_enter Try.func42, Try.ntmps42
  go_upto_region 7 with (first
    | (go_at_call 91; refine hm.mono ?_; rintro e w2 ⟨rfl, rfl⟩)
    | (refine wpList_store_arr rfl (.tmp 8) (.tmp 28) rfl w.heap.size zero64 L rfl rfl ha rfl hlr ?_; intro w4 ha4 hg4; have hA4 : Aside [] w w4 := ((Aside.refl [] w).alloc _).put hg4 (fun k hk => .inl (by cases hk; exact Nat.le_refl _)); have h4 := h.aside hA4 (by simp) (by simp); clear hg4))
  have c2 := h4.c2
  have c4 := h4.c4
  have hb4 := hby.aside hA4 (fun _ _ _ => by simp)
  have hgD : D ≠ w.heap.size := by have := h.lt; omega
  have hgb : b ≠ w.heap.size := by have := h.ltb; omega
  obtain ⟨g, hg⟩ : ∃ g, g = w.heap.size := ⟨_, rfl⟩
  rw [← hg] at ha4 hgD hgb ⊢
  have Hg := Lib.hid hg
  clear hg hr c1 ha hm
  obtain ⟨S, W, hS⟩ : ∃ S W, S = d.set ∧ W = d.writes := ⟨_, _, rfl, rfl⟩
  obtain ⟨hS, hW⟩ := hS
  rw [← hS] at c2
  rw [← hW] at c4 hdw hdw2
  have hpl2 := Hpl.out
  rw [← hS, ← hW] at hpl2
  have HS := Lib.hid hS
  have HW := Lib.hid hW
  clear hS hW
  have hlast : ∀ W2, DevAt W2 D b { d with mem := updB d.mem n l } → Aside [D, b] w W2 → W2.cell? ⟨D, 3, none⟩ = some (.bool false) ∧ W2.cell? ⟨D, 4, none⟩ = some (.int .i64 W) ∧ W2.frozen? ⟨D, 4, none⟩ = false ∧
      DevAt (W2.setCell ⟨D, 4, none⟩ (.int .i64 (W - 1))) D b { d with writes := d.writes - 1, mem := updB d.mem n l } ∧ Aside [D, b] w (W2.setCell ⟨D, 4, none⟩ (.int .i64 (W - 1))) := by
    intro W2 h1 h2
    refine ⟨?_, ?_, h1.free 4, ?_, h2.setCell _ _ (fun _ => by simp)⟩
    · rw [← hdn]; exact h1.c3
    · rw [HW.out]; exact h1.c4
    · exact h1.stored 4 _ (by rw [HW.out]; rfl) rfl rfl
  have Hlast := Lib.hid hlast
  clear hlast
  cases S
  all_goals
    simp only [Bool.false_and, Bool.true_and] at hpl2
    go_upto_region 10 with (refine wpList_copy_arr (t := 132) rfl (.tmp 51) (.tmp 52) rfl g 0 64 64 L rfl ha4 (by omega) a 64 cap l rfl Hhl.out.symm hb4 ?_; intro w5 n5 ha5 hg5)
    have ha6 : ArrT w5 g 132 l := by
      have e : List.take 0 L ++ (List.take 64 l ++ List.drop (0 + (List.take 64 l).length) L) = l := by
        have e1 : l.take 64 = l := List.take_of_length_le (by rw [Hhl.out]; exact Nat.le_refl _)
        rw [e1, Hhl.out, List.drop_eq_nil_of_le (by omega)]
        simp
      rw [e] at ha5
      exact ha5
    have hA5 : Aside [] w w5 := hA4.put hg5 (fun k hk => .inl (by cases hk; rw [Hg.out]; exact Nat.le_refl _))
    have h5 := h.aside hA5 (by simp) (by simp)
    have c15 := h5.c1
    obtain ⟨M, hM, hup⟩ := h5.map
    clear ha5 hg5 ha4 hb4 c2 c4 h4
    have hne : Nonempty (SW (fun W => W.cell? ⟨D, 1, none⟩ = some (.map (some b)) ∧ ArrT W g 132 l)) := ⟨⟨w5, c15, ha6⟩⟩
    have p1 : ∀ x : SW (fun W => W.cell? ⟨D, 1, none⟩ = some (.map (some b)) ∧ ArrT W g 132 l), x.W.cell? ⟨D, 1, none⟩ = some (.map (some b)) := fun x => x.h.1
    simp only [Act.put, List.setIfInBounds_toArray, List.set_cons_zero, List.set_cons_succ]
    refine wp_region_seq2 (fun W => W.cell? ⟨D, 1, none⟩ = some (.map (some b)) ∧ ArrT W g 132 l) [(0, true), (1, true), (2, true), (3, true), (4, true), (5, true), (6, false)] (by kernel_rfl) (by kernel_rfl) (fun d _ _ _ _ h => by cases d <;> exact h) (⟨c15, ha6⟩) ?_
    repeat (first
      | (refine wpSeq_load_arr (.tmp 8) g l (o := ⟨_, _, _, _, _, _⟩) rfl rfl rfl rfl (fun W h => h.2) Hhl.out ?_; simp only [Act.put, List.setIfInBounds_toArray, List.set_cons_zero, List.set_cons_succ])
      | (refine wpSeq_skip (o := ⟨_, _, _, _, _, _⟩) rfl rfl ?_; simp only [Act.put, List.setIfInBounds_toArray, List.set_cons_zero, List.set_cons_succ])
      | (refine wpSeq_free (o := ⟨_, _, _, _, _, _⟩) rfl rfl (fun K hK => ?_); go_big_quiet_op; (refine hK _ ?_; clear hK K)))
    refine wpSeq_next (o := ⟨_, _, _, _, _, _⟩) rfl rfl (fun K hK => ?_)
    refine wp_update_fn (w := w5.drew) _ _ _ rfl Try.underlying128 Try.underlying3 hM n (arrV l) rfl rfl rfl ?_
    intro w6 hM6 hg6
    have hk6 : ∀ k, k < w5.heap.size → k ≠ b → w6.heap[k]? = w5.heap[k]? := fun k hk hb => hg6.block k hk (fun e => hb (by injection e))
    have hD6 := hup w6 n l Hhl.out hM6 (hk6 D h5.lt h5.ne)
    have hA6 : Aside [D, b] w w6 := (hA5.mono (fun _ h => by cases h)).drew.put hg6 (fun k hk => .inr (by injection hk with hk; simp [← hk]))
    refine hK.out _ _ (⟨(World.cell?_of_block (a := ⟨D, 1, none⟩) (hk6 D h5.lt h5.ne)).trans c15, (hk6 g (lt_of_block ha6) (fun e => hgb e.symm)).trans ha6⟩) ?_
    clear hK K
    repeat (first
      | (refine wpSeq_load_arr (.tmp 8) g l (o := ⟨_, _, _, _, _, _⟩) rfl rfl rfl rfl (fun W h => h.2) Hhl.out ?_; simp only [Act.put, List.setIfInBounds_toArray, List.set_cons_zero, List.set_cons_succ])
      | (refine wpSeq_skip (o := ⟨_, _, _, _, _, _⟩) rfl rfl ?_; simp only [Act.put, List.setIfInBounds_toArray, List.set_cons_zero, List.set_cons_succ])
      | (refine wpSeq_free (o := ⟨_, _, _, _, _, _⟩) rfl rfl (fun K hK => ?_); go_big_quiet_op; (refine hK _ ?_; clear hK K)))
    refine wpSeq_nil ?_
    obtain ⟨l1, l2, l3, l4, l5⟩ := Hlast.out w6 hD6 hA6
    go_wp2
    go_ret
    exact ⟨rfl, l4, l5⟩

end Go.Proofs.Ytdlbjllgdikadaa
