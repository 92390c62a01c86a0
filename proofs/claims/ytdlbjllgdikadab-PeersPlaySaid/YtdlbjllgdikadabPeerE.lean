/- Rounds of peers: Tick. -/
import Derived.Test.YtdlbjllgdikadabPeerD
import Derived.Deep.OwnRows
namespace Go.Proofs.Ytdlbjllgdikadab
open Go.RowKit
set_option linter.unusedVariables false

def byCells (f : Nat → St) : Array Value := Array.ofFn (n := 64) fun q => stCell (f (q.val / 4)) (q.val % 4)
theorem byCells_length (f : Nat → St) : (byCells f).toList.length = 64 := by simp [byCells]
theorem index55 (f : Nat → St) (i : Nat) (hi : i < 16) (w : World) : (Instr.index 55 (.agg (byCells f)) (.int .i64 (i : Int))).run Try.prog w = .ok (stAgg (f i)) w := by
  obtain rfl | rfl | rfl | rfl | rfl | rfl | rfl | rfl | rfl | rfl | rfl | rfl | rfl | rfl | rfl | rfl : i = 0 ∨ i = 1 ∨ i = 2 ∨ i = 3 ∨ i = 4 ∨ i = 5 ∨ i = 6 ∨ i = 7 ∨ i = 8 ∨ i = 9 ∨ i = 10 ∨ i = 11 ∨ i = 12 ∨ i = 13 ∨ i = 14 ∨ i = 15 := by omega
  all_goals kernel_rfl
theorem RdAt.byAll {w : World} {g : Nat} {d : Rd} (h : RdAt w g d) : ∀ j v, (byCells d.by_).toList[j]? = some v → w.cell? ((⟨g, 4, none⟩ : Addr).add j) = some v := by
  intro j v hv
  rw [Addr.add_lit]
  have hj : j < 64 := by
    have := (List.getElem?_eq_some_iff.1 hv).1
    rwa [byCells_length] at this
  rw [h.cell (4 + j) (by omega), show 4 + j = j + 4 by omega]
  show some (stCell (d.by_ (j / 4)) (j % 4)) = some v
  rw [Array.getElem?_toList] at hv
  simpa [byCells, hj] using hv

/-- A slice of whole numbers that the call made. -/
def nvals (l : List Nat) : List Value := l.map fun (i : Nat) => Value.int .i64 (i : Int)
def OwnN (w : World) (base : Nat) (v : Value) (l : List Nat) : Prop := w.ownsRow base 3 1 v l.length (nvals l)
theorem OwnN.nil (w : World) (base : Nat) : OwnN w base (.slice none 0 0) [] := World.ownsRow_nil w base 3 1
theorem OwnN.later {w w' : World} {base : Nat} {v : Value} {l : List Nat} (h : OwnN w base v l) (hb : Below w.heap.size w w') : OwnN w' base v l := by
  refine ⟨h.1, ?_⟩
  rcases h.2 with hn | ⟨g, cap, cur, rfl, hbg, hg, rest⟩
  · exact .inl hn
  · exact .inr ⟨g, cap, cur, rfl, hbg, (hb.block g (Array.getElem?_eq_some_iff.1 hg).1).trans hg, rest⟩
theorem OwnN.aside {T : List Nat} {w w' : World} {base : Nat} {v : Value} {l : List Nat} (h : OwnN w base v l) (k : Aside T w w') (hT : ∀ x, x ∈ T → x < base) : OwnN w' base v l := by
  refine ⟨h.1, ?_⟩
  rcases h.2 with hn | ⟨g, cap, cur, rfl, hbg, hg, rest⟩
  · exact .inl hn
  · exact .inr ⟨g, cap, cur, rfl, hbg, (k.block g (Array.getElem?_eq_some_iff.1 hg).1 (fun e => absurd (hT g e) (by omega))).trans hg, rest⟩
theorem info3 : (Try.prog.info? 3).map (fun i => (i.zero, i.size, i.bytes)) = some (some (.int .i64 0), 1, 8) := by kernel_rfl

/-- 'append(v, i)'. -/
theorem wpList_append_int {w : World} {ops : Array Oper} {rest : List Oper} {o : Oper} {a : Act} {Q : Exit → Act → World → Prop} (hgd : o.guard = none) (s x : Operand)
    (ho : o.op = .call { callee := .builtin .append, args := #[s, x], argTypes := #[29, 29] })
    (base : Nat) (v : Value) (l : List Nat) (hs : a.eval s = v) (hown : OwnN w base v l)
    (i g n : Nat) (hx : a.eval x = .slice (some ⟨g, 0, none⟩) n n) (hn : n = 1) (hc : w.cell? ⟨g, 0, none⟩ = some (.int .i64 (i : Int)))
    (hlen : l.length ≤ 1099511627776) (hbase : base ≤ w.heap.size)
    (h : ∀ v' w', OwnN w' base v' (l ++ [i]) → w.grownBy w' v.ownBlock → wpList Try.prog ops Q rest (a.put o.dst v') w') : wpList Try.prog ops Q (o :: rest) a w := by
  obtain ⟨i0, hi, hz0, hz1, hz2⟩ := info_parts info3
  subst hn
  refine wpList_append_own w hgd s x 29 ho base 3 i0 (.int .i64 0) 1 8 Try.underlying29 hi hz0 hz1 hz2 rfl (by decide) v l.length (nvals l) hs hown ⟨g, 0, none⟩ 1 1 [.int .i64 (i : Int)] hx rfl
    (fun j u hu => ?_) (fun u hu => by simp at hu; rw [hu]; rfl) (by unfold maxLen; omega) (by omega) hbase ?_
  · match j with
    | 0 => 
      simp at hu
      rw [Addr.add_lit, ← hu]
      exact hc
    | j + 1 => simp at hu
  · intro v' w' k1 k2 _
    exact h v' w' (by unfold OwnN; simpa [nvals] using k1) k2

/-- The copy of how all stand is loaded. -/
theorem wpList_load_by {w : World} {ops : Array Oper} {rest : List Oper} {o : Oper} {a : Act} {Q : Exit → Act → World → Prop} (hgd : o.guard = none) (x : Operand) (ho : o.op = .load 55 x)
    (g : Nat) (hx : a.eval x = .pointer (some ⟨g, 4, none⟩)) (d : Rd) (hg : RdAt w g d)
    (h : wpList Try.prog ops Q rest (a.put o.dst (.agg (byCells d.by_))) w) : wpList Try.prog ops Q (o :: rest) a w :=
  wpList_load_at hgd 55 x ho ⟨g, 4, none⟩ hx (byCells d.by_).toList _ hg.byAll Try.underlying55 rfl (by rw [info55, byCells_length]) (by rw [Array.toArray_toList]; exact h)

theorem tickTo_now (d : Rd) (m : Nat) : (tickTo d m).now = d.now + 1 := rfl

set_option maxRecDepth 100000 in
set_option maxHeartbeats 2000000 in
theorem tick_rd (g : Nat) (d : Rd) (c : Nat) (w : World) (h : RdAt w g d) (hok : RdOk c d) (hc : c ≤ 549755813888) :
    Calls Try.prog 10 #[.pointer (some ⟨g, 0, none⟩)] w fun e w' => ∃ v, e = .returned v ∧ OwnN w' w.heap.size v (tickUp d 16) ∧ RdAt w' g (tickTo d 16) ∧ Aside [g] w w' := by
  have hno := none_rd g d w h hok.n2
  have c3 := h.c3
  have f3 := h.free 3
  have hnow := hok.now
  have k1 := h.stored4 (d' := { d with now := d.now + 1 }) 3 (.int .u64 ((d.now : Int) + 1)) (by decide) rfl (fun k hk hn => by
    match k with
    | 0 => rfl
    | 1 => rfl
    | 2 => rfl
    | 3 => exact absurd rfl hn
    | n + 4 => omega) rfl
  have K1 := Lib.hid k1
  clear k1
  go_enter Try.func10, Try.ntmps10
  go_wp2_with (first
    | (go_at_call 21; refine hno.mono ?_; rintro e w2 ⟨rfl, rfl⟩)
    | (refine wpList_load_by rfl (.tmp 16) rfl g rfl { d with now := d.now + 1 } K1.out ?_))
  have hB1 : Aside [g] w (w.setCell ⟨g, 3, none⟩ (.int .u64 ((d.now : Int) + 1))) := (Aside.refl _ _).setCell _ _ (fun _ => by simp)
  have k2 := K1.out
  rw [← tickTo_zero] at k2
  have hgl := h.lt
  clear K1 h hno c3 f3
  go_loopw [2, 18] (fun out st wr => ∃ m : Nat, m ≤ 16 ∧ st = .int .i64 (m : Int) ∧ OwnN wr w.heap.size out (tickUp d m) ∧ RdAt wr g (tickTo d m) ∧ Aside [g] w wr) (fun _ st _ => 16 - (intOf st).toNat)
  case atStart => exact ⟨0, Nat.zero_le _, rfl, OwnN.nil _ _, k2, hB1⟩
  case round =>
    clear k2 hB1
    obtain ⟨m, hm, rfl, hO, hR, hA⟩ := hrel
    by_cases hlt : m < 16
    · have hix := index55 d.by_ m hlt
      have hsn := hok.since m
      have hfl := hok.fails m
      have hout := hok.out m
      have hby := tickTo_by d m
      have htok := tickTo_ok hok m
      have hyes := tickTo_yes d m
      have hno := tickTo_no d m
      have huy := tickUp_yes d m
      have hun := tickUp_no d m
      obtain ⟨s, hs⟩ : ∃ s, s = d.by_ m := ⟨_, rfl⟩
      rw [← hs] at hix hsn hfl hout hyes hno huy hun
      have hlen := tickUp_len d m
      have c3 := hR.c3
      rw [tickTo_now] at c3
      have c3' : wr.cell? ⟨g, 3, none⟩ = some (.int .u64 ((d.now : Int) + 1)) := c3
      have H := Lib.hid (And.intro hyes (And.intro hno (And.intro huy (And.intro hun hby))))
      clear hyes hno huy hun hby hs c3
      obtain ⟨su, sf, sb, ss⟩ := s
      simp only [stAgg] at hix
      cases sb with
      | false =>
        have hl : late (d.now + 1) ⟨su, sf, false, ss⟩ = false := rfl
        have HL := Lib.hid hl
        clear hl hout hlen htok
        go_upto_region 7 with (first
          | (refine wpList_store_st rfl (.tmp 4) (.tmp 21) rfl wr.heap.size St.none ⟨su, sf, false, ss⟩ rfl rfl (StAt.made wr) ?_; intro w4 hs4 hg4))
        have hB4 := ((Below.refl _ wr).alloc (Nat.le_refl _) (.cells #[.int .u64 0, .int .i64 0, .bool false, .int .u64 0] 50)).grown hg4 (by simp) (fun k hk => by cases hk; exact Nat.le_refl _)
        have q2 := hs4.c2
        have q3 := hs4.c3
        have hR4 := hR.later hB4
        have hne : Nonempty (SW (fun W => W.cell? ⟨wr.heap.size, 2, none⟩ = some (.bool false))) := ⟨⟨w4, q2⟩⟩
        have t2 : ∀ x : SW (fun W => W.cell? ⟨wr.heap.size, 2, none⟩ = some (.bool false)), x.W.cell? ⟨wr.heap.size, 2, none⟩ = some (.bool false) := fun x => x.h
        simp only [Act.put]
        refine wp_region_seq2 (fun W => W.cell? ⟨wr.heap.size, 2, none⟩ = some (.bool false)) [(0, true), (1, true), (2, true), (3, true), (4, true), (5, true), (6, true), (7, true), (8, true), (9, true), (10, true), (11, true)] (by kernel_rfl) (by kernel_rfl) (fun d _ _ _ _ h => by cases d <;> exact h) (q2) ?_
        repeat (first
          | ((with_reducible refine wpSeq_skip (o := ⟨_, _, _, _, _, _⟩) (by with_unfolding_all exact rfl) (by with_unfolding_all exact rfl) ?_); simp only [Act.put, List.setIfInBounds_toArray, List.set_cons_zero, List.set_cons_succ])
          | ((with_reducible refine wpSeq_free (o := ⟨_, _, _, _, _, _⟩) (by with_unfolding_all exact rfl) (by with_unfolding_all exact rfl) (fun K hK => ?_)); go_big_quiet_op; (refine hK _ ?_; clear hK K)))
        refine wpSeq_nil ?_
        go_wp2
        go_roundw
        case rel => 
          obtain ⟨_, h1, _, h2, _⟩ := H.out
          exact ⟨m + 1, by omega, by go_num, by rw [h2 HL.out]; exact hO.later (below_drewN hB4 1), by rw [h1 HL.out]; exact hR4, (hA.trans (Aside.below _ hB4)).drewN 1⟩
        case measure => simp [intOf]; omega
      | true =>
        have hmn : m < d.n := by
          by_cases e : d.n ≤ m
          · have := hout e
            cases this
          · omega
        have hwr : IntKind.u64.wrap ((d.now : Int) + 1 - (ss : Int)) = (d.now : Int) + 1 - (ss : Int) := by
          have : ss ≤ d.now := hsn
          rw [IntKind.wrap_u64]; omega
        by_cases hlate : ss + 16 ≤ d.now + 1
        · have hl : late (d.now + 1) ⟨su, sf, true, ss⟩ = true := by simp [late, hlate]
          have HL := Lib.hid hl
          have hcmp : (16 : Int) ≤ (d.now : Int) + 1 - (ss : Int) := by omega
          clear hl
          go_upto_region 7 with (first
            | (refine wpList_store_st rfl (.tmp 4) (.tmp 21) rfl wr.heap.size St.none ⟨su, sf, true, ss⟩ rfl rfl (StAt.made wr) ?_; intro w4 hs4 hg4))
          have hB4 := ((Below.refl _ wr).alloc (Nat.le_refl _) (.cells #[.int .u64 0, .int .i64 0, .bool false, .int .u64 0] 50)).grown hg4 (by simp) (fun k hk => by cases hk; exact Nat.le_refl _)
          have q2 := hs4.c2
          have q3 := hs4.c3
          have hR4 := hR.later hB4
          have c34' := hR4.c3
          rw [tickTo_now] at c34'
          have c34 : w4.cell? ⟨g, 3, none⟩ = some (.int .u64 ((d.now : Int) + 1)) := c34'
          clear c34'
          go_quiet (fail)
          refine over_world (R := fun W => RdAt W g (tickTo d m) ∧ Below wr.heap.size wr W) ⟨hR4, below_drewN hB4 nq⟩ ?_
          clear hs4 hg4 hB4 q2 q3 hR4 c34
          rintro w4 ⟨hR4, hB4⟩
          have hend := end_rd g (tickTo d m) m false (c + 1) w4 hR4 htok (by omega) hmn
          have hO4 := hO.later hB4
          have hown5 : ∀ w5, w4.grownBy w5 (some g) → OwnN (w5.alloc (.cells #[.int .i64 (m : Int)] 3)) w.heap.size u2 (tickUp d m) ∧ (w5.alloc (.cells #[.int .i64 (m : Int)] 3)).cell? ⟨w5.heap.size, 0, none⟩ = some (.int .i64 (m : Int)) ∧ w.heap.size ≤ (w5.alloc (.cells #[.int .i64 (m : Int)] 3)).heap.size := fun w5 hg5 => by
            refine ⟨(hO4.aside (Aside.grown (T := [g]) hg5 (fun k hk _ => by injection hk with hk; simp [hk])) (fun x hx => by simp at hx; omega)).later ((Below.refl _ _).alloc (Nat.le_refl _) _), by rw [World.cell?_alloc_new]; rfl, ?_⟩
            have := hA.size; have := hB4.size; have := hg5.size
            rw [World.size_alloc]; omega
          have Own5' := Lib.hid hown5
          clear hown5
          obtain ⟨E, hE⟩ : ∃ E, E = endD (tickTo d m) m false := ⟨_, rfl⟩
          rw [← hE] at hend
          have HE := Lib.hid hE
          clear hE
          go_wp2_with (first
            | (go_at_call 24; (with_reducible refine hend.mono ?_); rintro e w5 ⟨rfl, hR5, hg5⟩; obtain ⟨hO5, hc5, hsz5⟩ := Own5'.out w5 hg5)
            | (at_builtin; refine wpList_append_int rfl (.tmp 37) (.tmp 39) rfl w.heap.size u2 (tickUp d m) rfl hO5 m w5.heap.size 1 rfl rfl hc5 (by omega) hsz5 ?_; intro v6 w6 hO6 hg6))
          go_roundw
          case rel =>
            obtain ⟨h1, _, h2, _, _⟩ := H.out
            have hblk : ∀ k, u2.ownBlock = some k → w.heap.size ≤ k := fun k hk => (World.ownsRow.lt hO4 k hk).1
            have hR5' := hR5.later ((Below.refl _ w5).alloc (Nat.le_refl _) (.cells #[.int .i64 (m : Int)] 3))
            have hR6 : RdAt w6 g E := hR5'.kept hg6 (fun e => by have := hblk g e.symm; omega)
            have hA5 : Aside [g] w (w5.alloc (.cells #[.int .i64 (m : Int)] 3)) := (((hA.trans (Aside.below _ hB4)).put hg5 (fun k hk => .inr (by injection hk with hk; simp [hk])))).alloc _
            refine ⟨m + 1, by omega, by go_num, by rw [h2 HL.out]; exact hO6, by rw [h1 HL.out, ← HE.out]; exact hR6, hA5.put hg6 (fun k hk => .inl (hblk k hk))⟩
          case measure => simp [intOf]; omega
        · have hl : late (d.now + 1) ⟨su, sf, true, ss⟩ = false := by simp [late, hlate]
          have HL := Lib.hid hl
          have hcmp : ¬ (16 : Int) ≤ (d.now : Int) + 1 - (ss : Int) := by omega
          clear hl
          go_upto_region 7 with (first
            | (refine wpList_store_st rfl (.tmp 4) (.tmp 21) rfl wr.heap.size St.none ⟨su, sf, true, ss⟩ rfl rfl (StAt.made wr) ?_; intro w4 hs4 hg4))
          have hB4 := ((Below.refl _ wr).alloc (Nat.le_refl _) (.cells #[.int .u64 0, .int .i64 0, .bool false, .int .u64 0] 50)).grown hg4 (by simp) (fun k hk => by cases hk; exact Nat.le_refl _)
          have q2 := hs4.c2
          have q3 := hs4.c3
          have hR4 := hR.later hB4
          have c34' := hR4.c3
          rw [tickTo_now] at c34'
          have c34 : w4.cell? ⟨g, 3, none⟩ = some (.int .u64 ((d.now : Int) + 1)) := c34'
          clear c34'
          go_quiet (fail)
          go_wp2
          go_roundw
          case rel => 
            obtain ⟨_, h1, _, h2, _⟩ := H.out
            exact ⟨m + 1, by omega, by go_num, by rw [h2 HL.out]; exact hO.later (below_drewN hB4 nq), by rw [h1 HL.out]; exact hR4, (hA.trans (Aside.below _ hB4)).drewN _⟩
          case measure => simp [intOf]; omega
    · obtain rfl : m = 16 := by omega
      go_wp2
      go_ret
      exact ⟨_, rfl, hO, hR, hA⟩
end Go.Proofs.Ytdlbjllgdikadab
