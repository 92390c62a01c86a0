/- scan, the document's: Records. -/
import Derived.Test.YtdlbjllgdikadaaScnA
import Derived.Test.YtdlbjllgdikadaaScnB
namespace Go.Proofs.Ytdlbjllgdikadaa
open Go.RowKit
set_option linter.unusedVariables false
set_option linter.unusedSimpArgs false

/-- A record is written whole. -/
theorem wpList_load_rec {w : World} {ops : Array Oper} {rest : List Oper} {o : Oper} {ac : Act} {Q : Exit → Act → World → Prop} (hgd : o.guard = none) (x : Operand) (ho : o.op = .load 91 x)
    (H : Nat) (b : Rc) (a : Option Addr) (cap : Nat) (hx : ac.eval x = .pointer (some ⟨H, 0, none⟩)) (hb : RecAt w H b a cap)
    (h : wpList Try.prog ops Q rest (ac.put o.dst (.agg (b.cells a cap))) w) : wpList Try.prog ops Q (o :: rest) ac w :=
  wpList_load_row hgd 91 x ho H hx 91 _ (0, 0) _ hb Try.underlying91 rfl info91s h

theorem wp_append_bytes {w : World} {o : Oper} {a : Act} {K : Act → World → Prop} {Q : Exit → Act → World → Prop} (s x : Operand)
    (ho : o.op = .call { callee := .builtin .append, args := #[s, x], argTypes := #[22, 22] })
    (base : Nat) (v : Value) (l : List UInt8) (hs : a.eval s = v) (hown : OwnB w base v l)
    (ao : Option Addr) (m c : Nat) (src : List UInt8) (hx : a.eval x = .slice ao m c) (hm : m = src.length) (hnone : ao = none → m = 0 ∧ c = 0) (hsrc : IsBytes w ao src)
    (hlen : l.length + src.length ≤ 140737488355328) (hbase : base ≤ w.heap.size)
    (h : ∀ v' w', OwnB w' base v' (l ++ src) → w.grownBy w' v.ownBlock → K (a.put o.dst v') w') : o.wp Try.prog a w K Q := by
  obtain ⟨i0, hi, hz0, hz1, hz2⟩ := info_parts info5
  cases ao with
  | none =>
    obtain ⟨hm0, hc0⟩ := hnone rfl
    have hs0 : src = [] := List.length_eq_zero_iff.1 (by omega)
    subst hs0
    subst hc0
    subst hm0
    have hrun := run_append_owned_none (P := Try.prog) (w := w) base 22 o.type 5 i0 1 Try.underlying22 hi v l.length (bvals l) hown
    unfold Oper.wp
    simp [execOp, ho, resolve, invoke, builtin, hs, hx, hrun, Result.andThen]
    exact h v w (by simpa using hown) ⟨rfl, rfl, rfl, Nat.le_refl _, fun _ _ _ => rfl⟩
  | some ad =>
    subst hm
    refine wp_append_own w s x 22 ho base 5 i0 (.int .u8 0) 1 1 Try.underlying22 hi hz0 hz1 hz2 rfl (by decide) v l.length (bvals l) hs hown ad src.length c (bvals src) hx (by rw [bvals_length]; omega)
      hsrc.cells (bvals_one src) (by unfold maxLen; omega) (by omega) hbase ?_
    intro v' w' h1 h2 _
    exact h v' w' (by unfold OwnB; simpa [bvals] using h1) h2
/-- 'append(v, x)', a record. -/
theorem wpList_append_recT {w : World} {ops : Array Oper} {rest : List Oper} {o : Oper} {a : Act} {Q : Exit → Act → World → Prop} (hgd : o.guard = none) (s x : Operand)
    (ho : o.op = .call { callee := .builtin .append, args := #[s, x], argTypes := #[83, 83] })
    (base : Nat) (v : Value) (l : List Rc) (hs : a.eval s = v) (hown : OwnRs w base v l)
    (b : Rc) (ab : Option Addr) (cap g n : Nat) (hx : a.eval x = .slice (some ⟨g, 0, none⟩) n n) (hn : n = 1) (hcells : ∀ j u, (b.cells ab cap)[j]? = some u → w.cell? ⟨g, j, none⟩ = some u)
    (hbody : OwnB w base (.slice ab b.body.length cap) b.body) (hlen : l.length ≤ 1099511627776) (hbase : base ≤ w.heap.size)
    (h : ∀ v' w', OwnRs w' base v' (l ++ [b]) → w.grownBy w' v.ownBlock → wpList Try.prog ops Q rest (a.put o.dst v') w') : wpList Try.prog ops Q (o :: rest) a w :=
  wpList_append_rec hgd s x ho base v l hs hown b ab cap g n hx hn hcells hbody hlen hbase h

theorem cell_recT (w : World) (b : Rc) (a : Option Addr) (cap : Nat) (j : Nat) (u : Value) (h : (b.cells a cap)[j]? = some u) : (w.alloc (.cells #[.int .u8 (b.kind.toNat : Int), .int .u64 (b.from_ : Int), .slice a b.body.length cap] 91)).cell? ⟨w.heap.size, j, none⟩ = some u := by
  rw [World.cell?_alloc_new]; exact h
theorem refRecs_at (L : List Blk) (i : Nat) (hi : i < L.length) : refRecs (L.drop i) = (if L[i].first then (match recAt L[i] (L.drop (i + 1)) with | some b => [⟨L[i].kind, L[i].serial, b⟩] | none => []) else []) ++ refRecs (L.drop (i + 1)) := by
  rw [List.drop_eq_getElem_cons hi]; rfl

set_option maxRecDepth 100000 in
set_option maxHeartbeats 8000000 in
theorem refrecords_calls (L : List Blk) (a1 : Option Addr) (c1 : Nat) (w : World) (h1 : IsBs w a1 L) (hbody : ∀ x ∈ L, x.body.length ≤ 100) (hl1 : L.length ≤ 1099511627777) :
    Calls Try.prog 62 #[.slice a1 L.length c1] w fun e w' => ∃ v, e = .returned v ∧ OwnRs w' w.heap.size v (refRecs L) ∧ Below w.heap.size w w' := by
  have hend := Lib.hid (show ∀ s, s < L.length → ∀ W, Below w.heap.size w W → Calls Try.prog 95 #[.slice a1 L.length c1, .int .i64 (s : Int)] W fun e w' => e = .returned (.int .i64 (endOf L s)) ∧ Below W.heap.size W w' from fun s hs W hW => end_calls L s a1 c1 W (h1.later hW) hs hl1)
  go_enter Try.func62, Try.ntmps62
  go_wp2
  go_loopw [3, 4] (fun ov iv wr => ∃ (i : Nat) (out : List Rc), i ≤ L.length ∧ iv = .int .i64 (i : Int) ∧ OwnRs wr w.heap.size ov out ∧ refRecs L = out ++ refRecs (L.drop i) ∧ out.length ≤ i ∧ Below w.heap.size w wr) (fun _ iv _ => L.length - (intOf iv).toNat)
  case atStart => exact ⟨0, [], Nat.zero_le _, rfl, OwnRs.nil _ _, rfl, Nat.le_refl _, Below.refl _ _⟩
  case round =>
    obtain ⟨i, out, hi, rfl, hO, hgo, hol, hbel⟩ := hrel
    by_cases hlt : i < L.length
    · have hsz := hbel.size
      have hend2 := Lib.hid (hend.out i hlt wr hbel)
      have hrec := endOf_rec L i hlt
      rw [refRecs_at L i hlt] at hgo
      obtain ⟨B, b1, o1, ab1, cb1, hB, ha, p0, p1, p2, p3, p4, hby1, _, _⟩ := h1.cellsAt i hlt
      have hBe : L[i] = B := by rw [List.getElem?_eq_getElem hlt] at hB; exact Option.some.inj hB
      rw [hBe] at hgo hrec
      have hiI : (i : Int) < (L.length : Int) := by omega
      have hp2 : wr.cell? ⟨b1, o1 + i * 5 + 2, none⟩ = some (.bool B.first) := p2 ⟨wr, hbel⟩
      cases hf : B.first
      · rw [hf] at hp2
        rw [hf] at hgo
        simp only [Bool.false_eq_true, if_false, List.nil_append] at hgo
        have Hgo := Lib.hid hgo
        have HH := Lib.hid hrec
        obtain ⟨E, hE⟩ : ∃ E, E = endOf L i := ⟨_, rfl⟩
        rw [← hE] at hend2
        clear hgo hrec hBe hB hf hE
        subst ha
        go_wp2_with (go_at_call 95; refine hend2.out.mono ?_; rintro e w2 ⟨rfl, hB2⟩; have hp3 := (hB2.cell (p := ⟨b1, o1 + i * 5 + 2, none⟩) (World.block_lt_of_cell? wr _ hp2)).trans hp2)
        go_roundw
        case rel => exact ⟨i + 1, out, by omega, by go_num, hO.later hB2, Hgo.out, by omega, below_call hbel (Nat.le_refl _) hB2⟩
        case measure => simp [intOf]; omega
      · rw [hf] at hp2
        rcases hrec with ⟨hm, hr⟩ | ⟨m, hm, hme, hr⟩
        · rw [hf, hr] at hgo
          simp only [if_true, List.nil_append] at hgo
          have Hgo := Lib.hid hgo
          rw [hm] at hend2
          clear hgo hm hr hBe hB hf
          subst ha
          go_wp2_with (go_at_call 95; refine hend2.out.mono ?_; rintro e w2 ⟨rfl, hB2⟩; have hp3 := (hB2.cell (p := ⟨b1, o1 + i * 5 + 2, none⟩) (World.block_lt_of_cell? wr _ hp2)).trans hp2)
          go_roundw
          case rel => exact ⟨i + 1, out, by omega, by go_num, hO.later hB2, Hgo.out, by omega, below_call hbel (Nat.le_refl _) hB2⟩
          case measure => simp [intOf]; omega
        · rw [hf, hr] at hgo
          simp only [if_true] at hgo
          obtain ⟨k, hk⟩ : ∃ k, k = i + m := ⟨_, rfl⟩
          rw [← hk] at hme
          rw [hme] at hend2
          have Hgo := Lib.hid hgo
          have HK := Lib.hid (And.intro hk hm)
          have hkL : k < L.length := by omega
          have hki : i ≤ k := by omega
          clear hgo hm hme hr hBe hB hf hk
          subst ha
          go_upto_region 7 with (go_at_call 95; refine hend2.out.mono ?_; rintro e w2 ⟨rfl, hB2⟩; have hp3 := (hB2.cell (p := ⟨b1, o1 + i * 5 + 2, none⟩) (World.block_lt_of_cell? wr _ hp2)).trans hp2)
          have hbel2 := below_call hbel (Nat.le_refl _) hB2
          have hO2 := hO.later hB2
          have g0 : w2.cell? ⟨b1, o1 + i * 5, none⟩ = some (.int .u64 (B.serial : Int)) := p0 ⟨w2, hbel2⟩
          have g1 : w2.cell? ⟨b1, o1 + i * 5 + 1, none⟩ = some (.int .u8 (B.kind.toNat : Int)) := p1 ⟨w2, hbel2⟩
          have g2 : (w2.alloc (.cells #[.int .u8 0, .int .u64 0, .slice none 0 0] 91)).cell? ⟨b1, o1 + i * 5, none⟩ = some (.int .u64 (B.serial : Int)) := p0 ⟨_, hbel2.alloc (by have := hB2.size; omega) _⟩
          have g3 : (w2.alloc (.cells #[.int .u8 0, .int .u64 0, .slice none 0 0] 91)).cell? ⟨b1, o1 + i * 5 + 1, none⟩ = some (.int .u8 (B.kind.toNat : Int)) := p1 ⟨_, hbel2.alloc (by have := hB2.size; omega) _⟩
          go_region
          have hH2 := hB2.size
          obtain ⟨H, hH⟩ : ∃ H, H = w2.heap.size := ⟨_, rfl⟩
          have hr0 : RecAt ((w2.alloc (.cells #[.int .u8 (B.kind.toNat : Int), .int .u64 (B.serial : Int), .slice none 0 0] 91)).drew) H ⟨B.kind, B.serial, []⟩ none 0 := by rw [hH]; exact heap_alloc_new _ _
          rw [← hH]
          refine over_world (R := fun W => RecAt W H ⟨B.kind, B.serial, []⟩ none 0 ∧ Below H w2 W) ⟨hr0, by rw [hH]; exact ((Below.refl _ w2).alloc (Nat.le_refl _) _).drew⟩ ?_
          clear hr0 g0 g1 g2 g3 hp2 hp3
          rintro W0 ⟨hr0, hb0⟩
          have HH := Lib.hid hH
          clear hH
          have hkI : (k : Int) < (L.length : Int) := by omega
          go_wp2
          go_loopw [7] (fun jv wq => ∃ (j : Nat) (a6 : Option Addr) (c6 : Nat), i ≤ j ∧ j ≤ k + 1 ∧ jv = .int .i64 (j : Int) ∧ RecAt wq H ⟨B.kind, B.serial, bodies ((L.drop i).take (j - i))⟩ a6 c6 ∧ OwnB wq (H + 1) (.slice a6 (bodies ((L.drop i).take (j - i))).length c6) (bodies ((L.drop i).take (j - i))) ∧ Below H w2 wq) (fun jv _ => k + 1 - (intOf jv).toNat)
          case atStart => exact ⟨i, none, 0, Nat.le_refl _, by omega, rfl, by rw [Nat.sub_self]; exact hr0, by rw [Nat.sub_self]; exact OwnB.nil _ _, hb0⟩
          case round =>
            clear hr0 hb0
            obtain ⟨j, a6, c6, hij, hjk, rfl, hr, hob, hb⟩ := hrel
            have hHq : H < wr.heap.size := lt_of_block hr
            by_cases hj : j ≤ k
            ·
              have hjL : j < L.length := by omega
              obtain ⟨C, b2, o2, ab2, cb2, hC, hab, q0, q1, q2, q3, q4, hby2, hle2, hno2⟩ := h1.cellsAt j hjL
              cases hab
              have hCm : C ∈ L := List.mem_of_getElem? hC
              have hC100 := hbody C hCm
              have htk : bodies ((L.drop i).take (j + 1 - i)) = bodies ((L.drop i).take (j - i)) ++ C.body := by
                rw [show j + 1 - i = (j - i) + 1 by omega, List.take_add_one, List.getElem?_drop, show i + (j - i) = j by omega, hC, bodies_append]
                simp [bodies]
              have hPl := bodies_len ((L.drop i).take (j - i)) (fun x hx => hbody x (List.mem_of_mem_drop (List.mem_of_mem_take hx)))
              rw [List.length_take, List.length_drop] at hPl
              obtain ⟨P, hP⟩ : ∃ P, P = bodies ((L.drop i).take (j - i)) := ⟨_, rfl⟩
              rw [← hP] at hr hob htk hPl
              have HTK := Lib.hid htk
              clear htk hP hC hCm
              have hjI : (j : Int) < (L.length : Int) := by omega
              have hjK : (j : Int) ≤ (k : Int) := by omega
              have hPlen : P.length + C.body.length ≤ 140737488355328 := by omega
              clear hPl
              have hbw : Below w.heap.size w wr := below_call hbel2 (Nat.le_refl _) (by rw [← HH.out]; exact hb)
              have hne : Nonempty (SW (fun W => Below w.heap.size w W)) := ⟨⟨w, Below.refl _ _⟩⟩
              have hrd : RecAt wr.drew H ⟨B.kind, B.serial, P⟩ a6 c6 := hr
              have hobd : OwnB wr.drew (H + 1) (.slice a6 P.length c6) P := hob
              have c2 : wr.drew.cell? ⟨H, 2, none⟩ = some (.slice a6 P.length c6) := hrd.cell 2 _ rfl
              have hno2' : ab2 = none → C.body.length = 0 ∧ cb2 = 0 := fun e => by obtain ⟨e1, e2⟩ := hno2 e; exact ⟨by rw [e1]; rfl, e2⟩
              have hbyd := hby2.later hbw.drew
              have hbd : Below H w2 wr.drew := hb.drew
              clear hr hob hb hby2 hno2
              go_wp2
              refine wp_region_seq2 (fun W => Below w.heap.size w W) [(2, true), (3, true), (4, true), (5, true), (6, true), (0, true), (1, false), (7, false), (8, true), (9, false)] (by kernel_rfl) (by kernel_rfl) (fun d _ _ _ _ h => by cases d <;> exact h) (hbw.drew) ?_
              repeat (first
                | ((with_reducible refine wpSeq_skip (o := ⟨_, _, _, _, _, _⟩) (by with_unfolding_all exact rfl) (by with_unfolding_all exact rfl) ?_); simp only [Act.put, List.setIfInBounds_toArray, List.set_cons_zero, List.set_cons_succ])
                | ((with_reducible refine wpSeq_free (o := ⟨_, _, _, _, _, _⟩) (by with_unfolding_all exact rfl) (by with_unfolding_all exact rfl) (fun K hK => ?_)); go_big_quiet_op; (refine hK _ ?_; clear hK K)))
              with_reducible refine wpSeq_next (o := ⟨_, _, _, _, _, _⟩) (by with_unfolding_all exact rfl) (by with_unfolding_all exact rfl) (fun K hK => ?_)
              go_simp
              refine hK.out _ _ (hbw.drew) ?_
              clear hK K
              repeat (first
                | ((with_reducible refine wpSeq_skip (o := ⟨_, _, _, _, _, _⟩) (by with_unfolding_all exact rfl) (by with_unfolding_all exact rfl) ?_); simp only [Act.put, List.setIfInBounds_toArray, List.set_cons_zero, List.set_cons_succ])
                | ((with_reducible refine wpSeq_free (o := ⟨_, _, _, _, _, _⟩) (by with_unfolding_all exact rfl) (by with_unfolding_all exact rfl) (fun K hK => ?_)); go_big_quiet_op; (refine hK _ ?_; clear hK K)))
              with_reducible refine wpSeq_next (o := ⟨_, _, _, _, _, _⟩) (by with_unfolding_all exact rfl) (by with_unfolding_all exact rfl) (fun K hK => ?_)
              refine wp_append_bytes (.tmp 45) (.tmp 50) rfl (H + 1) (.slice a6 P.length c6) P rfl hobd ab2 C.body.length cb2 C.body rfl rfl hno2' hbyd hPlen (by show H + 1 ≤ wr.heap.size; omega) ?_
              intro v6 w6 hown6 hg6
              have hr6 : RecAt w6 H ⟨B.kind, B.serial, P⟩ a6 c6 := hrd.kept hg6 (fun e => by have := hobd.blk H e.symm; omega)
              have hb6 : Below H w2 w6 := hbd.grown hg6 (by show H ≤ wr.heap.size; omega) (fun q e => by have := hobd.blk q e; omega)
              have hbw6 : Below w.heap.size w w6 := below_call hbel2 (Nat.le_refl _) (by rw [← HH.out]; exact hb6)
              obtain ⟨a7, c7, rfl, hby7, hle7, hcm7, hbk7, hno7⟩ := hown6.slice
              obtain ⟨P2, hP2⟩ : ∃ P2, P2 = P ++ C.body := ⟨_, rfl⟩
              rw [← hP2] at hown6
              rw [← hP2] at HTK
              rw [← hP2]
              clear hP2 hbk7 hby7 hle7 hno7
              have c6c : w6.cell? ⟨H, 2, none⟩ = some (.slice a6 P.length c6) := hr6.cell 2 _ rfl
              have c6f := hr6.free 2
              simp only [Act.put, List.setIfInBounds_toArray, List.set_cons_zero, List.set_cons_succ]
              refine hK.out _ _ (hbw6) ?_
              clear hK K
              repeat (first
                | ((with_reducible refine wpSeq_skip (o := ⟨_, _, _, _, _, _⟩) (by with_unfolding_all exact rfl) (by with_unfolding_all exact rfl) ?_); simp only [Act.put, List.setIfInBounds_toArray, List.set_cons_zero, List.set_cons_succ])
                | ((with_reducible refine wpSeq_free (o := ⟨_, _, _, _, _, _⟩) (by with_unfolding_all exact rfl) (by with_unfolding_all exact rfl) (fun K hK => ?_)); go_big_quiet_op; (refine hK _ ?_; clear hK K)))
              with_reducible refine wpSeq_next (o := ⟨_, _, _, _, _, _⟩) (by with_unfolding_all exact rfl) (by with_unfolding_all exact rfl) (fun K hK => ?_)
              go_simp
              refine hK.out _ _ (hbw6.setCell (p := ⟨H, 2, none⟩) (by show w.heap.size ≤ H; have := hbel2.size; have := HH.out; omega) _) ?_
              clear hK K
              repeat (first
                | ((with_reducible refine wpSeq_skip (o := ⟨_, _, _, _, _, _⟩) (by with_unfolding_all exact rfl) (by with_unfolding_all exact rfl) ?_); simp only [Act.put, List.setIfInBounds_toArray, List.set_cons_zero, List.set_cons_succ])
                | ((with_reducible refine wpSeq_free (o := ⟨_, _, _, _, _, _⟩) (by with_unfolding_all exact rfl) (by with_unfolding_all exact rfl) (fun K hK => ?_)); go_big_quiet_op; (refine hK _ ?_; clear hK K)))
              refine wpSeq_nil ?_
              go_wp2
              go_roundw
              case rel => exact ⟨j + 1, a7, c7, by omega, by omega, by go_num, by rw [HTK.out]; exact hr6.stored 2 _ rfl, by rw [HTK.out]; exact own_past hown6 H 2 (Nat.lt_succ_self _) _, hb6.setCell (p := ⟨H, 2, none⟩) (Nat.le_refl _) _⟩
              case measure => simp [intOf]; omega
            ·
              have hjk2 : j = k + 1 := by omega
              subst hjk2
              have hbw : Below w.heap.size w wr := below_call hbel2 (Nat.le_refl _) (by rw [← HH.out]; exact hb)
              have hO4 : OwnRs wr w.heap.size u3 out := hO2.later (by rw [← HH.out]; exact hb)
              have hkm : bodies ((L.drop i).take (k + 1 - i)) = bodies ((L.drop i).take (m + 1)) := by have := HK.out.1; rw [show k + 1 - i = m + 1 by omega]
              rw [hkm] at hr hob
              obtain ⟨P, hP⟩ : ∃ P, P = bodies ((L.drop i).take (m + 1)) := ⟨_, rfl⟩
              have hgo2 := Hgo.out
              rw [← hP] at hr hob hgo2
              have Hgo2 := Lib.hid hgo2
              clear hgo2 hP hkm
              have hjK : ¬ ((k : Int) + 1 ≤ (k : Int)) := by omega
              have hob2 : OwnB wr w.heap.size (.slice a6 P.length c6) P := hob.mono (by have := hbel2.size; have := HH.out; omega)
              have hcn := fun j u => cell_recT wr ⟨B.kind, B.serial, P⟩ a6 c6 j u
              go_wp2_with (first
                | (refine wpList_load_rec rfl (.tmp 6) rfl H ⟨B.kind, B.serial, P⟩ a6 c6 rfl hr ?_; simp only [Rc.cells])
                | (at_builtin; refine wpList_append_recT rfl (.tmp 53) (.tmp 55) rfl w.heap.size u3 out rfl (hO4.later ((Below.refl _ wr).alloc (Nat.le_refl _) _)) ⟨B.kind, B.serial, P⟩ a6 c6 wr.heap.size 1 rfl rfl hcn (hob2.later ((Below.refl _ wr).alloc (Nat.le_refl _) _)) (by omega) (by rw [World.size_alloc]; have := hbw.size; omega) ?_; intro v5 w5 hO5 hg5))
              go_roundw
              case rel => exact ⟨i + 1, out ++ [⟨B.kind, B.serial, P⟩], by omega, by go_num, hO5, by rw [Hgo2.out, List.append_assoc], by rw [List.length_append, List.length_singleton]; omega, (hbw.alloc hbw.size _).grown hg5 (by rw [World.size_alloc]; have := hbw.size; omega) (fun q e => (hO4.blk q e).1)⟩
              case measure => simp [intOf]; omega
    · have hil : i = L.length := by omega
      rw [hil, List.drop_length] at hgo
      simp only [refRecs, List.append_nil] at hgo
      have Hgo := Lib.hid hgo
      clear hgo
      subst hil
      go_wp2
      go_ret
      exact ⟨_, rfl, by rw [Hgo.out]; exact hO, hbel⟩
end Go.Proofs.Ytdlbjllgdikadaa
