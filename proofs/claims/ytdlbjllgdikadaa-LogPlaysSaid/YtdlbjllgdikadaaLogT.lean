/- log, the document's: Room, Wait. -/
import Derived.Test.YtdlbjllgdikadaaLogQ
namespace Go.Proofs.Ytdlbjllgdikadaa
open Go.RowKit
set_option linter.unusedVariables false
set_option linter.unusedSimpArgs false

/-- What the document's log's numbers may be. -/
structure RNum (r : RLg) : Prop where
  hd : headR r ≤ 1099511627777
  lb : rbase r ≤ r.next
  ll : r.L.length ≤ 1000000000
  lw : r.W.length ≤ 1000000000
  bw : ∀ x ∈ r.W, x.body.length ≤ 524288 ∧ mayS x.kind x.from_ x.body = true
  bl : ∀ x ∈ r.L, x.from_ ≤ 1099511627776
/-- The document's log and device, both in memory. -/
structure RSt (F : Nat → Prop) (w : World) (R V n : Nat) (r : RLg) (rd : RDev) (u1 u2 : Value) : Prop where
  at_ : RLogAt w R V r u1 u2
  dev : RefAt w V rd
  o1 : WinRs F w u1 r.L
  o2 : WinRs F w u2 r.W
  len : rd.B.length = 64 * n
  n40 : 1 ≤ n ∧ n ≤ 40
  num : RNum r
theorem RSt.later {F : Nat → Prop} {w w' : World} {R V n : Nat} {r : RLg} {rd : RDev} {u1 u2 : Value} (h : RSt F w R V n r rd u1 u2) (hb : Below w.heap.size w w') : RSt F w' R V n r rd u1 u2 :=
  ⟨h.at_.later hb, h.dev.later hb, h.o1.later hb, h.o2.later hb, h.len, h.n40, h.num⟩
theorem LRel.num {n j : Nat} {g : Lg} {r : RLg} (h : LRel n j g r) (hn : n ≤ 40) (hj : j ≤ 1000) : RNum r := by
  have h1 := h.hd
  have h3 := len_sumM r.W
  have h4 := h.mn
  have h6 : r.L.length ≤ 40 * 1001 := Nat.le_trans h.ln (Nat.mul_le_mul hn (by omega))
  exact ⟨h.hd, h.base_le, by omega, by omega, fun x hx => ⟨(h.wf x hx).1, (h.wf x hx).2.2.2⟩, fun x hx => (h.lf x hx).2.1⟩

theorem RSt.head {F : Nat → Prop} {w : World} {R V n : Nat} {r : RLg} {rd : RDev} {u1 u2 : Value} (h : RSt F w R V n r rd u1 u2) :
    Calls Try.prog 106 #[.pointer (some ⟨R, 0, none⟩)] w fun e w' => e = .returned (.int .u64 (headR r : Nat)) ∧ w = w' :=
  head_calls F R V r u1 u2 w h.at_ h.o2 (fun x hx => (h.num.bw x hx).1) (by have := h.num.hd; omega) (by have := h.num.lw; omega)
theorem RSt.lasts {F : Nat → Prop} {w : World} {R V n : Nat} {r : RLg} {rd : RDev} {u1 u2 : Value} (h : RSt F w R V n r rd u1 u2) :
    Calls Try.prog 107 #[.pointer (some ⟨R, 0, none⟩)] w fun e w' => ∃ u, e = .returned u ∧ WinRs F w u (fromLast r.L) ∧ w = w' :=
  lasts_calls F R V r u1 u2 w h.at_ h.o1 (by have := h.num.ll; omega)

set_option maxRecDepth 100000 in
theorem rroom_calls (F : Nat → Prop) (R V n : Nat) (r : RLg) (rd : RDev) (u1 u2 : Value) (w : World) (h : RSt F w R V n r rd u1 u2) :
    Calls Try.prog 105 #[.pointer (some ⟨R, 0, none⟩)] w fun e w' => e = .returned (.int .i64 (roomR n r)) ∧ Below w.heap.size w w' := by
  have c4 := h.at_.c4
  cases ho : r.off with
  | true =>
    rw [ho] at c4
    have hR : roomR n r = 0 := by unfold roomR; rw [ho, if_pos rfl]
    rw [hR]
    clear h ho hR
    go_enter Try.func105, Try.ntmps105
    go_wp2
    go_ret
    exact ⟨rfl, Below.refl _ _⟩
  | false =>
    rw [ho] at c4
    have hR : roomR n r = (n : Int) - ((headR r - rbase r : Nat) : Int) := by unfold roomR; rw [ho, if_neg Bool.false_ne_true]
    have c0 := h.at_.c0
    have c3 := h.at_.c3
    have v0 := h.dev.c0
    have hlas := Lib.hid h.lasts
    have hlb := h.num.lb
    have hhd := h.num.hd
    have hhn : r.next ≤ headR r := by unfold headR; omega
    have hn40 := h.n40
    have hlen : (⟨rd.B.toArray⟩ : ByteArray).size = 64 * n := by rw [← h.len]; rfl
    have hB : rbase r = baseOf r.next (fromLast r.L) := rfl
    have hfr : ∀ x ∈ fromLast r.L, x.from_ ≤ 1099511627776 := fun x hx => h.num.bl x (fromLast_sub _ x hx)
    obtain ⟨H, hH⟩ : ∃ H, H = headR r := ⟨_, rfl⟩
    obtain ⟨Bs, hBs⟩ : ∃ Bs, Bs = rbase r := ⟨_, rfl⟩
    obtain ⟨N, hN⟩ : ∃ N, N = r.next := ⟨_, rfl⟩
    have hhead := Lib.hid (fun W (hb : Below w.heap.size w W) => (h.later hb).head)
    have e0 : ∀ x : SW (fun W => Below w.heap.size w W), x.W.cell? ⟨R, 0, none⟩ = some (.pointer (some ⟨V, 0, none⟩)) := fun x => (h.at_.later x.h).c0
    have e1 : ∀ x : SW (fun W => Below w.heap.size w W), x.W.cell? ⟨V, 0, none⟩ = some (.string ⟨rd.B.toArray⟩) := fun x => (h.dev.later x.h).c0
    have hne : Nonempty (SW (fun W => Below w.heap.size w W)) := ⟨⟨w, Below.refl _ _⟩⟩
    rw [hR]
    rw [← hH, ← hBs]
    rw [← hBs, ← hN] at hlb
    rw [← hH] at hhd hhead
    rw [← hH, ← hN] at hhn
    rw [← hN] at c3 hB
    rw [← hBs] at hB
    have HB := Lib.hid (And.intro hB hfr)
    have HS := Lib.hid h
    have hsub : IntKind.u64.wrap ((H : Int) - (Bs : Int)) = ((H - Bs : Nat) : Int) := by rw [IntKind.wrap_u64]; omega
    clear h ho hR hB hfr hH hBs hN
    go_enter Try.func105, Try.ntmps105
    go_upto_region 5 with (go_at_call 107; refine hlas.out.mono ?_; rintro e w2 ⟨u, rfl, hU, rfl⟩; obtain ⟨a, c, rfl, hcl, hI, hno⟩ := hU.slice)
    obtain ⟨m, hm⟩ : ∃ m, m = (fromLast r.L).length := ⟨_, rfl⟩
    rw [← hm]
    have HM := Lib.hid hm
    clear hm
    go_upto_if 19 with fail
    obtain ⟨qb, hqb⟩ : ∃ qb : Bool, qb = decide (0 < m) := ⟨_, rfl⟩
    rw [← hqb]
    have HQ := Lib.hid hqb
    clear hqb
    go_cut [3] from 20 to 26 (fun qv wc => qv = .int .u64 (Bs : Int) ∧ w = wc)
    case first =>
      cases hL : fromLast r.L with
      | nil =>
        rw [hL] at HM
        have hBN : (Bs : Int) = (N : Int) / 8 * 8 := by rw [HB.out.1, hL]; show ((N / 8 * 8 : Nat) : Int) = _; omega
        have hq0 : qb = false := by rw [HQ.out, HM.out]; rfl
        subst hq0
        go_wp2
        go_meet
        exact ⟨by rw [hBN], rfl⟩
      | cons x xs =>
        rw [hL] at hI HM
        obtain ⟨b1, o1, a1, c1, rfl, _, p1, _⟩ := hI.cellsAt 0 (by simp)
        have k1 : w.cell? ⟨b1, o1 + 0 * 3 + 1, none⟩ = some (.int .u64 (x.from_ : Int)) := p1 ⟨w, Below.refl _ _⟩
        rw [Nat.zero_mul, Nat.add_zero] at k1
        have hBN : (Bs : Int) = (x.from_ : Int) / 8 * 8 := by rw [HB.out.1, hL]; show ((x.from_ / 8 * 8 : Nat) : Int) = _; omega
        have hx := HB.out.2 x (by rw [hL]; exact .head _)
        have hmI : (0 : Int) < (m : Int) := by rw [HM.out]; simp only [List.length_cons]; omega
        have hq0 : qb = true := by rw [HQ.out]; exact decide_eq_true (by omega)
        subst hq0
        clear hI hU hL
        go_wp2
        go_meet
        exact ⟨by rw [hBN], rfl⟩
    case rest =>
      obtain ⟨rfl, rfl⟩ := hcut
      go_upto_region 7 with fail
      refine wp_region_seq2 (fun W => Below w.heap.size w W) [(0, true), (1, true), (2, true), (3, true), (4, true), (5, true), (6, true), (7, true), (8, true), (9, true), (11, true), (10, false), (12, true), (13, true), (14, true), (15, true)] (by kernel_rfl) (by kernel_rfl) (fun d _ _ _ _ h => by cases d <;> exact h) ((Below.refl _ w).drew) ?_
      repeat (first
        | ((with_reducible refine wpSeq_skip (o := ⟨_, _, _, _, _, _⟩) (by with_unfolding_all exact rfl) (by with_unfolding_all exact rfl) ?_); simp only [Act.put, List.setIfInBounds_toArray, List.set_cons_zero, List.set_cons_succ])
        | ((with_reducible refine wpSeq_free (o := ⟨_, _, _, _, _, _⟩) (by with_unfolding_all exact rfl) (by with_unfolding_all exact rfl) (fun K hK => ?_)); go_big_quiet_op; (refine hK _ ?_; clear hK K)))
      with_reducible refine wpSeq_next (o := ⟨_, _, _, _, _, _⟩) (by with_unfolding_all exact rfl) (by with_unfolding_all exact rfl) (fun K hK => ?_)
      go_simp
      go_at_call 106
      refine (hhead.out _ (Below.refl _ w).drew).mono ?_
      rintro e w3 ⟨rfl, rfl⟩
      refine hK.out _ _ ((Below.refl _ w).drew) ?_
      clear hK K
      repeat (first
        | ((with_reducible refine wpSeq_skip (o := ⟨_, _, _, _, _, _⟩) (by with_unfolding_all exact rfl) (by with_unfolding_all exact rfl) ?_); simp only [Act.put, List.setIfInBounds_toArray, List.set_cons_zero, List.set_cons_succ])
        | ((with_reducible refine wpSeq_free (o := ⟨_, _, _, _, _, _⟩) (by with_unfolding_all exact rfl) (by with_unfolding_all exact rfl) (fun K hK => ?_)); go_big_quiet_op; (refine hK _ ?_; clear hK K)))
      refine wpSeq_nil ?_
      go_wp2
      go_ret
      exact ⟨rfl, (Below.refl _ w).drew⟩
end Go.Proofs.Ytdlbjllgdikadaa
