/- log, the document's: Sync. -/
import Derived.Test.YtdlbjllgdikadaaLogT
namespace Go.Proofs.Ytdlbjllgdikadaa
open Go.RowKit
set_option linter.unusedVariables false
set_option linter.unusedSimpArgs false

theorem RLogAt.neV {w : World} {R V : Nat} {r : RLg} {rd : RDev} {u1 u2 : Value} (h : RLogAt w R V r u1 u2) (hV : RefAt w V rd) : R ≠ V := fun e => by
  rw [e] at h
  have h2 : w.heap[V]? = _ := h
  rw [show w.heap[V]? = _ from hV] at h2
  simp at h2
/-- The document's log while it writes. -/
structure SyS (F : Nat → Prop) (w wq : World) (R V : Nat) (r : RLg) (rd : RDev) (u1 u2 : Value) : Prop where
  log : RLogAt wq R V r u1 u2
  dev : RefAt wq V rd
  o1 : WinRs F wq u1 r.L
  o2 : WinRs F wq u2 r.W
  as_ : Aside [R, V] w wq
theorem SyS.later {F : Nat → Prop} {w wq W : World} {R V : Nat} {r : RLg} {rd : RDev} {u1 u2 : Value} (h : SyS F w wq R V r rd u1 u2) (hb : Below wq.heap.size wq W) : SyS F w W R V r rd u1 u2 :=
  ⟨h.log.later hb, h.dev.later hb, h.o1.later hb, h.o2.later hb, h.as_.trans (Aside.below _ hb)⟩
theorem WinRs.asideV {F : Nat → Prop} {w w' : World} {V : Nat} {rd : RDev} {u : Value} {l : List Rc} (h : WinRs F w u l) (hV : RefAt w V rd) (k : Aside [V] w w') : WinRs F w' u l :=
  h.aside k fun q hq c t fz e ht => by
    rw [List.mem_singleton] at hq
    subst hq
    rw [show w.heap[q]? = _ from hV] at e
    simp at e
    rcases ht with ht | ht
    · rw [ht] at e; exact absurd e.2.1 (by decide)
    · rw [ht] at e; exact absurd e.2.1 (by decide)
theorem WinRs.setR {F : Nat → Prop} {w : World} {R V : Nat} {r : RLg} {u1 u2 : Value} {u : Value} {l : List Rc} (h : WinRs F w u l) (hR : RLogAt w R V r u1 u2) (i : Nat) (v : Value) : WinRs F (w.setCell ⟨R, i, none⟩ v) u l :=
  h.setCell R i v fun c t fz e ht => by
    rw [show w.heap[R]? = _ from hR] at e
    simp at e
    rcases ht with ht | ht
    · rw [ht] at e; exact absurd e.2.1 (by decide)
    · rw [ht] at e; exact absurd e.2.1 (by decide)
theorem SyS.write {F : Nat → Prop} {w wq W : World} {R V : Nat} {r : RLg} {rd rd2 : RDev} {u1 u2 : Value} (h : SyS F w wq R V r rd u1 u2) (k : Aside [V] wq W) (hd : RefAt W V rd2) : SyS F w W R V r rd2 u1 u2 :=
  ⟨h.log.aside k (by simp; exact h.log.neV h.dev), hd, h.o1.asideV h.dev k, h.o2.asideV h.dev k, h.as_.trans (k.mono (fun q hq => by simp at hq ⊢; exact .inr hq))⟩

def RSyncPost (F : Nat → Prop) (R V : Nat) (r : RLg) (rd : RDev) (w : World) (e : Ending) (w' : World) : Prop :=
  e = .returned (.int .i64 (if (putsR (rd, r.off || rd.off) (catB r.W)).2 then 11 else 0 : Int)) ∧ ∃ u1' u2', SyS F w w' R V (syncR (putsR (rd, r.off || rd.off) (catB r.W)).2 r) (putsR (rd, r.off || rd.off) (catB r.W)).1 u1' u2'

theorem catB_cut (l : List Rc) (i : Nat) (hi : i < l.length) : catB l = catB (l.take i) ++ blksOf l[i] ++ catB (l.drop (i + 1)) := by
  rw [← catB_take l i hi]
  unfold catB
  rw [← List.flatMap_append, List.take_append_drop]
theorem putsR_stop (rd rd2 : RDev) (P : List Blk) (B : List Blk) (j : Nat) (hj : j < B.length) (C : List Blk) (h : putsR (rd, false) (P ++ B.take j ++ [B[j]]) = (rd2, true)) : putsR (rd, false) (P ++ B ++ C) = (rd2, true) := by
  have h1 : B.take j ++ [B[j]] = B.take (j + 1) := by rw [List.take_add_one, List.getElem?_eq_getElem hj]; rfl
  have e : P ++ B ++ C = (P ++ B.take j ++ [B[j]]) ++ (B.drop (j + 1) ++ C) := by
    rw [List.append_assoc P (B.take j), h1]
    simp only [List.append_assoc]
    rw [← List.append_assoc (B.take (j + 1)), List.take_append_drop]
  rw [e, putsR_app, h, putsR_off]

set_option maxRecDepth 100000 in
set_option maxHeartbeats 8000000 in
theorem rsync_calls (F : Nat → Prop) (R V n : Nat) (r : RLg) (rd : RDev) (u1 u2 : Value) (w : World) (h : RSt F w R V n r rd u1 u2) (hF : ∀ q, F q → q < w.heap.size) (k : Nat) (d : Dev) (hrel : PRel n k d rd) (hk : k + sumM r.W ≤ 1000000) :
    Calls Try.prog 80 #[.pointer (some ⟨R, 0, none⟩)] w (RSyncPost F R V r rd w) := by
  have c4 := h.at_.c4
  have f4 := h.at_.free 4
  have c0 := h.at_.c0
  have d2 := h.dev.c2
  have hS0 : SyS F w w R V r rd u1 u2 := ⟨h.at_, h.dev, h.o1, h.o2, Aside.refl _ _⟩
  have hoffw : (r.off || rd.off) = true → RSyncPost F R V r rd w (.returned (.int .i64 11)) (w.setCell ⟨R, 4, none⟩ (.bool true)) := fun e => by
    unfold RSyncPost
    rw [e, putsR_off]
    exact ⟨rfl, u1, u2, h.at_.stored (r' := { r with off := true }) 4 (.bool true) rfl, (heap_setCell_other w ⟨R, 4, none⟩ V _ (Ne.symm (h.at_.neV h.dev))).trans h.dev, h.o1.setR h.at_ 4 _, h.o2.setR h.at_ 4 _, (Aside.refl _ w).setCell ⟨R, 4, none⟩ _ (fun _ => by simp)⟩
  cases ho : r.off with
  | true =>
    rw [ho] at c4
    have hfin := Lib.hid (hoffw (by rw [ho]; rfl))
    clear h hoffw ho hS0
    go_enter Try.func80, Try.ntmps80
    go_wp2
    go_ret
    exact hfin.out
  | false =>
    rw [ho] at c4
    cases hv : rd.off with
    | true =>
      rw [hv] at d2
      have hfin := Lib.hid (hoffw (by rw [ho, hv]; rfl))
      clear h hoffw ho hS0 hv
      go_enter Try.func80, Try.ntmps80
      go_wp2
      go_ret
      exact hfin.out
    | false =>
      rw [hv] at d2
      clear hoffw
      have hpost : ∀ (s : RDev × Bool) (e : Ending) (w' : World) (u1' u2' : Value), putsR (rd, false) (catB r.W) = s → e = .returned (.int .i64 (if s.2 then 11 else 0 : Int)) → SyS F w w' R V (syncR s.2 r) s.1 u1' u2' → RSyncPost F R V r rd w e w' := fun s e w' u1' u2' h1 h2 h3 => by
        unfold RSyncPost
        rw [ho, hv, Bool.or_false, h1]
        exact ⟨h2, u1', u2', h3⟩
      have HPO := Lib.hid hpost
      have hP : ∀ l : List Blk, l.length ≤ sumM r.W → ∃ k' d', PRel n k' d' (putsR (rd, false) l).1 := fun l hl => ⟨_, _, (puts_rel h.n40.1 l k d rd false hrel (by omega)).2⟩
      have HPR := Lib.hid hP
      have hlw := h.num.lw
      have hbw := Lib.hid h.num.bw
      have hn40 := h.n40
      have hn1 := h.n40.1
      obtain ⟨a2, q2, e2, hq2, _, _⟩ := h.o2.slice
      subst e2
      have HH := Lib.hid (And.intro h hF)
      have HRV := Lib.hid (h.at_.neV h.dev)
      have hSh := Lib.hid (show ∀ W rd' U, SyS F w W R V r rd' U (.slice a2 r.W.length q2) → Calls Try.prog 106 #[.pointer (some ⟨R, 0, none⟩)] W fun e w' => e = .returned (.int .u64 (headR r : Nat)) ∧ W = w' from fun W rd' U hs => head_calls F R V r U _ W hs.log hs.o2 (fun x hx => (h.num.bw x hx).1) (by have := h.num.hd; omega) (by omega))
      obtain ⟨NW, hNW⟩ : ∃ NW, NW = r.W.length := ⟨_, rfl⟩
      have HNW := Lib.hid hNW
      rw [← hNW] at hlw
      have HO := Lib.hid ho
      clear h hF hpost hP ho hv hrel
      go_enter Try.func80, Try.ntmps80
      go_upto_block 0 with fail
      clear c4 f4 c0 d2
      refine over_world (R := fun W => SyS F w W R V r rd u1 (.slice a2 NW q2)) (by rw [hNW]; exact hS0) ?_
      clear hS0
      rw [← hNW] at hSh hq2
      clear hNW
      rintro w0 hS0
      go_cut [] from 3 to 103 (fun wc => ∃ rd', putsR (rd, false) (catB r.W) = (rd', false) ∧ SyS F w wc R V r rd' u1 (.slice a2 NW q2))
      case first =>
        go_wp2
        go_loopw [3] (fun iv wr => ∃ (i : Nat) (rd' : RDev), i ≤ NW ∧ iv = .int .i64 (i : Int) ∧ putsR (rd, false) (catB (r.W.take i)) = (rd', false) ∧ SyS F w wr R V r rd' u1 (.slice a2 NW q2)) (fun iv _ => NW - (intOf iv).toNat)
        case atStart => exact ⟨0, rd, Nat.zero_le _, rfl, rfl, hS0⟩
        case round =>
          clear hS0
          obtain ⟨i, rd1, hi, rfl, hpu, hS⟩ := hrel
          have cW := hS.log.c2
          by_cases hlt : i < NW
          · have hltW : i < r.W.length := by rw [← HNW.out]; exact hlt
            have hiI : (i : Int) < (NW : Int) := by omega
            obtain ⟨a9, q9, e9, _, hI, _⟩ := hS.o2.slice
            obtain ⟨x, hx⟩ : ∃ x, x = r.W[i] := ⟨_, rfl⟩
            obtain ⟨rfl, rfl⟩ : a9 = a2 ∧ q9 = q2 := by injection e9 with z1 z2 z3; exact ⟨z1.symm, z3.symm⟩
            obtain ⟨b1, o1, ax, cx, rfl, p0, p1, p2, hby, hxc, hxn⟩ := hI.cellsAt i hltW
            rw [← hx] at p0 p1 p2 hby hxc hxn
            have hxB := hbw.out r.W[i] (List.getElem_mem hltW)
            rw [← hx] at hxB
            obtain ⟨Bl, hBl⟩ : ∃ Bl, Bl = blksOf x := ⟨_, rfl⟩
            obtain ⟨m, hm⟩ : ∃ m, m = manyN x.body.length := ⟨_, rfl⟩
            have hBlen : Bl.length = m := by rw [hBl, hm]; exact blkTo_length _ _ _ _ _
            have hsp := refsplit_calls x.kind x.from_ (by have := hxB.2; unfold mayS at this; simp at this; omega) ax x.body cx hxc (by omega)
            have hSp : splitL x.kind x.from_ x.body = Bl ∧ splitE x.kind x.from_ x.body = 0 := by
              have h0 : splitE x.kind x.from_ x.body = 0 := by unfold splitE; rw [hxB.2, if_pos rfl, if_pos hxB.1]
              exact ⟨by unfold splitL; rw [if_pos h0, hBl]; rfl, h0⟩
            have hcutW : catB r.W = catB (r.W.take i) ++ Bl ++ catB (r.W.drop (i + 1)) := by rw [hBl, hx]; exact catB_cut r.W i hltW
            have hcutS : (catB (r.W.take i)).length + m ≤ sumM r.W := by rw [← catB_sum, hcutW, ← hBlen]; simp only [List.length_append]; omega
            have hnext : catB (r.W.take (i + 1)) = catB (r.W.take i) ++ Bl := by rw [hBl, hx]; exact catB_take r.W i hltW
            have hbly : ∀ j (hj : j < Bl.length), Bl[j] = blkAt x.kind x.from_ m x.body j ∧ mayB Bl[j] = true := fun j hj => by
              have e : Bl[j] = blkAt x.kind x.from_ m x.body j := by
                simp only [hBl, hm, blksOf, blkTo, List.getElem_map, List.getElem_range]
              exact ⟨e, by rw [e, hm]; exact blk_mayS x.kind x.from_ x.body hxB.2 j (by omega)⟩
            obtain ⟨P, hP⟩ : ∃ P, P = catB (r.W.take i) := ⟨_, rfl⟩
            rw [← hP] at hpu hcutW hcutS hnext
            have HX := Lib.hid (And.intro hcutW (And.intro hcutS (And.intro hnext (And.intro hbly (And.intro hpu hBlen)))))
            have hm2 := manyN_le x.body.length
            have hbm : m ≤ 524289 := by have := hxB.1; omega
            have hby' := Lib.hid (fun W (hb : Below wr.heap.size wr W) => hby.later hb)
            have hxn' : ax = none → x.body.length = 0 ∧ cx = 0 := fun e => by obtain ⟨z1, z2⟩ := hxn e; exact ⟨by rw [z1]; rfl, z2⟩
            have hsp' : ∀ W, Below wr.heap.size wr W → Calls Try.prog 25 #[.int .u8 (x.kind.toNat : Int), .int .u64 (x.from_ : Int), .slice ax x.body.length cx] W fun e w' => ∃ a3 c3, e = .returned (.tuple #[.slice a3 m c3, .int .i64 0]) ∧ OwnBs w' W.heap.size (.slice a3 m c3) Bl ∧ Below W.heap.size W w' := fun W hb => by
              refine (hsp W hxn' (hby.later hb)).mono ?_
              rintro e w' ⟨v, rfl, hO, hB⟩
              rw [hSp.1] at hO
              rw [hSp.2]
              obtain ⟨a3, c3, rfl, _⟩ := hO.slice
              rw [hBlen] at hO ⊢
              exact ⟨a3, c3, rfl, hO, hB⟩
            have Hsp := Lib.hid hsp'
            have cWx : ∀ y : SW (fun W => Below wr.heap.size wr W), y.W.cell? ⟨R, 2, none⟩ = some (.slice (some ⟨b1, o1, none⟩) NW q9) := fun y => (hS.log.later y.h).c2
            have hne : Nonempty (SW (fun W => Below wr.heap.size wr W)) := ⟨⟨wr, Below.refl _ _⟩⟩
            have HS := Lib.hid hS
            clear e9 hcutW hcutS hnext hbly hpu hBlen hsp hsp' hSp hBl hm hP hxB hx hby hxc hxn hxn' hI hS
            go_upto_region 7 with fail
            refine wp_region_seq2 (fun W => Below wr.heap.size wr W) [(0, true), (1, true), (2, true), (3, true), (4, true), (5, true), (6, true), (7, true), (8, true), (9, true), (10, true), (11, true), (12, true), (13, true), (14, true), (15, true), (16, true), (17, true), (18, true), (19, true), (20, true), (21, true), (22, true), (23, true), (24, false), (25, true), (26, true), (27, true), (28, true), (29, true)] (by kernel_rfl) (by kernel_rfl) (fun d _ _ _ _ h => by cases d <;> exact h) ((Below.refl _ wr).drew) ?_
            repeat (first
              | ((with_reducible refine wpSeq_skip (o := ⟨_, _, _, _, _, _⟩) (by with_unfolding_all exact rfl) (by with_unfolding_all exact rfl) ?_); simp only [Act.put, List.setIfInBounds_toArray, List.set_cons_zero, List.set_cons_succ])
              | ((with_reducible refine wpSeq_free (o := ⟨_, _, _, _, _, _⟩) (by with_unfolding_all exact rfl) (by with_unfolding_all exact rfl) (fun K hK => ?_)); go_big_quiet_op; (refine hK _ ?_; clear hK K)))
            with_reducible refine wpSeq_next (o := ⟨_, _, _, _, _, _⟩) (by with_unfolding_all exact rfl) (by with_unfolding_all exact rfl) (fun K hK => ?_)
            go_simp
            go_at_call 25
            refine (Hsp.out _ (Below.refl _ wr).drew).mono ?_
            rintro e w3 ⟨a3, c3, rfl, hO3, hB3⟩
            refine hK.out _ _ (below_call (Below.refl _ wr).drew (Nat.le_refl _) hB3) ?_
            clear hK K
            repeat (first
              | ((with_reducible refine wpSeq_skip (o := ⟨_, _, _, _, _, _⟩) (by with_unfolding_all exact rfl) (by with_unfolding_all exact rfl) ?_); simp only [Act.put, List.setIfInBounds_toArray, List.set_cons_zero, List.set_cons_succ])
              | ((with_reducible refine wpSeq_free (o := ⟨_, _, _, _, _, _⟩) (by with_unfolding_all exact rfl) (by with_unfolding_all exact rfl) (fun K hK => ?_)); go_big_quiet_op; (refine hK _ ?_; clear hK K)))
            refine wpSeq_nil ?_
            have hS3 := HS.out.later (below_call (Below.refl _ wr).drew (Nat.le_refl _) hB3)
            have hVl : V < wr.drew.heap.size := HS.out.dev.lt
            obtain ⟨B1, hB1⟩ : ∃ B1, B1 = wr.drew.heap.size := ⟨_, rfl⟩
            rw [← hB1] at hO3 hVl
            refine over_world (R := fun W => OwnBs W B1 (.slice a3 m c3) Bl ∧ SyS F w W R V r rd1 u1 (.slice (some ⟨b1, o1, none⟩) NW q9)) ⟨hO3, hS3⟩ ?_
            clear hO3 hS3 hB3 hB1 cWx hne p0 p1 p2 HS Hsp hby'
            rintro w4 ⟨hO4, hS4⟩
            go_wp2
            go_loopw [6] (fun jv wq => ∃ (j : Nat) (rd2 : RDev), j ≤ m ∧ jv = .int .i64 (j : Int) ∧ putsR (rd, false) (P ++ Bl.take j) = (rd2, false) ∧ OwnBs wq B1 (.slice a3 m c3) Bl ∧ SyS F w wq R V r rd2 u1 (.slice (some ⟨b1, o1, none⟩) NW q9)) (fun jv _ => m - (intOf jv).toNat)
            case atStart => exact ⟨0, rd1, Nat.zero_le _, rfl, by rw [List.take_zero, List.append_nil]; exact HX.out.2.2.2.2.1, hO4, hS4⟩
            case round =>
              clear hO4 hS4
              obtain ⟨j, rd2, hjm, rfl, hpu, hO, hS⟩ := hrel
              obtain ⟨hcutW, hcutS, hnext, hbly, _, hBlen⟩ := HX.out
              by_cases hjl : j < m
              · have hjI : (j : Int) < (m : Int) := by omega
                have hjB : j < Bl.length := by omega
                obtain ⟨a9, c9, e9, hIB, _⟩ := hO.slice
                obtain ⟨rfl, rfl⟩ : a9 = a3 ∧ c9 = c3 := by injection e9 with z1 z2 z3; exact ⟨z1.symm, z3.symm⟩
                obtain ⟨b2, o2, ay, cy, rfl, f0, f1, f2, f3, f4, hby, hyc, hyn⟩ := hIB.at j hjB
                obtain ⟨y, hy⟩ : ∃ y, y = Bl[j] := ⟨_, rfl⟩
                have hym := (hbly j hjB).2
                rw [← hy] at f0 f1 f2 f3 f4 hby hyc hyn hym
                have hys : y.serial ≤ 1099511627776 ∧ y.body.length ≤ 48 := may_serial hym
                have h64 : (sealB y).length = 64 := seal_length y hys.2
                have htk : P ++ Bl.take (j + 1) = P ++ Bl.take j ++ [y] := by rw [List.take_add_one, List.getElem?_eq_getElem hjB, hy, List.append_assoc]; rfl
                obtain ⟨k', d', hpr⟩ := HPR.out (P ++ Bl.take j) (by rw [List.length_append, List.length_take]; omega)
                rw [hpu] at hpr
                replace hpr : PRel n k' d' rd2 := hpr
                have hlen : rd2.B.length = 64 * n := hpr.len
                have hstep : putsR (rd, false) (P ++ Bl.take j ++ [y]) = (rwD rd2 ((y.serial % n : Nat) : Int) (sealB y), rwE rd2 ((y.serial % n : Nat) : Int) (sealB y) != 0) := by
                  rw [putsR_snoc, hpu]
                  unfold putR
                  rw [if_neg Bool.false_ne_true, hlen, Nat.mul_div_cancel_left n (by omega)]
                have hstop : rwE rd2 ((y.serial % n : Nat) : Int) (sealB y) ≠ 0 → putsR (rd, false) (catB r.W) = (rwD rd2 ((y.serial % n : Nat) : Int) (sealB y), true) := fun e => by
                  rw [hcutW]
                  refine putsR_stop rd _ P Bl j hjB _ ?_
                  rw [← hy, hstep]
                  rw [show (rwE rd2 ((y.serial % n : Nat) : Int) (sealB y) != 0) = true by rw [bne_iff_ne]; exact e]
                obtain ⟨M, hM⟩ : ∃ M, M = y.serial % n := ⟨_, rfl⟩
                have hmod : ((y.serial : Int) % (n : Int)) = (M : Int) := by rw [hM]; first | exact (Int.natCast_emod _ _).symm | rfl
                have hMn : M < n := by rw [hM]; exact Nat.mod_lt _ (by omega)
                rw [← hM] at hstep hstop
                obtain ⟨E, hE⟩ : ∃ E, E = rwE rd2 (M : Int) (sealB y) := ⟨_, rfl⟩
                obtain ⟨rd3, hrd3⟩ : ∃ rd3, rd3 = rwD rd2 (M : Int) (sealB y) := ⟨_, rfl⟩
                rw [← hE, ← hrd3] at hstep hstop
                have hwr : ∀ W a7 c7, RefAt W V rd2 → IsBytes W a7 (sealB y) → 64 ≤ c7 → Calls Try.prog 48 #[.pointer (some ⟨V, 0, none⟩), .int .i64 (M : Int), .slice a7 64 c7] W fun e w' => e = .returned (.int .i64 (E : Int)) ∧ RefAt w' V rd3 ∧ Aside [V] W w' := fun W a7 c7 z1 z2 z3 => by
                  have z := rwrite_calls V rd2 (M : Int) a7 (sealB y) c7 W z1 (by rw [hlen]; omega) z2 (by have := hpr.w0; omega) hpr.w1 hpr.p0 hpr.p1 (by omega)
                  rw [h64] at z
                  refine z.mono ?_
                  rintro e w' ⟨rfl, z4, z5⟩
                  exact ⟨by rw [hE], by rw [hrd3]; exact z4, z5⟩
                have henc : ∀ W, IsBytes W ay y.body → Calls Try.prog 32 #[.agg (y.cells ay cy)] W fun e w' => ∃ a7 c7, e = .returned (.tuple #[.slice a7 64 c7, .int .i64 0]) ∧ IsBytes w' a7 (sealB y) ∧ 64 ≤ c7 ∧ Below W.heap.size W w' := fun W h1 => by
                  refine (refencode_calls y ay cy W (by omega) (by omega) hyn h1).mono ?_
                  rintro e w' ⟨v, rfl, hO, hB⟩
                  unfold encT encEr at *
                  rw [if_pos hym] at hO ⊢
                  obtain ⟨a7, c7, rfl, hby7, hc7, _, hbk7, _⟩ := hO.slice
                  rw [h64] at hc7 ⊢
                  exact ⟨a7, c7, rfl, hby7, hc7, hB⟩
                have Hwr := Lib.hid hwr
                have Henc := Lib.hid henc
                have HST := Lib.hid (And.intro hstep (And.intro hstop htk))
                have hb2 : V ≠ b2 := by
                  obtain ⟨z1, _⟩ := hO.blk b2 rfl
                  omega
                have hsz : (⟨rd2.B.toArray⟩ : ByteArray).size = 64 * n := by rw [← hlen]; rfl
                have hdv : ((64 * n : Nat) : Int) / 64 = (n : Int) := by omega
                clear hy hys h64 hym hstep hstop htk hwr henc hpu hpr hM hE hrd3 hIB e9 hbly hnext hcutW hcutS hBlen
                go_upto_region 12 with (go_at_call 32; refine (Henc.out _ hby).mono ?_; rintro e w5 ⟨a7, c7, rfl, hby7, hc7, hB5⟩)
                have hS5 := hS.later hB5
                have hO5 := hO.later hB5
                have f05 : w5.cell? ⟨b2, o2 + j * 5, none⟩ = some (.int .u64 (y.serial : Int)) := (hB5.cell (p := ⟨b2, o2 + j * 5, none⟩) (World.block_lt_of_cell? wr _ f0)).trans f0
                have hcl : (fun W : World => RLogAt W R V r u1 (.slice (some ⟨b1, o1, none⟩) NW q9) ∧ W.cell? ⟨b2, o2 + j * 5, none⟩ = some (.int .u64 (y.serial : Int))) w5.drew := ⟨hS5.log.later (Below.refl _ w5).drew, f05⟩
                have g0 : ∀ z : SW (fun W : World => RLogAt W R V r u1 (.slice (some ⟨b1, o1, none⟩) NW q9) ∧ W.cell? ⟨b2, o2 + j * 5, none⟩ = some (.int .u64 (y.serial : Int))), z.W.cell? ⟨R, 0, none⟩ = some (.pointer (some ⟨V, 0, none⟩)) := fun z => z.h.1.c0
                have g1 : ∀ z : SW (fun W : World => RLogAt W R V r u1 (.slice (some ⟨b1, o1, none⟩) NW q9) ∧ W.cell? ⟨b2, o2 + j * 5, none⟩ = some (.int .u64 (y.serial : Int))), z.W.cell? ⟨b2, o2 + j * 5, none⟩ = some (.int .u64 (y.serial : Int)) := fun z => z.h.2
                have hne : Nonempty (SW (fun W : World => RLogAt W R V r u1 (.slice (some ⟨b1, o1, none⟩) NW q9) ∧ W.cell? ⟨b2, o2 + j * 5, none⟩ = some (.int .u64 (y.serial : Int)))) := ⟨⟨w5.drew, hcl⟩⟩
                have hS5d := hS5.later (Below.refl _ w5).drew
                have hO5d := hO5.later (Below.refl _ w5).drew
                have hby7d := hby7.later (Below.refl _ w5).drew
                have v05 : w5.drew.cell? ⟨V, 0, none⟩ = some (.string ⟨rd2.B.toArray⟩) := hS5d.dev.c0
                refine wp_region_seq2 (fun W : World => RLogAt W R V r u1 (.slice (some ⟨b1, o1, none⟩) NW q9) ∧ W.cell? ⟨b2, o2 + j * 5, none⟩ = some (.int .u64 (y.serial : Int))) [(0, true), (1, true), (2, true), (3, true), (4, true), (5, true), (6, true), (7, true), (8, true), (9, true), (10, true), (11, true), (12, true), (13, true), (14, true), (21, true), (15, false), (16, true), (17, true), (18, true), (19, true), (20, true), (22, false), (23, true)] (by kernel_rfl) (by kernel_rfl) (fun d _ _ _ _ h => by cases d <;> exact h) (hcl) ?_
                repeat (first
                  | ((with_reducible refine wpSeq_skip (o := ⟨_, _, _, _, _, _⟩) (by with_unfolding_all exact rfl) (by with_unfolding_all exact rfl) ?_); simp only [Act.put, List.setIfInBounds_toArray, List.set_cons_zero, List.set_cons_succ])
                  | ((with_reducible refine wpSeq_free (o := ⟨_, _, _, _, _, _⟩) (by with_unfolding_all exact rfl) (by with_unfolding_all exact rfl) (fun K hK => ?_)); go_big_quiet_op; (refine hK _ ?_; clear hK K)))
                with_reducible refine wpSeq_next (o := ⟨_, _, _, _, _, _⟩) (by with_unfolding_all exact rfl) (by with_unfolding_all exact rfl) (fun K hK => ?_)
                go_simp
                refine hK.out _ _ (hcl) ?_
                clear hK K
                repeat (first
                  | ((with_reducible refine wpSeq_skip (o := ⟨_, _, _, _, _, _⟩) (by with_unfolding_all exact rfl) (by with_unfolding_all exact rfl) ?_); simp only [Act.put, List.setIfInBounds_toArray, List.set_cons_zero, List.set_cons_succ])
                  | ((with_reducible refine wpSeq_free (o := ⟨_, _, _, _, _, _⟩) (by with_unfolding_all exact rfl) (by with_unfolding_all exact rfl) (fun K hK => ?_)); go_big_quiet_op; (refine hK _ ?_; clear hK K)))
                with_reducible refine wpSeq_next (o := ⟨_, _, _, _, _, _⟩) (by with_unfolding_all exact rfl) (by with_unfolding_all exact rfl) (fun K hK => ?_)
                go_simp
                go_at_call 48
                refine (Hwr.out _ _ _ hS5d.dev hby7d hc7).mono ?_
                rintro e w6 ⟨rfl, hd6, hA6⟩
                refine hK.out _ _ (⟨hS5d.log.aside hA6 (by simp; exact HRV.out), (World.cell?_of_block (w := w5.drew) (a := ⟨b2, o2 + j * 5, none⟩) (hA6.block b2 (World.block_lt_of_cell? w5.drew _ hcl.2) (by simp; exact Ne.symm hb2))).trans hcl.2⟩) ?_
                clear hK K
                repeat (first
                  | ((with_reducible refine wpSeq_skip (o := ⟨_, _, _, _, _, _⟩) (by with_unfolding_all exact rfl) (by with_unfolding_all exact rfl) ?_); simp only [Act.put, List.setIfInBounds_toArray, List.set_cons_zero, List.set_cons_succ])
                  | ((with_reducible refine wpSeq_free (o := ⟨_, _, _, _, _, _⟩) (by with_unfolding_all exact rfl) (by with_unfolding_all exact rfl) (fun K hK => ?_)); go_big_quiet_op; (refine hK _ ?_; clear hK K)))
                refine wpSeq_nil ?_
                have hS6 := hS5d.write hA6 hd6
                have hO6 := hO5d.aside hA6 (fun q hq => by rw [List.mem_singleton] at hq; subst hq; exact hVl)
                refine over_world (R := fun W => OwnBs W B1 (.slice (some ⟨b2, o2, none⟩) m c9) Bl ∧ SyS F w W R V r rd3 u1 (.slice (some ⟨b1, o1, none⟩) NW q9)) ⟨hO6, hS6⟩ ?_
                clear hO6 hS6 hd6 hA6 hcl g0 g1 hne hS5d hO5d hby7d v05 f05 hS5 hO5 hby7 hB5 hO hS f0 f1 f2 f3 f4 hby
                rintro w7 ⟨hO7, hS7⟩
                by_cases hE0 : E = 0
                · have hEI : ((E : Int) != 0) = false := by rw [hE0]; rfl
                  have hp1 : putsR (rd, false) (P ++ Bl.take (j + 1)) = (rd3, false) := by rw [HST.out.2.2, HST.out.1, hE0]; rfl
                  have HP1 := Lib.hid hp1
                  clear hp1 hE0
                  go_wp2
                  go_roundw
                  case rel => exact ⟨j + 1, rd3, by omega, by go_num, HP1.out, hO7, hS7⟩
                  case measure => simp [intOf]; omega
                · have hEI : ((E : Int) != 0) = true := by rw [bne_iff_ne]; omega
                  have hst := HST.out.2.1 hE0
                  have c4 := hS7.log.c4
                  have f4 := hS7.log.free 4
                  have hst2 := hS7.log.stored (r' := { r with off := true }) 4 (.bool true) rfl
                  have hfin := HPO.out _ (.returned (.int .i64 11)) (w7.setCell ⟨R, 4, none⟩ (.bool true)) u1 (.slice (some ⟨b1, o1, none⟩) NW q9) hst rfl ⟨hst2, (heap_setCell_other w7 ⟨R, 4, none⟩ V _ (Ne.symm HRV.out)).trans hS7.dev, hS7.o1.setR hS7.log 4 _, hS7.o2.setR hS7.log 4 _, hS7.as_.setCell ⟨R, 4, none⟩ _ (fun _ => by simp)⟩
                  have HF := Lib.hid hfin
                  clear hfin hst hst2 hE0
                  go_wp2
                  go_ret
                  exact HF.out
              · have hje : j = m := by omega
                subst hje
                have hjI : ¬ ((j : Nat) : Int) < (j : Int) := by omega
                rw [List.take_of_length_le (by omega), ← hnext] at hpu
                have HPU := Lib.hid hpu
                clear hpu hnext hcutW hcutS hbly
                go_wp2
                go_roundw
                case rel => exact ⟨i + 1, rd2, by omega, by go_num, HPU.out, hS⟩
                case measure => simp [intOf]; omega
          · have hie : i = NW := by omega
            subst hie
            have hiI : ¬ ((i : Nat) : Int) < (i : Int) := by omega
            rw [List.take_of_length_le (by rw [← HNW.out]; exact Nat.le_refl _)] at hpu
            have HPU := Lib.hid hpu
            clear hpu
            go_wp2
            go_meet
            exact ⟨rd1, HPU.out, hS⟩
      case rest =>
        obtain ⟨rd1, hpu, hS⟩ := hcut
        obtain ⟨a1, q1, rfl, _, _, hno1⟩ := hS.o1.slice
        obtain ⟨H, hH⟩ : ∃ H, H = headR r := ⟨_, rfl⟩
        have c3 := hS.log.c3
        have f3 := hS.log.free 3
        have hst1 : RLogAt (wc.setCell ⟨R, 3, none⟩ (.int .u64 (H : Int))) R V ⟨r.L, r.W, H, false⟩ (.slice a1 r.L.length q1) (.slice a2 NW q2) := hS.log.stored (r' := ⟨r.L, r.W, H, false⟩) 3 (.int .u64 (H : Int)) (by unfold RLg.cells; rw [HO.out]; rfl)
        have hS1 : SyS F w (wc.setCell ⟨R, 3, none⟩ (.int .u64 (H : Int))) R V ⟨r.L, r.W, H, false⟩ rd1 (.slice a1 r.L.length q1) (.slice a2 NW q2) := ⟨hst1, (heap_setCell_other wc ⟨R, 3, none⟩ V _ (Ne.symm HRV.out)).trans hS.dev, hS.o1.setR hS.log 3 _, hS.o2.setR hS.log 3 _, hS.as_.setCell ⟨R, 3, none⟩ _ (fun _ => by simp)⟩
        have hhd := hSh.out wc rd1 _ hS
        rw [← hH] at hhd
        have Hhd := Lib.hid hhd
        have HHd := Lib.hid (And.intro hH hpu)
        clear hhd hH hpu hst1 hS
        go_upto_region 16 with (go_at_call 106; refine Hhd.out.mono ?_; rintro e w5 ⟨rfl, rfl⟩)
        clear c3 f3 Hhd
        refine over_world (R := fun W => SyS F w W R V ⟨r.L, r.W, H, false⟩ rd1 (.slice a1 r.L.length q1) (.slice a2 NW q2)) hS1 ?_
        clear hS1
        rintro w1 hS
        obtain ⟨wd, hwd⟩ : ∃ wd, wd = w1.drew := ⟨_, rfl⟩
        have hSd : SyS F w wd R V ⟨r.L, r.W, H, false⟩ rd1 (.slice a1 r.L.length q1) (.slice a2 NW q2) := by rw [hwd]; exact hS.later (Below.refl _ w1).drew
        have hsz : w.heap.size ≤ wd.heap.size := hSd.as_.size
        obtain ⟨hx1, hnL, rL, l1, l2, l3, l4⟩ := hSd.o1.src
        obtain ⟨hx2, hnW, rW, m1, m2, m3, m4⟩ := hSd.o2.src
        clear hx1 hx2
        have hll := HH.out.1.num.ll
        have hb1 : Below wd.heap.size wd (wd.alloc (.cells #[] 91)) := (Below.refl _ _).alloc (Nat.le_refl _) _
        have hrow1 : (wd.alloc (.cells #[] 91)).ownsRow wd.heap.size 91 3 (.slice (some ⟨wd.heap.size, 0, none⟩) 0 0) ([] : List RTrip).length (rcellsOf []) := World.ownsRow_made wd #[] 0 (Nat.le_refl _) (Nat.zero_le _) rfl
        have l3' : ∀ ad, a1 = some ad → ∀ j u, (rcellsOf rL)[j]? = some u → (wd.alloc (.cells #[] 91)).cell? (ad.add j) = some u := fun ad e j u hu => (hb1.cell (p := ad.add j) (World.block_lt_of_cell? wd _ (l3 ad e j u hu))).trans (l3 ad e j u hu)
        have hcl := hSd.log
        have e1 : ∀ z : SW (fun W => RLogAt W R V ⟨r.L, r.W, H, false⟩ (.slice a1 r.L.length q1) (.slice a2 NW q2)), z.W.cell? ⟨R, 1, none⟩ = some (.slice a1 r.L.length q1) := fun z => z.h.c1
        have e2 : ∀ z : SW (fun W => RLogAt W R V ⟨r.L, r.W, H, false⟩ (.slice a1 r.L.length q1) (.slice a2 NW q2)), z.W.cell? ⟨R, 2, none⟩ = some (.slice a2 NW q2) := fun z => z.h.c2
        have hne : Nonempty (SW (fun W => RLogAt W R V ⟨r.L, r.W, H, false⟩ (.slice a1 r.L.length q1) (.slice a2 NW q2))) := ⟨⟨wd, hcl⟩⟩
        have HSD := Lib.hid (And.intro hSd (And.intro (And.intro l1 l4) (And.intro (And.intro m1 m4) m3)))
        have hlr : rL.length ≤ 1000000000 := by omega
        have hlr2 : rW.length ≤ 1000000000 := by omega
        have HL2 := Lib.hid l2
        have HM2 := Lib.hid m2
        clear l2 m2
        clear hSd l1 l3 l4 m1 m3 m4 hS
        refine wp_region_seqL (fun W => RLogAt W R V ⟨r.L, r.W, H, false⟩ (.slice a1 r.L.length q1) (.slice a2 NW q2)) 14 [(0, true), (2, true), (3, true), (4, true), (5, true), (7, true), (8, true), (9, true), (10, true), (1, false), (6, false), (11, false), (12, true), (13, true), (14, false)] (by kernel_rfl) (by kernel_rfl) (fun d _ _ _ _ h => by cases d <;> exact h) ((by rw [← hwd]; exact hcl)) ?_
        repeat (first
          | ((with_reducible refine wpSeqL_skip (o := ⟨_, _, _, _, _, _⟩) (by with_unfolding_all exact rfl) (by with_unfolding_all exact rfl) ?_); simp only [Act.put, List.setIfInBounds_toArray, List.set_cons_zero, List.set_cons_succ])
          | ((with_reducible refine wpSeqL_free (o := ⟨_, _, _, _, _, _⟩) (by with_unfolding_all exact rfl) (by with_unfolding_all exact rfl) (fun K hK => ?_)); go_big_quiet_op; (refine hK _ ?_; clear hK K)))
        with_reducible refine wpSeqL_next (o := ⟨_, _, _, _, _, _⟩) (by with_unfolding_all exact rfl) (by with_unfolding_all exact rfl) (fun K hK => ?_)
        go_simp
        rw [show (w1.alloc (Obj.cells #[] 91)).drew = wd.alloc (.cells #[] 91) by rw [hwd]; rfl]
        refine hK.out _ _ (fun _ => hcl.later hb1) ?_
        clear hK K
        repeat (first
          | ((with_reducible refine wpSeqL_skip (o := ⟨_, _, _, _, _, _⟩) (by with_unfolding_all exact rfl) (by with_unfolding_all exact rfl) ?_); simp only [Act.put, List.setIfInBounds_toArray, List.set_cons_zero, List.set_cons_succ])
          | ((with_reducible refine wpSeqL_free (o := ⟨_, _, _, _, _, _⟩) (by with_unfolding_all exact rfl) (by with_unfolding_all exact rfl) (fun K hK => ?_)); go_big_quiet_op; (refine hK _ ?_; clear hK K)))
        with_reducible refine wpSeqL_next (o := ⟨_, _, _, _, _, _⟩) (by with_unfolding_all exact rfl) (by with_unfolding_all exact rfl) (fun K hK => ?_)
        refine wp_append_recs (.tmp 109) (.tmp 113) rfl wd.heap.size (.slice (some ⟨wd.heap.size, 0, none⟩) 0 0) [] (by rw [hwd]; rfl) hrow1 a1 r.L.length q1 rL rfl HL2.out.symm hnL l3' (by simp only [List.length_nil]; omega) hb1.size ?_
        intro v3 w3 hrow3 hg3 hwh3
        obtain ⟨a3, n3, c3, rfl⟩ : ∃ a n c, v3 = .slice a n c := by
          rcases hrow3.2 with ⟨rfl, _⟩ | ⟨gg, cap, cur, rfl, _⟩
          · exact ⟨_, _, _, rfl⟩
          · exact ⟨_, _, _, rfl⟩
        simp only [Act.put, List.setIfInBounds_toArray, List.set_cons_zero, List.set_cons_succ]
        rw [List.nil_append] at hrow3
        have hb3 : Below wd.heap.size wd w3 := hb1.grown hg3 hb1.size (fun q e => by cases e; exact Nat.le_refl _)
        have m3' : ∀ ad, a2 = some ad → ∀ j u, (rcellsOf rW)[j]? = some u → w3.cell? (ad.add j) = some u := fun ad e j u hu => (hb3.cell (p := ad.add j) (World.block_lt_of_cell? wd _ (HSD.out.2.2.2 ad e j u hu))).trans (HSD.out.2.2.2 ad e j u hu)
        refine hK.out _ _ (fun _ => hcl.later hb3) ?_
        clear hK K
        repeat (first
          | ((with_reducible refine wpSeqL_skip (o := ⟨_, _, _, _, _, _⟩) (by with_unfolding_all exact rfl) (by with_unfolding_all exact rfl) ?_); simp only [Act.put, List.setIfInBounds_toArray, List.set_cons_zero, List.set_cons_succ])
          | ((with_reducible refine wpSeqL_free (o := ⟨_, _, _, _, _, _⟩) (by with_unfolding_all exact rfl) (by with_unfolding_all exact rfl) (fun K hK => ?_)); go_big_quiet_op; (refine hK _ ?_; clear hK K)))
        with_reducible refine wpSeqL_next (o := ⟨_, _, _, _, _, _⟩) (by with_unfolding_all exact rfl) (by with_unfolding_all exact rfl) (fun K hK => ?_)
        refine wp_append_recs (.tmp 114) (.tmp 118) rfl wd.heap.size (.slice a3 n3 c3) rL rfl hrow3 a2 NW q2 rW rfl HM2.out.symm hnW m3' (by omega) hb3.size ?_
        intro v4 w4 hrow4 hg4 hwh4
        obtain ⟨a4, n4, c4, rfl⟩ : ∃ a n c, v4 = .slice a n c := by
          rcases hrow4.2 with ⟨rfl, _⟩ | ⟨gg, cap, cur, rfl, _⟩
          · exact ⟨_, _, _, rfl⟩
          · exact ⟨_, _, _, rfl⟩
        simp only [Act.put, List.setIfInBounds_toArray, List.set_cons_zero, List.set_cons_succ]
        have hb4 : Below wd.heap.size wd w4 := hb3.grown hg4 hb3.size (fun q e => (World.ownsRow.lt hrow3 q e).1)
        have hcl4 := hcl.later hb4
        have c14 := hcl4.c1
        have f14 := hcl4.free 1
        refine hK.out _ _ (fun _ => hcl4) ?_
        clear hK K
        repeat (first
          | ((with_reducible refine wpSeqL_skip (o := ⟨_, _, _, _, _, _⟩) (by with_unfolding_all exact rfl) (by with_unfolding_all exact rfl) ?_); simp only [Act.put, List.setIfInBounds_toArray, List.set_cons_zero, List.set_cons_succ])
          | ((with_reducible refine wpSeqL_free (o := ⟨_, _, _, _, _, _⟩) (by with_unfolding_all exact rfl) (by with_unfolding_all exact rfl) (fun K hK => ?_)); go_big_quiet_op; (refine hK _ ?_; clear hK K)))
        with_reducible refine wpSeqL_next (o := ⟨_, _, _, _, _, _⟩) (by with_unfolding_all exact rfl) (by with_unfolding_all exact rfl) (fun K hK => ?_)
        go_simp
        refine hK.out _ _ (fun h => absurd rfl h) ?_
        clear hK K
        repeat (first
          | ((with_reducible refine wpSeqL_skip (o := ⟨_, _, _, _, _, _⟩) (by with_unfolding_all exact rfl) (by with_unfolding_all exact rfl) ?_); simp only [Act.put, List.setIfInBounds_toArray, List.set_cons_zero, List.set_cons_succ])
          | ((with_reducible refine wpSeqL_free (o := ⟨_, _, _, _, _, _⟩) (by with_unfolding_all exact rfl) (by with_unfolding_all exact rfl) (fun K hK => ?_)); go_big_quiet_op; (refine hK _ ?_; clear hK K)))
        refine wpSeqL_nil ?_
        obtain ⟨hSd, ⟨l1, l4⟩, ⟨m1, m4⟩, _⟩ := HSD.out
        have hS4 := hSd.later hb4
        have hbod : ∀ p ∈ rL ++ rW, OwnB w4 0 (.slice p.2.1 p.1.body.length p.2.2) p.1.body ∧ ∀ q, (Value.slice p.2.1 p.1.body.length p.2.2).ownBlock = some q → ¬ F q := fun p hp => by
          rcases List.mem_append.1 hp with hp | hp
          · exact ⟨(l4 p hp).1.later hb4, (l4 p hp).2⟩
          · exact ⟨(m4 p hp).1.later hb4, (m4 p hp).2⟩
        have hU : WinRs F w4 (.slice a4 n4 c4) (r.L ++ r.W) := WinRs.of (rL ++ rW) (by rw [List.map_append, l1, m1]) hrow4 hbod fun q hq hf => by have z1 := (World.ownsRow.lt hrow4 q hq).1; have := HH.out.2 q hf; omega
        have hst5 := hS4.log.stored (r' := ⟨r.L ++ r.W, r.W, H, false⟩) (v1 := .slice a4 n4 c4) (v2 := .slice a2 NW q2) 1 (.slice a4 n4 c4) rfl
        have hU5 := hU.setR hS4.log 1 (.slice a4 n4 c4)
        have hd5 : RefAt (w4.setCell ⟨R, 1, none⟩ (.slice a4 n4 c4)) V rd1 := (heap_setCell_other w4 ⟨R, 1, none⟩ V _ (Ne.symm HRV.out)).trans hS4.dev
        have ha5 := hS4.as_.setCell ⟨R, 1, none⟩ (.slice a4 n4 c4) (fun _ => by simp)
        have c25 := hst5.c2
        have f25 := hst5.free 2
        have hst6 := hst5.stored (r' := ⟨r.L ++ r.W, [], H, false⟩) (v1 := .slice a4 n4 c4) (v2 := .slice none 0 0) 2 (.slice none 0 0) rfl
        have hU6 := hU5.setR hst5 2 (.slice none 0 0)
        have hd6 : RefAt ((w4.setCell ⟨R, 1, none⟩ (.slice a4 n4 c4)).setCell ⟨R, 2, none⟩ (.slice none 0 0)) V rd1 := (heap_setCell_other _ ⟨R, 2, none⟩ V _ (Ne.symm HRV.out)).trans hd5
        have ha6 := ha5.setCell ⟨R, 2, none⟩ (.slice none 0 0) (fun _ => by simp)
        have hfin := HPO.out (rd1, false) (.returned (.int .i64 0)) _ _ _ HHd.out.2 rfl ⟨by have : syncR false r = ⟨r.L ++ r.W, [], H, false⟩ := (by rw [HHd.out.1]; rfl); rw [this]; exact hst6, hd6, hU6, WinRs.nil _ _, ha6⟩
        have HF := Lib.hid hfin
        clear hfin hst6 hU6 hd6 ha6 ha5 hd5 hU5 hst5 hU hbod hS4 hSd
        go_wp2
        go_ret
        exact HF.out
end Go.Proofs.Ytdlbjllgdikadaa
