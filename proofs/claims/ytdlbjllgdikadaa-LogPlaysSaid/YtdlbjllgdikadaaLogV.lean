/- log, the document's: Wait. -/
import Derived.Test.YtdlbjllgdikadaaLogT
namespace Go.Proofs.Ytdlbjllgdikadaa
open Go.RowKit
set_option linter.unusedVariables false
set_option linter.unusedSimpArgs false

def RWaitPost (F : Nat → Prop) (R V n : Nat) (r : RLg) (rd : RDev) (u1 : Value) (k : UInt8) (l : List UInt8) (w : World) (e : Ending) (w' : World) : Prop :=
  e = .returned (.int .i64 (waitRE n r k l : Nat)) ∧ ∃ u2', RLogAt w' R V (waitRG n r k l) u1 u2' ∧ WinRs F w' u1 r.L ∧ WinRs F w' u2' (waitRG n r k l).W ∧ Aside [R] w w'

theorem RWaitPost.same {F : Nat → Prop} {R V n : Nat} {r : RLg} {rd : RDev} {u1 u2 : Value} {k : UInt8} {l : List UInt8} {w w' : World} {E : Nat} (h : RSt F w R V n r rd u1 u2) (hE : waitRE n r k l = E) (h0 : E ≠ 0) (hb : Below w.heap.size w w') :
    RWaitPost F R V n r rd u1 k l w (.returned (.int .i64 (E : Int))) w' := by
  have hG : waitRG n r k l = r := by unfold waitRG; rw [hE, if_neg h0]
  unfold RWaitPost
  rw [hG, hE]
  exact ⟨rfl, u2, h.at_.later hb, h.o1.later hb, h.o2.later hb, Aside.below _ hb⟩

set_option maxRecDepth 100000 in
set_option maxHeartbeats 4000000 in
theorem rwait_calls (F : Nat → Prop) (R V n : Nat) (r : RLg) (rd : RDev) (u1 u2 : Value) (k : UInt8) (a : Option Addr) (l : List UInt8) (c : Nat) (w : World) (h : RSt F w R V n r rd u1 u2) (hF : ∀ q, F q → q < w.heap.size)
    (hby : IsBytes w a l) (hn : a = none → l.length = 0 ∧ c = 0) (hl : l.length ≤ 1000000000) :
    Calls Try.prog 79 #[.pointer (some ⟨R, 0, none⟩), .int .u8 (k.toNat : Int), .slice a l.length c] w (RWaitPost F R V n r rd u1 k l w) := by
  have c4 := h.at_.c4
  cases ho : r.off with
  | true =>
    rw [ho] at c4
    have hfin := Lib.hid (RWaitPost.same (k := k) (l := l) h (show waitRE n r k l = 11 by unfold waitRE; rw [ho, if_pos rfl]) (by decide) (Below.refl _ _))
    clear h ho
    go_enter Try.func79, Try.ntmps79
    go_wp2
    go_ret
    exact hfin.out
  | false =>
    rw [ho] at c4
    obtain ⟨st, hst⟩ : ∃ st, st = stateR r k := ⟨_, rfl⟩
    obtain ⟨fl, hfl⟩ : ∃ fl, fl = fullR n r (manyN l.length) := ⟨_, rfl⟩
    have hE : waitRE n r k l = if st then 16 else if 524288 < l.length then 3 else if fl then 10 else 0 := by unfold waitRE; rw [ho, if_neg Bool.false_ne_true, ← hst, ← hfl]
    obtain ⟨m, hm⟩ : ∃ m, m = manyN l.length := ⟨_, rfl⟩
    have hm1 := manyN_pos l.length
    have hm2 := manyN_le l.length
    have HE := Lib.hid hE
    have HST := Lib.hid hst
    have HFL := Lib.hid hfl
    have HM := Lib.hid hm
    have hmany := Lib.hid (fun W => refmany_calls l.length (by omega) W)
    have hhd := h.num.hd
    have hll := h.num.ll
    have hlw := h.num.lw
    have hn40 := h.n40
    obtain ⟨a1, q1, e1, _, hI1, _⟩ := h.o1.slice
    obtain ⟨a2, q2, e2, _, hI2, _⟩ := h.o2.slice
    have hck1 := Lib.hid (checked_calls a1 r.L q1 w hI1 (by omega))
    have hck2 := Lib.hid (checked_calls a2 r.W q2 w hI2 (by omega))
    have HH := Lib.hid (And.intro h (And.intro hby (And.intro hn hF)))
    have c1 := h.at_.c1
    have c2 := h.at_.c2
    subst e1
    subst e2
    rw [← hm] at hm1 hm2 hmany HFL
    clear hE hst hfl hm h hby hn hI1 hI2 hF ho
    go_enter Try.func79, Try.ntmps79
    go_upto_region 3 with fail
    go_cut [29] from 12 to 30 (fun qv wc => qv = .bool st ∧ w = wc)
    case first =>
      have hk1 := k_int k 1
      have h1t : ((1 : UInt8).toNat : Int) = 1 := rfl
      rw [h1t] at hk1
      unfold stateR at HST
      have tok := True.intro
      cases hkk : (k == 1) with
      | false =>
        rw [hkk] at hk1
        have hs0 : st = false := by rw [HST.out, hkk]; rfl
        subst hs0
        go_wp2
        go_meet
        exact ⟨rfl, rfl⟩
      | true =>
        rw [hkk] at hk1
        have HK := Lib.hid hkk
        clear hkk
        cases hL : r.L.any isCk with
        | true =>
          rw [hL] at hck1
          have hs0 : st = false := by rw [HST.out, HK.out, hL]; rfl
          subst hs0
          clear hL
          go_wp2_with (go_at_call 104; refine hck1.out.mono ?_; rintro e w4 ⟨rfl, rfl⟩)
          go_meet
          exact ⟨rfl, rfl⟩
        | false =>
          rw [hL] at hck1
          have hs0 : st = !(r.W.any isCk) := by rw [HST.out, HK.out, hL]; rfl
          have HS0 := Lib.hid hs0
          clear hL hs0
          go_wp2_with (first
            | (go_at_call 104; have _t := tok; clear tok _t; refine hck1.out.mono ?_; rintro e w4 ⟨rfl, rfl⟩)
            | (go_at_call 104; refine hck2.out.mono ?_; rintro e w5 ⟨rfl, rfl⟩))
          go_meet
          exact ⟨by rw [HS0.out], rfl⟩
    case rest =>
      obtain ⟨rfl, rfl⟩ := hcut
      cases st with
      | true =>
        rw [if_pos rfl] at HE
        go_wp2
        go_ret
        exact RWaitPost.same HH.out.1 HE.out (by decide) (Below.refl _ _)
      | false =>
        rw [if_neg Bool.false_ne_true] at HE
        by_cases hlong : 524288 < l.length
        · have hlI : (524288 : Int) < (l.length : Int) := by omega
          rw [if_pos hlong] at HE
          go_wp2
          go_ret
          exact RWaitPost.same HH.out.1 HE.out (by decide) (Below.refl _ _)
        · have hlI : ¬ (524288 : Int) < (l.length : Int) := by omega
          rw [if_neg hlong] at HE
          have hrm := Lib.hid (rroom_calls F R V n r rd _ _ w HH.out.1)
          go_upto_region 8 with (go_at_call 28; refine (hmany.out _).mono ?_; rintro e w2 ⟨rfl, rfl⟩)
          go_cut [47] from 36 to 48 (fun qv wc => qv = .bool fl ∧ Below w.heap.size w wc)
          case first =>
            unfold fullR at HFL
            obtain ⟨ro, hro⟩ : ∃ ro : Int, ro = roomR n r := ⟨_, rfl⟩
            obtain ⟨H, hH⟩ : ∃ H : Nat, H = headR r := ⟨_, rfl⟩
            have hhead := Lib.hid (fun W (hb : Below w.heap.size w W) => (HH.out.1.later hb).head)
            rw [← hro] at HFL hrm
            rw [← hH] at HFL hhd hhead
            clear hro hH
            have hw1 : IntKind.u64.wrap ((m : Nat) : Int) = (m : Int) := by rw [IntKind.wrap_u64]; omega
            have hw2 : IntKind.u64.wrap ((H : Int) + (m : Int)) = (H : Int) + (m : Int) := by rw [IntKind.wrap_u64]; omega
            by_cases hr1 : ro < (m : Int)
            · have hr1d : decide (ro < (m : Int)) = true := decide_eq_true hr1
              have hfl : fl = true := by rw [HFL.out, hr1d]; rfl
              subst hfl
              go_wp2_with (go_at_call 105; refine hrm.out.mono ?_; rintro e w3 ⟨rfl, hB3⟩)
              go_meet
              exact ⟨rfl, hB3⟩
            · have hr1d : decide (ro < (m : Int)) = false := decide_eq_false hr1
              have hfl : fl = decide ((1099511627777 : Int) < (H : Int) + (m : Int)) := by
                rw [HFL.out, hr1d, Bool.false_or]
                exact decide_eq_decide.2 (by omega)
              have HFL2 := Lib.hid hfl
              clear hfl
              go_wp2_with (first
                | (go_at_call 105; refine hrm.out.mono ?_; rintro e w3 ⟨rfl, hB3⟩)
                | (go_at_call 106; refine (hhead.out _ hB3).mono ?_; rintro e w4 ⟨rfl, rfl⟩))
              go_meet
              exact ⟨by rw [HFL2.out], hB3⟩
          case rest =>
            obtain ⟨rfl, hB2⟩ := hcut
            clear hrm hck1 hck2 HFL HST hmany c1 c2 c4
            cases fl with
            | true =>
              rw [if_pos rfl] at HE
              go_wp2
              go_ret
              exact RWaitPost.same HH.out.1 HE.out (by decide) hB2
            | false =>
              rw [if_neg Bool.false_ne_true] at HE
              have hG : waitRG n r k l = { r with W := r.W ++ [⟨k, headR r, l⟩] } := by unfold waitRG; rw [if_pos HE.out]
              have HG := Lib.hid hG
              clear hG
              go_upto_region 10 with fail
              obtain ⟨h, hby, hno, hF⟩ := HH.out
              have hF2 : ∀ q, F q → q < wc.heap.size := fun q hq => Nat.lt_of_lt_of_le (hF q hq) hB2.size
              have hR := h.later hB2
              have hbyc := Lib.hid (fun W (hb : Below wc.heap.size wc W) => (hby.later hB2).later hb)
              have hb1 : Below wc.heap.size wc (wc.alloc (.cells #[] 91)) := (Below.refl _ _).alloc (Nat.le_refl _) _
              have hR1 := hR.later hb1
              have cw2 : (wc.alloc (.cells #[] 91)).cell? ⟨R, 2, none⟩ = some (.slice a2 r.W.length q2) := hR1.at_.c2
              obtain ⟨_, hno2, r2, t1, t2, t3, t4⟩ := hR.o2.src
              have t3' : ∀ ad, (a2 : Option Addr) = some ad → ∀ j u, (rcellsOf r2)[j]? = some u → (wc.alloc (.cells #[] 91)).cell? (ad.add j) = some u := fun ad e j u hu => (hb1.cell (p := ad.add j) (World.block_lt_of_cell? wc _ (t3 ad e j u hu))).trans (t3 ad e j u hu)
              have hrow1 : (wc.alloc (.cells #[] 91)).ownsRow wc.heap.size 91 3 (.slice (some ⟨wc.heap.size, 0, none⟩) 0 0) ([] : List RTrip).length (rcellsOf []) := World.ownsRow_made wc #[] 0 (Nat.le_refl _) (Nat.zero_le _) rfl
              have hhead := Lib.hid (fun W (hb : Below wc.heap.size wc W) => (hR.later hb).head)
              have hbod : ∀ W, Below wc.heap.size wc W → ∀ p ∈ r2, OwnB W 0 (.slice p.2.1 p.1.body.length p.2.2) p.1.body ∧ ∀ q, (Value.slice p.2.1 p.1.body.length p.2.2).ownBlock = some q → ¬ F q := fun W hb p hp => ⟨(t4 p hp).1.later hb, (t4 p hp).2⟩
              have hlw2 : r2.length ≤ 1000000000 := by omega
              have hat := Lib.hid (fun W (hb : Below wc.heap.size wc W) => hR.at_.later hb)
              obtain ⟨H, hH⟩ : ∃ H, H = headR r := ⟨_, rfl⟩
              rw [← hH] at hhead HG
              have hhd2 : H ≤ 1099511627777 := by omega
              have HT := Lib.hid (And.intro t1 (And.intro hR (And.intro hF2 hbod)))
              clear h hby hF hF2 hR hR1 t1 t3 t4 hbod hhd hH HH
              go_upto_region 11 with (first
                | (at_builtin; refine wpList_append_recs rfl (.tmp 49) (.tmp 53) rfl wc.heap.size (.slice (some ⟨wc.heap.size, 0, none⟩) 0 0) [] rfl hrow1 a2 r.W.length q2 r2 rfl t2.symm hno2 t3' (by simp only [List.length_nil]; omega) (by rw [World.size_alloc]; omega) ?_; intro v3 w3 hrow3 hg3; obtain ⟨a3, n3, c3, rfl⟩ : ∃ a n c, v3 = .slice a n c := (by rcases hrow3.2 with ⟨rfl, _⟩ | ⟨gg, cap, cur, rfl, _⟩; exact ⟨_, _, _, rfl⟩; exact ⟨_, _, _, rfl⟩); have hb3 : Below wc.heap.size wc w3 := hb1.grown hg3 (by rw [World.size_alloc]; omega) (fun q e => by cases e; exact Nat.le_refl _); rw [List.nil_append] at hrow3; clear hg3 hb1 hrow1 cw2 t3')
                | (go_at_call 106; refine (hhead.out _ hb3).mono ?_; rintro e w4 ⟨rfl, rfl⟩)
                | (at_builtin; refine wpList_append_bytes rfl (.tmp 58) (.tmp 59) rfl w3.heap.size (.slice (some ⟨w3.heap.size, 0, none⟩) 0 0) [] rfl (OwnB.made w3 w3.heap.size (Nat.le_refl _)) a l.length c l rfl rfl hno ((hbyc.out _ hb3).alloc _) (by simp only [List.length_nil]; omega) (by simp) ?_; intro v5 w5 hown5 hg5; rw [List.nil_append] at hown5; obtain ⟨a5, c5, rfl, _⟩ := hown5.slice; have hb35 : Below w3.heap.size w3 w5 := ((Below.refl _ w3).alloc (Nat.le_refl _) _).grown hg5 (by simp) (fun q e => by simp [Value.ownBlock] at e; omega); clear hg5)
                | (at_builtin; have hb56 : Below w5.heap.size w5 (w5.alloc (.cells #[.int .u8 (k.toNat : Int), .int .u64 (H : Int), .slice a5 l.length c5] 91)) := (Below.refl _ w5).alloc (Nat.le_refl _) _; have hrow6 := ownsRow_later (ownsRow_later hrow3 hb35) hb56; have hcn : ∀ ad, some (⟨w5.heap.size, 0, none⟩ : Addr) = some ad → ∀ j u, (rcellsOf [((⟨k, H, l⟩ : Rc), a5, c5)])[j]? = some u → (w5.alloc (.cells #[.int .u8 (k.toNat : Int), .int .u64 (H : Int), .slice a5 l.length c5] 91)).cell? (ad.add j) = some u := (fun ad e j u hu => by cases e; have := cell_recT w5 ⟨k, H, l⟩ a5 c5 j u (by simpa [rcellsOf] using hu); rw [Addr.add_lit, Nat.zero_add]; simpa using this); refine wpList_append_recs rfl (.tmp 54) (.tmp 62) rfl wc.heap.size (.slice a3 n3 c3) r2 rfl hrow6 (some ⟨w5.heap.size, 0, none⟩) 1 1 [((⟨k, H, l⟩ : Rc), a5, c5)] rfl rfl (fun e => nomatch e) hcn (by simp only [List.length_cons, List.length_nil]; omega) (by rw [World.size_alloc]; have := hb3.size; have := hb35.size; omega) ?_; intro v7 w7 hrow7 hg7; obtain ⟨a7, n7, c7, rfl⟩ : ∃ a n c, v7 = .slice a n c := (by rcases hrow7.2 with ⟨rfl, _⟩ | ⟨gg, cap, cur, rfl, _⟩; exact ⟨_, _, _, rfl⟩; exact ⟨_, _, _, rfl⟩); have hb6 : Below wc.heap.size wc (w5.alloc (.cells #[.int .u8 (k.toNat : Int), .int .u64 (H : Int), .slice a5 l.length c5] 91)) := below_call (below_call hb3 (Nat.le_refl _) hb35) (Nat.le_refl _) hb56; have hb7 : Below wc.heap.size wc w7 := hb6.grown hg7 hb6.size (fun q e => (World.ownsRow.lt hrow3 q e).1); have hown7 : OwnB w7 w3.heap.size (.slice a5 l.length c5) l := World.ownsRow.kept (ownsRow_later hown5 hb56) hg7 (by
                    cases e : (Value.slice a5 l.length c5).ownBlock with
                    | none => exact .inl rfl
                    | some q => right; intro e2; have z1 := (World.ownsRow.lt hown5 q e).1; have z2 := (World.ownsRow.lt hrow3 q e2.symm).2; omega); have hat7 := hat.out _ hb7; have f27 := hat7.free 2; have c27 := hat7.c2; clear hcn hrow6 hg7 hb56))
              have hst := hat7.stored (r' := { r with W := r.W ++ [⟨k, H, l⟩] }) 2 (.slice a7 n7 c7) rfl
              obtain ⟨t1, hR, hF2, hbod⟩ := HT.out
              have hoff : ∀ (c2 : Array Value) t fz, w7.heap[R]? = some (.cells c2 t fz) → (t = 91 ∨ t = 5) → F R := fun c2 t fz e1 e2 => by
                rw [show w7.heap[R]? = _ from hat7] at e1
                simp at e1
                rcases e2 with e2 | e2
                · rw [e2] at e1; exact absurd e1.2.1 (by decide)
                · rw [e2] at e1; exact absurd e1.2.1 (by decide)
              have hU1 := (hR.o1.later hb7).setCell R 2 (.slice a7 n7 c7) hoff
              have hU2 : WinRs F w7 (.slice a7 n7 c7) (r.W ++ [⟨k, H, l⟩]) := WinRs.of (r2 ++ [((⟨k, H, l⟩ : Rc), a5, c5)]) (by rw [List.map_append, t1]; rfl) hrow7 (fun p hp => by
                  rcases List.mem_append.1 hp with hp | hp
                  · exact hbod w7 hb7 p hp
                  · rw [List.mem_singleton] at hp
                    subst hp
                    exact ⟨hown7.mono (Nat.zero_le _), fun q hq hf => by have z1 := (World.ownsRow.lt hown7 q hq).1; have := hF2 q hf; have := hb3.size; omega⟩) fun q hq hf => by have z1 := (World.ownsRow.lt hrow7 q hq).1; have := hF2 q hf; omega
              have hU2' := hU2.setCell R 2 (.slice a7 n7 c7) hoff
              have hA : Aside [R] w (w7.setCell ⟨R, 2, none⟩ (.slice a7 n7 c7)) := (Aside.below [R] (below_call hB2 (Nat.le_refl _) hb7)).setCell ⟨R, 2, none⟩ _ (fun _ => by simp)
              have HFIN := Lib.hid (And.intro hst (And.intro hU1 (And.intro hU2' hA)))
              clear hst hU1 hU2 hU2' hA
              go_wp2
              go_ret
              unfold RWaitPost
              rw [HE.out, HG.out]
              exact ⟨rfl, _, HFIN.out⟩
end Go.Proofs.Ytdlbjllgdikadaa
