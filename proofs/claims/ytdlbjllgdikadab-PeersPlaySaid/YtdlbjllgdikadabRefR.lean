/- The document's round of peers: Turn, Hurry, Tick. -/
import Derived.Test.YtdlbjllgdikadabRefQ
namespace Go.Proofs.Ytdlbjllgdikadab
open Go.RowKit
set_option linter.unusedVariables false

theorem refEnd (V G cap : Nat) (d : Rd) (i c : Nat) (good : Bool) (w : World) (h : RfAt w V G cap d) (hok : RdOk c d) (hc : c ≤ 1099511627776) (hi : i < d.n) :
    Calls Try.prog 31 #[.pointer (some ⟨V, 0, none⟩), .int .i64 (i : Int), .bool good] w fun e w' => e = .returned (.tuple #[]) ∧ RefPost V G (endD d i good) w w' := by
  cases good
  · exact refEnd_bad V G cap d i c w h hok hc hi
  · exact refEnd_good V G cap d i c w h hok hc hi
theorem RefPost.refl {V G cap : Nat} {d : Rd} {w : World} (h : RfAt w V G cap d) : RefPost V G d w w := ⟨G, cap, h, .inl rfl, Aside.refl _ _⟩

theorem refTurn_calls (V G cap : Nat) (d : Rd) (i : Int) (good : Bool) (c : Nat) (w : World) (h : RfAt w V G cap d) (hok : RdOk c d) (hc : c ≤ 1099511627776) :
    Calls Try.prog 29 #[.pointer (some ⟨V, 0, none⟩), .int .i64 i, .bool good] w fun e w' => e = .returned (.int .i64 (turnE d i : Nat)) ∧ RefPost V G (turnD d i good) w w' := by
  have his := refIs_calls V G cap d i w h
  cases hp : isP d i with
  | false =>
    have hE : turnE d i = 2 := by unfold turnE; rw [hp]; rfl
    have hD : turnD d i good = d := by unfold turnD; rw [hE]; rfl
    rw [hE, hD]
    rw [hp] at his
    clear hE hD hp
    go_enter Try.func29, Try.ntmps29
    go_wp2_with (go_at_call 20; refine his.mono ?_; rintro e w2 ⟨rfl, rfl⟩)
    go_ret
    exact ⟨rfl, RefPost.refl h⟩
  | true =>
    obtain ⟨k, rfl, hk, hks⟩ := isP_in hp
    have hk' : (k : Int) < (d.n : Int) := by omega
    have c4 := h.c4
    have s2 := h.s2 k hk
    cases hb : (d.by_ k).busy with
    | false =>
      have hE : turnE d k = 16 := by unfold turnE; rw [hp, Int.toNat_natCast, hb]; rfl
      have hD : turnD d k good = d := by unfold turnD; rw [hE]; rfl
      rw [hE, hD]
      rw [hp] at his
      rw [hb] at s2
      clear hE hD hp hb
      go_enter Try.func29, Try.ntmps29
      go_wp2_with (go_at_call 20; refine his.mono ?_; rintro e w2 ⟨rfl, rfl⟩)
      go_ret
      exact ⟨rfl, RefPost.refl h⟩
    | true =>
      have hE : turnE d k = 0 := by unfold turnE; rw [hp, Int.toNat_natCast, hb]; rfl
      have hD : turnD d k good = endD d k good := by unfold turnD; rw [hE]; rfl
      rw [hE, hD]
      rw [hp] at his
      rw [hb] at s2
      clear hE hD hp hb
      have hend := refEnd V G cap d k c good w h hok hc hk
      go_enter Try.func29, Try.ntmps29
      go_wp2_with (first
        | (go_at_call 20; refine his.mono ?_; rintro e w2 ⟨rfl, rfl⟩)
        | (go_at_call 31; refine hend.mono ?_; rintro e w3 ⟨rfl, h3⟩))
      go_ret
      exact ⟨rfl, h3⟩

set_option maxRecDepth 100000 in
set_option maxHeartbeats 4000000 in
theorem refHurry_calls (V G cap : Nat) (d : Rd) (i : Int) (c : Nat) (w : World) (h : RfAt w V G cap d) (hok : RdOk c d) :
    Calls Try.prog 30 #[.pointer (some ⟨V, 0, none⟩), .int .i64 i] w fun e w' => e = .returned (.int .i64 (hurryE d i : Nat)) ∧ RefPost V G (hurryD d i) w w' := by
  have his := refIs_calls V G cap d i w h
  cases hp : isP d i with
  | false =>
    have hE : hurryE d i = 2 := by unfold hurryE; rw [hp]; rfl
    have hD : hurryD d i = d := by unfold hurryD; rw [hE]; rfl
    rw [hE, hD]
    rw [hp] at his
    clear hE hD hp
    go_enter Try.func30, Try.ntmps30
    go_wp2_with (go_at_call 20; refine his.mono ?_; rintro e w2 ⟨rfl, rfl⟩)
    go_ret
    exact ⟨rfl, RefPost.refl h⟩
  | true =>
    obtain ⟨k, rfl, hk, hks⟩ := isP_in hp
    have hk' : (k : Int) < (d.n : Int) := by omega
    have c4 := h.c4
    have c3 := h.c3
    have s2 := h.s2 k hk
    have s0 := h.s0 k hk
    cases hb : (d.by_ k).busy with
    | true =>
      have hE : hurryE d k = 16 := by unfold hurryE; rw [hp, Int.toNat_natCast, hb]; rfl
      have hD : hurryD d k = d := by unfold hurryD; rw [hE]; rfl
      rw [hE, hD]
      rw [hp] at his
      rw [hb] at s2
      clear hE hD hp hb
      go_enter Try.func30, Try.ntmps30
      go_wp2_with (go_at_call 20; refine his.mono ?_; rintro e w2 ⟨rfl, rfl⟩)
      go_ret
      exact ⟨rfl, RefPost.refl h⟩
    | false =>
      have hE : hurryE d k = 0 := by unfold hurryE; rw [hp, Int.toNat_natCast, hb]; rfl
      have hD : hurryD d k = { d with by_ := updS d.by_ k { d.by_ k with due := min (d.by_ k).due d.now } } := by unfold hurryD; rw [hE]; rfl
      rw [hE]
      rw [hp] at his
      rw [hb] at s2
      clear hE hp hb
      by_cases hdue : (d.by_ k).due ≤ d.now
      · have hD2 : hurryD d k = d := by
          rw [hD, Nat.min_eq_left hdue]
          have e : updS d.by_ k (d.by_ k) = d.by_ := by funext q; unfold updS; split <;> simp_all
          exact congrArg (fun f => ({ d with by_ := f } : Rd)) e
        rw [hD2]
        clear hD hD2
        go_enter Try.func30, Try.ntmps30
        go_upto_region 5 with (go_at_call 20; refine his.mono ?_; rintro e w2 ⟨rfl, rfl⟩)
        go_region
        go_wp2
        go_ret
        exact ⟨rfl, G, cap, h.drew, .inl rfl, (Aside.refl _ _).drew⟩
      · have hdue' : d.now < (d.by_ k).due := by omega
        rw [Nat.min_eq_right (by omega)] at hD
        have HD := Lib.hid hD
        have hrow := h.row
        clear hD
        go_enter Try.func30, Try.ntmps30
        go_upto_region 5 with (go_at_call 20; refine his.mono ?_; rintro e w2 ⟨rfl, rfl⟩)
        go_region
        refine over_world (R := fun Wv => RfAt Wv V G cap d ∧ Aside [V] w Wv) ⟨h.drew, (Aside.refl _ _).drew⟩ ?_
        clear c4 c3 s2 s0 hrow his
        rintro wv ⟨hV, hA⟩
        have c4 := hV.c4
        have hrow := hV.row
        have hVs := hV.lt
        go_upto_region 7 with (first
          | (at_builtin; refine wpList_append_sts rfl (.tmp 31) (.tmp 35) rfl wv rfl rfl G d.n cap d.by_ rfl (hrow.later ((Below.refl _ _).alloc (Nat.le_refl _) _)) (by have := hok.n2; omega) hok.n16 ?_; intro G' cap' w8 hS8 hle8 hG8 hB8; have c48 := (hV.later hB8).c4; have f48 := (hV.later hB8).free 4))
        have hV8 := hV.later hB8
        have hG'V : G' ≠ V := by omega
        have hV9 := hV8.stored (d' := d) (G' := G') (cap' := cap') 4 (.slice (some ⟨G', 0, none⟩) d.n cap') rfl hS8 hG'V hle8
        have hA9 : Aside [V] w (w8.setCell ⟨V, 4, none⟩ (.slice (some ⟨G', 0, none⟩) d.n cap')) := (hA.trans (Aside.below _ hB8)).setCell _ _ (fun _ => by simp)
        have hGw : w.heap.size ≤ G' := by have := hA.size; omega
        refine over_world (R := fun Wv => RfAt Wv V G' cap' d ∧ Aside [V] w Wv) ⟨hV9, hA9⟩ ?_
        clear hV hA hV8 hV9 hA9 hB8 hS8 c48 f48 hrow c4 hVs
        rintro wv ⟨hV, hA⟩
        have c4 := hV.c4
        have c3 := hV.c3
        have s0 := hV.s0 k hk
        have f0 := hV.row.free (k * 4)
        have hP := hV.rowput k 0 hk (by decide) { d.by_ k with due := d.now } (.int .u64 (d.now : Int)) rfl (fun k hk hn => by
          match k with
          | 0 => exact absurd rfl hn
          | 1 => rfl
          | 2 => rfl
          | 3 => rfl
          | n + 4 => omega)
        rw [← HD.out] at hP
        have HP := Lib.hid hP
        clear hP
        go_region
        refine over_world (R := fun Wv => RfAt Wv V G' cap' (hurryD d k) ∧ Aside [V] w Wv) ⟨HP.out.drew, (hA.setCell _ _ (fun e => by have e2 : G' < w.heap.size := e; omega)).drew⟩ ?_
        clear HP hV hA c4 c3 s0 f0
        rintro wv ⟨hV, hA⟩
        go_wp2
        go_ret
        exact ⟨rfl, G', cap', hV, .inr hGw, hA⟩
set_option maxRecDepth 100000 in
set_option maxHeartbeats 8000000 in
theorem refTick_calls (V G cap : Nat) (d : Rd) (c : Nat) (w : World) (h : RfAt w V G cap d) (hok : RdOk c d) (hc : c ≤ 549755813888) :
    Calls Try.prog 27 #[.pointer (some ⟨V, 0, none⟩)] w fun e w' => ∃ v, e = .returned v ∧ OwnN w' w.heap.size v (tickUp d d.n) ∧ RefPost V G (tickTo d d.n) w w' := by
  have c3 := h.c3
  have f3 := h.free 3
  have hnow := hok.now
  have k1 := h.stored (d' := { d with now := d.now + 1 }) (G' := G) (cap' := cap) 3 (.int .u64 ((d.now : Int) + 1)) rfl h.row (fun e => h.ne e.symm) h.le
  rw [← tickTo_zero] at k1
  have a1 := (Aside.refl [V] w).setCell ⟨V, 3, none⟩ (.int .u64 ((d.now : Int) + 1)) (fun _ => by simp)
  have K1 := Lib.hid (And.intro k1 a1)
  have hVl := h.lt
  clear k1 a1
  go_enter Try.func27, Try.ntmps27
  go_wp2
  have k2 := K1.out
  clear K1 h c3 f3
  go_loopw [3, 4] (fun out st wr => ∃ (m G' cap' : Nat), m ≤ d.n ∧ st = .int .i64 (m : Int) ∧ OwnN wr w.heap.size out (tickUp d m) ∧ RfAt wr V G' cap' (tickTo d m) ∧ (G' = G ∨ w.heap.size ≤ G') ∧ Aside [V] w wr) (fun _ st _ => d.n - (intOf st).toNat)
  case atStart => exact ⟨0, G, cap, Nat.zero_le _, rfl, OwnN.nil _ _, k2.1, .inl rfl, k2.2⟩
  case round =>
    clear k2
    obtain ⟨m, G1, cap1, hm, rfl, hO, hR, hG1, hA⟩ := hrel
    have c0 := hR.c0
    have c0' : wr.cell? ⟨V, 0, none⟩ = some (.int .i64 (d.n : Int)) := c0
    clear c0
    by_cases hlt : m < d.n
    · have hlt' : (m : Int) < (d.n : Int) := by omega
      have hsn := hok.since m
      have htok := tickTo_ok hok m
      have hyes := tickTo_yes d m
      have hno := tickTo_no d m
      have huy := tickUp_yes d m
      have hun := tickUp_no d m
      have hn16 := hok.n16
      have c4' : wr.cell? ⟨V, 4, none⟩ = some (.slice (some ⟨G1, 0, none⟩) d.n cap1) := hR.c4
      have c3' : wr.cell? ⟨V, 3, none⟩ = some (.int .u64 ((d.now : Int) + 1)) := hR.c3
      have s2 := hR.s2 m hlt
      have s3 := hR.s3 m hlt
      rw [tickTo_by] at s2 s3
      have hend := refEnd V G1 cap1 (tickTo d m) m (c + 1) false
      have hlen := tickUp_len d m
      obtain ⟨s, hs⟩ : ∃ s, s = d.by_ m := ⟨_, rfl⟩
      rw [← hs] at hsn hyes hno huy hun s2 s3
      have H := Lib.hid (And.intro hyes (And.intro hno (And.intro huy (And.intro hun hend))))
      clear hyes hno huy hun hs hend
      obtain ⟨su, sf, sb, ss⟩ := s
      have hsn' : ss ≤ d.now := hsn
      have s3' : wr.cell? ⟨G1, m * 4 + 3, none⟩ = some (.int .u64 (ss : Int)) := s3
      clear hsn s3
      cases sb with
      | false =>
        have HL := Lib.hid (show late (d.now + 1) ⟨su, sf, false, ss⟩ = false from rfl)
        go_upto_region 6 with fail
        go_region
        go_wp2
        go_roundw
        case rel =>
          obtain ⟨_, h1, _, h2, _⟩ := H.out
          exact ⟨m + 1, G1, cap1, by omega, by go_num, by rw [h2 HL.out]; exact hO, by rw [h1 HL.out]; exact hR.drew, hG1, hA.drew⟩
        case measure => simp [intOf]; omega
      | true =>
        by_cases hlate : ss + 16 ≤ d.now + 1
        · have HL := Lib.hid (show late (d.now + 1) ⟨su, sf, true, ss⟩ = true by simp [late, hlate])
          have hcmp : (ss : Int) + 16 ≤ (d.now : Int) + 1 := by omega
          go_upto_region 6 with fail
          go_region
          refine over_world (R := fun Wv => RfAt Wv V G1 cap1 (tickTo d m) ∧ Aside [V] w Wv ∧ OwnN Wv w.heap.size u3 (tickUp d m)) ⟨hR.drew, hA.drew, hO⟩ ?_
          clear hR hA hO c4' c3' c0' s2 s3'
          rintro wv ⟨hR, hA, hO⟩
          obtain ⟨_, _, _, _, hend⟩ := H.out
          have hend2 := hend wv hR htok (by omega) hlt
          obtain ⟨E, hE⟩ : ∃ E, E = endD (tickTo d m) m false := ⟨_, rfl⟩
          rw [← hE] at hend2
          have HE := Lib.hid hE
          clear hE hend
          have hVw : V < w.heap.size := hVl
          have Own5 := Lib.hid (show ∀ w5, Aside [V] wv w5 → OwnN (w5.alloc (.cells #[.int .i64 (m : Int)] 3)) w.heap.size u3 (tickUp d m) ∧ (w5.alloc (.cells #[.int .i64 (m : Int)] 3)).cell? ⟨w5.heap.size, 0, none⟩ = some (.int .i64 (m : Int)) ∧ w.heap.size ≤ (w5.alloc (.cells #[.int .i64 (m : Int)] 3)).heap.size from fun w5 hg5 => by
            refine ⟨(hO.aside hg5 (fun x hx => by simp at hx; omega)).later ((Below.refl _ _).alloc (Nat.le_refl _) _), by rw [World.cell?_alloc_new]; rfl, ?_⟩
            have := hA.size; have := hg5.size
            rw [World.size_alloc]; omega)
          unfold RefPost at hend2
          go_wp2_with (first
            | (go_at_call 31; (with_reducible refine hend2.mono ?_); rintro e w5 ⟨rfl, G2, cap2, hR5, hG2, hA5⟩; obtain ⟨hO5, hc5, hsz5⟩ := Own5.out w5 hA5)
            | (at_builtin; refine wpList_append_int rfl (.tmp 47) (.tmp 49) rfl w.heap.size u3 (tickUp d m) rfl hO5 m w5.heap.size 1 rfl rfl hc5 (by omega) hsz5 ?_; intro v6 w6 hO6 hg6))
          go_roundw
          case rel =>
            obtain ⟨h1, _, h2, _, _⟩ := H.out
            have hblk : ∀ k, u3.ownBlock = some k → w.heap.size ≤ k ∧ k < wv.heap.size := fun k hk => World.ownsRow.lt hO k hk
            have hb5 := (Below.refl _ w5).alloc (Nat.le_refl _) (.cells #[.int .i64 (m : Int)] 3)
            have hR5' := hR5.later hb5
            have hG2w : G2 = G ∨ w.heap.size ≤ G2 := by
              rcases hG2 with rfl | hG2
              · exact hG1
              · right; have := hA.size; omega
            have hkind : ∀ k, u3.ownBlock = some k → k ≠ G2 := fun k hk e => by
              subst e
              obtain ⟨c9, f9, z9⟩ := Lib.ownsRow_kind hO5 k hk
              obtain ⟨cs, q1, _⟩ := hR5'.row
              rw [q1] at z9
              simp at z9
            have hR6 : RfAt w6 V G2 cap2 E := by
              refine ⟨(hg6.block V hR5'.lt (fun e => by have := hblk V e.symm; omega)).trans hR5'.head, ?_, hR5'.le⟩
              obtain ⟨cs, q1, q2⟩ := hR5'.row
              exact ⟨cs, (hg6.block G2 (lt_of_block q1) (fun e => hkind G2 e.symm rfl)).trans q1, q2⟩
            have hA5' : Aside [V] w (w5.alloc (.cells #[.int .i64 (m : Int)] 3)) := (hA.trans hA5).alloc _
            exact ⟨m + 1, G2, cap2, by omega, by go_num, by rw [h2 HL.out]; exact hO6, by rw [h1 HL.out, ← HE.out]; exact hR6, hG2w, hA5'.put hg6 (fun k hk => .inl (hblk k hk).1)⟩
          case measure => simp [intOf]; omega
        · have HL := Lib.hid (show late (d.now + 1) ⟨su, sf, true, ss⟩ = false by simp [late, hlate])
          have hcmp : ¬ (ss : Int) + 16 ≤ (d.now : Int) + 1 := by omega
          go_upto_region 6 with fail
          go_region
          go_wp2
          go_roundw
          case rel =>
            obtain ⟨_, h1, _, h2, _⟩ := H.out
            exact ⟨m + 1, G1, cap1, by omega, by go_num, by rw [h2 HL.out]; exact hO, by rw [h1 HL.out]; exact hR.drew, hG1, hA.drew⟩
          case measure => simp [intOf]; omega
    · obtain rfl : m = d.n := by omega
      go_wp2
      go_ret
      exact ⟨_, rfl, hO, G1, cap1, hR, hG1, hA⟩
end Go.Proofs.Ytdlbjllgdikadab
