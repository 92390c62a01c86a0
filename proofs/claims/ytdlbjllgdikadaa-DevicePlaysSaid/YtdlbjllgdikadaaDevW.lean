/- DevicePlays: the loop. -/
import Derived.Test.YtdlbjllgdikadaaDevV
namespace Go.Proofs.Ytdlbjllgdikadaa
open Go.RowKit
set_option maxHeartbeats 16000000 in
set_option maxRecDepth 100000 in
theorem plays_good (n : Nat) (a : Option Addr) (l : List POp) (cap : Nat) (w : World) (hl : l.length ≤ 60) (h1 : 16 ≤ n) (h2 : n ≤ 100) (hops : IsOps w a l) :
    Calls Try.prog 9 #[.int .i64 (n : Int), .slice a l.length cap] w fun e w' => e = .returned (.bool true) ∧ Below w.heap.size w w' := by
  have hnew := new_dev n w (by omega) (by omega)
  go_enter Try.func9, Try.ntmps9
  go_wp2_with (first
    | (go_at_call 38; refine hnew.mono ?_; rintro e w1 ⟨D, b, rfl, hD1, hD0, hb0, hB1⟩)
    | (go_at_call 47; refine (rnew_calls n (by omega) _).mono ?_; rintro e w2 ⟨V, rfl, hR2, hV0, hB2⟩))
  have hT2 : Two n 0 w w2 D b V (newD n) (rnewD n) := ⟨hD1.later hB2, hR2, PRel.start n, ⟨hD0, hb0, Nat.le_trans hB1.size hV0⟩, below_call hB1 (Nat.le_refl _) hB2⟩
  clear hnew hD1 hB1 hB2 hR2 hD0 hb0 hV0
  go_loopw [5, 7, 66] (fun dv wv i wr => ∃ (j : Nat) (D b V : Nat) (d : Dev) (r : RDev), j ≤ l.length ∧ i = .int .i64 j ∧ dv = .pointer (some ⟨D, 0, none⟩) ∧ wv = .pointer (some ⟨V, 0, none⟩) ∧ Two n j w wr D b V d r) (fun _ _ i _ => l.length - (intOf i).toNat)
  case atStart => exact ⟨0, D, b, V, _, _, Nat.zero_le _, rfl, rfl, rfl, hT2⟩
  case round =>
    clear hT2
    obtain ⟨j, D, b, V, d, r, hj, rfl, rfl, rfl, hT⟩ := hrel
    by_cases hlt : j < l.length
    · obtain ⟨o, b0, o0, ho, rfl, p0, p1, p2, p3, hby, hle, hmax, hno⟩ := (hops.below hT.bel (Nat.le_refl _)).cellsAt j hlt
      have hbyw : IsBytes w o.a o.B := by rw [ho]; obtain ⟨_, _, _, _, h, _⟩ := hops j hlt; exact h
      clear ho
      by_cases hbig : 100 < o.B.length
      · go_wp2_with (first
          | (refine wpList_store_op rfl (.tmp 9) (.tmp 69) rfl wr.heap.size noneO o rfl rfl (heap_alloc_new _ _) ?_; intro w3 hO3 hg3; have hB3 := ((Below.refl _ wr).alloc (Nat.le_refl _) (.cells noneO.cells 66)).grown hg3 (by simp) (fun k hk => by cases hk; exact Nat.le_refl _); have q0 := hO3.c0; have q3 := hO3.c3)
          | (go_at_call 39; refine (known39_calls _).mono ?_; rintro e w9 ⟨rfl, hB9⟩))
        go_ret
        exact ⟨rfl, (hT.later (below_call hB3 (Nat.le_refl _) hB9)).bel⟩
      · go_upto_region 15 with (first
          | (refine wpList_store_op rfl (.tmp 9) (.tmp 69) rfl wr.heap.size noneO o rfl rfl (heap_alloc_new _ _) ?_; intro w3 hO3 hg3; have hB3 := ((Below.refl _ wr).alloc (Nat.le_refl _) (.cells noneO.cells 66)).grown hg3 (by simp) (fun k hk => by cases hk; exact Nat.le_refl _); have q0 := hO3.c0; have q3 := hO3.c3; have q3a := ((((Below.refl _ w3).alloc (Nat.le_refl _) (.cells #[] 5)).cell (p := ⟨wr.heap.size, 3, none⟩) (lt_of_block hO3)).trans q3))
          | (at_builtin; refine wpList_append_bytes rfl (.tmp 75) (.tmp 77) rfl w3.heap.size (.slice (some ⟨w3.heap.size, 0, none⟩) 0 0) [] rfl (OwnB.made w3 w3.heap.size (Nat.le_refl _)) o.a o.B.length o.cap o.B rfl rfl hno ((hby.later hB3).alloc _) (by simp; omega) (by simp) ?_; intro v4 w4 hown4 hgr4))
        rw [List.nil_append] at hown4
        obtain ⟨ai, ci, rfl, hbi, hli, _, hblk, hni⟩ := hown4.slice
        have hB34 : Below w3.heap.size w3 w4 := ((Below.refl _ w3).alloc (Nat.le_refl _) _).grown hgr4 (by simp) (fun k hk => by simp [Value.ownBlock] at hk; omega)
        have hT4 := (hT.later hB3).later hB34
        have hO4 := hO3.later hB34
        have hlo : D < wr.heap.size ∧ b < wr.heap.size ∧ V < wr.heap.size ∧ wr.heap.size < w3.heap.size := ⟨hT.dev.lt, hT.dev.ltb, hT.ref.lt, lt_of_block hO3⟩
        have q4 := hO4.c0
        obtain ⟨H, hH⟩ : ∃ H, H = wr.heap.size := ⟨_, rfl⟩
        obtain ⟨G, hG⟩ : ∃ G, G = w3.heap.size := ⟨_, rfl⟩
        rw [← hH, ← hG] at hlo
        rw [← hG] at hown4
        rw [← hH] at hO4 q4 ⊢
        obtain ⟨hDH, hbH, hVH, hHG⟩ := hlo
        have hblt : ∀ q off, ai = some ⟨q, off, none⟩ → q < w4.heap.size := fun q off e => by obtain ⟨g, e2, _, z⟩ := hblk _ e; cases e2; exact z
        clear hH hG q0 q3 q3a hgr4 hB34 hT hO3 hby hB3 hg3 p0 p1 p2 p3 hblk
        iterate 8 go_step
        have hhead : ∀ g off, ai = some ⟨g, off, none⟩ → G ≤ g := fun g off e => by subst e; exact hown4.head.2.1
        have hwG : w.heap.size ≤ G := by have := hT4.lo; omega
        obtain ⟨kd, hkd⟩ : ∃ kd, kd = o.kind := ⟨_, rfl⟩
        rw [← hkd] at q4
        clear hkd
        go_cut [5, 7, 11] from 79 to 182 (fun dv wv okv wc => ∃ (D b V : Nat) (d : Dev) (r : RDev), dv = .pointer (some ⟨D, 0, none⟩) ∧ wv = .pointer (some ⟨V, 0, none⟩) ∧ okv = .bool true ∧ Two n (j + 1) w wc D b V d r ∧ OwnB wc G (.slice ai o.B.length ci) o.B)
        case first =>
          have hTG : ∀ x, x ∈ [D, b, V] → x < G := fun x hx => by simp at hx; omega
          have hHn : H ∉ [D, b, V] := by simp; omega
          obtain ⟨hDV, hbV⟩ := hT4.dev.apart hT4.ref
          have hVn : V ∉ [D, b] := by simp; omega
          have hDn : D ∉ [V] := by simp; omega
          have hbn : b ∉ [V] := by simp; omega
          have hHn1 : H ∉ [D, b] := by simp; omega
          have hHn2 : H ∉ [V] := by simp; omega
          have hlen : r.B.length ≤ 1048576 := by rw [hT4.rel.len]; omega
          have hain : ∀ q off, ai = some ⟨q, off, none⟩ → q ∉ [D, b] := fun q off e => by have := hhead q off e; simp; omega
          have hain5' : ∀ D5 b5, w4.heap.size ≤ D5 → w4.heap.size ≤ b5 → ∀ q off, ai = some ⟨q, off, none⟩ → q ∉ [D5, b5] := fun D5 b5 z1 z2 q off e => by have := hblt q off e; simp; omega
          by_cases k1 : kd = 1
          ·
            subst k1
            have hE := (hT4.rel.write (by omega) o.i o.B).1
            have hw42 : ∀ W, DevAt W D b d → IsBytes W ai o.B → Calls Try.prog 42 #[.pointer (some ⟨D, 0, none⟩), .int .i64 o.i, .slice ai o.B.length ci] W (WritePost D b d o.i o.B W) := fun W q1 q2 => write_dev D b d o.i ai o.B ci W q1 hT4.rel.ok q2 hain
            have hw48 : ∀ W, RefAt W V r → IsBytes W o.a o.B → Calls Try.prog 48 #[.pointer (some ⟨V, 0, none⟩), .int .i64 o.i, .slice o.a o.B.length o.cap] W (RWPost V r o.i o.B W) := fun W q1 q2 => rwrite_calls V r o.i o.a o.B o.cap W q1 hlen q2 (by have := hT4.rel.w0; omega) hT4.rel.w1 hT4.rel.p0 hT4.rel.p1 hle
            unfold WritePost at hw42
            rw [hE] at hw42
            unfold RWPost at hw48
            obtain ⟨m, hm⟩ : ∃ m, m = rwE r o.i o.B := ⟨_, rfl⟩
            rw [← hm] at hw42 hw48
            clear hm hE
            go_upto_region 18 with fail
            have hne : Nonempty (SW (fun W => OpAt W H o)) := ⟨⟨w4, hO4⟩⟩
            have t1 : ∀ x : SW (fun W => OpAt W H o), x.W.cell? ⟨H, 1, none⟩ = some (.int .i64 o.i) := fun x => x.h.c1
            have t3 : ∀ x : SW (fun W => OpAt W H o), x.W.cell? ⟨H, 3, none⟩ = some (.slice o.a o.B.length o.cap) := fun x => x.h.c3
            refine wp_region_seq2 (fun W => OpAt W H o) [(0, true), (1, true), (2, true), (3, true), (5, true), (6, true), (7, true), (8, true), (9, true), (4, false), (10, false), (11, true), (12, true)] (by kernel_rfl) (by kernel_rfl) (fun d _ _ _ _ h => by cases d <;> exact h) (hO4) ?_
            repeat (first
              | (refine wpSeq_skip (o := ⟨_, _, _, _, _, _⟩) rfl rfl ?_; simp only [Act.put, List.setIfInBounds_toArray, List.set_cons_zero, List.set_cons_succ])
              | (refine wpSeq_free (o := ⟨_, _, _, _, _, _⟩) rfl rfl (fun K hK => ?_); go_big_quiet_op; (refine hK _ ?_; clear hK K)))
            refine wpSeq_next (o := ⟨_, _, _, _, _, _⟩) rfl rfl (fun K hK => ?_)
            go_simp
            go_at_call 42
            refine (hw42 _ hT4.drew.dev hbi).mono ?_
            rintro e w5 ⟨rfl, hD5, hA5⟩
            have hA5' : Aside [D, b] w4 w5 := ⟨hA5.os, hA5.tape, hA5.output, hA5.size, hA5.block⟩
            have hO5 := hO4.aside hA5' hHn1
            have hR5 := hT4.ref.aside hA5' hVn
            have hby5 : IsBytes w5 o.a o.B := hbyw.later (hT4.bel.trans (hA5'.toBelow (fun k hk => by have := hT4.lo; simp at hk; omega) hT4.bel.size))
            refine hK.out _ _ (hO5) ?_
            clear hK K
            repeat (first
              | (refine wpSeq_skip (o := ⟨_, _, _, _, _, _⟩) rfl rfl ?_; simp only [Act.put, List.setIfInBounds_toArray, List.set_cons_zero, List.set_cons_succ])
              | (refine wpSeq_free (o := ⟨_, _, _, _, _, _⟩) rfl rfl (fun K hK => ?_); go_big_quiet_op; (refine hK _ ?_; clear hK K)))
            refine wpSeq_next (o := ⟨_, _, _, _, _, _⟩) rfl rfl (fun K hK => ?_)
            go_simp
            go_at_call 48
            refine (hw48 _ hR5 hby5).mono ?_
            rintro e w6 ⟨rfl, hR6, hA6⟩
            have hO6 := hO5.aside hA6 hHn2
            refine hK.out _ _ (hO6) ?_
            clear hK K
            repeat (first
              | (refine wpSeq_skip (o := ⟨_, _, _, _, _, _⟩) rfl rfl ?_; simp only [Act.put, List.setIfInBounds_toArray, List.set_cons_zero, List.set_cons_succ])
              | (refine wpSeq_free (o := ⟨_, _, _, _, _, _⟩) rfl rfl (fun K hK => ?_); go_big_quiet_op; (refine hK _ ?_; clear hK K)))
            refine wpSeq_nil ?_
            go_wp2
            go_meet
            exact ⟨D, b, V, _, _, rfl, rfl, rfl, hT4.write (by omega) hD5 hA5' hR6 hA6, hown4.aside (hA5'.left.trans hA6.right) hTG⟩
          · by_cases k2 : kd = 2
            ·
              subst k2
              have hE := hT4.rel.may o.i
              have hr49 := fun W q => rread_calls V r o.i W q hlen
              have q1 := hO4.c1
              by_cases h0 : mayE d o.i = 0
              · have hL := hT4.rel.read o.i h0
                have h45 : Calls Try.prog 45 #[.pointer (some ⟨D, 0, none⟩), .int .i64 o.i] w4 fun e w' => ∃ g, e = .returned (.tuple #[.slice (some ⟨g, 0, none⟩) 64 64, .int .i64 0]) ∧ ArrT w' g 132 (rdL r o.i) ∧ (rdL r o.i).length = 64 ∧ w4.heap.size ≤ g ∧ Below w4.heap.size w4 w' := by
                  refine (read_dev D b d o.i w4 hT4.dev).mono ?_
                  rintro e w' (⟨z, _⟩ | ⟨_, g, rfl, z3, z4, z5, z6⟩)
                  · exact absurd h0 z
                  · rw [hL] at z3 z4
                    exact ⟨g, rfl, z3, z4, z5, z6⟩
                rw [← hE, h0] at hr49
                obtain ⟨v, hv⟩ : ∃ v, v = rdL r o.i := ⟨_, rfl⟩
                rw [← hv] at h45
                simp only [← hv, strV] at hr49
                clear hv hL h0 hE
                go_wp2_with (first
                  | (go_at_call 45; refine h45.mono ?_; rintro e w5 ⟨g, rfl, hg5, hv64, hg4, hB5⟩; have hR5 := hT4.ref.later hB5; have q5 := (hO4.later hB5).c1; have t5 := conv_text hg5.bytes (n := 64) (cap := 64) hv64.symm)
                  | (go_at_call 49; refine (hr49 _ hR5).mono ?_; rintro e w6 ⟨rfl, rfl⟩))
                clear q5 t5 hr49 h45
                go_loopw [122] (fun i wr => ∃ (m : Nat) (t : List UInt8), m ≤ 64 ∧ i = .int .i64 m ∧ t.length = 64 ∧ ArrT wr g 132 t ∧ Below w4.heap.size w4 wr) (fun i _ => 64 - (intOf i).toNat)
                case atStart => exact ⟨0, v, Nat.zero_le _, rfl, hv64, hg5, hB5⟩
                case round =>
                  clear hg5 hB5 hR5
                  obtain ⟨m, t, hm, rfl, ht, hg6, hB6⟩ := hrel
                  by_cases hlt2 : m < 64
                  · have hcell := hg6.cell m (by omega)
                    have hfr := hg6.free m
                    obtain ⟨y, hy⟩ : ∃ y, y = t[m]'(by omega) := ⟨_, rfl⟩
                    rw [← hy] at hcell
                    have hyl : y.toNat < 256 := y.toNat_lt
                    have Ht := Lib.hid ht
                    clear hy ht
                    go_wp2
                    go_roundw
                    case rel =>
                      rw [u8_succ]
                      exact ⟨m + 1, t.set m (y + 1), by omega, by go_num, by rw [List.length_set]; exact Ht.out, hg6.stored m (y + 1), hB6.setCell (p := ⟨g, m, none⟩) hg4 _⟩
                    case measure => simp [intOf]; omega
                  · obtain rfl : m = 64 := by omega
                    go_wp2
                    go_meet
                    exact ⟨D, b, V, d, r, rfl, rfl, rfl, (hT4.later hB6).more (Nat.le_succ j), hown4.later hB6⟩
              · have h45 : Calls Try.prog 45 #[.pointer (some ⟨D, 0, none⟩), .int .i64 o.i] w4 fun e w' => e = .returned (.tuple #[.slice none 0 0, .int .i64 (rdE r o.i : Nat)]) ∧ w4 = w' := by
                  refine (read_dev D b d o.i w4 hT4.dev).mono ?_
                  rintro e w' (⟨_, rfl, z3⟩ | ⟨z, _⟩)
                  · exact ⟨by rw [hE], z3⟩
                  · exact absurd z h0
                have hL : rdL r o.i = [] := by rw [rdL, if_neg (by rw [← hE]; exact h0)]
                rw [hL, strV] at hr49
                obtain ⟨m, hm⟩ : ∃ m, m = rdE r o.i := ⟨_, rfl⟩
                rw [← hm] at h45
                simp only [← hm] at hr49
                have t5 := conv_text (IsBytes.nil w4 none) (n := 0) (cap := 0) rfl
                clear hm hL hE h0
                go_wp2_with (first
                  | (go_at_call 45; refine h45.mono ?_; rintro e w5 ⟨rfl, rfl⟩)
                  | (go_at_call 49; refine (hr49 _ hT4.ref).mono ?_; rintro e w6 ⟨rfl, rfl⟩))
                go_loopw [122] (fun i wr => i = .int .i64 0 ∧ wr = w4) (fun i _ => 0)
                case atStart => exact ⟨rfl, rfl⟩
                case round =>
                  obtain ⟨rfl, rfl⟩ := hrel
                  go_wp2
                  go_meet
                  exact ⟨D, b, V, d, r, rfl, rfl, rfl, hT4.more (Nat.le_succ j), hown4⟩
            · by_cases k3 : kd = 3
              ·
                subst k3
                obtain ⟨hE, hP3⟩ := hT4.rel.crash h1 o.i o.n hmax
                have hw40 : ∀ W, DevAt W D b d → Calls Try.prog 40 #[.pointer (some ⟨D, 0, none⟩), .int .i64 o.i, .int .i64 o.n] W fun e w' => e = .returned (.int .i64 (crashE d o.i o.n : Nat)) ∧ DevAt w' D b (crashD d o.i o.n) ∧ W.grownBy w' (some D) := fun W q1 => crash_dev D b d o.i o.n W q1
                have hw50 := fun W q => rcrash_calls V r o.i o.n W q
                rw [hE] at hw40
                obtain ⟨m, hm⟩ : ∃ m, m = rcE r o.i o.n := ⟨_, rfl⟩
                rw [← hm] at hw40 hw50
                have HP := Lib.hid hP3
                clear hm hE hP3
                go_upto_region 29 with fail
                have hne : Nonempty (SW (fun W => OpAt W H o)) := ⟨⟨w4, hO4⟩⟩
                have t1 : ∀ x : SW (fun W => OpAt W H o), x.W.cell? ⟨H, 1, none⟩ = some (.int .i64 o.i) := fun x => x.h.c1
                have t2 : ∀ x : SW (fun W => OpAt W H o), x.W.cell? ⟨H, 2, none⟩ = some (.int .i64 o.n) := fun x => x.h.c2
                refine wp_region_seq2 (fun W => OpAt W H o) [(0, true), (1, true), (2, true), (3, true), (4, true), (6, true), (7, true), (8, true), (9, true), (10, true), (5, false), (11, false), (12, true), (13, true)] (by kernel_rfl) (by kernel_rfl) (fun d _ _ _ _ h => by cases d <;> exact h) (hO4) ?_
                repeat (first
                  | (refine wpSeq_skip (o := ⟨_, _, _, _, _, _⟩) rfl rfl ?_; simp only [Act.put, List.setIfInBounds_toArray, List.set_cons_zero, List.set_cons_succ])
                  | (refine wpSeq_free (o := ⟨_, _, _, _, _, _⟩) rfl rfl (fun K hK => ?_); go_big_quiet_op; (refine hK _ ?_; clear hK K)))
                refine wpSeq_next (o := ⟨_, _, _, _, _, _⟩) rfl rfl (fun K hK => ?_)
                go_simp
                go_at_call 40
                refine (hw40 _ hT4.drew.dev).mono ?_
                rintro e w5 ⟨rfl, hD5, hg5⟩
                have hA5 : Aside [D, b] w4 w5 := Aside.grown (w := w4) (row := some D) ⟨hg5.os, hg5.tape, hg5.output, hg5.size, hg5.block⟩ (fun k hk _ => by injection hk with hk; simp [hk])
                have hO5 := hO4.aside hA5 hHn1
                have hR5 := hT4.ref.aside hA5 hVn
                refine hK.out _ _ (hO5) ?_
                clear hK K
                repeat (first
                  | (refine wpSeq_skip (o := ⟨_, _, _, _, _, _⟩) rfl rfl ?_; simp only [Act.put, List.setIfInBounds_toArray, List.set_cons_zero, List.set_cons_succ])
                  | (refine wpSeq_free (o := ⟨_, _, _, _, _, _⟩) rfl rfl (fun K hK => ?_); go_big_quiet_op; (refine hK _ ?_; clear hK K)))
                refine wpSeq_next (o := ⟨_, _, _, _, _, _⟩) rfl rfl (fun K hK => ?_)
                go_simp
                go_at_call 50
                refine (hw50 _ hR5).mono ?_
                rintro e w6 ⟨rfl, hR6, hg6⟩
                have hA6 : Aside [V] w5 w6 := Aside.grown hg6 (fun k hk _ => by injection hk with hk; simp [hk])
                have hO6 := hO5.aside hA6 hHn2
                refine hK.out _ _ (hO6) ?_
                clear hK K
                repeat (first
                  | (refine wpSeq_skip (o := ⟨_, _, _, _, _, _⟩) rfl rfl ?_; simp only [Act.put, List.setIfInBounds_toArray, List.set_cons_zero, List.set_cons_succ])
                  | (refine wpSeq_free (o := ⟨_, _, _, _, _, _⟩) rfl rfl (fun K hK => ?_); go_big_quiet_op; (refine hK _ ?_; clear hK K)))
                refine wpSeq_nil ?_
                go_wp2
                go_meet
                exact ⟨D, b, V, _, _, rfl, rfl, rfl, (hT4.turn (hA5.left.trans hA6.right) (hD5.aside hA6 hDn hbn) hR6 HP.out hT4.lo).more (Nat.le_succ j), hown4.aside (hA5.left.trans hA6.right) hTG⟩
              · by_cases k4 : kd = 4
                ·
                  subst k4
                  have hVD : some V ≠ some D := fun e => hDV (by injection e with e; exact e.symm)
                  go_wp2_with (go_at_call 46; refine (up_dev D b d _ hT4.dev).mono ?_; rintro e w7 ⟨rfl, hD7, hg7⟩; have hR7 := hT4.ref.kept hg7 hVD; have f7 := hR7.free 2; have c7 := hR7.c2)
                  have hA7 : Aside [D, b, V] w4 w7 := Aside.grown hg7 (fun k hk _ => by injection hk with hk; simp [hk])
                  have hA8 : Aside [D, b, V] w4 (w7.setCell ⟨V, 2, none⟩ (.bool false)) := hA7.setCell _ _ (fun _ => by simp)
                  have hR8 := hR7.stored (r' := { r with off := false }) 2 (.bool false) rfl
                  go_meet
                  exact ⟨D, b, V, _, _, rfl, rfl, rfl, (hT4.turn hA8 (hD7.other _ _ hDV hbV) hR8 hT4.rel.up hT4.lo).more (Nat.le_succ j), hown4.aside hA8 hTG⟩
                · by_cases k5 : kd = 5
                  ·
                    subst k5
                    go_wp2_with (first
                      | (go_at_call 51; refine (wipe_dev D b d _ hT4.dev).mono ?_; rintro e w5 ⟨rfl, hD5, hA5⟩; have hR5 := hT4.ref.aside hA5 hVn)
                      | (go_at_call 52; refine (rwipe_calls V r _ hR5 hlen).mono ?_; rintro e w6 ⟨rfl, hR6, hA6⟩))
                    go_meet
                    exact ⟨D, b, V, _, _, rfl, rfl, rfl, (hT4.turn (hA5.left.trans hA6.right) (hD5.aside hA6 hDn hbn) hR6 hT4.rel.wipe hT4.lo).more (Nat.le_succ j), hown4.aside (hA5.left.trans hA6.right) hTG⟩
                  · by_cases k6 : kd = 6
                    ·
                      subst k6
                      have c16 := hO4.c1
                      go_wp2_with (first
                        | (go_at_call 53; refine (copy_dev D b d _ hT4.dev).mono ?_; rintro e w5 ⟨D5, b5, rfl, hD5, hl5, hl5b, hB5⟩; have hT5 := hT4.later hB5; have q5 := (hO4.later hB5).c1; have hbi5 := hbi.later hB5)
                        | (go_at_call 42; refine (write_dev D b d o.i ai o.B ci _ hT5.dev hT4.rel.ok hbi5 hain).mono ?_; rintro e w6 ⟨rfl, hD6, hA6⟩; have hR6 := hT5.ref.aside hA6 hVn)
                        | (go_at_call 54; refine (rcopy_calls V r _ hR6).mono ?_; rintro e w7 ⟨V7, rfl, hR7, hl7, hB7⟩))
                      have hDb := hT4.dev.lt
                      have hbb := hT4.dev.ltb
                      have h7 : Aside [D, b, V] w4 w7 := ((Aside.below _ hB5).trans hA6.left).trans (Aside.below _ hB7)
                      have hD7 := (hD5.aside hA6 (by simp; omega) (by simp; omega)).later hB7
                      have hs5 := hB5.size
                      have hs6 := hA6.size
                      have hs4 := hT4.bel.size
                      go_meet
                      exact ⟨D5, b5, V7, _, _, rfl, rfl, rfl, (hT4.turn h7 hD7 hR7 hT4.rel ⟨by omega, by omega, by omega⟩).more (Nat.le_succ j), hown4.aside h7 hTG⟩
                    · by_cases k7 : kd = 7
                      ·
                        subst k7
                        go_wp2_with (first
                          | (go_at_call 53; refine (copy_dev D b d _ hT4.dev).mono ?_; rintro e w5 ⟨D5, b5, rfl, hD5, hl5, hl5b, hB5⟩; have hT5 := hT4.later hB5; have q5 := (hO4.later hB5).c1; have hbi5 := hbi.later hB5; have hain5 := hain5' D5 b5 hl5 hl5b)
                          | (go_at_call 42; refine (write_dev D5 b5 d o.i ai o.B ci _ hD5 hT4.rel.ok hbi5 hain5).mono ?_; rintro e w6 ⟨rfl, hD6, hA6⟩)
                          | (go_at_call 51; refine (wipe_dev D5 b5 _ _ hD6).mono ?_; rintro e w7 ⟨rfl, hD7, hA7⟩))
                        have hB7 : Below w4.heap.size w4 w7 := hB5.trans ((hA6.trans hA7).toBelow (fun k hk => by simp at hk; omega) hB5.size)
                        go_meet
                        exact ⟨D, b, V, d, r, rfl, rfl, rfl, (hT4.later hB7).more (Nat.le_succ j), hown4.later hB7⟩
                      · have e1 : (kd == 1) = false := by rw [beq_eq_false_iff_ne]; exact k1
                        have e2 : (kd == 2) = false := by rw [beq_eq_false_iff_ne]; exact k2
                        have e3 : (kd == 3) = false := by rw [beq_eq_false_iff_ne]; exact k3
                        have e4 : (kd == 4) = false := by rw [beq_eq_false_iff_ne]; exact k4
                        have e5 : (kd == 5) = false := by rw [beq_eq_false_iff_ne]; exact k5
                        have e6 : (kd == 6) = false := by rw [beq_eq_false_iff_ne]; exact k6
                        have e7 : (kd == 7) = false := by rw [beq_eq_false_iff_ne]; exact k7
                        clear k1 k2 k3 k4 k5 k6 k7
                        go_wp2
                        go_meet
                        exact ⟨D, b, V, d, r, rfl, rfl, rfl, hT4.more (Nat.le_succ j), hown4⟩
        case rest =>
          clear hT4 hown4 hO4 q4 hbi
          obtain ⟨D, b, V, d, r, rfl, rfl, rfl, hT5, hown5⟩ := hcut
          go_wp2
          go_loopw [185] (fun i wr => ∃ (m : Nat) (t : List UInt8), m ≤ o.B.length ∧ i = .int .i64 m ∧ t.length = o.B.length ∧ OwnB wr G (.slice ai o.B.length ci) t ∧ Two n (j + 1) w wr D b V d r) (fun i _ => o.B.length - (intOf i).toNat)
          case atStart => exact ⟨0, o.B, Nat.zero_le _, rfl, rfl, hown5, hT5⟩
          case round =>
            clear hown5 hT5
            obtain ⟨m, t, hm, rfl, ht, hown, hT6⟩ := hrel
            by_cases hlt2 : m < o.B.length
            · have hb := hown.bytes
              obtain ⟨g, off, rfl⟩ : ∃ g off, ai = some ⟨g, off, none⟩ := by
                obtain ⟨g, off, e, _⟩ := hb m (by omega)
                exact ⟨g, off, e⟩
              obtain ⟨rfl, hGg, cur, hcur⟩ := hown.head
              have hcell := hb.cell m (by omega)
              rw [Nat.zero_add] at hcell
              have hfr := hown.free ht.symm m
              obtain ⟨y, hy⟩ : ∃ y, y = t[m]'(by omega) := ⟨_, rfl⟩
              rw [← hy] at hcell
              have hyl : y.toNat < 256 := y.toNat_lt
              obtain ⟨z1, z2, z3⟩ := hT6.off hcur
              have hwg := hT6.lo
              have Ht := Lib.hid ht
              clear hy ht hb
              go_wp2
              go_roundw
              case rel =>
                rw [u8_succ]
                exact ⟨m + 1, t.set m (y + 1), by omega, by go_num, by rw [List.length_set]; exact Ht.out, hown.stored Ht.out.symm m (y + 1), hT6.setCell ⟨g, m, none⟩ _ z1 z2 z3 (Nat.le_trans hwG hGg)⟩
              case measure => simp [intOf]; omega
            · obtain rfl : m = o.B.length := by omega
              have hdn := hT6.rel.down
              have hst := hT6.rel.set
              have hbl := hT6.rel.blocks
              have h43 : ∀ W, DevAt W D b d → Calls Try.prog 43 #[.pointer (some ⟨D, 0, none⟩)] W fun e w' => e = .returned (.bool r.off) ∧ W = w' := fun W q => by rw [← hdn]; exact down_dev D b d W q
              have h44 : ∀ W, DevAt W D b d → Calls Try.prog 44 #[.pointer (some ⟨D, 0, none⟩)] W fun e w' => e = .returned (.bool r.set) ∧ W = w' := fun W q => by rw [← hst]; exact isSet_dev D b d W q
              have h55 : ∀ W, DevAt W D b d → Calls Try.prog 55 #[.pointer (some ⟨D, 0, none⟩)] W fun e w' => e = .returned (.int .i64 (n : Int)) ∧ W = w' := fun W q => by rw [← hbl]; exact blocks_dev D b d W q
              have c1 := hT6.ref.c1
              have c2 := hT6.ref.c2
              obtain ⟨x, hx⟩ : ∃ x, x = r.off := ⟨_, rfl⟩
              obtain ⟨y, hy⟩ : ∃ y, y = r.set := ⟨_, rfl⟩
              rw [← hx] at h43 c2
              rw [← hy] at h44 c1
              clear hx hy hdn hst hbl hown ht hops hle hno hbyw hni hblt hhead hDH hbH hVH hHG hli
              go_upto_region 49 with fail
              have hne : Nonempty (SW (fun W => W.cell? ⟨V, 2, none⟩ = some (.bool x) ∧ W.cell? ⟨V, 1, none⟩ = some (.bool y))) := ⟨⟨wr, c2, c1⟩⟩
              have t2 : ∀ z : SW (fun W => W.cell? ⟨V, 2, none⟩ = some (.bool x) ∧ W.cell? ⟨V, 1, none⟩ = some (.bool y)), z.W.cell? ⟨V, 2, none⟩ = some (.bool x) := fun z => z.h.1
              have t1 : ∀ z : SW (fun W => W.cell? ⟨V, 2, none⟩ = some (.bool x) ∧ W.cell? ⟨V, 1, none⟩ = some (.bool y)), z.W.cell? ⟨V, 1, none⟩ = some (.bool y) := fun z => z.h.2
              refine wp_region_seq2 (fun W => W.cell? ⟨V, 2, none⟩ = some (.bool x) ∧ W.cell? ⟨V, 1, none⟩ = some (.bool y)) [(0, true), (1, true), (2, true), (3, true), (5, true), (6, true), (7, true), (8, true), (4, false), (9, true), (10, true), (11, true), (12, true), (14, true), (15, true), (16, true), (17, true), (13, false), (18, true), (19, true), (20, true), (21, true), (23, true), (22, false), (24, true), (25, true)] (by kernel_rfl) (by kernel_rfl) (fun d _ _ _ _ h => by cases d <;> exact h) (⟨c2, c1⟩) ?_
              repeat (first
                | (refine wpSeq_skip (o := ⟨_, _, _, _, _, _⟩) rfl rfl ?_; simp only [Act.put, List.setIfInBounds_toArray, List.set_cons_zero, List.set_cons_succ])
                | (refine wpSeq_free (o := ⟨_, _, _, _, _, _⟩) rfl rfl (fun K hK => ?_); go_big_quiet_op; (refine hK _ ?_; clear hK K)))
              refine wpSeq_next (o := ⟨_, _, _, _, _, _⟩) rfl rfl (fun K hK => ?_)
              go_simp
              go_at_call 43
              refine (h43 _ hT6.drew.dev).mono ?_
              rintro e w7 ⟨rfl, rfl⟩
              refine hK.out _ _ (⟨c2, c1⟩) ?_
              clear hK K
              repeat (first
                | (refine wpSeq_skip (o := ⟨_, _, _, _, _, _⟩) rfl rfl ?_; simp only [Act.put, List.setIfInBounds_toArray, List.set_cons_zero, List.set_cons_succ])
                | (refine wpSeq_free (o := ⟨_, _, _, _, _, _⟩) rfl rfl (fun K hK => ?_); go_big_quiet_op; (refine hK _ ?_; clear hK K)))
              refine wpSeq_next (o := ⟨_, _, _, _, _, _⟩) rfl rfl (fun K hK => ?_)
              go_simp
              go_at_call 44
              refine (h44 _ hT6.drew.dev).mono ?_
              rintro e w7 ⟨rfl, rfl⟩
              refine hK.out _ _ (⟨c2, c1⟩) ?_
              clear hK K
              repeat (first
                | (refine wpSeq_skip (o := ⟨_, _, _, _, _, _⟩) rfl rfl ?_; simp only [Act.put, List.setIfInBounds_toArray, List.set_cons_zero, List.set_cons_succ])
                | (refine wpSeq_free (o := ⟨_, _, _, _, _, _⟩) rfl rfl (fun K hK => ?_); go_big_quiet_op; (refine hK _ ?_; clear hK K)))
              refine wpSeq_next (o := ⟨_, _, _, _, _, _⟩) rfl rfl (fun K hK => ?_)
              go_simp
              go_at_call 55
              refine (h55 _ hT6.drew.dev).mono ?_
              rintro e w7 ⟨rfl, rfl⟩
              refine hK.out _ _ (⟨c2, c1⟩) ?_
              clear hK K
              repeat (first
                | (refine wpSeq_skip (o := ⟨_, _, _, _, _, _⟩) rfl rfl ?_; simp only [Act.put, List.setIfInBounds_toArray, List.set_cons_zero, List.set_cons_succ])
                | (refine wpSeq_free (o := ⟨_, _, _, _, _, _⟩) rfl rfl (fun K hK => ?_); go_big_quiet_op; (refine hK _ ?_; clear hK K)))
              refine wpSeq_nil ?_
              clear t1 t2 hne h43 h44 h55 c1 c2
              go_wp2_with (first
                | (go_at_call 53; refine (copy_dev D b d _ hT6.drew.dev).mono ?_; rintro e w7 ⟨D6, b6, rfl, hD6, hl6, hl6b, hB6⟩)
                | (go_at_call 46; refine (up_dev D6 b6 d _ hD6).mono ?_; rintro e w8 ⟨rfl, hD8, hg8⟩))
              have hB8 := hB6.grown hg8 hB6.size (fun k hk => by injection hk with hk; omega)
              have hT8 := hT6.drew.later hB8
              clear hB8 hg8 hD6 hB6 hT6 hl6 hl6b
              go_loopw [226] (fun i wr => ∃ k : Nat, k ≤ n ∧ i = .int .i64 k ∧ DevAt wr D6 b6 { d with down := false } ∧ Two n (j + 1) w wr D b V d r) (fun i _ => n - (intOf i).toNat)
              case atStart => exact ⟨0, Nat.zero_le _, rfl, hD8, hT8⟩
              case round =>
                clear hD8 hT8
                obtain ⟨k, hk, rfl, hD9, hT9⟩ := hrel
                by_cases hlt3 : k < n
                · have hrd : Calls Try.prog 45 #[.pointer (some ⟨D6, 0, none⟩), .int .i64 (k : Int)] wr fun e w' => ∃ g, e = .returned (.tuple #[.slice (some ⟨g, 0, none⟩) 64 64, .int .i64 0]) ∧ ArrT w' g 132 (d.mem k) ∧ (d.mem k).length = 64 ∧ Below wr.heap.size wr w' := by
                    have hm0 : mayE { d with down := false } (k : Int) = 0 := by
                      have := hT9.rel.blocks
                      rw [mayE, if_neg Bool.false_ne_true, if_neg (by show ¬ ((k : Int) < 0 ∨ (d.blocks : Int) ≤ (k : Int)); omega)]
                    refine (read_dev D6 b6 _ (k : Int) wr hD9).mono ?_
                    rintro e w' (⟨q2, _⟩ | ⟨_, g, rfl, q3, q4, _, q5⟩)
                    · exact absurd hm0 q2
                    · exact ⟨g, rfl, q3, q4, q5⟩
                  have hwin := hT9.rel.mem k hlt3
                  have hBl := hT9.rel.len
                  have hV0 := hT9.ref.c0
                  have hVl := hT9.ref.lt
                  obtain ⟨v, hv⟩ : ∃ v, v = d.mem k := ⟨_, rfl⟩
                  rw [← hv] at hrd hwin
                  obtain ⟨B, hB⟩ : ∃ B, B = r.B := ⟨_, rfl⟩
                  rw [← hB] at hwin hBl hV0
                  have hx : (⟨B.toArray⟩ : ByteArray).extract (64 * k) (64 * k + 64) = ⟨v.toArray⟩ := by
                    rw [str_sub, ← hwin, show 64 * k + 64 - 64 * k = 64 by omega]
                    rfl
                  have hb1 : 64 * (k : Int) + 64 ≤ (B.length : Int) := by omega
                  have hb2 : (k : Int) < 100 := by omega
                  have Hrd := Lib.hid hrd
                  have HBl := Lib.hid hBl
                  clear hrd hv hB hwin hBl
                  go_upto_region 57 with (go_at_call 45; refine Hrd.out.mono ?_; rintro e w5 ⟨g, rfl, hg5, hv64, hB5⟩)
                  have hne : Nonempty (SW (fun W => Below w5.heap.size w5 W)) := ⟨⟨w5, Below.refl _ _⟩⟩
                  have t1 : ∀ x : SW (fun W => Below w5.heap.size w5 W), (convert 22 9 (.slice (some ⟨g, 0, none⟩) 64 64)).run Try.prog x.W = .ok (.string ⟨v.toArray⟩) x.W := fun x => conv_text ((hg5.later x.h).bytes) hv64.symm
                  have t2 : ∀ x : SW (fun W => Below w5.heap.size w5 W), x.W.cell? ⟨V, 0, none⟩ = some (.string ⟨B.toArray⟩) := fun x => (x.h.cell (p := ⟨V, 0, none⟩) (Nat.lt_of_lt_of_le hVl hB5.size)).trans ((hB5.cell (p := ⟨V, 0, none⟩) hVl).trans hV0)
                  refine wp_region_seq2 (fun W => Below w5.heap.size w5 W) [(0, true), (1, true), (2, true), (3, true), (4, true), (5, true), (6, true), (7, true), (8, true), (9, true), (10, true), (11, true), (12, true), (13, true), (14, true), (15, true), (16, true)] (by kernel_rfl) (by kernel_rfl) (fun d _ _ _ _ h => by cases d <;> exact h) ((Below.refl _ _).drew) ?_
                  repeat (first
                    | (refine wpSeq_skip (o := ⟨_, _, _, _, _, _⟩) rfl rfl ?_; simp only [Act.put, List.setIfInBounds_toArray, List.set_cons_zero, List.set_cons_succ])
                    | (refine wpSeq_free (o := ⟨_, _, _, _, _, _⟩) rfl rfl (fun K hK => ?_); go_big_quiet_op; (refine hK _ ?_; clear hK K)))
                  refine wpSeq_nil ?_
                  go_wp2
                  go_roundw
                  case rel => exact ⟨k + 1, by omega, by go_num, hD9.later hB5.drew, (hT9.later hB5).drew⟩
                  case measure => simp [intOf]; omega
                · obtain rfl : k = n := by omega
                  go_wp2
                  go_roundw
                  case rel => exact ⟨j + 1, D, b, V, d, r, by omega, by go_num, rfl, rfl, hT9⟩
                  case measure => simp [intOf]; omega
    · obtain rfl : j = l.length := by omega
      go_wp2_with (go_at_call 39; refine (known39_calls _).mono ?_; rintro e w9 ⟨rfl, hB9⟩)
      go_ret
      exact ⟨rfl, (hT.later hB9).bel⟩

theorem devicePlays_walk (n : Int) (a : Option Addr) (l : List POp) (cap : Nat) (w : World) (hops : IsOps w a l) :
    Calls Try.prog 9 #[.int .i64 n, .slice a l.length cap] w fun e w' => e = .returned (.bool true) ∧ Below w.heap.size w w' := by
  by_cases h : 60 < l.length ∨ 100 < n ∧ n ≤ 16384
  · exact plays_long n a l cap w h
  · by_cases h2 : n < 16 ∨ 16384 < n
    · exact plays_bad n a l cap w (by omega) h2
    · obtain ⟨m, rfl⟩ := Int.eq_ofNat_of_zero_le (show 0 ≤ n by omega)
      exact plays_good m a l cap w (by omega) (by omega) (by omega) hops

end Go.Proofs.Ytdlbjllgdikadaa
