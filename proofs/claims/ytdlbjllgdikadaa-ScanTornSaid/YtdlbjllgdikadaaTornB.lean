/- ScanTorn, the walk of the statement's own function. -/
import Derived.Test.YtdlbjllgdikadaaTornA
namespace Go.Proofs.Ytdlbjllgdikadaa
open Go.RowKit
set_option linter.unusedVariables false
set_option linter.unusedSimpArgs false

/-- What is known of the device behind the blocks B. -/
structure TornInv (n p : Int) (s : Nat) (B : List Blk) (d : Dev) : Prop where
  rel : TornRel n p s B d
  many : B.length ≤ 40
  ser : ∀ i (hi : i < B.length), B[i].serial = s + i ∧ mayB B[i] = true
  no : ∀ i (hi : i < B.length), (i : Int) = n → 0 < p → p < 64 → decE (tornB p (sealB B[i])) ≠ 0

theorem TornInv.step {n p : Int} {s : Nat} {B : List Blk} {d : Dev} (h : TornInv n p s B d) (x : Blk) (hB : B.length < 40) (hx : mayB x = true) (hxs : x.serial = s + B.length)
    (hno : (B.length : Int) = n → 0 < p → p < 64 → decE (tornB p (sealB x)) ≠ 0) : TornInv n p s (B ++ [x]) (writeD d (((s + B.length) % 40 : Nat) : Int) (sealB x)) := by
  refine ⟨(torn_step n p s B d x h.rel hB hx).2, by rw [List.length_append]; exact hB, fun i hi => ?_, fun i hi => ?_⟩
  · by_cases e : i < B.length
    · rw [List.getElem_append_left e]; exact h.ser i e
    · have : i = B.length := by simp at hi; omega
      subst this
      simp [hx, hxs]
  · by_cases e : i < B.length
    · rw [List.getElem_append_left e]; exact h.no i e
    · have : i = B.length := by simp at hi; omega
      subst this
      simpa using hno

/-- What is known behind the loop. -/
def TornFin (n p : Int) (s : Nat) (R : List Rc) (d : Dev) : Prop := ∃ B, TornInv n p s B d ∧ refRecs (B.take (lastB n p B)) = R

theorem torn_fin_all {n p : Int} {s : Nat} {R : List Rc} {d : Dev} (h : TornInv n p s (catB R) d) (hl : ((catB R).length : Int) ≤ limN n p) : TornFin n p s R d := by
  refine ⟨_, h, ?_⟩
  have : lastB n p (catB R) = (catB R).length := by unfold lastB; omega
  rw [this, List.take_length]
  have := recs_cat R []
  rw [List.append_nil] at this
  rw [this]; simp [refRecs]

theorem torn_fin_part {n p : Int} {s : Nat} {R : List Rc} {d : Dev} (k : UInt8) (t : Nat) (rec : List UInt8) (h : TornInv n p s (catB R ++ blkTo k t (manyN rec.length) rec (manyN rec.length)) d) (h0 : 0 ≤ limN n p)
    (hl : ((catB R).length : Int) ≤ limN n p) (hl2 : ¬ (((catB R).length + manyN rec.length : Nat) : Int) ≤ limN n p) : TornFin n p s R d := by
  refine ⟨_, h, ?_⟩
  have hm : (blkTo k t (manyN rec.length) rec (manyN rec.length)).length = manyN rec.length := blkTo_length _ _ _ _ _
  have e1 : lastB n p (catB R ++ blkTo k t (manyN rec.length) rec (manyN rec.length)) = (catB R).length + ((limN n p).toNat - (catB R).length) := by
    unfold lastB
    rw [List.length_append, hm]
    omega
  have e2 : (blkTo k t (manyN rec.length) rec (manyN rec.length)).take ((limN n p).toNat - (catB R).length) = blkTo k t (manyN rec.length) rec ((limN n p).toNat - (catB R).length) := by
    unfold blkTo
    rw [← List.map_take, List.take_range]
    congr 2
    omega
  rw [e1, List.take_length_add_append, e2, recs_cat, recs_part _ _ _ _ (by omega), List.append_nil]

theorem limN_pos {n p : Int} (h : 0 ≤ n) : 0 ≤ limN n p := by unfold limN; split <;> omega

set_option maxRecDepth 100000 in
set_option maxHeartbeats 16000000 in
theorem torn_walk (s : Nat) (L : List Sl) (a : Option Addr) (c ck : Nat) (n p : Int) (w : World) (hs : s < 18446744073709551616) (hck : ck < 65536) (hn2 : n ≤ 9223372036854775807) (hI : IsSs w a L) :
    Calls Try.prog 12 #[.int .u64 (s : Int), .slice a L.length c, .int .u16 (ck : Int), .int .i64 n, .int .i64 p] w fun e w' => e = .returned (.bool true) ∧ Below w.heap.size w w' := by
  have hkn := Lib.hid known56_calls
  have hnew := Lib.hid (new_dev 40 w (by decide) (by decide))
  go_enter Try.func12, Try.ntmps12
  go_upto_region 4 with (go_at_call 38; refine hnew.out.mono ?_; rintro e w1 ⟨D, b, rfl, hD, hlD, hlb, hB1⟩)
  by_cases hbad : 12 < L.length ∨ 549755813888 < s ∨ n < 0 ∨ p < 0 ∨ 64 < p
  · have hkk : ∀ w', Below w.heap.size w w' → Calls Try.prog 56 #[] w' fun e w2 => e = .returned (.bool true) ∧ Below w.heap.size w w2 := fun w' hb => (hkn.out w').mono fun e w2 ⟨h1, h2⟩ => ⟨h1, below_call hb (Nat.le_refl _) h2⟩
    have hcr : ∀ n p : Int, Calls Try.prog 40 #[.pointer (some ⟨D, 0, none⟩), .int .i64 n, .int .i64 p] w1 fun e w' => e = .returned (.int .i64 (crashE (newD 40) n p : Nat)) ∧ DevAt w' D b (crashD (newD 40) n p) ∧ w1.grownBy w' (some D) := fun n p => crash_dev D b (newD 40) n p w1 hD
    by_cases c1 : 12 < L.length
    · have c1' : (12 : Int) < (L.length : Int) := by omega
      go_wp2_with (go_at_call 56; refine (hkk _ hB1).mono ?_; rintro e w2 ⟨rfl, hB2⟩)
      go_ret
      exact ⟨rfl, hB2⟩
    · have c1' : ¬ (12 : Int) < (L.length : Int) := by omega
      by_cases c2 : 549755813888 < s
      · have c2' : (549755813888 : Int) < (s : Int) := by omega
        go_wp2_with (go_at_call 56; refine (hkk _ hB1).mono ?_; rintro e w2 ⟨rfl, hB2⟩)
        go_ret
        exact ⟨rfl, hB2⟩
      · have c2' : ¬ (549755813888 : Int) < (s : Int) := by omega
        by_cases c3 : n < 0
        · go_wp2_with (go_at_call 56; refine (hkk _ hB1).mono ?_; rintro e w2 ⟨rfl, hB2⟩)
          go_ret
          exact ⟨rfl, hB2⟩
        · by_cases c4 : p < 0
          · go_wp2_with (go_at_call 56; refine (hkk _ hB1).mono ?_; rintro e w2 ⟨rfl, hB2⟩)
            go_ret
            exact ⟨rfl, hB2⟩
          · have c5 : 64 < p := by omega
            go_wp2_with (go_at_call 56; refine (hkk _ hB1).mono ?_; rintro e w2 ⟨rfl, hB2⟩)
            go_ret
            exact ⟨rfl, hB2⟩
  · obtain ⟨hE, hT0⟩ := torn_start n p s (by omega) (by omega) (by omega)
    have hcr := crash_dev D b (newD 40) n p w1 hD
    rw [hE] at hcr
    have Hcr := Lib.hid hcr
    have b1 : ¬ (12 : Int) < (L.length : Int) := by omega
    have b2 : ¬ (549755813888 : Int) < (s : Int) := by omega
    have b3 : ¬ n < 0 := by omega
    have b4 : ¬ p < 0 := by omega
    have b5 : ¬ 64 < p := by omega
    clear hcr hE
    go_upto_block 0 with (go_at_call 40; refine Hcr.out.mono ?_; rintro e w2 ⟨rfl, hD2, hg2⟩)
    have hB2 : Below w.heap.size w w2 := hB1.grown hg2 hB1.size (fun q e => by cases e; exact hlD)
    have hT1 : TornInv n p s [] (crashD (newD 40) n p) := ⟨hT0, Nat.zero_le _, fun i hi => absurd hi (Nat.not_lt_zero _), fun i hi => absurd hi (Nat.not_lt_zero _)⟩
    have hb2l : b < w2.heap.size := hD2.ltb
    have hD2l : D < w2.heap.size := hD2.lt
    have b3' : 0 ≤ limN n p := limN_pos (by omega)
    refine over_world (R := fun W => DevAt W D b (crashD (newD 40) n p) ∧ Below w.heap.size w W) ⟨hD2, hB2⟩ ?_
    clear hD2 hB2 hg2 hb2l hD2l Hcr hD hB1 hT0 hnew
    rintro wa ⟨hDa, hba⟩
    go_cut [13] from 14 to 175 (fun v wc => ∃ (R : List Rc) (d : Dev), WantRs w wc w.heap.size v (lastsOf R) ∧ DevAt wc D b d ∧ TornFin n p s R d ∧ R.length ≤ L.length ∧ Below w.heap.size w wc)
    case first =>
      go_wp2
      go_loopw [13, 14, 70] (fun v sv iv wr => ∃ (i : Nat) (R : List Rc) (d : Dev), i ≤ L.length ∧ iv = .int .i64 (i : Int) ∧ sv = .int .u64 ((s + (catB R).length : Nat) : Int) ∧ WantRs w wr w.heap.size v (lastsOf R) ∧ DevAt wr D b d ∧ TornInv n p s (catB R) d ∧ ((catB R).length : Int) ≤ limN n p ∧ R.length = i ∧ (R ≠ [] → R.any (fun x => x.kind == 2) = true) ∧ Below w.heap.size w wr) (fun _ _ iv _ => L.length - (intOf iv).toNat)
      case atStart => exact ⟨0, [], _, Nat.zero_le _, rfl, rfl, WantRs.nil _ _ _, hDa, hT1, b3', rfl, fun h => absurd rfl h, hba⟩
      case round =>
        clear hDa hT1 hba
        obtain ⟨i, R, d, hiL, rfl, rfl, hW, hDr, hT, hlim, hRi, hany, hbw⟩ := hrel
        by_cases hlt : i < L.length
        · obtain ⟨b0, o0, rfl, hcell, hok⟩ := hI i hlt
          obtain ⟨x, hx⟩ : ∃ x, x = L[i] := ⟨_, rfl⟩
          rw [← hx] at hcell hok
          clear hx
          have hce : wr.cell? ⟨b0, o0 + i, none⟩ = some (.slice x.a x.l.length x.c) := (hbw.cell (p := ⟨b0, o0 + i, none⟩) (World.block_lt_of_cell? w _ hcell)).trans hcell
          have hiI : (i : Int) < (L.length : Int) := by omega
          obtain ⟨K, hK⟩ : ∃ K, K = (catB R).length := ⟨_, rfl⟩
          rw [← hK] at hlim ⊢
          have HK := Lib.hid hK
          clear hK hcell
          by_cases hbig : 120 < x.l.length
          · have hbI : (120 : Int) < (x.l.length : Int) := by omega
            go_wp2_with (go_at_call 56; refine (hkn.out _).mono ?_; rintro e w3 ⟨rfl, hB3⟩)
            go_ret
            exact ⟨rfl, below_call hbw (Nat.le_refl _) hB3⟩
          · have hbI : ¬ (120 : Int) < (x.l.length : Int) := by omega
            go_upto_region 14 with fail
            go_cut [87] from 79 to 87 (fun cv wc => ∃ q : Bool, cv = .bool q ∧ (i = 0 → q = true) ∧ wc = wr)
            case first =>
              by_cases hi0 : i = 0
              · subst hi0
                go_wp2
                go_meet
                exact ⟨_, rfl, fun _ => rfl, rfl⟩
              · have hi0I : ((i : Int) == 0) = false := by rw [beq_eq_false_iff_ne]; omega
                go_wp2
                go_meet
                exact ⟨_, rfl, fun h => absurd h hi0, rfl⟩
            case rest =>
              obtain ⟨q, rfl, hq, hwc⟩ := hcut
              replace hwc := hwc.symm
              subst hwc
              go_upto_if 87 with fail
              go_cut [17] from 17 to 17 (fun kv wc => ∃ k : UInt8, kv = .int .u8 (k.toNat : Int) ∧ (k = 1 ∨ k = 2) ∧ (i = 0 → k = 2) ∧ wc = wr)
              case first =>
                cases q
                · go_wp2
                  go_meet
                  exact ⟨1, rfl, .inl rfl, fun h => absurd (hq h) Bool.false_ne_true, rfl⟩
                · go_wp2
                  go_meet
                  exact ⟨2, rfl, .inr rfl, fun _ => rfl, rfl⟩
              case rest =>
                clear hq
                obtain ⟨k, rfl, hk, hk0, hwc⟩ := hcut
                replace hwc := hwc.symm
                subst hwc
                have hm1 := manyN_pos x.l.length
                have hm3 : manyN x.l.length ≤ 3 := by unfold manyN; split <;> omega
                obtain ⟨m, hm⟩ : ∃ m, m = manyN x.l.length := ⟨_, rfl⟩
                have hK40 : K ≤ 40 := by rw [HK.out]; exact hT.many
                have hkB : kindB k = true := by rcases hk with rfl | rfl <;> decide
                have hSp : splitL k (s + K) x.l = blkTo k (s + K) m x.l m := by
                  have h0 : splitE k (s + K) x.l = 0 := by
                    unfold splitE mayS
                    rw [hkB, ← hm, decide_eq_true (by omega : s + K ≤ 1099511627776), decide_eq_true (by omega : s + K + (m - 1) ≤ 1099511627776), if_pos (by rfl), if_pos (by omega)]
                  unfold splitL
                  rw [if_pos h0, ← hm]
                have hsp := refsplit_calls k (s + K) (by omega) x.a x.l x.c hok.2.1 (by omega) wr hok.2.2 (hok.1.later hbw)
                unfold SplitPost at hsp
                rw [hSp] at hsp
                rw [← hm] at hm1 hm3
                obtain ⟨Bl, hBl⟩ : ∃ Bl, Bl = blkTo k (s + K) m x.l m := ⟨_, rfl⟩
                have hBlen : Bl.length = m := by rw [hBl]; exact blkTo_length _ _ _ _ _
                rw [← hBl] at hsp
                have Hsp := Lib.hid hsp
                have HBl := Lib.hid (And.intro hBl hm)
                have HKB := Lib.hid hkB
                clear hsp hSp hBl hm hkB
                go_upto_region 17 with (go_at_call 25; refine Hsp.out.mono ?_; rintro e w3 ⟨v3, rfl, hO3, hB3⟩; obtain ⟨a3, c3, rfl, _⟩ := hO3.slice)
                have hW3 := hW.later hB3
                have hD3 := hDr.later hB3
                have hbw3 := below_call hbw (Nat.le_refl _) hB3
                have hDw := hDr.lt
                have hbwl := hDr.ltb
                obtain ⟨B1, hB1⟩ : ∃ B1, B1 = wr.heap.size := ⟨_, rfl⟩
                rw [← hB1] at hO3 hDw hbwl
                clear hB1
                refine over_world (R := fun W => OwnBs W B1 (.slice a3 m c3) Bl ∧ WantRs w W w.heap.size u13 (lastsOf R) ∧ DevAt W D b d ∧ Below w.heap.size w W) ⟨by rw [hBlen] at hO3; exact hO3, hW3, hD3, hbw3⟩ ?_
                clear hO3 hW3 hD3 hbw3 hB3 hce hW hDr hbw
                rintro wb ⟨hO3, hW3, hD3, hbw3⟩
                by_cases hfit : K + m ≤ 40
                · have hfI : ¬ ((s : Int) + 40 < (s : Int) + (K : Int) + (m : Int)) := by omega
                  have hbb : D ∉ ([] : List Nat) := fun h => nomatch h
                  clear hbb Hsp
                  go_wp2
                  go_loopw [20, 105] (fun qv iv wq => ∃ (j : Nat) (d' : Dev) (q : Bool), j ≤ m ∧ iv = .int .i64 (j : Int) ∧ qv = .bool q ∧ (q = true ↔ ((K + j : Nat) : Int) ≤ limN n p) ∧ OwnBs wq B1 (.slice a3 m c3) Bl ∧ WantRs w wq w.heap.size u13 (lastsOf R) ∧ DevAt wq D b d' ∧ TornInv n p s (catB R ++ Bl.take j) d' ∧ Below w.heap.size w wq) (fun _ iv _ => m - (intOf iv).toNat)
                  case atStart => exact ⟨0, d, true, Nat.zero_le _, rfl, rfl, ⟨fun _ => by simpa using hlim, fun _ => rfl⟩, hO3, hW3, hD3, by rw [List.take_zero, List.append_nil]; exact hT, hbw3⟩
                  case round =>
                    clear hO3 hW3 hD3 hbw3 hT
                    obtain ⟨j, d', q, hjm, rfl, rfl, hq, hO3, hW3, hD3, hT, hbw3⟩ := hrel
                    by_cases hjl : j < m
                    · have hjI : (j : Int) < (m : Int) := by omega
                      have hjB : j < Bl.length := by omega
                      obtain ⟨a9, c9, e9, hIB, _⟩ := hO3.slice
                      obtain ⟨rfl, rfl⟩ : a9 = a3 ∧ c9 = c3 := by injection e9 with q1 q2 q3; exact ⟨q1.symm, q3.symm⟩
                      obtain ⟨b1, o1, ax, cx, ha, f0, f1, f2, f3, f4, hby, hxc, hxn⟩ := hIB.at j hjB
                      obtain ⟨y, hy⟩ : ∃ y, y = Bl[j] := ⟨_, rfl⟩
                      have htk : Bl.take (j + 1) = Bl.take j ++ [y] := by rw [List.take_add_one, List.getElem?_eq_getElem hjB, hy]; rfl
                      rw [← hy] at f0 f1 f2 f3 f4 hby hxc hxn
                      cases ha
                      have hyb : y = blkAt k (s + K) m x.l j := by
                        have h1 := HBl.out.1
                        rw [hy]
                        simp only [h1, blkTo, List.getElem_map, List.getElem_range]
                      have hys : y.serial = s + (K + j) := by rw [hyb]; show s + K + j = _; omega
                      have hym : mayB y = true := by
                        rw [hyb, HBl.out.2]
                        exact blk_may k (s + K) x.l HKB.out (by omega) j (by rw [← HBl.out.2]; exact hjl)
                      have hyl : y.body.length ≤ 48 := by rw [hyb]; show (partB x.l j).length ≤ 48; rw [part_len]; omega
                      have hBB : (catB R ++ Bl.take j).length = K + j := by rw [List.length_append, List.length_take, ← HK.out, hBlen]; omega
                      have hlt40 : (catB R ++ Bl.take j).length < 40 := by rw [hBB]; omega
                      have hok' := torn_ok hT.rel (by omega) hn2 (by omega) (by omega)
                      have h64 : (sealB y).length = 64 := seal_length y hyl
                      obtain ⟨hE, hR2⟩ := torn_step n p s _ d' y hT.rel hlt40 hym
                      have hstep := hT.step y hlt40 hym (by rw [hys, hBB])
                      rw [hBB] at hE hR2 hstep
                      obtain ⟨P, hP⟩ : ∃ P, P = (s + (K + j)) % 40 := ⟨_, rfl⟩
                      have hmod : ((y.serial : Int) % 40) = (P : Int) := by rw [hys, hP]; omega
                      have hmodN : y.serial % 40 = P := by rw [hys, hP]
                      have hsub : IntKind.u64.wrap ((y.serial : Int) - (s : Int)) = ((K + j : Nat) : Int) := by rw [IntKind.wrap_u64, hys]; omega
                      rw [← hP] at hE hR2 hstep
                      obtain ⟨d2, hd2⟩ : ∃ d2, d2 = writeD d' (P : Int) (sealB y) := ⟨_, rfl⟩
                      have hw42 : ∀ W a7 c7, DevAt W D b d' → IsBytes W a7 (sealB y) → (∀ q off, a7 = some ⟨q, off, none⟩ → q ∉ [D, b]) → Calls Try.prog 42 #[.pointer (some ⟨D, 0, none⟩), .int .i64 (P : Int), .slice a7 64 c7] W fun e w' => e = .returned (.int .i64 (if ((K + j : Nat) : Int) < n then 0 else 11 : Int)) ∧ DevAt w' D b d2 ∧ Aside [D, b] W w' := fun W a7 c7 h1 h2 h3 => by
                        have h := write_dev D b d' (P : Int) a7 (sealB y) c7 W h1 hok' h2 h3
                        rw [h64] at h
                        refine h.mono ?_
                        rintro e w' ⟨rfl, h4, h5⟩
                        refine ⟨?_, hd2 ▸ h4, h5⟩
                        rw [hE]
                        split <;> rfl
                      have henc : ∀ W, IsBytes W ax y.body → Calls Try.prog 32 #[.agg (y.cells ax cx)] W fun e w' => ∃ a7 c7, e = .returned (.tuple #[.slice a7 64 c7, .int .i64 0]) ∧ IsBytes w' a7 (sealB y) ∧ (∀ q off, a7 = some ⟨q, off, none⟩ → W.heap.size ≤ q) ∧ Below W.heap.size W w' := fun W h1 => by
                        refine (refencode_calls y ax cx W (by omega) (by omega) hxn h1).mono ?_
                        rintro e w' ⟨v, rfl, hO, hB⟩
                        unfold encT encEr at *
                        rw [if_pos hym] at hO ⊢
                        obtain ⟨a7, c7, rfl, hby7, _, _, hbk7, _⟩ := hO.slice
                        rw [h64]
                        exact ⟨a7, c7, rfl, hby7, fun q off e => by obtain ⟨g, e1, e2, _⟩ := hbk7 _ e; cases e1; exact e2, hB⟩
                      have hb40 : d2.blocks = 40 := by rw [hd2]; exact hR2.1
                      have hdown : d2.down = if ((K + j : Nat) : Int) < n then false else true := by
                        obtain ⟨_, _, _, _, _, r1, r2⟩ := hR2
                        rw [hd2]
                        have hl2 : ((catB R ++ Bl.take j) ++ [y]).length = K + j + 1 := by rw [List.length_append, hBB]; rfl
                        rw [hl2] at r1 r2
                        split
                        · exact (r1 (by omega)).1
                        · exact (r2 (by omega)).1
                      have hmemP : d2.mem P = if ((K + j : Nat) : Int) < n then sealB y else if ((K + j : Nat) : Int) = n then tornB p (sealB y) else zero64 := by
                        obtain ⟨_, _, r1, r2, r3, _, _⟩ := hR2
                        rw [hd2]
                        have hl2 : ((catB R ++ Bl.take j) ++ [y]).length = K + j + 1 := by rw [List.length_append, hBB]; rfl
                        have hgy : ∀ h : K + j < ((catB R ++ Bl.take j) ++ [y]).length, ((catB R ++ Bl.take j) ++ [y])[K + j] = y := fun h => by
                          rw [List.getElem_append_right (by omega)]; simp [hBB]
                        split
                        · have h := r1 (K + j) (by omega) (by omega)
                          rwa [← hP, hgy] at h
                        · split
                          · have h := r2 (K + j) (by omega) (by omega)
                            rwa [← hP, hgy] at h
                          · refine r3 P (by omega) fun i hi hin => ?_
                            rw [hP]; omega
                      obtain ⟨Z, hZ⟩ : ∃ Z, Z = decE (d2.mem P) := ⟨_, rfl⟩
                      have hch : ∀ W, DevAt W D b d2 → Calls Try.prog 65 #[.pointer (some ⟨D, 0, none⟩), .agg (y.cells ax cx)] W fun e w' => e = .returned (.bool ((Z : Int) == 0)) ∧ Below W.heap.size W w' := fun W h1 => by
                        have := chance_calls D b d2 y ax cx W h1 hb40 (by omega)
                        rwa [hmodN, ← hZ] at this
                      obtain ⟨w4, hw4⟩ : ∃ w4, w4 = wr.alloc (.cells #[.int .u64 (y.serial : Int), .int .u8 (y.kind.toNat : Int), .bool y.first, .bool y.last, .slice ax y.body.length cx] 43) := ⟨_, rfl⟩
                      have hb4 : Below wr.heap.size wr w4 := by rw [hw4]; exact (Below.refl _ _).alloc (Nat.le_refl _) _
                      have hX4 : BlkAt w4 wr.heap.size y ax cx := by rw [hw4]; exact heap_alloc_new _ _
                      rw [← hd2] at hstep
                      have HS := Lib.hid (And.intro hstep (And.intro hq (And.intro htk (And.intro hZ hmemP))))
                      have HC := Lib.hid (And.intro hmod (And.intro hsub hdown))
                      have Hw42 := Lib.hid hw42
                      have Henc := Lib.hid henc
                      have Hch := Lib.hid hch
                      have HBlen := Lib.hid hBlen
                      have hHD : D < wr.heap.size := hD3.lt
                      have hHb : b < wr.heap.size := hD3.ltb
                      clear hyb hys hym hE hR2 hstep hq htk hw42 henc hch hZ hmemP hmod hsub hdown hd2 hmodN hP hy hok' hBB hlt40 hT h64 hb40 hBlen hjB
                      clear e9
                      go_upto_region 22 with fail
                      rw [← hw4]
                      have hO4 := hO3.later hb4
                      have hW4 := hW3.later hb4
                      have hD4 := hD3.later hb4
                      have hby4 := hby.later hb4
                      have hbw4 := below_call hbw3 (Nat.le_refl _) hb4
                      have h4s : wr.heap.size < w4.heap.size := by rw [hw4]; simp
                      obtain ⟨H, hH⟩ : ∃ H, H = wr.heap.size := ⟨_, rfl⟩
                      rw [← hH] at hX4 h4s hHD hHb ⊢
                      clear hH
                      refine over_world (R := fun W => BlkAt W H y ax cx ∧ IsBytes W ax y.body ∧ DevAt W D b d' ∧ OwnBs W B1 (.slice (some ⟨b1, o1, none⟩) m c9) Bl ∧ WantRs w W w.heap.size u13 (lastsOf R) ∧ Below w.heap.size w W) ⟨hX4, hby4, hD4, hO4, hW4, hbw4⟩ ?_
                      clear hX4 hby4 hD4 hO4 hW4 hbw4 h4s hb4 hw4 f0 f1 f2 f3 f4 hby hIB hO3 hW3 hD3 hbw3
                      rintro wv ⟨hX4, hby4, hD4, hO4, hW4, hbw4⟩
                      have hKs := hbw4.size
                      have hD4l := hD4.lt
                      have hD4b := hD4.ltb
                      by_cases cA : ((K + j : Nat) : Int) < n
                      · obtain rfl : q = true := HS.out.2.1.2 (by unfold limN; split <;> omega)
                        have Hw := Lib.hid (show ∀ W a7 c7, DevAt W D b d' → IsBytes W a7 (sealB y) → (∀ q off, a7 = some ⟨q, off, none⟩ → q ∉ [D, b]) → Calls Try.prog 42 #[.pointer (some ⟨D, 0, none⟩), .int .i64 (P : Int), .slice a7 64 c7] W fun e w' => e = .returned (.int .i64 0) ∧ DevAt w' D b d2 ∧ Aside [D, b] W w' from fun W a7 c7 h1 h2 h3 => by have := Hw42.out W a7 c7 h1 h2 h3; rwa [if_pos cA] at this)
                        have hfin := Lib.hid (show TornInv n p s (catB R ++ Bl.take (j + 1)) d2 by rw [HS.out.2.2.1, ← List.append_assoc]; exact HS.out.1 (fun h => absurd h (by omega)))
                        have CA := Lib.hid cA
                        clear cA
                        go_upto_region 24 with (first | (refine wpList_load_blk rfl (.tmp 22) rfl H y ax cx rfl hX4 ?_; simp only [Blk.cells]) | (go_at_call 32; refine (Henc.out _ hby4).mono ?_; rintro e w5 ⟨a7, c7, rfl, hby7, hbk7, hB5⟩; have hX5 := hX4.later hB5; have hD5 := hD4.later hB5; have hW5 := hW4.later hB5; have hO5 := hO4.later hB5; have hbw5 := below_call hbw4 (Nat.le_refl _) hB5; have c50 : w5.cell? ⟨H, 0, none⟩ = some (.int .u64 (y.serial : Int)) := hX5.cell 0 _ rfl; have hno7 : ∀ q off, a7 = some ⟨q, off, none⟩ → q ∉ [D, b] := (fun q off e => (by have := hbk7 q off e; simp; omega))) | (go_at_call 42; rw [HC.out.1]; refine (Hw.out _ a7 c7 hD5 hby7 hno7).mono ?_; rintro e w6 ⟨rfl, hD6, hA6⟩; have hX6 : BlkAt w6 H y ax cx := (hA6.block H (lt_of_block hX5) (by simp; omega)).trans hX5; have hW6 := hW5.aside hD5 hA6; have hO6 := hO5.aside hA6 (fun q hq => (by simp at hq; omega)); have hbw6 := hbw5.trans (hA6.toBelow (B := w.heap.size) (fun q hq => (by simp at hq; omega)) hbw5.size); have d60 : w6.cell? ⟨H, 0, none⟩ = some (.int .u64 (y.serial : Int)) := hX6.cell 0 _ rfl; have d61 : w6.cell? ⟨H, 1, none⟩ = some (.int .u8 (y.kind.toNat : Int)) := hX6.cell 1 _ rfl; have d62 : w6.cell? ⟨H, 2, none⟩ = some (.bool y.first) := hX6.cell 2 _ rfl; have d63 : w6.cell? ⟨H, 3, none⟩ = some (.bool y.last) := hX6.cell 3 _ rfl; have d64 : w6.cell? ⟨H, 4, none⟩ = some (.slice ax y.body.length cx) := hX6.cell 4 _ rfl)); go_wp2
                        go_roundw
                        case rel => exact ⟨j + 1, d2, true, by omega, by go_num, rfl, ⟨fun _ => by have := CA.out; unfold limN; split <;> omega, fun _ => rfl⟩, hO6, hW6, hD6, hfin.out, hbw6⟩
                        case measure => simp [intOf]; omega
                      · have Hw := Lib.hid (show ∀ W a7 c7, DevAt W D b d' → IsBytes W a7 (sealB y) → (∀ q off, a7 = some ⟨q, off, none⟩ → q ∉ [D, b]) → Calls Try.prog 42 #[.pointer (some ⟨D, 0, none⟩), .int .i64 (P : Int), .slice a7 64 c7] W fun e w' => e = .returned (.int .i64 11) ∧ DevAt w' D b d2 ∧ Aside [D, b] W w' from fun W a7 c7 h1 h2 h3 => by have := Hw42.out W a7 c7 h1 h2 h3; rwa [if_neg cA] at this)
                        have hdn : d2.down = true := by rw [HC.out.2.2, if_neg cA]
                        by_cases cB : ((K + j : Nat) : Int) = n
                        · obtain rfl : q = true := HS.out.2.1.2 (by unfold limN; split <;> omega)
                          have hmP : d2.mem P = tornB p (sealB y) := by rw [HS.out.2.2.2.2, if_neg cA, if_pos cB]
                          by_cases p64 : p = 64
                          · subst p64
                            have hfin := Lib.hid (show TornInv n 64 s (catB R ++ Bl.take (j + 1)) d2 by rw [HS.out.2.2.1, ← List.append_assoc]; exact HS.out.1 (fun _ _ h => absurd h (by omega)))
                            have hsub : (IntKind.u64.wrap ((y.serial : Int) - (s : Int)) == n) = true := by rw [HC.out.2.1, cB]; exact beq_self_eq_true _
                            have CA := Lib.hid cB
                            clear cA cB hmP
                            go_upto_region 24 with (first | (refine wpList_load_blk rfl (.tmp 22) rfl H y ax cx rfl hX4 ?_; simp only [Blk.cells]) | (go_at_call 32; refine (Henc.out _ hby4).mono ?_; rintro e w5 ⟨a7, c7, rfl, hby7, hbk7, hB5⟩; have hX5 := hX4.later hB5; have hD5 := hD4.later hB5; have hW5 := hW4.later hB5; have hO5 := hO4.later hB5; have hbw5 := below_call hbw4 (Nat.le_refl _) hB5; have c50 : w5.cell? ⟨H, 0, none⟩ = some (.int .u64 (y.serial : Int)) := hX5.cell 0 _ rfl; have hno7 : ∀ q off, a7 = some ⟨q, off, none⟩ → q ∉ [D, b] := (fun q off e => (by have := hbk7 q off e; simp; omega))) | (go_at_call 42; rw [HC.out.1]; refine (Hw.out _ a7 c7 hD5 hby7 hno7).mono ?_; rintro e w6 ⟨rfl, hD6, hA6⟩; have hX6 : BlkAt w6 H y ax cx := (hA6.block H (lt_of_block hX5) (by simp; omega)).trans hX5; have hW6 := hW5.aside hD5 hA6; have hO6 := hO5.aside hA6 (fun q hq => (by simp at hq; omega)); have hbw6 := hbw5.trans (hA6.toBelow (B := w.heap.size) (fun q hq => (by simp at hq; omega)) hbw5.size); have d60 : w6.cell? ⟨H, 0, none⟩ = some (.int .u64 (y.serial : Int)) := hX6.cell 0 _ rfl; have d61 : w6.cell? ⟨H, 1, none⟩ = some (.int .u8 (y.kind.toNat : Int)) := hX6.cell 1 _ rfl; have d62 : w6.cell? ⟨H, 2, none⟩ = some (.bool y.first) := hX6.cell 2 _ rfl; have d63 : w6.cell? ⟨H, 3, none⟩ = some (.bool y.last) := hX6.cell 3 _ rfl; have d64 : w6.cell? ⟨H, 4, none⟩ = some (.slice ax y.body.length cx) := hX6.cell 4 _ rfl)); go_wp2_with ((go_at_call 43; refine (down_dev D b d2 w6 hD6).mono ?_; rintro e w7 ⟨rfl, rfl⟩))
                            go_roundw
                            case rel => exact ⟨j + 1, d2, true, by omega, by go_num, rfl, ⟨fun _ => by have := CA.out; unfold limN; rw [if_pos rfl]; omega, fun _ => rfl⟩, hO6, hW6, hD6, hfin.out, hbw6⟩
                            case measure => simp [intOf]; omega
                          · have hpI : (p == 64) = false := by rw [beq_eq_false_iff_ne]; exact p64
                            have hq' : ¬ ((K + (j + 1) : Nat) : Int) ≤ limN n p := by unfold limN; rw [if_neg p64]; omega
                            have HQ := Lib.hid hq'
                            clear hq'
                            by_cases p0 : p = 0
                            · subst p0
                              have hfin := Lib.hid (show TornInv n 0 s (catB R ++ Bl.take (j + 1)) d2 by rw [HS.out.2.2.1, ← List.append_assoc]; exact HS.out.1 (fun _ h => absurd h (by omega)))
                              clear cA cB hmP
                              go_upto_region 24 with (first | (refine wpList_load_blk rfl (.tmp 22) rfl H y ax cx rfl hX4 ?_; simp only [Blk.cells]) | (go_at_call 32; refine (Henc.out _ hby4).mono ?_; rintro e w5 ⟨a7, c7, rfl, hby7, hbk7, hB5⟩; have hX5 := hX4.later hB5; have hD5 := hD4.later hB5; have hW5 := hW4.later hB5; have hO5 := hO4.later hB5; have hbw5 := below_call hbw4 (Nat.le_refl _) hB5; have c50 : w5.cell? ⟨H, 0, none⟩ = some (.int .u64 (y.serial : Int)) := hX5.cell 0 _ rfl; have hno7 : ∀ q off, a7 = some ⟨q, off, none⟩ → q ∉ [D, b] := (fun q off e => (by have := hbk7 q off e; simp; omega))) | (go_at_call 42; rw [HC.out.1]; refine (Hw.out _ a7 c7 hD5 hby7 hno7).mono ?_; rintro e w6 ⟨rfl, hD6, hA6⟩; have hX6 : BlkAt w6 H y ax cx := (hA6.block H (lt_of_block hX5) (by simp; omega)).trans hX5; have hW6 := hW5.aside hD5 hA6; have hO6 := hO5.aside hA6 (fun q hq => (by simp at hq; omega)); have hbw6 := hbw5.trans (hA6.toBelow (B := w.heap.size) (fun q hq => (by simp at hq; omega)) hbw5.size); have d60 : w6.cell? ⟨H, 0, none⟩ = some (.int .u64 (y.serial : Int)) := hX6.cell 0 _ rfl; have d61 : w6.cell? ⟨H, 1, none⟩ = some (.int .u8 (y.kind.toNat : Int)) := hX6.cell 1 _ rfl; have d62 : w6.cell? ⟨H, 2, none⟩ = some (.bool y.first) := hX6.cell 2 _ rfl; have d63 : w6.cell? ⟨H, 3, none⟩ = some (.bool y.last) := hX6.cell 3 _ rfl; have d64 : w6.cell? ⟨H, 4, none⟩ = some (.slice ax y.body.length cx) := hX6.cell 4 _ rfl)); go_wp2
                              go_roundw
                              case rel => exact ⟨j + 1, d2, false, by omega, by go_num, rfl, ⟨fun h => (nomatch h), fun h => absurd h (by have := HQ.out; omega)⟩, hO6, hW6, hD6, hfin.out, hbw6⟩
                              case measure => simp [intOf]; omega
                            · have hp0 : 0 < p := by omega
                              have hp64 : p < 64 := by omega
                              by_cases hz : Z = 0
                              · subst hz
                                clear cA cB hmP
                                go_upto_region 24 with (first | (refine wpList_load_blk rfl (.tmp 22) rfl H y ax cx rfl hX4 ?_; simp only [Blk.cells]) | (go_at_call 32; refine (Henc.out _ hby4).mono ?_; rintro e w5 ⟨a7, c7, rfl, hby7, hbk7, hB5⟩; have hX5 := hX4.later hB5; have hD5 := hD4.later hB5; have hW5 := hW4.later hB5; have hO5 := hO4.later hB5; have hbw5 := below_call hbw4 (Nat.le_refl _) hB5; have c50 : w5.cell? ⟨H, 0, none⟩ = some (.int .u64 (y.serial : Int)) := hX5.cell 0 _ rfl; have hno7 : ∀ q off, a7 = some ⟨q, off, none⟩ → q ∉ [D, b] := (fun q off e => (by have := hbk7 q off e; simp; omega))) | (go_at_call 42; rw [HC.out.1]; refine (Hw.out _ a7 c7 hD5 hby7 hno7).mono ?_; rintro e w6 ⟨rfl, hD6, hA6⟩; have hX6 : BlkAt w6 H y ax cx := (hA6.block H (lt_of_block hX5) (by simp; omega)).trans hX5; have hW6 := hW5.aside hD5 hA6; have hO6 := hO5.aside hA6 (fun q hq => (by simp at hq; omega)); have hbw6 := hbw5.trans (hA6.toBelow (B := w.heap.size) (fun q hq => (by simp at hq; omega)) hbw5.size); have d60 : w6.cell? ⟨H, 0, none⟩ = some (.int .u64 (y.serial : Int)) := hX6.cell 0 _ rfl; have d61 : w6.cell? ⟨H, 1, none⟩ = some (.int .u8 (y.kind.toNat : Int)) := hX6.cell 1 _ rfl; have d62 : w6.cell? ⟨H, 2, none⟩ = some (.bool y.first) := hX6.cell 2 _ rfl; have d63 : w6.cell? ⟨H, 3, none⟩ = some (.bool y.last) := hX6.cell 3 _ rfl; have d64 : w6.cell? ⟨H, 4, none⟩ = some (.slice ax y.body.length cx) := hX6.cell 4 _ rfl)); go_wp2_with (first | (go_at_call 65; refine (Hch.out _ hD6).mono ?_; rintro e w8 ⟨rfl, hB8⟩) | (go_at_call 56; refine (hkn.out _).mono ?_; rintro e w9 ⟨rfl, hB9⟩))
                                go_ret
                                exact ⟨rfl, below_call (below_call hbw6 (Nat.le_refl _) hB8) (Nat.le_refl _) hB9⟩
                              · have hzI : ((Z : Int) == 0) = false := by rw [beq_eq_false_iff_ne]; omega
                                have hfin := Lib.hid (show TornInv n p s (catB R ++ Bl.take (j + 1)) d2 by rw [HS.out.2.2.1, ← List.append_assoc]; exact HS.out.1 (fun _ _ _ h => hz (by rw [HS.out.2.2.2.1, hmP]; exact h)))
                                clear cA cB hmP
                                go_upto_region 24 with (first | (refine wpList_load_blk rfl (.tmp 22) rfl H y ax cx rfl hX4 ?_; simp only [Blk.cells]) | (go_at_call 32; refine (Henc.out _ hby4).mono ?_; rintro e w5 ⟨a7, c7, rfl, hby7, hbk7, hB5⟩; have hX5 := hX4.later hB5; have hD5 := hD4.later hB5; have hW5 := hW4.later hB5; have hO5 := hO4.later hB5; have hbw5 := below_call hbw4 (Nat.le_refl _) hB5; have c50 : w5.cell? ⟨H, 0, none⟩ = some (.int .u64 (y.serial : Int)) := hX5.cell 0 _ rfl; have hno7 : ∀ q off, a7 = some ⟨q, off, none⟩ → q ∉ [D, b] := (fun q off e => (by have := hbk7 q off e; simp; omega))) | (go_at_call 42; rw [HC.out.1]; refine (Hw.out _ a7 c7 hD5 hby7 hno7).mono ?_; rintro e w6 ⟨rfl, hD6, hA6⟩; have hX6 : BlkAt w6 H y ax cx := (hA6.block H (lt_of_block hX5) (by simp; omega)).trans hX5; have hW6 := hW5.aside hD5 hA6; have hO6 := hO5.aside hA6 (fun q hq => (by simp at hq; omega)); have hbw6 := hbw5.trans (hA6.toBelow (B := w.heap.size) (fun q hq => (by simp at hq; omega)) hbw5.size); have d60 : w6.cell? ⟨H, 0, none⟩ = some (.int .u64 (y.serial : Int)) := hX6.cell 0 _ rfl; have d61 : w6.cell? ⟨H, 1, none⟩ = some (.int .u8 (y.kind.toNat : Int)) := hX6.cell 1 _ rfl; have d62 : w6.cell? ⟨H, 2, none⟩ = some (.bool y.first) := hX6.cell 2 _ rfl; have d63 : w6.cell? ⟨H, 3, none⟩ = some (.bool y.last) := hX6.cell 3 _ rfl; have d64 : w6.cell? ⟨H, 4, none⟩ = some (.slice ax y.body.length cx) := hX6.cell 4 _ rfl)); go_wp2_with (first | (go_at_call 65; refine (Hch.out _ hD6).mono ?_; rintro e w8 ⟨rfl, hB8⟩) | (go_at_call 56; refine (hkn.out _).mono ?_; rintro e w9 ⟨rfl, hB9⟩))
                                go_roundw
                                case rel => exact ⟨j + 1, d2, false, by omega, by go_num, rfl, ⟨fun h => (nomatch h), fun h => absurd h (by have := HQ.out; omega)⟩, hO6.later hB8, hW6.later hB8, hD6.later hB8, hfin.out, below_call hbw6 (Nat.le_refl _) hB8⟩
                                case measure => simp [intOf]; omega
                        · have hmP : d2.mem P = zero64 := by rw [HS.out.2.2.2.2, if_neg cA, if_neg cB]
                          have hfin := Lib.hid (show TornInv n p s (catB R ++ Bl.take (j + 1)) d2 by rw [HS.out.2.2.1, ← List.append_assoc]; exact HS.out.1 (fun h => absurd h cB))
                          have hq' : ¬ ((K + (j + 1) : Nat) : Int) ≤ limN n p := by unfold limN; split <;> omega
                          have HQ := Lib.hid hq'
                          clear hq'
                          by_cases p64 : p = 64
                          · subst p64
                            have hsub : (IntKind.u64.wrap ((y.serial : Int) - (s : Int)) == n) = false := by rw [HC.out.2.1, beq_eq_false_iff_ne]; exact cB
                            clear cA cB hmP
                            cases q
                            ·
                              go_upto_region 24 with (first | (refine wpList_load_blk rfl (.tmp 22) rfl H y ax cx rfl hX4 ?_; simp only [Blk.cells]) | (go_at_call 32; refine (Henc.out _ hby4).mono ?_; rintro e w5 ⟨a7, c7, rfl, hby7, hbk7, hB5⟩; have hX5 := hX4.later hB5; have hD5 := hD4.later hB5; have hW5 := hW4.later hB5; have hO5 := hO4.later hB5; have hbw5 := below_call hbw4 (Nat.le_refl _) hB5; have c50 : w5.cell? ⟨H, 0, none⟩ = some (.int .u64 (y.serial : Int)) := hX5.cell 0 _ rfl; have hno7 : ∀ q off, a7 = some ⟨q, off, none⟩ → q ∉ [D, b] := (fun q off e => (by have := hbk7 q off e; simp; omega))) | (go_at_call 42; rw [HC.out.1]; refine (Hw.out _ a7 c7 hD5 hby7 hno7).mono ?_; rintro e w6 ⟨rfl, hD6, hA6⟩; have hX6 : BlkAt w6 H y ax cx := (hA6.block H (lt_of_block hX5) (by simp; omega)).trans hX5; have hW6 := hW5.aside hD5 hA6; have hO6 := hO5.aside hA6 (fun q hq => (by simp at hq; omega)); have hbw6 := hbw5.trans (hA6.toBelow (B := w.heap.size) (fun q hq => (by simp at hq; omega)) hbw5.size); have d60 : w6.cell? ⟨H, 0, none⟩ = some (.int .u64 (y.serial : Int)) := hX6.cell 0 _ rfl; have d61 : w6.cell? ⟨H, 1, none⟩ = some (.int .u8 (y.kind.toNat : Int)) := hX6.cell 1 _ rfl; have d62 : w6.cell? ⟨H, 2, none⟩ = some (.bool y.first) := hX6.cell 2 _ rfl; have d63 : w6.cell? ⟨H, 3, none⟩ = some (.bool y.last) := hX6.cell 3 _ rfl; have d64 : w6.cell? ⟨H, 4, none⟩ = some (.slice ax y.body.length cx) := hX6.cell 4 _ rfl)); go_wp2_with ((go_at_call 43; refine (down_dev D b d2 w6 hD6).mono ?_; rintro e w7 ⟨rfl, rfl⟩))
                              go_roundw
                              case rel => exact ⟨j + 1, d2, false, by omega, by go_num, rfl, ⟨fun h => (nomatch h), fun h => absurd h (by have := HQ.out; omega)⟩, hO6, hW6, hD6, hfin.out, hbw6⟩
                              case measure => simp [intOf]; omega
                            ·
                              go_upto_region 24 with (first | (refine wpList_load_blk rfl (.tmp 22) rfl H y ax cx rfl hX4 ?_; simp only [Blk.cells]) | (go_at_call 32; refine (Henc.out _ hby4).mono ?_; rintro e w5 ⟨a7, c7, rfl, hby7, hbk7, hB5⟩; have hX5 := hX4.later hB5; have hD5 := hD4.later hB5; have hW5 := hW4.later hB5; have hO5 := hO4.later hB5; have hbw5 := below_call hbw4 (Nat.le_refl _) hB5; have c50 : w5.cell? ⟨H, 0, none⟩ = some (.int .u64 (y.serial : Int)) := hX5.cell 0 _ rfl; have hno7 : ∀ q off, a7 = some ⟨q, off, none⟩ → q ∉ [D, b] := (fun q off e => (by have := hbk7 q off e; simp; omega))) | (go_at_call 42; rw [HC.out.1]; refine (Hw.out _ a7 c7 hD5 hby7 hno7).mono ?_; rintro e w6 ⟨rfl, hD6, hA6⟩; have hX6 : BlkAt w6 H y ax cx := (hA6.block H (lt_of_block hX5) (by simp; omega)).trans hX5; have hW6 := hW5.aside hD5 hA6; have hO6 := hO5.aside hA6 (fun q hq => (by simp at hq; omega)); have hbw6 := hbw5.trans (hA6.toBelow (B := w.heap.size) (fun q hq => (by simp at hq; omega)) hbw5.size); have d60 : w6.cell? ⟨H, 0, none⟩ = some (.int .u64 (y.serial : Int)) := hX6.cell 0 _ rfl; have d61 : w6.cell? ⟨H, 1, none⟩ = some (.int .u8 (y.kind.toNat : Int)) := hX6.cell 1 _ rfl; have d62 : w6.cell? ⟨H, 2, none⟩ = some (.bool y.first) := hX6.cell 2 _ rfl; have d63 : w6.cell? ⟨H, 3, none⟩ = some (.bool y.last) := hX6.cell 3 _ rfl; have d64 : w6.cell? ⟨H, 4, none⟩ = some (.slice ax y.body.length cx) := hX6.cell 4 _ rfl)); go_wp2_with ((go_at_call 43; refine (down_dev D b d2 w6 hD6).mono ?_; rintro e w7 ⟨rfl, rfl⟩))
                              go_roundw
                              case rel => exact ⟨j + 1, d2, false, by omega, by go_num, rfl, ⟨fun h => (nomatch h), fun h => absurd h (by have := HQ.out; omega)⟩, hO6, hW6, hD6, hfin.out, hbw6⟩
                              case measure => simp [intOf]; omega
                          · obtain rfl : q = false := by
                              cases q
                              · rfl
                              · have := HS.out.2.1.1 rfl
                                unfold limN at this
                                rw [if_neg p64] at this
                                omega
                            by_cases p0 : p = 0
                            · subst p0
                              clear cA cB hmP
                              go_upto_region 24 with (first | (refine wpList_load_blk rfl (.tmp 22) rfl H y ax cx rfl hX4 ?_; simp only [Blk.cells]) | (go_at_call 32; refine (Henc.out _ hby4).mono ?_; rintro e w5 ⟨a7, c7, rfl, hby7, hbk7, hB5⟩; have hX5 := hX4.later hB5; have hD5 := hD4.later hB5; have hW5 := hW4.later hB5; have hO5 := hO4.later hB5; have hbw5 := below_call hbw4 (Nat.le_refl _) hB5; have c50 : w5.cell? ⟨H, 0, none⟩ = some (.int .u64 (y.serial : Int)) := hX5.cell 0 _ rfl; have hno7 : ∀ q off, a7 = some ⟨q, off, none⟩ → q ∉ [D, b] := (fun q off e => (by have := hbk7 q off e; simp; omega))) | (go_at_call 42; rw [HC.out.1]; refine (Hw.out _ a7 c7 hD5 hby7 hno7).mono ?_; rintro e w6 ⟨rfl, hD6, hA6⟩; have hX6 : BlkAt w6 H y ax cx := (hA6.block H (lt_of_block hX5) (by simp; omega)).trans hX5; have hW6 := hW5.aside hD5 hA6; have hO6 := hO5.aside hA6 (fun q hq => (by simp at hq; omega)); have hbw6 := hbw5.trans (hA6.toBelow (B := w.heap.size) (fun q hq => (by simp at hq; omega)) hbw5.size); have d60 : w6.cell? ⟨H, 0, none⟩ = some (.int .u64 (y.serial : Int)) := hX6.cell 0 _ rfl; have d61 : w6.cell? ⟨H, 1, none⟩ = some (.int .u8 (y.kind.toNat : Int)) := hX6.cell 1 _ rfl; have d62 : w6.cell? ⟨H, 2, none⟩ = some (.bool y.first) := hX6.cell 2 _ rfl; have d63 : w6.cell? ⟨H, 3, none⟩ = some (.bool y.last) := hX6.cell 3 _ rfl; have d64 : w6.cell? ⟨H, 4, none⟩ = some (.slice ax y.body.length cx) := hX6.cell 4 _ rfl)); go_wp2
                              go_roundw
                              case rel => exact ⟨j + 1, d2, false, by omega, by go_num, rfl, ⟨fun h => (nomatch h), fun h => absurd h (by have := HQ.out; omega)⟩, hO6, hW6, hD6, hfin.out, hbw6⟩
                              case measure => simp [intOf]; omega
                            · have hp0 : 0 < p := by omega
                              have hp64 : p < 64 := by omega
                              have hz : Z ≠ 0 := by rw [HS.out.2.2.2.1, hmP]; exact dec_zero
                              have hzI : ((Z : Int) == 0) = false := by rw [beq_eq_false_iff_ne]; omega
                              clear cA cB hmP
                              go_upto_region 24 with (first | (refine wpList_load_blk rfl (.tmp 22) rfl H y ax cx rfl hX4 ?_; simp only [Blk.cells]) | (go_at_call 32; refine (Henc.out _ hby4).mono ?_; rintro e w5 ⟨a7, c7, rfl, hby7, hbk7, hB5⟩; have hX5 := hX4.later hB5; have hD5 := hD4.later hB5; have hW5 := hW4.later hB5; have hO5 := hO4.later hB5; have hbw5 := below_call hbw4 (Nat.le_refl _) hB5; have c50 : w5.cell? ⟨H, 0, none⟩ = some (.int .u64 (y.serial : Int)) := hX5.cell 0 _ rfl; have hno7 : ∀ q off, a7 = some ⟨q, off, none⟩ → q ∉ [D, b] := (fun q off e => (by have := hbk7 q off e; simp; omega))) | (go_at_call 42; rw [HC.out.1]; refine (Hw.out _ a7 c7 hD5 hby7 hno7).mono ?_; rintro e w6 ⟨rfl, hD6, hA6⟩; have hX6 : BlkAt w6 H y ax cx := (hA6.block H (lt_of_block hX5) (by simp; omega)).trans hX5; have hW6 := hW5.aside hD5 hA6; have hO6 := hO5.aside hA6 (fun q hq => (by simp at hq; omega)); have hbw6 := hbw5.trans (hA6.toBelow (B := w.heap.size) (fun q hq => (by simp at hq; omega)) hbw5.size); have d60 : w6.cell? ⟨H, 0, none⟩ = some (.int .u64 (y.serial : Int)) := hX6.cell 0 _ rfl; have d61 : w6.cell? ⟨H, 1, none⟩ = some (.int .u8 (y.kind.toNat : Int)) := hX6.cell 1 _ rfl; have d62 : w6.cell? ⟨H, 2, none⟩ = some (.bool y.first) := hX6.cell 2 _ rfl; have d63 : w6.cell? ⟨H, 3, none⟩ = some (.bool y.last) := hX6.cell 3 _ rfl; have d64 : w6.cell? ⟨H, 4, none⟩ = some (.slice ax y.body.length cx) := hX6.cell 4 _ rfl)); go_wp2_with (first | (go_at_call 65; refine (Hch.out _ hD6).mono ?_; rintro e w8 ⟨rfl, hB8⟩) | (go_at_call 56; refine (hkn.out _).mono ?_; rintro e w9 ⟨rfl, hB9⟩))
                              go_roundw
                              case rel => exact ⟨j + 1, d2, false, by omega, by go_num, rfl, ⟨fun h => (nomatch h), fun h => absurd h (by have := HQ.out; omega)⟩, hO6.later hB8, hW6.later hB8, hD6.later hB8, hfin.out, below_call hbw6 (Nat.le_refl _) hB8⟩
                              case measure => simp [intOf]; omega
                    · obtain rfl : j = m := by omega
                      rw [List.take_of_length_le (by omega : Bl.length ≤ j)] at hT
                      cases q
                      ·
                        have hq' : ¬ ((K + j : Nat) : Int) ≤ limN n p := fun h => by have := hq.2 h; cases this
                        have hfin := Lib.hid (show TornFin n p s R d' from by
                          refine torn_fin_part k (s + K) x.l ?_ b3' (by rw [← HK.out]; exact hlim) (by rw [← HK.out, ← HBl.out.2]; exact hq')
                          have h1 := HBl.out.1
                          have h2 := HBl.out.2
                          rw [← h2, ← h1]; exact hT)
                        clear hq hq'
                        go_wp2
                        go_meet
                        exact ⟨R, d', hW3, hD3, hfin.out, by omega, hbw3⟩
                      ·
                        have hq' := Lib.hid (hq.1 rfl)
                        have hcB : catB (R ++ [Rc.mk k (s + K) x.l]) = catB R ++ Bl := by
                          rw [catB_snoc]
                          have h1 := HBl.out.1
                          have h2 := HBl.out.2
                          unfold blksOf
                          rw [h1]
                          simp only [← h2]
                        have hcl : (catB (R ++ [Rc.mk k (s + K) x.l])).length = K + j := by rw [hcB, List.length_append, ← HK.out, hBlen]
                        have hrel2 := Lib.hid (show TornInv n p s (catB (R ++ [Rc.mk k (s + K) x.l])) d' ∧ ((catB (R ++ [Rc.mk k (s + K) x.l])).length : Int) ≤ limN n p ∧ (R ++ [Rc.mk k (s + K) x.l]).length = i + 1 ∧ (R ++ [Rc.mk k (s + K) x.l] ≠ [] → (R ++ [Rc.mk k (s + K) x.l]).any (fun x => x.kind == 2) = true) from by
                          refine ⟨by rw [hcB]; exact hT, by rw [hcl]; exact hq'.out, by rw [List.length_append, hRi]; rfl, fun _ => ?_⟩
                          rw [List.any_append]
                          by_cases hR0 : R = []
                          · have hk2 : k = 2 := hk0 (by rw [← hRi, hR0]; rfl)
                            simp [hk2]
                          · rw [hany hR0]; rfl)
                        have hls := lasts_snoc R (Rc.mk k (s + K) x.l) hany (fun h => hk0 (by rw [← hRi, h]; rfl))
                        have hll : (lastsOf R).length ≤ 100 := by have := lastsOf_len R; omega
                        have hser : ((s : Int) + (K : Int)) + (j : Int) = ((s + (catB (R ++ [Rc.mk k (s + K) x.l])).length : Nat) : Int) := by rw [hcl]; omega
                        have hcn : ∀ q u, ((Rc.mk k (s + K) x.l).cells x.a x.c)[q]? = some u → (wr.alloc (.cells #[.int .u8 (k.toNat : Int), .int .u64 ((s : Int) + (K : Int)), .slice x.a x.l.length x.c] 91)).cell? ⟨wr.heap.size, q, none⟩ = some u := fun q u hu => by
                          have := cell_recT wr (Rc.mk k (s + K) x.l) x.a x.c q u hu
                          simpa using this
                        have hbod : IsBytes w x.a x.l ∧ x.l.length ≤ x.c ∧ (x.a = none → x.l = [] ∧ x.c = 0) := ⟨hok.1, hok.2.1, fun e => ⟨List.length_eq_zero_iff.1 (hok.2.2 e).1, (hok.2.2 e).2⟩⟩
                        have Hser := Lib.hid hser
                        have Hbod := Lib.hid hbod
                        have hsz := hbw3.size
                        have hWa := hW3.later ((Below.refl _ wr).alloc (Nat.le_refl _) (.cells #[.int .u8 (k.toNat : Int), .int .u64 ((s : Int) + (K : Int)), .slice x.a x.l.length x.c] 91))
                        have hDa := hD3.later ((Below.refl _ wr).alloc (Nat.le_refl _) (.cells #[.int .u8 (k.toNat : Int), .int .u64 ((s : Int) + (K : Int)), .slice x.a x.l.length x.c] 91))
                        have hka : ∀ (v v' : Value) (l l' : List Rc) (w9 : World), WantRs w (wr.alloc (.cells #[.int .u8 (k.toNat : Int), .int .u64 ((s : Int) + (K : Int)), .slice x.a x.l.length x.c] 91)) w.heap.size v l → (wr.alloc (.cells #[.int .u8 (k.toNat : Int), .int .u64 ((s : Int) + (K : Int)), .slice x.a x.l.length x.c] 91)).grownBy w9 v.ownBlock → DevAt w9 D b d' := fun v v' l l' w9 h1 h2 => by
                          refine hDa.kept h2 (fun e => ?_) (fun e => ?_)
                          · obtain ⟨r, r1, r2, r3⟩ := h1
                            obtain ⟨c1, f1, z1⟩ := Lib.ownsRow_kind r2 D e.symm
                            rw [hDa.1] at z1; simp at z1
                          · obtain ⟨r, r1, r2, r3⟩ := h1
                            obtain ⟨c1, f1, z1⟩ := Lib.ownsRow_kind r2 b e.symm
                            obtain ⟨_, ⟨M, ⟨es, cl, y2, _⟩, _⟩, _⟩ := hDa
                            rw [y2] at z1; cases z1
                        have hkb : ∀ (v : Value) (l : List Rc) (w9 : World), WantRs w (wr.alloc (.cells #[.int .u8 (k.toNat : Int), .int .u64 ((s : Int) + (K : Int)), .slice x.a x.l.length x.c] 91)) w.heap.size v l → (wr.alloc (.cells #[.int .u8 (k.toNat : Int), .int .u64 ((s : Int) + (K : Int)), .slice x.a x.l.length x.c] 91)).grownBy w9 v.ownBlock → Below w.heap.size w w9 := fun v l w9 h1 h2 =>
                          (hbw3.alloc hsz _).grown h2 (by rw [World.size_alloc]; omega) (fun q e => (h1.lt q e).1)
                        have Hka := Lib.hid hka
                        have Hkb := Lib.hid hkb
                        have Hcn := Lib.hid hcn
                        clear hcl hser hbod hka hkb hcn hany hq hO3 hDa hcB hT
                        by_cases hk2 : k = 2
                        · have hkI : ((k.toNat : Int) == 2) = true := by rw [hk2]; rfl
                          rw [if_pos (show (Rc.mk k (s + K) x.l).kind = 2 from hk2)] at hls
                          have Hls := Lib.hid hls
                          clear hls hk2 hk hk0
                          go_wp2_with (at_builtin; refine wpList_append_want rfl (.tmp 164) (.tmp 169) rfl w w.heap.size (.slice none 0 0) [] rfl (WantRs.nil _ _ _) ⟨k, s + K, x.l⟩ x.a x.c wr.heap.size 1 rfl rfl Hcn.out Hbod.out (by simp) (by rw [World.size_alloc]; omega) ?_; intro v9 w9 hW9 hg9)
                          go_roundw
                          case rel => exact ⟨i + 1, R ++ [Rc.mk k (s + K) x.l], d', by omega, by go_num, by rw [← Hser.out], by rw [Hls.out]; exact hW9, Hka.out _ v9 [] [] _ (WantRs.nil _ _ _) hg9, hrel2.out.1, hrel2.out.2.1, hrel2.out.2.2.1, hrel2.out.2.2.2, Hkb.out _ [] _ (WantRs.nil _ _ _) hg9⟩
                          case measure => simp [intOf]; omega
                        · have hkI : ((k.toNat : Int) == 2) = false := by rw [beq_eq_false_iff_ne]; intro h; exact hk2 (UInt8.toNat_inj.1 (by have : (2 : UInt8).toNat = 2 := rfl; omega))
                          rw [if_neg (show ¬ (Rc.mk k (s + K) x.l).kind = 2 from hk2)] at hls
                          have Hls := Lib.hid hls
                          clear hls hk2 hk hk0
                          go_wp2_with (at_builtin; refine wpList_append_want rfl (.tmp 164) (.tmp 169) rfl w w.heap.size u13 (lastsOf R) rfl hWa ⟨k, s + K, x.l⟩ x.a x.c wr.heap.size 1 rfl rfl Hcn.out Hbod.out (by omega) (by rw [World.size_alloc]; omega) ?_; intro v9 w9 hW9 hg9)
                          go_roundw
                          case rel => exact ⟨i + 1, R ++ [Rc.mk k (s + K) x.l], d', by omega, by go_num, by rw [← Hser.out], by rw [Hls.out]; exact hW9, Hka.out _ v9 _ [] _ hWa hg9, hrel2.out.1, hrel2.out.2.1, hrel2.out.2.2.1, hrel2.out.2.2.2, Hkb.out _ _ _ hWa hg9⟩
                          case measure => simp [intOf]; omega
                · have hfI : ((s : Int) + 40 < (s : Int) + (K : Int) + (m : Int)) := by omega
                  go_wp2
                  go_meet
                  exact ⟨R, d, hW3, hD3, torn_fin_all hT (by rw [← HK.out]; exact hlim), by omega, hbw3⟩
        · have hie : i = L.length := by omega
          subst hie
          go_wp2
          go_meet
          exact ⟨R, d, hW, hDr, torn_fin_all hT hlim, by omega, hbw⟩
    case rest =>
      clear hI
      obtain ⟨R, d, hW, hDr, ⟨B, hT, hRec⟩, hRl, hbw⟩ := hcut
      have hrun : devRun { d with down := false } = B.take (lastB n p B) := by
        unfold devRun
        rw [show ({ d with down := false } : Dev).blocks = 40 from hT.rel.1]
        exact torn_ring n p s B d hT.rel (by omega) (by omega) (by omega) hT.many hT.ser hT.no
      have hfind := Lib.hid (show ∀ W, DevAt W D b { d with down := false } → Calls Try.prog 63 #[.pointer (some ⟨D, 0, none⟩)] W fun e w' => ∃ (v : Value) (N : Nat), e = .returned (.tuple #[v, .int .u64 (N : Int), .int .i64 0]) ∧ OwnRs w' W.heap.size v (lastsOf R) ∧ Below W.heap.size W w' from fun W h => by
        have h63 := find_dev D b { d with down := false } W h rfl (by show 1 ≤ d.blocks; rw [hT.rel.1]; decide) (by show d.blocks ≤ 40; rw [hT.rel.1]; decide)
        rw [hrun, hRec] at h63
        refine h63.mono ?_
        rintro e w' ⟨v, h1, h2, h3⟩
        exact ⟨v, _, h1, h2, h3⟩)
      obtain ⟨l, hl⟩ : ∃ l, l = lastsOf R := ⟨_, rfl⟩
      have hll : l.length ≤ 100 := by have := lastsOf_len R; rw [hl]; omega
      rw [← hl] at hW hfind
      clear hrun hRec hT hl
      obtain ⟨a0, c0, rfl, _⟩ := hW.slice hbw
      go_upto_region 38 with (first
        | (go_at_call 46; refine (up_dev D b d wc hDr).mono ?_; rintro e w3 ⟨rfl, hD3, hg3⟩; have hW3 := hW.aside hDr (Aside.grown hg3 (fun q e _ => by cases e; simp)); have hb3 := hbw.grown hg3 hbw.size (fun q e => by cases e; exact hlD))
        | (go_at_call 63; refine (hfind.out w3 hD3).mono ?_; rintro e w4 ⟨v4, N4, rfl, hO4, hB4⟩; obtain ⟨a4, c4, rfl, hI4, _⟩ := hO4.slice; have hW4 := hW3.later hB4; have hb4 := below_call hb3 (Nat.le_refl _) hB4))
      obtain ⟨_, _, e0, hI0⟩ := hW4.slice hb4
      cases e0
      clear hW4 hW3 hW hO4 hfind hD3 hg3 hB4 hb3 hDr
      go_wp2
      go_loopw [196] (fun iv wq => ∃ i : Nat, i ≤ l.length ∧ iv = .int .i64 (i : Int) ∧ Below w4.heap.size w4 wq) (fun iv _ => l.length - (intOf iv).toNat)
      case atStart => exact ⟨0, Nat.zero_le _, rfl, Below.refl _ _⟩
      case round =>
        obtain ⟨i, hi, rfl, hbel⟩ := hrel
        by_cases hlt : i < l.length
        · have hiI : (i : Int) < (l.length : Int) := by omega
          obtain ⟨b1, o1, ab1, cb1, rfl, p0, p1, p2, hby1, _, _⟩ := hI4.cellsAt i hlt
          obtain ⟨b2, o2, ab2, cb2, rfl, q0, q1, q2, hby2, _, _⟩ := hI0.cellsAt i hlt
          obtain ⟨A, hA⟩ : ∃ A, A = l[i] := ⟨_, rfl⟩
          rw [← hA] at p0 p1 p2 hby1 q0 q1 q2 hby2
          clear hA
          have hconv1 : ∀ s : SW (fun W => Below w4.heap.size w4 W), (convert 22 9 (.slice ab1 A.body.length cb1)).run Try.prog s.W = .ok (.string ⟨A.body.toArray⟩) s.W := fun s => conv_text (hby1.later s.h) rfl
          have hconv2 : ∀ s : SW (fun W => Below w4.heap.size w4 W), (convert 22 9 (.slice ab2 A.body.length cb2)).run Try.prog s.W = .ok (.string ⟨A.body.toArray⟩) s.W := fun s => conv_text (hby2.later s.h) rfl
          have hne : Nonempty (SW (fun W => Below w4.heap.size w4 W)) := ⟨⟨w4, Below.refl _ _⟩⟩
          go_wp2
          refine wp_region_seq2 (fun W => Below w4.heap.size w4 W) [(0, true), (1, true), (2, true), (3, true), (4, true), (5, true), (6, true), (7, true), (8, true), (9, true), (10, true), (11, true), (12, true), (13, true), (14, true), (15, true), (16, true), (17, true), (18, true), (19, true), (20, true), (21, true), (22, true), (23, true), (24, true), (25, true), (26, true), (27, true), (28, true), (29, true), (30, true), (31, true), (32, true), (33, true), (34, true), (35, true), (36, true), (37, true), (38, true)] (by kernel_rfl) (by kernel_rfl) (fun d _ _ _ _ h => by cases d <;> exact h) (hbel.drew) ?_
          repeat (first
            | ((with_reducible refine wpSeq_skip (o := ⟨_, _, _, _, _, _⟩) (by with_unfolding_all exact rfl) (by with_unfolding_all exact rfl) ?_); simp only [Act.put, List.setIfInBounds_toArray, List.set_cons_zero, List.set_cons_succ])
            | ((with_reducible refine wpSeq_free (o := ⟨_, _, _, _, _, _⟩) (by with_unfolding_all exact rfl) (by with_unfolding_all exact rfl) (fun K hK => ?_)); go_big_quiet_op; (refine hK _ ?_; clear hK K)))
          refine wpSeq_nil ?_
          go_wp2
          go_roundw
          case rel => exact ⟨i + 1, by omega, by go_num, hbel.drew⟩
          case measure => simp [intOf]; omega
        · have hie : ¬ (i : Int) < (l.length : Int) := by omega
          go_wp2_with (go_at_call 56; refine (hkn.out _).mono ?_; rintro e w9 ⟨rfl, hB9⟩)
          go_ret
          exact ⟨rfl, below_call (below_call hb4 (Nat.le_refl _) hbel) (Nat.le_refl _) hB9⟩
end Go.Proofs.Ytdlbjllgdikadaa
