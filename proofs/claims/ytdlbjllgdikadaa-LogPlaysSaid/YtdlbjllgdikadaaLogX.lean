/- log, the document's: Open, Copy. -/
import Derived.Test.YtdlbjllgdikadaaLogU
import Derived.Deep.RegionHeld3
namespace Go.Proofs.Ytdlbjllgdikadaa
open Go.RowKit
set_option linter.unusedVariables false
set_option linter.unusedSimpArgs false

def RFindWin (F : Nat → Prop) (l : List Rc) (n : Nat) (w : World) (e : Ending) (w' : World) : Prop :=
  ∃ u, e = .returned (.tuple #[u, .int .u64 (n : Int)]) ∧ WinRs F w' u l ∧ Below w.heap.size w w'

set_option maxRecDepth 100000 in
set_option maxHeartbeats 8000000 in
theorem reffind_win (F : Nat → Prop) (V : Nat) (run : List Blk) (w : World) (hrun : Calls Try.prog 59 #[.pointer (some ⟨V, 0, none⟩)] w fun e w' => ∃ v, e = .returned v ∧ OwnBs w' w.heap.size v run ∧ Below w.heap.size w w')
    (hmay : ∀ x ∈ run, x.serial ≤ 1099511627776 ∧ x.body.length ≤ 48) (hlen : run.length ≤ 1099511627777) (hF : ∀ q, F q → q < w.heap.size) :
    Calls Try.prog 64 #[.pointer (some ⟨V, 0, none⟩)] w (RFindWin F (lastsOf (refRecs run)) (nextS run) w) := by
  have Hrun := Lib.hid hrun
  clear hrun
  by_cases hne : run = []
  · subst hne
    go_enter Try.func64, Try.ntmps64
    go_wp2_with (go_at_call 59; refine Hrun.out.mono ?_; rintro e w1 ⟨v, rfl, hO, hB⟩; obtain ⟨ab, cap, rfl, hIs, hlc, hcm, hab, hno⟩ := hO.slice)
    go_ret2
    exact ⟨_, rfl, WinRs.nil _ _, hB⟩
  · obtain ⟨m, hm⟩ : ∃ m, run.length = m + 1 := ⟨run.length - 1, by have : ¬ run.length = 0 := fun e => hne (List.length_eq_zero_iff.1 e); omega⟩
    have hser : run[m].serial ≤ 1099511627776 := (hmay _ (List.getElem_mem _)).1
    have hnx : nextS run = run[m].serial + 1 := by
      unfold nextS
      rw [List.getLast?_eq_getElem?]
      simp only [hm, Nat.add_sub_cancel]
      rw [List.getElem?_eq_getElem (by omega)]
    have hrecs := Lib.hid (show ∀ a c W, IsBs W a run → Calls Try.prog 62 #[.slice a run.length c] W fun e w' => ∃ v, e = .returned v ∧ OwnRs w' W.heap.size v (refRecs run) ∧ Below W.heap.size W w' from fun a c W h => refrecords_calls run a c W h (fun x hx => Nat.le_trans (hmay x hx).2 (by decide)) hlen)
    have hrl : (refRecs run).length ≤ 1099511627777 := Nat.le_trans (refRecs_len run) hlen
    obtain ⟨S, hS⟩ : ∃ S, S = run[m].serial := ⟨_, rfl⟩
    have hlast : ∀ (a : Option Addr) (W : World), IsBs W a run → ∃ b off, a = some ⟨b, off, none⟩ ∧ W.cell? ⟨b, off + m * 5, none⟩ = some (.int .u64 (S : Int)) := fun a W hI => by
      obtain ⟨b, off, abl, capl, hab2, hx, _⟩ := hI m (by omega)
      refine ⟨b, off, hab2, ?_⟩
      rw [hS, show off + m * 5 = off + 5 * m + 0 by omega]
      exact hx 0 _ rfl
    rw [← hS] at hnx hser
    have HNX := Lib.hid hnx
    have HL := Lib.hid hlast
    obtain ⟨R, hR⟩ : ∃ R, R = refRecs run := ⟨_, rfl⟩
    rw [← hR] at hrecs hrl ⊢
    obtain ⟨N, hN⟩ : ∃ N, N = nextS run := ⟨_, rfl⟩
    rw [← hN] at HNX ⊢
    have HHm := Lib.hid hm
    rw [hm] at hrecs
    clear hS hnx hlast hR hN hne
    go_enter Try.func64, Try.ntmps64
    go_wp2_with (first
      | (go_at_call 59; refine Hrun.out.mono ?_; rintro e w1 ⟨v, rfl, hO, hB⟩; obtain ⟨ab, cap, rfl, hIs, hlc, hcm, hab, hno⟩ := hO.slice; obtain ⟨b, off, rfl, hcl⟩ := HL.out _ _ hIs; rw [hm])
      | (go_at_call 62; refine (hrecs.out _ _ _ hIs).mono ?_; rintro e w2 ⟨v2, rfl, hO2, hB2⟩; obtain ⟨a2, c2, rfl, hI2, hlc2, _, _, hno2⟩ := hO2.slice))
    have hbt := below_call hB (Nat.le_refl _) hB2
    obtain ⟨L, hL⟩ : ∃ L, L = R.length := ⟨_, rfl⟩
    rw [← hL] at hrl ⊢
    have HLL := Lib.hid hL
    have hLI : (L : Int) ≤ 1099511627777 := by omega
    have hc2 : L ≤ c2 := by omega
    clear hL
    go_loopw [7] (fun iv wq => ∃ s : Nat, s ≤ L ∧ iv = .int .i64 ((s : Int) - 1) ∧ (∀ j (hj : j < R.length), s ≤ j → R[j].kind ≠ 2) ∧ Below w2.heap.size w2 wq) (fun iv _ => (intOf iv + 1).toNat)
    case atStart => exact ⟨L, Nat.le_refl _, rfl, fun j hj h2 => absurd hj (by rw [← HLL.out]; omega), Below.refl _ _⟩
    case round =>
      obtain ⟨s, hs, rfl, hno3, hbq⟩ := hrel
      cases s with
      | zero =>
        have hlast : lastsOf R = [] := lastsOf_none R fun j hj => hno3 j hj (Nat.zero_le _)
        have HT := Lib.hid hlast
        clear hlast hno3
        go_wp2
        go_ret2
        rw [HT.out]
        exact ⟨_, by rw [HNX.out]; rfl, WinRs.nil _ _, below_call hbt (Nat.le_refl _) hbq⟩
      | succ s =>
        have hsR : s < R.length := by rw [← HLL.out]; omega
        obtain ⟨b2, o2, abl, capl, e2, hx, _⟩ := hI2.later hbq s hsR
        cases e2
        have k0 : wr.cell? ⟨b2, o2 + s * 3, none⟩ = some (.int .u8 (R[s].kind.toNat : Int)) := by rw [show o2 + s * 3 = o2 + 3 * s + 0 by omega]; exact hx 0 _ rfl
        clear hx
        have hsI : ((s + 1 : Nat) : Int) - 1 = (s : Int) := by omega
        have hsL : (s : Int) < (L : Int) := by omega
        rw [hsI]
        by_cases hk : R[s].kind = 2
        · have hkI : ((R[s].kind.toNat : Int) == 2) = true := by rw [hk]; rfl
          have hlast : lastsOf R = R.drop s := lastsOf_found R s hsR hk fun j hj hij => hno3 j hj (by omega)
          have hdr := ((WinRs.ofOwn (F := F) hO2 (fun q hq => Nat.lt_of_lt_of_le (hF q hq) hB.size)).later hbq).drop s (Nat.le_of_lt hsR)
          rw [← hlast] at hdr
          have HT := Lib.hid (And.intro hlast hdr)
          have hsc : s ≤ c2 := by omega
          have hsc2 : ¬ c2 = s := by omega
          have hsl2 : s ≤ L := by omega
          clear hlast hk hno3 hdr
          go_wp2
          go_ret2
          refine ⟨_, ?_, HT.out.2, below_call hbt (Nat.le_refl _) hbq⟩
          rw [← HLL.out, HNX.out]
          rfl
        · have hkI : ((R[s].kind.toNat : Int) == 2) = false := by rw [beq_eq_false_iff_ne]; intro e; exact hk (UInt8.toNat_inj.1 (by have : (2 : UInt8).toNat = 2 := rfl; omega))
          have HK := Lib.hid (And.intro hk hno3)
          clear hk hno3
          go_wp2
          go_roundw
          case rel =>
            refine ⟨s, by omega, by go_num, fun j hj h2 => ?_, hbq⟩
            rcases Nat.lt_or_ge s j with h3 | h3
            · exact HK.out.2 j hj h3
            · have e : j = s := by omega
              subst e
              exact HK.out.1
          case measure => simp [intOf]

theorem ropen_calls (F : Nat → Prop) (V N : Nat) (L : List Rc) (w : World) (hf : Calls Try.prog 64 #[.pointer (some ⟨V, 0, none⟩)] w (RFindWin F L N w)) :
    Calls Try.prog 78 #[.pointer (some ⟨V, 0, none⟩)] w fun e w' => ∃ R u1, e = .returned (.pointer (some ⟨R, 0, none⟩)) ∧ RLogAt w' R V ⟨L, [], N, false⟩ u1 (.slice none 0 0) ∧ WinRs F w' u1 L ∧ w.heap.size ≤ R ∧ Below w.heap.size w w' := by
  have Hf := Lib.hid hf
  clear hf
  go_enter Try.func78, Try.ntmps78
  go_wp2_with (go_at_call 64; refine Hf.out.mono ?_; rintro e w2 ⟨u, rfl, hU, hB⟩; obtain ⟨a, c, rfl, _⟩ := hU.slice)
  go_ret
  exact ⟨_, _, rfl, heap_alloc_new _ _, hU.later ((Below.refl _ _).alloc (Nat.le_refl _) _), hB.size, hB.alloc hB.size _⟩

theorem heap_alloc_old (W : World) (o x : Obj) (g : Nat) (h : W.heap[g]? = some x) : (W.alloc o).heap[g]? = some x := by
  rw [Below.heap_alloc _ _ _ (Array.getElem?_eq_some_iff.1 h).1]; exact h
theorem empty_row (W : World) (B g : Nat) (hB : B ≤ g) (h : W.heap[g]? = some (.cells #[] 91 (0, 0))) : W.ownsRow B 91 3 (.slice (some ⟨g, 0, none⟩) 0 0) ([] : List RTrip).length (rcellsOf []) :=
  ⟨rfl, .inr ⟨g, 0, #[], rfl, hB, h, Nat.le_refl _, Nat.zero_le _, rfl, rfl⟩⟩

set_option maxRecDepth 100000 in
set_option maxHeartbeats 4000000 in
theorem rlcopy_calls (F : Nat → Prop) (R V V' n : Nat) (r : RLg) (rd : RDev) (u1 u2 : Value) (w : World) (h : RSt F w R V n r rd u1 u2) (hF : ∀ q, F q → q < w.heap.size) :
    Calls Try.prog 81 #[.pointer (some ⟨R, 0, none⟩), .pointer (some ⟨V', 0, none⟩)] w fun e w' => ∃ R' v1 v2, e = .returned (.pointer (some ⟨R', 0, none⟩)) ∧ RLogAt w' R' V' r v1 v2 ∧ WinRs F w' v1 r.L ∧ WinRs F w' v2 r.W ∧ w.heap.size ≤ R' ∧ Below w.heap.size w w' := by
  have hll := h.num.ll
  have hlw := h.num.lw
  obtain ⟨a1, q1, rfl, _⟩ := h.o1.slice
  obtain ⟨a2, q2, rfl, _⟩ := h.o2.slice
  obtain ⟨x1, n1, r1, s1, s2, s3, s4⟩ := h.o1.src
  obtain ⟨x2, n2, r2, t1, t2, t3, t4⟩ := h.o2.src
  have hl1 : r1.length ≤ 1000000000 := by omega
  have hl2 : r2.length ≤ 1000000000 := by omega
  have mkS : ∀ W, Below w.heap.size w W → (Below w.heap.size w W ∧ W.cell? ⟨R, 1, none⟩ = some (.slice a1 r.L.length q1) ∧ W.cell? ⟨R, 2, none⟩ = some (.slice a2 r.W.length q2) ∧ W.cell? ⟨R, 3, none⟩ = some (.int .u64 (r.next : Int)) ∧ W.cell? ⟨R, 4, none⟩ = some (.bool r.off)) := fun W hb =>
    ⟨hb, (h.later hb).at_.c1, (h.later hb).at_.c2, (h.later hb).at_.c3, (h.later hb).at_.c4⟩
  have src1 : ∀ W, Below w.heap.size w W → ∀ ad, a1 = some ad → ∀ j u, (rcellsOf r1)[j]? = some u → W.cell? (ad.add j) = some u := fun W hb ad e j u hu => (hb.cell (p := ad.add j) (World.block_lt_of_cell? w _ (s3 ad e j u hu))).trans (s3 ad e j u hu)
  have src2 : ∀ W, Below w.heap.size w W → ∀ ad, a2 = some ad → ∀ j u, (rcellsOf r2)[j]? = some u → W.cell? (ad.add j) = some u := fun W hb ad e j u hu => (hb.cell (p := ad.add j) (World.block_lt_of_cell? w _ (t3 ad e j u hu))).trans (t3 ad e j u hu)
  have K1 := Lib.hid src1
  have K2 := Lib.hid src2
  have HS := Lib.hid mkS
  have HM := Lib.hid (And.intro (And.intro s1 s4) (And.intro (And.intro t1 t4) hF))
  have hS1 := Lib.hid s2
  have hT1 := Lib.hid t2
  have c1 := h.at_.c1
  clear x1 x2 s1 s2 s3 s4 t1 t2 t3 t4 src1 src2 mkS h hF
  go_enter Try.func81, Try.ntmps81
  go_upto_region 1 with fail
  have hS0 := HS.out w (Below.refl _ _)
  have HE2 := Lib.hid (show ((w.alloc (.cells #[] 91)).alloc (.cells #[] 91)).heap[w.heap.size + 1]? = some (.cells #[] 91 (0, 0)) by have z := heap_alloc_new (w.alloc (.cells #[] 91)) (.cells #[] 91); rw [World.size_alloc] at z; exact z)
  go_region_held3 (fun W => Below w.heap.size w W ∧ W.cell? ⟨R, 1, none⟩ = some (.slice a1 r.L.length q1) ∧ W.cell? ⟨R, 2, none⟩ = some (.slice a2 r.W.length q2) ∧ W.cell? ⟨R, 3, none⟩ = some (.int .u64 (r.next : Int)) ∧ W.cell? ⟨R, 4, none⟩ = some (.bool r.off)) (first | exact HS.out _ (by assumption) | exact HS.out _ (Below.drew (Below.refl _ _)) | exact HS.out _ (Below.alloc (And.left (by assumption)) (And.left (by assumption) : Below w.heap.size w _).size _)) (first
    | (rw [if_pos (by rfl)]; refine wp_append_recs (.tmp 6) (.tmp 10) rfl w.heap.size (.slice (some ⟨w.heap.size, 0, none⟩) 0 0) [] rfl (empty_row _ _ _ (by omega) (by first | exact heap_alloc_new _ _ | exact heap_alloc_old _ _ _ _ (heap_alloc_new _ _))) a1 r.L.length q1 r1 rfl hS1.out.symm n1 (K1.out _ (And.left (by assumption))) (by simp only [List.length_nil]; omega) (And.left (by assumption) : Below w.heap.size w _).size ?_; intro v3 w3 hrow3 hg3 hwh3; have hb3 : Below w.heap.size w w3 := Below.grown (And.left (by assumption)) hg3 (And.left (by assumption) : Below w.heap.size w _).size (fun q e => by cases e; first | exact Nat.le_refl _ | exact Nat.le_succ _); rw [List.nil_append] at hrow3; obtain ⟨a3, n3, c3, rfl⟩ : ∃ a n c, v3 = .slice a n c := (by rcases hrow3.2 with ⟨rfl, _⟩ | ⟨gg, cap, cur, rfl, _⟩; exact ⟨_, _, _, rfl⟩; exact ⟨_, _, _, rfl⟩); simp only [Act.put, List.setIfInBounds_toArray, List.set_cons_zero, List.set_cons_succ])
    | (rw [if_pos (by rfl)]; refine wp_append_recs (.tmp 6) (.tmp 10) rfl w.heap.size (.slice (some ⟨w.heap.size + 1, 0, none⟩) 0 0) [] rfl (empty_row _ _ _ (by omega) HE2.out) a1 r.L.length q1 r1 rfl hS1.out.symm n1 (K1.out _ (And.left (by assumption))) (by simp only [List.length_nil]; omega) (And.left (by assumption) : Below w.heap.size w _).size ?_; intro v3 w3 hrow3 hg3 hwh3; have hb3 : Below w.heap.size w w3 := Below.grown (And.left (by assumption)) hg3 (And.left (by assumption) : Below w.heap.size w _).size (fun q e => by cases e; first | exact Nat.le_refl _ | exact Nat.le_succ _); rw [List.nil_append] at hrow3; obtain ⟨a3, n3, c3, rfl⟩ : ∃ a n c, v3 = .slice a n c := (by rcases hrow3.2 with ⟨rfl, _⟩ | ⟨gg, cap, cur, rfl, _⟩; exact ⟨_, _, _, rfl⟩; exact ⟨_, _, _, rfl⟩); simp only [Act.put, List.setIfInBounds_toArray, List.set_cons_zero, List.set_cons_succ])
    | (rw [if_pos (by rfl)]; refine wp_append_recs (.tmp 12) (.tmp 16) rfl w.heap.size (.slice (some ⟨w.heap.size, 0, none⟩) 0 0) [] rfl (empty_row _ _ _ (by first | omega | exact hb3.size) ((hg3.block w.heap.size (Nat.lt_of_lt_of_le (show w.heap.size < w.heap.size + 1 + 1 by omega) (Nat.le_of_eq (by simp))) (fun e => by have e4 : some w.heap.size = some (w.heap.size + 1) := e; have := Option.some.inj e4; omega)).trans (heap_alloc_old _ _ _ _ (heap_alloc_new _ _)))) a2 r.W.length q2 r2 rfl hT1.out.symm n2 (K2.out _ (And.left (by assumption))) (by simp only [List.length_nil]; omega) (And.left (by assumption) : Below w.heap.size w _).size ?_; intro v4 w4 hrow4 hg4 hwh4; have hb4 : Below w.heap.size w w4 := Below.grown (And.left (by assumption)) hg4 (And.left (by assumption) : Below w.heap.size w _).size (fun q e => by cases e; first | exact hb3.size | exact Nat.le_refl _ | exact Nat.le_succ _); rw [List.nil_append] at hrow4; obtain ⟨a4, n4, c4, rfl⟩ : ∃ a n c, v4 = .slice a n c := (by rcases hrow4.2 with ⟨rfl, _⟩ | ⟨gg, cap, cur, rfl, _⟩; exact ⟨_, _, _, rfl⟩; exact ⟨_, _, _, rfl⟩); have hrow34 : w4.ownsRow w.heap.size 91 3 (.slice a3 n3 c3) r1.length (rcellsOf r1) := World.ownsRow.kept (hrow3) hg4 (Or.inr (fun e2 => by have e3 : (Value.slice a3 n3 c3).ownBlock = some (w.heap.size) := e2; have z2 := (World.ownsRow.lt hrow3 _ e3).2; exact hwh3.elim (fun z => by have e4 : some (w.heap.size + 1) = some w.heap.size := z.symm.trans e3; have := Option.some.inj e4; omega) (fun z => by have z4 : ((w.alloc (.cells #[] 91)).alloc (.cells #[] 91)).heap.size ≤ w.heap.size := z _ e3; rw [World.size_alloc, World.size_alloc] at z4; omega))); simp only [Act.put, List.setIfInBounds_toArray, List.set_cons_zero, List.set_cons_succ])
    | (rw [if_pos (by rfl)]; refine wp_append_recs (.tmp 12) (.tmp 16) rfl w.heap.size (.slice (some ⟨w3.heap.size, 0, none⟩) 0 0) [] rfl (empty_row _ _ _ (by first | omega | exact hb3.size) (heap_alloc_new _ _)) a2 r.W.length q2 r2 rfl hT1.out.symm n2 (K2.out _ (And.left (by assumption))) (by simp only [List.length_nil]; omega) (And.left (by assumption) : Below w.heap.size w _).size ?_; intro v4 w4 hrow4 hg4 hwh4; have hb4 : Below w.heap.size w w4 := Below.grown (And.left (by assumption)) hg4 (And.left (by assumption) : Below w.heap.size w _).size (fun q e => by cases e; first | exact hb3.size | exact Nat.le_refl _ | exact Nat.le_succ _); rw [List.nil_append] at hrow4; obtain ⟨a4, n4, c4, rfl⟩ : ∃ a n c, v4 = .slice a n c := (by rcases hrow4.2 with ⟨rfl, _⟩ | ⟨gg, cap, cur, rfl, _⟩; exact ⟨_, _, _, rfl⟩; exact ⟨_, _, _, rfl⟩); have hrow34 : w4.ownsRow w.heap.size 91 3 (.slice a3 n3 c3) r1.length (rcellsOf r1) := World.ownsRow.kept (ownsRow_later hrow3 (Below.alloc (Below.refl _ _) (Nat.le_refl _) _)) hg4 (Or.inr (fun e2 => by have e3 : (Value.slice a3 n3 c3).ownBlock = some w3.heap.size := e2; have z2 := (World.ownsRow.lt hrow3 _ e3).2; omega)); simp only [Act.put, List.setIfInBounds_toArray, List.set_cons_zero, List.set_cons_succ])
    | (rw [if_pos (by rfl)]; refine wp_append_recs (.tmp 12) (.tmp 16) rfl w.heap.size (.slice (some ⟨w.heap.size + 1, 0, none⟩) 0 0) [] rfl (empty_row _ _ _ (by first | omega | exact hb3.size) ((hg3.block (w.heap.size + 1) (Nat.lt_of_lt_of_le (show w.heap.size + 1 < w.heap.size + 1 + 1 by omega) (Nat.le_of_eq (by simp))) (fun e => by have e4 : some (w.heap.size + 1) = some w.heap.size := e; have := Option.some.inj e4; omega)).trans HE2.out)) a2 r.W.length q2 r2 rfl hT1.out.symm n2 (K2.out _ (And.left (by assumption))) (by simp only [List.length_nil]; omega) (And.left (by assumption) : Below w.heap.size w _).size ?_; intro v4 w4 hrow4 hg4 hwh4; have hb4 : Below w.heap.size w w4 := Below.grown (And.left (by assumption)) hg4 (And.left (by assumption) : Below w.heap.size w _).size (fun q e => by cases e; first | exact hb3.size | exact Nat.le_refl _ | exact Nat.le_succ _); rw [List.nil_append] at hrow4; obtain ⟨a4, n4, c4, rfl⟩ : ∃ a n c, v4 = .slice a n c := (by rcases hrow4.2 with ⟨rfl, _⟩ | ⟨gg, cap, cur, rfl, _⟩; exact ⟨_, _, _, rfl⟩; exact ⟨_, _, _, rfl⟩); have hrow34 : w4.ownsRow w.heap.size 91 3 (.slice a3 n3 c3) r1.length (rcellsOf r1) := World.ownsRow.kept (hrow3) hg4 (Or.inr (fun e2 => by have e3 : (Value.slice a3 n3 c3).ownBlock = some (w.heap.size + 1) := e2; have z2 := (World.ownsRow.lt hrow3 _ e3).2; exact hwh3.elim (fun z => by have e4 : some w.heap.size = some (w.heap.size + 1) := z.symm.trans e3; have := Option.some.inj e4; omega) (fun z => by have z4 : ((w.alloc (.cells #[] 91)).alloc (.cells #[] 91)).heap.size ≤ w.heap.size + 1 := z _ e3; rw [World.size_alloc, World.size_alloc] at z4; omega))); simp only [Act.put, List.setIfInBounds_toArray, List.set_cons_zero, List.set_cons_succ]))
  all_goals go_wp2
  all_goals go_ret
  all_goals
    obtain ⟨⟨s1, s4⟩, ⟨t1, t4⟩, hF⟩ := HM.out
    exact ⟨_, _, _, rfl, heap_alloc_new _ _, (WinRs.of r1 s1 hrow34 (fun p hp => ⟨(s4 p hp).1.later hb4, (s4 p hp).2⟩) (fun q hq hf => by have z1 := (World.ownsRow.lt hrow34 q hq).1; have := hF q hf; omega)).later ((Below.refl _ _).alloc (Nat.le_refl _) _), (WinRs.of r2 t1 hrow4 (fun p hp => ⟨(t4 p hp).1.later hb4, (t4 p hp).2⟩) (fun q hq hf => by have z1 := (World.ownsRow.lt hrow4 q hq).1; have := hF q hf; omega)).later ((Below.refl _ _).alloc (Nat.le_refl _) _), hb4.size, hb4.alloc hb4.size _⟩
end Go.Proofs.Ytdlbjllgdikadaa
