/- log: slices.Clone, own: records in memory of their own. -/
import Derived.Test.YtdlbjllgdikadaaLogB
namespace Go.Proofs.Ytdlbjllgdikadaa
open Go.RowKit
set_option linter.unusedVariables false
set_option linter.unusedSimpArgs false

@[go_sem] theorem eqlRs (w : World) (a : Option Addr) (n c n' c' : Nat) : (binOp .eql 83 (.slice a n c) (.slice none n' c')).run Try.prog w = .ok (.bool a.isNone) w :=
  Lib.run_eql_slice_nil w 83 91 a n c n' c' Try.underlying83

theorem rcells_one (r : List RTrip) : ∀ u ∈ rcellsOf r, u.oneCell' = true := by
  induction r with
  | nil => exact fun u hu => nomatch hu
  | cons p r ih =>
    intro u hu
    rw [rcellsOf, List.mem_append] at hu
    rcases hu with hu | hu
    · simp [Rc.cells] at hu
      rcases hu with rfl | rfl | rfl <;> rfl
    · exact ih u hu

set_option maxRecDepth 100000 in
/-- slices.Clone of a row of records: the bodies are shared. -/
theorem clone_recs (a : Option Addr) (r : List RTrip) (c : Nat) (w : World) (hc : r.length ≤ c) (hn : a = none → r = [] ∧ c = 0) (hr : ∀ ad, a = some ad → ∀ j u, (rcellsOf r)[j]? = some u → w.cell? (ad.add j) = some u) (hlen : r.length ≤ 1099511627776) :
    Calls Try.prog 100 #[.slice a r.length c] w fun e w' => ∃ v, e = .returned v ∧ w'.ownsRow w.heap.size 91 3 v r.length (rcellsOf r) ∧ Below w.heap.size w w' := by
  obtain ⟨i0, hi, hz0, hz1, hz2⟩ := info_parts info91
  cases a with
  | none =>
    obtain ⟨rfl, rfl⟩ := hn rfl
    go_enter Try.func100, Try.ntmps100
    go_wp2
    go_ret
    exact ⟨_, rfl, World.ownsRow_nil w _ 91 3, Below.refl _ _⟩
  | some ad =>
    have hr' := hr ad rfl
    have Hr := Lib.hid (And.intro hr' (And.intro hi (And.intro hz0 (And.intro hz1 hz2))))
    clear hr hr' hn hi hz0 hz1 hz2
    have hmade : (w.alloc (.cells #[] 91)).ownsRow w.heap.size 91 3 (.slice (some ⟨w.heap.size, 0, none⟩) 0 0) 0 [] := World.ownsRow_made w #[] 0 (Nat.le_refl _) (Nat.zero_le _) rfl
    have Hmade := Lib.hid hmade
    go_enter Try.func100, Try.ntmps100
    go_wp2_with (at_builtin; refine wpList_append_own (w.alloc (.cells #[] 91)) rfl (.tmp 5) (.tmp 6) 83 rfl w.heap.size 91 i0 (.agg #[.int .u8 0, .int .u64 0, .slice none 0 0]) 3 40 (by kernel_rfl) Hr.out.2.1 Hr.out.2.2.1 Hr.out.2.2.2.1 Hr.out.2.2.2.2 rfl (by decide) (.slice (some ⟨w.heap.size, 0, none⟩) 0 0) 0 [] rfl Hmade.out ad r.length c (rcellsOf r) rfl (rcellsOf_length r) (fun j u hu => (((Below.refl _ w).alloc (Nat.le_refl _) _).cell (World.block_lt_of_cell? w _ (Hr.out.1 j u hu))).trans (Hr.out.1 j u hu)) (rcells_one r) (by unfold maxLen; omega) (by omega) (by rw [World.size_alloc]; omega) ?_; intro v5 w5 h5 hg5 _)
    go_ret
    exact ⟨v5, rfl, by simpa using h5, ((Below.refl _ w).alloc (Nat.le_refl _) _).grown hg5 (by simp) (fun q e => by cases e; exact Nat.le_refl _)⟩

theorem rcellsOf_set (r : List RTrip) (i : Nat) (hi : i < r.length) (a : Option Addr) (c : Nat) : (rcellsOf r).set (3 * i + 2) (.slice a r[i].1.body.length c) = rcellsOf (r.set i (r[i].1, a, c)) := by
  induction r generalizing i with
  | nil => exact absurd hi (Nat.not_lt_zero i)
  | cons p r ih =>
    cases i with
    | zero => simp [rcellsOf, Rc.cells]
    | succ i =>
      have hi' : i < r.length := by simpa using hi
      have := ih i hi'
      rw [show 3 * (i + 1) + 2 = (3 * i + 2) + 3 by omega]
      simp only [rcellsOf, Rc.cells, List.set_cons_succ, List.getElem_cons_succ, List.toList_toArray, List.cons_append, List.nil_append]
      rw [this]

/-- A row whose first i bodies are its own. -/
def OwnMix (w : World) (n0 B g cap i : Nat) (l : List Rc) (r : List RTrip) : Prop :=
  r.map (·.1) = l ∧ w.ownsRow n0 91 3 (.slice (some ⟨g, 0, none⟩) r.length cap) r.length (rcellsOf r) ∧ ∀ j (hj : j < r.length), OwnB w (if j < i then n0 else B) (.slice r[j].2.1 r[j].1.body.length r[j].2.2) r[j].1.body

theorem OwnMix.stored {w : World} {n0 B g cap i : Nat} {l : List Rc} {r : List RTrip} (h : OwnMix w n0 B g cap i l r) (hi : i < r.length) (a : Option Addr) (c : Nat) (hb : OwnB w n0 (.slice a r[i].1.body.length c) r[i].1.body) :
    OwnMix (w.setCell ⟨g, 3 * i + 2, none⟩ (.slice a r[i].1.body.length c)) n0 B g cap (i + 1) l (r.set i (r[i].1, a, c)) := by
  obtain ⟨h1, h2, h3⟩ := h
  have hk : ∀ {b2 : Nat} {v : Value} {l2 : List UInt8}, OwnB w b2 v l2 → OwnB (w.setCell ⟨g, 3 * i + 2, none⟩ (.slice a r[i].1.body.length c)) b2 v l2 := fun hp => by
    refine ownsRow_setCell_other hp (fun e => ?_) _
    obtain ⟨c1, f1, z1⟩ := Lib.ownsRow_kind hp _ e
    obtain ⟨c2, f2, z2⟩ := Lib.ownsRow_kind h2 g rfl
    rw [z2] at z1
    simp at z1
  refine ⟨?_, ?_, fun j hj => ?_⟩
  · rw [← h1]
    refine List.ext_getElem (by simp) fun q hq1 hq2 => ?_
    simp only [List.getElem_map, List.getElem_set]
    split
    · rename_i e; subst e; rfl
    · rfl
  · have := (World.ownsRow.stored h2 (3 * i + 2) (.slice a r[i].1.body.length c)).1
    rw [rcellsOf_set r i hi a c] at this
    rw [List.length_set]
    exact this
  · rw [List.length_set] at hj
    by_cases e : i = j
    · subst e
      simp only [List.getElem_set_self]
      rw [if_pos (Nat.lt_succ_self _)]
      exact hk hb
    · simp only [List.getElem_set_ne e]
      have := h3 j hj
      by_cases e2 : j < i
      · rw [if_pos e2] at this
        rw [if_pos (by omega)]
        exact hk this
      · rw [if_neg e2] at this
        rw [if_neg (by omega)]
        exact hk this

theorem OwnMix.later {w w' : World} {n0 B g cap i : Nat} {l : List Rc} {r : List RTrip} (h : OwnMix w n0 B g cap i l r) (hb : Below w.heap.size w w') : OwnMix w' n0 B g cap i l r :=
  ⟨h.1, ownsRow_later h.2.1 hb, fun j hj => (h.2.2 j hj).later hb⟩

set_option maxRecDepth 100000 in
set_option maxHeartbeats 2000000 in
theorem own_recs (B : Nat) (v : Value) (l : List Rc) (w : World) (hO : OwnRs w B v l) (hlen : l.length ≤ 1099511627776) (hbody : ∀ x ∈ l, x.body.length ≤ 70368744177664) :
    Calls Try.prog 102 #[v] w fun e w' => ∃ v', e = .returned v' ∧ OwnRs w' w.heap.size v' l ∧ Below w.heap.size w w' := by
  obtain ⟨r, h1, h2, h3⟩ := hO
  have hrl : r.length = l.length := by rw [← h1, List.length_map]
  rcases h2.2 with ⟨rfl, hn⟩ | ⟨g, cap, cur, rfl, hb, hg, hnc, hcm, hcs, htake⟩
  · have hl0 : l = [] := List.length_eq_zero_iff.1 hn
    subst hl0
    have hcl := Lib.hid (clone_recs none [] 0 w (Nat.le_refl _) (fun _ => ⟨rfl, rfl⟩) (fun _ e => nomatch e) (Nat.zero_le _))
    clear h1 h2 h3 hrl hbody
    go_enter Try.func102, Try.ntmps102
    go_wp2_with (go_at_call 100; refine hcl.out.mono ?_; rintro e w1 ⟨v1, rfl, hO1, hB1⟩; obtain ⟨a1, c1, rfl⟩ : ∃ a c, v1 = .slice a 0 c := (by rcases hO1.2 with ⟨rfl, _⟩ | ⟨g, cap, cur, rfl, _⟩; exact ⟨none, 0, rfl⟩; exact ⟨_, _, rfl⟩))
    go_loopw [8] (fun iv wr => iv = .int .i64 0 ∧ wr = w1) (fun _ _ => 0)
    case atStart => exact ⟨rfl, rfl⟩
    case round =>
      obtain ⟨rfl, rfl⟩ := hrel
      go_wp2
      go_ret
      exact ⟨_, rfl, ⟨[], rfl, hO1, fun p hp => nomatch hp⟩, hB1⟩
  · have hsrc : ∀ j u, (rcellsOf r)[j]? = some u → w.cell? ((⟨g, 0, none⟩ : Addr).add j) = some u := fun j u hu => by
      have hj : j < l.length * 3 := by have := (List.getElem?_eq_some_iff.1 hu).1; rw [rcellsOf_length, hrl] at this; exact this
      rw [Addr.add_lit, Nat.zero_add, World.ownsRow.cellAt h2 j (by omega), hu]
    rw [← hrl] at h2 hnc hlen ⊢
    have hcl := Lib.hid (clone_recs (some ⟨g, 0, none⟩) r cap w hnc (fun e => nomatch e) (fun ad e => by cases e; exact hsrc) hlen)
    have H3 := Lib.hid (And.intro h1 (And.intro h3 hbody))
    have Hrl := Lib.hid hrl
    clear h2 hb hg hnc hcm hcs htake hsrc hrl h1 h3 hbody
    go_enter Try.func102, Try.ntmps102
    go_wp2_with (go_at_call 100; refine hcl.out.mono ?_; rintro e w1 ⟨v1, rfl, hO1, hB1⟩; obtain ⟨a1, c1, rfl⟩ : ∃ a c, v1 = .slice a r.length c := (by rcases hO1.2 with ⟨rfl, hz⟩ | ⟨g, cap, cur, rfl, _⟩; exact ⟨none, 0, by rw [hz]⟩; exact ⟨_, _, rfl⟩))
    go_loopw [8] (fun iv wr => ∃ (i : Nat) (r' : List RTrip), i ≤ r.length ∧ iv = .int .i64 (i : Int) ∧ r'.length = r.length ∧ ((r.length = 0 ∧ wr.ownsRow w.heap.size 91 3 (.slice a1 r.length c1) r.length (rcellsOf r')) ∨ ∃ g1, a1 = some ⟨g1, 0, none⟩ ∧ OwnMix wr w.heap.size B g1 c1 i l r') ∧ Below w.heap.size w wr) (fun iv _ => r.length - (intOf iv).toNat)
    case atStart =>
      refine ⟨0, r, Nat.zero_le _, rfl, rfl, ?_, hB1⟩
      rcases hO1.2 with ⟨e0, hz⟩ | ⟨g1, cap1, cur1, e0, _⟩
      · exact .inl ⟨hz, hO1⟩
      · cases e0
        exact .inr ⟨g1, rfl, H3.out.1, hO1, fun j hj => by rw [if_neg (Nat.not_lt_zero j)]; exact (H3.out.2.1 _ (List.getElem_mem hj)).later hB1⟩
    case round =>
      obtain ⟨i, r', hi, rfl, hrl', hM, hbw⟩ := hrel
      by_cases hlt : i < r.length
      · have hM1 := hM.resolve_left (fun h => by omega)
        clear hM
        obtain ⟨g1, rfl, hM⟩ := hM1
        have hir : i < r'.length := by omega
        have hiI : (i : Int) < (r.length : Int) := by omega
        have hbi := hM.2.2 i hir
        rw [if_neg (Nat.lt_irrefl i)] at hbi
        have hcell : wr.cell? ⟨g1, i * 3 + 2, none⟩ = some (.slice r'[i].2.1 r'[i].1.body.length r'[i].2.2) := by
          rw [show i * 3 + 2 = 3 * i + 2 by omega, World.ownsRow.cellAt hM.2.1 (3 * i + 2) (by omega), rcellsOf_get r' i hir 2 (by decide)]
          rfl
        have hfr : wr.frozen? ⟨g1, i * 3 + 2, none⟩ = false := by
          have := hM.2.1
          exact World.ownsRow.frozenAt this (i * 3 + 2)
        have hM0 := hM
        have hbl : r'[i].1.body.length ≤ 70368744177664 := by
          have := H3.out.2.2 r'[i].1 (by rw [← hM.1]; exact List.mem_map.2 ⟨r'[i], List.getElem_mem hir, rfl⟩)
          exact this
        obtain ⟨p, hp⟩ : ∃ p, p = r'[i] := ⟨_, rfl⟩
        have hst := fun (W : World) (hW : OwnMix W w.heap.size B g1 c1 i l r') a c (hb : OwnB W w.heap.size (.slice a p.1.body.length c) p.1.body) => hW.stored hir a c (by rw [← hp]; exact hb)
        rw [← hp] at hbi hcell hbl hst
        have HP := Lib.hid hp
        have hg1 : g1 < wr.heap.size := World.block_lt_of_cell? wr _ hcell
        have hBg : w.heap.size ≤ g1 := (World.ownsRow.lt hM.2.1 g1 rfl).1
        obtain ⟨a2, c2, e2, hby2, hle2, _, _, hno2⟩ := hbi.slice
        obtain ⟨rfl, rfl⟩ : a2 = p.2.1 ∧ c2 = p.2.2 := by injection e2 with q1 q2 q3; exact ⟨q1.symm, q3.symm⟩
        have hcl2 := Lib.hid (fun W (hW : Below wr.heap.size wr W) => clone_calls p.2.1 p.1.body p.2.2 W hbl (fun e => by obtain ⟨z1, z2⟩ := hno2 e; exact ⟨by rw [z1]; rfl, z2⟩) (hby2.later hW))
        have HM := Lib.hid hM
        have Hst := Lib.hid hst
        clear hp hM0 hM e2 hby2 hno2 hst hbl
        go_wp2_with (go_at_call 89; refine (hcl2.out _ (Below.refl _ _)).mono ?_; rintro e w4 ⟨v4, rfl, hO4, hB4⟩; have hcell4 := (hB4.cell (p := ⟨g1, i * 3 + 2, none⟩) hg1).trans hcell; have hfr4 : w4.frozen? ⟨g1, i * 3 + 2, none⟩ = false := ((World.frozen?_of_block (hB4.block g1 hg1)).trans hfr); obtain ⟨a4, c4, rfl, _⟩ := hO4.slice)
        go_roundw
        case rel => exact ⟨i + 1, r'.set i (p.1, a4, c4), by omega, by go_num, (by rw [List.length_set]; exact hrl'), .inr ⟨g1, rfl, by rw [show i * 3 + 2 = 3 * i + 2 by omega]; exact Hst.out w4 (HM.out.later hB4) a4 c4 (hO4.mono hbw.size)⟩, (below_call hbw (Nat.le_refl _) hB4).setCell (p := ⟨g1, i * 3 + 2, none⟩) hBg _⟩
        case measure => simp [intOf]; omega
      · have hie : i = r.length := by omega
        have hiI : ¬ (i : Int) < (r.length : Int) := by omega
        go_wp2
        go_ret
        refine ⟨_, rfl, ?_, hbw⟩
        rcases hM with ⟨hz, hrow⟩ | ⟨g1, rfl, q1, q2, q3⟩
        · have hr0 : r' = [] := List.length_eq_zero_iff.1 (by omega)
          have hl0 : l = [] := List.length_eq_zero_iff.1 (by have := Hrl.out; omega)
          rw [hz, hr0] at hrow
          rw [hz, hl0]
          exact ⟨[], rfl, hrow, fun p hp => nomatch hp⟩
        · rw [hrl'] at q2
          refine ⟨r', q1, by rw [← Hrl.out]; exact q2, fun p hp => ?_⟩
          obtain ⟨j, hj, rfl⟩ := List.mem_iff_getElem.1 hp
          have := q3 j hj
          rw [if_pos (by omega)] at this
          exact this
end Go.Proofs.Ytdlbjllgdikadaa
