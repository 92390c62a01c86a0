/- scan.Find: the caller of Run and whole. -/
import Derived.Test.YtdlbjllgdikadaaScnB
import Derived.Test.YtdlbjllgdikadaaScnC
namespace Go.Proofs.Ytdlbjllgdikadaa
open Go.RowKit Go.Shelf
set_option linter.unusedVariables false
set_option linter.unusedSimpArgs false
attribute [local go_sem] Oper.semAt_some

/-- From the last checkpoint on, on records that lie in memory. -/
def tstep (s : Bool × List RTrip) (p : RTrip) : Bool × List RTrip := if p.1.kind == 2 then (true, [p]) else if s.1 then (true, s.2 ++ [p]) else s
def tfold (l : List RTrip) : Bool × List RTrip := l.foldl tstep (false, [])
theorem tfold_snoc (l : List RTrip) (p : RTrip) : tfold (l ++ [p]) = tstep (tfold l) p := by unfold tfold; rw [List.foldl_append]; rfl
theorem tfold_from (l : List RTrip) : ∀ s : Bool × List RTrip, ((l.foldl tstep s).2).map (·.1) = findGo s.1 (s.2.map (·.1)) (l.map (·.1)) := by
  induction l with
  | nil => intro s; rfl
  | cons p l ih =>
    intro s
    simp only [List.foldl_cons, List.map_cons, findGo]
    rw [ih]
    unfold tstep findStep
    obtain ⟨c, r⟩ := s
    by_cases h : (p.1.kind == 2) = true
    · rw [if_pos h, if_pos h]; rfl
    · rw [if_neg h, if_neg h]
      cases c
      · rfl
      · simp
theorem tfold_lasts (l : List RTrip) : (tfold l).2.map (·.1) = lastsOf (l.map (·.1)) := by
  rw [← findGo_lasts]; exact tfold_from l (false, [])
theorem tfold_mem (l : List RTrip) : ∀ s : Bool × List RTrip, ∀ p ∈ (l.foldl tstep s).2, p ∈ s.2 ∨ p ∈ l := by
  induction l with
  | nil => intro s p h; exact .inl h
  | cons q l ih =>
    intro s p h
    rcases ih _ p h with h1 | h1
    · unfold tstep at h1
      split at h1
      · rw [List.mem_singleton] at h1; subst h1; exact .inr (.head _)
      · split at h1
        · rcases List.mem_append.1 h1 with h2 | h2
          · exact .inl h2
          · rw [List.mem_singleton] at h2; subst h2; exact .inr (.head _)
        · exact .inl h1
    · exact .inr (.tail _ h1)
theorem tfold_len (l : List RTrip) : ∀ s : Bool × List RTrip, (l.foldl tstep s).2.length ≤ s.2.length + l.length := by
  induction l with
  | nil => intro s; exact Nat.le_refl _
  | cons q l ih =>
    intro s
    have := ih (tstep s q)
    have h2 : (tstep s q).2.length ≤ s.2.length + 1 := by
      unfold tstep
      split
      · simp
      · split
        · simp
        · omega
    simp only [List.foldl_cons, List.length_cons]
    omega

def nextS (l : List Blk) : Nat := match l.getLast? with
  | none => 0
  | some x => x.serial + 1

theorem results_c3 {fn : Func} {p u q : Tmp} (h : fn.results = #[.cell p 83, .tmp u, .tmp q]) (tmps : Array Value) (w : World) {B : Nat} {v : Value} (hp : tmps.getD p undef = .pointer (some ⟨B, 0, none⟩)) (hc : w.cell? ⟨B, 0, none⟩ = some v) :
    (results fn tmps).run Try.prog w = .ok (.tuple #[v, tmps.getD u undef, tmps.getD q undef]) w := by
  simp only [results, h]
  have hp2 : tmps[p]?.getD undef = .pointer (some ⟨B, 0, none⟩) := by simpa using hp
  simp [Sem.run_bind, Result.andThen, hp2, asAddr, loadVar, isAgg, run_underlying Try.underlying83, run_load, hc]
theorem box_appended {W w1 : World} {nb B C : Nat} {tC : TypeId} {u v v' : Value} {k : Nat} {xs : List Value} {tmp : Obj} (hbc : Boxed W C tC u) (ht : tC ≠ 91) (hrow : W.ownsRow nb 91 3 v k xs) (hgrow : (W.alloc tmp).grownBy w1 v.ownBlock) (hne : C ≠ B) :
    Boxed (w1.setCell ⟨B, 0, none⟩ v') C tC u :=
  ((hbc.alloc tmp).kept hgrow ((hbc.alloc tmp).not_row ht (hrow.alloc tmp))).kept (grownBy_setCell' w1 B v') (fun e => by injection e with e; omega)

set_option maxRecDepth 100000 in
set_option maxHeartbeats 8000000 in
theorem find_run (D : Nat) (run : List Blk) (w : World) (hrun : Calls Try.prog 58 #[.pointer (some ⟨D, 0, none⟩)] (w.alloc (.cells #[.slice none 0 0] 83)) fun e w' => ∃ v, e = .returned (.tuple #[v, .int .i64 0]) ∧ OwnBs w' (w.heap.size + 1) v run ∧ Below (w.heap.size + 1) (w.alloc (.cells #[.slice none 0 0] 83)) w')
    (hmay : ∀ x ∈ run, x.serial ≤ 1099511627776 ∧ x.body.length ≤ 48) (hlen : run.length ≤ 1099511627777) (hne : run ≠ []) :
    Calls Try.prog 63 #[.pointer (some ⟨D, 0, none⟩)] w fun e w' => ∃ v, e = .returned (.tuple #[v, .int .u64 (nextS run : Nat), .int .i64 0]) ∧ OwnRs w' w.heap.size v (lastsOf (refRecs run)) ∧ Below w.heap.size w w' := by
  refine (callsIn_wide (n := 6)).1 ?_
  refine callsIn_of_wp_marks Try.func63 rfl trivial ?_ rfl
  simp only [Try.ntmps63, List.size_toArray, List.length_cons, List.length_nil, Nat.reduceAdd, Nat.reduceSub, Array.replicate_succ, Array.replicate_zero, List.push_toArray, List.append_toArray, List.nil_append, List.cons_append]
  have Hrun := Lib.hid hrun
  clear hrun
  have hpos : ¬ run.length = 0 := fun e => hne (List.length_eq_zero_iff.1 e)
  gi_wp2_with (first
    | (refine ⟨trivial, ?_⟩; gi_at_call 58; refine (callsIn_wide.2 Hrun.out).mono ?_; rintro e w1 ⟨v, rfl, hO, hB⟩; obtain ⟨ab, cap, rfl, hIs, hlc, hcm, hab, hno⟩ := hO.slice)
    | (refine ⟨trivial, ?_⟩; gi_at_call 94; refine (whole_made Fence.wide _ trivial rfl _ _ _ _).mono ?_; rintro e w' ⟨rfl, rfl⟩))
  have hBn : Boxed w1 w.heap.size 83 (.slice none 0 0) := (hB.block w.heap.size (Nat.lt_succ_self _)).trans (Boxed.new w 83 (.slice none 0 0))
  have hBw : Below w.heap.size w w1 := ((Below.refl _ w).alloc (Nat.le_refl _) _).trans (hB.mono (Nat.le_succ _))
  have hsz1 : w.heap.size + 1 ≤ w1.heap.size := by have := hB.size; rw [World.size_alloc] at this; exact this
  have bC := Boxed.new w1 4 (.bool false)
  have bN := Boxed.new (w1.alloc (.cells #[.bool false] 4)) 32 (.slice ab run.length cap)
  rw [World.size_alloc] at bN
  have hB0 : Below w1.heap.size w1 ((w1.alloc (.cells #[.bool false] 4)).alloc (.cells #[.slice ab run.length cap] 32)) := ((Below.refl _ w1).alloc (Nat.le_refl _) _).alloc (by simp) _
  have hst := whole_stops Fence.wide 5 trivial rfl (by omega) (w1.heap.size + 1) w1.heap.size w.heap.size ab cap run w1 _ rfl (Lo.of hB0) (fun a u h1 h2 => by
    have hBn' : w1.heap[w.heap.size]? = _ := hBn
    obtain ⟨bb, of, sub⟩ := a
    cases h1
    cases sub with
    | some s => simp [World.cell?, hBn'] at h2
    | none =>
      have h3 : w1.cell? ⟨w.heap.size, of, none⟩ = some u := h2
      clear h2
      have h2 := h3
      rw [cell_of_row w1 w.heap.size of _ _ _ hBn'] at h2
      match of, h2 with
      | 0, h2 => simp at h2; exact ⟨_, _, _, h2.symm⟩
      | of + 1, h2 => simp at h2) hIs (fun x hx => Nat.le_trans (hmay x hx).2 (by decide)) hlen bN.cell
  obtain ⟨W0, hW0⟩ : ∃ W0, W0 = (w1.alloc (.cells #[.bool false] 4)).alloc (.cells #[.slice ab run.length cap] 32) := ⟨_, rfl⟩
  have hbO : Boxed W0 w.heap.size 83 (.slice none 0 0) := by rw [hW0]; exact (hBn.alloc _).alloc _
  have hbC : Boxed W0 w1.heap.size 4 (.bool false) := by rw [hW0]; exact bC.alloc _
  have hsz : W0.heap.size = w1.heap.size + 2 := by rw [hW0]; simp
  rw [← hW0] at hst hB0 ⊢
  clear hW0 bC bN hBn
  obtain ⟨nb, hnb⟩ : ∃ nb, nb = w.heap.size := ⟨_, rfl⟩
  obtain ⟨C, hC⟩ : ∃ C, C = w1.heap.size := ⟨_, rfl⟩
  rw [← hnb] at hst hbO hBw hsz1 ⊢
  rw [← hC] at hst hB0 hbC hsz hsz1 ⊢
  have hB1 : Below nb w W0 := hBw.trans (hB0.mono (by omega))
  have HB := Lib.hid hnb
  have HC := Lib.hid hC
  clear hnb hC hBw
  obtain ⟨H, hH⟩ : ∃ H, H = C + 4 := ⟨_, rfl⟩
  have hHs : W0.heap.size + 2 = H := by omega
  have HS := Lib.hid (And.intro hsz (And.intro hH hHs))
  refine wpIn_rangeW rfl (by omega) (lb := #[.pointer (some ⟨C + 1, 0, none⟩)]) rfl trivial (enters_of Try.func110 (by kernel_rfl) rfl) hst (by omega) rfl
    (fun pre W => (((∃ v, Boxed W nb 83 v ∧ W.ownsRow nb 91 3 v (tfold pre).2.length (rcellsOf (tfold pre).2) ∧ (v.ownBlock ≠ some H ∧ ∀ q, v.ownBlock = some q → C ≤ q)) ∧ Boxed W C 4 (.bool (tfold pre).1)) ∧ Below nb w W) ∧ Lo C nb W0 W)
    (OwnFrom.and (OwnFrom.and (OwnFrom.and (Own.from (holdsRow_own nb nb 83 91 3 (fun pre => (tfold pre).2.length) (fun pre => rcellsOf (tfold pre).2) (fun pre v => v.ownBlock ≠ some H ∧ ∀ q, v.ownBlock = some q → C ≤ q)) _) (Own.from (fun s A B row hs hg hr => hs.kept hg (fun e => by
      obtain ⟨o, ho, hc⟩ := hr C e.symm
      have h3 : A.heap[C]? = _ := hs
      rw [ho] at h3; cases h3; cases hc)) _)) (ownFrom_below (Nat.le_of_eq HB.out) (by omega))) (fun s A B row hs hg hr => hs.grown hg (by have := hs.size; omega) (fun r e => by have := (hr r e).1; omega)))
    ?abides ⟨⟨⟨⟨_, hbO, World.ownsRow_nil _ _ _ _, by simp [Value.ownBlock]⟩, hbC⟩, hB1⟩, Lo.refl _ _ _⟩
    (fun x a' W => ∃ Bx, a' = { tmps := #[.pointer (some ⟨D, 0, none⟩), undef, .pointer (some ⟨nb, 0, none⟩), .int .u64 0, .int .i64 0, .slice ab run.length cap, .pointer (some ⟨C, 0, none⟩), .pointer (some ⟨Bx, 0, none⟩), .tuple #[.slice ab run.length cap, .int .i64 0], .pointer (some ⟨D, 0, none⟩), .tuple #[.slice ab run.length cap, .int .i64 0], .slice ab run.length cap, .int .i64 0, .int .i64 0, .bool false, .bool false, .slice ab run.length cap, .int .i64 run.length, .bool false, .bool false, undef, .slice ab run.length cap, .func (.func 110) #[] #[.pointer (some ⟨C + 1, 0, none⟩)], renc x, undef, undef, undef, undef, undef, undef, undef, undef, undef, undef, undef, undef, undef, undef, undef, undef, undef], defers := [] } ∧ RecAt W Bx x.1 x.2.1 x.2.2 ∧ C < Bx ∧ Bx ≠ H)
    (fun x a' s A B row hs hg hr => by
      obtain ⟨Bx, h1, h2, h4⟩ := hs
      refine ⟨Bx, h1, h2.kept hg (fun e => ?_), h4⟩
      obtain ⟨_, o, ho, hc⟩ := hr Bx e.symm
      have h3 : A.heap[Bx]? = _ := h2
      rw [ho] at h3; cases h3; cases hc)
    ?assign ?body ?done
  case abides =>
    rintro s A B row ⟨⟨⟨⟨v, hv, hrow, hvH, hvC⟩, hbc⟩, hb⟩, hlo⟩ hg hr
    rw [hHs] at hr
    have hsA := hlo.size
    refine ⟨⟨⟨⟨v, hv.kept hg (fun e => ?_), hrow.kept hg ?_, hvH, hvC⟩, hbc.kept hg (fun e => ?_)⟩, hb.grown hg (Nat.le_trans (Nat.le_of_eq HB.out) hb.size) (fun k e => by have := (hr k e).1; omega)⟩, hlo.grown hg (by omega) (fun r e => .inl (hr r e).1)⟩
    · have := (hr nb e.symm).1
      omega
    · cases e : v.ownBlock with
      | none => exact .inl rfl
      | some q =>
        right; intro e2
        rcases (hr q e2.symm).2 with e3 | ⟨cs, t, fz, e3, e4⟩
        · exact hvH (by rw [e, e3])
        · obtain ⟨c, f, z⟩ := Lib.ownsRow_kind hrow q e
          rw [z] at e3; cases e3; rcases e4 with e4 | e4 <;> exact absurd e4 (by decide)
    · rcases (hr C e.symm).2 with e2 | ⟨cs, t, fz, e2, e3⟩
      · omega
      · have hv' : A.heap[C]? = _ := hbc
        rw [hv'] at e2; cases e2; rcases e3 with e3 | e3 <;> exact absurd e3 (by decide)
  case assign =>
    rintro l pre x W K ⟨⟨⟨⟨v, hv, hrow, hvH, hvC⟩, hbc⟩, hb⟩, hlo⟩ hlt hK
    rw [hHs] at hlt hK
    have hz : RecAt (W.alloc (.cells #[.int .u8 0, .int .u64 0, .slice none 0 0] 91)) W.heap.size noneR none 0 := heap_alloc_new _ _
    have hnW : nb ≤ W.heap.size := Nat.le_trans (Nat.le_of_eq HB.out) hb.size
    have hCW : C < W.heap.size := by omega
    gi_wp2_with (refine wpListIn_store_rec rfl (.tmp 7) (.tmp 23) rfl W.heap.size noneR x.1 none x.2.1 0 x.2.2 rfl rfl hz ?_; intro w4 hs4 hg4)
    have hlt4 : ∀ q, some q = some W.heap.size → ∀ cs fz, (W.alloc (.cells #[.int .u8 0, .int .u64 0, .slice none 0 0] 91)).heap[q]? ≠ some (.cells cs 5 fz) := fun q e cs fz e2 => by
      cases e
      rw [show (W.alloc (.cells #[.int .u8 0, .int .u64 0, .slice none 0 0] 91)).heap[W.heap.size]? = _ from hz] at e2
      simp at e2
    refine hK _ _ ((KeepsOthers.alloc W _).trans (KeepsOthers.of_grownBy hg4 fun j o ej hj => ?_)) ((RKeeps.grown (World.grownBy_alloc W _ none) (Nat.le_of_lt hCW) hlt (fun q e => by cases e)).trans (RKeeps.grown hg4 (by rw [World.size_alloc]; omega) (by rw [World.size_alloc]; omega) (fun q e => ⟨by cases e; exact .inl (Nat.le_of_lt hCW), by cases e; omega, hlt4 q e.symm⟩)))
      ⟨⟨⟨⟨v, (hv.alloc _).kept hg4 (fun e => by injection e with e; have := hv.lt; omega), (hrow.alloc _).kept hg4 ?_, hvH, hvC⟩, (hbc.alloc _).kept hg4 (fun e => by injection e with e; omega)⟩, (hb.alloc hnW _).grown hg4 (by rw [World.size_alloc]; omega) (fun k e => by cases e; exact hnW)⟩, (hlo.alloc (Nat.le_of_lt hCW) _).grown hg4 (by rw [World.size_alloc]; omega) (fun q e => by cases e; exact .inl (Nat.le_of_lt hCW))⟩ ⟨W.heap.size, rfl, hs4, hCW, by omega⟩
    · cases ej
      rw [show (W.alloc (.cells #[.int .u8 0, .int .u64 0, .slice none 0 0] 91)).heap[W.heap.size]? = _ from hz] at hj
      cases hj; rfl
    · cases e : v.ownBlock with
      | none => exact .inl rfl
      | some q => right; intro e2; injection e2 with e2; have := (World.ownsRow.lt hrow q e).2; omega
  case body =>
    rintro l pre x a' W hlt ⟨⟨⟨⟨v, hv, hrow, hvH, hvC⟩, hbc⟩, hb⟩, hlo⟩ ⟨Bx, ha', hx, hBx, hBxH⟩ hlen2
    dsimp only at ha'
    subst ha'
    rw [hHs] at hlt
    have hsW := hlo.size
    have hnW : C ≤ W.heap.size := by omega
    have hprel : (tfold pre).2.length ≤ 1099511627777 := by have := tfold_len pre (false, []); simp only [List.length_nil] at this; unfold tfold; omega
    have hc := hv.cell
    have hcf := hv.frozen
    have hcc := hbc.cell
    have hccf := hbc.frozen
    have hx0 : W.cell? ⟨Bx, 0, none⟩ = some (.int .u8 (x.1.kind.toNat : Int)) := hx.cell 0 _ rfl
    have hCn : nb ≠ C := by omega
    by_cases hkd : (x.1.kind == 2) = true
    · have hkI : ((x.1.kind.toNat : Int) == 2) = true := by rw [beq_iff_eq] at hkd; rw [hkd]; rfl
      have ht : tfold (pre ++ [x]) = (true, [x]) := by rw [tfold_snoc]; unfold tstep; rw [if_pos hkd]
      obtain ⟨W', hW'⟩ : ∃ W', W' = (W.setCell ⟨nb, 0, none⟩ (.slice none 0 0)).setCell ⟨C, 0, none⟩ (.bool true) := ⟨_, rfl⟩
      have g1 := grownBy_setCell' W nb (.slice none 0 0)
      have g2 := grownBy_setCell' (W.setCell ⟨nb, 0, none⟩ (.slice none 0 0)) C (.bool true)
      have hbc1 : Boxed (W.setCell ⟨nb, 0, none⟩ (.slice none 0 0)) C 4 (.bool (tfold pre).1) := hbc.kept g1 (fun e => by injection e with e; omega)
      have hv' : Boxed W' nb 83 (.slice none 0 0) := by rw [hW']; exact (hv.set _).kept g2 (fun e => by injection e with e; omega)
      have hbc' : Boxed W' C 4 (.bool true) := by rw [hW']; exact hbc1.set _
      have hx' : RecAt W' Bx x.1 x.2.1 x.2.2 := by rw [hW']; exact (hx.other _ _ (show Bx ≠ nb by omega)).other _ _ (show Bx ≠ C by omega)
      have hKO : KeepsOthers W W' := by rw [hW']; exact (KeepsOthers.setCell _ _ _).trans (KeepsOthers.setCell _ _ _)
      have hsz' : W'.heap.size = W.heap.size := by rw [hW']; simp
      have hRK : RKeeps C nb H W W' := by
        rw [hW']
        refine (RKeeps.grown g1 hnW hlt (fun q e => ⟨by cases e; exact .inr rfl, by cases e; omega, fun cs fz e2 => ?_⟩)).trans (RKeeps.grown g2 (by simpa using hnW) (by simpa using hlt) (fun q e => ⟨by cases e; exact .inl (Nat.le_refl _), by cases e; omega, fun cs fz e2 => ?_⟩))
        · cases e; rw [show W.heap[nb]? = _ from hv] at e2; simp at e2
        · cases e; rw [show (W.setCell ⟨nb, 0, none⟩ (.slice none 0 0)).heap[C]? = _ from hbc1] at e2; simp at e2
      have hBB : Below nb W W' := by rw [hW']; exact ((Below.refl nb W).setCell (p := ⟨nb, 0, none⟩) (Nat.le_refl _) _).setCell (p := ⟨C, 0, none⟩) (by show nb ≤ C; omega) _
      have hLL : Lo C nb W W' := hRK.below
      clear hv hbc hx g1 g2 hbc1 hLL
      subst hW'
      have hc' := hv'.cell
      have hcf' := hv'.frozen
      have hcc' := hbc'.cell
      have hccf' := hbc'.frozen
      have hrow' : World.ownsRow _ nb 91 3 (.slice none 0 0) ([] : List RTrip).length (rcellsOf []) := World.ownsRow_nil ((W.setCell ⟨nb, 0, none⟩ (.slice none 0 0)).setCell ⟨C, 0, none⟩ (.bool true)) nb 91 3
      have hvC' : ∀ q, (Value.slice none 0 0).ownBlock = some q → C ≤ q := fun q e => by simp [Value.ownBlock] at e
      have hvH' : (Value.slice none 0 0).ownBlock ≠ some H := by simp [Value.ownBlock]
      gi_wp2_with (first
        | (refine wpListIn_load_rec rfl (.tmp 7) rfl Bx x.1 x.2.1 x.2.2 rfl hx' ?_; simp only [Rc.cells])
        | (gi_at_builtin; refine wpListIn_append_rec rfl (.tmp 28) (.tmp 30) rfl nb (.slice none 0 0) ([] : List RTrip) rfl (hrow'.alloc _) x _ 1 rfl rfl (fun j u hu => (by rw [← hsz', World.cell?_alloc_new]; exact hu)) (Nat.zero_le _) (by rw [World.size_alloc, hsz']; omega) ?_; intro v' w1 hown' hgrow hat; obtain ⟨k1, k2, k3, k4, k9, k5, k7, k6⟩ := rec_appended (n₀ := C) (X := nb) (r := []) (p := x) hv' hrow' hvC' hvH' (by rw [hsz']; omega) (by omega) (Nat.le_refl _) (.inr rfl) (by omega) (by rw [hsz']; omega) hown' hgrow hat; have k10 := box_appended (B := nb) (v' := v') hbc' (by decide) hrow' hgrow (by omega); obtain ⟨g', cap', rfl⟩ := ownsRow_succ (k := ([] : List RTrip).length) (by rw [List.length_append] at hown'; exact hown'); have hc1 := k1.cell; have hf1 := k1.frozen))
      refine ⟨hKO.trans k5, by rw [hHs]; exact hRK.trans k6, ?_⟩
      simp only [ht]
      exact ⟨⟨⟨⟨_, k2, k3, k4, k9⟩, k10⟩, hb.trans (hBB.trans k7)⟩, hlo.trans (hRK.below.trans k6.below)⟩
    · have hkI : ((x.1.kind.toNat : Int) == 2) = false := by rw [beq_eq_false_iff_ne]; intro e; exact hkd (by rw [beq_iff_eq]; exact UInt8.toNat_inj.1 (by have : (2 : UInt8).toNat = 2 := rfl; omega))
      cases hck : (tfold pre).1
      · have ht : tfold (pre ++ [x]) = tfold pre := by rw [tfold_snoc]; unfold tstep; rw [if_neg hkd, hck]; rfl
        rw [hck] at hcc
        gi_wp2
        refine ⟨KeepsOthers.refl _, by rw [hHs]; exact RKeeps.refl _ _ _ _, ?_⟩
        simp only [ht]
        exact ⟨⟨⟨⟨_, hv, hrow, hvH, hvC⟩, hbc⟩, hb⟩, hlo⟩
      · have ht : tfold (pre ++ [x]) = (true, (tfold pre).2 ++ [x]) := by rw [tfold_snoc]; unfold tstep; rw [if_neg hkd, hck]; rfl
        rw [hck] at hcc hbc
        gi_wp2_with (first
          | (refine wpListIn_load_rec rfl (.tmp 7) rfl Bx x.1 x.2.1 x.2.2 rfl hx ?_; simp only [Rc.cells])
          | (gi_at_builtin; refine wpListIn_append_rec rfl (.tmp 28) (.tmp 30) rfl nb v (tfold pre).2 rfl (hrow.alloc _) x _ 1 rfl rfl (fun j u hu => (by rw [World.cell?_alloc_new]; exact hu)) hprel (by rw [World.size_alloc]; omega) ?_; intro v' w1 hown' hgrow hat; obtain ⟨k1, k2, k3, k4, k9, k5, k7, k6⟩ := rec_appended (n₀ := C) (X := nb) hv hrow hvC hvH (by omega) (by omega) (Nat.le_refl _) (.inr rfl) (by omega) (by omega) hown' hgrow hat; have k10 := box_appended (B := nb) (v' := v') hbc (by decide) hrow hgrow (by omega); obtain ⟨g', cap', rfl⟩ := ownsRow_succ (k := (tfold pre).2.length) (by rw [List.length_append] at hown'; exact hown'); have hc1 := k1.cell; have hf1 := k1.frozen))
        refine ⟨k5, by rw [hHs]; exact k6, ?_⟩
        simp only [ht]
        exact ⟨⟨⟨⟨_, k2, k3, k4, k9⟩, k10⟩, hb.trans k7⟩, hlo.trans k6.below⟩
  case done =>
    rintro Dq xs W hD hxs hbod ⟨⟨⟨⟨v, hv, hrow, hvH, hvC⟩, hbc⟩, hb⟩, hlo⟩ hK
    have hc := hv.cell
    have hcf := hv.frozen
    obtain ⟨m, hm⟩ : ∃ m, run.length = m + 1 := ⟨run.length - 1, by omega⟩
    obtain ⟨b, off, abl, capl, hab2, hx, hxx⟩ := hIs m (by omega)
    clear hxx
    have hl1 : w1.cell? ⟨b, off + 5 * m + 0, none⟩ = some (.int .u64 (run[m].serial : Int)) := hx 0 _ rfl
    have hl2 : W.cell? ⟨b, off + m * 5, none⟩ = some (.int .u64 (run[m].serial : Int)) := by
      have hb1 := World.block_lt_of_cell? w1 _ hl1
      have h0 : W0.cell? ⟨b, off + 5 * m + 0, none⟩ = some (.int .u64 (run[m].serial : Int)) := (hB0.cell (p := ⟨b, off + 5 * m + 0, none⟩) (by rw [HC.out]; exact hb1)).trans hl1
      rw [show off + m * 5 = off + 5 * m + 0 by omega]
      refine (World.cell?_of_block (a := ⟨b, off + 5 * m + 0, none⟩) (hlo.block b (by rw [HC.out]; exact hb1) (fun e => ?_))).trans h0
      have hbO' : W0.heap[nb]? = _ := hbO
      rw [e, cell_of_row W0 nb _ _ _ _ hbO'] at h0
      generalize off + 5 * m + 0 = z at h0
      match z, h0 with
      | 0, h0 => simp at h0
      | z + 1, h0 => simp at h0
    have hser : run[m].serial ≤ 1099511627776 := (hmay _ (List.getElem_mem _)).1
    have hnx : nextS run = run[m].serial + 1 := by
      unfold nextS
      rw [List.getLast?_eq_getElem?]
      simp only [hm, Nat.add_sub_cancel]
      rw [List.getElem?_eq_getElem (by omega)]
    obtain ⟨S, hS⟩ : ∃ S, S = run[m].serial := ⟨_, rfl⟩
    rw [← hS] at hl2 hser hnx
    have HNX := Lib.hid hnx
    have HS2 := Lib.hid hS
    have Hm := Lib.hid hm
    subst hab2
    rw [hm]
    clear hS hx hl1 hnx
    obtain ⟨va, vn, vc, rfl⟩ : ∃ a n c, v = .slice a n c := by
      rcases hrow.2 with ⟨rfl, _⟩ | ⟨g, cp, cur, rfl, _⟩
      · exact ⟨_, _, _, rfl⟩
      · exact ⟨_, _, _, rfl⟩
    have hl3 : (W.setCell ⟨nb, 0, none⟩ (.slice va vn vc)).cell? ⟨b, off + m * 5, none⟩ = some (.int .u64 (S : Int)) := by
      have hbO' : W.heap[nb]? = _ := hv
      by_cases e : b = nb
      · rw [e, cell_of_row W nb _ _ _ _ hbO'] at hl2
        generalize off + m * 5 = z at hl2
        match z, hl2 with
        | 0, h0 => simp at h0
        | z + 1, h0 => simp at h0
      · exact (World.cell?_of_block (a := ⟨b, off + m * 5, none⟩) (heap_setCell_other _ _ _ _ e)).trans hl2
    gi_wp2
    gi_region
    gi_wp2
    have hKs : ((W.setCell ⟨nb, 0, none⟩ (.slice va vn vc)).drew).heap[Dq]? = some (.deferred (some [])) := (heap_setCell_other W ⟨nb, 0, none⟩ Dq _ (by show Dq ≠ nb; omega)).trans hK
    refine ⟨by simp, .inl ⟨_, _, rfl, run_takeDeferred hKs, ?_⟩⟩
    have hvs : Boxed (((W.setCell ⟨nb, 0, none⟩ (.slice va vn vc)).drew).putObj Dq (.deferred none)) nb 83 (.slice va vn vc) := (World.putObj_heap_other (by omega)).trans (hv.set _)
    have hxl : xs.map (·.1) = refRecs run := by rw [hxs]; exact (goRecs_is run).1 _
    have hgs : W.grownBy (W.setCell ⟨nb, 0, none⟩ (.slice va vn vc)).drew (some nb) := by
      have g := grownBy_setCell' W nb (.slice va vn vc)
      exact ⟨g.os, g.tape, g.output, g.size, g.block⟩
    have hDl := (Array.getElem?_eq_some_iff.1 hK).1
    have hbS : Below nb W (((W.setCell ⟨nb, 0, none⟩ (.slice va vn vc)).drew).putObj Dq (.deferred none)) := ((Below.refl nb W).setCell (p := ⟨nb, 0, none⟩) (Nat.le_refl _) _).drew.grown (grownBy_putObj' _ Dq _) (by simp; omega) (fun k e => by cases e; omega)
    have hkp : ∀ {l : List UInt8} {u : Value}, OwnB W C u l → OwnB (((W.setCell ⟨nb, 0, none⟩ (.slice va vn vc)).drew).putObj Dq (.deferred none)) nb u l := fun {l u} h => by
      refine ownsRow_putObj (o := .deferred (some [])) ?_ _ hKs rfl
      have h2 := (h.mono (show nb ≤ C by omega))
      refine World.ownsRow.kept h2 hgs ?_
      cases e : u.ownBlock with
      | none => exact .inl rfl
      | some q =>
        right; intro e2
        injection e2 with e2
        have := h.blk q e
        omega
    refine ⟨_, results_c3 rfl _ _ rfl hvs.cell, .slice va vn vc, by rw [HNX.out]; rfl, ?_, by rw [← HB.out]; exact hb.trans hbS⟩
    rw [← HB.out, ← hxl, ← tfold_lasts]
    refine ⟨(tfold xs).2, rfl, ?_, fun p hp => hkp (hbod p ?_)⟩
    · rw [List.length_map]
      refine ownsRow_putObj (o := .deferred (some [])) ?_ _ hKs rfl
      refine World.ownsRow.kept hrow hgs ?_
      cases e : (Value.slice va vn vc).ownBlock with
      | none => exact .inl rfl
      | some q =>
        right; intro e2
        injection e2 with e2
        have := hvC q e
        omega
    · rcases tfold_mem xs (false, []) p hp with h | h
      · cases h
      · exact h

set_option maxRecDepth 100000 in
set_option maxHeartbeats 2000000 in
/-- No run, or an error. -/
theorem find_no (v0 : Value) (E : Nat) (w : World) (hrun : Calls Try.prog 58 #[v0] (w.alloc (.cells #[.slice none 0 0] 83)) fun e w' => ∃ a c, e = .returned (.tuple #[.slice a 0 c, .int .i64 (E : Int)]) ∧ Below (w.heap.size + 1) (w.alloc (.cells #[.slice none 0 0] 83)) w') :
    Calls Try.prog 63 #[v0] w fun e w' => e = .returned (.tuple #[.slice none 0 0, .int .u64 0, .int .i64 (E : Int)]) ∧ Below w.heap.size w w' := by
  have Hrun := Lib.hid hrun
  clear hrun
  by_cases hE : E = 0
  · subst hE
    go_enter Try.func63, Try.ntmps63
    go_wp2_with (go_at_call 58; refine Hrun.out.mono ?_; rintro e w1 ⟨a, c, rfl, hB⟩; have hBn : Boxed w1 w.heap.size 83 (.slice none 0 0) := (hB.block w.heap.size (Nat.lt_succ_self _)).trans (Boxed.new w 83 (.slice none 0 0)); have hc := hBn.cell; have hf := hBn.frozen)
    refine bodyPost_ret (results_c3 rfl _ _ rfl (hBn.set _).cell) rfl ?_
    refine ⟨rfl, (((Below.refl _ w).alloc (Nat.le_refl _) _).trans (hB.mono (Nat.le_succ _))).setCell (p := ⟨w.heap.size, 0, none⟩) (Nat.le_refl _) _⟩
  · have hEI : ((E : Int) == 0) = false := by rw [beq_eq_false_iff_ne]; omega
    have hEI2 : ¬ (E : Int) = 0 := by omega
    go_enter Try.func63, Try.ntmps63
    go_wp2_with (go_at_call 58; refine Hrun.out.mono ?_; rintro e w1 ⟨a, c, rfl, hB⟩; have hBn : Boxed w1 w.heap.size 83 (.slice none 0 0) := (hB.block w.heap.size (Nat.lt_succ_self _)).trans (Boxed.new w 83 (.slice none 0 0)); have hc := hBn.cell; have hf := hBn.frozen)
    refine bodyPost_ret (results_c3 rfl _ _ rfl (hBn.set _).cell) rfl ?_
    refine ⟨rfl, (((Below.refl _ w).alloc (Nat.le_refl _) _).trans (hB.mono (Nat.le_succ _))).setCell (p := ⟨w.heap.size, 0, none⟩) (Nat.le_refl _) _⟩

/-- The run of a device that is up. -/
def devRun (d : Dev) : List Blk := runOf (allTo d.blocks d.mem d.blocks)
theorem downFrom_count {n : Nat} {mem : Nat → List UInt8} {m : Nat} {s : Nat} {x : Blk} (h : x ∈ downFrom (allTo n mem m) s) : x.serial ≤ 1099511627776 ∧ x.body.length ≤ 48 := allTo_may (downFrom_mem h).1
theorem devRun_may (d : Dev) : ∀ x ∈ devRun d, x.serial ≤ 1099511627776 ∧ x.body.length ≤ 48 := fun x hx => by
  unfold devRun runOf at hx
  exact downFrom_count (List.mem_reverse.1 hx)
theorem devRun_len (d : Dev) : (devRun d).length ≤ 1099511627777 := by
  unfold devRun runOf
  rw [List.length_reverse]
  exact downFrom_short _ _ (topS_le _ fun x hx => (allTo_may hx).1)

theorem find_dev (D b : Nat) (d : Dev) (w : World) (h : DevAt w D b d) (hup : d.down = false) (h1 : 1 ≤ d.blocks) (h40 : d.blocks ≤ 40) :
    Calls Try.prog 63 #[.pointer (some ⟨D, 0, none⟩)] w fun e w' => ∃ v, e = .returned (.tuple #[v, .int .u64 (nextS (devRun d) : Nat), .int .i64 0]) ∧ OwnRs w' w.heap.size v (lastsOf (refRecs (devRun d))) ∧ Below w.heap.size w w' := by
  have hd := h.later ((Below.refl _ w).alloc (Nat.le_refl _) (.cells #[.slice none 0 0] 83))
  have hrun := run_good D b d _ hd hup h1 h40
  rw [World.size_alloc] at hrun
  by_cases hne : devRun d = []
  · refine (find_no (.pointer (some ⟨D, 0, none⟩)) 0 w (hrun.mono ?_)).mono ?_
    · rintro e w' ⟨v, rfl, hO, hB⟩
      have hO' : OwnBs w' (w.heap.size + 1) v (devRun d) := hO
      obtain ⟨a, c, rfl, _⟩ := hO'.slice
      rw [hne]
      exact ⟨a, c, rfl, hB⟩
    · rintro e w' ⟨rfl, hB⟩
      rw [hne]
      exact ⟨_, rfl, OwnRs.nil _ _, hB⟩
  · exact find_run D (devRun d) w hrun (devRun_may d) (devRun_len d) hne

set_option maxRecDepth 100000 in
set_option maxHeartbeats 2000000 in
theorem run_down (D b : Nat) (d : Dev) (w : World) (h : DevAt w D b d) (hdn : d.down = true) :
    Calls Try.prog 58 #[.pointer (some ⟨D, 0, none⟩)] w fun e w' => ∃ a c, e = .returned (.tuple #[.slice a 0 c, .int .i64 ((11 : Nat) : Int)]) ∧ Below w.heap.size w w' := by
  have hdc := Lib.hid (show Calls Try.prog 43 #[.pointer (some ⟨D, 0, none⟩)] w fun e w' => e = .returned (.bool true) ∧ w = w' from by rw [← hdn]; exact down_dev D b d w h)
  have hm : mayE d 0 = 11 := by unfold mayE; rw [hdn]; rfl
  have hrd := Lib.hid (show Calls Try.prog 45 #[.pointer (some ⟨D, 0, none⟩), .int .i64 0] w fun e w' => e = .returned (.tuple #[.slice none 0 0, .int .i64 11]) ∧ w = w' from by
    refine (read_dev D b d 0 w h).mono ?_
    rintro e w' (⟨_, q2, q3⟩ | ⟨q1, _⟩)
    · rw [hm] at q2; exact ⟨q2, q3⟩
    · rw [hm] at q1; cases q1)
  clear hdn hm
  go_enter Try.func58, Try.ntmps58
  go_wp2_with (first
    | (go_at_call 43; refine hdc.out.mono ?_; rintro e w2 ⟨rfl, rfl⟩)
    | (go_at_call 45; refine hrd.out.mono ?_; rintro e w2 ⟨rfl, rfl⟩))
  go_ret2
  exact ⟨none, 0, rfl, Below.refl _ _⟩

set_option maxRecDepth 100000 in
set_option maxHeartbeats 2000000 in
theorem down_nil (w : World) : Calls Try.prog 43 #[.pointer none] w fun e w' => e = .returned (.bool true) ∧ w = w' := by
  go_enter Try.func43, Try.ntmps43
  go_wp2
  go_ret
  exact ⟨rfl, rfl⟩
set_option maxRecDepth 100000 in
set_option maxHeartbeats 2000000 in
theorem may_nil (i : Int) (w : World) : Calls Try.prog 91 #[.pointer none, .int .i64 i] w fun e w' => e = .returned (.int .i64 1) ∧ w = w' := by
  go_enter Try.func91, Try.ntmps91
  go_wp2
  go_ret
  exact ⟨rfl, rfl⟩
set_option maxRecDepth 100000 in
set_option maxHeartbeats 2000000 in
theorem read_nil (i : Int) (w : World) : Calls Try.prog 45 #[.pointer none, .int .i64 i] w fun e w' => e = .returned (.tuple #[.slice none 0 0, .int .i64 1]) ∧ w = w' := by
  have hm := Lib.hid (may_nil i)
  go_enter Try.func45, Try.ntmps45
  go_wp2_with (go_at_call 91; refine (hm.out _).mono ?_; rintro e w2 ⟨rfl, rfl⟩)
  go_ret2
  exact ⟨rfl, rfl⟩
set_option maxRecDepth 100000 in
set_option maxHeartbeats 2000000 in
theorem run_nil (w : World) : Calls Try.prog 58 #[.pointer none] w fun e w' => ∃ a c, e = .returned (.tuple #[.slice a 0 c, .int .i64 ((1 : Nat) : Int)]) ∧ Below w.heap.size w w' := by
  have hdc := Lib.hid down_nil
  have hrd := Lib.hid (read_nil 0)
  go_enter Try.func58, Try.ntmps58
  go_wp2_with (first
    | (go_at_call 43; refine (hdc.out _).mono ?_; rintro e w2 ⟨rfl, rfl⟩)
    | (go_at_call 45; refine (hrd.out _).mono ?_; rintro e w2 ⟨rfl, rfl⟩))
  go_ret2
  exact ⟨none, 0, rfl, Below.refl _ _⟩
theorem find_nil (w : World) : Calls Try.prog 63 #[.pointer none] w fun e w' => e = .returned (.tuple #[.slice none 0 0, .int .u64 0, .int .i64 1]) ∧ Below w.heap.size w w' := by
  have h := run_nil (w.alloc (.cells #[.slice none 0 0] 83))
  rw [World.size_alloc] at h
  exact find_no _ 1 w h
theorem find_down (D b : Nat) (d : Dev) (w : World) (h : DevAt w D b d) (hdn : d.down = true) :
    Calls Try.prog 63 #[.pointer (some ⟨D, 0, none⟩)] w fun e w' => e = .returned (.tuple #[.slice none 0 0, .int .u64 0, .int .i64 11]) ∧ Below w.heap.size w w' := by
  have hd := h.later ((Below.refl _ w).alloc (Nat.le_refl _) (.cells #[.slice none 0 0] 83))
  have h := run_down D b d _ hd hdn
  rw [World.size_alloc] at h
  exact find_no _ 11 w h
end Go.Proofs.Ytdlbjllgdikadaa
