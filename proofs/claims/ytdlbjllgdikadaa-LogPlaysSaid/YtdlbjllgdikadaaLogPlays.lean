/- THE STATEMENT LogPlaysSaid, proved: for every input varvelaw22.LogPlays returns true, and each argument reads behind the call as it read before. No condition. (The frame follows the kit's proof-skeleton; the walk is this claim's own.) -/
import Derived.Test.YtdlbjllgdikadaaGrP
import Derived.Test.YtdlbjllgdikadaaLogZ
namespace Go.Proofs.Ytdlbjllgdikadaa
open Go.ChangeShapes Go.WideShapes Go.ChangeAt Go.RowKit
open Go.ChangeMaps (open_string shut_string)
set_option linter.unusedVariables false

set_option maxRecDepth 100000 in
theorem logPlays_walk (n : Int) (a : Option Addr) (l : List POp) (cap : Nat) (w : World) (hlen : l.length ≤ 9223372036854775807) (hops : IsOps w a l) :
    Calls Try.prog 14 #[.int .i64 n, .slice a l.length cap] w fun e w' => e = .returned (.bool true) ∧ Below w.heap.size w w' := by
  have hkn := Lib.hid known76_calls
  by_cases h1 : n < 16
  · go_enter Try.func14, Try.ntmps14
    go_wp2_with (go_at_call 76; refine (hkn.out _).mono ?_; rintro e w1 ⟨rfl, hB1⟩)
    go_ret
    exact ⟨rfl, hB1⟩
  · by_cases h2 : 40 < n
    · go_enter Try.func14, Try.ntmps14
      go_wp2_with (go_at_call 76; refine (hkn.out _).mono ?_; rintro e w1 ⟨rfl, hB1⟩)
      go_ret
      exact ⟨rfl, hB1⟩
    · cases hg : greatB l with
      | true =>
        have hgr := great_calls a l cap w hops hlen
        rw [hg] at hgr
        have Hgr := Lib.hid hgr
        clear hgr hg
        go_enter Try.func14, Try.ntmps14
        go_wp2_with (first
          | (go_at_call 77; refine Hgr.out.mono ?_; rintro e w1 ⟨rfl, rfl⟩)
          | (go_at_call 76; refine (hkn.out _).mono ?_; rintro e w1 ⟨rfl, hB1⟩))
        go_ret
        exact ⟨rfl, hB1⟩
      | false =>
        obtain ⟨m, rfl⟩ := Int.eq_ofNat_of_zero_le (show 0 ≤ n by omega)
        unfold greatB at hg
        rw [Bool.or_eq_false_iff] at hg
        have h60 := of_decide_eq_false hg.2
        refine logPlays_good m a l cap w (by omega) (by omega) (by omega) (fun o ho => ?_) hops
        have z := List.any_eq_false.1 hg.1 o ho
        rw [decide_eq_true_iff] at z
        omega

theorem cells114 : Try.prog.cellsOf 114 = 4 := by kernel_rfl
set_option maxRecDepth 100000 in
theorem opL_of_trod {H : Type} {enc : TypeId × Value → H} {W : World} {fuel : Nat} {cs : List Value} {x : DataW H × List MemPlace} (h : DataW.trod enc Try.prog W 0 (fun _ => true) true fuel 114 cs = some x) :
    ∃ o : POp, cs = o.cells.toList ∧ OpOk W o := by
  obtain ⟨xs, n, rfl, hx, hlen, hxl, hf⟩ := DataW.trod_struct Try.underlying114 h
  rw [cells114] at hlen
  have hg : ∀ i (hi : i < 4), ∃ y, xs[i]? = some y := fun i hi => ⟨xs[i]'(by rw [hxl]; exact hi), List.getElem?_eq_getElem (by rw [hxl]; exact hi)⟩
  match cs, hlen with
  | [c0, c1, c2, c3], _ =>
    obtain ⟨y0, e0⟩ := hg 0 (by decide)
    obtain ⟨y1, e1⟩ := hg 1 (by decide)
    obtain ⟨y2, e2⟩ := hg 2 (by decide)
    obtain ⟨y3, e3⟩ := hg 3 (by decide)
    have t0 : DataW.trod enc Try.prog W 0 (fun _ => true) true n 3 (([c0, c1, c2, c3].drop 0).take (Try.prog.cellsOf 3)) = some y0 := (hf 0 _ rfl).trans e0
    rw [cells3] at t0
    have t1 : DataW.trod enc Try.prog W 0 (fun _ => true) true n 3 (([c0, c1, c2, c3].drop 1).take (Try.prog.cellsOf 3)) = some y1 := (hf 1 _ rfl).trans e1
    rw [cells3] at t1
    have t2 : DataW.trod enc Try.prog W 0 (fun _ => true) true n 3 (([c0, c1, c2, c3].drop 2).take (Try.prog.cellsOf 3)) = some y2 := (hf 2 _ rfl).trans e2
    rw [cells3] at t2
    have t3 : DataW.trod enc Try.prog W 0 (fun _ => true) true n 22 (([c0, c1, c2, c3].drop 3).take (Try.prog.cellsOf 22)) = some y3 := (hf 3 _ rfl).trans e3
    rw [cells22] at t3
    simp only [List.drop_zero, List.drop_succ_cons, List.take_succ_cons, List.take_zero] at t0 t1 t2 t3
    obtain ⟨n0, h0, _, _⟩ := DataW.trod_int Try.underlying3 t0
    obtain ⟨n1, h1, _, w1⟩ := DataW.trod_int Try.underlying3 t1
    obtain ⟨n2, h2, _, _⟩ := DataW.trod_int Try.underlying3 t2
    obtain ⟨a, l, cap, rfl, k1, k2, k3, k4⟩ := bytes_of_trod t3
    simp only [List.cons.injEq, and_true] at h0 h1 h2
    subst h0 h1 h2
    exact ⟨⟨n0, n1, n2, a, l, cap⟩, rfl, k4, k1, i64_of w1, fun e => by obtain ⟨z1, z2⟩ := k3 e; exact ⟨by rw [z1]; rfl, z2⟩⟩

theorem opsL_of_trod {H : Type} {enc : TypeId × Value → H} {W : World} {fuel : Nat} {c : Value} {x : DataW H × List MemPlace} (h : DataW.trod enc Try.prog W 0 (fun _ => true) true fuel 109 [c] = some x) :
    ∃ (a : Option Addr) (l : List POp) (cap : Nat), c = .slice a l.length cap ∧ IsOps W a l ∧ l.length ≤ 9223372036854775807 := by
  obtain ⟨a, len, cap, n, hc, hlc, hcm, _, hel⟩ := slice_of_trod Try.underlying109 (by rw [cells114]; decide) h
  rw [cells114] at hel
  have hex : ∀ i : Nat, ∃ o : POp, i < len → ∃ b off, a = some ⟨b, off, none⟩ ∧ (∀ q u, o.cells[q]? = some u → W.cell? ⟨b, off + 4 * i + q, none⟩ = some u) ∧ OpOk W o := by
    intro i
    by_cases hi : i < len
    · obtain ⟨b, off, cs, y, ha, hcl, ht, hq⟩ := hel i hi
      obtain ⟨o, ho, hok⟩ := opL_of_trod ht
      refine ⟨o, fun _ => ⟨b, off, ha, fun q u hu => ?_, hok⟩⟩
      have hq4 : q < 4 := (Array.getElem?_eq_some_iff.1 hu).1
      have := hq q hq4
      rw [Nat.mul_comm, ho, Array.getElem?_toList, hu] at this
      exact this
    · exact ⟨⟨0, 0, 0, none, [], 0⟩, fun h => absurd h hi⟩
  refine ⟨a, (List.range len).map (fun i => Classical.choose (hex i)), cap, by rw [List.length_map, List.length_range]; exact hc, ?_, by rw [List.length_map, List.length_range]; unfold maxLen at hcm; omega⟩
  intro k hk
  rw [List.length_map, List.length_range] at hk
  rw [List.getElem_map, List.getElem_range]
  obtain ⟨b, off, ha, h1, h2, h3, h4, h5⟩ := Classical.choose_spec (hex k) hk
  exact ⟨b, off, ha, h1, h2, h3, h4, h5⟩

set_option maxRecDepth 100000 in
theorem logPlays_lifted (os : Os) (started : os.Started) (H : Type) (enc : TypeId × Value → H) :
    ReturnsInHanded {} Try.checked os 14 .any (Rows.logPlaysSpec.pre6 enc Try.prog Try.f14 Rows.logPlaysRow.domain false) (Rows.logPlaysSpec.post enc Try.prog Try.f14 false true false false) := by
  refine returnsInHanded_of_change (C := Try.checked) own started (by kernel_rfl) Try.func14
    (ChangeSpec.witness6 (enc := enc) (C := Try.checked) false ⟨#[], #[.int .i64 0, .slice none 0 0], []⟩ 8 (by kernel_rfl) (by kernel_rfl) (by kernel_rfl) (by kernel_rfl)) ?_
  intro W base args ds gs before hval0 hW hcnd _
  have hval : ∀ (j : Nat) t v, Try.f14.params[j]? = some t → args[j]? = some v → Value.okWide Try.prog W .any base t v := hval0
  have hW' := hW
  obtain ⟨p, q, hA0, hV, rfl, hfz, hnd⟩ := hW
  have hA : DataW.TrodAll enc Try.prog W 0 (fun _ => true) true Try.f14.params.toList args.toList ds p := hA0
  rw [Try.params14] at hA hval
  obtain ⟨v0, vs0, d0, ds0, p0, q0, hargs, rfl, rfl, h0, r0⟩ := trodAll_cons hA
  obtain ⟨v1, vs1, d1, ds1, p1, q1, rfl, rfl, rfl, h1, r1⟩ := trodAll_cons r0
  obtain ⟨rfl, rfl, rfl⟩ := trodAll_nil r1
  obtain rfl : args = #[v0, v1] := by cases args; simp_all
  obtain ⟨rfl, rfl⟩ := trodVars_none hV
  obtain ⟨a0, rfl, rfl, rfl, w0⟩ := open_int Try.underlying3 (hval 0 3 v0 rfl rfl) h0
  obtain ⟨a1, len1, cap1, rfl⟩ := okWide_slice Try.underlying109 (hval 1 109 v1 rfl rfl)
  have k1 := h1
  have lt1 : ∀ x ∈ p1, x.block < W.heap.size := by obtain ⟨m, hm⟩ := k1; exact DataW.trod_lt m _ _ _ hm
  obtain ⟨a2, l2, cap2, e2, y2, y3⟩ : ∃ (a2 : Option Addr) (l2 : List POp) (cap2 : Nat), Value.slice a1 len1 cap1 = .slice a2 l2.length cap2 ∧ IsOps W a2 l2 ∧ l2.length ≤ 9223372036854775807 := by
    obtain ⟨fuel, hf⟩ := h1
    exact opsL_of_trod hf
  cases e2
  clear hA0 hval0
  refine (logPlays_walk a0 a1 l2 cap1 W y3 y2).mono fun e W' ⟨he, bel⟩ => ?_
  subst he
  exact ⟨_, rfl, _, _, _, [], _, [], hW', trodAll_mk1 (shut_bool Try.underlying4 _), (trodAll_cons_mk (shut_int Try.underlying3 w0) (trodAll_cons_mk (Below.trod laidOut (by kernel_rfl) (of_decide_eq_true (by kernel_rfl)) k1 bel lt1) trodAll_mk0)), rfl, bel.frame _, fun h => by cases h⟩

theorem logPlays_over : Rows.logPlaysRow.holds Try.pinned (OpenSpec.ofChange Rows.logPlaysSpec) :=
  OpenClaim.holds_of_wide 14 Try.f14 rfl rfl rfl rfl rfl rfl rfl ⟨rfl, rfl, rfl, rfl, rfl⟩ rfl rfl rfl rfl rfl (by kernel_rfl) Try.func14 (by kernel_rfl)
    (of_decide_eq_true (by kernel_rfl)) (by unfold Func.isWrapper; first | (rw [if_pos (by decide +kernel)]; kernel_rfl) | (rw [if_neg (by decide +kernel)]; exact ⟨rfl, rfl⟩))
    (fun os started H enc _ => logPlays_lifted os started H enc)

/-- ████ THE STATEMENT ████ -/
theorem logPlays_proved : Rows.LogPlaysSaid := logPlays_over
#print axioms logPlays_proved
end Go.Proofs.Ytdlbjllgdikadaa
