/- THE STATEMENT ScanTornSaid, proved: for every input varvelaw21.ScanTorn returns true, and each argument reads behind the call as it read before. No condition. (The frame follows the kit's proof-skeleton; the walk is this claim's own.) -/
import Derived.Test.YtdlbjllgdikadaaOpenD
import Derived.Test.YtdlbjllgdikadaaTornB
namespace Go.Proofs.Ytdlbjllgdikadaa
open Go.ChangeShapes Go.WideShapes Go.ChangeAt Go.RowKit
open Go.ChangeMaps (open_string shut_string)
set_option linter.unusedVariables false

theorem u16_of {n : Int} (h : (Lit.int .u16 n).wf = true) : ∃ x : Nat, n = (x : Int) ∧ x < 65536 := by
  simp [Lit.wf, IntKind.min, IntKind.max, IntKind.signed, IntKind.bits] at h
  obtain ⟨x, rfl⟩ := Int.eq_ofNat_of_zero_le h.1
  exact ⟨x, rfl, by omega⟩

/-- A row of slices of bytes that can be read. -/
theorem sls_of_trod {H : Type} {enc : TypeId × Value → H} {W : World} {fuel : Nat} {c : Value} {x : DataW H × List MemPlace} (h : DataW.trod enc Try.prog W 0 (fun _ => true) true fuel 93 [c] = some x) :
    ∃ (a : Option Addr) (l : List Sl) (cap : Nat), c = .slice a l.length cap ∧ IsSs W a l := by
  obtain ⟨a, len, cap, n, hc, hle, _, _, hel⟩ := slice_of_trod Try.underlying93 (by rw [cells22]; decide) h
  rw [cells22] at hel
  have hex : ∀ i : Nat, ∃ o : Sl, i < len → ∃ b off, a = some ⟨b, off, none⟩ ∧ W.cell? ⟨b, off + i, none⟩ = some (.slice o.a o.l.length o.c) ∧ SlOk W o := by
    intro i
    by_cases hi : i < len
    · obtain ⟨b, off, cs, y, ha, hcl, ht, hq⟩ := hel i hi
      match cs, hcl with
      | [c0], _ =>
        obtain ⟨a1, l1, cap1, rfl, k1, k2, k3, k4⟩ := bytes_of_trod ht
        refine ⟨⟨l1, a1, cap1⟩, fun _ => ⟨b, off, ha, ?_, k4, k1, fun e => by obtain ⟨z1, z2⟩ := k3 e; exact ⟨by show l1.length = 0; rw [z1]; rfl, z2⟩⟩⟩
        have := hq 0 (by decide)
        simpa using this
    · exact ⟨⟨[], none, 0⟩, fun h => absurd h hi⟩
  refine ⟨a, (List.range len).map (fun i => Classical.choose (hex i)), cap, by rw [List.length_map, List.length_range]; exact hc, ?_⟩
  intro k hk
  rw [List.length_map, List.length_range] at hk
  rw [List.getElem_map, List.getElem_range]
  obtain ⟨b, off, ha, h1, h2⟩ := Classical.choose_spec (hex k) hk
  exact ⟨b, off, ha, h1, h2⟩

set_option maxRecDepth 100000 in
theorem scanTorn_lifted (os : Os) (started : os.Started) (H : Type) (enc : TypeId × Value → H) :
    ReturnsInHanded {} Try.checked os 12 .any (Rows.scanTornSpec.pre6 enc Try.prog Try.f12 Rows.scanTornRow.domain false) (Rows.scanTornSpec.post enc Try.prog Try.f12 false true false false) := by
  refine returnsInHanded_of_change (C := Try.checked) own started (by kernel_rfl) Try.func12
    (ChangeSpec.witness6 (enc := enc) (C := Try.checked) false ⟨#[], #[.int .u64 0, .slice none 0 0, .int .u16 0, .int .i64 0, .int .i64 0], []⟩ 8 (by kernel_rfl) (by kernel_rfl) (by kernel_rfl) (by kernel_rfl)) ?_
  intro W base args ds gs before hval0 hW hcnd _
  have hval : ∀ (j : Nat) t v, Try.f12.params[j]? = some t → args[j]? = some v → Value.okWide Try.prog W .any base t v := hval0
  have hW' := hW
  obtain ⟨p, q, hA0, hV, rfl, hfz, hnd⟩ := hW
  have hA : DataW.TrodAll enc Try.prog W 0 (fun _ => true) true Try.f12.params.toList args.toList ds p := hA0
  rw [Try.params12] at hA hval
  obtain ⟨v0, vs0, d0, ds0, p0, q0, hargs, rfl, rfl, h0, r0⟩ := trodAll_cons hA
  obtain ⟨v1, vs1, d1, ds1, p1, q1, rfl, rfl, rfl, h1, r1⟩ := trodAll_cons r0
  obtain ⟨v2, vs2, d2, ds2, p2, q2, rfl, rfl, rfl, h2, r2⟩ := trodAll_cons r1
  obtain ⟨v3, vs3, d3, ds3, p3, q3, rfl, rfl, rfl, h3, r3⟩ := trodAll_cons r2
  obtain ⟨v4, vs4, d4, ds4, p4, q4, rfl, rfl, rfl, h4, r4⟩ := trodAll_cons r3
  obtain ⟨rfl, rfl, rfl⟩ := trodAll_nil r4
  obtain rfl : args = #[v0, v1, v2, v3, v4] := by cases args; simp_all
  obtain ⟨rfl, rfl⟩ := trodVars_none hV
  obtain ⟨a0, rfl, rfl, rfl, w0⟩ := open_int Try.underlying24 (hval 0 24 v0 rfl rfl) h0
  obtain ⟨a1, len1, cap1, rfl⟩ := okWide_slice Try.underlying93 (hval 1 93 v1 rfl rfl)
  obtain ⟨a2, rfl, rfl, rfl, w2⟩ := open_int Try.underlying94 (hval 2 94 v2 rfl rfl) h2
  obtain ⟨a3, rfl, rfl, rfl, w3⟩ := open_int Try.underlying3 (hval 3 3 v3 rfl rfl) h3
  obtain ⟨a4, rfl, rfl, rfl, w4⟩ := open_int Try.underlying3 (hval 4 3 v4 rfl rfl) h4
  have k1 := h1
  have lt1 : ∀ x ∈ p1, x.block < W.heap.size := by obtain ⟨m, hm⟩ := k1; exact DataW.trod_lt m _ _ _ hm
  obtain ⟨b2, l2, cap2, e2, y2⟩ : ∃ (b2 : Option Addr) (l2 : List Sl) (cap2 : Nat), Value.slice a1 len1 cap1 = .slice b2 l2.length cap2 ∧ IsSs W b2 l2 := by
    obtain ⟨fuel, hf⟩ := h1
    exact sls_of_trod hf
  cases e2
  obtain ⟨s, rfl, hs⟩ := u64_of w0
  obtain ⟨ck, rfl, hck⟩ := u16_of w2
  clear hA0 hval0
  refine (torn_walk s l2 a1 cap1 ck a3 a4 W hs hck (i64_of w3) y2).mono fun e W' ⟨he, bel⟩ => ?_
  subst he
  exact ⟨_, rfl, _, _, _, [], _, [], hW', trodAll_mk1 (shut_bool Try.underlying4 _), (trodAll_cons_mk (shut_int Try.underlying24 w0) (trodAll_cons_mk (Below.trod laidOut (by kernel_rfl) (of_decide_eq_true (by kernel_rfl)) k1 bel lt1) (trodAll_cons_mk (shut_int Try.underlying94 w2) (trodAll_cons_mk (shut_int Try.underlying3 w3) (trodAll_cons_mk (shut_int Try.underlying3 w4) trodAll_mk0))))), rfl, bel.frame _, fun h => by cases h⟩

theorem scanTorn_over : Rows.scanTornRow.holds Try.pinned (OpenSpec.ofChange Rows.scanTornSpec) :=
  OpenClaim.holds_of_wide 12 Try.f12 rfl rfl rfl rfl rfl rfl rfl ⟨rfl, rfl, rfl, rfl, rfl⟩ rfl rfl rfl rfl rfl (by kernel_rfl) Try.func12 (by kernel_rfl)
    (of_decide_eq_true (by kernel_rfl)) (by unfold Func.isWrapper; first | (rw [if_pos (by decide +kernel)]; kernel_rfl) | (rw [if_neg (by decide +kernel)]; exact ⟨rfl, rfl⟩))
    (fun os started H enc _ => scanTorn_lifted os started H enc)

/-- ████ THE STATEMENT ████ -/
theorem scanTorn_proved : Rows.ScanTornSaid := scanTorn_over
#print axioms scanTorn_proved
end Go.Proofs.Ytdlbjllgdikadaa
