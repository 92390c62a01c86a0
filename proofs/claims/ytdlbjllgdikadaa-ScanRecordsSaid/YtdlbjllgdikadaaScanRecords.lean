/- THE STATEMENT ScanRecordsSaid, proved: for every input varvelaw21.ScanRecords returns true, and each argument reads behind the call as it read before. No condition. (The frame follows the kit's proof-skeleton; the walk is this claim's own.) -/
import Derived.Test.YtdlbjllgdikadaaOpenD
import Derived.Test.YtdlbjllgdikadaaRecordsA
import Derived.SizedLaws
namespace Go.Proofs.Ytdlbjllgdikadaa
open Go.ChangeShapes Go.WideShapes Go.ChangeAt Go.RowKit
open Go.ChangeMaps (open_string shut_string)
set_option linter.unusedVariables false

theorem bytes43 : Try.prog.bytesOf 43 = 40 := by kernel_rfl
set_option maxRecDepth 100000 in
theorem scanRecords_lifted (os : Os) (started : os.Started) (H : Type) (enc : TypeId × Value → H) :
    ReturnsInHanded {} Try.checked os 11 .any (Rows.scanRecordsSpec.pre6 enc Try.prog Try.f11 Rows.scanRecordsRow.domain false) (Rows.scanRecordsSpec.post enc Try.prog Try.f11 false true false false) := by
  refine returnsInHanded_of_change_sized (C := Try.checked) own started (by kernel_rfl) Try.func11
    (ChangeSpec.witness6 (enc := enc) (C := Try.checked) false ⟨#[], #[.slice none 0 0], []⟩ 8 (by kernel_rfl) (by kernel_rfl) (by kernel_rfl) (by kernel_rfl)) ?_
  intro W base args ds gs before hval0 hW hcnd hz _
  have hval : ∀ (j : Nat) t v, Try.f11.params[j]? = some t → args[j]? = some v → Value.okWide Try.prog W .any base t v := hval0
  have hW' := hW
  obtain ⟨p, q, hA0, hV, rfl, hfz, hnd⟩ := hW
  have hA : DataW.TrodAll enc Try.prog W 0 (fun _ => true) true Try.f11.params.toList args.toList ds p := hA0
  have hsz : (DataW.weightsEach Try.prog (Try.f11.params.toList ++ Rows.scanRecordsSpec.plain.varTypes Try.prog) (ds ++ gs)).all (· ≤ reachBytes) = true := hz
  clear hz
  rw [Try.params11] at hA hval hsz
  obtain ⟨v1, vs1, d1, ds1, p1, q1, hargs, rfl, rfl, h1, r1⟩ := trodAll_cons hA
  obtain ⟨rfl, rfl, rfl⟩ := trodAll_nil r1
  obtain rfl : args = #[v1] := by cases args; simp_all
  obtain ⟨rfl, rfl⟩ := trodVars_none hV
  obtain ⟨a1, len1, cap1, rfl⟩ := okWide_slice Try.underlying32 (hval 0 32 v1 rfl rfl)
  have k1 := h1
  have lt1 : ∀ x ∈ p1, x.block < W.heap.size := by obtain ⟨m, hm⟩ := k1; exact DataW.trod_lt m _ _ _ hm
  have hb1 : len1 * 40 ≤ 140737488351232 := by
    obtain ⟨fuel, hf⟩ := k1
    rcases DataW.trod_slice Try.underlying32 hf with ⟨e0, _⟩ | ⟨ad, len, cap, elems, rest, m, _, e0, e1, _, _, _, e2, _⟩
    · have e0' : [Value.slice a1 len1 cap1] = [Value.slice none 0 0] := e0
      injection e0' with e3 _
      injection e3 with q1 q2 q3
      omega
    · have e0' : [Value.slice a1 len1 cap1] = [Value.slice (some ad) len cap] := e0
      injection e0' with e3 _
      injection e3 with q1 q2 q3
      have hd : d1 = .slice (elems.map (·.1)) (rest.map (·.1)) := by injection e1
      have := sized_slice hsz (j := 0) (t := 32) (e := 43) rfl (by rw [hd]; rfl) Try.underlying32
      rw [bytes43] at this
      rw [List.length_map, List.length_map, e2] at this
      have hr : reachBytes = 140737488351232 := by decide
      rw [hr] at this
      have : (len + rest.length) * 40 = len * 40 + rest.length * 40 := Nat.add_mul _ _ _
      omega
  obtain ⟨a2, l2, cap2, e2, y2, _, _, z2⟩ : ∃ (a2 : Option Addr) (l2 : List Blk) (cap2 : Nat), Value.slice a1 len1 cap1 = .slice a2 l2.length cap2 ∧ IsBs W a2 l2 ∧ l2.length ≤ cap2 ∧ cap2 ≤ maxLen ∧ ∀ b ∈ l2, b.serial < 18446744073709551616 ∧ b.body.length ≤ 9223372036854775807 := by
    obtain ⟨fuel, hf⟩ := h1
    exact blks_of_trod hf
  cases e2
  clear hA0 hval0
  refine (records_walk l2 a1 cap1 W y2 z2 (by omega)).mono fun e W' ⟨he, bel⟩ => ?_
  subst he
  exact ⟨_, rfl, _, _, _, [], _, [], hW', trodAll_mk1 (shut_bool Try.underlying4 _), (trodAll_cons_mk (Below.trod laidOut (by kernel_rfl) (of_decide_eq_true (by kernel_rfl)) k1 bel lt1) trodAll_mk0), rfl, bel.frame _, fun h => by cases h⟩

theorem scanRecords_over : Rows.scanRecordsRow.holds Try.pinned (OpenSpec.ofChange Rows.scanRecordsSpec) :=
  OpenClaim.holds_of_wide 11 Try.f11 rfl rfl rfl rfl rfl rfl rfl ⟨rfl, rfl, rfl, rfl, rfl⟩ rfl rfl rfl rfl rfl (by kernel_rfl) Try.func11 (by kernel_rfl)
    (of_decide_eq_true (by kernel_rfl)) (by unfold Func.isWrapper; first | (rw [if_pos (by decide +kernel)]; kernel_rfl) | (rw [if_neg (by decide +kernel)]; exact ⟨rfl, rfl⟩))
    (fun os started H enc _ => scanRecords_lifted os started H enc)

/-- ████ THE STATEMENT ████ -/
theorem scanRecords_proved : Rows.ScanRecordsSaid := scanRecords_over
#print axioms scanRecords_proved
end Go.Proofs.Ytdlbjllgdikadaa
