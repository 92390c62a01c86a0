/- From what the rows hand a walk to rows of blocks, of blocks at places. -/
import Derived.Test.YtdlbjllgdikadaaGrP
import Derived.Test.YtdlbjllgdikadaaScnD
namespace Go.Proofs.Ytdlbjllgdikadaa
open Go.ChangeShapes Go.WideShapes Go.ChangeAt Go.RowKit
set_option linter.unusedVariables false

theorem i64_lo {n : Int} (h : (Lit.int .i64 n).wf = true) : -9223372036854775808 ≤ n := by
  simp [Lit.wf, IntKind.min, IntKind.max, IntKind.signed, IntKind.bits] at h
  omega
theorem cells77 : Try.prog.cellsOf 77 = 7 := by kernel_rfl

set_option maxRecDepth 100000 in
/-- A block at a place that can be read. -/
theorem wr_of_trod {H : Type} {enc : TypeId × Value → H} {W : World} {fuel : Nat} {cs : List Value} {x : DataW H × List MemPlace} (h : DataW.trod enc Try.prog W 0 (fun _ => true) true fuel 77 cs = some x) :
    ∃ o : Wr, cs = o.cells.toList ∧ WrOk W o := by
  obtain ⟨xs, n, rfl, hx, hlen, hxl, hf⟩ := DataW.trod_struct Try.underlying77 h
  rw [cells77] at hlen
  have hg : ∀ i (hi : i < 3), ∃ y, xs[i]? = some y := fun i hi => ⟨xs[i]'(by rw [hxl]; exact hi), List.getElem?_eq_getElem (by rw [hxl]; exact hi)⟩
  match cs, hlen with
  | [c0, c1, c2, c3, c4, c5, c6], _ =>
    obtain ⟨y0, e0⟩ := hg 0 (by decide)
    obtain ⟨y1, e1⟩ := hg 1 (by decide)
    obtain ⟨y2, e2⟩ := hg 2 (by decide)
    have t0 : DataW.trod enc Try.prog W 0 (fun _ => true) true n 43 (([c0, c1, c2, c3, c4, c5, c6].drop 0).take (Try.prog.cellsOf 43)) = some y0 := (hf 0 _ rfl).trans e0
    rw [cells43] at t0
    have t1 : DataW.trod enc Try.prog W 0 (fun _ => true) true n 3 (([c0, c1, c2, c3, c4, c5, c6].drop 5).take (Try.prog.cellsOf 3)) = some y1 := (hf 1 _ rfl).trans e1
    rw [cells3] at t1
    have t2 : DataW.trod enc Try.prog W 0 (fun _ => true) true n 22 (([c0, c1, c2, c3, c4, c5, c6].drop 6).take (Try.prog.cellsOf 22)) = some y2 := (hf 2 _ rfl).trans e2
    rw [cells22] at t2
    simp only [List.drop_zero, List.drop_succ_cons, List.take_succ_cons, List.take_zero] at t0 t1 t2
    obtain ⟨B, ab, cb, hB, b1, b2, b3, b4, b5⟩ := blk_of_trod t0
    obtain ⟨n1, h1, _, w1⟩ := DataW.trod_int Try.underlying3 t1
    obtain ⟨a, l, cap, rfl, k1, k2, k3, k4⟩ := bytes_of_trod t2
    simp only [List.cons.injEq, and_true] at h1
    subst h1
    refine ⟨⟨B, ab, cb, n1, l, a, cap⟩, ?_, ⟨b1, by show B.body.length ≤ 9223372036854775807; unfold maxLen at b3; omega⟩, b2, fun e => by obtain ⟨z1, z2⟩ := b4 e; exact ⟨by rw [z1]; rfl, z2⟩, b5, k1, fun e => by obtain ⟨z1, z2⟩ := k3 e; exact ⟨by rw [z1]; rfl, z2⟩, k4, i64_lo w1, i64_of w1⟩
    simp only [Blk.cells] at hB
    simp only [Wr.cells]
    simp only [List.cons.injEq] at hB
    obtain ⟨z0, z1, z2, z3, z4, _⟩ := hB
    rw [z0, z1, z2, z3, z4]

/-- A row of them that can be read. -/
theorem wrs_of_trod {H : Type} {enc : TypeId × Value → H} {W : World} {fuel : Nat} {c : Value} {x : DataW H × List MemPlace} (h : DataW.trod enc Try.prog W 0 (fun _ => true) true fuel 75 [c] = some x) :
    ∃ (a : Option Addr) (l : List Wr) (cap : Nat), c = .slice a l.length cap ∧ IsWs W a l ∧ l.length ≤ cap := by
  obtain ⟨a, len, cap, n, hc, hle, _, _, hel⟩ := slice_of_trod Try.underlying75 (by rw [cells77]; decide) h
  rw [cells77] at hel
  have hex : ∀ i : Nat, ∃ o : Wr, i < len → ∃ b off, a = some ⟨b, off, none⟩ ∧ (∀ q u, o.cells[q]? = some u → W.cell? ⟨b, off + 7 * i + q, none⟩ = some u) ∧ WrOk W o := by
    intro i
    by_cases hi : i < len
    · obtain ⟨b, off, cs, y, ha, hcl, ht, hq⟩ := hel i hi
      obtain ⟨o, ho, hok⟩ := wr_of_trod ht
      refine ⟨o, fun _ => ⟨b, off, ha, fun q u hu => ?_, hok⟩⟩
      have hq4 : q < 7 := (Array.getElem?_eq_some_iff.1 hu).1
      have := hq q hq4
      rw [Nat.mul_comm, ho, Array.getElem?_toList, hu] at this
      exact this
    · exact ⟨⟨noneB, none, 0, 0, [], none, 0⟩, fun h => absurd h hi⟩
  refine ⟨a, (List.range len).map (fun i => Classical.choose (hex i)), cap, by rw [List.length_map, List.length_range]; exact hc, ?_, by rw [List.length_map, List.length_range]; exact hle⟩
  intro k hk
  rw [List.length_map, List.length_range] at hk
  rw [List.getElem_map, List.getElem_range]
  obtain ⟨b, off, ha, h1, h2⟩ := Classical.choose_spec (hex k) hk
  exact ⟨b, off, ha, h1, h2⟩

/-- A row of blocks that can be read. -/
theorem blks_of_trod {H : Type} {enc : TypeId × Value → H} {W : World} {fuel : Nat} {c : Value} {x : DataW H × List MemPlace} (h : DataW.trod enc Try.prog W 0 (fun _ => true) true fuel 32 [c] = some x) :
    ∃ (a : Option Addr) (l : List Blk) (cap : Nat), c = .slice a l.length cap ∧ IsBs W a l ∧ l.length ≤ cap ∧ cap ≤ maxLen ∧ ∀ b ∈ l, b.serial < 18446744073709551616 ∧ b.body.length ≤ 9223372036854775807 := by
  obtain ⟨a, len, cap, n, hc, hle, hmx, _, hel⟩ := slice_of_trod Try.underlying32 (by rw [cells43]; decide) h
  rw [cells43] at hel
  have hex : ∀ i : Nat, ∃ o : Blk, i < len → (∃ b off ab cb, a = some ⟨b, off, none⟩ ∧ (∀ q u, (o.cells ab cb)[q]? = some u → W.cell? ⟨b, off + 5 * i + q, none⟩ = some u) ∧ IsBytes W ab o.body ∧ o.body.length ≤ cb ∧ (ab = none → o.body = [] ∧ cb = 0)) ∧ o.serial < 18446744073709551616 ∧ o.body.length ≤ 9223372036854775807 := by
    intro i
    by_cases hi : i < len
    · obtain ⟨b, off, cs, y, ha, hcl, ht, hq⟩ := hel i hi
      obtain ⟨o, ab, cb, ho, b1, b2, b3, b4, b5⟩ := blk_of_trod ht
      refine ⟨o, fun _ => ⟨⟨b, off, ab, cb, ha, fun q u hu => ?_, b5, b2, b4⟩, b1, by unfold maxLen at b3; omega⟩⟩
      have hq4 : q < 5 := (Array.getElem?_eq_some_iff.1 hu).1
      have := hq q hq4
      rw [Nat.mul_comm, ho, Array.getElem?_toList, hu] at this
      exact this
    · exact ⟨noneB, fun h => absurd h hi⟩
  refine ⟨a, (List.range len).map (fun i => Classical.choose (hex i)), cap, by rw [List.length_map, List.length_range]; exact hc, ?_, by rw [List.length_map, List.length_range]; exact hle, hmx, ?_⟩
  · intro k hk
    rw [List.length_map, List.length_range] at hk
    rw [List.getElem_map, List.getElem_range]
    exact (Classical.choose_spec (hex k) hk).1
  · intro o ho
    obtain ⟨k, hk, rfl⟩ := List.mem_map.1 ho
    exact (Classical.choose_spec (hex k) (List.mem_range.1 hk)).2
end Go.Proofs.Ytdlbjllgdikadaa
