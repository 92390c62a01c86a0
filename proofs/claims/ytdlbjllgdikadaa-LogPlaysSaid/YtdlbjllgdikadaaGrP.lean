/- From what the rows hand a walk to what the walks say of blocks. From what the rows hand a walk to what the walks say of rows of structs. -/
import Derived.Test.YtdlbjllgdikadaaGrD
import Derived.Test.YtdlbjllgdikadaaGrF
import Derived.Test.YtdlbjllgdikadaaGrO
namespace Go.Proofs.Ytdlbjllgdikadaa
open Go.ChangeShapes Go.WideShapes Go.ChangeAt Go.RowKit

theorem cells43 : Try.prog.cellsOf 43 = 5 := by kernel_rfl
theorem cells24 : Try.prog.cellsOf 24 = 1 := by kernel_rfl
theorem cells5 : Try.prog.cellsOf 5 = 1 := by kernel_rfl
theorem cells4 : Try.prog.cellsOf 4 = 1 := by kernel_rfl
theorem cells22 : Try.prog.cellsOf 22 = 1 := by kernel_rfl

/-- A slice of bytes that can be read. -/
theorem bytes_of_trod {H : Type} {enc : TypeId × Value → H} {W : World} {fuel : Nat} {c : Value} {x : DataW H × List MemPlace} (h : DataW.trod enc Try.prog W 0 (fun _ => true) true fuel 22 [c] = some x) :
    ∃ (a : Option Addr) (l : List UInt8) (cap : Nat), c = .slice a l.length cap ∧ l.length ≤ cap ∧ cap ≤ maxLen ∧ (a = none → l = [] ∧ cap = 0) ∧ IsBytes W a l := by
  obtain ⟨a, len, cap, zs, hc, hr⟩ : ∃ a len cap zs, c = .slice a len cap ∧ IsRow .u8 W a len cap zs := by
    rcases open_ints Try.underlying22 Try.underlying5 (by kernel_rfl) h with ⟨hcs, _⟩ | ⟨x, l, c', zs, hcs, _, hl, hm, hz, _, hcell, hwz⟩
    · simp at hcs
      exact ⟨none, 0, 0, [], hcs, .inl ⟨rfl, rfl, rfl, rfl⟩⟩
    · simp at hcs
      exact ⟨some x, l, c', zs, hcs, .inr ⟨_, rfl, hl, hm, by simpa using hz, hcell, hwz⟩⟩
  obtain ⟨l, rfl, h1, h2, h3, h4⟩ := bytes_of_row hr
  exact ⟨a, l, cap, hc, h1, h2, h3, h4⟩

def BlkOk (W : World) (B : Blk) (a : Option Addr) (cap : Nat) : Prop :=
  B.serial < 18446744073709551616 ∧ B.body.length ≤ cap ∧ cap ≤ maxLen ∧ (a = none → B.body = [] ∧ cap = 0) ∧ IsBytes W a B.body

set_option maxRecDepth 100000 in
/-- A block that can be read. -/
theorem blk_of_trod {H : Type} {enc : TypeId × Value → H} {W : World} {fuel : Nat} {cs : List Value} {x : DataW H × List MemPlace} (h : DataW.trod enc Try.prog W 0 (fun _ => true) true fuel 43 cs = some x) :
    ∃ (B : Blk) (a : Option Addr) (cap : Nat), cs = (B.cells a cap).toList ∧ BlkOk W B a cap := by
  obtain ⟨xs, n, rfl, hx, hlen, hxl, hf⟩ := DataW.trod_struct Try.underlying43 h
  rw [cells43] at hlen
  have hg : ∀ i (hi : i < 5), ∃ y, xs[i]? = some y := fun i hi => ⟨xs[i]'(by rw [hxl]; exact hi), List.getElem?_eq_getElem (by rw [hxl]; exact hi)⟩
  match cs, hlen with
  | [c0, c1, c2, c3, c4], _ =>
    obtain ⟨y0, e0⟩ := hg 0 (by decide)
    obtain ⟨y1, e1⟩ := hg 1 (by decide)
    obtain ⟨y2, e2⟩ := hg 2 (by decide)
    obtain ⟨y3, e3⟩ := hg 3 (by decide)
    obtain ⟨y4, e4⟩ := hg 4 (by decide)
    have t0 : DataW.trod enc Try.prog W 0 (fun _ => true) true n 24 (([c0, c1, c2, c3, c4].drop 0).take (Try.prog.cellsOf 24)) = some y0 := (hf 0 _ rfl).trans e0
    rw [cells24] at t0
    have t1 : DataW.trod enc Try.prog W 0 (fun _ => true) true n 5 (([c0, c1, c2, c3, c4].drop 1).take (Try.prog.cellsOf 5)) = some y1 := (hf 1 _ rfl).trans e1
    rw [cells5] at t1
    have t2 : DataW.trod enc Try.prog W 0 (fun _ => true) true n 4 (([c0, c1, c2, c3, c4].drop 2).take (Try.prog.cellsOf 4)) = some y2 := (hf 2 _ rfl).trans e2
    rw [cells4] at t2
    have t3 : DataW.trod enc Try.prog W 0 (fun _ => true) true n 4 (([c0, c1, c2, c3, c4].drop 3).take (Try.prog.cellsOf 4)) = some y3 := (hf 3 _ rfl).trans e3
    rw [cells4] at t3
    have t4 : DataW.trod enc Try.prog W 0 (fun _ => true) true n 22 (([c0, c1, c2, c3, c4].drop 4).take (Try.prog.cellsOf 22)) = some y4 := (hf 4 _ rfl).trans e4
    rw [cells22] at t4
    simp only [List.drop_zero, List.drop_succ_cons, List.take_succ_cons, List.take_zero] at t0 t1 t2 t3 t4
    obtain ⟨n0, h0, _, w0⟩ := DataW.trod_int Try.underlying24 t0
    obtain ⟨n1, h1, _, w1⟩ := DataW.trod_int Try.underlying5 t1
    obtain ⟨b2, h2, _⟩ := DataW.trod_bool Try.underlying4 t2
    obtain ⟨b3, h3, _⟩ := DataW.trod_bool Try.underlying4 t3
    obtain ⟨a, l, cap, rfl, k1, k2, k3, k4⟩ := bytes_of_trod t4
    obtain ⟨s, rfl, hs⟩ := u64_of w0
    obtain ⟨k, rfl⟩ := u8_of w1
    simp only [List.cons.injEq, and_true] at h0 h1 h2 h3
    subst h0 h1 h2 h3
    exact ⟨⟨s, k, b2, b3, l⟩, a, cap, rfl, hs, k1, k2, k3, k4⟩

set_option maxRecDepth 100000 in
theorem open_blk {H : Type} {enc : TypeId × Value → H} {W : World} {r : Reach} {b0 : Nat} {v : Value} {d : DataW H} {p : List MemPlace} (hv : Value.okWide Try.prog W r b0 43 v) (h : DataW.Trod enc Try.prog W 0 (fun _ => true) true 43 v d p) :
    ∃ (B : Blk) (a : Option Addr) (cap : Nat), v = .agg (B.cells a cap) ∧ BlkOk W B a cap := by
  obtain ⟨cs, rfl, hsz⟩ := okWide_struct Try.underlying43 hv
  obtain ⟨fuel, hf⟩ := h
  obtain ⟨B, a, cap, e, hB⟩ := blk_of_trod hf
  refine ⟨B, a, cap, ?_, hB⟩
  simp only [Value.cells] at e
  rw [← Array.toArray_toList (xs := cs), e]

end Go.Proofs.Ytdlbjllgdikadaa

namespace Go.Proofs.Ytdlbjllgdikadaa
open Go.ChangeShapes Go.WideShapes Go.ChangeAt Go.RowKit

theorem cells66 : Try.prog.cellsOf 66 = 4 := by kernel_rfl
theorem cells3 : Try.prog.cellsOf 3 = 1 := by kernel_rfl

/-- A slice that can be read: each element's cells, and what is read of them. -/
theorem slice_of_trod {H : Type} {enc : TypeId × Value → H} {W : World} {fuel : Nat} {t e : TypeId} {c : Value} {x : DataW H × List MemPlace} (ht : Try.prog.underlying t = some (.slice e)) (hc : 0 < Try.prog.cellsOf e)
    (h : DataW.trod enc Try.prog W 0 (fun _ => true) true fuel t [c] = some x) :
    ∃ (a : Option Addr) (len cap n : Nat), c = .slice a len cap ∧ len ≤ cap ∧ cap ≤ maxLen ∧ (a = none → len = 0 ∧ cap = 0) ∧
      ∀ i, i < len → ∃ b off cs y, a = some ⟨b, off, none⟩ ∧ cs.length = Try.prog.cellsOf e ∧ DataW.trod enc Try.prog W 0 (fun _ => true) true n e cs = some y ∧ ∀ q, q < Try.prog.cellsOf e → W.cell? ⟨b, off + i * Try.prog.cellsOf e + q, none⟩ = cs[q]? := by
  rcases DataW.trod_slice ht h with ⟨h0, _⟩ | ⟨a, len, cap, elems, rest, n, _, h0, _, _, hl, hm, hlen, hel, _, _⟩
  · simp at h0
    exact ⟨none, 0, 0, 0, h0, Nat.le_refl _, Nat.zero_le _, fun _ => ⟨rfl, rfl⟩, fun i hi => absurd hi (Nat.not_lt_zero i)⟩
  · simp at h0
    refine ⟨some a, len, cap, n, h0, hl, hm, (fun e => nomatch e), fun i hi => ?_⟩
    have h1 := hel i hi
    rw [List.getElem?_eq_getElem (by omega), Option.bind_eq_some_iff] at h1
    obtain ⟨cs, h2, h3⟩ := h1
    obtain ⟨_, k1, k2⟩ := World.cells?_some h2
    have g1 := hel 0 (by omega)
    rw [List.getElem?_eq_getElem (by omega), Option.bind_eq_some_iff] at g1
    obtain ⟨cs0, g2, _⟩ := g1
    obtain ⟨_, g3, g4⟩ := World.cells?_some g2
    obtain ⟨u, hu⟩ : ∃ u, cs0[0]? = some u := ⟨_, List.getElem?_eq_getElem (by omega)⟩
    have hs := World.cell?_spot ((g4 0 hc).trans hu)
    obtain ⟨b, off, spot⟩ := a
    have hspot : spot = none := by
      simpa [Addr.add] using hs
    subst hspot
    refine ⟨b, off, cs, _, rfl, k1, h3, fun q hq => ?_⟩
    have h4 := k2 q hq
    rw [Addr.add_lit, Addr.add_lit] at h4
    exact h4

def OpOk (W : World) (o : POp) : Prop :=
  IsBytes W o.a o.B ∧ o.B.length ≤ o.cap ∧ o.i ≤ 9223372036854775807 ∧ (o.a = none → o.B.length = 0 ∧ o.cap = 0)

set_option maxRecDepth 100000 in
/-- A call that can be read. -/
theorem op_of_trod {H : Type} {enc : TypeId × Value → H} {W : World} {fuel : Nat} {cs : List Value} {x : DataW H × List MemPlace} (h : DataW.trod enc Try.prog W 0 (fun _ => true) true fuel 66 cs = some x) :
    ∃ o : POp, cs = o.cells.toList ∧ OpOk W o := by
  obtain ⟨xs, n, rfl, hx, hlen, hxl, hf⟩ := DataW.trod_struct Try.underlying66 h
  rw [cells66] at hlen
  have hg : ∀ i (hi : i < 4), ∃ y, xs[i]? = some y := fun i hi => ⟨xs[i]'(by rw [hxl]; exact hi), List.getElem?_eq_getElem (by rw [hxl]; exact hi)⟩
  match cs, hlen with
  | [c0, c1, c2, c3], _ =>
    obtain ⟨y0, e0⟩ := hg 0 (by decide)
    obtain ⟨y1, e1⟩ := hg 1 (by decide)
    obtain ⟨y2, e2⟩ := hg 2 (by decide)
    obtain ⟨y3, e3⟩ := hg 3 (by decide)
    have t0 : DataW.trod enc Try.prog W 0 (fun _ => true) true n 3 (([c0, c1, c2, c3].drop 0).take (Try.prog.cellsOf 3)) = some y0 := (hf 0 _ rfl).trans e0
    rw [cells3] at t0
    have t1 : DataW.trod enc Try.prog W 0 (fun _ => true) true n 3 (([c0, c1, c2, c3].drop 1).take (Try.prog.cellsOf 3)) = some y1 := (hf 1 _ rfl).trans e1
    rw [cells3] at t1
    have t2 : DataW.trod enc Try.prog W 0 (fun _ => true) true n 3 (([c0, c1, c2, c3].drop 2).take (Try.prog.cellsOf 3)) = some y2 := (hf 2 _ rfl).trans e2
    rw [cells3] at t2
    have t3 : DataW.trod enc Try.prog W 0 (fun _ => true) true n 22 (([c0, c1, c2, c3].drop 3).take (Try.prog.cellsOf 22)) = some y3 := (hf 3 _ rfl).trans e3
    rw [cells22] at t3
    simp only [List.drop_zero, List.drop_succ_cons, List.take_succ_cons, List.take_zero] at t0 t1 t2 t3
    obtain ⟨n0, h0, _, _⟩ := DataW.trod_int Try.underlying3 t0
    obtain ⟨n1, h1, _, w1⟩ := DataW.trod_int Try.underlying3 t1
    obtain ⟨n2, h2, _, _⟩ := DataW.trod_int Try.underlying3 t2
    obtain ⟨a, l, cap, rfl, k1, k2, k3, k4⟩ := bytes_of_trod t3
    simp only [List.cons.injEq, and_true] at h0 h1 h2
    subst h0 h1 h2
    exact ⟨⟨n0, n1, n2, a, l, cap⟩, rfl, k4, k1, i64_of w1, fun e => by obtain ⟨z1, z2⟩ := k3 e; exact ⟨by rw [z1]; rfl, z2⟩⟩

/-- A row of calls that can be read. -/
theorem ops_of_trod {H : Type} {enc : TypeId × Value → H} {W : World} {fuel : Nat} {c : Value} {x : DataW H × List MemPlace} (h : DataW.trod enc Try.prog W 0 (fun _ => true) true fuel 62 [c] = some x) :
    ∃ (a : Option Addr) (l : List POp) (cap : Nat), c = .slice a l.length cap ∧ IsOps W a l := by
  obtain ⟨a, len, cap, n, hc, _, _, _, hel⟩ := slice_of_trod Try.underlying62 (by rw [cells66]; decide) h
  rw [cells66] at hel
  have hex : ∀ i : Nat, ∃ o : POp, i < len → ∃ b off, a = some ⟨b, off, none⟩ ∧ (∀ q u, o.cells[q]? = some u → W.cell? ⟨b, off + 4 * i + q, none⟩ = some u) ∧ OpOk W o := by
    intro i
    by_cases hi : i < len
    · obtain ⟨b, off, cs, y, ha, hcl, ht, hq⟩ := hel i hi
      obtain ⟨o, ho, hok⟩ := op_of_trod ht
      refine ⟨o, fun _ => ⟨b, off, ha, fun q u hu => ?_, hok⟩⟩
      have hq4 : q < 4 := (Array.getElem?_eq_some_iff.1 hu).1
      have := hq q hq4
      rw [Nat.mul_comm, ho, Array.getElem?_toList, hu] at this
      exact this
    · exact ⟨⟨0, 0, 0, none, [], 0⟩, fun h => absurd h hi⟩
  refine ⟨a, (List.range len).map (fun i => Classical.choose (hex i)), cap, by rw [List.length_map, List.length_range]; exact hc, ?_⟩
  intro k hk
  rw [List.length_map, List.length_range] at hk
  rw [List.getElem_map, List.getElem_range]
  obtain ⟨b, off, ha, h1, h2, h3, h4, h5⟩ := Classical.choose_spec (hex k) hk
  exact ⟨b, off, ha, h1, h2, h3, h4, h5⟩

end Go.Proofs.Ytdlbjllgdikadaa
