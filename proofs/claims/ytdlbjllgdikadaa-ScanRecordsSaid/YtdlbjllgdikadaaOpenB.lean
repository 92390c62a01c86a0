/- From what the rows hand a walk to what the walks say of blocks. -/
import Derived.Test.YtdlbjllgdikadaaOpen
import Derived.Test.YtdlbjllgdikadaaLaw20A
namespace Go.Proofs.Ytdlbjllgdikadaa
open Go.ChangeShapes Go.WideShapes Go.ChangeAt Go.RowKit

theorem cells43 : Try.prog.cellsOf 43 = 5 := by kernel_rfl
theorem cells24 : Try.prog.cellsOf 24 = 1 := by kernel_rfl
theorem cells5 : Try.prog.cellsOf 5 = 1 := by kernel_rfl
theorem cells4 : Try.prog.cellsOf 4 = 1 := by kernel_rfl
theorem cells22 : Try.prog.cellsOf 22 = 1 := by kernel_rfl

/-- A slice of bytes that can be read. -/
theorem bytes_of_trod {H : Type} {enc : TypeId × Value → H} {W : World} {fuel : Nat} {c : Value} {x : DataW H × List MemPlace} (h : DataW.trod enc Try.prog W 0 (fun _ => true) true fuel 22 [c] = some x) :
    ∃ (a : Option Addr) (l : List UInt8) (cap : Nat), c = .slice a l.length cap ∧ l.length ≤ cap ∧ cap ≤ maxLen ∧ (a = none → l = [] ∧ cap = 0) ∧ IsBytes W a l := by
  obtain ⟨a, len, cap, zs, hc, hr⟩ : ∃ a len cap zs, c = .slice a len cap ∧ IsRow .u8 W a len cap zs := by
    rcases open_ints Try.underlying22 Try.underlying5 (by kernel_rfl) h with ⟨hcs, _⟩ | ⟨x, l, c', zs, hcs, _, hl, hm, hz, _, hcell, hwz⟩
    · simp at hcs
      exact ⟨none, 0, 0, [], hcs, .inl ⟨rfl, rfl, rfl, rfl⟩⟩
    · simp at hcs
      exact ⟨some x, l, c', zs, hcs, .inr ⟨_, rfl, hl, hm, by simpa using hz, hcell, hwz⟩⟩
  obtain ⟨l, rfl, h1, h2, h3, h4⟩ := bytes_of_row hr
  exact ⟨a, l, cap, hc, h1, h2, h3, h4⟩

def BlkOk (W : World) (B : Blk) (a : Option Addr) (cap : Nat) : Prop :=
  B.serial < 18446744073709551616 ∧ B.body.length ≤ cap ∧ cap ≤ maxLen ∧ (a = none → B.body = [] ∧ cap = 0) ∧ IsBytes W a B.body

set_option maxRecDepth 100000 in
/-- A block that can be read. -/
theorem blk_of_trod {H : Type} {enc : TypeId × Value → H} {W : World} {fuel : Nat} {cs : List Value} {x : DataW H × List MemPlace} (h : DataW.trod enc Try.prog W 0 (fun _ => true) true fuel 43 cs = some x) :
    ∃ (B : Blk) (a : Option Addr) (cap : Nat), cs = (B.cells a cap).toList ∧ BlkOk W B a cap := by
  obtain ⟨xs, n, rfl, hx, hlen, hxl, hf⟩ := DataW.trod_struct Try.underlying43 h
  rw [cells43] at hlen
  have hg : ∀ i (hi : i < 5), ∃ y, xs[i]? = some y := fun i hi => ⟨xs[i]'(by rw [hxl]; exact hi), List.getElem?_eq_getElem (by rw [hxl]; exact hi)⟩
  match cs, hlen with
  | [c0, c1, c2, c3, c4], _ =>
    obtain ⟨y0, e0⟩ := hg 0 (by decide)
    obtain ⟨y1, e1⟩ := hg 1 (by decide)
    obtain ⟨y2, e2⟩ := hg 2 (by decide)
    obtain ⟨y3, e3⟩ := hg 3 (by decide)
    obtain ⟨y4, e4⟩ := hg 4 (by decide)
    have t0 : DataW.trod enc Try.prog W 0 (fun _ => true) true n 24 (([c0, c1, c2, c3, c4].drop 0).take (Try.prog.cellsOf 24)) = some y0 := (hf 0 _ rfl).trans e0
    rw [cells24] at t0
    have t1 : DataW.trod enc Try.prog W 0 (fun _ => true) true n 5 (([c0, c1, c2, c3, c4].drop 1).take (Try.prog.cellsOf 5)) = some y1 := (hf 1 _ rfl).trans e1
    rw [cells5] at t1
    have t2 : DataW.trod enc Try.prog W 0 (fun _ => true) true n 4 (([c0, c1, c2, c3, c4].drop 2).take (Try.prog.cellsOf 4)) = some y2 := (hf 2 _ rfl).trans e2
    rw [cells4] at t2
    have t3 : DataW.trod enc Try.prog W 0 (fun _ => true) true n 4 (([c0, c1, c2, c3, c4].drop 3).take (Try.prog.cellsOf 4)) = some y3 := (hf 3 _ rfl).trans e3
    rw [cells4] at t3
    have t4 : DataW.trod enc Try.prog W 0 (fun _ => true) true n 22 (([c0, c1, c2, c3, c4].drop 4).take (Try.prog.cellsOf 22)) = some y4 := (hf 4 _ rfl).trans e4
    rw [cells22] at t4
    simp only [List.drop_zero, List.drop_succ_cons, List.take_succ_cons, List.take_zero] at t0 t1 t2 t3 t4
    obtain ⟨n0, h0, _, w0⟩ := DataW.trod_int Try.underlying24 t0
    obtain ⟨n1, h1, _, w1⟩ := DataW.trod_int Try.underlying5 t1
    obtain ⟨b2, h2, _⟩ := DataW.trod_bool Try.underlying4 t2
    obtain ⟨b3, h3, _⟩ := DataW.trod_bool Try.underlying4 t3
    obtain ⟨a, l, cap, rfl, k1, k2, k3, k4⟩ := bytes_of_trod t4
    obtain ⟨s, rfl, hs⟩ := u64_of w0
    obtain ⟨k, rfl⟩ := u8_of w1
    simp only [List.cons.injEq, and_true] at h0 h1 h2 h3
    subst h0 h1 h2 h3
    exact ⟨⟨s, k, b2, b3, l⟩, a, cap, rfl, hs, k1, k2, k3, k4⟩

set_option maxRecDepth 100000 in
theorem open_blk {H : Type} {enc : TypeId × Value → H} {W : World} {r : Reach} {b0 : Nat} {v : Value} {d : DataW H} {p : List MemPlace} (hv : Value.okWide Try.prog W r b0 43 v) (h : DataW.Trod enc Try.prog W 0 (fun _ => true) true 43 v d p) :
    ∃ (B : Blk) (a : Option Addr) (cap : Nat), v = .agg (B.cells a cap) ∧ BlkOk W B a cap := by
  obtain ⟨cs, rfl, hsz⟩ := okWide_struct Try.underlying43 hv
  obtain ⟨fuel, hf⟩ := h
  obtain ⟨B, a, cap, e, hB⟩ := blk_of_trod hf
  refine ⟨B, a, cap, ?_, hB⟩
  simp only [Value.cells] at e
  rw [← Array.toArray_toList (xs := cs), e]

end Go.Proofs.Ytdlbjllgdikadaa
