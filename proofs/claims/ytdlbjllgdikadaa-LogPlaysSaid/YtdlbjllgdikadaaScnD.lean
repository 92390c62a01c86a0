/- scan, the plain law: a ring of blocks, one behind the other. varvelaw21.laid: two devices, some blocks written to both. varvelaw21.known: the plain law. varvelaw21.known, walked. scan, the document's: Find. varvelaw21.ScanFinds, walked. -/
import Derived.Test.YtdlbjllgdikadaaScnA
import Derived.Test.YtdlbjllgdikadaaGrK
import Derived.Test.YtdlbjllgdikadaaGrO
import Derived.Test.YtdlbjllgdikadaaGrJ
import Derived.Test.YtdlbjllgdikadaaScnB
import Derived.Test.YtdlbjllgdikadaaScanZ
import Derived.Test.YtdlbjllgdikadaaGrI
import Derived.Test.YtdlbjllgdikadaaScanF
import Derived.Test.YtdlbjllgdikadaaGrE
import Derived.Test.YtdlbjllgdikadaaScanD
namespace Go.Proofs.Ytdlbjllgdikadaa
set_option linter.unusedVariables false

theorem findS_some_of {A : List Blk} {x : Blk} (hx : x ∈ A) (hu : ∀ y ∈ A, y.serial = x.serial → y = x) : findS A x.serial = some x := by
  cases hf : findS A x.serial with
  | none =>
    unfold findS at hf
    rw [List.find?_eq_none] at hf
    have := hf x hx
    simp at this
  | some y =>
    obtain ⟨h1, h2⟩ := findS_mem hf
    rw [hu y h1 h2]

structure Ring (n : Nat) (mem : Nat → List UInt8) (f : Nat → Blk) (from_ m : Nat) : Prop where
  many : m ≤ n
  pos : 0 < n
  ser : ∀ i, i < m → (f i).serial = from_ + i
  held : ∀ i, i < m → decE (mem ((from_ + i) % n)) = 0 ∧ decB (mem ((from_ + i) % n)) = f i
  rest : ∀ p, p < n → (∀ i, i < m → p ≠ (from_ + i) % n) → decE (mem p) ≠ 0

section
variable {n : Nat} {mem : Nat → List UInt8} {f : Nat → Blk} {s m : Nat}
theorem Ring.has (h : Ring n mem f s m) (i : Nat) (hi : i < m) : f i ∈ allTo n mem n := by
  unfold allTo
  have hp : (s + i) % n < n := Nat.mod_lt _ h.pos
  refine List.mem_map.2 ⟨(s + i) % n, List.mem_filter.2 ⟨List.mem_range.2 hp, ?_⟩, (h.held i hi).2⟩
  rw [goodB_iff]
  exact ⟨(h.held i hi).1, by rw [(h.held i hi).2, h.ser i hi]⟩
theorem Ring.only (h : Ring n mem f s m) {x : Blk} (hx : x ∈ allTo n mem n) : ∃ i, i < m ∧ x = f i := by
  obtain ⟨p, hp, hg, rfl⟩ := mem_allTo hx
  by_cases he : ∃ i, i < m ∧ p = (s + i) % n
  · obtain ⟨i, hi, rfl⟩ := he
    exact ⟨i, hi, (h.held i hi).2⟩
  · exact absurd (goodB_iff.1 hg).1 (h.rest p hp fun i hi e => he ⟨i, hi, e⟩)
theorem Ring.find (h : Ring n mem f s m) (i : Nat) (hi : i < m) : findS (allTo n mem n) (s + i) = some (f i) := by
  have := findS_some_of (h.has i hi) (fun y hy e => by
    obtain ⟨j, hj, rfl⟩ := h.only hy
    rw [h.ser j hj, h.ser i hi] at e
    have : j = i := by omega
    rw [this])
  rwa [h.ser i hi] at this
theorem Ring.miss (h : Ring n mem f s m) (t : Nat) (ht : ∀ i, i < m → t ≠ s + i) : findS (allTo n mem n) t = none := findS_none fun y hy e => by
  obtain ⟨j, hj, rfl⟩ := h.only hy
  rw [h.ser j hj] at e
  exact ht j hj e.symm
theorem Ring.down (h : Ring n mem f s m) : ∀ i, i < m → downFrom (allTo n mem n) (s + i) = ((List.range (i + 1)).map f).reverse := by
  intro i
  induction i with
  | zero =>
    intro hi
    have hf := h.find 0 hi
    rw [Nat.add_zero] at hf ⊢
    rw [downFrom_some hf]
    cases s with
    | zero => rfl
    | succ s =>
      have : findS (allTo n mem n) s = none := h.miss s fun i hi e => by omega
      show f 0 :: downFrom (allTo n mem n) s = _
      rw [downFrom_none this]; rfl
  | succ i ih =>
    intro hi
    have hf := h.find (i + 1) hi
    have e : s + (i + 1) = (s + i) + 1 := by omega
    rw [e] at hf ⊢
    rw [downFrom_some hf]
    show f (i + 1) :: downFrom (allTo n mem n) (s + i) = _
    rw [ih (by omega), List.range_succ (n := i + 1), List.map_append, List.reverse_append]
    rfl
/-- THE RUN of a ring. -/
theorem Ring.run (h : Ring n mem f s m) : runOf (allTo n mem n) = (List.range m).map f := by
  cases m with
  | zero =>
    have : allTo n mem n = [] := by
      cases he : allTo n mem n with
      | nil => rfl
      | cons x r =>
        obtain ⟨i, hi, _⟩ := h.only (x := x) (by rw [he]; exact .head _)
        exact absurd hi (Nat.not_lt_zero _)
    rw [this]
    unfold runOf
    rw [downFrom_nil]; rfl
  | succ m =>
    have ht : topS (allTo n mem n) = s + m := by
      refine Nat.le_antisymm (topS_le _ fun x hx => ?_) ?_
      · obtain ⟨i, hi, rfl⟩ := h.only hx
        rw [h.ser i hi]; omega
      · have := topS_ge (h.has m (Nat.lt_succ_self _))
        rwa [h.ser m (Nat.lt_succ_self _)] at this
    unfold runOf
    rw [ht, h.down m (Nat.lt_succ_self _), List.reverse_reverse]
end

theorem dec_zero : decE zero64 ≠ 0 := by
  have h : decOk zero64 = false := by
    unfold decOk
    have : mayB (decX zero64) = false := by decide
    rw [this]; rfl
  unfold decE
  rw [h]
  split
  · split
    · decide
    · decide
  · decide
end Go.Proofs.Ytdlbjllgdikadaa

namespace Go.Proofs.Ytdlbjllgdikadaa
open Go.RowKit
set_option linter.unusedVariables false
set_option linter.unusedSimpArgs false

/-- A block at a place; or bytes. -/
structure Wr where
  X : Blk
  ax : Option Addr
  cx : Nat
  at_ : Int
  raw : List UInt8
  ar : Option Addr
  cr : Nat
def Wr.cells (o : Wr) : Array Value := #[.int .u64 (o.X.serial : Int), .int .u8 (o.X.kind.toNat : Int), .bool o.X.first, .bool o.X.last, .slice o.ax o.X.body.length o.cx, .int .i64 o.at_, .slice o.ar o.raw.length o.cr]
def WrOk (w : World) (o : Wr) : Prop :=
  (o.X.serial < 18446744073709551616 ∧ o.X.body.length ≤ 9223372036854775807) ∧ o.X.body.length ≤ o.cx ∧ (o.ax = none → o.X.body.length = 0 ∧ o.cx = 0) ∧ IsBytes w o.ax o.X.body ∧
  o.raw.length ≤ o.cr ∧ (o.ar = none → o.raw.length = 0 ∧ o.cr = 0) ∧ IsBytes w o.ar o.raw ∧ -9223372036854775808 ≤ o.at_ ∧ o.at_ ≤ 9223372036854775807
/-- A row of them, as it reads. -/
def IsWs (w : World) (a : Option Addr) (l : List Wr) : Prop :=
  ∀ i (h : i < l.length), ∃ b off, a = some ⟨b, off, none⟩ ∧ (∀ j u, (l[i].cells)[j]? = some u → w.cell? ⟨b, off + 7 * i + j, none⟩ = some u) ∧ WrOk w l[i]
theorem WrOk.later {w w' : World} {o : Wr} (h : WrOk w o) (hb : Below w.heap.size w w') : WrOk w' o :=
  ⟨h.1, h.2.1, h.2.2.1, h.2.2.2.1.later hb, h.2.2.2.2.1, h.2.2.2.2.2.1, h.2.2.2.2.2.2.1.later hb, h.2.2.2.2.2.2.2⟩
theorem IsWs.later {w w' : World} {a : Option Addr} {l : List Wr} (h : IsWs w a l) (hb : Below w.heap.size w w') : IsWs w' a l := fun i hi => by
  obtain ⟨b, off, e, hc, ho⟩ := h i hi
  exact ⟨b, off, e, fun j u hu => (hb.cell (p := ⟨b, off + 7 * i + j, none⟩) (World.block_lt_of_cell? w _ (hc j u hu))).trans (hc j u hu), ho.later hb⟩

/-- What is written: the raw bytes, or the block's. -/
def wrBytes (o : Wr) : List UInt8 := if o.raw.length = 0 then (if mayB o.X then sealB o.X else []) else o.raw
def laidD (d : Dev) (l : List Wr) : Dev := l.foldl (fun d o => writeD d o.at_ (wrBytes o)) d
def laidR (r : RDev) (l : List Wr) : RDev := l.foldl (fun r o => rwD r o.at_ (wrBytes o)) r

theorem writeD_quiet {d : Dev} (hs : d.set = false) (i : Int) (l : List UInt8) : (writeD d i l).set = false ∧ (writeD d i l).down = d.down := by
  unfold writeD
  split
  · rw [hs]
    simp [hs]
  · exact ⟨hs, rfl⟩

theorem laid_cells (o : Wr) : o.cells.size = 7 := rfl

set_option maxRecDepth 100000 in
set_option maxHeartbeats 8000000 in
theorem laid_calls (n : Nat) (l : List Wr) (a : Option Addr) (c : Nat) (w : World) (h16 : 16 ≤ n) (h40 : n ≤ 16384) (hl : l.length ≤ 1000) (hW : IsWs w a l) :
    Calls Try.prog 57 #[.int .i64 (n : Int), .slice a l.length c] w fun e w' => ∃ D b V, e = .returned (.tuple #[.pointer (some ⟨D, 0, none⟩), .pointer (some ⟨V, 0, none⟩)]) ∧ Two n l.length w w' D b V (laidD (newD n) l) (laidR (rnewD n) l) ∧ (laidD (newD n) l).set = false ∧ (laidD (newD n) l).down = false := by
  have hnew := Lib.hid (fun W => new_dev n W h16 h40)
  have hrnew := Lib.hid (fun W => rnew_calls n h40 W)
  go_enter Try.func57, Try.ntmps57
  go_wp2_with (first
    | (go_at_call 38; refine (hnew.out _).mono ?_; rintro e w1 ⟨D, b, rfl, hD, hlD, hlb, hB1⟩)
    | (go_at_call 47; refine (hrnew.out _).mono ?_; rintro e w2 ⟨V, rfl, hV, hlV, hB2⟩))
  have hT0 : Two n 0 w w2 D b V (newD n) (rnewD n) := ⟨hD.later hB2, hV, PRel.start n, ⟨hlD, hlb, Nat.le_trans hB1.size hlV⟩, below_call hB1 (Nat.le_refl _) hB2⟩
  clear hD hV hB1 hB2 hlD hlb hlV
  go_loopw [21] (fun iv wr => ∃ j : Nat, j ≤ l.length ∧ iv = .int .i64 (j : Int) ∧ Two n j w wr D b V (laidD (newD n) (l.take j)) (laidR (rnewD n) (l.take j)) ∧ (laidD (newD n) (l.take j)).set = false ∧ (laidD (newD n) (l.take j)).down = false) (fun iv _ => l.length - (intOf iv).toNat)
  case atStart => exact ⟨0, Nat.zero_le _, rfl, hT0, rfl, rfl⟩
  case round =>
    clear hT0
    obtain ⟨j, hj, rfl, hT, hset, hdn⟩ := hrel
    by_cases hlt : j < l.length
    · obtain ⟨b1, o1, ha1, hc1, ho⟩ := hW j hlt
      have htk : l.take (j + 1) = l.take j ++ [l[j]] := by rw [List.take_add_one, List.getElem?_eq_getElem hlt]; rfl
      have hDl : laidD (newD n) (l.take (j + 1)) = writeD (laidD (newD n) (l.take j)) l[j].at_ (wrBytes l[j]) := by rw [htk]; unfold laidD; rw [List.foldl_append]; rfl
      have hRl : laidR (rnewD n) (l.take (j + 1)) = rwD (laidR (rnewD n) (l.take j)) l[j].at_ (wrBytes l[j]) := by rw [htk]; unfold laidR; rw [List.foldl_append]; rfl
      obtain ⟨o, hoe⟩ : ∃ o, o = l[j] := ⟨_, rfl⟩
      rw [← hoe] at hc1 ho hDl hRl
      obtain ⟨d, hd⟩ : ∃ d, d = laidD (newD n) (l.take j) := ⟨_, rfl⟩
      obtain ⟨r, hr⟩ : ∃ r, r = laidR (rnewD n) (l.take j) := ⟨_, rfl⟩
      rw [← hd] at hT hset hdn hDl
      rw [← hr] at hT hRl
      have HDl := Lib.hid hDl
      have HRl := Lib.hid hRl
      have HQ := Lib.hid (And.intro hset hdn)
      clear hDl hRl hoe hd hr hset hdn htk
      obtain ⟨X, ax, cx, at_, raw, ar, cr⟩ := o
      obtain ⟨⟨hxs, hxl⟩, hxc, hxn, hxb, hrc, hrn, hrb, hat1, hat2⟩ := ho
      simp only at hxs hxl hxc hxn hxb hrc hrn hrb hat1 hat2
      cases ha1
      have hbel := hT.bel
      have hfa : ∀ q u, ((Wr.mk X ax cx at_ raw ar cr).cells)[q]? = some u → wr.cell? ⟨b1, o1 + j * 7 + q, none⟩ = some u := fun q u hu => by
        have := hc1 q u hu
        rw [show o1 + 7 * j + q = o1 + j * 7 + q by omega] at this
        exact (hbel.cell (p := ⟨b1, o1 + j * 7 + q, none⟩) (World.block_lt_of_cell? w _ this)).trans this
      have f0 : wr.cell? ⟨b1, o1 + j * 7, none⟩ = some (.int .u64 (X.serial : Int)) := hfa 0 _ rfl
      have f1 : wr.cell? ⟨b1, o1 + j * 7 + 1, none⟩ = some (.int .u8 (X.kind.toNat : Int)) := hfa 1 _ rfl
      have f2 : wr.cell? ⟨b1, o1 + j * 7 + 2, none⟩ = some (.bool X.first) := hfa 2 _ rfl
      have f3 : wr.cell? ⟨b1, o1 + j * 7 + 3, none⟩ = some (.bool X.last) := hfa 3 _ rfl
      have f4 : wr.cell? ⟨b1, o1 + j * 7 + 4, none⟩ = some (.slice ax X.body.length cx) := hfa 4 _ rfl
      have f5 : wr.cell? ⟨b1, o1 + j * 7 + 5, none⟩ = some (.int .i64 at_) := hfa 5 _ rfl
      have f6 : wr.cell? ⟨b1, o1 + j * 7 + 6, none⟩ = some (.slice ar raw.length cr) := hfa 6 _ rfl
      clear hc1 hfa
      have hjI : (j : Int) < (l.length : Int) := by omega
      have hlow := hT.lo
      have hVn : V ∉ [D, b] := by have := hT.dev.apart hT.ref; simp; omega
      obtain ⟨w4, hw4⟩ : ∃ w4, w4 = wr.alloc (.cells #[.int .u64 (X.serial : Int), .int .u8 (X.kind.toNat : Int), .bool X.first, .bool X.last, .slice ax X.body.length cx, .int .i64 at_, .slice ar raw.length cr] 77) := ⟨_, rfl⟩
      have hb4 : Below wr.heap.size wr w4 := by rw [hw4]; exact (Below.refl _ _).alloc (Nat.le_refl _) _
      have hT4 := hT.later hb4
      have hr4 := (hrb.later hbel).later hb4
      have hx4 := (hxb.later hbel).later hb4
      have h4s : wr.heap.size < w4.heap.size := by rw [hw4]; simp
      have hWr : ∀ q u, (#[.int .u64 (X.serial : Int), .int .u8 (X.kind.toNat : Int), .bool X.first, .bool X.last, .slice ax X.body.length cx, .int .i64 at_, .slice ar raw.length cr] : Array Value)[q]? = some u → ∀ W, Below w4.heap.size w4 W → W.cell? ⟨wr.heap.size, q, none⟩ = some u := fun q u hu W hb => by
        have h1 : w4.cell? ⟨wr.heap.size, q, none⟩ = some u := by rw [hw4, World.cell?_alloc_new]; exact hu
        exact (hb.cell (p := ⟨wr.heap.size, q, none⟩) h4s).trans h1
      have hDl4 := hT.dev.lt
      have hbl4 := hT.dev.ltb
      have hVl4 := hT.ref.lt
      have hW5g : ∀ W2 W : World, Below w4.heap.size w4 W2 → Aside [D, b] W2 W → W.cell? ⟨wr.heap.size, 5, none⟩ = some (.int .i64 at_) := fun W2 W hb2 hA => by
        have h1 := hWr 5 _ rfl W2 hb2
        exact (World.cell?_of_block (a := ⟨wr.heap.size, 5, none⟩) (hA.block wr.heap.size (World.block_lt_of_cell? W2 _ h1) (by simp; omega))).trans h1
      have hlen := hT.rel.len
      have hp0 := hT.rel.p0
      have hp1 := hT.rel.p1
      have hwr0 := hT.rel.w0
      have hwr1 := hT.rel.w1
      by_cases hraw : raw.length = 0
      · have hbytes : wrBytes ⟨X, ax, cx, at_, raw, ar, cr⟩ = encT X := by unfold wrBytes encT; rw [if_pos hraw]
        have henc := Lib.hid (refencode_calls X ax cx w4 hxs (by omega) hxn hx4)
        have hr0 : raw = [] := List.length_eq_zero_iff.1 hraw
        subst hr0
        simp only [List.length_nil] at f6 hw4 hWr
        have HB := Lib.hid hbytes
        have hw42 := fun W q a1 c1 h hno => write_dev D b d at_ a1 (encT X) c1 W q hT.rel.ok h hno
        have hw48 := fun W q a1 c1 h hcap => rwrite_calls V r at_ a1 (encT X) c1 W q (by omega) h (by omega) hwr1 hp0 hp1 hcap
        have hW5 := Lib.hid hW5g
        have HW4 := Lib.hid hw4
        have HT4 := Lib.hid hT4
        have H6 := Lib.hid hWr
        rw [hw4] at henc
        have f6' := hWr 6 _ rfl w4 (Below.refl _ _)
        have hT3 : ∀ W, Below w4.heap.size w4 W → Two n j w W D b V d r := fun W hb => hT4.later hb
        have hW5b : ∀ W2 W : World, Below w4.heap.size w4 W2 → Aside [D, b] W2 W → W.cell? ⟨wr.heap.size, 5, none⟩ = some (.int .i64 at_) := hW5g
        have hWc : ∀ W, Below w4.heap.size w4 W → W.cell? ⟨wr.heap.size, 5, none⟩ = some (.int .i64 at_) := fun W hb => hWr 5 _ rfl W hb
        rw [hw4] at hT3 hW5b hWc
        have HT3 := Lib.hid hT3
        have HW5b := Lib.hid hW5b
        have HWc := Lib.hid hWc
        clear hbytes hWr hw4 hx4 hr4 hT4 hW5g hT3 hW5b hWc f6' HW4 HT4 H6 hW5
        unfold EncAny at henc
        go_wp2_with (first
          | (go_at_call 32; refine henc.out.mono ?_; rintro e w3 ⟨v3, rfl, hown3, hB3⟩; obtain ⟨a3, c3, rfl, hby3, hle3, hcm3, hbk3, hno3⟩ := hown3.slice; have hT5 := HT3.out _ hB3; have f5'' := HWc.out _ hB3; have hno4 : ∀ q off, a3 = some ⟨q, off, none⟩ → q ∉ [D, b] := (fun q off e => (by obtain ⟨g, e1, e2, _⟩ := hbk3 _ e; cases e1; simp at e2; simp; omega)))
          | (go_at_call 42; refine (hw42 _ hT5.dev a3 c3 hby3 hno4).mono ?_; rintro e w5 ⟨rfl, hD5, hA5⟩; have f5' := HW5b.out _ _ hB3 hA5; have hR5 := hT5.ref.aside hA5 hVn; have hby5 := hby3.aside hA5 hno4)
          | (go_at_call 48; refine (hw48 _ hR5 a3 c3 hby5 hle3).mono ?_; rintro e w6 ⟨rfl, hR6, hA6⟩))
        go_roundw
        case rel =>
          refine ⟨j + 1, by omega, by go_num, ?_, ?_, ?_⟩
          · rw [HDl.out, HRl.out, HB.out]; exact hT5.write (by omega) hD5 hA5 hR6 hA6
          · rw [HDl.out]; exact (writeD_quiet HQ.out.1 _ _).1
          · rw [HDl.out, (writeD_quiet HQ.out.1 _ _).2]; exact HQ.out.2
        case measure => simp [intOf]; omega
      · have hbytes : wrBytes ⟨X, ax, cx, at_, raw, ar, cr⟩ = raw := by unfold wrBytes; rw [if_neg hraw]
        have hno4 : ∀ q off, ar = some ⟨q, off, none⟩ → q ∉ [D, b] := fun q off e => by have := hrb.lt e (by omega); simp; omega
        have hw42 := fun W q h => write_dev D b d at_ ar raw cr W q hT.rel.ok h hno4
        have hw48 := fun W q h => rwrite_calls V r at_ ar raw cr W q (by omega) h (by omega) hwr1 hp0 hp1 hrc
        have hrawI : ((raw.length : Int) == 0) = false := by rw [beq_eq_false_iff_ne]; omega
        have HB := Lib.hid hbytes
        have hW5 := Lib.hid (hW5g w4 · (Below.refl _ _))
        rw [hw4] at hT4 hr4 hW5
        clear hbytes hWr hw4 hx4 hW5g
        go_wp2_with (first
      | (go_at_call 42; refine (hw42 _ hT4.dev hr4).mono ?_; rintro e w5 ⟨rfl, hD5, hA5⟩; have f5' := hW5.out _ hA5; have hR5 := hT4.ref.aside hA5 hVn; have hby5 := hr4.aside hA5 hno4)
      | (go_at_call 48; refine (hw48 _ hR5 hby5).mono ?_; rintro e w6 ⟨rfl, hR6, hA6⟩))
        go_roundw
        case rel =>
          refine ⟨j + 1, by omega, by go_num, ?_, ?_, ?_⟩
          · rw [HDl.out, HRl.out, HB.out]; exact hT4.write (by omega) hD5 hA5 hR6 hA6
          · rw [HDl.out]; exact (writeD_quiet HQ.out.1 _ _).1
          · rw [HDl.out, (writeD_quiet HQ.out.1 _ _).2]; exact HQ.out.2
        case measure => simp [intOf]; omega
    · have hje : j = l.length := by omega
      rw [hje, List.take_length] at hT hset hdn
      subst hje
      go_wp2
      go_ret2
      exact ⟨D, b, V, rfl, hT, hset, hdn⟩
end Go.Proofs.Ytdlbjllgdikadaa

namespace Go.Proofs.Ytdlbjllgdikadaa
set_option linter.unusedVariables false

def z60 : List UInt8 := List.replicate 60 0
def z50 : List UInt8 := List.replicate 50 0
def K0 : Blk := ⟨0, 2, true, false, List.replicate 48 0⟩
def K1 : Blk := ⟨1, 2, false, true, List.replicate 12 0⟩
def K2 : Blk := ⟨2, 1, true, false, List.replicate 48 0⟩
def K3 : Blk := ⟨3, 1, false, true, List.replicate 2 0⟩
theorem ksplit60 : splitL 2 0 z60 = [K0, K1] := by kernel_rfl
theorem ksplit50 : splitL 1 2 z50 = [K2, K3] := by kernel_rfl
theorem kE60 : splitE 2 0 z60 = 0 := by decide
theorem kE50 : splitE 1 2 z50 = 0 := by decide

theorem writeD_plain {d : Dev} (hs : d.set = false) (hd : d.down = false) (i : Nat) (hi : i < d.blocks) (l : List UInt8) (hl : l.length = 64) :
    (writeD d (i : Int) l).mem = updB d.mem i l ∧ (writeD d (i : Int) l).blocks = d.blocks ∧ (writeD d (i : Int) l).set = false ∧ (writeD d (i : Int) l).down = false := by
  have h0 : mayE d (i : Int) = 0 := by unfold mayE; rw [hd]; simp; omega
  unfold writeD
  rw [if_pos ⟨h0, hl⟩, hs]
  simp [hd]

/-- A device on which blocks 0, 1, .. stand at their places. -/
def kmem (f : Nat → Blk) (m : Nat) : Nat → List UInt8 := fun p => if p < m then sealB (f p) else zero64
theorem kmem_ring (f : Nat → Blk) (n m : Nat) (hm : m ≤ n) (hn : 0 < n) (hs : ∀ i, i < m → (f i).serial = i) (hmay : ∀ i, i < m → mayB (f i) = true) : Ring n (kmem f m) f 0 m := by
  refine ⟨hm, hn, fun i hi => by rw [hs i hi, Nat.zero_add], fun i hi => ?_, fun p hp hno => ?_⟩
  · rw [Nat.zero_add, Nat.mod_eq_of_lt (by omega)]
    unfold kmem
    rw [if_pos hi]
    exact dec_seal (f i) (hmay i hi)
  · unfold kmem
    rw [if_neg]
    · exact dec_zero
    · intro h
      exact hno p h (by rw [Nat.zero_add, Nat.mod_eq_of_lt hp])
def kf : Nat → Blk := fun i => match i with
  | 0 => K0
  | 1 => K1
  | 2 => K2
  | _ => K3
theorem kf_ser : ∀ i, i < 4 → (kf i).serial = i := by decide
theorem kf_may : ∀ i, i < 4 → mayB (kf i) = true := by decide
theorem run3 : (List.range 3).map kf = [K0, K1, K2] := rfl
theorem run4 : (List.range 4).map kf = [K0, K1, K2, K3] := rfl
theorem recs3 : lastsOf (refRecs [K0, K1, K2]) = [⟨2, 0, z60⟩] := by kernel_rfl
theorem recs4 : lastsOf (refRecs [K0, K1, K2, K3]) = [⟨2, 0, z60⟩, ⟨1, 2, z50⟩] := by kernel_rfl
theorem kmem_upd (f : Nat → Blk) (m : Nat) : updB (kmem f m) m (sealB (f m)) = kmem f (m + 1) := by
  funext p
  unfold updB kmem
  by_cases h : p = m
  · subst h; rw [if_pos rfl, if_pos (by omega)]
  · rw [if_neg h]
    by_cases h2 : p < m
    · rw [if_pos h2, if_pos (by omega)]
    · rw [if_neg h2, if_neg (by omega)]
end Go.Proofs.Ytdlbjllgdikadaa

namespace Go.Proofs.Ytdlbjllgdikadaa
open Go.RowKit
set_option linter.unusedVariables false
set_option linter.unusedSimpArgs false

theorem OwnRs.memAt {w : World} {base : Nat} {a : Option Addr} {n cap : Nat} {l : List Rc} (h : OwnRs w base (.slice a n cap) l) (j : Nat) (hj : j < l.length) :
    ∃ g ab cb, a = some ⟨g, 0, none⟩ ∧ base ≤ g ∧ g < w.heap.size ∧ (∀ q u, (l[j].cells ab cb)[q]? = some u → w.cell? ⟨g, j * 3 + q, none⟩ = some u) ∧ OwnB w base (.slice ab l[j].body.length cb) l[j].body := by
  obtain ⟨r, h1, h2, h3⟩ := h
  have hl : r.length = l.length := by rw [← h1, List.length_map]
  have hir : j < r.length := by omega
  have e : l[j] = r[j].1 := by simp only [← h1, List.getElem_map]
  rcases h2.2 with ⟨e0, hn⟩ | ⟨g, cap2, cur, e2, hb, hg, rest⟩
  · omega
  · cases e2
    refine ⟨g, r[j].2.1, r[j].2.2, rfl, hb, (Array.getElem?_eq_some_iff.1 hg).1, fun q u hu => ?_, by rw [e]; exact h3 r[j] (List.getElem_mem hir)⟩
    rw [e] at hu
    have hq : q < 3 := (Array.getElem?_eq_some_iff.1 hu).1
    rw [show j * 3 + q = 3 * j + q by omega, World.ownsRow.cellAt h2 (3 * j + q) (by omega), rcellsOf_get r j hir q hq]
    exact hu

theorem k_split60 (W : World) (g : Nat) (h : ArrB W g z60) : Calls Try.prog 25 #[.int .u8 2, .int .u64 0, .slice (some ⟨g, 0, none⟩) 60 60] W fun e w' => ∃ v, e = .returned (.tuple #[v, .int .i64 0]) ∧ OwnBs w' W.heap.size v [K0, K1] ∧ Below W.heap.size W w' := by
  have := refsplit_calls 2 0 (by decide) (some ⟨g, 0, none⟩) z60 60 (by decide) (by decide) W (fun e => nomatch e) (ArrB.bytes h)
  unfold SplitPost at this
  rw [ksplit60, kE60] at this
  exact this
theorem k_split50 (W : World) (g : Nat) (h : ArrB W g z50) : Calls Try.prog 25 #[.int .u8 1, .int .u64 2, .slice (some ⟨g, 0, none⟩) 50 50] W fun e w' => ∃ v, e = .returned (.tuple #[v, .int .i64 0]) ∧ OwnBs w' W.heap.size v [K2, K3] ∧ Below W.heap.size W w' := by
  have := refsplit_calls 1 2 (by decide) (some ⟨g, 0, none⟩) z50 50 (by decide) (by decide) W (fun e => nomatch e) (ArrB.bytes h)
  unfold SplitPost at this
  rw [ksplit50, kE50] at this
  exact this

theorem k_find (d : Dev) (m : Nat) (L : List Rc) (N : Nat) (hm : m = 3 ∨ m = 4) (hb : d.blocks = 16) (hmem : ∀ i, i < 16 → d.mem i = kmem kf m i) (hdn : d.down = false) (hL : lastsOf (refRecs ((List.range m).map kf)) = L) (hN : nextS ((List.range m).map kf) = N) (D b : Nat) (W : World) (h : DevAt W D b d) :
    Calls Try.prog 63 #[.pointer (some ⟨D, 0, none⟩)] W fun e w' => ∃ v, e = .returned (.tuple #[v, .int .u64 (N : Int), .int .i64 0]) ∧ OwnRs w' W.heap.size v L ∧ Below W.heap.size W w' := by
  have hr : devRun d = (List.range m).map kf := by
    have hR := kmem_ring kf 16 m (by omega) (by decide) (fun i hi => kf_ser i (by omega)) (fun i hi => kf_may i (by omega))
    unfold devRun
    rw [hb]
    have : allTo 16 d.mem 16 = allTo 16 (kmem kf m) 16 := by
      have hg : ∀ i, i < 16 → goodB 16 d.mem i = goodB 16 (kmem kf m) i := fun i hi => by unfold goodB; rw [hmem i hi]
      unfold allTo
      have e1 : (List.range 16).filter (goodB 16 d.mem) = (List.range 16).filter (goodB 16 (kmem kf m)) := List.filter_congr fun i hi => hg i (List.mem_range.1 hi)
      rw [e1]
      refine List.map_congr_left fun i hi => ?_
      rw [hmem i (List.mem_range.1 (List.mem_filter.1 hi).1)]
    rw [this]
    exact hR.run
  have := find_dev D b d W h hdn (by omega) (by omega)
  rw [hr, hL, hN] at this
  exact this
theorem k_laid (ax bx cx : Option Addr) (a b c : Nat) : (∀ i, i < 16 → (laidD (newD 16) [⟨K0, ax, a, 0, [], none, 0⟩, ⟨K1, bx, b, 1, [], none, 0⟩, ⟨K2, cx, c, 2, [], none, 0⟩]).mem i = kmem kf 3 i) ∧ (laidD (newD 16) [⟨K0, ax, a, 0, [], none, 0⟩, ⟨K1, bx, b, 1, [], none, 0⟩, ⟨K2, cx, c, 2, [], none, 0⟩]).blocks = 16 := by
  have h0 : wrBytes ⟨K0, ax, a, 0, [], none, 0⟩ = sealB (kf 0) := by show (if mayB K0 then sealB K0 else []) = sealB K0; rw [if_pos (by decide)]
  have h1 : wrBytes ⟨K1, bx, b, 1, [], none, 0⟩ = sealB (kf 1) := by show (if mayB K1 then sealB K1 else []) = sealB K1; rw [if_pos (by decide)]
  have h2 : wrBytes ⟨K2, cx, c, 2, [], none, 0⟩ = sealB (kf 2) := by show (if mayB K2 then sealB K2 else []) = sealB K2; rw [if_pos (by decide)]
  have l0 : (sealB (kf 0)).length = 64 := seal_length _ (by decide)
  have l1 : (sealB (kf 1)).length = 64 := seal_length _ (by decide)
  have l2 : (sealB (kf 2)).length = 64 := seal_length _ (by decide)
  simp only [laidD, List.foldl_cons, List.foldl_nil, h0, h1, h2]
  obtain ⟨p1, p2, p3, p4⟩ := writeD_plain (d := newD 16) rfl rfl 0 (by decide) _ l0
  obtain ⟨q1, q2, q3, q4⟩ := writeD_plain p3 p4 1 (by rw [p2]; decide) _ l1
  obtain ⟨r1, r2, r3, r4⟩ := writeD_plain q3 q4 2 (by rw [q2, p2]; decide) _ l2
  have e0 : (newD 16).mem = kmem kf 0 := by funext i; unfold newD kmem; rw [if_neg (Nat.not_lt_zero i)]
  refine ⟨fun i _ => ?_, ?_⟩
  · have e : (writeD (writeD (writeD (newD 16) ((0 : Nat) : Int) (sealB (kf 0))) ((1 : Nat) : Int) (sealB (kf 1))) ((2 : Nat) : Int) (sealB (kf 2))).mem = kmem kf 3 := by
      rw [r1, q1, p1, e0, kmem_upd, kmem_upd, kmem_upd]
    exact congrFun e i
  · exact r2.trans (q2.trans p2)

set_option maxRecDepth 100000 in
set_option maxHeartbeats 8000000 in
theorem known56_calls (w : World) : Calls Try.prog 56 #[] w fun e w' => e = .returned (.bool true) ∧ Below w.heap.size w w' := by
  have tok1 : True := trivial
  go_enter Try.func56, Try.ntmps56
  go_upto_region 3 with (first
    | (refine wpList_make_bytes rfl (.const (.int .i64 60)) (.const (.int .i64 60)) rfl 60 _ _ rfl rfl rfl rfl (by omega) ?_; intro w1 hz1 hg1)
    | (refine wpList_make_bytes rfl (.const (.int .i64 50)) (.const (.int .i64 50)) rfl 50 _ _ rfl rfl rfl rfl (by omega) ?_; intro w3 hz3 hg3)
    | (go_at_call 25; have _t := tok1; clear tok1 _t; refine (k_split60 w1 _ hz1).mono ?_; rintro e w2 ⟨v1, rfl, hO1, hB2⟩)
    | (go_at_call 25; refine (k_split50 w3 _ hz3).mono ?_; rintro e w4 ⟨v2, rfl, hO2, hB4⟩))
  have hB4w : Below w.heap.size w w4 := below_call (below_call ((Below.refl _ w).grown hg1 (Nat.le_refl _) (fun k e => by cases e)) (Nat.le_refl _) hB2) (Nat.le_refl _) (((Below.refl _ w2).grown hg3 (Nat.le_refl _) (fun k e => by cases e)).trans (hB4.mono hg3.size))
  have hO14 : OwnBs w4 w.heap.size v1 [K0, K1] := (hO1.later (((Below.refl _ w2).grown hg3 (Nat.le_refl _) (fun k e => by cases e)).trans (hB4.mono hg3.size))).mono (by have := hg1.size; omega)
  have hO24 : OwnBs w4 w.heap.size v2 [K2, K3] := hO2.mono (by have := hg1.size; have := hB2.size; have := hg3.size; omega)
  clear hO1 hO2 hB4 hB2 hg1 hg3 hz1 hz3
  obtain ⟨_, c1, rfl, _, _, _, _, hn1⟩ := hO14.slice
  obtain ⟨_, c2, rfl, _, _, _, _, hn2⟩ := hO24.slice
  obtain ⟨g1, a0, d0, e1, _, hk0, hb0⟩ := hO14.memAt 0 (by decide)
  cases e1
  obtain ⟨_, a1, d1, e1, _, hk1, hb1⟩ := hO14.memAt 1 (by decide)
  cases e1
  obtain ⟨g2, a2, d2, e1, _, hk2, hb2⟩ := hO24.memAt 0 (by decide)
  cases e1
  clear hn1 hn2
  have hne : Nonempty (SW (fun W => Below w4.heap.size w4 W)) := ⟨⟨w4, Below.refl _ _⟩⟩
  have up : ∀ (g o : Nat) (u : Value), w4.cell? ⟨g, o, none⟩ = some u → ∀ x : SW (fun W => Below w4.heap.size w4 W), x.W.cell? ⟨g, o, none⟩ = some u := fun g o u h x => (x.h.cell (p := ⟨g, o, none⟩) (World.block_lt_of_cell? w4 _ h)).trans h
  have x00 := up g1 0 (.int .u64 0) (hk0 0 _ rfl)
  have x01 := up g1 1 (.int .u8 2) (hk0 1 _ rfl)
  have x02 := up g1 2 (.bool true) (hk0 2 _ rfl)
  have x03 := up g1 3 (.bool false) (hk0 3 _ rfl)
  have x04 := up g1 4 (.slice a0 48 d0) (hk0 4 _ rfl)
  have x10 := up g1 5 (.int .u64 1) (hk1 0 _ rfl)
  have x11 := up g1 6 (.int .u8 2) (hk1 1 _ rfl)
  have x12 := up g1 7 (.bool false) (hk1 2 _ rfl)
  have x13 := up g1 8 (.bool true) (hk1 3 _ rfl)
  have x14 := up g1 9 (.slice a1 12 d1) (hk1 4 _ rfl)
  have x20 := up g2 0 (.int .u64 2) (hk2 0 _ rfl)
  have x21 := up g2 1 (.int .u8 1) (hk2 1 _ rfl)
  have x22 := up g2 2 (.bool true) (hk2 2 _ rfl)
  have x23 := up g2 3 (.bool false) (hk2 3 _ rfl)
  have x24 := up g2 4 (.slice a2 48 d2) (hk2 4 _ rfl)
  clear up hk0 hk1 hk2
  have wok : ∀ (X : Blk) (ax : Option Addr) (cx : Nat) (i : Int) (W : World), X.serial < 18446744073709551616 → X.body.length ≤ 9223372036854775807 → 0 ≤ i → i ≤ 2 → OwnB w4 w.heap.size (.slice ax X.body.length cx) X.body → Below w4.heap.size w4 W → WrOk W ⟨X, ax, cx, i, [], none, 0⟩ := fun X ax cx i W h1 h2 h3 h4 h5 h6 => by
    obtain ⟨ax2, cx2, e, hby, hle, _, _, hno⟩ := h5.slice
    cases e
    exact ⟨⟨h1, h2⟩, hle, fun e => by obtain ⟨q1, q2⟩ := hno e; exact ⟨by rw [q1]; rfl, q2⟩, hby.later h6, Nat.le_refl _, fun _ => ⟨rfl, rfl⟩, IsBytes.nil _ _, by show -9223372036854775808 ≤ i; omega, by show i ≤ 9223372036854775807; omega⟩
  have hws : IsWs (w4.drew.alloc (.cells #[.int .u64 0, .int .u8 2, .bool true, .bool false, .slice a0 48 d0, .int .i64 0, .slice none 0 0, .int .u64 1, .int .u8 2, .bool false, .bool true, .slice a1 12 d1, .int .i64 1, .slice none 0 0, .int .u64 2, .int .u8 1, .bool true, .bool false, .slice a2 48 d2, .int .i64 2, .slice none 0 0] 77)) (some ⟨w4.heap.size, 0, none⟩) [⟨K0, a0, d0, 0, [], none, 0⟩, ⟨K1, a1, d1, 1, [], none, 0⟩, ⟨K2, a2, d2, 2, [], none, 0⟩] := by
    have hBa : ∀ O, Below w4.heap.size w4 (w4.drew.alloc O) := fun O => ((Below.refl _ w4).drew).alloc (Nat.le_refl _) _
    intro i hi
    refine ⟨w4.heap.size, 0, rfl, ?_, ?_⟩
    · intro j u hu
      show (w4.drew.alloc _).cell? ⟨w4.drew.heap.size, 0 + 7 * i + j, none⟩ = some u
      rw [World.cell?_alloc_new]
      match i, hi with
      | 0, _ =>
        match j, hu with
        | 0, h | 1, h | 2, h | 3, h | 4, h | 5, h | 6, h => exact h
        | j + 7, h => simp [Wr.cells] at h
      | 1, _ =>
        match j, hu with
        | 0, h | 1, h | 2, h | 3, h | 4, h | 5, h | 6, h => exact h
        | j + 7, h => simp [Wr.cells] at h
      | 2, _ =>
        match j, hu with
        | 0, h | 1, h | 2, h | 3, h | 4, h | 5, h | 6, h => exact h
        | j + 7, h => simp [Wr.cells] at h
    · match i, hi with
      | 0, _ => exact wok K0 a0 d0 0 _ (by decide) (by decide) (by omega) (by omega) hb0 (hBa _)
      | 1, _ => exact wok K1 a1 d1 1 _ (by decide) (by decide) (by omega) (by omega) hb1 (hBa _)
      | 2, _ => exact wok K2 a2 d2 2 _ (by decide) (by decide) (by omega) (by omega) hb2 (hBa _)
  have hlaid := Lib.hid (laid_calls 16 _ _ 3 _ (by decide) (by decide) (by simp) hws)
  clear hws wok hb0 hb1 hb2
  refine wp_region_seq2 (fun W => Below w4.heap.size w4 W) [(0, true), (1, true), (2, true), (3, true), (4, true), (5, true), (6, true), (7, true), (8, true), (9, true), (10, true), (11, true), (12, false), (13, false), (14, true), (15, true), (16, true), (17, true), (18, true)] (by kernel_rfl) (by kernel_rfl) (fun d _ _ _ _ h => by cases d <;> exact h) ((Below.refl _ w4).drew) ?_
  repeat (first
    | ((with_reducible refine wpSeq_skip (o := ⟨_, _, _, _, _, _⟩) (by with_unfolding_all exact rfl) (by with_unfolding_all exact rfl) ?_); simp only [Act.put, List.setIfInBounds_toArray, List.set_cons_zero, List.set_cons_succ])
    | ((with_reducible refine wpSeq_free (o := ⟨_, _, _, _, _, _⟩) (by with_unfolding_all exact rfl) (by with_unfolding_all exact rfl) (fun K hK => ?_)); go_big_quiet_op; (refine hK _ ?_; clear hK K)))
  with_reducible refine wpSeq_next (o := ⟨_, _, _, _, _, _⟩) (by with_unfolding_all exact rfl) (by with_unfolding_all exact rfl) (fun K hK => ?_)
  go_simp
  refine hK.out _ _ (((Below.refl _ w4).drew).alloc (Nat.le_refl _) _) ?_
  clear hK K
  repeat (first
    | ((with_reducible refine wpSeq_skip (o := ⟨_, _, _, _, _, _⟩) (by with_unfolding_all exact rfl) (by with_unfolding_all exact rfl) ?_); simp only [Act.put, List.setIfInBounds_toArray, List.set_cons_zero, List.set_cons_succ])
    | ((with_reducible refine wpSeq_free (o := ⟨_, _, _, _, _, _⟩) (by with_unfolding_all exact rfl) (by with_unfolding_all exact rfl) (fun K hK => ?_)); go_big_quiet_op; (refine hK _ ?_; clear hK K)))
  with_reducible refine wpSeq_next (o := ⟨_, _, _, _, _, _⟩) (by with_unfolding_all exact rfl) (by with_unfolding_all exact rfl) (fun K hK => ?_)
  go_simp
  go_at_call 57
  refine hlaid.out.mono ?_
  rintro e w5 ⟨D, b, V, rfl, hT, hset, hdn⟩
  refine hK.out _ _ ((((Below.refl _ w4).drew).alloc (Nat.le_refl _) _).trans (hT.bel.mono (by simp))) ?_
  clear hK K
  repeat (first
    | ((with_reducible refine wpSeq_skip (o := ⟨_, _, _, _, _, _⟩) (by with_unfolding_all exact rfl) (by with_unfolding_all exact rfl) ?_); simp only [Act.put, List.setIfInBounds_toArray, List.set_cons_zero, List.set_cons_succ])
    | ((with_reducible refine wpSeq_free (o := ⟨_, _, _, _, _, _⟩) (by with_unfolding_all exact rfl) (by with_unfolding_all exact rfl) (fun K hK => ?_)); go_big_quiet_op; (refine hK _ ?_; clear hK K)))
  refine wpSeq_nil ?_
  obtain ⟨hmem3, hblk3⟩ := k_laid a0 a1 a2 d0 d1 d2
  have hTlo := hT.lo
  rw [World.size_alloc] at hTlo
  have hTb : Below w4.heap.size w4 w5 := (((Below.refl _ w4).drew).alloc (Nat.le_refl _) _).trans (hT.bel.mono (by simp))
  obtain ⟨dd, hdd⟩ : ∃ dd, dd = laidD (newD 16) [⟨K0, a0, d0, 0, [], none, 0⟩, ⟨K1, a1, d1, 1, [], none, 0⟩, ⟨K2, a2, d2, 2, [], none, 0⟩] := ⟨_, rfl⟩
  obtain ⟨rr, hrr⟩ : ∃ rr, rr = laidR (rnewD 16) [⟨K0, a0, d0, 0, [], none, 0⟩, ⟨K1, a1, d1, 1, [], none, 0⟩, ⟨K2, a2, d2, 2, [], none, 0⟩] := ⟨_, rfl⟩
  rw [← hdd] at hT hset hdn hmem3 hblk3
  rw [← hrr] at hT
  have hP := hT.rel
  refine over_world (R := fun W => DevAt W D b dd ∧ RefAt W V rr ∧ OwnBs W w.heap.size (.slice (some ⟨g2, 0, none⟩) 2 c2) [K2, K3] ∧ Below w.heap.size w W ∧ w4.heap.size ≤ W.heap.size) ⟨hT.dev, hT.ref, hO24.later hTb, below_call hB4w (Nat.le_refl _) hTb, hTb.size⟩ ?_
  have hg2 : g2 < w4.heap.size := by obtain ⟨g, _, _, e, h, _⟩ := hO24.memAt 0 (by decide); cases e; exact h
  have hlow : w4.heap.size ≤ D ∧ w4.heap.size ≤ b ∧ w4.heap.size ≤ V := by
    have e : w4.drew.heap.size = w4.heap.size := rfl
    omega
  have hw4s := hB4w.size
  clear hT hTb hTlo hO14 hO24 hB4w hlaid x00 x01 x02 x03 x04 x10 x11 x12 x13 x14 x20 x21 x22 x23 x24 hne hdd hrr
  rintro wa ⟨hD, hV, hM, hbw, hwa4⟩
  have hl3 : (sealB K3).length = 64 := seal_length _ (by decide)
  obtain ⟨q1, q2, q3, q4⟩ := writeD_plain hset hdn 3 (by rw [hblk3]; decide) (sealB K3) hl3
  have hmem4 : ∀ i, i < 16 → (writeD dd ((3 : Nat) : Int) (sealB K3)).mem i = kmem kf 4 i := fun i hi => by
    rw [q1, ← kmem_upd kf 3]
    unfold updB
    by_cases e : i = 3
    · rw [if_pos e, if_pos e]; rfl
    · rw [if_neg e, if_neg e]; exact hmem3 i hi
  have hfind1 := Lib.hid (k_find dd 3 [⟨2, 0, z60⟩] 3 (.inl rfl) hblk3 hmem3 hdn (by rw [run3]; exact recs3) rfl D b)
  have hfind2 := Lib.hid (k_find (writeD dd ((3 : Nat) : Int) (sealB K3)) 4 [⟨2, 0, z60⟩, ⟨1, 2, z50⟩] 4 (.inr rfl) (by rw [q2, hblk3]) hmem4 q4 (by rw [run4]; exact recs4) rfl D b)
  have hw42 := Lib.hid (fun W q a1 c1 h hno => write_dev D b dd ((3 : Nat) : Int) a1 (sealB K3) c1 W q hP.ok h hno)
  have hw48 := Lib.hid (fun W q a1 c1 h hcap => rwrite_calls V rr ((3 : Nat) : Int) a1 (sealB K3) c1 W q (by rw [hP.len]; decide) h (by have := hP.w0; omega) hP.w1 hP.p0 hP.p1 hcap)
  have henc := Lib.hid (show ∀ a d W B, OwnB W B (.slice a K3.body.length d) K3.body → Calls Try.prog 32 #[.agg #[.int .u64 3, .int .u8 1, .bool false, .bool true, .slice a 2 d]] W fun e w' => ∃ v, e = .returned (.tuple #[v, .int .i64 0]) ∧ OwnB w' W.heap.size v (sealB K3) ∧ Below W.heap.size W w' from fun a d W B h => by
    obtain ⟨a', d', e, hby, _, _, _, hno⟩ := h.slice
    cases e
    exact refencode_good K3 a d W (fun e => by obtain ⟨q1, q2⟩ := hno e; exact ⟨by rw [q1]; rfl, q2⟩) hby (by decide))
  have hnil := Lib.hid find_nil
  have hVn : V ∉ [D, b] := by have := hD.apart hV; simp; omega
  have HL := Lib.hid hl3
  have tok2 : True := trivial
  have tok3 : True := trivial
  clear hmem3 hmem4 q1 q2 q3 q4 hset hdn hblk3 hP hl3
  go_upto_region 12 with (first
    | (go_at_call 63; have _t := tok2; clear tok2 _t; refine (hfind1.out _ hD).mono ?_; rintro e w6 ⟨va, rfl, hOa, hB6⟩; obtain ⟨aa, ca, rfl, _⟩ := hOa.slice; obtain ⟨ga, ab, cb, rfl, hgl, hgu, hka, hba⟩ := hOa.memAt 0 (by decide); obtain ⟨g5, a3, d3, e3, _, hk3, hb3⟩ := (hM.later hB6).memAt 1 (by decide); have e5 : g5 = g2 := (by injection e3 with e3; injection e3 with e3; exact e3.symm); rw [e5] at hk3; have y0 : w6.cell? ⟨g2, 5, none⟩ = some (.int .u64 3) := hk3 0 _ rfl; have y1 : w6.cell? ⟨g2, 6, none⟩ = some (.int .u8 1) := hk3 1 _ rfl; have y2 : w6.cell? ⟨g2, 7, none⟩ = some (.bool false) := hk3 2 _ rfl; have y3 : w6.cell? ⟨g2, 8, none⟩ = some (.bool true) := hk3 3 _ rfl; have y4 : w6.cell? ⟨g2, 9, none⟩ = some (.slice a3 2 d3) := hk3 4 _ rfl; have z0 : w6.cell? ⟨ga, 0, none⟩ = some (.int .u8 2) := hka 0 _ rfl; have z2 : w6.cell? ⟨ga, 2, none⟩ = some (.slice ab 60 cb) := hka 2 _ rfl; clear hk3 hka hOa e3 e5)
    | (go_at_call 32; refine (henc.out a3 d3 w6 _ hb3).mono ?_; rintro e w7 ⟨vb, rfl, hOb, hB7⟩; obtain ⟨a7, c7, rfl, hby7, hle7, _, hbk7, hno7⟩ := hOb.slice; have hBB := below_call hB6 (Nat.le_refl _) hB7; have hD7 := hD.later hBB; have hV7 := hV.later hBB; have hno4 : ∀ q off, a7 = some ⟨q, off, none⟩ → q ∉ [D, b] := (fun q off e => (by obtain ⟨g, e1, e2, _⟩ := hbk7 _ e; cases e1; have := hD.lt; have := hD.ltb; have := hB6.size; simp; omega)); have z0' := (hB7.cell (p := ⟨ga, 0, none⟩) hgu).trans z0; have z2' := (hB7.cell (p := ⟨ga, 2, none⟩) hgu).trans z2)
    | (go_at_call 42; refine (hw42.out _ hD7 a7 c7 hby7 hno4).mono ?_; rintro e w8 ⟨rfl, hD8, hA8⟩; have hV8 := hV7.aside hA8 hVn; have hby8 := hby7.aside hA8 hno4)
    | (go_at_call 48; refine (hw48.out _ hV8 a7 c7 hby8 hle7).mono ?_; rintro e w9 ⟨rfl, hV9, hA9⟩; have hD9 := hD8.aside hA9 (by have := hD8.apart hV8; simp; omega) (by have := hD8.apart hV8; simp; omega))
    | (go_at_call 63; have _t := tok3; clear tok3 _t; refine (hfind2.out _ hD9).mono ?_; rintro e w10 ⟨vc, rfl, hOc, hB10⟩; obtain ⟨ac, cc, rfl, _⟩ := hOc.slice; obtain ⟨gc, ab2, cb2, rfl, hgl2, hgu2, hkc, hbc⟩ := hOc.memAt 1 (by decide); have u0 : w10.cell? ⟨gc, 3, none⟩ = some (.int .u8 1) := hkc 0 _ rfl)
    | (go_at_call 63; refine (hnil.out _).mono ?_; rintro e w11 ⟨rfl, hB11⟩))
  have hDl := hD.lt
  have hbl := hD.ltb
  have hVl := hV.lt
  have s7 := hBB.size
  have s8 := hA8.size
  have s9 := hA9.size
  have s10 := hB10.size
  have s67 := hB7.size
  have hup : ∀ (o : Nat) (u : Value), w7.cell? ⟨ga, o, none⟩ = some u → w11.cell? ⟨ga, o, none⟩ = some u := fun o u h => by
    have e8 := (World.cell?_of_block (a := ⟨ga, o, none⟩) (hA8.block ga (by omega) (by simp; omega))).trans h
    have e9 := (World.cell?_of_block (a := ⟨ga, o, none⟩) (hA9.block ga (by omega) (by simp; omega))).trans e8
    have e10 := (hB10.cell (p := ⟨ga, o, none⟩) (by show ga < w9.heap.size; omega)).trans e9
    exact (hB11.cell (p := ⟨ga, o, none⟩) (by show ga < w10.heap.size; omega)).trans e10
  have t0 := hup 0 _ z0'
  have t2 := hup 2 _ z2'
  have t3 := (hB11.cell (p := ⟨gc, 3, none⟩) hgu2).trans u0
  have hfin : Below w.heap.size w w11 := below_call (below_call ((below_call hbw (Nat.le_refl _) hBB).trans (((hA8.toBelow (fun k hk => by simp at hk; omega) (by omega)).trans (hA9.toBelow (fun k hk => by simp at hk; omega) (by omega))))) (Nat.le_refl _) hB10) (Nat.le_refl _) hB11
  clear hup hD hV hM hbw hBB hD7 hV7 hby7 hA8 hA9 hV8 hby8 hV9 hD9 hB10 hB11 hD8
  go_wp2
  go_ret
  exact ⟨rfl, hfin⟩
end Go.Proofs.Ytdlbjllgdikadaa

namespace Go.Proofs.Ytdlbjllgdikadaa
open Go.RowKit
set_option linter.unusedVariables false
set_option linter.unusedSimpArgs false

theorem IsRs.drop {w : World} {a : Option Addr} {l : List Rc} (h : IsRs w a l) (i : Nat) (hi : i < l.length) : ∀ b off, a = some ⟨b, off, none⟩ → IsRs w (some ⟨b, off + i * 3, none⟩) (l.drop i) := by
  intro b off ha q hq
  rw [List.length_drop] at hq
  obtain ⟨b2, o2, ab, cap, e, hc, h1, h2, h3⟩ := h (i + q) (by omega)
  rw [ha] at e
  cases e
  refine ⟨b, off + i * 3, ab, cap, rfl, fun j u hu => ?_, by rw [List.getElem_drop]; exact h1, by rw [List.getElem_drop]; exact h2, by rw [List.getElem_drop]; exact h3⟩
  rw [List.getElem_drop] at hu
  have := hc j u hu
  rw [show off + i * 3 + 3 * q + j = off + 3 * (i + q) + j by omega]
  exact this

theorem lastsOf_found (L : List Rc) (i : Nat) (hi : i < L.length) (hk : L[i].kind = 2) (hno : ∀ j (hj : j < L.length), i < j → L[j].kind ≠ 2) : lastsOf L = L.drop i := by
  induction L generalizing i with
  | nil => exact absurd hi (Nat.not_lt_zero _)
  | cons r rs ih =>
    simp only [lastsOf]
    cases i with
    | zero =>
      rw [if_neg, if_pos (by simpa using hk)]
      · rfl
      · intro h
        obtain ⟨x, hx, hx2⟩ := List.any_eq_true.1 h
        obtain ⟨j, hj, e⟩ := List.mem_iff_getElem.1 hx
        exact hno (j + 1) (by simpa using hj) (Nat.succ_pos _) (by simp only [List.getElem_cons_succ]; rw [e]; simpa using hx2)
    | succ i =>
      have hi2 : i < rs.length := by simpa using hi
      rw [if_pos (List.any_eq_true.2 ⟨rs[i], List.getElem_mem hi2, by simpa using hk⟩)]
      exact ih i hi2 (by simpa using hk) (fun j hj hij => by have := hno (j + 1) (by simpa using hj) (by omega); simpa using this)
theorem lastsOf_none (L : List Rc) (hno : ∀ j (hj : j < L.length), L[j].kind ≠ 2) : lastsOf L = [] := by
  induction L with
  | nil => rfl
  | cons r rs ih =>
    simp only [lastsOf]
    rw [if_neg, if_neg]
    · intro h; exact hno 0 (by simp) (by simpa using h)
    · intro h
      obtain ⟨x, hx, hx2⟩ := List.any_eq_true.1 h
      obtain ⟨j, hj, e⟩ := List.mem_iff_getElem.1 hx
      exact hno (j + 1) (by simpa using hj) (by simp only [List.getElem_cons_succ]; rw [e]; simpa using hx2)
theorem refRecs_len (L : List Blk) : (refRecs L).length ≤ L.length := by
  induction L with
  | nil => exact Nat.le_refl _
  | cons x l ih =>
    simp only [refRecs, List.length_append, List.length_cons]
    by_cases hf : x.first = true
    · rw [if_pos hf]
      cases recAt x l with
      | none => simp; omega
      | some b => simp; omega
    · rw [if_neg hf]; simp; omega

/-- What ref.Find tells: a row of records (a window of one), and the next serial. -/
def RFindPost (l : List Rc) (n : Nat) (w : World) (e : Ending) (w' : World) : Prop :=
  ∃ a c, e = .returned (.tuple #[.slice a l.length c, .int .u64 (n : Int)]) ∧ IsRs w' a l ∧ l.length ≤ c ∧ Below w.heap.size w w'

set_option maxRecDepth 100000 in
set_option maxHeartbeats 8000000 in
theorem reffind_run (V : Nat) (run : List Blk) (w : World) (hrun : Calls Try.prog 59 #[.pointer (some ⟨V, 0, none⟩)] w fun e w' => ∃ v, e = .returned v ∧ OwnBs w' w.heap.size v run ∧ Below w.heap.size w w')
    (hmay : ∀ x ∈ run, x.serial ≤ 1099511627776 ∧ x.body.length ≤ 48) (hlen : run.length ≤ 1099511627777) :
    Calls Try.prog 64 #[.pointer (some ⟨V, 0, none⟩)] w (RFindPost (lastsOf (refRecs run)) (nextS run) w) := by
  have Hrun := Lib.hid hrun
  clear hrun
  by_cases hne : run = []
  · subst hne
    go_enter Try.func64, Try.ntmps64
    go_wp2_with (go_at_call 59; refine Hrun.out.mono ?_; rintro e w1 ⟨v, rfl, hO, hB⟩; obtain ⟨ab, cap, rfl, hIs, hlc, hcm, hab, hno⟩ := hO.slice)
    go_ret2
    exact ⟨none, 0, rfl, fun i hi => absurd hi (Nat.not_lt_zero _), Nat.zero_le _, hB⟩
  · obtain ⟨m, hm⟩ : ∃ m, run.length = m + 1 := ⟨run.length - 1, by have : ¬ run.length = 0 := fun e => hne (List.length_eq_zero_iff.1 e); omega⟩
    have hser : run[m].serial ≤ 1099511627776 := (hmay _ (List.getElem_mem _)).1
    have hnx : nextS run = run[m].serial + 1 := by
      unfold nextS
      rw [List.getLast?_eq_getElem?]
      simp only [hm, Nat.add_sub_cancel]
      rw [List.getElem?_eq_getElem (by omega)]
    have hrecs := Lib.hid (show ∀ a c W, IsBs W a run → Calls Try.prog 62 #[.slice a run.length c] W fun e w' => ∃ v, e = .returned v ∧ OwnRs w' W.heap.size v (refRecs run) ∧ Below W.heap.size W w' from fun a c W h => refrecords_calls run a c W h (fun x hx => Nat.le_trans (hmay x hx).2 (by decide)) hlen)
    have hrl : (refRecs run).length ≤ 1099511627777 := Nat.le_trans (refRecs_len run) hlen
    obtain ⟨S, hS⟩ : ∃ S, S = run[m].serial := ⟨_, rfl⟩
    have hlast : ∀ (a : Option Addr) (W : World), IsBs W a run → ∃ b off, a = some ⟨b, off, none⟩ ∧ W.cell? ⟨b, off + m * 5, none⟩ = some (.int .u64 (S : Int)) := fun a W hI => by
      obtain ⟨b, off, abl, capl, hab2, hx, _⟩ := hI m (by omega)
      refine ⟨b, off, hab2, ?_⟩
      rw [hS, show off + m * 5 = off + 5 * m + 0 by omega]
      exact hx 0 _ rfl
    rw [← hS] at hnx hser
    have HNX := Lib.hid hnx
    have HL := Lib.hid hlast
    obtain ⟨R, hR⟩ : ∃ R, R = refRecs run := ⟨_, rfl⟩
    rw [← hR] at hrecs hrl ⊢
    obtain ⟨N, hN⟩ : ∃ N, N = nextS run := ⟨_, rfl⟩
    rw [← hN] at HNX ⊢
    have HHm := Lib.hid hm
    rw [hm] at hrecs
    clear hS hnx hlast hR hN hne
    go_enter Try.func64, Try.ntmps64
    go_wp2_with (first
      | (go_at_call 59; refine Hrun.out.mono ?_; rintro e w1 ⟨v, rfl, hO, hB⟩; obtain ⟨ab, cap, rfl, hIs, hlc, hcm, hab, hno⟩ := hO.slice; obtain ⟨b, off, rfl, hcl⟩ := HL.out _ _ hIs; rw [hm])
      | (go_at_call 62; refine (hrecs.out _ _ _ hIs).mono ?_; rintro e w2 ⟨v2, rfl, hO2, hB2⟩; obtain ⟨a2, c2, rfl, hI2, hlc2, _, _, hno2⟩ := hO2.slice))
    have hbt := below_call hB (Nat.le_refl _) hB2
    obtain ⟨L, hL⟩ : ∃ L, L = R.length := ⟨_, rfl⟩
    rw [← hL] at hrl ⊢
    have HLL := Lib.hid hL
    have hLI : (L : Int) ≤ 1099511627777 := by omega
    have hc2 : L ≤ c2 := by omega
    clear hL
    go_loopw [7] (fun iv wq => ∃ s : Nat, s ≤ L ∧ iv = .int .i64 ((s : Int) - 1) ∧ (∀ j (hj : j < R.length), s ≤ j → R[j].kind ≠ 2) ∧ Below w2.heap.size w2 wq) (fun iv _ => (intOf iv + 1).toNat)
    case atStart => exact ⟨L, Nat.le_refl _, rfl, fun j hj h2 => absurd hj (by rw [← HLL.out]; omega), Below.refl _ _⟩
    case round =>
      obtain ⟨s, hs, rfl, hno3, hbq⟩ := hrel
      cases s with
      | zero =>
        have hlast : lastsOf R = [] := lastsOf_none R fun j hj => hno3 j hj (Nat.zero_le _)
        have HT := Lib.hid hlast
        clear hlast hno3
        go_wp2
        go_ret2
        rw [HT.out]
        exact ⟨none, 0, by rw [HNX.out]; rfl, fun i hi => absurd hi (Nat.not_lt_zero _), Nat.zero_le _, below_call hbt (Nat.le_refl _) hbq⟩
      | succ s =>
        have hsR : s < R.length := by rw [← HLL.out]; omega
        obtain ⟨b2, o2, abl, capl, e2, hx, _⟩ := hI2.later hbq s hsR
        cases e2
        have k0 : wr.cell? ⟨b2, o2 + s * 3, none⟩ = some (.int .u8 (R[s].kind.toNat : Int)) := by rw [show o2 + s * 3 = o2 + 3 * s + 0 by omega]; exact hx 0 _ rfl
        clear hx
        have hsI : ((s + 1 : Nat) : Int) - 1 = (s : Int) := by omega
        have hsL : (s : Int) < (L : Int) := by omega
        rw [hsI]
        by_cases hk : R[s].kind = 2
        · have hkI : ((R[s].kind.toNat : Int) == 2) = true := by rw [hk]; rfl
          have hlast : lastsOf R = R.drop s := lastsOf_found R s hsR hk fun j hj hij => hno3 j hj (by omega)
          have hdr := IsRs.drop (hI2.later hbq) s hsR b2 o2 rfl
          have HT := Lib.hid (And.intro hlast hdr)
          have hsc : s ≤ c2 := by omega
          have hsc2 : ¬ c2 = s := by omega
          have hsl2 : s ≤ L := by omega
          clear hlast hk hno3 hdr
          go_wp2
          go_ret2
          rw [HT.out.1]
          refine ⟨some ⟨b2, o2 + s * 3, none⟩, c2 - s, ?_, HT.out.2, by rw [List.length_drop, ← HLL.out]; omega, below_call hbt (Nat.le_refl _) hbq⟩
          rw [List.length_drop, ← HLL.out, HNX.out]
          rfl
        · have hkI : ((R[s].kind.toNat : Int) == 2) = false := by rw [beq_eq_false_iff_ne]; intro e; exact hk (UInt8.toNat_inj.1 (by have : (2 : UInt8).toNat = 2 := rfl; omega))
          have HK := Lib.hid (And.intro hk hno3)
          clear hk hno3
          go_wp2
          go_roundw
          case rel =>
            refine ⟨s, by omega, by go_num, fun j hj h2 => ?_, hbq⟩
            rcases Nat.lt_or_ge s j with h3 | h3
            · exact HK.out.2 j hj h3
            · have e : j = s := by omega
              subst e
              exact HK.out.1
          case measure => simp [intOf]
end Go.Proofs.Ytdlbjllgdikadaa

namespace Go.Proofs.Ytdlbjllgdikadaa
open Go.RowKit
set_option linter.unusedVariables false
set_option linter.unusedSimpArgs false

theorem two_run {n k : Nat} {w W : World} {D b V : Nat} {d : Dev} {r : RDev} (h : Two n k w W D b V d r) : runOf (allTo n (win r.B) n) = devRun d := by
  unfold devRun
  rw [h.rel.blocks]
  have hg : ∀ i, i < n → goodB n (win r.B) i = goodB n d.mem i := fun i hi => by unfold goodB; rw [h.rel.mem i hi]
  have e : allTo n (win r.B) n = allTo n d.mem n := by
    unfold allTo
    rw [List.filter_congr fun i hi => hg i (List.mem_range.1 hi)]
    refine List.map_congr_left fun i hi => ?_
    rw [h.rel.mem i (List.mem_range.1 (List.mem_filter.1 hi).1)]
  rw [e]

theorem lastsOf_len (L : List Rc) : (lastsOf L).length ≤ L.length := by
  induction L with
  | nil => exact Nat.le_refl _
  | cons r rs ih =>
    simp only [lastsOf]
    split
    · simp only [List.length_cons]; omega
    · split
      · exact Nat.le_refl _
      · exact Nat.zero_le _

set_option maxRecDepth 100000 in
set_option maxHeartbeats 8000000 in
theorem finds_walk (n : Int) (l : List Wr) (a : Option Addr) (c : Nat) (w : World) (hW : IsWs w a l) (hc : l.length ≤ c) :
    Calls Try.prog 10 #[.int .i64 n, .slice a l.length c] w fun e w' => e = .returned (.bool true) ∧ Below w.heap.size w w' := by
  have hkn := Lib.hid known56_calls
  by_cases hbad : n < 16 ∨ 40 < n ∨ 60 < l.length
  · by_cases h1 : n < 16
    · go_enter Try.func10, Try.ntmps10
      go_wp2_with (go_at_call 56; refine (hkn.out _).mono ?_; rintro e w1 ⟨rfl, hB1⟩)
      go_ret
      exact ⟨rfl, hB1⟩
    · by_cases h2 : 40 < n
      · go_enter Try.func10, Try.ntmps10
        go_wp2_with (go_at_call 56; refine (hkn.out _).mono ?_; rintro e w1 ⟨rfl, hB1⟩)
        go_ret
        exact ⟨rfl, hB1⟩
      · have h3 : 60 < (l.length : Int) := by omega
        go_enter Try.func10, Try.ntmps10
        go_wp2_with (go_at_call 56; refine (hkn.out _).mono ?_; rintro e w1 ⟨rfl, hB1⟩)
        go_ret
        exact ⟨rfl, hB1⟩
  · obtain ⟨N, rfl⟩ := Int.eq_ofNat_of_zero_le (show 0 ≤ n by omega)
    have h1 : ¬ ((N : Nat) : Int) < 16 := by omega
    have h2 : ¬ 40 < ((N : Nat) : Int) := by omega
    have h3 : ¬ 60 < (l.length : Int) := by omega
    have h16 : 16 ≤ N := by omega
    have h40 : N ≤ 40 := by omega
    have h60 : l.length ≤ 60 := by omega
    clear hbad
    go_enter Try.func10, Try.ntmps10
    go_wp2
    go_loopw [30] (fun iv wr => ∃ j : Nat, j ≤ l.length ∧ iv = .int .i64 (j : Int) ∧ w = wr) (fun iv _ => l.length - (intOf iv).toNat)
    case atStart => exact ⟨0, Nat.zero_le _, rfl, rfl⟩
    case round =>
      obtain ⟨j, hj, rfl, rfl⟩ := hrel
      by_cases hlt : j < l.length
      · obtain ⟨b1, o1, ha1, hc1, ho⟩ := hW j hlt
        have hjI : (j : Int) < (l.length : Int) := by omega
        have f4 : w.cell? ⟨b1, o1 + j * 7 + 4, none⟩ = some (.slice l[j].ax l[j].X.body.length l[j].cx) := by rw [show o1 + j * 7 + 4 = o1 + 7 * j + 4 by omega]; exact hc1 4 _ rfl
        have f6 : w.cell? ⟨b1, o1 + j * 7 + 6, none⟩ = some (.slice l[j].ar l[j].raw.length l[j].cr) := by rw [show o1 + j * 7 + 6 = o1 + 7 * j + 6 by omega]; exact hc1 6 _ rfl
        obtain ⟨x, hx⟩ : ∃ x, x = l[j] := ⟨_, rfl⟩
        rw [← hx] at f4 f6
        have HX := Lib.hid (And.intro hx hc1)
        cases ha1
        clear hx hc1
        by_cases g1 : 100 < x.raw.length
        · have g1I : (100 : Int) < (x.raw.length : Int) := by omega
          go_wp2_with (go_at_call 56; refine (hkn.out _).mono ?_; rintro e w1 ⟨rfl, hB1⟩)
          go_ret
          exact ⟨rfl, hB1⟩
        · have g1I : ¬ (100 : Int) < (x.raw.length : Int) := by omega
          by_cases g2 : 100 < x.X.body.length
          · have g2I : (100 : Int) < (x.X.body.length : Int) := by omega
            go_wp2_with (go_at_call 56; refine (hkn.out _).mono ?_; rintro e w1 ⟨rfl, hB1⟩)
            go_ret
            exact ⟨rfl, hB1⟩
          · have g2I : ¬ (100 : Int) < (x.X.body.length : Int) := by omega
            go_wp2
            go_roundw
            case rel => exact ⟨j + 1, by omega, by go_num, trivial⟩
            case measure => simp [intOf]; omega
      · have hje : j = l.length := by omega
        subst hje
        have hlaid := Lib.hid (show Calls Try.prog 57 #[.int .i64 (N : Int), .slice a l.length c] w fun e w' => ∃ D b V d r, e = .returned (.tuple #[.pointer (some ⟨D, 0, none⟩), .pointer (some ⟨V, 0, none⟩)]) ∧ Two N l.length w w' D b V d r ∧ d.down = false from
          (laid_calls N l a c w h16 (by omega) (by omega) hW).mono fun e w' ⟨D, b, V, q1, q2, _, q4⟩ => ⟨D, b, V, _, _, q1, q2, q4⟩)
        have tok1 : True := trivial
        have hl64 : ∀ d : Dev, (devRun d).length ≤ 70368744177664 := fun d => Nat.le_trans (devRun_len d) (by omega)
        go_wp2_with (first
          | (go_at_call 57; refine hlaid.out.mono ?_; rintro e w1 ⟨D, b, V, d, r, rfl, hT, hdn⟩; have hbk := hT.rel.blocks; have hrl := hT.rel.len; have hre := two_run hT; have hmay := devRun_may d; have hdl := devRun_len d)
          | (go_at_call 58; refine (run_good D b d w1 hT.dev hdn (by omega) (by omega)).mono ?_; rintro e w2 ⟨v1, rfl, hO1, hB2⟩; have hO1' : OwnBs w2 w1.heap.size v1 (devRun d) := hO1; clear hO1; obtain ⟨a1, c1, rfl, hI1, _⟩ := hO1'.slice; have hT2 := hT.later hB2)
          | (go_at_call 59; refine (refrun_calls V N r w2 hT2.ref hrl (by omega) h40).mono ?_; rintro e w3 ⟨v2, rfl, hO2, hB3⟩; rw [hre] at hO2; obtain ⟨a2, c2, rfl, hI2, _⟩ := hO2.slice; have hT3 := hT2.later hB3; have hI13 := hI1.later hB3)
          | (go_at_call 26; refine (sameAll_calls (devRun d) (devRun d) a1 a2 c1 c2 w3 hI13 hI2 (hl64 d) (hl64 d)).mono ?_; rintro e w4 ⟨q, rfl, hq, hB4⟩; obtain rfl := hq.2 rfl; have hT4 := hT3.later hB4; have hI14 := hI13.later hB4; have hI24 := hI2.later hB4)
          | (go_at_call 61; refine (records_calls a1 c1 (devRun d) w4 hI14 (fun x hx => Nat.le_trans (hmay x hx).2 (by decide)) hdl).mono ?_; rintro e w5 ⟨v3, rfl, hO3, hB5⟩; obtain ⟨a3, c3, rfl, hI3, _⟩ := hO3.slice; have hT5 := hT4.later hB5; have hI25 := hI24.later hB5)
          | (go_at_call 62; refine (refrecords_calls (devRun d) a2 c2 w5 hI25 (fun x hx => Nat.le_trans (hmay x hx).2 (by decide)) hdl).mono ?_; rintro e w6 ⟨v4, rfl, hO4, hB6⟩; obtain ⟨a4, c4, rfl, hI4, _⟩ := hO4.slice; have hT6 := hT5.later hB6; have hI36 := hI3.later hB6)
          | (go_at_call 60; have _t := tok1; clear tok1 _t; refine (sameRs_calls (refRecs (devRun d)) (refRecs (devRun d)) a3 a4 c3 c4 w6 hI36 hI4 (Nat.le_trans (refRecs_len _) (hl64 d))).mono ?_; rintro e w7 ⟨q2, rfl, hq2, hB7⟩; obtain rfl := hq2.2 rfl; have hT7 := hT6.later hB7)
          | (go_at_call 63; refine (find_dev D b d w7 hT7.dev hdn (by omega) (by omega)).mono ?_; rintro e w8 ⟨v5, rfl, hO5, hB8⟩; obtain ⟨a5, c5, rfl, hI5, _⟩ := hO5.slice; have hT8 := hT7.later hB8)
          | (go_at_call 64; refine (reffind_run V (devRun d) w8 ((refrun_calls V N r w8 hT8.ref hrl (by omega) h40).mono fun e w' ⟨v, q1, q2, q3⟩ => ⟨v, q1, by rw [← hre]; exact q2, q3⟩) hmay hdl).mono ?_; rintro e w9 ⟨a6, c6, rfl, hI6, _, hB9⟩; have hT9 := hT8.later hB9; have hI59 := hI5.later hB9)
          | (go_at_call 60; refine (sameRs_calls (lastsOf (refRecs (devRun d))) (lastsOf (refRecs (devRun d))) a5 a6 c5 c6 w9 hI59 hI6 (Nat.le_trans (lastsOf_len _) (Nat.le_trans (refRecs_len _) (hl64 d)))).mono ?_; rintro e w10 ⟨q3, rfl, hq3, hB10⟩; obtain rfl := hq3.2 rfl; have hT10 := hT9.later hB10)
          | (go_at_call 56; refine (hkn.out _).mono ?_; rintro e w11 ⟨rfl, hB11⟩))
        go_ret
        exact ⟨rfl, below_call hT10.bel (Nat.le_refl _) hB11⟩
end Go.Proofs.Ytdlbjllgdikadaa
