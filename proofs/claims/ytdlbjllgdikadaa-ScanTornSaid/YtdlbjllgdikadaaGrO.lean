/- DevicePlays: the plain law. DevicePlays: the calls' row, the short ways. DevicePlays: what the loop's round needs. -/
import Derived.Test.YtdlbjllgdikadaaGrN
import Derived.Test.YtdlbjllgdikadaaGrM
import Derived.Test.YtdlbjllgdikadaaGrJ
import Derived.Deep.CutRange
namespace Go.Proofs.Ytdlbjllgdikadaa
open Go.RowKit

theorem win_sub64 (L : List UInt8) (n k : Nat) (s : List UInt8) (h : L.length = 64 * n) (hk : k < n) (hs : s.length = 64) (i : Nat) (hi : i < n) :
    win (sub64 L k s) i = if i = k then s else win L i := by
  have hl : (sub64 L k s).length = 64 * n := by
    unfold sub64
    rw [List.length_append, List.length_append, List.length_take, List.length_drop, h, hs]; omega
  have wl : ∀ M : List UInt8, M.length = 64 * n → ∀ j, j < n → (win M j).length = 64 := fun M hM j hj => by
    unfold win
    rw [List.length_take, List.length_drop, hM]; omega
  apply List.ext_getElem
  · rw [wl _ hl i hi]
    split
    · rw [hs]
    · rw [wl _ h i hi]
  · intro q h0 h2
    have h1 := h0
    rw [wl _ hl i hi] at h1
    have e1 : (win (sub64 L k s) i)[q]? = (sub64 L k s)[64 * i + q]? := by
      unfold win
      rw [List.getElem?_take_of_lt h1, List.getElem?_drop]
    have e2 : (sub64 L k s)[64 * i + q]? = if k * 64 ≤ 64 * i + q ∧ 64 * i + q < k * 64 + 64 then s[64 * i + q - k * 64]? else L[64 * i + q]? := by
      unfold sub64
      rw [List.append_assoc]
      by_cases c1 : 64 * i + q < k * 64
      · rw [List.getElem?_append_left (by rw [List.length_take, h]; omega), List.getElem?_take_of_lt (by omega), if_neg (by omega)]
      · rw [List.getElem?_append_right (by rw [List.length_take, h]; omega), List.length_take, h, Nat.min_eq_left (by omega)]
        by_cases c2 : 64 * i + q < k * 64 + 64
        · rw [List.getElem?_append_left (by omega), if_pos ⟨by omega, c2⟩]
          congr 1; omega
        · rw [List.getElem?_append_right (by omega), List.getElem?_drop, if_neg (by omega)]
          congr 1; omega
    have goal : (win (sub64 L k s) i)[q]? = (if i = k then s else win L i)[q]? := by
      rw [e1, e2]
      by_cases c : i = k
      · subst c
        rw [if_pos rfl, if_pos (by omega)]
        congr 1; omega
      · rw [if_neg c, if_neg (by omega)]
        unfold win
        rw [List.getElem?_take_of_lt h1, List.getElem?_drop]
    rw [List.getElem?_eq_getElem h0, List.getElem?_eq_getElem h2] at goal
    exact Option.some.inj goal

theorem sub64_length (L : List UInt8) (n k : Nat) (s : List UInt8) (h : L.length = 64 * n) (hk : k < n) (hs : s.length = 64) : (sub64 L k s).length = 64 * n := by
  unfold sub64
  rw [List.length_append, List.length_append, List.length_take, List.length_drop, h, hs]; omega

/-- The two devices, after k writes at most. -/
structure PRel (n k : Nat) (d : Dev) (r : RDev) : Prop where
  blocks : d.blocks = n
  set : d.set = r.set
  down : d.down = r.off
  len : r.B.length = 64 * n
  mem : ∀ i, i < n → win r.B i = d.mem i
  num : d.set = true → d.writes = r.writes ∧ d.prefix_ = r.prefix_ ∧ 0 ≤ d.writes
  ok : DevOk d
  low : -(k : Int) ≤ d.writes
  p0 : 0 ≤ r.prefix_
  p1 : r.prefix_ ≤ 64
  w0 : 0 ≤ r.writes
  w1 : r.writes ≤ 9223372036854775807

theorem PRel.more {n k k' : Nat} {d : Dev} {r : RDev} (h : PRel n k d r) (hk : k ≤ k') : PRel n k' d r :=
  ⟨h.blocks, h.set, h.down, h.len, h.mem, h.num, h.ok, by have := h.low; omega, h.p0, h.p1, h.w0, h.w1⟩

theorem PRel.may {n k : Nat} {d : Dev} {r : RDev} (h : PRel n k d r) (i : Int) : mayE d i = rdE r i := by
  unfold mayE rdE
  rw [h.down, h.blocks, h.len, Nat.mul_div_cancel_left n (by omega)]

theorem PRel.start (n : Nat) : PRel n 0 (newD n) (rnewD n) :=
  ⟨rfl, rfl, rfl, by simp [rnewD], fun i hi => by
    unfold win newD rnewD zero64
    rw [List.drop_replicate, List.take_replicate, Nat.min_eq_left (by omega)], (fun h => nomatch h), ⟨show (0 : Int) ≤ 0 by omega, show (0 : Int) ≤ 64 by omega, show (-9223372036854775808 : Int) < 0 by omega, show (0 : Int) ≤ 9223372036854775807 by omega⟩, (show -((0 : Nat) : Int) ≤ 0 by omega), (show (0 : Int) ≤ 0 by omega), (show (0 : Int) ≤ 64 by omega), (show (0 : Int) ≤ 0 by omega), (show (0 : Int) ≤ 9223372036854775807 by omega)⟩

theorem PRel.read {n k : Nat} {d : Dev} {r : RDev} (h : PRel n k d r) (i : Int) (h0 : mayE d i = 0) : d.mem i.toNat = rdL r i := by
  obtain ⟨m, rfl, hm⟩ := may_in h0
  rw [rdL, if_pos (by rw [← h.may]; exact h0), Int.toNat_natCast]
  exact (h.mem m (by rw [← h.blocks]; exact hm)).symm

theorem PRel.write {n k : Nat} {d : Dev} {r : RDev} (h : PRel n k d r) (hk : k ≤ 1000000) (i : Int) (l : List UInt8) : writeE d i l = rwE r i l ∧ PRel n (k + 1) (writeD d i l) (rwD r i l) := by
  have hlow := h.low
  obtain ⟨o1, o2⟩ := writeD_ok h.ok (by omega) i l
  have hm := h.may i
  by_cases h0 : rdE r i = 0
  · have h0' : mayE d i = 0 := by rw [hm]; exact h0
    by_cases h64 : l.length = 64
    · obtain ⟨m, rfl, hmn⟩ := may_in h0'
      rw [h.blocks] at hmn
      cases hc : (d.set && d.writes == 0) with
      | true =>
        obtain ⟨c1, c2⟩ : d.set = true ∧ d.writes = 0 := by simpa using hc
        obtain ⟨n1, n2, n3⟩ := h.num c1
        have hc' : (r.set && r.writes == 0) = true := by rw [← h.set, ← n1]; exact hc
        have eD : writeD d m l = { d with set := false, down := true, mem := updB d.mem m (l.take d.prefix_.toNat ++ (d.mem m).drop d.prefix_.toNat) } := by rw [writeD, if_pos ⟨h0', h64⟩, hc]; rfl
        have eR : rwD r m l = { r with B := sub64 r.B m (l.take r.prefix_.toNat ++ (win r.B m).drop r.prefix_.toNat), set := false, off := true } := by rw [rwD, if_pos ⟨h0, h64⟩, hc']; rfl
        refine ⟨by rw [writeE, rwE, if_pos h0', if_pos h0, if_pos h64, if_pos h64, hc, hc'], ?_⟩
        rw [eD] at o1 o2 ⊢
        rw [eR]
        have hwl : (win r.B m).length = 64 := by
          unfold win
          rw [List.length_take, List.length_drop, h.len]; omega
        have hp0 := h.p0
        have hp1 := h.p1
        have hsl : (l.take r.prefix_.toNat ++ (win r.B m).drop r.prefix_.toNat).length = 64 := by
          rw [List.length_append, List.length_take, List.length_drop, h64, hwl]; omega
        refine ⟨h.blocks, rfl, rfl, sub64_length _ _ _ _ h.len hmn hsl, fun j hj => ?_, (fun e => nomatch e), o1, by show -((k + 1 : Nat) : Int) ≤ d.writes; omega, h.p0, h.p1, h.w0, h.w1⟩
        show win (sub64 r.B m _) j = updB d.mem m _ j
        rw [win_sub64 _ n _ _ h.len hmn hsl j hj]
        unfold updB
        rw [n2, h.mem m hmn, h.mem j hj]
      | false =>
        have hc' : (r.set && r.writes == 0) = false := by
          cases hs : d.set with
          | false => rw [← h.set, hs]; rfl
          | true => rw [← h.set, ← (h.num hs).1]; exact hc
        have eD : writeD d m l = { d with writes := d.writes - 1, mem := updB d.mem m l } := by rw [writeD, if_pos ⟨h0', h64⟩, hc]; rfl
        have eR : rwD r m l = { r with B := sub64 r.B m l, writes := if r.set then r.writes - 1 else r.writes } := by rw [rwD, if_pos ⟨h0, h64⟩, hc']; rfl
        refine ⟨by rw [writeE, rwE, if_pos h0', if_pos h0, if_pos h64, if_pos h64, hc, hc'], ?_⟩
        rw [eD] at o1 o2 ⊢
        rw [eR]
        have hw0 := h.w0
        have hw1 := h.w1
        have hr : r.set = true → r.writes ≠ 0 := fun hs e => by rw [hs, e] at hc'; cases hc'
        refine ⟨h.blocks, h.set, h.down, sub64_length _ _ _ _ h.len hmn h64, fun j hj => ?_, fun hs => ?_, o1, by show -((k + 1 : Nat) : Int) ≤ d.writes - 1; omega, h.p0, h.p1, ?_, ?_⟩
        · show win (sub64 r.B m _) j = updB d.mem m _ j
          rw [win_sub64 _ n _ _ h.len hmn h64 j hj]
          unfold updB
          rw [h.mem j hj]
        · have hs' : r.set = true := by rw [← h.set]; exact hs
          obtain ⟨n1, n2, n3⟩ := h.num hs
          have := hr hs'
          refine ⟨?_, n2, ?_⟩
          · show d.writes - 1 = if r.set = true then r.writes - 1 else r.writes
            rw [if_pos hs', n1]
          · show 0 ≤ d.writes - 1
            omega
        · show 0 ≤ if r.set = true then r.writes - 1 else r.writes
          split
          · rename_i hs
            have := hr hs
            omega
          · exact hw0
        · show (if r.set = true then r.writes - 1 else r.writes) ≤ _
          split <;> omega
    · have eD : writeD d i l = d := by rw [writeD, if_neg (fun e => h64 e.2)]
      have eR : rwD r i l = r := by rw [rwD, if_neg (fun e => h64 e.2)]
      rw [eD, eR]
      exact ⟨by rw [writeE, rwE, if_pos h0', if_pos h0, if_neg h64, if_neg h64], h.more (by omega)⟩
  · have h0' : mayE d i ≠ 0 := by rw [hm]; exact h0
    have eD : writeD d i l = d := by rw [writeD, if_neg (fun e => h0' e.1)]
    have eR : rwD r i l = r := by rw [rwD, if_neg (fun e => h0 e.1)]
    rw [eD, eR]
    exact ⟨by rw [writeE, rwE, if_neg h0', if_neg h0, hm], h.more (by omega)⟩

theorem PRel.crash {n k : Nat} {d : Dev} {r : RDev} (h : PRel n k d r) (hn : 16 ≤ n) (a p : Int) (ha : a ≤ 9223372036854775807) : crashE d a p = rcE r a p ∧ PRel n k (crashD d a p) (rcD r a p) := by
  have hE : crashE d a p = rcE r a p := by
    unfold crashE rcE
    have hm : mayE d 0 = if d.down then 11 else 0 := by
      unfold mayE
      rw [h.blocks, if_neg (show ¬ ((0 : Int) < 0 ∨ (n : Int) ≤ 0) by omega)]
    rw [hm, ← h.down]
    cases d.down <;> rfl
  refine ⟨hE, ?_⟩
  unfold crashD rcD
  rw [hE]
  split
  · rename_i h0
    have hp : 0 ≤ a ∧ 0 ≤ p ∧ p ≤ 64 := by
      unfold rcE at h0
      split at h0
      · cases h0
      · split at h0
        · cases h0
        · omega
    exact ⟨h.blocks, rfl, h.down, h.len, h.mem, fun _ => ⟨rfl, rfl, hp.1⟩, ⟨hp.2.1, hp.2.2, by show -9223372036854775808 < a; omega, ha⟩, by show -(k : Int) ≤ a; omega, hp.2.1, hp.2.2, hp.1, ha⟩
  · exact h

theorem PRel.up {n k : Nat} {d : Dev} {r : RDev} (h : PRel n k d r) : PRel n k { d with down := false } { r with off := false } :=
  ⟨h.blocks, h.set, rfl, h.len, h.mem, h.num, h.ok, h.low, h.p0, h.p1, h.w0, h.w1⟩

theorem PRel.wipe {n k : Nat} {d : Dev} {r : RDev} (h : PRel n k d r) : PRel n k (wipeD d) (rwipeD r) :=
  ⟨h.blocks, rfl, rfl, by show (List.replicate _ _).length = _; rw [List.length_replicate, h.len], fun i hi => by
    show win (List.replicate r.B.length 0) i = zero64
    unfold win zero64
    rw [List.drop_replicate, List.take_replicate, h.len, Nat.min_eq_left (by omega)], (fun e => nomatch e), h.ok, h.low, h.p0, h.p1, h.w0, h.w1⟩

end Go.Proofs.Ytdlbjllgdikadaa

namespace Go.Proofs.Ytdlbjllgdikadaa
open Go.RowKit

structure POp where
  kind : Int
  i : Int
  n : Int
  a : Option Addr
  B : List UInt8
  cap : Nat

def POp.cells (o : POp) : Array Value := #[.int .i64 o.kind, .int .i64 o.i, .int .i64 o.n, .slice o.a o.B.length o.cap]

/-- A row of calls, as it reads. -/
def IsOps (w : World) (a : Option Addr) (l : List POp) : Prop :=
  ∀ k (h : k < l.length), ∃ b off, a = some ⟨b, off, none⟩ ∧ (∀ q u, (l[k].cells)[q]? = some u → w.cell? ⟨b, off + 4 * k + q, none⟩ = some u) ∧
    IsBytes w l[k].a l[k].B ∧ l[k].B.length ≤ l[k].cap ∧ l[k].i ≤ 9223372036854775807 ∧ (l[k].a = none → l[k].B.length = 0 ∧ l[k].cap = 0)

theorem IsOps.below {N : Nat} {w w' : World} {a : Option Addr} {l : List POp} (h : IsOps w a l) (hb : Below N w w') (hN : w.heap.size ≤ N) : IsOps w' a l := by
  intro i hi
  obtain ⟨b, off, e, hc, hby, hle, hx⟩ := h i hi
  refine ⟨b, off, e, fun j u hu => ?_, hby.later (hb.mono hN), hle, hx⟩
  have := hc j u hu
  exact (hb.cell (p := ⟨b, off + 4 * i + j, none⟩) (Nat.lt_of_lt_of_le (World.block_lt_of_cell? w _ this) hN)).trans this

set_option maxRecDepth 100000 in
theorem plays_long (n : Int) (a : Option Addr) (l : List POp) (cap : Nat) (w : World) (h : 60 < l.length ∨ 100 < n ∧ n ≤ 16384) :
    Calls Try.prog 9 #[.int .i64 n, .slice a l.length cap] w fun e w' => e = .returned (.bool true) ∧ Below w.heap.size w w' := by
  by_cases b1 : 60 < l.length
  · clear h
    go_enter Try.func9, Try.ntmps9
    go_wp2_with (go_at_call 39; refine (known39_calls _).mono ?_; rintro e w9 ⟨rfl, hB9⟩)
    go_ret
    exact ⟨rfl, hB9⟩
  · obtain ⟨b2, b3⟩ : 100 < n ∧ n ≤ 16384 := by omega
    clear h
    go_enter Try.func9, Try.ntmps9
    go_wp2_with (go_at_call 39; refine (known39_calls _).mono ?_; rintro e w9 ⟨rfl, hB9⟩)
    go_ret
    exact ⟨rfl, hB9⟩

set_option maxRecDepth 100000 in
theorem plays_bad (n : Int) (a : Option Addr) (l : List POp) (cap : Nat) (w : World) (hl : l.length ≤ 60) (h : n < 16 ∨ 16384 < n) :
    Calls Try.prog 9 #[.int .i64 n, .slice a l.length cap] w fun e w' => e = .returned (.bool true) ∧ Below w.heap.size w w' := by
  have hbad := new_bad n w h
  by_cases b1 : n < 16
  · clear h
    go_enter Try.func9, Try.ntmps9
    go_wp2_with (first
      | (go_at_call 38; refine hbad.mono ?_; rintro e w1 ⟨rfl, rfl⟩)
      | (go_at_call 39; refine (known39_calls _).mono ?_; rintro e w9 ⟨rfl, hB9⟩))
    go_ret
    exact ⟨rfl, hB9⟩
  · have b2 : 16384 < n := by omega
    clear h
    go_enter Try.func9, Try.ntmps9
    go_wp2_with (first
      | (go_at_call 38; refine hbad.mono ?_; rintro e w1 ⟨rfl, rfl⟩)
      | (go_at_call 39; refine (known39_calls _).mono ?_; rintro e w9 ⟨rfl, hB9⟩))
    go_ret
    exact ⟨rfl, hB9⟩

end Go.Proofs.Ytdlbjllgdikadaa

namespace Go.Proofs.Ytdlbjllgdikadaa
open Go.RowKit

/-- A call in memory. -/
def OpAt (w : World) (H : Nat) (o : POp) : Prop := w.heap[H]? = some (.cells o.cells 66 (0, 0))
def noneO : POp := ⟨0, 0, 0, none, [], 0⟩
theorem OpAt.cell {w : World} {H : Nat} {o : POp} (h : OpAt w H o) (q : Nat) (u : Value) (hu : o.cells[q]? = some u) : w.cell? ⟨H, q, none⟩ = some u := by
  rw [cell_of_row w H q _ _ _ h, hu]
theorem OpAt.c0 {w : World} {H : Nat} {o : POp} (h : OpAt w H o) : w.cell? ⟨H, 0, none⟩ = some (.int .i64 o.kind) := h.cell 0 _ rfl
theorem OpAt.c1 {w : World} {H : Nat} {o : POp} (h : OpAt w H o) : w.cell? ⟨H, 1, none⟩ = some (.int .i64 o.i) := h.cell 1 _ rfl
theorem OpAt.c2 {w : World} {H : Nat} {o : POp} (h : OpAt w H o) : w.cell? ⟨H, 2, none⟩ = some (.int .i64 o.n) := h.cell 2 _ rfl
theorem OpAt.c3 {w : World} {H : Nat} {o : POp} (h : OpAt w H o) : w.cell? ⟨H, 3, none⟩ = some (.slice o.a o.B.length o.cap) := h.cell 3 _ rfl
theorem OpAt.later {w w' : World} {H : Nat} {o : POp} (h : OpAt w H o) (hb : Below w.heap.size w w') : OpAt w' H o := (hb.block H (lt_of_block h)).trans h
theorem OpAt.aside {T : List Nat} {w w' : World} {H : Nat} {o : POp} (h : OpAt w H o) (k : Aside T w w') (hT : H ∉ T) : OpAt w' H o := (k.block H (lt_of_block h) hT).trans h
theorem info66s : (Try.prog.info? 66).map (·.size) = some 4 := by kernel_rfl
theorem POp.one (o : POp) : o.cells.all (·.oneCell') = true := by simp [POp.cells, Value.oneCell']

theorem wpList_store_op {w : World} {ops : Array Oper} {rest : List Oper} {o : Oper} {ac : Act} {Q : Exit → Act → World → Prop} (hgd : o.guard = none) (x y : Operand) (ho : o.op = .store 66 x y)
    (H : Nat) (old q : POp) (hx : ac.eval x = .pointer (some ⟨H, 0, none⟩)) (hy : ac.eval y = .agg q.cells) (hb : OpAt w H old)
    (h : ∀ w', OpAt w' H q → w.grownBy w' (some H) → wpList Try.prog ops Q rest (ac.put o.dst undef) w') : wpList Try.prog ops Q (o :: rest) ac w :=
  wpList_store_row hgd 66 x y ho H _ hx hy 66 _ hb info66s rfl (POp.one _) (h _ (setRow_heap w H _ _ _ _ hb) (grown_setRow _))

theorem OwnB.aside {T : List Nat} {w w' : World} {base : Nat} {v : Value} {l : List UInt8} (h : OwnB w base v l) (k : Aside T w w') (hT : ∀ x, x ∈ T → x < base) : OwnB w' base v l := by
  refine ⟨h.1, ?_⟩
  rcases h.2 with hn | ⟨g, cap, cur, rfl, hbg, hg, rest⟩
  · exact .inl hn
  · exact .inr ⟨g, cap, cur, rfl, hbg, (k.block g (Array.getElem?_eq_some_iff.1 hg).1 (fun e => by have := hT g e; omega)).trans hg, rest⟩

/-- A device and the document's one lie apart. -/
theorem DevAt.apart {w : World} {D b V : Nat} {d : Dev} {r : RDev} (h : DevAt w D b d) (hr : RefAt w V r) : D ≠ V ∧ b ≠ V := by
  obtain ⟨h1, ⟨M, ⟨es, c, h2, _⟩, _⟩, _⟩ := h
  refine ⟨fun e => ?_, fun e => ?_⟩
  · rw [e, hr] at h1; cases h1
  · rw [e, hr] at h2; cases h2

/-- A call of the row, its cells in the walk's spelling. -/
theorem IsOps.cellsAt {w : World} {a : Option Addr} {l : List POp} (h : IsOps w a l) (j : Nat) (hj : j < l.length) :
    ∃ o b off, o = l[j] ∧ a = some ⟨b, off, none⟩ ∧
      w.cell? ⟨b, off + j * 4, none⟩ = some (.int .i64 o.kind) ∧ w.cell? ⟨b, off + j * 4 + 1, none⟩ = some (.int .i64 o.i) ∧
      w.cell? ⟨b, off + j * 4 + 2, none⟩ = some (.int .i64 o.n) ∧ w.cell? ⟨b, off + j * 4 + 3, none⟩ = some (.slice o.a o.B.length o.cap) ∧
      IsBytes w o.a o.B ∧ o.B.length ≤ o.cap ∧ o.i ≤ 9223372036854775807 ∧ (o.a = none → o.B.length = 0 ∧ o.cap = 0) := by
  obtain ⟨b, off, e, hc, hby, hle, hx⟩ := h j hj
  have key : ∀ q u, (l[j].cells)[q]? = some u → w.cell? ⟨b, off + j * 4 + q, none⟩ = some u := by
    intro q u hu
    have h1 := hc q u hu
    rw [Nat.mul_comm] at h1
    exact h1
  exact ⟨l[j], b, off, rfl, e, key 0 _ rfl, key 1 _ rfl, key 2 _ rfl, key 3 _ rfl, hby, hle, hx⟩

/-- What holds of the two devices, over w. -/
structure Two (n k : Nat) (w W : World) (D b V : Nat) (d : Dev) (r : RDev) : Prop where
  dev : DevAt W D b d
  ref : RefAt W V r
  rel : PRel n k d r
  lo : w.heap.size ≤ D ∧ w.heap.size ≤ b ∧ w.heap.size ≤ V
  bel : Below w.heap.size w W

theorem Two.later {n k : Nat} {w W W' : World} {D b V : Nat} {d : Dev} {r : RDev} (h : Two n k w W D b V d r) (hb : Below W.heap.size W W') : Two n k w W' D b V d r :=
  ⟨h.dev.later hb, h.ref.later hb, h.rel, h.lo, below_call h.bel (Nat.le_refl _) hb⟩
theorem Two.more {n k k' : Nat} {w W : World} {D b V : Nat} {d : Dev} {r : RDev} (h : Two n k w W D b V d r) (hk : k ≤ k') : Two n k' w W D b V d r :=
  ⟨h.dev, h.ref, h.rel.more hk, h.lo, h.bel⟩
theorem Two.drew {n k : Nat} {w W : World} {D b V : Nat} {d : Dev} {r : RDev} (h : Two n k w W D b V d r) : Two n k w W.drew D b V d r :=
  ⟨h.dev, h.ref, h.rel, h.lo, h.bel.drew⟩

theorem Two.turn {n k k' : Nat} {w W W' : World} {D b V D' b' V' : Nat} {d d' : Dev} {r r' : RDev} (h : Two n k w W D b V d r) (hA : Aside [D, b, V] W W') (hd : DevAt W' D' b' d') (hr : RefAt W' V' r') (hp : PRel n k' d' r')
    (hl : w.heap.size ≤ D' ∧ w.heap.size ≤ b' ∧ w.heap.size ≤ V') : Two n k' w W' D' b' V' d' r' :=
  ⟨hd, hr, hp, hl, h.bel.trans (hA.toBelow (fun k hk => by have := h.lo; simp at hk; omega) h.bel.size)⟩
theorem Two.setCell {n k : Nat} {w W : World} {D b V : Nat} {d : Dev} {r : RDev} (h : Two n k w W D b V d r) (p : Addr) (u : Value) (hD : D ≠ p.block) (hb : b ≠ p.block) (hV : V ≠ p.block) (hp : w.heap.size ≤ p.block) : Two n k w (W.setCell p u) D b V d r :=
  ⟨h.dev.other p u hD hb, (heap_setCell_other _ _ _ _ hV).trans h.ref, h.rel, h.lo, h.bel.setCell hp u⟩
theorem Aside.left {D b V : Nat} {w w' : World} (h : Aside [D, b] w w') : Aside [D, b, V] w w' := h.mono (fun k hk => by simp at hk ⊢; omega)
theorem Aside.right {D b V : Nat} {w w' : World} (h : Aside [V] w w') : Aside [D, b, V] w w' := h.mono (fun k hk => by simp at hk ⊢; omega)
theorem Two.write {n k : Nat} {w W W1 W2 : World} {D b V : Nat} {d : Dev} {r : RDev} (h : Two n k w W D b V d r) (hk : k ≤ 1000000) {i : Int} {l : List UInt8} (hd : DevAt W1 D b (writeD d i l)) (h1 : Aside [D, b] W W1) (hr : RefAt W2 V (rwD r i l)) (h2 : Aside [V] W1 W2) :
    Two n (k + 1) w W2 D b V (writeD d i l) (rwD r i l) :=
  have ha := hd.apart (h.ref.aside h1 (by have := h.dev.apart h.ref; simp; omega))
  h.turn (h1.left.trans h2.right) (hd.aside h2 (by simp; exact ha.1) (by simp; exact ha.2)) hr (h.rel.write hk i l).2 h.lo

/-- A row of bytes is no device. -/
theorem Two.off {n k : Nat} {w W : World} {D b V : Nat} {d : Dev} {r : RDev} (h : Two n k w W D b V d r) {g : Nat} {cur : Array Value} (hg : W.heap[g]? = some (.cells cur 5 (0, 0))) : D ≠ g ∧ b ≠ g ∧ V ≠ g := by
  obtain ⟨h1, ⟨M, ⟨es, c, h2, _⟩, _⟩, _⟩ := h.dev
  refine ⟨fun e => ?_, fun e => ?_, fun e => ?_⟩
  · rw [e, hg] at h1; cases h1
  · rw [e, hg] at h2; cases h2
  · have h3 := h.ref
    unfold RefAt at h3
    rw [e, hg] at h3; cases h3

end Go.Proofs.Ytdlbjllgdikadaa
