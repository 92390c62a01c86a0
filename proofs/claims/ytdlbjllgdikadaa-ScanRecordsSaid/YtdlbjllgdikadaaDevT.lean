/- DevicePlays: the plain law. -/
import Derived.Test.YtdlbjllgdikadaaDevS
import Derived.Test.YtdlbjllgdikadaaDevF
namespace Go.Proofs.Ytdlbjllgdikadaa
open Go.RowKit

theorem win_sub64 (L : List UInt8) (n k : Nat) (s : List UInt8) (h : L.length = 64 * n) (hk : k < n) (hs : s.length = 64) (i : Nat) (hi : i < n) :
    win (sub64 L k s) i = if i = k then s else win L i := by
  have hl : (sub64 L k s).length = 64 * n := by
    unfold sub64
    rw [List.length_append, List.length_append, List.length_take, List.length_drop, h, hs]; omega
  have wl : ∀ M : List UInt8, M.length = 64 * n → ∀ j, j < n → (win M j).length = 64 := fun M hM j hj => by
    unfold win
    rw [List.length_take, List.length_drop, hM]; omega
  apply List.ext_getElem
  · rw [wl _ hl i hi]
    split
    · rw [hs]
    · rw [wl _ h i hi]
  · intro q h0 h2
    have h1 := h0
    rw [wl _ hl i hi] at h1
    have e1 : (win (sub64 L k s) i)[q]? = (sub64 L k s)[64 * i + q]? := by
      unfold win
      rw [List.getElem?_take_of_lt h1, List.getElem?_drop]
    have e2 : (sub64 L k s)[64 * i + q]? = if k * 64 ≤ 64 * i + q ∧ 64 * i + q < k * 64 + 64 then s[64 * i + q - k * 64]? else L[64 * i + q]? := by
      unfold sub64
      rw [List.append_assoc]
      by_cases c1 : 64 * i + q < k * 64
      · rw [List.getElem?_append_left (by rw [List.length_take, h]; omega), List.getElem?_take_of_lt (by omega), if_neg (by omega)]
      · rw [List.getElem?_append_right (by rw [List.length_take, h]; omega), List.length_take, h, Nat.min_eq_left (by omega)]
        by_cases c2 : 64 * i + q < k * 64 + 64
        · rw [List.getElem?_append_left (by omega), if_pos ⟨by omega, c2⟩]
          congr 1; omega
        · rw [List.getElem?_append_right (by omega), List.getElem?_drop, if_neg (by omega)]
          congr 1; omega
    have goal : (win (sub64 L k s) i)[q]? = (if i = k then s else win L i)[q]? := by
      rw [e1, e2]
      by_cases c : i = k
      · subst c
        rw [if_pos rfl, if_pos (by omega)]
        congr 1; omega
      · rw [if_neg c, if_neg (by omega)]
        unfold win
        rw [List.getElem?_take_of_lt h1, List.getElem?_drop]
    rw [List.getElem?_eq_getElem h0, List.getElem?_eq_getElem h2] at goal
    exact Option.some.inj goal

theorem sub64_length (L : List UInt8) (n k : Nat) (s : List UInt8) (h : L.length = 64 * n) (hk : k < n) (hs : s.length = 64) : (sub64 L k s).length = 64 * n := by
  unfold sub64
  rw [List.length_append, List.length_append, List.length_take, List.length_drop, h, hs]; omega

/-- The two devices, after k writes at most. -/
structure PRel (n k : Nat) (d : Dev) (r : RDev) : Prop where
  blocks : d.blocks = n
  set : d.set = r.set
  down : d.down = r.off
  len : r.B.length = 64 * n
  mem : ∀ i, i < n → win r.B i = d.mem i
  num : d.set = true → d.writes = r.writes ∧ d.prefix_ = r.prefix_ ∧ 0 ≤ d.writes
  ok : DevOk d
  low : -(k : Int) ≤ d.writes
  p0 : 0 ≤ r.prefix_
  p1 : r.prefix_ ≤ 64
  w0 : 0 ≤ r.writes
  w1 : r.writes ≤ 9223372036854775807

theorem PRel.more {n k k' : Nat} {d : Dev} {r : RDev} (h : PRel n k d r) (hk : k ≤ k') : PRel n k' d r :=
  ⟨h.blocks, h.set, h.down, h.len, h.mem, h.num, h.ok, by have := h.low; omega, h.p0, h.p1, h.w0, h.w1⟩

theorem PRel.may {n k : Nat} {d : Dev} {r : RDev} (h : PRel n k d r) (i : Int) : mayE d i = rdE r i := by
  unfold mayE rdE
  rw [h.down, h.blocks, h.len, Nat.mul_div_cancel_left n (by omega)]

theorem PRel.start (n : Nat) : PRel n 0 (newD n) (rnewD n) :=
  ⟨rfl, rfl, rfl, by simp [rnewD], fun i hi => by
    unfold win newD rnewD zero64
    rw [List.drop_replicate, List.take_replicate, Nat.min_eq_left (by omega)], (fun h => nomatch h), ⟨show (0 : Int) ≤ 0 by omega, show (0 : Int) ≤ 64 by omega, show (-9223372036854775808 : Int) < 0 by omega, show (0 : Int) ≤ 9223372036854775807 by omega⟩, (show -((0 : Nat) : Int) ≤ 0 by omega), (show (0 : Int) ≤ 0 by omega), (show (0 : Int) ≤ 64 by omega), (show (0 : Int) ≤ 0 by omega), (show (0 : Int) ≤ 9223372036854775807 by omega)⟩

theorem PRel.read {n k : Nat} {d : Dev} {r : RDev} (h : PRel n k d r) (i : Int) (h0 : mayE d i = 0) : d.mem i.toNat = rdL r i := by
  obtain ⟨m, rfl, hm⟩ := may_in h0
  rw [rdL, if_pos (by rw [← h.may]; exact h0), Int.toNat_natCast]
  exact (h.mem m (by rw [← h.blocks]; exact hm)).symm

theorem PRel.write {n k : Nat} {d : Dev} {r : RDev} (h : PRel n k d r) (hk : k ≤ 1000) (i : Int) (l : List UInt8) : writeE d i l = rwE r i l ∧ PRel n (k + 1) (writeD d i l) (rwD r i l) := by
  have hlow := h.low
  obtain ⟨o1, o2⟩ := writeD_ok h.ok (by omega) i l
  have hm := h.may i
  by_cases h0 : rdE r i = 0
  · have h0' : mayE d i = 0 := by rw [hm]; exact h0
    by_cases h64 : l.length = 64
    · obtain ⟨m, rfl, hmn⟩ := may_in h0'
      rw [h.blocks] at hmn
      cases hc : (d.set && d.writes == 0) with
      | true =>
        obtain ⟨c1, c2⟩ : d.set = true ∧ d.writes = 0 := by simpa using hc
        obtain ⟨n1, n2, n3⟩ := h.num c1
        have hc' : (r.set && r.writes == 0) = true := by rw [← h.set, ← n1]; exact hc
        have eD : writeD d m l = { d with set := false, down := true, mem := updB d.mem m (l.take d.prefix_.toNat ++ (d.mem m).drop d.prefix_.toNat) } := by rw [writeD, if_pos ⟨h0', h64⟩, hc]; rfl
        have eR : rwD r m l = { r with B := sub64 r.B m (l.take r.prefix_.toNat ++ (win r.B m).drop r.prefix_.toNat), set := false, off := true } := by rw [rwD, if_pos ⟨h0, h64⟩, hc']; rfl
        refine ⟨by rw [writeE, rwE, if_pos h0', if_pos h0, if_pos h64, if_pos h64, hc, hc'], ?_⟩
        rw [eD] at o1 o2 ⊢
        rw [eR]
        have hwl : (win r.B m).length = 64 := by
          unfold win
          rw [List.length_take, List.length_drop, h.len]; omega
        have hp0 := h.p0
        have hp1 := h.p1
        have hsl : (l.take r.prefix_.toNat ++ (win r.B m).drop r.prefix_.toNat).length = 64 := by
          rw [List.length_append, List.length_take, List.length_drop, h64, hwl]; omega
        refine ⟨h.blocks, rfl, rfl, sub64_length _ _ _ _ h.len hmn hsl, fun j hj => ?_, (fun e => nomatch e), o1, by show -((k + 1 : Nat) : Int) ≤ d.writes; omega, h.p0, h.p1, h.w0, h.w1⟩
        show win (sub64 r.B m _) j = updB d.mem m _ j
        rw [win_sub64 _ n _ _ h.len hmn hsl j hj]
        unfold updB
        rw [n2, h.mem m hmn, h.mem j hj]
      | false =>
        have hc' : (r.set && r.writes == 0) = false := by
          cases hs : d.set with
          | false => rw [← h.set, hs]; rfl
          | true => rw [← h.set, ← (h.num hs).1]; exact hc
        have eD : writeD d m l = { d with writes := d.writes - 1, mem := updB d.mem m l } := by rw [writeD, if_pos ⟨h0', h64⟩, hc]; rfl
        have eR : rwD r m l = { r with B := sub64 r.B m l, writes := if r.set then r.writes - 1 else r.writes } := by rw [rwD, if_pos ⟨h0, h64⟩, hc']; rfl
        refine ⟨by rw [writeE, rwE, if_pos h0', if_pos h0, if_pos h64, if_pos h64, hc, hc'], ?_⟩
        rw [eD] at o1 o2 ⊢
        rw [eR]
        have hw0 := h.w0
        have hw1 := h.w1
        have hr : r.set = true → r.writes ≠ 0 := fun hs e => by rw [hs, e] at hc'; cases hc'
        refine ⟨h.blocks, h.set, h.down, sub64_length _ _ _ _ h.len hmn h64, fun j hj => ?_, fun hs => ?_, o1, by show -((k + 1 : Nat) : Int) ≤ d.writes - 1; omega, h.p0, h.p1, ?_, ?_⟩
        · show win (sub64 r.B m _) j = updB d.mem m _ j
          rw [win_sub64 _ n _ _ h.len hmn h64 j hj]
          unfold updB
          rw [h.mem j hj]
        · have hs' : r.set = true := by rw [← h.set]; exact hs
          obtain ⟨n1, n2, n3⟩ := h.num hs
          have := hr hs'
          refine ⟨?_, n2, ?_⟩
          · show d.writes - 1 = if r.set = true then r.writes - 1 else r.writes
            rw [if_pos hs', n1]
          · show 0 ≤ d.writes - 1
            omega
        · show 0 ≤ if r.set = true then r.writes - 1 else r.writes
          split
          · rename_i hs
            have := hr hs
            omega
          · exact hw0
        · show (if r.set = true then r.writes - 1 else r.writes) ≤ _
          split <;> omega
    · have eD : writeD d i l = d := by rw [writeD, if_neg (fun e => h64 e.2)]
      have eR : rwD r i l = r := by rw [rwD, if_neg (fun e => h64 e.2)]
      rw [eD, eR]
      exact ⟨by rw [writeE, rwE, if_pos h0', if_pos h0, if_neg h64, if_neg h64], h.more (by omega)⟩
  · have h0' : mayE d i ≠ 0 := by rw [hm]; exact h0
    have eD : writeD d i l = d := by rw [writeD, if_neg (fun e => h0' e.1)]
    have eR : rwD r i l = r := by rw [rwD, if_neg (fun e => h0 e.1)]
    rw [eD, eR]
    exact ⟨by rw [writeE, rwE, if_neg h0', if_neg h0, hm], h.more (by omega)⟩

theorem PRel.crash {n k : Nat} {d : Dev} {r : RDev} (h : PRel n k d r) (hn : 16 ≤ n) (a p : Int) (ha : a ≤ 9223372036854775807) : crashE d a p = rcE r a p ∧ PRel n k (crashD d a p) (rcD r a p) := by
  have hE : crashE d a p = rcE r a p := by
    unfold crashE rcE
    have hm : mayE d 0 = if d.down then 11 else 0 := by
      unfold mayE
      rw [h.blocks, if_neg (show ¬ ((0 : Int) < 0 ∨ (n : Int) ≤ 0) by omega)]
    rw [hm, ← h.down]
    cases d.down <;> rfl
  refine ⟨hE, ?_⟩
  unfold crashD rcD
  rw [hE]
  split
  · rename_i h0
    have hp : 0 ≤ a ∧ 0 ≤ p ∧ p ≤ 64 := by
      unfold rcE at h0
      split at h0
      · cases h0
      · split at h0
        · cases h0
        · omega
    exact ⟨h.blocks, rfl, h.down, h.len, h.mem, fun _ => ⟨rfl, rfl, hp.1⟩, ⟨hp.2.1, hp.2.2, by show -9223372036854775808 < a; omega, ha⟩, by show -(k : Int) ≤ a; omega, hp.2.1, hp.2.2, hp.1, ha⟩
  · exact h

theorem PRel.up {n k : Nat} {d : Dev} {r : RDev} (h : PRel n k d r) : PRel n k { d with down := false } { r with off := false } :=
  ⟨h.blocks, h.set, rfl, h.len, h.mem, h.num, h.ok, h.low, h.p0, h.p1, h.w0, h.w1⟩

theorem PRel.wipe {n k : Nat} {d : Dev} {r : RDev} (h : PRel n k d r) : PRel n k (wipeD d) (rwipeD r) :=
  ⟨h.blocks, rfl, rfl, by show (List.replicate _ _).length = _; rw [List.length_replicate, h.len], fun i hi => by
    show win (List.replicate r.B.length 0) i = zero64
    unfold win zero64
    rw [List.drop_replicate, List.take_replicate, h.len, Nat.min_eq_left (by omega)], (fun e => nomatch e), h.ok, h.low, h.p0, h.p1, h.w0, h.w1⟩

end Go.Proofs.Ytdlbjllgdikadaa
