/- log: slices.Backward of a row of records. -/
import Derived.Test.YtdlbjllgdikadaaLogF
namespace Go.Proofs.Ytdlbjllgdikadaa
open Go.RowKit
set_option linter.unusedVariables false
set_option linter.unusedSimpArgs false

attribute [local go_sem] Oper.semAt_some

def revN (n : Nat) : List (Fin n) := (List.finRange n).reverse
theorem revN_len (n : Nat) : (revN n).length = n := by simp [revN]
theorem revN_at (n k : Nat) (hk : k < (revN n).length) : (revN n)[k].val = n - 1 - k := by
  simp [revN]
theorem revN_mid {n : Nat} {pre rest : List (Fin n)} {x : Fin n} (h : revN n = pre ++ x :: rest) : x.val = rest.length := by
  have hl := revN_len n
  rw [h] at hl
  simp at hl
  have h2 := revN_at n pre.length (by rw [h]; simp)
  have h3 : (revN n)[pre.length]'(by rw [h]; simp) = x := by simp only [h, List.getElem_append_right (Nat.le_refl _), Nat.sub_self, List.getElem_cons_zero]
  rw [h3] at h2
  omega
theorem revN_before {n : Nat} {p : List (Fin n)} {x : Fin n} (h : p ++ [x] <+: revN n) (j : Fin n) (hj : x.val < j.val) : j ∈ p := by
  obtain ⟨t, ht⟩ := h
  have hx := revN_mid (pre := p) (rest := t) (x := x) (by rw [← ht]; simp)
  have hl := revN_len n
  rw [← ht] at hl
  simp at hl
  have hk : n - 1 - j.val < p.length := by omega
  have h2 := revN_at n (n - 1 - j.val) (by rw [revN_len]; omega)
  have h3 : (revN n)[n - 1 - j.val]'(by rw [revN_len]; omega) = p[n - 1 - j.val] := by
    simp only [← ht, List.append_assoc]
    rw [List.getElem_append_left hk]
  rw [h3] at h2
  have : p[n - 1 - j.val] = j := Fin.ext (by omega)
  rw [← this]
  exact List.getElem_mem hk

def rec2 (p : RTrip) (i : Nat) : Array Value := #[.int .i64 (i : Int), .agg #[.int .u8 (p.1.kind.toNat : Int), .int .u64 (p.1.from_ : Int), .slice p.2.1 p.1.body.length p.2.2]]
def benc (rr : List RTrip) (x : Fin rr.length) : Array Value := rec2 rr[x] x.val

set_option maxRecDepth 100000 in
set_option maxHeartbeats 2000000 in
theorem back_in (F : Fence) (n : Nat) (h113 : F.fn 113) (hro : F.round = none) (hn : 1 ≤ n) (l Q n₀ gb c : Nat) (a : Option Addr) (rr : List RTrip) (J Jx : List (Fin rr.length) → World → Prop)
    (hY : ∀ pre x W, J pre W → pre.length < rr.length → YieldAt F (n - 1) Try.prog l (benc rr x) W fun e W' =>
      (e = .returned (.bool true) ∧ J (pre ++ [x]) W' ∧ Below n₀ W W') ∨ (e = .returned (.bool false) ∧ Jx (pre ++ [x]) W'))
    (W : World) (hQl : Q < n₀) (ha : rr.length ≠ 0 → a = some ⟨gb, 0, none⟩ ∧ gb < n₀) (hQ : W.cell? ⟨Q, 0, none⟩ = some (.slice a rr.length c)) (hL : ∀ j u, (rcellsOf rr)[j]? = some u → W.cell? ⟨gb, j, none⟩ = some u) (hlen : rr.length ≤ 1099511627777) (h0 : J [] W) :
    CallsIn F n Try.prog 113 #[.func (.yield l) #[] #[], .pointer (some ⟨Q, 0, none⟩)] W fun e W' => (∃ v, e = .returned v) ∧
      ((∃ ys, ys = revN rr.length ∧ J ys W') ∨ (∃ pre, pre <+: revN rr.length ∧ Jx pre W')) := by
  refine callsIn_of_wp Try.func113 rfl h113 ?_ hro
  simp only [Try.ntmps113, List.size_toArray, List.length_cons, List.length_nil, Nat.reduceAdd, Nat.reduceSub, Array.replicate_succ, Array.replicate_zero, List.push_toArray, List.append_toArray, List.nil_append, List.cons_append]
  gi_wp2
  gi_loopw [3] (fun p wr => ∃ (pre rest : List (Fin rr.length)), revN rr.length = pre ++ rest ∧ p = .int .i64 ((rest.length : Int) - 1) ∧ Below n₀ W wr ∧ J pre wr) (fun p wr => ((intOf p) + 1).toNat)
  case atStart => exact ⟨[], revN rr.length, rfl, by rw [revN_len], Below.refl _ _, h0⟩
  case round =>
    obtain ⟨pre, rest, hx, rfl, hb, hJs⟩ := hrel
    cases rest with
    | nil =>
      gi_wp2
      go_end0
      exact ⟨⟨_, rfl⟩, .inl ⟨pre, by simp [hx], hJs⟩⟩
    | cons x rest =>
      have hxv := revN_mid hx
      have hlr : rest.length < rr.length := by rw [← hxv]; exact x.isLt
      have hpl : pre.length < rr.length := by have h1 := revN_len rr.length; rw [hx] at h1; simp at h1; omega
      obtain ⟨rfl, hg⟩ := ha (by omega)
      have hQ2 : wr.cell? ⟨Q, 0, none⟩ = some (.slice (some ⟨gb, 0, none⟩) rr.length c) := (hb.cell (p := ⟨Q, 0, none⟩) hQl).trans hQ
      have key : ∀ j u, j < 3 → (rr[x].1.cells rr[x].2.1 rr[x].2.2)[j]? = some u → wr.cell? ⟨gb, rest.length * 3 + j, none⟩ = some u := fun j u hj hu => by
        refine (hb.cell (p := ⟨gb, rest.length * 3 + j, none⟩) hg).trans (hL (rest.length * 3 + j) u ?_)
        rw [show rest.length * 3 + j = 3 * x.val + j by omega, rcellsOf_get rr x.val x.isLt j hj]
        exact hu
      have k0 : wr.cell? ⟨gb, rest.length * 3, none⟩ = some (.int .u8 (rr[x].1.kind.toNat : Int)) := key 0 _ (by decide) rfl
      have k1 : wr.cell? ⟨gb, rest.length * 3 + 1, none⟩ = some (.int .u64 (rr[x].1.from_ : Int)) := key 1 _ (by decide) rfl
      have k2 : wr.cell? ⟨gb, rest.length * 3 + 2, none⟩ = some (.slice rr[x].2.1 rr[x].1.body.length rr[x].2.2) := key 2 _ (by decide) rfl
      obtain ⟨fn, tmps, assign, body, hy, hR⟩ := hY pre x wr hJs hpl
      obtain ⟨p, hp⟩ : ∃ p, p = rr[x] := ⟨_, rfl⟩
      have hen : benc rr x = rec2 p rest.length := by unfold benc; rw [← hp, hxv]
      rw [hen] at hy
      unfold rec2 at hy
      rw [← hp] at k0 k1 k2
      have HX := Lib.hid (And.intro hx (And.intro hp hen))
      clear key hx hp hen
      simp only [List.length_cons]
      have hone : (((rest.length + 1 : Nat) : Int) - 1) = (rest.length : Int) := by omega
      rw [hone]
      gi_wp2
      refine hR.mono ?_
      rintro e W3 (⟨rfl, hJ3, hk3⟩ | ⟨rfl, hJx3⟩)
      · gi_wp2
        go_roundw
        case rel => exact ⟨pre ++ [x], rest, by rw [HX.out.1]; simp, by go_num, hb.trans hk3, hJ3⟩
        case measure => first | (simp [intOf]; done) | (simp [intOf]; omega)
      · gi_wp2
        refine bodyPost_ret (results_none rfl _ _ _) rfl ?_
        exact ⟨⟨_, rfl⟩, .inr ⟨pre ++ [x], ⟨rest, by rw [HX.out.1]; simp⟩, hJx3⟩⟩

theorem back_made (a : Option Addr) (n c : Nat) (w : World) :
    Calls Try.prog 99 #[.slice a n c] w fun e w' => e = .returned (.func (.func 113) #[] #[.pointer (some ⟨w.heap.size, 0, none⟩)]) ∧ w' = w.alloc (.cells #[.slice a n c] 83) := by
  go_enter Try.func99, Try.ntmps99
  go_wp2
  go_ret
  exact ⟨rfl, rfl⟩
end Go.Proofs.Ytdlbjllgdikadaa
