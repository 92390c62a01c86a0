/- When a block's bytes are those of what they say: in plain words. -/
import Derived.Test.YtdlbjllgdikadaaSegI
namespace Go.Proofs.Ytdlbjllgdikadaa
open Go.RowKit CrcM

theorem leB_cons (b : UInt8) (n k : Nat) : leB (b.toNat + 256 * n) (k + 1) = b :: leB n k := by
  have hb := b.toNat_lt
  unfold leB
  rw [List.range_succ_eq_map, List.map_cons, List.map_map]
  have h0 : UInt8.ofNat ((b.toNat + 256 * n) / 256 ^ 0 % 256) = b := by
    apply UInt8.toNat.inj
    simp
  rw [h0]
  congr 1
  apply List.map_congr_left
  intro i _
  have e : (b.toNat + 256 * n) / 256 ^ (i + 1) = n / 256 ^ i := by
    rw [Nat.pow_succ, Nat.mul_comm (256 ^ i) 256, ← Nat.div_div_eq_div_mul]
    congr 1
    omega
  simp only [Function.comp, Nat.succ_eq_add_one, e]

theorem leB_leN (t : List UInt8) : leB (leN t) t.length = t := by
  induction t with
  | nil => rfl
  | cons b r ih => rw [leN, List.length_cons, leB_cons, ih]

theorem mark_byte (l : List UInt8) : UInt8.ofNat (markN (decX l)) = l.getD 8 0 := by
  apply UInt8.toNat.inj
  have h8 : byteAt l 8 < 256 := UInt8.toNat_lt _
  obtain ⟨n, hn⟩ : ∃ n, n = byteAt l 8 := ⟨_, rfl⟩
  have hn' : (l.getD 8 0).toNat = n := hn.symm
  rw [hn']
  rw [← hn] at h8
  simp only [markN, decX, ← hn]
  have e : (UInt8.ofNat (n % 4 + n / 16 * 16)).toNat = n % 4 + n / 16 * 16 := by simp; omega
  rw [e]
  have e2 : ((if (n / 4 % 2 == 1) = true then 4 else 0) : Nat) = n / 4 % 2 * 4 := by
    by_cases h : n / 4 % 2 = 1 <;> simp [h] <;> omega
  have e3 : ((if (n / 8 % 2 == 1) = true then 8 else 0) : Nat) = n / 8 % 2 * 8 := by
    by_cases h : n / 8 % 2 = 1 <;> simp [h] <;> omega
  rw [e2, e3]
  simp
  omega

theorem split60 (l : List UInt8) (h : l.length = 64) (n : Nat) (hn : n ≤ 50) :
    l.take 60 = l.take 8 ++ [l.getD 8 0, l.getD 9 0] ++ (l.drop 10).take n ++ (l.drop (10 + n)).take (50 - n) := by
  have h1 : l.take 60 = l.take 8 ++ (l.drop 8).take 52 := by
    rw [show (60 : Nat) = 8 + 52 from rfl, List.take_add]
  have h2 : (l.drop 8).take 52 = (l.drop 8).take 2 ++ (l.drop 10).take 50 := by
    rw [show (52 : Nat) = 2 + 50 from rfl, List.take_add, List.drop_drop]
  have h3 : (l.drop 8).take 2 = [l.getD 8 0, l.getD 9 0] := by
    apply List.ext_getElem
    · simp; omega
    · intro i h4 h5
      have hi : i < 2 := by simpa using h5
      rcases (by omega : i = 0 ∨ i = 1) with rfl | rfl
      · simp [h]
      · simp [h]
  have h4 : (l.drop 10).take 50 = (l.drop 10).take n ++ (l.drop (10 + n)).take (50 - n) := by
    rw [show (50 : Nat) = n + (50 - n) by omega, List.take_add, List.drop_drop]
    simp
  rw [h1, h2, h3, h4]
  simp only [List.append_assoc]

theorem encB_decX (l : List UInt8) (h : l.length = 64) :
    encB (decX l) = l.take 8 ++ [l.getD 8 0, UInt8.ofNat (min (byteAt l 9) 48)] ++ (l.drop 10).take (min (byteAt l 9) 48) ++ List.replicate (50 - min (byteAt l 9) 48) 0 := by
  have e8 : (l.take 8).length = 8 := by rw [List.length_take, h]; rfl
  have hs : leB (decX l).serial 8 = l.take 8 := by
    have := leB_leN (l.take 8)
    rw [e8] at this
    exact this
  have hb : (decX l).body.length = min (byteAt l 9) 48 := by
    show ((l.drop 10).take (min (byteAt l 9) 48)).length = _
    rw [List.length_take, List.length_drop, h]
    omega
  unfold encB
  rw [hs, mark_byte, hb]
  rfl

theorem seal_iff (l : List UInt8) (h : l.length = 64) (he : endsB l = true) :
    (sealB (decX l) == l) = true ↔ byteAt l 9 ≤ 48 ∧ ∀ i, 10 + byteAt l 9 ≤ i → i < 60 → byteAt l i = 0 := by
  have hl : l.take 60 ++ crcB (sum (l.take 60)) = l := by
    have := ends_same l 60 h
    rw [he] at this
    exact beq_iff_eq.1 this
  have hy9 : (l.getD 9 0).toNat = byteAt l 9 := rfl
  have hlt9 : byteAt l 9 < 256 := UInt8.toNat_lt _
  obtain ⟨n, hn⟩ : ∃ n, n = min (byteAt l 9) 48 := ⟨_, rfl⟩
  have hn48 : n ≤ 48 := by omega
  have key : encB (decX l) = l.take 60 ↔ UInt8.ofNat n = l.getD 9 0 ∧ List.replicate (50 - n) 0 = (l.drop (10 + n)).take (50 - n) := by
    rw [encB_decX l h, split60 l h n (by omega), ← hn]
    constructor
    · intro e
      have e1 := List.append_inj e (by simp)
      have e2 := List.append_inj e1.1 (by simp)
      have e3 := List.append_inj e2.1 rfl
      exact ⟨by simpa using e3.2, e1.2⟩
    · rintro ⟨e1, e2⟩
      rw [e1, e2]
  have hz : List.replicate (50 - n) (0 : UInt8) = (l.drop (10 + n)).take (50 - n) ↔ ∀ i, 10 + n ≤ i → i < 60 → byteAt l i = 0 := by
    constructor
    · intro e i h1 h2
      have h3 : ((l.drop (10 + n)).take (50 - n))[i - (10 + n)]? = some 0 := by rw [← e, List.getElem?_replicate, if_pos (by omega)]
      rw [List.getElem?_take_of_lt (by omega), List.getElem?_drop, show 10 + n + (i - (10 + n)) = i by omega] at h3
      unfold byteAt
      rw [List.getD_eq_getElem?_getD, h3]
      rfl
    · intro hall
      symm
      rw [List.eq_replicate_iff]
      refine ⟨by rw [List.length_take, List.length_drop, h]; omega, fun b hb => ?_⟩
      obtain ⟨k, hk, rfl⟩ := List.getElem_of_mem hb
      rw [List.length_take, List.length_drop, h] at hk
      have := hall (10 + n + k) (by omega) (by omega)
      unfold byteAt at this
      rw [List.getD_eq_getElem?_getD, List.getElem?_eq_getElem (by omega)] at this
      apply UInt8.toNat.inj
      rw [List.getElem_take, List.getElem_drop]
      simpa using this
  have hseal : (sealB (decX l) == l) = true ↔ encB (decX l) = l.take 60 := by
    rw [beq_iff_eq]
    constructor
    · intro e
      have e60 : (encB (decX l)).length = 60 := encB_length _ (by
        show ((l.drop 10).take (min (byteAt l 9) 48)).length ≤ 48
        rw [List.length_take]; omega)
      have := congrArg (List.take 60) e
      unfold sealB at this
      rw [← e60, List.take_left, e60] at this
      exact this
    · intro e
      unfold sealB
      rw [e]; exact hl
  rw [hseal, key, hz]
  constructor
  · rintro ⟨h1, h2⟩
    have h3 : byteAt l 9 = n := by
      rw [← hy9, ← h1]; simp; omega
    refine ⟨by omega, ?_⟩
    rw [h3]; exact h2
  · rintro ⟨h1, h2⟩
    have h3 : byteAt l 9 = n := by omega
    rw [h3] at h2
    refine ⟨?_, h2⟩
    apply UInt8.toNat.inj
    rw [hy9, h3]; simp; omega

end Go.Proofs.Ytdlbjllgdikadaa
