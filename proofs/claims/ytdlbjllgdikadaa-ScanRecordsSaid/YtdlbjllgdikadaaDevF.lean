/- The law DeviceCrash: what is written, as a plain state; the walk. -/
import Derived.Test.YtdlbjllgdikadaaDevE
namespace Go.Proofs.Ytdlbjllgdikadaa
open Go.RowKit

def win (L : List UInt8) (k : Nat) : List UInt8 := (L.drop (64 * k)).take 64

theorem win_length (L : List UInt8) (k : Nat) (h : L.length = 1024) (hk : k < 16) : (win L k).length = 64 := by
  rw [win, List.length_take, List.length_drop, h]; omega

/-- A part of window k is written over. -/
def winW (L : List UInt8) (k : Nat) (s : List UInt8) : List UInt8 := L.take (k * 64) ++ (s ++ L.drop (k * 64 + s.length))

theorem winW_length (L : List UInt8) (k : Nat) (s : List UInt8) (h : L.length = 1024) (hk : k < 16) (hs : s.length ≤ 64) : (winW L k s).length = 1024 := by
  unfold winW
  rw [List.length_append, List.length_append, List.length_take, List.length_drop, h]; omega

theorem win_winW (L : List UInt8) (k : Nat) (s : List UInt8) (h : L.length = 1024) (hk : k < 16) (hs : s.length ≤ 64) (i : Nat) (hi : i < 16) :
    win (winW L k s) i = if i = k then s ++ (win L k).drop s.length else win L i := by
  have hl := winW_length L k s h hk hs
  apply List.ext_getElem
  · rw [win_length _ _ hl hi]
    split
    · rw [List.length_append, List.length_drop, win_length L k h hk]; omega
    · rw [win_length L i h hi]
  · intro q h0 h2
    have h1 := h0
    rw [win_length _ _ hl hi] at h1
    have e1 : (win (winW L k s) i)[q]? = (winW L k s)[64 * i + q]? := by
      unfold win
      rw [List.getElem?_take_of_lt h1, List.getElem?_drop]
    have e2 : (winW L k s)[64 * i + q]? = if k * 64 ≤ 64 * i + q ∧ 64 * i + q < k * 64 + s.length then s[64 * i + q - k * 64]? else L[64 * i + q]? := by
      unfold winW
      by_cases c1 : 64 * i + q < k * 64
      · rw [List.getElem?_append_left (by rw [List.length_take, h]; omega), List.getElem?_take_of_lt c1, if_neg (by omega)]
      · rw [List.getElem?_append_right (by rw [List.length_take, h]; omega), List.length_take, h, Nat.min_eq_left (by omega)]
        by_cases c2 : 64 * i + q < k * 64 + s.length
        · rw [List.getElem?_append_left (by omega), if_pos ⟨by omega, c2⟩]
        · rw [List.getElem?_append_right (by omega), List.getElem?_drop, if_neg (by omega)]
          congr 1; omega
    have e3 : ∀ j, j < 16 → (win L j)[q]? = L[64 * j + q]? := fun j _ => by
      unfold win
      rw [List.getElem?_take_of_lt h1, List.getElem?_drop]
    have goal : (win (winW L k s) i)[q]? = (if i = k then s ++ (win L k).drop s.length else win L i)[q]? := by
      rw [e1, e2]
      by_cases c : i = k
      · subst c
        rw [if_pos rfl]
        by_cases c2 : q < s.length
        · rw [if_pos (by omega), List.getElem?_append_left c2]
          congr 1; omega
        · rw [if_neg (by omega), List.getElem?_append_right (by omega), List.getElem?_drop, ← e3 i hi]
          congr 1; omega
      · rw [if_neg c, if_neg (by omega), e3 i hi]
    rw [List.getElem?_eq_getElem h0, List.getElem?_eq_getElem h2] at goal
    exact Option.some.inj goal

/-- The device and the array that is wanted, ahead of round j. -/
def CrashRel (n : Int) (p : Int) (j : Nat) (d : Dev) (L : List UInt8) : Prop :=
  d.blocks = 16 ∧ d.prefix_ = p ∧ L.length = 1024 ∧ (∀ k, k < 16 → d.mem k = win L k) ∧
  ((j : Int) ≤ n → d.down = false ∧ d.set = true ∧ d.writes = n - j) ∧ (n < (j : Int) → d.down = true ∧ d.set = false)

theorem zero_win (k : Nat) (hk : k < 16) : win (List.replicate 1024 0) k = zero64 := by
  unfold win zero64
  rw [List.drop_replicate, List.take_replicate]
  congr 1; omega

theorem crash_start (n p : Int) (h1 : 0 ≤ n) (h2 : 0 ≤ p) (h3 : p ≤ 64) : crashE (newD 16) n p = 0 ∧ CrashRel n p 0 (crashD (newD 16) n p) (List.replicate 1024 0) := by
  have e : crashE (newD 16) n p = 0 := by
    have : mayE (newD 16) 0 = 0 := by simp [mayE, newD]
    rw [crashE, if_pos this, if_neg (by omega)]
  refine ⟨e, ?_⟩
  rw [crashD, if_pos e]
  exact ⟨rfl, rfl, List.length_replicate, fun k hk => (zero_win k hk).symm, fun _ => ⟨rfl, rfl, by simp⟩, fun h => by omega⟩

/-- How many bytes of round j's block count. -/
def crashN (n p : Int) (j : Nat) : Nat := if (j : Int) < n then 64 else if (j : Int) = n then p.toNat else 0

theorem crash_step (n p : Int) (h2 : 0 ≤ p) (h3 : p ≤ 64) (j : Nat) (d : Dev) (L : List UInt8) (h : CrashRel n p j d L) (k : Nat) (hk : k < 16) (x : UInt8) :
    writeE d k (ones x) = (if (j : Int) < n then 0 else 11) ∧ CrashRel n p (j + 1) (writeD d k (ones x)) (winW L k ((ones x).take (crashN n p j))) := by
  obtain ⟨hb, hp, hl, hm, hle, hgt⟩ := h
  have hlen := ones_length x
  have hcn : crashN n p j ≤ 64 := by
    unfold crashN
    split
    · omega
    · split <;> omega
  have htl : ((ones x).take (crashN n p j)).length = crashN n p j := by rw [List.length_take, hlen]; omega
  have hwl := winW_length L k _ hl hk (by rw [htl]; exact hcn)
  have hww := win_winW L k _ hl hk (by rw [htl]; exact hcn)
  rw [htl] at hww
  by_cases c : (j : Int) ≤ n
  · obtain ⟨hd, hs, hw⟩ := hle c
    have hmay : mayE d (k : Int) = 0 := by rw [mayE, hd, if_neg (by decide), if_neg (by omega)]
    by_cases c2 : (j : Int) < n
    · have hc : (d.set && d.writes == 0) = false := by rw [hs, hw, Bool.true_and, beq_eq_false_iff_ne]; omega
      have hN : crashN n p j = 64 := by rw [crashN, if_pos c2]
      refine ⟨by rw [writeE, if_pos hmay, if_pos hlen, hc, if_pos c2]; rfl, ?_⟩
      rw [writeD, if_pos ⟨hmay, hlen⟩, hc]
      refine ⟨hb, hp, hwl, fun i hi => ?_, fun _ => ⟨hd, hs, by show d.writes - 1 = _; rw [hw]; omega⟩, fun h => by omega⟩
      rw [hww i hi, hN]
      show updB d.mem (k : Int).toNat (ones x) i = _
      rw [Int.toNat_natCast]
      unfold updB
      by_cases e : i = k
      · rw [if_pos e, if_pos e, List.take_of_length_le (by rw [hlen]; exact Nat.le_refl _), List.drop_eq_nil_of_le (by rw [win_length L k hl hk]; exact Nat.le_refl _), List.append_nil]
      · rw [if_neg e, if_neg e, hm i hi]
    · have hjn : (j : Int) = n := by omega
      have hc : (d.set && d.writes == 0) = true := by rw [hs, hw, Bool.true_and, beq_iff_eq]; omega
      have hN : crashN n p j = p.toNat := by rw [crashN, if_neg c2, if_pos hjn]
      refine ⟨by rw [writeE, if_pos hmay, if_pos hlen, hc, if_neg c2]; rfl, ?_⟩
      rw [writeD, if_pos ⟨hmay, hlen⟩, hc]
      refine ⟨hb, hp, hwl, fun i hi => ?_, fun h => by omega, fun _ => ⟨rfl, rfl⟩⟩
      rw [hww i hi, hN]
      show updB d.mem (k : Int).toNat ((ones x).take d.prefix_.toNat ++ (d.mem (k : Int).toNat).drop d.prefix_.toNat) i = _
      rw [Int.toNat_natCast, hp]
      unfold updB
      by_cases e : i = k
      · rw [if_pos e, if_pos e, hm k hk]
      · rw [if_neg e, if_neg e, hm i hi]
  · obtain ⟨hd, hs⟩ := hgt (by omega)
    have hmay : mayE d (k : Int) = 11 := by rw [mayE, hd, if_pos rfl]
    have hN : crashN n p j = 0 := by rw [crashN, if_neg (by omega), if_neg (by omega)]
    refine ⟨by rw [writeE, if_neg (by rw [hmay]; decide), hmay, if_neg (by omega)], ?_⟩
    rw [writeD, if_neg (fun e => by rw [hmay] at e; exact absurd e.1 (by decide))]
    refine ⟨hb, hp, hwl, fun i hi => ?_, fun h => by omega, fun _ => ⟨hd, hs⟩⟩
    rw [hww i hi, hN]
    by_cases e : i = k
    · subst e; rw [if_pos rfl, hm i hi]; simp
    · rw [if_neg e, hm i hi]

theorem crash_ok (n p : Int) (h1 : 0 ≤ n) (hn : n ≤ 9223372036854775807) (h2 : 0 ≤ p) (h3 : p ≤ 64) (j : Nat) (d : Dev) (L : List UInt8) (h : CrashRel n p j d L) (hw : d.down = true → DevOk d) : DevOk d := by
  obtain ⟨_, hp, _, _, hle, hgt⟩ := h
  by_cases c : (j : Int) ≤ n
  · obtain ⟨_, _, h4⟩ := hle c
    exact ⟨by omega, by omega, by omega, by omega⟩
  · exact hw (hgt (by omega)).1

theorem writeD_ok {d : Dev} (h : DevOk d) (hw : -9223372036854775000 < d.writes) (i : Int) (l : List UInt8) : DevOk (writeD d i l) ∧ d.writes - 1 ≤ (writeD d i l).writes := by
  obtain ⟨h1, h2, h3, h4⟩ := h
  unfold writeD
  split
  · split
    · exact ⟨⟨h1, h2, h3, h4⟩, by show d.writes - 1 ≤ d.writes; omega⟩
    · refine ⟨⟨h1, h2, ?_, ?_⟩, Int.le_refl _⟩ <;> (show _; simp only; omega)
  · exact ⟨⟨h1, h2, h3, h4⟩, by omega⟩

end Go.Proofs.Ytdlbjllgdikadaa
