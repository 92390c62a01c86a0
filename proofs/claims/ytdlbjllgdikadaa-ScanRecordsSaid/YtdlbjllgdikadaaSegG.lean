/- The document's Encode. -/
import Derived.Test.YtdlbjllgdikadaaSegF
namespace Go.Proofs.Ytdlbjllgdikadaa
open Go.RowKit CrcM

theorem boxAt {w W : World} {cs : Array Value} (h : Below (w.heap.size + 1) (w.alloc (.cells cs 43)) W) (q : Nat) (u : Value) (hu : cs[q]? = some u) : W.cell? ⟨w.heap.size, q, none⟩ = some u := by
  rw [h.cell (p := ⟨w.heap.size, q, none⟩) (Nat.lt_succ_self _), World.cell?_alloc_new, hu]

theorem two_lit (w : World) (x y : Int) (m n : Nat) (hx : x = ((m % 256 : Nat) : Int)) (hy : y = ((n % 256 : Nat) : Int)) : IsBytes (w.alloc (.cells #[.int .u8 x, .int .u8 y] 5)) (some ⟨w.heap.size, 0, none⟩) [UInt8.ofNat m, UInt8.ofNat n] :=
  IsBytes.made (by subst hx hy; simp [bvals, bval])

def sliceLen : Value → Nat
  | .slice _ n _ => n
  | _ => 0

def EncPost (b : Blk) (w : World) (e : Ending) (w' : World) : Prop :=
  ∃ v, e = .returned (.tuple #[v, .int .i64 0]) ∧ OwnB w' w.heap.size v (sealB b) ∧ Below w.heap.size w w'

set_option linter.unusedSimpArgs false in
set_option maxHeartbeats 4000000 in
set_option maxRecDepth 100000 in
theorem refencode_good (b : Blk) (a : Option Addr) (cap : Nat) (w : World) (hno : a = none → b.body.length = 0 ∧ cap = 0) (hby : IsBytes w a b.body) (hmay : mayB b = true) :
    Calls Try.prog 32 #[.agg (b.cells a cap)] w (EncPost b w) := by
  have hmm := hmay
  simp only [mayB, Bool.and_eq_true, decide_eq_true_eq, kindB_iff] at hmm
  obtain ⟨⟨⟨hs, hk1, hk2⟩, hl⟩, _⟩ := hmm
  have hm : ∀ W, Calls Try.prog 34 #[.agg (b.cells a cap)] W fun e w' => e = .returned (.bool true) ∧ Below W.heap.size W w' := fun W => by
    rw [← hmay]; exact refmay_calls b a cap W (by omega) (by omega)
  have Hmay := Lib.hid hmay
  have Hel := Lib.hid (encB_length b hl)
  clear hmay
  obtain ⟨s, k, f, la, body⟩ := b
  simp only [Blk.cells] at *
  obtain ⟨g, hg⟩ : ∃ g, g = w.heap.size + 1 := ⟨_, rfl⟩
  have hB : Below g (w.alloc (.cells (Blk.cells ⟨s, k, f, la, body⟩ a cap) 43)) (w.alloc (.cells (Blk.cells ⟨s, k, f, la, body⟩ a cap) 43)) := Below.refl _ _
  have Hg := Lib.hid hg
  simp only [Blk.cells] at hB
  clear hg
  go_enter Try.func32, Try.ntmps32
  go_wp2_with (go_at_call 34; refine (hm _).mono ?_; rintro e w2 ⟨rfl, hB2⟩; have hB3 := below_call hB (by have := Hg.out; simp; omega) hB2; have p0 := boxAt (Hg.out ▸ hB3) 0 _ rfl)
  go_loopw [4, 5, 6] (fun v x i wr => ∃ j : Nat, j ≤ 8 ∧ i = .int .i64 j ∧ x = .int .u64 ((s / 256 ^ j : Nat) : Int) ∧ OwnB wr g v (leB s j) ∧ Below g (w.alloc (.cells #[.int .u64 (s : Int), .int .u8 (k.toNat : Int), .bool f, .bool la, .slice a body.length cap] 43)) wr) (fun _ _ i _ => 8 - (intOf i).toNat)
  case atStart => exact ⟨0, Nat.zero_le _, rfl, by simp, OwnB.nil _ _, hB3⟩
  case round =>
    obtain ⟨j, hj, rfl, rfl, hown, hbel⟩ := hrel
    clear hB3 hB2 hB p0
    have hsz := hbel.size
    rw [World.size_alloc] at hsz
    have hgs : g ≤ wr.heap.size := by have := Hg.out; omega
    by_cases hlt : j < 8
    · have ht := leB_succ s j
      have hd : s / 256 ^ (j + 1) = s / 256 ^ j / 256 := by rw [Nat.pow_succ, Nat.div_div_eq_div_mul]
      have hcl : s / 256 ^ j ≤ 1099511627776 := Nat.le_trans (Nat.div_le_self _ _) hs
      obtain ⟨c, hc⟩ : ∃ c, c = s / 256 ^ j := ⟨_, rfl⟩
      rw [← hc] at ht hd hcl ⊢
      clear hc
      have Ht := Lib.hid ht
      have Hd := Lib.hid hd
      clear ht hd
      have hll : (leB s j).length ≤ 8 := by rw [leB_length]; exact hj
      go_wp2_with (at_builtin; refine wpList_append_bytes rfl (.tmp 17) (.tmp 21) rfl g _ (leB s j) rfl (hown.later ((Below.refl _ _).alloc (Nat.le_refl _) _)) (some ⟨wr.heap.size, 0, none⟩) 1 1 [UInt8.ofNat (c % 256)] rfl rfl (fun h => nomatch h) (byte_lit wr c) (by simp; omega) (by simp; omega) ?_; intro v3 w3 hown3 hgr3)
      go_roundw
      case rel =>
        refine ⟨j + 1, by omega, by go_num, congrArg (Value.int .u64) (by rw [Hd.out]; simp), by rw [Ht.out]; exact hown3, ?_⟩
        exact (hbel.alloc (by omega) _).grown hgr3 (by simp; omega) hown.blk
      case measure => simp [intOf]; omega
    · obtain rfl : j = 8 := by omega
      have p1 := boxAt (Hg.out ▸ hbel) 1 _ rfl
      have p2 := boxAt (Hg.out ▸ hbel) 2 _ rfl
      have p3 := boxAt (Hg.out ▸ hbel) 3 _ rfl
      have p4 := boxAt (Hg.out ▸ hbel) 4 _ rfl
      have hbody : ∀ W, Below g wr W → IsBytes W a body := fun W hW => by
        have h1 : Below w.heap.size w wr := ((Below.refl _ w).alloc (Nat.le_refl _) _).trans (hbel.mono (by have := Hg.out; omega))
        exact hby.later (h1.trans (hW.mono (by have := Hg.out; omega)))
      obtain ⟨M, hM⟩ : ∃ M, M = markN ⟨s, k, f, la, body⟩ := ⟨_, rfl⟩
      have hMi : (M : Int) = (k.toNat : Int) + (if f then 4 else 0) + (if la then 8 else 0) := by rw [hM]; unfold markN; cases f <;> cases la <;> simp
      have HM := Lib.hid hM
      clear hM
      have hgs' : ∀ {W : World}, wr.heap.size ≤ W.heap.size → g ≤ W.heap.size := fun h => Nat.le_trans hgs h
      have hP : (leB s 8).length = 8 := leB_length s 8
      cases f <;> cases la
      all_goals
        simp only [Bool.false_eq_true, if_false, if_true, Int.add_zero] at hMi
        go_wp2_with (first
          | (at_builtin; refine wpList_append_bytes rfl (.tmp 35) (.tmp 41) rfl g _ (leB s 8) rfl (hown.later ((Below.refl _ _).alloc (Nat.le_refl _) _)) (some ⟨wr.heap.size, 0, none⟩) 2 2 [UInt8.ofNat M, UInt8.ofNat body.length] rfl rfl (fun h => nomatch h) (two_lit wr _ _ M body.length (by omega) (by omega)) (by simp; omega) (by simp; omega) ?_; intro v3 w3 hown3 hgr3; have hB3 := ((Below.refl g wr).alloc hgs _).grown hgr3 (by simp; omega) hown.blk; have hs3 := hB3.size; have r4 := (hB3.cell (p := ⟨w.heap.size, 4, none⟩) (by have := Hg.out; simp; omega)).trans p4)
          | (at_builtin; refine wpList_append_bytes rfl (.tmp 43) (.tmp 45) rfl g _ (leB s 8 ++ [UInt8.ofNat M, UInt8.ofNat body.length]) rfl hown3 a body.length cap body rfl rfl hno (hbody _ hB3) (by simp; omega) (by omega) ?_; intro v4 w4 hown4 hgr4))
        have hB4 := hB3.grown hgr4 (hgs' hs3) hown3.blk
        obtain ⟨P, hPd⟩ : ∃ P, P = leB s 8 ++ [UInt8.ofNat M, UInt8.ofNat body.length] ++ body := ⟨_, rfl⟩
        have hPl : P.length = 10 + body.length := by rw [hPd]; simp; omega
        rw [← hPd] at hown4
        have HPd := Lib.hid hPd
        clear hPd hown3 hown hgr3 hgr4
        obtain ⟨wo, rfl⟩ : ∃ wo : World, wo = wr := ⟨_, rfl⟩
        go_loopw [4] (fun v wr => ∃ q, q ≤ 50 - body.length ∧ OwnB wr g v (P ++ List.replicate q 0) ∧ Below g wo wr) (fun v _ => 60 - sliceLen v)
        · exact ⟨0, Nat.zero_le _, by simpa using hown4, hB4⟩
        · obtain ⟨q, hq, hown5, hbel5⟩ := hrel
          have hs5 := hbel5.size
          have hgs5 : g ≤ wr.heap.size := Nat.le_trans hgs hs5
          obtain ⟨a5, c5, rfl, hb5, hc5, _, _, hn5⟩ := hown5.slice
          have hl5 : (P ++ List.replicate q (0 : UInt8)).length = 10 + body.length + q := by simp; omega
          have hsn : ∀ u, P ++ List.replicate (q + 1) (0 : UInt8) = (P ++ List.replicate q (0 : UInt8)) ++ [u] ∨ u ≠ 0 := fun u => by
            by_cases h : u = 0
            · left; rw [h, List.replicate_succ', List.append_assoc]
            · exact .inr h
          have hend : q = 50 - body.length → P ++ List.replicate q (0 : UInt8) = encB ⟨s, k, _, _, body⟩ := fun h => by rw [h, HPd.out, HM.out]; rfl
          obtain ⟨R, hR⟩ : ∃ R, R = P ++ List.replicate q (0 : UInt8) := ⟨_, rfl⟩
          rw [← hR] at hown5 hb5 hc5 hn5 hl5 hsn hend ⊢
          clear hR
          obtain ⟨n5, hn5e⟩ : ∃ n5, n5 = R.length := ⟨_, rfl⟩
          rw [← hn5e] at hown5 hl5 hc5 ⊢
          have Hsn := Lib.hid hsn
          have Hend := Lib.hid hend
          have Hn5 := Lib.hid hn5e
          have hRl : R.length ≤ 60 := by omega
          clear hsn hend hn5e
          by_cases hlt : q < 50 - body.length
          · have hlt5 : n5 < 60 := by omega
            have Hl5 := Lib.hid hl5
            clear hl5
            go_wp2_with (at_builtin; refine wpList_append_bytes rfl (.tmp 50) (.tmp 51) rfl g _ R rfl (hown5.later ((Below.refl _ _).alloc (Nat.le_refl _) _)) (some ⟨wr.heap.size, 0, none⟩) 1 1 [0] rfl rfl (fun h => nomatch h) (IsBytes.made rfl) (by simp; omega) (by simp; omega) ?_; intro v6 w6 hown6 hgr6; have hv6 : sliceLen v6 = n5 + 1 := (by obtain ⟨_, _, rfl, _⟩ := hown6.slice; simp [sliceLen, ← Hn5.out]))
            go_roundw
            · refine ⟨q + 1, by omega, ?_, (hbel5.alloc hgs5 _).grown hgr6 (by simp; omega) hown5.blk⟩
              rcases Hsn.out 0 with h | h
              · rw [h]; exact hown6
              · exact absurd rfl h
            · rw [hv6]; simp [sliceLen]; omega
          · have hqe : q = 50 - body.length := by omega
            have hap := refappend_calls a5 R c5 wr (by omega) (fun h => by obtain ⟨x, y⟩ := hn5 h; exact ⟨by rw [x]; rfl, y⟩) hb5
            rw [← Hn5.out] at hap
            have Hq := Lib.hid hqe
            have hn60 : 60 ≤ n5 := by omega
            clear hqe hl5
            go_wp2_with (go_at_call 20; refine hap.mono ?_; rintro e w6 ⟨v6, rfl, hown6, hB6⟩)
            go_ret2
            refine ⟨_, rfl, ?_, ?_⟩
            · unfold sealB
              rw [← Hend.out Hq.out]
              exact hown6.mono (by have := Hg.out; omega)
            · have h1 : Below w.heap.size w wo := ((Below.refl _ w).alloc (Nat.le_refl _) _).trans (hbel.mono (by have := Hg.out; omega))
              have h2 : Below w.heap.size w wr := h1.trans (hbel5.mono (by have := Hg.out; omega))
              exact below_call h2 (Nat.le_refl _) (hB6.mono (by have := Hg.out; omega))

end Go.Proofs.Ytdlbjllgdikadaa
