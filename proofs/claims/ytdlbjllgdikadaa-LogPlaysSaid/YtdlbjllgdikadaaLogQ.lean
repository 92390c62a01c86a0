/- log, the document's: a log in memory; checked, head, Lasts, Room. -/
import Derived.Test.YtdlbjllgdikadaaLogW
import Derived.Test.YtdlbjllgdikadaaLogP
namespace Go.Proofs.Ytdlbjllgdikadaa
open Go.RowKit
set_option linter.unusedVariables false
set_option linter.unusedSimpArgs false

def RLg.cells (r : RLg) (V : Nat) (u1 u2 : Value) : Array Value := #[.pointer (some ⟨V, 0, none⟩), u1, u2, .int .u64 (r.next : Int), .bool r.off]
/-- The document's log in memory. -/
def RLogAt (w : World) (R V : Nat) (r : RLg) (u1 u2 : Value) : Prop := w.heap[R]? = some (.cells (r.cells V u1 u2) 147 (0, 0))
section
variable {w w' : World} {R V : Nat} {r r' : RLg} {u1 u2 : Value}
theorem RLogAt.cell (h : RLogAt w R V r u1 u2) (q : Nat) (u : Value) (hu : (r.cells V u1 u2)[q]? = some u) : w.cell? ⟨R, q, none⟩ = some u := by rw [cell_of_row w R q _ _ _ h, hu]
theorem RLogAt.c0 (h : RLogAt w R V r u1 u2) : w.cell? ⟨R, 0, none⟩ = some (.pointer (some ⟨V, 0, none⟩)) := h.cell 0 _ rfl
theorem RLogAt.c1 (h : RLogAt w R V r u1 u2) : w.cell? ⟨R, 1, none⟩ = some u1 := h.cell 1 _ rfl
theorem RLogAt.c2 (h : RLogAt w R V r u1 u2) : w.cell? ⟨R, 2, none⟩ = some u2 := h.cell 2 _ rfl
theorem RLogAt.c3 (h : RLogAt w R V r u1 u2) : w.cell? ⟨R, 3, none⟩ = some (.int .u64 (r.next : Int)) := h.cell 3 _ rfl
theorem RLogAt.c4 (h : RLogAt w R V r u1 u2) : w.cell? ⟨R, 4, none⟩ = some (.bool r.off) := h.cell 4 _ rfl
theorem RLogAt.free (h : RLogAt w R V r u1 u2) (q : Nat) : w.frozen? ⟨R, q, none⟩ = false := frozen_of_row w R q _ _ h
theorem RLogAt.lt (h : RLogAt w R V r u1 u2) : R < w.heap.size := lt_of_block h
theorem RLogAt.later (h : RLogAt w R V r u1 u2) (hb : Below w.heap.size w w') : RLogAt w' R V r u1 u2 := (hb.block R (lt_of_block h)).trans h
theorem RLogAt.aside {T : List Nat} (h : RLogAt w R V r u1 u2) (k : Aside T w w') (hT : R ∉ T) : RLogAt w' R V r u1 u2 := (k.block R (lt_of_block h) hT).trans h
theorem RLogAt.kept {row : Option Nat} (h : RLogAt w R V r u1 u2) (k : w.grownBy w' row) (hT : some R ≠ row) : RLogAt w' R V r u1 u2 := (k.block R (lt_of_block h) hT).trans h
theorem RLogAt.other (h : RLogAt w R V r u1 u2) (p : Addr) (u : Value) (hX : R ≠ p.block) : RLogAt (w.setCell p u) R V r u1 u2 := (heap_setCell_other w p R u hX).trans h
theorem RLogAt.stored {v1 v2 : Value} (h : RLogAt w R V r u1 u2) (q : Nat) (u : Value) (hu : (r.cells V u1 u2).setIfInBounds q u = r'.cells V v1 v2) : RLogAt (w.setCell ⟨R, q, none⟩ u) R V r' v1 v2 := by
  unfold RLogAt at *
  rw [heap_setCell_same w R q _ 147 _ h, hu]
end

theorem checked_calls (a : Option Addr) (l : List Rc) (c : Nat) (w : World) (hI : IsRs w a l) (hlen : l.length ≤ 1099511627776) :
    Calls Try.prog 104 #[.slice a l.length c] w fun e w' => e = .returned (.bool (l.any isCk)) ∧ w = w' := by
  go_enter Try.func104, Try.ntmps104
  go_wp2
  go_loopw [3] (fun iv wr => ∃ i : Nat, i ≤ l.length ∧ iv = .int .i64 (i : Int) ∧ (l.take i).any isCk = false ∧ w = wr) (fun iv _ => l.length - (intOf iv).toNat)
  case atStart => exact ⟨0, Nat.zero_le _, rfl, rfl, rfl⟩
  case round =>
    obtain ⟨i, hi, rfl, hany, rfl⟩ := hrel
    by_cases hlt : i < l.length
    · obtain ⟨b1, o1, a1, c1, rfl, p0, _⟩ := hI.cellsAt i hlt
      have hiI : (i : Int) < (l.length : Int) := by omega
      have f0 : w.cell? ⟨b1, o1 + i * 3, none⟩ = _ := p0 ⟨w, Below.refl _ _⟩
      have htk : (l.take (i + 1)).any isCk = isCk l[i] := by rw [List.take_add_one, List.any_append, hany, List.getElem?_eq_getElem hlt]; simp
      obtain ⟨x, hx⟩ : ∃ x, x = l[i] := ⟨_, rfl⟩
      rw [← hx] at f0 htk
      have HX := Lib.hid (And.intro hx htk)
      have hck := isCk_int x
      clear hx htk p0 hany
      cases hc : isCk x with
      | true =>
        rw [hc] at hck
        have HC := Lib.hid hc
        clear hc
        go_wp2
        go_ret
        exact ⟨by rw [List.any_eq_true.2 ⟨x, by rw [HX.out.1]; exact List.getElem_mem hlt, HC.out⟩]; rfl, rfl⟩
      | false =>
        rw [hc] at hck
        have HC := Lib.hid hc
        clear hc
        go_wp2
        go_roundw
        case rel => exact ⟨i + 1, by omega, by go_num, by rw [HX.out.2]; exact HC.out, trivial⟩
        case measure => simp [intOf]; omega
    · have hie : i = l.length := by omega
      rw [hie, List.take_length] at hany
      have hiI : ¬ (i : Int) < (l.length : Int) := by omega
      have HA := Lib.hid hany
      clear hany
      go_wp2
      go_ret
      exact ⟨by rw [HA.out]; rfl, rfl⟩

theorem head_calls (F : Nat → Prop) (R V : Nat) (r : RLg) (u1 u2 : Value) (w : World) (h : RLogAt w R V r u1 u2) (hW : WinRs F w u2 r.W) (hb : ∀ x ∈ r.W, x.body.length ≤ 524288) (hn : headR r ≤ 4611686018427387904) (hlen : r.W.length ≤ 1099511627776) :
    Calls Try.prog 106 #[.pointer (some ⟨R, 0, none⟩)] w fun e w' => e = .returned (.int .u64 (headR r : Nat)) ∧ w = w' := by
  obtain ⟨a, c, rfl, hcl, hI, hno⟩ := hW.slice
  have c2 := h.c2
  have c3 := h.c3
  obtain ⟨L, hL⟩ : ∃ L, L = r.W := ⟨_, rfl⟩
  obtain ⟨H, hH⟩ : ∃ H, H = headR r := ⟨_, rfl⟩
  have hHs : H = r.next + sumM L := by rw [hH, hL]; rfl
  rw [← hL] at hI c2 hb hlen hcl
  rw [← hH] at hn ⊢
  obtain ⟨N, hN⟩ : ∃ N, N = r.next := ⟨_, rfl⟩
  rw [← hN] at c3 hHs
  have HH := Lib.hid hHs
  have hNH : N ≤ H := by omega
  clear h hW hL hH hHs hN
  go_enter Try.func106, Try.ntmps106
  go_wp2
  go_loopw [3, 4] (fun nv iv wr => ∃ i : Nat, i ≤ L.length ∧ iv = .int .i64 (i : Int) ∧ nv = .int .u64 ((N + sumM (L.take i) : Nat) : Int) ∧ w = wr) (fun _ iv _ => L.length - (intOf iv).toNat)
  case atStart => exact ⟨0, Nat.zero_le _, rfl, rfl, rfl⟩
  case round =>
    obtain ⟨i, hi, rfl, rfl, rfl⟩ := hrel
    by_cases hlt : i < L.length
    · obtain ⟨b1, o1, a1, c1, rfl, _, _, p2, _⟩ := hI.cellsAt i hlt
      have hiI : (i : Int) < (L.length : Int) := by omega
      have f2 : w.cell? ⟨b1, o1 + i * 3 + 2, none⟩ = _ := p2 ⟨w, Below.refl _ _⟩
      have htk := sumM_take L i hlt
      have hle := sumM_take_le L (i + 1)
      have hbx := hb L[i] (List.getElem_mem hlt)
      obtain ⟨x, hx⟩ : ∃ x, x = L[i] := ⟨_, rfl⟩
      rw [← hx] at f2 htk hbx
      obtain ⟨S, hS⟩ : ∃ S, S = sumM (L.take i) := ⟨_, rfl⟩
      rw [← hS] at htk ⊢
      have hsum : N + (S + manyN x.body.length) ≤ H := by have := HH.out; omega
      have hmany := Lib.hid (fun W => refmany_calls x.body.length (by omega) W)
      have hwr : IntKind.u64.wrap (((N + S : Nat) : Int) + (manyN x.body.length : Int)) = ((N + (S + manyN x.body.length) : Nat) : Int) := by rw [IntKind.wrap_u64]; omega
      have hwr2 : IntKind.u64.wrap ((manyN x.body.length : Nat) : Int) = ((manyN x.body.length : Nat) : Int) := by rw [IntKind.wrap_u64]; omega
      have HS := Lib.hid (And.intro hS htk)
      clear hS htk p2 hx hle
      go_wp2_with (go_at_call 28; refine (hmany.out _).mono ?_; rintro e w3 ⟨rfl, rfl⟩)
      go_roundw
      case rel => exact ⟨i + 1, by omega, by go_num, by rw [HS.out.2]; first | rfl | (congr 1; omega) | simp, trivial⟩
      case measure => simp [intOf]; omega
    · have hie : i = L.length := by omega
      subst hie
      have hiI : ¬ ((L.length : Nat) : Int) < (L.length : Int) := by omega
      rw [List.take_length, ← HH.out]
      go_wp2
      go_ret
      exact ⟨rfl, rfl⟩

theorem lasts_calls (F : Nat → Prop) (R V : Nat) (r : RLg) (u1 u2 : Value) (w : World) (h : RLogAt w R V r u1 u2) (hW : WinRs F w u1 r.L) (hlen : r.L.length ≤ 1099511627776) :
    Calls Try.prog 107 #[.pointer (some ⟨R, 0, none⟩)] w fun e w' => ∃ u, e = .returned u ∧ WinRs F w u (fromLast r.L) ∧ w = w' := by
  obtain ⟨a, c, rfl, hcl, hI, hno⟩ := hW.slice
  have c1 := h.c1
  obtain ⟨L, hL⟩ : ∃ L, L = r.L := ⟨_, rfl⟩
  rw [← hL] at hI c1 hlen hcl hW ⊢
  obtain ⟨n, hn⟩ : ∃ n, n = L.length := ⟨_, rfl⟩
  rw [← hn] at hcl c1 hlen hW
  have HLL := Lib.hid hn
  have hnI : (n : Int) ≤ 1099511627776 := by omega
  have HW := Lib.hid hW
  clear h hW hL hn
  go_enter Try.func107, Try.ntmps107
  go_wp2
  go_loopw [3] (fun iv wq => ∃ s : Nat, s ≤ n ∧ iv = .int .i64 ((s : Int) - 1) ∧ (∀ j (hj : j < L.length), s ≤ j → isCk L[j] = false) ∧ w = wq) (fun iv _ => (intOf iv + 1).toNat)
  case atStart => exact ⟨n, Nat.le_refl _, rfl, fun j hj h2 => absurd hj (by rw [← HLL.out]; omega), rfl⟩
  case round =>
    obtain ⟨s, hs, rfl, hno3, rfl⟩ := hrel
    cases s with
    | zero =>
      have hlast : fromLast L = L := fromLast_no (by
        cases hc : L.any isCk with
        | false => rfl
        | true =>
          obtain ⟨x, hx, hx2⟩ := List.any_eq_true.1 hc
          obtain ⟨j, hj, e⟩ := List.mem_iff_getElem.1 hx
          rw [← e, hno3 j hj (Nat.zero_le _)] at hx2
          cases hx2)
      have HT := Lib.hid hlast
      clear hlast hno3
      go_wp2
      go_ret
      rw [HT.out]
      exact ⟨_, rfl, HW.out, rfl⟩
    | succ s =>
      have hsR : s < L.length := by rw [← HLL.out]; omega
      obtain ⟨b2, o2, abl, capl, rfl, p0, _⟩ := hI.cellsAt s hsR
      have k0 : w.cell? ⟨b2, o2 + s * 3, none⟩ = _ := p0 ⟨w, Below.refl _ _⟩
      have hck := isCk_int L[s]
      clear p0
      have hsI : ((s + 1 : Nat) : Int) - 1 = (s : Int) := by omega
      have hsL : (s : Int) < (n : Int) := by omega
      rw [hsI]
      cases hk : isCk L[s] with
      | true =>
        rw [hk] at hck
        have hlast : fromLast L = L.drop s := fromLast_at hsR hk fun j hj hij => hno3 j hj (by omega)
        have hdr := HW.out.drop s (Nat.le_of_lt hsR)
        rw [← hlast, ← HLL.out] at hdr
        have HT := Lib.hid hdr
        have hsc : s ≤ c := by omega
        have hsc2 : ¬ c = s := by omega
        have hsl2 : s ≤ n := by omega
        clear hlast hk hno3 hdr
        go_wp2
        go_ret
        exact ⟨_, rfl, HT.out, rfl⟩
      | false =>
        rw [hk] at hck
        have HK := Lib.hid (And.intro hk hno3)
        clear hk hno3
        go_wp2
        go_roundw
        case rel =>
          refine ⟨s, by omega, by go_num, fun j hj h2 => ?_, trivial⟩
          by_cases he : j = s
          · subst he; exact HK.out.1
          · exact HK.out.2 j hj (by omega)
        case measure => simp [intOf]
end Go.Proofs.Ytdlbjllgdikadaa
