/- slices.Reverse of a row of blocks. scan: maps of blocks; Run, the first loop. -/
import Derived.Test.YtdlbjllgdikadaaScnA
import Derived.Test.YtdlbjllgdikadaaGrO
namespace Go.Proofs.Ytdlbjllgdikadaa
open Go.RowKit
set_option linter.unusedVariables false

theorem OwnB.aside2 {T : List Nat} {w w' : World} {base : Nat} {v : Value} {l : List UInt8} (h : OwnB w base v l) (k : Aside T w w') (hT : ∀ q, v.ownBlock = some q → q ∉ T) : OwnB w' base v l := by
  refine ⟨h.1, ?_⟩
  rcases h.2 with hn | ⟨g, cap, cur, rfl, hbg, hg, rest⟩
  · exact .inl hn
  · exact .inr ⟨g, cap, cur, rfl, hbg, (k.block g (Array.getElem?_eq_some_iff.1 hg).1 (hT g rfl)).trans hg, rest⟩
abbrev Trip := Blk × Option Addr × Nat
def tcell (p : Trip) (j : Nat) : Value := ((p.1.cells p.2.1 p.2.2)[j]?).getD undef
/-- A row of blocks, cell by cell. -/
def CRow (w : World) (g S n : Nat) (c : Nat → Nat → Value) : Prop := ∃ cs : Array Value, w.heap[g]? = some (.cells cs 43 (0, 0)) ∧ cs.size = S ∧ ∀ i, i < n → ∀ j, j < 5 → cs[i * 5 + j]? = some (c i j)
theorem CRow.cell {w : World} {g S n : Nat} {c : Nat → Nat → Value} (h : CRow w g S n c) (i j : Nat) (hi : i < n) (hj : j < 5) : w.cell? ⟨g, i * 5 + j, none⟩ = some (c i j) := by
  obtain ⟨cs, h1, _, h2⟩ := h
  rw [cell_of_row w g _ _ _ _ h1]; exact h2 i hi j hj
theorem CRow.drew {w : World} {g S n : Nat} {c : Nat → Nat → Value} (h : CRow w g S n c) : CRow w.drew g S n c := h
theorem CRow.free {w : World} {g S n : Nat} {c : Nat → Nat → Value} (h : CRow w g S n c) (q : Nat) : w.frozen? ⟨g, q, none⟩ = false := by obtain ⟨cs, h, _⟩ := h; exact frozen_of_row w g q _ _ h
theorem CRow.put {w : World} {g S n : Nat} {c : Nat → Nat → Value} (h : CRow w g S n c) (i j : Nat) (hi : i < n) (hj : j < 5) (u : Value) : CRow (w.setCell ⟨g, i * 5 + j, none⟩ u) g S n (fun k q => if k = i ∧ q = j then u else c k q) := by
  obtain ⟨cs, h1, hS, h2⟩ := h
  refine ⟨_, heap_setCell_same w g _ _ 43 u h1, by rw [Array.size_setIfInBounds]; exact hS, fun k hk q hq => ?_⟩
  rw [Array.getElem?_setIfInBounds]
  have hb : i * 5 + j < cs.size := (Array.getElem?_eq_some_iff.1 (h2 i hi j hj)).1
  by_cases e : k = i ∧ q = j
  · obtain ⟨rfl, rfl⟩ := e
    rw [if_pos rfl, if_pos hb]
    exact congrArg some (if_pos (c := k = k ∧ q = q) ⟨rfl, rfl⟩).symm
  · rw [if_neg (fun e2 => e ⟨by omega, by omega⟩), h2 k hk q hq]
    exact congrArg some (if_neg (c := k = i ∧ q = j) e).symm
theorem CRow.congr {w : World} {g S n : Nat} {c c' : Nat → Nat → Value} (h : CRow w g S n c) (e : ∀ i, i < n → ∀ j, j < 5 → c i j = c' i j) : CRow w g S n c' := by
  obtain ⟨cs, h1, hS, h2⟩ := h
  exact ⟨cs, h1, hS, fun i hi j hj => by rw [h2 i hi j hj, e i hi j hj]⟩
/-- An element is written whole. -/
theorem CRow.put5 {w : World} {g S n : Nat} {c : Nat → Nat → Value} (h : CRow w g S n c) (i : Nat) (hi : i < n) (p : Nat → Value) :
    CRow (((((w.setCell ⟨g, i * 5, none⟩ (p 0)).setCell ⟨g, i * 5 + 1, none⟩ (p 1)).setCell ⟨g, i * 5 + 2, none⟩ (p 2)).setCell ⟨g, i * 5 + 3, none⟩ (p 3)).setCell ⟨g, i * 5 + 4, none⟩ (p 4)) g S n (fun k q => if k = i then p q else c k q) := by
  have h5 := ((((h.put i 0 hi (by decide) (p 0)).put i 1 hi (by decide) (p 1)).put i 2 hi (by decide) (p 2)).put i 3 hi (by decide) (p 3)).put i 4 hi (by decide) (p 4)
  refine CRow.congr h5 fun k hk q hq => ?_
  by_cases e : k = i
  · subst e
    match q, hq with
    | 0, _ => simp
    | 1, _ => simp
    | 2, _ => simp
    | 3, _ => simp
    | 4, _ => simp
  · simp [e]
/-- The first k and the last k are turned about. -/
def turned (n k : Nat) (f : Nat → Nat → Value) : Nat → Nat → Value := fun i q => if i < k ∨ n ≤ i + k then f (n - 1 - i) q else f i q
theorem turned_zero (n : Nat) (f : Nat → Nat → Value) (i : Nat) (hi : i < n) : turned n 0 f i = f i := by
  funext q; unfold turned; rw [if_neg (by omega)]
theorem turned_step (n k : Nat) (f : Nat → Nat → Value) (h : k < n - 1 - k) (i q : Nat) (hi : i < n) :
    (if i = n - 1 - k then turned n k f k q else if i = k then turned n k f (n - 1 - k) q else turned n k f i q) = turned n (k + 1) f i q := by
  unfold turned
  by_cases e1 : i = n - 1 - k
  · subst e1
    rw [if_pos rfl, if_neg (by omega), if_pos (by omega)]
    congr 1; omega
  · rw [if_neg e1]
    by_cases e2 : i = k
    · subst e2
      rw [if_pos rfl, if_neg (by omega), if_pos (by omega)]
    · rw [if_neg e2]
      by_cases e3 : i < k ∨ n ≤ i + k
      · rw [if_pos e3, if_pos (by omega)]
      · rw [if_neg e3, if_neg (by omega)]
theorem turned_all (n k : Nat) (f : Nat → Nat → Value) (h : ¬ k < n - 1 - k) (hk : k ≤ n) (i q : Nat) (hi : i < n) : turned n k f i q = f (n - 1 - i) q := by
  unfold turned
  by_cases e : i < k ∨ n ≤ i + k
  · rw [if_pos e]
  · rw [if_neg e]
    have : n - 1 - i = i := by omega
    rw [this]
set_option maxRecDepth 100000 in
set_option maxHeartbeats 8000000 in
/-- slices.Reverse, at a row of blocks. -/
theorem reverse_row (g S n cap : Nat) (t : Nat → Trip) (f : Nat → Nat → Value) (hft : f = fun i q => tcell (t i) q) (w : World) (h : CRow w g S n f) (hn : n ≤ 1099511627777) :
    Calls Try.prog 93 #[.slice (some ⟨g, 0, none⟩) n cap] w fun e w' => e = .returned (.tuple #[]) ∧ CRow w' g S n (fun i q => f (n - 1 - i) q) ∧ Aside [g] w w' := by
  have HFT := Lib.hid hft
  clear hft
  go_enter Try.func93, Try.ntmps93
  go_wp2
  go_loopw [2, 3] (fun iv jv wr => ∃ k : Nat, k ≤ n ∧ iv = .int .i64 (k : Int) ∧ jv = .int .i64 ((n : Int) - 1 - (k : Int)) ∧ CRow wr g S n (turned n k f) ∧ Aside [g] w wr) (fun iv _ _ => n - (intOf iv).toNat)
  case atStart => exact ⟨0, Nat.zero_le _, rfl, by simp, h.congr fun i hi j _ => by rw [turned_zero n f i hi], Aside.refl _ _⟩
  case round =>
    clear h
    obtain ⟨k, hk, rfl, rfl, hR, hA⟩ := hrel
    by_cases hlt : k < n - 1 - k
    · have hlt' : (k : Int) < (n : Int) - 1 - (k : Int) := by omega
      obtain ⟨m, hm⟩ : ∃ m, m = n - 1 - k := ⟨_, rfl⟩
      have hmI : (n : Int) - 1 - (k : Int) = (m : Int) := by omega
      rw [hmI] at hlt' ⊢
      have hkn : k < n := by omega
      have hmn : m < n := by omega
      have hkm : k ≠ m := by omega
      have hkn' : (k : Int) < (n : Int) := by omega
      have hmn' : (m : Int) < (n : Int) := by omega
      have HM := Lib.hid (And.intro hm hmI)
      clear hm hmI
      have htr : ∀ i, ∃ p : Trip, ∀ q, turned n k f i q = tcell p q := fun i => by
        rw [HFT.out]
        unfold turned
        by_cases e : i < k ∨ n ≤ i + k
        · exact ⟨t (n - 1 - i), fun q => if_pos e⟩
        · exact ⟨t i, fun q => if_neg e⟩
      obtain ⟨p, hp⟩ := htr k
      obtain ⟨r, hr⟩ := htr m
      clear htr
      have a0 : wr.cell? ⟨g, k * 5, none⟩ = some (.int .u64 (p.1.serial : Int)) := (hR.cell k 0 hkn (by decide)).trans (by rw [hp]; rfl)
      have a1 : wr.cell? ⟨g, k * 5 + 1, none⟩ = some (.int .u8 (p.1.kind.toNat : Int)) := by rw [hR.cell k 1 hkn (by decide), hp]; rfl
      have a2 : wr.cell? ⟨g, k * 5 + 2, none⟩ = some (.bool p.1.first) := by rw [hR.cell k 2 hkn (by decide), hp]; rfl
      have a3 : wr.cell? ⟨g, k * 5 + 3, none⟩ = some (.bool p.1.last) := by rw [hR.cell k 3 hkn (by decide), hp]; rfl
      have a4 : wr.cell? ⟨g, k * 5 + 4, none⟩ = some (.slice p.2.1 p.1.body.length p.2.2) := by rw [hR.cell k 4 hkn (by decide), hp]; rfl
      have b0 : wr.cell? ⟨g, m * 5, none⟩ = some (.int .u64 (r.1.serial : Int)) := (hR.cell m 0 hmn (by decide)).trans (by rw [hr]; rfl)
      have b1 : wr.cell? ⟨g, m * 5 + 1, none⟩ = some (.int .u8 (r.1.kind.toNat : Int)) := by rw [hR.cell m 1 hmn (by decide), hr]; rfl
      have b2 : wr.cell? ⟨g, m * 5 + 2, none⟩ = some (.bool r.1.first) := by rw [hR.cell m 2 hmn (by decide), hr]; rfl
      have b3 : wr.cell? ⟨g, m * 5 + 3, none⟩ = some (.bool r.1.last) := by rw [hR.cell m 3 hmn (by decide), hr]; rfl
      have b4 : wr.cell? ⟨g, m * 5 + 4, none⟩ = some (.slice r.2.1 r.1.body.length r.2.2) := by rw [hR.cell m 4 hmn (by decide), hr]; rfl
      have HP := Lib.hid (And.intro hp hr)
      clear hp hr
      have f0 := hR.free (k * 5)
      have f1 := hR.free (k * 5 + 1)
      have f2 := hR.free (k * 5 + 2)
      have f3 := hR.free (k * 5 + 3)
      have f4 := hR.free (k * 5 + 4)
      have g0 := hR.free (m * 5)
      have g1 := hR.free (m * 5 + 1)
      have g2 := hR.free (m * 5 + 2)
      have g3 := hR.free (m * 5 + 3)
      have g4 := hR.free (m * 5 + 4)
      go_upto_region 3 with fail
      go_region
      have et : ∀ q : Trip, tcell q 0 = .int .u64 (q.1.serial : Int) ∧ tcell q 1 = .int .u8 (q.1.kind.toNat : Int) ∧ tcell q 2 = .bool q.1.first ∧ tcell q 3 = .bool q.1.last ∧ tcell q 4 = .slice q.2.1 q.1.body.length q.2.2 := fun q => ⟨rfl, rfl, rfl, rfl, rfl⟩
      obtain ⟨er0, er1, er2, er3, er4⟩ := et r
      obtain ⟨ep0, ep1, ep2, ep3, ep4⟩ := et p
      have h1 := (hR.put5 k hkn (tcell r)).put5 m hmn (tcell p)
      rw [er0, er1, er2, er3, er4, ep0, ep1, ep2, ep3, ep4] at h1
      have h2 : CRow _ g S n (turned n (k + 1) f) := h1.congr fun i hi q hq => by
        rw [← turned_step n k f (by omega) i q hi, HP.out.1, HM.out.1.symm, HP.out.2]
      have hAd := (((((((((hA.setCell ⟨g, k * 5, none⟩ (.int .u64 (r.1.serial : Int)) (fun _ => by simp)).setCell ⟨g, k * 5 + 1, none⟩ (.int .u8 (r.1.kind.toNat : Int)) (fun _ => by simp)).setCell ⟨g, k * 5 + 2, none⟩ (.bool r.1.first) (fun _ => by simp)).setCell ⟨g, k * 5 + 3, none⟩ (.bool r.1.last) (fun _ => by simp)).setCell ⟨g, k * 5 + 4, none⟩ (.slice r.2.1 r.1.body.length r.2.2) (fun _ => by simp)).setCell ⟨g, m * 5, none⟩ (.int .u64 (p.1.serial : Int)) (fun _ => by simp)).setCell ⟨g, m * 5 + 1, none⟩ (.int .u8 (p.1.kind.toNat : Int)) (fun _ => by simp)).setCell ⟨g, m * 5 + 2, none⟩ (.bool p.1.first) (fun _ => by simp)).setCell ⟨g, m * 5 + 3, none⟩ (.bool p.1.last) (fun _ => by simp)).setCell ⟨g, m * 5 + 4, none⟩ (.slice p.2.1 p.1.body.length p.2.2) (fun _ => by simp)
      refine over_world (R := fun W => CRow W g S n (turned n (k + 1) f) ∧ Aside [g] w W) ⟨h2.drew, hAd.drew⟩ ?_
      clear et er0 er1 er2 er3 er4 ep0 ep1 ep2 ep3 ep4 h1 h2 hAd hR hA a0 a1 a2 a3 a4 b0 b1 b2 b3 b4 f0 f1 f2 f3 f4 g0 g1 g2 g3 g4
      rintro wv ⟨hR, hA⟩
      go_wp2
      go_roundw
      case rel => exact ⟨k + 1, by omega, by go_num, by have := HM.out.2; congr 1; omega, hR, hA⟩
      case measure => simp [intOf]; omega
    · have hlt' : ¬ (k : Int) < (n : Int) - 1 - (k : Int) := by omega
      go_wp2
      go_end0
      exact ⟨rfl, hR.congr fun i hi j _ => turned_all n k f hlt hk i j hi, hA⟩

theorem cellsOf_at : ∀ (r : List Trip) (i : Nat) (hi : i < r.length) (j : Nat) (hj : j < 5), (cellsOf r)[i * 5 + j]? = some (tcell r[i] j)
  | p :: r, 0, _, j, hj => by
    simp only [cellsOf, Nat.zero_mul, Nat.zero_add, List.getElem_cons_zero]
    rw [List.getElem?_append_left (by simp [Blk.cells]; omega), Array.getElem?_toList]
    unfold tcell
    have : j < (p.1.cells p.2.1 p.2.2).size := hj
    rw [Array.getElem?_eq_getElem this]; rfl
  | p :: r, i + 1, hi, j, hj => by
    have ih := cellsOf_at r i (by simpa using hi) j hj
    simp only [cellsOf, List.getElem_cons_succ]
    rw [List.getElem?_append_right (by simp [Blk.cells]; omega), ← ih]
    congr 1
    simp [Blk.cells]; omega

theorem reverse_nil (w : World) : Calls Try.prog 93 #[.slice none 0 0] w fun e w' => e = .returned (.tuple #[]) ∧ w = w' := by
  go_enter Try.func93, Try.ntmps93
  go_wp2
  go_loop [2, 3] (fun iv jv => iv = .int .i64 0 ∧ jv = .int .i64 (-1)) (fun _ _ => 0)
  case atStart => exact ⟨rfl, rfl⟩
  case round =>
    obtain ⟨rfl, rfl⟩ := hrel
    go_wp2
    go_end0
    exact ⟨rfl, rfl⟩

theorem reverse_calls (l : List Blk) (v : Value) (base : Nat) (w : World) (h : OwnBs w base v l) (hl : l.length ≤ 1099511627777) (hb : base ≤ w.heap.size) :
    Calls Try.prog 93 #[v] w fun e w' => e = .returned (.tuple #[]) ∧ OwnBs w' base v l.reverse ∧ (∀ k, k < w.heap.size → v.ownBlock ≠ some k → w'.heap[k]? = w.heap[k]?) ∧ Below base w w' := by
  obtain ⟨r, h1, h2, h3⟩ := h
  have hrl : r.length = l.length := by rw [← h1, List.length_map]
  have hlen := h2.1
  rcases h2.2 with ⟨rfl, hn⟩ | ⟨g, cap, cur, rfl, hbg, hg, hnc, hcm, hcs, htake⟩
  · have hnil : l = [] := List.length_eq_zero_iff.1 hn
    subst hnil
    have hr : r = [] := List.length_eq_zero_iff.1 hrl
    subst hr
    exact (reverse_nil w).mono fun e w' ⟨e1, e2⟩ => by subst e2; exact ⟨e1, ⟨[], rfl, h2, fun p hp => nomatch hp⟩, fun k _ _ => rfl, Below.refl _ _⟩
  · have hrow : CRow w g cur.size l.length (fun i q => tcell ((fun i => (r[i]?).getD (noneB, none, 0)) i) q) := by
      refine ⟨cur, hg, rfl, fun i hi j hj => ?_⟩
      have hi2 : i < r.length := by omega
      have hc := cellsOf_at r i hi2 j hj
      rw [← htake, List.getElem?_take, if_pos (by omega), Array.getElem?_toList] at hc
      rw [hc]
      simp only [List.getElem?_eq_getElem hi2, Option.getD_some]
    refine (reverse_row g cur.size l.length cap (fun i => (r[i]?).getD (noneB, none, 0)) _ rfl w hrow hl).mono ?_
    rintro e w' ⟨rfl, hR, hA⟩
    obtain ⟨cs, k1, kS, k2⟩ := hR
    have hl2 : l.reverse.length = l.length := List.length_reverse
    refine ⟨rfl, ⟨r.reverse, by rw [List.map_reverse, h1], ⟨?_, .inr ⟨g, cap, cs, by rw [hl2], hbg, k1, by rw [hl2]; exact hnc, hcm, by rw [kS]; exact hcs, ?_⟩⟩, fun p hp => (h3 p (List.mem_reverse.1 hp)).aside2 hA ?_⟩, fun k hk hne => hA.block k hk (fun e => hne (by rw [List.mem_singleton] at e; subst e; rfl)), hA.toBelow (fun k hk => by rw [List.mem_singleton] at hk; omega) hb⟩
    · rw [cellsOf_length, List.length_reverse, hl2, hrl]
    · rw [hl2]
      apply List.ext_getElem?
      intro q
      rw [List.getElem?_take]
      by_cases hq : q < l.length * 5
      · rw [if_pos hq, Array.getElem?_toList]
        have hi : q / 5 < l.length := by omega
        have hj : q % 5 < 5 := Nat.mod_lt _ (by decide)
        have e : q = q / 5 * 5 + q % 5 := by omega
        have hi2 : l.length - 1 - q / 5 < r.length := by omega
        rw [e, k2 _ hi _ hj, cellsOf_at r.reverse (q / 5) (by rw [List.length_reverse]; omega) _ hj]
        simp only [List.getElem?_eq_getElem hi2, Option.getD_some, List.getElem_reverse, hrl]
      · rw [if_neg hq, List.getElem?_eq_none (by rw [cellsOf_length, List.length_reverse]; omega)]
    · intro k hk e
      rw [List.mem_singleton] at e
      subst e
      obtain ⟨c1, f1, z1⟩ := Lib.ownsRow_kind (h3 p (List.mem_reverse.1 hp)) _ hk
      rw [hg] at z1
      simp at z1
end Go.Proofs.Ytdlbjllgdikadaa

namespace Go.Proofs.Ytdlbjllgdikadaa
open Go.RowKit
set_option linter.unusedVariables false

/-- A block that is held: its body lies in a row of bytes. -/
def Held (w : World) (base : Nat) (x : Blk) (u : Value) : Prop := ∃ a cap, u = .agg (x.cells a cap) ∧ OwnB w base (.slice a x.body.length cap) x.body
/-- What a map of blocks holds. -/
def BMapF (w : World) (base : Nat) (l : List Blk) (M : Int → Option Value) : Prop := ∀ s : Nat, match findS l s with
  | none => M (s : Int) = none
  | some x => ∃ u, M (s : Int) = some u ∧ Held w base x u
def BMap (w : World) (b base : Nat) (l : List Blk) : Prop := ∃ M, MapFn w b .u64 M ∧ BMapF w base l M

theorem Held.later {w w' : World} {base : Nat} {x : Blk} {u : Value} (h : Held w base x u) (hb : Below w.heap.size w w') : Held w' base x u := by
  obtain ⟨a, cap, h1, h2⟩ := h
  exact ⟨a, cap, h1, h2.later hb⟩
theorem BMapF.later {w w' : World} {base : Nat} {l : List Blk} {M : Int → Option Value} (h : BMapF w base l M) (hb : Below w.heap.size w w') : BMapF w' base l M := by
  intro s
  have := h s
  split
  · rename_i e; rw [e] at this; exact this
  · rename_i x e
    rw [e] at this
    obtain ⟨u, h1, h2⟩ := this
    exact ⟨u, h1, h2.later hb⟩
theorem BMap.later {w w' : World} {b base : Nat} {l : List Blk} (h : BMap w b base l) (hb : Below w.heap.size w w') : BMap w' b base l := by
  obtain ⟨M, h1, h2⟩ := h
  exact ⟨M, h1.later hb, h2.later hb⟩
theorem BMap.lt {w : World} {b base : Nat} {l : List Blk} (h : BMap w b base l) : b < w.heap.size := by obtain ⟨M, h1, _⟩ := h; exact h1.lt
theorem BMap.made (w : World) (base : Nat) : BMap (w.alloc (.map #[] 0)) w.heap.size base [] := ⟨_, MapFn.made w .u64, fun s => rfl⟩

/-- A row of bytes is no map. -/
theorem OwnB.offmap {w w' : World} {base b : Nat} {v : Value} {l : List UInt8} {M : Int → Option Value} (h : OwnB w base v l) (hm : MapFn w b .u64 M) (hg : w.grownBy w' (some b)) : OwnB w' base v l := by
  refine ⟨h.1, ?_⟩
  rcases h.2 with hn | ⟨g, cap, cur, rfl, hbg, hg2, rest⟩
  · exact .inl hn
  · refine .inr ⟨g, cap, cur, rfl, hbg, ?_, rest⟩
    have hne : g ≠ b := by
      intro e
      obtain ⟨es, c, h2, _⟩ := hm
      rw [e, h2] at hg2
      cases hg2
    exact (hg.block g (Array.getElem?_eq_some_iff.1 hg2).1 (fun e => hne (by injection e))).trans hg2

/-- One block more. -/
theorem BMap.put {w w' : World} {b base : Nat} {l : List Blk} {M : Int → Option Value} (h : BMapF w base l M) (hm : MapFn w b .u64 M) {x : Blk} {u : Value} (hx : Held w base x u) (hnew : ∀ y ∈ l, y.serial ≠ x.serial)
    (h1 : MapFn w' b .u64 (updM M (x.serial : Int) u)) (hg : w.grownBy w' (some b)) : BMap w' b base (l ++ [x]) := by
  refine ⟨_, h1, fun s => ?_⟩
  rw [findS_snoc hnew]
  unfold updM
  by_cases e : s = x.serial
  · subst e
    rw [if_pos rfl, if_pos rfl]
    obtain ⟨a, cap, e1, e2⟩ := hx
    exact ⟨u, rfl, a, cap, e1, e2.offmap hm hg⟩
  · rw [if_neg e, if_neg (by omega)]
    have := h s
    split
    · rename_i e2; rw [e2] at this; exact this
    · rename_i y e2
      rw [e2] at this
      obtain ⟨v, h2, a, cap, h3, h4⟩ := this
      exact ⟨v, h2, a, cap, h3, h4.offmap hm hg⟩

/-- A row of blocks grows: a row of bytes, a map of blocks lie as they lay. -/
theorem OwnB.offblks {w w' : World} {base base2 : Nat} {v v2 : Value} {l : List UInt8} {l2 : List Blk} (h : OwnB w base v l) (hO : OwnBs w base2 v2 l2) (hg : w.grownBy w' v2.ownBlock) : OwnB w' base v l := by
  refine ⟨h.1, ?_⟩
  rcases h.2 with hn | ⟨g, cap, cur, rfl, hbg, hg2, rest⟩
  · exact .inl hn
  · refine .inr ⟨g, cap, cur, rfl, hbg, (hg.block g (Array.getElem?_eq_some_iff.1 hg2).1 (fun e => ?_)).trans hg2, rest⟩
    obtain ⟨c1, f1, z1⟩ := hO.kind g e.symm
    rw [hg2] at z1
    simp at z1
theorem BMap.offblks {w w' : World} {b base base2 : Nat} {l : List Blk} {v2 : Value} {l2 : List Blk} (h : BMap w b base l) (hO : OwnBs w base2 v2 l2) (hg : w.grownBy w' v2.ownBlock) : BMap w' b base l := by
  obtain ⟨M, h1, h2⟩ := h
  refine ⟨M, h1.kept hg (fun e => ?_), fun s => ?_⟩
  · obtain ⟨c1, f1, z1⟩ := hO.kind b e.symm
    obtain ⟨es, c, z2, _⟩ := h1
    rw [z1] at z2
    cases z2
  · have := h2 s
    split
    · rename_i e; rw [e] at this; exact this
    · rename_i x e
      rw [e] at this
      obtain ⟨u, q1, a, cap, q2, q3⟩ := this
      exact ⟨u, q1, a, cap, q2, q3.offblks hO hg⟩

/-- A block of its own is written: rows, maps lie as they lay. -/
theorem OwnB.offcell {w w' : World} {base H : Nat} {x : Blk} {a : Option Addr} {cap : Nat} {v : Value} {l : List UInt8} (h : OwnB w base v l) (hs : BlkAt w H x a cap) (hg : w.grownBy w' (some H)) : OwnB w' base v l := by
  refine ⟨h.1, ?_⟩
  rcases h.2 with hn | ⟨g, cap, cur, rfl, hbg, hg2, rest⟩
  · exact .inl hn
  · refine .inr ⟨g, cap, cur, rfl, hbg, (hg.block g (Array.getElem?_eq_some_iff.1 hg2).1 (fun e => ?_)).trans hg2, rest⟩
    injection e with e
    rw [e, hs] at hg2
    simp at hg2
theorem OwnBs.offcell {w w' : World} {base H : Nat} {x : Blk} {a : Option Addr} {cap : Nat} {v : Value} {l : List Blk} (h : OwnBs w base v l) (hs : BlkAt w H x a cap) (hg : w.grownBy w' (some H)) (hne : v.ownBlock ≠ some H) : OwnBs w' base v l := by
  obtain ⟨r, h1, h2, h3⟩ := h
  exact ⟨r, h1, World.ownsRow.kept h2 hg (.inr hne), fun p hp => (h3 p hp).offcell hs hg⟩
theorem BMap.offcell {w w' : World} {b base H : Nat} {l : List Blk} {x : Blk} {a : Option Addr} {cap : Nat} (h : BMap w b base l) (hs : BlkAt w H x a cap) (hg : w.grownBy w' (some H)) : BMap w' b base l := by
  obtain ⟨M, h1, h2⟩ := h
  refine ⟨M, h1.kept hg (fun e => ?_), fun s => ?_⟩
  · obtain ⟨es, c, z2, _⟩ := h1
    injection e with e
    rw [e, hs] at z2
    cases z2
  · have := h2 s
    split
    · rename_i e; rw [e] at this; exact this
    · rename_i x e
      rw [e] at this
      obtain ⟨u, q1, a, cap, q2, q3⟩ := this
      exact ⟨u, q1, a, cap, q2, q3.offcell hs hg⟩

theorem zeroV43 (w : World) : (zeroValue 43).run Try.prog w = .ok (.agg (noneB.cells none 0)) w := by kernel_rfl
/-- 'x, is := by[s]'. -/
theorem BMap.look {w : World} {b base : Nat} {l : List Blk} (h : BMap w b base l) (s : Nat) : (∃ x u, findS l s = some x ∧ Held w base x u ∧ (Instr.lookup 134 (.map (some b)) (.int .u64 (s : Int)) true).run Try.prog w = .ok (.tuple #[u, .bool true]) w) ∨
    (findS l s = none ∧ (Instr.lookup 134 (.map (some b)) (.int .u64 (s : Int)) true).run Try.prog w = .ok (.tuple #[.agg (noneB.cells none 0), .bool false]) w) := by
  obtain ⟨M, h1, h2⟩ := h
  have hr := (h1.run_lookup Try.underlying134 Try.underlying24 _ (zeroV43 w) (s : Int)).2
  have hs := h2 s
  cases hf : findS l s with
  | none =>
    rw [hf] at hs
    right
    refine ⟨rfl, ?_⟩
    rw [hr]
    have hs' : M (s : Int) = none := hs
    rw [hs']
    rfl
  | some x =>
    rw [hf] at hs
    left
    obtain ⟨u, hu, hh⟩ := hs
    refine ⟨x, u, rfl, hh, ?_⟩
    rw [hr, hu]
    rfl

theorem downFrom_len (l : List Blk) : ∀ s, (downFrom l s).length ≤ s + 1
  | 0 => by
    cases hf : findS l 0 with
    | none => rw [downFrom_none hf]; exact Nat.zero_le _
    | some y => rw [downFrom_some hf]; exact Nat.le_refl _
  | s + 1 => by
    cases hf : findS l (s + 1) with
    | none => rw [downFrom_none hf]; exact Nat.zero_le _
    | some y => rw [downFrom_some hf]; exact Nat.succ_le_succ (downFrom_len l s)
theorem downFrom_short (l : List Blk) (s : Nat) (h : s ≤ 1099511627776) : (downFrom l s).length ≤ 1099511627777 := Nat.le_trans (downFrom_len l s) (by omega)
/-- What the second loop counts down. -/
def runMeas (xv iv : Value) (w : World) : Nat := match iv, xv with
  | .bool true, .pointer (some a) => (intOf ((w.cell? a).getD undef)).toNat + 1
  | _, _ => 0
/-- How far the second loop has come. -/
def RunSt (A : List Blk) (T mb : Nat) (wr : World) (done : List Blk) (lv xv iv : Value) : Prop :=
  (∃ s x H a cap, iv = .bool true ∧ xv = .pointer (some ⟨H, 0, none⟩) ∧ lv.ownBlock ≠ some H ∧ BlkAt wr H x a cap ∧ OwnB wr mb (.slice a x.body.length cap) x.body ∧ findS A s = some x ∧ downFrom A T = done ++ downFrom A s ∧ s + done.length = T) ∨
  (∃ H, iv = .bool false ∧ xv = .pointer (some ⟨H, 0, none⟩) ∧ downFrom A T = done)

set_option maxRecDepth 100000 in
set_option maxHeartbeats 8000000 in
theorem run_good (D b : Nat) (d : Dev) (w : World) (h : DevAt w D b d) (hup : d.down = false) (h1 : 1 ≤ d.blocks) (h40 : d.blocks ≤ 40) :
    Calls Try.prog 58 #[.pointer (some ⟨D, 0, none⟩)] w fun e w' => ∃ v, e = .returned (.tuple #[v, .int .i64 0]) ∧ OwnBs w' w.heap.size v (runOf (allTo d.blocks d.mem d.blocks)) ∧ Below w.heap.size w w' := by
  have hdn := Lib.hid (show ∀ W, DevAt W D b d → Calls Try.prog 43 #[.pointer (some ⟨D, 0, none⟩)] W fun e w' => e = .returned (.bool false) ∧ W = w' from fun W q => by rw [← hup]; exact down_dev D b d W q)
  have hbl := Lib.hid (fun W q => blocks_dev D b d W q)
  have hmay : ∀ i : Nat, i < d.blocks → mayE d (i : Int) = 0 := fun i hi => by unfold mayE; rw [hup]; simp; omega
  have HM := Lib.hid hmay
  have hrd := Lib.hid (show ∀ (i : Nat), i < d.blocks → ∀ W, DevAt W D b d → Calls Try.prog 45 #[.pointer (some ⟨D, 0, none⟩), .int .i64 (i : Int)] W fun e w' => ∃ g, e = .returned (.tuple #[.slice (some ⟨g, 0, none⟩) 64 64, .int .i64 0]) ∧ ArrT w' g 132 (d.mem i) ∧ (d.mem i).length = 64 ∧ W.heap.size ≤ g ∧ Below W.heap.size W w' from fun i hi W q => by
    refine (read_dev D b d (i : Int) W q).mono ?_
    rintro e w' (⟨q2, _⟩ | ⟨_, g, rfl, q3, q4, q5, q6⟩)
    · exact absurd (hmay i hi) q2
    · exact ⟨g, rfl, q3, q4, q5, q6⟩)
  clear hmay hup
  have hmm := @run_makeMap Try.prog
  have hd0 := h.later ((Below.refl _ w).alloc (Nat.le_refl _) (.map #[] 0))
  go_enter Try.func58, Try.ntmps58
  go_wp2_with (first
    | (go_at_call 43; refine (hdn.out _ h).mono ?_; rintro e w2 ⟨rfl, rfl⟩)
    | (go_at_call 55; refine (hbl.out _ hd0).mono ?_; rintro e w2 ⟨rfl, rfl⟩))
  have hm0 := BMap.made w w.heap.size
  have hb0 := (Below.refl _ w).alloc (Nat.le_refl _) (.map #[] 0)
  obtain ⟨mb, hmb⟩ : ∃ mb, mb = w.heap.size := ⟨_, rfl⟩
  rw [← hmb] at hm0 hb0 ⊢
  have hDb : D < mb ∧ b < mb := by rw [hmb]; exact ⟨h.lt, h.ltb⟩
  have Hmb := Lib.hid hmb
  clear hmm h hmb
  go_loopw [7, 28] (fun lv iv wr => ∃ i : Nat, i ≤ d.blocks ∧ iv = .int .i64 (i : Int) ∧ lv = .int .u64 (topS (allTo d.blocks d.mem i) : Nat) ∧ BMap wr mb mb (allTo d.blocks d.mem i) ∧ DevAt wr D b d ∧ Below mb w wr) (fun _ iv _ => d.blocks - (intOf iv).toNat)
  case atStart => exact ⟨0, Nat.zero_le _, rfl, rfl, hm0, hd0, hb0⟩
  case round =>
    clear hm0 hd0 hb0
    obtain ⟨i, hi, rfl, rfl, hmp, hdv, hbw⟩ := hrel
    by_cases hlt : i < d.blocks
    ·
      have hrd2 := Lib.hid (hrd.out i hlt wr hdv)
      have htop : topS (allTo d.blocks d.mem i) ≤ 1099511627776 := topS_le _ fun x hx => (allTo_may hx).1
      obtain ⟨T, hT⟩ : ∃ T, T = topS (allTo d.blocks d.mem i) := ⟨_, rfl⟩
      rw [← hT] at htop ⊢
      have HT := Lib.hid hT
      obtain ⟨l, hl⟩ : ∃ l, l = d.mem i := ⟨_, rfl⟩
      have Hl := Lib.hid hl
      rw [← hl] at hrd2
      have hl64 : l.length = 64 := by rw [hl]; exact (hdv.read i hlt).2
      have hdec := Lib.hid (show ∀ (g : Nat) W, ArrT W g 132 l → Calls Try.prog 35 #[.slice (some ⟨g, 0, none⟩) 64 64] W (DecPost l W) from fun g W q => by
        have := decode_calls (some ⟨g, 0, none⟩) l 64 W (by omega) q.bytes
        rw [hl64] at this
        exact this)
      have hso : (decB l).serial < 18446744073709551616 := by
        by_cases e : decE l = 0
        · have := (may_serial (dec_may e)).1; omega
        · have : decB l = noneB := by unfold decB; rw [if_neg e]
          rw [this]; decide
      have hpl := Lib.hid (fun W => place_pos (decB l).serial d.blocks hso h1 (by omega) W)
      obtain ⟨x, hx⟩ : ∃ x, x = decB l := ⟨_, rfl⟩
      obtain ⟨E, hE⟩ : ∃ E, E = decE l := ⟨_, rfl⟩
      unfold DecPost at hdec
      rw [← hx, ← hE] at hdec
      rw [← hx] at hpl hso
      have HX := Lib.hid (And.intro hx hE)
      clear hT hl hx hE hl64
      go_upto_region 13 with (first
        | (go_at_call 45; refine hrd2.out.mono ?_; rintro e w2 ⟨g, rfl, hg2, hl2, hgs, hB2⟩; clear hl2)
        | (go_at_call 35; refine (hdec.out g w2 hg2).mono ?_; rintro e w3 ⟨ax, cx, rfl, hown3, hB3⟩; have hz3 : BlkAt (w3.alloc (.cells (noneB.cells none 0) 43)) w3.heap.size noneB none 0 := heap_alloc_new _ _)
        | (refine wpList_store_blk rfl (.tmp 11) (.tmp 43) rfl w3.heap.size noneB x none ax 0 cx rfl rfl hz3 ?_; intro w4 hs4 hg4))
      have hB34 := hB3.size
      have hz4 := ((Below.refl _ w3).alloc (Nat.le_refl _) (.cells (noneB.cells none 0) 43)).grown hg4 (by simp) (fun k hk => by cases hk; exact Nat.le_refl _)
      have hbr4 := below_call hB2 (Nat.le_refl _) (below_call hB3 (Nat.le_refl _) hz4)
      have hmbw : mb ≤ wr.heap.size := Nat.le_trans (Nat.le_of_eq Hmb.out) hbw.size
      have hmb2 : mb ≤ w2.heap.size := Nat.le_trans hmbw hB2.size
      have hown4 : OwnB w4 mb (.slice ax x.body.length cx) x.body := (hown3.later hz4).mono hmb2
      have hH2 : w2.heap.size ≤ w3.heap.size := hB34
      obtain ⟨H, hH⟩ : ∃ H, H = w3.heap.size := ⟨_, rfl⟩
      rw [← hH] at hs4 ⊢
      refine over_world (R := fun W => BlkAt W H x ax cx ∧ OwnB W mb (.slice ax x.body.length cx) x.body ∧ BMap W mb mb (allTo d.blocks d.mem i) ∧ DevAt W D b d ∧ Below mb w W) ⟨hs4, hown4, hmp.later hbr4, hdv.later hbr4, below_call hbw (Nat.le_of_eq Hmb.out) hbr4⟩ ?_
      clear hs4 hg4 hz4 hown4 hown3 hB3 hB2 hg2 hz3 hbr4 hmb2 hH2 hH hB34 hmp hdv hbw hrd2 hdec
      rintro wv ⟨hs, hown, hmp, hdv, hbw⟩
      have x0 := hs.cell 0 _ rfl
      have hne : Nonempty (SW (fun W => BlkAt W H x ax cx ∧ DevAt W D b d)) := ⟨⟨wv, hs, hdv⟩⟩
      have q0 : ∀ y : SW (fun W => BlkAt W H x ax cx ∧ DevAt W D b d), y.W.cell? ⟨H, 0, none⟩ = some (.int .u64 (x.serial : Int)) := fun y => y.h.1.cell 0 _ rfl
      have hdr : DevAt wv.drew D b d := hdv
      refine wp_region_seq2 (fun W => BlkAt W H x ax cx ∧ DevAt W D b d) [(0, true), (1, true), (2, true), (3, false), (4, false), (5, true), (6, true), (7, true), (8, true), (9, true)] (by kernel_rfl) (by kernel_rfl) (fun d _ _ _ _ h => by cases d <;> exact h) (⟨hs, hdr⟩) ?_
      repeat (first
        | ((with_reducible refine wpSeq_skip (o := ⟨_, _, _, _, _, _⟩) (by with_unfolding_all exact rfl) (by with_unfolding_all exact rfl) ?_); simp only [Act.put, List.setIfInBounds_toArray, List.set_cons_zero, List.set_cons_succ])
        | ((with_reducible refine wpSeq_free (o := ⟨_, _, _, _, _, _⟩) (by with_unfolding_all exact rfl) (by with_unfolding_all exact rfl) (fun K hK => ?_)); go_big_quiet_op; (refine hK _ ?_; clear hK K)))
      with_reducible refine wpSeq_next (o := ⟨_, _, _, _, _, _⟩) (by with_unfolding_all exact rfl) (by with_unfolding_all exact rfl) (fun K hK => ?_)
      go_simp
      go_at_call 55
      refine (hbl.out _ hdr).mono ?_
      rintro e w8 ⟨rfl, rfl⟩
      refine hK.out _ _ (⟨hs, hdr⟩) ?_
      clear hK K
      repeat (first
        | ((with_reducible refine wpSeq_skip (o := ⟨_, _, _, _, _, _⟩) (by with_unfolding_all exact rfl) (by with_unfolding_all exact rfl) ?_); simp only [Act.put, List.setIfInBounds_toArray, List.set_cons_zero, List.set_cons_succ])
        | ((with_reducible refine wpSeq_free (o := ⟨_, _, _, _, _, _⟩) (by with_unfolding_all exact rfl) (by with_unfolding_all exact rfl) (fun K hK => ?_)); go_big_quiet_op; (refine hK _ ?_; clear hK K)))
      with_reducible refine wpSeq_next (o := ⟨_, _, _, _, _, _⟩) (by with_unfolding_all exact rfl) (by with_unfolding_all exact rfl) (fun K hK => ?_)
      go_simp
      go_at_call 30
      refine (hpl.out _).mono ?_
      rintro e w8 ⟨rfl, rfl⟩
      refine hK.out _ _ (⟨hs, hdr⟩) ?_
      clear hK K
      repeat (first
        | ((with_reducible refine wpSeq_skip (o := ⟨_, _, _, _, _, _⟩) (by with_unfolding_all exact rfl) (by with_unfolding_all exact rfl) ?_); simp only [Act.put, List.setIfInBounds_toArray, List.set_cons_zero, List.set_cons_succ])
        | ((with_reducible refine wpSeq_free (o := ⟨_, _, _, _, _, _⟩) (by with_unfolding_all exact rfl) (by with_unfolding_all exact rfl) (fun K hK => ?_)); go_big_quiet_op; (refine hK _ ?_; clear hK K)))
      refine wpSeq_nil ?_
      obtain ⟨P, hP⟩ : ∃ P, P = x.serial % d.blocks := ⟨_, rfl⟩
      rw [show ((x.serial : Int) % (d.blocks : Int)) = (P : Int) by rw [hP]; rfl]
      rw [← hP]
      have hHm : H ≠ mb := fun e => by
        obtain ⟨M, ⟨es, c, h2, _⟩, _⟩ := hmp
        rw [← e, hs] at h2
        cases h2
      refine over_world (R := fun W => BlkAt W H x ax cx ∧ OwnB W mb (.slice ax x.body.length cx) x.body ∧ BMap W mb mb (allTo d.blocks d.mem i) ∧ DevAt W D b d ∧ Below mb w W) ⟨hs, hown, hmp, hdr, hbw.drew⟩ ?_
      clear hs hown hmp hdr hdv hbw x0 hne q0
      rintro wv ⟨hs, hown, hmp, hdv, hbw⟩
      have x0 := hs.cell 0 _ rfl
      have hgood : goodB d.blocks d.mem i = (decide (E = 0) && decide (P = i)) := by
        unfold goodB
        rw [← Hl.out, ← HX.out.1, ← HX.out.2, ← hP]
        rfl
      have hx2 : x = decB (d.mem i) := by rw [HX.out.1, Hl.out]
      by_cases hg : E = 0 ∧ P = i
      · have hgd : goodB d.blocks d.mem i = true := by rw [hgood]; simp [hg.1, hg.2]
        obtain ⟨rfl, rfl⟩ := hg
        have HG := Lib.hid (And.intro hgd (And.intro hP hx2))
        clear hgood hgd hP hx2
        obtain ⟨M, hM, hF⟩ := hmp
        have hlast : ∀ w6, wv.grownBy w6 (some mb) → w6.cell? ⟨H, 0, none⟩ = some (.int .u64 (x.serial : Int)) := fun w6 q => (World.cell?_of_block (a := ⟨H, 0, none⟩) (q.block H (lt_of_block hs) (fun e => hHm (by injection e)))).trans x0
        have HLa := Lib.hid hlast
        clear hlast
        go_wp2_with (first
          | (refine wpList_load_blk rfl (.tmp 11) rfl H x ax cx rfl hs ?_)
          | (refine wpList_update_fn rfl (.tmp 60) (.tmp 62) (.tmp 63) rfl Try.underlying134 Try.underlying24 hM x.serial (.agg (x.cells ax cx)) rfl rfl rfl ?_; intro w6 hM6 hg6; have x6 := HLa.out w6 hg6))
        go_roundw
        case rel =>
          obtain ⟨q1, q2, q3⟩ := HG.out
          have hal := allTo_yes q1
          rw [← q3] at hal
          refine ⟨P + 1, by omega, by go_num, ?_, by rw [hal]; exact BMap.put hF hM ⟨ax, cx, rfl, hown⟩ (by rw [q3]; exact allTo_new q1) hM6 hg6, hdv.kept hg6 (fun e => by injection e with e; omega) (fun e => by injection e with e; omega), hbw.grown hg6 (by have := lt_of_block hM.choose_spec.choose_spec.1; omega) (fun k hk => by injection hk with hk; omega)⟩
          rw [hal, topS_snoc, ← HT.out]
          split
          · congr 2; omega
          · congr 2; omega
        case measure => simp [intOf]; omega
      · have hgd : goodB d.blocks d.mem i = false := by
          rw [hgood, Bool.and_eq_false_iff, decide_eq_false_iff_not, decide_eq_false_iff_not]
          by_cases e : E = 0
          · exact .inr fun e2 => hg ⟨e, e2⟩
          · exact .inl e
        have HG := Lib.hid hgd
        clear hgood hgd hP hx2
        by_cases e : E = 0
        · subst e
          have e2 : ((P : Int) == (i : Int)) = false := by rw [beq_eq_false_iff_ne]; omega
          clear hg
          go_wp2
          go_roundw
          case rel => exact ⟨i + 1, by omega, by go_num, by rw [allTo_no HG.out, ← HT.out], by rw [allTo_no HG.out]; exact hmp, hdv, hbw⟩
          case measure => simp [intOf]; omega
        · have e2 : ((E : Int) == 0) = false := by rw [beq_eq_false_iff_ne]; omega
          clear hg
          go_wp2
          go_roundw
          case rel => exact ⟨i + 1, by omega, by go_num, by rw [allTo_no HG.out, ← HT.out], by rw [allTo_no HG.out]; exact hmp, hdv, hbw⟩
          case measure => simp [intOf]; omega
    · obtain rfl : i = d.blocks := by omega
      have hA40 : ∀ x ∈ allTo d.blocks d.mem d.blocks, x.serial ≤ 1099511627776 ∧ x.body.length ≤ 48 := fun x hx => allTo_may hx
      obtain ⟨A, hA⟩ : ∃ A, A = allTo d.blocks d.mem d.blocks := ⟨_, rfl⟩
      rw [← hA] at hmp hA40 ⊢
      have htop : topS A ≤ 1099511627776 := topS_le _ fun x hx => (hA40 x hx).1
      obtain ⟨T, hT⟩ : ∃ T, T = topS A := ⟨_, rfl⟩
      rw [← hT] at htop ⊢
      have hlk := hmp.look T
      have HA := Lib.hid (And.intro hA hT)
      have HA40 := Lib.hid hA40
      clear hA hT hA40 hdn hbl HM hrd hdv
      have hmbw : mb ≤ wr.heap.size := Nat.le_trans (Nat.le_of_eq Hmb.out) hbw.size
      have hbel4 : ∀ w4, (wr.alloc (.cells (noneB.cells none 0) 43)).grownBy w4 (some wr.heap.size) → Below wr.heap.size wr w4 := fun w4 hg4 => ((Below.refl _ wr).alloc (Nat.le_refl _) (.cells (noneB.cells none 0) 43)).grown hg4 (by simp) (fun k hk => by cases hk; exact Nat.le_refl _)
      have HB4 := Lib.hid hbel4
      clear hbel4
      have hcut : ∃ x a cap b, (Instr.lookup 134 (.map (some mb)) (.int .u64 (T : Int)) true).run Try.prog wr = .ok (.tuple #[.agg (x.cells a cap), .bool b]) wr ∧ ((b = true ∧ findS A T = some x ∧ OwnB wr mb (.slice a x.body.length cap) x.body) ∨ (b = false ∧ findS A T = none)) := by
        rcases hlk with ⟨x, u, hf, ⟨a, cap, rfl, hown⟩, hrun⟩ | ⟨hf, hrun⟩
        · exact ⟨x, a, cap, true, hrun, .inl ⟨rfl, hf, hown⟩⟩
        · exact ⟨noneB, none, 0, false, hrun, .inr ⟨rfl, hf⟩⟩
      obtain ⟨x, a, cap, bb, hrun, hor⟩ := hcut
      have Hor := Lib.hid hor
      have Hmp := Lib.hid hmp
      clear hlk hor hmp
      go_wp2_with (first
        | (refine wpList_store_blk rfl (.tmp 15) (.tmp 73) rfl wr.heap.size noneB x none a 0 cap rfl rfl (heap_alloc_new _ _) ?_; intro w4 hs4 hg4))
      have hb4 := HB4.out w4 hg4
      have hst : RunSt A T mb w4 [] (.slice none 0 0) (.pointer (some ⟨wr.heap.size, 0, none⟩)) (.bool bb) := by
        rcases Hor.out with ⟨rfl, h1, h2⟩ | ⟨rfl, h1⟩
        · exact .inl ⟨T, x, _, a, cap, rfl, rfl, (fun e => by cases e), hs4, h2.later hb4, h1, rfl, rfl⟩
        · exact .inr ⟨_, rfl, rfl, downFrom_none h1⟩
      have hmp4 := Hmp.out.later hb4
      have hbw4 := below_call hbw (Nat.le_of_eq Hmb.out) hb4
      clear hrun hg4 hs4 hb4 HB4 Hor Hmp hbw
      go_loopw [14, 15, 16] (fun lv xv iv wr => ∃ done : List Blk, OwnBs wr mb lv done ∧ RunSt A T mb wr done lv xv iv ∧ BMap wr mb mb A ∧ Below mb w wr) (fun _ xv iv w => runMeas xv iv w)
      case atStart => exact ⟨[], OwnBs.nil _ _, hst, hmp4, hbw4⟩
      case round =>
        clear hst hmp4 hbw4
        obtain ⟨done, hO, hst, hmp, hbw⟩ := hrel
        rcases hst with ⟨s, x, H, a, cap, rfl, rfl, hlH, hs, hown, hf, hdn, hsum⟩ | ⟨H, rfl, rfl, hdn⟩
        · have hms : runMeas (.pointer (some ⟨H, 0, none⟩)) (.bool true) wr = s + 1 := by
            have hc : wr.cell? ⟨H, 0, none⟩ = some (.int .u64 (x.serial : Int)) := hs.cell 0 _ rfl
            simp only [runMeas, hc, Option.getD_some, intOf, (findS_mem hf).2, Int.toNat_natCast]
          have HMs := Lib.hid hms
          clear hms
          have hO2 := hO.later ((Below.refl _ wr).alloc (Nat.le_refl _) (.cells (x.cells a cap) 43))
          have hown2 := hown.later ((Below.refl _ wr).alloc (Nat.le_refl _) (.cells (x.cells a cap) 43))
          have hmp2 := hmp.later ((Below.refl _ wr).alloc (Nat.le_refl _) (.cells (x.cells a cap) 43))
          have hs2 := hs.later ((Below.refl _ wr).alloc (Nat.le_refl _) (.cells (x.cells a cap) 43))
          have hdl : done.length ≤ 1099511627776 := by omega
          have hbase : mb ≤ (wr.alloc (.cells (x.cells a cap) 43)).heap.size := by
            have := hbw.size; have := Hmb.out; rw [World.size_alloc]; omega
          have HC := Lib.hid (show ∀ j u, (x.cells a cap)[j]? = some u → (wr.alloc (.cells (x.cells a cap) 43)).cell? ⟨wr.heap.size, j, none⟩ = some u from fun j u hu => by rw [World.cell?_alloc_new]; exact hu)
          have HS := Lib.hid (And.intro hf (And.intro hdn hsum))
          have HBw := Lib.hid hbw
          clear hf hdn hsum
          have hcs := Blk.cells_size x a cap
          go_upto_region 23 with (first
            | (refine wpList_load_blk rfl (.tmp 15) rfl H x a cap rfl hs ?_)
            | (at_builtin; refine wpList_append_blk rfl (.tmp 84) (.tmp 86) rfl mb u14 done rfl hO2 x a cap wr.heap.size 1 rfl rfl HC.out hown2 hdl hbase ?_; intro v5 w5 hO5 hg5))
          have hbw5 : Below mb w w5 := (below_call HBw.out (Nat.le_of_eq Hmb.out) ((Below.refl _ wr).alloc (Nat.le_refl _) (.cells (x.cells a cap) 43))).grown hg5 hbase (fun k hk => (hO2.blk k hk).1)
          have hs5 : BlkAt w5 H x a cap := hs2.kept hg5 (fun e => hlH e.symm)
          have hown5 := hown2.offblks hO2 hg5
          have hmp5 := hmp2.offblks hO2 hg5
          have hmb5 : mb ≤ w5.heap.size := by have := hbw5.size; have := Hmb.out; omega
          refine over_world (R := fun W => OwnBs W mb v5 (done ++ [x]) ∧ BlkAt W H x a cap ∧ OwnB W mb (.slice a x.body.length cap) x.body ∧ BMap W mb mb A ∧ Below mb w W ∧ mb ≤ W.heap.size) ⟨hO5, hs5, hown5, hmp5, hbw5, hmb5⟩ ?_
          clear hO2 hown2 hmp2 hs2 hO5 hs5 hown5 hmp5 hbw5 hmb5 hg5 HC hs hown hmp hbw hO hlH hbase HBw hcs
          rintro wv ⟨hO, hs, hown, hmp, hbw, hmbv⟩
          have hO3 := hO.later ((Below.refl _ wv).alloc (Nat.le_refl _) (.cells (noneB.cells none 0) 43))
          have hz : BlkAt (wv.alloc (.cells (noneB.cells none 0) 43)) wv.heap.size noneB none 0 := heap_alloc_new _ _
          have hown3 := hown.later ((Below.refl _ wv).alloc (Nat.le_refl _) (.cells (noneB.cells none 0) 43))
          go_upto_region 21 with (first
            | (refine wpList_load_blk rfl (.tmp 15) rfl H x a cap rfl hs ?_)
            | (refine wpList_store_blk rfl (.tmp 15) (.tmp 88) rfl wv.heap.size noneB x none a 0 cap rfl rfl hz ?_; intro w6 hs6 hg6))
          have hb6 : Below wv.heap.size wv w6 := ((Below.refl _ wv).alloc (Nat.le_refl _) (.cells (noneB.cells none 0) 43)).grown hg6 (by simp) (fun k hk => by cases hk; exact Nat.le_refl _)
          obtain ⟨H2, hH2⟩ : ∃ H2, H2 = wv.heap.size := ⟨_, rfl⟩
          have hlH2 : v5.ownBlock ≠ some H2 := fun e => by have := (hO.blk _ e).2; omega
          rw [← hH2] at hs6 ⊢
          refine over_world (R := fun W => OwnBs W mb v5 (done ++ [x]) ∧ BlkAt W H2 x a cap ∧ BMap W mb mb A ∧ Below mb w W) ⟨hO.later hb6, hs6, hmp.later hb6, below_call hbw (Nat.le_of_eq Hmb.out) hb6⟩ ?_
          have hH2m : mb ≤ H2 := by omega
          clear hO3 hz hown3 hb6 hs6 hg6 hO hs hown hmp hbw hmbv hH2
          rintro wv ⟨hO, hs, hmp, hbw⟩
          obtain ⟨hf, hdn, hsum⟩ := HS.out
          have hser := (findS_mem hf).2
          have hs40 := (HA40.out x (findS_mem hf).1).1
          obtain ⟨K, hK, hKs⟩ : ∃ K : Nat, IntKind.u64.wrap ((x.serial : Int) - 1) = (K : Int) ∧ ((s = 0 ∧ K = 18446744073709551615) ∨ s = K + 1) := by
            rcases Nat.eq_zero_or_pos s with e | e
            · exact ⟨18446744073709551615, by rw [hser, e]; decide, .inl ⟨e, rfl⟩⟩
            · exact ⟨s - 1, by rw [hser, IntKind.wrap_u64]; omega, .inr (by omega)⟩
          have hcut : ∃ y ay cy b, (Instr.lookup 134 (.map (some mb)) (.int .u64 (K : Int)) true).run Try.prog wv = .ok (.tuple #[.agg (y.cells ay cy), .bool b]) wv ∧ ((b = true ∧ findS A K = some y ∧ OwnB wv mb (.slice ay y.body.length cy) y.body) ∨ (b = false ∧ findS A K = none)) := by
            rcases hmp.look K with ⟨y, u, hf, ⟨ay, cy, rfl, hown⟩, hrun⟩ | ⟨hf, hrun⟩
            · exact ⟨y, ay, cy, true, hrun, .inl ⟨rfl, hf, hown⟩⟩
            · exact ⟨noneB, none, 0, false, hrun, .inr ⟨rfl, hf⟩⟩
          obtain ⟨y, ay, cy, bb2, hrun, hor⟩ := hcut
          have x0 : wv.cell? ⟨H2, 0, none⟩ = some (.int .u64 (x.serial : Int)) := hs.cell 0 _ rfl
          have HK := Lib.hid (And.intro hKs (And.intro hor (And.intro hser hs40)))
          have HB2 := Lib.hid hbw
          have HM2 := Lib.hid hmp
          clear hKs hor hser hs40 hf hdn hsum hbw hmp
          simp only [Act.put]
          go_wp2_with (first
            | (refine wpList_store_blk rfl (.tmp 15) (.tmp 82) rfl H2 x y a ay cap cy rfl rfl hs ?_; intro w8 hs8 hg8))
          go_roundw
          case rel =>
            obtain ⟨hKs, hor, hser, hs40⟩ := HK.out
            obtain ⟨hf, hdn, hsum⟩ := HS.out
            refine ⟨done ++ [x], hO.offcell hs hg8 hlH2, ?_, HM2.out.offcell hs hg8, HB2.out.grown hg8 (by have := HB2.out.size; have := Hmb.out; omega) (fun k hk => by injection hk with hk; omega)⟩
            have hd := downFrom_some hf
            rcases hor with ⟨rfl, h2, h3⟩ | ⟨rfl, h2⟩
            · have hy := (HA40.out y (findS_mem h2).1).1
              have hy2 := (findS_mem h2).2
              have hsK : s = K + 1 := by
                rcases hKs with ⟨_, e⟩ | e
                · omega
                · exact e
              subst hsK
              refine .inl ⟨K, y, H2, ay, cy, rfl, rfl, hlH2, hs8, h3.offcell hs hg8, h2, ?_, ?_⟩
              · rw [hdn, hd, List.append_assoc]; rfl
              · rw [List.length_append, List.length_singleton]; omega
            · refine .inr ⟨H2, rfl, rfl, ?_⟩
              rw [hdn, hd]
              rcases hKs with ⟨rfl, _⟩ | rfl
              · rfl
              · simp only [downFrom_none h2]
          case measure =>
            obtain ⟨hKs, hor, hser, hs40⟩ := HK.out
            have hc8 : w8.cell? ⟨H2, 0, none⟩ = some (.int .u64 (y.serial : Int)) := hs8.cell 0 _ rfl
            rw [HMs.out]
            cases bb2 with
            | false => exact Nat.succ_pos _
            | true =>
              simp only [runMeas, hc8, Option.getD_some, intOf, Int.toNat_natCast]
              rcases hor with ⟨_, h2, h3⟩ | ⟨h2, _⟩
              · have hy := (HA40.out y (findS_mem h2).1).1
                have hy2 := (findS_mem h2).2
                rcases hKs with ⟨_, e⟩ | e
                · omega
                · omega
              · cases h2
        · have hrv := Lib.hid (reverse_calls done u14 mb wr hO (by
            rw [← hdn]
            exact downFrom_short A T htop) (by have := hbw.size; have := Hmb.out; omega))
          have HD := Lib.hid hdn
          have HB := Lib.hid hbw
          clear hdn hbw hmp
          go_wp2_with (first
            | (go_at_call 93; refine hrv.out.mono ?_; rintro e w9 ⟨rfl, hO9, hk9, hB9⟩))
          go_ret2
          refine ⟨u14, rfl, ?_, by rw [← Hmb.out]; exact HB.out.trans hB9⟩
          rw [← Hmb.out]
          unfold runOf
          rw [← HA.out.1, ← HA.out.2, HD.out]
          exact hO9
end Go.Proofs.Ytdlbjllgdikadaa
