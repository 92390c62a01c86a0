/- log: 'append' of records to a row: where the new row lies. -/
import Derived.Test.YtdlbjllgdikadaaLogD
import Derived.Test.YtdlbjllgdikadaaSeqL
namespace Go.Proofs.Ytdlbjllgdikadaa
open Go.RowKit
set_option linter.unusedVariables false
set_option linter.unusedSimpArgs false

/-- Where the row lies behind an append: where it lay, or in a new block. -/
theorem append_recs_where (w : World) (base : Nat) (v : Value) (n : Nat) (xs : List Value) (ty : TypeId) (hown : w.ownsRow base 91 3 v n xs)
    (ad : Addr) (m c : Nat) (news : List Value) (hl : news.length = m * 3) (hnews : ∀ j u, news[j]? = some u → w.cell? (ad.add j) = some u) (h1 : ∀ u ∈ news, u.oneCell' = true) (hlen : n + m ≤ 1099511627777) :
    ∃ v' w', (Builtin.append_ #[83, 83] ty #[v, .slice (some ad) m c]).run Try.prog w = .ok v' w' ∧ (v'.ownBlock = v.ownBlock ∨ ∀ q, v'.ownBlock = some q → w.heap.size ≤ q) := by
  obtain ⟨i0, hi, hz0, hz1, hz2⟩ := info_parts info91
  rcases hown.2 with ⟨rfl, rfl⟩ | ⟨g, cap, cur, rfl, hbg, hg, hnc, hcm, hcs, htake⟩
  · by_cases hm : m = 0
    · subst hm
      have hn : news = [] := List.eq_nil_of_length_eq_zero (by simpa using hl)
      refine ⟨.slice none 0 0, w, ?_, .inl rfl⟩
      simp [Builtin.append_, run_underlying Try.underlying83, sizeOf, typeInfo, hi, Builtin.lenOf, Builtin.firstCells, loadCells, loadCellsFrom]
    · have hr := run_append_nil (P := Try.prog) w 83 ty 91 i0 (.agg #[.int .u8 0, .int .u64 0, .slice none 0 0]) Try.underlying83 hi hz0 ad m c news (by rw [hz1]; exact hl) hnews (by omega) (by omega) (by rw [hz2]; omega)
      exact ⟨_, _, hr, .inr fun q e => by cases e; exact Nat.le_refl _⟩
  · by_cases hroom : n + m ≤ cap
    · have hfit : n * i0.size + news.length ≤ cur.size := by rw [hl, hcs, hz1, ← Nat.add_mul]; exact Nat.mul_le_mul_right _ hroom
      have hr := run_append_room (P := Try.prog) w 83 ty 91 i0 Try.underlying83 hi g n cap cur hg ad m c news (by rw [hz1]; exact hl) hnews h1 hroom hfit
      exact ⟨_, _, hr, .inl rfl⟩
    · have holds : ∀ j u, xs[j]? = some u → w.cell? ((⟨g, 0, none⟩ : Addr).add j) = some u := hown.cells (g := g) rfl
      have hr := run_append_grow (P := Try.prog) w 83 ty 91 i0 (.agg #[.int .u8 0, .int .u64 0, .slice none 0 0]) Try.underlying83 hi hz0 ⟨g, 0, none⟩ n cap xs (by rw [hz1]; exact hown.1) holds ad m c news (by rw [hz1]; exact hl) hnews (by omega) (by omega) (growslice_fits (by omega) (by rw [hz2]; omega))
      exact ⟨_, _, hr, .inr fun q e => by cases e; exact Nat.le_refl _⟩

theorem wp_append_recs {w : World} {o : Oper} {a : Act} {K : Act → World → Prop} {Q : Exit → Act → World → Prop} (s x : Operand)
    (ho : o.op = .call { callee := .builtin .append, args := #[s, x], argTypes := #[83, 83] })
    (base : Nat) (v : Value) (r1 : List RTrip) (hs : a.eval s = v) (hown : w.ownsRow base 91 3 v r1.length (rcellsOf r1))
    (ao : Option Addr) (m c : Nat) (r2 : List RTrip) (hx : a.eval x = .slice ao m c) (hm : m = r2.length) (hnone : ao = none → m = 0 ∧ c = 0) (hsrc : ∀ ad, ao = some ad → ∀ j u, (rcellsOf r2)[j]? = some u → w.cell? (ad.add j) = some u)
    (hlen : r1.length + r2.length ≤ 1099511627777) (hbase : base ≤ w.heap.size)
    (h : ∀ v' w', w'.ownsRow base 91 3 v' (r1 ++ r2).length (rcellsOf (r1 ++ r2)) → w.grownBy w' v.ownBlock → (v'.ownBlock = v.ownBlock ∨ ∀ q, v'.ownBlock = some q → w.heap.size ≤ q) → K (a.put o.dst v') w') : o.wp Try.prog a w K Q := by
  obtain ⟨i0, hi, hz0, hz1, hz2⟩ := info_parts info91
  cases ao with
  | none =>
    obtain ⟨hm0, hc0⟩ := hnone rfl
    have hs0 : r2 = [] := List.length_eq_zero_iff.1 (by omega)
    subst hs0
    subst hc0
    subst hm0
    have hrun := run_append_owned_none (P := Try.prog) (w := w) base 83 o.type 91 i0 3 Try.underlying83 hi v r1.length (rcellsOf r1) hown
    unfold Oper.wp
    simp [execOp, ho, resolve, invoke, builtin, hs, hx, hrun, Result.andThen]
    exact h v w (by simpa using hown) ⟨rfl, rfl, rfl, Nat.le_refl _, fun _ _ _ => rfl⟩ (.inl rfl)
  | some ad =>
    subst hm
    obtain ⟨v1, w1, hrun, hwh⟩ := append_recs_where w base v r1.length (rcellsOf r1) o.type hown ad r2.length c (rcellsOf r2) (rcellsOf_length r2) (hsrc ad rfl) (rcells_one r2) hlen
    obtain ⟨v', w', hr, h2, h3, h4⟩ := run_append_own (P := Try.prog) w base 83 o.type 91 i0 (.agg #[.int .u8 0, .int .u64 0, .slice none 0 0]) 3 40 Try.underlying83 hi hz0 hz1 hz2 rfl (by decide) v r1.length (rcellsOf r1) hown ad r2.length c (rcellsOf r2) (rcellsOf_length r2) (hsrc ad rfl) (rcells_one r2) (by unfold maxLen; omega) (by omega) hbase
    rw [hrun] at hr
    cases hr
    unfold Oper.wp execOp
    simp only [ho, resolve, invoke, builtin, Sem.run_bind, Sem.run_pure, Result.andThen_ok, List.map_toArray, List.map_cons, List.map_nil, hs, hx, hrun]
    exact h v1 w1 (by rw [List.length_append, rcellsOf_append]; exact h2) h3 hwh
end Go.Proofs.Ytdlbjllgdikadaa
