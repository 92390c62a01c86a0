/- log, the document's: rows of records that are only read. -/
import Derived.Test.YtdlbjllgdikadaaLogE
namespace Go.Proofs.Ytdlbjllgdikadaa
open Go.RowKit
set_option linter.unusedVariables false
set_option linter.unusedSimpArgs false

/-- A window of a row of records, off some blocks. -/
def WinRs (F : Nat → Prop) (w : World) (u : Value) (l : List Rc) : Prop :=
  ∃ (r : List RTrip) (a : Option Addr) (c : Nat), r.map (·.1) = l ∧ u = .slice a l.length c ∧ l.length ≤ c ∧ (a = none → l.length = 0 ∧ c = 0) ∧
    (∀ x, a = some x → ∃ b off cur, x = ⟨b, off, none⟩ ∧ w.heap[b]? = some (.cells cur 91 (0, 0)) ∧ ¬ F b ∧ ∀ j u, (rcellsOf r)[j]? = some u → cur[off + j]? = some u) ∧
    ∀ p ∈ r, OwnB w 0 (.slice p.2.1 p.1.body.length p.2.2) p.1.body ∧ ∀ q, (Value.slice p.2.1 p.1.body.length p.2.2).ownBlock = some q → ¬ F q

theorem WinRs.nil (F : Nat → Prop) (w : World) : WinRs F w (.slice none 0 0) [] :=
  ⟨[], none, 0, rfl, rfl, Nat.le_refl _, fun _ => ⟨rfl, rfl⟩, fun x e => (nomatch e), fun p hp => nomatch hp⟩
theorem WinRs.of {F : Nat → Prop} {w : World} {B : Nat} {v : Value} {l : List Rc} (r : List RTrip) (h1 : r.map (·.1) = l) (h2 : w.ownsRow B 91 3 v r.length (rcellsOf r)) (h3 : ∀ p ∈ r, OwnB w 0 (.slice p.2.1 p.1.body.length p.2.2) p.1.body ∧ ∀ q, (Value.slice p.2.1 p.1.body.length p.2.2).ownBlock = some q → ¬ F q) (hv : ∀ q, v.ownBlock = some q → ¬ F q) : WinRs F w v l := by
  have hl : r.length = l.length := by rw [← h1, List.length_map]
  rcases h2.2 with ⟨rfl, hn⟩ | ⟨g, cap, cur, rfl, hb, hg, hnc, hcm, hcs, ht⟩
  · have : l = [] := List.length_eq_zero_iff.1 (by omega)
    subst this
    exact ⟨r, none, 0, h1, rfl, Nat.le_refl _, fun _ => ⟨rfl, rfl⟩, fun x e => (nomatch e), h3⟩
  · refine ⟨r, some ⟨g, 0, none⟩, cap, h1, by rw [hl], by omega, fun e => (nomatch e), fun x e => ?_, h3⟩
    cases e
    refine ⟨g, 0, cur, rfl, hg, hv g rfl, fun j u hu => ?_⟩
    rw [← ht, List.getElem?_take] at hu
    split at hu
    · rw [Nat.zero_add]; simpa using hu
    · cases hu
theorem WinRs.ofOwn {F : Nat → Prop} {w : World} {B : Nat} {v : Value} {l : List Rc} (h : OwnRs w B v l) (hF : ∀ q, F q → q < B) : WinRs F w v l := by
  obtain ⟨r, h1, h2, h3⟩ := h.trips
  refine WinRs.of r h1 h2 (fun p hp => ⟨(h3 p hp).mono (Nat.zero_le _), fun q hq hf => ?_⟩) fun q hq hf => ?_
  · have := (World.ownsRow.lt (h3 p hp) q hq).1; have := hF q hf; omega
  · have := (World.ownsRow.lt h2 q hq).1; have := hF q hf; omega
theorem WinRs.weak {F F' : Nat → Prop} {w : World} {u : Value} {l : List Rc} (h : WinRs F w u l) (hF : ∀ q, F' q → F q ∨ w.heap.size ≤ q) : WinRs F' w u l := by
  obtain ⟨r, a, c, h1, h2, h3, h4, h5, h6⟩ := h
  refine ⟨r, a, c, h1, h2, h3, h4, fun x e => ?_, fun p hp => ⟨(h6 p hp).1, fun q hq hf => ?_⟩⟩
  · obtain ⟨b, off, cur, k1, k2, k3, k4⟩ := h5 x e
    refine ⟨b, off, cur, k1, k2, fun hf => ?_, k4⟩
    rcases hF b hf with h | h
    · exact k3 h
    · have := (Array.getElem?_eq_some_iff.1 k2).1; omega
  · rcases hF q hf with h | h
    · exact (h6 p hp).2 q hq h
    · have := (World.ownsRow.lt (h6 p hp).1 q hq).2; omega
theorem WinRs.aside {F : Nat → Prop} {T : List Nat} {w w' : World} {u : Value} {l : List Rc} (h : WinRs F w u l) (k : Aside T w w') (hT : ∀ q ∈ T, ∀ c t fz, w.heap[q]? = some (.cells c t fz) → (t = 91 ∨ t = 5) → F q) : WinRs F w' u l := by
  obtain ⟨r, a, c, h1, h2, h3, h4, h5, h6⟩ := h
  refine ⟨r, a, c, h1, h2, h3, h4, fun x e => ?_, fun p hp => ⟨OwnB.aside2 (h6 p hp).1 k fun q hq hm => ?_, (h6 p hp).2⟩⟩
  · obtain ⟨b, off, cur, k1, k2, k3, k4⟩ := h5 x e
    exact ⟨b, off, cur, k1, (k.block b (Array.getElem?_eq_some_iff.1 k2).1 (fun hm => k3 (hT b hm _ _ _ k2 (.inl rfl)))).trans k2, k3, k4⟩
  · obtain ⟨c1, f1, z1⟩ := Lib.ownsRow_kind (h6 p hp).1 q hq
    exact (h6 p hp).2 q hq (hT q hm _ _ _ z1 (.inr rfl))
theorem WinRs.later {F : Nat → Prop} {w w' : World} {u : Value} {l : List Rc} (h : WinRs F w u l) (hb : Below w.heap.size w w') : WinRs F w' u l :=
  h.aside (Aside.below [] hb) (fun q hq => nomatch hq)
theorem WinRs.setCell {F : Nat → Prop} {w : World} {u : Value} {l : List Rc} (h : WinRs F w u l) (g i : Nat) (v : Value) (hg : ∀ c t fz, w.heap[g]? = some (.cells c t fz) → (t = 91 ∨ t = 5) → F g) : WinRs F (w.setCell ⟨g, i, none⟩ v) u l :=
  h.aside (T := [g]) ((Aside.refl _ w).setCell ⟨g, i, none⟩ v (fun _ => by simp)) fun q hq => by rw [List.mem_singleton] at hq; subst hq; exact hg
theorem WinRs.slice {F : Nat → Prop} {w : World} {u : Value} {l : List Rc} (h : WinRs F w u l) : ∃ a c, u = .slice a l.length c ∧ l.length ≤ c ∧ IsRs w a l ∧ (a = none → l.length = 0 ∧ c = 0) := by
  obtain ⟨r, a, c, h1, h2, h3, h4, h5, h6⟩ := h
  have hl : r.length = l.length := by rw [← h1, List.length_map]
  refine ⟨a, c, h2, h3, fun i hi => ?_, h4⟩
  have hir : i < r.length := by omega
  have e : l[i] = r[i].1 := by simp only [← h1, List.getElem_map]
  cases a with
  | none => have := (h4 rfl).1; omega
  | some x =>
    obtain ⟨b, off, cur, rfl, k2, _, k4⟩ := h5 x rfl
    have hown := (h6 r[i] (List.getElem_mem hir)).1
    obtain ⟨a2, c2, e2, hby, hle, _, _, hno⟩ := hown.slice
    rw [e]
    refine ⟨b, off, r[i].2.1, r[i].2.2, rfl, fun j u hu => ?_, hown.bytes, ?_, ?_⟩
    · have hj : j < 3 := (Array.getElem?_eq_some_iff.1 hu).1
      rw [cell_of_row w b (off + 3 * i + j) cur 91 _ k2, Nat.add_assoc]
      exact k4 _ _ (by rw [rcellsOf_get r i hir j hj]; exact hu)
    · cases e2; exact hle
    · cases e2; exact hno
/-- What append reads of a window. -/
theorem WinRs.src {F : Nat → Prop} {w : World} {a : Option Addr} {n c : Nat} {l : List Rc} (h : WinRs F w (.slice a n c) l) : n = l.length ∧ (a = none → n = 0 ∧ c = 0) ∧ ∃ r : List RTrip, r.map (·.1) = l ∧ r.length = n ∧ (∀ ad, a = some ad → ∀ j u, (rcellsOf r)[j]? = some u → w.cell? (ad.add j) = some u) ∧
    ∀ p ∈ r, OwnB w 0 (.slice p.2.1 p.1.body.length p.2.2) p.1.body ∧ ∀ q, (Value.slice p.2.1 p.1.body.length p.2.2).ownBlock = some q → ¬ F q := by
  obtain ⟨r, a, c, h1, h2, h3, h4, h5, h6⟩ := h
  cases h2
  refine ⟨rfl, h4, r, h1, by rw [← h1, List.length_map], fun ad e j u hu => ?_, h6⟩
  obtain ⟨b, off, cur, rfl, k2, _, k4⟩ := h5 ad e
  rw [Addr.add_lit, cell_of_row w b (off + j) cur 91 _ k2]
  exact k4 _ _ hu
theorem WinRs.drop {F : Nat → Prop} {w : World} {b off n c : Nat} {l : List Rc} (h : WinRs F w (.slice (some ⟨b, off, none⟩) n c) l) (i : Nat) (hi : i ≤ l.length) : WinRs F w (.slice (some ⟨b, off + i * 3, none⟩) (l.length - i) (c - i)) (l.drop i) := by
  obtain ⟨r, a, c, h1, h2, h3, h4, h5, h6⟩ := h
  cases h2
  refine ⟨r.drop i, some ⟨b, off + i * 3, none⟩, c - i, by rw [List.map_drop, h1], by rw [List.length_drop], by rw [List.length_drop]; omega, fun e => (nomatch e), fun x e => ?_, fun p hp => h6 p (List.mem_of_mem_drop hp)⟩
  obtain ⟨b2, off2, cur, e2, k2, k3, k4⟩ := h5 _ rfl
  cases e
  cases e2
  refine ⟨b, off + i * 3, cur, rfl, k2, k3, fun j u hu => ?_⟩
  have hl : r.length = l.length := by rw [← h1, List.length_map]
  have e1 : rcellsOf r = rcellsOf (r.take i) ++ rcellsOf (r.drop i) := by rw [← rcellsOf_append, List.take_append_drop]
  have e2 : (rcellsOf (r.take i)).length = i * 3 := by rw [rcellsOf_length, List.length_take]; omega
  have := k4 (i * 3 + j) u (by rw [e1, List.getElem?_append_right (by omega), e2, Nat.add_sub_cancel_left]; exact hu)
  rwa [← Nat.add_assoc] at this

/-- 'append' of records to a row of the call's own. -/
theorem wpList_append_recs {w : World} {ops : Array Oper} {rest : List Oper} {o : Oper} {a : Act} {Q : Exit → Act → World → Prop} (hgd : o.guard = none) (s x : Operand)
    (ho : o.op = .call { callee := .builtin .append, args := #[s, x], argTypes := #[83, 83] })
    (base : Nat) (v : Value) (r1 : List RTrip) (hs : a.eval s = v) (hown : w.ownsRow base 91 3 v r1.length (rcellsOf r1))
    (ao : Option Addr) (m c : Nat) (r2 : List RTrip) (hx : a.eval x = .slice ao m c) (hm : m = r2.length) (hnone : ao = none → m = 0 ∧ c = 0) (hsrc : ∀ ad, ao = some ad → ∀ j u, (rcellsOf r2)[j]? = some u → w.cell? (ad.add j) = some u)
    (hlen : r1.length + r2.length ≤ 1099511627777) (hbase : base ≤ w.heap.size)
    (h : ∀ v' w', w'.ownsRow base 91 3 v' (r1 ++ r2).length (rcellsOf (r1 ++ r2)) → w.grownBy w' v.ownBlock → wpList Try.prog ops Q rest (a.put o.dst v') w') : wpList Try.prog ops Q (o :: rest) a w :=
  wpList_plain hgd fun _ hK => wp_append_recs s x ho base v r1 hs hown ao m c r2 hx hm hnone hsrc hlen hbase fun v' w' h1 h2 _ => hK _ _ (h v' w' h1 h2)
end Go.Proofs.Ytdlbjllgdikadaa
