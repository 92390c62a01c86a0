/- PeersFair: the plain law. -/
import Derived.Test.YtdlbjllgdikadabPeerM
namespace Go.Proofs.Ytdlbjllgdikadab
set_option linter.unusedVariables false

def updN (f : Nat → Nat) (i x : Nat) : Nat → Nat := fun k => if k = i then x else f k
theorem updN_same (f : Nat → Nat) (i x : Nat) : updN f i x i = x := if_pos rfl
theorem updN_other (f : Nat → Nat) (i k x : Nat) (h : k ≠ i) : updN f i x k = f k := if_neg h

/-- How a peer stands ahead of a tick, against what the law keeps. -/
def FairP (t begun till : Nat) (s : St) : Prop := begun ≤ t ∧ ((s.busy = true ∧ till ≠ 0 ∧ s.since = begun ∧ t ≤ begun + 15) ∨ (s.busy = false ∧ till = 0 ∧ s.due ≤ begun + 80))
/-- .. behind it. -/
def FairQ (t begun till : Nat) (s : St) : Prop := begun ≤ t ∧ t ≤ begun + 80 ∧ ((s.busy = true ∧ till ≠ 0 ∧ s.since = begun ∧ t + 1 ≤ begun + 15) ∨ (s.busy = false ∧ till = 0 ∧ s.due ≤ begun + 80))

structure Fair (t : Nat) (d : Rd) (begun till : Nat → Nat) : Prop where
  now : d.now = t
  self : (d.by_ d.self).busy = false
  each : ∀ p, p < d.n → p ≠ d.self → FairP t (begun p) (till p) (d.by_ p)
structure FairB (t : Nat) (d : Rd) (begun till : Nat → Nat) : Prop where
  now : d.now = t + 1
  self : (d.by_ d.self).busy = false
  each : ∀ p, p < d.n → p ≠ d.self → FairQ t (begun p) (till p) (d.by_ p)

theorem Fair.start (n self : Nat) : Fair 0 (newR n self) (fun _ => 0) (fun _ => 0) :=
  ⟨rfl, rfl, fun _ _ _ => ⟨Nat.le_refl _, .inr ⟨rfl, rfl, Nat.zero_le _⟩⟩⟩

theorem Fair.free {t : Nat} {d : Rd} {begun till : Nat → Nat} (h : Fair t d begun till) {b : Nat} (hb : ready d b) : till b = 0 := by
  obtain ⟨_, h1 | h1⟩ := h.each b hb.1 hb.2.1
  · have := hb.2.2.1; rw [h1.1] at this; cases this
  · exact h1.2.1

theorem Fair.next {t : Nat} {d : Rd} {begun till : Nat → Nat} (h : Fair t d begun till) {b : Nat} (hb : ready d b) (x : Nat) (hx : x ≠ 0) : Fair t (nextD d (some b)) (updN begun b t) (updN till b x) := by
  refine ⟨h.now, ?_, fun p hp hs => ?_⟩
  · show (updS d.by_ b _ d.self).busy = false
    rw [updS_other _ _ _ _ (fun e => hb.2.1 e.symm)]
    exact h.self
  · show FairP t (updN begun b t p) (updN till b x p) (updS d.by_ b _ p)
    by_cases e : p = b
    · subst e
      rw [updN_same, updN_same, updS_same]
      exact ⟨Nat.le_refl _, .inl ⟨rfl, hx, h.now, by omega⟩⟩
    · rw [updN_other _ _ _ _ e, updN_other _ _ _ _ e, updS_other _ _ _ _ e]
      exact h.each p hp hs

/-- How many are not at work. -/
def idle (d : Rd) : Nat := ((List.range 16).filter fun p => !(d.by_ p).busy).length
theorem idle_le (d : Rd) : idle d ≤ 16 := by
  have := List.length_filter_le (fun p => !(d.by_ p).busy) (List.range 16)
  rwa [List.length_range] at this
theorem filter_drop (l : List Nat) (f g : Nat → Bool) (b : Nat) (hn : l.Nodup) (hb : b ∈ l) (hf : f b = true) (hg : g b = false) (ho : ∀ k, k ≠ b → g k = f k) : (l.filter g).length + 1 = (l.filter f).length := by
  induction l with
  | nil => cases hb
  | cons x r ih =>
    rw [List.nodup_cons] at hn
    by_cases e : x = b
    · subst e
      rw [List.filter_cons_of_pos hf, List.filter_cons_of_neg (by rw [hg]; exact Bool.false_ne_true), List.length_cons]
      rw [List.filter_congr (q := f)]
      intro k hk
      exact ho k (fun e => hn.1 (e ▸ hk))
    · have hb2 : b ∈ r := by
        rcases List.mem_cons.1 hb with h | h
        · exact absurd h.symm e
        · exact h
      have ih2 := ih hn.2 hb2
      cases hx : f x
      · rw [List.filter_cons_of_neg (p := f) (by rw [hx]; exact Bool.false_ne_true), List.filter_cons_of_neg (p := g) (by rw [ho x e, hx]; exact Bool.false_ne_true)]
        exact ih2
      · rw [List.filter_cons_of_pos (p := f) hx, List.filter_cons_of_pos (p := g) (by rw [ho x e, hx]), List.length_cons, List.length_cons]
        omega
theorem idle_next {d : Rd} {b : Nat} (hb : ready d b) (hn : d.n ≤ 16) : idle (nextD d (some b)) + 1 = idle d := by
  refine filter_drop _ (fun p => !(d.by_ p).busy) (fun p => !(updS d.by_ b { d.by_ b with busy := true, since := d.now } p).busy) b List.nodup_range (List.mem_range.2 (by have := hb.1; omega)) ?_ ?_ ?_
  · show (!(d.by_ b).busy) = true
    rw [hb.2.2.1]; rfl
  · show (!(updS d.by_ b _ b).busy) = false
    rw [updS_same]; rfl
  · intro k hk
    show (!(updS d.by_ b _ k).busy) = (!(d.by_ k).busy)
    rw [updS_other _ _ _ _ hk]

/-- The tick ends such as are late. -/
def tillT (d : Rd) (till : Nat → Nat) (k : Nat) : Nat → Nat := fun p => if p ∈ (tickUp d 16).take k then 0 else till p
theorem tillT_zero (d : Rd) (till : Nat → Nat) : tillT d till 0 = till := by
  funext p; unfold tillT; rw [List.take_zero, if_neg (by simp)]
theorem tillT_succ (d : Rd) (till : Nat → Nat) (k : Nat) (hk : k < (tickUp d 16).length) : tillT d till (k + 1) = updN (tillT d till k) ((tickUp d 16)[k]) 0 := by
  funext p
  unfold tillT updN
  rw [List.take_succ_eq_append_getElem hk]
  simp only [List.mem_append, List.mem_singleton]
  by_cases e : p = (tickUp d 16)[k]
  · rw [if_pos (.inr e), if_pos e]
  · rw [if_neg e]
    by_cases e2 : p ∈ (tickUp d 16).take k
    · rw [if_pos (.inl e2), if_pos e2]
    · rw [if_neg e2, if_neg (by rintro (h | h); exact e2 h; exact e h)]
theorem tickUp_mem (d : Rd) (m p : Nat) : p ∈ tickUp d m ↔ p < m ∧ late (d.now + 1) (d.by_ p) = true := by
  unfold tickUp; rw [List.mem_filter, List.mem_range]
theorem tickUp_nodup (d : Rd) (m : Nat) : (tickUp d m).Nodup := List.Nodup.sublist List.filter_sublist List.nodup_range
theorem late_busy {now : Nat} {s : St} (h : late now s = true) : s.busy = true ∧ s.since + 16 ≤ now := by
  unfold late at h
  rw [Bool.and_eq_true, decide_eq_true_eq] at h
  exact h
theorem tickUp_at {t : Nat} {c : Nat} {d : Rd} {begun till : Nat → Nat} (h : Fair t d begun till) (hok : RdOk c d) (k : Nat) (hk : k < (tickUp d 16).length) :
    (tickUp d 16)[k] < d.n ∧ (tickUp d 16)[k] ≠ d.self ∧ tillT d till k ((tickUp d 16)[k]) ≠ 0 := by
  obtain ⟨p, hp⟩ : ∃ p, p = (tickUp d 16)[k] := ⟨_, rfl⟩
  rw [← hp]
  have hm : p ∈ tickUp d 16 := by rw [hp]; exact List.getElem_mem hk
  rw [tickUp_mem] at hm
  obtain ⟨hb, _⟩ := late_busy hm.2
  have h1 : p < d.n := by
    by_cases e : d.n ≤ p
    · rw [hok.out p e] at hb; cases hb
    · omega
  have h2 : p ≠ d.self := fun e => by rw [e, h.self] at hb; cases hb
  refine ⟨h1, h2, ?_⟩
  unfold tillT
  rw [if_neg]
  · obtain ⟨_, h3 | h3⟩ := h.each p h1 h2
    · exact h3.2.1
    · rw [h3.1] at hb; cases hb
  · intro hin
    rw [hp] at hin
    rw [List.mem_take_iff_getElem] at hin
    obtain ⟨j, hj, he⟩ := hin
    have hjk : j < k := by omega
    exact absurd he (List.pairwise_iff_getElem.1 (tickUp_nodup d 16) j k (by omega) hk hjk)

theorem Fair.tick {t c : Nat} {d : Rd} {begun till : Nat → Nat} (h : Fair t d begun till) (hok : RdOk c d) (hn : IsNext d none) : FairB t (tickTo d 16) begun (tillT d till (tickUp d 16).length) := by
  have hl : ∀ p, p < d.n → (p ∈ (tickUp d 16).take (tickUp d 16).length ↔ late (d.now + 1) (d.by_ p) = true) := fun p hp => by
    rw [List.take_length, tickUp_mem]
    exact ⟨fun e => e.2, fun e => ⟨by have := hok.n16; omega, e⟩⟩
  refine ⟨by show d.now + 1 = _; rw [h.now], ?_, fun p hp hs => ?_⟩
  · show (if d.self < 16 ∧ late (d.now + 1) (d.by_ d.self) = true then ended (d.now + 1) (d.by_ d.self) false else d.by_ d.self).busy = false
    rw [if_neg]
    · exact h.self
    · intro e
      have := (late_busy e.2).1
      rw [h.self] at this; cases this
  · have hp2 : p < d.n := hp
    show FairQ t (begun p) (if p ∈ (tickUp d 16).take (tickUp d 16).length then 0 else till p) (if p < 16 ∧ late (d.now + 1) (d.by_ p) = true then ended (d.now + 1) (d.by_ p) false else d.by_ p)
    obtain ⟨hb, h3⟩ := h.each p hp2 hs
    by_cases e : late (d.now + 1) (d.by_ p) = true
    · rw [if_pos ((hl p hp2).2 e), if_pos ⟨by have := hok.n16; omega, e⟩]
      obtain ⟨e1, e2⟩ := late_busy e
      rcases h3 with h3 | h3
      · have e4 := h.now
        have e5 := backOf_le ((d.by_ p).fails + 1)
        refine ⟨hb, by omega, .inr ⟨rfl, rfl, ?_⟩⟩
        show d.now + 1 + backOf ((d.by_ p).fails + 1) ≤ begun p + 80
        have := h3.2.2.1
        omega
      · rw [h3.1] at e1; cases e1
    · rw [if_neg (fun e2 => e ((hl p hp2).1 e2)), if_neg (fun e2 => e e2.2)]
      rcases h3 with h3 | h3
      · refine ⟨hb, by omega, .inl ⟨h3.1, h3.2.1, h3.2.2.1, ?_⟩⟩
        have e1 : ¬ ((d.by_ p).since + 16 ≤ d.now + 1) := fun e2 => e (by unfold late; rw [h3.1, decide_eq_true e2]; rfl)
        have := h3.2.2.1
        have := h.now
        omega
      · have e1 : ¬ (d.by_ p).due ≤ d.now := fun e2 => hn p ⟨hp2, hs, h3.1, e2⟩
        have := h.now
        exact ⟨hb, by have := h3.2.2; omega, .inr h3⟩

theorem FairB.busy {t : Nat} {d : Rd} {begun till : Nat → Nat} (h : FairB t d begun till) (p : Nat) (hp : p < d.n) (hs : p ≠ d.self) (ht : till p ≠ 0) : turnE d (p : Int) = 0 := by
  have hP : isP d (p : Int) = true := (isP_iff d p).2 ⟨by omega, by omega, by omega⟩
  unfold turnE
  rw [hP, if_pos rfl, Int.toNat_natCast]
  obtain ⟨_, _, h3 | h3⟩ := h.each p hp hs
  · rw [h3.1, if_pos rfl]
  · exact absurd h3.2.1 ht

theorem FairB.end {t : Nat} {d : Rd} {begun till : Nat → Nat} (h : FairB t d begun till) (p : Nat) (hp : p < d.n) (hs : p ≠ d.self) (ht : till p ≠ 0) (good : Bool) : FairB t (turnD d (p : Int) good) begun (updN till p 0) := by
  have hE := h.busy p hp hs ht
  have hD : turnD d (p : Int) good = endD d p good := by unfold turnD; rw [hE, if_pos rfl, Int.toNat_natCast]
  rw [hD]
  refine ⟨h.now, ?_, fun q hq hqs => ?_⟩
  · show (updS d.by_ p _ d.self).busy = false
    rw [updS_other _ _ _ _ (fun e => hs e.symm)]
    exact h.self
  · show FairQ t (begun q) (updN till p 0 q) (updS d.by_ p _ q)
    by_cases e : q = p
    · subst e
      rw [updN_same, updS_same]
      obtain ⟨h1, h2, h3 | h3⟩ := h.each q hp hs
      · have e5 := backOf_le ((d.by_ q).fails + 1)
        have e6 := h.now
        cases good
        · refine ⟨h1, h2, .inr ⟨rfl, rfl, ?_⟩⟩
          show d.now + backOf ((d.by_ q).fails + 1) ≤ _
          omega
        · refine ⟨h1, h2, .inr ⟨rfl, rfl, ?_⟩⟩
          show d.now + 4 ≤ _
          omega
      · exact absurd h3.2.1 ht
    · rw [updN_other _ _ _ _ e, updS_other _ _ _ _ e]
      exact h.each q hq hqs

theorem FairB.next {t : Nat} {d : Rd} {begun till : Nat → Nat} (h : FairB t d begun till) : Fair (t + 1) d begun till :=
  ⟨h.now, h.self, fun p hp hs => by
    obtain ⟨h1, h2, h3 | h3⟩ := h.each p hp hs
    · exact ⟨by omega, .inl ⟨h3.1, h3.2.1, h3.2.2.1, h3.2.2.2⟩⟩
    · exact ⟨by omega, .inr h3⟩⟩
theorem FairB.near {t : Nat} {d : Rd} {begun till : Nat → Nat} (h : FairB t d begun till) (p : Nat) (hp : p < d.n) (hs : p ≠ d.self) : begun p ≤ t ∧ t ≤ begun p + 80 := ⟨(h.each p hp hs).1, (h.each p hp hs).2.1⟩

end Go.Proofs.Ytdlbjllgdikadab
