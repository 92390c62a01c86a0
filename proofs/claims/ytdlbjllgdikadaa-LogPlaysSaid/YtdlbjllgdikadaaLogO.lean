/- varvelaw22.LogPlays: both logs in memory, in a round. -/
import Derived.Test.YtdlbjllgdikadaaLogS
import Derived.Test.YtdlbjllgdikadaaLogM
namespace Go.Proofs.Ytdlbjllgdikadaa
open Go.RowKit
set_option linter.unusedVariables false
set_option linter.unusedSimpArgs false

def FF (n0 : Nat) (I v1 v2 : Value) (q : Nat) : Prop := v1.ownBlock = some q ∨ v2.ownBlock = some q ∨ I.ownBlock = some q ∨ q < n0
/-- Both logs, and the bytes that were handed in. -/
structure Mid (n j n0 : Nat) (W : World) (I : Value) (X D b R V : Nat) (g : Lg) (d : Dev) (r : RLg) (rd : RDev) (v1 v2 u1 u2 : Value) : Prop where
  log : LogSt W n0 X D g v1 v2
  dev : DevAt W D b d
  rst : RSt (FF n0 I v1 v2) W R V n r rd u1 u2
  rel : LRel n j g r
  pr : PRel n (40 * j) d rd
  lo : n0 ≤ D ∧ n0 ≤ b ∧ n0 ≤ R ∧ n0 ≤ V ∧ n0 ≤ W.heap.size
  of1 : RsOff (fun q => I.ownBlock = some q) W v1 g.lasts
  of2 : RsOff (fun q => I.ownBlock = some q) W v2 g.waits
  il : ∀ q, I.ownBlock = some q → q < W.heap.size
/-- The log has turned, the document's not yet. -/
structure Half (n n0 : Nat) (W : World) (I : Value) (X D b R V : Nat) (g : Lg) (d : Dev) (r : RLg) (rd : RDev) (v1 v2 u1 u2 : Value) : Prop where
  log : LogSt W n0 X D g v1 v2
  dev : DevAt W D b d
  rst : RSt (FF n0 I v1 v2) W R V n r rd u1 u2
  lo : n0 ≤ D ∧ n0 ≤ b ∧ n0 ≤ R ∧ n0 ≤ V ∧ n0 ≤ W.heap.size
  of1 : RsOff (fun q => I.ownBlock = some q) W v1 g.lasts
  of2 : RsOff (fun q => I.ownBlock = some q) W v2 g.waits
  il : ∀ q, I.ownBlock = some q → q < W.heap.size

section
variable {n j n0 : Nat} {W W1 W2 : World} {I : Value} {X D b R V : Nat} {g g' : Lg} {d d' : Dev} {r r' : RLg} {rd rd' : RDev} {v1 v2 u1 u2 v1' v2' u1' u2' : Value}

theorem Mid.more {j' : Nat} (h : Mid n j n0 W I X D b R V g d r rd v1 v2 u1 u2) (hj : j ≤ j') : Mid n j' n0 W I X D b R V g d r rd v1 v2 u1 u2 :=
  { h with rel := h.rel.more hj, pr := h.pr.more (Nat.mul_le_mul_left 40 hj) }
theorem Mid.later (h : Mid n j n0 W I X D b R V g d r rd v1 v2 u1 u2) (hb : Below W.heap.size W W1) : Mid n j n0 W1 I X D b R V g d r rd v1 v2 u1 u2 :=
  ⟨h.log.later hb, h.dev.later hb, h.rst.later hb, h.rel, h.pr, ⟨h.lo.1, h.lo.2.1, h.lo.2.2.1, h.lo.2.2.2.1, Nat.le_trans h.lo.2.2.2.2 hb.size⟩, h.of1.later h.log.o1 hb, h.of2.later h.log.o2 hb, fun q hq => Nat.lt_of_lt_of_le (h.il q hq) hb.size⟩
/-- The bytes that were handed in are no more looked at; others are handed in. -/
theorem Mid.turn {I' : Value} (h : Mid n j n0 W I X D b R V g d r rd v1 v2 u1 u2) (hb : Below W.heap.size W W1) (hI : ∀ q, I'.ownBlock = some q → W.heap.size ≤ q ∧ q < W1.heap.size) : Mid n j n0 W1 I' X D b R V g d r rd v1 v2 u1 u2 := by
  have hw : ∀ q, FF n0 I' v1 v2 q → FF n0 I v1 v2 q ∨ W.heap.size ≤ q := fun q hq => by
    rcases hq with e | e | e | e
    · exact .inl (.inl e)
    · exact .inl (.inr (.inl e))
    · exact .inr (hI q e).1
    · exact .inl (.inr (.inr (.inr e)))
  have h2 : RSt (FF n0 I' v1 v2) W R V n r rd u1 u2 := ⟨h.rst.at_, h.rst.dev, h.rst.o1.weak hw, h.rst.o2.weak hw, h.rst.len, h.rst.n40, h.rst.num⟩
  exact ⟨h.log.later hb, h.dev.later hb, h2.later hb, h.rel, h.pr, ⟨h.lo.1, h.lo.2.1, h.lo.2.2.1, h.lo.2.2.2.1, Nat.le_trans h.lo.2.2.2.2 hb.size⟩,
    (h.log.o1.offHigh (F := fun q => I'.ownBlock = some q) (fun q e => (hI q e).1)).later h.log.o1 hb, (h.log.o2.offHigh (F := fun q => I'.ownBlock = some q) (fun q e => (hI q e).1)).later h.log.o2 hb, fun q e => (hI q e).2⟩
theorem RSt.aside {F : Nat → Prop} {T : List Nat} (h : RSt F W R V n r rd u1 u2) (k : Aside T W W1) (hR : R ∉ T) (hV : V ∉ T) (hT : ∀ q ∈ T, ∀ c t fz, W.heap[q]? = some (.cells c t fz) → (t = 91 ∨ t = 5) → F q) : RSt F W1 R V n r rd u1 u2 :=
  ⟨h.at_.aside k hR, h.dev.aside k hV, h.o1.aside k hT, h.o2.aside k hT, h.len, h.n40, h.num⟩
theorem RSt.weak {F F' : Nat → Prop} (h : RSt F W R V n r rd u1 u2) (hF : ∀ q, F' q → F q ∨ W.heap.size ≤ q) : RSt F' W R V n r rd u1 u2 :=
  ⟨h.at_, h.dev, h.o1.weak hF, h.o2.weak hF, h.len, h.n40, h.num⟩
/-- What the log's calls turn. -/
theorem Mid.half (h : Mid n j n0 W I X D b R V g d r rd v1 v2 u1 u2) {T : List Nat} (hl : LogSt W1 n0 X D g' v1' v2') (hd : DevAt W1 D b d') (k : Aside T W W1)
    (hT : ∀ q ∈ T, q = X ∨ q = D ∨ q = b ∨ v1.ownBlock = some q ∨ v2.ownBlock = some q)
    (h1 : ∀ q, v1'.ownBlock = some q → v1.ownBlock = some q ∨ W.heap.size ≤ q) (h2 : ∀ q, v2'.ownBlock = some q → v2.ownBlock = some q ∨ W.heap.size ≤ q)
    (o1 : RsOff (fun q => I.ownBlock = some q) W1 v1' g'.lasts) (o2 : RsOff (fun q => I.ownBlock = some q) W1 v2' g'.waits) : Half n n0 W1 I X D b R V g' d' r rd v1' v2' u1 u2 := by
  have hRX : ∀ q ∈ T, q ≠ R ∧ q ≠ V := fun q hq => by
    have zR : W.heap[R]? = _ := h.rst.at_
    have zV : W.heap[V]? = _ := h.rst.dev
    rcases hT q hq with e | e | e | e | e
    · have z : W.heap[X]? = _ := h.log.at_
      refine ⟨fun e2 => ?_, fun e2 => ?_⟩
      · rw [← e2, e, z] at zR; simp at zR
      · rw [← e2, e, z] at zV; simp at zV
    · have z := h.dev.1
      refine ⟨fun e2 => ?_, fun e2 => ?_⟩
      · rw [← e2, e, z] at zR; simp at zR
      · rw [← e2, e, z] at zV; simp at zV
    · obtain ⟨_, ⟨M, ⟨es, cl, z, _⟩, _⟩, _⟩ := h.dev
      refine ⟨fun e2 => ?_, fun e2 => ?_⟩
      · rw [← e2, e, z] at zR; cases zR
      · rw [← e2, e, z] at zV; cases zV
    · obtain ⟨c1, f1, z⟩ := h.log.o1.kind q e
      refine ⟨fun e2 => ?_, fun e2 => ?_⟩
      · rw [← e2, z] at zR; simp at zR
      · rw [← e2, z] at zV; simp at zV
    · obtain ⟨c1, f1, z⟩ := h.log.o2.kind q e
      refine ⟨fun e2 => ?_, fun e2 => ?_⟩
      · rw [← e2, z] at zR; simp at zR
      · rw [← e2, z] at zV; simp at zV
  have hbig : RSt (fun q => FF n0 I v1 v2 q ∨ FF n0 I v1' v2' q) W R V n r rd u1 u2 := h.rst.weak fun q hq => by
    rcases hq with e | e | e | e | e
    · exact .inl e
    · rcases h1 q e with z | z
      · exact .inl (.inl z)
      · exact .inr z
    · rcases h2 q e with z | z
      · exact .inl (.inr (.inl z))
      · exact .inr z
    · exact .inl (.inr (.inr (.inl e)))
    · exact .inl (.inr (.inr (.inr e)))
  have hbig1 := hbig.aside k (fun e => (hRX R e).1 rfl) (fun e => (hRX V e).2 rfl) fun q hq c t fz hc ht => by
    rcases hT q hq with e | e | e | e | e
    · have z : W.heap[X]? = _ := h.log.at_
      rw [e, z] at hc; simp at hc; rcases ht with ht | ht <;> (rw [ht] at hc; exact absurd hc.2.1 (by decide))
    · have z := h.dev.1
      rw [e, z] at hc; simp at hc; rcases ht with ht | ht <;> (rw [ht] at hc; exact absurd hc.2.1 (by decide))
    · obtain ⟨_, ⟨M, ⟨es, cl, z, _⟩, _⟩, _⟩ := h.dev
      rw [e, z] at hc; cases hc
    · exact .inl (.inl e)
    · exact .inl (.inr (.inl e))
  exact ⟨hl, hd, hbig1.weak fun q hq => .inl (.inr hq), ⟨h.lo.1, h.lo.2.1, h.lo.2.2.1, h.lo.2.2.2.1, Nat.le_trans h.lo.2.2.2.2 k.size⟩, o1, o2, fun q hq => Nat.lt_of_lt_of_le (h.il q hq) k.size⟩
theorem Half.low (h : Half n n0 W I X D b R V g d r rd v1 v2 u1 u2) : ∀ q, FF n0 I v1 v2 q → q < W.heap.size := fun q hq => by
  rcases hq with e | e | e | e
  · exact (h.log.o1.blk q e).2
  · exact (h.log.o2.blk q e).2
  · exact h.il q e
  · exact Nat.lt_of_lt_of_le e h.lo.2.2.2.2
theorem Half.kinds (h : Half n n0 W I X D b R V g d r rd v1 v2 u1 u2) : ∀ q ∈ [R, V], ∀ c t fz, W.heap[q]? = some (.cells c t fz) → t ≠ 91 ∧ t ≠ 5 := fun q hq c t fz e => by
  simp only [List.mem_cons, List.not_mem_nil, or_false] at hq
  rcases hq with rfl | rfl
  · have z : W.heap[q]? = _ := h.rst.at_
    rw [z] at e; simp at e; rw [← e.2.1]; decide
  · have z : W.heap[q]? = _ := h.rst.dev
    rw [z] at e; simp at e; rw [← e.2.1]; decide
theorem Half.full (h : Half n n0 W I X D b R V g d r rd v1 v2 u1 u2) {j : Nat} (hr : RSt (FF n0 I v1 v2) W1 R V n r' rd' u1' u2') (k : Aside [R, V] W W1) (rel : LRel n j g r') (pr : PRel n (40 * j) d rd') : Mid n j n0 W1 I X D b R V g d r' rd' v1 v2 u1' u2' := by
  have hk := h.kinds
  have hX : X ∉ [R, V] := fun e => by
    have z : W.heap[X]? = _ := h.log.at_
    simp only [List.mem_cons, List.not_mem_nil, or_false] at e
    rcases e with e | e
    · have zR : W.heap[R]? = _ := h.rst.at_
      rw [← e, z] at zR; simp at zR
    · have zV : W.heap[V]? = _ := h.rst.dev
      rw [← e, z] at zV; simp at zV
  have hD : D ∉ [R, V] := fun e => by
    have z := h.dev.1
    simp only [List.mem_cons, List.not_mem_nil, or_false] at e
    rcases e with e | e
    · have zR : W.heap[R]? = _ := h.rst.at_
      rw [← e, z] at zR; simp at zR
    · have zV : W.heap[V]? = _ := h.rst.dev
      rw [← e, z] at zV; simp at zV
  have hb : b ∉ [R, V] := fun e => by
    obtain ⟨_, ⟨M, ⟨es, cl, z, _⟩, _⟩, _⟩ := h.dev
    simp only [List.mem_cons, List.not_mem_nil, or_false] at e
    rcases e with e | e
    · have zR : W.heap[R]? = _ := h.rst.at_
      rw [← e, z] at zR; cases zR
    · have zV : W.heap[V]? = _ := h.rst.dev
      rw [← e, z] at zV; cases zV
  refine ⟨⟨h.log.at_.aside k hX, h.log.o1.aside k hk, h.log.o2.aside k hk, h.log.ap, h.log.lo⟩, h.dev.aside k hD hb, hr, rel, pr, ⟨h.lo.1, h.lo.2.1, h.lo.2.2.1, h.lo.2.2.2.1, Nat.le_trans h.lo.2.2.2.2 k.size⟩,
    h.of1.aside h.log.o1 k (fun q hq hm => ?_), h.of2.aside h.log.o2 k (fun q hq hm => ?_), fun q hq => Nat.lt_of_lt_of_le (h.il q hq) k.size⟩
  · obtain ⟨c1, f1, z⟩ := h.log.o1.kind q hq
    exact (hk q hm _ _ _ z).1 rfl
  · obtain ⟨c1, f1, z⟩ := h.log.o2.kind q hq
    exact (hk q hm _ _ _ z).1 rfl
/-- A byte of what was handed in is written. -/
theorem Mid.setIn {base gi c : Nat} {l : List UInt8} (h : Mid n j n0 W (.slice (some ⟨gi, 0, none⟩) l.length c) X D b R V g d r rd v1 v2 u1 u2) (hO : OwnB W base (.slice (some ⟨gi, 0, none⟩) l.length c) l) (i : Nat) (x : Value) : Mid n j n0 (W.setCell ⟨gi, i, none⟩ x) (.slice (some ⟨gi, 0, none⟩) l.length c) X D b R V g d r rd v1 v2 u1 u2 := by
  obtain ⟨cs, fz, z⟩ := Lib.ownsRow_kind hO gi rfl
  have hX : X ≠ gi := fun e => by have z1 : W.heap[X]? = _ := h.log.at_; rw [e, z] at z1; simp at z1
  have hD : D ≠ gi := fun e => by have z1 := h.dev.1; rw [e, z] at z1; simp at z1
  have hb : b ≠ gi := fun e => by obtain ⟨_, ⟨M, ⟨es, cl, z1, _⟩, _⟩, _⟩ := h.dev; rw [e, z] at z1; cases z1
  have hR : R ≠ gi := fun e => by have z1 : W.heap[R]? = _ := h.rst.at_; rw [e, z] at z1; simp at z1
  have hV : V ≠ gi := fun e => by have z1 : W.heap[V]? = _ := h.rst.dev; rw [e, z] at z1; simp at z1
  have k : Aside [gi] W (W.setCell ⟨gi, i, none⟩ x) := (Aside.refl _ W).setCell ⟨gi, i, none⟩ x (fun _ => by simp)
  have hrow : ∀ {B : Nat} {v : Value} {m : Nat} {xs : List Value}, W.ownsRow B 91 3 v m xs → (W.setCell ⟨gi, i, none⟩ x).ownsRow B 91 3 v m xs := fun {B v m xs} hp => by
    refine ownsRow_setCell_other hp (fun e2 => ?_) _
    obtain ⟨d1, f1, z1⟩ := Lib.ownsRow_kind hp _ e2
    rw [z] at z1
    simp at z1
  have hO2 : ∀ {v : Value} {m : List Rc}, OwnRs W n0 v m → RsOff (fun q => (Value.slice (some ⟨gi, 0, none⟩) l.length c).ownBlock = some q) W v m → OwnRs (W.setCell ⟨gi, i, none⟩ x) n0 v m := fun {v m} hp ho => by
    obtain ⟨rr, k1, k2, k3⟩ := hp.trips
    have k4 := ho rr k1 ⟨_, k2⟩
    have hlen : rr.length = m.length := by rw [← k1, List.length_map]
    refine ⟨rr, k1, by rw [← hlen]; exact hrow k2, fun p hp => by
      refine ownsRow_setCell_other (k3 p hp) (fun e2 => ?_) x
      exact k4 p hp _ e2 rfl⟩
  exact ⟨⟨h.log.at_.other _ _ hX, hO2 h.log.o1 h.of1, hO2 h.log.o2 h.of2, h.log.ap, h.log.lo⟩, h.dev.other _ _ hD hb,
    h.rst.aside k (by simp; exact hR) (by simp; exact hV) (fun q hq _ _ _ _ _ => by rw [List.mem_singleton] at hq; subst hq; exact .inr (.inr (.inl rfl))), h.rel, h.pr, ⟨h.lo.1, h.lo.2.1, h.lo.2.2.1, h.lo.2.2.2.1, by simpa using h.lo.2.2.2.2⟩,
    h.of1.keep h.log.o1 (fun rr hr => hrow hr), h.of2.keep h.log.o2 (fun rr hr => hrow hr), fun q hq => by have := h.il q hq; simpa using this⟩
end

/-- Open, of a device. -/
theorem open_dev (D b : Nat) (d : Dev) (W : World) (h : DevAt W D b d) (hup : d.down = false) (h1 : 1 ≤ d.blocks) (h40 : d.blocks ≤ 40) :
    Calls Try.prog 74 #[.pointer (some ⟨D, 0, none⟩)] W fun e w' => ∃ X v1, e = .returned (.tuple #[.pointer (some ⟨X, 0, none⟩), .int .i64 0]) ∧ LogSt w' W.heap.size X D (openG (nextS (devRun d)) (lastsOf (refRecs (devRun d)))) v1 (.slice none 0 0) ∧ DevAt w' D b d ∧ Below W.heap.size W w' ∧ W.heap.size ≤ X := by
  have hr := LRel.openD d h1 h40
  have hhd : nextS (devRun d) + 0 ≤ 1099511627777 := hr.hd
  exact open_log D b d _ _ W h (find_dev D b d W h hup h1 h40) (by omega) (fun x hx => by have := (hr.lf x hx).2.1; omega)
theorem prel_run {n k : Nat} {d : Dev} {r : RDev} (h : PRel n k d r) : runOf (allTo n (win r.B) n) = devRun d := by
  unfold devRun
  rw [h.blocks]
  have hg : ∀ i, i < n → goodB n (win r.B) i = goodB n d.mem i := fun i hi => by unfold goodB; rw [h.mem i hi]
  have e : allTo n (win r.B) n = allTo n d.mem n := by
    unfold allTo
    rw [List.filter_congr fun i hi => hg i (List.mem_range.1 hi)]
    refine List.map_congr_left fun i hi => ?_
    rw [h.mem i (List.mem_range.1 (List.mem_filter.1 hi).1)]
  rw [e]
theorem ropen_dev (F : Nat → Prop) (V n k : Nat) (d : Dev) (rd : RDev) (W : World) (hV : RefAt W V rd) (hp : PRel n k d rd) (h1 : 1 ≤ n) (h40 : n ≤ 40) (hF : ∀ q, F q → q < W.heap.size) :
    Calls Try.prog 78 #[.pointer (some ⟨V, 0, none⟩)] W fun e w' => ∃ R u1, e = .returned (.pointer (some ⟨R, 0, none⟩)) ∧ RLogAt w' R V ⟨lastsOf (refRecs (devRun d)), [], nextS (devRun d), false⟩ u1 (.slice none 0 0) ∧ WinRs F w' u1 (lastsOf (refRecs (devRun d))) ∧ W.heap.size ≤ R ∧ Below W.heap.size W w' :=
  ropen_calls F V _ _ W (reffind_win F V (devRun d) W ((refrun_calls V n rd W hV hp.len h1 h40).mono fun e w' ⟨v, q1, q2, q3⟩ => ⟨v, q1, by rw [← prel_run hp]; exact q2, q3⟩) (devRun_may d) (by have := devRun_short d (by rw [hp.blocks]; exact h1); have := hp.blocks; omega) hF)
end Go.Proofs.Ytdlbjllgdikadaa
