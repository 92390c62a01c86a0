/- log: wait: Append, Check. -/
import Derived.Test.YtdlbjllgdikadaaLogR
namespace Go.Proofs.Ytdlbjllgdikadaa
open Go.RowKit
set_option linter.unusedVariables false
set_option linter.unusedSimpArgs false

/-- What a log's numbers may be. -/
structure LgOk (g : Lg) : Prop where
  bn : g.base ≤ g.next
  nx : g.next ≤ 1099511627777
  my : g.many ≤ 1099511627777
  l1 : g.lasts.length ≤ 1000000000
  l2 : g.waits.length ≤ 1000000000
  b1 : ∀ x ∈ g.lasts, x.body.length ≤ 524288 ∧ x.from_ ≤ 1099511627776
  b2 : ∀ x ∈ g.waits, x.body.length ≤ 524288 ∧ x.from_ ≤ 1099511627776
/-- A log in memory: its records in blocks of its own, from B on. -/
structure LogSt (w : World) (B X D : Nat) (g : Lg) (v1 v2 : Value) : Prop where
  at_ : LogAt w X D g v1 v2
  o1 : OwnRs w B v1 g.lasts
  o2 : OwnRs w B v2 g.waits
  ap : ∀ q, v1.ownBlock = some q → v2.ownBlock ≠ some q
  lo : B ≤ X
theorem LogSt.later {w w' : World} {B X D : Nat} {g : Lg} {v1 v2 : Value} (h : LogSt w B X D g v1 v2) (hb : Below w.heap.size w w') : LogSt w' B X D g v1 v2 :=
  ⟨h.at_.later hb, h.o1.later hb, h.o2.later hb, h.ap, h.lo⟩

def roomL (d : Dev) (g : Lg) : Int := (d.blocks : Int) - ((g.next - g.base : Nat) : Int) - (g.many : Int)
def stateB (g : Lg) (k : UInt8) : Bool := (k == 1) && g.lasts.isEmpty && !(g.waits.any isCk)
def fullB (d : Dev) (g : Lg) (n : Nat) : Bool := decide (roomL d g < (n : Int)) || decide (1099511627776 < g.next + (g.many + n - 1))
def waitE (d : Dev) (g : Lg) (k : UInt8) (b : List UInt8) : Nat := if g.down then 11 else if stateB g k then 16 else if 524288 < b.length then 3 else if fullB d g (manyN b.length) then 10 else 0
def waitG (d : Dev) (g : Lg) (k : UInt8) (b : List UInt8) : Lg := if waitE d g k b = 0 then { g with waits := g.waits ++ [⟨k, g.next + g.many, b⟩], many := g.many + manyN b.length } else g

/-- The bodies of a row of records lie off some blocks. -/
def RsOff (F : Nat → Prop) (w : World) (v : Value) (l : List Rc) : Prop :=
  ∀ r : List RTrip, r.map (·.1) = l → (∃ B, w.ownsRow B 91 3 v r.length (rcellsOf r)) → ∀ p ∈ r, ∀ q, (Value.slice p.2.1 p.1.body.length p.2.2).ownBlock = some q → ¬ F q
theorem row_det {w : World} {B B' : Nat} {e : TypeId} {sz n : Nat} {v : Value} {xs ys : List Value} (h : w.ownsRow B e sz v n xs) (h' : w.ownsRow B' e sz v n ys) : xs = ys := by
  obtain ⟨h1, h2⟩ := h
  obtain ⟨k1, k2⟩ := h'
  rcases h2 with ⟨rfl, hn⟩ | ⟨g, cap, cur, rfl, hb, hg, _, _, _, ht⟩
  · subst hn
    rw [Nat.zero_mul] at h1 k1
    rw [List.length_eq_zero_iff.1 h1, List.length_eq_zero_iff.1 k1]
  · rcases k2 with ⟨e1, _⟩ | ⟨g', cap', cur', e1, hb', hg', _, _, _, ht'⟩
    · cases e1
    · injection e1 with e1 e2 e3
      injection e1 with e1
      injection e1 with e1 _ _
      subst e1
      rw [hg] at hg'
      injection hg' with e4
      injection e4 with e4
      subst e4
      rw [← ht, ← ht']
theorem rs_det {w : World} {B B' : Nat} {v : Value} {r s : List RTrip} (h : w.ownsRow B 91 3 v r.length (rcellsOf r)) (h' : w.ownsRow B' 91 3 v s.length (rcellsOf s)) (hm : r.map (·.1) = s.map (·.1)) : r = s := by
  have hl : r.length = s.length := by have := congrArg List.length hm; simpa using this
  rw [← hl] at h'
  have hx := row_det h h'
  clear h h' hl
  induction r generalizing s with
  | nil => cases s with
    | nil => rfl
    | cons q s => simp at hm
  | cons p r ih => cases s with
    | nil => simp at hm
    | cons q s =>
      simp only [List.map_cons, List.cons.injEq] at hm
      simp only [rcellsOf, Rc.cells, List.cons_append, List.nil_append, List.cons.injEq, Value.slice.injEq] at hx
      obtain ⟨_, _, ⟨h3, _, h4⟩, h5⟩ := hx
      rw [ih hm.2 h5]
      obtain ⟨p1, p2, p3⟩ := p
      obtain ⟨q1, q2, q3⟩ := q
      simp only at h3 h4
      rw [h3, h4, show p1 = q1 from hm.1]
theorem OwnRs.trips {w : World} {B : Nat} {v : Value} {l : List Rc} (h : OwnRs w B v l) : ∃ r : List RTrip, r.map (·.1) = l ∧ w.ownsRow B 91 3 v r.length (rcellsOf r) ∧ ∀ p ∈ r, OwnB w B (.slice p.2.1 p.1.body.length p.2.2) p.1.body := by
  obtain ⟨r, h1, h2, h3⟩ := h
  exact ⟨r, h1, by have : r.length = l.length := by rw [← h1, List.length_map]
                   rw [this]; exact h2, h3⟩
theorem RsOff.of {F : Nat → Prop} {w : World} {B : Nat} {v : Value} {l : List Rc} (r : List RTrip) (h1 : r.map (·.1) = l) (h2 : w.ownsRow B 91 3 v r.length (rcellsOf r)) (h3 : ∀ p ∈ r, ∀ q, (Value.slice p.2.1 p.1.body.length p.2.2).ownBlock = some q → ¬ F q) : RsOff F w v l := by
  rintro s k1 ⟨B', k2⟩
  rw [← rs_det h2 k2 (h1.trans k1.symm)]
  exact h3
theorem RsOff.nil (F : Nat → Prop) (w : World) : RsOff F w (.slice none 0 0) [] := fun r h _ p hp => by
  rw [List.map_eq_nil_iff.1 h] at hp; cases hp
/-- What was made lately lies off all that was there. -/
theorem OwnRs.offLow {F : Nat → Prop} {w : World} {B : Nat} {v : Value} {l : List Rc} (h : OwnRs w B v l) (hF : ∀ q, F q → q < B) : RsOff F w v l := by
  obtain ⟨r, h1, h2, h3⟩ := h.trips
  exact RsOff.of r h1 h2 fun p hp q hq hf => by have := (World.ownsRow.lt (h3 p hp) q hq).1; have := hF q hf; omega
/-- What was there lies off all that comes. -/
theorem OwnRs.offHigh {F : Nat → Prop} {w : World} {B : Nat} {v : Value} {l : List Rc} (h : OwnRs w B v l) (hF : ∀ q, F q → w.heap.size ≤ q) : RsOff F w v l := by
  obtain ⟨r, h1, h2, h3⟩ := h.trips
  exact RsOff.of r h1 h2 fun p hp q hq hf => by have := (World.ownsRow.lt (h3 p hp) q hq).2; have := hF q hf; omega
theorem RsOff.keep {F : Nat → Prop} {w w' : World} {B : Nat} {v : Value} {l : List Rc} (h : RsOff F w v l) (hO : OwnRs w B v l) (hk : ∀ r : List RTrip, w.ownsRow B 91 3 v r.length (rcellsOf r) → w'.ownsRow B 91 3 v r.length (rcellsOf r)) : RsOff F w' v l := by
  obtain ⟨r, h1, h2, h3⟩ := hO.trips
  exact RsOff.of r h1 (hk r h2) (h r h1 ⟨B, h2⟩)
theorem RsOff.aside {F : Nat → Prop} {T : List Nat} {w w' : World} {B : Nat} {v : Value} {l : List Rc} (h : RsOff F w v l) (hO : OwnRs w B v l) (k : Aside T w w') (hT : ∀ q, v.ownBlock = some q → q ∉ T) : RsOff F w' v l :=
  h.keep hO fun r hr => ownsRow_aside hr k hT
theorem RsOff.later {F : Nat → Prop} {w w' : World} {B : Nat} {v : Value} {l : List Rc} (h : RsOff F w v l) (hO : OwnRs w B v l) (hb : Below w.heap.size w w') : RsOff F w' v l :=
  h.keep hO fun r hr => ownsRow_later hr hb

def WaitPost (B X D : Nat) (d : Dev) (g : Lg) (v1 v2 : Value) (k : UInt8) (l : List UInt8) (w : World) (e : Ending) (w' : World) : Prop :=
  e = .returned (.int .i64 (waitE d g k l : Nat)) ∧ ∃ v2', LogSt w' B X D (waitG d g k l) v1 v2' ∧ Aside (X :: v2.ownBlock.toList) w w' ∧ (∀ q, v2'.ownBlock = some q → v2.ownBlock = some q ∨ w.heap.size ≤ q) ∧
    (∀ F : Nat → Prop, (∀ q, F q → q < w.heap.size) → RsOff F w v2 g.waits → RsOff F w' v2' (waitG d g k l).waits)

theorem k_int (k : UInt8) (c : UInt8) : ((k.toNat : Int) == (c.toNat : Int)) = (k == c) := by
  by_cases h : k = c
  · rw [h]; simp
  · have h1 : (k == c) = false := by simpa using h
    rw [h1, beq_eq_false_iff_ne]
    intro e
    exact h (UInt8.toNat_inj.1 (by omega))

theorem OwnRs.grown91 {w w' : World} {B : Nat} {v : Value} {l : List Rc} {row : Option Nat} (h : OwnRs w B v l) (hg : w.grownBy w' row) (hne : v.ownBlock = none ∨ v.ownBlock ≠ row) (h91 : ∀ q, row = some q → ∃ c fz, w.heap[q]? = some (.cells c 91 fz)) : OwnRs w' B v l := by
  obtain ⟨r, h1, h2, h3⟩ := h
  refine ⟨r, h1, World.ownsRow.kept h2 hg hne, fun p hp => World.ownsRow.kept (h3 p hp) hg ?_⟩
  cases e : (Value.slice p.2.1 p.1.body.length p.2.2).ownBlock with
  | none => exact .inl rfl
  | some q =>
    right
    intro e2
    obtain ⟨c1, f1, z1⟩ := Lib.ownsRow_kind (h3 p hp) q e
    obtain ⟨c2, f2, z2⟩ := h91 q e2.symm
    rw [z1] at z2
    simp at z2

set_option maxRecDepth 100000 in
set_option maxHeartbeats 4000000 in
theorem wait_log (B X D b : Nat) (d : Dev) (g : Lg) (v1 v2 : Value) (k : UInt8) (a : Option Addr) (l : List UInt8) (c : Nat) (w : World) (h : LogSt w B X D g v1 v2) (hD : DevAt w D b d) (hok : LgOk g)
    (hby : IsBytes w a l) (hn : a = none → l.length = 0 ∧ c = 0) (hl : l.length ≤ 1000000000) (hB : B ≤ w.heap.size) :
    Calls Try.prog 96 #[.pointer (some ⟨X, 0, none⟩), .int .u8 (k.toNat : Int), .slice a l.length c] w (WaitPost B X D d g v1 v2 k l w) := by
  have hm1 := manyN_pos l.length
  have hm2 := manyN_le l.length
  have hmany := Lib.hid (fun W => many_calls l.length (by omega) W)
  have hnon := Lib.hid (fun W h => none_log X D g v1 v2 W h)
  have c6 := h.at_.c6
  have hdown : g.down = true → Calls Try.prog 96 #[.pointer (some ⟨X, 0, none⟩), .int .u8 (k.toNat : Int), .slice a l.length c] w (WaitPost B X D d g v1 v2 k l w) := fun hd => by
    have hE : waitE d g k l = 11 := by unfold waitE; rw [if_pos hd]
    have hG : waitG d g k l = g := by unfold waitG; rw [hE, if_neg (by decide)]
    unfold WaitPost
    rw [hE, hG]
    rw [hd] at c6
    have hh := Lib.hid h
    have hat := h.at_
    clear hE hG h hd
    go_enter Try.func96, Try.ntmps96
    go_wp2_with (first
      | (go_at_call 27; refine (hmany.out _).mono ?_; rintro e w2 ⟨rfl, rfl⟩)
      | (go_at_call 97; refine (hnon.out _ hat).mono ?_; rintro e w3 ⟨rfl, rfl⟩))
    go_ret
    exact ⟨rfl, v2, hh.out, Aside.refl _ _, fun q e => .inl e, fun F hF h0 => h0⟩
  cases hd : g.down with
  | true => exact hdown hd
  | false =>
    clear hdown
    rw [hd] at c6
    obtain ⟨st, hst⟩ : ∃ st, st = stateB g k := ⟨_, rfl⟩
    obtain ⟨fl, hfl⟩ : ∃ fl, fl = fullB d g (manyN l.length) := ⟨_, rfl⟩
    have hE : waitE d g k l = if st then 16 else if 524288 < l.length then 3 else if fl then 10 else 0 := by unfold waitE; rw [hd, if_neg Bool.false_ne_true, ← hst, ← hfl]
    obtain ⟨a1, q1, e1, hI1, _⟩ := h.o1.slice
    obtain ⟨a2, q2, e2, hI2, _⟩ := h.o2.slice
    obtain ⟨m, hm⟩ : ∃ m, m = manyN l.length := ⟨_, rfl⟩
    have HE := Lib.hid hE
    have HST := Lib.hid hst
    have HFL := Lib.hid hfl
    have HM := Lib.hid hm
    have hat := h.at_
    have hl1 := hok.l1
    have hl2 := hok.l2
    have hcon := Lib.hid (fun W (hb : Below w.heap.size w W) => contains_check a2 g.waits q2 W (hI2.later hb) (by omega))
    have hrm := Lib.hid (fun W (hb : Below w.heap.size w W) => room_log X D b d g v1 v2 g.many W (hat.later hb) (hD.later hb) hok.bn (by have := hok.nx; omega) (by have := hok.my; omega) (by have := hok.nx; omega))
    have HH := Lib.hid (And.intro h (And.intro hok (And.intro hby hn)))
    have c3 := hat.c3
    have c4 := hat.c4
    subst e1
    subst e2
    rw [← hm] at hm1 hm2 hmany hfl HFL
    clear hE hst hfl hm h hok hby hn hI1 hI2 hD hd
    go_enter Try.func96, Try.ntmps96
    go_upto_region 7 with (first
      | (go_at_call 27; refine (hmany.out _).mono ?_; rintro e w2 ⟨rfl, rfl⟩)
      | (go_at_call 97; refine (hnon.out _ hat).mono ?_; rintro e w3 ⟨rfl, rfl⟩))
    go_cut [20] from 21 to 39 (fun qv wc => qv = .bool st ∧ Below w.heap.size w wc)
    case first =>
      have hk1 := k_int k 1
      have h1t : ((1 : UInt8).toNat : Int) = 1 := rfl
      rw [h1t] at hk1
      unfold stateB at HST
      cases hkk : (k == 1) with
      | false =>
        rw [hkk] at hk1
        have hs0 : st = false := by rw [HST.out, hkk]; rfl
        subst hs0
        go_wp2
        go_meet
        exact ⟨rfl, Below.refl _ _⟩
      | true =>
        rw [hkk] at hk1
        have HK := Lib.hid hkk
        clear hkk
        by_cases h0 : g.lasts.length = 0
        · have h0I : ((g.lasts.length : Int) == 0) = true := by rw [h0]; rfl
          have hs0 : st = !(g.waits.any isCk) := by rw [HST.out, HK.out, List.length_eq_zero_iff.1 h0]; rfl
          have HS0 := Lib.hid hs0
          clear h0 hs0
          go_wp2_with (go_at_call 112; refine (hcon.out _ (Below.refl _ _)).mono ?_; rintro e w4 ⟨rfl, hB4⟩)
          go_meet
          exact ⟨by rw [HS0.out], hB4⟩
        · have h0I : ((g.lasts.length : Int) == 0) = false := by rw [beq_eq_false_iff_ne]; omega
          have hs0 : st = false := by rw [HST.out, HK.out]; cases hgl : g.lasts with
            | nil => rw [hgl] at h0; exact absurd rfl h0
            | cons _ _ => rfl
          subst hs0
          go_wp2
          go_meet
          exact ⟨rfl, Below.refl _ _⟩
    case rest =>
      obtain ⟨rfl, hBc⟩ := hcut
      cases st with
      | true =>
        rw [if_pos rfl] at HE
        have hG : waitG d g k l = g := by unfold waitG; rw [HE.out, if_neg (by decide)]
        have HG := Lib.hid hG
        clear hG
        go_wp2
        go_ret
        exact ⟨by rw [HE.out]; rfl, _, by rw [HG.out]; exact HH.out.1.later hBc, Aside.below _ hBc, fun q e => .inl e, fun F hF h0 => by rw [HG.out]; exact h0.later HH.out.1.o2 hBc⟩
      | false =>
        rw [if_neg Bool.false_ne_true] at HE
        by_cases hlong : 524288 < l.length
        · have hlI : (524288 : Int) < (l.length : Int) := by omega
          rw [if_pos hlong] at HE
          have hG : waitG d g k l = g := by unfold waitG; rw [HE.out, if_neg (by decide)]
          have HG := Lib.hid hG
          clear hG
          go_wp2
          go_ret
          exact ⟨by rw [HE.out]; rfl, _, by rw [HG.out]; exact HH.out.1.later hBc, Aside.below _ hBc, fun q e => .inl e, fun F hF h0 => by rw [HG.out]; exact h0.later HH.out.1.o2 hBc⟩
        · have hlI : ¬ (524288 : Int) < (l.length : Int) := by omega
          rw [if_neg hlong] at HE
          go_upto_region 11 with fail
          have hatc := hat.later hBc
          have hrmc := Lib.hid (fun W (hb : Below wc.heap.size wc W) => hrm.out W (below_call hBc (Nat.le_refl _) hb))
          go_cut [44] from 45 to 71 (fun qv w2 => qv = .bool fl ∧ Below w.heap.size w w2)
          case first =>
            unfold fullB roomL at HFL
            have hok := HH.out.2.1
            have hnx := hok.nx
            have hmy := hok.my
            obtain ⟨r, hr⟩ : ∃ r : Int, r = (d.blocks : Int) - ((g.next - g.base : Nat) : Int) - (g.many : Int) := ⟨_, rfl⟩
            rw [← hr] at HFL hrmc
            clear hr
            have e0 : ∀ x : SW (fun W => Below wc.heap.size wc W), x.W.cell? ⟨X, 2, none⟩ = some (.int .u64 (g.next : Int)) := fun x => (hatc.later x.h).c2
            have e1 : ∀ x : SW (fun W => Below wc.heap.size wc W), x.W.cell? ⟨X, 5, none⟩ = some (.int .i64 (g.many : Int)) := fun x => (hatc.later x.h).c5
            have hne : Nonempty (SW (fun W => Below wc.heap.size wc W)) := ⟨⟨wc, Below.refl _ _⟩⟩
            by_cases hr1 : r < (m : Int)
            · have hfl : fl = true := by rw [HFL.out, decide_eq_true hr1]; rfl
              subst hfl
              have hr1d : decide (r < (m : Int)) = true := decide_eq_true hr1
              refine wp_region_seq2 (fun W => Below wc.heap.size wc W) [(0, true), (1, true), (2, true), (3, true), (4, true), (5, true), (6, true), (7, true), (8, false), (9, true), (10, true), (11, true), (12, true), (13, true), (14, true), (15, true), (16, true), (17, true), (18, true), (19, true), (20, true), (21, true), (22, true), (23, true), (24, true), (25, true), (26, true), (27, true)] (by kernel_rfl) (by kernel_rfl) (fun d _ _ _ _ h => by cases d <;> exact h) ((Below.refl _ wc).drew) ?_
              repeat (first
                | ((with_reducible refine wpSeq_skip (o := ⟨_, _, _, _, _, _⟩) (by with_unfolding_all exact rfl) (by with_unfolding_all exact rfl) ?_); simp only [Act.put, List.setIfInBounds_toArray, List.set_cons_zero, List.set_cons_succ])
                | ((with_reducible refine wpSeq_free (o := ⟨_, _, _, _, _, _⟩) (by with_unfolding_all exact rfl) (by with_unfolding_all exact rfl) (fun K hK => ?_)); go_big_quiet_op; (refine hK _ ?_; clear hK K)))
              with_reducible refine wpSeq_next (o := ⟨_, _, _, _, _, _⟩) (by with_unfolding_all exact rfl) (by with_unfolding_all exact rfl) (fun K hK => ?_)
              go_simp
              go_at_call 103
              refine (hrmc.out _ (Below.refl _ wc).drew).mono ?_
              rintro e w3 ⟨rfl, hB3⟩
              refine hK.out _ _ (below_call (Below.refl _ wc).drew (Nat.le_refl _) hB3) ?_
              clear hK K
              repeat (first
                | ((with_reducible refine wpSeq_skip (o := ⟨_, _, _, _, _, _⟩) (by with_unfolding_all exact rfl) (by with_unfolding_all exact rfl) ?_); simp only [Act.put, List.setIfInBounds_toArray, List.set_cons_zero, List.set_cons_succ])
                | ((with_reducible refine wpSeq_free (o := ⟨_, _, _, _, _, _⟩) (by with_unfolding_all exact rfl) (by with_unfolding_all exact rfl) (fun K hK => ?_)); go_big_quiet_op; (refine hK _ ?_; clear hK K)))
              refine wpSeq_nil ?_
              go_wp2
              go_meet
              exact ⟨rfl, below_call (below_call hBc (Nat.le_refl _) (Below.refl _ wc).drew) (Nat.le_refl _) hB3⟩
            · have hr1d : decide (r < (m : Int)) = false := decide_eq_false hr1
              have hmI : IntKind.i64.wrap ((g.many : Int) + (m : Int)) = (g.many : Int) + (m : Int) := by rw [IntKind.wrap_i64]; omega
              have hmn : IntKind.u64.wrap ((g.many : Int) + (m : Int) - 1) = (g.many : Int) + (m : Int) - 1 := by rw [IntKind.wrap_u64]; omega
              have hfl : fl = decide ((1099511627776 : Int) < (g.next : Int) + ((g.many : Int) + (m : Int) - 1)) := by
                rw [HFL.out, hr1d, Bool.false_or]
                exact decide_eq_decide.2 (by omega)
              have HFL2 := Lib.hid hfl
              clear hfl
              refine wp_region_seq2 (fun W => Below wc.heap.size wc W) [(0, true), (1, true), (2, true), (3, true), (4, true), (5, true), (6, true), (7, true), (8, false), (9, true), (10, true), (11, true), (12, true), (13, true), (14, true), (15, true), (16, true), (17, true), (18, true), (19, true), (20, true), (21, true), (22, true), (23, true), (24, true), (25, true), (26, true), (27, true)] (by kernel_rfl) (by kernel_rfl) (fun d _ _ _ _ h => by cases d <;> exact h) ((Below.refl _ wc).drew) ?_
              repeat (first
                | ((with_reducible refine wpSeq_skip (o := ⟨_, _, _, _, _, _⟩) (by with_unfolding_all exact rfl) (by with_unfolding_all exact rfl) ?_); simp only [Act.put, List.setIfInBounds_toArray, List.set_cons_zero, List.set_cons_succ])
                | ((with_reducible refine wpSeq_free (o := ⟨_, _, _, _, _, _⟩) (by with_unfolding_all exact rfl) (by with_unfolding_all exact rfl) (fun K hK => ?_)); go_big_quiet_op; (refine hK _ ?_; clear hK K)))
              with_reducible refine wpSeq_next (o := ⟨_, _, _, _, _, _⟩) (by with_unfolding_all exact rfl) (by with_unfolding_all exact rfl) (fun K hK => ?_)
              go_simp
              go_at_call 103
              refine (hrmc.out _ (Below.refl _ wc).drew).mono ?_
              rintro e w3 ⟨rfl, hB3⟩
              refine hK.out _ _ (below_call (Below.refl _ wc).drew (Nat.le_refl _) hB3) ?_
              clear hK K
              repeat (first
                | ((with_reducible refine wpSeq_skip (o := ⟨_, _, _, _, _, _⟩) (by with_unfolding_all exact rfl) (by with_unfolding_all exact rfl) ?_); simp only [Act.put, List.setIfInBounds_toArray, List.set_cons_zero, List.set_cons_succ])
                | ((with_reducible refine wpSeq_free (o := ⟨_, _, _, _, _, _⟩) (by with_unfolding_all exact rfl) (by with_unfolding_all exact rfl) (fun K hK => ?_)); go_big_quiet_op; (refine hK _ ?_; clear hK K)))
              refine wpSeq_nil ?_
              go_wp2
              go_meet
              exact ⟨by rw [HFL2.out], below_call (below_call hBc (Nat.le_refl _) (Below.refl _ wc).drew) (Nat.le_refl _) hB3⟩
          case rest =>
            obtain ⟨rfl, hB2⟩ := hcut
            clear hrm hrmc hcon hatc hBc HFL HST hmany hnon c3 c4
            cases fl with
            | true =>
              rw [if_pos rfl] at HE
              have hG : waitG d g k l = g := by unfold waitG; rw [HE.out, if_neg (by decide)]
              have HG := Lib.hid hG
              clear hG
              go_wp2
              go_ret
              exact ⟨by rw [HE.out]; rfl, _, by rw [HG.out]; exact HH.out.1.later hB2, Aside.below _ hB2, fun q e => .inl e, fun F hF h0 => by rw [HG.out]; exact h0.later HH.out.1.o2 hB2⟩
            | false =>
              rw [if_neg Bool.false_ne_true] at HE
              have hG : waitG d g k l = { g with waits := g.waits ++ [⟨k, g.next + g.many, l⟩], many := g.many + m } := by unfold waitG; rw [if_pos HE.out, ← HM.out]
              have HG := Lib.hid hG
              clear hG
              have hok := HH.out.2.1
              have hnx := hok.nx
              have hmy := hok.my
              go_upto_region 13 with fail
              have hat2 := hat.later hB2
              have hst2 := HH.out.1.later hB2
              have hby2 := HH.out.2.2.1.later hB2
              have hno := HH.out.2.2.2
              have hsz := hB2.size
              have hwr : IntKind.u64.wrap ((g.next : Int) + (g.many : Int)) = (g.next : Int) + (g.many : Int) := by rw [IntKind.wrap_u64]; omega
              have hwr2 : IntKind.i64.wrap ((g.many : Int) + (m : Int)) = (g.many : Int) + (m : Int) := by rw [IntKind.wrap_i64]; omega
              obtain ⟨wb, hwb⟩ : ∃ wb, wb = wc.drew := ⟨_, rfl⟩
              have hbb : Below wc.heap.size wc wb := by rw [hwb]; exact (Below.refl _ wc).drew
              have hatb := hat2.later hbb
              have hstb := hst2.later hbb
              have hbyb := hby2.later hbb
              have hclb := Lib.hid (clone_calls a l c wb (by omega) hno hbyb)
              have hBb := below_call hB2 (Nat.le_refl _) hbb
              have e3 : ∀ x : SW (fun W => LogAt W X D g (.slice a1 g.lasts.length q1) (.slice a2 g.waits.length q2)), x.W.cell? ⟨X, 4, none⟩ = some (.slice a2 g.waits.length q2) := fun x => x.h.c4
              have e4 : ∀ x : SW (fun W => LogAt W X D g (.slice a1 g.lasts.length q1) (.slice a2 g.waits.length q2)), x.W.cell? ⟨X, 2, none⟩ = some (.int .u64 (g.next : Int)) := fun x => x.h.c2
              have e5 : ∀ x : SW (fun W => LogAt W X D g (.slice a1 g.lasts.length q1) (.slice a2 g.waits.length q2)), x.W.cell? ⟨X, 5, none⟩ = some (.int .i64 (g.many : Int)) := fun x => x.h.c5
              have hne : Nonempty (SW (fun W => LogAt W X D g (.slice a1 g.lasts.length q1) (.slice a2 g.waits.length q2))) := ⟨⟨wb, hatb⟩⟩
              refine wp_region_seqL (fun W => LogAt W X D g (.slice a1 g.lasts.length q1) (.slice a2 g.waits.length q2)) 24 [(0, true), (1, true), (2, true), (3, true), (4, true), (5, true), (6, true), (7, true), (8, true), (9, true), (10, true), (11, true), (12, true), (13, true), (14, true), (15, true), (16, true), (17, true), (18, false), (19, true), (20, false), (21, false), (22, true), (23, true), (24, false)] (by kernel_rfl) (by kernel_rfl) (fun d _ _ _ _ h => by cases d <;> exact h) ((by rw [← hwb]; exact hatb)) ?_
              repeat (first
                | ((with_reducible refine wpSeqL_skip (o := ⟨_, _, _, _, _, _⟩) (by with_unfolding_all exact rfl) (by with_unfolding_all exact rfl) ?_); simp only [Act.put, List.setIfInBounds_toArray, List.set_cons_zero, List.set_cons_succ])
                | ((with_reducible refine wpSeqL_free (o := ⟨_, _, _, _, _, _⟩) (by with_unfolding_all exact rfl) (by with_unfolding_all exact rfl) (fun K hK => ?_)); go_big_quiet_op; (refine hK _ ?_; clear hK K)))
              with_reducible refine wpSeqL_next (o := ⟨_, _, _, _, _, _⟩) (by with_unfolding_all exact rfl) (by with_unfolding_all exact rfl) (fun K hK => ?_)
              go_simp
              rw [← hwb]
              go_at_call 89
              refine hclb.out.mono ?_
              rintro e w3 ⟨v3, rfl, hO3, hB3⟩
              obtain ⟨a3, c3, rfl, _⟩ := hO3.slice
              refine hK.out _ _ (fun _ => hatb.later hB3) ?_
              clear hK K
              repeat (first
                | ((with_reducible refine wpSeqL_skip (o := ⟨_, _, _, _, _, _⟩) (by with_unfolding_all exact rfl) (by with_unfolding_all exact rfl) ?_); simp only [Act.put, List.setIfInBounds_toArray, List.set_cons_zero, List.set_cons_succ])
                | ((with_reducible refine wpSeqL_free (o := ⟨_, _, _, _, _, _⟩) (by with_unfolding_all exact rfl) (by with_unfolding_all exact rfl) (fun K hK => ?_)); go_big_quiet_op; (refine hK _ ?_; clear hK K)))
              with_reducible refine wpSeqL_next (o := ⟨_, _, _, _, _, _⟩) (by with_unfolding_all exact rfl) (by with_unfolding_all exact rfl) (fun K hK => ?_)
              go_simp
              refine hK.out _ _ (fun _ => (hatb.later hB3).later ((Below.refl _ w3).alloc (Nat.le_refl _) _)) ?_
              clear hK K
              repeat (first
                | ((with_reducible refine wpSeqL_skip (o := ⟨_, _, _, _, _, _⟩) (by with_unfolding_all exact rfl) (by with_unfolding_all exact rfl) ?_); simp only [Act.put, List.setIfInBounds_toArray, List.set_cons_zero, List.set_cons_succ])
                | ((with_reducible refine wpSeqL_free (o := ⟨_, _, _, _, _, _⟩) (by with_unfolding_all exact rfl) (by with_unfolding_all exact rfl) (fun K hK => ?_)); go_big_quiet_op; (refine hK _ ?_; clear hK K)))
              with_reducible refine wpSeqL_next (o := ⟨_, _, _, _, _, _⟩) (by with_unfolding_all exact rfl) (by with_unfolding_all exact rfl) (fun K hK => ?_)
              obtain ⟨w4, hw4⟩ : ∃ w4, w4 = w3.alloc (.cells #[.int .u8 (k.toNat : Int), .int .u64 ((g.next : Int) + (g.many : Int)), .slice a3 l.length c3] 91) := ⟨_, rfl⟩
              have hb34 : Below w3.heap.size w3 w4 := by rw [hw4]; exact (Below.refl _ w3).alloc (Nat.le_refl _) _
              have hb4 := below_call hB3 (Nat.le_refl _) hb34
              have hst4 := hstb.later hb4
              have hO4 := (hO3.later hb34).mono (show B ≤ wb.heap.size by have := hBb.size; omega)
              obtain ⟨r, hr1, hr2, hr3⟩ := hst4.o2
              have hrl : r.length = g.waits.length := by rw [← hr1, List.length_map]
              have hsz4 : B ≤ w4.heap.size := by have := hBb.size; have := hb4.size; omega
              have hcn : ∀ ad, some (⟨w3.heap.size, 0, none⟩ : Addr) = some ad → ∀ j u, (rcellsOf [((⟨k, g.next + g.many, l⟩ : Rc), a3, c3)])[j]? = some u → w4.cell? (ad.add j) = some u := fun ad e j u hu => by
                cases e
                have := cell_recT w3 ⟨k, g.next + g.many, l⟩ a3 c3 j u (by simpa [rcellsOf] using hu)
                rw [Addr.add_lit, Nat.zero_add, hw4]
                simpa using this
              rw [← hw4]
              refine wp_append_recs (.tmp 76) (.tmp 92) rfl B (.slice a2 g.waits.length q2) r rfl (by rw [hrl]; exact hr2) (some ⟨w3.heap.size, 0, none⟩) 1 1 [((⟨k, g.next + g.many, l⟩ : Rc), a3, c3)] rfl rfl (fun e => nomatch e) hcn (by simp; omega) hsz4 ?_
              intro v5 w5 hrow5 hg5 hwh5
              obtain ⟨a5, n5, q5, rfl⟩ : ∃ a n c, v5 = .slice a n c := by
                rcases hrow5.2 with ⟨rfl, _⟩ | ⟨gg, cap, cur, rfl, _⟩
                · exact ⟨_, _, _, rfl⟩
                · exact ⟨_, _, _, rfl⟩
              simp only [Act.put, List.setIfInBounds_toArray, List.set_cons_zero, List.set_cons_succ]
              have hkind := hst4.o2.kind
              have hat5 := hst4.at_.kept hg5 (fun e => hst4.o2.off hst4.at_ (by decide) e.symm)
              have c45 := hat5.c4
              have f45 := hat5.free 4
              refine hK.out _ _ (fun _ => hat5) ?_
              clear hK K
              repeat (first
                | ((with_reducible refine wpSeqL_skip (o := ⟨_, _, _, _, _, _⟩) (by with_unfolding_all exact rfl) (by with_unfolding_all exact rfl) ?_); simp only [Act.put, List.setIfInBounds_toArray, List.set_cons_zero, List.set_cons_succ])
                | ((with_reducible refine wpSeqL_free (o := ⟨_, _, _, _, _, _⟩) (by with_unfolding_all exact rfl) (by with_unfolding_all exact rfl) (fun K hK => ?_)); go_big_quiet_op; (refine hK _ ?_; clear hK K)))
              with_reducible refine wpSeqL_next (o := ⟨_, _, _, _, _, _⟩) (by with_unfolding_all exact rfl) (by with_unfolding_all exact rfl) (fun K hK => ?_)
              go_simp
              refine hK.out _ _ (fun h => absurd rfl h) ?_
              clear hK K
              repeat (first
                | ((with_reducible refine wpSeqL_skip (o := ⟨_, _, _, _, _, _⟩) (by with_unfolding_all exact rfl) (by with_unfolding_all exact rfl) ?_); simp only [Act.put, List.setIfInBounds_toArray, List.set_cons_zero, List.set_cons_succ])
                | ((with_reducible refine wpSeqL_free (o := ⟨_, _, _, _, _, _⟩) (by with_unfolding_all exact rfl) (by with_unfolding_all exact rfl) (fun K hK => ?_)); go_big_quiet_op; (refine hK _ ?_; clear hK K)))
              refine wpSeqL_nil ?_
              have h6 := hat5.stored (g' := { g with waits := g.waits ++ [⟨k, g.next + g.many, l⟩] }) (u1 := .slice a1 g.lasts.length q1) (u2 := (.slice a5 n5 q5)) 4 (.slice a5 n5 q5) rfl
              have hO1 := (hst4.o1.grown91 hg5 (by
                cases e : (Value.slice a1 g.lasts.length q1).ownBlock with
                | none => exact .inl rfl
                | some q => right; intro e2; exact hst4.ap q e e2.symm) hkind).other hat5 (by decide) (by decide) 4 (.slice a5 n5 q5)
              have hO2 : OwnRs (w5.setCell ⟨X, 4, none⟩ (.slice a5 n5 q5)) B (.slice a5 n5 q5) (g.waits ++ [⟨k, g.next + g.many, l⟩]) := by
                have h0 : OwnRs w5 B (.slice a5 n5 q5) (g.waits ++ [⟨k, g.next + g.many, l⟩]) := by
                  refine ⟨r ++ [((⟨k, g.next + g.many, l⟩ : Rc), a3, c3)], by rw [List.map_append, hr1]; rfl, by rw [List.length_append, ← hrl]; rw [List.length_append] at hrow5; exact hrow5, fun p hp => ?_⟩
                  have hk : ∀ {v : Value} {l2 : List UInt8}, OwnB w4 B v l2 → OwnB w5 B v l2 := fun {v l2} hp => by
                    refine World.ownsRow.kept hp hg5 ?_
                    cases e : v.ownBlock with
                    | none => exact .inl rfl
                    | some q =>
                      right
                      intro e2
                      obtain ⟨d1, f1, z1⟩ := Lib.ownsRow_kind hp q e
                      obtain ⟨d2, f2, z2⟩ := hkind q e2.symm
                      rw [z1] at z2
                      simp at z2
                  rcases List.mem_append.1 hp with hp | hp
                  · exact hk (hr3 p hp)
                  · rw [List.mem_singleton] at hp
                    subst hp
                    exact hk hO4
                exact h0.other hat5 (by decide) (by decide) 4 (.slice a5 n5 q5)
              have hap : ∀ q, (Value.slice a1 g.lasts.length q1).ownBlock = some q → (Value.slice a5 n5 q5).ownBlock ≠ some q := fun q e e2 => by
                rcases hwh5 with h1 | h1
                · exact hst4.ap q e (by rw [← h1]; exact e2)
                · have := h1 q e2
                  have := (hst4.o1.blk q e).2
                  omega
              have hA : Aside (X :: (Value.slice a2 g.waits.length q2).ownBlock.toList) w (w5.setCell ⟨X, 4, none⟩ (.slice a5 n5 q5)) := by
                have hA4 : Aside (X :: (Value.slice a2 g.waits.length q2).ownBlock.toList) w w4 := Aside.below _ (below_call hBb (Nat.le_refl _) hb4)
                exact (hA4.put hg5 (fun q e => .inr (by rw [e]; simp))).setCell ⟨X, 4, none⟩ (.slice a5 n5 q5) (fun _ => by simp)
              have hwh : ∀ q, (Value.slice a5 n5 q5).ownBlock = some q → (Value.slice a2 g.waits.length q2).ownBlock = some q ∨ w.heap.size ≤ q := fun q e => by
                rcases hwh5 with h1 | h1
                · exact .inl (by rw [← h1]; exact e)
                · right; have := h1 q e; have := hBb.size; have := hb4.size; omega
              have HWH := Lib.hid hwh
              have hoff : ∀ F : Nat → Prop, (∀ q, F q → q < w.heap.size) → RsOff F w (.slice a2 g.waits.length q2) g.waits → ∀ p ∈ r ++ [((⟨k, g.next + g.many, l⟩ : Rc), a3, c3)], ∀ q, (Value.slice p.2.1 p.1.body.length p.2.2).ownBlock = some q → ¬ F q := fun F hF h0 p hp q hq => by
                have h1 := (h0.later HH.out.1.o2 (below_call hBb (Nat.le_refl _) hb4)) r hr1 ⟨B, by rw [hrl]; exact hr2⟩
                rcases List.mem_append.1 hp with hp | hp
                · exact h1 p hp q hq
                · rw [List.mem_singleton] at hp
                  subst hp
                  intro hf
                  have h2 := (World.ownsRow.lt hO3 q hq).1
                  have := hF q hf
                  have := hBb.size
                  omega
              have hoffR : ∀ F : Nat → Prop, (∀ q, F q → q < w.heap.size) → RsOff F w (.slice a2 g.waits.length q2) g.waits → ∀ W, (∃ B', W.ownsRow B' 91 3 (.slice a5 n5 q5) (r ++ [((⟨k, g.next + g.many, l⟩ : Rc), a3, c3)]).length (rcellsOf (r ++ [((⟨k, g.next + g.many, l⟩ : Rc), a3, c3)]))) → RsOff F W (.slice a5 n5 q5) (g.waits ++ [⟨k, g.next + g.many, l⟩]) := fun F hF h0 W ⟨B', hW⟩ => RsOff.of _ (by rw [List.map_append, hr1]; rfl) hW (hoff F hF h0)
              have hrowX : (w5.setCell ⟨X, 4, none⟩ (.slice a5 n5 q5)).ownsRow B 91 3 (.slice a5 n5 q5) (r ++ [((⟨k, g.next + g.many, l⟩ : Rc), a3, c3)]).length (rcellsOf (r ++ [((⟨k, g.next + g.many, l⟩ : Rc), a3, c3)])) := by
                refine ownsRow_setCell_other hrow5 (fun e2 => ?_) _
                obtain ⟨d1, f1, z1⟩ := Lib.ownsRow_kind hrow5 _ e2
                have h2 : w5.heap[X]? = _ := hat5
                rw [h2] at z1
                simp at z1
              have HOF := Lib.hid hoffR
              clear hoff hoffR
              refine over_world (R := fun W => LogAt W X D { g with waits := g.waits ++ [⟨k, g.next + g.many, l⟩] } (.slice a1 g.lasts.length q1) (.slice a5 n5 q5) ∧ OwnRs W B (.slice a1 g.lasts.length q1) g.lasts ∧ OwnRs W B (.slice a5 n5 q5) (g.waits ++ [⟨k, g.next + g.many, l⟩]) ∧ Aside (X :: (Value.slice a2 g.waits.length q2).ownBlock.toList) w W ∧ W.ownsRow B 91 3 (.slice a5 n5 q5) (r ++ [((⟨k, g.next + g.many, l⟩ : Rc), a3, c3)]).length (rcellsOf (r ++ [((⟨k, g.next + g.many, l⟩ : Rc), a3, c3)]))) ⟨h6, hO1, hO2, hA, hrowX⟩ ?_
              have HAP := Lib.hid hap
              clear h6 hO1 hO2 hA hrowX hwh hap hat5 c45 f45 hrow5 hg5 hwh5 hkind hr1 hr2 hr3 hst4 hO4 hcn hb4 hb34 hw4 hO3 hB3 hclb hBb hbyb hstb hatb hwb hbb hst2 hat2 hby2 hB2 e3 e4 e5 hne c6 hat
              rintro w6 ⟨h6, hO1, hO2, hA, hrowX⟩
              have c5 : w6.cell? ⟨X, 5, none⟩ = some (.int .i64 (g.many : Int)) := h6.c5
              have f5 := h6.free 5
              have h7 := h6.stored (g' := { g with waits := g.waits ++ [⟨k, g.next + g.many, l⟩], many := g.many + m }) (u1 := .slice a1 g.lasts.length q1) (u2 := (.slice a5 n5 q5)) 5 (.int .i64 ((g.many + m : Nat) : Int)) rfl
              have hO1' := hO1.other h6 (by decide) (by decide) 5 (.int .i64 ((g.many + m : Nat) : Int))
              have hO2' := hO2.other h6 (by decide) (by decide) 5 (.int .i64 ((g.many + m : Nat) : Int))
              have hA' := hA.setCell ⟨X, 5, none⟩ (.int .i64 ((g.many + m : Nat) : Int)) (fun _ => by simp)
              have hrowY : (w6.setCell ⟨X, 5, none⟩ (.int .i64 ((g.many + m : Nat) : Int))).ownsRow B 91 3 (.slice a5 n5 q5) (r ++ [((⟨k, g.next + g.many, l⟩ : Rc), a3, c3)]).length (rcellsOf (r ++ [((⟨k, g.next + g.many, l⟩ : Rc), a3, c3)])) := by
                refine ownsRow_setCell_other hrowX (fun e2 => ?_) _
                obtain ⟨d1, f1, z1⟩ := Lib.ownsRow_kind hrowX _ e2
                have h2 : w6.heap[X]? = _ := h6
                rw [h2] at z1
                simp at z1
              have hcast : ((g.many + m : Nat) : Int) = (g.many : Int) + (m : Int) := by omega
              rw [hcast] at h7 hO1' hO2' hA' hrowY
              have H7 := Lib.hid (And.intro h7 (And.intro hO1' (And.intro hO2' (And.intro hA' hrowY))))
              clear h7 hO1' hO2' hA' hcast hO1 hO2 hA h6 hrowX hrowY
              go_wp2
              go_ret
              exact ⟨by rw [HE.out]; rfl, (.slice a5 n5 q5), by rw [HG.out]; exact ⟨H7.out.1, H7.out.2.1, H7.out.2.2.1, HAP.out, HH.out.1.lo⟩, H7.out.2.2.2.1, HWH.out, fun F hF h0 => by rw [HG.out]; exact HOF.out F hF h0 _ ⟨B, H7.out.2.2.2.2⟩⟩
end Go.Proofs.Ytdlbjllgdikadaa
