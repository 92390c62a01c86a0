/- log: the document's log, the plain law. -/
import Derived.Test.YtdlbjllgdikadaaLogJ
import Derived.Test.YtdlbjllgdikadaaLogI
import Derived.Test.YtdlbjllgdikadaaScnD
import Derived.Test.YtdlbjllgdikadaaTornP
namespace Go.Proofs.Ytdlbjllgdikadaa
open Go.RowKit
set_option linter.unusedVariables false
set_option linter.unusedSimpArgs false

/-- The document's log, without its device. -/
structure RLg where
  L : List Rc
  W : List Rc
  next : Nat
  off : Bool
def sumM (l : List Rc) : Nat := l.foldr (fun x n => manyN x.body.length + n) 0
theorem sumM_nil : sumM [] = 0 := rfl
theorem sumM_cons (x : Rc) (l : List Rc) : sumM (x :: l) = manyN x.body.length + sumM l := rfl
theorem sumM_append (l m : List Rc) : sumM (l ++ m) = sumM l + sumM m := by
  induction l with
  | nil => rw [List.nil_append, sumM_nil]; omega
  | cons x l ih => rw [List.cons_append, sumM_cons, sumM_cons, ih]; omega
theorem sumM_take (l : List Rc) (i : Nat) (hi : i < l.length) : sumM (l.take (i + 1)) = sumM (l.take i) + manyN l[i].body.length := by
  rw [List.take_add_one, List.getElem?_eq_getElem hi, sumM_append]
  rfl
theorem len_sumM (l : List Rc) : l.length ≤ sumM l := by
  induction l with
  | nil => exact Nat.le_refl _
  | cons x l ih => rw [sumM_cons, List.length_cons]; have := manyN_pos x.body.length; omega
theorem sumM_take_le (l : List Rc) (i : Nat) : sumM (l.take i) ≤ sumM l := by
  have h : sumM l = sumM (l.take i) + sumM (l.drop i) := by rw [← sumM_append, List.take_append_drop]
  omega
theorem catB_sum (l : List Rc) : (catB l).length = sumM l := by
  induction l with
  | nil => rfl
  | cons x l ih =>
    show (blksOf x ++ catB l).length = _
    rw [List.length_append, ih, sumM_cons]
    unfold blksOf
    rw [blkTo_length]
def headR (r : RLg) : Nat := r.next + sumM r.W
def rbase (r : RLg) : Nat := baseOf r.next (fromLast r.L)
def roomR (n : Nat) (r : RLg) : Int := if r.off then 0 else (n : Int) - ((headR r - rbase r : Nat) : Int)
def stateR (r : RLg) (k : UInt8) : Bool := (k == 1) && !(r.L.any isCk) && !(r.W.any isCk)
def fullR (n : Nat) (r : RLg) (m : Nat) : Bool := decide (roomR n r < (m : Int)) || decide (1099511627777 < headR r + m)
def waitRE (n : Nat) (r : RLg) (k : UInt8) (b : List UInt8) : Nat := if r.off then 11 else if stateR r k then 16 else if 524288 < b.length then 3 else if fullR n r (manyN b.length) then 10 else 0
def waitRG (n : Nat) (r : RLg) (k : UInt8) (b : List UInt8) : RLg := if waitRE n r k b = 0 then { r with W := r.W ++ [⟨k, headR r, b⟩] } else r
def syncR (q : Bool) (r : RLg) : RLg := if q then { r with off := true } else ⟨r.L ++ r.W, [], headR r, false⟩

theorem lastsOf_ck (l : List Rc) : lastsOf l = [] ∨ (lastsOf l).any isCk = true := by
  induction l with
  | nil => exact .inl rfl
  | cons x l ih =>
    simp only [lastsOf]
    split
    · exact ih
    · split
      · rename_i h; exact .inr (by rw [List.any_cons]; show (x.kind == 2 || _) = true; rw [h]; rfl)
      · exact .inl rfl
theorem lastsOf_any (l : List Rc) (h : l.any isCk = true) : (lastsOf l).any isCk = true := by
  induction l with
  | nil => cases h
  | cons x l ih =>
    simp only [lastsOf]
    split
    · rename_i h2; exact ih h2
    · rename_i h2
      split
      · rename_i h3; rw [List.any_cons]; show (x.kind == 2 || _) = true; rw [h3]; rfl
      · rename_i h3
        rw [List.any_cons] at h
        have h4 : (x.kind == 2 || l.any isCk) = true := h
        rw [Bool.or_eq_true] at h4
        rcases h4 with h4 | h4
        · exact absurd h4 h3
        · exact absurd h4 h2
theorem lastsOf_cons (x : Rc) (l : List Rc) : lastsOf (x :: l) = if l.any isCk then lastsOf l else if x.kind == 2 then x :: l else [] := rfl
theorem lastsOf_app_any (l m : List Rc) (h : m.any isCk = true) : lastsOf (l ++ m) = lastsOf m := by
  induction l with
  | nil => rfl
  | cons x l ih =>
    rw [List.cons_append]
    simp only [lastsOf]
    rw [if_pos (by show (l ++ m).any isCk = true; rw [List.any_append, h, Bool.or_true])]
    exact ih
theorem lastsOf_app_none (l m : List Rc) (h : m.any isCk = false) (hl : l.any isCk = true) : lastsOf (l ++ m) = lastsOf l ++ m := by
  induction l with
  | nil => cases hl
  | cons x l ih =>
    rw [List.cons_append, lastsOf_cons, lastsOf_cons, List.any_append, h, Bool.or_false]
    cases hc : l.any isCk with
    | true =>
      rw [if_pos rfl, if_pos rfl]
      exact ih hc
    | false =>
      have hx : (x.kind == 2) = true := by
        rw [List.any_cons, hc, Bool.or_false] at hl; exact hl
      rw [if_neg Bool.false_ne_true, if_neg Bool.false_ne_true, hx, if_pos rfl, if_pos rfl]
      rfl
theorem lastsOf_twice (l : List Rc) : lastsOf (lastsOf l) = lastsOf l := by
  induction l with
  | nil => rfl
  | cons x l ih =>
    have e : lastsOf (x :: l) = if l.any isCk then lastsOf l else if x.kind == 2 then x :: l else [] := rfl
    rw [e]
    cases hc : l.any isCk with
    | true => simp only [if_true]; exact ih
    | false =>
      simp only [Bool.false_eq_true, if_false]
      cases hx : (x.kind == 2) with
      | true =>
        simp only [if_true]
        rw [e, hc, hx]; rfl
      | false => rfl
theorem fromLast_nil : fromLast [] = [] := rfl
theorem fromLast_no {l : List Rc} (h : l.any isCk = false) : fromLast l = l := by unfold fromLast; rw [h]; rfl
theorem fromLast_yes {l : List Rc} (h : l.any isCk = true) : fromLast l = lastsOf l := by unfold fromLast; rw [h]; rfl
theorem fromLast_lasts (l : List Rc) : fromLast (lastsOf l) = lastsOf l := by
  unfold fromLast
  rw [lastsOf_twice, ite_self]
theorem fromLast_app (l m : List Rc) : fromLast (fromLast l ++ m) = fromLast (l ++ m) := by
  cases hm : m.any isCk with
  | true =>
    rw [fromLast_yes (l := fromLast l ++ m) (by rw [List.any_append, hm, Bool.or_true]), fromLast_yes (l := l ++ m) (by rw [List.any_append, hm, Bool.or_true]), lastsOf_app_any _ _ hm, lastsOf_app_any _ _ hm]
  | false =>
    cases hl : l.any isCk with
    | false => rw [fromLast_no hl]
    | true =>
      have h1 := lastsOf_any l hl
      rw [fromLast_yes hl, fromLast_yes (l := lastsOf l ++ m) (by rw [List.any_append, h1, Bool.true_or]), fromLast_yes (l := l ++ m) (by rw [List.any_append, hl, Bool.true_or]), lastsOf_app_none _ _ hm h1, lastsOf_app_none _ _ hm hl, lastsOf_twice]
theorem lastsOf_mem (l : List Rc) : ∀ x ∈ lastsOf l, x ∈ l := by
  induction l with
  | nil => exact fun x h => h
  | cons y l ih =>
    intro x h
    simp only [lastsOf] at h
    split at h
    · exact List.mem_cons_of_mem _ (ih x h)
    · split at h
      · exact h
      · cases h
theorem fromLast_len (l : List Rc) : (fromLast l).length ≤ l.length := by
  unfold fromLast
  split
  · exact lastsOf_len l
  · exact Nat.le_refl _
theorem baseOf_le (n : Nat) (l : List Rc) (h : ∀ x ∈ l, x.from_ ≤ n) : baseOf n l ≤ n := by
  cases l with
  | nil => show n / 8 * 8 ≤ n; omega
  | cons x l => have := h x (.head _); show x.from_ / 8 * 8 ≤ n; omega

/-- The log and the document's. -/
structure LRel (n j : Nat) (g : Lg) (r : RLg) : Prop where
  waits : g.waits = r.W
  next : g.next = r.next
  down : g.down = r.off
  lasts : g.lasts = fromLast r.L
  many : g.many = sumM r.W
  base : g.base = rbase r
  ck : r.L = [] ∨ r.L.any isCk = true
  cw : r.L = [] → r.W = [] ∨ r.W.any isCk = true
  mn : sumM r.W ≤ n
  hd : r.next + sumM r.W ≤ 1099511627777
  lf : ∀ x ∈ r.L, x.body.length ≤ 524288 ∧ x.from_ ≤ 1099511627776 ∧ x.from_ ≤ r.next
  wf : ∀ x ∈ r.W, x.body.length ≤ 524288 ∧ x.from_ ≤ 1099511627776 ∧ x.from_ ≤ r.next + sumM r.W ∧ mayS x.kind x.from_ x.body = true
  ln : r.L.length ≤ n * (j + 1)

theorem LRel.more {n j j' : Nat} {g : Lg} {r : RLg} (h : LRel n j g r) (hj : j ≤ j') : LRel n j' g r :=
  { h with ln := Nat.le_trans h.ln (Nat.mul_le_mul_left n (by omega)) }
theorem LRel.base_le {n j : Nat} {g : Lg} {r : RLg} (h : LRel n j g r) : rbase r ≤ r.next :=
  baseOf_le _ _ fun x hx => (h.lf x (fromLast_sub _ x hx)).2.2
theorem LRel.ok {n j : Nat} {g : Lg} {r : RLg} (h : LRel n j g r) (hn : n ≤ 40) (hj : j ≤ 1000) : LgOk g := by
  have h1 := h.hd
  have h2 := h.base_le
  have h3 := len_sumM r.W
  have h4 := h.mn
  have h5 := fromLast_len r.L
  have h6 : r.L.length ≤ 40 * 1001 := Nat.le_trans h.ln (Nat.mul_le_mul hn (by omega))
  refine ⟨by rw [h.base, h.next]; exact h2, by rw [h.next]; omega, by rw [h.many]; omega, by rw [h.lasts]; omega, by rw [h.waits]; omega, fun x hx => ?_, fun x hx => ?_⟩
  · rw [h.lasts] at hx
    have := h.lf x (fromLast_sub _ x hx)
    exact ⟨this.1, this.2.1⟩
  · rw [h.waits] at hx
    have := h.wf x hx
    exact ⟨this.1, this.2.1⟩
theorem LRel.roomL {n j : Nat} {g : Lg} {r : RLg} (h : LRel n j g r) (d : Dev) (hd : d.blocks = n) (ho : r.off = false) : Go.Proofs.Ytdlbjllgdikadaa.roomL d g = roomR n r := by
  have h2 := h.base_le
  unfold Go.Proofs.Ytdlbjllgdikadaa.roomL roomR headR
  rw [hd, h.next, h.base, h.many, ho, if_neg Bool.false_ne_true]
  omega
theorem LRel.room {n j : Nat} {g : Lg} {r : RLg} (h : LRel n j g r) (d : Dev) (hd : d.blocks = n) : roomI d g = roomR n r := by
  cases ho : r.off with
  | true => unfold roomI roomR; rw [h.down, ho, if_pos rfl, if_pos rfl]
  | false =>
    rw [← h.roomL d hd ho]
    unfold roomI
    rw [h.down, ho, if_neg Bool.false_ne_true]
    rfl
theorem LRel.state {n j : Nat} {g : Lg} {r : RLg} (h : LRel n j g r) (k : UInt8) : stateB g k = stateR r k := by
  unfold stateB stateR
  rw [h.waits, h.lasts]
  have : (fromLast r.L).isEmpty = !(r.L.any isCk) := by
    rcases h.ck with e | e
    · rw [e]; rfl
    · rw [e, fromLast_yes e]
      have := lastsOf_any _ e
      cases hl : lastsOf r.L with
      | nil => rw [hl] at this; cases this
      | cons a l => rfl
  rw [this]
set_option maxRecDepth 100000 in
theorem LRel.wait {n j : Nat} {g : Lg} {r : RLg} (h : LRel n j g r) (d : Dev) (hd : d.blocks = n) (k : UInt8) (hk : k = 1 ∨ k = 2) (b : List UInt8) : waitE d g k b = waitRE n r k b ∧ LRel n j (waitG d g k b) (waitRG n r k b) := by
  have hm := manyN_pos b.length
  have hE : waitE d g k b = waitRE n r k b := by
    unfold waitE waitRE
    rw [h.down, h.state]
    cases ho : r.off with
    | true => rw [if_pos rfl, if_pos rfl]
    | false =>
      have hf : fullB d g (manyN b.length) = fullR n r (manyN b.length) := by
        unfold fullB fullR
        rw [h.roomL d hd ho, h.next, h.many]
        congr 1
        unfold headR
        exact decide_eq_decide.2 (by omega)
      rw [hf]
  refine ⟨hE, ?_⟩
  unfold waitG waitRG
  rw [hE]
  by_cases h0 : waitRE n r k b = 0
  · rw [if_pos h0, if_pos h0]
    unfold waitRE at h0
    cases ho : r.off with
    | true => rw [ho, if_pos rfl] at h0; cases h0
    | false =>
      rw [ho, if_neg Bool.false_ne_true] at h0
      cases hs : stateR r k with
      | true => rw [hs, if_pos rfl] at h0; cases h0
      | false =>
        rw [hs, if_neg Bool.false_ne_true] at h0
        by_cases hl : 524288 < b.length
        · rw [if_pos hl] at h0; cases h0
        rw [if_neg hl] at h0
        cases hf : fullR n r (manyN b.length) with
        | true => rw [hf, if_pos rfl] at h0; cases h0
        | false =>
          unfold fullR at hf
          rw [Bool.or_eq_false_iff] at hf
          have f1 := of_decide_eq_false hf.1
          have f2 := of_decide_eq_false hf.2
          have hb := h.base_le
          unfold roomR headR at f1
          rw [ho, if_neg Bool.false_ne_true] at f1
          unfold headR at f2
          have hsm : sumM (r.W ++ [(⟨k, headR r, b⟩ : Rc)]) = sumM r.W + manyN b.length := by rw [sumM_append]; rfl
          refine ⟨?_, h.next, h.down.trans ho, h.lasts, ?_, h.base, h.ck, fun e => .inr ?_, ?_, ?_, h.lf, ?_, h.ln⟩
          · show g.waits ++ [_] = r.W ++ [_]
            rw [h.waits, h.next, h.many]; rfl
          · show g.many + _ = sumM (r.W ++ [_])
            rw [hsm, h.many]
          · show (r.W ++ [(⟨k, headR r, b⟩ : Rc)]).any isCk = true
            rw [List.any_append]
            rcases hk with rfl | rfl
            · unfold stateR at hs
              rw [show r.L = [] from e] at hs
              have h9 : r.W.any isCk = true := by
                cases hw : r.W.any isCk with
                | true => rfl
                | false => rw [hw] at hs; cases hs
              rw [h9]; rfl
            · show (_ || true) = true
              rw [Bool.or_true]
          · show sumM (r.W ++ [_]) ≤ n
            rw [hsm]; omega
          · show r.next + sumM (r.W ++ [_]) ≤ _
            rw [hsm]; omega
          · intro x hx
            show _ ∧ _ ∧ x.from_ ≤ r.next + sumM (r.W ++ [_]) ∧ _
            rw [hsm]
            rcases List.mem_append.1 hx with hx | hx
            · have := h.wf x hx
              exact ⟨this.1, this.2.1, by omega, this.2.2.2⟩
            · rw [List.mem_singleton] at hx
              subst hx
              refine ⟨by show b.length ≤ _; omega, by show r.next + sumM r.W ≤ _; omega, by show r.next + sumM r.W ≤ _; omega, ?_⟩
              show mayS k (headR r) b = true
              unfold mayS headR
              rw [decide_eq_true (show r.next + sumM r.W ≤ 1099511627776 by omega), decide_eq_true (show r.next + sumM r.W + (manyN b.length - 1) ≤ 1099511627776 by omega)]
              rcases hk with rfl | rfl <;> rfl
  · rw [if_neg h0, if_neg h0]
    exact h
theorem LRel.sync {n j : Nat} {g : Lg} {r : RLg} (h : LRel n j g r) (q : Bool) : LRel n (j + 1) (syncG q g) (syncR q r) := by
  cases q with
  | true => exact { h.more (by omega) with down := rfl }
  | false =>
    have hf : fromLast (g.lasts ++ g.waits) = fromLast (r.L ++ r.W) := by rw [h.lasts, h.waits, fromLast_app]
    have h3 := len_sumM r.W
    have h4 := h.mn
    have h5 := h.ln
    refine ⟨rfl, ?_, rfl, hf, rfl, ?_, ?_, fun e => .inl rfl, Nat.zero_le _, ?_, ?_, (fun x hx => nomatch hx), ?_⟩
    · show g.next + g.many = headR r
      rw [h.next, h.many]; rfl
    · show baseOf (g.next + g.many) (fromLast (g.lasts ++ g.waits)) = baseOf (headR r) (fromLast (r.L ++ r.W))
      rw [hf, h.next, h.many]; rfl
    · show r.L ++ r.W = [] ∨ (r.L ++ r.W).any isCk = true
      rw [List.any_append]
      rcases h.ck with e | e
      · rcases h.cw e with k | k
        · left; rw [e, k]; rfl
        · right; rw [k, Bool.or_true]
      · right; rw [e, Bool.true_or]
    · have := h.hd
      show headR r + 0 ≤ _
      exact this
    · intro x hx
      rcases List.mem_append.1 hx with hx | hx
      · have := h.lf x hx
        exact ⟨this.1, this.2.1, Nat.le_trans this.2.2 (Nat.le_add_right _ _)⟩
      · have := h.wf x hx
        exact ⟨this.1, this.2.1, this.2.2.1⟩
    · show (r.L ++ r.W).length ≤ n * (j + 1 + 1)
      rw [List.length_append, Nat.mul_succ n (j + 1)]
      omega

theorem pairwise_filter (n : Nat) : ∀ l : List Nat, l.Pairwise (· ≠ ·) → l.length ≤ (l.filter (fun x => x != n)).length + 1
  | [], _ => Nat.zero_le _
  | x :: l, h => by
    rw [List.pairwise_cons] at h
    by_cases hx : x = n
    · subst hx
      have hf : l.filter (fun y => y != x) = l := List.filter_eq_self.2 fun y hy => by
        have := h.1 y hy
        simpa using fun e : y = x => this e.symm
      rw [List.filter_cons_of_neg (by simp), hf, List.length_cons]
      exact Nat.le_refl _
    · rw [List.filter_cons_of_pos (by simpa using hx), List.length_cons, List.length_cons]
      have := pairwise_filter n l h.2
      omega
theorem pigeon : ∀ (n : Nat) (l : List Nat), l.Pairwise (· ≠ ·) → (∀ x ∈ l, x < n) → l.length ≤ n
  | 0, l, _, h => by
    cases l with
    | nil => exact Nat.le_refl _
    | cons x l => exact absurd (h x (.head _)) (by omega)
  | n + 1, l, hp, h => by
    have h1 := pairwise_filter n l hp
    have h2 := pigeon n (l.filter (fun x => x != n)) (hp.filter _) fun x hx => by
      rw [List.mem_filter] at hx
      have h3 := h x hx.1
      have h4 : x ≠ n := by simpa using hx.2
      omega
    omega
theorem devRun_short (d : Dev) (h1 : 1 ≤ d.blocks) : (devRun d).length ≤ d.blocks := by
  unfold devRun runOf
  rw [List.length_reverse]
  obtain ⟨A, hA⟩ : ∃ A, A = allTo d.blocks d.mem d.blocks := ⟨_, rfl⟩
  rw [← hA]
  have hp : ((downFrom A (topS A)).map (fun x => x.serial % d.blocks)).Pairwise (· ≠ ·) := by
    rw [List.pairwise_map]
    refine (downFrom_nodup (l := A) (topS A)).imp_of_mem ?_
    intro x y hx hy hne e
    have mx := (downFrom_mem hx).1
    have my := (downFrom_mem hy).1
    rw [hA] at mx my
    obtain ⟨i, _, gi, ei⟩ := mem_allTo mx
    obtain ⟨k, _, gk, ek⟩ := mem_allTo my
    have si := (goodB_iff.1 gi).2
    have sk := (goodB_iff.1 gk).2
    rw [← ei] at si
    rw [← ek] at sk
    have : i = k := by rw [← si, ← sk]; exact e
    subst this
    rw [← ek] at ei
    exact hne (by rw [ei])
  have := pigeon d.blocks _ hp fun x hx => by
    obtain ⟨y, _, rfl⟩ := List.mem_map.1 hx
    exact Nat.mod_lt _ (by omega)
  rwa [List.length_map] at this
theorem devRun_top (d : Dev) : ∀ x ∈ devRun d, x.serial < nextS (devRun d) := by
  intro x hx
  unfold devRun runOf at hx ⊢
  obtain ⟨A, hA⟩ : ∃ A, A = allTo d.blocks d.mem d.blocks := ⟨_, rfl⟩
  rw [← hA] at hx ⊢
  rw [List.mem_reverse] at hx
  have hle := (downFrom_mem hx).2
  cases hf : findS A (topS A) with
  | none => rw [downFrom_none hf] at hx; cases hx
  | some y =>
    have hy := (findS_mem hf).2
    rw [downFrom_some hf]
    unfold nextS
    rw [List.getLast?_reverse, List.head?_cons]
    show x.serial < y.serial + 1
    omega
theorem contB_len (k : UInt8) : ∀ (l : List Blk) (acc b : List UInt8), (∀ x ∈ l, x.body.length ≤ 48) → contB k acc l = some b → b.length ≤ acc.length + 48 * l.length
  | [], acc, b, _, h => by cases h
  | y :: l, acc, b, hl, h => by
    have hy := hl y (.head _)
    simp only [contB] at h
    split at h
    · cases h
    · split at h
      · injection h with h
        rw [← h, List.length_append, List.length_cons]
        omega
      · have := contB_len k l _ b (fun x hx => hl x (.tail _ hx)) h
        rw [List.length_append] at this
        rw [List.length_cons]
        omega
theorem refRecs_facts : ∀ (l : List Blk), (∀ x ∈ l, x.body.length ≤ 48) → ∀ r ∈ refRecs l, (∃ x ∈ l, r.from_ = x.serial) ∧ r.body.length ≤ 48 * l.length
  | [], _, r, h => by cases h
  | x :: l, hl, r, h => by
    have hx := hl x (.head _)
    simp only [refRecs] at h
    rcases List.mem_append.1 h with h | h
    · split at h
      · cases hr : recAt x l with
        | none => rw [hr] at h; cases h
        | some b =>
          rw [hr] at h
          have h1 : r = ⟨x.kind, x.serial, b⟩ := by simpa using h
          subst h1
          refine ⟨⟨x, .head _, rfl⟩, ?_⟩
          show b.length ≤ _
          unfold recAt at hr
          rw [List.length_cons]
          split at hr
          · injection hr with hr
            rw [← hr]; omega
          · have := contB_len _ _ _ _ (fun y hy => hl y (.tail _ hy)) hr
            omega
      · cases h
    · obtain ⟨⟨y, hy, e⟩, h2⟩ := refRecs_facts l (fun y hy => hl y (.tail _ hy)) r h
      exact ⟨⟨y, .tail _ hy, e⟩, by rw [List.length_cons]; omega⟩
/-- What a device has is what a log opens with. -/
theorem LRel.openD (d : Dev) (h1 : 1 ≤ d.blocks) (h40 : d.blocks ≤ 40) : LRel d.blocks 0 (openG (nextS (devRun d)) (lastsOf (refRecs (devRun d)))) ⟨lastsOf (refRecs (devRun d)), [], nextS (devRun d), false⟩ := by
  have hs := devRun_short d h1
  have hfl := fromLast_lasts (refRecs (devRun d))
  have hN : nextS (devRun d) ≤ 1099511627777 := by
    unfold nextS
    cases e : (devRun d).getLast? with
    | none => exact Nat.zero_le _
    | some x => have := (devRun_may d x (List.mem_of_getLast? e)).1; show x.serial + 1 ≤ _; omega
  refine ⟨rfl, rfl, rfl, hfl.symm, rfl, ?_, lastsOf_ck _, fun _ => .inl rfl, Nat.zero_le _, hN, fun x hx => ?_, (fun x hx => nomatch hx), ?_⟩
  · show baseOf _ _ = baseOf _ (fromLast (lastsOf _))
    rw [hfl]
  · obtain ⟨⟨y, hy, e⟩, h2⟩ := refRecs_facts _ (fun y hy => (devRun_may d y hy).2) x (lastsOf_mem _ x hx)
    have h3 := (devRun_may d y hy).1
    have h4 := devRun_top d y hy
    refine ⟨?_, by omega, by show x.from_ ≤ nextS (devRun d); omega⟩
    have : 48 * (devRun d).length ≤ 48 * 40 := Nat.mul_le_mul_left _ (by omega)
    omega
  · show (lastsOf _).length ≤ _
    have h5 := lastsOf_len (refRecs (devRun d))
    have h6 := refRecs_len (devRun d)
    omega

/-- The document's writes, till one is not. -/
def putR (s : RDev × Bool) (x : Blk) : RDev × Bool :=
  if s.2 then s else (rwD s.1 ((x.serial % (s.1.B.length / 64) : Nat) : Int) (sealB x), rwE s.1 ((x.serial % (s.1.B.length / 64) : Nat) : Int) (sealB x) != 0)
def putsR (s : RDev × Bool) (l : List Blk) : RDev × Bool := l.foldl putR s
theorem putsR_snoc (s : RDev × Bool) (l : List Blk) (x : Blk) : putsR s (l ++ [x]) = putR (putsR s l) x := by unfold putsR; rw [List.foldl_append]; rfl
theorem putsR_app (s : RDev × Bool) (l m : List Blk) : putsR s (l ++ m) = putsR (putsR s l) m := by unfold putsR; rw [List.foldl_append]
theorem putsR_off (l : List Blk) (r : RDev) : putsR (r, true) l = (r, true) := by
  induction l with
  | nil => rfl
  | cons x l ih => show putsR (putR (r, true) x) l = _; rw [show putR (r, true) x = (r, true) from rfl]; exact ih
theorem puts_rel {n : Nat} (hn : 1 ≤ n) : ∀ (l : List Blk) (k : Nat) (d : Dev) (r : RDev) (q : Bool), PRel n k d r → k + l.length ≤ 1000000 →
    (putsD (d, q) l).2 = (putsR (r, q) l).2 ∧ PRel n (k + l.length) (putsD (d, q) l).1 (putsR (r, q) l).1
  | [], k, d, r, q, h, _ => ⟨rfl, h⟩
  | x :: l, k, d, r, q, h, hk => by
    rw [List.length_cons] at hk
    have hb : r.B.length / 64 = n := by rw [h.len]; omega
    show (putsD (putD (d, q) x) l).2 = (putsR (putR (r, q) x) l).2 ∧ PRel n (k + (x :: l).length) (putsD (putD (d, q) x) l).1 (putsR (putR (r, q) x) l).1
    cases q with
    | true =>
      have := puts_rel hn l k d r true h (by omega)
      exact ⟨this.1, this.2.more (by rw [List.length_cons]; omega)⟩
    | false =>
      obtain ⟨e1, e2⟩ := h.write (by omega) ((x.serial % n : Nat) : Int) (sealB x)
      have hD : putD (d, false) x = (writeD d ((x.serial % n : Nat) : Int) (sealB x), writeE d ((x.serial % n : Nat) : Int) (sealB x) != 0) := by
        unfold putD
        rw [if_neg Bool.false_ne_true, h.blocks]
      have hR : putR (r, false) x = (rwD r ((x.serial % n : Nat) : Int) (sealB x), rwE r ((x.serial % n : Nat) : Int) (sealB x) != 0) := by
        unfold putR
        rw [if_neg Bool.false_ne_true, hb]
      rw [hD, hR, ← e1]
      have := puts_rel hn l (k + 1) _ _ (writeE d ((x.serial % n : Nat) : Int) (sealB x) != 0) e2 (by omega)
      rw [List.length_cons]
      rw [show k + (l.length + 1) = k + 1 + l.length by omega]
      exact this
end Go.Proofs.Ytdlbjllgdikadaa
