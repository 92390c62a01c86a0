/- ScanTorn, the plain law: records split into blocks, written one behind the other to a device on which a crash was set: the run behind it, and its records. -/
import Derived.Test.YtdlbjllgdikadaaScnD
namespace Go.Proofs.Ytdlbjllgdikadaa
set_option linter.unusedVariables false

/-- Some blocks of a record, from the j-th on. -/
def runB (k : UInt8) (s m : Nat) (rec : List UInt8) (j r : Nat) : List Blk := (List.range' j r).map (blkAt k s m rec)
theorem blkTo_run (k : UInt8) (s m : Nat) (rec : List UInt8) (n : Nat) : blkTo k s m rec n = runB k s m rec 0 n := by
  unfold blkTo runB
  rw [List.range_eq_range']
theorem runB_succ (k : UInt8) (s m : Nat) (rec : List UInt8) (j r : Nat) : runB k s m rec j (r + 1) = blkAt k s m rec j :: runB k s m rec (j + 1) r := by
  unfold runB
  rw [List.range'_succ]; rfl
theorem runB_zero (k : UInt8) (s m : Nat) (rec : List UInt8) (j : Nat) : runB k s m rec j 0 = [] := rfl

theorem cont_all (k : UInt8) (s m : Nat) (rec : List UInt8) (C : List Blk) : ∀ r j, 1 ≤ j → j + (r + 1) = m → contB k (rec.take (48 * j)) (runB k s m rec j (r + 1) ++ C) = some (rec.take (48 * m)) := by
  intro r
  induction r with
  | zero =>
    intro j h1 h2
    rw [runB_succ, List.cons_append, contB]
    have hf : (blkAt k s m rec j).first = false := by show (j == 0) = false; rw [beq_eq_false_iff_ne]; omega
    have hl : (blkAt k s m rec j).last = true := by show (j + 1 == m) = true; rw [beq_iff_eq]; omega
    have hk : ((blkAt k s m rec j).kind != k) = false := by show (k != k) = false; simp
    rw [hf, hk, hl]
    simp only [Bool.or_self, Bool.false_eq_true, if_false, if_true]
    rw [show (blkAt k s m rec j).body = partB rec j from rfl, ← take_part]
    rw [show j + 1 = m by omega]
  | succ r ih =>
    intro j h1 h2
    rw [runB_succ, List.cons_append, contB]
    have hf : (blkAt k s m rec j).first = false := by show (j == 0) = false; rw [beq_eq_false_iff_ne]; omega
    have hl : (blkAt k s m rec j).last = false := by show (j + 1 == m) = false; rw [beq_eq_false_iff_ne]; omega
    have hk : ((blkAt k s m rec j).kind != k) = false := by show (k != k) = false; simp
    rw [hf, hk, hl]
    simp only [Bool.or_self, Bool.false_eq_true, if_false]
    rw [show (blkAt k s m rec j).body = partB rec j from rfl, ← take_part]
    exact ih (j + 1) (by omega) (by omega)

theorem cont_none (k : UInt8) (s m : Nat) (rec : List UInt8) : ∀ r j acc, 1 ≤ j → j + r < m → contB k acc (runB k s m rec j r) = none := by
  intro r
  induction r with
  | zero => intro j acc h1 h2; rfl
  | succ r ih =>
    intro j acc h1 h2
    rw [runB_succ, contB]
    have hf : (blkAt k s m rec j).first = false := by show (j == 0) = false; rw [beq_eq_false_iff_ne]; omega
    have hl : (blkAt k s m rec j).last = false := by show (j + 1 == m) = false; rw [beq_eq_false_iff_ne]; omega
    have hk : ((blkAt k s m rec j).kind != k) = false := by show (k != k) = false; simp
    rw [hf, hk, hl]
    simp only [Bool.or_self, Bool.false_eq_true, if_false]
    exact ih (j + 1) _ (by omega) (by omega)

theorem recs_rest (k : UInt8) (s m : Nat) (rec : List UInt8) (C : List Blk) : ∀ r j, 1 ≤ j → refRecs (runB k s m rec j r ++ C) = refRecs C := by
  intro r
  induction r with
  | zero => intro j h1; rfl
  | succ r ih =>
    intro j h1
    rw [runB_succ, List.cons_append, refRecs]
    have hf : (blkAt k s m rec j).first = false := by show (j == 0) = false; rw [beq_eq_false_iff_ne]; omega
    rw [hf, if_neg Bool.false_ne_true, List.nil_append]
    exact ih (j + 1) (by omega)

theorem take_all (rec : List UInt8) : rec.take (48 * manyN rec.length) = rec := by
  refine List.take_of_length_le ?_
  unfold manyN
  split <;> omega

/-- A whole record's blocks: the record. -/
theorem recs_whole (k : UInt8) (s : Nat) (rec : List UInt8) (C : List Blk) : refRecs (blkTo k s (manyN rec.length) rec (manyN rec.length) ++ C) = ⟨k, s, rec⟩ :: refRecs C := by
  have hp := manyN_pos rec.length
  have ht := take_all rec
  obtain ⟨m, hm⟩ : ∃ m, manyN rec.length = m + 1 := ⟨manyN rec.length - 1, by omega⟩
  rw [hm] at ht ⊢
  rw [blkTo_run, runB_succ, List.cons_append, refRecs]
  have hf : (blkAt k s (m + 1) rec 0).first = true := rfl
  rw [hf, if_pos rfl, recs_rest k s (m + 1) rec C m 1 (Nat.le_refl _)]
  have hr : recAt (blkAt k s (m + 1) rec 0) (runB k s (m + 1) rec (0 + 1) m ++ C) = some rec := by
    unfold recAt
    cases m with
    | zero =>
      have hl : (blkAt k s (0 + 1) rec 0).last = true := rfl
      rw [hl, if_pos rfl]
      have h0 : (blkAt k s (0 + 1) rec 0).body = rec.take (48 * (0 + 1)) := by
        show partB rec 0 = _
        rw [take_part]; simp
      rw [h0, ht]
    | succ m =>
      have hl : (blkAt k s (m + 1 + 1) rec 0).last = false := by show (0 + 1 == m + 1 + 1) = false; rw [beq_eq_false_iff_ne]; omega
      rw [hl, if_neg Bool.false_ne_true]
      have h0 : (blkAt k s (m + 1 + 1) rec 0).body = rec.take (48 * 1) := by
        show partB rec 0 = _
        rw [take_part]; simp
      rw [h0, show (blkAt k s (m + 1 + 1) rec 0).kind = k from rfl, show (0 + 1 : Nat) = 1 from rfl, cont_all k s (m + 1 + 1) rec C m 1 (Nat.le_refl _) (by omega), ht]
  rw [hr]
  rfl

/-- Some of a record's first blocks: none. -/
theorem recs_part (k : UInt8) (s : Nat) (rec : List UInt8) (n : Nat) (h : n < manyN rec.length) : refRecs (blkTo k s (manyN rec.length) rec n) = [] := by
  cases n with
  | zero => rfl
  | succ n =>
    rw [blkTo_run, runB_succ, refRecs]
    have hf : (blkAt k s (manyN rec.length) rec 0).first = true := rfl
    have hr := recs_rest k s (manyN rec.length) rec [] n 1 (Nat.le_refl _)
    rw [List.append_nil] at hr
    rw [hf, if_pos rfl, hr]
    have hl : (blkAt k s (manyN rec.length) rec 0).last = false := by show (0 + 1 == manyN rec.length) = false; rw [beq_eq_false_iff_ne]; omega
    unfold recAt
    rw [hl, if_neg Bool.false_ne_true, show (blkAt k s (manyN rec.length) rec 0).kind = k from rfl, cont_none k s (manyN rec.length) rec n (0 + 1) _ (Nat.le_refl _) (by omega)]
    rfl

/-- All blocks of whole records. -/
def blksOf (r : Rc) : List Blk := blkTo r.kind r.from_ (manyN r.body.length) r.body (manyN r.body.length)
def catB (R : List Rc) : List Blk := R.flatMap blksOf
theorem catB_snoc (R : List Rc) (r : Rc) : catB (R ++ [r]) = catB R ++ blksOf r := by
  unfold catB
  rw [List.flatMap_append]; simp
theorem recs_cat (R : List Rc) (C : List Blk) : refRecs (catB R ++ C) = R ++ refRecs C := by
  induction R with
  | nil => rfl
  | cons r R ih =>
    show refRecs ((r :: R).flatMap blksOf ++ C) = _
    rw [List.flatMap_cons, List.append_assoc]
    have := recs_whole r.kind r.from_ r.body (R.flatMap blksOf ++ C)
    rw [show blksOf r = blkTo r.kind r.from_ (manyN r.body.length) r.body (manyN r.body.length) from rfl, this]
    have ih' : refRecs (R.flatMap blksOf ++ C) = R ++ refRecs C := ih
    rw [ih']; rfl

/-- From the last checkpoint on, one record more. -/
theorem lasts_snoc (R : List Rc) (r : Rc) (hc : R ≠ [] → R.any (fun x => x.kind == 2) = true) (hr : R = [] → r.kind = 2) :
    lastsOf (R ++ [r]) = if r.kind = 2 then [r] else lastsOf R ++ [r] := by
  have key : ∀ R : List Rc, lastsOf (R ++ [r]) = if r.kind = 2 then [r] else if R.any (fun x => x.kind == 2) then lastsOf R ++ [r] else [] := by
    intro R
    induction R with
    | nil =>
      by_cases h : r.kind = 2
      · simp [lastsOf, h]
      · simp [lastsOf, h]
    | cons x R ih =>
      rw [List.cons_append, lastsOf, ih]
      by_cases h : r.kind = 2
      · simp [h]
      · by_cases h2 : R.any (fun x => x.kind == 2) = true
        · simp [h, h2, lastsOf]
        · have h2' : R.any (fun x => x.kind == 2) = false := by simpa using h2
          by_cases h3 : x.kind = 2
          · simp [h, h2', h3, lastsOf]
          · simp [h, h2', h3]
  rw [key]
  by_cases h : r.kind = 2
  · rw [if_pos h, if_pos h]
  · rw [if_neg h, if_neg h]
    have : R ≠ [] := fun e => h (hr e)
    rw [if_pos (hc this)]

/-- A torn block over zeros. -/
def tornB (p : Int) (l : List UInt8) : List UInt8 := l.take p.toNat ++ zero64.drop p.toNat
theorem tornB_none (l : List UInt8) : tornB 0 l = zero64 := by unfold tornB; simp
theorem tornB_all (l : List UInt8) (h : l.length = 64) : tornB 64 l = l := by
  unfold tornB zero64
  show l.take 64 ++ (List.replicate 64 0).drop 64 = l
  rw [List.take_of_length_le (by omega), List.drop_eq_nil_of_le (by simp)]; simp

/-- The device behind the blocks B, with a crash set at n, p. -/
def TornRel (n p : Int) (s : Nat) (B : List Blk) (d : Dev) : Prop :=
  d.blocks = 40 ∧ d.prefix_ = p ∧
  (∀ i (hi : i < B.length), (i : Int) < n → d.mem ((s + i) % 40) = sealB B[i]) ∧
  (∀ i (hi : i < B.length), (i : Int) = n → d.mem ((s + i) % 40) = tornB p (sealB B[i])) ∧
  (∀ q, q < 40 → (∀ i, i < B.length → (i : Int) ≤ n → q ≠ (s + i) % 40) → d.mem q = zero64) ∧
  ((B.length : Int) ≤ n → d.down = false ∧ d.set = true ∧ d.writes = n - B.length) ∧
  (n < (B.length : Int) → d.down = true ∧ d.set = false ∧ d.writes = 0)

theorem torn_start (n p : Int) (s : Nat) (h1 : 0 ≤ n) (h2 : 0 ≤ p) (h3 : p ≤ 64) : crashE (newD 40) n p = 0 ∧ TornRel n p s [] (crashD (newD 40) n p) := by
  have e : crashE (newD 40) n p = 0 := by
    have : mayE (newD 40) 0 = 0 := by simp [mayE, newD]
    rw [crashE, if_pos this, if_neg (by omega)]
  refine ⟨e, ?_⟩
  rw [crashD, if_pos e]
  exact ⟨rfl, rfl, fun i hi => absurd hi (Nat.not_lt_zero _), fun i hi => absurd hi (Nat.not_lt_zero _), fun q hq _ => rfl, fun _ => ⟨rfl, rfl, by simp⟩, fun h => absurd h (by simp; omega)⟩

theorem torn_step (n p : Int) (s : Nat) (B : List Blk) (d : Dev) (x : Blk) (h : TornRel n p s B d) (hB : B.length < 40) (hx : mayB x = true) :
    writeE d (((s + B.length) % 40 : Nat) : Int) (sealB x) = (if (B.length : Int) < n then 0 else 11) ∧ TornRel n p s (B ++ [x]) (writeD d (((s + B.length) % 40 : Nat) : Int) (sealB x)) := by
  obtain ⟨hb, hp, hm, ht, hz, hle, hgt⟩ := h
  have hlen : (sealB x).length = 64 := seal_length x (by unfold mayB at hx; simp at hx; omega)
  obtain ⟨k, hk⟩ : ∃ k, k = B.length := ⟨_, rfl⟩
  obtain ⟨P, hP⟩ : ∃ P, P = (s + B.length) % 40 := ⟨_, rfl⟩
  have hP40 : P < 40 := hP ▸ Nat.mod_lt _ (by decide)
  have hlk : (B ++ [x]).length = k + 1 := by rw [List.length_append, hk]; rfl
  have hlow : ∀ i (hi : i < (B ++ [x]).length) (h2 : i < k), (B ++ [x])[i] = B[i]'(hk ▸ h2) := fun i hi h2 => List.getElem_append_left (hk ▸ h2)
  have hnew : ∀ (hi : k < (B ++ [x]).length), (B ++ [x])[k] = x := fun hi => by simp [hk]
  have hoff : ∀ i, i < k → (s + i) % 40 ≠ P := fun i hi => by rw [hP]; omega
  rw [← hP]
  by_cases c : (k : Int) ≤ n
  · obtain ⟨hd, hs, hw⟩ := hle (by rw [← hk]; exact c)
    have hmay : mayE d (P : Int) = 0 := by rw [mayE, hd, if_neg (by decide), if_neg (by omega)]
    by_cases c2 : (k : Int) < n
    · have hc : (d.set && d.writes == 0) = false := by rw [hs, hw, Bool.true_and, beq_eq_false_iff_ne]; omega
      refine ⟨by rw [writeE, if_pos hmay, if_pos hlen, hc, if_neg Bool.false_ne_true, if_pos (show (B.length : Int) < n by omega)], ?_⟩
      rw [writeD, if_pos ⟨hmay, hlen⟩, hc]
      refine ⟨hb, hp, fun i hi hin => ?_, fun i hi hin => ?_, fun q hq hno => ?_, fun hh => ⟨hd, hs, by show d.writes - 1 = _; rw [hlk, hw]; omega⟩, fun hh => by rw [hlk] at hh; omega⟩
      · show updB d.mem (P : Int).toNat (sealB x) _ = _
        rw [Int.toNat_natCast]
        unfold updB
        by_cases e : i < k
        · rw [if_neg (hoff i e), hlow i hi e]; exact hm i (hk ▸ e) hin
        · have : i = k := by omega
          subst this
          rw [if_pos (by rw [hP, hk]), hnew hi]
      · omega
      · show updB d.mem (P : Int).toNat (sealB x) _ = _
        rw [Int.toNat_natCast]
        unfold updB
        rw [if_neg (fun e => hno k (by omega) (by omega) (by rw [e, hP, hk]))]
        exact hz q hq fun i hi hin => hno i (by omega) hin
    · have hkn : (k : Int) = n := by omega
      have hc : (d.set && d.writes == 0) = true := by rw [hs, hw, Bool.true_and, beq_iff_eq]; omega
      have hold : d.mem P = zero64 := hz P hP40 fun i hi _ => fun e => hoff i (hk ▸ hi) e.symm
      refine ⟨by rw [writeE, if_pos hmay, if_pos hlen, hc, if_pos rfl, if_neg (show ¬ (B.length : Int) < n by omega)], ?_⟩
      rw [writeD, if_pos ⟨hmay, hlen⟩, hc]
      have hmem : ∀ q, updB d.mem (P : Int).toNat ((sealB x).take d.prefix_.toNat ++ (d.mem (P : Int).toNat).drop d.prefix_.toNat) q = if q = P then tornB p (sealB x) else d.mem q := by
        intro q
        rw [Int.toNat_natCast, hold, hp]; rfl
      refine ⟨hb, hp, fun i hi hin => ?_, fun i hi hin => ?_, fun q hq hno => ?_, fun hh => by rw [hlk] at hh; omega, fun _ => ⟨rfl, rfl, by show d.writes = 0; rw [hw]; omega⟩⟩
      · refine (hmem _).trans ?_
        have e : i < k := by omega
        rw [if_neg (hoff i e), hlow i hi e]; exact hm i (hk ▸ e) hin
      · refine (hmem _).trans ?_
        have : i = k := by omega
        subst this
        rw [if_pos (by rw [hP, hk]), hnew hi]
      · refine (hmem _).trans ?_
        rw [if_neg (fun e => hno k (by omega) (by omega) (by rw [e, hP, hk]))]
        exact hz q hq fun i hi hin => hno i (by omega) hin
  · obtain ⟨hd, hs, hw0⟩ := hgt (by rw [← hk]; omega)
    have hmay : mayE d (P : Int) = 11 := by rw [mayE, hd, if_pos rfl]
    refine ⟨by rw [writeE, if_neg (by rw [hmay]; decide), hmay, if_neg (by rw [← hk]; omega)], ?_⟩
    rw [writeD, if_neg (fun e => by rw [hmay] at e; exact absurd e.1 (by decide))]
    refine ⟨hb, hp, fun i hi hin => ?_, fun i hi hin => ?_, fun q hq hno => ?_, fun hh => by rw [hlk] at hh; omega, fun _ => ⟨hd, hs, hw0⟩⟩
    · have e : i < k := by omega
      rw [hlow i hi e]; exact hm i (hk ▸ e) hin
    · have e : i < k := by omega
      rw [hlow i hi e]; exact ht i (hk ▸ e) hin
    · exact hz q hq fun i hi hin => hno i (by omega) hin

theorem torn_ok {n p : Int} {s : Nat} {B : List Blk} {d : Dev} (h : TornRel n p s B d) (h1 : 0 ≤ n) (hn : n ≤ 9223372036854775807) (h2 : 0 ≤ p) (h3 : p ≤ 64) : DevOk d := by
  obtain ⟨_, hp, _, _, _, hle, hgt⟩ := h
  by_cases c : (B.length : Int) ≤ n
  · obtain ⟨_, _, h4⟩ := hle c
    exact ⟨by omega, by omega, by omega, by omega⟩
  · obtain ⟨_, _, h4⟩ := hgt (by omega)
    exact ⟨by omega, by omega, by omega, by omega⟩

/-- How many blocks were written whole. -/
def limN (n p : Int) : Int := if p = 64 then n + 1 else n
def lastB (n p : Int) (B : List Blk) : Nat := min B.length (limN n p).toNat

theorem torn_ring (n p : Int) (s : Nat) (B : List Blk) (d : Dev) (h : TornRel n p s B d) (h1 : 0 ≤ n) (h2 : 0 ≤ p) (h3 : p ≤ 64) (hB : B.length ≤ 40)
    (hser : ∀ i (hi : i < B.length), B[i].serial = s + i ∧ mayB B[i] = true)
    (hno : ∀ i (hi : i < B.length), (i : Int) = n → 0 < p → p < 64 → decE (tornB p (sealB B[i])) ≠ 0) :
    runOf (allTo 40 d.mem 40) = B.take (lastB n p B) := by
  obtain ⟨hb, hp, hm, ht, hz, hle, hgt⟩ := h
  have hlim : ∀ i, i < lastB n p B → i < B.length ∧ ((i : Int) < n ∨ (p = 64 ∧ (i : Int) = n)) := by
    intro i hi
    unfold lastB limN at hi
    split at hi
    · rename_i h64
      refine ⟨by omega, ?_⟩
      by_cases h : (i : Int) < n
      · exact .inl h
      · exact .inr ⟨h64, by omega⟩
    · exact ⟨by omega, .inl (by omega)⟩
  have hR : Ring 40 d.mem (fun i => B[i]?.getD noneB) s (lastB n p B) := by
    refine ⟨by unfold lastB; omega, by decide, fun i hi => ?_, fun i hi => ?_, fun q hq hh => ?_⟩
    · have := (hlim i hi).1
      simp only [List.getElem?_eq_getElem this, Option.getD_some]
      exact (hser i this).1
    · obtain ⟨hl, hc⟩ := hlim i hi
      simp only [List.getElem?_eq_getElem hl, Option.getD_some]
      have e : d.mem ((s + i) % 40) = sealB B[i] := by
        rcases hc with hc | ⟨h64, hc⟩
        · exact hm i hl hc
        · rw [ht i hl hc, h64, tornB_all _ (seal_length _ (by have := (hser i hl).2; unfold mayB at this; simp at this; omega))]
      rw [e]
      exact dec_seal _ (hser i hl).2
    · by_cases hn : ∃ i, ∃ hi : i < B.length, (i : Int) = n ∧ q = (s + i) % 40
      · obtain ⟨i, hi, hin, hqi⟩ := hn
        have hp64 : p ≠ 64 := fun e => hh i (by unfold lastB limN; rw [if_pos e]; omega) hqi
        rw [hqi, ht i hi hin]
        by_cases hp0 : p = 0
        · rw [hp0, tornB_none]; exact dec_zero
        · exact hno i hi hin (by omega) (by omega)
      · rw [hz q hq fun i hi hin e => ?_]
        · exact dec_zero
        · by_cases hlt : (i : Int) < n
          · refine hh i ?_ e
            unfold lastB limN
            split <;> omega
          · exact hn ⟨i, hi, by omega, e⟩
  rw [hR.run]
  refine List.ext_getElem (by simp [lastB]) fun i hi hi2 => ?_
  rw [List.length_map, List.length_range] at hi
  simp only [List.getElem_map, List.getElem_range, List.getElem_take]
  rw [List.getElem?_eq_getElem (hlim i hi).1]; rfl
end Go.Proofs.Ytdlbjllgdikadaa
