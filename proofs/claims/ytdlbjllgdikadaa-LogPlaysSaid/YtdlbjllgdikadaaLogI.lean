/- log: Sync: what its walk says of the world; its range over slices.Backward. -/
import Derived.Test.YtdlbjllgdikadaaLogH
namespace Go.Proofs.Ytdlbjllgdikadaa
open Go.RowKit
set_option linter.unusedVariables false
set_option linter.unusedSimpArgs false

/-- A region walked by a plan, where no operation panics: what follows a panic is of no account. -/
def noPanic (Q : Exit → Act → World → Prop) : Exit → Act → World → Prop
  | .panic _, _, _ => False
  | e, a, w => Q e a w
theorem wp_region_seqN {P : Program} {Q : Exit → Act → World → Prop} {id : Nat} {l : List Oper} {a : Act} {w : World} (S : World → Prop) (last : Nat) (pl : List (Nat × Bool)) (hm : P.follows .mixedOrders = true)
    (hB : (Region.noSelect l.toArray && pl.length == l.length && seqBL .any l.toArray last pl (Array.replicate l.length false)) = true)
    (hS : S w.drew) (h : wpSeqL P l.toArray (noPanic Q) S last pl a w.drew) : (Code.region id l.toArray true).wp P Q a w := by
  refine Code.wp_mono ?_ (wp_region_seqL (Q := noPanic Q) S last pl hm hB (fun d v c a w h => h) hS h)
  intro e a' w' he
  cases e <;> first | exact he | exact he.elim
theorem wpSeqL_nilN {P : Program} {ops : Array Oper} {Q : Exit → Act → World → Prop} {S : World → Prop} {last : Nat} {a : Act} {w : World} (h : Q .normal a w) : wpSeqL P ops (noPanic Q) S last [] a w := by
  simp only [wpSeqL]; exact h

theorem blk_mayS (k : UInt8) (s : Nat) (rec : List UInt8) (h : mayS k s rec = true) (j : Nat) (hj : j < manyN rec.length) : mayB (blkAt k s (manyN rec.length) rec j) = true := by
  unfold mayS at h
  simp only [Bool.and_eq_true, decide_eq_true_eq] at h
  obtain ⟨⟨hk, hs⟩, hs2⟩ := h
  have hm := manyN_le rec.length
  have hl := part_len rec j
  have h1 : (decide (s + j ≤ 1099511627776)) = true := by rw [decide_eq_true_iff]; omega
  have h2 : (decide ((partB rec j).length ≤ 48)) = true := by rw [decide_eq_true_iff]; omega
  have h3 : ((j + 1 == manyN rec.length) || (partB rec j).length == 48) = true := by
    by_cases h : j + 1 = manyN rec.length
    · simp [h]
    · have : (partB rec j).length = 48 := by
        unfold manyN at hj h
        split at hj <;> split at h <;> omega
      simp [this]
  show (decide (s + j ≤ 1099511627776) && kindB k && decide ((partB rec j).length ≤ 48) && ((j + 1 == manyN rec.length) || (partB rec j).length == 48)) = true
  rw [h1, hk, h2, h3]; rfl

/-- What a device's numbers must be, that n more blocks may be written. -/
def DevW (d : Dev) (n : Nat) : Prop := DevOk d ∧ -9223372036854775000 + (n : Int) < d.writes
theorem DevW.write {d : Dev} {n : Nat} (h : DevW d (n + 1)) (i : Int) (l : List UInt8) : DevW (writeD d i l) n := by
  have h1 := h.2
  obtain ⟨h2, h3⟩ := writeD_ok h.1 (by omega) i l
  exact ⟨h2, by omega⟩
theorem DevW.mono {d : Dev} {n m : Nat} (h : DevW d n) (hm : m ≤ n) : DevW d m := ⟨h.1, by have := h.2; omega⟩
theorem writeD_blocks (d : Dev) (i : Int) (l : List UInt8) : (writeD d i l).blocks = d.blocks := by unfold writeD; split; split; rfl; rfl; rfl
theorem putsD_snoc (s : Dev × Bool) (l : List Blk) (x : Blk) : putsD s (l ++ [x]) = putD (putsD s l) x := by unfold putsD; rw [List.foldl_append]; rfl
theorem putsD_app (s : Dev × Bool) (l m : List Blk) : putsD s (l ++ m) = putsD (putsD s l) m := by unfold putsD; rw [List.foldl_append]
theorem putD_blocks (s : Dev × Bool) (x : Blk) : (putD s x).1.blocks = s.1.blocks := by unfold putD; split; rfl; exact writeD_blocks _ _ _

theorem putsD_blocks (l : List Blk) : ∀ s : Dev × Bool, (putsD s l).1.blocks = s.1.blocks := by
  induction l with
  | nil => exact fun s => rfl
  | cons x l ih =>
    intro s
    show (putsD (putD s x) l).1.blocks = _
    rw [ih, putD_blocks]
theorem putsD_devw (l : List Blk) : ∀ (s : Dev × Bool) (n : Nat), DevW s.1 (n + l.length) → DevW (putsD s l).1 n := by
  induction l with
  | nil => exact fun s n h => h
  | cons x l ih =>
    intro s n h
    show DevW (putsD (putD s x) l).1 n
    refine ih _ n ?_
    unfold putD
    split
    · exact h.mono (by simp only [List.length_cons]; omega)
    · exact DevW.write (by rw [List.length_cons] at h; exact h) _ _
theorem catB_take (l : List Rc) (i : Nat) (hi : i < l.length) : catB (l.take (i + 1)) = catB (l.take i) ++ blksOf l[i] := by
  rw [List.take_add_one, List.getElem?_eq_getElem hi]
  exact catB_snoc _ _
theorem catB_split (l : List Rc) (i : Nat) (hi : i < l.length) : (catB (l.take i)).length + (blksOf l[i]).length ≤ (catB l).length := by
  have h1 : catB l = catB (l.take (i + 1)) ++ catB (l.drop (i + 1)) := by
    unfold catB
    rw [← List.flatMap_append, List.take_append_drop]
  rw [h1, catB_take l i hi]
  simp only [List.length_append]
  omega

/-- A box of a pointer to a log. -/
def PtrAt (w : World) (P X : Nat) : Prop := w.heap[P]? = some (.cells #[.pointer (some ⟨X, 0, none⟩)] 101 (0, 0))
theorem PtrAt.cell {w : World} {P X : Nat} (h : PtrAt w P X) : w.cell? ⟨P, 0, none⟩ = some (.pointer (some ⟨X, 0, none⟩)) := by rw [cell_of_row w P 0 _ _ _ h]; rfl
theorem PtrAt.aside {T : List Nat} {w w' : World} {P X : Nat} (h : PtrAt w P X) (k : Aside T w w') (hT : P ∉ T) : PtrAt w' P X := (k.block P (lt_of_block h) hT).trans h
theorem PtrAt.later {w w' : World} {P X : Nat} (h : PtrAt w P X) (hb : Below w.heap.size w w') : PtrAt w' P X := (hb.block P (lt_of_block h)).trans h

/-- Behind a store to the log itself. -/
structure SyncW (w0 w : World) (B P X D b : Nat) (d : Dev) (g : Lg) (v1 v2 : Value) : Prop where
  ptr : PtrAt w P X
  log : LogAt w X D g v1 v2
  dev : DevAt w D b d
  o1 : OwnRs w B v1 g.lasts
  o2 : OwnRs w B v2 g.waits
  as_ : Aside [X, D, b] w0 w
theorem SyncW.later {w0 w w' : World} {B P X D b : Nat} {d : Dev} {g : Lg} {v1 v2 : Value} (h : SyncW w0 w B P X D b d g v1 v2) (hb : Below w.heap.size w w') : SyncW w0 w' B P X D b d g v1 v2 :=
  ⟨h.ptr.later hb, h.log.later hb, h.dev.later hb, h.o1.later hb, h.o2.later hb, h.as_.trans (Aside.below _ hb)⟩
theorem SyncW.store {w0 w : World} {B P X D b : Nat} {d : Dev} {g g' : Lg} {v1 v2 : Value} (h : SyncW w0 w B P X D b d g v1 v2) (hPX : P ≠ X) (q : Nat) (u : Value) (hu : (g.cells D v1 v2).setIfInBounds q u = g'.cells D v1 v2) (hl : g'.lasts = g.lasts) (hw : g'.waits = g.waits) : SyncW w0 (w.setCell ⟨X, q, none⟩ u) B P X D b d g' v1 v2 :=
  ⟨(heap_setCell_other w ⟨X, q, none⟩ P u hPX).trans h.ptr, h.log.stored q u hu, h.dev.other ⟨X, q, none⟩ u (fun e => by have h1 := h.dev.1; rw [show D = X from e, h.log] at h1; simp at h1) (fun e => by obtain ⟨_, ⟨M, ⟨es, cl, y2, _⟩, _⟩, _⟩ := h.dev; rw [show b = X from e, h.log] at y2; cases y2),
    by rw [hl]; exact h.o1.other h.log (by decide) (by decide) q u, by rw [hw]; exact h.o2.other h.log (by decide) (by decide) q u, h.as_.setCell ⟨X, q, none⟩ u (fun _ => by simp)⟩

/-- The second half: the records that last are a row of their own. -/
structure SyncV (T : List Nat) (w0 w : World) (B P X D b : Nat) (d : Dev) (g : Lg) (v1 v2 : Value) (rr : List RTrip) : Prop where
  ptr : PtrAt w P X
  log : LogAt w X D g v1 v2
  dev : DevAt w D b d
  row : w.ownsRow B 91 3 v1 rr.length (rcellsOf rr)
  bod : ∀ p ∈ rr, OwnB w B (.slice p.2.1 p.1.body.length p.2.2) p.1.body
  as_ : Aside T w0 w
theorem SyncV.later {T : List Nat} {w0 w w' : World} {B P X D b : Nat} {d : Dev} {g : Lg} {v1 v2 : Value} {rr : List RTrip} (h : SyncV T w0 w B P X D b d g v1 v2 rr) (hb : Below w.heap.size w w') : SyncV T w0 w' B P X D b d g v1 v2 rr :=
  ⟨h.ptr.later hb, h.log.later hb, h.dev.later hb, ownsRow_later h.row hb, fun p hp => (h.bod p hp).later hb, h.as_.trans (Aside.below _ hb)⟩
theorem SyncV.made {T : List Nat} {w0 w : World} {B P X D b : Nat} {d : Dev} {g g' : Lg} {v1 v2 u1 u2 : Value} (hp : PtrAt w P X) (hl : LogAt w X D g v1 v2) (hd : DevAt w D b d) (ha : Aside T w0 w) (hPX : P ≠ X) (hT : X ∈ T) (q : Nat) (u : Value) (hu : (g.cells D v1 v2).setIfInBounds q u = g'.cells D u1 u2) (rr' : List RTrip)
    (hrow : w.ownsRow B 91 3 u1 rr'.length (rcellsOf rr')) (hbod : ∀ p ∈ rr', OwnB w B (.slice p.2.1 p.1.body.length p.2.2) p.1.body) : SyncV T w0 (w.setCell ⟨X, q, none⟩ u) B P X D b d g' u1 u2 rr' := by
  have hk : ∀ {B2 : Nat} {e : TypeId} {sz n : Nat} {v : Value} {xs : List Value}, w.ownsRow B2 e sz v n xs → e ≠ 100 → (w.setCell ⟨X, q, none⟩ u).ownsRow B2 e sz v n xs := fun hp he => by
    refine ownsRow_setCell_other hp (fun e2 => ?_) _
    obtain ⟨c1, f1, z1⟩ := Lib.ownsRow_kind hp _ e2
    have h2 : w.heap[X]? = _ := hl
    rw [h2] at z1
    simp at z1
    exact he z1.2.1.symm
  exact ⟨(heap_setCell_other w ⟨X, q, none⟩ P u hPX).trans hp, hl.stored q u hu, hd.other ⟨X, q, none⟩ u (fun e => by have h1 := hd.1; rw [show D = X from e, hl] at h1; simp at h1) (fun e => by obtain ⟨_, ⟨M, ⟨es, cl, y2, _⟩, _⟩, _⟩ := hd; rw [show b = X from e, hl] at y2; cases y2),
    hk hrow (by decide), fun p hp => hk (hbod p hp) (by decide), ha.setCell ⟨X, q, none⟩ u (fun _ => hT)⟩

def SyncCls (P X D : Nat) (g : Lg) (v1 v2 : Value) (W : World) : Prop := PtrAt W P X ∧ LogAt W X D g v1 v2

def fromLast (l : List Rc) : List Rc := if l.any isCk then lastsOf l else l
def syncG (dn : Bool) (g : Lg) : Lg := if dn then { g with down := true } else ⟨baseOf (g.next + g.many) (fromLast (g.lasts ++ g.waits)), g.next + g.many, fromLast (g.lasts ++ g.waits), [], 0, false⟩
def SyncPost (B X D b : Nat) (d : Dev) (g : Lg) (v1 v2 : Value) (w : World) (e : Ending) (w' : World) : Prop :=
  e = .returned (.int .i64 (if (putsD (d, g.down || d.down) (catB g.waits)).2 then 11 else 0 : Int)) ∧ ∃ v1' v2', LogSt w' B X D (syncG (putsD (d, g.down || d.down) (catB g.waits)).2 g) v1' v2' ∧ DevAt w' D b (putsD (d, g.down || d.down) (catB g.waits)).1 ∧
    Aside (X :: D :: b :: v1.ownBlock.toList) w w' ∧ (∀ q, v1'.ownBlock = some q → v1.ownBlock = some q ∨ w.heap.size ≤ q) ∧ (∀ q, v2'.ownBlock = some q → v2.ownBlock = some q) ∧
    (∀ F : Nat → Prop, (∀ q, F q → q < w.heap.size) → RsOff F w v1 g.lasts → RsOff F w v2 g.waits → RsOff F w' v1' (syncG (putsD (d, g.down || d.down) (catB g.waits)).2 g).lasts ∧ RsOff F w' v2' (syncG (putsD (d, g.down || d.down) (catB g.waits)).2 g).waits)

theorem SyncV.own {T : List Nat} {w0 : World} {B P X D b : Nat} {d : Dev} {g : Lg} {v1 v2 : Value} {rr : List RTrip} {N : Nat} (hN : w0.heap.size ≤ N) {A W : World} {row : Option Nat} (h : SyncV T w0 A B P X D b d g v1 v2 rr) (hb : b < N) (hg : A.grownBy W row) (hr : ∀ r, row = some r → N ≤ r ∧ ∃ o : Obj, A.heap[r]? = some o ∧ o.isCells = false) : SyncV T w0 W B P X D b d g v1 v2 rr := by
  have hc : ∀ {q : Nat} {cs : Array Value} {t : TypeId} {fz : Nat × Nat}, A.heap[q]? = some (.cells cs t fz) → some q ≠ row := fun {q cs t fz} hq e => by
    obtain ⟨_, o, ho, hoc⟩ := hr q e.symm
    rw [hq] at ho
    cases ho
    cases hoc
  have hrow : ∀ {B2 : Nat} {e : TypeId} {sz n : Nat} {v : Value} {xs : List Value}, A.ownsRow B2 e sz v n xs → W.ownsRow B2 e sz v n xs := fun {B2 e sz n v xs} hp => by
    refine World.ownsRow.kept hp hg ?_
    cases e1 : v.ownBlock with
    | none => exact .inl rfl
    | some q =>
      right
      obtain ⟨c1, f1, z1⟩ := Lib.ownsRow_kind hp q e1
      exact hc z1
  exact ⟨(hg.block P (lt_of_block h.ptr) (hc h.ptr)).trans h.ptr, h.log.kept hg (hc h.log), h.dev.kept hg (hc h.dev.1) (fun e => by have := (hr b e.symm).1; omega), hrow h.row, fun p hp => hrow (h.bod p hp), h.as_.put hg (fun k e => .inl (Nat.le_trans hN (hr k e).1))⟩

theorem back_stops (F : Fence) (n : Nat) (h113 : F.fn 113) (hro : F.round = none) (hn : 1 ≤ n) (Q gb c : Nat) (a : Option Addr) (rr : List RTrip) (w : World) (hQl : Q < w.heap.size) (ha : rr.length ≠ 0 → a = some ⟨gb, 0, none⟩ ∧ gb < w.heap.size)
    (hQ : w.cell? ⟨Q, 0, none⟩ = some (.slice a rr.length c)) (hL : ∀ j u, (rcellsOf rr)[j]? = some u → w.cell? ⟨gb, j, none⟩ = some u) (hlen : rr.length ≤ 1099511627777) :
    SeqStopsK F n Try.prog 113 #[.pointer (some ⟨Q, 0, none⟩)] (benc rr) (Below w.heap.size) (fun ys => ys = revN rr.length) (fun pre => pre <+: revN rr.length) rr.length w := fun l J Jx W hW _ _ hY h0 =>
  back_in F n h113 hro hn l Q w.heap.size gb c a rr J Jx hY W hQl ha ((hW.cell (p := ⟨Q, 0, none⟩) hQl).trans hQ) (fun j u hu => (hW.cell (p := ⟨gb, j, none⟩) (World.block_lt_of_cell? w _ (hL j u hu))).trans (hL j u hu)) hlen h0

def rcA (p : RTrip) : Array Value := #[.int .u8 (p.1.kind.toNat : Int), .int .u64 (p.1.from_ : Int), .slice p.2.1 p.1.body.length p.2.2]
def backAct (a : Act) (i : Int) (p : RTrip) (Bx : Nat) : Act := { tmps := (((a.tmps.setIfInBounds 94 (.int .i64 i)).setIfInBounds 95 (.agg (rcA p))).setIfInBounds 10 (.int .i64 i)).setIfInBounds 11 (.pointer (some ⟨Bx, 0, none⟩)), defers := [] }
def RcAt (W : World) (Bx : Nat) (p : RTrip) : Prop := W.heap[Bx]? = some (.cells (rcA p) 91 (0, 0))

theorem lastsOf_sub (l : List Rc) : ∀ x ∈ lastsOf l, x ∈ l := by
  induction l with
  | nil => exact fun x hx => hx
  | cons r rs ih =>
    intro x hx
    simp only [lastsOf] at hx
    split at hx
    · exact List.mem_cons_of_mem _ (ih x hx)
    · split at hx
      · exact hx
      · exact nomatch hx
theorem fromLast_sub (l : List Rc) : ∀ x ∈ fromLast l, x ∈ l := fun x hx => by
  unfold fromLast at hx
  split at hx
  · exact lastsOf_sub l x hx
  · exact hx
theorem fromLast_at {L : List Rc} {i : Nat} (hi : i < L.length) (hc : isCk L[i] = true) (hno : ∀ j (hj : j < L.length), i < j → isCk L[j] = false) : fromLast L = L.drop i := by
  unfold fromLast
  rw [if_pos (List.any_eq_true.2 ⟨L[i], List.getElem_mem hi, hc⟩)]
  refine lastsOf_found L i hi (by unfold isCk at hc; simpa using hc) fun j hj hij => ?_
  have := hno j hj hij
  unfold isCk at this
  simpa using this
theorem fromLast_all {L : List Rc} (hno : ∀ x ∈ L, isCk x = false) : fromLast L = L := by
  unfold fromLast
  rw [if_neg]
  intro h
  obtain ⟨x, hx, hc⟩ := List.any_eq_true.1 h
  rw [hno x hx] at hc
  cases hc

set_option maxRecDepth 100000 in
/-- 'for i, r := range slices.Backward(l.lasts) { if r.Kind == RecCheck { l.lasts = slices.Clone(l.lasts[i:]); break } }': from the last checkpoint on. -/
theorem wp_rangeBack {Q : Exit → Act → World → Prop} {a : Act} {w w0 w6 : World} {g : Operand} {assign body : Code} {T : List Nat} {B P X D b gb q5 : Nat} {d : Dev} {G2 : Lg} {a5 : Option Addr} {v2 : Value} {rr : List RTrip}
    (hg : a.eval g = .func (.func 113) #[] #[.pointer (some ⟨w6.heap.size, 0, none⟩)]) (hw : w = w6.alloc (.cells #[.slice a5 rr.length q5] 83)) (h0w : w0.heap.size ≤ w6.heap.size)
    (hV : SyncV T w0 w6 B P X D b d G2 (.slice a5 rr.length q5) v2 rr) (hmap : rr.map (·.1) = G2.lasts) (hlen : rr.length ≤ 1099511627777)
    (hassign : ∀ (l : Nat) (x : Fin rr.length) (W : World) (K : Act → World → Prop), K (backAct a (x.val : Int) rr[x] W.heap.size) (W.alloc (.cells (rcA rr[x]) 91)) →
      assign.wpIn (Fence.wide.inRound l) 4 Try.prog (Exit.then K (fun _ _ _ => False)) { tmps := ((#[94, 95] : Array Tmp).zip (benc rr x)).foldl (fun t (p, v) => t.setIfInBounds p v) a.tmps, defers := [] } W)
    (hbody : ∀ (l : Nat) (x : Fin rr.length) (Bx : Nat) (W : World), SyncV T w0 W B P X D b d G2 (.slice a5 rr.length q5) v2 rr → RcAt W Bx rr[x] → w.heap.size ≤ Bx → w0.heap.size ≤ W.heap.size →
      body.wpIn (Fence.wide.inRound l) 4 Try.prog (fun e _ W' => (isCk rr[x].1 = false ∧ e = .normal ∧ W' = W) ∨ (isCk rr[x].1 = true ∧ e = .exit 4 ∧ KeepsFrom w.heap.size W W' ∧ ∃ v6, SyncV T w0 W' B P X D b d { G2 with lasts := G2.lasts.drop x.val } v6 v2 (rr.drop x.val) ∧ ∀ q, v6.ownBlock = some q → w0.heap.size ≤ q)) (backAct a (x.val : Int) rr[x] Bx) W)
    (hdone : ∀ (Dq : Nat) (W : World) (v6 : Value) (rr' : List RTrip), w.heap.size ≤ Dq → W.heap[Dq]? = some (.deferred (some [])) → rr'.map (·.1) = fromLast G2.lasts → SyncV T w0 W B P X D b d { G2 with lasts := fromLast G2.lasts } v6 v2 rr' →
      (∀ q, v6.ownBlock = some q → (Value.slice a5 rr.length q5).ownBlock = some q ∨ w0.heap.size ≤ q) → (∀ p ∈ rr', p ∈ rr) → Q .normal { a with defers := { target := .collected Dq, args := #[] } :: a.defers } W ∧ Q (.exit 4) { a with defers := { target := .collected Dq, args := #[] } :: a.defers } W) :
    (Code.rangeFunc g #[94, 95] assign body).wp Try.prog Q a w := by
  have hbl := hV.dev.ltb
  have hb6 : Below w6.heap.size w6 w := by rw [hw]; exact (Below.refl _ w6).alloc (Nat.le_refl _) _
  have hVw := hV.later hb6
  have hsz : w.heap.size = w6.heap.size + 1 := by rw [hw]; simp
  have hQ : w.cell? ⟨w6.heap.size, 0, none⟩ = some (.slice a5 rr.length q5) := by rw [hw, World.cell?_alloc_new]; rfl
  have hlenG : G2.lasts.length = rr.length := by rw [← hmap, List.length_map]
  have hat : ∀ i (hi : i < rr.length), G2.lasts[i]'(by omega) = rr[i].1 := fun i hi => by simp only [← hmap, List.getElem_map]
  obtain ⟨gb, hgb, hcells⟩ : ∃ gb, (rr.length ≠ 0 → a5 = some ⟨gb, 0, none⟩ ∧ gb < w.heap.size) ∧ ∀ j u, (rcellsOf rr)[j]? = some u → w.cell? ⟨gb, j, none⟩ = some u := by
    rcases hVw.row.2 with ⟨e0, hz⟩ | ⟨gg, cap, cur, e0, _, hgg, _⟩
    · refine ⟨0, fun h => absurd hz h, fun j u hu => ?_⟩
      have hr0 : rr = [] := List.length_eq_zero_iff.1 hz
      rw [hr0] at hu
      simp [rcellsOf] at hu
    · injection e0 with e1 e2 e3
      refine ⟨gg, fun _ => ⟨e1, (Array.getElem?_eq_some_iff.1 hgg).1⟩, fun j u hu => ?_⟩
      have := World.ownsRow.cells hVw.row (g := gg) (by rw [e1]; rfl) j u hu
      rwa [Addr.add_lit, Nat.zero_add] at this
  refine (wpIn_wide (n := 6)).1 ?_
  refine wpIn_rangeFunc_ownH rfl (by omega) hg trivial (enters_of Try.func113 (by kernel_rfl) rfl) (back_stops Fence.wide 5 trivial rfl (by omega) w6.heap.size gb q5 a5 rr w (by omega) hgb hQ hcells hlen)
    belowK_t (belowK_b (Nat.le_refl _)) (Below.refl _ _) (fun x => rfl)
    (fun pre W => (∀ y ∈ pre, isCk rr[y].1 = false) ∧ SyncV T w0 W B P X D b d G2 (.slice a5 rr.length q5) v2 rr ∧ w.heap.size ≤ W.heap.size)
    (fun c pre W => c = .exit 4 ∧ ∃ (p : List (Fin rr.length)) (x : Fin rr.length), pre = p ++ [x] ∧ isCk rr[x].1 = true ∧ (∀ y ∈ p, isCk rr[y].1 = false) ∧ ∃ v6, SyncV T w0 W B P X D b d { G2 with lasts := G2.lasts.drop x.val } v6 v2 (rr.drop x.val) ∧ ∀ q, v6.ownBlock = some q → w0.heap.size ≤ q)
    (fun s A W row hs hgr hr => ⟨hs.1, hs.2.1.own (by omega) (by omega) hgr hr, Nat.le_trans hs.2.2 hgr.size⟩)
    (fun c s A W row hs hgr hr => by
      obtain ⟨h1, p, x, h2, h3, h4, v6, h5, h6⟩ := hs
      exact ⟨h1, p, x, h2, h3, h4, v6, h5.own (by omega) (by omega) hgr hr, h6⟩)
    ⟨(fun y hy => nomatch hy), hVw, Nat.le_refl _⟩
    (fun x a' W => ∃ Bx, a' = backAct a (x.val : Int) rr[x] Bx ∧ RcAt W Bx rr[x] ∧ w.heap.size ≤ Bx)
    (fun x a' s A W row hs hgr hr => by
      obtain ⟨Bx, h1, h2, h3⟩ := hs
      refine ⟨Bx, h1, (hgr.block Bx (lt_of_block h2) (fun e => ?_)).trans h2, h3⟩
      obtain ⟨_, o, ho, hoc⟩ := hr Bx e.symm
      rw [h2] at ho
      cases ho
      cases hoc)
    ?assign ?body ?done ?stop
  case assign =>
    intro l pre x W K hI hK
    refine hassign l x W K (hK _ _ ?_ ?_ ?_ ?_)
    · exact KeepsFrom.of_grownBy (World.grownBy_alloc W _ none) (fun j e => nomatch e)
    · exact (Below.refl _ W).alloc hI.2.2 _
    · exact ⟨hI.1, hI.2.1.later ((Below.refl _ W).alloc (Nat.le_refl _) _), by rw [World.size_alloc]; have := hI.2.2; omega⟩
    · exact ⟨W.heap.size, rfl, heap_alloc_new _ _, hI.2.2⟩
  case body =>
    intro l pre x a' W hl hr hI hA hpre
    obtain ⟨Bx, rfl, hR, hBx⟩ := hA
    refine wpIn_mono (hbody l x Bx W hI.2.1 hR hBx (by have := hI.2.2; omega)) ?_
    rintro e a3 W3 (⟨h1, rfl, rfl⟩ | ⟨h1, rfl, h2, v6, h3, h4⟩)
    · refine ⟨KeepsFrom.refl _ _, Below.refl _ _, fun y hy => ?_, hI.2⟩
      rcases List.mem_append.1 hy with hy | hy
      · exact hI.1 y hy
      · rw [List.mem_singleton] at hy; subst hy; exact h1
    · exact ⟨h2, rfl, pre, x, rfl, h1, hI.1, v6, h3, h4⟩
  case done =>
    rintro Dq xs W hDq rfl ⟨hno, hVx, _⟩ hDef
    have hall : fromLast G2.lasts = G2.lasts := fromLast_all fun y hy => by
      obtain ⟨j, hj, rfl⟩ := List.mem_iff_getElem.1 hy
      rw [hat j (by omega)]
      exact hno ⟨j, by omega⟩ (by unfold revN; simp)
    exact (hdone Dq W _ rr hDq hDef (by rw [hall]; exact hmap) (by rw [hall]; exact hVx) (fun q e => .inl e) (fun p hp => hp)).1
  case stop =>
    rintro Dq c pre W hDq hpre ⟨rfl, p, x, rfl, hx, hno, v6, h3, h4⟩ hDef
    have hfl : fromLast G2.lasts = G2.lasts.drop x.val := fromLast_at (by rw [hlenG]; exact x.isLt) (by rw [hat x.val x.isLt]; exact hx) fun j hj hij => by
      rw [hat j (by omega)]
      exact hno ⟨j, by omega⟩ (revN_before hpre ⟨j, by omega⟩ hij)
    have hq := (hdone Dq W v6 (rr.drop x.val) hDq hDef (by rw [hfl, List.map_drop, hmap]) (by rw [hfl]; exact h3) (fun q e => .inr (h4 q e)) (fun p hp => List.mem_of_mem_drop hp)).2
    gi_wp2
    exact hq
end Go.Proofs.Ytdlbjllgdikadaa
