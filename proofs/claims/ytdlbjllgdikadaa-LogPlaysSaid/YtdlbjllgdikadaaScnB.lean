/- scan.whole: the iterator's contract. scan.Records, scan.Find: the callers of whole. -/
import Derived.Test.YtdlbjllgdikadaaScnA
namespace Go.Proofs.Ytdlbjllgdikadaa
open Go.RowKit Go.Shelf
set_option linter.unusedVariables false
set_option linter.unusedSimpArgs false
attribute [local go_sem] Oper.semAt_some

section
variable {F : Fence} {n : Nat}
theorem wpListIn_store_row {P : Program} {ops : Array Oper} {rest : List Oper} {o : Oper} {a : Act} {w : World} {Q : Exit → Act → World → Prop} (hgd : o.guard = none) (ty : TypeId) (x y : Operand) (ho : o.op = .store ty x y)
    (g : Nat) (cells : Array Value) (hx : a.eval x = .pointer (some ⟨g, 0, none⟩)) (hy : a.eval y = .agg cells)
    (t : TypeId) (old : Array Value) (hg : w.heap[g]? = some (.cells old t (0, 0))) (hi : (P.info? ty).map (·.size) = some cells.size)
    (hold : old.size = cells.size) (h1 : cells.all (·.oneCell') = true)
    (h : wpListIn F n P ops Q rest (a.put o.dst undef) (w.setRow g cells)) : wpListIn F n P ops Q (o :: rest) a w := by
  refine wpListIn_plain hgd fun K hK => ?_
  unfold Oper.wpIn
  refine ⟨by simp [Oper.about, ho], ?_⟩
  rw [Oper.semAt_plain F _ _ (by rw [ho]; intro c hc; cases hc)]
  unfold execOp
  simp only [ho, hx, hy, Instr.storeAt, Instr.sureAddr, Sem.run_bind, Sem.run_pure, Result.andThen_ok, run_storeVar_row w g t ty old cells hg hi hold h1]
  exact hK _ _ h
theorem wpListIn_store_blk {w : World} {ops : Array Oper} {rest : List Oper} {o : Oper} {ac : Act} {Q : Exit → Act → World → Prop} (hgd : o.guard = none) (x y : Operand) (ho : o.op = .store 43 x y)
    (H : Nat) (b b' : Blk) (a a' : Option Addr) (cap cap' : Nat) (hx : ac.eval x = .pointer (some ⟨H, 0, none⟩)) (hy : ac.eval y = .agg (b'.cells a' cap')) (hb : BlkAt w H b a cap)
    (h : ∀ w', BlkAt w' H b' a' cap' → w.grownBy w' (some H) → wpListIn F n Try.prog ops Q rest (ac.put o.dst undef) w') : wpListIn F n Try.prog ops Q (o :: rest) ac w :=
  wpListIn_store_row hgd 43 x y ho H _ hx hy 43 _ hb info43s rfl (Blk.one _ _ _) (h _ (setRow_heap w H _ _ _ _ hb) (grown_setRow _))

/-- A record in memory. -/
def RecAt (w : World) (H : Nat) (r : Rc) (a : Option Addr) (cap : Nat) : Prop := w.heap[H]? = some (.cells (r.cells a cap) 91 (0, 0))
theorem RecAt.cell {w : World} {H : Nat} {r : Rc} {a : Option Addr} {cap : Nat} (h : RecAt w H r a cap) (q : Nat) (u : Value) (hu : (r.cells a cap)[q]? = some u) : w.cell? ⟨H, q, none⟩ = some u := by
  rw [cell_of_row w H q _ _ _ h, hu]
theorem RecAt.free {w : World} {H : Nat} {r : Rc} {a : Option Addr} {cap : Nat} (h : RecAt w H r a cap) (q : Nat) : w.frozen? ⟨H, q, none⟩ = false := frozen_of_row w H q _ _ h
theorem RecAt.stored {w : World} {H : Nat} {r r' : Rc} {a a' : Option Addr} {cap cap' : Nat} (h : RecAt w H r a cap) (q : Nat) (u : Value) (hu : (r.cells a cap).setIfInBounds q u = r'.cells a' cap') : RecAt (w.setCell ⟨H, q, none⟩ u) H r' a' cap' := by
  unfold RecAt at *
  rw [heap_setCell_same w H q _ 91 _ h, hu]
theorem RecAt.later {w w' : World} {H : Nat} {r : Rc} {a : Option Addr} {cap : Nat} (h : RecAt w H r a cap) (hb : Below w.heap.size w w') : RecAt w' H r a cap := (hb.block H (lt_of_block h)).trans h
theorem RecAt.other {w : World} {H : Nat} {r : Rc} {a : Option Addr} {cap : Nat} (h : RecAt w H r a cap) (p : Addr) (u : Value) (hp : H ≠ p.block) : RecAt (w.setCell p u) H r a cap := (heap_setCell_other w p H u hp).trans h
theorem RecAt.kept {w w' : World} {H : Nat} {r : Rc} {a : Option Addr} {cap : Nat} {row : Option Nat} (h : RecAt w H r a cap) (hg : w.grownBy w' row) (hne : some H ≠ row) : RecAt w' H r a cap := (hg.block H (lt_of_block h) hne).trans h
theorem info91s : (Try.prog.info? 91).map (·.size) = some 3 := by kernel_rfl
theorem Rc.one (r : Rc) (a : Option Addr) (cap : Nat) : (r.cells a cap).all (·.oneCell') = true := by simp [Rc.cells, Value.oneCell']

theorem wpListIn_store_rec {w : World} {ops : Array Oper} {rest : List Oper} {o : Oper} {ac : Act} {Q : Exit → Act → World → Prop} (hgd : o.guard = none) (x y : Operand) (ho : o.op = .store 91 x y)
    (H : Nat) (b b' : Rc) (a a' : Option Addr) (cap cap' : Nat) (hx : ac.eval x = .pointer (some ⟨H, 0, none⟩)) (hy : ac.eval y = .agg (b'.cells a' cap')) (hb : RecAt w H b a cap)
    (h : ∀ w', RecAt w' H b' a' cap' → w.grownBy w' (some H) → wpListIn F n Try.prog ops Q rest (ac.put o.dst undef) w') : wpListIn F n Try.prog ops Q (o :: rest) ac w :=
  wpListIn_store_row hgd 91 x y ho H _ hx hy 91 _ hb info91s rfl (Rc.one _ _ _) (h _ (setRow_heap w H _ _ _ _ hb) (grown_setRow _))

theorem wpListIn_load_rec {w : World} {ops : Array Oper} {rest : List Oper} {o : Oper} {ac : Act} {Q : Exit → Act → World → Prop} (hgd : o.guard = none) (x : Operand) (ho : o.op = .load 91 x)
    (H : Nat) (b : Rc) (a : Option Addr) (cap : Nat) (hx : ac.eval x = .pointer (some ⟨H, 0, none⟩)) (hb : RecAt w H b a cap)
    (h : wpListIn F n Try.prog ops Q rest (ac.put o.dst (.agg (b.cells a cap))) w) : wpListIn F n Try.prog ops Q (o :: rest) ac w := by
  refine wpListIn_plain hgd fun K hK => ?_
  unfold Oper.wpIn
  refine ⟨by simp [Oper.about, ho], ?_⟩
  rw [Oper.semAt_plain F _ _ (by rw [ho]; intro c hc; cases hc)]
  unfold execOp
  simp only [ho, hx, Instr.loadAt, Instr.sureAddr, Sem.run_bind, Sem.run_pure, Result.andThen_ok, run_loadVar_row w H 91 91 _ _ _ hb Try.underlying91 rfl info91s]
  exact hK _ _ h

/-- 'append(v, x...)', v the call's own, x whatever reads as bytes; and where the new row lies. -/
theorem wpListIn_append_bytes {w : World} {ops : Array Oper} {rest : List Oper} {o : Oper} {a : Act} {Q : Exit → Act → World → Prop} (hgd : o.guard = none) (s x : Operand)
    (ho : o.op = .call { callee := .builtin .append, args := #[s, x], argTypes := #[22, 22] })
    (base : Nat) (v : Value) (l : List UInt8) (hs : a.eval s = v) (hown : OwnB w base v l)
    (ao : Option Addr) (m c : Nat) (src : List UInt8) (hx : a.eval x = .slice ao m c) (hm : m = src.length) (hnone : ao = none → m = 0 ∧ c = 0) (hsrc : IsBytes w ao src)
    (hlen : l.length + src.length ≤ 140737488355328) (hbase : base ≤ w.heap.size)
    (h : ∀ v' w', OwnB w' base v' (l ++ src) → w.grownBy w' v.ownBlock → (v'.ownBlock = v.ownBlock ∨ v'.ownBlock = some w.heap.size) → wpListIn F n Try.prog ops Q rest (a.put o.dst v') w') : wpListIn F n Try.prog ops Q (o :: rest) a w := by
  obtain ⟨i0, hi, hz0, hz1, hz2⟩ := info_parts info5
  cases ao with
  | none =>
    obtain ⟨hm0, hc0⟩ := hnone rfl
    have hs0 : src = [] := List.length_eq_zero_iff.1 (by omega)
    subst hs0
    subst hc0
    subst hm0
    refine wpListIn_plain hgd fun K hK => ?_
    have hrun := run_append_owned_none (P := Try.prog) (w := w) base 22 o.type 5 i0 1 Try.underlying22 hi v l.length (bvals l) hown
    unfold Oper.wpIn
    refine ⟨by simp [Oper.about, ho, resolve, Target.leads, Sem.run_pure], ?_⟩
    rw [Oper.semAt_plain F _ _ (by rw [ho]; intro c hc'; cases hc')]
    simp [execOp, ho, resolve, invoke, builtin, hs, hx, hrun, Result.andThen]
    exact hK _ _ (h v w (by simpa using hown) ⟨rfl, rfl, rfl, Nat.le_refl _, fun _ _ _ => rfl⟩ (.inl rfl))
  | some ad =>
    subst hm
    refine wpListIn_append_own_at (w := w) hgd s x 22 ho base 5 i0 (.int .u8 0) 1 1 Try.underlying22 hi hz0 hz1 hz2 rfl (by decide) v l.length (bvals l) hs hown ad src.length c (bvals src) hx (by rw [bvals_length]; omega)
      hsrc.cells (bvals_one src) (by unfold maxLen; omega) (by omega) hbase ?_
    intro v' w' h1 h2 _ h4
    exact h v' w' (by unfold OwnB; simpa [bvals] using h1) h2 h4
end

theorem info43z (w : World) : (zeroValue 43).run Try.prog w = .ok (.agg (noneB.cells none 0)) w := by kernel_rfl

/-- Behind 'r.Body = append(r.Body, x.Body...)'. -/
theorem whole_app {H X Xb n₀ : Nat} {w0 wv w6 : World} {r : Rc} {a1 : Option Addr} {c1 : Nat} {x : Blk} {ax : Option Addr} {cx : Nat} {pre : List RTrip} {J : List RTrip → World → Prop}
    (hn : n₀ = w0.heap.size) (hnH : n₀ ≤ H) (hJa : RAbides n₀ H J) (hs : BlkAt wv X x ax cx) (hr : RecAt wv H r a1 c1) (hown : RBody wv n₀ (r, a1, c1)) (hpre : ∀ p ∈ pre, RBody wv n₀ p)
    (hdis : ∀ p ∈ pre, ∀ q, (Value.slice p.2.1 p.1.body.length p.2.2).ownBlock = some q → (Value.slice a1 r.body.length c1).ownBlock ≠ some q) (hJ : J pre wv) (hb : Lo n₀ Xb w0 wv) (v6 : Value)
    (hown6 : OwnB w6 n₀ v6 (r.body ++ x.body)) (hg6 : wv.grownBy w6 (Value.slice a1 r.body.length c1).ownBlock) (hv6 : v6.ownBlock = (Value.slice a1 r.body.length c1).ownBlock ∨ v6.ownBlock = some wv.heap.size) :
    ∃ a6 c6, v6 = .slice a6 (r.body ++ x.body).length c6 ∧ RecAt w6 H r a1 c1 ∧ RecAt (w6.setCell ⟨H, 2, none⟩ v6) H ⟨r.kind, r.from_, r.body ++ x.body⟩ a6 c6 ∧ BlkAt (w6.setCell ⟨H, 2, none⟩ v6) X x ax cx ∧
      RBody (w6.setCell ⟨H, 2, none⟩ v6) n₀ (⟨r.kind, r.from_, r.body ++ x.body⟩, a6, c6) ∧ (∀ p ∈ pre, RBody (w6.setCell ⟨H, 2, none⟩ v6) n₀ p) ∧
      (∀ p ∈ pre, ∀ q, (Value.slice p.2.1 p.1.body.length p.2.2).ownBlock = some q → v6.ownBlock ≠ some q) ∧ J pre (w6.setCell ⟨H, 2, none⟩ v6) ∧ Lo n₀ Xb w0 (w6.setCell ⟨H, 2, none⟩ v6) := by
  obtain ⟨a6, c6, rfl, hby, hle, hcm, hbk, hno⟩ := hown6.slice
  have hnH2 : some H ≠ (Value.slice a1 r.body.length c1).ownBlock := fun e => by
    obtain ⟨c, f, z⟩ := Lib.ownsRow_kind hown _ e.symm
    rw [hr] at z; simp at z
  have hnX : some X ≠ (Value.slice a1 r.body.length c1).ownBlock := fun e => by
    obtain ⟨c, f, z⟩ := Lib.ownsRow_kind hown _ e.symm
    rw [hs] at z; simp at z
  have hHX : X ≠ H := fun e => by have h1 := hr; unfold RecAt at h1; rw [← e, hs] at h1; simp at h1
  have hr6 := hr.kept hg6 hnH2
  have hs6 : BlkAt w6 X x ax cx := hs.kept hg6 hnX
  have hdis6 : ∀ p ∈ pre, ∀ q, (Value.slice p.2.1 p.1.body.length p.2.2).ownBlock = some q → (Value.slice a6 (r.body ++ x.body).length c6).ownBlock ≠ some q := fun p hp q hq e => by
    rcases hv6 with h | h
    · exact hdis p hp q hq (h.symm.trans e)
    · have h2 := (World.ownsRow.lt (hpre p hp) q hq).2
      rw [h] at e
      injection e with e
      omega
  have hH6 : H < w6.heap.size := lt_of_block hr6
  have hgs := grown_setCell w6 ⟨H, 2, none⟩ (.slice a6 (r.body ++ x.body).length c6)
  have hoff : ∀ {l : List UInt8} {v : Value}, OwnB w6 n₀ v l → OwnB (w6.setCell ⟨H, 2, none⟩ (.slice a6 (r.body ++ x.body).length c6)) n₀ v l := fun {l v} h => by
    refine World.ownsRow.kept h hgs ?_
    cases e : v.ownBlock with
    | none => exact .inl rfl
    | some q =>
      right
      intro e2
      injection e2 with e2
      obtain ⟨c, f, z⟩ := Lib.ownsRow_kind h _ e
      rw [e2, hr6] at z; simp at z
  have h5n : ∀ q, (Value.slice a1 r.body.length c1).ownBlock = some q → n₀ ≤ q ∧ ∃ cs fz, wv.heap[q]? = some (.cells cs 5 fz) := fun q hq => ⟨hown.blk q hq, Lib.ownsRow_kind hown q hq⟩
  refine ⟨a6, c6, rfl, hr6, hr6.stored 2 _ rfl, hs6.other _ _ hHX, hoff hown6, fun p hp => hoff ?_, hdis6, ?_, ?_⟩
  · refine World.ownsRow.kept (hpre p hp) hg6 ?_
    cases e : (Value.slice p.2.1 p.1.body.length p.2.2).ownBlock with
    | none => exact .inl rfl
    | some q => exact .inr (fun e2 => hdis p hp q e e2.symm)
  · refine hJa pre _ _ _ (hJa pre _ _ _ hJ hg6 (fun q e => ?_)) hgs (fun q e => by cases e; exact ⟨hnH, .inl rfl⟩)
    obtain ⟨h1, cs, fz, h2⟩ := h5n q e
    exact ⟨h1, .inr ⟨cs, 5, fz, h2, .inl rfl⟩⟩
  · exact (hb.grown hg6 (by rw [hn]; exact hb.size) (fun q e => .inl (h5n q e).1)).grown hgs (by have := hg6.size; have := hb.size; omega) (fun q e => by cases e; exact .inl hnH)

set_option maxRecDepth 100000 in
set_option maxHeartbeats 8000000 in
theorem whole_in (F : Fence) (n : Nat) (h110 : F.fn 110) (hro : F.round = none) (hn : 1 ≤ n) (l Bs n₀ X : Nat) (ab : Option Addr) (cap : Nat) (L : List Blk) (J : List RTrip → World → Prop) (w0 W : World)
    (hn₀ : n₀ = w0.heap.size) (hW : Lo n₀ X w0 W) (hXs : ∀ (a : Addr) (u : Value), a.block = X → w0.cell? a = some u → ∃ q m c, u = .slice q m c) (hIs : IsBs w0 ab L) (hbody : ∀ x ∈ L, x.body.length ≤ 100) (hlen : L.length ≤ 1099511627777)
    (hBs : W.cell? ⟨Bs, 0, none⟩ = some (.slice ab L.length cap)) (hJa : RAbides n₀ W.heap.size J)
    (hY : ∀ pre x W1, J pre W1 → pre.length < L.length → W.heap.size < W1.heap.size → YieldAt F (n - 1) Try.prog l #[renc x] W1 fun e W' => e = .returned (.bool true) ∧ J (pre ++ [x]) W' ∧ RKeeps n₀ X W.heap.size W1 W')
    (h0 : J [] W) :
    CallsIn F n Try.prog 110 #[.func (.yield l) #[] #[], .pointer (some ⟨Bs, 0, none⟩)] W fun e W' => (∃ v, e = .returned v) ∧ ∃ xs, xs.map (·.1) = goRecs false noneR L ∧ J xs W' ∧ ∀ p ∈ xs, RBody W' n₀ p := by
  refine callsIn_of_wp Try.func110 rfl h110 ?_ hro
  simp only [Try.ntmps110, List.size_toArray, List.length_cons, List.length_nil, Nat.reduceAdd, Nat.reduceSub, Array.replicate_succ, Array.replicate_zero, List.push_toArray, List.append_toArray, List.nil_append, List.cons_append]
  have hBs2 : (W.alloc (.cells #[.int .u8 0, .int .u64 0, .slice none 0 0] 91)).cell? ⟨Bs, 0, none⟩ = some (.slice ab L.length cap) := cell_kept hBs (World.grownBy_alloc W _ none) (fun r e => by cases e)
  have hr0 : RecAt (W.alloc (.cells #[.int .u8 0, .int .u64 0, .slice none 0 0] 91)) W.heap.size noneR none 0 := heap_alloc_new _ _
  have hJ0 : J [] (W.alloc (.cells #[.int .u8 0, .int .u64 0, .slice none 0 0] 91)) := hJa [] W _ none h0 (World.grownBy_alloc W _ none) (fun r e => by cases e)
  have hb0 : Lo n₀ X w0 (W.alloc (.cells #[.int .u8 0, .int .u64 0, .slice none 0 0] 91)) := hW.alloc (by rw [hn₀]; exact hW.size) _
  have hs0 : W.heap.size < (W.alloc (.cells #[.int .u8 0, .int .u64 0, .slice none 0 0] 91)).heap.size := by simp
  gi_wp2
  obtain ⟨H, hH⟩ : ∃ H, H = W.heap.size := ⟨_, rfl⟩
  rw [← hH] at hJa hY hs0 hr0 ⊢
  clear hBs hBs2
  have hnH : n₀ ≤ H := by rw [hH, hn₀]; exact hW.size
  have HH := Lib.hid hH
  have Hn := Lib.hid hn₀
  clear hH
  gi_loopw [4, 9] (fun gv iv wr => ∃ (k : Nat) (g : Bool) (r : Rc) (ar : Option Addr) (cr : Nat) (pre : List RTrip), k ≤ L.length ∧ iv = .int .i64 (k : Int) ∧ gv = .bool g ∧
      RecAt wr H r ar cr ∧ RBody wr n₀ (r, ar, cr) ∧ r.body.length ≤ 100 * k ∧ (∀ p ∈ pre, RBody wr n₀ p) ∧ (g = true → ∀ p ∈ pre, ∀ q, (Value.slice p.2.1 p.1.body.length p.2.2).ownBlock = some q → (Value.slice ar r.body.length cr).ownBlock ≠ some q) ∧
      goRecs false noneR L = pre.map (·.1) ++ goRecs g r (L.drop k) ∧ pre.length ≤ k ∧ J pre wr ∧ Lo n₀ X w0 wr)
    (fun _ iv _ => L.length - (intOf iv).toNat)
  case atStart =>
    exact ⟨0, false, noneR, none, 0, [], Nat.zero_le _, rfl, rfl, hr0, OwnB.nil _ _, Nat.zero_le _, (fun p hp => nomatch hp), (fun h => nomatch h), rfl, Nat.le_refl _, hJ0, hb0⟩
  case round =>
    obtain ⟨k, g, r, ar, cr, pre, hk, rfl, rfl, hr, hown, hrl, hpre, hdis, hgo, hpl, hJ, hb⟩ := hrel
    clear hJ0 hb0 hs0 hr0 h0
    by_cases hlt : k < L.length
    · obtain ⟨b, off, ax, cx, rfl, hx0, hxb0, hxl, hxn⟩ := hIs k hlt
      have hcell : ∀ (a : Addr) (u : Value), w0.cell? a = some u → (∀ q m c, u ≠ .slice q m c) → wr.cell? a = some u := fun a u h1 h2 => (World.cell?_of_block (hb.block a.block (by rw [hn₀]; exact World.block_lt_of_cell? w0 _ h1) (fun e => by obtain ⟨q, m, c, e2⟩ := hXs a u e h1; exact h2 q m c e2))).trans h1
      have hx : ∀ j u, (L[k].cells ax cx)[j]? = some u → wr.cell? ⟨b, off + 5 * k + j, none⟩ = some u := fun j u hu => (World.cell?_of_block (a := ⟨b, off + 5 * k + j, none⟩) (hb.block b (by rw [hn₀]; exact World.block_lt_of_cell? w0 _ (hx0 j u hu)) (fun e => by obtain ⟨q, m, c, e2⟩ := hXs _ _ e (hx0 0 _ rfl); cases e2))).trans (hx0 j u hu)
      have hxb : IsBytes wr ax L[k].body := fun i hi => by
        obtain ⟨bb, of, e, hc⟩ := hxb0 i hi
        exact ⟨bb, of, e, hcell _ _ hc (fun _ _ _ e2 => by cases e2)⟩
      have hxlt : ∀ bb of, 0 < L[k].body.length → ax = some ⟨bb, of, none⟩ → bb < n₀ := fun bb of h1 h2 => by rw [hn₀]; exact hxb0.lt h2 h1
      clear hx0 hxb0 hcell
      have hdrop : L.drop k = L[k] :: L.drop (k + 1) := List.drop_eq_getElem_cons hlt
      have hx100 : L[k].body.length ≤ 100 := hbody _ (List.getElem_mem hlt)
      rw [hdrop] at hgo
      obtain ⟨x, hxk⟩ : ∃ x, x = L[k] := ⟨_, rfl⟩
      rw [← hxk] at hx hxb hxl hxn hgo hx100 hxlt
      have a0 : wr.cell? ⟨b, off + k * 5, none⟩ = some (.int .u64 (x.serial : Int)) := by have := hx 0 _ rfl; rw [show off + 5 * k + 0 = off + k * 5 by omega] at this; exact this
      have a1 : wr.cell? ⟨b, off + k * 5 + 1, none⟩ = some (.int .u8 (x.kind.toNat : Int)) := by have := hx 1 _ rfl; rw [show off + 5 * k + 1 = off + k * 5 + 1 by omega] at this; exact this
      have a2 : wr.cell? ⟨b, off + k * 5 + 2, none⟩ = some (.bool x.first) := by have := hx 2 _ rfl; rw [show off + 5 * k + 2 = off + k * 5 + 2 by omega] at this; exact this
      have a3 : wr.cell? ⟨b, off + k * 5 + 3, none⟩ = some (.bool x.last) := by have := hx 3 _ rfl; rw [show off + 5 * k + 3 = off + k * 5 + 3 by omega] at this; exact this
      have a4 : wr.cell? ⟨b, off + k * 5 + 4, none⟩ = some (.slice ax x.body.length cx) := by have := hx 4 _ rfl; rw [show off + 5 * k + 4 = off + k * 5 + 4 by omega] at this; exact this
      have hkI : (k : Int) < (L.length : Int) := by omega
      have hlen4 : r.body.length + x.body.length ≤ 140737488355328 := by omega
      have hxn' : ax = none → x.body.length = 0 ∧ cx = 0 := fun e => by obtain ⟨e1, e2⟩ := hxn e; exact ⟨by rw [e1]; rfl, e2⟩
      obtain ⟨w4, hw4⟩ : ∃ w4, w4 = wr.alloc (.cells (x.cells ax cx) 43) := ⟨_, rfl⟩
      have hbb : Below wr.heap.size wr w4 := by rw [hw4]; exact (Below.refl _ wr).alloc (Nat.le_refl _) _
      have hs : BlkAt w4 wr.heap.size x ax cx := by rw [hw4]; exact heap_alloc_new _ _
      have hr4 := hr.later hbb
      have hown4 : RBody w4 n₀ (r, ar, cr) := OwnB.later hown hbb
      have hpre4 : ∀ p ∈ pre, RBody w4 n₀ p := fun p hp => OwnB.later (hpre p hp) hbb
      have hxb4 := hxb.later hbb
      have hJ4 : J pre w4 := by rw [hw4]; exact hJa pre _ _ none hJ (World.grownBy_alloc wr _ none) (fun q e => by cases e)
      have hb4 : Lo n₀ X w0 w4 := hb.trans (Lo.of (hbb.mono (by rw [hn₀]; exact hb.size)))
      have hn4 : n₀ ≤ w4.heap.size := by rw [hn₀]; exact hb4.size
      have HX := Lib.hid hxk
      clear hxk
      obtain ⟨N, hN⟩ : ∃ N, N = L.length := ⟨_, rfl⟩
      rw [← hN] at hkI ⊢
      have HN := Lib.hid hN
      clear hN hx hxb hr hown hpre hJ hb hxn hbb hdrop
      cases hxf : x.first
      · cases g
        · -- no record has begun
          have hw5 : w4 = (wr.alloc (.cells #[.int .u64 (x.serial : Int), .int .u8 (x.kind.toNat : Int), .bool false, .bool x.last, .slice ax x.body.length cx] 43)) := by rw [hw4]; unfold Blk.cells; rw [hxf]
          rw [hw5] at hr4 hown4 hpre4 hJ4 hb4
          clear hw4 hs hxb4
          gi_wp2
          go_roundw
          case rel => exact ⟨k + 1, false, r, ar, cr, pre, by have := HN.out; omega, by go_num, rfl, hr4, hown4, by omega, hpre4, (fun h => nomatch h), by rw [hgo]; simp only [goRecs, goStep, hxf, Bool.false_eq_true, if_false, Bool.false_and, List.nil_append], by omega, hJ4, hb4⟩
          case measure => simp [intOf]; have := HN.out; omega
        · by_cases hkk : x.kind = r.kind
          · have hk5 : (x.kind == r.kind) = true := by simpa using hkk
            have hkI2 : ((x.kind.toNat : Int) == (r.kind.toNat : Int)) = true := by rw [hkk]; exact beq_self_eq_true _
            have hdis4 := hdis rfl
            have HK5 := Lib.hid hk5
            clear hkk hk5
            cases hxl2 : x.last
            ·
              have hw5 : w4 = (wr.alloc (.cells #[.int .u64 (x.serial : Int), .int .u8 (x.kind.toNat : Int), .bool false, .bool false, .slice ax x.body.length cx] 43)) := by rw [hw4]; unfold Blk.cells; rw [hxf, hxl2]
              rw [hw5] at hs hr4 hown4 hpre4 hJ4 hb4 hxb4 hn4
              clear hw4 hw5
              have r0 : World.cell? (wr.alloc (.cells #[.int .u64 (x.serial : Int), .int .u8 (x.kind.toNat : Int), .bool false, .bool false, .slice ax x.body.length cx] 43)) ⟨H, 0, none⟩ = some (.int .u8 (r.kind.toNat : Int)) := hr4.cell 0 _ rfl
              have r2 : World.cell? (wr.alloc (.cells #[.int .u64 (x.serial : Int), .int .u8 (x.kind.toNat : Int), .bool false, .bool false, .slice ax x.body.length cx] 43)) ⟨H, 2, none⟩ = some (.slice ar r.body.length cr) := hr4.cell 2 _ rfl
              gi_wp2_with (first
                | (refine wpListIn_append_bytes rfl (.tmp 31) (.tmp 33) rfl n₀ (.slice ar r.body.length cr) r.body rfl hown4 ax x.body.length cx x.body rfl rfl hxn' hxb4 (by first | omega | (simp only [List.length_nil]; omega)) hn4 ?_; intro v6 w6 hown6 hg6 hv6; obtain ⟨a6, c6, rfl, k1, k2, k3, k4, k5, k6, k7, k8⟩ := whole_app (r := r) (a1 := ar) (c1 := cr) Hn.out hnH hJa hs hr4 hown4 hpre4 hdis4 hJ4 hb4 v6 hown6 hg6 hv6; clear hown6 hg6 hv6 hs hr4 hown4 hpre4 hxb4 hn4 hJ4 hb4 r0 r2; have k1c : w6.cell? ⟨H, 2, none⟩ = some (.slice ar r.body.length cr) := k1.cell 2 _ rfl; have k1f := k1.free 2; have k3l : World.cell? (w6.setCell ⟨H, 2, none⟩ (.slice a6 (r.body ++ x.body).length c6)) ⟨wr.heap.size, 3, none⟩ = some (.bool false) := (by rw [← hxl2]; exact k3.cell 3 _ rfl); obtain ⟨B2, hB2⟩ : ∃ B2, B2 = r.body ++ x.body := ⟨_, rfl⟩; rw [← hB2] at k2 k3 k3l k4 k5 k6 k7 k8 ⊢; have HB2 := Lib.hid hB2; clear hB2))
              go_roundw
              case rel => exact ⟨k + 1, true, ⟨r.kind, r.from_, B2⟩, a6, c6, pre, by have := HN.out; omega, by go_num, rfl, k2, k4, by have := HB2.out; rw [this, List.length_append]; omega, k5, (fun _ => k6), by rw [hgo]; simp only [goRecs, goStep, hxf, hxl2, HK5.out, if_true, Bool.false_eq_true, if_false, Bool.and_self, List.nil_append]; rw [show B2 = r.body ++ x.body from HB2.out], by omega, k7, k8⟩
              case measure => simp [intOf]; have := HN.out; omega
            ·
              have hw5 : w4 = (wr.alloc (.cells #[.int .u64 (x.serial : Int), .int .u8 (x.kind.toNat : Int), .bool false, .bool true, .slice ax x.body.length cx] 43)) := by rw [hw4]; unfold Blk.cells; rw [hxf, hxl2]
              rw [hw5] at hs hr4 hown4 hpre4 hJ4 hb4 hxb4 hn4
              clear hw4 hw5
              have r0 : World.cell? (wr.alloc (.cells #[.int .u64 (x.serial : Int), .int .u8 (x.kind.toNat : Int), .bool false, .bool true, .slice ax x.body.length cx] 43)) ⟨H, 0, none⟩ = some (.int .u8 (r.kind.toNat : Int)) := hr4.cell 0 _ rfl
              have r2 : World.cell? (wr.alloc (.cells #[.int .u64 (x.serial : Int), .int .u8 (x.kind.toNat : Int), .bool false, .bool true, .slice ax x.body.length cx] 43)) ⟨H, 2, none⟩ = some (.slice ar r.body.length cr) := hr4.cell 2 _ rfl
              gi_wp2_with (first
                | (refine wpListIn_append_bytes rfl (.tmp 31) (.tmp 33) rfl n₀ (.slice ar r.body.length cr) r.body rfl hown4 ax x.body.length cx x.body rfl rfl hxn' hxb4 (by first | omega | (simp only [List.length_nil]; omega)) hn4 ?_; intro v6 w6 hown6 hg6 hv6; obtain ⟨a6, c6, rfl, k1, k2, k3, k4, k5, k6, k7, k8⟩ := whole_app (r := r) (a1 := ar) (c1 := cr) Hn.out hnH hJa hs hr4 hown4 hpre4 hdis4 hJ4 hb4 v6 hown6 hg6 hv6; clear hown6 hg6 hv6 hs hr4 hown4 hpre4 hxb4 hn4 hJ4 hb4 r0 r2; have k1c : w6.cell? ⟨H, 2, none⟩ = some (.slice ar r.body.length cr) := k1.cell 2 _ rfl; have k1f := k1.free 2; have k3l : World.cell? (w6.setCell ⟨H, 2, none⟩ (.slice a6 (r.body ++ x.body).length c6)) ⟨wr.heap.size, 3, none⟩ = some (.bool true) := (by rw [← hxl2]; exact k3.cell 3 _ rfl); obtain ⟨B2, hB2⟩ : ∃ B2, B2 = r.body ++ x.body := ⟨_, rfl⟩; rw [← hB2] at k2 k3 k3l k4 k5 k6 k7 k8 ⊢; have HB2 := Lib.hid hB2; clear hB2; obtain ⟨fn, tmps, assign, body, hy, hR⟩ := hY pre (⟨r.kind, r.from_, B2⟩, a6, c6) _ k7 (by have := HN.out; omega) (lt_of_block k2); dsimp only [renc] at hy)
                | (refine wpListIn_load_rec rfl (.tmp 3) rfl H ⟨r.kind, r.from_, B2⟩ a6 c6 rfl k2 ?_))
              refine hR.mono ?_
              rintro e W8 ⟨rfl, hJ8, hk8⟩
              gi_wp2
              go_roundw
              case rel => exact ⟨k + 1, false, ⟨r.kind, r.from_, B2⟩, a6, c6, pre ++ [(⟨r.kind, r.from_, B2⟩, a6, c6)], by have := HN.out; omega, by go_num, rfl, hk8.own.trans k2, k4.kept hk8, by have := HB2.out; rw [this, List.length_append]; omega, (fun p hp => by rcases List.mem_append.1 hp with hp | hp; exact (k5 p hp).kept hk8; rw [List.mem_singleton] at hp; subst hp; exact k4.kept hk8), (fun h => nomatch h), by rw [hgo, List.map_append, List.append_assoc]; congr 1; simp only [goRecs, goStep, hxf, hxl2, HK5.out, if_true, Bool.false_eq_true, if_false, Bool.and_self, List.nil_append]; rw [show B2 = r.body ++ x.body from HB2.out]; rfl, by rw [List.length_append, List.length_singleton]; omega, hJ8, k8.trans hk8.below⟩
              case measure => simp [intOf]; have := HN.out; omega
          · have hk5 : (x.kind == r.kind) = false := by simpa using hkk
            have hkI2 : ((x.kind.toNat : Int) == (r.kind.toNat : Int)) = false := by rw [beq_eq_false_iff_ne]; exact fun e => hkk (UInt8.toNat_inj.1 (by omega))
            have hw5 : w4 = (wr.alloc (.cells #[.int .u64 (x.serial : Int), .int .u8 (x.kind.toNat : Int), .bool false, .bool x.last, .slice ax x.body.length cx] 43)) := by rw [hw4]; unfold Blk.cells; rw [hxf]
            rw [hw5] at hr4 hown4 hpre4 hJ4 hb4
            have r0 : World.cell? (wr.alloc (.cells #[.int .u64 (x.serial : Int), .int .u8 (x.kind.toNat : Int), .bool false, .bool x.last, .slice ax x.body.length cx] 43)) ⟨H, 0, none⟩ = some (.int .u8 (r.kind.toNat : Int)) := hr4.cell 0 _ rfl
            clear hw4 hs hxb4
            gi_wp2
            go_roundw
            case rel => exact ⟨k + 1, false, r, ar, cr, pre, by have := HN.out; omega, by go_num, rfl, hr4, hown4, by omega, hpre4, (fun h => nomatch h), by rw [hgo]; simp only [goRecs, goStep, hxf, hk5, Bool.false_eq_true, if_false, Bool.and_false, List.nil_append], by omega, hJ4, hb4⟩
            case measure => simp [intOf]; have := HN.out; omega
      · cases hxl2 : x.last
        ·
          have hw5 : w4 = (wr.alloc (.cells #[.int .u64 (x.serial : Int), .int .u8 (x.kind.toNat : Int), .bool true, .bool false, .slice ax x.body.length cx] 43)) := by rw [hw4]; unfold Blk.cells; rw [hxf, hxl2]
          rw [hw5] at hs hr4 hown4 hpre4 hJ4 hb4 hxb4 hn4
          clear hw4 hw5
          have h5 : ∀ w5, RecAt w5 H ⟨x.kind, x.serial, []⟩ none 0 → World.grownBy (wr.alloc (.cells #[.int .u64 (x.serial : Int), .int .u8 (x.kind.toNat : Int), .bool true, .bool false, .slice ax x.body.length cx] 43)) w5 (some H) → BlkAt w5 wr.heap.size x ax cx ∧ (∀ p ∈ pre, RBody w5 n₀ p) ∧ IsBytes w5 ax x.body ∧ J pre w5 ∧ Lo n₀ X w0 w5 := fun w5 hr5 hg5 => by
            refine ⟨hs.kept hg5 (fun e => ?_), fun p hp => ?_, ?_, hJa pre _ _ _ hJ4 hg5 (fun q e => by cases e; exact ⟨hnH, .inl rfl⟩), hb4.grown hg5 hn4 (fun q e => by cases e; exact .inl hnH)⟩
            · injection e with e
              have h1 := hr4; unfold RecAt at h1; rw [← e, hs] at h1; simp at h1
            · refine World.ownsRow.kept (hpre4 p hp) hg5 ?_
              cases e : (Value.slice p.2.1 p.1.body.length p.2.2).ownBlock with
              | none => exact .inl rfl
              | some q =>
                right; intro e2
                injection e2 with e2
                obtain ⟨c, f, z⟩ := Lib.ownsRow_kind (hpre4 p hp) _ e
                rw [e2, hr4] at z; simp at z
            · intro i hi
              obtain ⟨bb, of, e, hc⟩ := hxb4 i hi
              have hlt2 := World.block_lt_of_cell? _ _ hc
              refine ⟨bb, of, e, (World.cell?_of_block (a := ⟨bb, of + i, none⟩) (hg5.block bb hlt2 (fun e2 => ?_))).trans hc⟩
              injection e2 with e2
              have := hxlt bb of (by omega) e
              omega
          gi_wp2_with (first
            | (refine wpListIn_store_rec rfl (.tmp 3) (.tmp 19) rfl H r ⟨x.kind, x.serial, []⟩ ar none cr 0 rfl rfl hr4 ?_; intro w5 hr5 hg5; refine over_world (R := fun V => RecAt V H ⟨x.kind, x.serial, []⟩ none 0 ∧ BlkAt V wr.heap.size x ax cx ∧ (∀ p ∈ pre, RBody V n₀ p) ∧ IsBytes V ax x.body ∧ J pre V ∧ Lo n₀ X w0 V) ⟨hr5, h5 w5 hr5 hg5⟩ ?_; clear h5 hr5 hg5 hs hr4 hown4 hpre4 hJ4 hb4 hxb4 hn4; rintro wv ⟨hr4, hs, hpre4, hxb4, hJ4, hb4⟩; have r0 : wv.cell? ⟨H, 0, none⟩ = some (.int .u8 (x.kind.toNat : Int)) := hr4.cell 0 _ rfl; have r2 : wv.cell? ⟨H, 2, none⟩ = some (.slice none 0 0) := hr4.cell 2 _ rfl; have s1 : wv.cell? ⟨wr.heap.size, 1, none⟩ = some (.int .u8 (x.kind.toNat : Int)) := hs.cell 1 _ rfl; have s4 : wv.cell? ⟨wr.heap.size, 4, none⟩ = some (.slice ax x.body.length cx) := hs.cell 4 _ rfl; have hown4 : RBody wv n₀ (⟨x.kind, x.serial, []⟩, none, 0) := OwnB.nil _ _; have hn4 : n₀ ≤ wv.heap.size := by rw [Hn.out]; exact hb4.size)
            | (refine wpListIn_append_bytes rfl (.tmp 31) (.tmp 33) rfl n₀ (.slice none 0 0) [] rfl hown4 ax x.body.length cx x.body rfl rfl hxn' hxb4 (by first | omega | (simp only [List.length_nil]; omega)) hn4 ?_; intro v6 w6 hown6 hg6 hv6; obtain ⟨a6, c6, rfl, k1, k2, k3, k4, k5, k6, k7, k8⟩ := whole_app (r := ⟨x.kind, x.serial, []⟩) (a1 := none) (c1 := 0) Hn.out hnH hJa hs hr4 hown4 hpre4 (fun p hp q hq e => nomatch e) hJ4 hb4 v6 hown6 hg6 hv6; clear hown6 hg6 hv6 hs hr4 hown4 hpre4 hxb4 hn4 hJ4 hb4 r0 r2 s1 s4; have k1c : w6.cell? ⟨H, 2, none⟩ = some (.slice none ([] : List UInt8).length 0) := k1.cell 2 _ rfl; have k1f := k1.free 2; have k3l : World.cell? (w6.setCell ⟨H, 2, none⟩ (.slice a6 (([] : List UInt8) ++ x.body).length c6)) ⟨wr.heap.size, 3, none⟩ = some (.bool false) := (by rw [← hxl2]; exact k3.cell 3 _ rfl); obtain ⟨B2, hB2⟩ : ∃ B2, B2 = [] ++ x.body := ⟨_, rfl⟩; rw [← hB2] at k2 k3 k3l k4 k5 k6 k7 k8 ⊢; have HB2 := Lib.hid hB2; clear hB2))
          go_roundw
          case rel => exact ⟨k + 1, true, ⟨x.kind, x.serial, B2⟩, a6, c6, pre, by have := HN.out; omega, by go_num, rfl, k2, k4, by have := HB2.out; rw [this]; simp only [List.nil_append]; omega, k5, (fun _ => k6), by rw [hgo]; simp only [goRecs, goStep, hxf, hxl2, if_true, Bool.false_eq_true, if_false, beq_self_eq_true, Bool.and_self, List.nil_append]; rw [show B2 = x.body from HB2.out], by omega, k7, k8⟩
          case measure => simp [intOf]; have := HN.out; omega
        ·
          have hw5 : w4 = (wr.alloc (.cells #[.int .u64 (x.serial : Int), .int .u8 (x.kind.toNat : Int), .bool true, .bool true, .slice ax x.body.length cx] 43)) := by rw [hw4]; unfold Blk.cells; rw [hxf, hxl2]
          rw [hw5] at hs hr4 hown4 hpre4 hJ4 hb4 hxb4 hn4
          clear hw4 hw5
          have h5 : ∀ w5, RecAt w5 H ⟨x.kind, x.serial, []⟩ none 0 → World.grownBy (wr.alloc (.cells #[.int .u64 (x.serial : Int), .int .u8 (x.kind.toNat : Int), .bool true, .bool true, .slice ax x.body.length cx] 43)) w5 (some H) → BlkAt w5 wr.heap.size x ax cx ∧ (∀ p ∈ pre, RBody w5 n₀ p) ∧ IsBytes w5 ax x.body ∧ J pre w5 ∧ Lo n₀ X w0 w5 := fun w5 hr5 hg5 => by
            refine ⟨hs.kept hg5 (fun e => ?_), fun p hp => ?_, ?_, hJa pre _ _ _ hJ4 hg5 (fun q e => by cases e; exact ⟨hnH, .inl rfl⟩), hb4.grown hg5 hn4 (fun q e => by cases e; exact .inl hnH)⟩
            · injection e with e
              have h1 := hr4; unfold RecAt at h1; rw [← e, hs] at h1; simp at h1
            · refine World.ownsRow.kept (hpre4 p hp) hg5 ?_
              cases e : (Value.slice p.2.1 p.1.body.length p.2.2).ownBlock with
              | none => exact .inl rfl
              | some q =>
                right; intro e2
                injection e2 with e2
                obtain ⟨c, f, z⟩ := Lib.ownsRow_kind (hpre4 p hp) _ e
                rw [e2, hr4] at z; simp at z
            · intro i hi
              obtain ⟨bb, of, e, hc⟩ := hxb4 i hi
              have hlt2 := World.block_lt_of_cell? _ _ hc
              refine ⟨bb, of, e, (World.cell?_of_block (a := ⟨bb, of + i, none⟩) (hg5.block bb hlt2 (fun e2 => ?_))).trans hc⟩
              injection e2 with e2
              have := hxlt bb of (by omega) e
              omega
          gi_wp2_with (first
            | (refine wpListIn_store_rec rfl (.tmp 3) (.tmp 19) rfl H r ⟨x.kind, x.serial, []⟩ ar none cr 0 rfl rfl hr4 ?_; intro w5 hr5 hg5; refine over_world (R := fun V => RecAt V H ⟨x.kind, x.serial, []⟩ none 0 ∧ BlkAt V wr.heap.size x ax cx ∧ (∀ p ∈ pre, RBody V n₀ p) ∧ IsBytes V ax x.body ∧ J pre V ∧ Lo n₀ X w0 V) ⟨hr5, h5 w5 hr5 hg5⟩ ?_; clear h5 hr5 hg5 hs hr4 hown4 hpre4 hJ4 hb4 hxb4 hn4; rintro wv ⟨hr4, hs, hpre4, hxb4, hJ4, hb4⟩; have r0 : wv.cell? ⟨H, 0, none⟩ = some (.int .u8 (x.kind.toNat : Int)) := hr4.cell 0 _ rfl; have r2 : wv.cell? ⟨H, 2, none⟩ = some (.slice none 0 0) := hr4.cell 2 _ rfl; have s1 : wv.cell? ⟨wr.heap.size, 1, none⟩ = some (.int .u8 (x.kind.toNat : Int)) := hs.cell 1 _ rfl; have s4 : wv.cell? ⟨wr.heap.size, 4, none⟩ = some (.slice ax x.body.length cx) := hs.cell 4 _ rfl; have hown4 : RBody wv n₀ (⟨x.kind, x.serial, []⟩, none, 0) := OwnB.nil _ _; have hn4 : n₀ ≤ wv.heap.size := by rw [Hn.out]; exact hb4.size)
            | (refine wpListIn_append_bytes rfl (.tmp 31) (.tmp 33) rfl n₀ (.slice none 0 0) [] rfl hown4 ax x.body.length cx x.body rfl rfl hxn' hxb4 (by first | omega | (simp only [List.length_nil]; omega)) hn4 ?_; intro v6 w6 hown6 hg6 hv6; obtain ⟨a6, c6, rfl, k1, k2, k3, k4, k5, k6, k7, k8⟩ := whole_app (r := ⟨x.kind, x.serial, []⟩) (a1 := none) (c1 := 0) Hn.out hnH hJa hs hr4 hown4 hpre4 (fun p hp q hq e => nomatch e) hJ4 hb4 v6 hown6 hg6 hv6; clear hown6 hg6 hv6 hs hr4 hown4 hpre4 hxb4 hn4 hJ4 hb4 r0 r2 s1 s4; have k1c : w6.cell? ⟨H, 2, none⟩ = some (.slice none ([] : List UInt8).length 0) := k1.cell 2 _ rfl; have k1f := k1.free 2; have k3l : World.cell? (w6.setCell ⟨H, 2, none⟩ (.slice a6 (([] : List UInt8) ++ x.body).length c6)) ⟨wr.heap.size, 3, none⟩ = some (.bool true) := (by rw [← hxl2]; exact k3.cell 3 _ rfl); obtain ⟨B2, hB2⟩ : ∃ B2, B2 = [] ++ x.body := ⟨_, rfl⟩; rw [← hB2] at k2 k3 k3l k4 k5 k6 k7 k8 ⊢; have HB2 := Lib.hid hB2; clear hB2; obtain ⟨fn, tmps, assign, body, hy, hR⟩ := hY pre (⟨x.kind, x.serial, B2⟩, a6, c6) _ k7 (by have := HN.out; omega) (lt_of_block k2); dsimp only [renc] at hy)
            | (refine wpListIn_load_rec rfl (.tmp 3) rfl H ⟨x.kind, x.serial, B2⟩ a6 c6 rfl k2 ?_))
          refine hR.mono ?_
          rintro e W8 ⟨rfl, hJ8, hk8⟩
          gi_wp2
          go_roundw
          case rel => exact ⟨k + 1, false, ⟨x.kind, x.serial, B2⟩, a6, c6, pre ++ [(⟨x.kind, x.serial, B2⟩, a6, c6)], by have := HN.out; omega, by go_num, rfl, hk8.own.trans k2, k4.kept hk8, by have := HB2.out; rw [this]; simp only [List.nil_append]; omega, (fun p hp => by rcases List.mem_append.1 hp with hp | hp; exact (k5 p hp).kept hk8; rw [List.mem_singleton] at hp; subst hp; exact k4.kept hk8), (fun h => nomatch h), by rw [hgo, List.map_append, List.append_assoc]; congr 1; simp only [goRecs, goStep, hxf, hxl2, if_true, Bool.false_eq_true, if_false, beq_self_eq_true, Bool.and_self, List.nil_append]; rw [show B2 = x.body from HB2.out]; rfl, by rw [List.length_append, List.length_singleton]; omega, hJ8, k8.trans hk8.below⟩
          case measure => simp [intOf]; have := HN.out; omega
    · have hk2 : k = L.length := by omega
      subst hk2
      rw [List.drop_length] at hgo
      simp only [goRecs, List.append_nil] at hgo
      gi_wp2
      go_end0
      exact ⟨⟨_, rfl⟩, pre, hgo.symm, hJ, hpre⟩
end Go.Proofs.Ytdlbjllgdikadaa

namespace Go.Proofs.Ytdlbjllgdikadaa
open Go.RowKit Go.Shelf
set_option linter.unusedVariables false
set_option linter.unusedSimpArgs false
attribute [local go_sem] Oper.semAt_some

set_option maxRecDepth 100000 in
set_option maxHeartbeats 1000000 in
/-- whole(l). -/
theorem whole_made (F : Fence) (n : Nat) (h94 : F.fn 94) (hro : F.round = none) (a : Option Addr) (len cap : Nat) (w : World) :
    CallsIn F n Try.prog 94 #[.slice a len cap] w fun e w' => e = .returned (.func (.func 110) #[] #[.pointer (some ⟨w.heap.size, 0, none⟩)]) ∧ w' = w.alloc (.cells #[.slice a len cap] 32) := by
  refine callsIn_of_wp Try.func94 rfl h94 ?_ hro
  simp only [Try.ntmps94, List.size_toArray, List.length_cons, List.length_nil, Nat.reduceAdd, Nat.reduceSub, Array.replicate_succ, Array.replicate_zero, List.push_toArray, List.append_toArray, List.nil_append, List.cons_append]
  gi_wp2
  go_ret
  exact ⟨rfl, rfl⟩

theorem whole_stops (F : Fence) (n : Nat) (h110 : F.fn 110) (hro : F.round = none) (hn : 1 ≤ n) (Bs n₀ X : Nat) (ab : Option Addr) (cap : Nat) (L : List Blk) (w0 w : World)
    (hn₀ : n₀ = w0.heap.size) (hW : Lo n₀ X w0 w) (hXs : ∀ (a : Addr) (u : Value), a.block = X → w0.cell? a = some u → ∃ q m c, u = .slice q m c) (hIs : IsBs w0 ab L) (hbody : ∀ x ∈ L, x.body.length ≤ 100) (hlen : L.length ≤ 1099511627777) (hBs : w.cell? ⟨Bs, 0, none⟩ = some (.slice ab L.length cap)) :
    WholeStops F n n₀ X #[.pointer (some ⟨Bs, 0, none⟩)] L w := fun l J W hb hJ hY h0 => by
  have hlt := World.block_lt_of_cell? w _ hBs
  exact whole_in F n h110 hro hn l Bs n₀ X ab cap L J w0 W hn₀ (hW.trans (Lo.of (hb.mono (by rw [hn₀]; exact hW.size)))) hXs hIs hbody hlen ((hb.cell (p := ⟨Bs, 0, none⟩) hlt).trans hBs) hJ hY h0

theorem rcellsOf_snoc (r : List RTrip) (x : RTrip) : rcellsOf (r ++ [x]) = rcellsOf r ++ (x.1.cells x.2.1 x.2.2).toList := by
  rw [rcellsOf_append]; simp [rcellsOf]

section
variable {F : Fence} {n : Nat}
/-- 'append(v, x)', a record. -/
theorem wpListIn_append_rec {w : World} {ops : Array Oper} {rest : List Oper} {o : Oper} {a : Act} {Q : Exit → Act → World → Prop} (hgd : o.guard = none) (s x : Operand)
    (ho : o.op = .call { callee := .builtin .append, args := #[s, x], argTypes := #[83, 83] })
    (base : Nat) (v : Value) (r : List RTrip) (hs : a.eval s = v) (hown : w.ownsRow base 91 3 v r.length (rcellsOf r))
    (p : RTrip) (g m : Nat) (hx : a.eval x = .slice (some ⟨g, 0, none⟩) m m) (hm : m = 1) (hcells : ∀ j u, (p.1.cells p.2.1 p.2.2)[j]? = some u → w.cell? ⟨g, j, none⟩ = some u)
    (hlen : r.length ≤ 1099511627777) (hbase : base ≤ w.heap.size)
    (h : ∀ v' w', w'.ownsRow base 91 3 v' (r ++ [p]).length (rcellsOf (r ++ [p])) → w.grownBy w' v.ownBlock → (v'.ownBlock = v.ownBlock ∨ v'.ownBlock = some w.heap.size) → wpListIn F n Try.prog ops Q rest (a.put o.dst v') w') : wpListIn F n Try.prog ops Q (o :: rest) a w := by
  obtain ⟨i0, hi, hz0, hz1, hz2⟩ := info_parts info91
  subst hm
  refine wpListIn_append_own_at (w := w) hgd s x 83 ho base 91 i0 (.agg #[.int .u8 0, .int .u64 0, .slice none 0 0]) 3 40 (by kernel_rfl) hi hz0 hz1 hz2 rfl (by decide) v r.length (rcellsOf r) hs hown ⟨g, 0, none⟩ 1 1 (p.1.cells p.2.1 p.2.2).toList hx rfl
    (fun j u hu => by rw [Addr.add_lit, Nat.zero_add]; exact hcells j u (by simpa using hu)) (fun u hu => by
      simp [Rc.cells] at hu
      rcases hu with rfl | rfl | rfl <;> rfl) (by unfold maxLen; omega) (by omega) hbase ?_
  intro v' w' k1 k2 _ k4
  refine h v' w' ?_ k2 k4
  rw [rcellsOf_snoc, List.length_append]
  exact k1
end

/-- What the collected rows are, behind 'out = append(out, r)'. -/
theorem rec_appended {W w1 : World} {n₀ nb X B H : Nat} {v v' : Value} {r : List RTrip} {p : RTrip} {tmp : Obj} (hv : Boxed W B 83 v) (hrow : W.ownsRow nb 91 3 v r.length (rcellsOf r)) (hrn : ∀ q, v.ownBlock = some q → n₀ ≤ q) (hvH : v.ownBlock ≠ some H) (hn₀ : n₀ ≤ W.heap.size) (hnb : nb ≤ n₀) (hB : nb ≤ B) (hBX : n₀ ≤ B ∨ B = X) (hBH : B ≠ H) (hH : H < W.heap.size)
    (hown' : w1.ownsRow nb 91 3 v' (r ++ [p]).length (rcellsOf (r ++ [p]))) (hgrow : (W.alloc tmp).grownBy w1 v.ownBlock) (hat : v'.ownBlock = v.ownBlock ∨ v'.ownBlock = some (W.alloc tmp).heap.size) :
    Boxed w1 B 83 v ∧ Boxed (w1.setCell ⟨B, 0, none⟩ v') B 83 v' ∧ (w1.setCell ⟨B, 0, none⟩ v').ownsRow nb 91 3 v' (r ++ [p]).length (rcellsOf (r ++ [p])) ∧ v'.ownBlock ≠ some H ∧ (∀ q, v'.ownBlock = some q → n₀ ≤ q) ∧ KeepsOthers W (w1.setCell ⟨B, 0, none⟩ v') ∧ Below nb W (w1.setCell ⟨B, 0, none⟩ v') ∧ RKeeps n₀ X H W (w1.setCell ⟨B, 0, none⟩ v') := by
  obtain ⟨h1, h2, h3, h4, h5⟩ := hv.appended (by decide) hrow (by omega) hB hown' hgrow
  refine ⟨h1, h2, h3, ?_, fun q e => ?_, h4, h5, ?_⟩
  · rcases hat with h | h
    · rw [h]; exact hvH
    · rw [h]; intro e; injection e with e; rw [World.size_alloc] at e; omega
  · rcases hat with h | h
    · exact hrn q (h.symm.trans e)
    · rw [h] at e; injection e with e; rw [World.size_alloc] at e; omega
  · refine ((RKeeps.grown (World.grownBy_alloc W tmp none) hn₀ hH (fun q e => by cases e)).trans (RKeeps.grown hgrow (by rw [World.size_alloc]; omega) (by rw [World.size_alloc]; omega) (fun q e => ?_))).trans (RKeeps.grown (grownBy_setCell' w1 B v') (by have := hgrow.size; rw [World.size_alloc] at this; omega) (by have := hgrow.size; rw [World.size_alloc] at this; omega) (fun q e => ?_))
    · refine ⟨.inl (hrn q e), fun e2 => hvH (by rw [e, e2]), fun cs fz e3 => ?_⟩
      obtain ⟨c, f, z⟩ := Lib.ownsRow_kind (hrow.alloc tmp) q e
      rw [e3] at z; simp at z
    · cases e
      refine ⟨hBX, hBH, fun cs fz e3 => ?_⟩
      have h1' : w1.heap[B]? = _ := h1
      rw [e3] at h1'; simp at h1'

set_option maxRecDepth 100000 in
set_option maxHeartbeats 8000000 in
theorem records_calls (ab : Option Addr) (cap : Nat) (L : List Blk) (w : World) (hIs : IsBs w ab L) (hbody : ∀ x ∈ L, x.body.length ≤ 100) (hlen : L.length ≤ 1099511627777) :
    Calls Try.prog 61 #[.slice ab L.length cap] w fun e w' => ∃ v, e = .returned v ∧ OwnRs w' w.heap.size v (refRecs L) ∧ Below w.heap.size w w' := by
  refine (callsIn_wide (n := 6)).1 ?_
  refine callsIn_of_wp_marks Try.func61 rfl trivial ?_ rfl
  simp only [Try.ntmps61, List.size_toArray, List.length_cons, List.length_nil, Nat.reduceAdd, Nat.reduceSub, Array.replicate_succ, Array.replicate_zero, List.push_toArray, List.append_toArray, List.nil_append, List.cons_append]
  gi_wp2_with (refine ⟨trivial, ?_⟩; gi_at_call 94; refine (whole_made Fence.wide _ trivial rfl _ _ _ _).mono ?_; rintro e w' ⟨rfl, rfl⟩)
  have bO := Boxed.new w 83 (.slice none 0 0)
  have bN := Boxed.new (w.alloc (.cells #[.slice none 0 0] 83)) 32 (.slice ab L.length cap)
  rw [World.size_alloc] at bN
  have hB0 : Below w.heap.size w ((w.alloc (.cells #[.slice none 0 0] 83)).alloc (.cells #[.slice ab L.length cap] 32)) := ((Below.refl _ w).alloc (Nat.le_refl _) _).alloc (by simp) _
  have hst := whole_stops Fence.wide 5 trivial rfl (by omega) (w.heap.size + 1) w.heap.size w.heap.size ab cap L w _ rfl (Lo.of hB0) (fun a u h1 h2 => by have := World.block_lt_of_cell? w _ h2; omega) hIs hbody hlen bN.cell
  obtain ⟨W0, hW0⟩ : ∃ W0, W0 = (w.alloc (.cells #[.slice none 0 0] 83)).alloc (.cells #[.slice ab L.length cap] 32) := ⟨_, rfl⟩
  have hbO : Boxed W0 w.heap.size 83 (.slice none 0 0) := by rw [hW0]; exact bO.alloc _
  have hsz : W0.heap.size = w.heap.size + 2 := by rw [hW0]; simp
  rw [← hW0] at hst hB0 ⊢
  clear hW0 bO bN
  obtain ⟨B, hB⟩ : ∃ B, B = w.heap.size := ⟨_, rfl⟩
  rw [← hB] at hst hB0 hbO hsz ⊢
  have HB := Lib.hid hB
  clear hB
  obtain ⟨H, hH⟩ : ∃ H, H = B + 4 := ⟨_, rfl⟩
  have hHs : W0.heap.size + 2 = H := by omega
  have HS := Lib.hid (And.intro hsz (And.intro hH hHs))
  refine wpIn_rangeW rfl (by omega) (lb := #[.pointer (some ⟨B + 1, 0, none⟩)]) rfl trivial (enters_of Try.func110 (by kernel_rfl) rfl) hst (by omega) rfl
    (fun pre W => (∃ v, Boxed W B 83 v ∧ W.ownsRow B 91 3 v pre.length (rcellsOf pre) ∧ v.ownBlock ≠ some H) ∧ Below B w W)
    (OwnFrom.and (Own.from (holdsRow_own B B 83 91 3 (fun pre => pre.length) (fun pre => rcellsOf pre) (fun pre v => v.ownBlock ≠ some H)) _) (ownFrom_below (Nat.le_of_eq HB.out) (by omega)))
    ?abides ⟨⟨_, hbO, World.ownsRow_nil _ _ _ _, by simp [Value.ownBlock]⟩, hB0⟩
    (fun x a' W => ∃ Bx, a' = { tmps := #[.slice ab L.length cap, undef, .slice none 0 0, .pointer (some ⟨B, 0, none⟩), .pointer (some ⟨Bx, 0, none⟩), .slice ab L.length cap, .func (.func 110) #[] #[.pointer (some ⟨B + 1, 0, none⟩)], renc x, undef, undef, undef, undef, undef], defers := [] } ∧ RecAt W Bx x.1 x.2.1 x.2.2)
    (fun x a' s A C row hs hg hr => by
      obtain ⟨Bx, h1, h2⟩ := hs
      refine ⟨Bx, h1, h2.kept hg (fun e => ?_)⟩
      obtain ⟨_, o, ho, hc⟩ := hr Bx e.symm
      have h3 : A.heap[Bx]? = _ := h2
      rw [ho] at h3; cases h3; cases hc)
    ?assign ?body ?done
  case abides =>
    rintro s A C row ⟨⟨v, hv, hrow, hvH⟩, hb⟩ hg hr
    rw [hHs] at hr
    refine ⟨⟨v, hv.kept hg (fun e => ?_), hrow.kept hg ?_, hvH⟩, hb.grown hg (Nat.le_trans (Nat.le_of_eq HB.out) hb.size) (fun k e => (hr k e).1)⟩
    · rcases (hr B e.symm).2 with e2 | ⟨cs, t, fz, e2, e3⟩
      · omega
      · have hv' : A.heap[B]? = _ := hv
        rw [hv'] at e2; cases e2; rcases e3 with e3 | e3 <;> exact absurd e3 (by decide)
    · cases e : v.ownBlock with
      | none => exact .inl rfl
      | some q =>
        right; intro e2
        rcases (hr q e2.symm).2 with e3 | ⟨cs, t, fz, e3, e4⟩
        · exact hvH (by rw [e, e3])
        · obtain ⟨c, f, z⟩ := Lib.ownsRow_kind hrow q e
          rw [z] at e3; cases e3; rcases e4 with e4 | e4 <;> exact absurd e4 (by decide)
  case assign =>
    rintro l pre x W K ⟨⟨v, hv, hrow, hvH⟩, hb⟩ hlt hK
    rw [hHs] at hlt hK
    have hz : RecAt (W.alloc (.cells #[.int .u8 0, .int .u64 0, .slice none 0 0] 91)) W.heap.size noneR none 0 := heap_alloc_new _ _
    have hnW : B ≤ W.heap.size := Nat.le_trans (Nat.le_of_eq HB.out) hb.size
    gi_wp2_with (refine wpListIn_store_rec rfl (.tmp 4) (.tmp 7) rfl W.heap.size noneR x.1 none x.2.1 0 x.2.2 rfl rfl hz ?_; intro w4 hs4 hg4)
    have hlt4 : ∀ q, some q = some W.heap.size → ∀ cs fz, (W.alloc (.cells #[.int .u8 0, .int .u64 0, .slice none 0 0] 91)).heap[q]? ≠ some (.cells cs 5 fz) := fun q e cs fz e2 => by
      cases e
      rw [show (W.alloc (.cells #[.int .u8 0, .int .u64 0, .slice none 0 0] 91)).heap[W.heap.size]? = _ from hz] at e2
      simp at e2
    refine hK _ _ ((KeepsOthers.alloc W _).trans (KeepsOthers.of_grownBy hg4 fun j o ej hj => ?_)) ((RKeeps.grown (World.grownBy_alloc W _ none) hnW hlt (fun q e => by cases e)).trans (RKeeps.grown hg4 (by rw [World.size_alloc]; omega) (by rw [World.size_alloc]; omega) (fun q e => ⟨by cases e; exact .inl hnW, by cases e; omega, hlt4 q e.symm⟩)))
      ⟨⟨v, (hv.alloc _).kept hg4 (fun e => by injection e with e; have := hv.lt; omega), (hrow.alloc _).kept hg4 ?_, hvH⟩, (hb.alloc hnW _).grown hg4 (by rw [World.size_alloc]; omega) (fun k e => by cases e; exact hnW)⟩ ⟨W.heap.size, rfl, hs4⟩
    · cases ej
      rw [show (W.alloc (.cells #[.int .u8 0, .int .u64 0, .slice none 0 0] 91)).heap[W.heap.size]? = _ from hz] at hj
      cases hj; rfl
    · cases e : v.ownBlock with
      | none => exact .inl rfl
      | some q => right; intro e2; injection e2 with e2; have := (World.ownsRow.lt hrow q e).2; omega
  case body =>
    rintro l pre x a' W hlt ⟨⟨v, hv, hrow, hvH⟩, hb⟩ ⟨Bx, rfl, hx⟩ hlen2
    rw [hHs] at hlt
    have hnW : B ≤ W.heap.size := Nat.le_trans (Nat.le_of_eq HB.out) hb.size
    have hc := hv.cell
    have hprel : pre.length ≤ 1099511627777 := by omega
    gi_wp2_with (first
      | (refine wpListIn_load_rec rfl (.tmp 4) rfl Bx x.1 x.2.1 x.2.2 rfl hx ?_; simp only [Rc.cells])
      | (gi_at_builtin; refine wpListIn_append_rec rfl (.tmp 8) (.tmp 10) rfl B v pre rfl (hrow.alloc _) x W.heap.size 1 rfl rfl (fun j u hu => (by rw [World.cell?_alloc_new]; exact hu)) hprel (by rw [World.size_alloc]; omega) ?_; intro v' w1 hown' hgrow hat; obtain ⟨k1, k2, k3, k4, _, k5, k7, k6⟩ := rec_appended hv hrow (fun q e => (World.ownsRow.lt hrow q e).1) hvH hnW (Nat.le_refl _) (Nat.le_refl _) (.inl (Nat.le_refl _)) (by omega) hlt hown' hgrow hat; rw [List.length_append, List.length_singleton] at hown'; obtain ⟨g', cap', rfl⟩ := ownsRow_succ hown'; have hc1 := k1.cell; have hf1 := k1.frozen))
    exact ⟨k5, by rw [hHs]; exact k6, ⟨⟨_, k2, k3, k4⟩, hb.trans k7⟩⟩
  case done =>
    rintro D xs W hD hxs hbod ⟨⟨v, hv, hrow, hvH⟩, hb⟩ hK
    have hc := hv.cell
    gi_wp2
    refine ⟨by simp, .inl ⟨_, _, rfl, run_takeDeferred hK, ?_⟩⟩
    have hbD : Below W0.heap.size W (W.putObj D (.deferred none)) := belowK_b (w := W0) (Nat.le_refl _) W D _ _ hD hK rfl rfl
    refine ⟨_, results_tmp rfl _ _ _, v, rfl, ?_, by rw [← HB.out]; exact hb.trans (hbD.mono (by omega))⟩
    rw [← HB.out]
    have hl : xs.map (·.1) = refRecs L := by rw [hxs]; exact (goRecs_is L).1 _
    refine ⟨xs, hl, ?_, fun p hp => ownsRow_putObj (hbod p hp) _ hK rfl⟩
    rw [← hl, List.length_map]
    exact ownsRow_putObj hrow _ hK rfl
end Go.Proofs.Ytdlbjllgdikadaa
