/- Rounds of peers: turn, Good, Bad, Hurry, Look, Copy. -/
import Derived.Test.YtdlbjllgdikadabPeerB
namespace Go.Proofs.Ytdlbjllgdikadab
open Go.RowKit

theorem end_rd (g : Nat) (d : Rd) (i : Nat) (good : Bool) (c : Nat) (w : World) (h : RdAt w g d) (hok : RdOk c d) (hc : c ≤ 1099511627776) (hi : i < d.n) :
    Calls Try.prog 24 #[.pointer (some ⟨g, 0, none⟩), .int .i64 (i : Int), .bool good] w fun e w' => e = .returned (.tuple #[]) ∧ RdAt w' g (endD d i good) ∧ w.grownBy w' (some g) := by
  cases good
  · exact end_bad g d i c w h hok hc hi
  · exact end_good g d i c w h hok hc hi

def TurnPost (g : Nat) (d : Rd) (i : Int) (good : Bool) (w : World) (e : Ending) (w' : World) : Prop :=
  e = .returned (.int .i64 (turnE d i : Nat)) ∧ RdAt w' g (turnD d i good) ∧ w.grownBy w' (some g)

theorem turn_rd (g : Nat) (d : Rd) (i : Int) (good : Bool) (c : Nat) (w : World) (h : RdAt w g d) (hok : RdOk c d) (hc : c ≤ 1099511627776) :
    Calls Try.prog 25 #[.pointer (some ⟨g, 0, none⟩), .int .i64 i, .bool good] w (TurnPost g d i good w) := by
  have hno := none_rd g d w h hok.n2
  have his := is_rd g d i w h
  unfold TurnPost
  cases hp : isP d i with
  | false =>
    have hE : turnE d i = 2 := by unfold turnE; rw [hp]; rfl
    have hD : turnD d i good = d := by unfold turnD; rw [hE]; rfl
    rw [hE, hD]
    rw [hp] at his
    clear hE hD hp
    go_enter Try.func25, Try.ntmps25
    go_wp2_with (first
      | (go_at_call 21; refine hno.mono ?_; rintro e w2 ⟨rfl, rfl⟩)
      | (go_at_call 23; refine his.mono ?_; rintro e w2 ⟨rfl, rfl⟩))
    go_ret
    exact ⟨rfl, h, grown_refl _ _⟩
  | true =>
    obtain ⟨k, rfl, hk, hks⟩ := isP_in hp
    have hi16 : k < 16 := by have := hok.n16; omega
    have s2 := h.s2 k hi16
    cases hb : (d.by_ k).busy with
    | false =>
      have hE : turnE d k = 16 := by unfold turnE; rw [hp, Int.toNat_natCast, hb]; rfl
      have hD : turnD d k good = d := by unfold turnD; rw [hE]; rfl
      rw [hE, hD]
      rw [hp] at his
      rw [hb] at s2
      clear hE hD hp hb
      go_enter Try.func25, Try.ntmps25
      go_wp2_with (first
        | (go_at_call 21; refine hno.mono ?_; rintro e w2 ⟨rfl, rfl⟩)
        | (go_at_call 23; refine his.mono ?_; rintro e w2 ⟨rfl, rfl⟩))
      go_ret
      exact ⟨rfl, h, grown_refl _ _⟩
    | true =>
      have hE : turnE d k = 0 := by unfold turnE; rw [hp, Int.toNat_natCast, hb]; rfl
      have hD : turnD d k good = endD d k good := by unfold turnD; rw [hE]; rfl
      rw [hE, hD]
      rw [hp] at his
      rw [hb] at s2
      clear hE hD hp hb
      have hend := end_rd g d k good c w h hok hc hk
      go_enter Try.func25, Try.ntmps25
      go_wp2_with (first
        | (go_at_call 21; refine hno.mono ?_; rintro e w2 ⟨rfl, rfl⟩)
        | (go_at_call 23; refine his.mono ?_; rintro e w2 ⟨rfl, rfl⟩)
        | (go_at_call 24; refine hend.mono ?_; rintro e w3 ⟨rfl, h3, g3⟩))
      go_ret
      exact ⟨rfl, h3, g3⟩

theorem good_rd (g : Nat) (d : Rd) (i : Int) (c : Nat) (w : World) (h : RdAt w g d) (hok : RdOk c d) (hc : c ≤ 1099511627776) :
    Calls Try.prog 11 #[.pointer (some ⟨g, 0, none⟩), .int .i64 i] w (TurnPost g d i true w) := by
  have ht := turn_rd g d i true c w h hok hc
  go_enter Try.func11, Try.ntmps11
  go_wp2_with (go_at_call 25; refine ht.mono ?_; rintro e w2 ⟨rfl, h2, g2⟩)
  go_ret
  exact ⟨rfl, h2, g2⟩
theorem bad_rd (g : Nat) (d : Rd) (i : Int) (c : Nat) (w : World) (h : RdAt w g d) (hok : RdOk c d) (hc : c ≤ 1099511627776) :
    Calls Try.prog 12 #[.pointer (some ⟨g, 0, none⟩), .int .i64 i] w (TurnPost g d i false w) := by
  have ht := turn_rd g d i false c w h hok hc
  go_enter Try.func12, Try.ntmps12
  go_wp2_with (go_at_call 25; refine ht.mono ?_; rintro e w2 ⟨rfl, h2, g2⟩)
  go_ret
  exact ⟨rfl, h2, g2⟩

def HurryPost (g : Nat) (d : Rd) (i : Int) (w : World) (e : Ending) (w' : World) : Prop :=
  e = .returned (.int .i64 (hurryE d i : Nat)) ∧ RdAt w' g (hurryD d i) ∧ w.grownBy w' (some g)

set_option maxRecDepth 100000 in
theorem hurry_rd (g : Nat) (d : Rd) (i : Int) (c : Nat) (w : World) (h : RdAt w g d) (hok : RdOk c d) :
    Calls Try.prog 17 #[.pointer (some ⟨g, 0, none⟩), .int .i64 i] w (HurryPost g d i w) := by
  have hno := none_rd g d w h hok.n2
  have his := is_rd g d i w h
  unfold HurryPost
  cases hp : isP d i with
  | false =>
    have hE : hurryE d i = 2 := by unfold hurryE; rw [hp]; rfl
    have hD : hurryD d i = d := by unfold hurryD; rw [hE]; rfl
    rw [hE, hD]
    rw [hp] at his
    clear hE hD hp
    go_enter Try.func17, Try.ntmps17
    go_wp2_with (first
      | (go_at_call 21; refine hno.mono ?_; rintro e w2 ⟨rfl, rfl⟩)
      | (go_at_call 23; refine his.mono ?_; rintro e w2 ⟨rfl, rfl⟩))
    go_ret
    exact ⟨rfl, h, grown_refl _ _⟩
  | true =>
    obtain ⟨k, rfl, hk, hks⟩ := isP_in hp
    have hi16 : k < 16 := by have := hok.n16; omega
    have s2 := h.s2 k hi16
    cases hb : (d.by_ k).busy with
    | true =>
      have hE : hurryE d k = 16 := by unfold hurryE; rw [hp, Int.toNat_natCast, hb]; rfl
      have hD : hurryD d k = d := by unfold hurryD; rw [hE]; rfl
      rw [hE, hD]
      rw [hp] at his
      rw [hb] at s2
      clear hE hD hp hb
      go_enter Try.func17, Try.ntmps17
      go_wp2_with (first
        | (go_at_call 21; refine hno.mono ?_; rintro e w2 ⟨rfl, rfl⟩)
        | (go_at_call 23; refine his.mono ?_; rintro e w2 ⟨rfl, rfl⟩))
      go_ret
      exact ⟨rfl, h, grown_refl _ _⟩
    | false =>
      have hE : hurryE d k = 0 := by unfold hurryE; rw [hp, Int.toNat_natCast, hb]; rfl
      have hD : hurryD d k = { d with by_ := updS d.by_ k { d.by_ k with due := min (d.by_ k).due d.now } } := by unfold hurryD; rw [hE]; rfl
      have k4 := (h.begin k).put0 hi16 { d.by_ k with due := min (d.by_ k).due d.now } (.int .u64 ((min (d.by_ k).due d.now : Nat) : Int)) rfl rfl rfl rfl
      rw [hE, hD]
      rw [hp] at his
      rw [hb] at s2
      obtain ⟨U, hU⟩ : ∃ U, U = (d.by_ k).due := ⟨_, rfl⟩
      have hst : ∀ q : Nat, U = q → (W : World) → True := fun _ _ _ => trivial
      have s0 := h.s0 k hi16
      have c3 := h.c3
      have f0 := h.free (4 + k * 4)
      rw [← hU] at s0 k4 ⊢
      have K4 := Lib.hid k4
      have HU := Lib.hid hU
      clear hE hD hp hb k4 hU hst
      go_enter Try.func17, Try.ntmps17
      go_upto_region 7 with (first
        | (go_at_call 21; refine hno.mono ?_; rintro e w2 ⟨rfl, rfl⟩)
        | (go_at_call 23; refine his.mono ?_; rintro e w2 ⟨rfl, rfl⟩))
      go_region
      have hmin : (if d.now < U then (d.now : Int) else (U : Int)) = ((min U d.now : Nat) : Int) := by split <;> omega
      rw [hmin]
      have K5 := grown_set (grown_refl w (some g)) ⟨g, 4 + k * 4, none⟩ (.int .u64 ((min U d.now : Nat) : Int)) rfl
      have k4 := K4.out
      obtain ⟨M, hM⟩ : ∃ M : Int, M = ((min U d.now : Nat) : Int) := ⟨_, rfl⟩
      rw [← hM] at k4 K5 ⊢
      have K6 := Lib.hid (And.intro k4 K5)
      clear k4 K5 K4 hM hmin
      go_wp2
      go_ret
      exact ⟨rfl, K6.out.1, ⟨K6.out.2.os, K6.out.2.tape, K6.out.2.output, K6.out.2.size, K6.out.2.block⟩⟩

@[go_sem] theorem zeroV50 (w : World) : (zeroValue 50).run Try.prog w = .ok (.agg #[.int .u64 0, .int .i64 0, .bool false, .int .u64 0]) w := by kernel_rfl

theorem run_loadVar_at {P : Program} (w : World) (ad : Addr) (ty : TypeId) (l : List Value) (d : TypeDesc) (hc : ∀ j v, l[j]? = some v → w.cell? (ad.add j) = some v)
    (hu : P.underlying ty = some d) (hd : (match d with | .struct _ | .array _ _ => true | _ => false) = true) (hi : (P.info? ty).map (·.size) = some l.length) :
    (loadVar ty ad).run P w = .ok (.agg l.toArray) w := by
  have hl : (loadCells ad l.length).run P w = .ok l.toArray w := run_loadCells_list (P := P) w ad l hc
  cases hq : P.info? ty with
  | none => simp [hq] at hi
  | some i =>
    have hs : i.size = l.length := by simpa [hq] using hi
    have hagg : (isAgg ty).run P w = .ok true w := by
      unfold isAgg
      rw [Sem.run_bind, run_underlying hu w]
      cases d <;> simp_all
    simp [loadVar, Sem.run_bind, hagg, sizeOf, typeInfo, hq, hs, hl]

theorem wpList_load_at {P : Program} {ops : Array Oper} {rest : List Oper} {o : Oper} {a : Act} {w : World} {Q : Exit → Act → World → Prop} (hgd : o.guard = none) (ty : TypeId) (x : Operand) (ho : o.op = .load ty x)
    (ad : Addr) (hx : a.eval x = .pointer (some ad)) (l : List Value) (d : TypeDesc) (hc : ∀ j v, l[j]? = some v → w.cell? (ad.add j) = some v)
    (hu : P.underlying ty = some d) (hd : (match d with | .struct _ | .array _ _ => true | _ => false) = true) (hi : (P.info? ty).map (·.size) = some l.length)
    (h : wpList P ops Q rest (a.put o.dst (.agg l.toArray)) w) : wpList P ops Q (o :: rest) a w := by
  refine wpList_plain hgd fun K hK => ?_
  unfold Oper.wp execOp
  simp only [ho, hx, Instr.loadAt, Instr.sureAddr, Sem.run_bind, Sem.run_pure, Result.andThen_ok, run_loadVar_at w ad ty l d hc hu hd hi]
  exact hK _ _ h

theorem RdAt.standing {w : World} {g : Nat} {d : Rd} (h : RdAt w g d) (i : Nat) (hi : i < 16) : ∀ j v, (stCells (d.by_ i))[j]? = some v → w.cell? ((⟨g, 4 + i * 4, none⟩ : Addr).add j) = some v := by
  intro j v hv
  rw [Addr.add_lit]
  match j with
  | 0 => rw [show 4 + i * 4 + 0 = 4 + i * 4 from rfl, h.s0 i hi]; simpa [stCells] using hv
  | 1 => rw [h.s1 i hi]; simpa [stCells] using hv
  | 2 => rw [h.s2 i hi]; simpa [stCells] using hv
  | 3 => rw [h.s3 i hi]; simpa [stCells] using hv
  | n + 4 => simp [stCells] at hv

theorem info50 : (Try.prog.info? 50).map (·.size) = some 4 := by kernel_rfl
theorem info57 : (Try.prog.info? 57).map (·.size) = some 68 := by kernel_rfl
theorem info55 : (Try.prog.info? 55).map (·.size) = some 64 := by kernel_rfl

theorem grown_setRow {w : World} {g : Nat} (cells : Array Value) : w.grownBy (w.setRow g cells) (some g) :=
  ⟨rfl, rfl, rfl, by simp [World.setRow], fun k _ hk => by
    have : k ≠ g := fun e => hk (by rw [e])
    simp [World.setRow, Array.getElem?_modify, Ne.symm this]⟩
/-- A standing in a block of its own. -/
def StAt (w : World) (g : Nat) (s : St) : Prop := w.heap[g]? = some (.cells (stCells s).toArray 50 (0, 0))
theorem stCells_one (s : St) : (stCells s).toArray.all (·.oneCell') = true := by simp [stCells, Value.oneCell']
theorem StAt.made (w : World) : StAt (w.alloc (.cells #[.int .u64 0, .int .i64 0, .bool false, .int .u64 0] 50)) w.heap.size St.none := heap_alloc_new _ _
theorem StAt.c0 {w : World} {g : Nat} {s : St} (h : StAt w g s) : w.cell? ⟨g, 0, none⟩ = some (.int .u64 (s.due : Int)) := by rw [cell_of_row w g 0 _ _ _ h]; rfl
theorem StAt.c1 {w : World} {g : Nat} {s : St} (h : StAt w g s) : w.cell? ⟨g, 1, none⟩ = some (.int .i64 (s.fails : Int)) := by rw [cell_of_row w g 1 _ _ _ h]; rfl
theorem StAt.c2 {w : World} {g : Nat} {s : St} (h : StAt w g s) : w.cell? ⟨g, 2, none⟩ = some (.bool s.busy) := by rw [cell_of_row w g 2 _ _ _ h]; rfl
theorem StAt.c3 {w : World} {g : Nat} {s : St} (h : StAt w g s) : w.cell? ⟨g, 3, none⟩ = some (.int .u64 (s.since : Int)) := by rw [cell_of_row w g 3 _ _ _ h]; rfl
theorem StAt.free {w : World} {g : Nat} {s : St} (h : StAt w g s) (q : Nat) : w.frozen? ⟨g, q, none⟩ = false := frozen_of_row w g q _ _ h
theorem StAt.lt {w : World} {g : Nat} {s : St} (h : StAt w g s) : g < w.heap.size := lt_of_block h
theorem StAt.later {w w' : World} {g : Nat} {s : St} (h : StAt w g s) (hb : Below w.heap.size w w') : StAt w' g s := (hb.block g h.lt).trans h
theorem StAt.kept {w w' : World} {g : Nat} {s : St} {row : Option Nat} (h : StAt w g s) (hg : w.grownBy w' row) (hD : some g ≠ row) : StAt w' g s := (hg.block g h.lt hD).trans h
theorem StAt.add {w : World} {g : Nat} {s : St} (h : StAt w g s) : ∀ j v, (stCells s)[j]? = some v → w.cell? ((⟨g, 0, none⟩ : Addr).add j) = some v := by
  intro j v hv
  rw [Addr.add_lit, Nat.zero_add, cell_of_row w g j _ _ _ h]
  simpa using hv

/-- 'x = s', x a standing of its own. -/
theorem wpList_store_st {w : World} {ops : Array Oper} {rest : List Oper} {o : Oper} {ac : Act} {Q : Exit → Act → World → Prop} (hgd : o.guard = none) (x y : Operand) (ho : o.op = .store 50 x y)
    (g : Nat) (old s : St) (hx : ac.eval x = .pointer (some ⟨g, 0, none⟩)) (hy : ac.eval y = stAgg s) (hb : StAt w g old)
    (h : ∀ w', StAt w' g s → w.grownBy w' (some g) → wpList Try.prog ops Q rest (ac.put o.dst undef) w') : wpList Try.prog ops Q (o :: rest) ac w :=
  wpList_store_row hgd 50 x y ho g _ hx hy 50 _ hb (by rw [info50]; rfl) rfl (stCells_one s) (h _ (setRow_heap w g _ _ _ _ hb) (grown_setRow _))
/-- 's = *p'. -/
theorem wpList_load_st {w : World} {ops : Array Oper} {rest : List Oper} {o : Oper} {a : Act} {Q : Exit → Act → World → Prop} (hgd : o.guard = none) (x : Operand) (ho : o.op = .load 50 x)
    (ad : Addr) (hx : a.eval x = .pointer (some ad)) (s : St) (hc : ∀ j v, (stCells s)[j]? = some v → w.cell? (ad.add j) = some v)
    (h : wpList Try.prog ops Q rest (a.put o.dst (stAgg s)) w) : wpList Try.prog ops Q (o :: rest) a w :=
  wpList_load_at hgd 50 x ho ad hx (stCells s) _ hc Try.underlying50 rfl info50 h

/-- How it stands. -/
theorem look_no (g : Nat) (d : Rd) (i : Int) (w : World) (h : RdAt w g d) (hn : 2 ≤ d.n) (hp : isP d i = false) :
    Calls Try.prog 19 #[.pointer (some ⟨g, 0, none⟩), .int .i64 i] w fun e w' => e = .returned (.tuple #[stAgg St.none, .bool false]) ∧ Below w.heap.size w w' := by
  have hno := fun W q => none_rd g d W q hn
  have his := fun W q => is_rd g d i W q
  rw [hp] at his
  have hl : RdAt (w.alloc (.cells #[.int .u64 0, .int .i64 0, .bool false, .int .u64 0] 50)) g d := h.later ((Below.refl _ _).alloc (Nat.le_refl _) _)
  go_enter Try.func19, Try.ntmps19
  go_wp2_with (first
    | (go_at_call 21; refine (hno _ hl).mono ?_; rintro e w2 ⟨rfl, rfl⟩)
    | (go_at_call 23; refine (his _ hl).mono ?_; rintro e w2 ⟨rfl, rfl⟩))
  exact bodyPost_ret (v := .tuple #[stAgg St.none, .bool false]) (by simp [results, Try.results19, go_sem, stAgg, St.none]) rfl ⟨rfl, (Below.refl _ _).alloc (Nat.le_refl _) _⟩

set_option maxRecDepth 100000 in
theorem look_yes (g : Nat) (d : Rd) (i : Nat) (w : World) (h : RdAt w g d) (hn : 2 ≤ d.n) (hn2 : d.n ≤ 16) (hp : isP d i = true) :
    Calls Try.prog 19 #[.pointer (some ⟨g, 0, none⟩), .int .i64 (i : Int)] w fun e w' => e = .returned (.tuple #[stAgg (d.by_ i), .bool true]) ∧ Below w.heap.size w w' := by
  have hno := fun W q => none_rd g d W q hn
  have his := fun W q => is_rd g d i W q
  have hi : i < 16 := by have := (isP_iff d i).1 hp; omega
  rw [hp] at his
  have hl : RdAt (w.alloc (.cells #[.int .u64 0, .int .i64 0, .bool false, .int .u64 0] 50)) g d := h.later ((Below.refl _ _).alloc (Nat.le_refl _) _)
  have hst := hl.standing i hi
  have ha : (w.alloc (.cells #[.int .u64 0, .int .i64 0, .bool false, .int .u64 0] 50)).heap[w.heap.size]? = some (.cells #[.int .u64 0, .int .i64 0, .bool false, .int .u64 0] 50 (0, 0)) := heap_alloc_new _ _
  have HL := Lib.hid hst
  clear hst hp
  go_enter Try.func19, Try.ntmps19
  go_wp2_with (first
    | (go_at_call 21; refine (hno _ hl).mono ?_; rintro e w2 ⟨rfl, rfl⟩)
    | (go_at_call 23; refine (his _ hl).mono ?_; rintro e w2 ⟨rfl, rfl⟩)
    | (refine wpList_load_st rfl (.tmp 19) rfl ⟨g, 4 + i * 4, none⟩ rfl (d.by_ i) HL.out ?_)
    | (refine wpList_store_st rfl (.tmp 4) (.tmp 20) rfl w.heap.size St.none (d.by_ i) rfl rfl (StAt.made w) ?_; intro w4 hs4 hg4))
  have r0 := hs4.c0
  have r1 := hs4.c1
  have r2 := hs4.c2
  have r3 := hs4.c3
  exact bodyPost_ret (v := .tuple #[stAgg (d.by_ i), .bool true]) (by simp [results, Try.results19, go_sem, stAgg, r0, r1, r2, r3]) rfl ⟨rfl, ((Below.refl _ _).alloc (Nat.le_refl _) _).grown hg4 (by simp) (fun k hk => by cases hk; exact Nat.le_refl _)⟩

theorem rdCell_one (d : Rd) (q : Nat) : (rdCell d q).oneCell' = true := by
  match q with
  | 0 => rfl
  | 1 => rfl
  | 2 => rfl
  | 3 => rfl
  | k + 4 =>
    show (stCell (d.by_ (k / 4)) (k % 4)).oneCell' = true
    have : k % 4 < 4 := Nat.mod_lt _ (by decide)
    match k % 4, this with
    | 0, _ => rfl
    | 1, _ => rfl
    | 2, _ => rfl
    | 3, _ => rfl
theorem rdCells_one (d : Rd) : (rdCells d).all (·.oneCell') = true := by
  rw [Array.all_eq_true]
  intro i hi
  simp only [rdCells, Array.getElem_ofFn]
  exact rdCell_one d _
theorem wpList_store_rd {w : World} {ops : Array Oper} {rest : List Oper} {o : Oper} {ac : Act} {Q : Exit → Act → World → Prop} (hgd : o.guard = none) (x y : Operand) (ho : o.op = .store 57 x y)
    (g : Nat) (old d : Rd) (hx : ac.eval x = .pointer (some ⟨g, 0, none⟩)) (hy : ac.eval y = .agg (rdCells d)) (hb : RdAt w g old)
    (h : ∀ w', RdAt w' g d → w.grownBy w' (some g) → wpList Try.prog ops Q rest (ac.put o.dst undef) w') : wpList Try.prog ops Q (o :: rest) ac w :=
  wpList_store_row hgd 57 x y ho g _ hx hy 57 _ hb (by rw [info57, rdCells_size]) (by rw [rdCells_size, rdCells_size]) (rdCells_one d) (h _ (setRow_heap w g _ _ _ _ hb) (grown_setRow _))
theorem wpList_load_rd {w : World} {ops : Array Oper} {rest : List Oper} {o : Oper} {a : Act} {Q : Exit → Act → World → Prop} (hgd : o.guard = none) (x : Operand) (ho : o.op = .load 57 x)
    (g : Nat) (hx : a.eval x = .pointer (some ⟨g, 0, none⟩)) (d : Rd) (hg : RdAt w g d)
    (h : wpList Try.prog ops Q rest (a.put o.dst (.agg (rdCells d))) w) : wpList Try.prog ops Q (o :: rest) a w :=
  wpList_load_row hgd 57 x ho g hx 57 (rdCells d) (0, 0) _ hg Try.underlying57 rfl (by rw [info57, rdCells_size]) h
theorem RdAt.made (w : World) : RdAt (w.alloc (.cells (rdCells zeroR) 57)) w.heap.size zeroR := heap_alloc_new _ _

set_option maxRecDepth 100000 in
set_option maxHeartbeats 1000000 in
theorem copy_rd (g : Nat) (d : Rd) (w : World) (h : RdAt w g d) (hn : 2 ≤ d.n) :
    Calls Try.prog 15 #[.pointer (some ⟨g, 0, none⟩)] w fun e w' => e = .returned (.pointer (some ⟨w.heap.size, 0, none⟩)) ∧ RdAt w' w.heap.size d ∧ Below w.heap.size w w' := by
  have hno := none_rd g d w h hn
  have z1 := rdCells_ne zeroR
  have z2 := rdCells_size zeroR
  go_enter Try.func15, Try.ntmps15
  go_wp2_with (first
    | (go_at_call 21; refine (hno).mono ?_; rintro e w2 ⟨rfl, rfl⟩)
    | (refine wpList_load_rd rfl (.tmp 7) rfl g rfl d h ?_)
    | (refine wpList_store_rd rfl (.tmp 3) (.tmp 8) rfl w.heap.size zeroR d rfl rfl (RdAt.made w) ?_; intro w4 h4 g4))
  go_ret
  exact ⟨rfl, h4, ((Below.refl _ _).alloc (Nat.le_refl _) _).grown g4 (by simp) (fun k hk => by cases hk; exact Nat.le_refl _)⟩
end Go.Proofs.Ytdlbjllgdikadab
