/- ScanTorn, the walk: varvelaw21.chance; the statement's own function. -/
import Derived.Test.YtdlbjllgdikadaaTornP
import Derived.Deep.CutBlock
namespace Go.Proofs.Ytdlbjllgdikadaa
open Go.RowKit
set_option linter.unusedVariables false
set_option linter.unusedSimpArgs false

theorem ownsRow_aside {T : List Nat} {w w' : World} {base : Nat} {e : TypeId} {size : Nat} {v : Value} {n : Nat} {xs : List Value} (h : w.ownsRow base e size v n xs) (k : Aside T w w') (hT : ∀ q, v.ownBlock = some q → q ∉ T) : w'.ownsRow base e size v n xs := by
  refine ⟨h.1, ?_⟩
  rcases h.2 with hn | ⟨g, cap, cur, rfl, hbg, hg, rest⟩
  · exact .inl hn
  · exact .inr ⟨g, cap, cur, rfl, hbg, (k.block g (Array.getElem?_eq_some_iff.1 hg).1 (hT g rfl)).trans hg, rest⟩
theorem OwnBs.aside {T : List Nat} {w w' : World} {base : Nat} {v : Value} {l : List Blk} (h : OwnBs w base v l) (k : Aside T w w') (hT : ∀ q, q ∈ T → q < base) : OwnBs w' base v l := by
  obtain ⟨r, h1, h2, h3⟩ := h
  refine ⟨r, h1, ownsRow_aside h2 k (fun q hq hm => ?_), fun p hp => OwnB.aside2 (h3 p hp) k fun q hq hm => ?_⟩
  · have := (World.ownsRow.lt h2 q hq).1; have := hT q hm; omega
  · have := (World.ownsRow.lt (h3 p hp) q hq).1; have := hT q hm; omega

/-- A row of slices of bytes, as it reads. -/
structure Sl where
  l : List UInt8
  a : Option Addr
  c : Nat
def SlOk (w : World) (x : Sl) : Prop := IsBytes w x.a x.l ∧ x.l.length ≤ x.c ∧ (x.a = none → x.l.length = 0 ∧ x.c = 0)
def IsSs (w : World) (a : Option Addr) (L : List Sl) : Prop :=
  ∀ i (h : i < L.length), ∃ b off, a = some ⟨b, off, none⟩ ∧ w.cell? ⟨b, off + i, none⟩ = some (.slice L[i].a L[i].l.length L[i].c) ∧ SlOk w L[i]

/-- Records that the call gathers: their bodies are not its own. -/
def WantRs (w0 w : World) (base : Nat) (v : Value) (l : List Rc) : Prop :=
  ∃ r : List RTrip, r.map (·.1) = l ∧ w.ownsRow base 91 3 v l.length (rcellsOf r) ∧ ∀ p ∈ r, IsBytes w0 p.2.1 p.1.body ∧ p.1.body.length ≤ p.2.2 ∧ (p.2.1 = none → p.1.body = [] ∧ p.2.2 = 0)
theorem WantRs.nil (w0 w : World) (base : Nat) : WantRs w0 w base (.slice none 0 0) [] := ⟨[], rfl, World.ownsRow_nil w base 91 3, fun _ hp => nomatch hp⟩
theorem WantRs.later {w0 w w' : World} {base : Nat} {v : Value} {l : List Rc} (h : WantRs w0 w base v l) (hb : Below w.heap.size w w') : WantRs w0 w' base v l := by
  obtain ⟨r, h1, h2, h3⟩ := h
  exact ⟨r, h1, ownsRow_later h2 hb, h3⟩
theorem WantRs.aside {w0 w w' : World} {base : Nat} {v : Value} {l : List Rc} {D b : Nat} {d : Dev} (h : WantRs w0 w base v l) (hD : DevAt w D b d) (k : Aside [D, b] w w') : WantRs w0 w' base v l := by
  obtain ⟨r, h1, h2, h3⟩ := h
  refine ⟨r, h1, ownsRow_aside h2 k (fun q hq hm => ?_), h3⟩
  obtain ⟨c1, f1, z1⟩ := Lib.ownsRow_kind h2 q hq
  obtain ⟨y1, ⟨M, ⟨es, cl, y2, _⟩, _⟩, _⟩ := hD
  simp only [List.mem_cons, List.not_mem_nil, or_false] at hm
  rcases hm with rfl | rfl
  · rw [y1] at z1; simp at z1
  · rw [y2] at z1; cases z1
theorem WantRs.lt {w0 w : World} {base : Nat} {v : Value} {l : List Rc} (h : WantRs w0 w base v l) : ∀ k, v.ownBlock = some k → base ≤ k ∧ k < w.heap.size := fun k hk => by
  obtain ⟨r, h1, h2, h3⟩ := h
  exact World.ownsRow.lt h2 k hk
theorem WantRs.slice {w0 w : World} {base : Nat} {v : Value} {l : List Rc} (h : WantRs w0 w base v l) (hb : Below w0.heap.size w0 w) : ∃ a c, v = .slice a l.length c ∧ IsRs w a l := by
  obtain ⟨r, h1, h2, h3⟩ := h
  have hl : r.length = l.length := by rw [← h1, List.length_map]
  rcases h2.2 with ⟨rfl, hn⟩ | ⟨g, cap, cur, rfl, _⟩
  · exact ⟨none, 0, by rw [hn], fun i hi => by omega⟩
  · refine ⟨_, _, rfl, fun i hi => ?_⟩
    have hir : i < r.length := by omega
    have e : l[i] = r[i].1 := by simp only [← h1, List.getElem_map]
    obtain ⟨q1, q2, q3⟩ := h3 r[i] (List.getElem_mem hir)
    rw [e]
    refine ⟨g, 0, r[i].2.1, r[i].2.2, rfl, fun j u hu => ?_, q1.later hb, q2, q3⟩
    have hj : j < 3 := (Array.getElem?_eq_some_iff.1 hu).1
    rw [Nat.zero_add, World.ownsRow.cellAt h2 (3 * i + j) (by omega), rcellsOf_get r i hir j hj]
    exact hu

/-- 'append(v, b)', the body not the call's own. -/
theorem wpList_append_want {w : World} {ops : Array Oper} {rest : List Oper} {o : Oper} {a : Act} {Q : Exit → Act → World → Prop} (hgd : o.guard = none) (s x : Operand)
    (ho : o.op = .call { callee := .builtin .append, args := #[s, x], argTypes := #[83, 83] })
    (w0 : World) (base : Nat) (v : Value) (l : List Rc) (hs : a.eval s = v) (hown : WantRs w0 w base v l)
    (b : Rc) (ab : Option Addr) (cap g n : Nat) (hx : a.eval x = .slice (some ⟨g, 0, none⟩) n n) (hn : n = 1) (hcells : ∀ j u, (b.cells ab cap)[j]? = some u → w.cell? ⟨g, j, none⟩ = some u)
    (hbody : IsBytes w0 ab b.body ∧ b.body.length ≤ cap ∧ (ab = none → b.body = [] ∧ cap = 0))
    (hlen : l.length ≤ 1099511627776) (hbase : base ≤ w.heap.size)
    (h : ∀ v' w', WantRs w0 w' base v' (l ++ [b]) → w.grownBy w' v.ownBlock → wpList Try.prog ops Q rest (a.put o.dst v') w') : wpList Try.prog ops Q (o :: rest) a w := by
  obtain ⟨i0, hi, hz0, hz1, hz2⟩ := info_parts info91
  obtain ⟨r, h1, h2, h3⟩ := hown
  subst hn
  refine wpList_append_own w hgd s x 83 ho base 91 i0 (.agg #[.int .u8 0, .int .u64 0, .slice none 0 0]) 3 40 (by kernel_rfl) hi hz0 hz1 hz2 rfl (by decide) v l.length (rcellsOf r) hs h2 ⟨g, 0, none⟩ 1 1 (b.cells ab cap).toList hx rfl
    (fun j u hu => by rw [Addr.add_lit, Nat.zero_add]; exact hcells j u (by simpa using hu)) (fun u hu => by
      simp [Rc.cells] at hu
      rcases hu with rfl | rfl | rfl <;> rfl) (by unfold maxLen; omega) (by omega) hbase ?_
  intro v' w' k1 k2 _
  refine h v' w' ⟨r ++ [(b, ab, cap)], by simp [h1], ?_, fun p hp => ?_⟩ k2
  · rw [rcellsOf_append, List.length_append]
    simpa [rcellsOf] using k1
  · rcases List.mem_append.1 hp with hp | hp
    · exact h3 p hp
    · rw [List.mem_singleton] at hp
      subst hp
      exact hbody

set_option maxRecDepth 100000 in
set_option maxHeartbeats 400000 in
theorem chance_calls (D b : Nat) (d : Dev) (x : Blk) (ax : Option Addr) (cx : Nat) (w : World) (h : DevAt w D b d) (h40 : d.blocks = 40) (hs : x.serial < 18446744073709551616) :
    Calls Try.prog 65 #[.pointer (some ⟨D, 0, none⟩), .agg (x.cells ax cx)] w fun e w' => e = .returned (.bool (((decE (d.mem (x.serial % 40)) : Nat) : Int) == 0)) ∧ Below w.heap.size w w' := by
  obtain ⟨s, k, f, la, body⟩ := x
  simp only at hs ⊢
  have hm0 : mayE { d with down := false } (((s % 40 : Nat) : Int)) = 0 := by
    unfold mayE
    simp only [Bool.false_eq_true, if_false]
    rw [if_neg (by rw [h40]; omega)]
  have hmod : ((s : Int) % 40) = ((s % 40 : Nat) : Int) := by omega
  have hb0 : Below w.heap.size w (w.alloc (.cells #[.int .u64 (s : Int), .int .u8 (k.toNat : Int), .bool f, .bool la, .slice ax body.length cx] 43)) := (Below.refl _ w).alloc (Nat.le_refl _) _
  have hcopy := Lib.hid (copy_dev D b d _ (h.later hb0))
  have hX : (w.alloc (.cells #[.int .u64 (s : Int), .int .u8 (k.toNat : Int), .bool f, .bool la, .slice ax body.length cx] 43)).cell? ⟨w.heap.size, 0, none⟩ = some (.int .u64 (s : Int)) := by rw [World.cell?_alloc_new]; rfl
  have Hm0 := Lib.hid hm0
  have Hmod := Lib.hid hmod
  have HX := Lib.hid hX
  obtain ⟨m, hmm⟩ : ∃ m, m = d.mem (s % 40) := ⟨_, rfl⟩
  have Hmm := Lib.hid hmm
  rw [← hmm]
  obtain ⟨E, hE⟩ : ∃ E, E = decE m := ⟨_, rfl⟩
  have hdec := Lib.hid (show ∀ (g3 : Nat) (W : World), m.length = 64 → IsBytes W (some ⟨g3, 0, none⟩) m → Calls Try.prog 37 #[.slice (some ⟨g3, 0, none⟩) 64 64] W fun e w' => ∃ (X : Blk) (a4 : Option Addr) (c4 : Nat), e = .returned (.tuple #[.agg (X.cells a4 c4), .int .i64 (E : Int)]) ∧ Below W.heap.size W w' from fun g3 W hl hby => by
    have hc := refdecode_calls (some ⟨g3, 0, none⟩) m 64 W (by omega) hby
    rw [hl] at hc
    refine hc.mono ?_
    rintro e w4 ⟨a4, c4, rfl, hO4, hB4⟩
    exact ⟨_, a4, c4, by rw [hE], hB4⟩)
  rw [← hE]
  clear hX hm0 hmod h hmm hE
  simp only [Blk.cells]
  go_enter Try.func65, Try.ntmps65
  go_wp2_with (first
    | (go_at_call 53; refine hcopy.out.mono ?_; rintro e w1 ⟨D1, b1, rfl, hD1, hl1, hm1, hB1⟩)
    | (go_at_call 46; refine (up_dev D1 b1 d w1 hD1).mono ?_; rintro e w2 ⟨rfl, hD2, hg2⟩; have y2 := (World.cell?_of_block (a := ⟨w.heap.size, 0, none⟩) (hg2.block w.heap.size (by have := hB1.size; simp at this ⊢; omega) (by simp at hl1 ⊢; omega))).trans ((hB1.cell (p := ⟨w.heap.size, 0, none⟩) (by simp)).trans HX.out))
    | (go_at_call 45; rw [Hmod.out]; refine (read_dev D1 b1 { d with down := false } _ w2 hD2).mono ?_; intro e w3 hpost; obtain ⟨_, g3, rfl, hA3, hlen3, hg3, hB3⟩ := hpost.resolve_left (fun hq => hq.1 Hm0.out); rw [Int.toNat_natCast] at hA3 hlen3; simp only at hA3 hlen3; rw [← Hmm.out] at hA3 hlen3)
    | (go_at_call 37; refine (hdec.out g3 w3 hlen3 hA3.bytes).mono ?_; rintro e w4 ⟨X4, a4, c4, rfl, hB4⟩)
    | (refine wpList_store_blk rfl (.tmp 8) (.tmp 26) rfl w4.heap.size noneB X4 none a4 0 c4 rfl rfl (heap_alloc_new _ _) ?_; intro w7 hY7 hg7))
  go_ret
  have z1 := below_call hb0 (Nat.le_refl _) hB1
  have z2 := z1.grown hg2 z1.size (fun q e => by cases e; simp at hl1; omega)
  have z4 := below_call (below_call z2 (Nat.le_refl _) hB3) (Nat.le_refl _) hB4
  have z4s := z4.size
  exact ⟨rfl, (z4.alloc z4s _).grown hg7 (by rw [World.size_alloc]; omega) (fun q e => by cases e; exact z4s)⟩
end Go.Proofs.Ytdlbjllgdikadaa
