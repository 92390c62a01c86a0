/- scan, the document's: Run. -/
import Derived.Test.YtdlbjllgdikadaaScanD
import Derived.Test.YtdlbjllgdikadaaGrO
import Derived.Test.YtdlbjllgdikadaaGrI
import Derived.Test.YtdlbjllgdikadaaScnA
import Derived.Test.YtdlbjllgdikadaaScnC
namespace Go.Proofs.Ytdlbjllgdikadaa
open Go.RowKit
set_option linter.unusedVariables false
set_option linter.unusedSimpArgs false

/-- 'append(v, u...)', rows of blocks. -/
theorem wpList_append_blks {w : World} {ops : Array Oper} {rest : List Oper} {o : Oper} {a : Act} {Q : Exit → Act → World → Prop} (hgd : o.guard = none) (s x : Operand)
    (ho : o.op = .call { callee := .builtin .append, args := #[s, x], argTypes := #[32, 32] })
    (base : Nat) (v u : Value) (l l2 : List Blk) (hs : a.eval s = v) (hown : OwnBs w base v l) (hx : a.eval x = u) (hsrc : OwnBs w base u l2)
    (hlen : l.length + l2.length ≤ 1099511627778) (hbase : base ≤ w.heap.size)
    (h : ∀ v' w', OwnBs w' base v' (l ++ l2) → w.grownBy w' v.ownBlock → wpList Try.prog ops Q rest (a.put o.dst v') w') : wpList Try.prog ops Q (o :: rest) a w := by
  obtain ⟨i0, hi, hz0, hz1, hz2⟩ := info_parts info43
  obtain ⟨r, h1, h2, h3⟩ := hown
  obtain ⟨r2, q1, q2, q3⟩ := hsrc
  have hr2 : r2.length = l2.length := by rw [← q1, List.length_map]
  have hk : ∀ {w' : World}, w.grownBy w' v.ownBlock → ∀ p : Blk × Option Addr × Nat, OwnB w base (.slice p.2.1 p.1.body.length p.2.2) p.1.body → OwnB w' base (.slice p.2.1 p.1.body.length p.2.2) p.1.body := by
    intro w' k2 p hp
    refine World.ownsRow.kept hp k2 ?_
    cases e : (Value.slice p.2.1 p.1.body.length p.2.2).ownBlock with
    | none => exact .inl rfl
    | some q =>
      right
      intro e2
      obtain ⟨c1, f1, z1⟩ := Lib.ownsRow_kind hp q e
      obtain ⟨c2, f2, z2⟩ := Lib.ownsRow_kind h2 q e2.symm
      rw [z1] at z2
      simp at z2
  have hfin : ∀ {w' : World} {v' : Value}, w'.ownsRow base 43 5 v' (l.length + l2.length) (cellsOf r ++ cellsOf r2) → w.grownBy w' v.ownBlock → OwnBs w' base v' (l ++ l2) := fun {w' v'} k1 k2 =>
    ⟨r ++ r2, by rw [List.map_append, h1, q1], by rw [cellsOf_append, List.length_append]; exact k1, fun p hp => hk k2 p (by rcases List.mem_append.1 hp with hp | hp; exact h3 p hp; exact q3 p hp)⟩
  rcases q2.2 with ⟨rfl, hn⟩ | ⟨g, cap, cur, rfl, hbg, hg, hnc, hcm, hcs, htake⟩
  · have hnil : r2 = [] := List.length_eq_zero_iff.1 (by omega)
    refine wpList_append_own_none hgd s x 32 ho base 43 i0 5 (by kernel_rfl) hi v l.length (cellsOf r) hs h2 hx (h v w (hfin ?_ ⟨rfl, rfl, rfl, Nat.le_refl _, fun _ _ _ => rfl⟩) ⟨rfl, rfl, rfl, Nat.le_refl _, fun _ _ _ => rfl⟩)
    rw [hn, hnil]
    simpa [cellsOf] using h2
  · refine wpList_append_own w hgd s x 32 ho base 43 i0 (.agg #[.int .u64 0, .int .u8 0, .bool false, .bool false, .slice none 0 0]) 5 40 (by kernel_rfl) hi hz0 hz1 hz2 rfl (by decide) v l.length (cellsOf r) hs h2 ⟨g, 0, none⟩ l2.length cap (cellsOf r2) hx (by rw [cellsOf_length, hr2])
      (fun j u hu => by rw [Addr.add_lit, Nat.zero_add, World.ownsRow.cellAt q2 j (by rw [← q2.1]; exact (List.getElem?_eq_some_iff.1 hu).1)]; exact hu) (fun u hu => ?_) (by unfold maxLen; omega) (by omega) hbase ?_
    · have : ∀ (q : List (Blk × Option Addr × Nat)), u ∈ cellsOf q → u.oneCell' = true := by
        intro q
        induction q with
        | nil => intro h; cases h
        | cons p q ih =>
          intro h
          simp only [cellsOf, List.mem_append] at h
          rcases h with h | h
          · simp [Blk.cells] at h
            rcases h with rfl | rfl | rfl | rfl | rfl <;> rfl
          · exact ih h
      exact this r2 hu
    · intro v' w' k1 k2 _
      exact h v' w' (hfin k1 k2) k2

/-- '[]byte(s)' reads as s. -/
theorem bytes_of_str (w : World) (l : List UInt8) : ∃ c cs fz, (convert 9 22 (.string ⟨l.toArray⟩)).run Try.prog w = .ok (.slice (some ⟨w.heap.size, 0, none⟩) l.length c) (w.drew.alloc (.cells cs 5 fz)) ∧ l.length ≤ c ∧ IsBytes (w.drew.alloc (.cells cs 5 fz)) (some ⟨w.heap.size, 0, none⟩) l := by
  have h := run_bytes_of_string (P := Try.prog) w 9 22 5 ⟨l.toArray⟩ Try.underlying9 Try.underlying22 Try.underlying5
  refine ⟨_, _, _, h, grownCap_ge _ _ _ _, fun i hi => ⟨w.heap.size, 0, rfl, ?_⟩⟩
  rw [Nat.zero_add]
  have h2 := bytesRow_at ⟨l.toArray⟩ (grownCap w (ByteArray.mk l.toArray).size 0 5) i (by simpa using hi)
  show (w.drew.alloc _).cell? ⟨w.drew.heap.size, i, none⟩ = _
  rw [World.cell?_alloc_mark, h2]
  simp

theorem cell_blkT (w : World) (b : Blk) (a : Option Addr) (cap : Nat) (j : Nat) (u : Value) (h : (b.cells a cap)[j]? = some u) : (w.alloc (.cells #[.int .u64 (b.serial : Int), .int .u8 (b.kind.toNat : Int), .bool b.first, .bool b.last, .slice a b.body.length cap] 43)).cell? ⟨w.heap.size, j, none⟩ = some u := by
  rw [World.cell?_alloc_new]; exact h
theorem allTo_len (n : Nat) (mem : Nat → List UInt8) (m : Nat) : (allTo n mem m).length ≤ m := by
  unfold allTo
  rw [List.length_map]
  exact Nat.le_trans (List.length_filter_le _ _) (by rw [List.length_range]; exact Nat.le_refl _)
theorem wpList_str_bytes {w : World} {ops : Array Oper} {rest : List Oper} {o : Oper} {a : Act} {Q : Exit → Act → World → Prop} (hgd : o.guard = none) (x : Operand) (ho : o.op = .convert 9 22 x)
    (l : List UInt8) (s : ByteArray) (hx : a.eval x = .string s) (hs : s = ⟨l.toArray⟩)
    (h : ∀ c w', l.length ≤ c → IsBytes w' (some ⟨w.heap.size, 0, none⟩) l → Below w.heap.size w w' → wpList Try.prog ops Q rest (a.put o.dst (.slice (some ⟨w.heap.size, 0, none⟩) l.length c)) w') : wpList Try.prog ops Q (o :: rest) a w := by
  refine wpList_plain hgd fun K hK => ?_
  obtain ⟨c, cs, fz, hr, hc, hb⟩ := bytes_of_str w l
  subst hs
  unfold Oper.wp execOp
  simp only [ho, hx, Sem.run_bind, hr, Result.andThen_ok]
  exact hK _ _ (h c _ hc hb ((Below.refl _ w).drew.alloc (Nat.le_refl _) _))

theorem OwnBs.memAt {w : World} {base : Nat} {a : Option Addr} {n cap : Nat} {l : List Blk} (h : OwnBs w base (.slice a n cap) l) (j : Nat) (hj : j < l.length) :
    ∃ g ab cb, a = some ⟨g, 0, none⟩ ∧ g < w.heap.size ∧ (∀ q u, (l[j].cells ab cb)[q]? = some u → w.cell? ⟨g, j * 5 + q, none⟩ = some u) ∧ OwnB w base (.slice ab l[j].body.length cb) l[j].body := by
  obtain ⟨r, h1, h2, h3⟩ := h
  have hl : r.length = l.length := by rw [← h1, List.length_map]
  have hir : j < r.length := by omega
  have e : l[j] = r[j].1 := by simp only [← h1, List.getElem_map]
  rcases h2.2 with ⟨e0, hn⟩ | ⟨g, cap2, cur, e2, hb, hg, rest⟩
  · omega
  · cases e2
    refine ⟨g, r[j].2.1, r[j].2.2, rfl, (Array.getElem?_eq_some_iff.1 hg).1, fun q u hu => ?_, by rw [e]; exact h3 r[j] (List.getElem_mem hir)⟩
    rw [e] at hu
    have hq : q < 5 := (Array.getElem?_eq_some_iff.1 hu).1
    rw [show j * 5 + q = 5 * j + q by omega, World.ownsRow.cellAt h2 (5 * j + q) (by omega), cellsOf_get r j hir q hq]
    exact hu
theorem OwnBs.off43 {w w' : World} {base q : Nat} {v : Value} {l : List Blk} {c : Array Value} {fz : Nat × Nat} (h : OwnBs w base v l) (hg : w.grownBy w' (some q)) (hq : w.heap[q]? = some (.cells c 43 fz)) (hne : v.ownBlock ≠ some q) : OwnBs w' base v l := by
  obtain ⟨r, h1, h2, h3⟩ := h
  refine ⟨r, h1, World.ownsRow.kept h2 hg (.inr hne), fun p hp => ?_⟩
  refine World.ownsRow.kept (h3 p hp) hg ?_
  cases e : (Value.slice p.2.1 p.1.body.length p.2.2).ownBlock with
  | none => exact .inl rfl
  | some k =>
    right
    intro e2
    injection e2 with e2
    obtain ⟨c1, f1, z1⟩ := Lib.ownsRow_kind (h3 p hp) k e
    rw [e2, hq] at z1
    simp at z1
theorem OwnBs.one {w : World} {base : Nat} (b : Blk) (a : Option Addr) (cap : Nat) (hb : base ≤ w.heap.size) (hown : OwnB w base (.slice a b.body.length cap) b.body) :
    OwnBs (w.alloc (.cells #[.int .u64 (b.serial : Int), .int .u8 (b.kind.toNat : Int), .bool b.first, .bool b.last, .slice a b.body.length cap] 43)) base (.slice (some ⟨w.heap.size, 0, none⟩) 1 1) [b] := by
  refine ⟨[(b, a, cap)], rfl, ⟨by simp [cellsOf, Blk.cells], .inr ⟨w.heap.size, 1, _, rfl, hb, heap_alloc_new _ _, Nat.le_refl _, by unfold maxLen; omega, rfl, by simp [cellsOf, Blk.cells]⟩⟩, fun p hp => ?_⟩
  rw [List.mem_singleton] at hp
  subst hp
  exact hown.later ((Below.refl _ w).alloc (Nat.le_refl _) _)

set_option maxRecDepth 100000 in
set_option maxHeartbeats 40000000 in
theorem refrun_calls (V n : Nat) (r : RDev) (w : World) (h : RefAt w V r) (hB : r.B.length = 64 * n) (h1 : 1 ≤ n) (h40 : n ≤ 40) :
    Calls Try.prog 59 #[.pointer (some ⟨V, 0, none⟩)] w fun e w' => ∃ v, e = .returned v ∧ OwnBs w' w.heap.size v (runOf (allTo n (win r.B) n)) ∧ Below w.heap.size w w' := by
  have c0 := h.c0
  have hq : (r.B.length : Int) / 64 = (n : Int) := by omega
  have hBi : (r.B.length : Int) = 64 * (n : Int) := by omega
  have hbl : r.B.length ≤ 4096 := by omega
  go_enter Try.func59, Try.ntmps59
  go_wp2
  go_loopw [4, 5] (fun av iv wr => ∃ i : Nat, i ≤ n ∧ iv = .int .i64 (i : Int) ∧ OwnBs wr w.heap.size av (allTo n (win r.B) i) ∧ RefAt wr V r ∧ Below w.heap.size w wr) (fun _ iv _ => n - (intOf iv).toNat)
  case atStart => exact ⟨0, Nat.zero_le _, rfl, OwnBs.nil _ _, h, Below.refl _ _⟩
  case round =>
    clear c0
    obtain ⟨i, hi, rfl, hO, hR, hbw⟩ := hrel
    by_cases hlt : i < n
    · have c0 := hR.c0
      have hiI : (i : Int) < (n : Int) := by omega
      have h64 : 64 * i + 64 ≤ r.B.length := by omega
      obtain ⟨l, hl⟩ : ∃ l, l = win r.B i := ⟨_, rfl⟩
      have hl64 : l.length = 64 := by rw [hl]; unfold win; rw [List.length_take, List.length_drop]; omega
      have hsub : (⟨r.B.toArray⟩ : ByteArray).extract (64 * i) (64 * i + 64) = ⟨l.toArray⟩ := by rw [str_sub, show 64 * i + 64 - 64 * i = 64 by omega, hl]; rfl
      have Hl := Lib.hid (And.intro hl hl64)
      have HS := Lib.hid hsub
      have hdec := Lib.hid (show ∀ a c W, l.length ≤ c → IsBytes W a l → Calls Try.prog 37 #[.slice a l.length c] W (DecPost l W) from fun a c W h1 h2 => refdecode_calls a l c W h1 h2)
      clear hl hsub hl64
      have hsz := hbw.size
      obtain ⟨x, hx⟩ : ∃ x, x = decB l := ⟨_, rfl⟩
      obtain ⟨E, hE⟩ : ∃ E, E = decE l := ⟨_, rfl⟩
      unfold DecPost at hdec
      rw [← hx, ← hE] at hdec
      have hso : x.serial < 18446744073709551616 := by
        rw [hx]
        by_cases e : decE l = 0
        · have := (may_serial (dec_may e)).1; omega
        · have : decB l = noneB := by unfold decB; rw [if_neg e]
          rw [this]; decide
      have HX := Lib.hid (And.intro hx hE)
      clear hx hE
      go_upto_region 7 with (first
        | (refine wpList_str_bytes rfl (.tmp 33) rfl l _ rfl HS.out ?_; intro c1 w1 hc1 hby1 hB1)
        | (go_at_call 37; refine (hdec.out _ c1 w1 hc1 hby1).mono ?_; rintro e w3 ⟨ax, cx, rfl, hown3, hB3⟩; have hz3 : BlkAt (w3.alloc (.cells (noneB.cells none 0) 43)) w3.heap.size noneB none 0 := heap_alloc_new _ _)
        | (refine wpList_store_blk rfl (.tmp 6) (.tmp 36) rfl w3.heap.size noneB x none ax 0 cx rfl rfl hz3 ?_; intro w4 hs4 hg4))
      have hz4 := ((Below.refl _ w3).alloc (Nat.le_refl _) (.cells (noneB.cells none 0) 43)).grown hg4 (by simp) (fun k hk => by cases hk; exact Nat.le_refl _)
      have hbr4 := below_call hB1 (Nat.le_refl _) (below_call hB3 (Nat.le_refl _) hz4)
      have hown4 : OwnB w4 w.heap.size (.slice ax x.body.length cx) x.body := (hown3.later hz4).mono (by have := hB1.size; omega)
      obtain ⟨H, hH⟩ : ∃ H, H = w3.heap.size := ⟨_, rfl⟩
      rw [← hH] at hs4 ⊢
      refine over_world (R := fun W => BlkAt W H x ax cx ∧ OwnB W w.heap.size (.slice ax x.body.length cx) x.body ∧ OwnBs W w.heap.size u4 (allTo n (win r.B) i) ∧ RefAt W V r ∧ Below w.heap.size w W) ⟨hs4, hown4, hO.later hbr4, hR.later hbr4, below_call hbw (Nat.le_refl _) hbr4⟩ ?_
      clear hs4 hg4 hz4 hown4 hown3 hB3 hz3 hbr4 hH hO hR hbw hdec hB1 hby1 hc1 c0
      rintro wv ⟨hs, hown, hO, hR, hbw⟩
      have x0 : wv.cell? ⟨H, 0, none⟩ = some (.int .u64 (x.serial : Int)) := hs.cell 0 _ rfl
      obtain ⟨P, hP⟩ : ∃ P, P = x.serial % n := ⟨_, rfl⟩
      have hPI : (x.serial : Int) % (n : Int) = (P : Int) := by rw [hP]; rfl
      have hPn : P < n := by rw [hP]; exact Nat.mod_lt _ h1
      have hgood : goodB n (win r.B) i = (decide (E = 0) && decide (P = i)) := by
        unfold goodB
        rw [← Hl.out.1, ← HX.out.1, ← HX.out.2, ← hP]
        rfl
      have hx2 : x = decB (win r.B i) := by rw [HX.out.1, Hl.out.1]
      have hn0 : ((n : Int) == 0) = false := by rw [beq_eq_false_iff_ne]; omega
      by_cases hE0 : E = 0
      · subst hE0
        by_cases hPi : P = i
        · have hgd : goodB n (win r.B) i = true := by rw [hgood]; simp [hPi]
          have HG := Lib.hid (And.intro hgd hx2)
          have hPI2 : (x.serial : Int) % (n : Int) = (i : Int) := by rw [hPI, hPi]
          clear hgood hgd hx2 hP hPi hPI
          have hcn := fun j u => cell_blkT wv x ax cx j u
          have hAl : (allTo n (win r.B) i).length ≤ 1099511627776 := by have := allTo_len n (win r.B) i; omega
          go_wp2_with (first
            | (refine wpList_load_blk rfl (.tmp 6) rfl H x ax cx rfl hs ?_; simp only [Blk.cells])
            | (at_builtin; refine wpList_append_blk rfl (.tmp 50) (.tmp 52) rfl w.heap.size u4 (allTo n (win r.B) i) rfl (hO.later ((Below.refl _ wv).alloc (Nat.le_refl _) _)) x ax cx wv.heap.size 1 rfl rfl hcn (hown.later ((Below.refl _ wv).alloc (Nat.le_refl _) _)) hAl (by rw [World.size_alloc]; have := hbw.size; omega) ?_; intro v5 w5 hO5 hg5))
          go_roundw
          case rel => exact ⟨i + 1, by omega, by go_num, by rw [allTo_yes HG.out.1, ← HG.out.2]; exact hO5, (hR.later ((Below.refl _ wv).alloc (Nat.le_refl _) _)).kept hg5 (fun e => by obtain ⟨c, f, z⟩ := (hO.later ((Below.refl _ wv).alloc (Nat.le_refl _) (.cells #[.int .u64 (x.serial : Int), .int .u8 (x.kind.toNat : Int), .bool x.first, .bool x.last, .slice ax x.body.length cx] 43))).kind _ e.symm; rw [show _ = _ from hR.later ((Below.refl _ wv).alloc (Nat.le_refl _) _)] at z; simp at z), (hbw.alloc hbw.size _).grown hg5 (by rw [World.size_alloc]; have := hbw.size; omega) (fun k hk => (hO.blk k hk).1)⟩
          case measure => simp [intOf]; omega
        · have hgd : goodB n (win r.B) i = false := by rw [hgood]; simp [hPi]
          have HG := Lib.hid hgd
          have hPI2 : ((P : Int) == (i : Int)) = false := by rw [beq_eq_false_iff_ne]; omega
          clear hgood hgd hx2 hP hPi
          go_wp2
          go_roundw
          case rel => exact ⟨i + 1, by omega, by go_num, by rw [allTo_no HG.out]; exact hO, hR, hbw⟩
          case measure => simp [intOf]; omega
      · have hgd : goodB n (win r.B) i = false := by rw [hgood]; simp [hE0]
        have HG := Lib.hid hgd
        have hE2 : ((E : Int) == 0) = false := by rw [beq_eq_false_iff_ne]; omega
        clear hgood hgd hx2 hP hPI
        go_wp2
        go_roundw
        case rel => exact ⟨i + 1, by omega, by go_num, by rw [allTo_no HG.out]; exact hO, hR, hbw⟩
        case measure => simp [intOf]; omega
    · have hin : i = n := by omega
      subst hin
      obtain ⟨A, hA⟩ : ∃ A, A = allTo i (win r.B) i := ⟨_, rfl⟩
      rw [← hA] at hO
      have HA := Lib.hid hA
      have hAl : A.length ≤ 40 := by rw [hA]; exact Nat.le_trans (allTo_len _ _ _) h40
      have hAs : ∀ x ∈ A, x.serial ≤ 1099511627776 := fun x hx => by rw [hA] at hx; exact (allTo_may hx).1
      clear hA
      obtain ⟨aA, cA, rfl, hIA, _, _, _, hnA⟩ := hO.slice
      go_wp2
      go_loopw [8] (fun ov wq => ∃ done, OwnBs wq w.heap.size ov done.reverse ∧ RunInv A done ∧ OwnBs wq w.heap.size (.slice aA A.length cA) A ∧ Below w.heap.size w wq) (fun ov _ => match ov with | .slice _ n _ => 1099511627778 - n | _ => 0)
      case atStart => exact ⟨[], OwnBs.nil _ _, RunInv.start A, hO, hbw⟩
      case round =>
        clear hO hIA hbw hR
        obtain ⟨done, hD, hinv, hO, hbw⟩ := hrel
        obtain ⟨wo, hwo⟩ : ∃ wo, wo = wr := ⟨_, rfl⟩
        subst hwo
        obtain ⟨aD, cD, rfl, hID, _, _, _, hnD⟩ := hD.slice
        obtain ⟨_, cA2, e2, hIA, _⟩ := hO.slice
        cases e2
        have hdl : done.length ≤ 1099511627777 := Nat.le_trans hinv.len (downFrom_short A _ (topS_le _ hAs))
        rcases hinv with ⟨rfl, _⟩ | ⟨d, x0, hdx, hdn⟩
        · -- nothing is out yet: the greatest one
          simp only [List.reverse_nil, List.length_nil] at *
          go_wp2
          go_loopw [9, 10] (fun kv iv wq => ∃ i : Nat, i ≤ A.length ∧ iv = .int .i64 (i : Int) ∧ ((i = 0 ∧ kv = .int .i64 (-1)) ∨ ∃ k : Nat, k < i ∧ kv = .int .i64 (k : Int) ∧ ∀ j, j < i → ∀ y z, A[j]? = some y → A[k]? = some z → y.serial ≤ z.serial) ∧ Below wo.heap.size wo wq) (fun _ iv _ => A.length - (intOf iv).toNat)
          case atStart => exact ⟨0, Nat.zero_le _, rfl, .inl ⟨rfl, rfl⟩, Below.refl _ _⟩
          case round =>
            obtain ⟨j, hj, rfl, hk, hbq⟩ := hrel
            have hne : Nonempty (SW (fun W => Below wo.heap.size wo W)) := ⟨⟨wo, Below.refl _ _⟩⟩
            by_cases hjl : j < A.length
            · obtain ⟨B, b1, o1, ab1, cb1, hB, ha, p0, p1, p2, p3, p4, hby1, _, _⟩ := hIA.cellsAt j hjl
              have hjI : (j : Int) < (A.length : Int) := by omega
              rcases hk with ⟨hj0, rfl⟩ | ⟨k, hkj, rfl, hmax⟩
              · have HB := Lib.hid hB
                clear hB
                cases ha
                go_wp2
                refine wp_region_seq2 (fun W => Below wo.heap.size wo W) [(0, true), (1, true), (2, true), (3, true), (4, true), (5, true), (6, true), (7, true), (8, true), (9, true), (10, true), (11, true), (12, true), (13, true), (14, true), (15, true), (16, true), (17, true), (18, true), (19, true), (20, true)] (by kernel_rfl) (by kernel_rfl) (fun d _ _ _ _ h => by cases d <;> exact h) (hbq.drew) ?_
                repeat (first
                  | ((with_reducible refine wpSeq_skip (o := ⟨_, _, _, _, _, _⟩) (by with_unfolding_all exact rfl) (by with_unfolding_all exact rfl) ?_); simp only [Act.put, List.setIfInBounds_toArray, List.set_cons_zero, List.set_cons_succ])
                  | ((with_reducible refine wpSeq_free (o := ⟨_, _, _, _, _, _⟩) (by with_unfolding_all exact rfl) (by with_unfolding_all exact rfl) (fun K hK => ?_)); go_big_quiet_op; (refine hK _ ?_; clear hK K)))
                refine wpSeq_nil ?_
                go_wp2
                go_roundw
                case rel => exact ⟨j + 1, by omega, by go_num, .inr ⟨j, by omega, rfl, fun j2 hj2 y z hy hz => by have e : j2 = j := (by omega); subst e; rw [hy] at hz; cases hz; exact Nat.le_refl _⟩, hbq.drew⟩
                case measure => simp [intOf]; omega
              · obtain ⟨C, b2, o2, ab2, cb2, hC, ha2, q0, q1, q2, q3, q4, hby2, _, _⟩ := hIA.cellsAt k (by omega)
                have hk0 : ¬ (k : Int) < 0 := by omega
                have hkI : (k : Int) < (A.length : Int) := by omega
                cases ha
                cases ha2
                by_cases hgt : C.serial < B.serial
                · have hgtI : (C.serial : Int) < (B.serial : Int) := by omega
                  have HB := Lib.hid (And.intro hB (And.intro hC (And.intro hmax hgt)))
                  clear hB hC hmax hgt
                  go_wp2
                  refine wp_region_seq2 (fun W => Below wo.heap.size wo W) [(0, true), (1, true), (2, true), (3, true), (4, true), (5, true), (6, true), (7, true), (8, true), (9, true), (10, true), (11, true), (12, true), (13, true), (14, true), (15, true), (16, true), (17, true), (18, true), (19, true), (20, true)] (by kernel_rfl) (by kernel_rfl) (fun d _ _ _ _ h => by cases d <;> exact h) (hbq.drew) ?_
                  repeat (first
                    | ((with_reducible refine wpSeq_skip (o := ⟨_, _, _, _, _, _⟩) (by with_unfolding_all exact rfl) (by with_unfolding_all exact rfl) ?_); simp only [Act.put, List.setIfInBounds_toArray, List.set_cons_zero, List.set_cons_succ])
                    | ((with_reducible refine wpSeq_free (o := ⟨_, _, _, _, _, _⟩) (by with_unfolding_all exact rfl) (by with_unfolding_all exact rfl) (fun K hK => ?_)); go_big_quiet_op; (refine hK _ ?_; clear hK K)))
                  refine wpSeq_nil ?_
                  go_wp2
                  go_roundw
                  case rel => exact ⟨j + 1, by omega, by go_num, .inr ⟨j, by omega, rfl, fun j2 hj2 y z hy hz => by obtain ⟨f1, f2, f3, f4⟩ := HB.out; rw [f1] at hz; cases hz; rcases Nat.lt_or_ge j2 j with h5 | h5; exact Nat.le_of_lt (Nat.lt_of_le_of_lt (f3 j2 h5 y C hy f2) f4); have e : j2 = j := (by omega); subst e; rw [f1] at hy; cases hy; exact Nat.le_refl _⟩, hbq.drew⟩
                  case measure => simp [intOf]; omega
                · have hgtI : ¬ (C.serial : Int) < (B.serial : Int) := by omega
                  have HB := Lib.hid (And.intro hB (And.intro hC (And.intro hmax hgt)))
                  clear hB hC hmax hgt
                  go_wp2
                  refine wp_region_seq2 (fun W => Below wo.heap.size wo W) [(0, true), (1, true), (2, true), (3, true), (4, true), (5, true), (6, true), (7, true), (8, true), (9, true), (10, true), (11, true), (12, true), (13, true), (14, true), (15, true), (16, true), (17, true), (18, true), (19, true), (20, true)] (by kernel_rfl) (by kernel_rfl) (fun d _ _ _ _ h => by cases d <;> exact h) (hbq.drew) ?_
                  repeat (first
                    | ((with_reducible refine wpSeq_skip (o := ⟨_, _, _, _, _, _⟩) (by with_unfolding_all exact rfl) (by with_unfolding_all exact rfl) ?_); simp only [Act.put, List.setIfInBounds_toArray, List.set_cons_zero, List.set_cons_succ])
                    | ((with_reducible refine wpSeq_free (o := ⟨_, _, _, _, _, _⟩) (by with_unfolding_all exact rfl) (by with_unfolding_all exact rfl) (fun K hK => ?_)); go_big_quiet_op; (refine hK _ ?_; clear hK K)))
                  refine wpSeq_nil ?_
                  go_wp2
                  go_roundw
                  case rel => exact ⟨j + 1, by omega, by go_num, .inr ⟨k, by omega, rfl, fun j2 hj2 y z hy hz => by obtain ⟨f1, f2, f3, f4⟩ := HB.out; rw [f2] at hz; cases hz; rcases Nat.lt_or_ge j2 j with h5 | h5; exact f3 j2 h5 y C hy f2; have e : j2 = j := (by omega); subst e; rw [f1] at hy; cases hy; omega⟩, hbq.drew⟩
                  case measure => simp [intOf]; omega
            · have hje : j = A.length := by omega
              subst hje
              rcases hk with ⟨hA0, rfl⟩ | ⟨k, hkj, rfl, hmax⟩
              · have hAn : A = [] := List.length_eq_zero_iff.1 hA0
                have hrun : runOf (allTo i (win r.B) i) = [] := by rw [← HA.out, hAn]; exact run_empty
                have HR := Lib.hid hrun
                clear hrun
                go_wp2
                go_ret
                exact ⟨_, rfl, by rw [HR.out]; exact hD.later hbq, below_call hbw (Nat.le_refl _) hbq⟩
              · have hkA : k < A.length := hkj
                obtain ⟨g, abk, cbk, hag, hgl, hck, hbk⟩ := (hO.later hbq).memAt k hkA
                cases hag
                have hbk' := hbk
                obtain ⟨C, hC⟩ : ∃ C, C = A[k] := ⟨_, rfl⟩
                rw [← hC] at hck hbk
                have hCA : A[k]? = some C := by rw [hC]; exact List.getElem?_eq_getElem hkA
                have q0 : wr.cell? ⟨g, k * 5, none⟩ = some (.int .u64 (C.serial : Int)) := hck 0 _ rfl
                have q1 : wr.cell? ⟨g, k * 5 + 1, none⟩ = some (.int .u8 (C.kind.toNat : Int)) := hck 1 _ rfl
                have q2 : wr.cell? ⟨g, k * 5 + 2, none⟩ = some (.bool C.first) := hck 2 _ rfl
                have q3 : wr.cell? ⟨g, k * 5 + 3, none⟩ = some (.bool C.last) := hck 3 _ rfl
                have q4 : wr.cell? ⟨g, k * 5 + 4, none⟩ = some (.slice abk C.body.length cbk) := hck 4 _ rfl
                have hk0 : ¬ (k : Int) < 0 := by omega
                have hkI : (k : Int) < (A.length : Int) := by omega
                have hbt := below_call hbw (Nat.le_refl _) hbq
                have hbtl := hbt.size
                have hone := OwnBs.one C abk cbk hbtl hbk
                have hDd := (hD.later hbq).later ((Below.refl _ wr).alloc (Nat.le_refl _) (.cells #[.int .u64 (C.serial : Int), .int .u8 (C.kind.toNat : Int), .bool C.first, .bool C.last, .slice abk C.body.length cbk] 43))
                have hOA := (hO.later hbq).later ((Below.refl _ wr).alloc (Nat.le_refl _) (.cells #[.int .u64 (C.serial : Int), .int .u8 (C.kind.toNat : Int), .bool C.first, .bool C.last, .slice abk C.body.length cbk] 43))
                have hinv : RunInv A [C] := by
                  have hm : C ∈ A := List.mem_of_getElem? hCA
                  rw [HA.out] at hm hmax hCA ⊢
                  refine RunInv.first hm fun y hy => ?_
                  obtain ⟨j2, hj2, e⟩ := List.mem_iff_getElem.1 hy
                  exact hmax j2 hj2 y C (by rw [← e]; exact List.getElem?_eq_getElem hj2) hCA
                have HI := Lib.hid hinv
                clear hinv hmax hC hCA hck hbk' hIA hjl
                go_wp2_with (at_builtin; refine wpList_append_blks rfl (.tmp 103) (.tmp 104) rfl w.heap.size (.slice (some ⟨wr.heap.size, 0, none⟩) 1 1) (.slice aD 0 cD) [C] [] rfl hone rfl hDd (by simp) (by rw [World.size_alloc]; omega) ?_; intro v5 w5 hO5 hg5)
                go_roundw
                case rel =>
                  refine ⟨[C], hO5, HI.out, hOA.off43 hg5 (heap_alloc_new _ _) (fun e => by simp [Value.ownBlock] at e; omega), (hbt.alloc hbtl _).grown hg5 (by rw [World.size_alloc]; omega) (fun q e => by simp [Value.ownBlock] at e; omega)⟩
                case measure =>
                  obtain ⟨a5, c5, rfl, _⟩ := hO5.slice
                  simp
        · -- the one below
          subst hdx
          have hM : (d ++ [x0]).reverse.length = d.length + 1 := by simp
          obtain ⟨gD, abD, cbD, hagD, hgDl, hckD, hDr⟩ := hD.memAt 0 (by omega)
          clear hDr
          have hx0 : (d ++ [x0]).reverse[0]'(by omega) = x0 := by simp
          rw [hx0] at hckD
          cases hagD
          have hne : Nonempty (SW (fun W => Below wo.heap.size wo W)) := ⟨⟨wo, Below.refl _ _⟩⟩
          have z0 : ∀ x : SW (fun W => Below wo.heap.size wo W), x.W.cell? ⟨gD, 0, none⟩ = some (.int .u64 (x0.serial : Int)) := fun x => (x.h.cell (p := ⟨gD, 0, none⟩) hgDl).trans (hckD 0 _ rfl)
          obtain ⟨M, hMM⟩ : ∃ M, M = (d ++ [x0]).reverse.length := ⟨_, rfl⟩
          have hM1 : M = d.length + 1 := by rw [hMM]; exact hM
          rw [← hMM] at hD ⊢
          have HMM := Lib.hid hMM
          have HDN := Lib.hid hdn
          have hM0 : ¬ (M = 0) := by omega
          have hM2 : (0 : Int) < (M : Int) := by omega
          have hM0I : ((M : Int) == 0) = false := by rw [beq_eq_false_iff_ne]; omega
          obtain ⟨s, hs0⟩ : ∃ s, s = x0.serial := ⟨_, rfl⟩
          rw [← hs0] at z0
          have HS0 := Lib.hid (And.intro hs0 hM1)
          clear hMM hM hM1 hx0 hckD hs0 hdn
          go_wp2
          go_loopw [9, 10] (fun kv iv wq => ∃ i : Nat, i ≤ A.length ∧ iv = .int .i64 (i : Int) ∧ ((kv = .int .i64 (-1) ∧ ∀ j, j < i → ∀ y, A[j]? = some y → y.serial + 1 ≠ s) ∨ ∃ k : Nat, k < i ∧ kv = .int .i64 (k : Int) ∧ ∀ z, A[k]? = some z → z.serial + 1 = s) ∧ Below wo.heap.size wo wq) (fun _ iv _ => A.length - (intOf iv).toNat)
          case atStart => exact ⟨0, Nat.zero_le _, rfl, .inl ⟨rfl, fun j hj => absurd hj (Nat.not_lt_zero _)⟩, Below.refl _ _⟩
          case round =>
            obtain ⟨j, hj, rfl, hk, hbq⟩ := hrel
            by_cases hjl : j < A.length
            · obtain ⟨B, b1, o1, ab1, cb1, hB, ha, p0, p1, p2, p3, p4, hby1, _, _⟩ := hIA.cellsAt j hjl
              have hjI : (j : Int) < (A.length : Int) := by omega
              have hBs := hAs B (List.mem_of_getElem? hB)
              cases ha
              by_cases heq : B.serial + 1 = s
              · have heqI : ((B.serial : Int) + 1 == (s : Int)) = true := by rw [beq_iff_eq]; omega
                have HB := Lib.hid (And.intro hB heq)
                have HK := Lib.hid hk
                clear hB heq hk
                go_wp2
                refine wp_region_seq2 (fun W => Below wo.heap.size wo W) [(0, true), (1, true), (2, true), (3, true), (4, true), (5, true), (6, true), (7, true), (8, true), (9, true), (10, true), (11, true), (12, true), (13, true), (14, true), (15, true), (16, true), (17, true), (18, true), (19, true), (20, true)] (by kernel_rfl) (by kernel_rfl) (fun d _ _ _ _ h => by cases d <;> exact h) (hbq.drew) ?_
                repeat (first
                  | ((with_reducible refine wpSeq_skip (o := ⟨_, _, _, _, _, _⟩) (by with_unfolding_all exact rfl) (by with_unfolding_all exact rfl) ?_); simp only [Act.put, List.setIfInBounds_toArray, List.set_cons_zero, List.set_cons_succ])
                  | ((with_reducible refine wpSeq_free (o := ⟨_, _, _, _, _, _⟩) (by with_unfolding_all exact rfl) (by with_unfolding_all exact rfl) (fun K hK => ?_)); go_big_quiet_op; (refine hK _ ?_; clear hK K)))
                refine wpSeq_nil ?_
                go_wp2
                refine wp_region_seq2 (fun W => Below wo.heap.size wo W) [(0, true), (1, true), (2, true), (3, true), (4, true), (5, true), (6, true), (7, true), (8, true), (9, true), (10, true), (11, true)] (by kernel_rfl) (by kernel_rfl) (fun d _ _ _ _ h => by cases d <;> exact h) (hbq.drew.drew) ?_
                repeat (first
                  | ((with_reducible refine wpSeq_skip (o := ⟨_, _, _, _, _, _⟩) (by with_unfolding_all exact rfl) (by with_unfolding_all exact rfl) ?_); simp only [Act.put, List.setIfInBounds_toArray, List.set_cons_zero, List.set_cons_succ])
                  | ((with_reducible refine wpSeq_free (o := ⟨_, _, _, _, _, _⟩) (by with_unfolding_all exact rfl) (by with_unfolding_all exact rfl) (fun K hK => ?_)); go_big_quiet_op; (refine hK _ ?_; clear hK K)))
                refine wpSeq_nil ?_
                go_wp2
                go_roundw
                case rel => exact ⟨j + 1, by omega, by go_num, .inr ⟨j, by omega, rfl, fun z hz => by obtain ⟨f1, f2⟩ := HB.out; rw [f1] at hz; cases hz; exact f2⟩, hbq.drew.drew⟩
                case measure => simp [intOf]; omega
              · have heqI : ((B.serial : Int) + 1 == (s : Int)) = false := by rw [beq_eq_false_iff_ne]; omega
                have HB := Lib.hid (And.intro hB heq)
                have HK := Lib.hid hk
                clear hB heq hk
                go_wp2
                refine wp_region_seq2 (fun W => Below wo.heap.size wo W) [(0, true), (1, true), (2, true), (3, true), (4, true), (5, true), (6, true), (7, true), (8, true), (9, true), (10, true), (11, true), (12, true), (13, true), (14, true), (15, true), (16, true), (17, true), (18, true), (19, true), (20, true)] (by kernel_rfl) (by kernel_rfl) (fun d _ _ _ _ h => by cases d <;> exact h) (hbq.drew) ?_
                repeat (first
                  | ((with_reducible refine wpSeq_skip (o := ⟨_, _, _, _, _, _⟩) (by with_unfolding_all exact rfl) (by with_unfolding_all exact rfl) ?_); simp only [Act.put, List.setIfInBounds_toArray, List.set_cons_zero, List.set_cons_succ])
                  | ((with_reducible refine wpSeq_free (o := ⟨_, _, _, _, _, _⟩) (by with_unfolding_all exact rfl) (by with_unfolding_all exact rfl) (fun K hK => ?_)); go_big_quiet_op; (refine hK _ ?_; clear hK K)))
                refine wpSeq_nil ?_
                go_wp2
                refine wp_region_seq2 (fun W => Below wo.heap.size wo W) [(0, true), (1, true), (2, true), (3, true), (4, true), (5, true), (6, true), (7, true), (8, true), (9, true), (10, true), (11, true)] (by kernel_rfl) (by kernel_rfl) (fun d _ _ _ _ h => by cases d <;> exact h) (hbq.drew.drew) ?_
                repeat (first
                  | ((with_reducible refine wpSeq_skip (o := ⟨_, _, _, _, _, _⟩) (by with_unfolding_all exact rfl) (by with_unfolding_all exact rfl) ?_); simp only [Act.put, List.setIfInBounds_toArray, List.set_cons_zero, List.set_cons_succ])
                  | ((with_reducible refine wpSeq_free (o := ⟨_, _, _, _, _, _⟩) (by with_unfolding_all exact rfl) (by with_unfolding_all exact rfl) (fun K hK => ?_)); go_big_quiet_op; (refine hK _ ?_; clear hK K)))
                refine wpSeq_nil ?_
                go_wp2
                go_roundw
                case rel => exact ⟨j + 1, by omega, by go_num, (by rcases HK.out with ⟨e1, e2⟩ | ⟨k, e1, e2, e3⟩; exact .inl ⟨e1, fun j2 hj2 y hy => by obtain ⟨f1, f2⟩ := HB.out; rcases Nat.lt_or_ge j2 j with h5 | h5; exact e2 j2 h5 y hy; have e : j2 = j := (by omega); subst e; rw [f1] at hy; cases hy; exact f2⟩; exact .inr ⟨k, by omega, e2, e3⟩), hbq.drew.drew⟩
                case measure => simp [intOf]; omega
            · have hje : j = A.length := by omega
              subst hje
              rcases hk with ⟨rfl, hno⟩ | ⟨k, hkj, rfl, hse⟩
              · have hrun : runOf (allTo i (win r.B) i) = (d ++ [x0]).reverse := by
                  rw [← HA.out]
                  refine RunInv.stop HDN.out fun y hy => ?_
                  obtain ⟨j2, hj2, e⟩ := List.mem_iff_getElem.1 hy
                  rw [← HS0.out.1]
                  exact hno j2 hj2 y (by rw [← e]; exact List.getElem?_eq_getElem hj2)
                have HR := Lib.hid hrun
                clear hrun hno
                go_wp2
                go_ret
                exact ⟨_, rfl, by rw [HR.out]; exact hD.later hbq, below_call hbw (Nat.le_refl _) hbq⟩
              · have hkA : k < A.length := hkj
                obtain ⟨g, abk, cbk, hag, hgl, hck, hbk⟩ := (hO.later hbq).memAt k hkA
                cases hag
                have hbk' := hbk
                obtain ⟨C, hC⟩ : ∃ C, C = A[k] := ⟨_, rfl⟩
                rw [← hC] at hck hbk
                have hCA : A[k]? = some C := by rw [hC]; exact List.getElem?_eq_getElem hkA
                have q0 : wr.cell? ⟨g, k * 5, none⟩ = some (.int .u64 (C.serial : Int)) := hck 0 _ rfl
                have q1 : wr.cell? ⟨g, k * 5 + 1, none⟩ = some (.int .u8 (C.kind.toNat : Int)) := hck 1 _ rfl
                have q2 : wr.cell? ⟨g, k * 5 + 2, none⟩ = some (.bool C.first) := hck 2 _ rfl
                have q3 : wr.cell? ⟨g, k * 5 + 3, none⟩ = some (.bool C.last) := hck 3 _ rfl
                have q4 : wr.cell? ⟨g, k * 5 + 4, none⟩ = some (.slice abk C.body.length cbk) := hck 4 _ rfl
                have hk0 : ¬ (k : Int) < 0 := by omega
                have hkI : (k : Int) < (A.length : Int) := by omega
                have hbt := below_call hbw (Nat.le_refl _) hbq
                have hbtl := hbt.size
                have hone := OwnBs.one C abk cbk hbtl hbk
                have hDd := (hD.later hbq).later ((Below.refl _ wr).alloc (Nat.le_refl _) (.cells #[.int .u64 (C.serial : Int), .int .u8 (C.kind.toNat : Int), .bool C.first, .bool C.last, .slice abk C.body.length cbk] 43))
                have hOA := (hO.later hbq).later ((Below.refl _ wr).alloc (Nat.le_refl _) (.cells #[.int .u64 (C.serial : Int), .int .u8 (C.kind.toNat : Int), .bool C.first, .bool C.last, .slice abk C.body.length cbk] 43))
                have hinv : RunInv A ((d ++ [x0]) ++ [C]) := by
                  have hm : C ∈ A := List.mem_of_getElem? hCA
                  have hs2 := hse C hCA
                  rw [HS0.out.1] at hs2
                  have hdn := HDN.out
                  rw [HA.out] at hm hdn ⊢
                  exact RunInv.next hdn hm hs2
                have HI := Lib.hid hinv
                clear hinv hse hC hCA hck hbk' hIA hjl
                have hMs : M ≤ 1099511627777 := by rw [HMM.out, List.length_reverse]; exact hdl
                go_wp2_with (at_builtin; refine wpList_append_blks rfl (.tmp 103) (.tmp 104) rfl w.heap.size (.slice (some ⟨wr.heap.size, 0, none⟩) 1 1) (.slice (some ⟨gD, 0, none⟩) M cD) [C] (d ++ [x0]).reverse rfl hone rfl hDd (by rw [← HMM.out, List.length_singleton]; omega) (by rw [World.size_alloc]; omega) ?_; intro v5 w5 hO5 hg5)
                go_roundw
                case rel =>
                  refine ⟨(d ++ [x0]) ++ [C], by rw [List.reverse_append]; exact hO5, HI.out, hOA.off43 hg5 (heap_alloc_new _ _) (fun e => by simp [Value.ownBlock] at e; omega), (hbt.alloc hbtl _).grown hg5 (by rw [World.size_alloc]; omega) (fun q e => by simp [Value.ownBlock] at e; omega)⟩
                case measure =>
                  obtain ⟨a5, c5, rfl, _⟩ := hO5.slice
                  simp only [List.length_append, List.length_singleton]
                  have := HMM.out
                  simp at this ⊢
                  omega
end Go.Proofs.Ytdlbjllgdikadaa
