/- varvelaw21.ScanRecords, walked. -/
import Derived.Test.YtdlbjllgdikadaaScnD
namespace Go.Proofs.Ytdlbjllgdikadaa
open Go.RowKit
set_option linter.unusedVariables false
set_option linter.unusedSimpArgs false

/-- 'append(v, b)', a longer row. -/
theorem wpList_append_blk2 {w : World} {ops : Array Oper} {rest : List Oper} {o : Oper} {a : Act} {Q : Exit → Act → World → Prop} (hgd : o.guard = none) (s x : Operand)
    (ho : o.op = .call { callee := .builtin .append, args := #[s, x], argTypes := #[32, 32] })
    (base : Nat) (v : Value) (l : List Blk) (hs : a.eval s = v) (hown : OwnBs w base v l)
    (b : Blk) (ab : Option Addr) (cap g n : Nat) (hx : a.eval x = .slice (some ⟨g, 0, none⟩) n n) (hn : n = 1) (hcells : ∀ j u, (b.cells ab cap)[j]? = some u → w.cell? ⟨g, j, none⟩ = some u)
    (hbody : OwnB w base (.slice ab b.body.length cap) b.body)
    (hlen : l.length + 1 ≤ 3518437208883) (hbase : base ≤ w.heap.size)
    (h : ∀ v' w', OwnBs w' base v' (l ++ [b]) → w.grownBy w' v.ownBlock → wpList Try.prog ops Q rest (a.put o.dst v') w') : wpList Try.prog ops Q (o :: rest) a w := by
  obtain ⟨i0, hi, hz0, hz1, hz2⟩ := info_parts info43
  obtain ⟨r, h1, h2, h3⟩ := hown
  subst hn
  refine wpList_append_own w hgd s x 32 ho base 43 i0 (.agg #[.int .u64 0, .int .u8 0, .bool false, .bool false, .slice none 0 0]) 5 40 (by kernel_rfl) hi hz0 hz1 hz2 rfl (by decide) v l.length (cellsOf r) hs h2 ⟨g, 0, none⟩ 1 1 (b.cells ab cap).toList hx rfl
    (fun j u hu => by rw [Addr.add_lit, Nat.zero_add]; exact hcells j u (by simpa using hu)) (fun u hu => by
      simp [Blk.cells] at hu
      rcases hu with rfl | rfl | rfl | rfl | rfl <;> rfl) (by unfold maxLen; omega) (by omega) hbase ?_
  intro v' w' k1 k2 _
  refine h v' w' ⟨r ++ [(b, ab, cap)], by simp [h1], ?_, ?_⟩ k2
  · rw [cellsOf_append, List.length_append]
    simpa [cellsOf] using k1
  · have hk : ∀ p : Blk × Option Addr × Nat, OwnB w base (.slice p.2.1 p.1.body.length p.2.2) p.1.body → OwnB w' base (.slice p.2.1 p.1.body.length p.2.2) p.1.body := by
      intro p hp
      refine World.ownsRow.kept hp k2 ?_
      cases e : (Value.slice p.2.1 p.1.body.length p.2.2).ownBlock with
      | none => exact .inl rfl
      | some q =>
        right
        intro e2
        obtain ⟨c1, f1, z1⟩ := Lib.ownsRow_kind hp q e
        obtain ⟨c2, f2, z2⟩ := Lib.ownsRow_kind h2 q e2.symm
        rw [z1] at z2
        simp at z2
    intro p hp
    rcases List.mem_append.1 hp with hp | hp
    · exact hk p (h3 p hp)
    · rw [List.mem_singleton] at hp
      subst hp
      exact hk _ hbody

/-- A row of records in memory, the bytes whatever they are. -/
def RowW (w : World) (base g cap : Nat) (r : List RTrip) : Prop := w.ownsRow base 91 3 (.slice (some ⟨g, 0, none⟩) r.length cap) r.length (rcellsOf r) ∧ ∀ p ∈ r, ∃ l', l'.length = p.1.body.length ∧ OwnB w base (.slice p.2.1 p.1.body.length p.2.2) l'
theorem RowW.later {w w' : World} {base g cap : Nat} {r : List RTrip} (h : RowW w base g cap r) (hb : Below w.heap.size w w') : RowW w' base g cap r :=
  ⟨ownsRow_later h.1 hb, fun p hp => by obtain ⟨l', e, h2⟩ := h.2 p hp; exact ⟨l', e, h2.later hb⟩⟩
/-- A byte of a body is written. -/
theorem RowW.stored {w : World} {base g cap : Nat} {r : List RTrip} (h : RowW w base g cap r) {gb n cb : Nat} {l : List UInt8} (hl : OwnB w base (.slice (some ⟨gb, 0, none⟩) n cb) l) (k : Nat) (x : UInt8) : RowW (w.setCell ⟨gb, k, none⟩ (.int .u8 (x.toNat : Int))) base g cap r := by
  obtain ⟨c1, f1, z1⟩ := Lib.ownsRow_kind hl gb rfl
  refine ⟨World.ownsRow.kept h.1 (grown_setCell w ⟨gb, k, none⟩ _) (.inr fun e => ?_), fun p hp => ?_⟩
  · have e' : g = gb := by simpa [Value.ownBlock] using e
    obtain ⟨c2, f2, z2⟩ := Lib.ownsRow_kind h.1 g rfl
    rw [e', z1] at z2
    simp at z2
  · obtain ⟨l', e1, h2⟩ := h.2 p hp
    by_cases e : (Value.slice p.2.1 p.1.body.length p.2.2).ownBlock = some gb
    · obtain ⟨a2, c2, e3, hby, hle, hcm, hbk, hno⟩ := h2.slice
      cases ha : p.2.1 with
      | none => rw [ha] at e; simp [Value.ownBlock] at e
      | some ad =>
        rw [ha] at h2 e e3
        injection e3 with e3a e3b e3c
        obtain ⟨g2, e4, _, _⟩ := hbk ad e3a.symm
        subst e4
        have e5 : g2 = gb := by simpa [Value.ownBlock] using e
        subst e5
        exact ⟨l'.set k x, by rw [List.length_set, e1], OwnB.stored h2 e1.symm k x⟩
    · refine ⟨l', e1, World.ownsRow.kept h2 (grown_setCell w ⟨gb, k, none⟩ _) ?_⟩
      cases e2 : (Value.slice p.2.1 p.1.body.length p.2.2).ownBlock with
      | none => exact .inl rfl
      | some q => exact .inr fun e3 => e (by rw [e2, e3])
/-- A record of the row. -/
theorem RowW.at_ {w : World} {base g cap : Nat} {r : List RTrip} (h : RowW w base g cap r) (i : Nat) (hi : i < r.length) :
    ∃ l', l'.length = r[i].1.body.length ∧ OwnB w base (.slice r[i].2.1 r[i].1.body.length r[i].2.2) l' ∧ w.cell? ⟨g, i * 3 + 2, none⟩ = some (.slice r[i].2.1 r[i].1.body.length r[i].2.2) := by
  obtain ⟨l', e1, h2⟩ := h.2 r[i] (List.getElem_mem hi)
  refine ⟨l', e1, h2, ?_⟩
  rw [show i * 3 + 2 = 3 * i + 2 by omega, World.ownsRow.cellAt h.1 (3 * i + 2) (by omega), rcellsOf_get r i hi 2 (by decide)]
  rfl
theorem inc_u8 (x : UInt8) : ((x.toNat : Int) + 1) % 256 = ((x + 1).toNat : Int) := by
  rw [UInt8.toNat_add]; simp

set_option maxRecDepth 100000 in
set_option maxHeartbeats 8000000 in
theorem records_walk (l : List Blk) (a : Option Addr) (c : Nat) (w : World) (hI : IsBs w a l) (hok : ∀ b ∈ l, b.serial < 18446744073709551616 ∧ b.body.length ≤ 9223372036854775807) (hlen : l.length ≤ 3518437208800) :
    Calls Try.prog 11 #[.slice a l.length c] w fun e w' => e = .returned (.bool true) ∧ Below w.heap.size w w' := by
  have hkn := Lib.hid known56_calls
  go_enter Try.func11, Try.ntmps11
  go_wp2
  go_loopw [3, 11] (fun nv iv wr => ∃ j : Nat, j ≤ l.length ∧ iv = .int .i64 (j : Int) ∧ OwnBs wr w.heap.size nv (l.take j) ∧ (∀ x ∈ l.take j, x.body.length ≤ 100) ∧ Below w.heap.size w wr) (fun _ iv _ => l.length - (intOf iv).toNat)
  case atStart => exact ⟨0, Nat.zero_le _, rfl, OwnBs.nil _ _, (fun x hx => nomatch hx), Below.refl _ _⟩
  case round =>
    obtain ⟨j, hj, rfl, hO, hle, hbw⟩ := hrel
    by_cases hlt : j < l.length
    · obtain ⟨X, b1, o1, ax, cx, hX, ha, p0, p1, p2, p3, p4, hby, hxc, hxn⟩ := hI.cellsAt j hlt
      have hjI : (j : Int) < (l.length : Int) := by omega
      have f0 : wr.cell? ⟨b1, o1 + j * 5, none⟩ = _ := p0 ⟨wr, hbw⟩
      have f1 : wr.cell? ⟨b1, o1 + j * 5 + 1, none⟩ = _ := p1 ⟨wr, hbw⟩
      have f2 : wr.cell? ⟨b1, o1 + j * 5 + 2, none⟩ = _ := p2 ⟨wr, hbw⟩
      have f3 : wr.cell? ⟨b1, o1 + j * 5 + 3, none⟩ = _ := p3 ⟨wr, hbw⟩
      have f4 : wr.cell? ⟨b1, o1 + j * 5 + 4, none⟩ = _ := p4 ⟨wr, hbw⟩
      cases ha
      have htk : l.take (j + 1) = l.take j ++ [X] := by rw [List.take_add_one, hX]; rfl
      have hXl := (hok X (List.mem_of_getElem? hX)).2
      have hXn' : ax = none → X.body.length = 0 ∧ cx = 0 := fun e => by obtain ⟨e1, e2⟩ := hxn e; exact ⟨by rw [e1]; rfl, e2⟩
      have HT := Lib.hid (And.intro htk hle)
      have hsz := hbw.size
      have hjl : (l.take j).length + 1 ≤ 3518437208883 := by rw [List.length_take]; omega
      clear htk hX p0 p1 p2 p3 p4 hle
      by_cases hbig : 100 < X.body.length
      · have hbI : (100 : Int) < (X.body.length : Int) := by omega
        go_wp2_with (go_at_call 56; refine (hkn.out _).mono ?_; rintro e w1 ⟨rfl, hB1⟩)
        go_ret
        exact ⟨rfl, below_call (hbw.alloc hsz _) (Nat.le_refl _) hB1⟩
      · have hbI : ¬ (100 : Int) < (X.body.length : Int) := by omega
        obtain ⟨w4, hw4⟩ : ∃ w4, w4 = wr.alloc (.cells #[.int .u64 (X.serial : Int), .int .u8 (X.kind.toNat : Int), .bool X.first, .bool X.last, .slice ax X.body.length cx] 43) := ⟨_, rfl⟩
        have hb4 : Below wr.heap.size wr w4 := by rw [hw4]; exact (Below.refl _ _).alloc (Nat.le_refl _) _
        have hX4 : BlkAt w4 wr.heap.size X ax cx := by rw [hw4]; exact heap_alloc_new _ _
        go_upto_region 7 with fail
        rw [← hw4]
        have hxw := (hby.later hbw).later hb4
        have hO4 := hO.later hb4
        have hbw4 := below_call hbw (Nat.le_refl _) hb4
        have h4s : wr.heap.size < w4.heap.size := by rw [hw4]; simp
        refine over_world (R := fun W => BlkAt W wr.heap.size X ax cx ∧ IsBytes W ax X.body ∧ OwnBs W w.heap.size u3 (l.take j) ∧ Below w.heap.size w W ∧ wr.heap.size < W.heap.size) ⟨hX4, hxw, hO4, hbw4, h4s⟩ ?_
        have hu3 : ∀ q, u3.ownBlock = some q → q < wr.heap.size := fun q e => (hO.blk q e).2
        clear hX4 hxw hO4 hbw4 h4s hb4 hw4 f0 f1 f2 f3 f4 hby hO hbw
        rintro wv ⟨hX4, hxw, hO4, hbw4, h4s⟩
        obtain ⟨H, hH⟩ : ∃ H, H = wr.heap.size := ⟨_, rfl⟩
        rw [← hH] at hX4 h4s hsz hu3 ⊢
        have HH := Lib.hid hH
        clear hH
        have c4 : (wv.alloc (.cells #[] 5)).cell? ⟨H, 4, none⟩ = some (.slice ax X.body.length cx) := (hX4.later ((Below.refl _ wv).alloc (Nat.le_refl _) _)).cell 4 _ rfl
        have hsv := hbw4.size
        go_upto_region 8 with (at_builtin; refine wpList_append_bytes rfl (.tmp 20) (.tmp 22) rfl w.heap.size (.slice (some ⟨wv.heap.size, 0, none⟩) 0 0) [] rfl (OwnB.made wv w.heap.size hsv) ax X.body.length cx X.body rfl rfl hXn' (hxw.alloc _) (by simp only [List.length_nil]; omega) (by rw [World.size_alloc]; omega) ?_; intro v6 w6 hown6 hg6; obtain ⟨a6, c6, rfl, hby6, hle6, hcm6, hbk6, hno6⟩ := hown6.slice; have hX6 : BlkAt w6 H X ax cx := (hX4.later ((Below.refl _ wv).alloc (Nat.le_refl _) _)).kept hg6 (fun e => (by simp [Value.ownBlock] at e; omega)); have c6c : w6.cell? ⟨H, 4, none⟩ = some (.slice ax X.body.length cx) := hX6.cell 4 _ rfl; have c6f := hX6.free 4)
        simp only [List.nil_append] at *
        have hg5 := (hbw4.alloc hsv (.cells #[] 5)).grown hg6 (by rw [World.size_alloc]; omega) (fun q e => by simp [Value.ownBlock] at e; omega)
        have hO6 : OwnBs w6 w.heap.size u3 (l.take j) := by
          obtain ⟨r, r1, r2, r3⟩ := hO4
          have hk : ∀ {e : TypeId} {s n : Nat} {v : Value} {xs : List Value}, wv.ownsRow w.heap.size e s v n xs → w6.ownsRow w.heap.size e s v n xs := fun {e s n v xs} hr => by
            refine World.ownsRow.kept (ownsRow_later hr ((Below.refl _ wv).alloc (Nat.le_refl _) _)) hg6 ?_
            cases e2 : v.ownBlock with
            | none => exact .inl rfl
            | some q =>
              right; intro e3
              have := (World.ownsRow.lt hr q e2).2
              simp [Value.ownBlock] at e3; omega
          exact ⟨r, r1, hk r2, fun p hp => hk (r3 p hp)⟩
        have hX7 : BlkAt (w6.setCell ⟨H, 4, none⟩ (.slice a6 X.body.length c6)) H X a6 c6 := hX6.stored 4 _ rfl
        have hown7 : OwnB (w6.setCell ⟨H, 4, none⟩ (.slice a6 X.body.length c6)) w.heap.size (.slice a6 X.body.length c6) X.body := by
          refine World.ownsRow.kept hown6 (grown_setCell w6 ⟨H, 4, none⟩ _) ?_
          cases e : (Value.slice a6 X.body.length c6).ownBlock with
          | none => exact .inl rfl
          | some q =>
            right; intro e2
            injection e2 with e2
            obtain ⟨cc, ff, zz⟩ := Lib.ownsRow_kind hown6 q e
            rw [e2, hX6] at zz
            simp at zz
        have hO7 : OwnBs (w6.setCell ⟨H, 4, none⟩ (.slice a6 X.body.length c6)) w.heap.size u3 (l.take j) := hO6.offcell hX6 (grown_setCell w6 ⟨H, 4, none⟩ _) (fun e => absurd (hu3 H e) (Nat.lt_irrefl _))
        have hb7 : Below w.heap.size w (w6.setCell ⟨H, 4, none⟩ (.slice a6 X.body.length c6)) := hg5.setCell (p := ⟨H, 4, none⟩) (by show w.heap.size ≤ H; omega) _
        refine over_world (R := fun W => BlkAt W H X a6 c6 ∧ OwnB W w.heap.size (.slice a6 X.body.length c6) X.body ∧ OwnBs W w.heap.size u3 (l.take j) ∧ Below w.heap.size w W) ⟨hX7, hown7, hO7, hb7⟩ ?_
        clear hX7 hown7 hO7 hb7 hO6 hg5 hX6 c6c c6f hg6 hown6 hby6 hle6 hcm6 hbk6 hno6 c4 hX4 hxw hO4 hbw4 h4s hsv
        rintro wq ⟨hX7, hown7, hO7, hb7⟩
        have hsq := hb7.size
        have hcn := fun j u => cell_blkT wq X a6 c6 j u
        go_wp2_with (first
          | (refine wpList_load_blk rfl (.tmp 5) rfl H X a6 c6 rfl hX7 ?_; simp only [Blk.cells])
          | (at_builtin; refine wpList_append_blk2 rfl (.tmp 25) (.tmp 27) rfl w.heap.size u3 (l.take j) rfl (hO7.later ((Below.refl _ wq).alloc (Nat.le_refl _) _)) X a6 c6 wq.heap.size 1 rfl rfl hcn (hown7.later ((Below.refl _ wq).alloc (Nat.le_refl _) _)) hjl (by rw [World.size_alloc]; omega) ?_; intro v5 w5 hO5 hg5))
        go_roundw
        case rel =>
          refine ⟨j + 1, by omega, by go_num, by rw [HT.out.1]; exact hO5, fun x hx => ?_, (hb7.alloc hsq _).grown hg5 (by rw [World.size_alloc]; omega) (fun q e => (hO7.blk q e).1)⟩
          rw [HT.out.1] at hx
          rcases List.mem_append.1 hx with hx | hx
          · exact HT.out.2 x hx
          · rw [List.mem_singleton] at hx; subst hx; omega
        case measure => simp [intOf]; omega
    · have hje : j = l.length := by omega
      rw [hje, List.take_length] at hO hle
      subst hje
      have hsz := hbw.size
      by_cases hbig : 60 < l.length
      · have hbI : (60 : Int) < (l.length : Int) := by omega
        go_wp2_with (go_at_call 56; refine (hkn.out _).mono ?_; rintro e w1 ⟨rfl, hB1⟩)
        go_ret
        exact ⟨rfl, below_call hbw (Nat.le_refl _) hB1⟩
      · have hbI : ¬ (60 : Int) < (l.length : Int) := by omega
        obtain ⟨ai, ci, rfl, hIi, _⟩ := hO.slice
        have hIl := hI.below hbw (Nat.le_refl _)
        have hll : l.length ≤ 1099511627777 := by omega
        have hrl : (refRecs l).length ≤ 60 := Nat.le_trans (refRecs_len l) (by omega)
        go_wp2_with (first
          | (go_at_call 61; refine (records_calls ai ci l wr hIi hle hll).mono ?_; rintro e w5 ⟨v3, rfl, hO3, hB5⟩; obtain ⟨a3, c3, rfl, hI3, _, _, _, hno3⟩ := hO3.slice; have hIl5 := hIl.later hB5)
          | (go_at_call 62; refine (refrecords_calls l a c w5 hIl5 hle hll).mono ?_; rintro e w6 ⟨v4, rfl, hO4, hB6⟩; obtain ⟨a4, c4, rfl, hI4, _⟩ := hO4.slice; have hI36 := hI3.later hB6)
          | (go_at_call 60; refine (sameRs_calls (refRecs l) (refRecs l) a3 a4 c3 c4 w6 hI36 hI4 (by omega)).mono ?_; rintro e w7 ⟨q2, rfl, hq2, hB7⟩; obtain rfl := hq2.2 rfl))
        have hB57 := below_call (hB6) (Nat.le_refl _) hB7
        have hO37 := hO3.later hB57
        have hI7 : IsBs wr ai l := hIi
        have hbw7 := below_call (below_call hbw (Nat.le_refl _) hB5) (Nat.le_refl _) hB57
        have hb47 := below_call hB5 (Nat.le_refl _) hB57
        obtain ⟨N, hN⟩ : ∃ N, N = (refRecs l).length := ⟨_, rfl⟩
        rw [← hN] at hO37 hrl ⊢
        obtain ⟨r, r1, r2, r3⟩ := hO37
        have hrN : r.length = N := by rw [hN, ← r1, List.length_map]
        have hrow : N = 0 ∨ ∃ g, a3 = some ⟨g, 0, none⟩ ∧ RowW w7 wr.heap.size g c3 r := by
          cases a3 with
          | none =>
            left
            have := (hno3 rfl).1
            rw [hN, this]; rfl
          | some ad =>
            right
            rcases r2.2 with ⟨e0, _⟩ | ⟨g, cp, cur, e0, _⟩
            · cases e0
            · cases e0
              exact ⟨g, rfl, by rw [hrN]; rw [← hN] at r2; exact r2, fun p hp => ⟨_, rfl, r3 p hp⟩⟩
        have HD := Lib.hid (And.intro hIi (And.intro hI hO))
        have HN := Lib.hid (And.intro hN hrN)
        obtain ⟨B3, hB3⟩ : ∃ B3, B3 = wr.heap.size := ⟨_, rfl⟩
        rw [← hB3] at hrow
        have HB3 := Lib.hid hB3
        refine over_world (R := fun W => (N = 0 ∨ ∃ g, a3 = some ⟨g, 0, none⟩ ∧ RowW W B3 g c3 r) ∧ Below wr.heap.size wr W) ⟨hrow, hb47⟩ ?_
        clear hrow hb47 hB57 hI7 hbw7 r1 r2 r3 hN hrN hB5 hB6 hB7 hI3 hI36 hO4 hI4 hIl5 hq2 hB3 hO3
        rintro wa ⟨hrow, hba⟩
        obtain ⟨wo, hwo⟩ : ∃ wo, wo = wr := ⟨_, rfl⟩
        subst hwo
        have tk : True := trivial
        go_loopw [43] (fun iv wq => ∃ i : Nat, i ≤ N ∧ iv = .int .i64 (i : Int) ∧ (N = 0 ∨ ∃ g, a3 = some ⟨g, 0, none⟩ ∧ RowW wq B3 g c3 r) ∧ Below wo.heap.size wo wq) (fun iv _ => N - (intOf iv).toNat)
        case atStart => exact ⟨0, Nat.zero_le _, rfl, hrow, hba⟩
        case round =>
          clear hrow hba
          obtain ⟨i, hi, rfl, hrow, hba⟩ := hrel
          by_cases hiN : i < N
          · obtain ⟨g, rfl, hR⟩ := hrow.resolve_left (by omega)
            have hir : i < r.length := by have := HN.out.2; omega
            have hiI : (i : Int) < (N : Int) := by omega
            obtain ⟨l0, hl0, hob0, hc0⟩ := hR.at_ i hir
            have hc0' := hc0
            obtain ⟨p, hp⟩ : ∃ p, p = r[i] := ⟨_, rfl⟩
            rw [← hp] at hl0 hob0 hc0
            have HP := Lib.hid hp
            have hpl : p.1.body.length ≤ 9223372036854775807 := by
              obtain ⟨_, c6, e6, _, h7, h8, _⟩ := hob0.slice
              injection e6 with q1 q2 q3
              unfold maxLen at h8
              omega
            clear hp hc0'
            go_wp2
            go_loopw [52] (fun kv wq => ∃ k : Nat, k ≤ p.1.body.length ∧ kv = .int .i64 (k : Int) ∧ RowW wq B3 g c3 r ∧ Below wo.heap.size wo wq) (fun kv _ => p.1.body.length - (intOf kv).toNat)
            case atStart => exact ⟨0, Nat.zero_le _, rfl, hR, hba⟩
            case round =>
              clear hR hba hob0 hc0 hl0
              obtain ⟨k, hk, rfl, hR, hba⟩ := hrel
              by_cases hkl : k < p.1.body.length
              · obtain ⟨l0, hl0, hob0, hc0⟩ := hR.at_ i hir
                rw [← HP.out] at hl0 hob0 hc0
                have hkI : (k : Int) < (p.1.body.length : Int) := by omega
                obtain ⟨a7, c7, e7, hby7, _, _, hbk7, hno7⟩ := hob0.slice
                injection e7 with e7a e7b e7c
                obtain ⟨ad, had⟩ : ∃ ad, p.2.1 = some ad := by
                  cases hq : p.2.1 with
                  | none => rw [hq] at e7a; have := (hno7 e7a.symm).1; rw [this] at hl0; simp at hl0; omega
                  | some ad => exact ⟨ad, rfl⟩
                obtain ⟨gb, hgb, hgl, _⟩ := hbk7 ad (by rw [← e7a, had])
                rw [hgb] at had
                rw [had] at hob0 hc0
                have hkl0 : k < l0.length := by omega
                have hcell : wr.cell? ⟨gb, k, none⟩ = some (.int .u8 (l0[k].toNat : Int)) := by
                  have := hob0.bytes.cell k hkl0
                  rw [Nat.zero_add] at this
                  exact this
                have hfr := hob0.free hl0.symm k
                have hst := hR.stored hob0 k (l0[k] + 1)
                have hbs := hba.setCell (p := ⟨gb, k, none⟩) (by show wo.heap.size ≤ gb; have := HB3.out; omega) (.int .u8 ((l0[k] + 1).toNat : Int))
                rw [← inc_u8] at hst hbs
                obtain ⟨y, hy⟩ : ∃ y, y = l0[k] := ⟨_, rfl⟩
                rw [← hy] at hcell hst hbs
                have HY := Lib.hid (And.intro hy had)
                clear hy hby7 hbk7 hno7 e7a e7b e7c hgb had hob0
                go_wp2
                go_roundw
                case rel => exact ⟨k + 1, by omega, by go_num, hst, hbs⟩
                case measure => simp [intOf]; omega
              · have hke : ¬ (k : Int) < (p.1.body.length : Int) := by omega
                go_wp2
                go_roundw
                case rel => exact ⟨i + 1, by omega, by go_num, .inr ⟨g, rfl, hR⟩, hba⟩
                case measure => simp [intOf]; omega
          · have hie : ¬ (i : Int) < (N : Int) := by omega
            obtain ⟨hq1, hq2, hq3⟩ := HD.out
            have hIi2 : IsBs wr ai l := hq1.later hba
            have hIl2 : IsBs wr a l := hIl.later hba
            have hl7 : l.length ≤ 70368744177664 := by omega
            go_wp2_with (first
              | (go_at_call 26; refine (sameAll_calls l l ai a ci c wr hIi2 hIl2 hl7 hl7).mono ?_; rintro e w8 ⟨q, rfl, hq, hB8⟩; obtain rfl := hq.2 rfl)
              | (go_at_call 56; refine (hkn.out _).mono ?_; rintro e w9 ⟨rfl, hB9⟩))
            go_ret
            exact ⟨rfl, below_call (below_call (below_call hbw (Nat.le_refl _) hba) (Nat.le_refl _) hB8) (Nat.le_refl _) hB9⟩
end Go.Proofs.Ytdlbjllgdikadaa
