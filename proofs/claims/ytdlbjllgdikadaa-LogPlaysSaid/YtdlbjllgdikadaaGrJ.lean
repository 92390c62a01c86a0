/- The law SegmentForms walked. The law SegmentBack walked. -/
import Derived.Test.YtdlbjllgdikadaaGrI
import Derived.Test.YtdlbjllgdikadaaGrF
import Derived.Test.YtdlbjllgdikadaaGrD
import Derived.Deep.CutRange
namespace Go.Proofs.Ytdlbjllgdikadaa
open Go.RowKit CrcM

@[go_sem] theorem Blk.c0 (b : Blk) (a : Option Addr) (c : Nat) : (b.cells a c)[0]? = some (.int .u64 (b.serial : Int)) := rfl
@[go_sem] theorem Blk.c1 (b : Blk) (a : Option Addr) (c : Nat) : (b.cells a c)[1]? = some (.int .u8 (b.kind.toNat : Int)) := rfl
@[go_sem] theorem Blk.c2 (b : Blk) (a : Option Addr) (c : Nat) : (b.cells a c)[2]? = some (.bool b.first) := rfl
@[go_sem] theorem Blk.c3 (b : Blk) (a : Option Addr) (c : Nat) : (b.cells a c)[3]? = some (.bool b.last) := rfl
@[go_sem] theorem Blk.c4 (b : Blk) (a : Option Addr) (c : Nat) : (b.cells a c)[4]? = some (.slice a b.body.length c) := rfl

def encT (b : Blk) : List UInt8 := if mayB b then sealB b else []
def encEr (b : Blk) : Nat := if mayB b then 0 else 2
def EncAny (b : Blk) (w : World) (e : Ending) (w' : World) : Prop :=
  ∃ v, e = .returned (.tuple #[v, .int .i64 (encEr b : Nat)]) ∧ OwnB w' w.heap.size v (encT b) ∧ Below w.heap.size w w'

theorem OwnB.head {w : World} {base g off n c : Nat} {l : List UInt8} (h : OwnB w base (.slice (some ⟨g, off, none⟩) n c) l) : off = 0 ∧ base ≤ g ∧ ∃ cur, w.heap[g]? = some (.cells cur 5 (0, 0)) := by
  rcases h.2 with ⟨h1, _⟩ | ⟨g', cap', cur, h1, h2, h3, _⟩
  · cases h1
  · cases h1
    exact ⟨rfl, h2, cur, h3⟩

theorem encode_calls (b : Blk) (a : Option Addr) (cap : Nat) (w : World) (hs : b.serial < 18446744073709551616) (hl : b.body.length ≤ 9223372036854775807) (hcap : b.body.length ≤ cap) (hno : a = none → b.body.length = 0 ∧ cap = 0) (hby : IsBytes w a b.body) :
    Calls Try.prog 31 #[.agg (b.cells a cap)] w (EncAny b w) := by
  cases hm : mayB b with
  | true =>
    refine (encode_good b a cap w hcap hno hby hm).mono ?_
    rintro e w' ⟨v, rfl, h1, h2⟩
    exact ⟨v, by simp [encEr, hm], by simpa [encT, hm] using h1, h2⟩
  | false =>
    refine (encode_bad b a cap w hs hl hm).mono ?_
    rintro e w' ⟨rfl, h2⟩
    exact ⟨_, by simp [encEr, hm]; rfl, by simpa [encT, hm] using OwnB.nil _ _, h2⟩

theorem refencode_calls (b : Blk) (a : Option Addr) (cap : Nat) (w : World) (hs : b.serial < 18446744073709551616) (hl : b.body.length ≤ 9223372036854775807) (hno : a = none → b.body.length = 0 ∧ cap = 0) (hby : IsBytes w a b.body) :
    Calls Try.prog 32 #[.agg (b.cells a cap)] w (EncAny b w) := by
  cases hm : mayB b with
  | true =>
    refine (refencode_good b a cap w hno hby hm).mono ?_
    rintro e w' ⟨v, rfl, h1, h2⟩
    exact ⟨v, by simp [encEr, hm], by simpa [encT, hm] using h1, h2⟩
  | false =>
    refine (refencode_bad b a cap w hs hl hm).mono ?_
    rintro e w' ⟨rfl, h2⟩
    exact ⟨_, by simp [encEr, hm]; rfl, by simpa [encT, hm] using OwnB.nil _ _, h2⟩

set_option linter.unusedSimpArgs false in
set_option maxHeartbeats 4000000 in
set_option maxRecDepth 100000 in
theorem segmentForms_walk (x : Blk) (hs : x.serial < 18446744073709551616) (a : Option Addr) (cap : Nat) (a2 : Option Addr) (l2 : List UInt8) (cap2 : Nat) (w : World) (hcap : x.body.length ≤ cap) (hno : a = none → x.body = [] ∧ cap = 0) (hby : IsBytes w a x.body)
    (hcap2 : l2.length ≤ cap2) (hno2 : a2 = none → l2 = [] ∧ cap2 = 0) (hby2 : IsBytes w a2 l2) :
    Calls Try.prog 6 #[.agg (x.cells a cap), .slice a2 l2.length cap2] w fun e w' => e = .returned (.bool true) ∧ Below w.heap.size w w' := by
  have hBX : Below w.heap.size w (w.alloc (.cells (x.cells a cap) 43)) := (Below.refl _ _).alloc (Nat.le_refl _) _
  have hX : BlkAt (w.alloc (.cells (x.cells a cap) 43)) w.heap.size x a cap := heap_alloc_new _ _
  by_cases hbig : 200 < x.body.length ∨ 200 < l2.length
  · by_cases hb1 : 200 < x.body.length
    · go_enter Try.func6, Try.ntmps6
      go_wp2_with (go_at_call 23; refine (known23_calls _).mono ?_; rintro e w1 ⟨rfl, hw1⟩)
      go_ret
      exact ⟨rfl, below_call hBX (Nat.le_refl _) hw1⟩
    · have hb2 : 200 < l2.length := by omega
      go_enter Try.func6, Try.ntmps6
      go_wp2_with (go_at_call 23; refine (known23_calls _).mono ?_; rintro e w1 ⟨rfl, hw1⟩)
      go_ret
      exact ⟨rfl, below_call hBX (Nat.le_refl _) hw1⟩
  · have h200 : x.body.length ≤ 200 := by omega
    have h201 : l2.length ≤ 200 := by omega
    have hno' : a = none → x.body.length = 0 ∧ cap = 0 := fun e => by obtain ⟨h1, h2⟩ := hno e; exact ⟨by rw [h1]; rfl, h2⟩
    have hno2' : a2 = none → l2.length = 0 ∧ cap2 = 0 := fun e => by obtain ⟨h1, h2⟩ := hno2 e; exact ⟨by rw [h1]; rfl, h2⟩
    clear hbig
    obtain ⟨T, hT⟩ : ∃ T, T = encT x := ⟨_, rfl⟩
    obtain ⟨E, hE⟩ : ∃ E, E = encEr x := ⟨_, rfl⟩
    obtain ⟨m, hm⟩ : ∃ m, m = mayB x := ⟨_, rfl⟩
    have h31 : ∀ W, Below w.heap.size w W → Calls Try.prog 31 #[.agg (x.cells a cap)] W fun e w' => ∃ v, e = .returned (.tuple #[v, .int .i64 (E : Nat)]) ∧ OwnB w' W.heap.size v T ∧ Below W.heap.size W w' := fun W hW => by
      rw [hT, hE]; exact encode_calls x a cap W hs (by omega) hcap hno' (hby.later hW)
    have h32 : ∀ W, Below w.heap.size w W → Calls Try.prog 32 #[.agg (x.cells a cap)] W fun e w' => ∃ v, e = .returned (.tuple #[v, .int .i64 (E : Nat)]) ∧ OwnB w' W.heap.size v T ∧ Below W.heap.size W w' := fun W hW => by
      rw [hT, hE]; exact refencode_calls x a cap W hs (by omega) hno' (hby.later hW)
    have h33 : ∀ W, Calls Try.prog 33 #[.agg (x.cells a cap)] W fun e w' => e = .returned (.bool m) ∧ Below W.heap.size W w' := fun W => by
      rw [hm]; exact may_calls x a cap W hs (by omega)
    have h34 : ∀ W, Calls Try.prog 34 #[.agg (x.cells a cap)] W fun e w' => e = .returned (.bool m) ∧ Below W.heap.size W w' := fun W => by
      rw [hm]; exact refmay_calls x a cap W hs (by omega)
    have HT := Lib.hid hT
    have HE := Lib.hid hE
    have Hm := Lib.hid hm
    clear hT hE hm
    go_enter Try.func6, Try.ntmps6
    go_upto_region 5 with (first
      | (refine wpList_load_blk rfl (.tmp 2) rfl w.heap.size x a cap rfl hX ?_)
      | (refine wpList_load_blk rfl (.tmp 2) rfl w.heap.size x a cap rfl hX1 ?_)
      | (go_at_call 31; refine (h31 _ hBX).mono ?_; rintro e w1 ⟨v1, rfl, hown1, hB1⟩; obtain ⟨a1, c1, rfl, hs1⟩ := hown1.slice; have hBX1 := below_call hBX (Nat.le_refl _) hB1; have hX1 := hX.later hB1)
      | (go_at_call 32; refine (h32 _ hBX1).mono ?_; rintro e w3 ⟨v3, rfl, hown3, hB3⟩; obtain ⟨a3, c3, rfl, hs3⟩ := hown3.slice; have hBX3 := below_call hBX1 (Nat.le_refl _) hB3; have hX3 := hX1.later hB3; have hown1' := hown1.later hB3))
    have hne : Nonempty (SW (fun W => Below w3.heap.size w3 W)) := ⟨⟨w3, Below.refl _ _⟩⟩
    have t1 : ∀ q : SW (fun W => Below w3.heap.size w3 W), (convert 22 9 (.slice a1 T.length c1)).run Try.prog q.W = .ok (.string ⟨T.toArray⟩) q.W := fun q => conv_text (hown1'.bytes.later q.h) rfl
    have t3 : ∀ q : SW (fun W => Below w3.heap.size w3 W), (convert 22 9 (.slice a3 T.length c3)).run Try.prog q.W = .ok (.string ⟨T.toArray⟩) q.W := fun q => conv_text (hown3.bytes.later q.h) rfl
    have p0 : ∀ q : SW (fun W => Below w3.heap.size w3 W), q.W.cell? ⟨w.heap.size, 0, none⟩ = some (.int .u64 (x.serial : Int)) := fun q => (hX3.later q.h).cell 0 _ rfl
    have p1 : ∀ q : SW (fun W => Below w3.heap.size w3 W), q.W.cell? ⟨w.heap.size, 1, none⟩ = some (.int .u8 (x.kind.toNat : Int)) := fun q => (hX3.later q.h).cell 1 _ rfl
    have p2 : ∀ q : SW (fun W => Below w3.heap.size w3 W), q.W.cell? ⟨w.heap.size, 2, none⟩ = some (.bool x.first) := fun q => (hX3.later q.h).cell 2 _ rfl
    have p3 : ∀ q : SW (fun W => Below w3.heap.size w3 W), q.W.cell? ⟨w.heap.size, 3, none⟩ = some (.bool x.last) := fun q => (hX3.later q.h).cell 3 _ rfl
    have p4 : ∀ q : SW (fun W => Below w3.heap.size w3 W), q.W.cell? ⟨w.heap.size, 4, none⟩ = some (.slice a x.body.length cap) := fun q => (hX3.later q.h).cell 4 _ rfl
    clear hX hX1 hBX1 hB1 hB3 hown1 h31 h32 hs1 hs3
    refine wp_region_seq2 (fun W => Below w3.heap.size w3 W) [(0, true), (2, true), (1, false), (3, false), (4, true), (5, true), (6, true), (7, true), (8, true), (9, true), (10, true), (11, true), (12, true), (13, true), (14, true), (15, true), (16, true)] (by kernel_rfl) (by kernel_rfl) (fun d _ _ _ _ h => by cases d <;> exact h) ((Below.refl _ _).drew) ?_
    repeat (first
      | (refine wpSeq_skip (o := ⟨_, _, _, _, _, _⟩) rfl rfl ?_; simp only [Act.put, List.setIfInBounds_toArray, List.set_cons_zero, List.set_cons_succ])
      | (refine wpSeq_free (o := ⟨_, _, _, _, _, _⟩) rfl rfl (fun K hK => ?_); go_big_quiet_op; (refine hK _ ?_; clear hK K)))
    refine wpSeq_next (o := ⟨_, _, _, _, _, _⟩) rfl rfl (fun K hK => ?_)
    go_simp
    go_at_call 33
    refine (h33 _).mono ?_
    rintro e w4 ⟨rfl, hB4⟩
    have hS4 : Below w3.heap.size w3 w4 := (Below.refl _ _).drew.trans hB4
    refine hK.out _ _ (hS4) ?_
    clear hK K
    repeat (first
      | (refine wpSeq_skip (o := ⟨_, _, _, _, _, _⟩) rfl rfl ?_; simp only [Act.put, List.setIfInBounds_toArray, List.set_cons_zero, List.set_cons_succ])
      | (refine wpSeq_free (o := ⟨_, _, _, _, _, _⟩) rfl rfl (fun K hK => ?_); go_big_quiet_op; (refine hK _ ?_; clear hK K)))
    refine wpSeq_next (o := ⟨_, _, _, _, _, _⟩) rfl rfl (fun K hK => ?_)
    go_simp
    go_at_call 34
    refine (h34 _).mono ?_
    rintro e w5 ⟨rfl, hB5⟩
    have hS5 : Below w3.heap.size w3 w5 := below_call hS4 (Nat.le_refl _) hB5
    refine hK.out _ _ (hS5) ?_
    clear hK K
    repeat (first
      | (refine wpSeq_skip (o := ⟨_, _, _, _, _, _⟩) rfl rfl ?_; simp only [Act.put, List.setIfInBounds_toArray, List.set_cons_zero, List.set_cons_succ])
      | (refine wpSeq_free (o := ⟨_, _, _, _, _, _⟩) rfl rfl (fun K hK => ?_); go_big_quiet_op; (refine hK _ ?_; clear hK K)))
    refine wpSeq_nil ?_
    have hX5 := hX3.later hS5
    have hown5 := hown1'.later hS5
    have hB5w := below_call hBX3 (Nat.le_refl _) hS5
    obtain ⟨N1, hN1⟩ : ∃ N1, N1 = (w.alloc (Obj.cells (x.cells a cap) 43)).heap.size := ⟨_, rfl⟩
    rw [← hN1] at hown5
    clear hne t1 t3 p0 p1 p2 p3 p4 h33 h34 hS4 hS5 hB4 hB5 hX3 hown1' hown3 hBX3 hN1
    go_upto_if 55 with fail
    go_cut [] from 54 to 68 (fun wc => Below w.heap.size w wc)
    case first =>
      by_cases hmm : m = true
      · have hma : mayB x = true := by rw [← Hm.out]; exact hmm
        have hE0 : E = 0 := by rw [HE.out, encEr, if_pos hma]
        have hTs : T = sealB x := by rw [HT.out, encT, if_pos hma]
        obtain ⟨d1, d2⟩ := dec_seal x hma
        rw [← hTs] at d1 d2
        have hs5 := hown5.slice
        obtain ⟨a1', c1', e1', hb1', hc1', _⟩ := hs5
        cases e1'
        have h35 := decode_calls a1 T c1 w5 hc1' hb1'
        have hp : ∀ e w', DecPost T w5 e w' → ∃ a6 c6, e = .returned (.tuple #[.agg (x.cells a6 c6), .int .i64 0]) ∧ IsBytes w' a6 x.body ∧ Below w5.heap.size w5 w' := by
          rintro e w' ⟨a6, c6, rfl, h1, h2⟩
          rw [d1, d2]
          rw [d2] at h1
          exact ⟨a6, c6, rfl, h1.bytes, h2⟩
        have Hp := Lib.hid hp
        have hsame : sameB x x = true := (sameB_iff x x).2 rfl
        have Hsame := Lib.hid hsame
        subst hE0
        clear hp d1 d2 hTs hmm hma hsame hc1' hb1'
        go_wp2_with (first
          | (go_at_call 35; refine h35.mono ?_; rintro e w6 hq; obtain ⟨a6, c6, rfl, hb6, hB6⟩ := Hp.out _ _ hq; clear hq; have hB6w := below_call hB5w (Nat.le_refl _) hB6; have hX6 := hX5.later hB6)
          | (refine wpList_store_blk rfl (.tmp 9) (.tmp 59) rfl w6.heap.size noneB x none a6 0 c6 rfl rfl (heap_alloc_new _ _) ?_; intro w7 hY7 hg7; have hX7 := BlkAt.kept (hX6.later ((Below.refl _ _).alloc (Nat.le_refl _) _)) hg7 (by have := lt_of_block hX6; intro e; injection e; omega); have hB7w := (hB6w.alloc hB6w.size _).grown hg7 (by have := hB6w.size; simp; omega) (fun k hk => by cases hk; exact hB6w.size); have hb7 : IsBytes w7 a6 x.body := hb6.later (((Below.refl _ w6).alloc (Nat.le_refl _) _).grown hg7 (by simp) (fun k hk => by cases hk; exact Nat.le_refl _)); clear hg7; have X0 : w7.cell? ⟨w.heap.size, 0, none⟩ = some (.int .u64 (x.serial : Int)) := hX7.cell 0 _ rfl; have X1 : w7.cell? ⟨w.heap.size, 1, none⟩ = some (.int .u8 (x.kind.toNat : Int)) := hX7.cell 1 _ rfl; have X2 : w7.cell? ⟨w.heap.size, 2, none⟩ = some (.bool x.first) := hX7.cell 2 _ rfl; have X3 : w7.cell? ⟨w.heap.size, 3, none⟩ = some (.bool x.last) := hX7.cell 3 _ rfl; have X4 : w7.cell? ⟨w.heap.size, 4, none⟩ = some (.slice a x.body.length cap) := hX7.cell 4 _ rfl; have Y0 : w7.cell? ⟨w6.heap.size, 0, none⟩ = some (.int .u64 (x.serial : Int)) := hY7.cell 0 _ rfl; have Y1 : w7.cell? ⟨w6.heap.size, 1, none⟩ = some (.int .u8 (x.kind.toNat : Int)) := hY7.cell 1 _ rfl; have Y2 : w7.cell? ⟨w6.heap.size, 2, none⟩ = some (.bool x.first) := hY7.cell 2 _ rfl; have Y3 : w7.cell? ⟨w6.heap.size, 3, none⟩ = some (.bool x.last) := hY7.cell 3 _ rfl; have Y4 : w7.cell? ⟨w6.heap.size, 4, none⟩ = some (.slice a6 x.body.length c6) := hY7.cell 4 _ rfl)
          | (go_at_call 36; refine (same_calls x x a a6 cap c6 _ (hby.later hB7w) hb7).mono ?_; rintro e w8 ⟨rfl, hB8⟩; rw [Hsame.out]))
        go_meet
        exact below_call hB7w (Nat.le_refl _) hB8
      · have hma : ¬ mayB x = true := by rw [← Hm.out]; exact hmm
        have hE0 : E = 2 := by rw [HE.out, encEr, if_neg hma]
        subst hE0
        go_wp2
        go_meet
        exact hB5w
    case rest =>
      clear hX5 hown5 hB5w hBX
      obtain ⟨y, hy⟩ : ∃ y, y = decB l2 := ⟨_, rfl⟩
      obtain ⟨D, hD⟩ : ∃ D, D = decE l2 := ⟨_, rfl⟩
      have hy48 : y.body.length ≤ 48 := by
        rw [hy]
        unfold decB
        split
        · show ((l2.drop 10).take (min (byteAt l2 9) 48)).length ≤ 48
          rw [List.length_take]; omega
        · decide
      have h35 : ∀ W a8 c8, l2.length ≤ c8 → IsBytes W a8 l2 → Calls Try.prog 35 #[.slice a8 l2.length c8] W fun e w' => ∃ a9 c9, e = .returned (.tuple #[.agg (y.cells a9 c9), .int .i64 (D : Nat)]) ∧ OwnB w' W.heap.size (.slice a9 y.body.length c9) y.body ∧ Below W.heap.size W w' := fun W a8 c8 h1 h2 => by
        rw [hy, hD]; exact decode_calls a8 l2 c8 W h1 h2
      have h37 : ∀ W, Below w.heap.size w W → Calls Try.prog 37 #[.slice a2 l2.length cap2] W fun e w' => ∃ a9 c9, e = .returned (.tuple #[.agg (y.cells a9 c9), .int .i64 (D : Nat)]) ∧ OwnB w' W.heap.size (.slice a9 y.body.length c9) y.body ∧ Below W.heap.size W w' := fun W h1 => by
        rw [hy, hD]; exact refdecode_calls a2 l2 cap2 W hcap2 (hby2.later h1)
      have hsame : sameB y y = true := (sameB_iff y y).2 rfl
      have Hsame := Lib.hid hsame
      have Hy := Lib.hid hy
      have HD := Lib.hid hD
      clear hy hD hsame
      go_upto_region 12 with (at_builtin; refine wpList_append_bytes rfl (.tmp 69) (.tmp 70) rfl wc.heap.size (.slice (some ⟨wc.heap.size, 0, none⟩) 0 0) [] rfl (OwnB.made wc wc.heap.size (Nat.le_refl _)) a2 l2.length cap2 l2 rfl rfl hno2' ((hby2.later hcut).alloc _) (by simp; omega) (by simp) ?_; intro v1 w6 hown6 hgr6; have hall := fresh_bytes hown6 hgr6; clear hown6 hgr6; obtain ⟨ai, ci, rfl, hbi, hci, hni, hB6⟩ := hall; have hB6w := below_call hcut (Nat.le_refl _) hB6)
      go_upto_region 16 with (first
        | (go_at_call 35; refine (h35 _ ai ci hci hbi).mono ?_; rintro e w7 ⟨a7, c7, rfl, hown7, hB7⟩; have hB7w := below_call hB6w (Nat.le_refl _) hB7)
        | (refine wpList_store_blk rfl (.tmp 12) (.tmp 75) rfl w7.heap.size noneB y none a7 0 c7 rfl rfl (heap_alloc_new _ _) ?_; intro w8 hY8 hg8; have hB78 : Below w7.heap.size w7 w8 := ((Below.refl _ w7).alloc (Nat.le_refl _) _).grown hg8 (by simp) (fun k hk => by cases hk; exact Nat.le_refl _); have hB8 := below_call hB7 (Nat.le_refl _) hB78; have hB8w := below_call hB7w (Nat.le_refl _) hB78; have hown8 := hown7.later hB78; clear hg8)
        | (go_at_call 37; refine (h37 _ hB8w).mono ?_; rintro e w9 ⟨a9, c9, rfl, hown9, hB9⟩; have hY9 := hY8.later hB9; have hB9w := below_call hB8w (Nat.le_refl _) hB9; have hB69 := below_call hB8 (Nat.le_refl _) hB9; have hown89 := hown8.later hB9)
        | (refine wpList_store_blk rfl (.tmp 14) (.tmp 80) rfl w9.heap.size noneB y none a9 0 c9 rfl rfl (heap_alloc_new _ _) ?_; intro w10 hZ10 hg10; have hB910 : Below w9.heap.size w9 w10 := ((Below.refl _ w9).alloc (Nat.le_refl _) _).grown hg10 (by simp) (fun k hk => by cases hk; exact Nat.le_refl _); have hY10 := hY9.later hB910; have hB10 := below_call hB69 (Nat.le_refl _) hB910; have hB10w := below_call hB9w (Nat.le_refl _) hB910; have hown10 := hown89.later hB910; have hownz10 := hown9.later hB910; clear hg10)
        | (refine wpList_load_blk rfl (.tmp 12) rfl w7.heap.size y a7 c7 rfl hY10 ?_)
        | (refine wpList_load_blk rfl (.tmp 14) rfl w9.heap.size y a9 c9 rfl hZ10 ?_)
        | (go_at_call 36; refine (same_calls y y a7 a9 c7 c9 _ hown10.bytes hownz10.bytes).mono ?_; rintro e w11 ⟨rfl, hB1011⟩; rw [Hsame.out]; have hY11 := hY10.later hB1011; have hB11 := below_call hB10 (Nat.le_refl _) hB1011; have hB11w := below_call hB10w (Nat.le_refl _) hB1011; have hown11 := hown10.later hB1011))
      obtain ⟨Y, hYe⟩ : ∃ Y, Y = w7.heap.size := ⟨_, rfl⟩
      obtain ⟨n, hn⟩ : ∃ n, n = y.body.length := ⟨_, rfl⟩
      obtain ⟨B6, hB6e⟩ : ∃ B6, B6 = w6.heap.size := ⟨_, rfl⟩
      have hYB : B6 ≤ Y := by rw [hB6e, hYe]; exact hB7.size
      have hwB6 : w.heap.size ≤ B6 := by rw [hB6e]; exact hB6w.size
      have hbi11 : ∀ W, Below B6 w6 W → IsBytes W ai l2 := fun W h => hbi.later (by rw [← hB6e]; exact h)
      have hby11 : ∀ W, Below B6 w6 W → IsBytes W a2 l2 := fun W h => hby2.later (hB6w.trans (h.mono hwB6))
      have hfin : ∀ W, Below B6 w6 W → Below w.heap.size w W := fun W h => hB6w.trans (h.mono hwB6)
      rw [← hYe] at hY11 ⊢
      rw [← hB6e] at hown11 hB11
      rw [← hn] at hown11 hy48
      have p4 := hY11.cell 4 _ rfl
      have Hn := Lib.hid hn
      clear hYe hB6e hn hown10 hownz10 hB1011 hY10 hZ10 hB910 hB10 hB10w hown89 hB69 hB9w hY9 hB9 hown9 hown8 hB8w hB8 hB78 hY8 hB7w hB7 hown7 hB6 hbi h35 h37 hB11w
      have p4' : w11.cell? ⟨Y, 4, none⟩ = some (.slice a7 n c7) := by rw [Hn.out]; exact p4
      clear p4
      go_wp2
      go_loopw [94] (fun i wr => ∃ (j : Nat) (t : List UInt8), j ≤ n ∧ i = .int .i64 j ∧ t.length = n ∧ OwnB wr B6 (.slice a7 n c7) t ∧ BlkAt wr Y y a7 c7 ∧ Below B6 w6 wr) (fun i _ => n - (intOf i).toNat)
      case atStart => exact ⟨0, y.body, Nat.zero_le _, rfl, Hn.out.symm, hown11, hY11, hB11⟩
      case round =>
        clear hown11 hY11 hB11 p4'
        obtain ⟨j, t, hj, rfl, ht, hown, hY, hB⟩ := hrel
        by_cases hlt : j < n
        · have hb := hown.bytes
          obtain ⟨g, off, rfl⟩ : ∃ g off, a7 = some ⟨g, off, none⟩ := by
            obtain ⟨g, off, e, _⟩ := hb j (by omega)
            exact ⟨g, off, e⟩
          obtain ⟨rfl, hg6, cur, hgcur⟩ := hown.head
          obtain ⟨q, hq⟩ : ∃ q, q = t[j]'(by omega) := ⟨_, rfl⟩
          have pc : wr.cell? ⟨g, j, none⟩ = some (.int .u8 (q.toNat : Int)) := by
            have := hb.cell j (by omega)
            rw [Nat.zero_add, ← hq] at this
            exact this
          have pf : wr.frozen? ⟨g, j, none⟩ = false := hown.free ht.symm j
          have p4 : wr.cell? ⟨Y, 4, none⟩ = some (.slice (some ⟨g, 0, none⟩) n c7) := by rw [Hn.out]; exact hY.cell 4 _ rfl
          have hne : Y ≠ g := by
            intro e
            rw [e] at hY
            unfold BlkAt at hY
            rw [hgcur] at hY
            simp at hY
          have hst := hown.stored ht.symm j (q + 1)
          have hYs := hY.other ⟨g, j, none⟩ (.int .u8 ((q + 1).toNat : Int)) hne
          have hBs := hB.setCell (p := ⟨g, j, none⟩) hg6 (.int .u8 ((q + 1).toNat : Int))
          rw [← u8_succ] at hst hYs hBs
          have Ht := Lib.hid ht
          have Hst := Lib.hid hst
          have HYs := Lib.hid hYs
          have HBs := Lib.hid hBs
          clear hst hYs hBs hq hgcur hown hb ht
          go_wp2
          go_roundw
          case rel => exact ⟨j + 1, t.set j (q + 1), by omega, by go_num, by rw [List.length_set]; exact Ht.out, Hst.out, HYs.out, HBs.out⟩
          case measure => simp [intOf]; omega
        · obtain rfl : j = n := by omega
          have t1 := conv_text (hbi11 _ hB) (n := l2.length) (cap := ci) rfl
          have t2 := conv_text (hby11 _ hB) (n := l2.length) (cap := cap2) rfl
          go_wp2_with (go_at_call 23; refine (known23_calls _).mono ?_; rintro e w12 ⟨rfl, hB12⟩)
          go_ret
          exact ⟨rfl, below_call (hfin _ hB) (Nat.le_refl _) hB12⟩

end Go.Proofs.Ytdlbjllgdikadaa

namespace Go.Proofs.Ytdlbjllgdikadaa
open Go.RowKit CrcM

theorem IsBs.at {w : World} {a : Option Addr} {l : List Blk} (h : IsBs w a l) (j : Nat) (hj : j < l.length) :
    ∃ b off ab cap, a = some ⟨b, off, none⟩ ∧
      w.cell? ⟨b, off + j * 5, none⟩ = some (.int .u64 (l[j].serial : Int)) ∧
      w.cell? ⟨b, off + j * 5 + 1, none⟩ = some (.int .u8 (l[j].kind.toNat : Int)) ∧
      w.cell? ⟨b, off + j * 5 + 2, none⟩ = some (.bool l[j].first) ∧
      w.cell? ⟨b, off + j * 5 + 3, none⟩ = some (.bool l[j].last) ∧
      w.cell? ⟨b, off + j * 5 + 4, none⟩ = some (.slice ab l[j].body.length cap) ∧
      IsBytes w ab l[j].body ∧ l[j].body.length ≤ cap ∧ (ab = none → l[j].body.length = 0 ∧ cap = 0) := by
  obtain ⟨b, off, ab, cap, e, hc, hby, hle, hno⟩ := h j hj
  have key : ∀ q u, ((l[j]).cells ab cap)[q]? = some u → w.cell? ⟨b, off + j * 5 + q, none⟩ = some u := by
    intro q u hu
    have h1 := hc q u hu
    rw [Nat.mul_comm] at h1
    exact h1
  exact ⟨b, off, ab, cap, e, key 0 _ rfl, key 1 _ rfl, key 2 _ rfl, key 3 _ rfl, key 4 _ rfl, hby, hle, fun e => by obtain ⟨x, y⟩ := hno e; exact ⟨by rw [x]; rfl, y⟩⟩

theorem part_len (rec : List UInt8) (j : Nat) : (partB rec j).length = min 48 (rec.length - 48 * j) := by
  rw [partB, List.length_take, List.length_drop]

theorem take_part (rec : List UInt8) (j : Nat) : rec.take (48 * (j + 1)) = rec.take (48 * j) ++ partB rec j := by
  rw [Nat.mul_add, Nat.mul_one, List.take_add, partB]

theorem blk_may (k : UInt8) (s : Nat) (rec : List UInt8) (hk : kindB k = true) (hs : s + rec.length < 1099511627776) (j : Nat) (hj : j < manyN rec.length) : mayB (blkAt k s (manyN rec.length) rec j) = true := by
  have hm := manyN_le rec.length
  have hl := part_len rec j
  have h1 : (decide (s + j ≤ 1099511627776)) = true := by rw [decide_eq_true_iff]; omega
  have h2 : (decide ((partB rec j).length ≤ 48)) = true := by rw [decide_eq_true_iff]; omega
  have h3 : ((j + 1 == manyN rec.length) || (partB rec j).length == 48) = true := by
    by_cases h : j + 1 = manyN rec.length
    · simp [h]
    · have : (partB rec j).length = 48 := by
        unfold manyN at hj h
        split at hj <;> split at h <;> omega
      simp [this]
  show (decide (s + j ≤ 1099511627776) && kindB k && decide ((partB rec j).length ≤ 48) && ((j + 1 == manyN rec.length) || (partB rec j).length == 48)) = true
  rw [h1, hk, h2, h3]; rfl

/-- A block with one byte of it another one. -/
theorem dec_one (x : Blk) (hm : mayB x = true) (q : Nat) (hq : q < (sealB x).length) (by_ : UInt8) :
    decE ((sealB x).set q ((sealB x)[q] ^^^ by_)) = if by_ = 0 then 0 else 6 := by
  by_cases h : by_ = 0
  · rw [if_pos h, h, UInt8.xor_zero, List.set_getElem_self]
    exact (dec_seal x hm).1
  · rw [if_neg h]
    have hl : (sealB x).length = 64 := by
      have hmm := hm
      simp only [mayB, Bool.and_eq_true, decide_eq_true_eq] at hmm
      exact seal_length x hmm.1.2
    have he := ends_one' (encB x) (sealB x) rfl q hq ((sealB x)[q] ^^^ by_)
    have hne : ((sealB x)[q] ^^^ by_ == (sealB x)[q]) = false := by
      rw [beq_eq_false_iff_ne]
      intro e
      apply h
      have := congrArg (fun t => (sealB x)[q] ^^^ t) e
      simpa [← UInt8.xor_assoc] using this
    rw [hne] at he
    unfold decE
    rw [List.length_set, if_pos hl, he]
    rfl

theorem str_app (a b : List UInt8) : (⟨a.toArray⟩ : ByteArray) ++ (⟨b.toArray⟩ : ByteArray) = ⟨(a ++ b).toArray⟩ := by
  apply ByteArray.ext
  simp [ByteArray.data_append]

set_option linter.unusedSimpArgs false in
set_option maxHeartbeats 4000000 in
set_option maxRecDepth 100000 in
theorem segmentBack_walk (ck : Bool) (s : Nat) (hs : s < 18446744073709551616) (a : Option Addr) (rec : List UInt8) (cap : Nat) (blk at_ : Int) (by_ : UInt8) (w : World) (hcap : rec.length ≤ cap) (hno : a = none → rec = [] ∧ cap = 0) (hby : IsBytes w a rec) :
    Calls Try.prog 7 #[.bool ck, .int .u64 (s : Int), .slice a rec.length cap, .int .i64 blk, .int .i64 at_, .int .u8 (by_.toNat : Int)] w fun e w' => e = .returned (.bool true) ∧ Below w.heap.size w w' := by
  by_cases hbig : 600 < rec.length ∨ 549755813888 < s
  · by_cases hb1 : 600 < rec.length
    · go_enter Try.func7, Try.ntmps7
      go_wp2_with (go_at_call 23; refine (known23_calls _).mono ?_; rintro e w1 ⟨rfl, hw1⟩)
      go_ret
      exact ⟨rfl, hw1⟩
    · have hb2 : 549755813888 < s := by omega
      go_enter Try.func7, Try.ntmps7
      go_wp2_with (go_at_call 23; refine (known23_calls _).mono ?_; rintro e w1 ⟨rfl, hw1⟩)
      go_ret
      exact ⟨rfl, hw1⟩
  · have h600 : rec.length ≤ 600 := by omega
    have hs39 : s ≤ 549755813888 := by omega
    have hno' : a = none → rec.length = 0 ∧ cap = 0 := fun e => by obtain ⟨h1, h2⟩ := hno e; exact ⟨by rw [h1]; rfl, h2⟩
    clear hbig
    obtain ⟨k, hk⟩ : ∃ k : UInt8, k = if ck then 2 else 1 := ⟨_, rfl⟩
    have hkB : kindB k = true := by rw [hk]; cases ck <;> rfl
    obtain ⟨m, hm⟩ : ∃ m, m = manyN rec.length := ⟨_, rfl⟩
    have hm1 : 1 ≤ m := hm ▸ manyN_pos _
    have hm2 : m ≤ 601 := by have := manyN_le rec.length; omega
    have hm0 : ((m : Int) == 0) = false := by rw [beq_eq_false_iff_ne]; omega
    have hE : splitE k s rec = 0 := by
      have h1 : mayS k s rec = true := by simp [mayS, hkB]; omega
      simp [splitE, h1]; omega
    have hL : splitL k s rec = blkTo k s m rec m := by simp [splitL, hE, ← hm]
    have h24 : Calls Try.prog 24 #[.int .u8 (k.toNat : Int), .int .u64 (s : Int), .slice a rec.length cap] w fun e w' => ∃ a3 c3, e = .returned (.tuple #[.slice a3 m c3, .int .i64 0]) ∧ IsBs w' a3 (blkTo k s m rec m) ∧ Below w.heap.size w w' := by
      refine (split_calls k s hs a rec cap hcap (by omega) w hno' hby).mono ?_
      rintro e w' ⟨v, rfl, hown, hB⟩
      rw [hL] at hown
      obtain ⟨a3, c3, rfl, h1, _⟩ := hown.slice
      rw [blkTo_length] 
      exact ⟨a3, c3, by rw [hE]; rfl, h1, hB⟩
    have hmany : ∀ W, Calls Try.prog 27 #[.int .i64 (rec.length : Int)] W fun e w' => e = .returned (.int .i64 (m : Nat)) ∧ W = w' := fun W => by rw [hm]; exact many_calls _ (by omega) W
    have hmayB : ∀ j, j < m → mayB (blkAt k s m rec j) = true := fun j hj => by
      rw [hm] at hj ⊢
      exact blk_may k s rec hkB (by omega) j hj
    have hall : rec.take (48 * m) = rec := by
      apply List.take_of_length_le
      rw [hm]; unfold manyN; split <;> omega
    have Hall := Lib.hid hall
    have Hmay := Lib.hid hmayB
    have Hm := Lib.hid hm
    have Hk := Lib.hid hk
    clear hE hL hkB hall hmayB hm
    go_enter Try.func7, Try.ntmps7
    go_upto_if 35 with fail
    go_cut [13] from 27 to 35 (fun t wc => t = .int .u8 (k.toNat : Int) ∧ wc = w)
    case first =>
      cases ck
      · go_wp2
        go_meet
        exact ⟨by rw [Hk.out]; rfl, rfl⟩
      · go_wp2
        go_meet
        exact ⟨by rw [Hk.out]; rfl, rfl⟩
    case rest =>
      obtain ⟨rfl, rfl⟩ := hcut
      clear hk
      go_wp2_with (first
        | (go_at_call 24; refine h24.mono ?_; rintro e w1 ⟨a3, c3, rfl, hbs, hB1⟩)
        | (go_at_call 27; refine (hmany _).mono ?_; rintro e w2 ⟨rfl, rfl⟩))
      clear h24 hmany
      have hLn : (blkTo k s m rec m).length = m := blkTo_length _ _ _ _ _
      go_loopw [16, 60] (fun t i wr => ∃ j : Nat, j ≤ m ∧ i = .int .i64 j ∧ t = .string ⟨(rec.take (48 * j)).toArray⟩ ∧ IsBs wr a3 (blkTo k s m rec m) ∧ Below wc.heap.size wc wr) (fun _ i _ => m - (intOf i).toNat)
      case atStart => exact ⟨0, Nat.zero_le _, rfl, rfl, hbs, hB1⟩
      case round =>
        clear hbs hB1
        obtain ⟨j, hj, rfl, rfl, hbs, hB⟩ := hrel
        by_cases hlt : j < m
        · obtain ⟨b, off, ab, cb, rfl, q0, q1, q2, q3, q4, hbb, hlb, hnb⟩ := hbs.at j (by rw [hLn]; exact hlt)
          have hget : (blkTo k s m rec m)[j]'(by rw [hLn]; exact hlt) = blkAt k s m rec j := by simp [blkTo]
          rw [hget] at q0 q1 q2 q3 q4 hbb hlb hnb
          obtain ⟨x, hx⟩ : ∃ x, x = blkAt k s m rec j := ⟨_, rfl⟩
          have hma : mayB x = true := by rw [hx]; exact Hmay.out j hlt
          have hx0 : (x.serial : Int) = (s : Int) + (j : Int) := by rw [hx]; simp [blkAt]
          have hx1 : x.kind = k := by rw [hx]; rfl
          have hx2 : x.first = ((j : Int) == 0) := by rw [hx, Bool.eq_iff_iff]; simp [blkAt]
          have hx3 : x.last = ((j : Int) == (m : Int) - 1) := by rw [hx, Bool.eq_iff_iff]; simp [blkAt]; omega
          have hxb : rec.take (48 * (j + 1)) = rec.take (48 * j) ++ x.body := by rw [take_part, hx]; rfl
          obtain ⟨d1, d2⟩ := dec_seal x hma
          have h35 : ∀ W a7 c7, (sealB x).length ≤ c7 → IsBytes W a7 (sealB x) → Calls Try.prog 35 #[.slice a7 (sealB x).length c7] W fun e w' => ∃ a9 c9, e = .returned (.tuple #[.agg (x.cells a9 c9), .int .i64 0]) ∧ OwnB w' W.heap.size (.slice a9 x.body.length c9) x.body ∧ Below W.heap.size W w' := fun W a7 c7 h1 h2 => by
            refine (decode_calls a7 (sealB x) c7 W h1 h2).mono ?_
            rintro e w' ⟨a9, c9, rfl, h3, h4⟩
            rw [d1, d2]
            rw [d2] at h3
            exact ⟨a9, c9, rfl, h3, h4⟩
          rw [← hx] at q0 q1 q2 q3 q4 hbb hlb hnb
          have hb48 : x.body.length ≤ 48 := by
            have hmm := hma
            simp only [mayB, Bool.and_eq_true, decide_eq_true_eq] at hmm
            exact hmm.1.2
          have hlen : ¬ 9223372036854775807 < min (48 * j) rec.length + x.body.length := by omega
          have Hx0 := Lib.hid hx0
          have Hx1 := Lib.hid hx1
          have Hx2 := Lib.hid hx2
          have Hx3 := Lib.hid hx3
          have Hxb := Lib.hid hxb
          have Hma := Lib.hid hma
          clear hget hx hx0 hx1 hx2 hx3 hxb hma d1 d2
          go_wp2_with (first
            | (refine wpList_store_blk rfl (.tmp 18) (.tmp 64) rfl wr.heap.size noneB x none ab 0 cb rfl rfl (heap_alloc_new _ _) ?_; intro w6 hX6 hg6; have hB06 : Below wr.heap.size wr w6 := ((Below.refl _ wr).alloc (Nat.le_refl _) _).grown hg6 (by simp) (fun k hk => by cases hk; exact Nat.le_refl _); clear hg6)
            | (refine wpList_load_blk rfl (.tmp 18) rfl wr.heap.size x ab cb rfl hX6 ?_)
            | (go_at_call 31; refine (encode_good x ab cb _ hlb hnb (hbb.later hB06) Hma.out).mono ?_; rintro e w7 ⟨v7, rfl, hown7, hB7⟩; obtain ⟨a7, c7, rfl, hs7⟩ := hown7.slice; have hB07 := below_call hB06 (Nat.le_refl _) hB7)
            | (go_at_call 35; refine (h35 _ a7 c7 hs7.2.1 hs7.1).mono ?_; rintro e w8 ⟨a9, c9, rfl, hown8, hB8⟩; have hB08 := below_call hB07 (Nat.le_refl _) hB8)
            | (refine wpList_store_blk rfl (.tmp 21) (.tmp 73) rfl w8.heap.size noneB x none a9 0 c9 rfl rfl (heap_alloc_new _ _) ?_; intro w9 hY9 hg9; have hB89 : Below w8.heap.size w8 w9 := ((Below.refl _ w8).alloc (Nat.le_refl _) _).grown hg9 (by simp) (fun k hk => by cases hk; exact Nat.le_refl _); clear hg9; have hB09 := below_call hB08 (Nat.le_refl _) hB89; have hown9 := hown8.later hB89; have t9 := conv_text hown9.bytes (n := x.body.length) (cap := c9) rfl; have Y0 : w9.cell? ⟨w8.heap.size, 0, none⟩ = some (.int .u64 ((s : Int) + (j : Int))) := (by rw [← Hx0.out]; exact hY9.cell 0 _ rfl); have Y1 : w9.cell? ⟨w8.heap.size, 1, none⟩ = some (.int .u8 (k.toNat : Int)) := (by rw [← Hx1.out]; exact hY9.cell 1 _ rfl); have Y2 : w9.cell? ⟨w8.heap.size, 2, none⟩ = some (.bool ((j : Int) == 0)) := (by rw [← Hx2.out]; exact hY9.cell 2 _ rfl); have Y3 : w9.cell? ⟨w8.heap.size, 3, none⟩ = some (.bool ((j : Int) == (m : Int) - 1)) := (by rw [← Hx3.out]; exact hY9.cell 3 _ rfl); have Y4 : w9.cell? ⟨w8.heap.size, 4, none⟩ = some (.slice a9 x.body.length c9) := hY9.cell 4 _ rfl))
          go_roundw
          case rel =>
            refine ⟨j + 1, by omega, by go_num, ?_, hbs.later hB09, below_call hB (Nat.le_refl _) hB09⟩
            rw [str_app, Hxb.out]
          case measure => simp [intOf]; omega
        · obtain rfl : j = m := by omega
          obtain ⟨q, hix, hq⟩ := idx_mod blk (j : Int) j rfl (by omega)
          have hget : ∀ h, (blkTo k s j rec j)[q]'h = blkAt k s j rec q := fun h => by simp [blkTo]
          obtain ⟨b, off, ab, cb, rfl, q0, q1, q2, q3, q4, hbb, hlb, hnb⟩ := hbs.at q (by rw [hLn]; exact hq)
          rw [hget] at q0 q1 q2 q3 q4 hbb hlb hnb
          obtain ⟨x, hx⟩ : ∃ x, x = blkAt k s j rec q := ⟨_, rfl⟩
          have hma : mayB x = true := by rw [hx]; exact Hmay.out q hq
          rw [← hx] at q0 q1 q2 q3 q4 hbb hlb hnb
          obtain ⟨T, hT⟩ : ∃ T, T = sealB x := ⟨_, rfl⟩
          have hT64 : T.length = 64 := by
            rw [hT]
            have hmm := hma
            simp only [mayB, Bool.and_eq_true, decide_eq_true_eq] at hmm
            exact seal_length x hmm.1.2
          obtain ⟨p, hip, hp⟩ := idx_mod at_ 64 64 rfl (by decide)
          obtain ⟨y, hy⟩ : ∃ y, y = T[p]'(by rw [hT64]; exact hp) := ⟨_, rfl⟩
          have hd1 := dec_one x hma p (by rw [← hT, hT64]; exact hp) by_
          have hT2 : T.set p (y ^^^ by_) = (sealB x).set p ((sealB x)[p]'(by rw [← hT, hT64]; exact hp) ^^^ by_) := by
            subst hT; rw [hy]
          rw [← hT2] at hd1
          have hle : Below wr.heap.size wr wr := Below.refl _ _
          have h31 : Calls Try.prog 31 #[.agg (x.cells ab cb)] wr fun e w' => ∃ g c, e = .returned (.tuple #[.slice (some ⟨g, 0, none⟩) 64 c, .int .i64 0]) ∧ OwnB w' wr.heap.size (.slice (some ⟨g, 0, none⟩) 64 c) T ∧ wr.heap.size ≤ g ∧ Below wr.heap.size wr w' := by
            refine (encode_good x ab cb wr hlb hnb hbb hma).mono ?_
            rintro e w' ⟨v, rfl, h1, h2⟩
            rw [← hT] at h1
            obtain ⟨a7, c7, rfl, h3, _, _, h5, h6⟩ := h1.slice
            rw [hT64] at h1
            cases a7 with
            | none =>
              have := (h6 rfl).1
              rw [this] at hT64
              cases hT64
            | some ad =>
              obtain ⟨g, rfl, hg1, _⟩ := h5 _ rfl
              exact ⟨g, c7, by rw [hT64], h1, hg1, h2⟩
          have hxor : bits .xor .u8 (y.toNat : Int) (by_.toNat : Int) = ((y ^^^ by_).toNat : Int) := by
            rw [u8_xor_nat _ _ y.toNat_lt by_.toNat_lt]
            simp
          obtain ⟨z, hz⟩ : ∃ z, z = y ^^^ by_ := ⟨_, rfl⟩
          rw [← hz] at hd1 hxor
          have tr := conv_text (hby.later hB) (n := rec.length) (cap := cap) rfl
          have tr2 := Hall.out
          have hb0 : ((by_.toNat : Int) == 0) = (by_ == 0) := by
            rw [Bool.eq_iff_iff, beq_iff_eq, beq_iff_eq]
            exact ⟨fun h => UInt8.toNat.inj (by simp; omega), fun h => by rw [h]; rfl⟩
          have HT64 := Lib.hid hT64
          have hyo : ∀ h, T[p]'h = y := fun h => hy.symm
          have Hy := Lib.hid hyo
          clear hbs hx hma hT hT2 hz hy hle hT64 hget hyo
          go_upto_region 23 with (first
            | (go_at_call 31; refine h31.mono ?_; rintro e w6 ⟨g, c7, rfl, hown6, hg6, hB6⟩; have pc : w6.cell? ⟨g, p, none⟩ = some (.int .u8 (y.toNat : Int)) := (by have h := hown6.bytes.cell p (by rw [HT64.out]; exact hp); rw [Nat.zero_add, Hy.out] at h; exact h); have pf := hown6.free HT64.out.symm p))
          have hst := hown6.stored HT64.out.symm p z
          refine over_world (R := fun W => IsBytes W (some ⟨g, 0, none⟩) (T.set p z) ∧ Below wr.heap.size wr W) ⟨hst.bytes, hB6.setCell (p := ⟨g, p, none⟩) hg6 _⟩ ?_
          rintro w7 ⟨hb7, hB7⟩
          have hle7 : 64 ≤ c7 := by
            obtain ⟨_, _, e, _, h2, _⟩ := hown6.slice
            injection e with e1 e2 e3
            omega
          have hl7 : (T.set p z).length = 64 := by rw [List.length_set]; exact HT64.out
          have h35 := decode_calls (some ⟨g, 0, none⟩) (T.set p z) c7 w7 (by rw [hl7]; exact hle7) hb7
          rw [hl7] at h35
          have hp35 : ∀ e w', DecPost (T.set p z) w7 e w' → ∃ v a9 c9, e = .returned (.tuple #[.agg ((v : Blk).cells a9 c9), .int .i64 ((if by_ = 0 then 0 else 6 : Nat) : Int)]) ∧ Below w7.heap.size w7 w' := by
            rintro e w' ⟨a9, c9, rfl, _, h2⟩
            rw [hd1]
            exact ⟨_, a9, c9, rfl, h2⟩
          have Hp35 := Lib.hid hp35
          have hB7w := below_call hB (Nat.le_refl _) hB7
          clear hp35 hl7 hd1 hb7 hst hown6 pc pf
          by_cases h0 : by_ = 0
          · subst h0
            go_wp2_with (first
              | (go_at_call 35; refine h35.mono ?_; rintro e w8 hq; obtain ⟨v8, a9, c9, rfl, hB8⟩ := Hp35.out _ _ hq; clear hq)
              | (refine wpList_store_blk rfl (.tmp 25) (.tmp 153) rfl w8.heap.size noneB v8 none a9 0 c9 rfl rfl (heap_alloc_new _ _) ?_; intro w9 hY9 hg9; have hB89 : Below w8.heap.size w8 w9 := ((Below.refl _ w8).alloc (Nat.le_refl _) _).grown hg9 (by simp) (fun k hk => by cases hk; exact Nat.le_refl _); clear hg9; have hB9 := below_call (below_call hB7w (Nat.le_refl _) hB8) (Nat.le_refl _) hB89)
              | (go_at_call 23; refine (known23_calls _).mono ?_; rintro e w10 ⟨rfl, hB10⟩))
            go_ret
            exact ⟨rfl, below_call hB9 (Nat.le_refl _) hB10⟩
          · have hb1 : (by_ == 0) = false := by rw [beq_eq_false_iff_ne]; exact h0
            rw [hb1] at hb0
            have hi6 : ((if by_ = 0 then 0 else 6 : Nat) : Int) = 6 := by rw [if_neg h0]; rfl
            have Hi6 := Lib.hid hi6
            clear hi6 hb1
            go_wp2_with (first
              | (go_at_call 35; refine h35.mono ?_; rintro e w8 hq; obtain ⟨v8, a9, c9, rfl, hB8⟩ := Hp35.out _ _ hq; clear hq; rw [Hi6.out])
              | (refine wpList_store_blk rfl (.tmp 25) (.tmp 153) rfl w8.heap.size noneB v8 none a9 0 c9 rfl rfl (heap_alloc_new _ _) ?_; intro w9 hY9 hg9; have hB89 : Below w8.heap.size w8 w9 := ((Below.refl _ w8).alloc (Nat.le_refl _) _).grown hg9 (by simp) (fun k hk => by cases hk; exact Nat.le_refl _); clear hg9; have hB9 := below_call (below_call hB7w (Nat.le_refl _) hB8) (Nat.le_refl _) hB89)
              | (go_at_call 23; refine (known23_calls _).mono ?_; rintro e w10 ⟨rfl, hB10⟩))
            go_ret
            exact ⟨rfl, below_call hB9 (Nat.le_refl _) hB10⟩

end Go.Proofs.Ytdlbjllgdikadaa
