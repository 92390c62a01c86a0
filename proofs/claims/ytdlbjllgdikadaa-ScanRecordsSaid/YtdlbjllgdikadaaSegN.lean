/- The law SegmentForms walked. -/
import Derived.Test.YtdlbjllgdikadaaSegM
import Derived.Test.YtdlbjllgdikadaaLaw20A
import Derived.Test.YtdlbjllgdikadaaLaw01B
import Derived.Deep.CutRange
namespace Go.Proofs.Ytdlbjllgdikadaa
open Go.RowKit CrcM

@[go_sem] theorem Blk.c0 (b : Blk) (a : Option Addr) (c : Nat) : (b.cells a c)[0]? = some (.int .u64 (b.serial : Int)) := rfl
@[go_sem] theorem Blk.c1 (b : Blk) (a : Option Addr) (c : Nat) : (b.cells a c)[1]? = some (.int .u8 (b.kind.toNat : Int)) := rfl
@[go_sem] theorem Blk.c2 (b : Blk) (a : Option Addr) (c : Nat) : (b.cells a c)[2]? = some (.bool b.first) := rfl
@[go_sem] theorem Blk.c3 (b : Blk) (a : Option Addr) (c : Nat) : (b.cells a c)[3]? = some (.bool b.last) := rfl
@[go_sem] theorem Blk.c4 (b : Blk) (a : Option Addr) (c : Nat) : (b.cells a c)[4]? = some (.slice a b.body.length c) := rfl

def encT (b : Blk) : List UInt8 := if mayB b then sealB b else []
def encEr (b : Blk) : Nat := if mayB b then 0 else 2
def EncAny (b : Blk) (w : World) (e : Ending) (w' : World) : Prop :=
  ∃ v, e = .returned (.tuple #[v, .int .i64 (encEr b : Nat)]) ∧ OwnB w' w.heap.size v (encT b) ∧ Below w.heap.size w w'

theorem OwnB.head {w : World} {base g off n c : Nat} {l : List UInt8} (h : OwnB w base (.slice (some ⟨g, off, none⟩) n c) l) : off = 0 ∧ base ≤ g ∧ ∃ cur, w.heap[g]? = some (.cells cur 5 (0, 0)) := by
  rcases h.2 with ⟨h1, _⟩ | ⟨g', cap', cur, h1, h2, h3, _⟩
  · cases h1
  · cases h1
    exact ⟨rfl, h2, cur, h3⟩

theorem encode_calls (b : Blk) (a : Option Addr) (cap : Nat) (w : World) (hs : b.serial < 18446744073709551616) (hl : b.body.length ≤ 9223372036854775807) (hcap : b.body.length ≤ cap) (hno : a = none → b.body.length = 0 ∧ cap = 0) (hby : IsBytes w a b.body) :
    Calls Try.prog 31 #[.agg (b.cells a cap)] w (EncAny b w) := by
  cases hm : mayB b with
  | true =>
    refine (encode_good b a cap w hcap hno hby hm).mono ?_
    rintro e w' ⟨v, rfl, h1, h2⟩
    exact ⟨v, by simp [encEr, hm], by simpa [encT, hm] using h1, h2⟩
  | false =>
    refine (encode_bad b a cap w hs hl hm).mono ?_
    rintro e w' ⟨rfl, h2⟩
    exact ⟨_, by simp [encEr, hm]; rfl, by simpa [encT, hm] using OwnB.nil _ _, h2⟩

theorem refencode_calls (b : Blk) (a : Option Addr) (cap : Nat) (w : World) (hs : b.serial < 18446744073709551616) (hl : b.body.length ≤ 9223372036854775807) (hno : a = none → b.body.length = 0 ∧ cap = 0) (hby : IsBytes w a b.body) :
    Calls Try.prog 32 #[.agg (b.cells a cap)] w (EncAny b w) := by
  cases hm : mayB b with
  | true =>
    refine (refencode_good b a cap w hno hby hm).mono ?_
    rintro e w' ⟨v, rfl, h1, h2⟩
    exact ⟨v, by simp [encEr, hm], by simpa [encT, hm] using h1, h2⟩
  | false =>
    refine (refencode_bad b a cap w hs hl hm).mono ?_
    rintro e w' ⟨rfl, h2⟩
    exact ⟨_, by simp [encEr, hm]; rfl, by simpa [encT, hm] using OwnB.nil _ _, h2⟩

set_option linter.unusedSimpArgs false in
set_option maxHeartbeats 4000000 in
set_option maxRecDepth 100000 in
theorem segmentForms_walk (x : Blk) (hs : x.serial < 18446744073709551616) (a : Option Addr) (cap : Nat) (a2 : Option Addr) (l2 : List UInt8) (cap2 : Nat) (w : World) (hcap : x.body.length ≤ cap) (hno : a = none → x.body = [] ∧ cap = 0) (hby : IsBytes w a x.body)
    (hcap2 : l2.length ≤ cap2) (hno2 : a2 = none → l2 = [] ∧ cap2 = 0) (hby2 : IsBytes w a2 l2) :
    Calls Try.prog 6 #[.agg (x.cells a cap), .slice a2 l2.length cap2] w fun e w' => e = .returned (.bool true) ∧ Below w.heap.size w w' := by
  have hBX : Below w.heap.size w (w.alloc (.cells (x.cells a cap) 43)) := (Below.refl _ _).alloc (Nat.le_refl _) _
  have hX : BlkAt (w.alloc (.cells (x.cells a cap) 43)) w.heap.size x a cap := heap_alloc_new _ _
  by_cases hbig : 200 < x.body.length ∨ 200 < l2.length
  · by_cases hb1 : 200 < x.body.length
    · go_enter Try.func6, Try.ntmps6
      go_wp2_with (go_at_call 23; refine (known23_calls _).mono ?_; rintro e w1 ⟨rfl, hw1⟩)
      go_ret
      exact ⟨rfl, below_call hBX (Nat.le_refl _) hw1⟩
    · have hb2 : 200 < l2.length := by omega
      go_enter Try.func6, Try.ntmps6
      go_wp2_with (go_at_call 23; refine (known23_calls _).mono ?_; rintro e w1 ⟨rfl, hw1⟩)
      go_ret
      exact ⟨rfl, below_call hBX (Nat.le_refl _) hw1⟩
  · have h200 : x.body.length ≤ 200 := by omega
    have h201 : l2.length ≤ 200 := by omega
    have hno' : a = none → x.body.length = 0 ∧ cap = 0 := fun e => by obtain ⟨h1, h2⟩ := hno e; exact ⟨by rw [h1]; rfl, h2⟩
    have hno2' : a2 = none → l2.length = 0 ∧ cap2 = 0 := fun e => by obtain ⟨h1, h2⟩ := hno2 e; exact ⟨by rw [h1]; rfl, h2⟩
    clear hbig
    obtain ⟨T, hT⟩ : ∃ T, T = encT x := ⟨_, rfl⟩
    obtain ⟨E, hE⟩ : ∃ E, E = encEr x := ⟨_, rfl⟩
    obtain ⟨m, hm⟩ : ∃ m, m = mayB x := ⟨_, rfl⟩
    have h31 : ∀ W, Below w.heap.size w W → Calls Try.prog 31 #[.agg (x.cells a cap)] W fun e w' => ∃ v, e = .returned (.tuple #[v, .int .i64 (E : Nat)]) ∧ OwnB w' W.heap.size v T ∧ Below W.heap.size W w' := fun W hW => by
      rw [hT, hE]; exact encode_calls x a cap W hs (by omega) hcap hno' (hby.later hW)
    have h32 : ∀ W, Below w.heap.size w W → Calls Try.prog 32 #[.agg (x.cells a cap)] W fun e w' => ∃ v, e = .returned (.tuple #[v, .int .i64 (E : Nat)]) ∧ OwnB w' W.heap.size v T ∧ Below W.heap.size W w' := fun W hW => by
      rw [hT, hE]; exact refencode_calls x a cap W hs (by omega) hno' (hby.later hW)
    have h33 : ∀ W, Calls Try.prog 33 #[.agg (x.cells a cap)] W fun e w' => e = .returned (.bool m) ∧ Below W.heap.size W w' := fun W => by
      rw [hm]; exact may_calls x a cap W hs (by omega)
    have h34 : ∀ W, Calls Try.prog 34 #[.agg (x.cells a cap)] W fun e w' => e = .returned (.bool m) ∧ Below W.heap.size W w' := fun W => by
      rw [hm]; exact refmay_calls x a cap W hs (by omega)
    have HT := Lib.hid hT
    have HE := Lib.hid hE
    have Hm := Lib.hid hm
    clear hT hE hm
    go_enter Try.func6, Try.ntmps6
    go_upto_region 5 with (first
      | (refine wpList_load_blk rfl (.tmp 2) rfl w.heap.size x a cap rfl hX ?_)
      | (refine wpList_load_blk rfl (.tmp 2) rfl w.heap.size x a cap rfl hX1 ?_)
      | (go_at_call 31; refine (h31 _ hBX).mono ?_; rintro e w1 ⟨v1, rfl, hown1, hB1⟩; obtain ⟨a1, c1, rfl, hs1⟩ := hown1.slice; have hBX1 := below_call hBX (Nat.le_refl _) hB1; have hX1 := hX.later hB1)
      | (go_at_call 32; refine (h32 _ hBX1).mono ?_; rintro e w3 ⟨v3, rfl, hown3, hB3⟩; obtain ⟨a3, c3, rfl, hs3⟩ := hown3.slice; have hBX3 := below_call hBX1 (Nat.le_refl _) hB3; have hX3 := hX1.later hB3; have hown1' := hown1.later hB3))
    have hne : Nonempty (SW (fun W => Below w3.heap.size w3 W)) := ⟨⟨w3, Below.refl _ _⟩⟩
    have t1 : ∀ q : SW (fun W => Below w3.heap.size w3 W), (convert 22 9 (.slice a1 T.length c1)).run Try.prog q.W = .ok (.string ⟨T.toArray⟩) q.W := fun q => conv_text (hown1'.bytes.later q.h) rfl
    have t3 : ∀ q : SW (fun W => Below w3.heap.size w3 W), (convert 22 9 (.slice a3 T.length c3)).run Try.prog q.W = .ok (.string ⟨T.toArray⟩) q.W := fun q => conv_text (hown3.bytes.later q.h) rfl
    have p0 : ∀ q : SW (fun W => Below w3.heap.size w3 W), q.W.cell? ⟨w.heap.size, 0, none⟩ = some (.int .u64 (x.serial : Int)) := fun q => (hX3.later q.h).cell 0 _ rfl
    have p1 : ∀ q : SW (fun W => Below w3.heap.size w3 W), q.W.cell? ⟨w.heap.size, 1, none⟩ = some (.int .u8 (x.kind.toNat : Int)) := fun q => (hX3.later q.h).cell 1 _ rfl
    have p2 : ∀ q : SW (fun W => Below w3.heap.size w3 W), q.W.cell? ⟨w.heap.size, 2, none⟩ = some (.bool x.first) := fun q => (hX3.later q.h).cell 2 _ rfl
    have p3 : ∀ q : SW (fun W => Below w3.heap.size w3 W), q.W.cell? ⟨w.heap.size, 3, none⟩ = some (.bool x.last) := fun q => (hX3.later q.h).cell 3 _ rfl
    have p4 : ∀ q : SW (fun W => Below w3.heap.size w3 W), q.W.cell? ⟨w.heap.size, 4, none⟩ = some (.slice a x.body.length cap) := fun q => (hX3.later q.h).cell 4 _ rfl
    clear hX hX1 hBX1 hB1 hB3 hown1 h31 h32 hs1 hs3
    refine wp_region_seq2 (fun W => Below w3.heap.size w3 W) [(0, true), (2, true), (1, false), (3, false), (4, true), (5, true), (6, true), (7, true), (8, true), (9, true), (10, true), (11, true), (12, true), (13, true), (14, true), (15, true), (16, true)] (by kernel_rfl) (by kernel_rfl) (fun d _ _ _ _ h => by cases d <;> exact h) ((Below.refl _ _).drew) ?_
    repeat (first
      | (refine wpSeq_skip (o := ⟨_, _, _, _, _, _⟩) rfl rfl ?_; simp only [Act.put, List.setIfInBounds_toArray, List.set_cons_zero, List.set_cons_succ])
      | (refine wpSeq_free (o := ⟨_, _, _, _, _, _⟩) rfl rfl (fun K hK => ?_); go_big_quiet_op; (refine hK _ ?_; clear hK K)))
    refine wpSeq_next (o := ⟨_, _, _, _, _, _⟩) rfl rfl (fun K hK => ?_)
    go_simp
    go_at_call 33
    refine (h33 _).mono ?_
    rintro e w4 ⟨rfl, hB4⟩
    have hS4 : Below w3.heap.size w3 w4 := (Below.refl _ _).drew.trans hB4
    refine hK.out _ _ (hS4) ?_
    clear hK K
    repeat (first
      | (refine wpSeq_skip (o := ⟨_, _, _, _, _, _⟩) rfl rfl ?_; simp only [Act.put, List.setIfInBounds_toArray, List.set_cons_zero, List.set_cons_succ])
      | (refine wpSeq_free (o := ⟨_, _, _, _, _, _⟩) rfl rfl (fun K hK => ?_); go_big_quiet_op; (refine hK _ ?_; clear hK K)))
    refine wpSeq_next (o := ⟨_, _, _, _, _, _⟩) rfl rfl (fun K hK => ?_)
    go_simp
    go_at_call 34
    refine (h34 _).mono ?_
    rintro e w5 ⟨rfl, hB5⟩
    have hS5 : Below w3.heap.size w3 w5 := below_call hS4 (Nat.le_refl _) hB5
    refine hK.out _ _ (hS5) ?_
    clear hK K
    repeat (first
      | (refine wpSeq_skip (o := ⟨_, _, _, _, _, _⟩) rfl rfl ?_; simp only [Act.put, List.setIfInBounds_toArray, List.set_cons_zero, List.set_cons_succ])
      | (refine wpSeq_free (o := ⟨_, _, _, _, _, _⟩) rfl rfl (fun K hK => ?_); go_big_quiet_op; (refine hK _ ?_; clear hK K)))
    refine wpSeq_nil ?_
    have hX5 := hX3.later hS5
    have hown5 := hown1'.later hS5
    have hB5w := below_call hBX3 (Nat.le_refl _) hS5
    obtain ⟨N1, hN1⟩ : ∃ N1, N1 = (w.alloc (Obj.cells (x.cells a cap) 43)).heap.size := ⟨_, rfl⟩
    rw [← hN1] at hown5
    clear hne t1 t3 p0 p1 p2 p3 p4 h33 h34 hS4 hS5 hB4 hB5 hX3 hown1' hown3 hBX3 hN1
    go_upto_if 55 with fail
    go_cut [] from 54 to 68 (fun wc => Below w.heap.size w wc)
    case first =>
      by_cases hmm : m = true
      · have hma : mayB x = true := by rw [← Hm.out]; exact hmm
        have hE0 : E = 0 := by rw [HE.out, encEr, if_pos hma]
        have hTs : T = sealB x := by rw [HT.out, encT, if_pos hma]
        obtain ⟨d1, d2⟩ := dec_seal x hma
        rw [← hTs] at d1 d2
        have hs5 := hown5.slice
        obtain ⟨a1', c1', e1', hb1', hc1', _⟩ := hs5
        cases e1'
        have h35 := decode_calls a1 T c1 w5 hc1' hb1'
        have hp : ∀ e w', DecPost T w5 e w' → ∃ a6 c6, e = .returned (.tuple #[.agg (x.cells a6 c6), .int .i64 0]) ∧ IsBytes w' a6 x.body ∧ Below w5.heap.size w5 w' := by
          rintro e w' ⟨a6, c6, rfl, h1, h2⟩
          rw [d1, d2]
          rw [d2] at h1
          exact ⟨a6, c6, rfl, h1.bytes, h2⟩
        have Hp := Lib.hid hp
        have hsame : sameB x x = true := (sameB_iff x x).2 rfl
        have Hsame := Lib.hid hsame
        subst hE0
        clear hp d1 d2 hTs hmm hma hsame hc1' hb1'
        go_wp2_with (first
          | (go_at_call 35; refine h35.mono ?_; rintro e w6 hq; obtain ⟨a6, c6, rfl, hb6, hB6⟩ := Hp.out _ _ hq; clear hq; have hB6w := below_call hB5w (Nat.le_refl _) hB6; have hX6 := hX5.later hB6)
          | (refine wpList_store_blk rfl (.tmp 9) (.tmp 59) rfl w6.heap.size noneB x none a6 0 c6 rfl rfl (heap_alloc_new _ _) ?_; intro w7 hY7 hg7; have hX7 := BlkAt.kept (hX6.later ((Below.refl _ _).alloc (Nat.le_refl _) _)) hg7 (by have := lt_of_block hX6; intro e; injection e; omega); have hB7w := (hB6w.alloc hB6w.size _).grown hg7 (by have := hB6w.size; simp; omega) (fun k hk => by cases hk; exact hB6w.size); have hb7 : IsBytes w7 a6 x.body := hb6.later (((Below.refl _ w6).alloc (Nat.le_refl _) _).grown hg7 (by simp) (fun k hk => by cases hk; exact Nat.le_refl _)); clear hg7; have X0 : w7.cell? ⟨w.heap.size, 0, none⟩ = some (.int .u64 (x.serial : Int)) := hX7.cell 0 _ rfl; have X1 : w7.cell? ⟨w.heap.size, 1, none⟩ = some (.int .u8 (x.kind.toNat : Int)) := hX7.cell 1 _ rfl; have X2 : w7.cell? ⟨w.heap.size, 2, none⟩ = some (.bool x.first) := hX7.cell 2 _ rfl; have X3 : w7.cell? ⟨w.heap.size, 3, none⟩ = some (.bool x.last) := hX7.cell 3 _ rfl; have X4 : w7.cell? ⟨w.heap.size, 4, none⟩ = some (.slice a x.body.length cap) := hX7.cell 4 _ rfl; have Y0 : w7.cell? ⟨w6.heap.size, 0, none⟩ = some (.int .u64 (x.serial : Int)) := hY7.cell 0 _ rfl; have Y1 : w7.cell? ⟨w6.heap.size, 1, none⟩ = some (.int .u8 (x.kind.toNat : Int)) := hY7.cell 1 _ rfl; have Y2 : w7.cell? ⟨w6.heap.size, 2, none⟩ = some (.bool x.first) := hY7.cell 2 _ rfl; have Y3 : w7.cell? ⟨w6.heap.size, 3, none⟩ = some (.bool x.last) := hY7.cell 3 _ rfl; have Y4 : w7.cell? ⟨w6.heap.size, 4, none⟩ = some (.slice a6 x.body.length c6) := hY7.cell 4 _ rfl)
          | (go_at_call 36; refine (same_calls x x a a6 cap c6 _ (hby.later hB7w) hb7).mono ?_; rintro e w8 ⟨rfl, hB8⟩; rw [Hsame.out]))
        go_meet
        exact below_call hB7w (Nat.le_refl _) hB8
      · have hma : ¬ mayB x = true := by rw [← Hm.out]; exact hmm
        have hE0 : E = 2 := by rw [HE.out, encEr, if_neg hma]
        subst hE0
        go_wp2
        go_meet
        exact hB5w
    case rest =>
      clear hX5 hown5 hB5w hBX
      obtain ⟨y, hy⟩ : ∃ y, y = decB l2 := ⟨_, rfl⟩
      obtain ⟨D, hD⟩ : ∃ D, D = decE l2 := ⟨_, rfl⟩
      have hy48 : y.body.length ≤ 48 := by
        rw [hy]
        unfold decB
        split
        · show ((l2.drop 10).take (min (byteAt l2 9) 48)).length ≤ 48
          rw [List.length_take]; omega
        · decide
      have h35 : ∀ W a8 c8, l2.length ≤ c8 → IsBytes W a8 l2 → Calls Try.prog 35 #[.slice a8 l2.length c8] W fun e w' => ∃ a9 c9, e = .returned (.tuple #[.agg (y.cells a9 c9), .int .i64 (D : Nat)]) ∧ OwnB w' W.heap.size (.slice a9 y.body.length c9) y.body ∧ Below W.heap.size W w' := fun W a8 c8 h1 h2 => by
        rw [hy, hD]; exact decode_calls a8 l2 c8 W h1 h2
      have h37 : ∀ W, Below w.heap.size w W → Calls Try.prog 37 #[.slice a2 l2.length cap2] W fun e w' => ∃ a9 c9, e = .returned (.tuple #[.agg (y.cells a9 c9), .int .i64 (D : Nat)]) ∧ OwnB w' W.heap.size (.slice a9 y.body.length c9) y.body ∧ Below W.heap.size W w' := fun W h1 => by
        rw [hy, hD]; exact refdecode_calls a2 l2 cap2 W hcap2 (hby2.later h1)
      have hsame : sameB y y = true := (sameB_iff y y).2 rfl
      have Hsame := Lib.hid hsame
      have Hy := Lib.hid hy
      have HD := Lib.hid hD
      clear hy hD hsame
      go_upto_region 12 with (at_builtin; refine wpList_append_bytes rfl (.tmp 69) (.tmp 70) rfl wc.heap.size (.slice (some ⟨wc.heap.size, 0, none⟩) 0 0) [] rfl (OwnB.made wc wc.heap.size (Nat.le_refl _)) a2 l2.length cap2 l2 rfl rfl hno2' ((hby2.later hcut).alloc _) (by simp; omega) (by simp) ?_; intro v1 w6 hown6 hgr6; have hall := fresh_bytes hown6 hgr6; clear hown6 hgr6; obtain ⟨ai, ci, rfl, hbi, hci, hni, hB6⟩ := hall; have hB6w := below_call hcut (Nat.le_refl _) hB6)
      go_upto_region 16 with (first
        | (go_at_call 35; refine (h35 _ ai ci hci hbi).mono ?_; rintro e w7 ⟨a7, c7, rfl, hown7, hB7⟩; have hB7w := below_call hB6w (Nat.le_refl _) hB7)
        | (refine wpList_store_blk rfl (.tmp 12) (.tmp 75) rfl w7.heap.size noneB y none a7 0 c7 rfl rfl (heap_alloc_new _ _) ?_; intro w8 hY8 hg8; have hB78 : Below w7.heap.size w7 w8 := ((Below.refl _ w7).alloc (Nat.le_refl _) _).grown hg8 (by simp) (fun k hk => by cases hk; exact Nat.le_refl _); have hB8 := below_call hB7 (Nat.le_refl _) hB78; have hB8w := below_call hB7w (Nat.le_refl _) hB78; have hown8 := hown7.later hB78; clear hg8)
        | (go_at_call 37; refine (h37 _ hB8w).mono ?_; rintro e w9 ⟨a9, c9, rfl, hown9, hB9⟩; have hY9 := hY8.later hB9; have hB9w := below_call hB8w (Nat.le_refl _) hB9; have hB69 := below_call hB8 (Nat.le_refl _) hB9; have hown89 := hown8.later hB9)
        | (refine wpList_store_blk rfl (.tmp 14) (.tmp 80) rfl w9.heap.size noneB y none a9 0 c9 rfl rfl (heap_alloc_new _ _) ?_; intro w10 hZ10 hg10; have hB910 : Below w9.heap.size w9 w10 := ((Below.refl _ w9).alloc (Nat.le_refl _) _).grown hg10 (by simp) (fun k hk => by cases hk; exact Nat.le_refl _); have hY10 := hY9.later hB910; have hB10 := below_call hB69 (Nat.le_refl _) hB910; have hB10w := below_call hB9w (Nat.le_refl _) hB910; have hown10 := hown89.later hB910; have hownz10 := hown9.later hB910; clear hg10)
        | (refine wpList_load_blk rfl (.tmp 12) rfl w7.heap.size y a7 c7 rfl hY10 ?_)
        | (refine wpList_load_blk rfl (.tmp 14) rfl w9.heap.size y a9 c9 rfl hZ10 ?_)
        | (go_at_call 36; refine (same_calls y y a7 a9 c7 c9 _ hown10.bytes hownz10.bytes).mono ?_; rintro e w11 ⟨rfl, hB1011⟩; rw [Hsame.out]; have hY11 := hY10.later hB1011; have hB11 := below_call hB10 (Nat.le_refl _) hB1011; have hB11w := below_call hB10w (Nat.le_refl _) hB1011; have hown11 := hown10.later hB1011))
      obtain ⟨Y, hYe⟩ : ∃ Y, Y = w7.heap.size := ⟨_, rfl⟩
      obtain ⟨n, hn⟩ : ∃ n, n = y.body.length := ⟨_, rfl⟩
      obtain ⟨B6, hB6e⟩ : ∃ B6, B6 = w6.heap.size := ⟨_, rfl⟩
      have hYB : B6 ≤ Y := by rw [hB6e, hYe]; exact hB7.size
      have hwB6 : w.heap.size ≤ B6 := by rw [hB6e]; exact hB6w.size
      have hbi11 : ∀ W, Below B6 w6 W → IsBytes W ai l2 := fun W h => hbi.later (by rw [← hB6e]; exact h)
      have hby11 : ∀ W, Below B6 w6 W → IsBytes W a2 l2 := fun W h => hby2.later (hB6w.trans (h.mono hwB6))
      have hfin : ∀ W, Below B6 w6 W → Below w.heap.size w W := fun W h => hB6w.trans (h.mono hwB6)
      rw [← hYe] at hY11 ⊢
      rw [← hB6e] at hown11 hB11
      rw [← hn] at hown11 hy48
      have p4 := hY11.cell 4 _ rfl
      have Hn := Lib.hid hn
      clear hYe hB6e hn hown10 hownz10 hB1011 hY10 hZ10 hB910 hB10 hB10w hown89 hB69 hB9w hY9 hB9 hown9 hown8 hB8w hB8 hB78 hY8 hB7w hB7 hown7 hB6 hbi h35 h37 hB11w
      have p4' : w11.cell? ⟨Y, 4, none⟩ = some (.slice a7 n c7) := by rw [Hn.out]; exact p4
      clear p4
      go_wp2
      go_loopw [94] (fun i wr => ∃ (j : Nat) (t : List UInt8), j ≤ n ∧ i = .int .i64 j ∧ t.length = n ∧ OwnB wr B6 (.slice a7 n c7) t ∧ BlkAt wr Y y a7 c7 ∧ Below B6 w6 wr) (fun i _ => n - (intOf i).toNat)
      case atStart => exact ⟨0, y.body, Nat.zero_le _, rfl, Hn.out.symm, hown11, hY11, hB11⟩
      case round =>
        clear hown11 hY11 hB11 p4'
        obtain ⟨j, t, hj, rfl, ht, hown, hY, hB⟩ := hrel
        by_cases hlt : j < n
        · have hb := hown.bytes
          obtain ⟨g, off, rfl⟩ : ∃ g off, a7 = some ⟨g, off, none⟩ := by
            obtain ⟨g, off, e, _⟩ := hb j (by omega)
            exact ⟨g, off, e⟩
          obtain ⟨rfl, hg6, cur, hgcur⟩ := hown.head
          obtain ⟨q, hq⟩ : ∃ q, q = t[j]'(by omega) := ⟨_, rfl⟩
          have pc : wr.cell? ⟨g, j, none⟩ = some (.int .u8 (q.toNat : Int)) := by
            have := hb.cell j (by omega)
            rw [Nat.zero_add, ← hq] at this
            exact this
          have pf : wr.frozen? ⟨g, j, none⟩ = false := hown.free ht.symm j
          have p4 : wr.cell? ⟨Y, 4, none⟩ = some (.slice (some ⟨g, 0, none⟩) n c7) := by rw [Hn.out]; exact hY.cell 4 _ rfl
          have hne : Y ≠ g := by
            intro e
            rw [e] at hY
            unfold BlkAt at hY
            rw [hgcur] at hY
            simp at hY
          have hst := hown.stored ht.symm j (q + 1)
          have hYs := hY.other ⟨g, j, none⟩ (.int .u8 ((q + 1).toNat : Int)) hne
          have hBs := hB.setCell (p := ⟨g, j, none⟩) hg6 (.int .u8 ((q + 1).toNat : Int))
          rw [← u8_succ] at hst hYs hBs
          have Ht := Lib.hid ht
          have Hst := Lib.hid hst
          have HYs := Lib.hid hYs
          have HBs := Lib.hid hBs
          clear hst hYs hBs hq hgcur hown hb ht
          go_wp2
          go_roundw
          case rel => exact ⟨j + 1, t.set j (q + 1), by omega, by go_num, by rw [List.length_set]; exact Ht.out, Hst.out, HYs.out, HBs.out⟩
          case measure => simp [intOf]; omega
        · obtain rfl : j = n := by omega
          have t1 := conv_text (hbi11 _ hB) (n := l2.length) (cap := ci) rfl
          have t2 := conv_text (hby11 _ hB) (n := l2.length) (cap := cap2) rfl
          go_wp2_with (go_at_call 23; refine (known23_calls _).mono ?_; rintro e w12 ⟨rfl, hB12⟩)
          go_ret
          exact ⟨rfl, below_call (hfin _ hB) (Nat.le_refl _) hB12⟩

end Go.Proofs.Ytdlbjllgdikadaa
