/- The walk of the reference of crc: Append, Ends. -/
import Derived.Test.YtdlbjllgdikadaaRefB
import Derived.Test.YtdlbjllgdikadaaSeq
import Derived.BigQuiet
namespace Go.Proofs.Ytdlbjllgdikadaa
open Go.RowKit CrcM

theorem OwnB.made (w : World) (base : Nat) (hb : base ≤ w.heap.size) : OwnB (w.alloc (.cells #[] 5)) base (.slice (some ⟨w.heap.size, 0, none⟩) 0 0) [] :=
  World.ownsRow_made w #[] 0 hb (Nat.zero_le _) rfl

theorem byte_lit (w : World) (n : Nat) : IsBytes (w.alloc (.cells #[.int .u8 ((n : Int) % 256)] 5)) (some ⟨w.heap.size, 0, none⟩) [UInt8.ofNat (n % 256)] :=
  IsBytes.made (by simp [bvals, bval])

theorem crcB_take (s : BitVec 32) (k : Nat) (hk : k < 4) : (crcB s).take (k + 1) = (crcB s).take k ++ [UInt8.ofNat (s.toNat / 256 ^ k % 256)] := by
  obtain rfl | rfl | rfl | rfl : k = 0 ∨ k = 1 ∨ k = 2 ∨ k = 3 := by omega
  all_goals simp [crcB]

set_option maxRecDepth 100000 in
theorem refappend_calls (a : Option Addr) (l : List UInt8) (cap : Nat) (w : World) (hl : l.length ≤ 17592186044416) (hn : a = none → l.length = 0 ∧ cap = 0) (hb : IsBytes w a l) :
    Calls Try.prog 20 #[.slice a l.length cap] w fun e w' => ∃ v, e = .returned v ∧ OwnB w' w.heap.size v (l ++ crcB (sum l)) ∧ Below w.heap.size w w' := by
  have h0 := refsum_calls a l cap w hl hb
  obtain ⟨s, hs⟩ : ∃ s, s = sum l := ⟨_, rfl⟩
  rw [← hs] at h0 ⊢
  clear hs
  obtain ⟨g, hg⟩ : ∃ g, g = w.heap.size := ⟨_, rfl⟩
  have hg1 : g ≤ w.heap.size := by omega
  have hslt : s.toNat < 4294967296 := s.isLt
  rw [← hg] at h0 ⊢
  have Hg := Lib.hid hg
  clear hg
  go_enter Try.func20, Try.ntmps20
  go_wp2_with (first
    | (go_at_call 18; refine h0.mono ?_; rintro e w1 ⟨rfl, hw1⟩)
    | (at_builtin; refine wpList_append_bytes rfl (.tmp 8) (.tmp 9) rfl g (.slice (some ⟨w1.heap.size, 0, none⟩) 0 0) [] rfl (OwnB.made w1 g (by have := hw1.size; omega)) a l.length cap l rfl rfl hn ((hb.later (hw1.mono (by have := Hg.out; omega))).alloc _) (by simp; omega) (by have := hw1.size; simp; omega) ?_; intro v1 w2 hown1 hgr1))
  rw [List.nil_append] at hown1
  have hB2 : Below g w w2 := (hw1.alloc (by have := hw1.size; omega) _).grown hgr1 (by have := hw1.size; simp; omega) (fun k hk => by
    simp only [Value.ownBlock, Option.some.injEq] at hk
    have := hw1.size
    omega)
  clear hgr1 hb h0
  go_loopw [3, 4, 5] (fun c v i wr => ∃ k : Nat, k ≤ 4 ∧ i = .int .i64 k ∧ c = .int .u32 ((s.toNat / 256 ^ k : Nat) : Int) ∧ OwnB wr g v (l ++ (crcB s).take k) ∧ Below g w wr) (fun _ _ i _ => 4 - (intOf i).toNat)
  case atStart => exact ⟨0, Nat.zero_le _, rfl, by simp, by simpa using hown1, hB2⟩
  case round =>
    obtain ⟨k, hk, rfl, rfl, hown, hbel⟩ := hrel
    clear hown1 hB2 hw1
    have hsz := hbel.size
    by_cases hlt : k < 4
    · have ht := crcB_take s k hlt
      have hd : s.toNat / 256 ^ (k + 1) = s.toNat / 256 ^ k / 256 := by rw [Nat.pow_succ, Nat.div_div_eq_div_mul]
      have hcl : s.toNat / 256 ^ k < 4294967296 := Nat.lt_of_le_of_lt (Nat.div_le_self _ _) hslt
      obtain ⟨c, hc⟩ : ∃ c, c = s.toNat / 256 ^ k := ⟨_, rfl⟩
      rw [← hc] at ht hd hcl ⊢
      clear hc
      have Ht := Lib.hid ht
      have Hd := Lib.hid hd
      clear ht hd
      have hll : (l ++ (crcB s).take k).length ≤ l.length + 4 := by simp [crcB]; omega
      go_wp2_with (at_builtin; refine wpList_append_bytes rfl (.tmp 15) (.tmp 19) rfl g _ (l ++ (crcB s).take k) rfl (hown.later ((Below.refl _ _).alloc (Nat.le_refl _) _)) (some ⟨wr.heap.size, 0, none⟩) 1 1 [UInt8.ofNat (c % 256)] rfl rfl (fun h => by cases h) (byte_lit wr c) (by simp; omega) (by simp; omega) ?_; intro v2 w3 hown2 hgr2)
      go_roundw
      case rel =>
        refine ⟨k + 1, by omega, by go_num, congrArg (Value.int .u32) (by rw [Hd.out]; simp), by rw [Ht.out, ← List.append_assoc]; exact hown2, ?_⟩
        exact (hbel.alloc (by omega) _).grown hgr2 (by simp; omega) hown.blk
      case measure => simp [intOf]; omega
    · obtain rfl : k = 4 := by omega
      go_wp2
      go_ret
      exact ⟨_, rfl, by simpa [crcB] using hown, hbel⟩

theorem byte_of (x : UInt8) (y : Nat) (h : y % 256 = x.toNat) : UInt8.ofNat (y % 256) = x := by
  apply UInt8.toNat.inj
  have := x.toNat_lt
  simp [h]

/-- Four bytes are a sum's iff they are its number. -/
theorem crcB_iff (s : BitVec 32) (t : List UInt8) (ht : t.length = 4) : (crcB s == t) = (leN t == s.toNat) := by
  have hs : s.toNat < 4294967296 := s.isLt
  match t, ht with
  | [a, b, c, d], _ =>
    have ha := a.toNat_lt
    have hb := b.toNat_lt
    have hc := c.toNat_lt
    have hd := d.toNat_lt
    simp only [leN, crcB]
    by_cases h : a.toNat + 256 * (b.toNat + 256 * (c.toNat + 256 * (d.toNat + 256 * 0))) = s.toNat
    · rw [byte_of a _ (by omega), byte_of b _ (by omega), byte_of c _ (by omega), byte_of d _ (by omega), h, beq_self_eq_true, beq_self_eq_true]
    · rw [beq_eq_false_iff_ne.2 h, beq_eq_false_iff_ne]
      intro e
      simp only [List.cons.injEq, and_true] at e
      obtain ⟨e1, e2, e3, e4⟩ := e
      have f1 := congrArg UInt8.toNat e1
      have f2 := congrArg UInt8.toNat e2
      have f3 := congrArg UInt8.toNat e3
      have f4 := congrArg UInt8.toNat e4
      simp at f1 f2 f3 f4
      omega

theorem ends_same (l : List UInt8) (n : Nat) (h : l.length = n + 4) : (l.take n ++ crcB (sum (l.take n)) == l) = endsB l := by
  unfold endsB
  rw [show l.length - 4 = n by omega, decide_eq_true (show 4 ≤ l.length by omega), Bool.true_and, ← crcB_iff _ _ (by rw [List.length_drop]; omega)]
  have e : l.take n ++ l.drop n = l := List.take_append_drop n l
  by_cases hq : crcB (sum (l.take n)) = l.drop n
  · rw [hq, e, beq_self_eq_true, beq_self_eq_true]
  · rw [beq_eq_false_iff_ne.2 hq, beq_eq_false_iff_ne]
    intro h2
    apply hq
    have h3 : l.take n ++ crcB (sum (l.take n)) = l.take n ++ l.drop n := h2.trans e.symm
    exact List.append_cancel_left h3

set_option maxRecDepth 100000 in
theorem refends_calls (a : Option Addr) (l : List UInt8) (cap : Nat) (w : World) (hl : l.length ≤ 17592186044416) (hc : l.length ≤ cap) (hn : a = none → l.length = 0 ∧ cap = 0) (hb : IsBytes w a l) :
    Calls Try.prog 22 #[.slice a l.length cap] w fun e w' => e = .returned (.bool (endsB l)) ∧ Below w.heap.size w w' := by
  by_cases h4 : l.length < 4
  · have he : endsB l = false := by simp [endsB]; omega
    rw [he]
    have hd : decide ((4 : Int) ≤ (l.length : Int)) = false := by simp; omega
    go_enter Try.func22, Try.ntmps22
    go_wp2
    go_quiet (fail)
    go_wp2
    go_ret
    exact ⟨rfl, below_drewN (Below.refl _ _) _⟩
  · obtain ⟨n, hnn⟩ : ∃ n, l.length = n + 4 := ⟨l.length - 4, by omega⟩
    have hln : (l.take n).length = n := by rw [List.length_take]; omega
    have h0 : ∀ W, Below w.heap.size w W → Calls Try.prog 20 #[.slice a n cap] W fun e w' => ∃ v, e = .returned v ∧ OwnB w' W.heap.size v (l.take n ++ crcB (sum (l.take n))) ∧ Below W.heap.size W w' := fun W hW => by
      have := refappend_calls a (l.take n) cap W (by omega) (fun h => by have := hn h; omega) ((hb.later hW).take n)
      rw [hln] at this
      exact this
    obtain ⟨r, hr⟩ : ∃ r, r = l.take n ++ crcB (sum (l.take n)) := ⟨_, rfl⟩
    rw [← hr] at h0
    have hd : decide ((4 : Int) ≤ (l.length : Int)) = true := by simp; omega
    have hs : IntKind.i64.wrap ((l.length : Int) - 4) = (n : Int) := by rw [IntWalk.i64_in _ (by omega)]; omega
    have hn0 : (n : Int) ≤ (cap : Int) := by omega
    have e1 : ∀ x : SW (fun W => Below w.heap.size w W), (convert 22 9 (.slice a l.length cap)).run Try.prog x.W = .ok (.string ⟨l.toArray⟩) x.W := fun x => conv_text (hb.later x.h) rfl
    have hne : Nonempty (SW (fun W => Below w.heap.size w W)) := ⟨⟨w, Below.refl _ _⟩⟩
    have H0 := Lib.hid h0
    have Hnn := Lib.hid hnn
    have Hr := Lib.hid hr
    clear h0 hnn hln hr
    go_enter Try.func22, Try.ntmps22
    go_wp2
    refine wp_region_seq (fun W => Below w.heap.size w W) [(0, true), (1, true), (2, true), (3, true), (4, true), (5, true), (6, true), (7, true), (8, true), (11, true), (12, true), (9, false), (10, false), (13, true), (14, true), (15, true)] (by kernel_rfl) (by kernel_rfl) (fun d _ _ _ _ h => by cases d <;> exact h) (Below.refl _ _).drew ?_
    repeat (first
      | (refine wpSeq_skip (o := ⟨_, _, _, _, _, _⟩) rfl rfl ?_; simp only [Act.put, List.setIfInBounds_toArray, List.set_cons_zero, List.set_cons_succ])
      | (refine wpSeq_free (o := ⟨_, _, _, _, _, _⟩) rfl rfl (fun K hK => ?_); go_big_quiet_op; (refine hK _ ?_; clear hK K)))
    refine wpSeq_next (o := ⟨_, _, _, _, _, _⟩) rfl rfl (fun K hK => ?_)
    go_simp
    go_at_call 20
    refine (H0.out _ (by exact (Below.refl _ _).drew)).mono ?_
    rintro e w2 ⟨v, rfl, hown, hw2⟩
    obtain ⟨a2, c2, rfl, hb2, _, _, _, _⟩ := hown.slice
    have e2 := conv_text (w := w2) hb2 (cap := c2) rfl
    have hS2 : Below w.heap.size w w2 := (Below.refl _ _).drew.trans hw2
    refine hK.out _ _ hS2 ?_
    clear hK K
    refine wpSeq_next (o := ⟨_, _, _, _, _, _⟩) rfl rfl (fun K hK => ?_)
    go_simp
    refine hK.out _ _ hS2 ?_
    clear hK K
    repeat (first
      | (refine wpSeq_skip (o := ⟨_, _, _, _, _, _⟩) rfl rfl ?_; simp only [Act.put, List.setIfInBounds_toArray, List.set_cons_zero, List.set_cons_succ])
      | (refine wpSeq_free (o := ⟨_, _, _, _, _, _⟩) rfl rfl (fun K hK => ?_); go_big_quiet_op; (refine hK _ ?_; clear hK K)))
    refine wpSeq_nil ?_
    go_wp2
    go_ret
    exact ⟨ret_bool (by rw [Hr.out]; exact ends_same l n Hnn.out), hS2⟩
end Go.Proofs.Ytdlbjllgdikadaa
