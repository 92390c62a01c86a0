/- log: varvelaw22.known, walked. -/
import Derived.Test.YtdlbjllgdikadaaLogK
import Derived.Test.YtdlbjllgdikadaaLogG
namespace Go.Proofs.Ytdlbjllgdikadaa
open Go.RowKit
set_option linter.unusedVariables false
set_option linter.unusedSimpArgs false
/-- A log and its device, all made since the call began. -/
def KSt (w0 W : World) (X D b : Nat) (d : Dev) (g : Lg) : Prop := ∃ v1 v2, LogSt W w0.heap.size X D g v1 v2 ∧ DevAt W D b d ∧ Below w0.heap.size w0 W ∧ w0.heap.size ≤ D ∧ w0.heap.size ≤ b
theorem KSt.later {w0 W W' : World} {X D b : Nat} {d : Dev} {g : Lg} (h : KSt w0 W X D b d g) (hb : Below W.heap.size W W') : KSt w0 W' X D b d g := by
  obtain ⟨v1, v2, h1, h2, h3, h4, h5⟩ := h
  exact ⟨v1, v2, h1.later hb, h2.later hb, below_call h3 (Nat.le_refl _) hb, h4, h5⟩
theorem rows_low {W : World} {B : Nat} {v : Value} {l : List Rc} (h : OwnRs W B v l) : ∀ k, k ∈ v.ownBlock.toList → B ≤ k := fun k hk => by
  cases e : v.ownBlock with
  | none => rw [e] at hk; simp at hk
  | some q => rw [e] at hk; simp at hk; subst hk; exact (h.blk k e).1
theorem KSt.wait {w0 W W' : World} {X D b : Nat} {d : Dev} {g : Lg} {v1 v2 : Value} {k : UInt8} {l : List UInt8} {e : Ending} (h1 : LogSt W w0.heap.size X D g v1 v2) (h2 : DevAt W D b d) (h3 : Below w0.heap.size w0 W) (h4 : w0.heap.size ≤ D) (h5 : w0.heap.size ≤ b) (hp : WaitPost w0.heap.size X D d g v1 v2 k l W e W') :
    e = .returned (.int .i64 (waitE d g k l : Nat)) ∧ KSt w0 W' X D b d (waitG d g k l) := by
  obtain ⟨he, v2', hl, hA, _⟩ := hp
  refine ⟨he, v1, v2', hl, DevAt.waits h1 h2 hA, h3.trans (hA.toBelow (B := w0.heap.size) (fun k hk => ?_) h3.size), h4, h5⟩
  rcases List.mem_cons.1 hk with e | e
  · rw [e]; exact h1.lo
  · exact rows_low h1.o2 k e
theorem k_append {w0 W : World} {X D b : Nat} {d : Dev} {g : Lg} (h : KSt w0 W X D b d g) (hok : LgOk g) (a : Option Addr) (l : List UInt8) (c : Nat) (hby : IsBytes W a l) (hn : a = none → l.length = 0 ∧ c = 0) (hl : l.length ≤ 1000000000) :
    Calls Try.prog 66 #[.pointer (some ⟨X, 0, none⟩), .slice a l.length c] W fun e w' => e = .returned (.int .i64 (waitE d g 1 l : Nat)) ∧ KSt w0 w' X D b d (waitG d g 1 l) := by
  obtain ⟨v1, v2, h1, h2, h3, h4, h5⟩ := h
  exact (append_log _ X D b d g v1 v2 a l c W h1 h2 hok hby hn hl h3.size).mono fun e w' hp => KSt.wait h1 h2 h3 h4 h5 hp
theorem k_check {w0 W : World} {X D b : Nat} {d : Dev} {g : Lg} (h : KSt w0 W X D b d g) (hok : LgOk g) (a : Option Addr) (l : List UInt8) (c : Nat) (hby : IsBytes W a l) (hn : a = none → l.length = 0 ∧ c = 0) (hl : l.length ≤ 1000000000) :
    Calls Try.prog 67 #[.pointer (some ⟨X, 0, none⟩), .slice a l.length c] W fun e w' => e = .returned (.int .i64 (waitE d g 2 l : Nat)) ∧ KSt w0 w' X D b d (waitG d g 2 l) := by
  obtain ⟨v1, v2, h1, h2, h3, h4, h5⟩ := h
  exact (check_log _ X D b d g v1 v2 a l c W h1 h2 hok hby hn hl h3.size).mono fun e w' hp => KSt.wait h1 h2 h3 h4 h5 hp
theorem k_sync {w0 W : World} {X D b : Nat} {d : Dev} {g : Lg} (h : KSt w0 W X D b d g) (hok : LgOk g) (hb1 : 1 ≤ d.blocks) (hs : d.set = false) (hdn : d.down = false) (hgd : g.down = false) (hdw : DevW d (catB g.waits).length) (hmay : ∀ r ∈ g.waits, mayS r.kind r.from_ r.body = true) (hbod : ∀ y ∈ catB g.waits, y.body.length ≤ 48) :
    Calls Try.prog 68 #[.pointer (some ⟨X, 0, none⟩)] W fun e w' => e = .returned (.int .i64 0) ∧ KSt w0 w' X D b (putsD (d, false) (catB g.waits)).1 (syncG false g) := by
  obtain ⟨v1, v2, h1, h2, h3, h4, h5⟩ := h
  refine (sync_walk _ X D b d g v1 v2 W h1 h2 hok hb1 hdw hmay).mono fun e w' hp => ?_
  obtain ⟨q1, q2, q3⟩ := putsD_quiet (catB g.waits) d hs hdn hb1 (fun y hy => seal_length y (hbod y hy))
  obtain ⟨he, v1', v2', hl, hd, hA, _⟩ := hp
  rw [hgd, hdn, Bool.or_false, q1] at he hl
  rw [hgd, hdn, Bool.or_false] at hd
  refine ⟨he, v1', v2', hl, hd, h3.trans (hA.toBelow (B := w0.heap.size) (fun k hk => ?_) h3.size), h4, h5⟩
  simp only [List.mem_cons] at hk
  rcases hk with e | e | e | e
  · rw [e]; exact h1.lo
  · rw [e]; exact h4
  · rw [e]; exact h5
  · exact rows_low h1.o1 k e
theorem k_records {w0 W : World} {X D b : Nat} {d : Dev} {g : Lg} (h : KSt w0 W X D b d g) (hok : LgOk g) :
    Calls Try.prog 69 #[.pointer (some ⟨X, 0, none⟩)] W fun e w' => ∃ v', e = .returned v' ∧ OwnRs w' W.heap.size v' g.lasts ∧ KSt w0 w' X D b d g ∧ Below W.heap.size W w' := by
  obtain ⟨v1, v2, h1, h2, h3, h4, h5⟩ := h
  refine (records_log _ X D g v1 v2 W h1.at_ h1.o1 (by have := hok.l1; omega) (fun x hx => by have := (hok.b1 x hx).1; omega)).mono fun e w' ⟨v', he, hO, hB⟩ => ?_
  exact ⟨v', he, hO, KSt.later ⟨v1, v2, h1, h2, h3, h4, h5⟩ hB, hB⟩
theorem k_room {w0 W : World} {X D b : Nat} {d : Dev} {g : Lg} (h : KSt w0 W X D b d g) (hok : LgOk g) :
    Calls Try.prog 71 #[.pointer (some ⟨X, 0, none⟩)] W fun e w' => e = .returned (.int .i64 (roomI d g)) ∧ KSt w0 w' X D b d g ∧ Below W.heap.size W w' := by
  obtain ⟨v1, v2, h1, h2, h3, h4, h5⟩ := h
  refine (roomM_log X D b d g v1 v2 W h1.at_ h2 hok.bn (by have := hok.nx; omega) (by have := hok.my; omega) (by have := hok.nx; omega)).mono fun e w' ⟨he, hB⟩ => ?_
  exact ⟨he, KSt.later ⟨v1, v2, h1, h2, h3, h4, h5⟩ hB, hB⟩

theorem devRun_new : devRun (newD 16) = [] := by
  have hR : Ring 16 (fun _ => zero64) (fun _ => noneB) 0 0 := ⟨by decide, by decide, fun i hi => absurd hi (Nat.not_lt_zero _), fun i hi => absurd hi (Nat.not_lt_zero _), fun p hp _ => dec_zero⟩
  exact hR.run
theorem open_new (D b : Nat) (w0 w : World) (h : DevAt w D b (newD 16)) (hb : Below w0.heap.size w0 w) (hD : w0.heap.size ≤ D) (hbb : w0.heap.size ≤ b) :
    Calls Try.prog 74 #[.pointer (some ⟨D, 0, none⟩)] w fun e w' => ∃ X, e = .returned (.tuple #[.pointer (some ⟨X, 0, none⟩), .int .i64 0]) ∧ KSt w0 w' X D b (newD 16) kg0 := by
  have hf := find_dev D b (newD 16) w h rfl (by decide) (by decide)
  rw [devRun_new] at hf
  refine (open_log D b (newD 16) [] 0 w h hf (by decide) (fun r hr => nomatch hr)).mono fun e w' ⟨X, v1, he, hl, hd, hB, hX⟩ => ?_
  have hs := hb.size
  have hk : ∀ {v : Value} {l : List Rc}, OwnRs w' w.heap.size v l → OwnRs w' w0.heap.size v l := fun hO => hO.mono hs
  exact ⟨X, he, v1, _, ⟨hl.at_, hk hl.o1, hk hl.o2, hl.ap, Nat.le_trans hs hl.lo⟩, hd, below_call hb (Nat.le_refl _) hB, hD, hbb⟩

/-- '[]byte("x")', as the walk lays it. -/
def byteW (W : World) (n : Int) : World := W.alloc (.cells #[.int .u8 n] 5 (1, 2))
theorem byteW_below (W : World) (n : Int) : Below W.heap.size W (byteW W n) := (Below.refl _ W).alloc (Nat.le_refl _) _

theorem mkN (n : Nat) (c : Int) (hc : c = (n : Int)) (hn : n ≤ 1000000) (w : World) : (Instr.makeSlice 22 (.int .i64 c) (.int .i64 c)).run Try.prog w = .ok (.slice (some ⟨w.heap.size, 0, none⟩) n n) (w.alloc (.cells (bvals (List.replicate n 0)).toArray 5)) := by
  obtain ⟨i0, hi, hz0, hz1, hz2⟩ := info_parts info5
  have hcn : c.toNat = n := by omega
  have h := run_makeSlice (P := Try.prog) w 22 5 i0 (.int .u8 0) Try.underlying22 hi hz0 .i64 .i64 c c (by omega) (by omega) (by rw [hz1, hcn]; omega) (by rw [hz2]; omega) (by omega)
  rw [hz1, hcn] at h
  have e : (madeCells (Value.int .u8 0).cells (n * 1)).toList = bvals (List.replicate n 0) := by
    rw [Nat.mul_one]
    apply List.ext_getElem
    · simp [madeCells, bvals]
    · intro i h3 h4
      have h5 : i % 1 = 0 := Nat.mod_one i
      simp [madeCells, Value.cells, bvals, bval, h5]
  rw [h, ← e]
def z700 : List UInt8 := List.replicate 700 0
theorem z700_is : z700 = List.replicate 700 0 := rfl
@[go_sem] theorem mk700 (w : World) : (Instr.makeSlice 22 (.int .i64 700) (.int .i64 700)).run Try.prog w = .ok (.slice (some ⟨w.heap.size, 0, none⟩) 700 700) (w.alloc (.cells (bvals z700).toArray 5)) := by
  rw [z700_is]
  exact mkN 700 700 rfl (by omega) w

set_option maxRecDepth 100000 in
set_option maxHeartbeats 8000000 in
theorem known76_calls (w : World) : Calls Try.prog 76 #[] w fun e w' => e = .returned (.bool true) ∧ Below w.heap.size w w' := by
  have hnew := Lib.hid (new_dev 16 w (by decide) (by decide))
  have hop := Lib.hid (fun D b W h hb h1 h2 => open_new D b w W h hb h1 h2)
  have hap := Lib.hid (fun (W : World) X D b d g (n : Int) (x : UInt8) (hx : (x.toNat : Int) = n) (hok : LgOk g) (h : KSt w W X D b d g) => show Calls Try.prog 66 #[.pointer (some ⟨X, 0, none⟩), .slice (some ⟨W.heap.size, 0, none⟩) 1 1] (byteW W n) fun e w' => e = .returned (.int .i64 (waitE d g 1 [x] : Nat)) ∧ KSt w w' X D b d (waitG d g 1 [x]) from
    k_append (h.later (byteW_below W n)) hok (some ⟨W.heap.size, 0, none⟩) [x] 1 (IsBytes.marked (by rw [← hx]; rfl)) (fun e => nomatch e) (by simp))
  have hch := Lib.hid (fun (W : World) X D b d g (n : Int) (x : UInt8) (hx : (x.toNat : Int) = n) (hok : LgOk g) (h : KSt w W X D b d g) => show Calls Try.prog 67 #[.pointer (some ⟨X, 0, none⟩), .slice (some ⟨W.heap.size, 0, none⟩) 1 1] (byteW W n) fun e w' => e = .returned (.int .i64 (waitE d g 2 [x] : Nat)) ∧ KSt w w' X D b d (waitG d g 2 [x]) from
    k_check (h.later (byteW_below W n)) hok (some ⟨W.heap.size, 0, none⟩) [x] 1 (IsBytes.marked (by rw [← hx]; rfl)) (fun e => nomatch e) (by simp))
  go_enter Try.func76, Try.ntmps76
  go_upto_region 5 with (first
    | (go_at_call 38; refine hnew.out.mono ?_; rintro e w1 ⟨D, b, rfl, hD, hlD, hlb, hB1⟩)
    | (go_at_call 74; refine (hop.out D b w1 hD hB1 hlD hlb).mono ?_; rintro e w2 ⟨X, rfl, hK2⟩))
  clear hop hnew hB1 hD
  go_upto_region 6 with (go_at_call 66; refine (hap.out w2 X D b (newD 16) kg0 97 97 rfl kok0 hK2).mono ?_; rintro e w3 ⟨rfl, hK3⟩; rw [(kw0 (newD 16) rfl).1]; rw [(kw0 (newD 16) rfl).2] at hK3)
  clear hK2
  go_upto_region 7 with (go_at_call 67; refine (hch.out w3 X D b (newD 16) kg0 97 97 rfl kok0 hK3).mono ?_; rintro e w4 ⟨rfl, hK4⟩; rw [(kw1 (newD 16) rfl).1]; rw [(kw1 (newD 16) rfl).2] at hK4)
  clear hK3
  obtain ⟨d1, hd1⟩ : ∃ d1, d1 = (putsD (newD 16, false) (catB kg1.waits)).1 := ⟨_, rfl⟩
  have hw0 : DevW (newD 16) (50 + (catB kg1.waits).length) := by
    rw [kcat1]
    exact ⟨⟨by decide, by decide, by decide, by decide⟩, by decide⟩
  have hs1 := Lib.hid (k_sync hK4 kok1 (by decide) rfl rfl rfl (hw0.mono (by omega)) kmay1 kb1)
  rw [← hd1, ks1] at hs1
  have hq1 := putsD_quiet (catB kg1.waits) (newD 16) rfl rfl (by decide) (fun y hy => seal_length y (kb1 y hy))
  have hw1 := putsD_devw (catB kg1.waits) (newD 16, false) 50 hw0
  have hb1 : d1.blocks = 16 := by rw [hd1, putsD_blocks]; rfl
  rw [← hd1] at hq1 hw1
  obtain ⟨_, hset1, hdn1⟩ := hq1
  clear hd1 hw0 hK4
  go_upto_region 8 with (go_at_call 68; refine hs1.out.mono ?_; rintro e w5 ⟨rfl, hK5⟩)
  clear hs1
  have HB1 := Lib.hid (And.intro hb1 (And.intro hset1 (And.intro hdn1 hw1)))
  clear hb1 hset1 hdn1 hw1
  go_upto_region 9 with (go_at_call 66; refine (hap.out w5 X D b d1 kg2 98 98 rfl kok2 hK5).mono ?_; rintro e w6 ⟨rfl, hK6⟩; rw [(kw3 d1 HB1.out.1).1]; rw [(kw3 d1 HB1.out.1).2] at hK6)
  clear hK5
  go_upto_region 10 with (go_at_call 69; refine (k_records hK6 kok3).mono ?_; rintro e w7 ⟨v7, rfl, hO7, hK7, hB7⟩; obtain ⟨a7, c7, rfl, _⟩ := hO7.slice)
  obtain ⟨ga, ab, cb, rfl, _, hgl, hk7, hb7⟩ := hO7.memAt 0 (by decide)
  have y2 : w7.cell? ⟨ga, 2, none⟩ = some (.slice ab 1 cb) := hk7 2 _ rfl
  have hcv : (convert 22 9 (.slice ab 1 cb)).run Try.prog w7 = .ok (.string ⟨#[97]⟩) w7 := conv_text (l := [97]) hb7.bytes rfl
  have hroom : roomI d1 kg3 = 14 := by unfold roomI; rw [HB1.out.1]; decide
  have HR := Lib.hid hroom
  clear hroom hK6 hk7 hb7 hB7 hO7
  go_upto_region 12 with (go_at_call 71; refine (k_room hK7 kok3).mono ?_; rintro e w8 ⟨rfl, hK8, hB8⟩; rw [HR.out])
  clear hK7 y2 hcv hB8
  go_upto_region 13 with (go_at_call 67; refine (hch.out w8 X D b d1 kg3 99 99 rfl kok3 hK8).mono ?_; rintro e w9 ⟨rfl, hK9⟩; rw [(kw4 d1 HB1.out.1).1]; rw [(kw4 d1 HB1.out.1).2] at hK9)
  clear hK8
  obtain ⟨hb1, hset1, hdn1, hw1⟩ := HB1.out
  obtain ⟨d2, hd2⟩ : ∃ d2, d2 = (putsD (d1, false) (catB kg4.waits)).1 := ⟨_, rfl⟩
  have hs2 := Lib.hid (k_sync hK9 kok4 (by rw [hb1]; decide) hset1 hdn1 rfl (hw1.mono (by rw [kcat4]; decide)) kmay4 kb4)
  rw [← hd2, ks4] at hs2
  have hb2 : d2.blocks = 16 := by rw [hd2, putsD_blocks]; exact hb1
  clear hd2 hK9 hb1 hset1 hdn1 hw1
  go_upto_region 14 with (go_at_call 68; refine hs2.out.mono ?_; rintro e w10 ⟨rfl, hK10⟩)
  clear hs2
  go_upto_region 15 with (go_at_call 69; refine (k_records hK10 kok5).mono ?_; rintro e w11 ⟨v11, rfl, hO11, hK11, hB11⟩; obtain ⟨a11, c11, rfl, _⟩ := hO11.slice)
  obtain ⟨gb, ab2, cb2, rfl, _, hgl2, hk11, hb11⟩ := hO11.memAt 0 (by decide)
  have y2 : w11.cell? ⟨gb, 2, none⟩ = some (.slice ab2 1 cb2) := hk11 2 _ rfl
  have hcv : (convert 22 9 (.slice ab2 1 cb2)).run Try.prog w11 = .ok (.string ⟨#[99]⟩) w11 := conv_text (l := [99]) hb11.bytes rfl
  clear hK10 hk11 hb11 hB11 hO11
  have hl5 : kg5.lasts.length = 1 := rfl
  have hful := Lib.hid (show ∀ W, KSt w W X D b d2 kg5 → Calls Try.prog 66 #[.pointer (some ⟨X, 0, none⟩), .slice (some ⟨W.heap.size, 0, none⟩) 700 700] (W.alloc (.cells (bvals z700).toArray 5)) fun e w' => e = .returned (.int .i64 10) ∧ Below w.heap.size w w' from fun W h => by
    have hb : Below W.heap.size W (W.alloc (.cells (bvals z700).toArray 5)) := (Below.refl _ W).alloc (Nat.le_refl _) _
    have hz : z700.length = 700 := by rw [z700_is, List.length_replicate]
    have hk := k_append (h.later hb) kok5 (some ⟨W.heap.size, 0, none⟩) z700 700 (IsBytes.made rfl) (fun e => nomatch e) (by rw [hz]; decide)
    rw [hz, kw5 d2 hb2 z700 hz] at hk
    refine hk.mono ?_
    rintro e w' ⟨he, v1, v2, _, _, hB, _⟩
    exact ⟨he, hB⟩)
  rw [hl5]
  clear hl5
  go_wp2_with (go_at_call 66; refine (hful.out w11 hK11).mono ?_; rintro e w12 ⟨rfl, hB12⟩)
  go_ret
  exact ⟨rfl, hB12⟩
end Go.Proofs.Ytdlbjllgdikadaa
