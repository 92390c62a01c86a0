/- log: varvelaw22.known: a fixed run, walked; what it tells, in plain Lean. -/
import Derived.Test.YtdlbjllgdikadaaLogI
import Derived.Test.YtdlbjllgdikadaaLogJ
namespace Go.Proofs.Ytdlbjllgdikadaa
open Go.RowKit
set_option linter.unusedVariables false
set_option linter.unusedSimpArgs false

theorem putsD_quiet (l : List Blk) : ∀ d : Dev, d.set = false → d.down = false → 1 ≤ d.blocks → (∀ y ∈ l, (sealB y).length = 64) →
    (putsD (d, false) l).2 = false ∧ (putsD (d, false) l).1.set = false ∧ (putsD (d, false) l).1.down = false := by
  induction l with
  | nil => exact fun d h1 h2 _ _ => ⟨rfl, h1, h2⟩
  | cons y l ih =>
    intro d h1 h2 h3 h4
    have hP : y.serial % d.blocks < d.blocks := Nat.mod_lt _ h3
    have hm : mayE d ((y.serial % d.blocks : Nat) : Int) = 0 := by unfold mayE; rw [h2]; simp; omega
    have h64 := h4 y (List.mem_cons_self ..)
    have hE : writeE d ((y.serial % d.blocks : Nat) : Int) (sealB y) = 0 := by unfold writeE; rw [if_pos hm, if_pos h64, h1]; rfl
    obtain ⟨q1, q2⟩ := writeD_quiet h1 ((y.serial % d.blocks : Nat) : Int) (sealB y)
    have hp : putD (d, false) y = (writeD d ((y.serial % d.blocks : Nat) : Int) (sealB y), false) := by
      unfold putD
      rw [if_neg Bool.false_ne_true, hE]; rfl
    show (putsD (putD (d, false) y) l).2 = false ∧ _
    have : putsD (d, false) (y :: l) = putsD (putD (d, false) y) l := rfl
    rw [this, hp]
    exact ih _ q1 (by rw [q2]; exact h2) (by rw [writeD_blocks]; exact h3) (fun z hz => h4 z (List.mem_cons_of_mem _ hz))

theorem DevAt.waits {w w' : World} {X D b B : Nat} {d : Dev} {g : Lg} {v1 v2 : Value} (h : LogSt w B X D g v1 v2) (hD : DevAt w D b d) (k : Aside (X :: v2.ownBlock.toList) w w') : DevAt w' D b d := by
  have hDX : D ≠ X := fun e => by have h1 := hD.1; rw [e, h.at_] at h1; simp at h1
  have hbX : b ≠ X := fun e => by obtain ⟨_, ⟨M, ⟨es, cl, y2, _⟩, _⟩, _⟩ := hD; rw [e, h.at_] at y2; cases y2
  have hrow : ∀ q, v2.ownBlock = some q → D ≠ q ∧ b ≠ q := fun q e => by
    obtain ⟨cs, fz, z⟩ := h.o2.kind q e
    refine ⟨fun e2 => ?_, fun e2 => ?_⟩
    · have h1 := hD.1; rw [e2, z] at h1; simp at h1
    · obtain ⟨_, ⟨M, ⟨es, cl, y2, _⟩, _⟩, _⟩ := hD; rw [e2, z] at y2; cases y2
  refine hD.aside k (fun hm => ?_) (fun hm => ?_)
  · simp at hm
    rcases hm with e | e
    · exact hDX e
    · exact (hrow D e).1 rfl
  · simp at hm
    rcases hm with e | e
    · exact hbX e
    · exact (hrow b e).2 rfl

def kd0 : Dev := newD 16
def kg0 : Lg := openG 0 []
def kg1 : Lg := ⟨0, 0, [], [⟨2, 0, [97]⟩], 1, false⟩
def kg2 : Lg := ⟨0, 1, [⟨2, 0, [97]⟩], [], 0, false⟩
def kg3 : Lg := ⟨0, 1, [⟨2, 0, [97]⟩], [⟨1, 1, [98]⟩], 1, false⟩
def kg4 : Lg := ⟨0, 1, [⟨2, 0, [97]⟩], [⟨1, 1, [98]⟩, ⟨2, 2, [99]⟩], 2, false⟩
def kg5 : Lg := ⟨0, 3, [⟨2, 2, [99]⟩], [], 0, false⟩
theorem kw0 (d : Dev) (h : d.blocks = 16) : waitE d kg0 1 [97] = 16 ∧ waitG d kg0 1 [97] = kg0 := by
  have : waitE d kg0 1 [97] = 16 := by simp [waitE, stateB, kg0, openG]
  exact ⟨this, by unfold waitG; rw [this]; rfl⟩
theorem kw1 (d : Dev) (h : d.blocks = 16) : waitE d kg0 2 [97] = 0 ∧ waitG d kg0 2 [97] = kg1 := by
  have h2 : manyN 1 = 1 := by decide
  have : waitE d kg0 2 [97] = 0 := by simp [waitE, stateB, kg0, openG, fullB, roomL, baseOf, h, h2]
  exact ⟨this, by unfold waitG; rw [this]; rfl⟩
theorem kw3 (d : Dev) (h : d.blocks = 16) : waitE d kg2 1 [98] = 0 ∧ waitG d kg2 1 [98] = kg3 := by
  have h2 : manyN 1 = 1 := by decide
  have : waitE d kg2 1 [98] = 0 := by simp [waitE, stateB, kg2, fullB, roomL, h, h2]
  exact ⟨this, by unfold waitG; rw [this]; rfl⟩
theorem kw4 (d : Dev) (h : d.blocks = 16) : waitE d kg3 2 [99] = 0 ∧ waitG d kg3 2 [99] = kg4 := by
  have h2 : manyN 1 = 1 := by decide
  have : waitE d kg3 2 [99] = 0 := by simp [waitE, stateB, kg3, fullB, roomL, h, h2]
  exact ⟨this, by unfold waitG; rw [this]; rfl⟩
theorem kw5 (d : Dev) (h : d.blocks = 16) (l : List UInt8) (hl : l.length = 700) : waitE d kg5 1 l = 10 := by
  have h2 : manyN 700 = 15 := by decide
  simp [waitE, stateB, kg5, fullB, roomL, h, hl, h2]
theorem kok0 : LgOk kg0 := ⟨by decide, by decide, by decide, by decide, by decide, by decide, by decide⟩
theorem kok1 : LgOk kg1 := ⟨by decide, by decide, by decide, by decide, by decide, by decide, by decide⟩
theorem kok2 : LgOk kg2 := ⟨by decide, by decide, by decide, by decide, by decide, by decide, by decide⟩
theorem kok3 : LgOk kg3 := ⟨by decide, by decide, by decide, by decide, by decide, by decide, by decide⟩
theorem kok4 : LgOk kg4 := ⟨by decide, by decide, by decide, by decide, by decide, by decide, by decide⟩
theorem kok5 : LgOk kg5 := ⟨by decide, by decide, by decide, by decide, by decide, by decide, by decide⟩
theorem kmay1 : ∀ r ∈ kg1.waits, mayS r.kind r.from_ r.body = true := by decide
theorem kmay4 : ∀ r ∈ kg4.waits, mayS r.kind r.from_ r.body = true := by decide
theorem kcat1 : (catB kg1.waits).length = 1 := by decide
theorem kcat4 : (catB kg4.waits).length = 2 := by decide
theorem kb1 : ∀ y ∈ catB kg1.waits, y.body.length ≤ 48 := by decide
theorem kb4 : ∀ y ∈ catB kg4.waits, y.body.length ≤ 48 := by decide
theorem ks1 : syncG false kg1 = kg2 := by rfl
theorem ks4 : syncG false kg4 = kg5 := by rfl
end Go.Proofs.Ytdlbjllgdikadaa
