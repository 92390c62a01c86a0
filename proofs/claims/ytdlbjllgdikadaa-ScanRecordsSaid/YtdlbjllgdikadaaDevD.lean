/- device: New, Wipe, Copy. -/
import Derived.Test.YtdlbjllgdikadaaDevC
import Derived.Carry
namespace Go.Proofs.Ytdlbjllgdikadaa
open Go.RowKit

def newD (n : Nat) : Dev := ⟨n, false, false, 0, 0, fun _ => zero64⟩

theorem new_dev (n : Nat) (w : World) (h1 : 16 ≤ n) (h2 : n ≤ 16384) :
    Calls Try.prog 38 #[.int .i64 (n : Int)] w fun e w' => ∃ D b, e = .returned (.tuple #[.pointer (some ⟨D, 0, none⟩), .int .i64 0]) ∧ DevAt w' D b (newD n) ∧ w.heap.size ≤ D ∧ w.heap.size ≤ b ∧ Below w.heap.size w w' := by
  have hmm := @run_makeMap Try.prog
  have hD : DevAt ((w.alloc (.map #[] 0)).alloc (.cells ((newD n).cells w.heap.size) 130)) (w.heap.size + 1) w.heap.size (newD n) :=
    ⟨heap_alloc2_new _ _ _, ⟨_, (MapFn.made w .i64).later ((Below.refl _ _).alloc (Nat.le_refl _) _), fun i _ => ⟨rfl, rfl⟩⟩, h2⟩
  have hB : Below w.heap.size w ((w.alloc (.map #[] 0)).alloc (.cells ((newD n).cells w.heap.size) 130)) := ((Below.refl _ _).alloc (Nat.le_refl _) _).alloc (by simp) _
  go_enter Try.func38, Try.ntmps38
  go_wp2
  go_ret2
  exact ⟨w.heap.size + 1, w.heap.size, rfl, hD, by omega, Nat.le_refl _, hB⟩

theorem new_bad (n : Int) (w : World) (h : n < 16 ∨ 16384 < n) :
    Calls Try.prog 38 #[.int .i64 n] w fun e w' => e = .returned (.tuple #[.pointer none, .int .i64 2]) ∧ w = w' := by
  by_cases h1 : n < 16
  · go_enter Try.func38, Try.ntmps38
    go_wp2
    go_ret2
    exact ⟨rfl, rfl⟩
  · have h2 : 16384 < n := by omega
    go_enter Try.func38, Try.ntmps38
    go_wp2
    go_ret2
    exact ⟨rfl, rfl⟩

def wipeD (d : Dev) : Dev := { d with set := false, down := false, mem := fun _ => zero64 }

set_option maxRecDepth 100000 in
theorem wipe_dev (D b : Nat) (d : Dev) (w : World) (h : DevAt w D b d) :
    Calls Try.prog 51 #[.pointer (some ⟨D, 0, none⟩)] w fun e w' => e = .returned (.tuple #[]) ∧ DevAt w' D b (wipeD d) ∧ Aside [D, b] w w' := by
  have c1 := h.c1
  have hne := h.ne
  have hlt := h.lt
  obtain ⟨h1, ⟨M, h2, h3⟩, h4⟩ := h
  go_enter Try.func51, Try.ntmps51
  go_upto_region 2 with (refine wpList_clear_fn rfl (.tmp 7) rfl Try.underlying128 h2 rfl ?_; intro w2 hM2 hg2)
  have hD2 : DevAt w2 D b { d with mem := fun _ => zero64 } := ⟨(hg2.block D hlt (fun e => hne (by injection e))).trans h1, ⟨_, hM2, fun i _ => ⟨rfl, rfl⟩⟩, h4⟩
  have hA2 : Aside [D, b] w w2 := (Aside.refl _ w).put hg2 (fun k hk => .inr (by injection hk with hk; simp [← hk]))
  have c2 := hD2.c2
  have c3 := hD2.c3
  have f2 := hD2.free 2
  have f3 := hD2.free 3
  have hs := (hD2.stored (d' := { d with set := false, mem := fun _ => zero64 }) 2 (.bool false) rfl rfl rfl).stored (d' := wipeD d) 3 (.bool false) rfl rfl rfl
  have hA3 := (hA2.setCell ⟨D, 2, none⟩ (.bool false) (fun _ => by simp)).setCell ⟨D, 3, none⟩ (.bool false) (fun _ => by simp)
  go_wp2
  go_end0
  exact ⟨rfl, hs, hA3⟩

section
variable {P : Program} (w : World)
theorem run_typeAssert_map (t xT k e : TypeId) (v : Value) (h : P.underlying t = some (.map k e)) : (Instr.typeAssert (.iface t v) xT t false).run P w = .ok v w := by
  simp [Instr.typeAssert, run_underlying h, go_sem, Result.andThen]
theorem run_maps_clone {r : Nat} {es : Array MapEntry} {clock : Nat} (t : TypeId) (hb : w.heap[r]? = some (.map es clock)) :
    (Extern.MapsClone.clone #[.iface t (.map (some r))]).run P w = .ok (.iface t (.map (some w.heap.size))) (w.alloc (.map es clock)) := by
  have e : Extern.MapsClone.clone #[.iface t (.map (some r))] = (getObj r >>= fun o => match o with
      | .map entries clock => (newObj (.map entries clock) >>= fun n => pure (.iface t (.map (some n))))
      | _ => stuck "maps.clone: a map expected") := rfl
  rw [e]
  simp [MapKept.run_getObj_map hb, Result.andThen, go_sem]
end

set_option maxRecDepth 100000 in
set_option maxHeartbeats 1000000 in
theorem clone_map (b : Nat) (es : Array MapEntry) (clock : Nat) (w : World) (hb : w.heap[b]? = some (.map es clock)) :
    Calls Try.prog 92 #[.map (some b)] w fun e w' => e = .returned (.map (some w.heap.size)) ∧ w' = w.alloc (.map es clock) := by
  go_enter Try.func92, Try.ntmps92
  go_wp2
  rw [run_callFunc_extern Try.func109 (by kernel_rfl) (by kernel_rfl) (by kernel_rfl) (e := Extern.MapsClone.clone) (by kernel_rfl), run_maps_clone w 128 hb]
  simp only [Result.andThen]
  rw [Oper.upon_value]
  go_wp2
  rw [run_typeAssert_map _ 128 20 3 132 _ Try.underlying128]
  simp only [Result.andThen]
  rw [Oper.upon_value]
  go_wp2
  go_ret
  exact ⟨rfl, rfl⟩

theorem info130s : (Try.prog.info? 130).map (·.size) = some 6 := by kernel_rfl
theorem Dev.one (d : Dev) (b : Nat) : (d.cells b).all (·.oneCell') = true := by simp [Dev.cells, Value.oneCell']

set_option maxRecDepth 100000 in
theorem copy_dev (D b : Nat) (d : Dev) (w : World) (h : DevAt w D b d) :
    Calls Try.prog 53 #[.pointer (some ⟨D, 0, none⟩)] w fun e w' => ∃ D' b', e = .returned (.pointer (some ⟨D', 0, none⟩)) ∧ DevAt w' D' b' d ∧ w.heap.size ≤ D' ∧ w.heap.size ≤ b' ∧ Below w.heap.size w w' := by
  have c0 := h.c0
  have c1 := h.c1
  have c2 := h.c2
  have c3 := h.c3
  have c4 := h.c4
  have c5 := h.c5
  have hl := h.lt
  have hlb := h.ltb
  obtain ⟨h1, ⟨M, h2, h3⟩, h4⟩ := h
  obtain ⟨es, ck, hb, hM1, hM2⟩ := h2
  go_enter Try.func53, Try.ntmps53
  go_wp2_with (first
    | (refine wpList_store_row rfl 130 (.tmp 3) (.tmp 15) rfl w.heap.size (d.cells b) rfl rfl 130 #[.int .i64 0, .map none, .bool false, .bool false, .int .i64 0, .int .i64 0] (heap_alloc_new _ _) info130s rfl (Dev.one d b) ?_; obtain ⟨w2, hw2⟩ : ∃ w2, w2 = (w.alloc (.cells #[.int .i64 0, .map none, .bool false, .bool false, .int .i64 0, .int .i64 0] 130)).setRow w.heap.size (d.cells b) := ⟨_, rfl⟩; have hB2 : Below w.heap.size w w2 := (by rw [hw2]; exact ((Below.refl _ w).alloc (Nat.le_refl _) _).grown (grown_setRow _) (by simp) (fun k hk => by cases hk; exact Nat.le_refl _)); have hD2 : w2.heap[w.heap.size]? = some (.cells (d.cells b) 130 (0, 0)) := (by rw [hw2]; exact setRow_heap _ _ _ _ _ _ (heap_alloc_new _ _)); rw [← hw2]; clear hw2; have c1' : w2.cell? ⟨D, 1, none⟩ = some (.map (some b)) := (hB2.cell (p := ⟨D, 1, none⟩) hl).trans c1; have hb2 : w2.heap[b]? = some (.map es ck) := (hB2.block b hlb).trans hb; have hl2 := lt_of_block hD2)
    | (go_at_call 92; refine (clone_map b es ck _ hb2).mono ?_; rintro e w3 ⟨rfl, hw3⟩; have hB3 : Below w2.heap.size w2 w3 := (by rw [hw3]; exact (Below.refl _ _).alloc (Nat.le_refl _) _); have hD3 := (hB3.block w.heap.size hl2).trans hD2; have hM3 : w3.heap[w2.heap.size]? = some (.map es ck) := (by rw [hw3]; exact heap_alloc_new _ _); clear hw3; have k1 : w3.cell? ⟨w.heap.size, 1, none⟩ = some (.map (some b)) := cell_of_row _ _ _ _ _ _ hD3; have k2 := frozen_of_row w3 w.heap.size 1 _ _ hD3))
  have hne : w2.heap.size ≠ w.heap.size := by omega
  have hB0 := (below_call hB2 (Nat.le_refl _) hB3).setCell (p := ⟨w.heap.size, 1, none⟩) (Nat.le_refl _) (.map (some w2.heap.size))
  go_ret
  refine ⟨w.heap.size, w2.heap.size, rfl, ⟨?_, ⟨M, ⟨es, ck, (heap_setCell_other _ _ _ _ hne).trans hM3, hM1, hM2⟩, h3⟩, h4⟩, Nat.le_refl _, Nat.le_of_lt hl2, hB0⟩
  rw [heap_setCell_same _ _ _ _ _ _ hD3]
  rfl

end Go.Proofs.Ytdlbjllgdikadaa
