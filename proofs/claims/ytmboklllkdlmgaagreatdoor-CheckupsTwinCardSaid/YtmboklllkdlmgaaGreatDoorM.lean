/-
  logs.read of no bytes, walked. Conditions: none.
-/
import Derived.Test.YtmboklllkdlmgaaGreatDoorF
namespace Go.Proofs.YtmboklllkdlmgaaGreatDoor
open Go.RowKit Go.MapKept
set_option maxRecDepth 100000
theorem logsRead_nil (w : World) : Calls Tryz.prog 63 #[.slice none 0 0] w fun e w' => e = .returned (.tuple #[.agg #[.int .u64 0, .int .u64 0, .slice none 0 0], .bool false]) ∧ Kp [] w w' := by
  go_enter Tryz.func63, Tryz.ntmps63
  go_wp2_with fail
  refine (read_nil _).mono ?_
  rintro e w1 ⟨rfl, hk1⟩
  have hk0 : Kp [] w (w.alloc (.cells #[.int .u64 0, .int .u64 0, .slice none 0 0] 134)) := Kp.alloc [] w _
  have hk01 := hk0.trans hk1 (by simp)
  have g := hk1.heap (heap_new w (.cells #[.int .u64 0, .int .u64 0, .slice none 0 0] 134)) (by simp)
  have c0 : w1.cell? ⟨w.heap.size, 0, none⟩ = some (.int .u64 0) := cell_of_heap g 0
  have c1 : w1.cell? ⟨w.heap.size, 1, none⟩ = some (.int .u64 0) := cell_of_heap g 1
  have c2 : w1.cell? ⟨w.heap.size, 2, none⟩ = some (.slice none 0 0) := cell_of_heap g 2
  have f0 : w1.frozen? ⟨w.heap.size, 0, none⟩ = false := frozen_of_heap g 0
  have f1 : w1.frozen? ⟨w.heap.size, 1, none⟩ = false := frozen_of_heap g 1
  have f2 : w1.frozen? ⟨w.heap.size, 2, none⟩ = false := frozen_of_heap g 2
  have HG := Lib.hid g
  clear g
  go_wp2
  have g4 := heap_set (heap_set (heap_set HG.out 0 (.int .u64 0)) 1 (.int .u64 0)) 2 (.slice none 0 0)
  have k4 : Kp [] w (((w1.setCell ⟨w.heap.size, 0, none⟩ (.int .u64 0)).setCell ⟨w.heap.size, 1, none⟩ (.int .u64 0)).setCell ⟨w.heap.size, 2, none⟩ (.slice none 0 0)) :=
    ((hk01.trans (Kp.setCell (S := [w.heap.size]) _ _ (by simp) _) (by simp)).trans (Kp.setCell (S := [w.heap.size]) _ _ (by simp) _) (by simp)).trans (Kp.setCell (S := [w.heap.size]) _ _ (by simp) _) (by simp)
  generalize ((w1.setCell ⟨w.heap.size, 0, none⟩ (.int .u64 0)).setCell ⟨w.heap.size, 1, none⟩ (.int .u64 0)).setCell ⟨w.heap.size, 2, none⟩ (.slice none 0 0) = W4 at g4 k4 ⊢
  have d0 := cell_of_heap g4 0
  have d1 := cell_of_heap g4 1
  have d2 := cell_of_heap g4 2
  simp at d0 d1 d2
  exact bodyPost_ret (v := .tuple #[.agg #[.int .u64 0, .int .u64 0, .slice none 0 0], .bool false]) (by simp [results, Tryz.results63, go_sem, d0, d1, d2]) rfl ⟨rfl, k4⟩
end Go.Proofs.YtmboklllkdlmgaaGreatDoor
