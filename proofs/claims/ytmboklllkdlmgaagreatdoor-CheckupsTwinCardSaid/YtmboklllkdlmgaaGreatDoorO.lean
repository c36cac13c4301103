/-
  states.Open, shots.Open of a disk without them; a fresh log, album and promise read, walked. Conditions: as each states.
-/
import Derived.Test.YtmboklllkdlmgaaGreatDoorN
import Derived.Deep.QuietTactic
import Derived.BigQuiet
namespace Go.Proofs.YtmboklllkdlmgaaGreatDoor
open Go.RowKit Go.MapKept
set_option maxRecDepth 100000
theorem statesOpen_new (w : World) (d m ck : Nat) (fs : List Fl) (h : Dk w d m ck fs (-1) false) (hn : named fs ⟨#[115, 116, 97, 116, 101]⟩ = none) :
    Calls Tryz.prog 25 #[.pointer (some ⟨d, 0, none⟩)] w fun e w' => e = .returned (.tuple #[.pointer (some ⟨w.heap.size, 0, none⟩), .int .i64 0]) ∧
      w.alloc (.cells #[.int .u64 0, .int .u8 0, .pointer (some ⟨d, 0, none⟩), .bool false] 125) = w' := by
  have HR := Lib.hid (read_none w d m ck fs (-1) h ⟨#[115, 116, 97, 116, 101]⟩ (notEmpty (by decide)) (by decide) hn)
  clear hn
  go_enter Tryz.func25, Tryz.ntmps25
  go_wp2_with fail
  refine HR.out.mono ?_
  rintro e w' ⟨rfl, rfl⟩
  go_wp2
  go_ret2
  exact ⟨rfl, rfl⟩
theorem shotsOpen_new (w : World) (d m ck : Nat) (fs : List Fl) (h : Dk w d m ck fs (-1) false) (hn : named fs ⟨#[115, 104, 111, 116]⟩ = none) :
    Calls Tryz.prog 28 #[.pointer (some ⟨d, 0, none⟩)] w fun e w' => e = .returned (.tuple #[.pointer (some ⟨w.heap.size, 0, none⟩), .int .i64 0]) ∧
      w.alloc (.cells #[.int .u64 0, .int .u64 0, .slice none 0 0, .pointer (some ⟨d, 0, none⟩), .bool false] 127) = w' := by
  have HR := Lib.hid (read_none w d m ck fs (-1) h ⟨#[115, 104, 111, 116]⟩ (notEmpty (by decide)) (by decide) hn)
  clear hn
  go_enter Tryz.func28, Tryz.ntmps28
  go_wp2_with fail
  refine HR.out.mono ?_
  rintro e w' ⟨rfl, rfl⟩
  go_wp2
  go_ret2
  exact ⟨rfl, rfl⟩
theorem term_new (w : World) (p : Nat) (v x y : Value) (h : w.heap[p]? = some (.cells #[.int .u64 0, v, x, y] 125 (0, 0))) : Calls Tryz.prog 26 #[.pointer (some ⟨p, 0, none⟩)] w fun e w' => e = .returned (.int .u64 0) ∧ w = w' := by
  have c0 : w.cell? ⟨p, 0, none⟩ = some (.int .u64 0) := cell_of_heap h 0
  clear h
  go_enter Tryz.func26, Tryz.ntmps26
  go_wp2
  go_ret
  exact ⟨rfl, rfl⟩
theorem vote_new (w : World) (p : Nat) (v x y : Value) (h : w.heap[p]? = some (.cells #[v, .int .u8 0, x, y] 125 (0, 0))) : Calls Tryz.prog 27 #[.pointer (some ⟨p, 0, none⟩)] w fun e w' => e = .returned (.int .u8 0) ∧ w = w' := by
  have c0 : w.cell? ⟨p, 1, none⟩ = some (.int .u8 0) := cell_of_heap h 1
  clear h
  go_enter Tryz.func27, Tryz.ntmps27
  go_wp2
  go_ret
  exact ⟨rfl, rfl⟩
theorem clone_nil (w : World) : Calls Tryz.prog 44 #[.slice none 0 0] w fun e w' => e = .returned (.slice none 0 0) ∧ w = w' := by
  go_enter Tryz.func44, Tryz.ntmps44
  go_wp2
  go_ret
  exact ⟨rfl, rfl⟩
theorem own_nil (w : World) : Calls Tryz.prog 62 #[.agg #[.int .u64 0, .int .u64 0, .slice none 0 0]] w fun e w' => e = .returned (.agg #[.int .u64 0, .int .u64 0, .slice none 0 0]) ∧ Kp [] w w' := by
  go_enter Tryz.func62, Tryz.ntmps62
  go_wp2_with (first | (go_at_call 44; refine (clone_nil _).mono ?_; rintro e w' ⟨rfl, rfl⟩) | (go_at_call 55; refine (clip22 _ none 0 0 (Nat.le_refl _)).mono ?_; rintro e w' ⟨rfl, rfl⟩))
  exact bodyPost_ret (v := .agg #[.int .u64 0, .int .u64 0, .slice none 0 0]) (by simp [results, Tryz.results62, go_sem]) rfl ⟨rfl, (Kp.alloc [] w _).trans (Kp.alloc [] _ _) (by simp)⟩
theorem albumShot_new (w : World) (ab : Nat) (x y : Value) (h : w.heap[ab]? = some (.cells #[.int .u64 0, .int .u64 0, .slice none 0 0, x, y] 127 (0, 0))) :
    Calls Tryz.prog 29 #[.pointer (some ⟨ab, 0, none⟩)] w fun e w' => e = .returned (.agg #[.int .u64 0, .int .u64 0, .slice none 0 0]) ∧ Kp [] w w' := by
  have c0 : w.cell? ⟨ab, 0, none⟩ = some (.int .u64 0) := cell_of_heap h 0
  have c1 : w.cell? ⟨ab, 1, none⟩ = some (.int .u64 0) := cell_of_heap h 1
  have c2 : w.cell? ⟨ab, 2, none⟩ = some (.slice none 0 0) := cell_of_heap h 2
  have hlt := lt_of_heap h
  clear h
  go_enter Tryz.func29, Tryz.ntmps29
  go_wp2_with fail
  refine (own_nil _).mono ?_
  rintro e w1 ⟨rfl, hk1⟩
  have g1 := hk1.heap (heap_new w (.cells #[.int .u64 0, .int .u64 0, .slice none 0 0] 77)) (by simp)
  have hkw := (Kp.alloc [] w (.cells #[.int .u64 0, .int .u64 0, .slice none 0 0] 77)).trans hk1 (by simp)
  have d0 : w1.cell? ⟨w.heap.size, 0, none⟩ = some (.int .u64 0) := cell_of_heap g1 0
  have d1 : w1.cell? ⟨w.heap.size, 1, none⟩ = some (.int .u64 0) := cell_of_heap g1 1
  have d2 : w1.cell? ⟨w.heap.size, 2, none⟩ = some (.slice none 0 0) := cell_of_heap g1 2
  have f0 : w1.frozen? ⟨w.heap.size, 0, none⟩ = false := frozen_of_heap g1 0
  have f1 : w1.frozen? ⟨w.heap.size, 1, none⟩ = false := frozen_of_heap g1 1
  have f2 : w1.frozen? ⟨w.heap.size, 2, none⟩ = false := frozen_of_heap g1 2
  have HG := Lib.hid g1
  clear g1
  go_wp2
  have g4 := heap_set (heap_set (heap_set HG.out 0 (.int .u64 0)) 1 (.int .u64 0)) 2 (.slice none 0 0)
  have k4 : Kp [] w (((w1.setCell ⟨w.heap.size, 0, none⟩ (.int .u64 0)).setCell ⟨w.heap.size, 1, none⟩ (.int .u64 0)).setCell ⟨w.heap.size, 2, none⟩ (.slice none 0 0)) :=
    ((hkw.trans (Kp.setCell (S := [w.heap.size]) _ _ (by simp) _) (by simp)).trans (Kp.setCell (S := [w.heap.size]) _ _ (by simp) _) (by simp)).trans (Kp.setCell (S := [w.heap.size]) _ _ (by simp) _) (by simp)
  generalize ((w1.setCell ⟨w.heap.size, 0, none⟩ (.int .u64 0)).setCell ⟨w.heap.size, 1, none⟩ (.int .u64 0)).setCell ⟨w.heap.size, 2, none⟩ (.slice none 0 0) = W4 at g4 k4 ⊢
  have e0 := cell_of_heap g4 0
  have e1 := cell_of_heap g4 1
  have e2 := cell_of_heap g4 2
  simp at e0 e1 e2
  exact bodyPost_ret (v := .agg #[.int .u64 0, .int .u64 0, .slice none 0 0]) (by simp [results, Tryz.results29, go_sem, e0, e1, e2]) rfl ⟨rfl, k4⟩
theorem picture_new (w : World) (nb ab : Nat) (hp : w.cell? ⟨nb, 3, none⟩ = some (.pointer (some ⟨ab, 0, none⟩))) (x y : Value) (h : w.heap[ab]? = some (.cells #[.int .u64 0, .int .u64 0, .slice none 0 0, x, y] 127 (0, 0))) :
    Calls Tryz.prog 146 #[.pointer (some ⟨nb, 0, none⟩)] w fun e w' => e = .returned (.agg #[.int .u64 0, .int .u64 0, .slice none 0 0]) ∧ Kp [] w w' := by
  have hnl := World.block_lt_of_cell? _ _ hp
  have H := Lib.hid (albumShot_new (w.alloc (.cells #[.int .u64 0, .int .u64 0, .slice none 0 0] 77)) ab x y (heap_old _ h))
  clear h
  go_enter Tryz.func146, Tryz.ntmps146
  go_wp2_with fail
  refine H.out.mono ?_
  rintro e w1 ⟨rfl, hk1⟩
  have g1 := hk1.heap (heap_new w (.cells #[.int .u64 0, .int .u64 0, .slice none 0 0] 77)) (by simp)
  have hkw := (Kp.alloc [] w (.cells #[.int .u64 0, .int .u64 0, .slice none 0 0] 77)).trans hk1 (by simp)
  have d0 : w1.cell? ⟨w.heap.size, 0, none⟩ = some (.int .u64 0) := cell_of_heap g1 0
  have d1 : w1.cell? ⟨w.heap.size, 1, none⟩ = some (.int .u64 0) := cell_of_heap g1 1
  have d2 : w1.cell? ⟨w.heap.size, 2, none⟩ = some (.slice none 0 0) := cell_of_heap g1 2
  have f0 : w1.frozen? ⟨w.heap.size, 0, none⟩ = false := frozen_of_heap g1 0
  have f1 : w1.frozen? ⟨w.heap.size, 1, none⟩ = false := frozen_of_heap g1 1
  have f2 : w1.frozen? ⟨w.heap.size, 2, none⟩ = false := frozen_of_heap g1 2
  have HG := Lib.hid g1
  clear g1
  go_wp2
  have g4 := heap_set (heap_set (heap_set HG.out 0 (.int .u64 0)) 1 (.int .u64 0)) 2 (.slice none 0 0)
  have k4 : Kp [] w (((w1.setCell ⟨w.heap.size, 0, none⟩ (.int .u64 0)).setCell ⟨w.heap.size, 1, none⟩ (.int .u64 0)).setCell ⟨w.heap.size, 2, none⟩ (.slice none 0 0)) :=
    ((hkw.trans (Kp.setCell (S := [w.heap.size]) _ _ (by simp) _) (by simp)).trans (Kp.setCell (S := [w.heap.size]) _ _ (by simp) _) (by simp)).trans (Kp.setCell (S := [w.heap.size]) _ _ (by simp) _) (by simp)
  generalize ((w1.setCell ⟨w.heap.size, 0, none⟩ (.int .u64 0)).setCell ⟨w.heap.size, 1, none⟩ (.int .u64 0)).setCell ⟨w.heap.size, 2, none⟩ (.slice none 0 0) = W4 at g4 k4 ⊢
  have e0 := cell_of_heap g4 0
  have e1 := cell_of_heap g4 1
  have e2 := cell_of_heap g4 2
  simp at e0 e1 e2
  exact bodyPost_ret (v := .agg #[.int .u64 0, .int .u64 0, .slice none 0 0]) (by simp [results, Tryz.results146, go_sem, e0, e1, e2]) rfl ⟨rfl, k4⟩
/-- An empty log in memory. -/
def LogAt (w : World) (lb d : Nat) : Prop := w.heap[lb]? = some (.cells #[.int .u64 0, .int .u64 0, .slice none 0 0, .pointer (some ⟨d, 0, none⟩), .int .i64 7, .bool false] 138 (0, 0))
theorem base_new (w : World) (lb d : Nat) (h : LogAt w lb d) : Calls Tryz.prog 31 #[.pointer (some ⟨lb, 0, none⟩)] w fun e w' => e = .returned (.tuple #[.int .u64 0, .int .u64 0]) ∧ Kp [] w w' := by
  have c0 : w.cell? ⟨lb, 0, none⟩ = some (.int .u64 0) := cell_of_heap h 0
  have c1 : w.cell? ⟨lb, 1, none⟩ = some (.int .u64 0) := cell_of_heap h 1
  clear h
  go_enter Tryz.func31, Tryz.ntmps31
  go_wp2
  go_quiet (fail)
  go_wp2
  go_ret2
  exact ⟨rfl, Kp.drewN [] w _⟩
theorem cTerm_new (w : World) (lb d : Nat) (h : LogAt w lb d) : Calls Tryz.prog 93 #[.pointer (some ⟨lb, 0, none⟩), .int .u64 0] w fun e w' => e = .returned (.tuple #[.int .u64 0, .bool true]) ∧ w = w' := by
  have c0 : w.cell? ⟨lb, 0, none⟩ = some (.int .u64 0) := cell_of_heap h 0
  have c1 : w.cell? ⟨lb, 1, none⟩ = some (.int .u64 0) := cell_of_heap h 1
  clear h
  go_enter Tryz.func93, Tryz.ntmps93
  go_wp2
  go_ret2
  exact ⟨rfl, rfl⟩
theorem cEnd_new (w : World) (lb d : Nat) (h : LogAt w lb d) : Calls Tryz.prog 65 #[.pointer (some ⟨lb, 0, none⟩)] w fun e w' => e = .returned (.agg #[.int .u64 0, .int .u64 0]) ∧ w.alloc (.cells #[.int .u64 0, .int .u64 0] 131) = w' := by
  have c0 : w.cell? ⟨lb, 0, none⟩ = some (.int .u64 0) := cell_of_heap h 0
  have c1 : w.cell? ⟨lb, 1, none⟩ = some (.int .u64 0) := cell_of_heap h 1
  have c2 : w.cell? ⟨lb, 2, none⟩ = some (.slice none 0 0) := cell_of_heap h 2
  have hlt := lt_of_heap h
  clear h
  go_enter Tryz.func65, Tryz.ntmps65
  go_wp2
  exact bodyPost_ret (v := .agg #[.int .u64 0, .int .u64 0]) (by simp [results, Tryz.results65, go_sem]) rfl ⟨rfl, rfl⟩
theorem logTerm_new (w : World) (lb d : Nat) (h : LogAt w lb d) : Calls Tryz.prog 67 #[.pointer (some ⟨lb, 0, none⟩), .int .u64 0] w fun e w' => e = .returned (.tuple #[.int .u64 0, .bool true]) ∧ w = w' := by
  have c0 : w.cell? ⟨lb, 0, none⟩ = some (.int .u64 0) := cell_of_heap h 0
  have c3 : w.cell? ⟨lb, 3, none⟩ = some (.pointer (some ⟨d, 0, none⟩)) := cell_of_heap h 3
  have HT := Lib.hid (cTerm_new w lb d h)
  clear h
  go_enter Tryz.func67, Tryz.ntmps67
  go_wp2_with (go_at_call 93; refine HT.out.mono ?_; rintro e w' ⟨rfl, rfl⟩)
  go_ret2
  exact ⟨rfl, rfl⟩
theorem end_new (w : World) (lb d : Nat) (h : LogAt w lb d) : Calls Tryz.prog 32 #[.pointer (some ⟨lb, 0, none⟩)] w fun e w' => e = .returned (.tuple #[.int .u64 0, .int .u64 0]) ∧ Kp [] w w' := by
  have hlt := lt_of_heap h
  have HT := Lib.hid (cEnd_new w lb d h)
  clear h
  go_enter Tryz.func32, Tryz.ntmps32
  go_wp2_with (go_at_call 65; refine HT.out.mono ?_; rintro e w' ⟨rfl, rfl⟩)
  go_quiet (fail)
  go_wp2
  go_ret2
  exact ⟨rfl, ((Kp.alloc [] w _).trans (Kp.alloc [] _ _) (by simp)).trans (Kp.drewN [] _ _) (by simp)⟩
end Go.Proofs.YtmboklllkdlmgaaGreatDoor
