/-
  frames.Read of no bytes: a range over a function that calls nothing back. Conditions: none.
-/
import Derived.Test.YtmboklllkdlmgaaGreatDoorE
import Derived.RangeFuncNested
import Derived.RangeFuncBound
import Derived.RangeFuncCalls
import Derived.RangeFuncLeaves
import Derived.Shelf.Abstract
import Derived.Shelf.RegionOpen
import Derived.WalkKit
import Derived.OwnWalkIn
import Derived.TacticsInMore
import Derived.LoopNIn
import Derived.LoopIn
namespace Go.Proofs.YtmboklllkdlmgaaGreatDoor
open Go.RowKit Go.MapKept Go.Shelf
set_option maxRecDepth 100000
theorem clip115 (w : World) (A : Option Addr) (n c : Nat) (hc : n ≤ c) :
    Calls Tryz.prog 84 #[.slice A n c] w fun e w' => e = .returned (.slice A n n) ∧ w = w' := by
  go_enter Tryz.func84, Tryz.ntmps84
  go_wp2
  go_ret
  exact ⟨rfl, rfl⟩
theorem frames1_nil (w : World) (y : Value) (bx : Nat) (B : w.heap[bx]? = some (.cells #[.slice none 0 0] 22 (0, 0))) :
    Calls Tryz.prog 109 #[y, .pointer (some ⟨bx, 0, none⟩)] w fun e w' => e = .returned (.tuple #[]) ∧ w = w' := by
  have b0 : w.cell? ⟨bx, 0, none⟩ = some (.slice none 0 0) := cell_of_heap B 0
  clear B
  go_enter Tryz.func109, Tryz.ntmps109
  go_wp2
  refine wp_loop_rounds 1 ?_
  rw [rounds_succ]
  go_wp2_with (go_at_call 59; refine (get_nil _).mono ?_; rintro e w' ⟨rfl, rfl⟩)
  refine bodyPost_ret (results_none rfl _ _ _) rfl ?_
  exact ⟨rfl, rfl⟩
theorem frames_any (w : World) (v : Value) (A : Option Addr) (n c : Nat) (hv : v = .slice A n c) : Calls Tryz.prog 83 #[v] w fun e w' => e = .returned (.func (.func 109) #[] #[.pointer (some ⟨w.heap.size, 0, none⟩)]) ∧ w.alloc (.cells #[v] 22) = w' := by
  subst hv
  go_enter Tryz.func83, Tryz.ntmps83
  go_wp2
  go_ret
  exact ⟨rfl, rfl⟩

/-- A range over the frames of no bytes: the closure is called once, calls nothing back, and leaves the world. -/
theorem rangeFunc_idle {n : Nat} {g : Operand} {ps : Array Tmp} {assign body : Code} {Q : Exit → Act → World → Prop} {a : Act} {w : World} (bx : Nat) (hg : a.eval g = .func (.func 109) #[] #[.pointer (some ⟨bx, 0, none⟩)])
    (hb : w.heap[bx]? = some (.cells #[.slice none 0 0] 22 (0, 0)))
    (hQ : ∀ W', Kp [] w W' → W'.heap[w.heap.size]? = some (.deferred (some [])) → Q .normal { a with defers := [{ target := .collected w.heap.size, args := #[] }] ++ a.defers } W') :
    (Code.rangeFunc g ps assign body).wpIn Fence.wide n Tryz.prog Q a w := by
  refine wpIn_rangeFunc ?_
  intro fn _
  have hen := run_enterLoop_outer (P := Tryz.prog) (w := w) fn a.tmps ps assign body
  generalize hr : ({ state := .ready, pending := none, fn, tmps := a.tmps, params := ps, assign, body, defers := w.heap.size } : Loop) = r at hen
  have hst : r.state = .ready := by rw [← hr]
  have hpe : r.pending = none := by rw [← hr]
  clear hr
  have hk1 : Kp [] w ((w.alloc (.deferred (some []))).alloc (.loop r)) := (Kp.alloc [] w _).trans (Kp.alloc [] _ _) (by simp)
  have hl1 : ((w.alloc (.deferred (some []))).alloc (.loop r)).heap[w.heap.size + 1]? = some (.loop r) := heap_new_at _ _ (by simp)
  have hd1 : ((w.alloc (.deferred (some []))).alloc (.loop r)).heap[w.heap.size]? = some (.deferred (some [])) := heap_old _ (heap_new w _)
  generalize (w.alloc (.deferred (some []))).alloc (.loop r) = W1 at hen hk1 hl1 hd1
  refine ⟨w.heap.size + 1, _, W1, { target := .fn (.func 109) #[.pointer (some ⟨bx, 0, none⟩)], args := #[.func (.yield (w.heap.size + 1)) #[] #[]] }, W1, 109, #[.func (.yield (w.heap.size + 1)) #[] #[], .pointer (some ⟨bx, 0, none⟩)], W1, hen, ?_, ?_, ?_, fun h => by simp [Fence.wide] at h, ?_⟩
  · unfold resolve rangeCall
    simp only [hg]
    simp [Deferred.ofValue, go_sem]
  · intro f' _; trivial
  · simp [invoke, go_sem]
  · refine (callsIn_wide.2 (frames1_nil W1 _ bx (hk1.heap hb (by simp)))).mono ?_
    rintro e w' ⟨rfl, rfl⟩
    have hend := run_endLoop (P := Tryz.prog) hl1 (by rw [hst]; simp)
    rw [hpe] at hend
    refine ⟨none, _, hend, hQ _ (hk1.trans (Kp.putObj (S := [w.heap.size + 1]) W1 _ _ (by simp)) (by simp)) ?_⟩
    exact heap_put_far hd1 (by omega) _
attribute [local go_sem] Oper.semAt_some
set_option maxHeartbeats 1000000 in
theorem read_nil_in (w : World) : CallsIn Fence.wide 9 Tryz.prog 58 #[.slice none 0 0] w fun e w' => e = .returned (.tuple #[.slice none 0 0, .int .i64 0]) ∧ Kp [] w w' := by
  refine callsIn_of_wp_marks Tryz.func58 rfl trivial ?_ rfl
  simp only [Tryz.ntmps58, List.size_toArray, List.length_cons, List.length_nil, Nat.reduceAdd, Nat.reduceSub, Array.replicate_succ, Array.replicate_zero, List.push_toArray, List.append_toArray, List.nil_append, List.cons_append]
  gi_wp2
  refine ⟨trivial, ?_⟩
  refine (callsIn_wide.2 (frames_any _ _ none 0 0 rfl)).mono ?_
  rintro e w' ⟨rfl, rfl⟩
  gi_wp2
  obtain ⟨W0, hW0⟩ : ∃ W0, (((w.alloc (.cells #[.slice none 0 0] 115)).alloc (.cells #[.int .i64 0] 3)).alloc (.cells #[.slice none 0 0] 22)) = W0 := ⟨_, rfl⟩
  have hk0 : Kp [] w W0 := by rw [← hW0]; exact ((Kp.alloc [] w _).trans (Kp.alloc [] _ _) (by simp)).trans (Kp.alloc [] _ _) (by simp)
  have g2 : W0.heap[w.heap.size]? = some (.cells #[.slice none 0 0] 115) := by rw [← hW0]; exact heap_old _ (heap_old _ (heap_new w _))
  have g3 : W0.heap[w.heap.size + 1]? = some (.cells #[.int .i64 0] 3) := by rw [← hW0]; exact heap_old _ (heap_new_at _ _ (by simp))
  have gb : W0.heap[w.heap.size + 1 + 1]? = some (.cells #[.slice none 0 0] 22) := by rw [← hW0]; exact heap_new_at _ _ (by simp)
  rw [hW0]
  clear hW0
  refine rangeFunc_idle (w.heap.size + 1 + 1) rfl gb ?_
  intro W' hk' hd'
  have c2 : W'.cell? ⟨w.heap.size, 0, none⟩ = some (.slice none 0 0) := cell_of_heap (hk'.heap g2 (by simp)) 0
  have c3 : W'.cell? ⟨w.heap.size + 1, 0, none⟩ = some (.int .i64 0) := cell_of_heap (hk'.heap g3 (by simp)) 0
  have f2 : W'.frozen? ⟨w.heap.size, 0, none⟩ = false := frozen_of_heap (hk'.heap g2 (by simp)) 0
  have f3 : W'.frozen? ⟨w.heap.size + 1, 0, none⟩ = false := frozen_of_heap (hk'.heap g3 (by simp)) 0
  have hmix : Tryz.prog.follows .mixedOrders = true := by kernel_rfl
  gi_wp2
  gi_region_with_o (refine ⟨trivial, ?_⟩; gi_at_call 84; refine (callsIn_wide.2 (clip115 _ none 0 0 (Nat.le_refl _))).mono ?_; rintro e w' ⟨rfl, rfl⟩)
  all_goals gi_wp2
  all_goals
    have h0 := lt_of_heap g2
    have h1 := lt_of_heap g3
    have q2 := heap_put_far (heap_far (p := ⟨w.heap.size + 1, 0, none⟩) (heap_set (hk'.heap g2 (by simp)) 0 (.slice none 0 0)) (by simp) (.int .i64 0)) (r := W0.heap.size) (by omega) (.deferred none)
    have q3 := heap_put_far (heap_set (heap_far (p := ⟨w.heap.size, 0, none⟩) (hk'.heap g3 (by simp)) (by simp) (.slice none 0 0)) 0 (.int .i64 0)) (r := W0.heap.size) (by omega) (.deferred none)
    have qd := heap_far (p := ⟨w.heap.size + 1, 0, none⟩) (heap_far (p := ⟨w.heap.size, 0, none⟩) hd' (by simp; omega) (.slice none 0 0)) (by simp; omega) (.int .i64 0)
    refine ⟨by simp, .inl ⟨_, _, rfl, run_takeDeferred qd, ?_⟩⟩
    have hkw : Kp [] w ((((W'.setCell ⟨w.heap.size, 0, none⟩ (.slice none 0 0)).setCell ⟨w.heap.size + 1, 0, none⟩ (.int .i64 0)).drew).putObj W0.heap.size (.deferred none)) :=
      ((((hk0.trans hk' (by simp)).trans (Kp.setCell (S := [w.heap.size]) W' ⟨w.heap.size, 0, none⟩ (by simp) _) (by simp)).trans (Kp.setCell (S := [w.heap.size + 1]) _ ⟨w.heap.size + 1, 0, none⟩ (by simp) _) (by simp)).trans (Kp.drew [] _) (by simp)).trans (Kp.putObj (S := [W0.heap.size]) _ _ _ (by simp)) (by simp; omega)
    replace q2 : ((((W'.setCell ⟨w.heap.size, 0, none⟩ (.slice none 0 0)).setCell ⟨w.heap.size + 1, 0, none⟩ (.int .i64 0)).drew).putObj W0.heap.size (.deferred none)).heap[w.heap.size]? = _ := q2
    replace q3 : ((((W'.setCell ⟨w.heap.size, 0, none⟩ (.slice none 0 0)).setCell ⟨w.heap.size + 1, 0, none⟩ (.int .i64 0)).drew).putObj W0.heap.size (.deferred none)).heap[w.heap.size + 1]? = _ := q3
    generalize (((W'.setCell ⟨w.heap.size, 0, none⟩ (.slice none 0 0)).setCell ⟨w.heap.size + 1, 0, none⟩ (.int .i64 0)).drew).putObj W0.heap.size (.deferred none) = W4 at hkw q2 q3 ⊢
    have p2 := cell_of_heap q2 0
    have p3 := cell_of_heap q3 0
    simp at p2 p3
    exact ⟨_, by simp [results, Tryz.results58, go_sem, p2, p3], rfl, hkw⟩
theorem read_nil (w : World) : Calls Tryz.prog 58 #[.slice none 0 0] w fun e w' => e = .returned (.tuple #[.slice none 0 0, .int .i64 0]) ∧ Kp [] w w' := callsIn_wide.1 (read_nil_in w)
end Go.Proofs.YtmboklllkdlmgaaGreatDoor
