/-
  Mend of a disk with one strange file, walked: the file is gone. Conditions: the table of sums holds numbers.
-/
import Derived.Test.YtmboklllkdlmgaaGreatDoorW
namespace Go.Proofs.YtmboklllkdlmgaaGreatDoor
open Go.RowKit Go.MapKept
set_option maxRecDepth 100000
theorem find_cells {W : World} {b c : Nat} {A : Option Addr} (h : W.ownsRow b 66 3 (.slice A 1 c) 1 (finds 1)) : ∃ g, A = some ⟨g, 0, none⟩ ∧ b ≤ g ∧ W.cell? ⟨g, 0, none⟩ = some (.int .u8 1) ∧ W.cell? ⟨g, 1, none⟩ = some (.string ⟨#[120]⟩) ∧ W.cell? ⟨g, 2, none⟩ = some (.int .i64 0) := by
  rcases h.2 with ⟨e, _⟩ | ⟨g, cap, cur, e, hb, hg, h1, _, h3, h4⟩
  · injection e with _ e _
    omega
  · injection e with e _ _
    refine ⟨g, e, hb, ?_, ?_, ?_⟩
    all_goals
      rw [cell_of_heap hg]
      rw [← Array.getElem?_toList]
    · have := congrArg (fun l => l[0]?) h4
      simpa [finds] using this
    · have := congrArg (fun l => l[1]?) h4
      simpa [finds] using this
    · have := congrArg (fun l => l[2]?) h4
      simpa [finds] using this
set_option maxHeartbeats 400000 in
theorem index_x (w : World) (g : Nat) (h0 : w.cell? ⟨g, 0, none⟩ = some (.int .u8 1)) (h1 : w.cell? ⟨g, 1, none⟩ = some (.string ⟨#[120]⟩)) (h2 : w.cell? ⟨g, 2, none⟩ = some (.int .i64 0)) :
    Calls Tryz.prog 70 #[.slice (some ⟨g, 0, none⟩) 1 1, .func (.func 39) #[] #[]] w fun e w' => e = .returned (.int .i64 (-1)) ∧ Kp [] w w' := by
  go_enter Tryz.func70, Tryz.ntmps70
  go_wp2
  refine wp_loop_rounds 2 ?_
  rw [rounds_succ]
  go_wp2_with (go_at_call 39; go_in)
  rw [rounds_succ]
  go_wp2
  go_ret
  exact ⟨rfl, Kp.alloc _ _ _⟩
theorem containsF_x (w : World) (g : Nat) (h0 : w.cell? ⟨g, 0, none⟩ = some (.int .u8 1)) (h1 : w.cell? ⟨g, 1, none⟩ = some (.string ⟨#[120]⟩)) (h2 : w.cell? ⟨g, 2, none⟩ = some (.int .i64 0)) :
    Calls Tryz.prog 38 #[.slice (some ⟨g, 0, none⟩) 1 1, .func (.func 39) #[] #[]] w fun e w' => e = .returned (.bool false) ∧ Kp [] w w' := by
  have HI := Lib.hid (index_x w g h0 h1 h2)
  clear h0 h1 h2
  go_enter Tryz.func38, Tryz.ntmps38
  go_wp2_with fail
  refine HI.out.mono ?_
  rintro e w1 ⟨rfl, hk⟩
  go_wp2
  go_ret
  exact ⟨rfl, hk⟩
/-- Mend of a disk with one strange file: the file is gone. -/
theorem mend_x (w : World) (d m ck : Nat) (f : Fl) (h : Dk w d m ck [f] (-1) false) (hx : f.name = ⟨#[120]⟩) (ht : Tab w) :
    Calls Tryz.prog 8 #[.pointer (some ⟨d, 0, none⟩)] w fun e w' => e = .returned (.tuple #[.int .i64 1, .int .i64 0]) ∧ Dk w' d m ck [] (-1) false ∧ Kp [m] w w' := by
  have HL := Lib.hid (look_x w d m ck 1 [f] (-1) h (by simp [hx]) rfl (Nat.le_refl _) ht)
  have HX := Lib.hid hx
  have HH := Lib.hid h
  clear ht h hx
  go_enter Tryz.func8, Tryz.ntmps8
  go_wp2_with fail
  refine HL.out.mono ?_
  rintro e w1 ⟨A, rfl, ⟨c, hown⟩, hk1⟩
  obtain ⟨g, rfl, hg, g0, g1, g2⟩ := find_cells hown
  clear HL hown
  go_wp2
  have r2 := heap_new w1 (.cells #[.slice (some ⟨g, 0, none⟩) 1 1, .int .u64 0, .int .u8 0, .int .u64 0, .int .u64 0, .int .u64 0, .bool true] 36)
  have k2 := Kp.alloc [] w1 (.cells #[.slice (some ⟨g, 0, none⟩) 1 1, .int .u64 0, .int .u8 0, .int .u64 0, .int .u64 0, .int .u64 0, .bool true] 36)
  generalize w1.alloc (.cells #[.slice (some ⟨g, 0, none⟩) 1 1, .int .u64 0, .int .u8 0, .int .u64 0, .int .u64 0, .int .u64 0, .bool true] 36) = w2 at r2 k2 ⊢
  have hgl := World.block_lt_of_cell? _ _ g0
  have q0 := (k2.cell (p := ⟨g, 0, none⟩) hgl (by simp)).trans g0
  have q1 := (k2.cell (p := ⟨g, 1, none⟩) hgl (by simp)).trans g1
  have q2 := (k2.cell (p := ⟨g, 2, none⟩) hgl (by simp)).trans g2
  have hk12 := hk1.trans k2 (by simp)
  have hs01 := hk1.size
  have HK12 := Lib.hid hk12
  have HR2 := Lib.hid r2
  clear g0 g1 g2 k2 hk12 r2
  refine wp_loop_rounds 2 ?_
  rw [rounds_succ]
  go_wp2_with fail
  have k3 : Kp [] w2 (w2.alloc (.cells #[.int .u8 1, .string ⟨#[120]⟩, .int .i64 0] 66)) := Kp.alloc _ _ _
  have hml := lt_of_heap HH.out.hm
  have hgl2 := World.block_lt_of_cell? _ _ q0
  have hs1 := HK12.out.size
  have HM := Lib.hid (fun (W : World) (k : Kp [m] w2 W) => (⟨k.heap HR2.out (by simp; omega), k.cell (p := ⟨g, 0, none⟩) hgl2 (by simp; omega), k.cell (p := ⟨g, 1, none⟩) hgl2 (by simp; omega), k.cell (p := ⟨g, 2, none⟩) hgl2 (by simp; omega)⟩ : W.heap[w1.heap.size]? = _ ∧ _ ∧ _ ∧ _))
  refine (drop_x _ d m ck f (HH.out.keep0 (HK12.out.trans k3 (by simp))) HX.out).mono ?_
  rintro e w3 ⟨rfl, hd3, hk3⟩
  have hk23 := (k3.mono (T := [m]) (by simp)).trans hk3 (fun x hx => .inl hx)
  obtain ⟨r3, p0, p1, p2⟩ := HM.out w3 hk23
  have d0 : w3.cell? ⟨w1.heap.size, 0, none⟩ = some (.slice (some ⟨g, 0, none⟩) 1 1) := cell_of_heap r3 0
  have HP0 := Lib.hid (p0.trans q0)
  have HP1 := Lib.hid (p1.trans q1)
  have HP2 := Lib.hid (p2.trans q2)
  have HD3 := Lib.hid hd3
  have HK03 := Lib.hid ((HK12.out.mono (T := [m]) (by simp)).trans hk23 (fun x hx => .inl hx))
  clear k3 hd3 hk3 hk23 r3 p0 p1 p2 q0 q1 q2 HM
  go_wp2
  rw [rounds_succ]
  go_wp2_with fail
  refine (containsF_x w3 g HP0.out HP1.out HP2.out).mono ?_
  rintro e w4 ⟨rfl, hk4⟩
  have HK4 := Lib.hid hk4
  clear hk4 d0
  go_wp2
  go_ret2
  exact ⟨rfl, HD3.out.keep0 HK4.out, HK03.out.trans HK4.out (by simp)⟩
end Go.Proofs.YtmboklllkdlmgaaGreatDoor
