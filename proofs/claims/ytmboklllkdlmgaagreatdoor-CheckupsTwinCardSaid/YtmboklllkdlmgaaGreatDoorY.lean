/-
  The chapter's example, walked: it holds. Conditions: the table of sums holds numbers.
-/
import Derived.Test.YtmboklllkdlmgaaGreatDoorX
namespace Go.Proofs.YtmboklllkdlmgaaGreatDoor
open Go.RowKit Go.MapKept
set_option maxRecDepth 100000
@[go_sem] theorem eql66 (w : World) : (binOp .eql 66 (.agg #[.int .u8 1, .string ⟨#[120]⟩, .int .i64 0]) (.agg #[.int .u8 1, .string ⟨#[120]⟩, .int .i64 0])).run Tryz.prog w = .ok (.bool true) w := by kernel_rfl
theorem new_dk (w : World) : Dk ((w.alloc (.map #[] 0)).alloc (.cells #[.map (some w.heap.size), .int .i64 (-1), .bool false] 30)) (w.heap.size + 1) w.heap.size 0 [] (-1) false :=
  ⟨heap_new_at _ _ (by simp), heap_old _ (heap_new _ _), by simp, by simp, by simp, by simp, by simp, by simp⟩
set_option maxHeartbeats 400000 in
theorem lives_any (w : World) (ht : Tab w) : Calls Tryz.prog 6 #[] w fun e w' => e = .returned (.bool true) ∧ Kp [] w w' := by
  have HT := Lib.hid ht
  clear ht
  go_enter Tryz.func6, Tryz.ntmps6
  go_wp2_with fail
  refine (new_any w).mono ?_
  rintro e w1 ⟨rfl, hw1⟩
  have hk1 : Kp [] w w1 := by rw [← hw1]; exact (Kp.alloc [] _ _).trans (Kp.alloc [] _ _) (by simp)
  have hd1 : Dk w1 (w.heap.size + 1) w.heap.size 0 [] (-1) false := by rw [← hw1]; exact new_dk w
  clear hw1
  have hm1 := lt_of_heap hd1.hm
  go_wp2_with fail
  refine (look_x w1 _ _ _ 0 [] (-1) hd1 (by simp) rfl (by omega) (HT.out.kp hk1 (by simp))).mono ?_
  rintro e w2 ⟨A, rfl, -, hk2⟩
  have HD2 := Lib.hid (hd1.keep0 hk2)
  have HK2 := Lib.hid (hk1.trans hk2 (by simp))
  have hs12 := hk2.size
  clear hd1 hk1 hk2
  go_wp2_with fail
  have k3 : Kp [] w2 ((w2.alloc (.cells #[.slice A 0 0, .int .u64 0, .int .u8 0, .int .u64 0, .int .u64 0, .int .u64 0, .bool true] 36)).alloc (.cells #[.int .u8 1] 5)) := (Kp.alloc [] _ _).trans (Kp.alloc [] _ _) (by simp)
  have r3 := heap_old (.cells #[.int .u8 1] 5) (heap_new w2 (.cells #[.slice A 0 0, .int .u64 0, .int .u8 0, .int .u64 0, .int .u64 0, .int .u64 0, .bool true] 36))
  have hlit := rdA_lit (w2.alloc (.cells #[.slice A 0 0, .int .u64 0, .int .u8 0, .int .u64 0, .int .u64 0, .int .u64 0, .bool true] 36)) [1] 1 rfl (by omega)
  rw [show (w2.alloc (.cells #[.slice A 0 0, .int .u64 0, .int .u8 0, .int .u64 0, .int .u64 0, .int .u64 0, .bool true] 36)).heap.size = w2.heap.size + 1 from by simp] at hlit
  change RdA ((w2.alloc (.cells #[.slice A 0 0, .int .u64 0, .int .u8 0, .int .u64 0, .int .u64 0, .int .u64 0, .bool true] 36)).alloc (.cells #[.int .u8 1] 5)) _ _ at hlit
  generalize (w2.alloc (.cells #[.slice A 0 0, .int .u64 0, .int .u8 0, .int .u64 0, .int .u64 0, .int .u64 0, .bool true] 36)).alloc (.cells #[.int .u8 1] 5) = w3 at k3 r3 hlit ⊢
  have HK3 := Lib.hid (HK2.out.trans k3 (by simp))
  refine (put_new w3 _ _ _ [] (HD2.out.keep0 k3) ⟨#[120]⟩ (by decide) (notEmpty (by decide)) (by decide) rfl (by decide) (some ⟨w2.heap.size + 1, 0, none⟩) 1 1 [1] rfl hlit (by decide)).mono ?_
  rintro e w4 ⟨rfl, v, hd4, -, hk4⟩
  have hs2 := HK2.out.size
  have hr4 := hk4.heap r3 (by simp; omega)
  have HK4 := Lib.hid (HK3.out.trans hk4 (by simp))
  clear k3 r3 hlit hk4 HD2
  simp only [List.nil_append] at hd4
  go_wp2_with fail
  refine (look_x w4 _ _ _ 1 _ (-1) hd4 (by simp) rfl (by omega) (HT.out.kp HK4.out (by simp))).mono ?_
  rintro e w5 ⟨A5, rfl, ⟨c5, hown5⟩, hk5⟩
  obtain ⟨g, rfl, hg, g0, g1, g2⟩ := find_cells hown5
  have HD5 := Lib.hid (hd4.keep0 hk5)
  have HR5 := Lib.hid (hk5.heap hr4 (by simp))
  have HK5 := Lib.hid (HK4.out.trans hk5 (by simp))
  have hs4 := lt_of_heap hd4.hm
  have hs45 := hk5.size
  clear hd4 hr4 hk5 hown5
  go_wp2_with fail
  have k6 := Kp.alloc [] w5 (.cells #[.slice (some ⟨g, 0, none⟩) 1 1, .int .u64 0, .int .u8 0, .int .u64 0, .int .u64 0, .int .u64 0, .bool true] 36)
  have r6 := heap_new w5 (.cells #[.slice (some ⟨g, 0, none⟩) 1 1, .int .u64 0, .int .u8 0, .int .u64 0, .int .u64 0, .int .u64 0, .bool true] 36)
  generalize w5.alloc (.cells #[.slice (some ⟨g, 0, none⟩) 1 1, .int .u64 0, .int .u8 0, .int .u64 0, .int .u64 0, .int .u64 0, .bool true] 36) = w6 at k6 r6 ⊢
  have hgl := World.block_lt_of_cell? _ _ g0
  have hs5 := HK5.out.size
  have hs6 := lt_of_heap r6
  have hs3 := lt_of_heap HR5.out
  refine (mend_x w6 _ _ _ _ (HD5.out.keep0 k6) rfl (HT.out.kp (HK5.out.trans k6 (by simp)) (by simp))).mono ?_
  rintro e w7 ⟨rfl, hd7, hk7⟩
  have k57 : Kp [w.heap.size] w5 w7 := (k6.mono (by simp)).trans hk7 (fun x hx => .inl hx)
  have r7 := hk7.heap r6 (by simp; omega)
  have r7' := k57.heap HR5.out (by simp; omega)
  have q0 := (k57.cell (p := ⟨g, 0, none⟩) hgl (by simp; omega)).trans g0
  have q1 := (k57.cell (p := ⟨g, 1, none⟩) hgl (by simp; omega)).trans g1
  have q2 := (k57.cell (p := ⟨g, 2, none⟩) hgl (by simp; omega)).trans g2
  have HD7 := Lib.hid hd7
  have HK7 := Lib.hid (HK5.out.trans k57 (by simp))
  have a0 : w7.cell? ⟨w2.heap.size, 0, none⟩ = some (.slice A 0 0) := cell_of_heap r7' 0
  have a6 : w7.cell? ⟨w2.heap.size, 6, none⟩ = some (.bool true) := cell_of_heap r7' 6
  have b0 : w7.cell? ⟨w5.heap.size, 0, none⟩ = some (.slice (some ⟨g, 0, none⟩) 1 1) := cell_of_heap r7 0
  clear g0 g1 g2 k6 r6 hk7 hd7 k57 r7 r7' HR5 HD5
  go_wp2_with fail
  refine (names_any w7 _ _ _ [] (-1) false HD7.out (by simp)).mono ?_
  rintro e w8 ⟨v8, rfl, ⟨_, _, A8, hv8⟩, hk8⟩
  have hv8' : v8 = .slice A8 0 0 := by simpa [sorted] using hv8
  subst hv8'
  have HK8 := Lib.hid (HK7.out.trans hk8 (by simp))
  clear hv8 hk8 a0 a6 b0 q0 q1 q2
  go_wp2
  go_ret
  exact ⟨rfl, HK8.out⟩
end Go.Proofs.YtmboklllkdlmgaaGreatDoor
