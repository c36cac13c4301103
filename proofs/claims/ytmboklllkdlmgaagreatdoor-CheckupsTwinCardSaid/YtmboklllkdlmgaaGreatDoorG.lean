/-
  Small numbers as bytes (packs.Num below 128), slices.Grow of nil, walked. Conditions: as each states.
-/
import Derived.Test.YtmboklllkdlmgaaGreatDoorD
import Derived.Lib.AppendZeros
namespace Go.Proofs.YtmboklllkdlmgaaGreatDoor
open Go.RowKit Go.MapKept
set_option maxRecDepth 100000
theorem num_small (w : World) (v : Value) (zs : List Int) (A : Option Addr) (m c : Nat) (hv : v = .slice A m c) (hr : RdA w v (byt zs)) (hz : zs.length ≤ 1048576) (n : Int) (h0 : 0 ≤ n) (h1 : n < 128) :
    Calls Tryz.prog 120 #[v, .int .u64 n] w fun e w' => ∃ v', e = .returned v' ∧ NewB w w' v' (byt (zs ++ [n])) ∧ Kp [] w w' := by
  have HC := Lib.hid (clone_any w v (byt zs) hr (byt_one _) (by rw [byt_len]; omega))
  have hn : (decide (n ≥ 128)) = false := by simp; omega
  subst hv
  go_enter Tryz.func120, Tryz.ntmps120
  go_wp2_with fail
  refine HC.out.mono ?_
  rintro e w1 ⟨v1, rfl, hown, hk⟩
  obtain ⟨A1, c1, hv1⟩ := own_form hown
  subst hv1
  go_wp2
  refine wp_loop_rounds 1 ?_
  rw [rounds_succ]
  have hown2 := hown.alloc (.cells #[.int .u8 n] 5)
  have hsrc : RdA (w1.alloc (.cells #[.int .u8 n] 5)) (.slice (some ⟨w1.heap.size, 0, none⟩) 1 1) (byt [n]) := RdA.of_own (World.ownsRow_lit (base := 0) w1 #[.int .u8 n] 1 (Nat.zero_le _) (by unfold maxLen; omega) rfl)
  have hbl := byt_len zs
  have hks := hk.size
  go_wp2_with (at_builtin; refine wpAppend rfl (.tmp 18) (.tmp 21) 22 5 1 _ rfl Tryz.underlying22 info5 rfl w.heap.size (.slice A1 (byt zs).length c1) (byt zs).length (byt zs) rfl hown2 (.slice (some ⟨w1.heap.size, 0, none⟩) 1 1) (byt [n]) rfl hsrc (byt_one _) (by simp [byt_len]; omega) (by simp [byt_len]; omega) (by simp; omega) ?_; intro v2 w2 hown3 hg2 hat2)
  have e1 : byt zs ++ byt [n] = byt (zs ++ [n]) := by simp [byt]
  rw [e1] at hown3
  have e2 : (byt zs).length + (byt [n]).length = (byt (zs ++ [n])).length := by simp [byt]
  obtain ⟨A2, c2, rfl, hc2, hnew⟩ := NewB.of_own hown3
  have hkf : Kp [] w w2 := (hk.trans (Kp.alloc [] w1 _) (by simp)).trans (Kp.grown (S := ((Value.slice A1 (byt zs).length c1).ownBlock).toList) hg2 (fun k hk => .inl (by simp [hk]))) (fun x hx => .inr ((hown.lt x (by simpa using hx)).1))
  refine (clip22 w2 A2 _ c2 hc2).mono ?_
  rintro e w3 ⟨rfl, rfl⟩
  go_wp2
  go_ret
  rw [hbl] at hnew
  exact ⟨_, rfl, hnew, hkf⟩

/-- slices.Grow(nil, n): an empty row of the call's own with room. -/
theorem grow_nil (w : World) (n : Nat) (h0 : 0 < n) (h1 : n ≤ 1048576) :
    Calls Tryz.prog 153 #[.slice none 0 0, .int .i64 n] w fun e w' => ∃ v, e = .returned v ∧ w'.ownsRow w.heap.size 5 1 v 0 [] ∧ Kp [] w w' := by
  obtain ⟨i0, hi, hz, hz0, hz2⟩ := info_parts info5
  have hcap := grownCap_ge w n 0 5
  have hcap2 := grownCap_le_maxLen w n 0 5 (by unfold maxLen; omega)
  have happ := Lib.run_append_nil_zeros (P := Tryz.prog) w 22 3 22 5 i0 (.int .u8 0) .i64 .i64 Tryz.underlying22 Tryz.underlying3 hi hz n h0 (by omega) (by omega) (by rw [hz2]; omega)
  have hown : (w.drew.alloc (.cells (Builtin.zeroCells (Value.int .u8 0).cells n ++ Builtin.zeroCells (Value.int .u8 0).cells (grownCap w n 0 5 - n)) 5)).ownsRow w.heap.size 5 1 (.slice (some ⟨w.heap.size, 0, none⟩) 0 (grownCap w n 0 5)) 0 [] := by
    refine ⟨rfl, .inr ⟨w.heap.size, _, _, rfl, Nat.le_refl _, heap_alloc_new w.drew _, Nat.zero_le _, hcap2, ?_, by simp⟩⟩
    rw [Array.size_append, size_zeroCells, size_zeroCells]
    simp [Value.cells]
    omega
  have hkp : Kp [] w (w.drew.alloc (.cells (Builtin.zeroCells (Value.int .u8 0).cells n ++ Builtin.zeroCells (Value.int .u8 0).cells (grownCap w n 0 5 - n)) 5)) := (Kp.drew [] w).trans (Kp.alloc [] _ _) (by simp)
  generalize Builtin.zeroCells (Value.int .u8 0).cells n ++ Builtin.zeroCells (Value.int .u8 0).cells (grownCap w n 0 5 - n) = cs at happ hown hkp
  generalize grownCap w n 0 5 = cap at happ hown hkp hcap hcap2
  have HO := Lib.hid hown
  have HK := Lib.hid hkp
  clear hown hkp hz hi hz0 hz2
  unfold maxLen at hcap2
  go_enter Tryz.func153, Tryz.ntmps153
  go_wp2_with (at_builtin; refine Lib.wpList_append_run _ rfl _ _ _ _ rfl _ _ rfl rfl _ _ happ ?_)
  go_ret
  exact ⟨_, rfl, HO.out, HK.out⟩
end Go.Proofs.YtmboklllkdlmgaaGreatDoor
