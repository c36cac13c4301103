/-
  slices.Concat of two slices of bytes, walked. Conditions: as it states.
-/
import Derived.Test.YtmboklllkdlmgaaGreatDoorG
namespace Go.Proofs.YtmboklllkdlmgaaGreatDoor
open Go.RowKit Go.MapKept
set_option maxRecDepth 100000
/-- slices.Concat of two. -/
theorem concat2 (w : World) (g : Nat) (A1 A2 : Option Addr) (n1 c1 n2 c2 : Nat) (zs1 zs2 : List Int) (hl1 : zs1.length = n1) (hl2 : zs2.length = n2)
    (hg : w.heap[g]? = some (.cells #[.slice A1 n1 c1, .slice A2 n2 c2] 22 (0, 0)))
    (h1 : RdA w (.slice A1 n1 c1) (byt zs1)) (h2 : RdA w (.slice A2 n2 c2) (byt zs2)) (hpos : 0 < n1 + n2) (hle : n1 + n2 ≤ 1048576) :
    Calls Tryz.prog 140 #[.slice (some ⟨g, 0, none⟩) 2 2] w fun e w' => ∃ v, e = .returned v ∧ w'.ownsRow w.heap.size 5 1 v (n1 + n2) (byt (zs1 ++ zs2)) ∧ Kp [] w w' := by
  have k0 : w.cell? ⟨g, 0, none⟩ = some (.slice A1 n1 c1) := cell_of_heap hg 0
  have k1 : w.cell? ⟨g, 1, none⟩ = some (.slice A2 n2 c2) := cell_of_heap hg 1
  have hglt := lt_of_heap hg
  have HL1 := Lib.hid hl1
  have HL2 := Lib.hid hl2
  clear hl1 hl2 hg
  have hG := grow_nil w (n1 + n2) hpos hle
  rw [Int.natCast_add] at hG
  have HG := Lib.hid hG
  clear hG
  go_enter Tryz.func140, Tryz.ntmps140
  go_wp2
  refine wp_loop_rounds 3 ?_
  rw [rounds_succ]
  go_wp2
  rw [rounds_succ]
  go_wp2
  rw [rounds_succ]
  go_wp2_with fail
  refine HG.out.mono ?_
  rintro e w1 ⟨v1, rfl, hown1, hk1⟩
  have q0 : w1.cell? ⟨g, 0, none⟩ = some (.slice A1 n1 c1) := (hk1.cell (p := ⟨g, 0, none⟩) hglt (by simp)).trans k0
  have r1 : RdA w1 (.slice A1 n1 c1) (byt zs1) := h1.kp hk1 (by simp)
  have hs1 := hk1.size
  go_wp2
  refine wp_loop_rounds 3 ?_
  rw [rounds_succ]
  go_wp2_with (at_builtin; refine wpAppend rfl (.tmp 31) (.tmp 32) 22 5 1 _ rfl Tryz.underlying22 info5 rfl w.heap.size v1 0 [] rfl hown1 (.slice A1 n1 c1) (byt zs1) rfl r1 (byt_one _) (by rw [byt_len, HL1.out]; omega) (by rw [byt_len, HL1.out]; omega) (by omega) ?_; intro v2 w2 hown2 hg2 hat2)
  have hk2 := hk1.app hown1 hg2
  have q1 : w2.cell? ⟨g, 1, none⟩ = some (.slice A2 n2 c2) := (hk2.cell (p := ⟨g, 1, none⟩) hglt (by simp)).trans k1
  have r2 : RdA w2 (.slice A2 n2 c2) (byt zs2) := h2.kp hk2 (by simp)
  have hs2 := hk2.size
  rw [rounds_succ]
  go_wp2_with (at_builtin; refine wpAppend rfl (.tmp 31) (.tmp 32) 22 5 1 _ rfl Tryz.underlying22 info5 rfl w.heap.size v2 _ _ rfl hown2 (.slice A2 n2 c2) (byt zs2) rfl r2 (byt_one _) (by rw [byt_len, byt_len, HL1.out, HL2.out]; omega) (by rw [byt_len, byt_len, HL1.out, HL2.out]; omega) (by omega) ?_; intro v3 w3 hown3 hg3 hat3)
  have hk3 := hk2.app hown2 hg3
  rw [rounds_succ]
  go_wp2
  go_ret
  refine ⟨_, rfl, ?_, hk3⟩
  have e1 : 0 + (byt zs1).length + (byt zs2).length = n1 + n2 := by rw [byt_len, byt_len, HL1.out, HL2.out]; omega
  have e2 : [] ++ byt zs1 ++ byt zs2 = byt (zs1 ++ zs2) := by simp [byt]
  rw [e1, e2] at hown3
  exact hown3
end Go.Proofs.YtmboklllkdlmgaaGreatDoor
