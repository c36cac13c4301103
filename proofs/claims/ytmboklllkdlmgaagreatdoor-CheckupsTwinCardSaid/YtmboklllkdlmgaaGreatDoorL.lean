/-
  The file of an empty log (logs.content.file), walked. Conditions: the table holds numbers.
-/
import Derived.Test.YtmboklllkdlmgaaGreatDoorK
import Derived.Deep.RegionWith
namespace Go.Proofs.YtmboklllkdlmgaaGreatDoor
open Go.RowKit Go.MapKept
set_option maxRecDepth 100000
set_option maxHeartbeats 400000 in
theorem file_empty (w : World) (cb : Nat) (h : w.heap[cb]? = some (.cells #[.int .u64 0, .int .u64 0, .slice none 0 0] 134 (0, 0))) (ht : Tab w) :
    Calls Tryz.prog 92 #[.pointer (some ⟨cb, 0, none⟩)] w fun e w' => ∃ v zs, e = .returned v ∧ zs.length = 7 ∧ NewB w w' v (byt zs) ∧ Kp [] w w' := by
  have c0 : w.cell? ⟨cb, 0, none⟩ = some (.int .u64 0) := cell_of_heap h 0
  have c1 : w.cell? ⟨cb, 1, none⟩ = some (.int .u64 0) := cell_of_heap h 1
  have c2 : w.cell? ⟨cb, 2, none⟩ = some (.slice none 0 0) := cell_of_heap h 2
  have hlt := lt_of_heap h
  have HH := Lib.hid h
  clear h
  have tok1 : True := trivial
  have HT := Lib.hid (ht.kp (Kp.drew [] w) (by simp))
  clear ht
  go_enter Tryz.func92, Tryz.ntmps92
  go_wp2_with fail
  go_region_with (first
    | (go_at_call 120; have _t := tok1; refine (num_small _ (.slice none 0 0) [] none 0 0 rfl (RdA.nil _) (by simp) 0 (by omega) (by omega)).mono ?_; rintro e w1 ⟨v1, rfl, hnew1, hk1⟩; clear tok1; obtain ⟨A1, hv1⟩ := hnew1.form (k := 1) rfl; subst hv1; have d1 := (hk1.cell (p := ⟨cb, 1, none⟩) hlt (by simp)).trans c1; have d0 := (hk1.cell (p := ⟨cb, 0, none⟩) hlt (by simp)).trans c0; have hs1 := hk1.size)
    | (go_at_call 120; refine (num_small _ (.slice A1 1 1) _ A1 1 1 rfl hnew1.1 (by simp) 0 (by omega) (by omega)).mono ?_; rintro e w2 ⟨v2, rfl, hnew2, hk2⟩; obtain ⟨A2, hv2⟩ := hnew2.form (k := 2) rfl; subst hv2; have hs2 := hk2.size)
    | (go_at_call 119; go_must (refine (framesPut_any _ A2 2 2 _ rfl hnew2.1 (by omega) (by omega) ((HT.out.kp hk1 (by simp)).kp hk2 (by simp))).mono ?_); rintro e w3 ⟨v3, zs3, rfl, hl3, hnew3, hk3⟩; obtain ⟨A3, hv3⟩ := hnew3.form hl3; subst hv3))
  all_goals
    have hk12 := ((Kp.drew [] w).trans hk1 (by simp)).trans hk2 (by simp)
    have hk123 := hk12.trans hk3 (by simp)
    have e2 := (hk123.cell (p := ⟨cb, 2, none⟩) hlt (by simp)).trans c2
    have hnew3' := hnew3.later hk12.size
    have HL3 := Lib.hid hl3
    clear hl3 hnew3
    go_wp2
    refine wp_loop_rounds 1 ?_
    rw [rounds_succ]
    go_wp2
    go_ret
    exact ⟨_, zs3, rfl, HL3.out, hnew3', hk123⟩
end Go.Proofs.YtmboklllkdlmgaaGreatDoor
