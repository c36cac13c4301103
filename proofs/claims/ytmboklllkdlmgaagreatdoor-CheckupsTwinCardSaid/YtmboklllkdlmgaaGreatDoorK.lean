/-
  frames.Put of a short body behind nothing, walked. Conditions: the table holds numbers; 1 to 127 bytes.
-/
import Derived.Test.YtmboklllkdlmgaaGreatDoorJ
import Derived.Test.YtmboklllkdlmgaaGreatDoorG
namespace Go.Proofs.YtmboklllkdlmgaaGreatDoor
open Go.RowKit Go.MapKept
set_option maxRecDepth 100000
theorem NewB.form {w w' : World} {v : Value} {zs : List Int} {k : Nat} (h : NewB w w' v (byt zs)) (hk : zs.length = k) : ∃ A, v = .slice A k k := by
  obtain ⟨_, _, A, e⟩ := h
  exact ⟨A, by rw [e, byt_len, hk]⟩
theorem RdA.some_ {w : World} {A : Option Addr} {n c : Nat} {xs : List Value} (h : RdA w (.slice A n c) xs) (h0 : 0 < n) : ∃ a, A = some a := by
  rcases h with ⟨e, _⟩ | ⟨ad, c', e, _⟩
  · injection e with _ e _
    omega
  · injection e with e _ _
    exact ⟨ad, e⟩
/-- frames.Put of a short body behind nothing: some bytes, five more than the body has. -/
theorem framesPut_any (w : World) (A : Option Addr) (n c : Nat) (zs : List Int) (hl : zs.length = n) (hr : RdA w (.slice A n c) (byt zs)) (hn : n < 128) (h0 : 0 < n) (ht : Tab w) :
    Calls Tryz.prog 119 #[.slice none 0 0, .slice A n c] w fun e w' => ∃ v zs', e = .returned (.tuple #[v, .int .i64 0]) ∧ zs'.length = n + 5 ∧ NewB w w' v (byt zs') ∧ Kp [] w w' := by
  have HN := Lib.hid (num_small w (.slice none 0 0) [] none 0 0 rfl (RdA.nil w) (by simp) n (by omega) (by omega))
  have HL := Lib.hid hl
  clear hl
  go_enter Tryz.func119, Tryz.ntmps119
  go_wp2_with fail
  refine HN.out.mono ?_
  rintro e w1 ⟨v1, rfl, hnew1, hk1⟩
  obtain ⟨A1, hv1⟩ := hnew1.form (k := 1) rfl
  subst hv1
  have hs1 := hk1.size
  have hr1 := hr.kp hk1 (by simp)
  go_wp2_with fail
  have hk2 : Kp [] w (w1.alloc (.cells #[.slice A1 1 1, .slice A n c] 22)) := hk1.trans (Kp.alloc [] _ _) (by simp)
  refine (concat2 _ w1.heap.size A1 A 1 1 n c [(n : Int)] zs rfl HL.out (heap_new _ _) (hnew1.1.kp (Kp.alloc [] _ _) (by simp)) (hr.kp hk2 (by simp)) (by omega) (by omega)).mono ?_
  rintro e w3 ⟨v3, rfl, hown3, hk3⟩
  have hk3' := hk2.trans hk3 (by simp)
  obtain ⟨A3, c3, hv3⟩ := own_form hown3
  subst hv3
  have hr3 := RdA.of_own hown3
  obtain ⟨ad3, hA3⟩ := hr3.some_ (by omega)
  subst hA3
  have hlen3 : ([(n : Int)] ++ zs).length = 1 + n := by simp [HL.out]; omega
  have HS := Lib.hid (sumsPut_any w3 ad3 (1 + n) c3 ([(n : Int)] ++ zs) hlen3 hr3 (by omega) (ht.kp hk3' (by simp)))
  clear hlen3
  go_wp2_with fail
  refine HS.out.mono ?_
  rintro e w4 ⟨v4, zs4, rfl, hl4, hnew4, hk4⟩
  have hk4' := hk3'.trans hk4 (by simp)
  obtain ⟨A4, hv4⟩ := hnew4.form hl4
  subst hv4
  have HL4 := Lib.hid hl4
  clear hl4
  have hs4 := hk4'.size
  go_wp2_with fail
  have hk5 : Kp [] w (w4.alloc (.cells #[.slice none 0 0, .slice A4 (1 + n + 4) (1 + n + 4)] 22)) := hk4'.trans (Kp.alloc [] _ _) (by simp)
  refine (concat2 _ w4.heap.size none A4 0 0 (1 + n + 4) (1 + n + 4) [] zs4 rfl HL4.out (heap_new _ _) (RdA.nil _) (hnew4.1.kp (Kp.alloc [] _ _) (by simp)) (by omega) (by omega)).mono ?_
  rintro e w6 ⟨v6, rfl, hown6, hk6⟩
  have hk6' := hk5.trans hk6 (by simp)
  rw [Nat.zero_add] at hown6
  obtain ⟨A6, c6, rfl, hc6, hnew6⟩ := NewB.of_own hown6
  have HNew := Lib.hid (hnew6.later hk5.size)
  clear hnew6 hown6
  go_wp2_with fail
  refine (clip22 w6 A6 _ c6 hc6).mono ?_
  rintro e w' ⟨rfl, rfl⟩
  go_wp2
  go_ret2
  refine ⟨_, zs4, rfl, ?_, ?_, hk6'⟩
  · rw [HL4.out]; omega
  · simpa using HNew.out
end Go.Proofs.YtmboklllkdlmgaaGreatDoor
