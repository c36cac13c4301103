/-
  Great of a list of files, walked: where it says no, the files are few and short. Conditions: no length beyond 140737488355328.
-/
import Derived.Test.YtmboklllkdlmgaaGreatDoorY
import Derived.Deep.QuietTactic
import Derived.BigQuiet
namespace Go.Proofs.YtmboklllkdlmgaaGreatDoor
open Go.RowKit Go.MapKept
set_option maxRecDepth 100000
/-- A file of a list: its name, its bytes' slice. -/
structure Gf where
  nm : ByteArray
  A : Option Addr
  n : Nat
  c : Nat
def tot : List Gf → Nat
  | [] => 0
  | g :: l => g.n + g.nm.size + tot l
theorem tot_append (l m : List Gf) : tot (l ++ m) = tot l + tot m := by
  induction l with
  | nil => simp [tot]
  | cons g l ih => simp only [List.cons_append, tot, ih]; omega
/-- A slice of files, as it lies. -/
def FilesAt (w : World) (A : Option Addr) (L : List Gf) : Prop :=
  ∀ i g, L[i]? = some g → ∃ b o, A = some ⟨b, o, none⟩ ∧ w.cell? ⟨b, o + i * 2, none⟩ = some (.string g.nm) ∧ w.cell? ⟨b, o + i * 2 + 1, none⟩ = some (.slice g.A g.n g.c)
set_option maxHeartbeats 1000000 in
theorem great_any (w : World) (A : Option Addr) (c n : Nat) (L : List Gf) (hl : L.length = n) (hL : FilesAt w A L) (hg : ∀ g ∈ L, g.n ≤ 140737488355328 ∧ g.nm.size ≤ 140737488355328) (hn : n ≤ 140737488355328) :
    Calls Tryz.prog 5 #[.slice A n c] w fun e w' => ∃ b : Bool, e = .returned (.bool b) ∧ (b = false → tot L ≤ 80000 ∧ n ≤ 20) ∧ Kp [] w w' := by
  go_enter Tryz.func5, Tryz.ntmps5
  go_wp2
  go_loopw [3, 4] (fun x y wr => ∃ k N : Nat, x = .int .i64 N ∧ y = .int .i64 k ∧ k ≤ n ∧ N = tot (L.take k) ∧ N ≤ 281474976800656 ∧ (∀ a, wr.cell? a = w.cell? a) ∧ Kp [] w wr) (fun _ y _ => n - (intOf y).toNat)
  case atStart => exact ⟨0, 0, rfl, rfl, Nat.zero_le _, rfl, by omega, fun _ => rfl, Kp.refl _ _⟩
  case round =>
    obtain ⟨k, N, rfl, rfl, hk, hN, hNb, hcw, hkw⟩ := hrel
    by_cases hkn : k < n
    · by_cases hN9 : N < 90000
      · have hkl : k < L.length := by omega
        obtain ⟨bb, oo, rfl, hc0, hc1⟩ := hL k L[k] (List.getElem?_eq_getElem hkl)
        rw [← hcw] at hc0 hc1
        have HCW := Lib.hid hcw
        have HKW := Lib.hid hkw
        clear hcw hkw
        obtain ⟨hb1, hb2⟩ := hg L[k] (List.getElem_mem hkl)
        have hnx : tot (L.take (k + 1)) = N + (L[k].n + L[k].nm.size) := by
          rw [List.take_succ_eq_append_getElem hkl, tot_append, hN]
          simp [tot]
        generalize L[k] = g at hc0 hc1 hb1 hb2 hnx
        have HX := Lib.hid hnx
        have HNN := Lib.hid hN
        have HB1 := Lib.hid hb1
        have HB2 := Lib.hid hb2
        have HNB := Lib.hid hNb
        have h9 : ((N : Int) < 90000) := by omega
        have H9 := Lib.hid hN9
        clear hnx hN hb1 hb2 hNb hg hL hl hN9
        go_wp2
        go_quiet (fail)
        have hw1 : wrap64 ((N : Int) + (g.n : Int)) = (N : Int) + (g.n : Int) := by
          have h1 := HB1.out
          have h2 := HNB.out
          unfold wrap64
          omega
        have hw2 : wrap64 ((N : Int) + (g.n : Int) + (g.nm.size : Int)) = ((N + (g.n + g.nm.size) : Nat) : Int) := by
          have h1 := HB1.out
          have h2 := HNB.out
          have h3 := HB2.out
          unfold wrap64
          omega
        rw [hw1, hw2]
        clear hw1 hw2
        go_wp2
        go_round
        case rel =>
          have h1 := HB1.out
          have h3 := HB2.out
          have h4 := H9.out
          exact ⟨k + 1, _, rfl, by go_num, by omega, HX.out.symm, by omega, HCW.out, HKW.out.trans (Kp.drewN [] _ _) (by simp)⟩
        case measure => simp [intOf]; omega
      · have h9 : decide ((N : Int) < 90000) = false := by rw [decide_eq_false_iff_not]; omega
        have h8 : decide ((80000 : Int) < (N : Int)) = true := by rw [decide_eq_true_iff]; omega
        have HKW := Lib.hid hkw
        clear hL hg hN9 hN hNb hcw hkw
        go_wp2
        go_ret
        exact ⟨true, rfl, by simp, HKW.out⟩
    · have hkk : k = n := by omega
      subst hkk
      have ht : tot L = N := by rw [hN, List.take_of_length_le (by omega)]
      have HTT := Lib.hid ht
      have HKW := Lib.hid hkw
      by_cases h80 : 80000 < N
      · have h8 : decide ((80000 : Int) < (N : Int)) = true := by rw [decide_eq_true_iff]; omega
        clear hL hg hN hNb hcw hkw ht h80
        go_wp2
        go_ret
        exact ⟨true, rfl, by simp, HKW.out⟩
      · have h8 : decide ((80000 : Int) < (N : Int)) = false := by rw [decide_eq_false_iff_not]; omega
        have H80 := Lib.hid h80
        by_cases h20 : 20 < k
        · have h2 : decide ((20 : Int) < (k : Int)) = true := by rw [decide_eq_true_iff]; omega
          clear hL hg hN hNb hcw hkw ht h80
          go_wp2
          go_ret
          exact ⟨true, rfl, by simp, HKW.out⟩
        · have h2 : decide ((20 : Int) < (k : Int)) = false := by rw [decide_eq_false_iff_not]; omega
          have H20 := Lib.hid h20
          clear hL hg hN hNb hcw hkw ht h80 h20
          go_wp2
          go_ret
          refine ⟨false, rfl, fun _ => ?_, HKW.out⟩
          have h1 := HTT.out
          have h2 := H80.out
          have h3 := H20.out
          omega
end Go.Proofs.YtmboklllkdlmgaaGreatDoor
