/-
  The sum of bytes (sums.More), walked: it ends with some sum, whatever the bytes. Conditions: the table holds numbers; the bytes are at most 1048576.
-/
import Derived.Test.YtmboklllkdlmgaaGreatDoorG
import Derived.LoopTactic
namespace Go.Proofs.YtmboklllkdlmgaaGreatDoor
open Go.RowKit Go.MapKept
set_option maxRecDepth 100000
theorem and15 (y : Int) : 0 ≤ bits .and .u32 y 15 ∧ bits .and .u32 y 15 < 16 := by
  have h : (BitVec.ofInt 32 y &&& BitVec.ofInt 32 15).toNat < 16 := by
    rw [BitVec.toNat_and]
    exact Nat.lt_of_le_of_lt Nat.and_le_right (by decide)
  show 0 ≤ IntKind.u32.wrap ((BitVec.ofInt 32 y &&& BitVec.ofInt 32 15).toNat : Int) ∧ IntKind.u32.wrap ((BitVec.ofInt 32 y &&& BitVec.ofInt 32 15).toNat : Int) < 16
  rw [IntKind.wrap_u32]
  omega
set_option maxHeartbeats 400000 in
theorem more_any (w : World) (x0 : Int) (A : Addr) (n c : Nat) (zs : List Int) (hl : zs.length = n) (hr : RdA w (.slice (some A) n c) (byt zs)) (hn : n ≤ 1048576) (tab : Nat → Int) (ht : ∀ i, i < 16 → w.cell? ⟨0, i, none⟩ = some (.int .u32 (tab i))) :
    Calls Tryz.prog 133 #[.int .u32 x0, .slice (some A) n c] w fun e w' => (∃ x, e = .returned (.int .u32 x)) ∧ w = w' := by
  have hand := fun y => (and15 y)
  go_enter Tryz.func133, Tryz.ntmps133
  go_wp2
  go_loop [5, 12] (fun v i => ∃ (k : Nat) (x : Int), k ≤ n ∧ i = .int .i64 k ∧ v = .int .u32 x) (fun _ i => n - (intOf i).toNat)
  case atStart => exact ⟨0, _, Nat.zero_le _, rfl, rfl⟩
  case round =>
    obtain ⟨k, x, hk, rfl, rfl⟩ := hrel
    by_cases hlt : k < n
    · have hc : w.cell? (A.add k) = some (.int .u8 (zs.getD k 0)) := by
        rcases hr with ⟨h, _⟩ | ⟨ad, c', h, _, _, hc⟩
        · cases h
        · injection h with h _ _
          injection h with h
          subst h
          refine hc k _ ?_
          have hkl : k < zs.length := by omega
          simp [byt, List.getElem?_map, List.getElem?_eq_getElem hkl, List.getD_eq_getElem?_getD]
      go_wp2
      go_round
      case rel => exact ⟨k + 1, _, by omega, by go_num, rfl⟩
      case measure => simp [intOf]; omega
    · go_wp2
      go_ret
      exact ⟨⟨_, rfl⟩, rfl⟩
end Go.Proofs.YtmboklllkdlmgaaGreatDoor
