/-
  sums.Put: bytes with their sum behind, walked. Conditions: the table holds numbers; at most 1000000 bytes.
-/
import Derived.Test.YtmboklllkdlmgaaGreatDoorH
import Derived.Test.YtmboklllkdlmgaaGreatDoorI
namespace Go.Proofs.YtmboklllkdlmgaaGreatDoor
open Go.RowKit Go.MapKept
set_option maxRecDepth 100000
/-- The table of sums holds numbers. -/
def Tab (w : World) : Prop := 0 < w.heap.size ∧ ∃ tab : Nat → Int, ∀ i, i < 16 → w.cell? ⟨0, i, none⟩ = some (.int .u32 (tab i))
theorem Tab.kp {w w' : World} (h : Tab w) {S : List Nat} (k : Kp S w w') (hs : 0 ∉ S) : Tab w' := by
  obtain ⟨h0, tab, ht⟩ := h
  exact ⟨Nat.lt_of_lt_of_le h0 k.size, tab, fun i hi => (k.cell (p := ⟨0, i, none⟩) h0 hs).trans (ht i hi)⟩
theorem of_any (w : World) (A : Addr) (n c : Nat) (zs : List Int) (hl : zs.length = n) (hr : RdA w (.slice (some A) n c) (byt zs)) (hn : n ≤ 1048576) (ht : Tab w) :
    Calls Tryz.prog 114 #[.slice (some A) n c] w fun e w' => (∃ x, e = .returned (.int .u32 x)) ∧ w = w' := by
  obtain ⟨_, tab, htab⟩ := ht
  have HM := Lib.hid (more_any w 0 A n c zs hl hr hn tab htab)
  clear htab hl hr
  go_enter Tryz.func114, Tryz.ntmps114
  go_wp2_with fail
  refine HM.out.mono ?_
  rintro e w' ⟨⟨x, rfl⟩, rfl⟩
  go_wp2
  go_ret
  exact ⟨⟨_, rfl⟩, rfl⟩
theorem four_any (w : World) (x : Int) : Calls Tryz.prog 113 #[.int .u32 x] w fun e w' => e = .returned (.slice (some ⟨w.heap.size, 0, none⟩) 4 4) ∧ ∃ a b c d : Int, w.alloc (.cells #[.int .u8 a, .int .u8 b, .int .u8 c, .int .u8 d] 5) = w' := by
  go_enter Tryz.func113, Tryz.ntmps113
  go_wp2
  go_ret
  exact ⟨rfl, _, _, _, _, rfl⟩
theorem NewB.later {w0 w w' : World} {v : Value} {xs : List Value} (h : NewB w w' v xs) (hs : w0.heap.size ≤ w.heap.size) : NewB w0 w' v xs :=
  ⟨h.1, fun ad n c e => Nat.le_trans hs (h.2.1 ad n c e), h.2.2⟩
theorem rdA_lit (w : World) (zs : List Int) (n : Nat) (hn : zs.length = n) (hm : n ≤ 1048576) : RdA (w.alloc (.cells (byt zs).toArray 5)) (.slice (some ⟨w.heap.size, 0, none⟩) n n) (byt zs) :=
  RdA.of_own (by simpa using World.ownsRow_lit (base := 0) (e := 5) (size := 1) w (byt zs).toArray n (Nat.zero_le _) (by unfold maxLen; omega) (by simp [byt_len, hn]))
theorem sumsPut_any (w : World) (A : Addr) (n c : Nat) (zs : List Int) (hl : zs.length = n) (hr : RdA w (.slice (some A) n c) (byt zs)) (hn : n ≤ 1000000) (ht : Tab w) :
    Calls Tryz.prog 141 #[.slice (some A) n c] w fun e w' => ∃ v zs', e = .returned v ∧ zs'.length = n + 4 ∧ NewB w w' v (byt zs') ∧ Kp [] w w' := by
  have HO := Lib.hid (of_any w A n c zs hl hr (by omega) ht)
  have HL := Lib.hid hl
  clear hl
  go_enter Tryz.func141, Tryz.ntmps141
  go_wp2_with fail
  refine HO.out.mono ?_
  rintro e w' ⟨⟨x, rfl⟩, rfl⟩
  go_wp2_with fail
  refine (four_any w x).mono ?_
  rintro e w' ⟨rfl, a, b, c', d, rfl⟩
  go_wp2_with fail
  have hk2 : Kp [] w ((w.alloc (.cells #[.int .u8 a, .int .u8 b, .int .u8 c', .int .u8 d] 5)).alloc (.cells #[.slice (some A) n c, .slice (some ⟨w.heap.size, 0, none⟩) 4 4] 22)) := (Kp.alloc [] w _).trans (Kp.alloc [] _ _) (by simp)
  have hr4 : RdA (w.alloc (.cells #[.int .u8 a, .int .u8 b, .int .u8 c', .int .u8 d] 5)) (.slice (some ⟨w.heap.size, 0, none⟩) 4 4) (byt [a, b, c', d]) := rdA_lit w [a, b, c', d] 4 rfl (by omega)
  refine (concat2 _ (w.heap.size + 1) (some A) (some ⟨w.heap.size, 0, none⟩) n c 4 4 zs [a, b, c', d] HL.out rfl (heap_new_at _ _ (by simp)) (hr.kp hk2 (by simp)) (hr4.kp (Kp.alloc [] _ _) (by simp)) (by omega) (by omega)).mono ?_
  rintro e w3 ⟨v3, rfl, hown3, hk3⟩
  obtain ⟨A3, c3, rfl, hc3, hnew⟩ := NewB.of_own hown3
  have hkf := hk2.trans hk3 (by simp)
  have hlen : (zs ++ [a, b, c', d]).length = n + 4 := by simp [HL.out]
  have HLn := Lib.hid hlen
  have HNew := Lib.hid (hnew.later hk2.size)
  clear hlen hnew hown3
  go_wp2_with fail
  refine (clip22 w3 A3 (n + 4) c3 hc3).mono ?_
  rintro e w' ⟨rfl, rfl⟩
  go_wp2
  go_ret
  exact ⟨_, _, rfl, HLn.out, HNew.out, hkf⟩
end Go.Proofs.YtmboklllkdlmgaaGreatDoor
