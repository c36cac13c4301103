/-
  A server is opened on a disk without a server's files, walked. Conditions: as each states.
-/
import Derived.Test.YtmboklllkdlmgaaGreatDoorP
namespace Go.Proofs.YtmboklllkdlmgaaGreatDoor
open Go.RowKit Go.MapKept
set_option maxRecDepth 100000
set_option maxHeartbeats 400000 in
theorem load_new (w : World) (sb nb ab : Nat) (h1 : w.cell? ⟨sb, 1, none⟩ = some (.pointer (some ⟨nb, 0, none⟩))) (h4 : w.cell? ⟨sb, 4, none⟩ = some (.int .u64 0))
    (hp : w.cell? ⟨nb, 3, none⟩ = some (.pointer (some ⟨ab, 0, none⟩))) (x y : Value) (h : w.heap[ab]? = some (.cells #[.int .u64 0, .int .u64 0, .slice none 0 0, x, y] 127 (0, 0))) :
    Calls Tryz.prog 125 #[.pointer (some ⟨sb, 0, none⟩)] w fun e w' => e = .returned (.int .i64 0) ∧ Kp [] w w' := by
  have hsl := World.block_lt_of_cell? _ _ h1
  have HP := Lib.hid (picture_new w nb ab hp x y h)
  clear hp h
  go_enter Tryz.func125, Tryz.ntmps125
  go_wp2_with fail
  refine HP.out.mono ?_
  rintro e w1 ⟨rfl, hk1⟩
  have d4 := (hk1.cell (p := ⟨sb, 4, none⟩) hsl (by simp)).trans h4
  have hsl1 := Nat.lt_of_lt_of_le hsl hk1.size
  go_wp2
  go_quiet (fail)
  go_wp2
  go_ret
  exact ⟨rfl, (hk1.trans (Kp.alloc [] _ _) (by simp)).trans (Kp.drewN [] _ _) (by simp)⟩
set_option maxHeartbeats 400000 in
theorem serve_new (w : World) (nb ab : Nat) (hp : w.cell? ⟨nb, 3, none⟩ = some (.pointer (some ⟨ab, 0, none⟩))) (x y : Value) (h : w.heap[ab]? = some (.cells #[.int .u64 0, .int .u64 0, .slice none 0 0, x, y] 127 (0, 0))) :
    Calls Tryz.prog 95 #[.int .i64 1, .pointer (some ⟨nb, 0, none⟩), .int .i64 0] w fun e w' => (∃ sb, e = .returned (.tuple #[.pointer (some ⟨sb, 0, none⟩), .int .i64 0])) ∧ Kp [] w w' := by
  have hnl := World.block_lt_of_cell? _ _ hp
  have HP := Lib.hid hp
  have HA := Lib.hid h
  clear hp h
  go_enter Tryz.func95, Tryz.ntmps95
  go_wp2_with fail
  refine (machinesNew w).mono ?_
  rintro e w1 ⟨⟨b1, rfl⟩, hk1⟩
  go_wp2_with fail
  refine (sessionsNew w1).mono ?_
  rintro e w2 ⟨⟨b2, rfl⟩, hk2⟩
  have hk02 := hk1.trans hk2 (by simp)
  go_wp2_with fail
  have g3 := heap_new w2 (.cells #[.int .u8 1, .pointer (some ⟨nb, 0, none⟩), .pointer (some ⟨b1, 0, none⟩), .pointer (some ⟨b2, 0, none⟩), .int .u64 0, .slice none 0 0, .bool false] 212)
  have hk03 := hk02.trans (Kp.alloc [] w2 (.cells #[.int .u8 1, .pointer (some ⟨nb, 0, none⟩), .pointer (some ⟨b1, 0, none⟩), .pointer (some ⟨b2, 0, none⟩), .int .u64 0, .slice none 0 0, .bool false] 212)) (by simp)
  refine (load_new _ w2.heap.size nb ab (cell_of_heap g3 1) (cell_of_heap g3 4) ((hk03.cell (p := ⟨nb, 3, none⟩) hnl (by simp)).trans HP.out) x y (hk03.heap HA.out (by simp))).mono ?_
  rintro e w4 ⟨rfl, hk4⟩
  clear g3
  go_wp2
  go_ret2
  exact ⟨⟨_, rfl⟩, hk03.trans hk4 (by simp)⟩
/-- A server can be opened on a disk without a server's files. -/
theorem serves_new (w : World) (d m ck : Nat) (fs : List Fl) (h : Dk w d m ck fs (-1) false) (hb : Bare fs) (hfs : fs.length < 16) (ht : Tab w) :
    Calls Tryz.prog 36 #[.pointer (some ⟨d, 0, none⟩)] w fun e w' => e = .returned (.bool true) ∧ Kp [m] w w' := by
  have HB := Lib.hid (raftsOpen_new w d m ck fs h hb hfs ht)
  clear hb
  go_enter Tryz.func36, Tryz.ntmps36
  go_wp2_with (go_at_call 68; go_in)
  refine HB.out.mono ?_
  rintro e w1 ⟨nb, ab, x, y, rfl, hn, ha, hk⟩
  have HN := Lib.hid hn
  have HA := Lib.hid ha
  clear hn ha
  go_wp2_with fail
  refine (serve_new w1 nb ab HN.out x y HA.out).mono ?_
  rintro e w2 ⟨⟨sb, rfl⟩, hk2⟩
  go_wp2
  go_ret
  exact ⟨rfl, hk.trans hk2 (by simp)⟩
end Go.Proofs.YtmboklllkdlmgaaGreatDoor
