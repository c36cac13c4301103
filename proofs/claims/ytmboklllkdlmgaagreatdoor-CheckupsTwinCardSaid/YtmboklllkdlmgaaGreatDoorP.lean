/-
  rafts.Open of a disk without a server's files; machines.New, sessions.New, walked. Conditions: as each states.
-/
import Derived.Test.YtmboklllkdlmgaaGreatDoorO
namespace Go.Proofs.YtmboklllkdlmgaaGreatDoor
open Go.RowKit Go.MapKept
set_option maxRecDepth 100000
theorem logTerm_q (w : World) (n lb d : Nat) (h : LogAt w lb d) : Calls Tryz.prog 67 #[.pointer (some ⟨lb, 0, none⟩), .int .u64 0] (w.drewN n) fun e w' => e = .returned (.tuple #[.int .u64 0, .bool true]) ∧ w' = w.drewN n :=
  (logTerm_new (w.drewN n) lb d h).mono fun _ _ ⟨he, hw⟩ => ⟨he, hw.symm⟩
/-- Of a disk's files none is a server's. -/
def Bare (fs : List Fl) : Prop := named fs ⟨#[108, 111, 103]⟩ = none ∧ named fs ⟨#[115, 104, 111, 116]⟩ = none ∧ named fs ⟨#[115, 116, 97, 116, 101]⟩ = none
set_option maxHeartbeats 1000000 in
theorem begin_new (w : World) (d m ck : Nat) (fs : List Fl) (h : Dk w d m ck fs (-1) false) (hb : Bare fs) (hfs : fs.length < 16) (ht : Tab w) :
    Calls Tryz.prog 122 #[.int .i64 1, .int .i64 1, .pointer (some ⟨d, 0, none⟩), .int .i64 13] w fun e w' => ∃ nb ab x y, e = .returned (.tuple #[.pointer (some ⟨nb, 0, none⟩), .int .i64 0]) ∧
      w'.cell? ⟨nb, 3, none⟩ = some (.pointer (some ⟨ab, 0, none⟩)) ∧ w'.heap[ab]? = some (.cells #[.int .u64 0, .int .u64 0, .slice none 0 0, x, y] 127 (0, 0)) ∧ Kp [m] w w' := by
  obtain ⟨hb1, hb2, hb3⟩ := hb
  have HB1 := Lib.hid hb1
  have HB2 := Lib.hid hb2
  have HB3 := Lib.hid hb3
  clear hb1 hb2 hb3
  go_enter Tryz.func122, Tryz.ntmps122
  go_wp2_with fail
  refine (statesOpen_new _ d m ck fs (h.keep0 (Kp.alloc [] _ _)) HB3.out).mono ?_
  rintro e w' ⟨rfl, rfl⟩
  go_wp2_with fail
  refine (shotsOpen_new _ d m ck fs (h.keep0 ((Kp.alloc [] _ _).trans (Kp.alloc [] _ _) (by simp))) HB2.out).mono ?_
  rintro e w' ⟨rfl, rfl⟩
  go_wp2_with fail
  obtain ⟨W3, hW3⟩ : ∃ W3, ((w.alloc (.cells #[.int .u8 1, .int .i64 1, .pointer (some ⟨w.heap.size + 1, 0, none⟩), .pointer (some ⟨w.heap.size + 1 + 1, 0, none⟩), .pointer none, .int .u64 0, .int .u8 0, .int .u8 0, .int .i64 0, .int .i64 13, .int .i64 0, .int .u64 0, .pointer none, .map none, .bool false] 242)).alloc
      (.cells #[.int .u64 0, .int .u8 0, .pointer (some ⟨d, 0, none⟩), .bool false] 125)).alloc (.cells #[.int .u64 0, .int .u64 0, .slice none 0 0, .pointer (some ⟨d, 0, none⟩), .bool false] 127) = W3 := ⟨_, rfl⟩
  have hk3 : Kp [] w W3 := by rw [← hW3]; exact ((Kp.alloc [] _ _).trans (Kp.alloc [] _ _) (by simp)).trans (Kp.alloc [] _ _) (by simp)
  have hs3 : W3.heap.size = w.heap.size + 3 := by rw [← hW3]; simp
  have NB3 : W3.heap[w.heap.size]? = some (.cells #[.int .u8 1, .int .i64 1, .pointer (some ⟨w.heap.size + 1, 0, none⟩), .pointer (some ⟨w.heap.size + 1 + 1, 0, none⟩), .pointer none, .int .u64 0, .int .u8 0, .int .u8 0, .int .i64 0, .int .i64 13, .int .i64 0, .int .u64 0, .pointer none, .map none, .bool false] 242 (0, 0)) := by
    rw [← hW3]; exact heap_old _ (heap_old _ (heap_new w _))
  have AB3 : W3.heap[w.heap.size + 1 + 1]? = some (.cells #[.int .u64 0, .int .u64 0, .slice none 0 0, .pointer (some ⟨d, 0, none⟩), .bool false] 127 (0, 0)) := by
    rw [← hW3]; exact heap_new_at _ _ (by simp)
  rw [hW3]
  clear hW3
  refine (logsOpen_new W3 d m ck fs (h.keep0 hk3) HB1.out hfs (ht.kp hk3 (by simp))).mono ?_
  rintro e w4 ⟨lb, f, rfl, hlb, _, _, _, _, hLB, hk4⟩
  have hdm := h.lt
  have hm0 : w.heap.size ∉ [m] := by simp; omega
  have hm2 : w.heap.size + 1 + 1 ∉ [m] := by simp; omega
  have NB4 := hk4.heap NB3 hm0
  have AB4 := hk4.heap AB3 hm2
  have hk04 : Kp [m] w w4 := (hk3.mono (T := [m]) (by simp)).trans hk4 (by simp)
  have n3 : w4.cell? ⟨w.heap.size, 3, none⟩ = some (.pointer (some ⟨w.heap.size + 1 + 1, 0, none⟩)) := cell_of_heap NB4 3
  have n4 : w4.cell? ⟨w.heap.size, 4, none⟩ = some (.pointer none) := cell_of_heap NB4 4
  have z4 : w4.frozen? ⟨w.heap.size, 4, none⟩ = false := frozen_of_heap NB4 4
  have HNB4 := Lib.hid NB4
  have HAB4 := Lib.hid AB4
  have HLB := Lib.hid hLB
  clear NB4 AB4 hLB NB3 AB3
  go_wp2_with fail
  have NB5 := heap_set HNB4.out 4 (.pointer (some ⟨lb, 0, none⟩))
  have AB5 := heap_far (p := ⟨w.heap.size, 4, none⟩) HAB4.out (by simp; omega) (.pointer (some ⟨lb, 0, none⟩))
  have LB5 := heap_far (p := ⟨w.heap.size, 4, none⟩) HLB.out (by simp; omega) (.pointer (some ⟨lb, 0, none⟩))
  have hk05 : Kp [m] w (w4.setCell ⟨w.heap.size, 4, none⟩ (.pointer (some ⟨lb, 0, none⟩))) := hk04.trans (Kp.setCell (S := [w.heap.size]) _ _ (by simp) _) (by simp)
  clear n3 n4 z4
  generalize w4.setCell ⟨w.heap.size, 4, none⟩ (.pointer (some ⟨lb, 0, none⟩)) = W5 at NB5 AB5 LB5 hk05 ⊢
  refine (albumShot_new W5 _ _ _ AB5).mono ?_
  rintro e w6 ⟨rfl, hk6⟩
  have NB6 := hk6.heap NB5 (by simp)
  have AB6 := hk6.heap AB5 (by simp)
  have LB6 := hk6.heap LB5 (by simp)
  have hk06 := hk05.trans hk6 (by simp)
  have n4 : w6.cell? ⟨w.heap.size, 4, none⟩ = some (.pointer (some ⟨lb, 0, none⟩)) := cell_of_heap NB6 4
  have hn6 := lt_of_heap NB6
  have ha6 := lt_of_heap AB6
  have hl6 := lt_of_heap LB6
  have HNB6 := Lib.hid NB6
  have HAB6 := Lib.hid AB6
  have HLB6 := Lib.hid LB6
  clear NB5 AB5 LB5 NB6 AB6 LB6
  go_wp2_with fail
  refine (base_new _ lb d (heap_old _ HLB6.out)).mono ?_
  rintro e w7 ⟨rfl, hk7⟩
  have SB7 := hk7.heap (heap_new w6 (.cells #[.int .u64 0, .int .u64 0, .slice none 0 0] 77)) (by simp)
  have hk67 := (Kp.alloc [] w6 (.cells #[.int .u64 0, .int .u64 0, .slice none 0 0] 77)).trans hk7 (by simp)
  have NB7 := hk67.heap HNB6.out (by simp)
  have AB7 := hk67.heap HAB6.out (by simp)
  have LB7 := hk67.heap HLB6.out (by simp)
  have hk07 := hk06.trans hk67 (by simp)
  have n7 : w7.cell? ⟨w.heap.size, 4, none⟩ = some (.pointer (some ⟨lb, 0, none⟩)) := cell_of_heap NB7 4
  have n75 : w7.cell? ⟨w.heap.size, 5, none⟩ = some (.int .u64 0) := cell_of_heap NB7 5
  have z75 : w7.frozen? ⟨w.heap.size, 5, none⟩ = false := frozen_of_heap NB7 5
  have s70 : w7.cell? ⟨w6.heap.size, 0, none⟩ = some (.int .u64 0) := cell_of_heap SB7 0
  have s71 : w7.cell? ⟨w6.heap.size, 1, none⟩ = some (.int .u64 0) := cell_of_heap SB7 1
  have hn7 := lt_of_heap NB7
  have hs7 := lt_of_heap SB7
  have HNB7 := Lib.hid NB7
  have HAB7 := Lib.hid AB7
  have HLB7 := Lib.hid LB7
  clear NB7 AB7 LB7 SB7 n4
  go_wp2_with fail
  go_quiet ((go_at_call 67; exact Calls.quiet_of_same (logTerm_q _ _ _ _ HLB7.out)))
  go_wp2
  have NB8 := heap_set (w := w7.drewN nq) HNB7.out 5 (.int .u64 0)
  have AB8 := heap_far (w := w7.drewN nq) (p := ⟨w.heap.size, 5, none⟩) HAB7.out (by simp; omega) (.int .u64 0)
  have hk8 : Kp [m] w ((w7.drewN nq).setCell ⟨w.heap.size, 5, none⟩ (.int .u64 0)) := (hk07.trans (Kp.drewN [] w7 nq) (by simp)).trans (Kp.setCell (S := [w.heap.size]) _ _ (by simp) _) (by simp)
  go_ret2
  exact ⟨_, _, _, _, rfl, cell_of_heap NB8 3, AB8, hk8⟩
theorem raftsOpen_new (w : World) (d m ck : Nat) (fs : List Fl) (h : Dk w d m ck fs (-1) false) (hb : Bare fs) (hfs : fs.length < 16) (ht : Tab w) :
    Calls Tryz.prog 94 #[.int .i64 1, .int .i64 1, .pointer (some ⟨d, 0, none⟩)] w fun e w' => ∃ nb ab x y, e = .returned (.tuple #[.pointer (some ⟨nb, 0, none⟩), .int .i64 0]) ∧
      w'.cell? ⟨nb, 3, none⟩ = some (.pointer (some ⟨ab, 0, none⟩)) ∧ w'.heap[ab]? = some (.cells #[.int .u64 0, .int .u64 0, .slice none 0 0, x, y] 127 (0, 0)) ∧ Kp [m] w w' := by
  have HB := Lib.hid (begin_new w d m ck fs h hb hfs ht)
  clear hb
  go_enter Tryz.func94, Tryz.ntmps94
  go_wp2_with fail
  refine HB.out.mono ?_
  rintro e w1 ⟨nb, ab, x, y, rfl, hn, ha, hk⟩
  have HN := Lib.hid hn
  have HA := Lib.hid ha
  clear hn ha
  go_wp2
  go_ret2
  exact ⟨nb, ab, x, y, rfl, HN.out, HA.out, hk⟩
theorem ledgersNew (w : World) : Calls Tryz.prog 144 #[] w fun e w' => (∃ b, e = .returned (.pointer (some ⟨b, 0, none⟩))) ∧ Kp [] w w' := by
  have hmm := @run_makeMap Tryz.prog
  go_enter Tryz.func144, Tryz.ntmps144
  go_wp2
  go_ret
  exact ⟨⟨_, rfl⟩, (Kp.alloc [] w _).trans (Kp.alloc [] _ _) (by simp)⟩
theorem booksNew (w : World) : Calls Tryz.prog 145 #[] w fun e w' => (∃ b, e = .returned (.pointer (some ⟨b, 0, none⟩))) ∧ Kp [] w w' := by
  go_enter Tryz.func145, Tryz.ntmps145
  go_wp2
  go_ret
  exact ⟨⟨_, rfl⟩, Kp.alloc [] w _⟩
theorem sessionsNew (w : World) : Calls Tryz.prog 124 #[] w fun e w' => (∃ b, e = .returned (.pointer (some ⟨b, 0, none⟩))) ∧ Kp [] w w' := by
  go_enter Tryz.func124, Tryz.ntmps124
  go_wp2
  go_ret
  exact ⟨⟨_, rfl⟩, Kp.alloc [] w _⟩
theorem machinesNew (w : World) : Calls Tryz.prog 123 #[] w fun e w' => (∃ b, e = .returned (.pointer (some ⟨b, 0, none⟩))) ∧ Kp [] w w' := by
  go_enter Tryz.func123, Tryz.ntmps123
  go_wp2_with fail
  refine (ledgersNew w).mono ?_
  rintro e w1 ⟨⟨b1, rfl⟩, hk1⟩
  go_wp2_with fail
  refine (booksNew w1).mono ?_
  rintro e w2 ⟨⟨b2, rfl⟩, hk2⟩
  go_wp2
  go_ret
  exact ⟨⟨_, rfl⟩, (hk1.trans hk2 (by simp)).trans (Kp.alloc [] _ _) (by simp)⟩
end Go.Proofs.YtmboklllkdlmgaaGreatDoor
