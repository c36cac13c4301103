/-
  The law CheckupsVoid, walked: it returns true, and what was there stays. Conditions: no length beyond 140737488355328; the table of sums holds numbers.
-/
import Derived.Test.YtmboklllkdlmgaaGreatDoorZ
import Derived.Test.YtmboklllkdlmgaaGreatDoorBA
namespace Go.Proofs.YtmboklllkdlmgaaGreatDoor
open Go.RowKit Go.MapKept
set_option maxRecDepth 100000
set_option maxHeartbeats 1000000 in
theorem void_any (w : World) (nm : ByteArray) (A : Option Addr) (n c : Nat) (hn : n ≤ 140737488355328) (hs : nm.size ≤ 140737488355328) (ht : Tab w) :
    Calls Tryz.prog 3 #[.agg #[.string nm, .slice A n c]] w fun e w' => e = .returned (.bool true) ∧ Kp [] w w' := by
  have HT := Lib.hid ht
  clear ht
  go_enter Tryz.func3, Tryz.ntmps3
  go_wp2_with fail
  have k1 : Kp [] w ((w.alloc (.cells #[.string nm, .slice A n c] 24)).alloc (.cells #[.string nm, .slice A n c] 24)) := (Kp.alloc [] _ _).trans (Kp.alloc [] _ _) (by simp)
  have r1 := heap_old (.cells #[.string nm, .slice A n c] 24) (heap_new w (.cells #[.string nm, .slice A n c] 24))
  have hF : FilesAt ((w.alloc (.cells #[.string nm, .slice A n c] 24)).alloc (.cells #[.string nm, .slice A n c] 24)) (some ⟨w.heap.size + 1, 0, none⟩) [⟨nm, A, n, c⟩] := by
    have hh := heap_new_at (w.alloc (.cells #[.string nm, .slice A n c] 24)) (.cells #[.string nm, .slice A n c] 24) (g := w.heap.size + 1) (by simp)
    intro i g hg
    cases i with
    | zero =>
      simp at hg
      subst hg
      exact ⟨_, _, rfl, cell_of_heap hh 0, cell_of_heap hh 1⟩
    | succ i => simp at hg
  generalize (w.alloc (.cells #[.string nm, .slice A n c] 24)).alloc (.cells #[.string nm, .slice A n c] 24) = w1 at k1 r1 hF ⊢
  refine (great_any w1 _ 1 1 [⟨nm, A, n, c⟩] rfl hF (by simp; omega) (by omega)).mono ?_
  rintro e w2 ⟨b, rfl, hb, hk2⟩
  have K2 := Lib.hid (k1.trans hk2 (by simp))
  have R2 := Lib.hid (hk2.heap r1 (by simp))
  clear k1 r1 hF hk2
  cases b with
  | true =>
    clear hb R2
    go_wp2_with fail
    refine (lives_any w2 (HT.out.kp K2.out (by simp))).mono ?_
    rintro e w3 ⟨rfl, hk3⟩
    go_wp2
    go_ret
    exact ⟨rfl, K2.out.trans hk3 (by simp)⟩
  | false =>
    have hn8 : n ≤ 1048576 := by
      have := (hb rfl).1
      simp [tot] at this
      omega
    have HN := Lib.hid hn8
    clear hb hn hs hn8
    go_wp2_with fail
    have k3 : Kp [] w2 ((w2.alloc (.cells #[.map none, .int .i64 0, .bool false] 30)).alloc (.cells #[.pointer none, .pointer (some ⟨w2.heap.size, 0, none⟩)] 31)) := (Kp.alloc [] _ _).trans (Kp.alloc [] _ _) (by simp)
    have z3 := heap_old (.cells #[.pointer none, .pointer (some ⟨w2.heap.size, 0, none⟩)] 31) (heap_new w2 (.cells #[.map none, .int .i64 0, .bool false] 30))
    have q3 := heap_new_at (w2.alloc (.cells #[.map none, .int .i64 0, .bool false] 30)) (.cells #[.pointer none, .pointer (some ⟨w2.heap.size, 0, none⟩)] 31) (g := w2.heap.size + 1) (by simp)
    generalize (w2.alloc (.cells #[.map none, .int .i64 0, .bool false] 30)).alloc (.cells #[.pointer none, .pointer (some ⟨w2.heap.size, 0, none⟩)] 31) = w3 at k3 z3 q3 ⊢
    have Kw3 := Lib.hid (K2.out.trans k3 (by simp))
    have Rw3 := Lib.hid (k3.heap R2.out (by simp))
    have S3 := k3.size
    have Zw3 := Lib.hid z3
    have Lw3 := Lib.hid q3
    have l0w3 : w3.cell? ⟨w2.heap.size + 1, 0, none⟩ = some (.pointer none) := cell_of_heap q3 0
    have l1w3 : w3.cell? ⟨w2.heap.size + 1, 1, none⟩ = some (.pointer (some ⟨w2.heap.size, 0, none⟩)) := cell_of_heap q3 1
    clear k3 z3 q3 K2 R2
    refine wp_loop_rounds 3 ?_
    rw [rounds_succ]
    go_wp2_with fail
    refine (look_bad w3 _ 2 (.inl rfl) (bad_nil w3)).mono ?_
    rintro e a0 ⟨rfl, hka0⟩
    have La0 := Lib.hid (hka0.heap Lw3.out (by simp))
    have Za0 := Lib.hid (hka0.heap Zw3.out (by simp))
    have Ra0 := Lib.hid (hka0.heap Rw3.out (by simp))
    have Ka0 := Lib.hid (Kw3.out.trans hka0 (by simp))
    have ka := Kp.alloc [] a0 (.cells #[.slice none 0 0, .int .u64 0, .int .u8 0, .int .u64 0, .int .u64 0, .int .u64 0, .bool false] 36)
    have ra := heap_new a0 (.cells #[.slice none 0 0, .int .u64 0, .int .u8 0, .int .u64 0, .int .u64 0, .int .u64 0, .bool false] 36)
    have Lb0 := Lib.hid (ka.heap La0.out (by simp))
    have Zb0 := Lib.hid (ka.heap Za0.out (by simp))
    have Rb0 := Lib.hid (ka.heap Ra0.out (by simp))
    have Kb0 := Lib.hid (Ka0.out.trans ka (by simp))
    have l0a0 : (a0.alloc (.cells #[.slice none 0 0, .int .u64 0, .int .u8 0, .int .u64 0, .int .u64 0, .int .u64 0, .bool false] 36)).cell? ⟨w2.heap.size + 1, 0, none⟩ = some (.pointer none) := cell_of_heap Lb0.out 0
    have l1a0 : (a0.alloc (.cells #[.slice none 0 0, .int .u64 0, .int .u8 0, .int .u64 0, .int .u64 0, .int .u64 0, .bool false] 36)).cell? ⟨w2.heap.size + 1, 1, none⟩ = some (.pointer (some ⟨w2.heap.size, 0, none⟩)) := cell_of_heap Lb0.out 1
    clear hka0 Lw3 Zw3 Kw3 Rw3 l0w3 l1w3 La0 Za0 Ka0 Ra0
    go_wp2_with fail
    clear l0a0 l1a0
    generalize a0.alloc (.cells #[.slice none 0 0, .int .u64 0, .int .u8 0, .int .u64 0, .int .u64 0, .int .u64 0, .bool false] 36) = b0 at ka ra Lb0 Zb0 Kb0 Rb0 ⊢
    clear ka
    refine (mend_bad b0 _ 2 (.inl rfl) (bad_nil b0)).mono ?_
    rintro e c0 ⟨rfl, hkc0⟩
    have rc := hkc0.heap ra (by simp)
    have Lc0 := Lib.hid (hkc0.heap Lb0.out (by simp))
    have Zc0 := Lib.hid (hkc0.heap Zb0.out (by simp))
    have Rc0 := Lib.hid (hkc0.heap Rb0.out (by simp))
    have Kc0 := Lib.hid (Kb0.out.trans hkc0 (by simp))
    have e0 : c0.cell? ⟨a0.heap.size, 0, none⟩ = some (.slice none 0 0) := cell_of_heap rc 0
    have e1 : c0.cell? ⟨a0.heap.size, 1, none⟩ = some (.int .u64 0) := cell_of_heap rc 1
    have e2 : c0.cell? ⟨a0.heap.size, 2, none⟩ = some (.int .u8 0) := cell_of_heap rc 2
    have e3 : c0.cell? ⟨a0.heap.size, 3, none⟩ = some (.int .u64 0) := cell_of_heap rc 3
    have e4 : c0.cell? ⟨a0.heap.size, 4, none⟩ = some (.int .u64 0) := cell_of_heap rc 4
    have e5 : c0.cell? ⟨a0.heap.size, 5, none⟩ = some (.int .u64 0) := cell_of_heap rc 5
    have e6 : c0.cell? ⟨a0.heap.size, 6, none⟩ = some (.bool false) := cell_of_heap rc 6
    clear rc ra hkc0 Lb0 Zb0 Kb0 Rb0
    go_wp2_with fail
    refine (same_zero c0).mono ?_
    rintro e d0 ⟨rfl, hkd0⟩
    have Ld0 := Lib.hid (hkd0.heap Lc0.out (by simp))
    have Zd0 := Lib.hid (hkd0.heap Zc0.out (by simp))
    have Rd0 := Lib.hid (hkd0.heap Rc0.out (by simp))
    have Kd0 := Lib.hid (Kc0.out.trans hkd0 (by simp))
    have l0d0 : d0.cell? ⟨w2.heap.size + 1, 0, none⟩ = some (.pointer none) := cell_of_heap Ld0.out 0
    have l1d0 : d0.cell? ⟨w2.heap.size + 1, 1, none⟩ = some (.pointer (some ⟨w2.heap.size, 0, none⟩)) := cell_of_heap Ld0.out 1
    clear e0 e1 e2 e3 e4 e5 e6 hkd0 Lc0 Zc0 Kc0 Rc0
    go_wp2
    rw [rounds_succ]
    go_wp2_with fail
    refine (look_bad d0 _ 2 (.inl rfl) (bad_zero d0 _ Zd0.out)).mono ?_
    rintro e a1 ⟨rfl, hka1⟩
    have La1 := Lib.hid (hka1.heap Ld0.out (by simp))
    have Za1 := Lib.hid (hka1.heap Zd0.out (by simp))
    have Ra1 := Lib.hid (hka1.heap Rd0.out (by simp))
    have Ka1 := Lib.hid (Kd0.out.trans hka1 (by simp))
    have ka := Kp.alloc [] a1 (.cells #[.slice none 0 0, .int .u64 0, .int .u8 0, .int .u64 0, .int .u64 0, .int .u64 0, .bool false] 36)
    have ra := heap_new a1 (.cells #[.slice none 0 0, .int .u64 0, .int .u8 0, .int .u64 0, .int .u64 0, .int .u64 0, .bool false] 36)
    have Lb1 := Lib.hid (ka.heap La1.out (by simp))
    have Zb1 := Lib.hid (ka.heap Za1.out (by simp))
    have Rb1 := Lib.hid (ka.heap Ra1.out (by simp))
    have Kb1 := Lib.hid (Ka1.out.trans ka (by simp))
    have l0a1 : (a1.alloc (.cells #[.slice none 0 0, .int .u64 0, .int .u8 0, .int .u64 0, .int .u64 0, .int .u64 0, .bool false] 36)).cell? ⟨w2.heap.size + 1, 0, none⟩ = some (.pointer none) := cell_of_heap Lb1.out 0
    have l1a1 : (a1.alloc (.cells #[.slice none 0 0, .int .u64 0, .int .u8 0, .int .u64 0, .int .u64 0, .int .u64 0, .bool false] 36)).cell? ⟨w2.heap.size + 1, 1, none⟩ = some (.pointer (some ⟨w2.heap.size, 0, none⟩)) := cell_of_heap Lb1.out 1
    clear hka1 Ld0 Zd0 Kd0 Rd0 l0d0 l1d0 La1 Za1 Ka1 Ra1
    go_wp2_with fail
    clear l0a1 l1a1
    generalize a1.alloc (.cells #[.slice none 0 0, .int .u64 0, .int .u8 0, .int .u64 0, .int .u64 0, .int .u64 0, .bool false] 36) = b1 at ka ra Lb1 Zb1 Kb1 Rb1 ⊢
    clear ka
    refine (mend_bad b1 _ 2 (.inl rfl) (bad_zero b1 _ Zb1.out)).mono ?_
    rintro e c1 ⟨rfl, hkc1⟩
    have rc := hkc1.heap ra (by simp)
    have Lc1 := Lib.hid (hkc1.heap Lb1.out (by simp))
    have Zc1 := Lib.hid (hkc1.heap Zb1.out (by simp))
    have Rc1 := Lib.hid (hkc1.heap Rb1.out (by simp))
    have Kc1 := Lib.hid (Kb1.out.trans hkc1 (by simp))
    have e0 : c1.cell? ⟨a1.heap.size, 0, none⟩ = some (.slice none 0 0) := cell_of_heap rc 0
    have e1 : c1.cell? ⟨a1.heap.size, 1, none⟩ = some (.int .u64 0) := cell_of_heap rc 1
    have e2 : c1.cell? ⟨a1.heap.size, 2, none⟩ = some (.int .u8 0) := cell_of_heap rc 2
    have e3 : c1.cell? ⟨a1.heap.size, 3, none⟩ = some (.int .u64 0) := cell_of_heap rc 3
    have e4 : c1.cell? ⟨a1.heap.size, 4, none⟩ = some (.int .u64 0) := cell_of_heap rc 4
    have e5 : c1.cell? ⟨a1.heap.size, 5, none⟩ = some (.int .u64 0) := cell_of_heap rc 5
    have e6 : c1.cell? ⟨a1.heap.size, 6, none⟩ = some (.bool false) := cell_of_heap rc 6
    clear rc ra hkc1 Lb1 Zb1 Kb1 Rb1
    go_wp2_with fail
    refine (same_zero c1).mono ?_
    rintro e d1 ⟨rfl, hkd1⟩
    have Ld1 := Lib.hid (hkd1.heap Lc1.out (by simp))
    have Zd1 := Lib.hid (hkd1.heap Zc1.out (by simp))
    have Rd1 := Lib.hid (hkd1.heap Rc1.out (by simp))
    have Kd1 := Lib.hid (Kc1.out.trans hkd1 (by simp))
    have l0d1 : d1.cell? ⟨w2.heap.size + 1, 0, none⟩ = some (.pointer none) := cell_of_heap Ld1.out 0
    have l1d1 : d1.cell? ⟨w2.heap.size + 1, 1, none⟩ = some (.pointer (some ⟨w2.heap.size, 0, none⟩)) := cell_of_heap Ld1.out 1
    clear e0 e1 e2 e3 e4 e5 e6 hkd1 Lc1 Zc1 Kc1 Rc1
    go_wp2
    rw [rounds_succ]
    go_wp2_with fail
    have K04 := Kd1
    have R4 := Rd1
    clear Kd1 Rd1 Zd1 Ld1 l0d1 l1d1
    refine (new_any d1).mono ?_
    rintro e w4 ⟨rfl, hw4⟩
    have hk4 : Kp [] d1 w4 := by rw [← hw4]; exact (Kp.alloc [] _ _).trans (Kp.alloc [] _ _) (by simp)
    have hd4 : Dk w4 (d1.heap.size + 1) d1.heap.size 0 [] (-1) false := by rw [← hw4]; exact new_dk d1
    clear hw4
    have hwd := K04.out.size
    have hrd := lt_of_heap R4.out
    have K4 := Lib.hid (K04.out.trans hk4 (by simp))
    have R5 := Lib.hid (hk4.heap R4.out (by simp))
    clear hk4 R4 K04
    go_wp2_with fail
    refine (fuse_zero w4 _ _ _ _ hd4).mono ?_
    rintro e w5 ⟨rfl, hd5, hk5⟩
    have K5 := Lib.hid (K4.out.trans hk5 (by simp; omega))
    have hr5 := hk5.heap R5.out (by simp; omega)
    have b1 : w5.cell? ⟨w.heap.size, 1, none⟩ = some (.slice A n c) := cell_of_heap hr5 1
    have HD5 := Lib.hid hd5
    clear hk5 hr5 hd4 hd5 R5 K4
    go_wp2_with fail
    refine (put_dead w5 _ _ _ HD5.out A n c HN.out).mono ?_
    rintro e w6 ⟨rfl, hd6, hk6⟩
    have K6 := Lib.hid (K5.out.trans hk6 (by simp; omega))
    have HD6 := Lib.hid hd6
    clear b1 HD5 hk6 hd6 K5
    go_wp2_with fail
    refine (look_bad w6 _ 17 (.inr rfl) (bad_dead w6 _ _ _ _ _ HD6.out)).mono ?_
    rintro e w7 ⟨rfl, hk7⟩
    have HD7 := Lib.hid (HD6.out.keep0 hk7)
    have K7 := Lib.hid (K6.out.trans hk7 (by simp))
    clear HD6 K6 hk7
    go_wp2_with fail
    have ka := Kp.alloc [] w7 (.cells #[.slice none 0 0, .int .u64 0, .int .u8 0, .int .u64 0, .int .u64 0, .int .u64 0, .bool false] 36)
    have ra := heap_new w7 (.cells #[.slice none 0 0, .int .u64 0, .int .u8 0, .int .u64 0, .int .u64 0, .int .u64 0, .bool false] 36)
    generalize w7.alloc (.cells #[.slice none 0 0, .int .u64 0, .int .u8 0, .int .u64 0, .int .u64 0, .int .u64 0, .bool false] 36) = w8 at ka ra ⊢
    refine (mend_bad w8 _ 17 (.inr rfl) (bad_dead w8 _ _ _ _ _ (HD7.out.keep0 ka))).mono ?_
    rintro e w9 ⟨rfl, hk9⟩
    have r9 := hk9.heap ra (by simp)
    have k79 := ka.trans hk9 (by simp)
    have HD9 := Lib.hid (HD7.out.keep0 k79)
    have K9 := Lib.hid (K7.out.trans k79 (by simp))
    have e0 : w9.cell? ⟨w7.heap.size, 0, none⟩ = some (.slice none 0 0) := cell_of_heap r9 0
    have e1 : w9.cell? ⟨w7.heap.size, 1, none⟩ = some (.int .u64 0) := cell_of_heap r9 1
    have e2 : w9.cell? ⟨w7.heap.size, 2, none⟩ = some (.int .u8 0) := cell_of_heap r9 2
    have e3 : w9.cell? ⟨w7.heap.size, 3, none⟩ = some (.int .u64 0) := cell_of_heap r9 3
    have e4 : w9.cell? ⟨w7.heap.size, 4, none⟩ = some (.int .u64 0) := cell_of_heap r9 4
    have e5 : w9.cell? ⟨w7.heap.size, 5, none⟩ = some (.int .u64 0) := cell_of_heap r9 5
    have e6 : w9.cell? ⟨w7.heap.size, 6, none⟩ = some (.bool false) := cell_of_heap r9 6
    clear ka ra hk9 r9 k79 HD7 K7
    go_wp2_with fail
    refine (same_zero w9).mono ?_
    rintro e w10 ⟨rfl, hk10⟩
    have HD10 := Lib.hid (HD9.out.keep0 hk10)
    have K10 := Lib.hid (K9.out.trans hk10 (by simp))
    clear e0 e1 e2 e3 e4 e5 e6 hk10 HD9 K9
    go_wp2_with fail
    refine (twin_dead w10 _ _ _ _ _ HD10.out).mono ?_
    rintro e w' ⟨rfl, rfl⟩
    go_wp2_with fail
    refine (lives_any w10 (HT.out.kp K10.out (by simp))).mono ?_
    rintro e w11 ⟨rfl, hk11⟩
    go_wp2
    go_ret
    exact ⟨rfl, K10.out.trans hk11 (by simp)⟩
end Go.Proofs.YtmboklllkdlmgaaGreatDoor
