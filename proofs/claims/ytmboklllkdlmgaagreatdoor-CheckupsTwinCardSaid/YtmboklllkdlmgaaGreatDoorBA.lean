/-
  Look, Mend and Twin of a disk that is not there, that no call made, or that is dead, walked. Conditions: helper lemmas.
-/
import Derived.Test.YtmboklllkdlmgaaGreatDoorY
namespace Go.Proofs.YtmboklllkdlmgaaGreatDoor
open Go.RowKit Go.MapKept
set_option maxRecDepth 100000
/-- A disk of which nothing is told: whatever is asked of it, the answer is E. -/
def Bad (w : World) (p : Value) (E : Int) : Prop := ∀ (W : World) (s : ByteArray), Kp [] w W → Calls Tryz.prog 54 #[p, .string s] W fun e w' => e = .returned (.int .i64 E) ∧ W = w'
theorem bad_nil (w : World) : Bad w (.pointer none) 2 := by
  intro W s _
  go_enter Tryz.func54, Tryz.ntmps54
  go_wp2_with (go_at_call 41; go_in)
  go_ret
  exact ⟨rfl, rfl⟩
theorem bad_zero (w : World) (z : Nat) (h : w.heap[z]? = some (.cells #[.map none, .int .i64 0, .bool false] 30 (0, 0))) : Bad w (.pointer (some ⟨z, 0, none⟩)) 2 := by
  intro W s k
  have c0 := cell_of_heap (k.heap h (by simp)) 0
  clear h
  go_enter Tryz.func54, Tryz.ntmps54
  go_wp2_with (go_at_call 41; go_in)
  go_ret
  exact ⟨rfl, rfl⟩
theorem bad_dead (w : World) (d m ck : Nat) (fs : List Fl) (fuse : Int) (h : Dk w d m ck fs fuse true) : Bad w (.pointer (some ⟨d, 0, none⟩)) 17 := by
  intro W s k
  have h' := h.keep0 k
  have c0 := h'.c0
  have c2 := h'.c2
  clear h h'
  go_enter Tryz.func54, Tryz.ntmps54
  go_wp2_with (go_at_call 41; go_in)
  go_ret
  exact ⟨rfl, rfl⟩
theorem read_bad (w : World) (p : Value) (E : Int) (s : ByteArray) (hE : E = 2 ∨ E = 17) (h : Bad w p E) :
    Calls Tryz.prog 21 #[p, .string s] w fun e w' => e = .returned (.tuple #[.slice none 0 0, .int .i64 E]) ∧ w = w' := by
  have HA := Lib.hid (h w s (Kp.refl _ _))
  clear h
  rcases hE with rfl | rfl
  all_goals
    go_enter Tryz.func21, Tryz.ntmps21
    go_wp2_with fail
    refine HA.out.mono ?_
    rintro e w' ⟨rfl, rfl⟩
    go_wp2
    go_ret2
    exact ⟨rfl, rfl⟩
theorem Bad.keep {w W : World} {p : Value} {E : Int} (h : Bad w p E) (k : Kp [] w W) : Bad W p E := fun W' s k' => h W' s (k.trans k' (by simp))
def zeroR : Value := .agg #[.slice none 0 0, .int .u64 0, .int .u8 0, .int .u64 0, .int .u64 0, .int .u64 0, .bool false]
set_option maxHeartbeats 400000 in
theorem look_bad (w : World) (p : Value) (E : Int) (hE : E = 2 ∨ E = 17) (h : Bad w p E) :
    Calls Tryz.prog 7 #[p] w fun e w' => e = .returned (.tuple #[.agg #[.slice none 0 0, .int .u64 0, .int .u8 0, .int .u64 0, .int .u64 0, .int .u64 0, .bool false], .int .i64 E]) ∧ Kp [] w w' := by
  have HB := Lib.hid h
  clear h
  rcases hE with rfl | rfl
  all_goals
    go_enter Tryz.func7, Tryz.ntmps7
    go_wp2_with fail
    go_step3
    go_wp2_with fail
    refine (read_bad _ p _ _ (by first | exact .inl rfl | exact .inr rfl) (HB.out.keep (Kp.alloc _ _ _))).mono ?_
    rintro e w' ⟨rfl, hw⟩
    subst hw
    go_wp2
    rw [Exit.noGoto_ret]
    exact bodyPost_ret (v := .tuple #[.agg #[.slice none 0 0, .int .u64 0, .int .u8 0, .int .u64 0, .int .u64 0, .int .u64 0, .bool false], .int .i64 _]) (by simp [results, Tryz.results7, go_sem]) rfl ⟨rfl, Kp.alloc _ _ _⟩
theorem mend_bad (w : World) (p : Value) (E : Int) (hE : E = 2 ∨ E = 17) (h : Bad w p E) :
    Calls Tryz.prog 8 #[p] w fun e w' => e = .returned (.tuple #[.int .i64 0, .int .i64 E]) ∧ Kp [] w w' := by
  have HL := Lib.hid (look_bad w p E hE h)
  clear h
  rcases hE with rfl | rfl
  all_goals
    go_enter Tryz.func8, Tryz.ntmps8
    go_wp2_with fail
    refine HL.out.mono ?_
    rintro e w1 ⟨rfl, hk⟩
    go_wp2
    go_ret2
    exact ⟨rfl, hk.trans (Kp.alloc [] _ _) (by simp)⟩
theorem same_zero (w : World) : Calls Tryz.prog 9 #[.agg #[.slice none 0 0, .int .u64 0, .int .u8 0, .int .u64 0, .int .u64 0, .int .u64 0, .bool false], .agg #[.slice none 0 0, .int .u64 0, .int .u8 0, .int .u64 0, .int .u64 0, .int .u64 0, .bool false]] w fun e w' => e = .returned (.bool true) ∧ Kp [] w w' := by
  go_enter Tryz.func9, Tryz.ntmps9
  go_wp2
  refine wp_loop_rounds 1 ?_
  rw [rounds_succ]
  go_wp2
  go_ret
  exact ⟨rfl, (Kp.alloc _ _ _).trans (Kp.alloc [] _ _) (by simp)⟩
theorem dk_nil {w : World} {d m ck : Nat} {fuse : Int} {dead : Bool} (hd : w.heap[d]? = some (.cells #[.map (some m), .int .i64 fuse, .bool dead] 30 (0, 0))) (hm : w.heap[m]? = some (.map #[] ck)) : Dk w d m ck [] fuse dead :=
  ⟨hd, by simpa using hm, by simp, by simp, by simp, by simp, by simp, by simp⟩
theorem fuse_zero (w : World) (d m ck : Nat) (fuse : Int) (h : Dk w d m ck [] fuse false) :
    Calls Tryz.prog 11 #[.pointer (some ⟨d, 0, none⟩), .int .i64 0] w fun e w' => e = .returned (.tuple #[]) ∧ Dk w' d m ck [] 0 false ∧ Kp [d] w w' := by
  have c0 := h.c0
  have c1 := h.c1
  have f1 := frozen_of_heap h.hd 1
  go_enter Tryz.func11, Tryz.ntmps11
  go_wp2_with (go_at_call 41; refine (there_ok _ d m ck [] fuse false h).mono ?_; rintro e w' ⟨rfl, rfl⟩)
  go_end0
  exact ⟨rfl, dk_nil (heap_set h.hd 1 _) (heap_far (by simpa using h.hm) (Ne.symm (ne_of_heap h.hd h.hm (by simp))) _), Kp.setCell _ _ (by simp) _⟩
theorem put_dead (w : World) (d m ck : Nat) (h : Dk w d m ck [] 0 false) (A : Option Addr) (n c : Nat) (hn : n ≤ 1048576) :
    Calls Tryz.prog 12 #[.pointer (some ⟨d, 0, none⟩), .string ⟨#[120]⟩, .slice A n c] w fun e w' => e = .returned (.int .i64 17) ∧ Dk w' d m ck [] 0 true ∧ Kp [d] w w' := by
  have h' : Dk (w.alloc (.cells #[.slice A n c] 22)) d m ck [] 0 false := h.keep0 (Kp.alloc [] _ _)
  have c0 := h'.c0
  have c1 := h'.c1
  have c2 := h'.c2
  have f2 := frozen_of_heap h'.hd 2
  have hlk := lookup28 _ m ck [] h'.hm ⟨#[120]⟩
  simp only [named, List.find?, fval] at hlk
  have hlen := len28 _ m ck _ h'.hm 3
  simp only [List.size_toArray, List.length_map, List.length_nil] at hlen
  have H' := Lib.hid h'
  have hn' : ¬ ((1048576 : Int) < (n : Int)) := by omega
  clear h'
  go_enter Tryz.func12, Tryz.ntmps12
  go_wp2_with (first | (go_at_call 54; refine (asked_ok _ d m ck [] 0 H'.out ⟨#[120]⟩ (notEmpty (by decide)) (by decide)).mono ?_; rintro e w' ⟨rfl, rfl⟩) | (go_at_call 42; go_in) | (go_at_call 72; go_in))
  go_ret
  refine ⟨rfl, dk_nil (heap_set H'.out.hd 2 _) (heap_far (by simpa using H'.out.hm) (Ne.symm (ne_of_heap H'.out.hd H'.out.hm (by simp))) _), (Kp.alloc [d] _ _).trans (Kp.setCell (S := [d]) _ _ (by simp) _) (by simp)⟩
theorem twin_dead (w : World) (d m ck : Nat) (fs : List Fl) (fuse : Int) (h : Dk w d m ck fs fuse true) :
    Calls Tryz.prog 13 #[.pointer (some ⟨d, 0, none⟩)] w fun e w' => e = .returned (.pointer none) ∧ w = w' := by
  have HD := Lib.hid (dead_any w d m ck fs fuse true h)
  clear h
  go_enter Tryz.func13, Tryz.ntmps13
  go_wp2_with fail
  refine HD.out.mono ?_
  rintro e w' ⟨rfl, rfl⟩
  go_wp2
  go_ret
  exact ⟨rfl, rfl⟩
end Go.Proofs.YtmboklllkdlmgaaGreatDoor
