/-
  The disk's methods, walked: New, Dead, Read, Put of a new file, clips. Conditions: as each states.
-/
import Derived.Test.YtmboklllkdlmgaaGreatDoorB
import Derived.Lib.Hide
namespace Go.Proofs.YtmboklllkdlmgaaGreatDoor
open Go.RowKit Go.MapKept
set_option maxRecDepth 100000

theorem clip22 (w : World) (A : Option Addr) (n c : Nat) (hc : n ≤ c) :
    Calls Tryz.prog 55 #[.slice A n c] w fun e w' => e = .returned (.slice A n n) ∧ w = w' := by
  go_enter Tryz.func55, Tryz.ntmps55
  go_wp2
  go_ret
  exact ⟨rfl, rfl⟩
theorem clip58 (w : World) (A : Option Addr) (n c : Nat) (hc : n ≤ c) :
    Calls Tryz.prog 53 #[.slice A n c] w fun e w' => e = .returned (.slice A n n) ∧ w = w' := by
  go_enter Tryz.func53, Tryz.ntmps53
  go_wp2
  go_ret
  exact ⟨rfl, rfl⟩
theorem new_any (w : World) : Calls Tryz.prog 10 #[] w fun e w' => e = .returned (.pointer (some ⟨w.heap.size + 1, 0, none⟩)) ∧ (w.alloc (.map #[] 0)).alloc (.cells #[.map (some w.heap.size), .int .i64 (-1), .bool false] 30) = w' := by
  have hmm := @run_makeMap Tryz.prog
  go_enter Tryz.func10, Tryz.ntmps10
  go_wp2
  go_ret
  exact ⟨rfl, rfl⟩
/-- disks.New: a disk without files. -/
theorem new_disk (w : World) : Calls Tryz.prog 10 #[] w fun e w' => e = .returned (.pointer (some ⟨w.heap.size + 1, 0, none⟩)) ∧ Dk w' (w.heap.size + 1) w.heap.size 0 [] (-1) false ∧ Kp [] w w' ∧ w'.heap.size = w.heap.size + 2 := by
  refine (new_any w).mono ?_
  rintro e w' ⟨rfl, rfl⟩
  refine ⟨rfl, ⟨?_, ?_, by simp, by simp, by simp, by simp, .nil, by simp⟩, (Kp.alloc [] _ _).trans (Kp.alloc [] _ _) (by simp), by simp⟩
  · simpa using heap_new (w.alloc (.map #[] 0)) (.cells #[.map (some w.heap.size), .int .i64 (-1), .bool false] 30)
  · exact heap_old _ (heap_new w _)

section
variable {w : World} {d m ck : Nat} {fs : List Fl} {fuse : Int} {dead : Bool}
theorem Dk.c0 (h : Dk w d m ck fs fuse dead) : w.cell? ⟨d, 0, none⟩ = some (.map (some m)) := cell_of_heap h.hd 0
theorem Dk.c1 (h : Dk w d m ck fs fuse dead) : w.cell? ⟨d, 1, none⟩ = some (.int .i64 fuse) := cell_of_heap h.hd 1
theorem Dk.c2 (h : Dk w d m ck fs fuse dead) : w.cell? ⟨d, 2, none⟩ = some (.bool dead) := cell_of_heap h.hd 2
theorem Dk.lt (h : Dk w d m ck fs fuse dead) : d < w.heap.size ∧ m < w.heap.size := ⟨lt_of_heap h.hd, lt_of_heap h.hm⟩
end

theorem dead_any (w : World) (d m ck : Nat) (fs : List Fl) (fuse : Int) (dead : Bool) (h : Dk w d m ck fs fuse dead) :
    Calls Tryz.prog 45 #[.pointer (some ⟨d, 0, none⟩)] w fun e w' => e = .returned (.bool dead) ∧ w = w' := by
  have c0 := h.c0
  have c2 := h.c2
  go_enter Tryz.func45, Tryz.ntmps45
  go_wp2
  go_ret
  exact ⟨rfl, rfl⟩

theorem asked_ok (w : World) (d m ck : Nat) (fs : List Fl) (fuse : Int) (h : Dk w d m ck fs fuse false) (s : ByteArray) (hs : s.toList.isEmpty = false) (hl : s.size ≤ 16) :
    Calls Tryz.prog 54 #[.pointer (some ⟨d, 0, none⟩), .string s] w fun e w' => e = .returned (.int .i64 0) ∧ w = w' := by
  have c0 := h.c0
  have c2 := h.c2
  go_enter Tryz.func54, Tryz.ntmps54
  go_wp2
  go_ret
  exact ⟨rfl, rfl⟩
theorem there_ok (w : World) (d m ck : Nat) (fs : List Fl) (fuse : Int) (dead : Bool) (h : Dk w d m ck fs fuse dead) :
    Calls Tryz.prog 41 #[.pointer (some ⟨d, 0, none⟩)] w fun e w' => e = .returned (.bool true) ∧ w = w' := by
  have c0 := h.c0
  go_enter Tryz.func41, Tryz.ntmps41
  go_wp2
  go_ret
  exact ⟨rfl, rfl⟩

/-- Read of a file that is not there. -/
theorem read_none (w : World) (d m ck : Nat) (fs : List Fl) (fuse : Int) (h : Dk w d m ck fs fuse false) (s : ByteArray) (hs : s.toList.isEmpty = false) (hl : s.size ≤ 16) (hn : named fs s = none) :
    Calls Tryz.prog 21 #[.pointer (some ⟨d, 0, none⟩), .string s] w fun e w' => e = .returned (.tuple #[.slice none 0 0, .int .i64 7]) ∧ w = w' := by
  have c0 := h.c0
  have c2 := h.c2
  have hlk := lookup28 w m ck fs h.hm s
  rw [hn] at hlk
  simp only [fval] at hlk
  clear hn
  go_enter Tryz.func21, Tryz.ntmps21
  go_wp2
  go_ret2
  exact ⟨rfl, rfl⟩

/-- What a call hands back as new bytes: a slice in new memory, without spare room. -/
def NewB (w w' : World) (v : Value) (xs : List Value) : Prop := RdA w' v xs ∧ (∀ ad n c, v = .slice (some ad) n c → w.heap.size ≤ ad.block) ∧ ∃ A, v = .slice A xs.length xs.length
theorem NewB.of_own {w w' : World} {v : Value} {n : Nat} {xs : List Value} (h : w'.ownsRow w.heap.size 5 1 v n xs) : ∃ A c, v = .slice A n c ∧ n ≤ c ∧ NewB w w' (.slice A n n) xs := by
  have hl : xs.length = n := by simpa using h.1
  rcases h.2 with ⟨rfl, rfl⟩ | ⟨g, cap, cur, rfl, hb, hg, hn, _, _, _⟩
  · have : xs = [] := List.eq_nil_of_length_eq_zero hl
    subst this
    exact ⟨none, 0, rfl, Nat.le_refl _, .inl ⟨rfl, rfl⟩, by simp, none, rfl⟩
  · refine ⟨some ⟨g, 0, none⟩, cap, rfl, hn, .inr ⟨⟨g, 0, none⟩, n, by rw [hl], by omega, lt_of_heap hg, h.cells (g := g) rfl⟩, ?_, _, by rw [hl]⟩
    intro ad n' c' e
    injection e with e _ _
    injection e with e
    subst e
    exact hb

/-- Read of a file that is there: its bytes, in new memory. -/
theorem read_some (w : World) (d m ck : Nat) (fs : List Fl) (fuse : Int) (h : Dk w d m ck fs fuse false) (s : ByteArray) (hs : s.toList.isEmpty = false) (hl : s.size ≤ 16) (f : Fl) (hn : named fs s = some f) :
    Calls Tryz.prog 21 #[.pointer (some ⟨d, 0, none⟩), .string s] w fun e w' => ∃ v, e = .returned (.tuple #[v, .int .i64 0]) ∧ NewB w w' v (byt f.zs) ∧ Kp [] w w' := by
  have c0 := h.c0
  have c2 := h.c2
  obtain ⟨hf, _⟩ := named_some hn
  have hlk := lookup28 w m ck fs h.hm s
  rw [hn] at hlk
  simp only [fval] at hlk
  clear hn
  have f0 : w.cell? ⟨f.fb, 0, none⟩ = some f.v := cell_of_heap (h.hf f hf) 0
  have HC := Lib.hid (clone_any w f.v (byt f.zs) (h.hr f hf) (byt_one _) (by rw [byt_len]; have := h.hz f hf; omega))
  go_enter Tryz.func21, Tryz.ntmps21
  go_wp2_with (go_at_call 54; refine (asked_ok w d m ck fs fuse h s hs hl).mono ?_; rintro e w' ⟨rfl, rfl⟩)
  refine HC.out.mono ?_
  rintro e w' ⟨v1, rfl, hown, hk⟩
  obtain ⟨A, c, rfl, hnc, hnew⟩ := NewB.of_own hown
  go_wp2
  go_ret2
  exact ⟨_, rfl, hnew, hk⟩

end Go.Proofs.YtmboklllkdlmgaaGreatDoor
