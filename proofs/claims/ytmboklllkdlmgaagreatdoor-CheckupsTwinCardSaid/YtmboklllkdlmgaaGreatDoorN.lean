/-
  logs.Open of a disk without a log, walked: it lays an empty one. Conditions: the disk is alive and burns not, has fewer than 16 files; the table holds numbers.
-/
import Derived.Test.YtmboklllkdlmgaaGreatDoorL
import Derived.Test.YtmboklllkdlmgaaGreatDoorM
namespace Go.Proofs.YtmboklllkdlmgaaGreatDoor
open Go.RowKit Go.MapKept
set_option maxRecDepth 100000
def nLog : ByteArray := ⟨#[108, 111, 103]⟩
theorem feet_push {x d m : Nat} {fs : List Fl} {f : Fl} (h : x ∉ feet d m fs) (h1 : x ≠ f.fb) (h2 : x ∉ sliceBlock f.v) : x ∉ feet d m (fs ++ [f]) := by
  simp only [feet, List.mem_cons, List.mem_flatMap, not_or, not_exists, not_and] at h ⊢
  refine ⟨h.1, h.2.1, fun g hg => ?_⟩
  rcases List.mem_append.1 hg with hg | hg
  · exact h.2.2 g hg
  · obtain rfl := List.mem_singleton.1 hg
    exact ⟨h1, h2⟩
theorem sliceBlock_own {w : World} {b e s n : Nat} {v : Value} {xs : List Value} (h : w.ownsRow b e s v n xs) : ∀ x ∈ sliceBlock v, b ≤ x := by
  rcases h.2 with ⟨rfl, rfl⟩ | ⟨g, cap, cur, rfl, hb, _⟩
  · simp [sliceBlock]
  · simpa [sliceBlock] using hb
/-- (*Log).put of an empty content, onto a disk without a log. -/
theorem put_empty (w : World) (lb d m ck : Nat) (fs : List Fl) (n0 : Int) (hl : w.heap[lb]? = some (.cells #[.int .u64 0, .int .u64 0, .slice none 0 0, .pointer (some ⟨d, 0, none⟩), .int .i64 n0, .bool false] 138 (0, 0)))
    (h : Dk w d m ck fs (-1) false) (hn : named fs ⟨#[108, 111, 103]⟩ = none) (hfs : fs.length < 16) (ht : Tab w) (hlf : lb ∉ feet d m fs) :
    Calls Tryz.prog 64 #[.pointer (some ⟨lb, 0, none⟩), .agg #[.int .u64 0, .int .u64 0, .slice none 0 0]] w fun e w' => e = .returned (.int .i64 0) ∧
      ∃ f, f.name = ⟨#[108, 111, 103]⟩ ∧ Dk w' d m (ck + 1) (fs ++ [f]) (-1) false ∧ w.heap.size ≤ f.fb ∧ (∀ x ∈ sliceBlock f.v, w.heap.size ≤ x) ∧ w'.heap[lb]? = some (.cells #[.int .u64 0, .int .u64 0, .slice none 0 0, .pointer (some ⟨d, 0, none⟩), .int .i64 7, .bool false] 138 (0, 0)) ∧ Kp [lb, m] w w' := by
  have l0 : w.cell? ⟨lb, 0, none⟩ = some (.int .u64 0) := cell_of_heap hl 0
  have l3 : w.cell? ⟨lb, 3, none⟩ = some (.pointer (some ⟨d, 0, none⟩)) := cell_of_heap hl 3
  have hlt := lt_of_heap hl
  have HLB := Lib.hid hl
  clear hl
  have HF := Lib.hid (file_empty (w.alloc (.cells #[.int .u64 0, .int .u64 0, .slice none 0 0] 134)) w.heap.size (heap_new w _) (ht.kp (Kp.alloc [] _ _) (by simp)))
  go_enter Tryz.func64, Tryz.ntmps64
  go_wp2_with fail
  refine HF.out.mono ?_
  rintro e w1 ⟨v1, zs1, rfl, hl1, hnew1, hk1⟩
  obtain ⟨A1, hv1⟩ := hnew1.form hl1
  subst hv1
  have HL1 := Lib.hid hl1
  clear hl1
  have hk01 := (Kp.alloc [] w (.cells #[.int .u64 0, .int .u64 0, .slice none 0 0] 134)).trans hk1 (by simp)
  have q3 := (hk01.cell (p := ⟨lb, 3, none⟩) hlt (by simp)).trans l3
  have hs01 := hk01.size
  have hD1 := h.keep0 hk01
  have HN := Lib.hid hn
  clear hn
  have HP := Lib.hid (put_new w1 d m ck fs hD1 ⟨#[108, 111, 103]⟩ (by decide) (notEmpty (by decide)) (by decide) HN.out hfs A1 7 7 zs1 HL1.out hnew1.1 (by omega))
  go_wp2_with fail
  refine HP.out.mono ?_
  rintro e w2 ⟨rfl, v2, hD2, hown2, hk2⟩
  have hlm : lb ≠ m := ne_of_heap HLB.out h.hm (by intro e; cases e)
  have hm1 := h.lt
  have hLB2 := (hk2.heap (hk01.heap HLB.out (by simp)) (by simpa using hlm))
  have hBX2 := (hk2.heap (hk1.heap (heap_new w (.cells #[.int .u64 0, .int .u64 0, .slice none 0 0] 134)) (by simp)) (by simp; omega))
  have b0 : w2.cell? ⟨w.heap.size, 0, none⟩ = some (.int .u64 0) := cell_of_heap hBX2 0
  have b1 : w2.cell? ⟨w.heap.size, 1, none⟩ = some (.int .u64 0) := cell_of_heap hBX2 1
  have b2 : w2.cell? ⟨w.heap.size, 2, none⟩ = some (.slice none 0 0) := cell_of_heap hBX2 2
  have m0 : w2.cell? ⟨lb, 0, none⟩ = some (.int .u64 0) := cell_of_heap hLB2 0
  have m1 : w2.cell? ⟨lb, 1, none⟩ = some (.int .u64 0) := cell_of_heap hLB2 1
  have m2 : w2.cell? ⟨lb, 2, none⟩ = some (.slice none 0 0) := cell_of_heap hLB2 2
  have m4 : w2.cell? ⟨lb, 4, none⟩ = some (.int .i64 n0) := cell_of_heap hLB2 4
  have g0 : w2.frozen? ⟨lb, 0, none⟩ = false := frozen_of_heap hLB2 0
  have g1 : w2.frozen? ⟨lb, 1, none⟩ = false := frozen_of_heap hLB2 1
  have g2 : w2.frozen? ⟨lb, 2, none⟩ = false := frozen_of_heap hLB2 2
  have g4 : w2.frozen? ⟨lb, 4, none⟩ = false := frozen_of_heap hLB2 4
  have HLB2 := Lib.hid hLB2
  have HD2 := Lib.hid hD2
  clear hLB2 hBX2 hD2
  go_wp2
  have hsb := sliceBlock_own hown2
  have g5 := heap_set (heap_set (heap_set (heap_set HLB2.out 0 (.int .u64 0)) 1 (.int .u64 0)) 2 (.slice none 0 0)) 4 (.int .i64 7)
  have k5 : Kp [lb] w2 ((((w2.setCell ⟨lb, 0, none⟩ (.int .u64 0)).setCell ⟨lb, 1, none⟩ (.int .u64 0)).setCell ⟨lb, 2, none⟩ (.slice none 0 0)).setCell ⟨lb, 4, none⟩ (.int .i64 7)) :=
    (((Kp.setCell (S := [lb]) _ _ (by simp) _).trans (Kp.setCell (S := [lb]) _ _ (by simp) _) (by simp)).trans (Kp.setCell (S := [lb]) _ _ (by simp) _) (by simp)).trans (Kp.setCell (S := [lb]) _ _ (by simp) _) (by simp)
  generalize (((w2.setCell ⟨lb, 0, none⟩ (.int .u64 0)).setCell ⟨lb, 1, none⟩ (.int .u64 0)).setCell ⟨lb, 2, none⟩ (.slice none 0 0)).setCell ⟨lb, 4, none⟩ (.int .i64 7) = W5 at g5 k5 ⊢
  go_ret
  refine ⟨rfl, _, rfl, HD2.out.keep k5 ?_, ?_, ?_, ?_, ?_⟩
  · intro x hx
    obtain rfl := List.mem_singleton.1 hx
    exact feet_push hlf (by show x ≠ w1.heap.size + 1; omega) (fun hm => by have := hsb _ hm; omega)
  · show w.heap.size ≤ w1.heap.size + 1
    omega
  · exact fun x hx => Nat.le_trans hk01.size (hsb x hx)
  · simpa using g5
  · exact (((hk01.mono (T := [lb, m]) (by simp)).trans hk2 (by simp)).trans k5 (by simp))

theorem Dk.feet_lt {w : World} {d m ck : Nat} {fs : List Fl} {fuse : Int} {dead : Bool} (h : Dk w d m ck fs fuse dead) : ∀ x ∈ feet d m fs, x < w.heap.size := by
  intro x hx
  simp only [feet, List.mem_cons, List.mem_flatMap] at hx
  rcases hx with rfl | rfl | ⟨f, hf, rfl | hx⟩
  · exact lt_of_heap h.hd
  · exact lt_of_heap h.hm
  · exact lt_of_heap (h.hf f hf)
  · rcases h.hr f hf with ⟨e, _⟩ | ⟨ad, c, e, _, hb, _⟩
    · rw [e] at hx; simp [sliceBlock] at hx
    · rw [e] at hx
      obtain rfl : x = ad.block := by simpa [sliceBlock] using hx
      exact hb

set_option maxHeartbeats 400000 in
/-- logs.Open of a disk without a log: it lays one. -/
theorem logsOpen_new (w : World) (d m ck : Nat) (fs : List Fl) (h : Dk w d m ck fs (-1) false) (hn : named fs ⟨#[108, 111, 103]⟩ = none) (hfs : fs.length < 16) (ht : Tab w) :
    Calls Tryz.prog 30 #[.pointer (some ⟨d, 0, none⟩)] w fun e w' => ∃ lb f, e = .returned (.tuple #[.pointer (some ⟨lb, 0, none⟩), .int .i64 0]) ∧ w.heap.size ≤ lb ∧
      f.name = ⟨#[108, 111, 103]⟩ ∧ Dk w' d m (ck + 1) (fs ++ [f]) (-1) false ∧ w.heap.size ≤ f.fb ∧ (∀ x ∈ sliceBlock f.v, w.heap.size ≤ x) ∧
      w'.heap[lb]? = some (.cells #[.int .u64 0, .int .u64 0, .slice none 0 0, .pointer (some ⟨d, 0, none⟩), .int .i64 7, .bool false] 138 (0, 0)) ∧ Kp [m] w w' := by
  have HN := Lib.hid hn
  have HR := Lib.hid (read_none w d m ck fs (-1) h ⟨#[108, 111, 103]⟩ (notEmpty (by decide)) (by decide) hn)
  clear hn
  go_enter Tryz.func30, Tryz.ntmps30
  go_wp2_with fail
  refine HR.out.mono ?_
  rintro e w' ⟨rfl, rfl⟩
  go_wp2_with fail
  refine (logsRead_nil w).mono ?_
  rintro e w1 ⟨rfl, hk1⟩
  go_wp2_with fail
  have hk2 : Kp [] w ((w1.alloc (.cells #[.int .u64 0, .int .u64 0, .slice none 0 0] 134)).alloc (.cells #[.int .u64 0, .int .u64 0, .slice none 0 0, .pointer (some ⟨d, 0, none⟩), .int .i64 0, .bool false] 138)) :=
    (hk1.trans (Kp.alloc [] _ _) (by simp)).trans (Kp.alloc [] _ _) (by simp)
  have hlb := heap_new_at (w1.alloc (.cells #[.int .u64 0, .int .u64 0, .slice none 0 0] 134)) (.cells #[.int .u64 0, .int .u64 0, .slice none 0 0, .pointer (some ⟨d, 0, none⟩), .int .i64 0, .bool false] 138) (g := w1.heap.size + 1) (by simp)
  have hsz1 := hk1.size
  have hlf : w1.heap.size + 1 ∉ feet d m fs := fun hx => by have := h.feet_lt _ hx; omega
  have hms := hk2.size
  refine (put_empty _ (w1.heap.size + 1) d m ck fs 0 hlb (h.keep0 hk2) HN.out hfs (ht.kp hk2 (by simp)) hlf).mono ?_
  rintro e w3 ⟨rfl, f, hfn, hD, hfb, hfs', hLB, hk3⟩
  have hkf : Kp [m] w w3 := (hk2.mono (T := [m]) (by simp)).trans hk3 (fun x hx => by
    simp at hx
    rcases hx with rfl | rfl
    · exact .inr (by omega)
    · exact .inl (by simp))
  have HD := Lib.hid hD
  have HX := Lib.hid hfn
  have HLB := Lib.hid hLB
  clear hD hfn hLB hlb
  go_wp2
  go_ret2
  exact ⟨_, f, rfl, by omega, HX.out, HD.out, Nat.le_trans hms hfb, fun x hx => Nat.le_trans hms (hfs' x hx), HLB.out, hkf⟩
end Go.Proofs.YtmboklllkdlmgaaGreatDoor
