/-
  The chapter's disk in memory, and its small functions walked: asked, at, burn, Read. Conditions: helper lemmas.
-/
import Derived.Test.YtmboklllkdlmgaaGreatDoorCD
import Derived.Test.YtmboklllkdlmgaaGreatDoorU
namespace Go.Proofs.YtmboklllkdlmgaaGreatDoor
open Go.RowKit Go.MapKept
set_option maxRecDepth 100000
/-- A file of the chapter's disk. -/
structure Rf where
  nm : ByteArray
  v : Value
  zs : List Int
  sure : Int
def Rf.cells (r : Rf) : List Value := [.string r.nm, r.v, .int .i64 r.sure]
def rows (L : List Rf) : List Value := L.flatMap Rf.cells
theorem rows_cons (r : Rf) (L : List Rf) : rows (r :: L) = r.cells ++ rows L := rfl
theorem rows_append (L M : List Rf) : rows (L ++ M) = rows L ++ rows M := by simp [rows]
theorem rows_len (L : List Rf) : (rows L).length = L.length * 3 := by
  induction L with
  | nil => rfl
  | cons r L ih => rw [rows_cons, List.length_append, ih]; simp [Rf.cells]; omega
theorem rows_at {L : List Rf} {i : Nat} {r : Rf} (h : L[i]? = some r) (j : Nat) (hj : j < 3) : (rows L)[i * 3 + j]? = r.cells[j]? := by
  induction L generalizing i with
  | nil => simp at h
  | cons a L ih =>
    rw [rows_cons]
    cases i with
    | zero =>
      simp at h
      subst h
      rw [List.getElem?_append_left (by simp [Rf.cells]; omega)]
      simp
    | succ i =>
      simp at h
      rw [List.getElem?_append_right (by simp [Rf.cells]; omega), show (i + 1) * 3 + j - a.cells.length = i * 3 + j from by simp [Rf.cells]; omega]
      exact ih h
/-- The chapter's disk. -/
structure RefAt (base : Nat) (w : World) (m : Nat) (lv : Value) (L : List Rf) : Prop where
  hd : w.heap[m]? = some (.cells #[lv, .bool false, .int .i64 0, .bool false] 54 (0, 0))
  own : w.ownsRow base 105 3 lv L.length (rows L)
  ow : ∀ r ∈ L, w.ownsRow base 5 1 r.v r.zs.length (byt r.zs)
  lo : base ≤ w.heap.size
/-- A slice of files reads as this list. -/
theorem RefAt.slice {base : Nat} {w : World} {m : Nat} {lv : Value} {L : List Rf} (h : RefAt base w m lv L) {n : Nat} (hn : L.length = n) : ∃ A c, lv = .slice A n c ∧ n ≤ c ∧ (∀ i r, L[i]? = some r → ∃ g, A = some ⟨g, 0, none⟩ ∧ w.cell? ⟨g, i * 3, none⟩ = some (.string r.nm) ∧ w.cell? ⟨g, i * 3 + 1, none⟩ = some r.v ∧ w.cell? ⟨g, i * 3 + 2, none⟩ = some (.int .i64 r.sure) ∧ (∀ j, w.frozen? ⟨g, j, none⟩ = false)) := by
  rcases h.own.2 with ⟨e, h0⟩ | ⟨g, cap, cur, e, hb, hg, h1, h2, h3, h4⟩
  · have : L = [] := List.eq_nil_of_length_eq_zero h0
    subst this
    exact ⟨none, 0, by rw [e, ← hn]; rfl, by rw [← hn]; exact Nat.le_refl _, by simp⟩
  · refine ⟨some ⟨g, 0, none⟩, cap, by rw [e, hn], by omega, fun i r hi => ⟨g, rfl, ?_, ?_, ?_, fun j => frozen_of_heap hg j⟩⟩
    all_goals
      rw [cell_of_heap hg, ← Array.getElem?_toList]
    · have := rows_at hi 0 (by omega)
      have hil := (List.getElem?_eq_some_iff.1 hi).1
      rw [← h4, List.getElem?_take_of_lt (by omega)] at this
      simpa [Rf.cells] using this
    · have := rows_at hi 1 (by omega)
      have hil := (List.getElem?_eq_some_iff.1 hi).1
      rw [← h4, List.getElem?_take_of_lt (by omega)] at this
      simpa [Rf.cells] using this
    · have := rows_at hi 2 (by omega)
      have hil := (List.getElem?_eq_some_iff.1 hi).1
      rw [← h4, List.getElem?_take_of_lt (by omega)] at this
      simpa [Rf.cells] using this
theorem refAsked_ok (w : World) (base m : Nat) (lv : Value) (L : List Rf) (h : RefAt base w m lv L) (s : ByteArray) (hs : okName s) :
    Calls Tryz.prog 48 #[.pointer (some ⟨m, 0, none⟩), .string s] w fun e w' => e = .returned (.int .i64 0) ∧ w = w' := by
  have c3 := cell_of_heap h.hd 3
  have h1 : ¬ ((s.size : Int) < 1) := by have := hs.1; omega
  have h2 : ¬ ((16 : Int) < (s.size : Int)) := by have := hs.2; omega
  clear h hs
  go_enter Tryz.func48, Tryz.ntmps48
  go_wp2
  go_ret
  exact ⟨rfl, rfl⟩
theorem refAsked_arg (w : World) (base m : Nat) (lv : Value) (L : List Rf) (h : RefAt base w m lv L) (s : ByteArray) (hs : ¬ okName s) :
    Calls Tryz.prog 48 #[.pointer (some ⟨m, 0, none⟩), .string s] w fun e w' => e = .returned (.int .i64 1) ∧ w = w' := by
  have c3 := cell_of_heap h.hd 3
  by_cases h0 : s.size = 0
  · have h1 : ((s.size : Int) < 1) := by omega
    clear h hs h0
    go_enter Tryz.func48, Tryz.ntmps48
    go_wp2
    go_ret
    exact ⟨rfl, rfl⟩
  · have h1 : ¬ ((s.size : Int) < 1) := by omega
    have h2 : ((16 : Int) < (s.size : Int)) := by unfold okName at hs; omega
    clear h hs h0
    go_enter Tryz.func48, Tryz.ntmps48
    go_wp2
    go_ret
    exact ⟨rfl, rfl⟩
theorem refBurn (w : World) (base m : Nat) (lv : Value) (L : List Rf) (h : RefAt base w m lv L) :
    Calls Tryz.prog 73 #[.pointer (some ⟨m, 0, none⟩)] w fun e w' => e = .returned (.bool true) ∧ w = w' := by
  have c1 := cell_of_heap h.hd 1
  clear h
  go_enter Tryz.func73, Tryz.ntmps73
  go_wp2
  go_ret
  exact ⟨rfl, rfl⟩
theorem refAt_any (w : World) (base m n : Nat) (lv : Value) (L : List Rf) (h : RefAt base w m lv L) (hl : L.length = n) (hn : n ≤ 1000) (s : ByteArray) :
    Calls Tryz.prog 49 #[.pointer (some ⟨m, 0, none⟩), .string s] w fun e w' => ((∃ i r, L[i]? = some r ∧ r.nm = s ∧ e = .returned (.int .i64 (i : Nat))) ∨ ((∀ r ∈ L, r.nm ≠ s) ∧ e = .returned (.int .i64 (-1)))) ∧ w = w' := by
  have c0 := cell_of_heap h.hd 0
  obtain ⟨A, c, rfl, hc, hcell⟩ := h.slice hl
  clear h
  go_enter Tryz.func49, Tryz.ntmps49
  go_wp2
  go_loop [5] (fun t => ∃ i : Nat, t = .int .i64 i ∧ i ≤ n ∧ ∀ j r, j < i → L[j]? = some r → r.nm ≠ s) (fun t => n - (intOf t).toNat)
  case atStart => exact ⟨0, rfl, Nat.zero_le _, fun j r h => absurd h (by omega)⟩
  case round =>
    obtain ⟨i, rfl, hi, hno⟩ := hrel
    by_cases hlt : i < n
    · have hil : i < L.length := by omega
      obtain ⟨g, rfl, hc0, hc1, hc2, _⟩ := hcell i L[i] (List.getElem?_eq_getElem hil)
      have hgi : L[i]? = some L[i] := List.getElem?_eq_getElem hil
      generalize L[i] = r at hc0 hc1 hc2 hgi
      have HG := Lib.hid hgi
      have HN := Lib.hid hno
      clear hgi hno hcell hc1 hc2
      by_cases hs : r.nm = s
      · have hb : (r.nm.toList == s.toList) = true := by rw [hs]; simp
        have HS := Lib.hid hs
        clear hs
        go_wp2
        go_ret
        exact ⟨.inl ⟨i, r, HG.out, HS.out, rfl⟩, rfl⟩
      · have hb : (r.nm.toList == s.toList) = false := by
          cases hh : (r.nm.toList == s.toList)
          · rfl
          · exact absurd (toList_inj (by simpa using hh)) hs
        have HS := Lib.hid hs
        clear hs
        go_wp2
        go_round
        case rel =>
          refine ⟨i + 1, by go_num, by omega, fun j r' hj hr' => ?_⟩
          by_cases hji : j < i
          · exact HN.out j r' hji hr'
          · have : j = i := by omega
            subst this
            rw [HG.out] at hr'
            injection hr' with hr'
            rw [← hr']
            exact HS.out
        case measure => simp [intOf]; omega
    · have HN := Lib.hid hno
      clear hno hcell
      go_wp2
      go_ret
      refine ⟨.inr ⟨fun r hr e => ?_, rfl⟩, rfl⟩
      obtain ⟨j, hj⟩ := List.getElem?_of_mem hr
      have hjl := (List.getElem?_eq_some_iff.1 hj).1
      exact HN.out j r (by omega) hj e
end Go.Proofs.YtmboklllkdlmgaaGreatDoor
