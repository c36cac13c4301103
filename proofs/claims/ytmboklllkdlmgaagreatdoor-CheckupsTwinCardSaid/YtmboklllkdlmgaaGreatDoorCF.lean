/-
  Read and set of the chapter's disk, walked. Conditions: helper lemmas.
-/
import Derived.Test.YtmboklllkdlmgaaGreatDoorCE
namespace Go.Proofs.YtmboklllkdlmgaaGreatDoor
open Go.RowKit Go.MapKept
set_option maxRecDepth 100000
theorem own_rdG {w : World} {b n : Nat} {v : Value} {zs : List Int} (h : w.ownsRow b 5 1 v n (byt zs)) : RdG 1 w v n (byt zs) := RdG.of_rdA (RdA.of_own h) (by simpa using h.1)
set_option maxHeartbeats 400000 in
theorem refRead_some (w : World) (base m n i : Nat) (lv : Value) (L : List Rf) (h : RefAt base w m lv L) (hl : L.length = n) (hn : n ≤ 1000) (s : ByteArray) (hs : okName s) (r : Rf) (hi : L[i]? = some r) (hr : r.nm = s) (hu : ∀ j r', L[j]? = some r' → r'.nm = s → j = i) (hz : r.zs.length ≤ 1048576) :
    Calls Tryz.prog 22 #[.pointer (some ⟨m, 0, none⟩), .string s] w fun e w' => ∃ v, e = .returned (.tuple #[v, .int .i64 0]) ∧ w'.ownsRow w.heap.size 5 1 v r.zs.length (byt r.zs) ∧ Kp [] w w' := by
  have HA := Lib.hid (refAsked_ok w base m lv L h s hs)
  have HT := Lib.hid (refAt_any w base m n lv L h hl hn s)
  have c0 := cell_of_heap h.hd 0
  obtain ⟨A, c, rfl, hc, hcell⟩ := h.slice hl
  obtain ⟨g, rfl, hc0, hc1, hc2, _⟩ := hcell i r hi
  have hmem := List.mem_of_getElem? hi
  have hin : i < n := by rw [← hl]; exact (List.getElem?_eq_some_iff.1 hi).1
  have HR := Lib.hid (own_rdG (h.ow r hmem))
  have HI := Lib.hid hi
  have HU := Lib.hid hu
  have HRN := Lib.hid hr
  obtain ⟨A1, c1, hv1⟩ := own_form (h.ow r hmem)
  rw [hv1] at hc1
  have HV := Lib.hid hv1
  clear h hcell hi hu hr hmem hs hc0 hc2 hv1
  go_enter Tryz.func22, Tryz.ntmps22
  go_wp2_with fail
  refine HA.out.mono ?_
  rintro e w' ⟨rfl, rfl⟩
  go_wp2_with fail
  refine HT.out.mono ?_
  rintro e w' ⟨hcase, rfl⟩
  rcases hcase with ⟨j, r', hj, hjs, rfl⟩ | ⟨hno, _⟩
  · have hji := HU.out j r' hj hjs
    subst hji
    clear hj hjs
    go_wp2_with (at_builtin; refine wpAppendG rfl (.const (.slice none 0 0)) (.tmp 26) 22 5 1 1 _ rfl Tryz.underlying22 info5 rfl (by omega) w.heap.size (.slice none 0 0) 0 [] rfl (World.ownsRow_nil _ _ _ _) _ r.zs.length (byt r.zs) rfl (by rw [← HV.out]; exact HR.out) (byt_one _) (by omega) (by omega) (Nat.le_refl _) ?_; intro v' w1 hown1 hg1 hat1)
    have hk : Kp [] w w1 := Kp.grown (S := []) hg1 (by simp [Value.ownBlock])
    have HO := Lib.hid hown1
    clear hown1 hg1 hat1
    go_wp2
    go_ret2
    exact ⟨v', rfl, by simpa using HO.out, hk⟩
  · exact absurd HRN.out (hno r (List.mem_of_getElem? HI.out))
theorem refRead_none (w : World) (base m n : Nat) (lv : Value) (L : List Rf) (h : RefAt base w m lv L) (hl : L.length = n) (hn : n ≤ 1000) (s : ByteArray) (hs : okName s) (hno : ∀ r ∈ L, r.nm ≠ s) :
    Calls Tryz.prog 22 #[.pointer (some ⟨m, 0, none⟩), .string s] w fun e w' => e = .returned (.tuple #[.slice none 0 0, .int .i64 7]) ∧ w = w' := by
  have HA := Lib.hid (refAsked_ok w base m lv L h s hs)
  have HT := Lib.hid (refAt_any w base m n lv L h hl hn s)
  have HN := Lib.hid hno
  clear h hs hno
  go_enter Tryz.func22, Tryz.ntmps22
  go_wp2_with fail
  refine HA.out.mono ?_
  rintro e w' ⟨rfl, rfl⟩
  go_wp2_with fail
  refine HT.out.mono ?_
  rintro e w' ⟨hcase, rfl⟩
  rcases hcase with ⟨j, r', hj, hjs, rfl⟩ | ⟨_, rfl⟩
  · exact absurd hjs (HN.out r' (List.mem_of_getElem? hj))
  · go_wp2
    go_ret2
    exact ⟨rfl, rfl⟩
theorem info105 : (Tryz.prog.info? 105).map (fun i => (i.zero, i.size, i.bytes)) = some (some (.agg #[.string ⟨#[]⟩, .slice none 0 0, .int .i64 0]), 3, 48) := by kernel_rfl
/-- The chapter's limit. -/
theorem refSet_full (w : World) (base m n k c : Nat) (lv : Value) (L : List Rf) (h : RefAt base w m lv L) (hl : L.length = n) (hn : n ≤ 1000) (h16 : 16 ≤ n) (s : ByteArray) (hno : ∀ r ∈ L, r.nm ≠ s) (A : Option Addr) (hk : k ≤ 1048576) (u : Int) :
    Calls Tryz.prog 50 #[.pointer (some ⟨m, 0, none⟩), .string s, .slice A k c, .int .i64 u] w fun e w' => e = .returned (.int .i64 3) ∧ w = w' := by
  have HT := Lib.hid (refAt_any w base m n lv L h hl hn s)
  have HN := Lib.hid hno
  have c0 := cell_of_heap h.hd 0
  obtain ⟨A1, c1, rfl, hc, _⟩ := h.slice hl
  have hk1 : ¬ ((1048576 : Int) < (k : Int)) := by omega
  have h161 : (16 : Int) ≤ (n : Int) := by omega
  clear h hno hk h16
  go_enter Tryz.func50, Tryz.ntmps50
  go_wp2_with fail
  refine HT.out.mono ?_
  rintro e w' ⟨hcase, rfl⟩
  rcases hcase with ⟨j, r', hj, hjs, rfl⟩ | ⟨_, rfl⟩
  · exact absurd hjs (HN.out r' (List.mem_of_getElem? hj))
  · go_wp2
    go_ret
    exact ⟨rfl, rfl⟩
end Go.Proofs.YtmboklllkdlmgaaGreatDoor
