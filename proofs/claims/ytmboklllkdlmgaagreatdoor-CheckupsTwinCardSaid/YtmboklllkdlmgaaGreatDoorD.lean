/-
  Put of a new file, walked: the closure that lays the bytes, and the call whole. Conditions: as each states.
-/
import Derived.Test.YtmboklllkdlmgaaGreatDoorC
import Derived.Deep.RegionWith
namespace Go.Proofs.YtmboklllkdlmgaaGreatDoor
open Go.RowKit Go.MapKept
set_option maxRecDepth 100000

theorem own_form {w : World} {b e s n : Nat} {v : Value} {xs : List Value} (h : w.ownsRow b e s v n xs) : ∃ A c, v = .slice A n c := by
  rcases h.2 with ⟨rfl, rfl⟩ | ⟨g, cap, cur, rfl, _⟩
  · exact ⟨_, _, rfl⟩
  · exact ⟨_, _, rfl⟩
theorem put1_end {w w1 : World} {f n c1 : Nat} {v0 i0 x0 : Value} {zs : List Int} {A1 : Option Addr} (F : w.heap[f]? = some (.cells #[v0, i0, x0] 100 (0, 0))) (hzn : zs.length = n) (hk : Kp [] w.drew w1)
    (hown : w1.ownsRow w.drew.heap.size 5 1 (.slice A1 (byt zs).length c1) (byt zs).length (byt zs)) :
    ((w1.setCell ⟨f, 0, none⟩ (.slice A1 (byt zs).length c1)).setCell ⟨f, 1, none⟩ (.int .i64 (n : Int))).heap[f]? = some (.cells #[.slice A1 (byt zs).length c1, .int .i64 n, x0] 100 (0, 0)) ∧
    ((w1.setCell ⟨f, 0, none⟩ (.slice A1 (byt zs).length c1)).setCell ⟨f, 1, none⟩ (.int .i64 (n : Int))).ownsRow w.heap.size 5 1 (.slice A1 (byt zs).length c1) n (byt zs) ∧
    Kp [f] w ((w1.setCell ⟨f, 0, none⟩ (.slice A1 (byt zs).length c1)).setCell ⟨f, 1, none⟩ (.int .i64 (n : Int))) := by
  have hF := lt_of_heap F
  have F1 : w1.heap[f]? = some (.cells #[v0, i0, x0] 100 (0, 0)) := hk.heap (w := w.drew) F (by simp)
  refine ⟨by simpa using heap_set (heap_set F1 0 _) 1 _, ?_, ?_⟩
  · have hl : (byt zs).length = n := by rw [byt_len, hzn]
    rw [hl] at hown ⊢
    have g1 := ownsRow_setCell_below hown (a := ⟨f, 0, none⟩) (by simpa using hF) (.slice A1 n c1)
    exact ownsRow_setCell_below g1 (a := ⟨f, 1, none⟩) (by simpa using hF) _
  · refine (((Kp.drew [f] w).trans hk (by simp)).trans (Kp.setCell (S := [f]) w1 ⟨f, 0, none⟩ (.inl (by simp)) _) (by simp)).trans (Kp.setCell (S := [f]) _ ⟨f, 1, none⟩ (.inl (by simp)) _) (by simp)
set_option maxHeartbeats 400000 in
theorem put1 (w : World) (f bx : Nat) (v0 i0 x0 : Value) (F : w.heap[f]? = some (.cells #[v0, i0, x0] 100 (0, 0))) (zs : List Int) (n c : Nat) (A : Option Addr) (B : w.heap[bx]? = some (.cells #[.slice A n c] 22 (0, 0))) (hr : RdA w (.slice A n c) (byt zs)) (hz : n ≤ 1048576) (hzn : zs.length = n) :
    Calls Tryz.prog 43 #[.pointer (some ⟨f, 0, none⟩), .pointer (some ⟨bx, 0, none⟩)] w fun e w' => e = .returned (.tuple #[]) ∧ ∃ v', w'.heap[f]? = some (.cells #[v', .int .i64 n, x0] 100 (0, 0)) ∧ w'.ownsRow w.heap.size 5 1 v' n (byt zs) ∧ Kp [f] w w' := by
  have b0 : w.cell? ⟨bx, 0, none⟩ = some (.slice A n c) := cell_of_heap B 0
  have hF := lt_of_heap F
  have hB := lt_of_heap B
  have f0 : w.cell? ⟨f, 0, none⟩ = some v0 := cell_of_heap F 0
  have f01 : w.cell? ⟨f, 1, none⟩ = some i0 := cell_of_heap F 1
  have fz0 : w.frozen? ⟨f, 0, none⟩ = false := frozen_of_heap F 0
  have fz01 : w.frozen? ⟨f, 1, none⟩ = false := frozen_of_heap F 1
  have HB := Lib.hid B
  have HF := Lib.hid F
  clear B F
  have HZ := Lib.hid hzn
  clear hzn
  have HC := Lib.hid (fun (W : World) (k : Kp [] w W) => clone_any W (.slice A n c) (byt zs) (hr.kp k (by simp)) (byt_one _) (by rw [byt_len, HZ.out]; omega))
  go_enter Tryz.func43, Tryz.ntmps43
  go_region_with (go_at_call 44; refine (HC.out _ (Kp.drew [] _)).mono ?_; rintro e w1 ⟨v1, rfl, hown, hk⟩; obtain ⟨A1, c1, hv1⟩ := own_form hown; subst hv1; have b1 := (hk.cell (p := ⟨bx, 0, none⟩) hB (by simp)).trans b0; have f1 := (hk.cell (p := ⟨f, 0, none⟩) hF (by simp)).trans f0; have f2 := (hk.cell (p := ⟨f, 1, none⟩) hF (by simp)).trans f01; have fz1 := (hk.frozen (p := ⟨f, 0, none⟩) hF (by simp)).trans fz0; have fz2 := (hk.frozen (p := ⟨f, 1, none⟩) hF (by simp)).trans fz01)
  all_goals (go_end0; exact ⟨rfl, _, put1_end HF.out HZ.out hk hown⟩)


theorem len28 (w : World) (m ck : Nat) (es : Array MapEntry) (hm : w.heap[m]? = some (.map es ck)) (t : TypeId) : (Builtin.len_ #[28] t #[.map (some m)]).run Tryz.prog w = .ok (.int .i64 es.size) w := by
  simp [Builtin.len_, run_underlying Tryz.underlying28, run_getObj_map w m _ ck hm]
  rfl

theorem ne_of_heap {w : World} {a b : Nat} {x y : Obj} (ha : w.heap[a]? = some x) (hb : w.heap[b]? = some y) (h : x ≠ y) : a ≠ b := by
  rintro rfl
  rw [ha] at hb
  exact h (Option.some.inj hb)
/-- What reads as bytes reads so when a map has turned. -/
theorem RdA.map_put {w w' : World} {v : Value} {xs : List Value} {m ck : Nat} {es : Array MapEntry} (h : RdA w v xs) (k : Kp [m] w w') (hm : w.heap[m]? = some (.map es ck)) : RdA w' v xs := by
  rcases h with h | ⟨ad, c, hv, hl, hb, hc⟩
  · exact .inl h
  · refine .inr ⟨ad, c, hv, hl, Nat.lt_of_lt_of_le hb k.size, fun j u hu => ?_⟩
    have h1 := hc j u hu
    refine (k.cell (by rw [add_block]; exact hb) ?_).trans h1
    intro hin
    have e : (ad.add j).block = m := by simpa using hin
    simp [World.cell?, e, hm] at h1

/-- A disk with a file more. -/
theorem Dk.push {w w' : World} {d m ck : Nat} {fs : List Fl} {fuse : Int} {dead : Bool} (h : Dk w d m ck fs fuse dead) (s : ByteArray) (fb : Nat) (v : Value) (zs : List Int) (sure : Nat) (k : Kp [m] w w')
    (hm : w'.heap[m]? = some (.map (fs.map Fl.ent ++ [({ key := .string s, val := .pointer (some ⟨fb, 0, none⟩), born := ck } : MapEntry)]).toArray (ck + 1))) (hf : w'.heap[fb]? = some (.cells #[v, .int .i64 sure, .string s] 100 (0, 0))) (hfb : w.heap.size ≤ fb)
    (hr : RdA w' v (byt zs)) (hz : zs.length ≤ 1048576) (hs0 : 0 < s.size) (hs : s.size ≤ 16) (hn : named fs s = none) : Dk w' d m (ck + 1) (fs ++ [⟨s, fb, ck, v, zs, sure⟩]) fuse dead := by
  have hcm : ∀ (cs : Array Value) (t : TypeId) (fz : Nat × Nat), Obj.cells cs t fz ≠ Obj.map (fs.map Fl.ent).toArray ck := fun _ _ _ e => by cases e
  refine ⟨k.heap h.hd (by simpa using ne_of_heap h.hd h.hm (hcm _ _ _)), by simpa [Fl.ent] using hm, ?_, ?_, ?_, ?_, ?_, ?_⟩
  · intro f hfm
    rcases List.mem_append.1 hfm with hfm | hfm
    · exact k.heap (h.hf f hfm) (by simpa using ne_of_heap (h.hf f hfm) h.hm (hcm _ _ _))
    · obtain rfl := List.mem_singleton.1 hfm
      exact hf
  · intro f hfm
    rcases List.mem_append.1 hfm with hfm | hfm
    · exact (h.hr f hfm).map_put k h.hm
    · obtain rfl := List.mem_singleton.1 hfm
      exact hr
  · intro f hfm
    rcases List.mem_append.1 hfm with hfm | hfm
    · exact h.hz f hfm
    · obtain rfl := List.mem_singleton.1 hfm
      exact hz
  · intro f hfm
    rcases List.mem_append.1 hfm with hfm | hfm
    · exact h.hn f hfm
    · obtain rfl := List.mem_singleton.1 hfm
      exact ⟨hs0, hs⟩
  · refine List.pairwise_append.2 ⟨h.nm, by simp, ?_⟩
    intro f hfm g hg
    obtain rfl := List.mem_singleton.1 hg
    have h1 := lt_of_heap (h.hf f hfm)
    have h2 := h.bo f hfm
    exact ⟨named_none hn f hfm, by show f.fb ≠ fb; omega, by show f.born ≠ ck; omega⟩
  · intro f hfm
    rcases List.mem_append.1 hfm with hfm | hfm
    · have := h.bo f hfm; omega
    · obtain rfl := List.mem_singleton.1 hfm
      exact Nat.lt_succ_self _

set_option maxHeartbeats 400000 in
/-- Put of a name that the disk has not. -/
theorem put_new (w : World) (d m ck : Nat) (fs : List Fl) (h : Dk w d m ck fs (-1) false) (s : ByteArray) (hs0 : 0 < s.size) (hs : s.toList.isEmpty = false) (hl : s.size ≤ 16) (hn : named fs s = none) (hfs : fs.length < 16)
    (A : Option Addr) (n c : Nat) (zs : List Int) (hzn : zs.length = n) (hr : RdA w (.slice A n c) (byt zs)) (hz : n ≤ 1048576) :
    Calls Tryz.prog 12 #[.pointer (some ⟨d, 0, none⟩), .string s, .slice A n c] w fun e w' => e = .returned (.int .i64 0) ∧
      ∃ v, Dk w' d m (ck + 1) (fs ++ [⟨s, w.heap.size + 1, ck, v, zs, n⟩]) (-1) false ∧ w'.ownsRow w.heap.size 5 1 v n (byt zs) ∧ Kp [m] w w' := by
  have c0 := h.c0
  have c1 := h.c1
  have c2 := h.c2
  have hlt := h.lt
  have HZ := Lib.hid hzn
  clear hzn
  have h' : Dk (w.alloc (.cells #[.slice A n c] 22)) d m ck fs (-1) false := h.keep0 (Kp.alloc [] _ _)
  have hlk := lookup28 _ m ck fs h'.hm s
  rw [hn] at hlk
  simp only [fval] at hlk
  have hlen := len28 _ m ck _ h'.hm 3
  simp only [List.size_toArray, List.length_map] at hlen
  have h2 : Dk ((w.alloc (.cells #[.slice A n c] 22)).alloc (.cells #[.slice none 0 0, .int .i64 0, .string s] 100)) d m ck fs (-1) false := h'.keep0 (Kp.alloc [] _ _)
  have hup := update28 _ m ck fs h2.hm s hn (.pointer (some ⟨w.heap.size + 1, 0, none⟩))
  have hkm : w.heap.size ≠ m := by omega
  have HB := Lib.hid (heap_put_far (heap_old (.cells #[.slice none 0 0, .int .i64 0, .string s] 100) (heap_new w (.cells #[.slice A n c] 22))) hkm (.map (fs.map Fl.ent ++ [({ key := .string s, val := .pointer (some ⟨w.heap.size + 1, 0, none⟩), born := ck } : MapEntry)]).toArray (ck + 1)))
  have HF := Lib.hid (heap_put_far (heap_new_at (w.alloc (.cells #[.slice A n c] 22)) (.cells #[.slice none 0 0, .int .i64 0, .string s] 100) (g := w.heap.size + 1) (by simp)) (r := m) (by omega) (.map (fs.map Fl.ent ++ [({ key := .string s, val := .pointer (some ⟨w.heap.size + 1, 0, none⟩), born := ck } : MapEntry)]).toArray (ck + 1)))
  have hk3 : Kp [m] w (((w.alloc (.cells #[.slice A n c] 22)).alloc (.cells #[.slice none 0 0, .int .i64 0, .string s] 100)).putObj m (.map (fs.map Fl.ent ++ [({ key := .string s, val := .pointer (some ⟨w.heap.size + 1, 0, none⟩), born := ck } : MapEntry)]).toArray (ck + 1))) :=
    (((Kp.alloc [m] w _).trans (Kp.alloc [] _ _) (by simp)).trans (Kp.putObj _ m _ (by simp : m ∈ [m])) (by simp))
  have HM := Lib.hid (heap_put h2.hm (.map (fs.map Fl.ent ++ [({ key := .string s, val := .pointer (some ⟨w.heap.size + 1, 0, none⟩), born := ck } : MapEntry)]).toArray (ck + 1)))
  have HR := Lib.hid (hr.map_put hk3 h.hm)
  have HK3 := Lib.hid hk3
  clear hk3
  have HN := Lib.hid hn
  clear hn
  have H' := Lib.hid h'
  clear h'
  have H2 := Lib.hid h2
  clear h2
  go_enter Tryz.func12, Tryz.ntmps12
  go_wp2_with (first | (go_at_call 54; refine (asked_ok _ d m ck fs (-1) H'.out s hs hl).mono ?_; rintro e w' ⟨rfl, rfl⟩) | (go_at_call 42; go_in) | (go_at_call 72; go_in))
  refine (put1 _ (w.heap.size + 1) w.heap.size _ _ _ HF.out zs n c A HB.out HR.out hz HZ.out).mono ?_
  rintro e w1 ⟨rfl, v1, hf1, hown1, hk1⟩
  go_wp2
  go_ret
  have hsz := hk1.size
  have hk13 := HK3.out.size
  refine ⟨rfl, v1, Dk.push h s (w.heap.size + 1) v1 zs n (HK3.out.trans hk1 ?_) ?_ hf1 (by omega) (RdA.of_own hown1) ?_ hs0 hl HN.out, ?_, HK3.out.trans hk1 ?_⟩
  · simp
  · exact hk1.heap HM.out (by simp; omega)
  · rw [HZ.out]; exact hz
  · exact ⟨hown1.1, hown1.2.imp id (fun ⟨g, cap, cur, h1, h2, h3⟩ => ⟨g, cap, cur, h1, by omega, h3⟩)⟩
  · simp

end Go.Proofs.YtmboklllkdlmgaaGreatDoor
