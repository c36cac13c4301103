/-
  Names of a disk, walked: all names, in order, in new memory. Conditions: at most 1000 files.
-/
import Derived.Test.YtmboklllkdlmgaaGreatDoorR
import Derived.Test.YtmboklllkdlmgaaGreatDoorC
import Derived.Test.YtmboklllkdlmgaaGreatDoorShelf
namespace Go.Proofs.YtmboklllkdlmgaaGreatDoor
open Go.RowKit Go.MapKept
set_option maxRecDepth 100000
theorem info9 : (Tryz.prog.info? 9).map (fun i => (i.zero, i.size, i.bytes)) = some (some (.string ⟨#[]⟩), 1, 16) := by kernel_rfl
/-- The names' loop under way. -/
structure Ranging (w : World) (m ck : Nat) (fs done : List Fl) (v : Value) (wr : World) : Prop where
  at_ : RangeAt w m ck fs done wr
  own : wr.ownsRow (w.heap.size + 1) 9 1 v done.length (done.map nameV)
  big : w.heap.size + 1 ≤ wr.heap.size
theorem ownsRow_lenOf {w : World} {b e s n : Nat} {v : Value} {xs : List Value} (h : w.ownsRow b e s v n xs) : lenOf v = n := by
  rcases h.2 with ⟨rfl, h0⟩ | ⟨g, cap, cur, rfl, _⟩
  · exact h0.symm
  · rfl
theorem NewB.of_row {w w' : World} {b e n : Nat} {v : Value} {xs : List Value} (hb : w.heap.size ≤ b) (h : w'.ownsRow b e 1 v n xs) : ∃ A c, v = .slice A n c ∧ n ≤ c ∧ NewB w w' (.slice A n n) xs := by
  have hl : xs.length = n := by simpa using h.1
  rcases h.2 with ⟨rfl, rfl⟩ | ⟨g, cap, cur, rfl, hb2, hg, hn, _, _, _⟩
  · have : xs = [] := List.eq_nil_of_length_eq_zero hl
    subst this
    exact ⟨none, 0, rfl, Nat.le_refl _, .inl ⟨rfl, rfl⟩, by simp, none, rfl⟩
  · refine ⟨some ⟨g, 0, none⟩, cap, rfl, hn, .inr ⟨⟨g, 0, none⟩, n, by rw [hl], by omega, lt_of_heap hg, h.cells (g := g) rfl⟩, ?_, _, by rw [hl]⟩
    intro ad n' c' e
    injection e with e _ _
    injection e with e
    subst e
    exact Nat.le_trans hb hb2
/-- slices.Sort over a row of the call's own. -/
theorem sort_own (w : World) (b : Nat) (v : Value) (ss : List (List UInt8)) (n : Nat) (hn : ss.length = n) (h : w.ownsRow b 9 1 v n (ss.map encStr)) (hs : n ≤ 1000) :
    Calls Tryz.prog 52 #[v] w fun e w' => e = .returned (.tuple #[]) ∧ w'.ownsRow b 9 1 v n ((sorted ss).map encStr) ∧ Kp v.ownBlock.toList w w' := by
  rcases h.2 with ⟨rfl, h0⟩ | ⟨g, cap, cur, rfl, hbase, hb, h1, h2, h3, h4⟩
  · refine (Tryz.slices_Sort_string_none none 0 w).mono ?_
    rintro e w' ⟨rfl, rfl⟩
    subst h0
    have : ss = [] := List.eq_nil_of_length_eq_zero hn
    subst this
    exact ⟨rfl, by simpa [sorted] using World.ownsRow_nil _ b 9 1, Kp.refl _ _⟩
  · subst hn
    refine (Tryz.slices_Sort_string g 0 cap ss w (holds_of_block hb (by simpa using h4)) (lt_of_heap hb) (by omega)).mono ?_
    rintro e w' ⟨rfl, n, os, rfl⟩
    exact ⟨rfl, ownsRow_sorted (by simp) hbase hb h1 h2 h3, Kp.grown (grownBy_sorted _) (by simp [Value.ownBlock])⟩
set_option maxHeartbeats 1000000 in
theorem names_any (w : World) (d m ck : Nat) (fs : List Fl) (fuse : Int) (dead : Bool) (h : Dk w d m ck fs fuse dead) (hfs : fs.length ≤ 1000) :
    Calls Tryz.prog 20 #[.pointer (some ⟨d, 0, none⟩)] w fun e w' => ∃ v, e = .returned v ∧ NewB w w' v ((sorted (fs.map keyOf)).map encStr) ∧ Kp [] w w' := by
  have c0 := h.c0
  have hrg := run_range_map (P := Tryz.prog) w 28 9 95 m (fs.map Fl.ent).toArray ck Tryz.underlying28 h.hm
  go_enter Tryz.func20, Tryz.ntmps20
  go_wp2_with (go_at_call 41; refine (there_ok w d m ck fs fuse dead h).mono ?_; rintro e w' ⟨rfl, rfl⟩)
  have hmw := lt_of_heap h.hm
  have hbn : fs.Pairwise (fun f g => f.born ≠ g.born) := h.nm.imp (fun hh => hh.2.2)
  have hbo := h.bo
  have hR0 : Ranging w m ck fs [] (.slice none 0 0) (w.alloc (.mapIter (some m) ck #[] ck)) := ⟨⟨⟨#[], heap_new _ _, rfl⟩, heap_old _ h.hm, by simp, by simp, Kp.alloc _ _ _⟩, World.ownsRow_nil _ _ _ _, by simp⟩
  clear h c0 hrg
  go_loopw [2, 3] (fun v _ wr => ∃ done, Ranging w m ck fs done v wr) (fun v _ _ => fs.length - lenOf v)
  case atStart => exact ⟨[], hR0⟩
  case round =>
    clear hR0
    obtain ⟨done, hR⟩ := hrel
    rcases range_next hR.at_ hmw hbn hbo 0 with ⟨hp, hrun⟩ | ⟨f, W2, hrun, hen, hR2, hk2, hlt⟩
    · have hown : wr.ownsRow (w.heap.size + 1) 9 1 u2 fs.length ((done.map keyOf).map encStr) := by
        have hpl := hp.length_eq
        have e1 : (done.map keyOf).map encStr = done.map nameV := by rw [List.map_map]; rfl
        rw [e1, ← hpl]
        exact hR.own
      have hkp := hR.at_.kp
      have hpl := hp.length_eq
      have hs : sorted (done.map keyOf) = sorted (fs.map keyOf) := sorted_of_perm (hp.map _)
      clear hR hp
      go_wp2_with (first | (go_at_call 52; refine (sort_own wr _ u2 (done.map keyOf) fs.length (by simp [hpl]) hown hfs).mono ?_; rintro e w' ⟨rfl, hown2, hk2⟩; obtain ⟨A, c, rfl, hc, hnb⟩ := NewB.of_row (w := w) (Nat.le_succ _) hown2) | (go_at_call 53; refine (clip58 _ A _ c hc).mono ?_; rintro e w' ⟨rfl, rfl⟩))
      go_ret
      rw [hs] at hnb
      exact ⟨_, rfl, hnb, hkp.trans hk2 (fun x hx => .inr (by have := hown.lt x (by simpa using hx); omega))⟩
    · have hbg : w.heap.size + 1 ≤ W2.heap.size := Nat.le_trans hR.big hk2.size
      have hown1 : W2.ownsRow (w.heap.size + 1) 9 1 u2 done.length (done.map nameV) := by
        refine hR.own.kept (row := some w.heap.size) ⟨hk2.os, hk2.tape, hk2.output, hk2.size, fun k hk hne => hk2.block k hk (by simp; intro e; exact hne (by rw [e]))⟩ ?_
        refine .inr fun e => ?_
        have := (hR.own.lt _ e).1
        omega
      have hown2 : (W2.alloc (.cells #[.string f.name] 9)).ownsRow (w.heap.size + 1) 9 1 u2 done.length (done.map nameV) := hown1.alloc _
      have hlit : RdA (W2.alloc (.cells #[.string f.name] 9)) (.slice (some ⟨W2.heap.size, 0, none⟩) 1 1) [nameV f] := RdA.of_own (World.ownsRow_lit (base := 0) (e := 9) (size := 1) W2 #[.string f.name] 1 (Nat.zero_le _) (by unfold maxLen; omega) rfl)
      go_wp2_with (at_builtin; refine wpAppend rfl (.tmp 16) (.tmp 18) 58 9 16 _ rfl Tryz.underlying58 info9 rfl (w.heap.size + 1) u2 done.length (done.map nameV) rfl hown2 _ [nameV f] rfl hlit (by simp [nameV, Value.oneCell']) (by simp; omega) (by simp; omega) (by simp; omega) ?_; intro v' w1 hown3 hg3 hat3)
      go_round
      case rel =>
        have hka : Kp u2.ownBlock.toList W2 w1 := (Kp.alloc u2.ownBlock.toList _ _).trans (Kp.grown (S := u2.ownBlock.toList) hg3 (fun k hk => .inl (by simp [hk]))) (fun x hx => .inl hx)
        refine ⟨done ++ [f], ⟨hR2.keep hmw hka (fun x hx => ?_), by simpa using hown3, Nat.le_trans hbg hka.size⟩⟩
        have := (hR.own.lt x (by simpa using hx)).1
        omega
      case measure =>
        rw [ownsRow_lenOf hown3, ownsRow_lenOf hR.own]
        simp
        omega
end Go.Proofs.YtmboklllkdlmgaaGreatDoor
