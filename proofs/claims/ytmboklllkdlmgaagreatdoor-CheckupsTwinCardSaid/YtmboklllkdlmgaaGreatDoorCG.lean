/-
  set of the chapter's disk, where the file is there, walked. Conditions: helper lemmas.
-/
import Derived.Test.YtmboklllkdlmgaaGreatDoorCF
import Derived.BigRegion
namespace Go.Proofs.YtmboklllkdlmgaaGreatDoor
open Go.RowKit Go.MapKept
set_option maxRecDepth 100000
theorem rows_set (L : List Rf) (i : Nat) (r : Rf) (hi : i < L.length) : (((rows L).set (i * 3) (.string r.nm)).set (i * 3 + 1) r.v).set (i * 3 + 2) (.int .i64 r.sure) = rows (L.set i r) := by
  induction L generalizing i with
  | nil => simp at hi
  | cons a L ih =>
    rw [rows_cons]
    cases i with
    | zero => simp [Rf.cells, rows_cons]
    | succ i =>
      have hi' : i < L.length := by simpa using hi
      rw [List.set_cons_succ, rows_cons, ← ih i hi']
      have e : ∀ (j : Nat) (u : Value) (M : List Value), (a.cells ++ M).set ((i + 1) * 3 + j) u = a.cells ++ M.set (i * 3 + j) u := by
        intro j u M
        rw [List.set_append_right _ _ (by simp [Rf.cells]; omega)]
        congr 2
        simp [Rf.cells]
        omega
      have e0 := e 0
      simp only [Nat.add_zero] at e0
      rw [e0, e 1, e 2]
theorem RefAt.setFile {base : Nat} {w : World} {m g c : Nat} {L : List Rf} (h : RefAt base w m (.slice (some ⟨g, 0, none⟩) L.length c) L) {i : Nat} (hi : i < L.length) (r : Rf) (hr : w.ownsRow base 5 1 r.v r.zs.length (byt r.zs)) :
    RefAt base (((w.setCell ⟨g, i * 3, none⟩ (.string r.nm)).setCell ⟨g, i * 3 + 1, none⟩ r.v).setCell ⟨g, i * 3 + 2, none⟩ (.int .i64 r.sure)) m (.slice (some ⟨g, 0, none⟩) L.length c) (L.set i r) := by
  have hne : ∀ {b : Nat} {cs : Array Value} {t : TypeId}, w.heap[b]? = some (.cells cs t (0, 0)) → t ≠ 105 → b ≠ g := by
    intro b cs t hb ht e
    subst e
    exact own_ne h.own hb ht rfl
  have hw : ∀ r' : Rf, w.ownsRow base 5 1 r'.v r'.zs.length (byt r'.zs) → (((w.setCell ⟨g, i * 3, none⟩ (.string r.nm)).setCell ⟨g, i * 3 + 1, none⟩ r.v).setCell ⟨g, i * 3 + 2, none⟩ (.int .i64 r.sure)).ownsRow base 5 1 r'.v r'.zs.length (byt r'.zs) := by
    intro r' ho
    have hb : r'.v.ownBlock ≠ some g := by
      intro e
      rcases ho.2 with ⟨e1, _⟩ | ⟨g', cap, cur, e1, _, hg, _⟩
      · rw [e1] at e
        cases e
      · rw [e1] at e
        have : g' = g := by simpa [Value.ownBlock] using e
        subst this
        exact hne hg (by decide) rfl
    exact ownsRow_setCell_other (ownsRow_setCell_other (ownsRow_setCell_other ho hb _) hb _) hb _
  have hmg := hne h.hd (by decide)
  refine ⟨heap_far (heap_far (heap_far h.hd hmg _) hmg _) hmg _, ?_, ?_, by simpa [World.setCell] using h.lo⟩
  · have := ((((h.own.stored (i * 3) (.string r.nm)).1.stored (i * 3 + 1) r.v).1).stored (i * 3 + 2) (.int .i64 r.sure)).1
    rw [rows_set L i r hi] at this
    simpa using this
  · intro r' hr'
    rcases List.mem_or_eq_of_mem_set hr' with hr' | rfl
    · exact hw r' (h.ow r' hr')
    · exact hw r' hr
theorem RefAt.keep {base : Nat} {w w' : World} {m : Nat} {lv : Value} {L : List Rf} (h : RefAt base w m lv L) {S : List Nat} (k : Kp S w w') (hm : m ∉ S) (hl : ∀ x, lv.ownBlock = some x → x ∉ S) (hr : ∀ r ∈ L, ∀ x, r.v.ownBlock = some x → x ∉ S) : RefAt base w' m lv L := by
  refine ⟨k.heap h.hd hm, ?_, fun r hr' => byt_kp (h.ow r hr') k (hr r hr'), Nat.le_trans h.lo k.size⟩
  refine ⟨h.own.1, ?_⟩
  rcases h.own.2 with h2 | ⟨g, cap, cur, e, h1, h2, h3⟩
  · exact .inl h2
  · exact .inr ⟨g, cap, cur, e, h1, k.heap h2 (hl g (by rw [e]; rfl)), h3⟩
theorem RefAt.keep0 {base : Nat} {w w' : World} {m : Nat} {lv : Value} {L : List Rf} (h : RefAt base w m lv L) (k : Kp [] w w') : RefAt base w' m lv L := h.keep k (by simp) (by simp) (by simp)
theorem own_low {w : World} {b b' n : Nat} {v : Value} {xs : List Value} (h : w.ownsRow b 5 1 v n xs) (hb : b' ≤ b) : w.ownsRow b' 5 1 v n xs := by
  refine ⟨h.1, ?_⟩
  rcases h.2 with h | ⟨g, cap, cur, e, h1, h2⟩
  · exact .inl h
  · exact .inr ⟨g, cap, cur, e, Nat.le_trans hb h1, h2⟩
set_option maxHeartbeats 1000000 in
theorem refSet_old (w : World) (base m n k c i : Nat) (lv : Value) (L : List Rf) (h : RefAt base w m lv L) (hl : L.length = n) (hn : n ≤ 1000) (s : ByteArray) (r : Rf) (hi : L[i]? = some r) (hrs : r.nm = s) (hu : ∀ j r', L[j]? = some r' → r'.nm = s → j = i)
    (A : Option Addr) (bs : List Int) (hr : RdG 1 w (.slice A k c) k (byt bs)) (hbl : bs.length = k) (hk : k ≤ 1048576) (u : Int) :
    Calls Tryz.prog 50 #[.pointer (some ⟨m, 0, none⟩), .string s, .slice A k c, .int .i64 u] w fun e w' => e = .returned (.int .i64 0) ∧ ∃ v', (∀ x, v'.ownBlock = some x → w.heap.size ≤ x) ∧ RefAt base w' m lv (L.set i ⟨s, v', bs, u⟩) ∧ Kp lv.ownBlock.toList w w' := by
  have HT := Lib.hid (refAt_any w base m n lv L h hl hn s)
  have HB := Lib.hid (refBurn w base m lv L h)
  have c0 := cell_of_heap h.hd 0
  obtain ⟨A1, c1, rfl, hc, hcell⟩ := h.slice hl
  obtain ⟨g, rfl, hc0, hc1, hc2, hfz⟩ := hcell i r hi
  have hin : i < n := by rw [← hl]; exact (List.getElem?_eq_some_iff.1 hi).1
  have hk1 : ¬ ((1048576 : Int) < (k : Int)) := by omega
  have HI := Lib.hid hi
  have HU := Lib.hid hu
  have HRS := Lib.hid hrs
  have HH := Lib.hid h
  have HR := Lib.hid hr
  have HL := Lib.hid hl
  have HC0 := Lib.hid hc0
  have HC1 := Lib.hid hc1
  have HC2 := Lib.hid hc2
  have HFZ := Lib.hid hfz
  clear h hi hu hrs hr hcell hc1 hc2 hfz hc0 hl
  go_enter Tryz.func50, Tryz.ntmps50
  go_wp2_with fail
  refine HT.out.mono ?_
  rintro e w' ⟨hcase, rfl⟩
  rcases hcase with ⟨j, r', hj, hjs, rfl⟩ | ⟨hno, _⟩
  · have hji := HU.out j r' hj hjs
    subst hji
    clear hj hjs
    go_wp2_with (first | (go_at_call 73; refine HB.out.mono ?_; rintro e w' ⟨rfl, rfl⟩) | (at_builtin; refine wpAppendG rfl (.const (.slice none 0 0)) (.tmp 35) 22 5 1 1 _ rfl Tryz.underlying22 info5 rfl (by omega) w.heap.size (.slice none 0 0) 0 [] rfl (World.ownsRow_nil _ _ _ _) _ k (byt bs) rfl HR.out (byt_one _) (by omega) (by omega) (Nat.le_refl _) ?_; intro v' w1 hown1 hg1 hat1; obtain ⟨A2, c2, rfl⟩ := own_form hown1))
    have k1 : Kp [] w w1 := Kp.grown (S := []) hg1 (by simp [Value.ownBlock])
    have k2 : Kp [] w (w1.alloc (.cells #[.string s, .slice A2 k c2, .int .i64 u] 105)) := k1.trans (Kp.alloc [] _ _) (by simp)
    have g2 := heap_new w1 (.cells #[.string s, .slice A2 k c2, .int .i64 u] 105)
    have hh2 := HH.out.keep0 k2
    have ho2 := own_low (hown1.alloc (.cells #[.string s, .slice A2 k c2, .int .i64 u] 105)) HH.out.lo
    have hnb : ∀ x, (Value.slice A2 k c2).ownBlock = some x → w.heap.size ≤ x := fun x hx => (hown1.lt x (by simpa using hx)).1
    generalize w1.alloc (.cells #[.string s, .slice A2 k c2, .int .i64 u] 105) = W at k2 g2 hh2 ho2 ⊢
    have hgl := World.block_lt_of_cell? _ _ HC0.out
    have hml := World.block_lt_of_cell? _ _ c0
    have d0 := (k2.cell (p := ⟨m, 0, none⟩) hml (by simp)).trans c0
    have t0 := cell_of_heap g2 0
    have t1 := cell_of_heap g2 1
    have t2 := cell_of_heap g2 2
    have p0 := (k2.cell (p := ⟨g, j * 3, none⟩) hgl (by simp)).trans HC0.out
    have p1 := (k2.cell (p := ⟨g, j * 3 + 1, none⟩) hgl (by simp)).trans HC1.out
    have p2 := (k2.cell (p := ⟨g, j * 3 + 2, none⟩) hgl (by simp)).trans HC2.out
    have f0 := (k2.frozen (p := ⟨g, j * 3, none⟩) hgl (by simp)).trans (HFZ.out _)
    have f1 := (k2.frozen (p := ⟨g, j * 3 + 1, none⟩) hgl (by simp)).trans (HFZ.out _)
    have f2 := (k2.frozen (p := ⟨g, j * 3 + 2, none⟩) hgl (by simp)).trans (HFZ.out _)
    have HO2 := Lib.hid ho2
    have HH2 := Lib.hid hh2
    have HNB := Lib.hid hnb
    have HK2 := Lib.hid k2
    clear c0 hown1 hg1 hat1 k1 k2 g2 hh2 ho2 hnb
    go_region
    go_wp2
    go_ret
    have hln := HL.out
    subst hln
    have hfin := (RefAt.setFile HH2.out (i := j) hin ⟨s, .slice A2 k c2, bs, u⟩ (by simp only [hbl]; simpa using HO2.out)).keep0 (Kp.drew [] _)
    refine ⟨rfl, .slice A2 k c2, HNB.out, hfin, (HK2.out.mono (by simp)).trans ((((Kp.setCell (S := [g]) _ _ (by simp) _).trans (Kp.setCell (S := [g]) _ _ (by simp) _) (by simp)).trans (Kp.setCell (S := [g]) _ _ (by simp) _) (by simp)).trans (Kp.drew [] _) (by simp)) (by simp [Value.ownBlock])⟩
  · exact absurd HRS.out (hno r (List.mem_of_getElem? HI.out))
end Go.Proofs.YtmboklllkdlmgaaGreatDoor
