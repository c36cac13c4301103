/-
  Lift of the chapter's disk without a loss, walked: where all is sure it holds what it held. Conditions: helper lemmas.
-/
import Derived.Test.YtmboklllkdlmgaaGreatDoorCJ
namespace Go.Proofs.YtmboklllkdlmgaaGreatDoor
open Go.RowKit Go.MapKept
set_option maxRecDepth 100000
theorem RefAt.setAt {base : Nat} {w : World} {m g n c : Nat} {L L' : List Rf} (h : RefAt base w m (.slice (some ⟨g, 0, none⟩) n c) L) (hn : L.length = n) (j : Nat) (u : Value) (hr : (rows L).set j u = rows L') (hl : L'.length = L.length) (how : ∀ r ∈ L', w.ownsRow base 5 1 r.v r.zs.length (byt r.zs)) :
    RefAt base (w.setCell ⟨g, j, none⟩ u) m (.slice (some ⟨g, 0, none⟩) n c) L' := by
  have hne : ∀ {b : Nat} {cs : Array Value} {t : TypeId}, w.heap[b]? = some (.cells cs t (0, 0)) → t ≠ 105 → b ≠ g := by
    intro b cs t hb ht e
    subst e
    exact own_ne h.own hb ht rfl
  refine ⟨heap_far h.hd (hne h.hd (by decide)) _, ?_, fun r hr' => ?_, by simpa [World.setCell] using h.lo⟩
  · have h1 := h.own
    rw [hn] at h1
    have := (h1.stored j u).1
    rw [hr] at this
    rw [hl, hn]
    exact this
  · have ho := how r hr'
    have hb : r.v.ownBlock ≠ some g := by
      intro e
      rcases ho.2 with ⟨e1, _⟩ | ⟨g', cap, cur, e1, _, hg, _⟩
      · rw [e1] at e
        cases e
      · rw [e1] at e
        have : g' = g := by simpa [Value.ownBlock] using e
        subst this
        exact hne hg (by decide) rfl
    exact ownsRow_setCell_other ho hb _
theorem rows_setV (L : List Rf) (i : Nat) (r : Rf) (hi : L[i]? = some r) (v : Value) : (rows L).set (i * 3 + 1) v = rows (L.set i { r with v := v }) := by
  induction L generalizing i with
  | nil => simp at hi
  | cons a L ih =>
    rw [rows_cons]
    cases i with
    | zero =>
      simp at hi
      subst hi
      simp [Rf.cells, rows_cons]
    | succ i =>
      simp at hi
      rw [List.set_cons_succ, rows_cons, ← ih i hi, List.set_append_right _ _ (by simp [Rf.cells]; omega)]
      congr 2
      simp [Rf.cells]
      omega
theorem rows_same {L : List Rf} {i : Nat} {r : Rf} (hi : L[i]? = some r) (j : Nat) (hj : j < 3) {u : Value} (hu : r.cells[j]? = some u) : (rows L).set (i * 3 + j) u = rows L := by
  have h := rows_at hi j hj
  rw [hu] at h
  obtain ⟨hl, h⟩ := List.getElem?_eq_some_iff.1 h
  rw [← h]
  exact List.set_getElem_self hl
theorem contR_setV {L : List Rf} {i : Nat} {r : Rf} (hi : L[i]? = some r) (v : Value) : contR (L.set i { r with v := v }) = contR L := by
  obtain ⟨hl, rfl⟩ := List.getElem?_eq_some_iff.1 hi
  simp only [contR, List.map_set]
  refine List.ext_getElem? fun j => ?_
  by_cases hj : i = j
  · subst hj
    rw [List.getElem?_set_self (by simpa using hl)]
    simp [List.getElem?_eq_getElem hl]
  · rw [List.getElem?_set_ne hj]
/-- Lift under way. -/
structure LiftR (base : Nat) (w wr : World) (m : Nat) (lv : Value) (L L2 : List Rf) : Prop where
  at_ : RefAt base wr m lv L2
  ct : contR L2 = contR L
  sr : ∀ r ∈ L2, r.sure = r.zs.length
  kp : Kp (m :: lv.ownBlock.toList) w wr
theorem LiftR.next {base : Nat} {w wr w1 : World} {m g n c i : Nat} {L L2 : List Rf} (h : LiftR base w wr m (.slice (some ⟨g, 0, none⟩) n c) L L2) (k1 : Kp [] wr w1) (hn : L2.length = n) {r : Rf} (hi : L2[i]? = some r) (v : Value) (ho : w1.ownsRow wr.heap.size 5 1 v r.zs.length (byt r.zs)) :
    LiftR base w ((w1.setCell ⟨g, i * 3 + 1, none⟩ v).setCell ⟨g, i * 3 + 2, none⟩ (.int .i64 (r.zs.length : Int))) m (.slice (some ⟨g, 0, none⟩) n c) L (L2.set i { r with v := v }) := by
  have hat := h.at_.keep0 k1
  have hil := (List.getElem?_eq_some_iff.1 hi).1
  have hmem := List.mem_of_getElem? hi
  have hsr := h.sr r hmem
  have how : ∀ r' ∈ L2.set i { r with v := v }, w1.ownsRow base 5 1 r'.v r'.zs.length (byt r'.zs) := by
    intro r' hr'
    rcases List.mem_or_eq_of_mem_set hr' with hr' | rfl
    · exact hat.ow r' hr'
    · exact own_low ho h.at_.lo
  have s1 := hat.setAt hn (i * 3 + 1) v (rows_setV L2 i r hi v) (by simp) how
  have hi2 : (L2.set i { r with v := v })[i]? = some { r with v := v } := by rw [List.getElem?_set_self hil]
  have s2 := s1.setAt (by simpa using hn) (i * 3 + 2) (.int .i64 (r.zs.length : Int)) (rows_same hi2 2 (by omega) (by simp [Rf.cells, hsr])) rfl s1.ow
  refine ⟨s2, by rw [contR_setV hi, h.ct], ?_, ?_⟩
  · intro r' hr'
    rcases List.mem_or_eq_of_mem_set hr' with hr' | rfl
    · exact h.sr r' hr'
    · exact hsr
  · exact ((h.kp.trans k1 (by simp)).trans (Kp.setCell (S := [g]) _ _ (by simp) _) (by simp [Value.ownBlock])).trans (Kp.setCell (S := [g]) _ _ (by simp) _) (by simp [Value.ownBlock])
theorem LiftR.fin {base : Nat} {w wr : World} {m : Nat} {lv : Value} {L L2 : List Rf} (h : LiftR base w wr m lv L L2) :
    LiftR base w (((wr.setCell ⟨m, 3, none⟩ (.bool false)).setCell ⟨m, 1, none⟩ (.bool false)).setCell ⟨m, 2, none⟩ (.int .i64 0)) m lv L L2 := by
  have hk : Kp [m] wr (((wr.setCell ⟨m, 3, none⟩ (.bool false)).setCell ⟨m, 1, none⟩ (.bool false)).setCell ⟨m, 2, none⟩ (.int .i64 0)) :=
    ((Kp.setCell (S := [m]) _ _ (by simp) _).trans (Kp.setCell (S := [m]) _ _ (by simp) _) (by simp)).trans (Kp.setCell (S := [m]) _ _ (by simp) _) (by simp)
  have hh : (((wr.setCell ⟨m, 3, none⟩ (.bool false)).setCell ⟨m, 1, none⟩ (.bool false)).setCell ⟨m, 2, none⟩ (.int .i64 0)).heap[m]? = some (.cells #[lv, .bool false, .int .i64 0, .bool false] 54 (0, 0)) := by
    have h1 : (wr.setCell ⟨m, 3, none⟩ (.bool false)).heap[m]? = some (.cells #[lv, .bool false, .int .i64 0, .bool false] 54 (0, 0)) := heap_set h.at_.hd 3 _
    have h2 : ((wr.setCell ⟨m, 3, none⟩ (.bool false)).setCell ⟨m, 1, none⟩ (.bool false)).heap[m]? = some (.cells #[lv, .bool false, .int .i64 0, .bool false] 54 (0, 0)) := heap_set h1 1 _
    exact heap_set h2 2 _
  have hnl : ∀ x, lv.ownBlock = some x → x ∉ [m] := by
    intro x hx hxm
    rw [List.mem_singleton.1 hxm] at hx
    exact own_ne h.at_.own h.at_.hd (by decide) hx.symm
  refine ⟨⟨hh, ?_, fun r hr => byt_kp (h.at_.ow r hr) hk (fun x hx hxm => ?_), Nat.le_trans h.at_.lo hk.size⟩, h.ct, h.sr, h.kp.trans hk (by simp)⟩
  · refine ⟨h.at_.own.1, ?_⟩
    rcases h.at_.own.2 with h2 | ⟨g, cap, cur, e, h1, h2, h3⟩
    · exact .inl h2
    · exact .inr ⟨g, cap, cur, e, h1, hk.heap h2 (hnl g (by rw [e]; rfl)), h3⟩
  · rw [List.mem_singleton.1 hxm] at hx
    exact own_ne (h.at_.ow r hr) h.at_.hd (by decide) hx.symm
set_option maxHeartbeats 2000000 in
theorem refLift (w : World) (base m n : Nat) (lv : Value) (L : List Rf) (h : RefAt base w m lv L) (hl : L.length = n) (hn : n ≤ 16) (hs : ∀ r ∈ L, r.sure = r.zs.length) (hz : ∀ r ∈ L, r.zs.length ≤ 1048576) :
    Calls Tryz.prog 19 #[.pointer (some ⟨m, 0, none⟩), .slice none 0 0] w fun e w' => e = .returned (.tuple #[]) ∧ ∃ L2, LiftR base w w' m lv L L2 := by
  have hT0 : LiftR base w w m lv L L := ⟨h, rfl, hs, Kp.refl _ _⟩
  have HT0 := Lib.hid hT0
  obtain ⟨A1, c1, rfl, hc, -⟩ := h.slice hl
  have HZ := Lib.hid hz
  have HL := Lib.hid hl
  have HML := Lib.hid (lt_of_heap h.hd)
  have c0 := cell_of_heap h.hd 0
  clear h hs hz hl hT0
  go_enter Tryz.func19, Tryz.ntmps19
  go_wp2
  clear c0
  go_loopw [4] (fun t wr => ∃ (i : Nat) (L2 : List Rf), t = .int .i64 i ∧ i ≤ n ∧ LiftR base w wr m (.slice A1 n c1) L L2) (fun t _ => n - (intOf t).toNat)
  case atStart => exact ⟨0, _, rfl, Nat.zero_le _, HT0.out⟩
  case round =>
    obtain ⟨i, L2, rfl, hi, hT⟩ := hrel
    have hl2 : L2.length = n := by
      have := congrArg List.length hT.ct
      simpa [contR, HL.out] using this
    have m0 := cell_of_heap hT.at_.hd 0
    obtain ⟨A1', c1', he, hc', hcell⟩ := hT.at_.slice hl2
    injection he with he1 _ he3
    subst he1 he3
    have HT := Lib.hid hT
    have HL2 := Lib.hid hl2
    clear hT HT0 hl2
    by_cases hlt : i < n
    · have hil : i < L2.length := by rw [HL2.out]; exact hlt
      have hLi : L2[i]? = some L2[i] := List.getElem?_eq_getElem hil
      obtain ⟨g, hA1, hc0, hc1, hc2, hfz⟩ := hcell i L2[i] hLi
      subst hA1
      have hmem : L2[i] ∈ L2 := List.getElem_mem hil
      generalize L2[i] = r at hLi hc0 hc1 hc2 hmem
      have hov := HT.out.at_.ow r hmem
      obtain ⟨B, d, hv⟩ := own_form hov
      rw [hv] at hc1
      rw [HT.out.sr r hmem] at hc2
      have hzr : r.zs.length ≤ 1048576 := by
        have h1 : (r.nm, r.zs) ∈ contR L := by rw [← HT.out.ct]; exact List.mem_map.2 ⟨r, hmem, rfl⟩
        obtain ⟨r0, hr0, e⟩ := List.mem_map.1 h1
        have e1 : r0.zs = r.zs := congrArg Prod.snd e
        rw [← e1]
        exact HZ.out r0 hr0
      have hd : r.zs.length ≤ d := by
        rcases hov.2 with ⟨e, h0⟩ | ⟨g', cap, cur, e, _, _, h1, _⟩
        · omega
        · rw [hv] at e
          injection e with _ _ e
          omega
      have HOV := Lib.hid (own_rdG hov)
      rw [hv] at HOV
      have HGL := Lib.hid (World.block_lt_of_cell? _ _ hc0)
      have HML2 := Lib.hid (World.block_lt_of_cell? _ _ m0)
      have HLI := Lib.hid hLi
      have HMEM := Lib.hid hmem
      have HC1 := Lib.hid hc1
      have HFZ := Lib.hid hfz
      have HM0 := Lib.hid m0
      have HV := Lib.hid hv
      have HC2 := Lib.hid hc2
      clear hLi hmem hov hcell hc0 hfz hv
      go_wp2
      go_region_law (refine step_appendG rfl (.const (.slice none 0 0)) (.tmp 73) 22 5 1 1 _ rfl Tryz.underlying22 info5 rfl (by omega) wr.heap.size (.slice none 0 0) 0 [] rfl (World.ownsRow_nil _ _ _ _) _ r.zs.length (byt r.zs) rfl HOV.out (byt_one _) (by omega) (by omega) (Nat.le_refl _) ?_; intro v1 w1 hown1 hg1 hat1; obtain ⟨A2, c2, rfl⟩ := own_form hown1; have k1 : Kp [] wr w1 := (Kp.drew [] wr).trans (Kp.grown (S := []) hg1 (by simp [Value.ownBlock])) (by simp); have m1 := (k1.cell (p := ⟨m, 0, none⟩) HML2.out (by simp)).trans HM0.out; have g1 := (k1.cell (p := ⟨g, i * 3 + 1, none⟩) HGL.out (by simp)).trans HC1.out; have g2 := (k1.cell (p := ⟨g, i * 3 + 2, none⟩) HGL.out (by simp)).trans HC2.out; have f1 := (k1.frozen (p := ⟨g, i * 3 + 1, none⟩) HGL.out (by simp)).trans (HFZ.out _); have f2 := (k1.frozen (p := ⟨g, i * 3 + 2, none⟩) HGL.out (by simp)).trans (HFZ.out _))
      all_goals
        have HNX := Lib.hid (HT.out.next k1 HL2.out HLI.out (.slice A2 r.zs.length c2) (by simpa using hown1))
        clear k1 hown1 hg1 hat1
        go_wp2
        go_round
        case rel => exact ⟨i + 1, _, by go_num, by omega, HNX.out⟩
        case measure => simp [intOf]; omega
    · have hin : i = n := by omega
      subst hin
      have m1 := cell_of_heap HT.out.at_.hd 1
      have m2 := cell_of_heap HT.out.at_.hd 2
      have m3 := cell_of_heap HT.out.at_.hd 3
      have f1 := frozen_of_heap HT.out.at_.hd 1
      have f2 := frozen_of_heap HT.out.at_.hd 2
      have f3 := frozen_of_heap HT.out.at_.hd 3
      clear hcell
      go_wp2
      go_end0
      exact ⟨rfl, _, HT.out.fin⟩
end Go.Proofs.YtmboklllkdlmgaaGreatDoor
