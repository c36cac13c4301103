/-
  set of the chapter's disk, where the file is new, walked. Conditions: helper lemmas.
-/
import Derived.Test.YtmboklllkdlmgaaGreatDoorCG
import Derived.Sort.Walk0
namespace Go.Proofs.YtmboklllkdlmgaaGreatDoor
open Go.RowKit Go.MapKept
set_option maxRecDepth 100000
/-- Where a new name goes. -/
def placeR : List Rf → ByteArray → Nat
  | [], _ => 0
  | a :: L, s => if Op.bytesLess a.nm.toList s.toList = true then placeR L s + 1 else 0
theorem placeR_le (L : List Rf) (s : ByteArray) : placeR L s ≤ L.length := by
  induction L with
  | nil => exact Nat.le_refl _
  | cons a L ih =>
    rw [placeR]
    split
    · simpa using ih
    · exact Nat.zero_le _
theorem placeR_lt {L : List Rf} {s : ByteArray} {j : Nat} (hj : j < placeR L s) {r : Rf} (hr : L[j]? = some r) : Op.bytesLess r.nm.toList s.toList = true := by
  induction L generalizing j with
  | nil => simp at hr
  | cons a L ih =>
    rw [placeR] at hj
    split at hj
    · rename_i ha
      cases j with
      | zero =>
        simp at hr
        subst hr
        exact ha
      | succ j => exact ih (j := j) (Nat.lt_of_succ_lt_succ hj) (by simpa using hr)
    · omega
theorem placeR_at {L : List Rf} {s : ByteArray} {r : Rf} (hr : L[placeR L s]? = some r) : Op.bytesLess r.nm.toList s.toList = false := by
  induction L with
  | nil => simp at hr
  | cons a L ih =>
    rw [placeR] at hr
    split at hr
    · exact ih (by simpa using hr)
    · rename_i ha
      simp at hr
      subst hr
      simpa using ha
theorem rows_one (L : List Rf) (h : ∀ r ∈ L, r.v.oneCell' = true) : ∀ u ∈ rows L, u.oneCell' = true := by
  intro u hu
  obtain ⟨r, hr, hu⟩ := List.mem_flatMap.1 hu
  simp only [Rf.cells, List.mem_cons, List.not_mem_nil, or_false] at hu
  rcases hu with rfl | rfl | rfl
  · rfl
  · exact h r hr
  · rfl
theorem rows_take (L : List Rf) (i : Nat) : rows (L.take i) = (rows L).take (i * 3) := by
  induction L generalizing i with
  | nil => simp [rows]
  | cons a L ih =>
    cases i with
    | zero => simp [rows]
    | succ i =>
      have ha : a.cells.length = 3 := rfl
      rw [List.take_succ_cons, rows_cons, rows_cons, ih i, List.take_append, ha, show (i + 1) * 3 - 3 = i * 3 from by omega, List.take_of_length_le (l := a.cells) (by omega)]
theorem rows_drop (L : List Rf) (i : Nat) : rows (L.drop i) = (rows L).drop (i * 3) := by
  induction L generalizing i with
  | nil => simp [rows]
  | cons a L ih =>
    cases i with
    | zero => simp
    | succ i =>
      have ha : a.cells.length = 3 := rfl
      rw [List.drop_succ_cons, rows_cons, ih i, List.drop_append, ha, show (i + 1) * 3 - 3 = i * 3 from by omega, List.drop_of_length_le (l := a.cells) (by omega), List.nil_append]
theorem rdG_take {w : World} {b n c i : Nat} {A : Option Addr} {L : List Rf} (h : w.ownsRow b 105 3 (.slice A n c) n (rows L)) (hi : i ≤ n) : RdG 3 w (.slice A i c) i (rows (L.take i)) := by
  have hl : (rows L).length = n * 3 := h.1
  refine ⟨A, c, rfl, by rw [rows_take, List.length_take]; omega, fun e => ?_, fun ad e j u hu => ?_⟩
  · subst e
    rcases h.2 with ⟨e, h0⟩ | ⟨g, cap, cur, e, _⟩
    · injection e with _ e1 e2
      omega
    · cases e
  · subst e
    rcases h.2 with ⟨e, h0⟩ | ⟨g, cap, cur, e, _⟩
    · cases e
    · injection e with e _ _
      injection e with e
      subst e
      rw [rows_take] at hu
      have hj := (List.getElem?_eq_some_iff.1 hu).1
      simp at hj
      rw [List.getElem?_take_of_lt (by omega)] at hu
      exact h.cells (g := g) rfl j u hu
theorem rdG_lit (w : World) (r : Rf) : RdG 3 (w.alloc (.cells #[.string r.nm, r.v, .int .i64 r.sure] 105)) (.slice (some ⟨w.heap.size, 0, none⟩) 1 1) 1 r.cells := by
  refine ⟨_, _, rfl, rfl, by simp, fun ad e j u hu => ?_⟩
  injection e with e
  subst e
  rw [show (⟨w.heap.size, 0, none⟩ : Addr).add j = ⟨w.heap.size, j, none⟩ from by cases j <;> simp [Addr.add], cell_of_heap (heap_new w _) j]
  simpa [Rf.cells] using hu
theorem rdG_drop {w : World} {b n c g i : Nat} {L : List Rf} (h : w.ownsRow b 105 3 (.slice (some ⟨g, 0, none⟩) n c) n (rows L)) (hi : i < n) : RdG 3 w (.slice (some ⟨g, i * 3, none⟩) (n - i) (c - i)) (n - i) (rows (L.drop i)) := by
  have hl : (rows L).length = n * 3 := h.1
  refine ⟨_, _, rfl, by rw [rows_drop, List.length_drop]; omega, by simp, fun ad e j u hu => ?_⟩
  injection e with e
  subst e
  rw [rows_drop, List.getElem?_drop] at hu
  have := h.cells (g := g) rfl (i * 3 + j) u hu
  rw [show (⟨g, 0, none⟩ : Addr).add (i * 3 + j) = ⟨g, i * 3 + j, none⟩ from by
    by_cases h0 : i * 3 + j = 0
    · rw [h0]; simp [Addr.add]
    · rw [Addr.add, if_neg h0]; simp] at this
  rw [show (⟨g, i * 3, none⟩ : Addr).add j = ⟨g, i * 3 + j, none⟩ from by
    cases j
    · simp [Addr.add]
    · simp [Addr.add]]
  exact this
theorem rdG_zero (w : World) (A : Option Addr) (c : Nat) (hc : A = none → c = 0) : RdG 3 w (.slice A 0 c) 0 [] := ⟨A, c, rfl, rfl, fun e => ⟨rfl, hc e⟩, by simp⟩
theorem refNew_end {base m i n : Nat} {W w5 : World} {lv lv5 : Value} {L : List Rf} {r : Rf} (hh : RefAt base W m lv L) (k5 : Kp [] W w5) (hl : L.length = n) (hi : i ≤ n) (h5 : w5.ownsRow W.heap.size 105 3 lv5 (i + 1 + (n - i)) ((rows (L.take i) ++ r.cells) ++ rows (L.drop i)))
    (hr : W.ownsRow base 5 1 r.v r.zs.length (byt r.zs)) : RefAt base (w5.setCell ⟨m, 0, none⟩ lv5) m lv5 (L.take i ++ r :: L.drop i) ∧ Kp [m] W (w5.setCell ⟨m, 0, none⟩ lv5) := by
  have hk : Kp [m] W (w5.setCell ⟨m, 0, none⟩ lv5) := (k5.mono (by simp)).trans (Kp.setCell (S := [m]) _ _ (by simp) _) (by simp)
  have hml := lt_of_heap hh.hd
  have how : ∀ r' : Rf, W.ownsRow base 5 1 r'.v r'.zs.length (byt r'.zs) → (w5.setCell ⟨m, 0, none⟩ lv5).ownsRow base 5 1 r'.v r'.zs.length (byt r'.zs) := by
    intro r' ho
    refine byt_kp ho hk (fun x hx hxm => ?_)
    rw [List.mem_singleton.1 hxm] at hx
    exact own_ne ho hh.hd (by decide) hx.symm
  refine ⟨⟨heap_set (k5.heap hh.hd (by simp)) 0 lv5, ?_, ?_, Nat.le_trans hh.lo hk.size⟩, hk⟩
  · have h6 := ownsRow_setCell_below h5 (a := ⟨m, 0, none⟩) hml lv5
    refine ⟨?_, ?_⟩
    · rw [rows_len]
    · have e1 : (L.take i ++ r :: L.drop i).length = i + 1 + (n - i) := by simp; omega
      have e2 : rows (L.take i ++ r :: L.drop i) = (rows (L.take i) ++ r.cells) ++ rows (L.drop i) := by rw [rows_append, rows_cons, List.append_assoc]
      rw [e1, e2]
      rcases h6.2 with h | ⟨g, cap, cur, e, h1, h2⟩
      · exact .inl h
      · exact .inr ⟨g, cap, cur, e, Nat.le_trans hh.lo h1, h2⟩
  · intro r' hr'
    rcases List.mem_append.1 hr' with hr' | hr'
    · exact how r' (hh.ow r' (List.mem_of_mem_take hr'))
    · rcases List.mem_cons.1 hr' with rfl | hr'
      · exact how _ hr
      · exact how r' (hh.ow r' (List.mem_of_mem_drop hr'))
set_option maxHeartbeats 1000000 in
theorem refSet_new (w : World) (base m n k c : Nat) (lv : Value) (L : List Rf) (h : RefAt base w m lv L) (hl : L.length = n) (hn : n < 16) (s : ByteArray) (hno : ∀ r ∈ L, r.nm ≠ s)
    (A : Option Addr) (bs : List Int) (hr : RdG 1 w (.slice A k c) k (byt bs)) (hbl : bs.length = k) (hk : k ≤ 1048576) (u : Int) :
    Calls Tryz.prog 50 #[.pointer (some ⟨m, 0, none⟩), .string s, .slice A k c, .int .i64 u] w fun e w' => e = .returned (.int .i64 0) ∧ ∃ lv' v', (∀ x, lv'.ownBlock = some x → w.heap.size ≤ x) ∧ (∀ x, v'.ownBlock = some x → w.heap.size ≤ x) ∧ RefAt base w' m lv' (L.take (placeR L s) ++ ⟨s, v', bs, u⟩ :: L.drop (placeR L s)) ∧ Kp [m] w w' := by
  have HT := Lib.hid (refAt_any w base m n lv L h hl (by omega) s)
  have HB := Lib.hid (refBurn w base m lv L h)
  have c0 := cell_of_heap h.hd 0
  have fm := frozen_of_heap h.hd 0
  obtain ⟨A1, c1, rfl, hc, hcell⟩ := h.slice hl
  have hk1 : ¬ ((1048576 : Int) < (k : Int)) := by omega
  have h161 : ¬ ((16 : Int) ≤ (n : Int)) := by omega
  have HNO := Lib.hid hno
  have HH := Lib.hid h
  have HR := Lib.hid hr
  have HL := Lib.hid hl
  have HC := Lib.hid hcell
  clear h hr hcell hl hno
  go_enter Tryz.func50, Tryz.ntmps50
  go_wp2_with fail
  refine HT.out.mono ?_
  rintro e w' ⟨hcase, rfl⟩
  rcases hcase with ⟨j, r', hj, hjs, rfl⟩ | ⟨_, rfl⟩
  · exact absurd hjs (HNO.out r' (List.mem_of_getElem? hj))
  · go_wp2_with (first | (go_at_call 73; refine HB.out.mono ?_; rintro e w' ⟨rfl, rfl⟩) | (at_builtin; refine wpAppendG rfl (.const (.slice none 0 0)) (.tmp 35) 22 5 1 1 _ rfl Tryz.underlying22 info5 rfl (by omega) w.heap.size (.slice none 0 0) 0 [] rfl (World.ownsRow_nil _ _ _ _) _ k (byt bs) rfl HR.out (byt_one _) (by omega) (by omega) (Nat.le_refl _) ?_; intro v' w1 hown1 hg1 hat1; obtain ⟨A2, c2, rfl⟩ := own_form hown1))
    have k1 : Kp [] w w1 := Kp.grown (S := []) hg1 (by simp [Value.ownBlock])
    have k2 : Kp [] w (w1.alloc (.cells #[.string s, .slice A2 k c2, .int .i64 u] 105)) := k1.trans (Kp.alloc [] _ _) (by simp)
    have g2 := heap_new w1 (.cells #[.string s, .slice A2 k c2, .int .i64 u] 105)
    have hh2 := HH.out.keep0 k2
    have ho2 := own_low (hown1.alloc (.cells #[.string s, .slice A2 k c2, .int .i64 u] 105)) HH.out.lo
    have hnb : ∀ x, (Value.slice A2 k c2).ownBlock = some x → w.heap.size ≤ x := fun x hx => (hown1.lt x (by simpa using hx)).1
    have HSZ := Lib.hid (lt_of_heap g2)
    generalize w1.alloc (.cells #[.string s, .slice A2 k c2, .int .i64 u] 105) = W at k2 g2 hh2 ho2 HSZ ⊢
    have hml := World.block_lt_of_cell? _ _ c0
    have d0 := (k2.cell (p := ⟨m, 0, none⟩) hml (by simp)).trans c0
    have HO2 := Lib.hid ho2
    have HH2 := Lib.hid hh2
    have HNB := Lib.hid hnb
    have HK2 := Lib.hid k2
    have HG2 := Lib.hid g2
    clear c0 hown1 hg1 hat1 k1 k2 g2 hh2 ho2 hnb
    have hpl : placeR L s ≤ n := by rw [← HL.out]; exact placeR_le L s
    have HPT := Lib.hid (fun j (hj : j < placeR L s) r (hr : L[j]? = some r) => placeR_lt hj hr)
    have HPA := Lib.hid (fun r (hr : L[placeR L s]? = some r) => placeR_at hr)
    obtain ⟨p, hp⟩ : ∃ p, placeR L s = p := ⟨_, rfl⟩
    rw [hp] at hpl HPT HPA
    have HP := Lib.hid hp
    clear hp
    go_loop [11] (fun t => ∃ i : Nat, t = .int .i64 i ∧ i ≤ p) (fun t => n - (intOf t).toNat)
    case atStart => exact ⟨0, rfl, Nat.zero_le _⟩
    case round =>
      obtain ⟨i, rfl, hi⟩ := hrel
      by_cases hip : i < p
      · have hlt : i < n := by omega
        have hil : i < L.length := by rw [HL.out]; exact hlt
        obtain ⟨g, hA1, hc0, hc1, hc2, _⟩ := HC.out i L[i] (List.getElem?_eq_getElem hil)
        subst hA1
        have hgl := World.block_lt_of_cell? _ _ hc0
        have q0 := (HK2.out.cell (p := ⟨g, i * 3, none⟩) hgl (by simp)).trans hc0
        have hb := HPT.out i hip L[i] (List.getElem?_eq_getElem hil)
        generalize L[i] = r at q0 hb hc0 hc1 hc2
        clear hc0 hc1 hc2
        go_wp2
        go_round
        case rel => exact ⟨i + 1, by go_num, by omega⟩
        case measure => simp [intOf]; omega
      · have hip' : i = p := by omega
        subst hip'
        have hexit : (∃ g r, A1 = some ⟨g, 0, none⟩ ∧ W.cell? ⟨g, i * 3, none⟩ = some (.string r) ∧ Op.bytesLess r.toList s.toList = false ∧ i < n) ∨ i = n := by
          by_cases hlt : i < n
          · have hil : i < L.length := by rw [HL.out]; exact hlt
            obtain ⟨g, hA1, hc0, _⟩ := HC.out i L[i] (List.getElem?_eq_getElem hil)
            exact .inl ⟨g, _, hA1, (HK2.out.cell (p := ⟨g, i * 3, none⟩) (World.block_lt_of_cell? _ _ hc0) (by simp)).trans hc0, HPA.out _ (List.getElem?_eq_getElem hil), hlt⟩
          · exact .inr (by omega)
        have ho2 := HH2.out.own
        rw [HL.out] at ho2
        have HTK := Lib.hid (rdG_take ho2 (i := i) (by omega))
        have HONE := Lib.hid (fun r (hr : r ∈ L) => (show r.v.oneCell' = true by
          obtain ⟨_, _, e⟩ := own_form (HH2.out.ow r hr)
          rw [e]
          rfl))
        have HHH := Lib.hid HH2.out
        clear ho2
        have HOL := Lib.hid (show W.ownsRow base 105 3 (.slice A1 n c1) n (rows L) by have := HHH.out.own; rwa [HL.out] at this)
        rcases hexit with ⟨g, r, rfl, q0, hb, hlt⟩ | rfl
        · go_wp2_with (first | (at_builtin; refine wpAppendG rfl (.tmp 69) (.tmp 75) 52 105 3 48 _ rfl Tryz.underlying52 info105 rfl (by omega) W.heap.size (.slice none 0 0) 0 [] rfl (World.ownsRow_nil _ _ _ _) _ i (rows (L.take i)) rfl HTK.out (rows_one _ (fun r hr => HONE.out r (List.mem_of_mem_take hr))) (by omega) (by omega) (Nat.le_refl _) ?_; intro v3 w3 hown3 hg3 hat3; obtain ⟨A3, c3, rfl⟩ := own_form hown3; have k3 : Kp [] W w3 := Kp.grown (S := []) hg3 (by simp [Value.ownBlock]); have G3 := k3.heap HG2.out (by simp); have t0 := cell_of_heap G3 0; have t1 := cell_of_heap G3 1; have t2 := cell_of_heap G3 2) | (at_builtin; refine wpAppendG rfl (.tmp 77) (.tmp 79) 52 105 3 48 _ rfl Tryz.underlying52 info105 rfl (by omega) W.heap.size (.slice A3 i c3) i (rows (L.take i)) rfl (by simpa using hown3.alloc _) _ 1 (Rf.cells ⟨s, .slice A2 k c2, bs, u⟩) rfl (rdG_lit w3 ⟨s, .slice A2 k c2, bs, u⟩) (by simp [Rf.cells, Value.oneCell']) (by omega) (by omega) (Nat.le_trans k3.size (Kp.alloc [] w3 (.cells #[.string s, .slice A2 k c2, .int .i64 u] 105)).size) ?_; intro v4 w4 hown4 hg4 hat4; obtain ⟨A4, c4, rfl⟩ := own_form hown4; have k4 : Kp [] W w4 := Kp.app (k3.trans (Kp.alloc [] w3 (.cells #[.string s, .slice A2 k c2, .int .i64 u] 105)) (by simp)) (by simpa using hown3.alloc (.cells #[.string s, .slice A2 k c2, .int .i64 u] 105)) hg4; have M4 := k4.heap HHH.out.hd (by simp); have mc4 := cell_of_heap M4 0; have mf4 := frozen_of_heap M4 0) | (at_builtin; refine wpAppendG rfl (.tmp 82) (.tmp 88) 52 105 3 48 _ rfl Tryz.underlying52 info105 rfl (by omega) W.heap.size (.slice A4 (i + 1) c4) (i + 1) (rows (L.take i) ++ Rf.cells ⟨s, .slice A2 k c2, bs, u⟩) rfl hown4 _ (n - i) (rows (L.drop i)) rfl ((rdG_drop HOL.out hlt).kp k4 (by simp)) (rows_one _ (fun r hr => HONE.out r (List.mem_of_mem_drop hr))) (by omega) (by omega) k4.size ?_; intro v5 w5 hown5 hg5 hat5; obtain ⟨A5, c5, rfl⟩ := own_form hown5; have k5 : Kp [] W w5 := Kp.app k4 (by simpa using hown4) hg5; have M5 := k5.heap HHH.out.hd (by simp); have mc5 := cell_of_heap M5 0; have mf5 := frozen_of_heap M5 0; have HFIN := Lib.hid (refNew_end (r := ⟨s, .slice A2 k c2, bs, u⟩) HHH.out k5 HL.out (by omega) hown5 (by simpa [hbl] using HO2.out)); have HW5 := Lib.hid (fun x hx => (hown5.lt x hx).1)))
          go_wp2
          go_ret
          have hkk := (HK2.out.mono (T := [m]) (by simp)).trans HFIN.out.2 (fun x hx => .inl hx)
          rw [HP.out]
          exact ⟨rfl, .slice A5 (i + 1 + (n - i)) c5, fun x hx => Nat.le_trans HK2.out.size (HW5.out x hx), .slice A2 k c2, HNB.out, HFIN.out.1, hkk⟩
        · have hA1 : (A1 = none ∧ i = 0 ∧ c1 = 0) ∨ ∃ g, A1 = some ⟨g, 0, none⟩ := by
            rcases HOL.out.2 with ⟨e, h0⟩ | ⟨g, cap, cur, e, _⟩
            · injection e with e1 e2 e3
              exact .inl ⟨e1, e2, e3⟩
            · injection e with e1 _ _
              exact .inr ⟨g, e1⟩
          have HZ := Lib.hid (fun w (B : Option Addr) (cc : Nat) (hc : B = none → cc = 0) => rdG_zero w B cc hc)
          rcases hA1 with ⟨rfl, rfl, rfl⟩ | ⟨g, rfl⟩
          · go_wp2_with (first | (at_builtin; refine wpAppendG rfl (.tmp 69) (.tmp 75) 52 105 3 48 _ rfl Tryz.underlying52 info105 rfl (by omega) W.heap.size (.slice none 0 0) 0 [] rfl (World.ownsRow_nil _ _ _ _) _ 0 (rows (L.take 0)) rfl HTK.out (rows_one _ (fun r hr => HONE.out r (List.mem_of_mem_take hr))) (by omega) (by omega) (Nat.le_refl _) ?_; intro v3 w3 hown3 hg3 hat3; obtain ⟨A3, c3, rfl⟩ := own_form hown3; have k3 : Kp [] W w3 := Kp.grown (S := []) hg3 (by simp [Value.ownBlock]); have G3 := k3.heap HG2.out (by simp); have t0 := cell_of_heap G3 0; have t1 := cell_of_heap G3 1; have t2 := cell_of_heap G3 2) | (at_builtin; refine wpAppendG rfl (.tmp 77) (.tmp 79) 52 105 3 48 _ rfl Tryz.underlying52 info105 rfl (by omega) W.heap.size (.slice A3 0 c3) 0 (rows (L.take 0)) rfl (by simpa using hown3.alloc _) _ 1 (Rf.cells ⟨s, .slice A2 k c2, bs, u⟩) rfl (rdG_lit w3 ⟨s, .slice A2 k c2, bs, u⟩) (by simp [Rf.cells, Value.oneCell']) (by omega) (by omega) (Nat.le_trans k3.size (Kp.alloc [] w3 (.cells #[.string s, .slice A2 k c2, .int .i64 u] 105)).size) ?_; intro v4 w4 hown4 hg4 hat4; obtain ⟨A4, c4, rfl⟩ := own_form hown4; have k4 : Kp [] W w4 := Kp.app (k3.trans (Kp.alloc [] w3 (.cells #[.string s, .slice A2 k c2, .int .i64 u] 105)) (by simp)) (by simpa using hown3.alloc (.cells #[.string s, .slice A2 k c2, .int .i64 u] 105)) hg4; have M4 := k4.heap HHH.out.hd (by simp); have mc4 := cell_of_heap M4 0; have mf4 := frozen_of_heap M4 0) | (at_builtin; refine wpAppendG rfl (.tmp 82) (.tmp 88) 52 105 3 48 _ rfl Tryz.underlying52 info105 rfl (by omega) W.heap.size (.slice A4 (0 + 1) c4) (0 + 1) (rows (L.take 0) ++ Rf.cells ⟨s, .slice A2 k c2, bs, u⟩) rfl hown4 _ 0 [] rfl (HZ.out _ _ _ (by simp)) (by simp) (by omega) (by omega) k4.size ?_; intro v5 w5 hown5 hg5 hat5; obtain ⟨A5, c5, rfl⟩ := own_form hown5; have k5 : Kp [] W w5 := Kp.app k4 (by simpa using hown4) hg5; have M5 := k5.heap HHH.out.hd (by simp); have mc5 := cell_of_heap M5 0; have mf5 := frozen_of_heap M5 0; have HFIN := Lib.hid (refNew_end (r := ⟨s, .slice A2 k c2, bs, u⟩) HHH.out k5 HL.out (Nat.le_refl _) (by rw [Nat.sub_self, List.drop_of_length_le (by rw [HL.out]; exact Nat.le_refl _)]; exact hown5) (by simpa [hbl] using HO2.out)); have HW5 := Lib.hid (fun x hx => (hown5.lt x hx).1)))
            go_wp2
            go_ret
            have hkk := (HK2.out.mono (T := [m]) (by simp)).trans HFIN.out.2 (fun x hx => .inl hx)
            rw [HP.out]
            exact ⟨rfl, _, fun x hx => Nat.le_trans HK2.out.size (HW5.out x hx), .slice A2 k c2, HNB.out, HFIN.out.1, hkk⟩
          · by_cases hci : c1 = i
            · subst hci
              go_wp2_with (first | (at_builtin; refine wpAppendG rfl (.tmp 69) (.tmp 75) 52 105 3 48 _ rfl Tryz.underlying52 info105 rfl (by omega) W.heap.size (.slice none 0 0) 0 [] rfl (World.ownsRow_nil _ _ _ _) _ c1 (rows (L.take c1)) rfl HTK.out (rows_one _ (fun r hr => HONE.out r (List.mem_of_mem_take hr))) (by omega) (by omega) (Nat.le_refl _) ?_; intro v3 w3 hown3 hg3 hat3; obtain ⟨A3, c3, rfl⟩ := own_form hown3; have k3 : Kp [] W w3 := Kp.grown (S := []) hg3 (by simp [Value.ownBlock]); have G3 := k3.heap HG2.out (by simp); have t0 := cell_of_heap G3 0; have t1 := cell_of_heap G3 1; have t2 := cell_of_heap G3 2) | (at_builtin; refine wpAppendG rfl (.tmp 77) (.tmp 79) 52 105 3 48 _ rfl Tryz.underlying52 info105 rfl (by omega) W.heap.size (.slice A3 c1 c3) c1 (rows (L.take c1)) rfl (by simpa using hown3.alloc _) _ 1 (Rf.cells ⟨s, .slice A2 k c2, bs, u⟩) rfl (rdG_lit w3 ⟨s, .slice A2 k c2, bs, u⟩) (by simp [Rf.cells, Value.oneCell']) (by omega) (by omega) (Nat.le_trans k3.size (Kp.alloc [] w3 (.cells #[.string s, .slice A2 k c2, .int .i64 u] 105)).size) ?_; intro v4 w4 hown4 hg4 hat4; obtain ⟨A4, c4, rfl⟩ := own_form hown4; have k4 : Kp [] W w4 := Kp.app (k3.trans (Kp.alloc [] w3 (.cells #[.string s, .slice A2 k c2, .int .i64 u] 105)) (by simp)) (by simpa using hown3.alloc (.cells #[.string s, .slice A2 k c2, .int .i64 u] 105)) hg4; have M4 := k4.heap HHH.out.hd (by simp); have mc4 := cell_of_heap M4 0; have mf4 := frozen_of_heap M4 0) | (at_builtin; refine wpAppendG rfl (.tmp 82) (.tmp 88) 52 105 3 48 _ rfl Tryz.underlying52 info105 rfl (by omega) W.heap.size (.slice A4 (c1 + 1) c4) (c1 + 1) (rows (L.take c1) ++ Rf.cells ⟨s, .slice A2 k c2, bs, u⟩) rfl hown4 _ 0 [] rfl (HZ.out _ _ _ (by simp)) (by simp) (by omega) (by omega) k4.size ?_; intro v5 w5 hown5 hg5 hat5; obtain ⟨A5, c5, rfl⟩ := own_form hown5; have k5 : Kp [] W w5 := Kp.app k4 (by simpa using hown4) hg5; have M5 := k5.heap HHH.out.hd (by simp); have mc5 := cell_of_heap M5 0; have mf5 := frozen_of_heap M5 0; have HFIN := Lib.hid (refNew_end (r := ⟨s, .slice A2 k c2, bs, u⟩) HHH.out k5 HL.out (Nat.le_refl _) (by rw [Nat.sub_self, List.drop_of_length_le (by rw [HL.out]; exact Nat.le_refl _)]; exact hown5) (by simpa [hbl] using HO2.out)); have HW5 := Lib.hid (fun x hx => (hown5.lt x hx).1)))
              go_wp2
              go_ret
              have hkk := (HK2.out.mono (T := [m]) (by simp)).trans HFIN.out.2 (fun x hx => .inl hx)
              rw [HP.out]
              exact ⟨rfl, _, fun x hx => Nat.le_trans HK2.out.size (HW5.out x hx), .slice A2 k c2, HNB.out, HFIN.out.1, hkk⟩
            · go_wp2_with (first | (at_builtin; refine wpAppendG rfl (.tmp 69) (.tmp 75) 52 105 3 48 _ rfl Tryz.underlying52 info105 rfl (by omega) W.heap.size (.slice none 0 0) 0 [] rfl (World.ownsRow_nil _ _ _ _) _ i (rows (L.take i)) rfl HTK.out (rows_one _ (fun r hr => HONE.out r (List.mem_of_mem_take hr))) (by omega) (by omega) (Nat.le_refl _) ?_; intro v3 w3 hown3 hg3 hat3; obtain ⟨A3, c3, rfl⟩ := own_form hown3; have k3 : Kp [] W w3 := Kp.grown (S := []) hg3 (by simp [Value.ownBlock]); have G3 := k3.heap HG2.out (by simp); have t0 := cell_of_heap G3 0; have t1 := cell_of_heap G3 1; have t2 := cell_of_heap G3 2) | (at_builtin; refine wpAppendG rfl (.tmp 77) (.tmp 79) 52 105 3 48 _ rfl Tryz.underlying52 info105 rfl (by omega) W.heap.size (.slice A3 i c3) i (rows (L.take i)) rfl (by simpa using hown3.alloc _) _ 1 (Rf.cells ⟨s, .slice A2 k c2, bs, u⟩) rfl (rdG_lit w3 ⟨s, .slice A2 k c2, bs, u⟩) (by simp [Rf.cells, Value.oneCell']) (by omega) (by omega) (Nat.le_trans k3.size (Kp.alloc [] w3 (.cells #[.string s, .slice A2 k c2, .int .i64 u] 105)).size) ?_; intro v4 w4 hown4 hg4 hat4; obtain ⟨A4, c4, rfl⟩ := own_form hown4; have k4 : Kp [] W w4 := Kp.app (k3.trans (Kp.alloc [] w3 (.cells #[.string s, .slice A2 k c2, .int .i64 u] 105)) (by simp)) (by simpa using hown3.alloc (.cells #[.string s, .slice A2 k c2, .int .i64 u] 105)) hg4; have M4 := k4.heap HHH.out.hd (by simp); have mc4 := cell_of_heap M4 0; have mf4 := frozen_of_heap M4 0) | (at_builtin; refine wpAppendG rfl (.tmp 82) (.tmp 88) 52 105 3 48 _ rfl Tryz.underlying52 info105 rfl (by omega) W.heap.size (.slice A4 (i + 1) c4) (i + 1) (rows (L.take i) ++ Rf.cells ⟨s, .slice A2 k c2, bs, u⟩) rfl hown4 _ 0 [] rfl (HZ.out _ _ _ (by simp)) (by simp) (by omega) (by omega) k4.size ?_; intro v5 w5 hown5 hg5 hat5; obtain ⟨A5, c5, rfl⟩ := own_form hown5; have k5 : Kp [] W w5 := Kp.app k4 (by simpa using hown4) hg5; have M5 := k5.heap HHH.out.hd (by simp); have mc5 := cell_of_heap M5 0; have mf5 := frozen_of_heap M5 0; have HFIN := Lib.hid (refNew_end (r := ⟨s, .slice A2 k c2, bs, u⟩) HHH.out k5 HL.out (Nat.le_refl _) (by rw [Nat.sub_self, List.drop_of_length_le (by rw [HL.out]; exact Nat.le_refl _)]; exact hown5) (by simpa [hbl] using HO2.out)); have HW5 := Lib.hid (fun x hx => (hown5.lt x hx).1)))
              go_wp2
              go_ret
              have hkk := (HK2.out.mono (T := [m]) (by simp)).trans HFIN.out.2 (fun x hx => .inl hx)
              rw [HP.out]
              exact ⟨rfl, _, fun x hx => Nat.le_trans HK2.out.size (HW5.out x hx), .slice A2 k c2, HNB.out, HFIN.out.1, hkk⟩
end Go.Proofs.YtmboklllkdlmgaaGreatDoor
