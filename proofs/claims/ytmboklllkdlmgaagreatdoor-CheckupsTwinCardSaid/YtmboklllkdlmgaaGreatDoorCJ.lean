/-
  Twin of the chapter's disk, walked. Conditions: at most 16 files, their names rising and such as do.
-/
import Derived.Test.YtmboklllkdlmgaaGreatDoorCI
namespace Go.Proofs.YtmboklllkdlmgaaGreatDoor
open Go.RowKit Go.MapKept
set_option maxRecDepth 100000
def contR (L : List Rf) : List (ByteArray × List Int) := L.map fun r => (r.nm, r.zs)
/-- Names rising. -/
def Rising (L : List Rf) : Prop := L.Pairwise fun a b => Op.bytesLess a.nm.toList b.nm.toList = true
theorem less_irrefl (s : ByteArray) : Op.bytesLess s.toList s.toList = false := by
  rw [bytesLess_eq]
  simp [List.lt_irrefl]
theorem Rising.uniq {L : List Rf} (h : Rising L) {i j : Nat} {r r' : Rf} (hi : L[i]? = some r) (hj : L[j]? = some r') (e : r'.nm = r.nm) : j = i := by
  obtain ⟨hil, rfl⟩ := List.getElem?_eq_some_iff.1 hi
  obtain ⟨hjl, rfl⟩ := List.getElem?_eq_some_iff.1 hj
  rcases Nat.lt_trichotomy i j with h1 | h1 | h1
  · have := List.pairwise_iff_getElem.1 h i j hil hjl h1
    rw [e, less_irrefl] at this
    cases this
  · exact h1.symm
  · have := List.pairwise_iff_getElem.1 h j i hjl hil h1
    rw [e, less_irrefl] at this
    cases this
theorem placeR_all {L : List Rf} {s : ByteArray} (h : ∀ r ∈ L, Op.bytesLess r.nm.toList s.toList = true) : placeR L s = L.length := by
  induction L with
  | nil => rfl
  | cons a L ih =>
    rw [placeR, if_pos (h a (by simp)), ih (fun r hr => h r (List.mem_cons_of_mem _ hr))]
    rfl
/-- The twin under way. -/
structure TwinR (w wr : World) (L : List Rf) (m2 i : Nat) (lv2 : Value) (L2 : List Rf) : Prop where
  at_ : RefAt w.heap.size wr m2 lv2 L2
  ct : contR L2 = contR (L.take i)
  sr : ∀ r ∈ L2, r.sure = r.zs.length
  kp : Kp [] w wr
set_option maxHeartbeats 1000000 in
theorem refTwin (w : World) (base m n : Nat) (lv : Value) (L : List Rf) (h : RefAt base w m lv L) (hl : L.length = n) (hn : n ≤ 16) (hR : Rising L) (hok : ∀ r ∈ L, okName r.nm) (hz : ∀ r ∈ L, r.zs.length ≤ 1048576) :
    Calls Tryz.prog 16 #[.pointer (some ⟨m, 0, none⟩)] w fun e w' => ∃ m2 lv2 L2, e = .returned (.pointer (some ⟨m2, 0, none⟩)) ∧ w.heap.size ≤ m2 ∧ TwinR w w' L m2 n lv2 L2 := by
  have c0 := cell_of_heap h.hd 0
  obtain ⟨A1, c1, rfl, hc, hcell⟩ := h.slice hl
  have HH := Lib.hid h
  have HC := Lib.hid hcell
  have HR := Lib.hid hR
  have HOK := Lib.hid hok
  have HZ := Lib.hid hz
  have HL := Lib.hid hl
  have HML := Lib.hid (World.block_lt_of_cell? _ _ c0)
  have HC0 := Lib.hid c0
  have hT0 : TwinR w (w.alloc (.cells #[.slice none 0 0, .bool false, .int .i64 0, .bool false] 54)) L w.heap.size 0 (.slice none 0 0) [] :=
    ⟨⟨heap_new _ _, World.ownsRow_nil _ _ _ _, by simp, by simp⟩, rfl, by simp, Kp.alloc _ _ _⟩
  have HT0 := Lib.hid hT0
  clear h hcell hR hok hz hl hT0 c0
  go_enter Tryz.func16, Tryz.ntmps16
  go_wp2
  go_loopw [4] (fun t wr => ∃ (i : Nat) (lv2 : Value) (L2 : List Rf), t = .int .i64 i ∧ i ≤ n ∧ TwinR w wr L w.heap.size i lv2 L2) (fun t _ => n - (intOf t).toNat)
  case atStart => exact ⟨0, _, _, rfl, Nat.zero_le _, HT0.out⟩
  case round =>
    obtain ⟨i, lv2, L2, rfl, hi, hT⟩ := hrel
    have HT := Lib.hid hT
    have m1 := (hT.kp.cell (p := ⟨m, 0, none⟩) HML.out (by simp)).trans HC0.out
    clear hT HT0
    by_cases hlt : i < n
    · have hil : i < L.length := by rw [HL.out]; exact hlt
      have hLi : L[i]? = some L[i] := List.getElem?_eq_getElem hil
      obtain ⟨g, hA1, hc0, hc1, hc2, _⟩ := HC.out i L[i] hLi
      subst hA1
      have hmem : L[i] ∈ L := List.getElem_mem hil
      have HLT := Lib.hid (List.take_succ_eq_append_getElem hil)
      have hlow : ∀ r ∈ L.take i, Op.bytesLess r.nm.toList L[i].nm.toList = true := by
        intro r hr
        obtain ⟨j, hj, rfl⟩ := List.mem_iff_getElem.1 hr
        simp at hj
        rw [List.getElem_take]
        exact List.pairwise_iff_getElem.1 HR.out j i (by omega) hil (by omega)
      have HLOW := Lib.hid hlow
      generalize L[i] = r at hLi hc0 hc1 hc2 hmem HLT HLOW
      have HGL := Lib.hid (World.block_lt_of_cell? _ _ hc0)
      have g1 := (HT.out.kp.cell (p := ⟨g, i * 3, none⟩) HGL.out (by simp)).trans hc0
      have HG := Lib.hid hc0
      have HLI := Lib.hid hLi
      have HM := Lib.hid hmem
      clear hlow hLi hc0 hc1 hc2 hmem
      go_wp2_with fail
      refine (refRead_some wr base m n i _ L (HH.out.keep0 HT.out.kp) HL.out (by omega) r.nm (HOK.out r HM.out) r HLI.out rfl (fun j r' hj e => HR.out.uniq HLI.out hj e) (HZ.out r HM.out)).mono ?_
      rintro e w3 ⟨v, rfl, hv, hk3⟩
      obtain ⟨B, d, rfl⟩ := own_form hv
      have m3 := (hk3.cell (p := ⟨m, 0, none⟩) (Nat.lt_of_lt_of_le HML.out HT.out.kp.size) (by simp)).trans m1
      have g3 := (hk3.cell (p := ⟨g, i * 3, none⟩) (Nat.lt_of_lt_of_le HGL.out HT.out.kp.size) (by simp)).trans g1
      have HV := Lib.hid hv
      have HK3 := Lib.hid hk3
      clear hv hk3 m1 g1
      have hl2 : L2.length = i := by
        have := congrArg List.length HT.out.ct
        simp [contR, HL.out] at this
        omega
      have hno2 : ∀ r' ∈ L2, Op.bytesLess r'.nm.toList r.nm.toList = true := by
        intro r' hr'
        have h1 : (r'.nm, r'.zs) ∈ contR (L.take i) := by rw [← HT.out.ct]; exact List.mem_map.2 ⟨r', hr', rfl⟩
        obtain ⟨r0, hr0, e⟩ := List.mem_map.1 h1
        have e1 : r0.nm = r'.nm := congrArg Prod.fst e
        rw [← e1]
        exact HLOW.out r0 hr0
      have HN2 := Lib.hid hno2
      have HL2 := Lib.hid hl2
      clear hl2 hno2
      go_wp2_with fail
      refine (refPut_any w3 w.heap.size w.heap.size lv2 L2 (HT.out.at_.keep0 HK3.out) r.nm (HOK.out r HM.out) B r.zs.length d (fun E w' => E = 0 ∧ ∃ lv' v', RefAt w.heap.size w' w.heap.size lv' (L2 ++ [⟨r.nm, v', r.zs, r.zs.length⟩]) ∧ Kp [w.heap.size] w3 w') ?_).mono ?_
      · refine (refSet_new w3 w.heap.size w.heap.size i r.zs.length d lv2 L2 (HT.out.at_.keep0 HK3.out) HL2.out (by omega) r.nm (fun r' hr' e => ?_) B r.zs (own_rdG HV.out) rfl (HZ.out r HM.out) _).mono ?_
        · have := HN2.out r' hr'
          rw [e, less_irrefl] at this
          cases this
        · rintro e w' ⟨rfl, lv', v', h1, h2, h3, h4⟩
          rw [placeR_all HN2.out, List.take_of_length_le (Nat.le_refl _), List.drop_of_length_le (Nat.le_refl _)] at h3
          exact ⟨0, rfl, rfl, lv', v', h3, h4⟩
      · rintro e w4 ⟨E, rfl, rfl, lv', v', h3, h4⟩
        have HTN : TwinR w w4 L w.heap.size (i + 1) lv' (L2 ++ [⟨r.nm, v', r.zs, r.zs.length⟩]) := by
          refine ⟨h3, ?_, ?_, (HT.out.kp.trans HK3.out (by simp)).trans h4 (by simp)⟩
          · rw [HLT.out]
            simp only [contR, List.map_append] at *
            have := HT.out.ct
            simp only [contR] at this
            rw [this]
            rfl
          · intro r' hr'
            rcases List.mem_append.1 hr' with hr' | hr'
            · exact HT.out.sr r' hr'
            · rw [List.mem_singleton.1 hr']
        have HTN' := Lib.hid HTN
        clear HTN h3 h4 m3 g3
        go_wp2
        go_round
        case rel => exact ⟨i + 1, _, _, by go_num, by omega, HTN'.out⟩
        case measure => simp [intOf]; omega
    · have hin : i = n := by omega
      subst hin
      go_wp2
      go_ret
      exact ⟨_, _, _, rfl, Nat.le_refl _, HT.out⟩
end Go.Proofs.YtmboklllkdlmgaaGreatDoor
