/-
  SameBytes and Same, walked where both hold the same: they say yes. Conditions: helper lemmas.
-/
import Derived.Test.YtmboklllkdlmgaaGreatDoorCM
import Derived.Deep.QuietTactic
import Derived.BigQuiet
namespace Go.Proofs.YtmboklllkdlmgaaGreatDoor
open Go.RowKit Go.MapKept
set_option maxRecDepth 100000
theorem RdG.kp0 {size m : Nat} {w w' : World} {v : Value} {xs : List Value} (h : RdG size w v m xs) (k : Kp [] w w') : RdG size w' v m xs := h.kp k (by simp)
set_option maxHeartbeats 1000000 in
theorem same_any (w : World) (va vb : Value) (n : Nat) (zs : List Int) (hl : zs.length = n) (ha : RdG 1 w va n (byt zs)) (hb : RdG 1 w vb n (byt zs)) (hn : n ≤ 1048576) :
    Calls Tryz.prog 56 #[va, vb] w fun e w' => e = .returned (.bool true) ∧ ∃ q, w' = w.drewN q := by
  obtain ⟨A, ca, rfl⟩ := ha.form
  obtain ⟨B, cb, rfl⟩ := hb.form
  have HA := Lib.hid ha
  have HB := Lib.hid hb
  have HL := Lib.hid hl
  clear ha hb hl
  go_enter Tryz.func56, Tryz.ntmps56
  go_wp2
  go_loopw [5] (fun t wr => ∃ i q : Nat, t = .int .i64 i ∧ i ≤ n ∧ wr = w.drewN q) (fun t _ => n - (intOf t).toNat)
  case atStart => exact ⟨0, 0, rfl, Nat.zero_le _, rfl⟩
  case round =>
    obtain ⟨i, q, rfl, hi, rfl⟩ := hrel
    by_cases hlt : i < n
    · have hil : i < zs.length := by rw [HL.out]; exact hlt
      obtain ⟨a, rfl, ca0⟩ : ∃ a, A = some a ∧ w.cell? (a.add i) = some (.int .u8 zs[i]) := by
        obtain ⟨A', c', e, _, h0, hc⟩ := HA.out
        injection e with e1 _ _
        subst e1
        cases A with
        | none => have := (h0 rfl).1; omega
        | some a => exact ⟨a, rfl, hc a rfl i _ (by simp [byt, List.getElem?_eq_getElem hil])⟩
      obtain ⟨b, rfl, cb0⟩ : ∃ b, B = some b ∧ w.cell? (b.add i) = some (.int .u8 zs[i]) := by
        obtain ⟨A', c', e, _, h0, hc⟩ := HB.out
        injection e with e1 _ _
        subst e1
        cases B with
        | none => have := (h0 rfl).1; omega
        | some a => exact ⟨a, rfl, hc a rfl i _ (by simp [byt, List.getElem?_eq_getElem hil])⟩
      generalize zs[i] = z at ca0 cb0
      go_wp2
      go_quiet (fail)
      go_wp2
      go_round
      case rel => exact ⟨i + 1, _, by go_num, by omega, rfl⟩
      case measure => simp [intOf]; omega
    · go_wp2
      go_ret
      exact ⟨rfl, q, rfl⟩
theorem sameBytes_any (w : World) (va vb : Value) (n : Nat) (zs : List Int) (hl : zs.length = n) (ha : RdG 1 w va n (byt zs)) (hb : RdG 1 w vb n (byt zs)) (hn : n ≤ 1048576) :
    Calls Tryz.prog 23 #[va, vb] w fun e w' => e = .returned (.bool true) ∧ ∃ q, w' = w.drewN q := by
  have HS := Lib.hid (same_any w va vb n zs hl ha hb hn)
  clear ha hb
  go_enter Tryz.func23, Tryz.ntmps23
  go_wp2_with fail
  refine HS.out.mono ?_
  rintro e w' ⟨rfl, hk⟩
  go_wp2
  go_ret
  exact ⟨rfl, hk⟩
theorem keys_of {fs : List Fl} {L : List Rf} (hR : Rising L) (hP : (contR L).Perm (cont fs)) : sorted (fs.map keyOf) = L.map (fun r => r.nm.data.toList) := by
  have h1 : (L.map (fun r => r.nm.data.toList)).Perm (fs.map keyOf) := by
    have := hP.map (fun p => p.1.data.toList)
    simp only [contR, cont, List.map_map] at this
    exact this
  refine (sorted_unique h1 ?_).symm
  rw [List.pairwise_map]
  refine hR.imp fun {a b} h => ?_
  rw [bytesLess_eq, ByteArray.toList_eq, ByteArray.toList_eq] at h
  exact List.le_of_lt (by simpa using h)
set_option maxHeartbeats 2000000 in
/-- The disk and the chapter's hold the same: Same says so. -/
theorem same_true (w : World) (base d m ck n m' : Nat) (fs : List Fl) (fuse : Int) (h : Dk w d m ck fs fuse false) (lv : Value) (L : List Rf) (h' : RefAt base w m' lv L) (hl : L.length = n) (hn : n ≤ 16) (hR : Rising L) (hP : (contR L).Perm (cont fs)) :
    Calls Tryz.prog 17 #[.pointer (some ⟨d, 0, none⟩), .pointer (some ⟨m', 0, none⟩)] w fun e w' => e = .returned (.bool true) ∧ Kp [] w w' := by
  have hfl : fs.length = n := by
    have := hP.length_eq
    simpa [contR, cont, hl] using this.symm
  have hkeys := keys_of hR hP
  have c0 := cell_of_heap h'.hd 0
  have c3 := cell_of_heap h'.hd 3
  obtain ⟨A1, c1, rfl, hc, hcell⟩ := h'.slice hl
  have HD := Lib.hid h
  have HM := Lib.hid h'
  have HC := Lib.hid hcell
  have HR := Lib.hid hR
  have HP := Lib.hid hP
  have HL := Lib.hid hl
  have hml := World.block_lt_of_cell? _ _ c0
  go_enter Tryz.func17, Tryz.ntmps17
  go_wp2_with fail
  refine (names_any w d m ck fs fuse false h (by omega)).mono ?_
  rintro e w2 ⟨v, rfl, hnb, hk2⟩
  obtain ⟨hr, hnew, A, hv⟩ := hnb
  have hln : ((sorted (fs.map keyOf)).map encStr).length = n := by simp [sorted_len, hfl]
  rw [hln] at hv
  subst hv
  have d0 := (hk2.cell (p := ⟨m', 0, none⟩) hml (by simp)).trans c0
  have d3 := (hk2.cell (p := ⟨m', 3, none⟩) hml (by simp)).trans c3
  rw [hkeys] at hr
  have HNM := Lib.hid hr
  have HK2 := Lib.hid hk2
  have HC0 := Lib.hid c0
  have HML := Lib.hid hml
  have HDD := Lib.hid (fun q => ((dead_any (w2.drewN q) d m ck fs fuse false (h.keep0 (hk2.trans (Kp.drewN [] _ _) (by simp)))).mono (fun _ _ hh => ⟨hh.1, hh.2.symm⟩) : Calls Tryz.prog 45 #[.pointer (some ⟨d, 0, none⟩)] (w2.drewN q) fun e w' => e = .returned (.bool false) ∧ w' = w2.drewN q))
  clear h h' hcell hR hP hl hr hnew hk2 hln hfl hkeys c0 c3
  go_wp2
  go_quiet ((go_at_call 45; exact Calls.quiet_of_same (HDD.out _)))
  go_wp2
  have HKQ := Lib.hid (HK2.out.trans (Kp.drewN [] w2 nq) (by simp))
  have HK2Q := Lib.hid (Kp.drewN [] w2 nq)
  generalize w2.drewN nq = w3 at HKQ HK2Q ⊢
  go_loopw [6] (fun t wr => ∃ i : Nat, t = .int .i64 i ∧ i ≤ n ∧ Kp [] w2 wr) (fun t _ => n - (intOf t).toNat)
  case atStart => exact ⟨0, rfl, Nat.zero_le _, HK2Q.out⟩
  case round =>
    obtain ⟨i, rfl, hi, hk⟩ := hrel
    have HK := Lib.hid (HK2.out.trans hk (by simp))
    have HKW := Lib.hid hk
    clear hk
    by_cases hlt : i < n
    · have hil : i < L.length := by rw [HL.out]; exact hlt
      have hLi : L[i]? = some L[i] := List.getElem?_eq_getElem hil
      obtain ⟨g, hA1, hc0, -, -, -⟩ := HC.out i L[i] hLi
      subst hA1
      obtain ⟨f, hf, hfe⟩ : ∃ f ∈ fs, (f.name, f.zs) = (L[i].nm, L[i].zs) := List.mem_map.1 (HP.out.mem_iff.1 (List.mem_map.2 ⟨L[i], List.getElem_mem hil, rfl⟩))
      obtain ⟨a, rfl, hca⟩ : ∃ a, A = some a ∧ w2.cell? (a.add i) = some (.string L[i].nm) := by
        rcases HNM.out with ⟨e, _⟩ | ⟨ad, c', e, hle, hb, hcc⟩
        · injection e with _ e _
          omega
        · injection e with e _ _
          exact ⟨ad, e, hcc i _ (by rw [List.getElem?_map, List.getElem?_map, hLi]; rfl)⟩
      generalize L[i] = r at hLi hc0 hfe hca
      have hfn : f.name = r.nm := congrArg Prod.fst hfe
      have hfz : f.zs = r.zs := congrArg Prod.snd hfe
      have hsz := HD.out.hn f hf
      have hzl := HD.out.hz f hf
      have hal : (a.add i).block < w2.heap.size := World.block_lt_of_cell? _ _ hca
      have ca := (HKW.out.cell (p := a.add i) hal (by simp)).trans hca
      have HS := Lib.hid (HD.out.keep0 HK.out)
      have HNF := Lib.hid (named_mem (HD.out.nm.imp (fun hh => hh.1)) hf)
      have HFN := Lib.hid hfn
      have HFZ := Lib.hid hfz
      have HSZ := Lib.hid hsz
      have HZL := Lib.hid hzl
      have HLI := Lib.hid hLi
      have HG0 := Lib.hid hc0
      have HCA := Lib.hid hca
      have HAL := Lib.hid hal
      clear hfe hfn hfz hsz hzl hLi hc0 hca hal hf d0 d3
      go_wp2_with fail
      refine (read_some wr d m ck fs fuse HS.out r.nm (notEmpty (by rw [← HFN.out]; exact HSZ.out.1)) (by rw [← HFN.out]; exact HSZ.out.2) f (by rw [← HFN.out]; exact HNF.out)).mono ?_
      rintro e w4 ⟨v1, rfl, hnb1, hk4⟩
      obtain ⟨B1, rfl⟩ := hnb1.form rfl
      have HV1 := Lib.hid (RdG.of_rdA (m := f.zs.length) hnb1.1 (byt_len _))
      have HK4 := Lib.hid hk4
      have ca4 := (hk4.cell (p := a.add i) (Nat.lt_of_lt_of_le HAL.out HKW.out.size) (by simp)).trans ca
      clear hnb1 hk4 ca
      go_wp2_with fail
      refine (refRead_some w4 base m' n i _ L (HM.out.keep0 (HK.out.trans HK4.out (by simp))) HL.out (by omega) r.nm (by rw [← HFN.out]; exact HSZ.out) r HLI.out rfl (fun j r' hj e => HR.out.uniq HLI.out hj e) (by rw [← HFZ.out]; exact HZL.out)).mono ?_
      rintro e w5 ⟨v2, rfl, hv2, hk5⟩
      obtain ⟨B2, q2, rfl⟩ := own_form hv2
      have HV2 := Lib.hid (own_rdG hv2)
      have HK5 := Lib.hid (HK4.out.trans hk5 (by simp))
      have ca5 := (hk5.cell (p := a.add i) (Nat.lt_of_lt_of_le HAL.out (Nat.le_trans HKW.out.size HK4.out.size)) (by simp)).trans ca4
      have m5 := (hk5.cell (p := ⟨m', 0, none⟩) (Nat.lt_of_lt_of_le HML.out (Nat.le_trans HK.out.size HK4.out.size)) (by simp)).trans ((HK4.out.cell (p := ⟨m', 0, none⟩) (Nat.lt_of_lt_of_le HML.out HK.out.size) (by simp)).trans ((HK.out.cell (p := ⟨m', 0, none⟩) HML.out (by simp)).trans HC0.out))
      have hgl := World.block_lt_of_cell? _ _ HG0.out
      have g5 := (hk5.cell (p := ⟨g, i * 3, none⟩) (Nat.lt_of_lt_of_le hgl (Nat.le_trans HK.out.size HK4.out.size)) (by simp)).trans ((HK4.out.cell (p := ⟨g, i * 3, none⟩) (Nat.lt_of_lt_of_le hgl HK.out.size) (by simp)).trans ((HK.out.cell (p := ⟨g, i * 3, none⟩) hgl (by simp)).trans HG0.out))
      have HSB := Lib.hid (fun q => sameBytes_any (w5.drewN q) (.slice B1 f.zs.length f.zs.length) (.slice B2 r.zs.length q2) r.zs.length r.zs rfl ((show RdG 1 (w5.drewN q) _ _ _ from by rw [HFZ.out] at HV1 ⊢; exact (HV1.out.kp0 hk5).kp0 (Kp.drewN [] _ _))) (HV2.out.kp0 (Kp.drewN [] _ _)) (by rw [← HFZ.out]; exact HZL.out))
      clear ca4 hv2 hk5
      go_wp2
      go_quiet ((go_at_call 23; exact Calls.quiet_of (HSB.out _)))
      go_wp2
      go_round
      case rel => exact ⟨i + 1, by go_num, by omega, (HKW.out.trans HK5.out (by simp)).trans (Kp.drewN [] _ _) (by simp)⟩
      case measure => simp [intOf]; omega
    · go_wp2
      go_ret
      exact ⟨rfl, HK.out⟩
end Go.Proofs.YtmboklllkdlmgaaGreatDoor
