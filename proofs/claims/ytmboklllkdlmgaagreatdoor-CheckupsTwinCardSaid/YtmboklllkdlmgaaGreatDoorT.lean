/-
  Twin of a disk, walked: a new disk with the same files, all sure. Conditions: at most 16 files, the disk not dead.
-/
import Derived.Test.YtmboklllkdlmgaaGreatDoorS
import Derived.Test.YtmboklllkdlmgaaGreatDoorN
import Derived.Test.YtmboklllkdlmgaaGreatDoorK
import Derived.Lib.Hide
namespace Go.Proofs.YtmboklllkdlmgaaGreatDoor
open Go.RowKit Go.MapKept
set_option maxRecDepth 100000
theorem keyOf_inj {f g : Fl} (h : keyOf f = keyOf g) : f.name = g.name := by
  have : f.name.data = g.name.data := Array.toList_inj.1 h
  exact ByteArray.ext this
theorem named_mem {fs : List Fl} (hp : fs.Pairwise (fun f g => f.name ≠ g.name)) {f : Fl} (hf : f ∈ fs) : named fs f.name = some f := by
  induction fs with
  | nil => cases hf
  | cons a l ih =>
    obtain ⟨h1, h2⟩ := List.pairwise_cons.1 hp
    unfold named
    rcases List.mem_cons.1 hf with rfl | hf'
    · rw [List.find?_cons_of_pos]
      exact (MapKept.bytes_beq _ _).2 rfl
    · rw [List.find?_cons_of_neg]
      · exact ih h2 hf'
      · intro h
        exact h1 f hf' ((MapKept.bytes_beq _ _).1 h).symm
theorem named_no {fs : List Fl} {s : ByteArray} (h : ∀ f ∈ fs, f.name ≠ s) : named fs s = none := by
  rw [named, List.find?_eq_none]
  intro f hf e
  exact h f hf ((MapKept.bytes_beq _ _).1 e).symm
/-- The one's files hold what the other's hold, all sure, laid in the names' order. -/
def TwinOf (fs fs2 : List Fl) : Prop := fs2.map keyOf = sorted (fs.map keyOf) ∧ ∀ g ∈ fs2, g.sure = g.zs.length ∧ ∃ f ∈ fs, f.name = g.name ∧ f.zs = g.zs
/-- The twin under way. -/
def Twinning (w w2 wr : World) (fs : List Fl) (d2 m2 : Nat) (l : List (List UInt8)) (i : Nat) : Prop :=
  ∃ ck2 fs2, Dk wr d2 m2 ck2 fs2 (-1) false ∧ fs2.map keyOf = l.take i ∧ (∀ g ∈ fs2, g.sure = g.zs.length ∧ ∃ f ∈ fs, f.name = g.name ∧ f.zs = g.zs) ∧ (∀ x ∈ feet d2 m2 fs2, w.heap.size ≤ x) ∧ Kp [] w wr ∧ Kp [m2] w2 wr
theorem sorted_len (l : List (List UInt8)) : (sorted l).length = l.length := (sorted_perm l).length_eq
theorem nodup_keys {fs : List Fl} (hp : fs.Pairwise (fun f g => f.name ≠ g.name)) : (sorted (fs.map keyOf)).Nodup := by
  refine (sorted_perm _).nodup_iff.2 ?_
  rw [List.Nodup, List.pairwise_map]
  exact hp.imp (fun hh e => hh (keyOf_inj e))
/-- The file that stands next in the names' order. -/
theorem next_file {fs fs2 : List Fl} (hp : fs.Pairwise (fun f g => f.name ≠ g.name)) {i : Nat} (hi : i < fs.length) (h2 : fs2.map keyOf = (sorted (fs.map keyOf)).take i) :
    ∃ g ∈ fs, (sorted (fs.map keyOf))[i]? = some (keyOf g) ∧ named fs g.name = some g ∧ named fs2 g.name = none ∧ fs2.length = i ∧ (sorted (fs.map keyOf)).take (i + 1) = fs2.map keyOf ++ [keyOf g] := by
  have hl : i < (sorted (fs.map keyOf)).length := by rw [sorted_len]; simpa using hi
  have hm : (sorted (fs.map keyOf))[i] ∈ fs.map keyOf := (sorted_perm _).mem_iff.1 (List.getElem_mem hl)
  obtain ⟨g, hg, e⟩ := List.mem_map.1 hm
  have ht : (sorted (fs.map keyOf)).take (i + 1) = fs2.map keyOf ++ [keyOf g] := by
    rw [List.take_succ_eq_append_getElem hl, h2, e]
  refine ⟨g, hg, by rw [List.getElem?_eq_getElem hl, e], named_mem hp hg, named_no fun f hf en => ?_, ?_, ht⟩
  · have hnd : (fs2.map keyOf ++ [keyOf g]).Nodup := by
      rw [← ht]
      exact (nodup_keys hp).sublist (List.take_sublist _ _)
    have := (List.nodup_append.1 hnd).2.2 (keyOf f) (List.mem_map.2 ⟨f, hf, rfl⟩) (keyOf g) (by simp)
    exact this (by unfold keyOf; rw [en])
  · have := congrArg List.length h2
    simp [sorted_len] at this
    omega
theorem encStr_keyOf (g : Fl) : encStr (keyOf g) = .string g.name := rfl
set_option maxHeartbeats 1000000 in
theorem twin_any (w : World) (d m ck : Nat) (fs : List Fl) (fuse : Int) (h : Dk w d m ck fs fuse false) (hfs : fs.length ≤ 16) :
    Calls Tryz.prog 13 #[.pointer (some ⟨d, 0, none⟩)] w fun e w' => ∃ d2 m2 ck2 fs2, e = .returned (.pointer (some ⟨d2, 0, none⟩)) ∧ Dk w' d2 m2 ck2 fs2 (-1) false ∧ TwinOf fs fs2 ∧ (∀ x ∈ feet d2 m2 fs2, w.heap.size ≤ x) ∧ Kp [] w w' := by
  go_enter Tryz.func13, Tryz.ntmps13
  go_wp2_with fail
  refine (dead_any w d m ck fs fuse false h).mono ?_
  rintro e w' ⟨rfl, rfl⟩
  go_wp2_with fail
  refine (new_any w).mono ?_
  rintro e w1 ⟨rfl, hw1⟩
  have hk1 : Kp [] w w1 := by rw [← hw1]; exact (Kp.alloc [] _ _).trans (Kp.alloc [] _ _) (by simp)
  have hd1 : Dk w1 (w.heap.size + 1) w.heap.size 0 [] (-1) false := by
    rw [← hw1]
    exact ⟨heap_new_at _ _ (by simp), heap_old _ (heap_new _ _), by simp, by simp, by simp, by simp, by simp, by simp⟩
  clear hw1
  go_wp2_with fail
  refine (names_any w1 d m ck fs fuse false (h.keep0 hk1) (by omega)).mono ?_
  rintro e w2 ⟨v, rfl, hnb, hk2⟩
  obtain ⟨hr, hnew, A, hv⟩ := hnb
  have hln : ((sorted (fs.map keyOf)).map encStr).length = fs.length := by simp [sorted_len]
  rw [hln] at hv
  subst hv
  have hT0 : Twinning w w2 w2 fs (w.heap.size + 1) w.heap.size (sorted (fs.map keyOf)) 0 := ⟨0, [], hd1.keep0 hk2, rfl, by simp, by simp [feet], hk1.trans hk2 (by simp), Kp.refl _ _⟩
  have HT := Lib.hid hT0
  have HH := Lib.hid h
  have HR := Lib.hid hr
  have HN := Lib.hid hnew
  have hs1 := hk1.size
  have hs1' := lt_of_heap hd1.hd
  clear hT0 h hr hnew hk1 hd1 hk2 hln
  go_wp2
  go_loopw [14] (fun t wr => ∃ i : Nat, t = .int .i64 i ∧ i ≤ fs.length ∧ Twinning w w2 wr fs (w.heap.size + 1) w.heap.size (sorted (fs.map keyOf)) i) (fun t _ => fs.length - (intOf t).toNat)
  case atStart => exact ⟨0, rfl, Nat.zero_le _, HT.out⟩
  case round =>
    clear HT
    obtain ⟨i, rfl, hi, ck2, fs2, hd, h2, hg2, hft, hkw, hk2⟩ := hrel
    by_cases hlt : i < fs.length
    · obtain ⟨g, hg, hgi, hn1, hn2, hl2, ht⟩ := next_file (HH.out.nm.imp (fun hh => hh.1)) hlt h2
      have hsz := HH.out.hn g hg
      have hzl := HH.out.hz g hg
      have HS := Lib.hid (HH.out.keep0 hkw)
      obtain ⟨a, rfl, hc⟩ : ∃ a, A = some a ∧ wr.cell? (a.add i) = some (.string g.name) := by
        rcases HR.out with ⟨e, _⟩ | ⟨ad, c', e, hle, hb, hc⟩
        · injection e with _ e _
          omega
        · injection e with e _ _
          refine ⟨ad, e, ?_⟩
          have hne : ad.block ∉ [w.heap.size] := by
            have := HN.out ad _ _ (by rw [e])
            simp
            omega
          refine (hk2.cell (p := ad.add i) (by rw [add_block]; exact hb) (by rw [add_block]; exact hne)).trans (hc i _ ?_)
          rw [List.getElem?_map, hgi]
          rfl
      have HD := Lib.hid hd
      have HG := Lib.hid hg2
      have HF := Lib.hid hft
      have HT := Lib.hid ht
      have HN1 := Lib.hid hn1
      have HN2 := Lib.hid hn2
      have HK2 := Lib.hid hk2
      have HKW := Lib.hid hkw
      clear hd h2 hg2 hft ht hn1 hn2 hgi hk2 hkw
      go_wp2_with fail
      refine (read_some wr d m ck fs fuse HS.out g.name (notEmpty hsz.1) hsz.2 g HN1.out).mono ?_
      rintro e w3 ⟨v3, rfl, hnb3, hk3⟩
      have HK3 := Lib.hid hk3
      obtain ⟨A3, rfl⟩ := hnb3.form rfl
      have HR3 := Lib.hid hnb3.1
      clear hnb3 hk3 hc
      go_wp2_with fail
      refine (put_new w3 (w.heap.size + 1) w.heap.size ck2 fs2 (HD.out.keep0 HK3.out) g.name hsz.1 (notEmpty hsz.1) hsz.2 HN2.out (by omega) A3 g.zs.length g.zs.length g.zs rfl HR3.out hzl).mono ?_
      rintro e w4 ⟨rfl, v4, hd4, hown4, hk4⟩
      have hk34 := (HK3.out.mono (T := [w.heap.size]) (by simp)).trans hk4 (fun x hx => .inl hx)
      have hTN : Twinning w w2 w4 fs (w.heap.size + 1) w.heap.size (sorted (fs.map keyOf)) (i + 1) := by
        have hs34 := HK3.out.size
        have hsw := HKW.out.size
        refine ⟨_, _, hd4, by rw [HT.out, List.map_append]; rfl, ?_, ?_, HKW.out.trans hk34 (by simp), HK2.out.trans hk34 (by simp)⟩
        · intro f hf
          rcases List.mem_append.1 hf with hf | hf
          · exact HG.out f hf
          · rw [List.mem_singleton.1 hf]
            exact ⟨rfl, g, hg, rfl, rfl⟩
        · have hx := sliceBlock_own hown4
          intro x hxf
          simp only [feet, List.flatMap_append, List.mem_cons, List.mem_append, List.flatMap_cons, List.flatMap_nil, List.append_nil] at hxf
          rcases hxf with rfl | rfl | hxf | rfl | hxf
          · omega
          · omega
          · exact HF.out x (by simp only [feet, List.mem_cons]; exact .inr (.inr hxf))
          · omega
          · have := hx x hxf
            omega
      have HTN := Lib.hid hTN
      clear hTN hk34 hd4 hown4 hk4
      go_wp2
      go_round
      case rel => exact ⟨i + 1, by go_num, by omega, HTN.out⟩
      case measure => simp [intOf]; omega
    · have hil : i = fs.length := by omega
      subst hil
      have hin : TwinOf fs fs2 := ⟨by rw [h2, List.take_of_length_le (by simp [sorted_len])], hg2⟩
      clear h2 hg2 hk2
      have HD := Lib.hid hd
      clear hd
      go_wp2
      go_ret
      exact ⟨_, _, _, _, rfl, HD.out, hin, hft, hkw⟩
end Go.Proofs.YtmboklllkdlmgaaGreatDoor
