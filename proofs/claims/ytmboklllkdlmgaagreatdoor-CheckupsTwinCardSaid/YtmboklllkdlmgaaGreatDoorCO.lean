/-
  Add of the chapter's disk says what the plain contents say; the twin holds what the disk holds. Conditions: helper lemmas.
-/
import Derived.Test.YtmboklllkdlmgaaGreatDoorCN
namespace Go.Proofs.YtmboklllkdlmgaaGreatDoor
open Go.RowKit Go.MapKept
set_option maxRecDepth 100000
theorem addC_perm {C C' : List (ByteArray × List Int)} (h : C.Perm C') (s : ByteArray) (bs : List Int) : (addC C s bs).2 = (addC C' s bs).2 ∧ (addC C s bs).1.Perm (addC C' s bs).1 := by
  have hex : (∃ p ∈ C, p.1 = s) ↔ ∃ p ∈ C', p.1 = s := ⟨fun ⟨p, hp, e⟩ => ⟨p, h.mem_iff.1 hp, e⟩, fun ⟨p, hp, e⟩ => ⟨p, h.mem_iff.2 hp, e⟩⟩
  have hl := h.length_eq
  unfold addC
  by_cases h1 : okName s
  · rw [if_pos h1, if_pos h1]
    by_cases h2 : ∃ p ∈ C, p.1 = s
    · rw [if_pos h2, if_pos (hex.1 h2)]
      exact ⟨rfl, h.map _⟩
    · rw [if_neg h2, if_neg (fun e => h2 (hex.2 e))]
      by_cases h3 : 16 ≤ C.length
      · rw [if_pos h3, if_pos (by omega)]
        exact ⟨rfl, h⟩
      · rw [if_neg h3, if_neg (by omega)]
        exact ⟨rfl, h.append_right _⟩
  · rw [if_neg h1, if_neg h1]
    exact ⟨rfl, h⟩
theorem contR_len (L : List Rf) : (contR L).length = L.length := by simp [contR]
theorem contR_has {L : List Rf} {s : ByteArray} : (∃ p ∈ contR L, p.1 = s) ↔ ∃ r ∈ L, r.nm = s := by
  constructor
  · rintro ⟨p, hp, e⟩
    obtain ⟨r, hr, rfl⟩ := List.mem_map.1 hp
    exact ⟨r, hr, e⟩
  · rintro ⟨r, hr, e⟩
    exact ⟨(r.nm, r.zs), List.mem_map.2 ⟨r, hr, rfl⟩, e⟩
theorem less_trans {a b c : ByteArray} (h1 : Op.bytesLess a.toList b.toList = true) (h2 : Op.bytesLess b.toList c.toList = true) : Op.bytesLess a.toList c.toList = true := by
  rw [bytesLess_eq] at *
  simp at *
  exact List.lt_trans h1 h2
theorem less_total {a b : ByteArray} (h1 : Op.bytesLess a.toList b.toList = false) (h2 : a ≠ b) : Op.bytesLess b.toList a.toList = true := by
  rw [bytesLess_eq] at *
  simp at *
  rcases List.le_iff_lt_or_eq.1 (List.not_lt.1 (by simpa using h1)) with h3 | h3
  · exact h3
  · exact absurd (toList_inj h3.symm) h2
theorem rising_set {L : List Rf} (h : Rising L) {i : Nat} {r r' : Rf} (hi : L[i]? = some r) (e : r'.nm = r.nm) : Rising (L.set i r') := by
  obtain ⟨hil, rfl⟩ := List.getElem?_eq_some_iff.1 hi
  unfold Rising at *
  rw [List.pairwise_iff_getElem] at *
  intro a b ha hb hab
  have ha' : a < L.length := by simpa using ha
  have hb' : b < L.length := by simpa using hb
  have := h a b ha' hb' hab
  rw [List.getElem_set, List.getElem_set]
  by_cases h1 : i = a
  · subst h1
    rw [if_pos rfl, if_neg (by omega), e]
    exact this
  · rw [if_neg h1]
    by_cases h2 : i = b
    · subst h2
      rw [if_pos rfl, e]
      exact this
    · rw [if_neg h2]
      exact this
theorem rising_place {L : List Rf} (h : Rising L) (r : Rf) (hno : ∀ a ∈ L, a.nm ≠ r.nm) : Rising (L.take (placeR L r.nm) ++ r :: L.drop (placeR L r.nm)) := by
  induction L with
  | nil => simp [Rising, placeR]
  | cons a L ih =>
    obtain ⟨h1, h2⟩ := List.pairwise_cons.1 h
    rw [placeR]
    split
    · rename_i ha
      have := ih h2 (fun b hb => hno b (List.mem_cons_of_mem _ hb))
      simp only [List.take_succ_cons, List.drop_succ_cons, List.cons_append]
      refine List.pairwise_cons.2 ⟨fun b hb => ?_, this⟩
      rcases List.mem_append.1 hb with hb | hb
      · exact h1 b (List.mem_of_mem_take hb)
      · rcases List.mem_cons.1 hb with rfl | hb
        · exact ha
        · exact h1 b (List.mem_of_mem_drop hb)
    · rename_i ha
      have hra : Op.bytesLess r.nm.toList a.nm.toList = true := less_total (by simpa using ha) (hno a (by simp))
      simp only [List.take_zero, List.drop_zero, List.nil_append]
      refine List.pairwise_cons.2 ⟨fun b hb => ?_, h⟩
      rcases List.mem_cons.1 hb with rfl | hb
      · exact hra
      · exact less_trans hra (h1 b hb)
theorem perm_place (L : List Rf) (r : Rf) (p : Nat) : (contR (L.take p ++ r :: L.drop p)).Perm (contR L ++ [(r.nm, r.zs)]) := by
  have h1 : (L.take p ++ r :: L.drop p).Perm (L ++ [r]) := by
    have h2 : (L.take p ++ r :: L.drop p).Perm (r :: (L.take p ++ L.drop p)) := List.perm_middle
    rw [List.take_append_drop] at h2
    exact h2.trans (List.perm_append_singleton r L).symm
  have := h1.map (fun r => (r.nm, r.zs))
  simpa [contR] using this
theorem contR_set {L : List Rf} (h : Rising L) {i : Nat} {r : Rf} (hi : L[i]? = some r) (v : Value) (u : Int) (bs : List Int) : contR (L.set i ⟨r.nm, v, r.zs ++ bs, u⟩) = (contR L).map (fun p => if p.1 = r.nm then (p.1, p.2 ++ bs) else p) := by
  obtain ⟨hil, rfl⟩ := List.getElem?_eq_some_iff.1 hi
  refine List.ext_getElem? fun j => ?_
  simp only [contR, List.getElem?_map]
  by_cases hij : i = j
  · subst hij
    rw [List.getElem?_set_self hil, List.getElem?_eq_getElem hil]
    simp
  · rw [List.getElem?_set_ne hij]
    cases hj : L[j]? with
    | none => simp
    | some r' =>
      have : r'.nm ≠ L[i].nm := fun e => hij (h.uniq hi hj e).symm
      simp [this]
end Go.Proofs.YtmboklllkdlmgaaGreatDoor
