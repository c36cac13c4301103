/-
  What a store into the chapter's disk leaves of a disk, and the other way about. Conditions: helper lemmas.
-/
import Derived.Test.YtmboklllkdlmgaaGreatDoorCQ
namespace Go.Proofs.YtmboklllkdlmgaaGreatDoor
open Go.RowKit Go.MapKept
set_option maxRecDepth 100000
/-- Blocks of such types alone have turned: a disk stays. -/
theorem Dk.keepT {w w' : World} {d md ck : Nat} {fs : List Fl} {fuse : Int} {dead : Bool} (h : Dk w d md ck fs fuse dead) (hb : ∀ f ∈ fs, B5 w f.v) {S : List Nat} (k : Kp S w w') (hS : ∀ x ∈ S, ∃ cs t, w.heap[x]? = some (.cells cs t (0, 0)) ∧ t ≠ 5 ∧ t ≠ 30 ∧ t ≠ 100) : Dk w' d md ck fs fuse dead ∧ ∀ f ∈ fs, B5 w' f.v := by
  have hne : ∀ {b : Nat} {cs : Array Value} {t : TypeId}, w.heap[b]? = some (.cells cs t (0, 0)) → (t = 5 ∨ t = 30 ∨ t = 100) → b ∉ S := by
    intro b cs t hb ht hx
    obtain ⟨cs', t', h1, h2, h3, h4⟩ := hS b hx
    rw [hb] at h1
    injection h1 with h1
    injection h1 with _ e _
    rcases ht with ht | ht | ht
    · exact h2 (e.symm.trans ht)
    · exact h3 (e.symm.trans ht)
    · exact h4 (e.symm.trans ht)
  have hsb : ∀ f ∈ fs, ∀ x ∈ sliceBlock f.v, x ∉ S := by
    intro f hf x hx
    obtain ⟨cs, hcs⟩ := hb f hf x hx
    exact hne hcs (.inl rfl)
  refine ⟨h.keep k (fun x hx hxf => ?_), fun f hf => (hb f hf).kp k (hsb f hf)⟩
  simp only [feet, List.mem_cons, List.mem_flatMap] at hxf
  rcases hxf with rfl | rfl | ⟨f, hf, rfl | hxf⟩
  · exact hne h.hd (.inr (.inl rfl)) hx
  · obtain ⟨cs', t', h1, _⟩ := hS _ hx
    rw [h.hm] at h1
    cases h1
  · exact hne (h.hf f hf) (.inr (.inr rfl)) hx
  · exact hsb f hf x hxf hx
/-- .. and the chapter's disk. -/
theorem RefAt.keepT {base : Nat} {w w' : World} {m : Nat} {lv : Value} {L : List Rf} (h : RefAt base w m lv L) {S : List Nat} (k : Kp S w w') (hS : ∀ x ∈ S, ∃ cs t, w.heap[x]? = some (.cells cs t (0, 0)) ∧ t ≠ 5 ∧ t ≠ 54 ∧ t ≠ 105) : RefAt base w' m lv L := by
  refine h.apart k (fun x hx hxf => ?_)
  obtain ⟨cs, t, h1, h2, h3, h4⟩ := hS x hx
  rcases mem_rfeet.1 hxf with rfl | e | ⟨r, hr, e⟩
  · rw [h.hd] at h1
    injection h1 with h1
    injection h1 with _ e _
    exact h3 e.symm
  · exact own_ne h.own h1 h4 e.symm
  · exact own_ne (h.ow r hr) h1 h2 e.symm
end Go.Proofs.YtmboklllkdlmgaaGreatDoor
