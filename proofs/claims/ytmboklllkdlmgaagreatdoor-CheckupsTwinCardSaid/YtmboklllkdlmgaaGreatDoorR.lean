/-
  Lists of bytes in order, and one step of a range over a disk's map of files. Conditions: none; helper lemmas.
-/
import Derived.Test.YtmboklllkdlmgaaGreatDoorC
import Derived.Test.YtmboklllkdlmgaaGreatDoorShelf
import Derived.Sort.OwnSorted
import Derived.Maps.RangeRun
import Derived.LoopTactic
namespace Go.Proofs.YtmboklllkdlmgaaGreatDoor
open Go.RowKit Go.MapKept
set_option maxRecDepth 100000
def nle (x y : List UInt8) : Bool := decide (x ≤ y)
def sorted (l : List (List UInt8)) : List (List UInt8) := l.mergeSort fun x y => decide (x ≤ y)
theorem sorted_perm (l : List (List UInt8)) : (sorted l).Perm l := List.mergeSort_perm l _
theorem sorted_le (l : List (List UInt8)) : (sorted l).Pairwise (fun a b => a ≤ b) := by
  have h := List.pairwise_mergeSort (le := fun x y : List UInt8 => decide (x ≤ y)) (fun a b c h1 h2 => by simpa using List.le_trans (by simpa using h1) (by simpa using h2)) (fun a b => by simpa using List.le_total a b) l
  exact h.imp (by intro a b hab; simpa using hab)
theorem sorted_unique {l l' : List (List UInt8)} (h : l.Perm l') (hs : l.Pairwise (fun a b => a ≤ b)) : l = sorted l' :=
  List.Perm.eq_of_pairwise (le := fun a b => a ≤ b) (fun _ _ _ _ h1 h2 => List.le_antisymm h1 h2) hs (sorted_le l') (h.trans (sorted_perm l').symm)
theorem sorted_of_perm {l l' : List (List UInt8)} (h : l.Perm l') : sorted l = sorted l' := sorted_unique ((sorted_perm l).trans h) (sorted_le l)

def lenOf : Value → Nat
  | .slice _ n _ => n
  | _ => 0
def keyOf (f : Fl) : List UInt8 := f.name.data.toList
def nameV (f : Fl) : Value := .string f.name
theorem nameV_enc (f : Fl) : nameV f = encStr (keyOf f) := rfl
/-- The walk over the map's entries under way: these have come. -/
structure RangeAt (w : World) (m ck : Nat) (fs done : List Fl) (wr : World) : Prop where
  it : ∃ seen : Array Nat, wr.heap[w.heap.size]? = some (.mapIter (some m) ck seen ck) ∧ seen.toList = done.map (·.born)
  mp : wr.heap[m]? = some (.map (fs.map Fl.ent).toArray ck)
  sub : ∀ f ∈ done, f ∈ fs
  nd : done.Pairwise (fun f g => f.born ≠ g.born)
  kp : Kp [] w wr
theorem RangeAt.keep {w : World} {m ck : Nat} {fs done : List Fl} {wr wr' : World} (h : RangeAt w m ck fs done wr) (hm : m < w.heap.size) {S : List Nat} (k : Kp S wr wr') (hS : ∀ x ∈ S, w.heap.size < x) : RangeAt w m ck fs done wr' := by
  obtain ⟨seen, h1, h2⟩ := h.it
  exact ⟨⟨seen, k.heap h1 (fun hx => by have := hS _ hx; omega), h2⟩, k.heap h.mp (fun hx => by have := hS _ hx; omega), h.sub, h.nd, h.kp.trans k (fun x hx => .inr (by have := hS _ hx; omega))⟩
theorem born_inj {fs : List Fl} (hp : fs.Pairwise (fun f g => f.born ≠ g.born)) {f g : Fl} (hf : f ∈ fs) (hg : g ∈ fs) (h : f.born = g.born) : f = g := by
  induction fs with
  | nil => cases hf
  | cons a l ih =>
    obtain ⟨h1, h2⟩ := List.pairwise_cons.1 hp
    rcases List.mem_cons.1 hf with hf' | hf'
    · rcases List.mem_cons.1 hg with hg' | hg'
      · rw [hf', hg']
      · rw [hf'] at h ⊢; exact absurd h (h1 g hg')
    · rcases List.mem_cons.1 hg with hg' | hg'
      · rw [hg'] at h ⊢; exact absurd h.symm (h1 f hf')
      · exact ih h2 hf' hg'
theorem nodup_of_born {l : List Fl} (h : l.Pairwise (fun f g => f.born ≠ g.born)) : l.Nodup := h.imp (fun {a b} hne e => hne (by rw [e]))
theorem perm_of_all {fs done : List Fl} (hp : fs.Pairwise (fun f g => f.born ≠ g.born)) (hd : done.Pairwise (fun f g => f.born ≠ g.born)) (hs : ∀ f ∈ done, f ∈ fs) (ha : ∀ f ∈ fs, ∃ g ∈ done, g.born = f.born) : done.Perm fs := by
  refine (List.perm_ext_iff_of_nodup (nodup_of_born hd) (nodup_of_born hp)).2 fun f => ⟨hs f, fun hf => ?_⟩
  obtain ⟨g, hg, e⟩ := ha f hf
  rw [← born_inj hp (hs g hg) hf e]
  exact hg
theorem range_next {w : World} {m ck : Nat} {fs done : List Fl} {wr : World} (h : RangeAt w m ck fs done wr) (hm : m < w.heap.size) (hp : fs.Pairwise (fun f g => f.born ≠ g.born)) (hb : ∀ f ∈ fs, f.born < ck) (ty : TypeId) :
    (done.Perm fs ∧ (Instr.next (.pointer (some ⟨w.heap.size, 0, none⟩)) false ty).run Tryz.prog wr = .ok (.tuple #[.bool false]) wr) ∨
    ∃ f W2, (Instr.next (.pointer (some ⟨w.heap.size, 0, none⟩)) false ty).run Tryz.prog wr = .ok (.tuple #[.bool true, .string f.name, .pointer (some ⟨f.fb, 0, none⟩)]) W2 ∧
      (Instr.entry (.pointer (some ⟨w.heap.size, 0, none⟩))).run Tryz.prog W2 = .ok (.tuple #[.string f.name, .pointer (some ⟨f.fb, 0, none⟩)]) W2 ∧ RangeAt w m ck fs (done ++ [f]) W2 ∧ Kp [w.heap.size] wr W2 ∧ done.length < fs.length := by
  obtain ⟨seen, h1, h2⟩ := h.it
  have hold : ∀ x ∈ (fs.map Fl.ent).toArray.toList, x.born < ck := by
    intro x hx
    simp only [List.mem_map] at hx
    obtain ⟨f, hf, rfl⟩ := hx
    exact hb f hf
  have hin : ∀ n, seen.contains n = true ↔ ∃ g ∈ done, g.born = n := by
    intro n
    rw [Array.contains_iff_mem, ← Array.mem_toList_iff, h2, List.mem_map]
  rcases run_next_at (P := Tryz.prog) wr ty w.heap.size m ck ck seen _ ck h1 h.mp hold (Nat.le_refl _) with ⟨h0, hrun⟩ | ⟨e, he, w1, hw1, hrun⟩
  · refine .inl ⟨perm_of_all hp h.nd h.sub fun f hf => ?_, hrun⟩
    exact (hin _).1 (all_seen _ _ h0 (Fl.ent f) (by simp; exact ⟨f, hf, rfl⟩))
  · obtain ⟨hm1, hm2⟩ := mem_left he
    simp only [List.mem_map] at hm1
    obtain ⟨f, hf, rfl⟩ := hm1
    have hnew : ∀ g ∈ done, g.born ≠ f.born := fun g hg e => by
      have : seen.contains f.born = true := (hin _).2 ⟨g, hg, e⟩
      have h3 : seen.contains f.born = false := hm2
      rw [this] at h3
      cases h3
    have hw1h : w1.heap = wr.heap := by rcases hw1 with rfl | rfl <;> rfl
    have hw1k : Kp [w.heap.size] wr w1 := by
      rcases hw1 with rfl | rfl
      · exact Kp.refl _ _
      · exact Kp.drew _ _
    have hr1 : w1.heap[w.heap.size]? = some (.mapIter (some m) ck seen ck) := by rw [hw1h]; exact h1
    have hmp1 : w1.heap[m]? = some (.map (fs.map Fl.ent).toArray ck) := by rw [hw1h]; exact h.mp
    refine .inr ⟨f, _, hrun, ?_, ⟨⟨seen.push f.born, heap_put hr1 _, by simp [h2]⟩, heap_put_far hmp1 (by omega) _, ?_, ?_, ?_⟩, ?_, ?_⟩
    · refine run_entry_at _ w.heap.size m ck seen _ ck (Fl.ent f) (heap_put hr1 _) (heap_put_far hmp1 (by omega) _) (by simp; exact ⟨f, hf, rfl⟩) ?_
      rw [List.Nodup, List.pairwise_map]
      simp only [List.pairwise_map]
      exact hp
    · intro g hg
      rcases List.mem_append.1 hg with hg | hg
      · exact h.sub g hg
      · rw [List.mem_singleton.1 hg]; exact hf
    · refine List.pairwise_append.2 ⟨h.nd, by simp, fun g hg f' hf' => ?_⟩
      rw [List.mem_singleton.1 hf']
      exact hnew g hg
    · exact h.kp.trans (hw1k.trans (Kp.putObj (S := [w.heap.size]) _ _ _ (by simp)) (by simp)) (by simp)
    · exact hw1k.trans (Kp.putObj (S := [w.heap.size]) _ _ _ (by simp)) (by simp)
    · have hsub : (done ++ [f]).Nodup := nodup_of_born (List.pairwise_append.2 ⟨h.nd, by simp, fun g hg f' hf' => by rw [List.mem_singleton.1 hf']; exact hnew g hg⟩)
      have hle := List.Nodup.length_le_of_subset hsub (l₂ := fs) (fun g hg => by
        rcases List.mem_append.1 hg with hg | hg
        · exact h.sub g hg
        · rw [List.mem_singleton.1 hg]; exact hf)
      simp at hle
      omega
end Go.Proofs.YtmboklllkdlmgaaGreatDoor
