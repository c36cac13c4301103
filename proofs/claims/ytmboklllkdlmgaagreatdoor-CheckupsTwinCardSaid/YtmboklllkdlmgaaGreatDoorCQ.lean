/-
  The disk and the chapter's disk side by side: what an Add on both keeps. Conditions: helper lemmas.
-/
import Derived.Test.YtmboklllkdlmgaaGreatDoorCP
import Derived.Test.YtmboklllkdlmgaaGreatDoorZ
namespace Go.Proofs.YtmboklllkdlmgaaGreatDoor
open Go.RowKit Go.MapKept
set_option maxRecDepth 100000
/-- Both hold the same; no file is longer than B. -/
structure Both (w wr : World) (d md m B ck : Nat) (fs : List Fl) (lv : Value) (L : List Rf) : Prop where
  dw : Dw w.heap.size wr d md ck fs
  rf : RefAt w.heap.size wr m lv L
  ri : Rising L
  pm : (contR L).Perm (cont fs)
  ap : ∀ x ∈ feet d md fs, x ∉ rfeet m lv L
  lo : ∀ x ∈ feet d md fs, w.heap.size ≤ x
  lo2 : ∀ x ∈ rfeet m lv L, w.heap.size ≤ x
  sz : ∀ p ∈ cont fs, p.2.length ≤ B
  ln : L.length ≤ 16
  kp : Kp [] w wr
/-- The disk has had its Add, the other not yet. -/
structure Mid (w W : World) (d md m B : Nat) (s : ByteArray) (bs : List Int) (fs : List Fl) (ck' : Nat) (fs' : List Fl) (lv : Value) (L : List Rf) : Prop where
  dw : Dw w.heap.size W d md ck' fs'
  rf : RefAt w.heap.size W m lv L
  ri : Rising L
  pm : (contR L).Perm (cont fs)
  ct : cont fs' = (addC (cont fs) s bs).1
  ap : ∀ x ∈ feet d md fs', x ∉ rfeet m lv L
  lo : ∀ x ∈ feet d md fs', w.heap.size ≤ x
  lo2 : ∀ x ∈ rfeet m lv L, w.heap.size ≤ x
  sz : ∀ p ∈ cont fs, p.2.length ≤ B
  ln : L.length ≤ 16
  kp : Kp [] w W
theorem Both.keep0 {w wr wr' : World} {d md m B ck : Nat} {fs : List Fl} {lv : Value} {L : List Rf} (h : Both w wr d md m B ck fs lv L) (k : Kp [] wr wr') : Both w wr' d md m B ck fs lv L :=
  ⟨h.dw.keep0 k, h.rf.keep0 k, h.ri, h.pm, h.ap, h.lo, h.lo2, h.sz, h.ln, h.kp.trans k (by simp)⟩
theorem Mid.keep0 {w W W' : World} {d md m B : Nat} {s : ByteArray} {bs : List Int} {fs : List Fl} {ck' : Nat} {fs' : List Fl} {lv : Value} {L : List Rf} (h : Mid w W d md m B s bs fs ck' fs' lv L) (k : Kp [] W W') : Mid w W' d md m B s bs fs ck' fs' lv L :=
  ⟨h.dw.keep0 k, h.rf.keep0 k, h.ri, h.pm, h.ct, h.ap, h.lo, h.lo2, h.sz, h.ln, h.kp.trans k (by simp)⟩
theorem Both.step1 {w wr W1 : World} {d md m B ck ck' : Nat} {fs fs' : List Fl} {lv : Value} {L : List Rf} {s : ByteArray} {bs : List Int} (h : Both w wr d md m B ck fs lv L) (ct : cont fs' = (addC (cont fs) s bs).1) (dw' : Dw w.heap.size W1 d md ck' fs')
    (ft : ∀ x ∈ feet d md fs', x ∈ feet d md fs ∨ wr.heap.size ≤ x) (k1 : Kp (feet d md fs) wr W1) : Mid w W1 d md m B s bs fs ck' fs' lv L := by
  refine ⟨dw', h.rf.apart k1 h.ap, h.ri, h.pm, ct, ?_, ?_, h.lo2, h.sz, h.ln, h.kp.trans k1 (fun x hx => .inr (h.lo x hx))⟩
  · intro x hx hx2
    rcases ft x hx with h1 | h1
    · exact h.ap x h1 hx2
    · have := h.rf.feet_lt x hx2
      omega
  · intro x hx
    rcases ft x hx with h1 | h1
    · exact h.lo x h1
    · exact Nat.le_trans h.kp.size h1
theorem addC_len {C : List (ByteArray × List Int)} (h : C.length ≤ 16) (s : ByteArray) (bs : List Int) : (addC C s bs).1.length ≤ 16 := by
  unfold addC
  split
  · split
    · simpa using h
    · split
      · exact h
      · simp
        omega
  · exact h
theorem addC_sz {C : List (ByteArray × List Int)} {B : Nat} (h : ∀ p ∈ C, p.2.length ≤ B) (s : ByteArray) (bs : List Int) : ∀ p ∈ (addC C s bs).1, p.2.length ≤ B + bs.length := by
  unfold addC
  have h0 : ∀ p ∈ C, p.2.length ≤ B + bs.length := fun p hp => Nat.le_trans (h p hp) (by omega)
  split
  · split
    · intro p hp
      obtain ⟨q, hq, rfl⟩ := List.mem_map.1 hp
      have := h q hq
      split
      · simp
        omega
      · omega
    · split
      · exact h0
      · intro p hp
        rcases List.mem_append.1 hp with hp | hp
        · exact h0 p hp
        · rw [List.mem_singleton.1 hp]
          simp
  · exact h0
theorem Mid.step2 {w W1 W2 : World} {d md m B ck' : Nat} {fs fs' : List Fl} {lv lv' : Value} {L L' : List Rf} {s : ByteArray} {bs : List Int} (h : Mid w W1 d md m B s bs fs ck' fs' lv L) (pm' : (contR L').Perm (addC (contR L) s bs).1) (ri' : Rising L') (rf' : RefAt w.heap.size W2 m lv' L')
    (ft : ∀ x ∈ rfeet m lv' L', x ∈ rfeet m lv L ∨ W1.heap.size ≤ x) (k2 : Kp (rfeet m lv L) W1 W2) : Both w W2 d md m (B + bs.length) ck' fs' lv' L' := by
  have hpm : (contR L').Perm (cont fs') := by
    rw [h.ct]
    exact pm'.trans (addC_perm h.pm s bs).2
  refine ⟨h.dw.keep k2 (fun x hx hx2 => h.ap x hx2 hx), rf', ri', hpm, ?_, h.lo, ?_, ?_, ?_, h.kp.trans k2 (fun x hx => .inr (h.lo2 x hx))⟩
  · intro x hx hx2
    rcases ft x hx2 with h1 | h1
    · exact h.ap x hx h1
    · have := h.dw.dk.feet_lt x hx
      omega
  · intro x hx
    rcases ft x hx with h1 | h1
    · exact h.lo2 x h1
    · exact Nat.le_trans h.kp.size h1
  · rw [h.ct]
    exact addC_sz h.sz s bs
  · have h1 := pm'.length_eq
    rw [contR_len] at h1
    rw [h1]
    exact addC_len (by rw [contR_len]; exact h.ln) s bs
/-- Add to the disk, both standing side by side. -/
theorem both_add {w wr : World} {d md m B ck k c : Nat} {fs : List Fl} {lv : Value} {L : List Rf} (h : Both w wr d md m B ck fs lv L) (s : ByteArray) (A : Option Addr) (bs : List Int) (hbl : bs.length = k) (hr : RdG 1 wr (.slice A k c) k (byt bs)) (hB : B + k ≤ 1048576) :
    Calls Tryz.prog 14 #[.pointer (some ⟨d, 0, none⟩), .string s, .slice A k c] wr fun e w' => e = .returned (.int .i64 (addC (cont fs) s bs).2) ∧ ∃ ck' fs', Mid w w' d md m B s bs fs ck' fs' lv L := by
  refine (add_spec wr w.heap.size d md ck fs h.dw s A k c bs hbl hr (fun f hf => ?_) (by omega)).mono ?_
  · have := h.sz (f.name, f.zs) (List.mem_map.2 ⟨f, hf, rfl⟩)
    simp at this
    omega
  · rintro e w' ⟨ck', fs', rfl, h1, h2, h3, h4⟩
    exact ⟨rfl, ck', fs', h.step1 h1 h2 h3 h4⟩
theorem mid_add {w W : World} {d md m B ck' k c : Nat} {fs fs' : List Fl} {lv : Value} {L : List Rf} {s : ByteArray} {bs : List Int} (h : Mid w W d md m B s bs fs ck' fs' lv L) (A : Option Addr) (hbl : bs.length = k) (hr : RdG 1 W (.slice A k c) k (byt bs)) (hB : B + k ≤ 1048576) :
    Calls Tryz.prog 15 #[.pointer (some ⟨m, 0, none⟩), .string s, .slice A k c] W fun e w' => e = .returned (.int .i64 (addC (cont fs) s bs).2) ∧ ∃ lv' L', Both w w' d md m (B + k) ck' fs' lv' L' := by
  refine (refAdd_spec W w.heap.size m L.length lv L h.rf rfl h.ln h.ri s A k c bs hbl hr (fun r hr => ?_) (by omega)).mono ?_
  · have h1 := h.pm.mem_iff.1 (List.mem_map.2 ⟨r, hr, rfl⟩ : (r.nm, r.zs) ∈ contR L)
    have := h.sz _ h1
    simp at this
    omega
  · rintro e w' ⟨lv', L', rfl, h1, h2, h3, h4, h5⟩
    refine ⟨by rw [(addC_perm h.pm s bs).1], lv', L', ?_⟩
    rw [← hbl]
    exact h.step2 h1 h2 h3 h4 h5
end Go.Proofs.YtmboklllkdlmgaaGreatDoor
