/-
  Add of the chapter's disk, walked: it does what the plain contents say; a twin holds what the disk holds. Conditions: helper lemmas.
-/
import Derived.Test.YtmboklllkdlmgaaGreatDoorCO
namespace Go.Proofs.YtmboklllkdlmgaaGreatDoor
open Go.RowKit Go.MapKept
set_option maxRecDepth 100000
/-- The blocks of the chapter's disk. -/
def rfeet (m : Nat) (lv : Value) (L : List Rf) : List Nat := m :: (lv.ownBlock.toList ++ L.flatMap fun r => r.v.ownBlock.toList)
theorem mem_rfeet {m x : Nat} {lv : Value} {L : List Rf} : x ∈ rfeet m lv L ↔ x = m ∨ lv.ownBlock = some x ∨ ∃ r ∈ L, r.v.ownBlock = some x := by
  simp [rfeet]
theorem RefAt.apart {base : Nat} {w w' : World} {m : Nat} {lv : Value} {L : List Rf} (h : RefAt base w m lv L) {S : List Nat} (k : Kp S w w') (hS : ∀ x ∈ S, x ∉ rfeet m lv L) : RefAt base w' m lv L :=
  h.keep k (fun hx => hS m hx (mem_rfeet.2 (.inl rfl))) (fun x hx hxS => hS x hxS (mem_rfeet.2 (.inr (.inl hx)))) (fun r hr x hx hxS => hS x hxS (mem_rfeet.2 (.inr (.inr ⟨r, hr, hx⟩))))
theorem RefAt.feet_lt {base : Nat} {w : World} {m : Nat} {lv : Value} {L : List Rf} (h : RefAt base w m lv L) : ∀ x ∈ rfeet m lv L, x < w.heap.size := by
  intro x hx
  rcases mem_rfeet.1 hx with rfl | hx | ⟨r, hr, hx⟩
  · exact lt_of_heap h.hd
  · exact (h.own.lt x hx).2
  · exact ((h.ow r hr).lt x hx).2
theorem refAdd_spec (w : World) (base m n : Nat) (lv : Value) (L : List Rf) (h : RefAt base w m lv L) (hl : L.length = n) (hn : n ≤ 16) (hR : Rising L) (s : ByteArray) (A : Option Addr) (k c : Nat) (bs : List Int) (hbl : bs.length = k) (hr : RdG 1 w (.slice A k c) k (byt bs)) (hz : ∀ r ∈ L, r.zs.length + k ≤ 1048576) (hk : k ≤ 1048576) :
    Calls Tryz.prog 15 #[.pointer (some ⟨m, 0, none⟩), .string s, .slice A k c] w fun e w' => ∃ lv' L', e = .returned (.int .i64 (addC (contR L) s bs).2) ∧ (contR L').Perm (addC (contR L) s bs).1 ∧ Rising L' ∧ RefAt base w' m lv' L' ∧
      (∀ x ∈ rfeet m lv' L', x ∈ rfeet m lv L ∨ w.heap.size ≤ x) ∧ Kp (rfeet m lv L) w w' := by
  by_cases hv : okName s
  · by_cases hex : ∃ r ∈ L, r.nm = s
    · obtain ⟨r, hrm, rfl⟩ := hex
      obtain ⟨i, hi⟩ := List.getElem?_of_mem hrm
      have hC : addC (contR L) r.nm bs = ((contR L).map (fun p => if p.1 = r.nm then (p.1, p.2 ++ bs) else p), 0) := by
        unfold addC
        rw [if_pos hv, if_pos (contR_has.2 ⟨r, hrm, rfl⟩)]
      refine (refAdd_old w base m n k c i lv L h hl (by omega) r.nm hv r hi rfl (fun j r' hj e => hR.uniq hi hj e) A bs hr hbl (hz r hrm)).mono ?_
      rintro e w' ⟨rfl, v', h1, h2, h3⟩
      refine ⟨lv, L.set i ⟨r.nm, v', r.zs ++ bs, r.sure⟩, by rw [hC], by rw [hC, contR_set hR hi], rising_set hR hi rfl, h2, ?_, h3.mono (fun x hx => mem_rfeet.2 (.inr (.inl (by simpa using hx))))⟩
      intro x hx
      rcases mem_rfeet.1 hx with rfl | hx | ⟨r', hr', hx⟩
      · exact .inl (mem_rfeet.2 (.inl rfl))
      · exact .inl (mem_rfeet.2 (.inr (.inl hx)))
      · rcases List.mem_or_eq_of_mem_set hr' with hr' | rfl
        · exact .inl (mem_rfeet.2 (.inr (.inr ⟨r', hr', hx⟩)))
        · exact .inr (h1 x hx)
    · have hno : ∀ r ∈ L, r.nm ≠ s := fun r hr e => hex ⟨r, hr, e⟩
      have hno2 : ¬ ∃ p ∈ contR L, p.1 = s := fun e => hex (contR_has.1 e)
      by_cases h16 : 16 ≤ n
      · have hC : addC (contR L) s bs = (contR L, 3) := by
          unfold addC
          rw [if_pos hv, if_neg hno2, if_pos (by rw [contR_len]; omega)]
        refine (refAdd_new w base m n lv L h hl (by omega) s hv hno (.slice A k c) (fun E w' => E = 3 ∧ w = w') ((refSet_full w base m n k c lv L h hl (by omega) h16 s hno A hk 0).mono ?_)).mono ?_
        · rintro e w' ⟨rfl, rfl⟩
          exact ⟨3, rfl, rfl, rfl⟩
        · rintro e w' ⟨E, rfl, rfl, rfl⟩
          exact ⟨lv, L, by rw [hC], by rw [hC], hR, h, fun x hx => .inl hx, Kp.refl _ _⟩
      · have hC : addC (contR L) s bs = (contR L ++ [(s, bs)], 0) := by
          unfold addC
          rw [if_pos hv, if_neg hno2, if_neg (by rw [contR_len]; omega)]
        refine (refAdd_new w base m n lv L h hl (by omega) s hv hno (.slice A k c) (fun E w' => E = 0 ∧ ∃ lv' v', (∀ x, lv'.ownBlock = some x → w.heap.size ≤ x) ∧ (∀ x, v'.ownBlock = some x → w.heap.size ≤ x) ∧ RefAt base w' m lv' (L.take (placeR L s) ++ ⟨s, v', bs, 0⟩ :: L.drop (placeR L s)) ∧ Kp [m] w w')
          ((refSet_new w base m n k c lv L h hl (by omega) s hno A bs hr hbl hk 0).mono ?_)).mono ?_
        · rintro e w' ⟨rfl, h1⟩
          exact ⟨0, rfl, rfl, h1⟩
        · rintro e w' ⟨E, rfl, rfl, lv', v', h1, h2, h3, h4⟩
          refine ⟨lv', _, by rw [hC], by rw [hC]; exact perm_place L ⟨s, v', bs, 0⟩ _, rising_place hR ⟨s, v', bs, 0⟩ hno, h3, ?_, h4.mono (fun x hx => mem_rfeet.2 (.inl (List.mem_singleton.1 hx)))⟩
          intro x hx
          rcases mem_rfeet.1 hx with rfl | hx | ⟨r', hr', hx⟩
          · exact .inl (mem_rfeet.2 (.inl rfl))
          · exact .inr (h1 x hx)
          · rcases List.mem_append.1 hr' with hr' | hr'
            · exact .inl (mem_rfeet.2 (.inr (.inr ⟨r', List.mem_of_mem_take hr', hx⟩)))
            · rcases List.mem_cons.1 hr' with rfl | hr'
              · exact .inr (h2 x hx)
              · exact .inl (mem_rfeet.2 (.inr (.inr ⟨r', List.mem_of_mem_drop hr', hx⟩)))
  · have hC : addC (contR L) s bs = (contR L, 1) := by
      unfold addC
      rw [if_neg hv]
    refine (refAdd_arg w base m lv L h s hv (.slice A k c)).mono ?_
    rintro e w' ⟨rfl, rfl⟩
    exact ⟨lv, L, by rw [hC], by rw [hC], hR, h, fun x hx => .inl hx, Kp.refl _ _⟩
theorem nodup_cont {fs : List Fl} (h : fs.Pairwise (fun f g => f.name ≠ g.name)) : (cont fs).Nodup := by
  rw [cont, List.Nodup, List.pairwise_map]
  exact h.imp (fun hh e => hh (congrArg Prod.fst e))
/-- A twin holds the same. -/
theorem twin_perm {fs fs2 : List Fl} (h : TwinOf fs fs2) (h1 : fs.Pairwise (fun f g => f.name ≠ g.name)) (h2 : fs2.Pairwise (fun f g => f.name ≠ g.name)) : (cont fs2).Perm (cont fs) := by
  have hsub : ∀ p ∈ cont fs2, p ∈ cont fs := by
    intro p hp
    obtain ⟨g, hg, rfl⟩ := List.mem_map.1 hp
    obtain ⟨_, f, hf, e1, e2⟩ := h.2 g hg
    exact List.mem_map.2 ⟨f, hf, by rw [e1, e2]⟩
  refine (List.perm_ext_iff_of_nodup (nodup_cont h2) (nodup_cont h1)).2 fun p => ⟨hsub p, fun hp => ?_⟩
  obtain ⟨f, hf, rfl⟩ := List.mem_map.1 hp
  have hk : keyOf f ∈ fs2.map keyOf := by
    rw [h.1]
    exact (sorted_perm _).mem_iff.2 (List.mem_map.2 ⟨f, hf, rfl⟩)
  obtain ⟨g, hg, e⟩ := List.mem_map.1 hk
  obtain ⟨_, f', hf', e1, e2⟩ := h.2 g hg
  have : f' = f := fl_eq h1 hf' hf (by rw [e1, keyOf_inj e])
  subst this
  exact List.mem_map.2 ⟨g, hg, by rw [e1, e2]⟩
end Go.Proofs.YtmboklllkdlmgaaGreatDoor
