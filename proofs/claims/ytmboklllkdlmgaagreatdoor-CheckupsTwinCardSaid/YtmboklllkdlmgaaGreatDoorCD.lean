/-
  Add, walked: what it does is what the plain list of contents says. Conditions: lengths within a file's limit; helper lemmas.
-/
import Derived.Test.YtmboklllkdlmgaaGreatDoorCC
namespace Go.Proofs.YtmboklllkdlmgaaGreatDoor
open Go.RowKit Go.MapKept
set_option maxRecDepth 100000
/-- What files hold. -/
def cont (fs : List Fl) : List (ByteArray × List Int) := fs.map fun f => (f.name, f.zs)
def okName (s : ByteArray) : Prop := 0 < s.size ∧ s.size ≤ 16
instance (s : ByteArray) : Decidable (okName s) := by unfold okName; infer_instance
/-- Bytes behind a file's, in plain words. -/
def addC (C : List (ByteArray × List Int)) (s : ByteArray) (bs : List Int) : List (ByteArray × List Int) × Int :=
  if okName s then
    if ∃ p ∈ C, p.1 = s then (C.map (fun p => if p.1 = s then (p.1, p.2 ++ bs) else p), 0)
    else if 16 ≤ C.length then (C, 3) else (C ++ [(s, bs)], 0)
  else (C, 1)
theorem cont_len (fs : List Fl) : (cont fs).length = fs.length := by simp [cont]
theorem cont_grown (s : ByteArray) (v : Value) (bs : List Int) (fs : List Fl) : cont (fs.map (grownF s v bs)) = (cont fs).map (fun p => if p.1 = s then (p.1, p.2 ++ bs) else p) := by
  simp only [cont, List.map_map]
  refine List.map_congr_left fun f _ => ?_
  simp only [Function.comp, grownF]
  split <;> rfl
theorem sliceBlock_own_eq (v : Value) : sliceBlock v = v.ownBlock.toList := by
  cases v with
  | slice a _ _ => cases a <;> rfl
  | _ => rfl
theorem feet_grown {d m : Nat} {fs : List Fl} {s : ByteArray} {v : Value} {bs : List Int} {x : Nat} (h : x ∈ feet d m (fs.map (grownF s v bs))) : x ∈ feet d m fs ∨ x ∈ sliceBlock v := by
  simp only [feet, List.mem_cons, List.mem_flatMap, List.mem_map] at h ⊢
  rcases h with h | h | ⟨_, ⟨f, hf, rfl⟩, h⟩
  · exact .inl (.inl h)
  · exact .inl (.inr (.inl h))
  · rw [grown_fb] at h
    rcases h with h | h
    · exact .inl (.inr (.inr ⟨f, hf, .inl h⟩))
    · unfold grownF at h
      split at h
      · exact .inr h
      · exact .inl (.inr (.inr ⟨f, hf, .inr h⟩))
theorem feet_file {d m : Nat} {fs : List Fl} {f : Fl} (hf : f ∈ fs) {x : Nat} (hx : x ∈ f.fb :: f.v.ownBlock.toList) : x ∈ feet d m fs := by
  rw [← sliceBlock_own_eq] at hx
  simp only [feet, List.mem_cons, List.mem_flatMap]
  exact .inr (.inr ⟨f, hf, by simpa using hx⟩)
theorem Dw.pushed {w w' : World} {base d m ck k : Nat} {fs : List Fl} (h : Dw base w d m ck fs) (s : ByteArray) (v : Value) (bs : List Int) (hk : bs.length = k) (fb : Nat) (hfb : w.heap.size ≤ fb) (h0 : 0 < s.size) (hl : s.size ≤ 16) (hn : named fs s = none)
    (h1 : w'.heap[fb]? = some (.cells #[v, .int .i64 0, .string s] 100 (0, 0))) (h2 : w'.ownsRow base 5 1 v k (byt bs)) (h3 : v.ownBlock = none ∨ ∃ b, v.ownBlock = some b ∧ w.heap.size ≤ b)
    (hm : w'.heap[m]? = some (.map (fs.map Fl.ent ++ [({ key := .string s, val := .pointer (some ⟨fb, 0, none⟩), born := ck } : MapEntry)]).toArray (ck + 1))) (h4 : Kp [m] w w') (hz : k ≤ 1048576) :
    Dw base w' d m (ck + 1) (fs ++ [⟨s, fb, ck, v, bs, 0⟩]) := by
  have hold : ∀ f ∈ fs, w'.ownsRow base 5 1 f.v f.zs.length (byt f.zs) := by
    intro f hf
    refine byt_kp (h.ow f hf) h4 (fun x hx hxm => ?_)
    have hxe : x = m := List.mem_singleton.1 hxm
    subst hxe
    rcases (h.ow f hf).2 with ⟨e, _⟩ | ⟨g, cap, cur, e, _, hg, _⟩
    · rw [e] at hx
      simp [Value.ownBlock] at hx
    · rw [e] at hx
      have : g = x := by simpa [Value.ownBlock] using hx
      subst this
      have hm0 := h.dk.hm
      rw [hg] at hm0
      cases hm0
  refine ⟨Dk.push h.dk s fb v bs 0 h4 hm h1 hfb (RdA.of_own h2) (by omega) h0 hl hn, Nat.le_trans h.lo h4.size, ?_, ?_⟩
  · intro f hf
    rcases List.mem_append.1 hf with hf | hf
    · exact hold f hf
    · rw [List.mem_singleton.1 hf]
      simp only [hk]
      exact h2
  · refine List.pairwise_append.2 ⟨h.ds, by simp, fun f hf g hg x hx => ?_⟩
    rw [List.mem_singleton.1 hg]
    intro hgx
    have hgx : v.ownBlock = some x := hgx
    have h5 := ((h.ow f hf).lt x hx).2
    rcases h3 with e | ⟨b, e, hb⟩
    · rw [e] at hgx
      cases hgx
    · rw [e] at hgx
      injection hgx with hgx
      omega
theorem Dw.keep {w W : World} {base d m ck : Nat} {fs : List Fl} (h : Dw base w d m ck fs) {S : List Nat} (k : Kp S w W) (hS : ∀ x ∈ S, x ∉ feet d m fs) : Dw base W d m ck fs := by
  refine ⟨h.dk.keep k hS, Nat.le_trans h.lo k.size, fun f hf => byt_kp (h.ow f hf) k (fun x hx hxS => hS x hxS (feet_file hf (by simp [hx]))), h.ds⟩
theorem Dw.keep0 {w W : World} {base d m ck : Nat} {fs : List Fl} (h : Dw base w d m ck fs) (k : Kp [] w W) : Dw base W d m ck fs := h.keep k (by simp)
theorem cont_has {fs : List Fl} {s : ByteArray} : (∃ p ∈ cont fs, p.1 = s) ↔ ∃ f ∈ fs, f.name = s := by
  constructor
  · rintro ⟨p, hp, e⟩
    obtain ⟨f, hf, rfl⟩ := List.mem_map.1 hp
    exact ⟨f, hf, e⟩
  · rintro ⟨f, hf, e⟩
    exact ⟨(f.name, f.zs), List.mem_map.2 ⟨f, hf, rfl⟩, e⟩
theorem add_spec (w : World) (base d m ck : Nat) (fs : List Fl) (h : Dw base w d m ck fs) (s : ByteArray) (A : Option Addr) (k c : Nat) (bs : List Int) (hbl : bs.length = k) (hr : RdG 1 w (.slice A k c) k (byt bs)) (hz : ∀ f ∈ fs, f.zs.length + k ≤ 1048576) (hk : k ≤ 1048576) :
    Calls Tryz.prog 14 #[.pointer (some ⟨d, 0, none⟩), .string s, .slice A k c] w fun e w' => ∃ ck' fs', e = .returned (.int .i64 (addC (cont fs) s bs).2) ∧ cont fs' = (addC (cont fs) s bs).1 ∧ Dw base w' d m ck' fs' ∧
      (∀ x ∈ feet d m fs', x ∈ feet d m fs ∨ w.heap.size ≤ x) ∧ Kp (feet d m fs) w w' := by
  have hkp0 : ∀ {W W' : World} {S : List Nat}, Kp [] w W → Kp S W W' → (∀ x ∈ S, x ∈ feet d m fs ∨ w.heap.size ≤ x) → Kp (feet d m fs) w W' := fun k1 k2 hS => (k1.mono (by simp)).trans k2 hS
  by_cases hv : okName s
  · cases hn : named fs s with
    | some f =>
      obtain ⟨hf, hfs⟩ := named_some hn
      have hC : addC (cont fs) s bs = ((cont fs).map (fun p => if p.1 = s then (p.1, p.2 ++ bs) else p), 0) := by
        unfold addC
        rw [if_pos hv, if_pos (cont_has.2 ⟨f, hf, hfs⟩)]
      have hq : f.zs.length ≤ 1048576 := h.dk.hz f hf
      refine (add_by w d m ck fs (-1) false h.dk s A k c (by omega) f.zs.length (by rw [hn]; rfl) hq
        (fun W E w' => E = 0 ∧ ∃ v', w'.heap[f.fb]? = some (.cells #[v', .int .i64 f.sure, .string f.name] 100 (0, 0)) ∧ w'.ownsRow base 5 1 v' (f.zs.length + k) (byt (f.zs ++ bs)) ∧ (v'.ownBlock = f.v.ownBlock ∨ v'.ownBlock = some W.heap.size) ∧ Kp (f.fb :: f.v.ownBlock.toList) W w')
        (fun W kW hW => ?_)).mono ?_
      · refine (does_grow W base d m ck w.heap.size k fs (h.keep0 kW) s hv.1 hv.2 f hn _ (by have := hz f hf; omega) (.slice A k c) bs hW (hr.kp kW (by simp)) (hz f hf)).mono ?_
        rintro e w' ⟨rfl, v', h1⟩
        exact ⟨0, rfl, rfl, v', h1⟩
      · rintro e w' ⟨E, W, rfl, kW, rfl, v', h1, h2, h3, h4⟩
        have hs := kW.size
        refine ⟨ck, fs.map (grownF s v' bs), by rw [hC], by rw [cont_grown, hC], ?_, ?_, hkp0 kW h4 (fun x hx => .inl (feet_file hf hx))⟩
        · rw [← hfs]
          exact Dw.grow (h.keep0 kW) hf hbl h1 h2 (h3.imp id (fun e => ⟨_, e, Nat.le_refl _⟩)) h4 (hz f hf)
        · intro x hx
          rcases feet_grown hx with hx | hx
          · exact .inl hx
          · rw [sliceBlock_own_eq] at hx
            rcases h3 with e | e
            · rw [e] at hx
              exact .inl (feet_file hf (List.mem_cons_of_mem _ hx))
            · rw [e] at hx
              have : x = W.heap.size := by simpa [eq_comm] using hx
              exact .inr (by omega)
    | none =>
      have hno : ¬ ∃ p ∈ cont fs, p.1 = s := by
        rw [cont_has]
        rintro ⟨f, hf, e⟩
        exact named_none hn f hf e
      by_cases h16 : 16 ≤ fs.length
      · have hC : addC (cont fs) s bs = (cont fs, 3) := by
          unfold addC
          rw [if_pos hv, if_neg hno, if_pos (by rw [cont_len]; exact h16)]
        refine (add_by w d m ck fs (-1) false h.dk s A k c (by omega) 0 (by rw [hn]; rfl) (by omega) (fun W E w' => E = 3 ∧ W = w') (fun W kW hW => ?_)).mono ?_
        · refine (does_full W d m ck fs.length fs (h.dk.keep0 kW) s hv.1 hv.2 hn rfl h16 _ (by omega) _).mono ?_
          rintro e w' ⟨rfl, rfl⟩
          exact ⟨3, rfl, rfl, rfl⟩
        · rintro e w' ⟨E, W, rfl, kW, rfl, rfl⟩
          exact ⟨ck, fs, by rw [hC], by rw [hC], h.keep0 kW, fun x hx => .inl hx, kW.mono (by simp)⟩
      · have hC : addC (cont fs) s bs = (cont fs ++ [(s, bs)], 0) := by
          unfold addC
          rw [if_pos hv, if_neg hno, if_neg (by rw [cont_len]; exact h16)]
        refine (add_by w d m ck fs (-1) false h.dk s A k c (by omega) 0 (by rw [hn]; rfl) (by omega)
          (fun W E w' => E = 0 ∧ ∃ v', w'.heap[W.heap.size]? = some (.cells #[v', .int .i64 0, .string s] 100 (0, 0)) ∧ w'.ownsRow base 5 1 v' k (byt bs) ∧ (v'.ownBlock = none ∨ ∃ b, v'.ownBlock = some b ∧ W.heap.size < b) ∧
            w'.heap[m]? = some (.map (fs.map Fl.ent ++ [({ key := .string s, val := .pointer (some ⟨W.heap.size, 0, none⟩), born := ck } : MapEntry)]).toArray (ck + 1)) ∧ Kp [m] W w') (fun W kW hW => ?_)).mono ?_
        · refine (does_add_new W base d m ck w.heap.size k fs.length fs (h.keep0 kW) s hv.1 hv.2 hn rfl (by omega) _ (by omega) (.slice A k c) bs hW (hr.kp kW (by simp)) hk).mono ?_
          rintro e w' ⟨rfl, v', h1⟩
          exact ⟨0, rfl, rfl, v', h1⟩
        · rintro e w' ⟨E, W, rfl, kW, rfl, v', h1, h2, h3, h4, h5⟩
          have hs := kW.size
          refine ⟨ck + 1, fs ++ [⟨s, W.heap.size, ck, v', bs, 0⟩], by rw [hC], by rw [hC]; simp [cont], ?_, ?_, hkp0 kW h5 (fun x hx => .inl (by rw [List.mem_singleton.1 hx]; simp [feet]))⟩
          · exact (h.keep0 kW).pushed s v' bs hbl W.heap.size (Nat.le_refl _) hv.1 hv.2 hn h1 h2 (h3.imp id (fun ⟨b, e, hb⟩ => ⟨b, e, by omega⟩)) h4 h5 hk
          · intro x hx
            simp only [feet, List.flatMap_append, List.mem_cons, List.mem_append, List.flatMap_cons, List.flatMap_nil, List.append_nil] at hx ⊢
            rcases hx with rfl | rfl | hx | rfl | hx
            · exact .inl (.inl rfl)
            · exact .inl (.inr (.inl rfl))
            · exact .inl (.inr (.inr hx))
            · exact .inr hs
            · rw [sliceBlock_own_eq] at hx
              rcases h3 with e | ⟨b, e, hb⟩
              · rw [e] at hx
                simp at hx
              · rw [e] at hx
                have : x = b := by simpa [eq_comm] using hx
                exact .inr (by omega)
  · have hC : addC (cont fs) s bs = (cont fs, 1) := by
      unfold addC
      rw [if_neg hv]
    have hv' : s.size = 0 ∨ 16 < s.size := by
      unfold okName at hv
      omega
    have hq : ((named fs s).map (fun f => f.zs.length)).getD 0 + k ≤ 1048576 := by
      cases hn : named fs s with
      | none => simpa using hk
      | some f => exact hz f (named_some hn).1
    refine (add_by w d m ck fs (-1) false h.dk s A k c (by omega) _ rfl (by omega) (fun W E w' => E = 1 ∧ W = w') (fun W kW hW => ?_)).mono ?_
    · refine (does_arg W d m ck fs (h.dk.keep0 kW) s hv' _ _).mono ?_
      rintro e w' ⟨rfl, rfl⟩
      exact ⟨1, rfl, rfl, rfl⟩
    · rintro e w' ⟨E, W, rfl, kW, rfl, rfl⟩
      exact ⟨ck, fs, by rw [hC], by rw [hC], h.keep0 kW, fun x hx => .inl hx, kW.mono (by simp)⟩
end Go.Proofs.YtmboklllkdlmgaaGreatDoor
