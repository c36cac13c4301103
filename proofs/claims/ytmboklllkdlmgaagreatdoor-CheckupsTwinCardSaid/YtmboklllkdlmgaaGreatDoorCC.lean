/-
  Add, walked: what Do says it says. Conditions: helper lemmas.
-/
import Derived.Test.YtmboklllkdlmgaaGreatDoorCB
import Derived.Deep.RegionWith
namespace Go.Proofs.YtmboklllkdlmgaaGreatDoor
open Go.RowKit Go.MapKept
set_option maxRecDepth 100000
set_option maxHeartbeats 1000000 in
theorem add_by (w : World) (d m ck : Nat) (fs : List Fl) (fuse : Int) (dead : Bool) (h : Dk w d m ck fs fuse dead) (s : ByteArray) (A : Option Addr) (k c : Nat) (hk : k ≤ 1000000000) (q : Nat) (hq : ((named fs s).map (fun f => f.zs.length)).getD 0 = q) (hqb : q ≤ 1048576) (R : World → Int → World → Prop)
    (HC : ∀ W, Kp [] w W → W.heap[w.heap.size]? = some (.cells #[.slice A k c] 22 (0, 0)) → Calls Tryz.prog 42 #[.pointer (some ⟨d, 0, none⟩), .string s, .int .i64 ((q : Int) + (k : Int)), .bool true, .func (.func 47) #[] #[.pointer (some ⟨w.heap.size, 0, none⟩)]] W fun e w' => ∃ E : Int, e = .returned (.int .i64 E) ∧ R W E w') :
    Calls Tryz.prog 14 #[.pointer (some ⟨d, 0, none⟩), .string s, .slice A k c] w fun e w' => ∃ (E : Int) (W : World), e = .returned (.int .i64 E) ∧ Kp [] w W ∧ R W E w' := by
  have HB := Lib.hid (heap_new w (.cells #[.slice A k c] 22))
  have hk1 := Kp.alloc [] w (.cells #[.slice A k c] 22)
  have HS := Lib.hid (fun W (k1 : Kp [] w W) => size_any W d m ck fs fuse dead (h.keep0 k1) s)
  have HCC := Lib.hid HC
  have HK := Lib.hid hk1
  have hw1 : IntKind.i64.wrap ((q : Int) + (k : Int)) = (q : Int) + (k : Int) := by
    rw [IntKind.wrap_i64]
    omega
  have HQ := Lib.hid hq
  clear HC h hk1 hq
  go_enter Tryz.func14, Tryz.ntmps14
  go_wp2_with fail
  go_region_with (first | (go_at_call 46; refine (HS.out _ ?_).mono ?_; exact HK.out.trans (Kp.drew [] _) (by simp); rintro e w' ⟨he, hw⟩; rw [HQ.out] at he; subst he; subst hw) | (go_at_call 42; refine (HCC.out _ ?_ ?_).mono ?_; exact HK.out.trans (Kp.drew [] _) (by simp); exact HB.out; rintro e w2 ⟨E, rfl, hR⟩))
  all_goals
    go_wp2
    go_ret
    exact ⟨_, _, rfl, HK.out.trans (Kp.drew [] _) (by simp), hR⟩
theorem grown_same {s : ByteArray} {v : Value} {bs : List Int} {fs : List Fl} (h : ∀ f ∈ fs, f.name ≠ s) : fs.map (grownF s v bs) = fs := by
  induction fs with
  | nil => rfl
  | cons a l ih =>
    rw [List.map_cons, ih (fun f hf => h f (List.mem_cons_of_mem _ hf))]
    simp [grownF, h a (by simp)]
theorem grown_ent (s : ByteArray) (v : Value) (bs : List Int) (f : Fl) : (grownF s v bs f).ent = f.ent := by
  unfold grownF
  split <;> rfl
theorem grown_name (s : ByteArray) (v : Value) (bs : List Int) (f : Fl) : (grownF s v bs f).name = f.name := by
  unfold grownF
  split <;> rfl
theorem grown_fb (s : ByteArray) (v : Value) (bs : List Int) (f : Fl) : (grownF s v bs f).fb = f.fb := by
  unfold grownF
  split <;> rfl
theorem grown_born (s : ByteArray) (v : Value) (bs : List Int) (f : Fl) : (grownF s v bs f).born = f.born := by
  unfold grownF
  split <;> rfl
theorem fl_eq {fs : List Fl} (hp : fs.Pairwise (fun f g => f.name ≠ g.name)) {f g : Fl} (hf : f ∈ fs) (hg : g ∈ fs) (h : f.name = g.name) : f = g := by
  have h1 := named_mem hp hf
  have h2 := named_mem hp hg
  rw [h, h2] at h1
  injection h1 with h1
  exact h1.symm
theorem byt_kp {w w' : World} {base n : Nat} {v : Value} {xs : List Value} (h : w.ownsRow base 5 1 v n xs) {S : List Nat} (k : Kp S w w') (hn : ∀ x, v.ownBlock = some x → x ∉ S) : w'.ownsRow base 5 1 v n xs := by
  refine ⟨h.1, ?_⟩
  rcases h.2 with h2 | ⟨g, cap, cur, e, h1, h2, h3⟩
  · exact .inl h2
  · exact .inr ⟨g, cap, cur, e, h1, k.heap h2 (hn g (by rw [e]; rfl)), h3⟩
/-- The disk, one file of which has grown. -/
theorem Dw.grow {w w' : World} {base d m ck k : Nat} {fs : List Fl} (h : Dw base w d m ck fs) {f : Fl} (hf : f ∈ fs) {v' : Value} {bs : List Int} (hk : bs.length = k)
    (h1 : w'.heap[f.fb]? = some (.cells #[v', .int .i64 f.sure, .string f.name] 100 (0, 0))) (h2 : w'.ownsRow base 5 1 v' (f.zs.length + k) (byt (f.zs ++ bs)))
    (h3 : v'.ownBlock = f.v.ownBlock ∨ ∃ b, v'.ownBlock = some b ∧ w.heap.size ≤ b) (h4 : Kp (f.fb :: f.v.ownBlock.toList) w w') (hz : f.zs.length + k ≤ 1048576) :
    Dw base w' d m ck (fs.map (grownF f.name v' bs)) := by
  have hnm := h.dk.nm.imp (fun hh => hh.1)
  have hown := h.ow f hf
  have hF := h.dk.hf f hf
  have hne : ∀ g ∈ fs, g.name ≠ f.name → ∀ x, g.v.ownBlock = some x → f.v.ownBlock ≠ some x := by
    intro g hg hgn x hx hfx
    rcases List.mem_iff_getElem.1 hf with ⟨i, hi, rfl⟩
    rcases List.mem_iff_getElem.1 hg with ⟨j, hj, rfl⟩
    rcases Nat.lt_trichotomy i j with hij | hij | hij
    · exact List.pairwise_iff_getElem.1 h.ds i j hi hj hij x hfx hx
    · subst hij
      exact hgn rfl
    · exact List.pairwise_iff_getElem.1 h.ds j i hj hi hij x hx hfx
  have hfar : ∀ b cs t, w.heap[b]? = some (.cells cs t (0, 0)) → t ≠ 5 → b ≠ f.fb → b ∉ f.fb :: f.v.ownBlock.toList := by
    intro b cs t hb ht hbf hx
    rcases List.mem_cons.1 hx with e | hx
    · exact hbf e
    · exact own_ne hown hb ht (by simpa [eq_comm] using hx)
  have hmem : ∀ g' ∈ fs.map (grownF f.name v' bs), (g' = { f with v := v', zs := f.zs ++ bs }) ∨ (g' ∈ fs ∧ g'.name ≠ f.name) := by
    intro g' hg'
    obtain ⟨g, hg, rfl⟩ := List.mem_map.1 hg'
    by_cases e : g.name = f.name
    · have := fl_eq hnm hg hf e
      subst this
      exact .inl (by simp [grownF])
    · refine .inr ?_
      have : grownF f.name v' bs g = g := by simp [grownF, e]
      rw [this]
      exact ⟨hg, e⟩
  have hgv : ∀ g ∈ fs, g.name ≠ f.name → ∀ x, g.v.ownBlock = some x → x ∉ f.fb :: f.v.ownBlock.toList := by
    intro g hg hgn x hx hxx
    rcases List.mem_cons.1 hxx with e | hxx
    · subst e
      exact own_ne (h.ow g hg) hF (by decide) hx.symm
    · exact hne g hg hgn x hx (by simpa using hxx)
  have hgo : ∀ g ∈ fs, g.name ≠ f.name → w'.ownsRow base 5 1 g.v g.zs.length (byt g.zs) := fun g hg hgn => byt_kp (h.ow g hg) h4 (hgv g hg hgn)
  have hfbn : ∀ g ∈ fs, g.name ≠ f.name → g.fb ≠ f.fb := by
    intro g hg hgn e
    rcases List.mem_iff_getElem.1 hf with ⟨i, hi, rfl⟩
    rcases List.mem_iff_getElem.1 hg with ⟨j, hj, rfl⟩
    rcases Nat.lt_trichotomy i j with hij | hij | hij
    · exact (List.pairwise_iff_getElem.1 h.dk.nm i j hi hj hij).2.1 e.symm
    · subst hij
      exact hgn rfl
    · exact (List.pairwise_iff_getElem.1 h.dk.nm j i hj hi hij).2.1 e
  refine ⟨⟨h4.heap h.dk.hd (hfar _ _ _ h.dk.hd (by decide) (ne_of_heap h.dk.hd hF (by simp))), ?_, ?_, ?_, ?_, ?_, ?_, ?_⟩, Nat.le_trans h.lo h4.size, ?_, ?_⟩
  · rw [List.map_map, show (Fl.ent ∘ grownF f.name v' bs) = Fl.ent from funext fun g => grown_ent _ _ _ _]
    refine h4.heap h.dk.hm ?_
    intro hx
    rcases List.mem_cons.1 hx with e | hx
    · exact ne_of_heap h.dk.hm hF (by simp) e
    · rcases hown.2 with ⟨e, _⟩ | ⟨g, cap, cur, e, _, hg, _⟩
      · rw [e] at hx
        simp [Value.ownBlock] at hx
      · rw [e] at hx
        have : m = g := by simpa [Value.ownBlock, eq_comm] using hx
        subst this
        have hm := h.dk.hm
        rw [hg] at hm
        cases hm
  · intro g hg
    rcases hmem g hg with rfl | ⟨hg', hgn⟩
    · exact h1
    · exact h4.heap (h.dk.hf g hg') (hfar _ _ _ (h.dk.hf g hg') (by decide) (hfbn g hg' hgn))
  · intro g hg
    rcases hmem g hg with rfl | ⟨hg', hgn⟩
    · exact RdA.of_own h2
    · exact RdA.of_own (hgo g hg' hgn)
  · intro g hg
    rcases hmem g hg with rfl | ⟨hg', hgn⟩
    · simp
      omega
    · exact h.dk.hz g hg'
  · intro g hg
    rcases hmem g hg with rfl | ⟨hg', hgn⟩
    · exact h.dk.hn f hf
    · exact h.dk.hn g hg'
  · rw [List.pairwise_map]
    exact h.dk.nm.imp (fun hh => by simpa only [grown_name, grown_fb, grown_born] using hh)
  · intro g hg
    obtain ⟨g0, hg0, rfl⟩ := List.mem_map.1 hg
    rw [grown_born]
    exact h.dk.bo g0 hg0
  · intro g hg
    rcases hmem g hg with rfl | ⟨hg', hgn⟩
    · simp only [List.length_append, hk]
      exact h2
    · exact hgo g hg' hgn
  · rw [List.pairwise_map]
    refine (h.ds.and hnm).imp_of_mem (fun {a b} ha hb hab x => ?_)
    have hval : ∀ g ∈ fs, (g = f ∧ (grownF f.name v' bs g).v = v') ∨ (g.name ≠ f.name ∧ (grownF f.name v' bs g).v = g.v) := by
      intro g hg
      by_cases e : g.name = f.name
      · exact .inl ⟨fl_eq hnm hg hf e, by simp [grownF, e]⟩
      · exact .inr ⟨e, by simp [grownF, e]⟩
    have hvn : ∀ g ∈ fs, g.name ≠ f.name → ∀ x, v'.ownBlock = some x → g.v.ownBlock ≠ some x := by
      intro g hg hgn x hx hgx
      rcases h3 with e | ⟨b, e, hb⟩
      · exact hne g hg hgn x hgx (by rw [← e]; exact hx)
      · have h5 := ((h.ow g hg).lt x hgx).2
        rw [e] at hx
        injection hx with hx
        omega
    intro hax hbx
    rcases hval a ha with ⟨ea, va⟩ | ⟨na, va⟩
    · rcases hval b hb with ⟨eb, vb⟩ | ⟨nb, vb⟩
      · exact hab.2 (by rw [ea, eb])
      · rw [va] at hax
        rw [vb] at hbx
        exact hvn b hb nb x hax hbx
    · rcases hval b hb with ⟨eb, vb⟩ | ⟨nb, vb⟩
      · rw [va] at hax
        rw [vb] at hbx
        exact hvn a ha na x hbx hax
      · rw [va] at hax
        rw [vb] at hbx
        exact hab.1 x hax hbx
end Go.Proofs.YtmboklllkdlmgaaGreatDoor
