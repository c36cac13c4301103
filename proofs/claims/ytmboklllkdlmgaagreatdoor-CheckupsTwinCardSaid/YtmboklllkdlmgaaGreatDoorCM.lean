/-
  Lift of a disk without a loss, walked: where all is sure it holds what it held. Conditions: helper lemmas.
-/
import Derived.Test.YtmboklllkdlmgaaGreatDoorCL
import Derived.BigRegion
namespace Go.Proofs.YtmboklllkdlmgaaGreatDoor
open Go.RowKit Go.MapKept
set_option maxRecDepth 100000
def clipF (s : ByteArray) (v : Value) (f : Fl) : Fl := if f.name = s then { f with v := v } else f
theorem clip_ent (s : ByteArray) (v : Value) (f : Fl) : (clipF s v f).ent = f.ent := by unfold clipF; split <;> rfl
theorem clip_name (s : ByteArray) (v : Value) (f : Fl) : (clipF s v f).name = f.name := by unfold clipF; split <;> rfl
theorem clip_fb (s : ByteArray) (v : Value) (f : Fl) : (clipF s v f).fb = f.fb := by unfold clipF; split <;> rfl
theorem clip_born (s : ByteArray) (v : Value) (f : Fl) : (clipF s v f).born = f.born := by unfold clipF; split <;> rfl
theorem clip_zs (s : ByteArray) (v : Value) (f : Fl) : (clipF s v f).zs = f.zs := by unfold clipF; split <;> rfl
theorem clip_sure (s : ByteArray) (v : Value) (f : Fl) : (clipF s v f).sure = f.sure := by unfold clipF; split <;> rfl
theorem cont_clip (s : ByteArray) (v : Value) (fs : List Fl) : cont (fs.map (clipF s v)) = cont fs := by
  simp only [cont, List.map_map]
  refine List.map_congr_left fun f _ => ?_
  simp only [Function.comp, clip_name, clip_zs]
theorem RdA.clip {w : World} {A : Option Addr} {n c : Nat} {xs : List Value} (h : RdA w (.slice A n c) xs) : RdA w (.slice A n n) xs := by
  rcases h with ⟨e, e2⟩ | ⟨ad, c', e, hl, hb, hc⟩
  · injection e with e1 e2' e3
    subst e1 e2' e3
    exact .inl ⟨rfl, e2⟩
  · injection e with e1 e2 e3
    subst e1 e2
    exact .inr ⟨ad, _, rfl, Nat.le_refl _, hb, hc⟩
/-- A disk whose one file's slice has lost its spare room. -/
theorem Dk.clip {w : World} {d m ck n c : Nat} {fs : List Fl} {fuse : Int} {dead : Bool} (h : Dk w d m ck fs fuse dead) (hB : ∀ f ∈ fs, B5 w f.v) {f : Fl} (hf : f ∈ fs) {A : Option Addr} (hv : f.v = .slice A n c) (hsure : f.sure = n) :
    Dk ((w.setCell ⟨f.fb, 1, none⟩ (.int .i64 (n : Int))).setCell ⟨f.fb, 0, none⟩ (.slice A n n)) d m ck (fs.map (clipF f.name (.slice A n n))) fuse dead ∧
    (∀ g ∈ fs.map (clipF f.name (.slice A n n)), B5 ((w.setCell ⟨f.fb, 1, none⟩ (.int .i64 (n : Int))).setCell ⟨f.fb, 0, none⟩ (.slice A n n)) g.v) ∧
    Kp [f.fb] w ((w.setCell ⟨f.fb, 1, none⟩ (.int .i64 (n : Int))).setCell ⟨f.fb, 0, none⟩ (.slice A n n)) := by
  have hk : Kp [f.fb] w ((w.setCell ⟨f.fb, 1, none⟩ (.int .i64 (n : Int))).setCell ⟨f.fb, 0, none⟩ (.slice A n n)) := (Kp.setCell (S := [f.fb]) _ _ (by simp) _).trans (Kp.setCell (S := [f.fb]) _ _ (by simp) _) (by simp)
  have hnm := h.nm.imp (fun hh => hh.1)
  have hF := h.hf f hf
  have hF2 : ((w.setCell ⟨f.fb, 1, none⟩ (.int .i64 (n : Int))).setCell ⟨f.fb, 0, none⟩ (.slice A n n)).heap[f.fb]? = some (.cells #[.slice A n n, .int .i64 f.sure, .string f.name] 100 (0, 0)) := by
    have h1 : (w.setCell ⟨f.fb, 1, none⟩ (.int .i64 (n : Int))).heap[f.fb]? = some (.cells #[f.v, .int .i64 f.sure, .string f.name] 100 (0, 0)) := by
      have := heap_set hF 1 (.int .i64 (n : Int))
      rw [hsure] at this ⊢
      exact this
    exact heap_set h1 0 _
  have hsb : ∀ g ∈ fs, ∀ x ∈ sliceBlock g.v, x ∉ [f.fb] := by
    intro g hg x hx hxm
    obtain ⟨cs, hcs⟩ := hB g hg x hx
    rw [List.mem_singleton.1 hxm, hF] at hcs
    injection hcs with hcs
    injection hcs with _ e _
    exact absurd e (by decide)
  have hmem : ∀ g' ∈ fs.map (clipF f.name (.slice A n n)), (g' = { f with v := .slice A n n }) ∨ (g' ∈ fs ∧ g'.name ≠ f.name) := by
    intro g' hg'
    obtain ⟨g, hg, rfl⟩ := List.mem_map.1 hg'
    by_cases e : g.name = f.name
    · have := fl_eq hnm hg hf e
      subst this
      exact .inl (by simp [clipF])
    · refine .inr ?_
      have : clipF f.name (.slice A n n) g = g := by simp [clipF, e]
      rw [this]
      exact ⟨hg, e⟩
  have hfbn : ∀ g ∈ fs, g.name ≠ f.name → g.fb ≠ f.fb := by
    intro g hg hgn e
    rcases List.mem_iff_getElem.1 hf with ⟨i, hi, rfl⟩
    rcases List.mem_iff_getElem.1 hg with ⟨j, hj, rfl⟩
    rcases Nat.lt_trichotomy i j with hij | hij | hij
    · exact (List.pairwise_iff_getElem.1 h.nm i j hi hj hij).2.1 e.symm
    · subst hij
      exact hgn rfl
    · exact (List.pairwise_iff_getElem.1 h.nm j i hj hi hij).2.1 e
  have hrd : ∀ g ∈ fs, RdA ((w.setCell ⟨f.fb, 1, none⟩ (.int .i64 (n : Int))).setCell ⟨f.fb, 0, none⟩ (.slice A n n)) g.v (byt g.zs) := fun g hg => (h.hr g hg).kp hk (fun ad n' c' e => hsb g hg ad.block (by rw [e]; simp [sliceBlock]))
  refine ⟨⟨hk.heap h.hd (by simpa using ne_of_heap h.hd hF (by simp)), ?_, ?_, ?_, ?_, ?_, ?_, ?_⟩, ?_, hk⟩
  · rw [List.map_map, show (Fl.ent ∘ clipF f.name (.slice A n n)) = Fl.ent from funext fun g => clip_ent _ _ _]
    exact hk.heap h.hm (by simpa using ne_of_heap h.hm hF (by simp))
  · intro g hg
    rcases hmem g hg with rfl | ⟨hg', hgn⟩
    · exact hF2
    · exact hk.heap (h.hf g hg') (by simpa using hfbn g hg' hgn)
  · intro g hg
    rcases hmem g hg with rfl | ⟨hg', hgn⟩
    · have := hrd f hf
      rw [hv] at this
      exact this.clip
    · exact hrd g hg'
  · intro g hg
    obtain ⟨g0, hg0, rfl⟩ := List.mem_map.1 hg
    rw [clip_zs]
    exact h.hz g0 hg0
  · intro g hg
    obtain ⟨g0, hg0, rfl⟩ := List.mem_map.1 hg
    rw [clip_name]
    exact h.hn g0 hg0
  · rw [List.pairwise_map]
    exact h.nm.imp (fun hh => by simpa only [clip_name, clip_fb, clip_born] using hh)
  · intro g hg
    obtain ⟨g0, hg0, rfl⟩ := List.mem_map.1 hg
    rw [clip_born]
    exact h.bo g0 hg0
  · intro g hg
    rcases hmem g hg with rfl | ⟨hg', hgn⟩
    · have h1 : B5 _ f.v := (hB f hf).kp hk (hsb f hf)
      rw [hv] at h1
      intro x hx
      have e2 : sliceBlock (.slice A n n) = sliceBlock (.slice A n c) := by cases A <;> rfl
      exact h1 x (by rw [← e2]; exact hx)
    · exact (hB g hg').kp hk (hsb g hg')
/-- Lift under way. -/
structure LiftD (w2 wr : World) (d m ck : Nat) (fs fs' : List Fl) : Prop where
  dk : Dk wr d m ck fs' (-1) false
  b5 : ∀ f ∈ fs', B5 wr f.v
  ct : cont fs' = cont fs
  sr : ∀ f ∈ fs', f.sure = f.zs.length
  fbs : fs'.map (·.fb) = fs.map (·.fb)
  kp : Kp (d :: fs.map (·.fb)) w2 wr
theorem LiftD.next {w2 wr wr' : World} {d m ck : Nat} {fs fs' : List Fl} (h : LiftD w2 wr d m ck fs fs') (k : Kp [] wr wr') {f : Fl} (hf : f ∈ fs') {A : Option Addr} {n c : Nat} (hv : f.v = .slice A n c) (hn : f.sure = n) :
    LiftD w2 ((wr'.setCell ⟨f.fb, 1, none⟩ (.int .i64 (n : Int))).setCell ⟨f.fb, 0, none⟩ (.slice A n n)) d m ck fs (fs'.map (clipF f.name (.slice A n n))) := by
  obtain ⟨h1, h2, h3⟩ := (h.dk.keep0 k).clip (fun g hg => (h.b5 g hg).kp k (by simp)) hf hv hn
  refine ⟨h1, h2, by rw [cont_clip, h.ct], ?_, ?_, (h.kp.trans k (by simp)).trans h3 (fun x hx => .inl ?_)⟩
  · intro g hg
    obtain ⟨g0, hg0, rfl⟩ := List.mem_map.1 hg
    rw [clip_sure, clip_zs]
    exact h.sr g0 hg0
  · rw [List.map_map, ← h.fbs]
    exact List.map_congr_left fun g _ => clip_fb _ _ _
  · rw [List.mem_singleton.1 hx, ← h.fbs]
    exact List.mem_cons_of_mem _ (List.mem_map.2 ⟨f, hf, rfl⟩)
theorem LiftD.keep0 {w2 wr wr' : World} {d m ck : Nat} {fs fs' : List Fl} (h : LiftD w2 wr d m ck fs fs') (k : Kp [] wr wr') : LiftD w2 wr' d m ck fs fs' :=
  ⟨h.dk.keep0 k, fun g hg => (h.b5 g hg).kp k (by simp), h.ct, h.sr, h.fbs, h.kp.trans k (by simp)⟩
theorem LiftD.fin {w2 wr : World} {d m ck : Nat} {fs fs' : List Fl} (h : LiftD w2 wr d m ck fs fs') : LiftD w2 ((wr.setCell ⟨d, 2, none⟩ (.bool false)).setCell ⟨d, 1, none⟩ (.int .i64 (-1))) d m ck fs fs' := by
  have hk : Kp [d] wr ((wr.setCell ⟨d, 2, none⟩ (.bool false)).setCell ⟨d, 1, none⟩ (.int .i64 (-1))) := (Kp.setCell (S := [d]) _ _ (by simp) _).trans (Kp.setCell (S := [d]) _ _ (by simp) _) (by simp)
  have hd2 : ((wr.setCell ⟨d, 2, none⟩ (.bool false)).setCell ⟨d, 1, none⟩ (.int .i64 (-1))).heap[d]? = some (.cells #[.map (some m), .int .i64 (-1), .bool false] 30 (0, 0)) := by
    have h1 : (wr.setCell ⟨d, 2, none⟩ (.bool false)).heap[d]? = some (.cells #[.map (some m), .int .i64 (-1), .bool false] 30 (0, 0)) := heap_set h.dk.hd 2 _
    exact heap_set h1 1 _
  have hne : ∀ {b : Nat} {o : Obj}, wr.heap[b]? = some o → o ≠ .cells #[.map (some m), .int .i64 (-1), .bool false] 30 (0, 0) → b ∉ [d] := by
    intro b o hb ho hx
    rw [List.mem_singleton.1 hx, h.dk.hd] at hb
    injection hb with hb
    exact ho hb.symm
  have hsb : ∀ g ∈ fs', ∀ x ∈ sliceBlock g.v, x ∉ [d] := by
    intro g hg x hx
    obtain ⟨cs, hcs⟩ := h.b5 g hg x hx
    refine hne hcs (fun e => ?_)
    injection e with _ e _
    exact absurd e (by decide)
  refine ⟨⟨hd2, hk.heap h.dk.hm (hne h.dk.hm (by simp)), fun g hg => hk.heap (h.dk.hf g hg) (hne (h.dk.hf g hg) (by simp)), fun g hg => (h.dk.hr g hg).kp hk (fun ad n' c' e => hsb g hg ad.block (by rw [e]; simp [sliceBlock])), h.dk.hz, h.dk.hn, h.dk.nm, h.dk.bo⟩,
    fun g hg => (h.b5 g hg).kp hk (hsb g hg), h.ct, h.sr, h.fbs, h.kp.trans hk (fun x hx => .inl (by rw [List.mem_singleton.1 hx]; simp))⟩
set_option maxHeartbeats 4000000 in
theorem lift_any (w : World) (d m ck n : Nat) (fs : List Fl) (h : Dk w d m ck fs (-1) false) (hb : ∀ f ∈ fs, B5 w f.v) (hs : ∀ f ∈ fs, f.sure = f.zs.length) (hl : fs.length = n) (hn : n ≤ 16) :
    Calls Tryz.prog 18 #[.pointer (some ⟨d, 0, none⟩), .slice none 0 0] w fun e w' => e = .returned (.tuple #[]) ∧ ∃ fs', LiftD w w' d m ck fs fs' := by
  have c0 := h.c0
  go_enter Tryz.func18, Tryz.ntmps18
  go_wp2_with fail
  refine (there_ok w d m ck fs (-1) false h).mono ?_
  rintro e w' ⟨rfl, rfl⟩
  go_wp2_with fail
  refine (names_any w d m ck fs (-1) false h (by omega)).mono ?_
  rintro e w2 ⟨v, rfl, hnb, hk2⟩
  obtain ⟨hr, hnew, A, hv⟩ := hnb
  have hln : ((sorted (fs.map keyOf)).map encStr).length = n := by simp [sorted_len, hl]
  rw [hln] at hv
  subst hv
  have hT0 : LiftD w w2 d m ck fs fs := ⟨h.keep0 hk2, fun f hf => (hb f hf).kp hk2 (by simp), rfl, hs, rfl, hk2.mono (by simp)⟩
  have HT0 := Lib.hid hT0
  have HR := Lib.hid hr
  have HN := Lib.hid hnew
  have HL := Lib.hid hl
  have HD := Lib.hid h
  clear h hb hs hr hnew hT0 hln hl c0
  go_wp2
  go_loopw [14] (fun t wr => ∃ (i : Nat) (fs' : List Fl), t = .int .i64 i ∧ i ≤ n ∧ LiftD w wr d m ck fs fs' ∧ Kp (d :: fs.map (·.fb)) w2 wr) (fun t _ => n - (intOf t).toNat)
  case atStart => exact ⟨0, _, rfl, Nat.zero_le _, HT0.out, Kp.refl _ _⟩
  case round =>
    obtain ⟨i, fs', rfl, hi, hT, hk⟩ := hrel
    have HT := Lib.hid hT
    have HK := Lib.hid hk
    clear hT HT0 hk
    by_cases hlt : i < n
    · have hl' : fs'.length = n := by
        have := congrArg List.length HT.out.fbs
        simpa [HL.out] using this
      obtain ⟨key, hkey⟩ : ∃ key, (sorted (fs.map keyOf))[i]? = some key := ⟨_, List.getElem?_eq_getElem (by rw [sorted_len]; simp [HL.out]; omega)⟩
      obtain ⟨f0, hf0, hk0⟩ := List.mem_map.1 ((sorted_perm _).mem_iff.1 (List.mem_of_getElem? hkey))
      have hct : (f0.name, f0.zs) ∈ cont fs' := by rw [HT.out.ct]; exact List.mem_map.2 ⟨f0, hf0, rfl⟩
      obtain ⟨f, hf, hfe⟩ := List.mem_map.1 hct
      have hfn : f.name = f0.name := congrArg Prod.fst hfe
      obtain ⟨a, rfl, hc⟩ : ∃ a, A = some a ∧ wr.cell? (a.add i) = some (.string f.name) := by
        rcases HR.out with ⟨e, _⟩ | ⟨ad, c', e, hle, hb, hc⟩
        · injection e with _ e _
          omega
        · injection e with e _ _
          refine ⟨ad, e, ?_⟩
          have hne : ad.block ∉ d :: fs.map (·.fb) := by
            have h1 := HN.out ad _ _ (by rw [e])
            intro hx
            rcases List.mem_cons.1 hx with hx | hx
            · have := HD.out.lt.1
              omega
            · obtain ⟨f1, hf1, e1⟩ := List.mem_map.1 hx
              have := lt_of_heap (HD.out.hf f1 hf1)
              omega
          refine (HK.out.cell (p := ad.add i) (by rw [add_block]; exact hb) (by rw [add_block]; exact hne)).trans (hc i _ ?_)
          rw [List.getElem?_map, hkey, ← hk0, hfn]
          rfl
      have c0 := HT.out.dk.c0
      have hlk := lookup28 wr m ck fs' HT.out.dk.hm f.name
      rw [named_mem (HT.out.dk.nm.imp (fun hh => hh.1)) hf] at hlk
      simp only [fval] at hlk
      have hF := HT.out.dk.hf f hf
      have hsr := HT.out.sr f hf
      obtain ⟨B, q, c, hv, hq⟩ : ∃ B q c, f.v = .slice B q c ∧ f.zs.length = q ∧ q ≤ c := by
        rcases HT.out.dk.hr f hf with ⟨e, e2⟩ | ⟨ad, c, e, h1, _⟩
        · have : f.zs = [] := by simpa [byt] using e2
          exact ⟨none, 0, 0, e, by rw [this]; rfl, Nat.le_refl _⟩
        · exact ⟨some ad, _, c, e, (byt_len _).symm, by simpa using h1⟩
      have hzq : q ≤ 1048576 := by rw [← hq.1]; exact HT.out.dk.hz f hf
      have hsq : f.sure = q := by rw [hsr, hq.1]
      rw [hv, hsq] at hF
      have d0 := cell_of_heap hF 0
      have d1 := cell_of_heap hF 1
      have z0 := frozen_of_heap hF 0
      have z1 := frozen_of_heap hF 1
      have HF := Lib.hid hf
      have HV := Lib.hid hv
      have HSQ := Lib.hid hsq
      have hqc := hq.2
      have hsub : wrap64 ((q : Int) - (q : Int)) = 0 := by unfold wrap64; omega
      have hadd : wrap64 ((q : Int) + 0) = (q : Int) := by unfold wrap64; omega
      clear hf hv hq hF hsr hct hfe hkey hk0 hf0 hl' hfn hsq
      have HNX := Lib.hid ((HT.out.next (Kp.refl [] wr) HF.out HV.out HSQ.out).keep0 ((Kp.drew [] _).trans (Kp.drew [] _) (by simp)))
      have hns := ((Kp.setCell (S := [f.fb]) wr ⟨f.fb, 1, none⟩ (by simp) (.int .i64 (q : Int))).trans (Kp.setCell (S := [f.fb]) _ ⟨f.fb, 0, none⟩ (by simp) (.slice B q q)) (by simp)).trans ((Kp.drew [] _).trans (Kp.drew [] _) (by simp)) (by simp)
      have hfb : f.fb ∈ d :: fs.map (·.fb) := by
        rw [← HT.out.fbs]
        exact List.mem_cons_of_mem _ (List.mem_map.2 ⟨f, HF.out, rfl⟩)
      have HNS := Lib.hid (HK.out.trans hns (fun x hx => .inl (by rw [List.mem_singleton.1 hx]; exact hfb)))
      clear hns hfb
      go_wp2
      go_region
      go_wp2
      go_region
      all_goals
        go_wp2
        go_round
        case rel => exact ⟨i + 1, _, by go_num, by omega, HNX.out, HNS.out⟩
        case measure => simp [intOf]; omega
    · have hin : i = n := by omega
      subst hin
      have c0 := HT.out.dk.c0
      have c1 := HT.out.dk.c1
      have c2 := HT.out.dk.c2
      have f1 := frozen_of_heap HT.out.dk.hd 1
      have f2 := frozen_of_heap HT.out.dk.hd 2
      go_wp2
      go_end0
      exact ⟨rfl, _, HT.out.fin⟩
end Go.Proofs.YtmboklllkdlmgaaGreatDoor
