/-
  Add and Put of the chapter's disk, walked. Conditions: helper lemmas.
-/
import Derived.Test.YtmboklllkdlmgaaGreatDoorCH
namespace Go.Proofs.YtmboklllkdlmgaaGreatDoor
open Go.RowKit Go.MapKept
set_option maxRecDepth 100000
theorem refAdd_arg (w : World) (base m : Nat) (lv : Value) (L : List Rf) (h : RefAt base w m lv L) (s : ByteArray) (hs : ¬ okName s) (bv : Value) :
    Calls Tryz.prog 15 #[.pointer (some ⟨m, 0, none⟩), .string s, bv] w fun e w' => e = .returned (.int .i64 1) ∧ w = w' := by
  have HA := Lib.hid (refAsked_arg w base m lv L h s hs)
  clear h hs
  go_enter Tryz.func15, Tryz.ntmps15
  go_wp2_with fail
  refine HA.out.mono ?_
  rintro e w' ⟨rfl, rfl⟩
  go_wp2
  go_ret
  exact ⟨rfl, rfl⟩
theorem refAdd_new (w : World) (base m n : Nat) (lv : Value) (L : List Rf) (h : RefAt base w m lv L) (hl : L.length = n) (hn : n ≤ 1000) (s : ByteArray) (hs : okName s) (hno : ∀ r ∈ L, r.nm ≠ s) (bv : Value) (R : Int → World → Prop)
    (HC : Calls Tryz.prog 50 #[.pointer (some ⟨m, 0, none⟩), .string s, bv, .int .i64 0] w fun e w' => ∃ E, e = .returned (.int .i64 E) ∧ R E w') :
    Calls Tryz.prog 15 #[.pointer (some ⟨m, 0, none⟩), .string s, bv] w fun e w' => ∃ E, e = .returned (.int .i64 E) ∧ R E w' := by
  have HA := Lib.hid (refAsked_ok w base m lv L h s hs)
  have HT := Lib.hid (refAt_any w base m n lv L h hl hn s)
  have HN := Lib.hid hno
  have HCC := Lib.hid HC
  clear h hs hno HC
  go_enter Tryz.func15, Tryz.ntmps15
  go_wp2_with fail
  refine HA.out.mono ?_
  rintro e w' ⟨rfl, rfl⟩
  go_wp2_with fail
  refine HT.out.mono ?_
  rintro e w' ⟨hcase, rfl⟩
  rcases hcase with ⟨j, r', hj, hjs, rfl⟩ | ⟨_, rfl⟩
  · exact absurd hjs (HN.out r' (List.mem_of_getElem? hj))
  · go_wp2_with fail
    refine HCC.out.mono ?_
    rintro e w' ⟨E, rfl, hR⟩
    go_wp2
    go_ret
    exact ⟨_, rfl, hR⟩
theorem refPut_any (w : World) (base m : Nat) (lv : Value) (L : List Rf) (h : RefAt base w m lv L) (s : ByteArray) (hs : okName s) (A : Option Addr) (k c : Nat) (R : Int → World → Prop)
    (HC : Calls Tryz.prog 50 #[.pointer (some ⟨m, 0, none⟩), .string s, .slice A k c, .int .i64 k] w fun e w' => ∃ E, e = .returned (.int .i64 E) ∧ R E w') :
    Calls Tryz.prog 51 #[.pointer (some ⟨m, 0, none⟩), .string s, .slice A k c] w fun e w' => ∃ E, e = .returned (.int .i64 E) ∧ R E w' := by
  have HA := Lib.hid (refAsked_ok w base m lv L h s hs)
  have HCC := Lib.hid HC
  clear h hs HC
  go_enter Tryz.func51, Tryz.ntmps51
  go_wp2_with fail
  refine HA.out.mono ?_
  rintro e w' ⟨rfl, rfl⟩
  go_wp2_with fail
  refine HCC.out.mono ?_
  rintro e w' ⟨E, rfl, hR⟩
  go_wp2
  go_ret
  exact ⟨_, rfl, hR⟩
set_option maxHeartbeats 1000000 in
theorem refAdd_old (w : World) (base m n k c i : Nat) (lv : Value) (L : List Rf) (h : RefAt base w m lv L) (hl : L.length = n) (hn : n ≤ 1000) (s : ByteArray) (hs : okName s) (r : Rf) (hi : L[i]? = some r) (hrs : r.nm = s) (hu : ∀ j r', L[j]? = some r' → r'.nm = s → j = i)
    (A : Option Addr) (bs : List Int) (hr : RdG 1 w (.slice A k c) k (byt bs)) (hbl : bs.length = k) (hz : r.zs.length + k ≤ 1048576) :
    Calls Tryz.prog 15 #[.pointer (some ⟨m, 0, none⟩), .string s, .slice A k c] w fun e w' => e = .returned (.int .i64 0) ∧ ∃ v', (∀ x, v'.ownBlock = some x → w.heap.size ≤ x) ∧ RefAt base w' m lv (L.set i ⟨s, v', r.zs ++ bs, r.sure⟩) ∧ Kp lv.ownBlock.toList w w' := by
  have HA := Lib.hid (refAsked_ok w base m lv L h s hs)
  have HT := Lib.hid (refAt_any w base m n lv L h hl hn s)
  have HSET := Lib.hid (fun W (kW : Kp [] w W) (A' : Option Addr) (c' : Nat) (hr' : RdG 1 W (.slice A' (r.zs.length + k) c') (r.zs.length + k) (byt (r.zs ++ bs))) => refSet_old W base m n (r.zs.length + k) c' i lv L (h.keep0 kW) hl hn s r hi hrs hu A' (r.zs ++ bs) hr' (by simp [hbl]) hz r.sure)
  have c0 := cell_of_heap h.hd 0
  have hmem := List.mem_of_getElem? hi
  have HO := Lib.hid (own_rdG (h.ow r hmem))
  obtain ⟨B1, d1, hv1⟩ := own_form (h.ow r hmem)
  obtain ⟨A1, c1, rfl, hc, hcell⟩ := h.slice hl
  obtain ⟨g, rfl, hc0, hc1, hc2, _⟩ := hcell i r hi
  have hin : i < n := by rw [← hl]; exact (List.getElem?_eq_some_iff.1 hi).1
  rw [hv1] at hc1
  have HV := Lib.hid hv1
  have HR := Lib.hid hr
  have HI := Lib.hid hi
  have HU := Lib.hid hu
  have HRS := Lib.hid hrs
  have HLO := Lib.hid h.lo
  clear h hi hu hrs hr hcell hc0 hs hmem hv1
  go_enter Tryz.func15, Tryz.ntmps15
  go_wp2_with fail
  refine HA.out.mono ?_
  rintro e w' ⟨rfl, rfl⟩
  go_wp2_with fail
  refine HT.out.mono ?_
  rintro e w' ⟨hcase, rfl⟩
  rcases hcase with ⟨j, r', hj, hjs, rfl⟩ | ⟨hno, _⟩
  · have hji := HU.out j r' hj hjs
    subst hji
    clear hj hjs
    go_wp2_with fail
    have HGL := Lib.hid (World.block_lt_of_cell? _ _ hc1)
    have HML := Lib.hid (World.block_lt_of_cell? _ _ c0)
    have HC0 := Lib.hid c0
    have HC1 := Lib.hid hc1
    have HC2 := Lib.hid hc2
    go_region_law (first
      | (refine step_appendG rfl (.const (.slice none 0 0)) (.tmp 33) 22 5 1 1 _ rfl Tryz.underlying22 info5 rfl (by omega) w.heap.size (.slice none 0 0) 0 [] rfl (World.ownsRow_nil _ _ _ _) _ r.zs.length (byt r.zs) rfl (by rw [← HV.out]; exact HO.out) (byt_one _) (by omega) (by omega) (Nat.le_refl _) ?_; intro v1 w1 hown1 hg1 hat1; obtain ⟨A2, c2, rfl⟩ := own_form hown1; have k1 : Kp [] w w1 := (Kp.drew [] w).trans (Kp.grown (S := []) hg1 (by simp [Value.ownBlock])) (by simp); have m1 := (k1.cell (p := ⟨m, 0, none⟩) HML.out (by simp)).trans HC0.out; have g1 := (k1.cell (p := ⟨g, j * 3 + 2, none⟩) HGL.out (by simp)).trans HC2.out)
      | (refine step_appendG rfl (.tmp 34) (.tmp 35) 22 5 1 1 _ rfl Tryz.underlying22 info5 rfl (by omega) w.heap.size (.slice A2 r.zs.length c2) r.zs.length (byt r.zs) rfl (by simpa using hown1) _ k (byt bs) rfl (HR.out.kp k1 (by simp)) (byt_one _) (by omega) (by omega) k1.size ?_; intro v2 w2 hown2 hg2 hat2; obtain ⟨A3, c3, rfl⟩ := own_form hown2; have k2 : Kp [] w w2 := Kp.app k1 (by simpa using hown1) hg2; have m2 := (k2.cell (p := ⟨m, 0, none⟩) HML.out (by simp)).trans HC0.out; have g2 := (k2.cell (p := ⟨g, j * 3 + 2, none⟩) HGL.out (by simp)).trans HC2.out)
      | (go_simp; go_at_call 50; refine (HSET.out _ ?_ _ _ ?_).mono ?_; exact k2; exact own_rdG (by simpa [byt] using hown2); rintro e w4 ⟨rfl, v', h1, h2, h3⟩))
    all_goals
      go_wp2
      go_ret
      exact ⟨rfl, v', fun x hx => Nat.le_trans k2.size (h1 x hx), h2, (k2.mono (by simp)).trans h3 (fun x hx => .inl hx)⟩
  · exact absurd HRS.out (hno r (List.mem_of_getElem? HI.out))
end Go.Proofs.YtmboklllkdlmgaaGreatDoor
