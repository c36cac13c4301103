/-
  The law CheckupsTwin, walked. Conditions: no length beyond 140737488355328; the table of sums holds numbers.
-/
import Derived.Test.YtmboklllkdlmgaaGreatDoorCS
import Derived.Test.YtmboklllkdlmgaaGreatDoorY
import Derived.Deep.RegionHeld3
namespace Go.Proofs.YtmboklllkdlmgaaGreatDoor
open Go.RowKit Go.MapKept
set_option maxRecDepth 100000
theorem both_addK {w wr : World} {d md m B ck k c : Nat} {fs : List Fl} {lv : Value} {L : List Rf} (h : Both w wr d md m B ck fs lv L) (s : ByteArray) (A : Option Addr) (bs : List Int) (hbl : bs.length = k) (hr : RdG 1 wr (.slice A k c) k (byt bs)) (hB : B + k ≤ 1048576) :
    Calls Tryz.prog 14 #[.pointer (some ⟨d, 0, none⟩), .string s, .slice A k c] wr fun e w' => e = .returned (.int .i64 (addC (cont fs) s bs).2) ∧ ∃ ck' fs', Mid w w' d md m B s bs fs ck' fs' lv L ∧ Kp (feet d md fs) wr w' := by
  refine (add_spec wr w.heap.size d md ck fs h.dw s A k c bs hbl hr (fun f hf => ?_) (by omega)).mono ?_
  · have := h.sz (f.name, f.zs) (List.mem_map.2 ⟨f, hf, rfl⟩)
    simp at this
    omega
  · rintro e w' ⟨ck', fs', rfl, h1, h2, h3, h4⟩
    exact ⟨rfl, ck', fs', h.step1 h1 h2 h3 h4, h4⟩
theorem mid_addK {w W : World} {d md m B ck' k c : Nat} {fs fs' : List Fl} {lv : Value} {L : List Rf} {s : ByteArray} {bs : List Int} (h : Mid w W d md m B s bs fs ck' fs' lv L) (A : Option Addr) (hbl : bs.length = k) (hr : RdG 1 W (.slice A k c) k (byt bs)) (hB : B + k ≤ 1048576) :
    Calls Tryz.prog 15 #[.pointer (some ⟨m, 0, none⟩), .string s, .slice A k c] W fun e w' => e = .returned (.int .i64 (addC (cont fs) s bs).2) ∧ ∃ lv' L', Both w w' d md m (B + k) ck' fs' lv' L' ∧ Kp (rfeet m lv L) W w' := by
  refine (refAdd_spec W w.heap.size m L.length lv L h.rf rfl h.ln h.ri s A k c bs hbl hr (fun r hr => ?_) (by omega)).mono ?_
  · have h1 := h.pm.mem_iff.1 (List.mem_map.2 ⟨r, hr, rfl⟩ : (r.nm, r.zs) ∈ contR L)
    have := h.sz _ h1
    simp at this
    omega
  · rintro e w' ⟨lv', L', rfl, h1, h2, h3, h4, h5⟩
    refine ⟨by rw [(addC_perm h.pm s bs).1], lv', L', ?_⟩
    rw [← hbl]
    exact ⟨h.step2 h1 h2 h3 h4 h5, h5⟩
/-- The twins: both hold the same. -/
structure Pair (w W : World) (d md ck : Nat) (fs : List Fl) (m : Nat) (lv : Value) (L : List Rf) : Prop where
  dk : Dk W d md ck fs (-1) false
  b5 : ∀ f ∈ fs, B5 W f.v
  rf : RefAt w.heap.size W m lv L
  ri : Rising L
  pm : (contR L).Perm (cont fs)
  lo : ∀ x ∈ feet d md fs, w.heap.size ≤ x
  lo2 : ∀ x ∈ rfeet m lv L, w.heap.size ≤ x
theorem Pair.keep {w W W' : World} {d md ck m : Nat} {fs : List Fl} {lv : Value} {L : List Rf} (h : Pair w W d md ck fs m lv L) {S : List Nat} (k : Kp S W W') (hS : ∀ x ∈ S, x < w.heap.size) : Pair w W' d md ck fs m lv L := by
  refine ⟨h.dk.keep k (fun x hx hx2 => ?_), fun f hf => (h.b5 f hf).kp k (fun x hx hx2 => ?_), h.rf.apart k (fun x hx hx2 => ?_), h.ri, h.pm, h.lo, h.lo2⟩
  · have := hS x hx
    have := h.lo x hx2
    omega
  · have := hS x hx2
    have := h.lo x (by simp only [feet, List.mem_cons, List.mem_flatMap]; exact .inr (.inr ⟨f, hf, .inr hx⟩))
    omega
  · have := hS x hx
    have := h.lo2 x hx2
    omega
theorem RefAt.low {base base' : Nat} {w : World} {m : Nat} {lv : Value} {L : List Rf} (h : RefAt base w m lv L) (hb : base' ≤ base) : RefAt base' w m lv L := by
  refine ⟨h.hd, ⟨h.own.1, ?_⟩, fun r hr => own_low (h.ow r hr) hb, Nat.le_trans hb h.lo⟩
  rcases h.own.2 with h | ⟨g, cap, cur, e, h1, h2⟩
  · exact .inl h
  · exact .inr ⟨g, cap, cur, e, Nat.le_trans hb h1, h2⟩
theorem rising_cont {L L' : List Rf} (h : Rising L) (e : contR L' = contR L) : Rising L' := by
  have h1 : (contR L).Pairwise (fun p q => Op.bytesLess p.1.toList q.1.toList = true) := by
    rw [contR, List.pairwise_map]
    exact h
  rw [← e, contR, List.pairwise_map] at h1
  exact h1
theorem pair_of {wr w6 w7 : World} {d2 m2 ck2 m3 : Nat} {fs fs2 : List Fl} {L L3 : List Rf} {lv3 : Value} (hd : Dk w6 d2 m2 ck2 fs2 (-1) false) (hb : ∀ f ∈ fs2, B5 w6 f.v) (ht : TwinOf fs fs2) (hfs : fs.Pairwise (fun f g => f.name ≠ g.name)) (hR : Rising L) (hP : (contR L).Perm (cont fs))
    (hf2 : ∀ x ∈ feet d2 m2 fs2, wr.heap.size ≤ x) (hs : wr.heap.size ≤ w6.heap.size) (hm3 : w6.heap.size ≤ m3) (hT : TwinR w6 w7 L m3 L.length lv3 L3) : Pair wr w7 d2 m2 ck2 fs2 m3 lv3 L3 := by
  have hct : contR L3 = contR L := by rw [hT.ct, List.take_of_length_le (Nat.le_refl _)]
  refine ⟨hd.keep0 hT.kp, fun f hf => (hb f hf).kp hT.kp (by simp), hT.at_.low hs, rising_cont hR hct, ?_, hf2, ?_⟩
  · rw [hct]
    exact hP.trans (twin_perm ht hfs (hd.nm.imp (fun hh => hh.1))).symm
  · intro x hx
    rcases mem_rfeet.1 hx with rfl | hx | ⟨r, hr, hx⟩
    · omega
    · exact Nat.le_trans hs (hT.at_.own.lt x hx).1
    · exact Nat.le_trans hs ((hT.at_.ow r hr).lt x hx).1
theorem Pair.same {w W : World} {d md ck m : Nat} {fs : List Fl} {lv : Value} {L : List Rf} (h : Pair w W d md ck fs m lv L) (hn : L.length ≤ 16) :
    Calls Tryz.prog 17 #[.pointer (some ⟨d, 0, none⟩), .pointer (some ⟨m, 0, none⟩)] W fun e w' => e = .returned (.bool true) ∧ Kp [] W w' :=
  same_true W w.heap.size d md ck L.length m fs (-1) h.dk lv L h.rf rfl hn h.ri h.pm
theorem Both.same {w W : World} {d md m B ck : Nat} {fs : List Fl} {lv : Value} {L : List Rf} (h : Both w W d md m B ck fs lv L) :
    Calls Tryz.prog 17 #[.pointer (some ⟨d, 0, none⟩), .pointer (some ⟨m, 0, none⟩)] W fun e w' => e = .returned (.bool true) ∧ Kp [] W w' :=
  same_true W w.heap.size d md ck L.length m fs (-1) h.dw.dk lv L h.rf rfl h.ln h.ri h.pm
theorem Both.more {w wr : World} {d md m B B' ck : Nat} {fs : List Fl} {lv : Value} {L : List Rf} (h : Both w wr d md m B ck fs lv L) (hB : B ≤ B') : Both w wr d md m B' ck fs lv L :=
  ⟨h.dw, h.rf, h.ri, h.pm, h.ap, h.lo, h.lo2, fun p hp => Nat.le_trans (h.sz p hp) hB, h.ln, h.kp⟩
set_option maxHeartbeats 4000000 in
theorem twinlaw_any (w : World) (A0 : Option Addr) (c0 n : Nat) (G : List Gf) (hl : G.length = n) (hF : FilesAt w A0 G) (hg : ∀ g ∈ G, g.n ≤ 140737488355328 ∧ g.nm.size ≤ 140737488355328) (hn : n ≤ 140737488355328)
    (hz : ∀ g ∈ G, ∃ zs : List Int, zs.length = g.n ∧ RdG 1 w (.slice g.A g.n g.c) g.n (byt zs)) (nm : ByteArray) (A : Option Addr) (k c : Nat) (hk : k ≤ 140737488355328) (hs : nm.size ≤ 140737488355328) (bs : List Int) (hbl : bs.length = k) (hr : RdG 1 w (.slice A k c) k (byt bs)) (ht : Tab w) :
    Calls Tryz.prog 4 #[.slice A0 n c0, .agg #[.string nm, .slice A k c]] w fun e w' => e = .returned (.bool true) ∧ Kp [] w w' := by
  have HT := Lib.hid ht
  have HF := Lib.hid hF
  have HG := Lib.hid hg
  have HZ := Lib.hid hz
  have HR := Lib.hid hr
  have HBL := Lib.hid hbl
  have HL := Lib.hid hl
  have k1 := Kp.alloc [] w (.cells #[.string nm, .slice A k c] 24)
  have r1 := heap_new w (.cells #[.string nm, .slice A k c] 24)
  have hbl1 : w.heap.size + 1 ≤ (w.alloc (.cells #[.string nm, .slice A k c] 24)).heap.size := by simp
  clear hF hg hz hr ht hbl hl
  go_enter Tryz.func4, Tryz.ntmps4
  go_wp2_with fail
  generalize w.alloc (.cells #[.string nm, .slice A k c] 24) = w1 at k1 r1 hbl1 ⊢
  have hF1 : FilesAt w1 A0 G := by
    intro i g hi
    obtain ⟨b, o, e, h1, h2⟩ := HF.out i g hi
    exact ⟨b, o, e, (k1.cell (p := ⟨b, o + i * 2, none⟩) (World.block_lt_of_cell? _ _ h1) (by simp)).trans h1, (k1.cell (p := ⟨b, o + i * 2 + 1, none⟩) (World.block_lt_of_cell? _ _ h2) (by simp)).trans h2⟩
  refine (great_any w1 A0 c0 n G HL.out hF1 HG.out hn).mono ?_
  rintro e w2 ⟨b, rfl, hb, hk2⟩
  have K2 := Lib.hid (k1.trans hk2 (by simp))
  have R2 := Lib.hid (hk2.heap r1 (by simp))
  have x0 := cell_of_heap R2.out 0
  have x1 := cell_of_heap R2.out 1
  have HK12 := Lib.hid hk2
  have HB := Lib.hid hb
  clear k1 r1 hF1 hk2 hb
  cases b with
  | true =>
    go_wp2_with fail
    refine (lives_any w2 (HT.out.kp K2.out (by simp))).mono ?_
    rintro e w3 ⟨rfl, hk3⟩
    go_wp2
    go_ret
    exact ⟨rfl, K2.out.trans hk3 (by simp)⟩
  | false =>
    go_wp2_with fail
    have hF2 : FilesAt (w2.alloc (.cells #[.string nm, .slice A k c] 24)) (some ⟨w2.heap.size, 0, none⟩) [⟨nm, A, k, c⟩] := by
      have hh := heap_new w2 (.cells #[.string nm, .slice A k c] 24)
      intro i g hgi
      cases i with
      | zero =>
        simp at hgi
        subst hgi
        exact ⟨_, _, rfl, cell_of_heap hh 0, cell_of_heap hh 1⟩
      | succ i => simp at hgi
    have k3 := Kp.alloc [] w2 (.cells #[.string nm, .slice A k c] 24)
    generalize w2.alloc (.cells #[.string nm, .slice A k c] 24) = w3 at hF2 k3 ⊢
    refine (great_any w3 _ 1 1 [⟨nm, A, k, c⟩] rfl hF2 (by simp; omega) (by omega)).mono ?_
    rintro e w4 ⟨b2, rfl, hb2, hk4⟩
    have K4 := Lib.hid ((K2.out.trans k3 (by simp)).trans hk4 (by simp))
    have R4 := Lib.hid (hk4.heap (k3.heap R2.out (by simp)) (by simp))
    have HB2 := Lib.hid hb2
    clear hF2 k3 hk4 hb2 x0 x1 K2 R2 HK12
    cases b2 with
    | true =>
      go_wp2_with fail
      refine (lives_any w4 (HT.out.kp K4.out (by simp))).mono ?_
      rintro e w5 ⟨rfl, hk5⟩
      go_wp2
      go_ret
      exact ⟨rfl, K4.out.trans hk5 (by simp)⟩
    | false =>
      have hk8 : k ≤ 80000 := by
        have := (HB2.out rfl).1
        simp [tot] at this
        omega
      have hn20 : n ≤ 20 := (HB.out (by first | rfl | trivial)).2
      have hT := (HB.out (by first | rfl | trivial)).1
      have HTOT := Lib.hid hT
      clear hT
      go_wp2_with fail
      refine (new_any w4).mono ?_
      rintro e w5 ⟨rfl, hw5⟩
      have hk5 : Kp [] w4 w5 := by rw [← hw5]; exact (Kp.alloc [] _ _).trans (Kp.alloc [] _ _) (by simp)
      have hd5 : Dk w5 (w4.heap.size + 1) w4.heap.size 0 [] (-1) false := by rw [← hw5]; exact new_dk w4
      clear hw5
      go_wp2
      have hs4 := K4.out.size
      have hs5 := lt_of_heap hd5.hd
      have hs55 := hk5.size
      have hB0 : Both w4 (w5.alloc (.cells #[.slice none 0 0, .bool false, .int .i64 0, .bool false] 54)) (w4.heap.size + 1) w4.heap.size w5.heap.size 0 0 [] (.slice none 0 0) [] := by
        refine ⟨⟨hd5.keep0 (Kp.alloc [] _ _), by simp; omega, by simp, by simp⟩, ⟨heap_new _ _, World.ownsRow_nil _ _ _ _, by simp, by simp; omega⟩, List.Pairwise.nil, List.Perm.refl _, ?_, ?_, ?_, by simp [cont], by simp, hk5.trans (Kp.alloc [] _ _) (by simp)⟩
        · intro x hx hx2
          rcases mem_rfeet.1 hx2 with rfl | h | ⟨r, hr, _⟩
          · simp [feet] at hx
            omega
          · simp [Value.ownBlock] at h
          · cases hr
        · intro x hx
          simp [feet] at hx
          omega
        · intro x hx
          rcases mem_rfeet.1 hx with rfl | h | ⟨r, hr, _⟩
          · omega
          · simp [Value.ownBlock] at h
          · cases hr
      have HB0 := Lib.hid hB0
      clear hB0 hd5 hk5
      generalize w5.alloc (.cells #[.slice none 0 0, .bool false, .int .i64 0, .bool false] 54) = W at HB0 ⊢
      go_loopw [7] (fun t wr => ∃ (i ck : Nat) (fs : List Fl) (lv : Value) (L : List Rf), t = .int .i64 i ∧ i ≤ n ∧ Both w4 wr (w4.heap.size + 1) w4.heap.size w5.heap.size (tot (G.take i)) ck fs lv L) (fun t _ => n - (intOf t).toNat)
      case atStart => exact ⟨0, _, _, _, _, rfl, Nat.zero_le _, HB0.out⟩
      case round =>
        obtain ⟨i, ck, fs, lv, L, rfl, hi, hBo⟩ := hrel
        have HBO := Lib.hid hBo
        clear hBo HB0
        by_cases hlt : i < n
        · have hil : i < G.length := by rw [HL.out]; exact hlt
          have hgi : G[i]? = some G[i] := List.getElem?_eq_getElem hil
          obtain ⟨b, o, rfl, q0, q1⟩ := HF.out i _ hgi
          have g0 := ((K4.out.trans HBO.out.kp (by simp)).cell (p := ⟨b, o + i * 2, none⟩) (World.block_lt_of_cell? _ _ q0) (by simp)).trans q0
          have g1 := ((K4.out.trans HBO.out.kp (by simp)).cell (p := ⟨b, o + i * 2 + 1, none⟩) (World.block_lt_of_cell? _ _ q1) (by simp)).trans q1
          obtain ⟨zs, hzl, hzr⟩ := HZ.out G[i] (List.getElem_mem hil)
          have htn : tot (G.take (i + 1)) = tot (G.take i) + G[i].n + G[i].nm.size := by
            rw [List.take_succ_eq_append_getElem hil, tot_append]
            simp [tot]
            omega
          have htl : tot (G.take (i + 1)) ≤ 80000 := by
            have h1 := HTOT.out
            have h2 : tot G = tot (G.take (i + 1)) + tot (G.drop (i + 1)) := by rw [← tot_append, List.take_append_drop]
            omega
          generalize G[i] = gg at hgi q0 q1 g0 g1 hzl hzr htn
          obtain ⟨gn, gA, gk, gc⟩ := gg
          simp only at q0 q1 g0 g1 hzl hzr htn
          have HQ0 := Lib.hid q0
          have HQ1 := Lib.hid q1
          have HZR := Lib.hid hzr
          have HZL := Lib.hid hzl
          have HTN := Lib.hid htn
          have HTL := Lib.hid htl
          clear hgi q0 q1 hzr hzl htn htl
          go_wp2
          go_region_with (go_at_call 14; refine (both_add (HBO.out.keep0 (Kp.drew [] _)) gn gA zs HZL.out (HZR.out.kp0 ((K4.out.trans HBO.out.kp (by simp)).trans (Kp.drew [] _) (by simp))) (by have := HTN.out; have := HTL.out; omega)).mono ?_; rintro e w6 ⟨rfl, ck', fs', hM⟩)
          all_goals
            have HM := Lib.hid hM
            have h0 := ((K4.out.trans hM.kp (by simp)).cell (p := ⟨b, o + i * 2, none⟩) (World.block_lt_of_cell? _ _ HQ0.out) (by simp)).trans HQ0.out
            have h1 := ((K4.out.trans hM.kp (by simp)).cell (p := ⟨b, o + i * 2 + 1, none⟩) (World.block_lt_of_cell? _ _ HQ1.out) (by simp)).trans HQ1.out
            clear hM g0 g1
            go_wp2
            go_region_with (go_at_call 15; refine (mid_add (HM.out.keep0 (Kp.drew [] _)) gA HZL.out (HZR.out.kp0 ((K4.out.trans HM.out.kp (by simp)).trans (Kp.drew [] _) (by simp))) (by have := HTN.out; have := HTL.out; omega)).mono ?_; rintro e w7 ⟨rfl, lv', L', hBN⟩)
            all_goals
              have HBN := Lib.hid (hBN.more (B' := tot (G.take (i + 1))) (by rw [HTN.out]; omega))
              clear hBN h0 h1
              go_wp2
              go_round
              case rel => exact ⟨i + 1, _, _, _, _, by go_num, by omega, HBN.out⟩
              case measure => simp [intOf]; omega
        · have hin : i = n := by omega
          subst hin
          clear hlt hi
          have hfl : fs.length = L.length := by
            have := HBO.out.pm.length_eq
            simpa [contR, cont] using this.symm
          have hl16 := HBO.out.ln
          go_wp2_with fail
          refine (twinB_any wr _ _ ck fs (-1) HBO.out.dw.dk (by omega)).mono ?_
          rintro e w6 ⟨d2, m2, ck2, fs2, rfl, hd2, ht2, hf2, hk6, hb6⟩
          have HB6 := Lib.hid (HBO.out.keep0 hk6)
          have hok : ∀ r ∈ L, okName r.nm ∧ r.zs.length ≤ 1048576 := by
            intro r hr
            obtain ⟨f, hf, e⟩ := List.mem_map.1 (HBO.out.pm.mem_iff.1 (List.mem_map.2 ⟨r, hr, rfl⟩ : (r.nm, r.zs) ∈ contR L))
            have e1 : f.name = r.nm := congrArg Prod.fst e
            have e2 : f.zs = r.zs := congrArg Prod.snd e
            rw [← e1, ← e2]
            exact ⟨HBO.out.dw.dk.hn f hf, HBO.out.dw.dk.hz f hf⟩
          have HOK := Lib.hid hok
          clear hok
          go_wp2_with fail
          refine (refTwin w6 w4.heap.size _ L.length lv L HB6.out.rf rfl hl16 HB6.out.ri (fun r hr => (HOK.out r hr).1) (fun r hr => (HOK.out r hr).2)).mono ?_
          rintro e w7 ⟨m3, lv3, L3, rfl, hm3, hT3⟩
          have hP7 := pair_of hd2 hb6 ht2 (HBO.out.dw.dk.nm.imp (fun hh => hh.1)) HBO.out.ri HBO.out.pm hf2 hk6.size hm3 hT3
          have hl3 : L3.length ≤ 16 := by
            have := congrArg List.length hT3.ct
            simp [contR] at this
            omega
          have HP7 := Lib.hid hP7
          have HB7 := Lib.hid (HB6.out.keep0 hT3.kp)
          have HSR := Lib.hid hT3.sr
          have HSF := Lib.hid (fun g hg => (ht2.2 g hg).1)
          have HKD := Lib.hid (show ∀ x ∈ feet (w4.heap.size + 1) w4.heap.size fs, x < wr.heap.size from HBO.out.dw.dk.feet_lt)
          have HKR := Lib.hid (show ∀ x ∈ rfeet w5.heap.size lv L, x < wr.heap.size from HBO.out.rf.feet_lt)
          have HL3 := Lib.hid hl3
          clear hP7 hd2 hb6 ht2 hf2 hk6 hm3 hT3 HOK hl3 hfl HB6
          go_wp2_with fail
          refine (HP7.out.same HL3.out).mono ?_
          rintro e w8 ⟨rfl, hk8⟩
          have HP8 := Lib.hid (HP7.out.keep hk8 (by simp))
          have HB8 := Lib.hid (HB7.out.keep0 hk8)
          have HBX := Lib.hid (fun W (kW : Kp [] w4 W) => (⟨cell_of_heap (kW.heap R4.out (by simp)) 0, cell_of_heap (kW.heap R4.out (by simp)) 1⟩ : W.cell? ⟨w.heap.size, 0, none⟩ = some (.string nm) ∧ W.cell? ⟨w.heap.size, 1, none⟩ = some (.slice A k c)))
          have HRX := Lib.hid (fun W (kW : Kp [] w4 W) => HR.out.kp0 (K4.out.trans kW (by simp)))
          obtain ⟨x0, x1⟩ := HBX.out w8 HB8.out.kp
          have hBt : tot (G.take i) ≤ 80000 := by
            have h1 := HTOT.out
            rw [List.take_of_length_le (by rw [HL.out]; exact Nat.le_refl _)]
            exact h1
          have HBT := Lib.hid hBt
          clear hk8 HP7 HB7 hBt
          go_wp2
          go_region_held3 (fun W => W.cell? ⟨w.heap.size, 0, none⟩ = some (.string nm) ∧ W.cell? ⟨w.heap.size, 1, none⟩ = some (.slice A k c)) (first | exact HBX.out _ (hB10.kp.trans (hk11.trans hk12 (by simp)) (by simp)) | exact HBX.out _ (hB10.kp.trans hk11 (by simp)) | exact HBX.out _ hB10.kp | exact HBX.out _ hM9.kp | exact HBX.out _ (HB8.out.kp.trans (Kp.drew [] _) (by simp))) (first
            | (go_at_call 14; refine (both_addK (HB8.out.keep0 (Kp.drew [] _)) nm A bs HBL.out (HRX.out _ (HB8.out.kp.trans (Kp.drew [] _) (by simp))) (by have := HBT.out; omega)).mono ?_; rintro e w9 ⟨rfl, ck9, fs9, hM9, hk9⟩; obtain ⟨x0', x1'⟩ := HBX.out w9 hM9.kp)
            | (go_at_call 15; refine (mid_addK hM9 A HBL.out (HRX.out _ hM9.kp) (by have := HBT.out; omega)).mono ?_; rintro e w10 ⟨rfl, lv10, L10, hB10, hk10⟩; have hP10 := ((HP8.out.keep (Kp.drew [] _) (by simp)).keep hk9 HKD.out).keep hk10 HKR.out)
            | (go_at_call_of 17 (Value.pointer (some ⟨d2, 0, none⟩)); refine (hP10.same HL3.out).mono ?_; rintro e w11 ⟨rfl, hk11⟩)
            | (go_at_call 17; refine (Both.same (hB10.keep0 hk11)).mono ?_; rintro e w12 ⟨rfl, hk12⟩))
          have hk1012 := hk11.trans hk12 (by simp)
          have HP12 := Lib.hid (hP10.keep hk1012 (by simp))
          have HK12 := Lib.hid (hB10.kp.trans hk1012 (by simp))
          have hfl2 : fs2.length = L3.length := by
            have := HP12.out.pm.length_eq
            simpa [contR, cont] using this.symm
          clear hM9 hk9 hB10 hk10 hP10 hk11 hk12 hk1012 x0 x1 HP8 HB8
          go_wp2_with fail
          refine (lift_any w12 d2 m2 ck2 fs2.length fs2 HP12.out.dk HP12.out.b5 HSF.out rfl (by have := HL3.out; omega)).mono ?_
          rintro e w13 ⟨rfl, fs3, hL13⟩
          have hr13 : RefAt wr.heap.size w13 m3 lv3 L3 := HP12.out.rf.keepT hL13.kp (fun x hx => by
            rcases List.mem_cons.1 hx with rfl | hx
            · exact ⟨_, _, HP12.out.dk.hd, by decide, by decide, by decide⟩
            · obtain ⟨f, hf, rfl⟩ := List.mem_map.1 hx
              exact ⟨_, _, HP12.out.dk.hf f hf, by decide, by decide, by decide⟩)
          go_wp2_with fail
          refine (refLift w13 wr.heap.size m3 L3.length lv3 L3 hr13 rfl HL3.out HSR.out (fun r hr => by
            obtain ⟨f, hf, e⟩ := List.mem_map.1 (HP12.out.pm.mem_iff.1 (List.mem_map.2 ⟨r, hr, rfl⟩ : (r.nm, r.zs) ∈ contR L3))
            have e2 : f.zs = r.zs := congrArg Prod.snd e
            rw [← e2]
            exact HP12.out.dk.hz f hf)).mono ?_
          rintro e w14 ⟨rfl, L4, hL14⟩
          obtain ⟨hd14, hb14⟩ := hL13.dk.keepT hL13.b5 hL14.kp (fun x hx => by
            rcases List.mem_cons.1 hx with rfl | hx
            · exact ⟨_, _, hr13.hd, by decide, by decide, by decide⟩
            · rcases hr13.own.2 with ⟨e, _⟩ | ⟨g, cap, cur, e, _, hg, _⟩
              · rw [e] at hx
                simp [Value.ownBlock] at hx
              · rw [e] at hx
                have : x = g := by simpa [Value.ownBlock] using hx
                subst this
                exact ⟨_, _, hg, by decide, by decide, by decide⟩)
          go_wp2_with fail
          have hct4 : contR L4 = contR L3 := hL14.ct
          have hR4 : Rising L4 := rising_cont HP12.out.ri hct4
          have hP4 : (contR L4).Perm (cont fs3) := by
            rw [hct4, hL13.ct]
            exact HP12.out.pm
          have hl4 : L4.length = L3.length := by
            have := congrArg List.length hct4
            simpa [contR] using this
          have hfl3 : fs3.length = L3.length := by
            have := hP4.length_eq
            simp [contR, cont] at this
            omega
          have hK14 : Kp [] w4 w14 := by
            refine (HK12.out.trans hL13.kp (fun x hx => .inr ?_)).trans hL14.kp (fun x hx => .inr ?_)
            · have h1 : x ∈ feet d2 m2 fs2 := by
                simp only [feet, List.mem_cons, List.mem_flatMap]
                rcases List.mem_cons.1 hx with h | h
                · exact .inl h
                · obtain ⟨f, hf, rfl⟩ := List.mem_map.1 h
                  exact .inr (.inr ⟨f, hf, .inl rfl⟩)
              exact Nat.le_trans HBO.out.kp.size (HP12.out.lo x h1)
            · have h1 : x ∈ rfeet m3 lv3 L3 := by
                rcases List.mem_cons.1 hx with h | h
                · exact mem_rfeet.2 (.inl h)
                · exact mem_rfeet.2 (.inr (.inl (by simpa using h)))
              exact Nat.le_trans HBO.out.kp.size (HP12.out.lo2 x h1)
          have HD14 := Lib.hid hd14
          have HR14 := Lib.hid hL14.at_
          have HRI := Lib.hid hR4
          have HPM := Lib.hid hP4
          have HL4 := Lib.hid hl4
          have HK14 := Lib.hid hK14
          clear hd14 hb14 hL14 hL13 hct4 hR4 hP4 hl4 hK14 hr13 HP12 HK12
          refine (names_any w14 d2 m2 ck2 fs3 (-1) false HD14.out (by have := HL3.out; omega)).mono ?_
          rintro e w15 ⟨v, rfl, hnb, hk15⟩
          obtain ⟨hnr, hnew, NA, hnv⟩ := hnb
          have hln : ((sorted (fs3.map keyOf)).map encStr).length = L3.length := by simp [sorted_len, hfl3]
          rw [hln] at hnv
          subst hnv
          rw [keys_of HRI.out HPM.out] at hnr
          have HNM := Lib.hid hnr
          have HK15 := Lib.hid hk15
          clear hnr hnew hk15 hln
          go_wp2
          go_loopw [11] (fun t wr2 => ∃ j : Nat, t = .int .i64 j ∧ j ≤ L3.length ∧ Kp [] w15 wr2) (fun t _ => L3.length - (intOf t).toNat)
          case atStart => exact ⟨0, rfl, Nat.zero_le _, Kp.refl _ _⟩
          case round =>
            obtain ⟨j, rfl, hj, hk⟩ := hrel
            have HK := Lib.hid (HK15.out.trans hk (by simp))
            have HKW := Lib.hid hk
            clear hk
            by_cases hlt : j < L3.length
            · have hjl : j < L4.length := by rw [HL4.out]; exact hlt
              have hLj : L4[j]? = some L4[j] := List.getElem?_eq_getElem hjl
              obtain ⟨f, hf, hfe⟩ : ∃ f ∈ fs3, (f.name, f.zs) = (L4[j].nm, L4[j].zs) := List.mem_map.1 (HPM.out.mem_iff.1 (List.mem_map.2 ⟨L4[j], List.getElem_mem hjl, rfl⟩))
              obtain ⟨a, rfl, hca⟩ : ∃ a, NA = some a ∧ w15.cell? (a.add j) = some (.string L4[j].nm) := by
                rcases HNM.out with ⟨e, _⟩ | ⟨ad, c', e, hle, hb, hcc⟩
                · injection e with _ e _
                  omega
                · injection e with e _ _
                  exact ⟨ad, e, hcc j _ (by rw [List.getElem?_map, List.getElem?_map, hLj]; rfl)⟩
              generalize L4[j] = r at hLj hfe hca
              have hfn : f.name = r.nm := congrArg Prod.fst hfe
              have hfz : f.zs = r.zs := congrArg Prod.snd hfe
              have hal : (a.add j).block < w15.heap.size := World.block_lt_of_cell? _ _ hca
              have ca := (HKW.out.cell (p := a.add j) hal (by simp)).trans hca
              have HNF := Lib.hid (named_mem (HD14.out.nm.imp (fun hh => hh.1)) hf)
              have HFN := Lib.hid hfn
              have HFZ := Lib.hid hfz
              have HSZ := Lib.hid (HD14.out.hn f hf)
              have HZL := Lib.hid (HD14.out.hz f hf)
              have HLJ := Lib.hid hLj
              have HAL := Lib.hid hal
              clear hfe hfn hfz hLj hca hal hf
              go_wp2_with fail
              refine (read_some wr d2 m2 ck2 fs3 (-1) (HD14.out.keep0 HK.out) r.nm (notEmpty (by rw [← HFN.out]; exact HSZ.out.1)) (by rw [← HFN.out]; exact HSZ.out.2) f (by rw [← HFN.out]; exact HNF.out)).mono ?_
              rintro e w16 ⟨v1, rfl, hnb1, hk16⟩
              obtain ⟨B1, rfl⟩ := hnb1.form rfl
              have HV1 := Lib.hid (RdG.of_rdA (m := f.zs.length) hnb1.1 (byt_len _))
              have HK16 := Lib.hid hk16
              have ca4 := (hk16.cell (p := a.add j) (Nat.lt_of_lt_of_le HAL.out HKW.out.size) (by simp)).trans ca
              clear hnb1 hk16 ca
              go_wp2_with fail
              refine (refRead_some w16 _ m3 L4.length j lv3 L4 (HR14.out.keep0 (HK.out.trans HK16.out (by simp))) rfl (by have := HL3.out; have := HL4.out; omega) r.nm (by rw [← HFN.out]; exact HSZ.out) r HLJ.out rfl (fun q r' hq e => HRI.out.uniq HLJ.out hq e) (by rw [← HFZ.out]; exact HZL.out)).mono ?_
              rintro e w17 ⟨v2, rfl, hv2, hk17⟩
              obtain ⟨B2, q2, rfl⟩ := own_form hv2
              have HV2 := Lib.hid (own_rdG hv2)
              have HK17 := Lib.hid (HK16.out.trans hk17 (by simp))
              have HSB := Lib.hid (sameBytes_any w17 (.slice B1 f.zs.length f.zs.length) (.slice B2 r.zs.length q2) r.zs.length r.zs rfl (by rw [HFZ.out] at HV1 ⊢; exact HV1.out.kp0 hk17) HV2.out (by rw [← HFZ.out]; exact HZL.out))
              clear ca4 hv2 hk17
              go_wp2_with fail
              refine HSB.out.mono ?_
              rintro e w18 ⟨rfl, q3, rfl⟩
              have hl3n := HL3.out
              go_wp2
              go_round
              case rel => exact ⟨j + 1, by go_num, by omega, (HKW.out.trans HK17.out (by simp)).trans (Kp.drewN [] _ _) (by simp)⟩
              case measure => simp [intOf]; omega
            · go_wp2_with fail
              refine (same_true wr _ d2 m2 ck2 L4.length m3 fs3 (-1) (HD14.out.keep0 HK.out) lv3 L4 (HR14.out.keep0 HK.out) rfl (by have := HL3.out; have := HL4.out; omega) HRI.out HPM.out).mono ?_
              rintro e w19 ⟨rfl, hk19⟩
              have HK19 := Lib.hid ((K4.out.trans HK14.out (by simp)).trans (HK.out.trans hk19 (by simp)) (by simp))
              clear hk19
              go_wp2_with fail
              refine (lives_any w19 (HT.out.kp HK19.out (by simp))).mono ?_
              rintro e w20 ⟨rfl, hk20⟩
              go_wp2
              go_ret
              exact ⟨rfl, HK19.out.trans hk20 (by simp)⟩
end Go.Proofs.YtmboklllkdlmgaaGreatDoor
