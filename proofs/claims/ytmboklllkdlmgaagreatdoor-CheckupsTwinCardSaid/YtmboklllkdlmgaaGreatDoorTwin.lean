/-
  CheckupsTwin returns true for every list of files and every file, and both read as they did: the given card. Conditions: none beyond the card's own.
-/
import Derived.Test.YtmboklllkdlmgaaGreatDoorCR
import Derived.Test.YtmboklllkdlmgaaGreatDoorVoid
import Derived.Deep.Slices
namespace Go.Proofs.YtmboklllkdlmgaaGreatDoor
open Go.ChangeShapes Go.WideShapes Go.ChangeAt Go.RowKit Go.Deep
set_option maxRecDepth 100000
theorem cells26 : Tryz.prog.cellsOf 26 = 1 := by kernel_rfl
theorem bytes24 : Tryz.prog.bytesOf 24 = 40 := by kernel_rfl
/-- A file among the arguments: its two cells; its bytes, read. -/
theorem open_fileG {H : Type} {enc : TypeId × Value → H} {W : World} {base : Nat} {sp : Nat → Bool} {held : Bool} {fuel : Nat} {cs : List Value} {x : DataW H × List MemPlace} (h : DataW.trod enc Tryz.prog W base sp held fuel 24 cs = some x) :
    ∃ s A n c, cs = [.string s, .slice A n c] ∧ ((∀ k ∈ x.1.weights Tryz.prog 24, k ≤ reachBytes) → s.size ≤ reachBytes ∧ n ≤ reachBytes) ∧ ∃ zs : List Int, zs.length = n ∧ RdG 1 W (.slice A n c) n (byt zs) := by
  cases fuel with
  | zero => simp [DataW.trod] at h
  | succ fuel =>
    simp [DataW.trod, Tryz.underlying24, cells24, cells9, cells22] at h
    obtain ⟨hl, h⟩ := h
    obtain ⟨c0, c1, rfl⟩ : ∃ c0 c1, cs = [c0, c1] := by
      match cs, hl with
      | [c0, c1], _ => exact ⟨c0, c1, rfl⟩
    simp [Option.bind_eq_some_iff] at h
    obtain ⟨d0, p0, h0, _, ⟨d1, p1, h1, rfl⟩, hx⟩ := h
    simp at hx
    obtain ⟨s, e1, e2, hmax⟩ := DataW.trod_string Tryz.underlying9 h0
    obtain rfl : c0 = .string s := by simpa using e1
    obtain ⟨rfl, rfl⟩ : d0 = .lit (.string s.data.toList) ∧ p0 = [] := by simpa using e2
    have hws : ∀ k, k ∈ (DataW.agg [DataW.lit (H := H) (.string s.data.toList), d1]).weights Tryz.prog 24 ↔ k = s.size ∨ k ∈ d1.weights Tryz.prog 22 := by
      intro k
      simp [DataW.weights, Tryz.underlying24, DataW.weightsEach]
    rcases open_ints Tryz.underlying22 Tryz.underlying5 cells5 h1 with ⟨e3, e4⟩ | ⟨a, len, cap, zs, e3, hb, hle, hcap, hzl, e4, hcell, hwf⟩
    · obtain rfl : c1 = .slice none 0 0 := by simpa using e3
      refine ⟨s, none, 0, 0, rfl, fun hk => ⟨hk _ ?_, Nat.zero_le _⟩, [], rfl, none, 0, rfl, rfl, fun _ => ⟨rfl, rfl⟩, by simp⟩
      rw [← hx]
      exact (hws _).2 (.inl rfl)
    · obtain rfl : c1 = .slice (some a) len cap := by simpa using e3
      obtain ⟨rfl, rfl⟩ : d1 = .slice (lits .u8 (zs.take len)) (lits .u8 (zs.drop len)) ∧ p1 = MemPlace.row a zs.length := by simpa using e4
      have hlz : len ≤ zs.length := by rw [hzl]; split <;> omega
      refine ⟨s, some a, len, cap, rfl, fun hk => ⟨hk _ ?_, ?_⟩, zs.take len, by simp; omega, some a, cap, rfl, by simp [byt]; omega, by simp, fun ad had j u hj => ?_⟩
      · rw [← hx]
        exact (hws _).2 (.inl rfl)
      · have := hk zs.length (by
          rw [← hx]
          refine (hws _).2 (.inr ?_)
          simp [DataW.weights, Tryz.underlying22, bytes5, lits]
          omega)
        omega
      · obtain rfl : a = ad := by simpa using had
        have hjl : j < len := by
          have := (List.getElem?_eq_some_iff.1 hj).1
          simp [byt] at this
          omega
        rw [hcell j (by omega)]
        simp [byt, List.getElem?_take_of_lt hjl] at hj
        obtain ⟨z, hz, rfl⟩ := hj
        simp [List.getD, hz]
theorem weightsAll_mem {H : Type} {P : Program} {e : TypeId} {d : DataW H} {k : Nat} (hk : k ∈ d.weights P e) : ∀ {l : List (DataW H)}, d ∈ l → k ∈ DataW.weightsAll P e l := by
  intro l hd
  induction l with
  | nil => cases hd
  | cons x l ih =>
    simp only [DataW.weightsAll, List.mem_append]
    rcases List.mem_cons.1 hd with rfl | hd
    · exact .inl hk
    · exact .inr (ih hd)
/-- A list of files among the arguments. -/
theorem open_files {H : Type} {enc : TypeId × Value → H} {W : World} {base : Nat} {sp : Nat → Bool} {held : Bool} {fuel : Nat} {cs : List Value} {x : DataW H × List MemPlace} (h : DataW.trod enc Tryz.prog W base sp held fuel 26 cs = some x) :
    ∃ A n c G, cs = [.slice A n c] ∧ G.length = n ∧ FilesAt W A G ∧ ((∀ k ∈ x.1.weights Tryz.prog 26, k ≤ reachBytes) → n ≤ reachBytes ∧ ∀ g ∈ G, g.n ≤ reachBytes ∧ g.nm.size ≤ reachBytes) ∧
      ∀ g ∈ G, ∃ zs : List Int, zs.length = g.n ∧ RdG 1 W (.slice g.A g.n g.c) g.n (byt zs) := by
  rcases open_slice Tryz.underlying26 h with ⟨rfl, rfl⟩ | ⟨a, len, cap, m, fl, D, Pl, rfl, hb, hle, hcap, hm, rfl, hx⟩
  · exact ⟨none, 0, 0, [], rfl, rfl, fun i g h => by simp at h, fun _ => ⟨Nat.zero_le _, by simp⟩, by simp⟩
  · have hlm : len ≤ m := by rw [hm]; split <;> omega
    have key : ∀ i, i < len → ∃ g : ByteArray × Option Addr × Nat × Nat, W.cell? (a.add (i * 2)) = some (.string g.1) ∧ W.cell? ((a.add (i * 2)).add 1) = some (.slice g.2.1 g.2.2.1 g.2.2.2) ∧
        ((∀ k ∈ (D i).weights Tryz.prog 24, k ≤ reachBytes) → g.1.size ≤ reachBytes ∧ g.2.2.1 ≤ reachBytes) ∧ ∃ zs : List Int, zs.length = g.2.2.1 ∧ RdG 1 W (.slice g.2.1 g.2.2.1 g.2.2.2) g.2.2.1 (byt zs) := by
      intro i hi
      obtain ⟨cs', h1, h2⟩ := hx i (by omega)
      rw [cells24] at h1
      obtain ⟨s, A, n, c, rfl, hw, hz⟩ := open_fileG h2
      obtain ⟨_, _, h3⟩ := World.cells?_some h1
      refine ⟨(s, A, n, c), ?_, ?_, hw, hz⟩
      · have := h3 0 (by omega)
        simpa [Addr.add] using this
      · have := h3 1 (by omega)
        simpa using this
    obtain ⟨F, hF⟩ := choose_lt (α := ByteArray × Option Addr × Nat × Nat) key
    refine ⟨some a, len, cap, (List.range len).map fun i => ⟨(F i).1, (F i).2.1, (F i).2.2.1, (F i).2.2.2⟩, rfl, by simp, ?_, ?_, ?_⟩
    · intro i g hg
      rw [List.getElem?_map] at hg
      obtain ⟨j, hj, rfl⟩ := Option.map_eq_some_iff.1 hg
      obtain ⟨hi, e⟩ := List.getElem?_eq_some_iff.1 hj
      simp at hi e
      subst e
      obtain ⟨b, o, sp⟩ := a
      have h0 := (hF 0 (by omega)).1
      have hsp : sp = none := by simpa [Addr.add] using World.cell?_spot h0
      subst hsp
      obtain ⟨h1, h2, _⟩ := hF i hi
      rw [add_add] at h2
      refine ⟨b, o, rfl, ?_, ?_⟩
      · rw [← h1]
        congr 1
        unfold Addr.add
        split <;> simp_all
      · rw [← h2]
        congr 1
    · intro hk
      have hw : (len + (m - len)) * 40 ≤ reachBytes := hk _ (by simp [DataW.weights, Tryz.underlying26, bytes24])
      refine ⟨by omega, fun g hg => ?_⟩
      simp at hg
      obtain ⟨i, hi, rfl⟩ := hg
      refine ((hF i hi).2.2.1 fun k hkk => hk _ ?_).symm
      simp only [DataW.weights, Tryz.underlying26, List.mem_cons, List.mem_append]
      exact .inr (.inl (weightsAll_mem hkk (List.mem_map.2 ⟨i, List.mem_range.2 hi, rfl⟩)))
    · intro g hg
      simp at hg
      obtain ⟨i, hi, rfl⟩ := hg
      exact (hF i hi).2.2.2
theorem tab_ofT {W : World} (h : laidMetH Tryz.prog Rows.checkupsTwinRow.laid W) : Tab W := by
  have ht : Lib.TabIs Tryz.prog W "countinghouse/sums.table" .u32 nums :=
    Lib.tabIs_of_head (rest := []) gTab gTabType Tryz.underlying274 Tryz.underlying191 cells191 cells274 h
  have hc := fun i hi => ht.cell gTab i hi
  exact ⟨World.block_lt_of_cell? _ _ (hc 0 (by decide)), fun i => nums.getD i 0, fun i hi => hc i hi⟩
/-- WHAT THE WALK GIVES, FOR EVERY ARGUMENT AND EVERY WORLD THAT HOLDS THE TABLE. -/
theorem twin_contract (H : Type) (enc : TypeId × Value → H) (W : World) (base : Nat) (args : Array Value) (ds gs : List (DataW H)) (before : List MemPlace)
    (hval : ∀ (j : Nat) t v, Tryz.f4.params[j]? = some t → args[j]? = some v → Value.okWide Tryz.prog W .any base t v)
    (hW : DataW.Whole enc Tryz.prog Tryz.f4.params.toList Rows.checkupsTwinSpec.vars false W args.toList ds gs before)
    (hz : (DataW.weightsEach Tryz.prog (Tryz.f4.params.toList ++ (OpenSpec.ofChange Rows.checkupsTwinSpec).bare.plain.varTypes Tryz.prog) (ds ++ gs)).all (· ≤ reachBytes) = true)
    (hL : laidMetH Tryz.prog Rows.checkupsTwinRow.laid W) :
    Calls Tryz.prog 4 args W fun e W' => ∃ v, e = .returned v ∧ Rows.checkupsTwinSpec.post enc Tryz.prog Tryz.f4 false true false false W args v W' := by
  have hW' := hW
  obtain ⟨p, q, hA0, hV, rfl, hfz, hnd⟩ := hW
  have hA : DataW.TrodAll enc Tryz.prog W 0 (fun _ => true) true Tryz.f4.params.toList args.toList ds p := hA0
  rw [Tryz.params4] at hA hval hz
  obtain ⟨v0, v1, d0, d1, p0, p1, rfl, rfl, rfl, h0, h1⟩ := trodAll_two hA
  obtain ⟨rfl, rfl⟩ := trodVars_none hV
  obtain ⟨cs, rfl, hcs⟩ : ∃ cs, v1 = .agg cs ∧ cs.size = 2 := by
    have := hval 1 24 v1 rfl rfl
    simp only [Value.okWide, Tryz.underlying24, cells24] at this
    obtain ⟨cs, h1, h2, _⟩ := this
    exact ⟨cs, h1, h2⟩
  obtain ⟨f0, hf0⟩ := id h0
  obtain ⟨A0, n, c0, G, hcells0, hGl, hF, hwt0, hzG⟩ := open_files hf0
  obtain rfl : v0 = .slice A0 n c0 := by
    have := hval 0 26 v0 rfl rfl
    simp only [Value.okWide, Tryz.underlying26, Cell.okWide, Cell.ok] at this
    cases v0 <;> simp_all [Value.cells]
  obtain ⟨f1, hf1⟩ := id h1
  obtain ⟨s, A, k, c, hcells, hwt, bs, hbl, hr⟩ := open_fileG hf1
  have hcs2 : cs = #[.string s, .slice A k c] := by
    rw [← Array.toList_inj]
    simpa [Value.cells] using hcells
  subst hcs2
  rw [List.all_eq_true] at hz
  have hw := hwt (fun k hk => by
    have := hz k (by simp [DataW.weightsEach]; exact .inr hk)
    simpa using this)
  have hw0 := hwt0 (fun k hk => by
    have := hz k (by simp [DataW.weightsEach]; exact .inl hk)
    simpa using this)
  have hrb : reachBytes ≤ 140737488355328 := by decide
  refine (twinlaw_any W A0 c0 n G hGl hF (fun g hg => ⟨Nat.le_trans (hw0.2 g hg).1 hrb, Nat.le_trans (hw0.2 g hg).2 hrb⟩) (by omega) hzG s A k c (by omega) (by omega) bs hbl hr (tab_ofT hL)).mono fun e W' ⟨he, hk⟩ => ?_
  subst he
  refine ⟨_, rfl, _, _, _, [], p0 ++ p1, [], hW', ?_, ?_, ?_, hk.below.frame _, fun h => by cases h⟩
  · exact trodAll_mk1 (shut_bool Tryz.underlying4 _)
  · rw [Tryz.params4]
    exact trodAll_mk2 (Below.trod laidOut (by kernel_rfl) (of_decide_eq_true (by kernel_rfl)) h0 hk.below (fun x hx => hW'.lt x (by simp; exact .inl hx)))
      (Below.trod laidOut (by kernel_rfl) (of_decide_eq_true (by kernel_rfl)) h1 hk.below (fun x hx => hW'.lt x (by simp; exact .inr hx)))
  · rfl
theorem laid_metT (os : Os) : laidMet Tryz.prog Rows.checkupsTwinRow.laid ((laidWorld os).forCall (fun _ _ => 0) ⟨#[], #[.slice none 0 0, emptyFile], []⟩).memory :=
  laidMet_of_run' 8 (by kernel_rfl) (by kernel_rfl)
theorem twin_reads (os : Os) {H : Type} (enc : TypeId × Value → H) : ∃ places, DataW.whole enc Tryz.prog ((laidWorld os).forCall (fun _ _ => 0) ⟨#[], #[.slice none 0 0, emptyFile], []⟩).memory Tryz.f4.params.toList Rows.checkupsTwinSpec.vars false #[.slice none 0 0, emptyFile].toList 8 = some ([.nil, .agg [.lit (.string []), .nil]], [], places) :=
  ⟨[], by kernel_rfl⟩
theorem twin_lifted (os : Os) (started : os.Started) (H : Type) (enc : TypeId × Value → H) (F : Stop.Interp) :
    ReturnsInHanded {} Tryz.checked os 4 .any ((OpenSpec.ofChange Rows.checkupsTwinSpec).preRow enc Tryz.prog Tryz.f4 Rows.checkupsTwinRow.domain false Rows.checkupsTwinRow.laid) (((OpenSpec.ofChange Rows.checkupsTwinSpec).at F).post enc Tryz.prog Tryz.f4 false true false false) := by
  obtain ⟨places, hx⟩ := twin_reads os enc
  refine returnsInHanded_of_row (C := Tryz.checked) (s := OpenSpec.ofChange Rows.checkupsTwinSpec) own started (by kernel_rfl) Tryz.func4
    (witness_row_at (enc := enc) (C := Tryz.checked) false (laidWorld os) #[.slice none 0 0, emptyFile] rfl (by kernel_rfl) (by kernel_rfl) (by kernel_rfl)
      (OpenSpec.preRow_of_cond 8 hx (by kernel_rfl) (fun k hk => by cases hk) (by kernel_rfl) (laid_metT os))) ?_
  intro W base args ds gs before hval hW _ _ hz hL _ _
  exact twin_contract H enc W base args ds gs before hval hW hz hL
theorem twin_said : Rows.CheckupsTwinSaid :=
  OpenClaim.holds_of_cond 4 Tryz.f4 rfl rfl rfl rfl rfl rfl rfl ⟨rfl, rfl, rfl, rfl, rfl⟩ rfl rfl rfl rfl rfl (by kernel_rfl) Tryz.func4 (by kernel_rfl)
    (of_decide_eq_true (by kernel_rfl)) (by unfold Func.isWrapper; first | (rw [if_pos (by decide +kernel)]; kernel_rfl) | (rw [if_neg (by decide +kernel)]; exact ⟨rfl, rfl⟩))
    (fun os started H enc _ F => by rw [OpenClaim.pre_eq_preRow]; exact twin_lifted os started H enc F)
theorem twin_plain (f : FuncId) (fn : Func) (hf : Tryz.pinned.checked.prog.funcNamed "countinghouse/countinghouselaw35.CheckupsTwin" = some f) (hfn : Tryz.pinned.checked.prog.funcs[f]? = some fn) :
    true = Tryz.pinned.checked.prog.looks [] ∧ ∀ (j : Nat) t, fn.params[j]? = some t → Tryz.pinned.checked.prog.wantsStandIn t = false := by
  obtain rfl : f = 4 := Option.some.inj ((show Tryz.prog.funcNamed "countinghouse/countinghouselaw35.CheckupsTwin" = some 4 by kernel_rfl).symm.trans hf) |>.symm
  obtain rfl : fn = Tryz.f4 := (Option.some.inj (Tryz.func4.symm.trans hfn)).symm
  refine ⟨by kernel_rfl, fun j t ht => ?_⟩
  rw [Tryz.params4] at ht
  have : t = 26 ∨ t = 24 := by simpa using Array.mem_of_getElem? ht
  rcases this with rfl | rfl
  · exact (show Tryz.prog.wantsStandIn 26 = false by kernel_rfl)
  · exact (show Tryz.prog.wantsStandIn 24 = false by kernel_rfl)
/-- THE CARD. -/
theorem twin_card : Rows.CheckupsTwinCardSaid :=
  Claim7.holds_tied_plain_at .later [] _ _ _ _ twin_said (fun _ h => by cases h) (by kernel_rfl) (fun _ h => by cases h) checkupsTwin_row_tie rfl ⟨rfl, rfl⟩ (by kernel_rfl) rfl twin_plain (by kernel_rfl)
end Go.Proofs.YtmboklllkdlmgaaGreatDoor
