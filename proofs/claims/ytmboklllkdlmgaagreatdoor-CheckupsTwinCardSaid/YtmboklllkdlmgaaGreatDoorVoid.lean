/-
  CheckupsVoid returns true for every file, and the file reads as it did: the given card. Conditions: none beyond the card's own.
-/
import Derived.Test.YtmboklllkdlmgaaGreatDoorBB
import Derived.Test.YtmboklllkdlmgaaGreatDoorCards
import Derived.Test.YtmboklllkdlmgaaGreatDoorTie
import Derived.WalkKit
import Derived.ProofKit
import Derived.OpenShut
import Derived.Deep.DeepHandedRow
import Derived.Lib.LaidTab
import Derived.SizedLaws
namespace Go.Proofs.YtmboklllkdlmgaaGreatDoor
open Go.ChangeShapes Go.WideShapes Go.ChangeAt Go.RowKit
set_option maxRecDepth 100000
theorem own : ownKnob Tryz.prog.godebug = none := by kernel_rfl
theorem laidOut : laidOutB Tryz.prog = true := by kernel_rfl
theorem gTab : Tryz.prog.globalNamed "countinghouse/sums.table" = some 0 := by kernel_rfl
theorem gTabType : (Tryz.prog.globals[0]?).map (·.type) = some 274 := by kernel_rfl
theorem cells24 : Tryz.prog.cellsOf 24 = 2 := by kernel_rfl
theorem cells5 : Tryz.prog.cellsOf 5 = 1 := by kernel_rfl
theorem cells9 : Tryz.prog.cellsOf 9 = 1 := by kernel_rfl
theorem cells22 : Tryz.prog.cellsOf 22 = 1 := by kernel_rfl
theorem cells191 : Tryz.prog.cellsOf 191 = 1 := by kernel_rfl
theorem cells274 : Tryz.prog.cellsOf 274 = 16 := by kernel_rfl
theorem bytes5 : Tryz.prog.bytesOf 5 = 1 := by kernel_rfl
def nums : List Int := [0, 498536548, 997073096, 651767980, 1994146192, 1802195444, 1303535960, 1342533948, 3988292384, 4027552580, 3604390888, 3412177804, 2607071920, 2262029012, 2685067896, 3183342108]
theorem tab_of {W : World} (h : laidMetH Tryz.prog Rows.checkupsVoidRow.laid W) : Tab W := by
  have ht : Lib.TabIs Tryz.prog W "countinghouse/sums.table" .u32 nums :=
    Lib.tabIs_of_head (rest := []) gTab gTabType Tryz.underlying274 Tryz.underlying191 cells191 cells274 h
  have hc := fun i hi => ht.cell gTab i hi
  exact ⟨World.block_lt_of_cell? _ _ (hc 0 (by decide)), fun i => nums.getD i 0, fun i hi => hc i hi⟩
/-- A file among the arguments: its two cells. -/
theorem open_file {H : Type} {enc : TypeId × Value → H} {W : World} {base : Nat} {sp : Nat → Bool} {held : Bool} {fuel : Nat} {cs : List Value} {x : DataW H × List MemPlace} (h : DataW.trod enc Tryz.prog W base sp held fuel 24 cs = some x) :
    ∃ s A n c, cs = [.string s, .slice A n c] ∧ ((∀ k ∈ x.1.weights Tryz.prog 24, k ≤ reachBytes) → s.size ≤ reachBytes ∧ n ≤ reachBytes) ∧ n ≤ c ∧ ∃ zs : List Int, zs.length = n ∧ (0 < n → RdA W (.slice A n c) (byt zs)) := by
  cases fuel with
  | zero => simp [DataW.trod] at h
  | succ fuel =>
    simp [DataW.trod, Tryz.underlying24, cells24, cells9, cells22] at h
    obtain ⟨hl, h⟩ := h
    obtain ⟨c0, c1, rfl⟩ : ∃ c0 c1, cs = [c0, c1] := by
      match cs, hl with
      | [c0, c1], _ => exact ⟨c0, c1, rfl⟩
    simp [Option.bind_eq_some_iff] at h
    obtain ⟨d0, p0, h0, _, ⟨d1, p1, h1, rfl⟩, hx⟩ := h
    simp at hx
    obtain ⟨s, e1, e2, hmax⟩ := DataW.trod_string Tryz.underlying9 h0
    obtain rfl : c0 = .string s := by simpa using e1
    obtain ⟨rfl, rfl⟩ : d0 = .lit (.string s.data.toList) ∧ p0 = [] := by simpa using e2
    have hws : ∀ k, k ∈ (DataW.agg [DataW.lit (H := H) (.string s.data.toList), d1]).weights Tryz.prog 24 ↔ k = s.size ∨ k ∈ d1.weights Tryz.prog 22 := by
      intro k
      simp [DataW.weights, Tryz.underlying24, DataW.weightsEach]
    rcases open_ints Tryz.underlying22 Tryz.underlying5 cells5 h1 with ⟨e3, e4⟩ | ⟨a, len, cap, zs, e3, hb, hle, hcap, hzl, e4, hcell, hwf⟩
    · obtain rfl : c1 = .slice none 0 0 := by simpa using e3
      refine ⟨s, none, 0, 0, rfl, fun hk => ⟨hk _ ?_, Nat.zero_le _⟩, Nat.le_refl _, [], rfl, fun h => absurd h (Nat.lt_irrefl _)⟩
      rw [← hx]
      exact (hws _).2 (.inl rfl)
    · obtain rfl : c1 = .slice (some a) len cap := by simpa using e3
      obtain ⟨rfl, rfl⟩ : d1 = .slice (lits .u8 (zs.take len)) (lits .u8 (zs.drop len)) ∧ p1 = MemPlace.row a zs.length := by simpa using e4
      have hlz : len ≤ zs.length := by rw [hzl]; split <;> omega
      refine ⟨s, some a, len, cap, rfl, fun hk => ⟨hk _ ?_, ?_⟩, hle, zs.take len, by simp; omega, fun h0 => .inr ⟨a, cap, ?_, ?_, ?_, ?_⟩⟩
      · rw [← hx]
        exact (hws _).2 (.inl rfl)
      · have := hk zs.length (by
          rw [← hx]
          refine (hws _).2 (.inr ?_)
          simp [DataW.weights, Tryz.underlying22, bytes5, lits]
          omega)
        omega
      · simp [byt]
        omega
      · simp [byt]
        omega
      · have := World.block_lt_of_cell? _ _ (hcell 0 (by omega))
        rwa [add_block] at this
      · intro j u hj
        have hjl : j < len := by
          have := (List.getElem?_eq_some_iff.1 hj).1
          simp [byt] at this
          omega
        rw [hcell j (by omega)]
        simp [byt, List.getElem?_take_of_lt hjl] at hj
        obtain ⟨z, hz, rfl⟩ := hj
        simp [List.getD, hz]

/-- WHAT THE WALK GIVES, FOR EVERY ARGUMENT AND EVERY WORLD THAT HOLDS THE TABLE. -/
theorem void_contract (H : Type) (enc : TypeId × Value → H) (W : World) (base : Nat) (args : Array Value) (ds gs : List (DataW H)) (before : List MemPlace)
    (hval : ∀ (j : Nat) t v, Tryz.f3.params[j]? = some t → args[j]? = some v → Value.okWide Tryz.prog W .any base t v)
    (hW : DataW.Whole enc Tryz.prog Tryz.f3.params.toList Rows.checkupsVoidSpec.vars false W args.toList ds gs before)
    (hz : (DataW.weightsEach Tryz.prog (Tryz.f3.params.toList ++ (OpenSpec.ofChange Rows.checkupsVoidSpec).bare.plain.varTypes Tryz.prog) (ds ++ gs)).all (· ≤ reachBytes) = true)
    (hL : laidMetH Tryz.prog Rows.checkupsVoidRow.laid W) :
    Calls Tryz.prog 3 args W fun e W' => ∃ v, e = .returned v ∧ Rows.checkupsVoidSpec.post enc Tryz.prog Tryz.f3 false true false false W args v W' := by
  have hW' := hW
  obtain ⟨p, q, hA0, hV, rfl, hfz, hnd⟩ := hW
  have hA : DataW.TrodAll enc Tryz.prog W 0 (fun _ => true) true Tryz.f3.params.toList args.toList ds p := hA0
  rw [Tryz.params3] at hA hval hz
  obtain ⟨v0, d0, rfl, rfl, h0⟩ := trodAll_one hA
  obtain ⟨rfl, rfl⟩ := trodVars_none hV
  obtain ⟨cs, rfl, hcs⟩ : ∃ cs, v0 = .agg cs ∧ cs.size = 2 := by
    have := hval 0 24 v0 rfl rfl
    simp only [Value.okWide, Tryz.underlying24, cells24] at this
    obtain ⟨cs, h1, h2, _⟩ := this
    exact ⟨cs, h1, h2⟩
  obtain ⟨fuel, hf⟩ := id h0
  obtain ⟨s, A, n, c, hcells, hwt, _⟩ := open_file hf
  have hcs2 : cs = #[.string s, .slice A n c] := by
    rw [← Array.toList_inj]
    simpa [Value.cells] using hcells
  subst hcs2
  have hw := hwt (fun k hk => by
    rw [List.all_eq_true] at hz
    have := hz k (by simp [DataW.weightsEach]; exact hk)
    simpa using this)
  have hr : reachBytes ≤ 140737488355328 := by decide
  refine (void_any W s A n c (by omega) (by omega) (tab_of hL)).mono fun e W' ⟨he, hk⟩ => ?_
  subst he
  refine ⟨_, rfl, _, _, _, [], p, [], hW', ?_, ?_, ?_, hk.below.frame _, fun h => by cases h⟩
  · exact trodAll_mk1 (shut_bool Tryz.underlying4 _)
  · rw [Tryz.params3]
    exact trodAll_mk1 (Below.trod laidOut (by kernel_rfl) (of_decide_eq_true (by kernel_rfl)) h0 hk.below (fun x hx => hW'.lt x (by simpa using hx)))
  · rfl

/-- A WORLD FOR THE WITNESS: the settled one, the table (block 0) holding what its initialiser lays. -/
noncomputable def laidWorld (os : Os) : World :=
  { World.holding Tryz.prog os ⟨#[], #[], []⟩ with heap := (World.holding Tryz.prog os ⟨#[], #[], []⟩).heap.modify 0 fun
      | .cells _ t frozen => .cells (nums.map (Value.int .u32)).toArray t frozen
      | o => o }
def emptyFile : Value := .agg #[.string ⟨#[]⟩, .slice none 0 0]
theorem laid_met (os : Os) : laidMet Tryz.prog Rows.checkupsVoidRow.laid ((laidWorld os).forCall (fun _ _ => 0) ⟨#[], #[emptyFile], []⟩).memory :=
  laidMet_of_run' 8 (by kernel_rfl) (by kernel_rfl)
theorem void_reads (os : Os) {H : Type} (enc : TypeId × Value → H) : ∃ places, DataW.whole enc Tryz.prog ((laidWorld os).forCall (fun _ _ => 0) ⟨#[], #[emptyFile], []⟩).memory Tryz.f3.params.toList Rows.checkupsVoidSpec.vars false #[emptyFile].toList 8 = some ([.agg [.lit (.string []), .nil]], [], places) :=
  ⟨[], by kernel_rfl⟩
theorem void_lifted (os : Os) (started : os.Started) (H : Type) (enc : TypeId × Value → H) (F : Stop.Interp) :
    ReturnsInHanded {} Tryz.checked os 3 .any ((OpenSpec.ofChange Rows.checkupsVoidSpec).preRow enc Tryz.prog Tryz.f3 Rows.checkupsVoidRow.domain false Rows.checkupsVoidRow.laid) (((OpenSpec.ofChange Rows.checkupsVoidSpec).at F).post enc Tryz.prog Tryz.f3 false true false false) := by
  obtain ⟨places, hx⟩ := void_reads os enc
  refine returnsInHanded_of_row (C := Tryz.checked) (s := OpenSpec.ofChange Rows.checkupsVoidSpec) own started (by kernel_rfl) Tryz.func3
    (witness_row_at (enc := enc) (C := Tryz.checked) false (laidWorld os) #[emptyFile] rfl (by kernel_rfl) (by kernel_rfl) (by kernel_rfl)
      (OpenSpec.preRow_of_cond 8 hx (by kernel_rfl) (fun k hk => by cases hk) (by kernel_rfl) (laid_met os))) ?_
  intro W base args ds gs before hval hW _ _ hz hL _ _
  exact void_contract H enc W base args ds gs before hval hW hz hL
theorem void_said : Rows.CheckupsVoidSaid :=
  OpenClaim.holds_of_cond 3 Tryz.f3 rfl rfl rfl rfl rfl rfl rfl ⟨rfl, rfl, rfl, rfl, rfl⟩ rfl rfl rfl rfl rfl (by kernel_rfl) Tryz.func3 (by kernel_rfl)
    (of_decide_eq_true (by kernel_rfl)) (by unfold Func.isWrapper; first | (rw [if_pos (by decide +kernel)]; kernel_rfl) | (rw [if_neg (by decide +kernel)]; exact ⟨rfl, rfl⟩))
    (fun os started H enc _ F => by rw [OpenClaim.pre_eq_preRow]; exact void_lifted os started H enc F)
theorem void_plain (f : FuncId) (fn : Func) (hf : Tryz.pinned.checked.prog.funcNamed "countinghouse/countinghouselaw35.CheckupsVoid" = some f) (hfn : Tryz.pinned.checked.prog.funcs[f]? = some fn) :
    true = Tryz.pinned.checked.prog.looks [] ∧ ∀ (j : Nat) t, fn.params[j]? = some t → Tryz.pinned.checked.prog.wantsStandIn t = false := by
  obtain rfl : f = 3 := Option.some.inj ((show Tryz.prog.funcNamed "countinghouse/countinghouselaw35.CheckupsVoid" = some 3 by kernel_rfl).symm.trans hf) |>.symm
  obtain rfl : fn = Tryz.f3 := (Option.some.inj (Tryz.func3.symm.trans hfn)).symm
  refine ⟨by kernel_rfl, fun j t ht => ?_⟩
  rw [Tryz.params3] at ht
  obtain rfl : t = 24 := by simpa using Array.mem_of_getElem? ht
  exact (show Tryz.prog.wantsStandIn 24 = false by kernel_rfl)
/-- THE CARD. -/
theorem void_card : Rows.CheckupsVoidCardSaid :=
  Claim7.holds_tied_plain_at .later [] _ _ _ _ void_said (fun _ h => by cases h) (by kernel_rfl) (fun _ h => by cases h) checkupsVoid_row_tie rfl ⟨rfl, rfl⟩ (by kernel_rfl) rfl void_plain (by kernel_rfl)
end Go.Proofs.YtmboklllkdlmgaaGreatDoor
