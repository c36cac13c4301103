/-
  A disk in memory ('Dk'): its struct, its map of files, the files' structs and bytes; the map's operations over such entries. Conditions: none; helper lemmas.
-/
import Derived.Test.YtmboklllkdlmgaaGreatDoorA
namespace Go.Proofs.YtmboklllkdlmgaaGreatDoor
open Go.RowKit Go.MapKept
set_option maxRecDepth 100000

theorem notEmpty {s : ByteArray} (h : 0 < s.size) : s.toList.isEmpty = false := by
  rw [ByteArray.toList_eq]
  rw [List.isEmpty_eq_false_iff]
  intro e
  have h2 : s.data.toList.length = 0 := by rw [e]; rfl
  have h3 : s.data.size = 0 := by simpa using h2
  have h4 : s.size = s.data.size := rfl
  omega
def byt (zs : List Int) : List Value := zs.map (Value.int .u8)
theorem byt_len (zs : List Int) : (byt zs).length = zs.length := by simp [byt]
theorem byt_one (zs : List Int) : ∀ u ∈ byt zs, u.oneCell' = true := by
  intro u hu
  obtain ⟨z, _, rfl⟩ := List.mem_map.1 hu
  rfl

/-- A file of a disk: its name, its struct's block, when its entry came, its slice, its bytes, how many are sure. -/
structure Fl where
  name : ByteArray
  fb : Nat
  born : Nat
  v : Value
  zs : List Int
  sure : Nat
def Fl.ent (f : Fl) : MapEntry := ⟨.string f.name, .pointer (some ⟨f.fb, 0, none⟩), f.born⟩
def fval : Option Fl → Value
  | some f => .pointer (some ⟨f.fb, 0, none⟩)
  | none => .pointer none
def named (fs : List Fl) (s : ByteArray) : Option Fl := fs.find? (fun f => s == f.name)

/-- What the disk with struct block d and map block m holds. -/
structure Dk (w : World) (d m ck : Nat) (fs : List Fl) (fuse : Int) (dead : Bool) : Prop where
  hd : w.heap[d]? = some (.cells #[.map (some m), .int .i64 fuse, .bool dead] 30 (0, 0))
  hm : w.heap[m]? = some (.map (fs.map Fl.ent).toArray ck)
  hf : ∀ f ∈ fs, w.heap[f.fb]? = some (.cells #[f.v, .int .i64 f.sure, .string f.name] 100 (0, 0))
  hr : ∀ f ∈ fs, RdA w f.v (byt f.zs)
  hz : ∀ f ∈ fs, f.zs.length ≤ 1048576
  hn : ∀ f ∈ fs, 0 < f.name.size ∧ f.name.size ≤ 16
  nm : fs.Pairwise (fun f g => f.name ≠ g.name ∧ f.fb ≠ g.fb ∧ f.born ≠ g.born)
  bo : ∀ f ∈ fs, f.born < ck

def sliceBlock : Value → List Nat
  | .slice (some a) _ _ => [a.block]
  | _ => []
/-- All blocks that a disk lies in. -/
def feet (d m : Nat) (fs : List Fl) : List Nat := d :: m :: fs.flatMap (fun f => f.fb :: sliceBlock f.v)

theorem Dk.keep {w w' : World} {d m ck : Nat} {fs : List Fl} {fuse : Int} {dead : Bool} (h : Dk w d m ck fs fuse dead) {S : List Nat} (k : Kp S w w') (hS : ∀ x ∈ S, x ∉ feet d m fs) : Dk w' d m ck fs fuse dead := by
  have hd : ∀ x ∈ feet d m fs, x ∉ S := fun x hx hs => hS x hs hx
  refine ⟨k.heap h.hd (hd _ (by simp [feet])), k.heap h.hm (hd _ (by simp [feet])), fun f hf => k.heap (h.hf f hf) (hd _ ?_), fun f hf => (h.hr f hf).kp k (fun ad n c hv => hd _ ?_), h.hz, h.hn, h.nm, h.bo⟩
  · simp only [feet, List.mem_cons, List.mem_flatMap]
    exact .inr (.inr ⟨f, hf, .inl rfl⟩)
  · simp only [feet, List.mem_cons, List.mem_flatMap]
    exact .inr (.inr ⟨f, hf, .inr (by simp [hv, sliceBlock])⟩)
theorem Dk.keep0 {w w' : World} {d m ck : Nat} {fs : List Fl} {fuse : Int} {dead : Bool} (h : Dk w d m ck fs fuse dead) (k : Kp [] w w') : Dk w' d m ck fs fuse dead := h.keep k (by simp)

theorem named_some {fs : List Fl} {s : ByteArray} {f : Fl} (h : named fs s = some f) : f ∈ fs ∧ f.name = s := by
  refine ⟨List.mem_of_find?_eq_some h, ?_⟩
  have := List.find?_some h
  exact ((bytes_beq s f.name).1 this).symm
theorem named_none {fs : List Fl} {s : ByteArray} (h : named fs s = none) : ∀ f ∈ fs, f.name ≠ s := by
  intro f hf e
  have := List.find?_eq_none.1 h f hf
  exact this ((bytes_beq s f.name).2 e.symm)

theorem findNow_ents (s : ByteArray) : ∀ (es : List Fl) (i : Nat), ∃ r, Instr.findNow .string (.string s) (es.map Fl.ent) i = some r ∧ (r.map (·.2)) = (named es s).map (fun f => .pointer (some ⟨f.fb, 0, none⟩))
  | [], i => ⟨none, rfl, rfl⟩
  | f :: es, i => by
    obtain ⟨r, h1, h2⟩ := findNow_ents s es (i + 1)
    by_cases h : (s == f.name) = true
    · exact ⟨some (i, .pointer (some ⟨f.fb, 0, none⟩)), by simp [Instr.findNow, Fl.ent, Instr.sameNow, h], by simp [named, List.find?, h]⟩
    · have h' : (s == f.name) = false := by simpa using h
      exact ⟨r, by simp [Instr.findNow, Fl.ent, Instr.sameNow, h', h1], by rw [h2]; simp [named, List.find?, h']⟩
theorem run_getObj_map (w : World) (m : Nat) (es : Array MapEntry) (ck : Nat) (hm : w.heap[m]? = some (.map es ck)) : (getObj m).run Tryz.prog w = .ok (.map es ck) w := by
  simp [getObj, Sem.run, hm]
theorem run_setObj_map (w : World) (m : Nat) (es : Array MapEntry) (ck : Nat) (o : Obj) (hm : w.heap[m]? = some (.map es ck)) : (setObj m o).run Tryz.prog w = .ok () (w.putObj m o) := by
  simp only [setObj, Sem.run, hm]; rfl
theorem run_checkKey (w : World) (b : Bool) (n : Nat) (s : ByteArray) : (Instr.checkKey b (n + 1) 9 (.string s)).run Tryz.prog w = .ok () w := by
  simp [Instr.checkKey, run_underlying Tryz.underlying9]
theorem lookup28 (w : World) (m ck : Nat) (es : List Fl) (hm : w.heap[m]? = some (.map (es.map Fl.ent).toArray ck)) (s : ByteArray) :
    (Instr.lookup 28 (.map (some m)) (.string s) false).run Tryz.prog w = .ok (fval (named es s)) w := by
  obtain ⟨r, h1, h2⟩ := findNow_ents s es 0
  have hz := Tryz.zeroValue95 w
  simp [Instr.lookup, run_underlying Tryz.underlying28, run_getObj_map w m _ ck hm, run_checkKey w _ 9999, Instr.findKey, run_underlying Tryz.underlying9, h1]
  cases r with
  | none =>
    have : named es s = none := by
      cases hf : named es s with
      | none => rfl
      | some f => rw [hf] at h2; cases h2
    simp [hz, this, fval]
  | some x =>
    cases hf : named es s with
    | none => rw [hf] at h2; cases h2
    | some f =>
      rw [hf] at h2
      simp at h2
      simp [fval, h2]
theorem findNow_new (s : ByteArray) (es : List Fl) (h : named es s = none) (i : Nat) : Instr.findNow .string (.string s) (es.map Fl.ent) i = some none := by
  obtain ⟨r, h1, h2⟩ := findNow_ents s es i
  rw [h] at h2
  cases r with
  | none => exact h1
  | some x => cases h2
theorem update28 (w : World) (m ck : Nat) (es : List Fl) (hm : w.heap[m]? = some (.map (es.map Fl.ent).toArray ck)) (s : ByteArray) (hs : named es s = none) (x : Value) :
    (Instr.mapUpdate 28 (.map (some m)) (.string s) x).run Tryz.prog w = .ok () (w.putObj m (.map (es.map Fl.ent ++ [({ key := .string s, val := x, born := ck } : MapEntry)]).toArray (ck + 1))) := by
  have h1 := findNow_new s es hs 0
  simp [Instr.mapUpdate, run_underlying Tryz.underlying28, run_getObj_map w m _ ck hm, run_checkKey w _ 9999, Instr.findKey, run_underlying Tryz.underlying9, h1, run_setObj_map w m _ ck _ hm]

end Go.Proofs.YtmboklllkdlmgaaGreatDoor
