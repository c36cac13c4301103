/-
  Drop of the one file of a disk, walked. Conditions: a disk that may do without end.
-/
import Derived.Test.YtmboklllkdlmgaaGreatDoorV
import Derived.Deep.RegionWith
namespace Go.Proofs.YtmboklllkdlmgaaGreatDoor
open Go.RowKit Go.MapKept
set_option maxRecDepth 100000
theorem delete28_one (w : World) (m ck : Nat) (f : Fl) (hm : w.heap[m]? = some (.map ([f].map Fl.ent).toArray ck)) (ty : TypeId) :
    (Builtin.delete_ #[28, 9] ty #[.map (some m), .string f.name]).run Tryz.prog w = .ok (.tuple #[]) (w.putObj m (.map #[] ck)) := by
  have hb : (f.name == f.name) = true := (bytes_beq _ _).2 rfl
  have h1 : Instr.findNow .string (.string f.name) ([f].map Fl.ent) 0 = some (some (0, .pointer (some ⟨f.fb, 0, none⟩))) := by
    simp [Instr.findNow, Fl.ent, Instr.sameNow, hb]
  simp only [List.map] at h1 hm
  simp [Builtin.delete_, run_underlying Tryz.underlying28, run_getObj_map w m _ ck hm, run_checkKey w _ 9999, Instr.findKey, run_underlying Tryz.underlying9, h1, run_setObj_map w m _ ck _ hm]
set_option maxHeartbeats 400000 in
theorem drop1_x (w : World) (d m ck bx : Nat) (f : Fl) (h : Dk w d m ck [f] (-1) false) (B : w.heap[bx]? = some (.cells #[.pointer (some ⟨d, 0, none⟩)] 31 (0, 0))) :
    Calls Tryz.prog 69 #[.pointer (some ⟨f.fb, 0, none⟩), .pointer (some ⟨bx, 0, none⟩)] w fun e w' => e = .returned (.tuple #[]) ∧ w'.heap[m]? = some (.map #[] ck) ∧ Kp [m] w w' := by
  have b0 := cell_of_heap B 0
  have c0 := h.c0
  have F := h.hf f (by simp)
  have f0 := cell_of_heap F 2
  have hdel := fun (W : World) (hk : Kp [] w W) => delete28_one W m ck f (hk.heap h.hm (by simp)) 0
  have hk1 := hdel _ (Kp.drew _ _)
  go_enter Tryz.func69, Tryz.ntmps69
  go_region
  go_end0
  exact ⟨rfl, heap_put (w := w.drew) h.hm _, (Kp.drew [m] w).trans (Kp.putObj (S := [m]) _ _ _ (by simp)) (by simp)⟩
theorem Dk.none {w w' : World} {d m ck : Nat} {fs : List Fl} {fuse : Int} {dead : Bool} (h : Dk w d m ck fs fuse dead) (k : Kp [m] w w') (hm : w'.heap[m]? = some (.map #[] ck)) : Dk w' d m ck [] fuse dead := by
  refine ⟨k.heap h.hd ?_, by simpa using hm, by simp, by simp, by simp, by simp, by simp, by simp⟩
  intro hx
  exact ne_of_heap h.hd h.hm (by simp) (List.mem_singleton.1 hx)
set_option maxHeartbeats 400000 in
theorem drop_x (w : World) (d m ck : Nat) (f : Fl) (h : Dk w d m ck [f] (-1) false) (hf : f.name = ⟨#[120]⟩) :
    Calls Tryz.prog 37 #[.pointer (some ⟨d, 0, none⟩), .string ⟨#[120]⟩] w fun e w' => e = .returned (.int .i64 0) ∧ Dk w' d m ck [] (-1) false ∧ Kp [m] w w' := by
  have h' : Dk (w.alloc (.cells #[.pointer (some ⟨d, 0, none⟩)] 31)) d m ck [f] (-1) false := h.keep0 (Kp.alloc [] _ _)
  have c0 := h'.c0
  have c1 := h'.c1
  have c2 := h'.c2
  have hlk := lookup28 _ m ck [f] h'.hm ⟨#[120]⟩
  have hnm : named [f] ⟨#[120]⟩ = some f := by rw [← hf]; exact named_mem (by simp) (by simp)
  rw [hnm] at hlk
  simp only [fval] at hlk
  have HB := Lib.hid (heap_new w (.cells #[.pointer (some ⟨d, 0, none⟩)] 31))
  have H' := Lib.hid h'
  have HF := Lib.hid hf
  clear hf h' hnm
  go_enter Tryz.func37, Tryz.ntmps37
  go_wp2_with (first | (go_at_call 54; refine (asked_ok _ d m ck [f] (-1) H'.out ⟨#[120]⟩ (notEmpty (by decide)) (by decide)).mono ?_; rintro e w' ⟨rfl, rfl⟩) | (go_at_call 42; go_in) | (go_at_call 72; go_in))
  refine (drop1_x _ d m ck w.heap.size f H'.out HB.out).mono ?_
  rintro e w1 ⟨rfl, hm1, hk1⟩
  have hD := Lib.hid (H'.out.none hk1 hm1)
  go_wp2
  go_ret
  exact ⟨rfl, hD.out, ((Kp.alloc [] w _).mono (T := [m]) (by simp)).trans hk1 (fun x hx => .inl hx)⟩
end Go.Proofs.YtmboklllkdlmgaaGreatDoor
