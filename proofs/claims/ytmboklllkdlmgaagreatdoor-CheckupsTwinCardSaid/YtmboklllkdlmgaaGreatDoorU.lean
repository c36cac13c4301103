/-
  Contains of strings where the string is not there, the table of kinds of files, and what is wrong with a file of a strange name. Conditions: helper lemmas.
-/
import Derived.Test.YtmboklllkdlmgaaGreatDoorS
import Derived.Test.YtmboklllkdlmgaaGreatDoorB
import Derived.Lib.Hide
import Derived.Laws.EntriesVeiled
namespace Go.Proofs.YtmboklllkdlmgaaGreatDoor
open Go.RowKit Go.MapKept
set_option maxRecDepth 100000
theorem toList_inj {s x : ByteArray} (h : s.toList = x.toList) : s = x := by
  rw [ByteArray.toList_eq, ByteArray.toList_eq] at h
  exact ByteArray.ext (Array.toList_inj.1 h)
theorem index_no (w : World) (A : Option Addr) (n : Nat) (l : List (List UInt8)) (s : ByteArray) (hl : l.length = n) (hn : n ≤ 1000) (hr : RdA w (.slice A n n) (l.map encStr)) (hs : ∀ x ∈ l, encStr x ≠ .string s) :
    Calls Tryz.prog 66 #[.slice A n n, .string s] w fun e w' => e = .returned (.int .i64 (-1)) ∧ w = w' := by
  go_enter Tryz.func66, Tryz.ntmps66
  go_wp2
  go_loop [8] (fun t => ∃ i : Nat, t = .int .i64 i ∧ i ≤ n) (fun t => n - (intOf t).toNat)
  case atStart => exact ⟨0, rfl, Nat.zero_le _⟩
  case round =>
    obtain ⟨i, rfl, hi⟩ := hrel
    by_cases hlt : i < n
    · obtain ⟨a, x, rfl, hc, hx⟩ : ∃ a x, A = some a ∧ w.cell? (a.add i) = some (.string x) ∧ s ≠ x := by
        have hil : i < l.length := by omega
        rcases hr with ⟨e, _⟩ | ⟨ad, c', e, hle, hb, hc⟩
        · injection e with _ e _
          omega
        · injection e with e _ _
          refine ⟨ad, ⟨l[i].toArray⟩, e, hc i _ (by rw [List.getElem?_map, List.getElem?_eq_getElem hil]; exact rfl), ?_⟩
          intro he
          exact hs _ (List.getElem_mem hil) (by rw [he])
      have hb : (s.toList == x.toList) = false := by
        cases h : (s.toList == x.toList)
        · rfl
        · exact absurd (toList_inj (by simpa using h)) hx
      go_wp2
      go_round
      case rel => exact ⟨i + 1, by go_num, by omega⟩
      case measure => simp [intOf]; omega
    · go_wp2
      go_ret
      exact ⟨rfl, rfl⟩
theorem contains_no (w : World) (A : Option Addr) (n : Nat) (l : List (List UInt8)) (s : ByteArray) (hl : l.length = n) (hn : n ≤ 1000) (hr : RdA w (.slice A n n) (l.map encStr)) (hs : ∀ x ∈ l, encStr x ≠ .string s) :
    Calls Tryz.prog 33 #[.slice A n n, .string s] w fun e w' => e = .returned (.bool false) ∧ w = w' := by
  have HI := Lib.hid (index_no w A n l s hl hn hr hs)
  clear hl hr hs
  go_enter Tryz.func33, Tryz.ntmps33
  go_wp2_with fail
  refine HI.out.mono ?_
  rintro e w' ⟨rfl, rfl⟩
  go_wp2
  go_ret
  exact ⟨rfl, rfl⟩
theorem updS (t e : TypeId) (ht : Tryz.prog.underlying t = some (.map 9 e)) (w : World) (m ck : Nat) (es : Array MapEntry) (hm : w.heap[m]? = some (.map es ck)) (s : ByteArray) (hs : Instr.findNow .string (.string s) es.toList 0 = some none) (x : Value) :
    (Instr.mapUpdate t (.map (some m)) (.string s) x).run Tryz.prog w = .ok () (w.putObj m (.map (es.push ({ key := .string s, val := x, born := ck } : MapEntry)) (ck + 1))) := by
  simp [Instr.mapUpdate, run_underlying ht, run_getObj_map w m _ ck hm, run_checkKey w _ 9999, Instr.findKey, run_underlying Tryz.underlying9, hs, run_setObj_map w m _ ck _ hm]
def kLog : MapEntry := { key := .string ⟨#[108, 111, 103]⟩, val := .agg #[.func (.func 76) #[] #[], .func (.func 79) #[] #[]], born := 0 }
def kShot : MapEntry := { key := .string ⟨#[115, 104, 111, 116]⟩, val := .agg #[.func (.func 80) #[] #[], .func (.func 81) #[] #[]], born := 1 }
def kState : MapEntry := { key := .string ⟨#[115, 116, 97, 116, 101]⟩, val := .agg #[.func (.func 82) #[] #[], .func (.func 79) #[] #[]], born := 2 }
theorem kinds_any (w : World) : Calls Tryz.prog 57 #[] w fun e w' => e = .returned (.map (some w.heap.size)) ∧ w'.heap[w.heap.size]? = some (.map #[kLog, kShot, kState] 3) ∧ Kp [] w w' := by
  have hmm := @run_makeMap Tryz.prog
  have h1 := updS 113 111 Tryz.underlying113 (w.alloc (.map #[] 0)) w.heap.size 0 #[] (heap_new _ _) ⟨#[108, 111, 103]⟩ rfl (.agg #[.func (.func 76) #[] #[], .func (.func 79) #[] #[]])
  have g1 := heap_put (heap_new w (.map #[] 0)) (.map #[kLog] 1)
  have k1 : Kp [] w ((w.alloc (.map #[] 0)).putObj w.heap.size (.map #[kLog] 1)) := (Kp.alloc [] _ _).trans (Kp.putObj (S := [w.heap.size]) _ _ _ (by simp)) (by simp)
  change _ = Result.ok () ((w.alloc (.map #[] 0)).putObj w.heap.size (.map #[kLog] 1)) at h1
  generalize (w.alloc (.map #[] 0)).putObj w.heap.size (.map #[kLog] 1) = W1 at h1 g1 k1
  have h2 := updS 113 111 Tryz.underlying113 W1 w.heap.size 1 #[kLog] g1 ⟨#[115, 104, 111, 116]⟩ rfl (.agg #[.func (.func 80) #[] #[], .func (.func 81) #[] #[]])
  have g2 := heap_put g1 (.map #[kLog, kShot] 2)
  have k2 : Kp [] w (W1.putObj w.heap.size (.map #[kLog, kShot] 2)) := k1.trans (Kp.putObj (S := [w.heap.size]) _ _ _ (by simp)) (by simp)
  change _ = Result.ok () (W1.putObj w.heap.size (.map #[kLog, kShot] 2)) at h2
  generalize W1.putObj w.heap.size (.map #[kLog, kShot] 2) = W2 at h2 g2 k2
  have h3 := updS 113 111 Tryz.underlying113 W2 w.heap.size 2 #[kLog, kShot] g2 ⟨#[115, 116, 97, 116, 101]⟩ rfl (.agg #[.func (.func 82) #[] #[], .func (.func 79) #[] #[]])
  have g3 := heap_put g2 (.map #[kLog, kShot, kState] 3)
  have k3 : Kp [] w (W2.putObj w.heap.size (.map #[kLog, kShot, kState] 3)) := k2.trans (Kp.putObj (S := [w.heap.size]) _ _ _ (by simp)) (by simp)
  change _ = Result.ok () (W2.putObj w.heap.size (.map #[kLog, kShot, kState] 3)) at h3
  generalize W2.putObj w.heap.size (.map #[kLog, kShot, kState] 3) = W3 at h3 g3 k3
  clear g1 k1 g2 k2
  go_enter Tryz.func57, Tryz.ntmps57
  go_wp2
  go_ret
  exact ⟨rfl, g3, k3⟩
theorem lookup113 (w : World) (m ck : Nat) (es : Array MapEntry) (hm : w.heap[m]? = some (.map es ck)) (s : ByteArray) (hs : Instr.findNow .string (.string s) es.toList 0 = some none) :
    (Instr.lookup 113 (.map (some m)) (.string s) true).run Tryz.prog w = .ok (.tuple #[.agg #[.nilFunc, .nilFunc], .bool false]) w := by
  simp [Instr.lookup, run_underlying Tryz.underlying113, run_getObj_map w m _ ck hm, run_checkKey w _ 9999, Instr.findKey, run_underlying Tryz.underlying9, hs]
/-- A file of a strange name: what is wrong with it. -/
theorem file_x (w : World) (v : Value) : Calls Tryz.prog 24 #[.string ⟨#[120]⟩, v] w fun e w' => e = .returned (.agg #[.int .u8 1, .string ⟨#[120]⟩, .int .i64 0]) ∧ Kp [] w w' := by
  go_enter Tryz.func24, Tryz.ntmps24
  go_wp2_with fail
  refine (kinds_any _).mono ?_
  rintro e w1 ⟨rfl, g1, k1⟩
  have h1 := lookup113 w1 (w.heap.size + 1) _ _ (by simpa using g1) ⟨#[120]⟩ (by rfl)
  have r0 := k1.heap (heap_new w _) (by simp)
  have hs1 := lt_of_heap r0
  have c0 : w1.cell? ⟨w.heap.size, 0, none⟩ = some (.int .u8 0) := cell_of_heap r0 0
  have c1 : w1.cell? ⟨w.heap.size, 1, none⟩ = some (.string ⟨#[]⟩) := cell_of_heap r0 1
  have c2 : w1.cell? ⟨w.heap.size, 2, none⟩ = some (.int .i64 0) := cell_of_heap r0 2
  have f0 := frozen_of_heap r0 0
  have f1 := frozen_of_heap r0 1
  have f2 := frozen_of_heap r0 2
  have q1 := heap_old (.cells #[.nilFunc, .nilFunc] 111) (heap_set (heap_set (heap_set r0 0 (.int .u8 1)) 1 (.string ⟨#[120]⟩)) 2 (.int .i64 0))
  have q2 : Kp [w.heap.size] w1 ((((w1.setCell ⟨w.heap.size, 0, none⟩ (.int .u8 1)).setCell ⟨w.heap.size, 1, none⟩ (.string ⟨#[120]⟩)).setCell ⟨w.heap.size, 2, none⟩ (.int .i64 0)).alloc (.cells #[.nilFunc, .nilFunc] 111)) :=
    (((Kp.setCell _ _ (by simp) _).trans (Kp.setCell (S := [w.heap.size]) _ _ (by simp) _) (by simp)).trans (Kp.setCell (S := [w.heap.size]) _ _ (by simp) _) (by simp)).trans (Kp.alloc [] _ _) (by simp)
  have q3 := ((Kp.alloc [] w (.cells #[.int .u8 0, .string ⟨#[]⟩, .int .i64 0] 66)).trans k1 (by simp)).trans q2 (by simp)
  clear g1 r0 q2 k1
  go_wp2
  generalize (((w1.setCell ⟨w.heap.size, 0, none⟩ (.int .u8 1)).setCell ⟨w.heap.size, 1, none⟩ (.string ⟨#[120]⟩)).setCell ⟨w.heap.size, 2, none⟩ (.int .i64 0)).alloc (.cells #[.nilFunc, .nilFunc] 111) = W at q1 q3 ⊢
  have e0 : W.cell? ⟨w.heap.size, 0, none⟩ = some (.int .u8 1) := cell_of_heap q1 0
  have e1 : W.cell? ⟨w.heap.size, 1, none⟩ = some (.string ⟨#[120]⟩) := cell_of_heap q1 1
  have e2 : W.cell? ⟨w.heap.size, 2, none⟩ = some (.int .i64 0) := cell_of_heap q1 2
  exact bodyPost_ret (v := .agg #[.int .u8 1, .string ⟨#[120]⟩, .int .i64 0]) (by simp [results, Tryz.results24, go_sem, e0, e1, e2]) rfl ⟨rfl, q3⟩
end Go.Proofs.YtmboklllkdlmgaaGreatDoor
