/-
  Add, walked: a name that does not do, a limit, a new file, a file that grows. Conditions: a disk that may do without end, its files' slices rows of their own; helper lemmas.
-/
import Derived.Test.YtmboklllkdlmgaaGreatDoorCA
namespace Go.Proofs.YtmboklllkdlmgaaGreatDoor
open Go.RowKit Go.MapKept
set_option maxRecDepth 100000
/-- A disk that may do without end, each file's bytes a row of its own. -/
structure Dw (base : Nat) (w : World) (d m ck : Nat) (fs : List Fl) : Prop where
  dk : Dk w d m ck fs (-1) false
  lo : base ≤ w.heap.size
  ow : ∀ f ∈ fs, w.ownsRow base 5 1 f.v f.zs.length (byt f.zs)
  ds : fs.Pairwise (fun f g => ∀ x, f.v.ownBlock = some x → g.v.ownBlock ≠ some x)
theorem asked_arg (w : World) (d m ck : Nat) (fs : List Fl) (fuse : Int) (h : Dk w d m ck fs fuse false) (s : ByteArray) (hs : s.size = 0 ∨ 16 < s.size) :
    Calls Tryz.prog 54 #[.pointer (some ⟨d, 0, none⟩), .string s] w fun e w' => e = .returned (.int .i64 1) ∧ w = w' := by
  have c0 := h.c0
  have c2 := h.c2
  by_cases h0 : s.size = 0
  · have he : s.toList.isEmpty = true := by
      rw [ByteArray.toList_eq, List.isEmpty_iff]
      exact List.eq_nil_of_length_eq_zero (by simpa using h0)
    clear hs h0
    go_enter Tryz.func54, Tryz.ntmps54
    go_wp2_with (go_at_call 41; go_in)
    go_ret
    exact ⟨rfl, rfl⟩
  · have h16 : (16 : Int) < (s.size : Int) := by omega
    have he := notEmpty (s := s) (by omega)
    clear hs h0
    go_enter Tryz.func54, Tryz.ntmps54
    go_wp2_with (go_at_call 41; go_in)
    go_ret
    exact ⟨rfl, rfl⟩
theorem size_any (w : World) (d m ck : Nat) (fs : List Fl) (fuse : Int) (dead : Bool) (h : Dk w d m ck fs fuse dead) (s : ByteArray) :
    Calls Tryz.prog 46 #[.pointer (some ⟨d, 0, none⟩), .string s] w fun e w' => e = .returned (.int .i64 (((named fs s).map (fun f => f.zs.length)).getD 0 : Nat)) ∧ w = w' := by
  have c0 := h.c0
  have hlk := lookup28 w m ck fs h.hm s
  cases hn : named fs s with
  | none =>
    rw [hn] at hlk
    simp only [fval] at hlk
    clear hn
    go_enter Tryz.func46, Tryz.ntmps46
    go_wp2_with (go_at_call 41; refine (there_ok w d m ck fs fuse dead h).mono ?_; rintro e w' ⟨rfl, rfl⟩)
    go_ret
    exact ⟨rfl, rfl⟩
  | some f =>
    rw [hn] at hlk
    simp only [fval] at hlk
    have hf := (named_some hn).1
    have f0 := cell_of_heap (h.hf f hf) 0
    obtain ⟨A, c, hv⟩ : ∃ A c, f.v = .slice A f.zs.length c := by
      rcases h.hr f hf with ⟨e, e2⟩ | ⟨ad, c, e, _⟩
      · have : f.zs = [] := by simpa [byt] using e2
        exact ⟨none, 0, by rw [e, this]; rfl⟩
      · exact ⟨some ad, c, by rw [e, byt_len]⟩
    simp at f0
    rw [hv] at f0
    clear hn hv hf
    go_enter Tryz.func46, Tryz.ntmps46
    go_wp2_with (go_at_call 41; refine (there_ok w d m ck fs fuse dead h).mono ?_; rintro e w' ⟨rfl, rfl⟩)
    go_ret
    exact ⟨rfl, rfl⟩
/-- Do, where the name does not do. -/
theorem does_arg (w : World) (d m ck : Nat) (fs : List Fl) (h : Dk w d m ck fs (-1) false) (s : ByteArray) (hs : s.size = 0 ∨ 16 < s.size) (z : Int) (fv : Value) :
    Calls Tryz.prog 42 #[.pointer (some ⟨d, 0, none⟩), .string s, .int .i64 z, .bool true, fv] w fun e w' => e = .returned (.int .i64 1) ∧ w = w' := by
  have HA := Lib.hid (asked_arg w d m ck fs (-1) h s hs)
  clear h hs
  go_enter Tryz.func42, Tryz.ntmps42
  go_wp2_with fail
  refine HA.out.mono ?_
  rintro e w' ⟨rfl, rfl⟩
  go_wp2
  go_ret
  exact ⟨rfl, rfl⟩
/-- .. where there are as many files as may be. -/
theorem does_full (w : World) (d m ck n : Nat) (fs : List Fl) (h : Dk w d m ck fs (-1) false) (s : ByteArray) (h0 : 0 < s.size) (hl : s.size ≤ 16) (hn : named fs s = none) (hfn : fs.length = n) (hfs : 16 ≤ n) (z : Int) (hz : z ≤ 1048576) (fv : Value) :
    Calls Tryz.prog 42 #[.pointer (some ⟨d, 0, none⟩), .string s, .int .i64 z, .bool true, fv] w fun e w' => e = .returned (.int .i64 3) ∧ w = w' := by
  have c0 := h.c0
  have hlk := lookup28 w m ck fs h.hm s
  rw [hn] at hlk
  simp only [fval] at hlk
  have hlen := len28 w m ck _ h.hm 3
  simp only [List.size_toArray, List.length_map, hfn] at hlen
  have hz1 : ¬ ((1048576 : Int) < z) := by omega
  have h16 : (16 : Int) ≤ (n : Int) := by omega
  have HA := Lib.hid (asked_ok w d m ck fs (-1) h s (notEmpty h0) hl)
  clear h h0 hl hn hfn hfs hz
  go_enter Tryz.func42, Tryz.ntmps42
  go_wp2_with (go_at_call 54; refine HA.out.mono ?_; rintro e w' ⟨rfl, rfl⟩)
  go_ret
  exact ⟨rfl, rfl⟩
/-- One file of the list has grown. -/
def grownF (s : ByteArray) (v : Value) (bs : List Int) (f : Fl) : Fl := if f.name = s then { f with v := v, zs := f.zs ++ bs } else f
set_option maxHeartbeats 400000 in
/-- .. where the file is there. -/
theorem does_grow (w : World) (base d m ck bx k : Nat) (fs : List Fl) (h : Dw base w d m ck fs) (s : ByteArray) (h0 : 0 < s.size) (hl : s.size ≤ 16) (f : Fl) (hn : named fs s = some f) (z : Int) (hz : z ≤ 1048576)
    (bv : Value) (bs : List Int) (B : w.heap[bx]? = some (.cells #[bv] 22 (0, 0))) (hr : RdG 1 w bv k (byt bs)) (hk : f.zs.length + k ≤ 1048576) :
    Calls Tryz.prog 42 #[.pointer (some ⟨d, 0, none⟩), .string s, .int .i64 z, .bool true, .func (.func 47) #[] #[.pointer (some ⟨bx, 0, none⟩)]] w fun e w' => e = .returned (.int .i64 0) ∧
      ∃ v', w'.heap[f.fb]? = some (.cells #[v', .int .i64 f.sure, .string f.name] 100 (0, 0)) ∧ w'.ownsRow base 5 1 v' (f.zs.length + k) (byt (f.zs ++ bs)) ∧
      (v'.ownBlock = f.v.ownBlock ∨ v'.ownBlock = some w.heap.size) ∧ Kp (f.fb :: f.v.ownBlock.toList) w w' := by
  have c0 := h.dk.c0
  have c1 := h.dk.c1
  have hlk := lookup28 w m ck fs h.dk.hm s
  have hf := (named_some hn).1
  rw [hn] at hlk
  simp only [fval] at hlk
  have hz1 : ¬ ((1048576 : Int) < z) := by omega
  have HA := Lib.hid (asked_ok w d m ck fs (-1) h.dk s (notEmpty h0) hl)
  have HF := Lib.hid (addfn_any w f.fb bx base f.v _ _ f.zs bs f.zs.length k (h.dk.hf f hf) (h.ow f hf) bv B hr hk h.lo)
  clear h h0 hl hn hz B hr hf
  go_enter Tryz.func42, Tryz.ntmps42
  go_wp2_with (first | (go_at_call 54; refine HA.out.mono ?_; rintro e w' ⟨rfl, rfl⟩) | (go_at_call 72; go_in))
  refine HF.out.mono ?_
  rintro e w1 ⟨rfl, v', h1⟩
  have H1 := Lib.hid h1
  clear h1
  go_wp2
  go_ret
  exact ⟨rfl, v', H1.out⟩
theorem RdG.map_put {size k : Nat} {w w' : World} {v : Value} {xs : List Value} {m ck : Nat} {es : Array MapEntry} (h : RdG size w v k xs) (kp : Kp [m] w w') (hm : w.heap[m]? = some (.map es ck)) : RdG size w' v k xs := by
  obtain ⟨A, c, rfl, hl, h0, hc⟩ := h
  refine ⟨A, c, rfl, hl, h0, fun ad e j u hu => ?_⟩
  have h1 := hc ad e j u hu
  have hb := World.block_lt_of_cell? _ _ h1
  refine (kp.cell (p := ad.add j) hb ?_).trans h1
  intro hx
  have hx' : (ad.add j).block = m := List.mem_singleton.1 hx
  simp [World.cell?, hx', hm] at h1
set_option maxHeartbeats 400000 in
/-- .. where the file is new. -/
theorem does_add_new (w : World) (base d m ck bx k n : Nat) (fs : List Fl) (h : Dw base w d m ck fs) (s : ByteArray) (h0 : 0 < s.size) (hl : s.size ≤ 16) (hn : named fs s = none) (hfn : fs.length = n) (hfs : n < 16) (z : Int) (hz : z ≤ 1048576)
    (bv : Value) (bs : List Int) (B : w.heap[bx]? = some (.cells #[bv] 22 (0, 0))) (hr : RdG 1 w bv k (byt bs)) (hk : k ≤ 1048576) :
    Calls Tryz.prog 42 #[.pointer (some ⟨d, 0, none⟩), .string s, .int .i64 z, .bool true, .func (.func 47) #[] #[.pointer (some ⟨bx, 0, none⟩)]] w fun e w' => e = .returned (.int .i64 0) ∧
      ∃ v', w'.heap[w.heap.size]? = some (.cells #[v', .int .i64 0, .string s] 100 (0, 0)) ∧ w'.ownsRow base 5 1 v' k (byt bs) ∧ (v'.ownBlock = none ∨ ∃ b, v'.ownBlock = some b ∧ w.heap.size < b) ∧
      w'.heap[m]? = some (.map (fs.map Fl.ent ++ [({ key := .string s, val := .pointer (some ⟨w.heap.size, 0, none⟩), born := ck } : MapEntry)]).toArray (ck + 1)) ∧ Kp [m] w w' := by
  have c0 := h.dk.c0
  have c1 := h.dk.c1
  have hlt := h.dk.lt
  have hlk := lookup28 w m ck fs h.dk.hm s
  rw [hn] at hlk
  simp only [fval] at hlk
  have hlen := len28 w m ck _ h.dk.hm 3
  simp only [List.size_toArray, List.length_map, hfn] at hlen
  have hz1 : ¬ ((1048576 : Int) < z) := by omega
  have h16 : ¬ ((16 : Int) ≤ (n : Int)) := by omega
  have HA := Lib.hid (asked_ok w d m ck fs (-1) h.dk s (notEmpty h0) hl)
  have ka := Kp.alloc [] w (.cells #[.slice none 0 0, .int .i64 0, .string s] 100)
  have hup := update28 _ m ck fs (ka.heap h.dk.hm (by simp)) s hn (.pointer (some ⟨w.heap.size, 0, none⟩))
  have hk2 : Kp [m] w ((w.alloc (.cells #[.slice none 0 0, .int .i64 0, .string s] 100)).putObj m (.map (fs.map Fl.ent ++ [({ key := .string s, val := .pointer (some ⟨w.heap.size, 0, none⟩), born := ck } : MapEntry)]).toArray (ck + 1))) :=
    (Kp.alloc [m] w _).trans (Kp.putObj _ m _ (by simp : m ∈ [m])) (by simp)
  have hml := lt_of_heap h.dk.hm
  have hf2 := heap_put_far (heap_new w (.cells #[.slice none 0 0, .int .i64 0, .string s] 100)) (r := m) (by omega) (.map (fs.map Fl.ent ++ [({ key := .string s, val := .pointer (some ⟨w.heap.size, 0, none⟩), born := ck } : MapEntry)]).toArray (ck + 1))
  have hm2 := heap_put (heap_old (.cells #[.slice none 0 0, .int .i64 0, .string s] 100) h.dk.hm) (.map (fs.map Fl.ent ++ [({ key := .string s, val := .pointer (some ⟨w.heap.size, 0, none⟩), born := ck } : MapEntry)]).toArray (ck + 1))
  have hB2 := hk2.heap B (fun hx => ne_of_heap B h.dk.hm (by simp) (List.mem_singleton.1 hx))
  have HM2 := Lib.hid hm2
  have HK2 := Lib.hid hk2
  have hs2 := hk2.size
  have HL2 := Lib.hid (lt_of_heap hf2)
  have HF := Lib.hid (addfn_any _ w.heap.size bx base (.slice none 0 0) _ _ [] bs 0 k hf2 (World.ownsRow_nil _ _ _ _) bv hB2 (hr.map_put hk2 h.dk.hm) (by omega) (Nat.le_trans h.lo hs2))
  clear h h0 hl hn hz B hr hfn hfs ka hk2 hf2 hm2 hB2 hs2
  go_enter Tryz.func42, Tryz.ntmps42
  go_wp2_with (first | (go_at_call 54; refine HA.out.mono ?_; rintro e w' ⟨rfl, rfl⟩) | (go_at_call 72; go_in))
  refine HF.out.mono ?_
  rintro e w1 ⟨rfl, v', h1, h2, h3, h4⟩
  have h4' : Kp [w.heap.size] _ w1 := h4.mono (by simp [Value.ownBlock])
  have H1 := Lib.hid h1
  have H2 := Lib.hid h2
  have H3 := Lib.hid h3
  have H4 := Lib.hid h4'
  clear h1 h2 h3 h4 h4'
  go_wp2
  go_ret
  refine ⟨rfl, v', H1.out, by simpa using H2.out, ?_, H4.out.heap HM2.out (by simp; omega), HK2.out.trans H4.out (by simp)⟩
  rcases H3.out with e | e
  · exact .inl e
  · exact .inr ⟨_, e, HL2.out⟩
end Go.Proofs.YtmboklllkdlmgaaGreatDoor
