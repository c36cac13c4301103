/-
  Look at a disk that has no file but one named x, walked: the report. Conditions: the table of sums holds numbers.
-/
import Derived.Test.YtmboklllkdlmgaaGreatDoorT
import Derived.Test.YtmboklllkdlmgaaGreatDoorU
import Derived.Test.YtmboklllkdlmgaaGreatDoorQ
import Derived.WalkMore
namespace Go.Proofs.YtmboklllkdlmgaaGreatDoor
open Go.RowKit Go.MapKept
set_option maxRecDepth 100000
@[go_sem] theorem field77 (w : World) : (Instr.field 77 (.agg #[.int .u64 0, .int .u64 0, .slice none 0 0]) 0).run Tryz.prog w = .ok (.int .u64 0) w := by kernel_rfl
theorem clip33 (w : World) (A : Option Addr) (n c : Nat) (hc : n ≤ c) :
    Calls Tryz.prog 35 #[.slice A n c] w fun e w' => e = .returned (.slice A n n) ∧ w = w' := by
  go_enter Tryz.func35, Tryz.ntmps35
  go_wp2
  go_ret
  exact ⟨rfl, rfl⟩
theorem info66 : (Tryz.prog.info? 66).map (fun i => (i.zero, i.size, i.bytes)) = some (some (.agg #[.int .u8 0, .string ⟨#[]⟩, .int .i64 0]), 3, 32) := by kernel_rfl
/-- The findings of so many strange files. -/
def finds : Nat → List Value
  | 0 => []
  | n + 1 => finds n ++ [.int .u8 1, .string ⟨#[120]⟩, .int .i64 0]
theorem finds_len : ∀ n, (finds n).length = n * 3
  | 0 => rfl
  | n + 1 => by rw [finds, List.length_append, finds_len n]; simp; omega
theorem named_x {fs : List Fl} (hx : ∀ f ∈ fs, f.name = ⟨#[120]⟩) {s : ByteArray} (hs : s ≠ ⟨#[120]⟩) : named fs s = none := named_no fun f hf e => hs (by rw [← e, hx f hf])
theorem bare_x {fs : List Fl} (hx : ∀ f ∈ fs, f.name = ⟨#[120]⟩) : Bare fs := ⟨named_x hx (by decide), named_x hx (by decide), named_x hx (by decide)⟩
theorem twin_x {fs fs2 : List Fl} (ht : TwinOf fs fs2) (hx : ∀ f ∈ fs, f.name = ⟨#[120]⟩) : (∀ f ∈ fs2, f.name = ⟨#[120]⟩) ∧ fs2.length = fs.length := by
  refine ⟨fun g hg => ?_, ?_⟩
  · obtain ⟨_, f, hf, e, _⟩ := ht.2 g hg
    rw [← e, hx f hf]
  · have := congrArg List.length ht.1
    simpa [sorted_len] using this
def repAt (w : World) (r : Nat) (v : Value) : Prop := w.heap[r]? = some (.cells #[v, .int .u64 0, .int .u8 0, .int .u64 0, .int .u64 0, .int .u64 0, .bool false] 36 (0, 0))
/-- The report under way: its cells, its findings. -/
structure Rep (w : World) (b : Nat) (W : World) (v : Value) (n : Nat) : Prop where
  rep : repAt W w.heap.size v
  lo : w.heap.size + 1 ≤ b
  own : W.ownsRow b 66 3 v n (finds n)
  kp : Kp [] w W
theorem Rep.keep {w W W' : World} {b : Nat} {v : Value} {n : Nat} (h : Rep w b W v n) (k : Kp [] W W') : Rep w b W' v n :=
  ⟨k.heap h.rep (by simp), h.lo, h.own.kept (row := none) ⟨k.os, k.tape, k.output, k.size, fun i hi _ => k.block i hi (by simp)⟩ (by cases v.ownBlock <;> simp), h.kp.trans k (by simp)⟩
theorem Rep.set {w W : World} {b : Nat} {v : Value} {n : Nat} (h : Rep w b W v n) (i : Nat) (u : Value) (hu : (#[v, .int .u64 0, .int .u8 0, .int .u64 0, .int .u64 0, .int .u64 0, .bool false] : Array Value).setIfInBounds i u = #[v, .int .u64 0, .int .u8 0, .int .u64 0, .int .u64 0, .int .u64 0, .bool false]) :
    Rep w b (W.setCell ⟨w.heap.size, i, none⟩ u) v n := by
  refine ⟨?_, h.lo, ownsRow_setCell_below h.own (by have := h.lo; show w.heap.size < b; omega) _, h.kp.trans (Kp.setCell (S := [w.heap.size]) _ _ (by simp) _) (by simp)⟩
  have := heap_set h.rep i u
  rw [hu] at this
  exact this
/-- .. and the list of names, still to be read. -/
structure RepN (w : World) (b : Nat) (W : World) (v : Value) (n : Nat) (nv : Value) (xs : List Value) : Prop where
  r : Rep w b W v n
  nm : RdA W nv xs
  ne : ∀ ad n c, nv = .slice (some ad) n c → ad.block ∉ [w.heap.size]
theorem RepN.rep {w W : World} {b n : Nat} {v nv : Value} {xs : List Value} (h : RepN w b W v n nv xs) : repAt W w.heap.size v := h.r.rep
theorem RepN.kp {w W : World} {b n : Nat} {v nv : Value} {xs : List Value} (h : RepN w b W v n nv xs) : Kp [] w W := h.r.kp
theorem RepN.keep {w W W' : World} {b n : Nat} {v nv : Value} {xs : List Value} (h : RepN w b W v n nv xs) (k : Kp [] W W') : RepN w b W' v n nv xs :=
  ⟨h.r.keep k, h.nm.kp k (by simp), h.ne⟩
theorem RepN.set {w W : World} {b n : Nat} {v nv : Value} {xs : List Value} (h : RepN w b W v n nv xs) (i : Nat) (u : Value) (hu : (#[v, .int .u64 0, .int .u8 0, .int .u64 0, .int .u64 0, .int .u64 0, .bool false] : Array Value).setIfInBounds i u = #[v, .int .u64 0, .int .u8 0, .int .u64 0, .int .u64 0, .int .u64 0, .bool false]) :
    RepN w b (W.setCell ⟨w.heap.size, i, none⟩ u) v n nv xs :=
  ⟨h.r.set i u hu, h.nm.kp (Kp.setCell (S := [w.heap.size]) _ _ (by simp) _) h.ne, h.ne⟩
theorem Kp.put {w W : World} (h : Kp [] w W) (i : Nat) (u : Value) : Kp [] w (W.setCell ⟨w.heap.size, i, none⟩ u) := h.trans (Kp.setCell (S := [w.heap.size]) _ _ (by simp) _) (by simp)
theorem own_set {W : World} {b R n : Nat} {v : Value} {xs : List Value} (h : W.ownsRow b 66 3 v n xs) (hb : R < b) (i : Nat) (u : Value) : (W.setCell ⟨R, i, none⟩ u).ownsRow b 66 3 v n xs := ownsRow_setCell_below h hb u
theorem own_base {W : World} {b b' n : Nat} {v : Value} {xs : List Value} (h : W.ownsRow b 66 3 v n xs) (hb : b' ≤ b) : W.ownsRow b' 66 3 v n xs := by
  refine ⟨h.1, ?_⟩
  rcases h.2 with h | ⟨g, cap, cur, e, h1, h2⟩
  · exact .inl h
  · exact .inr ⟨g, cap, cur, e, Nat.le_trans hb h1, h2⟩
/-- The report's last stores. -/
theorem rep_end {w W : World} {b i cc : Nat} {A0 : Option Addr} (h : Rep w b W (.slice A0 i cc) i) : ∃ W', W' = (((((((((W.setCell ⟨w.heap.size, 0, none⟩ (.slice A0 i i)).setCell ⟨w.heap.size, 6, none⟩ (.bool true)).setCell ⟨w.heap.size, 0, none⟩ (.slice A0 i i)).setCell ⟨w.heap.size, 1, none⟩ (.int .u64 0)).setCell ⟨w.heap.size, 2, none⟩ (.int .u8 0)).setCell ⟨w.heap.size, 3, none⟩ (.int .u64 0)).setCell ⟨w.heap.size, 4, none⟩ (.int .u64 0)).setCell ⟨w.heap.size, 5, none⟩ (.int .u64 0)).setCell ⟨w.heap.size, 6, none⟩ (.bool true)) ∧ W'.heap[w.heap.size]? = some (.cells #[.slice A0 i i, .int .u64 0, .int .u8 0, .int .u64 0, .int .u64 0, .int .u64 0, .bool true] 36 (0, 0)) ∧ W'.ownsRow b 66 3 (.slice A0 i cc) i (finds i) ∧ Kp [] w W' := by
  have hb : w.heap.size < b := h.lo
  have z0 := h.rep
  have k0 := h.kp
  have o0 := h.own
  have z1 : (W.setCell ⟨w.heap.size, 0, none⟩ (.slice A0 i i)).heap[w.heap.size]? = some (.cells #[.slice A0 i i, .int .u64 0, .int .u8 0, .int .u64 0, .int .u64 0, .int .u64 0, .bool false] 36 (0, 0)) := heap_set z0 0 (.slice A0 i i)
  have k1 := k0.put 0 (.slice A0 i i)
  have o1 := own_set o0 hb 0 (.slice A0 i i)
  have z2 : ((W.setCell ⟨w.heap.size, 0, none⟩ (.slice A0 i i)).setCell ⟨w.heap.size, 6, none⟩ (.bool true)).heap[w.heap.size]? = some (.cells #[.slice A0 i i, .int .u64 0, .int .u8 0, .int .u64 0, .int .u64 0, .int .u64 0, .bool true] 36 (0, 0)) := heap_set z1 6 (.bool true)
  have k2 := k1.put 6 (.bool true)
  have o2 := own_set o1 hb 6 (.bool true)
  have z3 : (((W.setCell ⟨w.heap.size, 0, none⟩ (.slice A0 i i)).setCell ⟨w.heap.size, 6, none⟩ (.bool true)).setCell ⟨w.heap.size, 0, none⟩ (.slice A0 i i)).heap[w.heap.size]? = some (.cells #[.slice A0 i i, .int .u64 0, .int .u8 0, .int .u64 0, .int .u64 0, .int .u64 0, .bool true] 36 (0, 0)) := heap_set z2 0 (.slice A0 i i)
  have k3 := k2.put 0 (.slice A0 i i)
  have o3 := own_set o2 hb 0 (.slice A0 i i)
  have z4 : ((((W.setCell ⟨w.heap.size, 0, none⟩ (.slice A0 i i)).setCell ⟨w.heap.size, 6, none⟩ (.bool true)).setCell ⟨w.heap.size, 0, none⟩ (.slice A0 i i)).setCell ⟨w.heap.size, 1, none⟩ (.int .u64 0)).heap[w.heap.size]? = some (.cells #[.slice A0 i i, .int .u64 0, .int .u8 0, .int .u64 0, .int .u64 0, .int .u64 0, .bool true] 36 (0, 0)) := heap_set z3 1 (.int .u64 0)
  have k4 := k3.put 1 (.int .u64 0)
  have o4 := own_set o3 hb 1 (.int .u64 0)
  have z5 : (((((W.setCell ⟨w.heap.size, 0, none⟩ (.slice A0 i i)).setCell ⟨w.heap.size, 6, none⟩ (.bool true)).setCell ⟨w.heap.size, 0, none⟩ (.slice A0 i i)).setCell ⟨w.heap.size, 1, none⟩ (.int .u64 0)).setCell ⟨w.heap.size, 2, none⟩ (.int .u8 0)).heap[w.heap.size]? = some (.cells #[.slice A0 i i, .int .u64 0, .int .u8 0, .int .u64 0, .int .u64 0, .int .u64 0, .bool true] 36 (0, 0)) := heap_set z4 2 (.int .u8 0)
  have k5 := k4.put 2 (.int .u8 0)
  have o5 := own_set o4 hb 2 (.int .u8 0)
  have z6 : ((((((W.setCell ⟨w.heap.size, 0, none⟩ (.slice A0 i i)).setCell ⟨w.heap.size, 6, none⟩ (.bool true)).setCell ⟨w.heap.size, 0, none⟩ (.slice A0 i i)).setCell ⟨w.heap.size, 1, none⟩ (.int .u64 0)).setCell ⟨w.heap.size, 2, none⟩ (.int .u8 0)).setCell ⟨w.heap.size, 3, none⟩ (.int .u64 0)).heap[w.heap.size]? = some (.cells #[.slice A0 i i, .int .u64 0, .int .u8 0, .int .u64 0, .int .u64 0, .int .u64 0, .bool true] 36 (0, 0)) := heap_set z5 3 (.int .u64 0)
  have k6 := k5.put 3 (.int .u64 0)
  have o6 := own_set o5 hb 3 (.int .u64 0)
  have z7 : (((((((W.setCell ⟨w.heap.size, 0, none⟩ (.slice A0 i i)).setCell ⟨w.heap.size, 6, none⟩ (.bool true)).setCell ⟨w.heap.size, 0, none⟩ (.slice A0 i i)).setCell ⟨w.heap.size, 1, none⟩ (.int .u64 0)).setCell ⟨w.heap.size, 2, none⟩ (.int .u8 0)).setCell ⟨w.heap.size, 3, none⟩ (.int .u64 0)).setCell ⟨w.heap.size, 4, none⟩ (.int .u64 0)).heap[w.heap.size]? = some (.cells #[.slice A0 i i, .int .u64 0, .int .u8 0, .int .u64 0, .int .u64 0, .int .u64 0, .bool true] 36 (0, 0)) := heap_set z6 4 (.int .u64 0)
  have k7 := k6.put 4 (.int .u64 0)
  have o7 := own_set o6 hb 4 (.int .u64 0)
  have z8 : ((((((((W.setCell ⟨w.heap.size, 0, none⟩ (.slice A0 i i)).setCell ⟨w.heap.size, 6, none⟩ (.bool true)).setCell ⟨w.heap.size, 0, none⟩ (.slice A0 i i)).setCell ⟨w.heap.size, 1, none⟩ (.int .u64 0)).setCell ⟨w.heap.size, 2, none⟩ (.int .u8 0)).setCell ⟨w.heap.size, 3, none⟩ (.int .u64 0)).setCell ⟨w.heap.size, 4, none⟩ (.int .u64 0)).setCell ⟨w.heap.size, 5, none⟩ (.int .u64 0)).heap[w.heap.size]? = some (.cells #[.slice A0 i i, .int .u64 0, .int .u8 0, .int .u64 0, .int .u64 0, .int .u64 0, .bool true] 36 (0, 0)) := heap_set z7 5 (.int .u64 0)
  have k8 := k7.put 5 (.int .u64 0)
  have o8 := own_set o7 hb 5 (.int .u64 0)
  have z9 : (((((((((W.setCell ⟨w.heap.size, 0, none⟩ (.slice A0 i i)).setCell ⟨w.heap.size, 6, none⟩ (.bool true)).setCell ⟨w.heap.size, 0, none⟩ (.slice A0 i i)).setCell ⟨w.heap.size, 1, none⟩ (.int .u64 0)).setCell ⟨w.heap.size, 2, none⟩ (.int .u8 0)).setCell ⟨w.heap.size, 3, none⟩ (.int .u64 0)).setCell ⟨w.heap.size, 4, none⟩ (.int .u64 0)).setCell ⟨w.heap.size, 5, none⟩ (.int .u64 0)).setCell ⟨w.heap.size, 6, none⟩ (.bool true)).heap[w.heap.size]? = some (.cells #[.slice A0 i i, .int .u64 0, .int .u8 0, .int .u64 0, .int .u64 0, .int .u64 0, .bool true] 36 (0, 0)) := heap_set z8 6 (.bool true)
  have k9 := k8.put 6 (.bool true)
  have o9 := own_set o8 hb 6 (.bool true)
  exact ⟨_, rfl, z9, o9, k9⟩
structure Looking (w w2 wr : World) (i : Nat) (v : Value) : Prop where
  rep : Rep w w2.heap.size wr v i
  kp2 : Kp [w.heap.size] w2 wr
theorem wpAppend66 {w : World} {ops : Array Oper} {rest : List Oper} {o : Oper} {a : Act} {Q : Exit → Act → World → Prop} (hgd : o.guard = none) (s x : Operand) (ho : o.op = .call { callee := .builtin .append, args := #[s, x], argTypes := #[33, 33] })
    (base : Nat) (v : Value) (n : Nat) (xs : List Value) (hs : a.eval s = v) (hown : w.ownsRow base 66 3 v n xs)
    (ad : Addr) (c : Nat) (ys : List Value) (hx : a.eval x = .slice (some ad) 1 c) (hl : ys.length = 3) (hc : ∀ j u, ys[j]? = some u → w.cell? (ad.add j) = some u) (h1 : ∀ u ∈ ys, u.oneCell' = true)
    (hn : n ≤ 1000) (hbase : base ≤ w.heap.size)
    (h : ∀ v' w', w'.ownsRow base 66 3 v' (n + 1) (xs ++ ys) → w.grownBy w' v.ownBlock → (v'.ownBlock = v.ownBlock ∨ v'.ownBlock = some w.heap.size) → wpList Tryz.prog ops Q rest (a.put o.dst v') w') :
    wpList Tryz.prog ops Q (o :: rest) a w := by
  obtain ⟨i0, hi, hz, hz0, hz2⟩ := info_parts info66
  exact wpList_append_own_at w hgd s x 33 ho base 66 i0 _ 3 32 Tryz.underlying33 hi hz hz0 hz2 rfl (by omega) v n xs hs hown ad 1 c ys hx (by omega) hc h1 (by unfold maxLen; omega) (by omega) hbase (fun v' w' h2 h3 _ h5 => h v' w' h2 h3 h5)
set_option maxHeartbeats 2000000 in
theorem look_x (w : World) (d m ck n : Nat) (fs : List Fl) (fuse : Int) (h : Dk w d m ck fs fuse false) (hx : ∀ f ∈ fs, f.name = ⟨#[120]⟩) (hl : fs.length = n) (hn : n ≤ 1) (ht : Tab w) :
    Calls Tryz.prog 7 #[.pointer (some ⟨d, 0, none⟩)] w fun e w' => ∃ A, e = .returned (.tuple #[.agg #[.slice A n n, .int .u64 0, .int .u8 0, .int .u64 0, .int .u64 0, .int .u64 0, .bool true], .int .i64 0]) ∧ (∃ c, w'.ownsRow w.heap.size 66 3 (.slice A n c) n (finds n)) ∧ Kp [] w w' := by
  have hl0 : named fs ⟨#[108, 111, 103]⟩ = none := named_x hx (by decide)
  go_enter Tryz.func7, Tryz.ntmps7
  go_wp2_with fail
  have ka := Kp.alloc [] w (.cells #[.slice none 0 0, .int .u64 0, .int .u8 0, .int .u64 0, .int .u64 0, .int .u64 0, .bool false] 36)
  have g0 := heap_new w (.cells #[.slice none 0 0, .int .u64 0, .int .u8 0, .int .u64 0, .int .u64 0, .int .u64 0, .bool false] 36)
  generalize w.alloc (.cells #[.slice none 0 0, .int .u64 0, .int .u8 0, .int .u64 0, .int .u64 0, .int .u64 0, .bool false] 36) = w1 at ka g0 ⊢
  have hs0 := lt_of_heap g0
  go_step3
  go_wp2_with fail
  refine (read_none w1 d m ck fs fuse (h.keep0 ka) ⟨#[108, 111, 103]⟩ (notEmpty (by decide)) (by decide) hl0).mono ?_
  rintro e w' ⟨rfl, rfl⟩
  go_wp2_with fail
  refine (names_any w1 d m ck fs fuse false (h.keep0 ka) (by omega)).mono ?_
  rintro e w2 ⟨v, rfl, hnb, hk2⟩
  obtain ⟨hr, hnew, A, hv⟩ := hnb
  have hln : ((sorted (fs.map keyOf)).map encStr).length = n := by simp [sorted_len, hl]
  rw [hln] at hv
  subst hv
  have hs1 := lt_of_heap g0
  have hs2 := hk2.size
  have hL0 : Looking w w2 w2 0 (.slice none 0 0) := ⟨⟨hk2.heap g0 (by simp), by omega, World.ownsRow_nil _ _ _ _, ka.trans hk2 (by simp)⟩, Kp.refl _ _⟩
  have HL := Lib.hid hL0
  have HH := Lib.hid h
  have HR := Lib.hid hr
  have HN := Lib.hid hnew
  have HX := Lib.hid hx
  have HT := Lib.hid ht
  clear hL0 h hr hnew ka g0 hk2 hln hx hl0 ht
  go_wp2
  go_step3
  go_wp2
  go_loopw [36] (fun t wr => ∃ (i : Nat) (v : Value), t = .int .i64 i ∧ i ≤ n ∧ Looking w w2 wr i v) (fun t _ => n - (intOf t).toNat)
  case atStart => exact ⟨0, _, rfl, Nat.zero_le _, HL.out⟩
  case round =>
    clear HL
    obtain ⟨i, v, rfl, hi, ⟨hrep, hlo, hown, hk⟩, hk2⟩ := hrel
    by_cases hlt : i < n
    · have hi0 : i = 0 := by omega
      have hn1' : n = 1 := by omega
      have HN1 := Lib.hid hn1'
      clear hn1'
      subst hi0
      obtain ⟨f, hf⟩ := List.length_eq_one_iff.1 (hl.trans HN1.out)
      have hfx := HX.out f (by rw [hf]; simp)
      have hnf : named fs ⟨#[120]⟩ = some f := by rw [← hfx]; exact named_mem (HH.out.nm.imp (fun hh => hh.1)) (by rw [hf]; simp)
      obtain ⟨a, rfl, hc⟩ : ∃ a, A = some a ∧ wr.cell? (a.add 0) = some (.string ⟨#[120]⟩) := by
        rcases HR.out with ⟨e, _⟩ | ⟨ad, c', e, hle, hb, hc⟩
        · injection e with _ e _
          omega
        · injection e with e _ _
          refine ⟨ad, e, ?_⟩
          have hne : ad.block ∉ [w.heap.size] := by
            have := HN.out ad _ _ (by rw [e])
            simp
            omega
          refine (hk2.cell (p := ad.add 0) (by rw [add_block]; exact hb) (by rw [add_block]; exact hne)).trans (hc 0 _ ?_)
          rw [hf, ← hfx]
          simp [sorted]
          rfl
      have hc : wr.cell? a = some (.string ⟨#[120]⟩) := by rw [Addr.add_zero'] at hc; exact hc
      have HNF := Lib.hid hnf
      have HK := Lib.hid hk
      have HK2 := Lib.hid hk2
      have HREP := Lib.hid hrep
      have HOWN := Lib.hid hown
      have HHr := Lib.hid (HH.out.keep0 hk)
      clear hnf hk hk2 hrep hown hf hfx hi
      go_wp2_with fail
      refine (read_some wr d m ck fs fuse HHr.out ⟨#[120]⟩ (notEmpty (by decide)) (by decide) f HNF.out).mono ?_
      rintro e w3 ⟨v3, rfl, hnb3, hk3⟩
      have HK3 := Lib.hid hk3
      clear hnb3 hk3 hc
      go_wp2_with fail
      refine (file_x w3 v3).mono ?_
      rintro e w4 ⟨rfl, hk4⟩
      have hk34 := HK3.out.trans hk4 (by simp)
      have r1 := hk34.heap HREP.out (by simp)
      have c0 := cell_of_heap r1 0
      have f0 := frozen_of_heap r1 0
      have hrl := lt_of_heap r1
      have hgw : wr.grownBy w4 none := ⟨hk34.os, hk34.tape, hk34.output, hk34.size, fun k hk _ => hk34.block k hk (by simp)⟩
      have hown4 := ((HOWN.out.kept hgw (by cases hv : v.ownBlock <;> simp)).alloc (.cells #[.int .u8 1, .string ⟨#[120]⟩, .int .i64 0] 66)).alloc (.cells #[.int .u8 1, .string ⟨#[120]⟩, .int .i64 0] 66)
      have hlit := heap_new (w4.alloc (.cells #[.int .u8 1, .string ⟨#[120]⟩, .int .i64 0] 66)) (.cells #[.int .u8 1, .string ⟨#[120]⟩, .int .i64 0] 66)
      have hka : Kp [] w4 ((w4.alloc (.cells #[.int .u8 1, .string ⟨#[120]⟩, .int .i64 0] 66)).alloc (.cells #[.int .u8 1, .string ⟨#[120]⟩, .int .i64 0] 66)) := (Kp.alloc [] _ _).trans (Kp.alloc [] _ _) (by simp)
      have hcs : ∀ j u, [Value.int .u8 1, .string ⟨#[120]⟩, .int .i64 0][j]? = some u → ((w4.alloc (.cells #[.int .u8 1, .string ⟨#[120]⟩, .int .i64 0] 66)).alloc (.cells #[.int .u8 1, .string ⟨#[120]⟩, .int .i64 0] 66)).cell? ((⟨w4.heap.size + 1, 0, none⟩ : Addr).add j) = some u := by
        intro j u hj
        rw [show ((⟨w4.heap.size + 1, 0, none⟩ : Addr).add j) = ⟨w4.heap.size + 1, j, none⟩ from by cases j <;> simp [Addr.add]]
        rw [cell_of_heap (g := w4.heap.size + 1) (by simpa using hlit) j]
        simpa using hj
      have HLIT := Lib.hid hcs
      have HOWN4 := Lib.hid hown4
      clear hlit hcs hown4
      go_wp2_with (at_builtin; refine wpAppend66 rfl (.tmp 53) (.tmp 55) rfl w2.heap.size v 0 [] rfl HOWN4.out _ 1 [.int .u8 1, .string ⟨#[120]⟩, .int .i64 0] rfl rfl HLIT.out (by simp [Value.oneCell']) (by omega) (Nat.le_trans HK2.out.size (Nat.le_trans hk34.size hka.size)) ?_; intro v' w5 hown5 hg5 hat5; obtain ⟨A5, c5, rfl⟩ := own_form hown5; have hk45 : Kp v.ownBlock.toList w4 w5 := (hka.mono (by simp)).trans (Kp.grown (S := v.ownBlock.toList) hg5 (fun k hk => .inl (by simp [hk]))) (fun x hx => .inl hx); have hvb : ∀ x ∈ v.ownBlock.toList, w2.heap.size ≤ x := (fun x hx => (HOWN4.out.lt x (by simpa using hx)).1); have r5 := hk45.heap r1 (fun hx => by have := hvb _ hx; omega); have c5' := cell_of_heap r5 0; have f5 := frozen_of_heap r5 0)
      go_round
      case rel =>
        have hkB : Kp [] w w5 := (HK.out.trans hk34 (by simp)).trans hk45 (fun x hx => .inr (by have := hvb x hx; omega))
        have hkC : Kp [w.heap.size] w2 w5 := (HK2.out.trans hk34 (by simp)).trans hk45 (fun x hx => .inr (hvb x hx))
        exact ⟨1, _, rfl, by omega, ⟨heap_set r5 0 _, hlo, ownsRow_setCell_below hown5 (by show w.heap.size < _; omega) _, hkB.trans (Kp.setCell (S := [w.heap.size]) _ _ (by simp) _) (by simp)⟩, hkC.trans (Kp.setCell (S := [w.heap.size]) _ _ (by simp) _) (by simp)⟩
      case measure => simp [intOf]; omega
    · have hin : i = n := by omega
      subst hin
      have hne : ∀ ad n c, Value.slice A i i = .slice (some ad) n c → ad.block ∉ [w.heap.size] := by
        intro ad n c e
        have := HN.out ad n c e
        simp
        omega
      have hRep : RepN w w2.heap.size wr v i (.slice A i i) ((sorted (fs.map keyOf)).map encStr) := ⟨⟨hrep, hlo, hown, hk⟩, HR.out.kp hk2 hne, hne⟩
      have HREP := Lib.hid hRep
      have hDd := HH.out.keep0 hk
      clear hrep hown hk hk2 hRep hlt hi hne
      go_wp2_with fail
      refine (twin_any wr d m ck fs fuse hDd (by omega)).mono ?_
      rintro e w3 ⟨d2, m2, ck2, fs2, rfl, hd2, ht2, hf2, hk3⟩
      obtain ⟨hx2, hl2⟩ := twin_x ht2 HX.out
      have HREP3 := Lib.hid (HREP.out.keep hk3)
      clear hf2 ht2
      go_wp2_with fail
      refine (statesOpen_new w3 d2 m2 ck2 fs2 hd2 (named_x hx2 (by decide))).mono ?_
      rintro e w4 ⟨rfl, hw4⟩
      have g4 : w4.heap[w3.heap.size]? = some (.cells #[.int .u64 0, .int .u8 0, .pointer (some ⟨d2, 0, none⟩), .bool false] 125 (0, 0)) := by rw [← hw4]; exact heap_new _ _
      have k4 : Kp [] w3 w4 := by rw [← hw4]; exact Kp.alloc _ _ _
      have hr4 := HREP3.out.keep k4
      have HREP4 := Lib.hid hr4
      have c1 := cell_of_heap hr4.rep 1
      have c2 := cell_of_heap hr4.rep 2
      have f1 := frozen_of_heap hr4.rep 1
      have f2 := frozen_of_heap hr4.rep 2
      have hr5 := (hr4.set 1 (.int .u64 0) rfl).set 2 (.int .u8 0) rfl
      have HREP5 := Lib.hid hr5
      have hd5 := HH.out.keep0 hr5.kp
      have HD5 := Lib.hid hd5
      clear hx2 hl2 hd2 hw4 hr4 hr5 hd5 k4 hk3
      go_wp2_with fail
      refine (term_new w4 w3.heap.size _ _ _ g4).mono ?_
      rintro e w' ⟨rfl, rfl⟩
      go_wp2_with fail
      refine (vote_new w4 w3.heap.size _ _ _ g4).mono ?_
      rintro e w' ⟨rfl, rfl⟩
      go_wp2_with fail
      clear HREP3 HREP4 c1 c2 f1 f2 g4
      generalize (w4.setCell ⟨w.heap.size, 1, none⟩ (.int .u64 0)).setCell ⟨w.heap.size, 2, none⟩ (.int .u8 0) = w5 at HREP5 HD5 ⊢
      refine (twin_any w5 d m ck fs fuse HD5.out (by omega)).mono ?_
      rintro e w6 ⟨d3, m3, ck3, fs3, rfl, hd3, ht3, _, hk6⟩
      obtain ⟨hx3, _⟩ := twin_x ht3 HX.out
      have HREP6 := Lib.hid (HREP5.out.keep hk6)
      clear ht3 HREP5 HD5
      go_wp2_with fail
      refine (shotsOpen_new w6 d3 m3 ck3 fs3 hd3 (named_x hx3 (by decide))).mono ?_
      rintro e w7 ⟨rfl, hw7⟩
      have g7 : w7.heap[w6.heap.size]? = some (.cells #[.int .u64 0, .int .u64 0, .slice none 0 0, .pointer (some ⟨d3, 0, none⟩), .bool false] 127 (0, 0)) := by rw [← hw7]; exact heap_new _ _
      have k7 : Kp [] w6 w7 := by rw [← hw7]; exact Kp.alloc _ _ _
      have HREP7 := Lib.hid (HREP6.out.keep k7)
      clear hx3 hd3 hw7 k7 hk6 HREP6
      go_wp2_with fail
      refine (albumShot_new w7 w6.heap.size _ _ g7).mono ?_
      rintro e w8 ⟨rfl, k8⟩
      have hr8 := HREP7.out.keep k8
      have c3 := cell_of_heap hr8.rep 3
      have f3 := frozen_of_heap hr8.rep 3
      have hr9 := hr8.set 3 (.int .u64 0) rfl
      have HREP9 := Lib.hid hr9
      have HD9 := Lib.hid (HH.out.keep0 hr9.kp)
      have HT9 := Lib.hid (HT.out.kp hr9.kp (by simp))
      clear hr8 hr9 k8 HREP7 g7
      go_wp2_with fail
      clear c3 f3
      generalize w8.setCell ⟨w.heap.size, 3, none⟩ (.int .u64 0) = w9 at HREP9 HD9 HT9 ⊢
      refine (twin_any w9 d m ck fs fuse HD9.out (by omega)).mono ?_
      rintro e w10 ⟨d4, m4, ck4, fs4, rfl, hd4, ht4, hf4, hk10⟩
      obtain ⟨hx4, hl4⟩ := twin_x ht4 HX.out
      have HREP10 := Lib.hid (HREP9.out.keep hk10)
      have HT10 := Lib.hid (HT9.out.kp hk10 (by simp))
      have hm4 := hf4 m4 (by simp [feet])
      clear ht4 hf4 HD9 HT9
      go_wp2_with fail
      refine (logsOpen_new w10 d4 m4 ck4 fs4 hd4 (named_x hx4 (by decide)) (by omega) HT10.out).mono ?_
      rintro e w11 ⟨lb, f11, rfl, hlb, -, -, -, -, hlog, hk11⟩
      have hk911 := hk10.trans hk11 (fun x hx => .inr (by rw [List.mem_singleton.1 hx]; exact hm4))
      have hr11 := HREP9.out.keep hk911
      have HREP11 := Lib.hid hr11
      have hlbR : lb ≠ w.heap.size := by
        have h1 := lt_of_heap HREP10.out.rep
        omega
      clear hx4 hl4 hd4 hk10 hk11 hk911 HREP9 HREP10 HT10 hr11
      go_wp2_with fail
      refine (base_new w11 lb d4 hlog).mono ?_
      rintro e w12 ⟨rfl, hk12⟩
      have hr12 := HREP11.out.keep hk12
      have hlog12 := hk12.heap hlog (by simp)
      have c4 := cell_of_heap hr12.rep 4
      have f4 := frozen_of_heap hr12.rep 4
      have hr13 := hr12.set 4 (.int .u64 0) rfl
      have HREP13 := Lib.hid hr13
      have hlog13 : LogAt (w12.setCell ⟨w.heap.size, 4, none⟩ (.int .u64 0)) lb d4 := heap_far hlog12 hlbR _
      have HLOG13 := Lib.hid hlog13
      clear hr12 hr13 hk12 hlog hlog12 hlog13 HREP11
      go_wp2_with fail
      clear c4 f4
      generalize w12.setCell ⟨w.heap.size, 4, none⟩ (.int .u64 0) = w13 at HREP13 HLOG13 ⊢
      refine (end_new w13 lb d4 HLOG13.out).mono ?_
      rintro e w14 ⟨rfl, hk14⟩
      have hr14 := HREP13.out.keep hk14
      have c5 := cell_of_heap hr14.rep 5
      have f5 := frozen_of_heap hr14.rep 5
      have hr15 := hr14.set 5 (.int .u64 0) rfl
      have HREP15 := Lib.hid hr15
      have HD15 := Lib.hid (HH.out.keep0 hr15.kp)
      have HT15 := Lib.hid (HT.out.kp hr15.kp (by simp))
      clear hr14 hr15 hk14 HREP13 HLOG13
      go_wp2_with fail
      clear c5 f5
      generalize w14.setCell ⟨w.heap.size, 5, none⟩ (.int .u64 0) = w15 at HREP15 HD15 HT15 ⊢
      refine (contains_no w15 A i (sorted (fs.map keyOf)) ⟨#[108, 111, 103]⟩ (by simp [sorted_len, hl]) (by omega) HREP15.out.nm (fun x hx => ?_)).mono ?_
      · intro e
        obtain ⟨f, hf, rfl⟩ := List.mem_map.1 ((sorted_perm _).mem_iff.1 hx)
        rw [encStr_keyOf, HX.out f hf] at e
        injection e with e
        exact absurd e (by decide)
      rintro e w' ⟨rfl, rfl⟩
      have c0 := cell_of_heap HREP15.out.rep 0
      obtain ⟨A0, cc, rfl⟩ := own_form HREP15.out.r.own
      have hcc : i ≤ cc := by
        rcases HREP15.out.r.own.2 with ⟨e, h0⟩ | ⟨g, cap, cur, e, _, _, h1, _⟩
        · omega
        · injection e with _ _ e
          omega
      go_wp2_with fail
      refine (clip33 w15 A0 i cc hcc).mono ?_
      rintro e w' ⟨rfl, rfl⟩
      clear c0
      go_wp2_with fail
      refine (twin_any w15 d m ck fs fuse HD15.out (by omega)).mono ?_
      rintro e w16 ⟨d5, m5, ck5, fs5, rfl, hd5, ht5, hf5, hk16⟩
      obtain ⟨hx5, hl5⟩ := twin_x ht5 HX.out
      have HT16 := Lib.hid (HT15.out.kp hk16 (by simp))
      have hm5 := hf5 m5 (by simp [feet])
      clear ht5 hf5 HD15 HT15
      go_wp2_with fail
      refine (serves_new w16 d5 m5 ck5 fs5 hd5 (bare_x hx5) (by omega) HT16.out).mono ?_
      rintro e w17 ⟨rfl, hk17⟩
      have hk1517 := hk16.trans hk17 (fun x hx => .inr (by rw [List.mem_singleton.1 hx]; exact hm5))
      have hr17 := HREP15.out.keep hk1517
      have c0 := cell_of_heap hr17.rep 0
      have c1 := cell_of_heap hr17.rep 1
      have c2 := cell_of_heap hr17.rep 2
      have c3 := cell_of_heap hr17.rep 3
      have c4 := cell_of_heap hr17.rep 4
      have c5 := cell_of_heap hr17.rep 5
      have c6 := cell_of_heap hr17.rep 6
      have f0 := frozen_of_heap hr17.rep 0
      have f1 := frozen_of_heap hr17.rep 1
      have f2 := frozen_of_heap hr17.rep 2
      have f3 := frozen_of_heap hr17.rep 3
      have f4 := frozen_of_heap hr17.rep 4
      have f5 := frozen_of_heap hr17.rep 5
      have f6 := frozen_of_heap hr17.rep 6
      have HREP17 := Lib.hid hr17
      clear hr17 hk1517 hk16 hk17 hx5 hl5 hd5 HT16 HREP15
      go_wp2
      have hlo2 : w.heap.size < w2.heap.size := hlo
      obtain ⟨W, hW, z1, z3, z2⟩ := rep_end HREP17.out.r
      clear c0 c1 c2 c3 c4 c5 c6 f0 f1 f2 f3 f4 f5 f6 HREP17
      rw [← hW]
      clear hW
      have c0 : W.cell? ⟨w.heap.size, 0, none⟩ = some (.slice A0 i i) := cell_of_heap z1 0
      have c1 : W.cell? ⟨w.heap.size, 1, none⟩ = some (.int .u64 0) := cell_of_heap z1 1
      have c2 : W.cell? ⟨w.heap.size, 2, none⟩ = some (.int .u8 0) := cell_of_heap z1 2
      have c3 : W.cell? ⟨w.heap.size, 3, none⟩ = some (.int .u64 0) := cell_of_heap z1 3
      have c4 : W.cell? ⟨w.heap.size, 4, none⟩ = some (.int .u64 0) := cell_of_heap z1 4
      have c5 : W.cell? ⟨w.heap.size, 5, none⟩ = some (.int .u64 0) := cell_of_heap z1 5
      have c6 : W.cell? ⟨w.heap.size, 6, none⟩ = some (.bool true) := cell_of_heap z1 6
      rw [Exit.noGoto_ret]
      exact bodyPost_ret (v := .tuple #[.agg #[.slice A0 i i, .int .u64 0, .int .u8 0, .int .u64 0, .int .u64 0, .int .u64 0, .bool true], .int .i64 0]) (by simp [results, Tryz.results7, go_sem, c0, c1, c2, c3, c4, c5, c6]) rfl ⟨A0, rfl, ⟨cc, own_base z3 (Nat.le_of_lt hlo2)⟩, z2⟩
end Go.Proofs.YtmboklllkdlmgaaGreatDoor
