/-
  Appends from any slice whose cells one knows, onto a row of the call's own; the file's growth in Add, walked. Conditions: no length beyond 1000000; helper lemmas.
-/
import Derived.Test.YtmboklllkdlmgaaGreatDoorT
import Derived.Deep.RegionLaw
import Derived.OneCell
namespace Go.Proofs.YtmboklllkdlmgaaGreatDoor
open Go.RowKit Go.MapKept
set_option maxRecDepth 100000
/-- A slice of m elements, so many cells each, reads as these cells. -/
def RdG (size : Nat) (w : World) (v : Value) (m : Nat) (xs : List Value) : Prop :=
  ∃ A c, v = .slice A m c ∧ xs.length = m * size ∧ (A = none → m = 0 ∧ c = 0) ∧ ∀ ad, A = some ad → ∀ j u, xs[j]? = some u → w.cell? (ad.add j) = some u
theorem RdG.of_rdA {w : World} {v : Value} {xs : List Value} {m : Nat} (h : RdA w v xs) (hm : xs.length = m) : RdG 1 w v m xs := by
  rcases h with ⟨rfl, rfl⟩ | ⟨ad, c, rfl, hl, hb, hc⟩
  · exact ⟨none, 0, by simp at hm; rw [← hm], by simpa using hm, fun _ => ⟨by simpa using hm.symm, rfl⟩, by simp⟩
  · exact ⟨some ad, c, by rw [hm], by omega, by simp, fun ad' e => by injection e with e; rw [← e]; exact hc⟩
theorem RdG.kp {size m : Nat} {w w' : World} {v : Value} {xs : List Value} (h : RdG size w v m xs) {S : List Nat} (k : Kp S w w') (hn : ∀ x ∈ sliceBlock v, x ∉ S) : RdG size w' v m xs := by
  obtain ⟨A, c, rfl, hl, h0, hc⟩ := h
  refine ⟨A, c, rfl, hl, h0, fun ad e j u hu => ?_⟩
  have h1 := hc ad e j u hu
  have hb := World.block_lt_of_cell? _ _ h1
  subst e
  exact (k.cell (p := ad.add j) hb (by rw [add_block]; exact hn _ (by simp [sliceBlock]))).trans h1
theorem RdG.form {size m : Nat} {w : World} {v : Value} {xs : List Value} (h : RdG size w v m xs) : ∃ A c, v = .slice A m c := by
  obtain ⟨A, c, e, _⟩ := h
  exact ⟨A, c, e⟩
/-- append, run. -/
theorem run_appendG (w : World) (t ty e size bytes : Nat) (z : Value) (ht : Tryz.prog.underlying t = some (.slice e)) (hinf : (Tryz.prog.info? e).map (fun i => (i.zero, i.size, i.bytes)) = some (some z, size, bytes)) (hz1 : z.cells.size = size) (hs0 : 0 < size)
    (base : Nat) (v : Value) (n : Nat) (xs : List Value) (hown : w.ownsRow base e size v n xs) (vx : Value) (m : Nat) (ys : List Value) (hr : RdG size w vx m ys) (h1 : ∀ u ∈ ys, u.oneCell' = true)
    (hbytes : (n + m) * bytes ≤ 140737488355328) (hlen : n + m ≤ 140737488355328) (hbase : base ≤ w.heap.size) :
    ∃ v' w', (Builtin.append_ #[t, t] ty #[v, vx]).run Tryz.prog w = .ok v' w' ∧ w'.ownsRow base e size v' (n + m) (xs ++ ys) ∧ w.grownBy w' v.ownBlock ∧ (v'.ownBlock = v.ownBlock ∨ v'.ownBlock = some w.heap.size) := by
  obtain ⟨i0, hi, hz, hz0, hz2⟩ := info_parts hinf
  obtain ⟨A, c, rfl, hl, hA0, hc⟩ := hr
  cases A with
  | none =>
    obtain ⟨rfl, rfl⟩ := hA0 rfl
    have : ys = [] := List.eq_nil_of_length_eq_zero (by omega)
    subst this
    exact ⟨v, w, run_append_owned_none w base t ty e i0 size ht hi v n xs hown, by simpa using hown, World.grownBy.refl w _, .inl rfl⟩
  | some ad =>
    obtain ⟨v', w', h2, h3, h4, _, h5⟩ := run_append_own_at (P := Tryz.prog) w base t ty e i0 z size bytes ht hi hz hz0 hz2 hz1 hs0 v n xs hown ad m c ys hl (hc ad rfl) h1 (by unfold maxLen; omega) hbytes hbase
    exact ⟨v', w', h2, h3, h4, h5⟩
section
variable {w : World} {ops : Array Oper} {rest : List Oper} {o : Oper} {a : Act} {Q : Exit → Act → World → Prop}
theorem wpAppendG (hgd : o.guard = none) (s x : Operand) (t e size bytes : Nat) (z : Value) (ho : o.op = .call { callee := .builtin .append, args := #[s, x], argTypes := #[t, t] })
    (ht : Tryz.prog.underlying t = some (.slice e)) (hinf : (Tryz.prog.info? e).map (fun i => (i.zero, i.size, i.bytes)) = some (some z, size, bytes)) (hz1 : z.cells.size = size) (hs0 : 0 < size)
    (base : Nat) (v : Value) (n : Nat) (xs : List Value) (hs : a.eval s = v) (hown : w.ownsRow base e size v n xs)
    (vx : Value) (m : Nat) (ys : List Value) (hx : a.eval x = vx) (hr : RdG size w vx m ys) (h1 : ∀ u ∈ ys, u.oneCell' = true)
    (hbytes : (n + m) * bytes ≤ 140737488355328) (hlen : n + m ≤ 140737488355328) (hbase : base ≤ w.heap.size)
    (h : ∀ v' w', w'.ownsRow base e size v' (n + m) (xs ++ ys) → w.grownBy w' v.ownBlock → (v'.ownBlock = v.ownBlock ∨ v'.ownBlock = some w.heap.size) → wpList Tryz.prog ops Q rest (a.put o.dst v') w') :
    wpList Tryz.prog ops Q (o :: rest) a w := by
  obtain ⟨i0, hi, hz, hz0, hz2⟩ := info_parts hinf
  obtain ⟨A, c, rfl, hl, hA0, hc⟩ := hr
  cases A with
  | none =>
    obtain ⟨rfl, rfl⟩ := hA0 rfl
    have : ys = [] := List.eq_nil_of_length_eq_zero (by omega)
    subst this
    refine wpList_append_own_none hgd s x t ho base e i0 size ht hi v n xs hs hown hx ?_
    exact h v w (by simpa using hown) (World.grownBy.refl w _) (.inl rfl)
  | some ad =>
    exact wpList_append_own_at w hgd s x t ho base e i0 z size bytes ht hi hz hz0 hz2 hz1 hs0 v n xs hs hown ad m c ys hx hl (hc ad rfl) h1 (by unfold maxLen; omega) hbytes hbase (fun v' w' h2 h3 _ h5 => h v' w' h2 h3 h5)
end
theorem step_appendG {w : World} {ops : Array Oper} {o : Oper} {a : Act} {K : Act → World → Prop} {Q : Exit → Act → World → Prop} {E : Prop}
    (hg : o.guard = none) (s x : Operand) (t e size bytes : Nat) (z : Value) (hop : o.op = .call { callee := .builtin .append, args := #[s, x], argTypes := #[t, t] })
    (ht : Tryz.prog.underlying t = some (.slice e)) (hinf : (Tryz.prog.info? e).map (fun i => (i.zero, i.size, i.bytes)) = some (some z, size, bytes)) (hz1 : z.cells.size = size) (hs0 : 0 < size)
    (base : Nat) (v : Value) (n : Nat) (xs : List Value) (hs : a.eval s = v) (hown : w.ownsRow base e size v n xs) (vx : Value) (m : Nat) (ys : List Value) (hx : a.eval x = vx) (hr : RdG size w vx m ys) (h1 : ∀ u ∈ ys, u.oneCell' = true)
    (hbytes : (n + m) * bytes ≤ 140737488355328) (hlen : n + m ≤ 140737488355328) (hbase : base ≤ w.heap.size)
    (hK : ∀ v' w', w'.ownsRow base e size v' (n + m) (xs ++ ys) → w.grownBy w' v.ownBlock → (v'.ownBlock = v.ownBlock ∨ v'.ownBlock = some w.heap.size) → K (a.put o.dst v') w') :
    if Region.wanted o (yielded ops a.tmps) = true then Oper.wp Tryz.prog o a w K Q else E := by
  have hw : Region.wanted o (yielded ops a.tmps) = true := by simp [Region.wanted, hg]
  rw [if_pos hw]
  obtain ⟨v', w', hrun, r1, r2, r3⟩ := run_appendG w t o.type e size bytes z ht hinf hz1 hs0 base v n xs hown vx m ys hr h1 hbytes hlen hbase
  unfold Oper.wp
  simp [execOp, hop, resolve, invoke, builtin, hs, hx, hrun, Result.andThen]
  exact hK v' w' r1 r2 r3
theorem own_ne {w : World} {b e s n : Nat} {v : Value} {xs : List Value} (h : w.ownsRow b e s v n xs) {g : Nat} {cs : Array Value} {t : TypeId} {fz : Nat × Nat} (hg : w.heap[g]? = some (.cells cs t fz)) (ht : t ≠ e) : some g ≠ v.ownBlock := by
  intro e1
  rcases h.2 with ⟨rfl, _⟩ | ⟨g', cap, cur, rfl, _, hb, _⟩
  · simp [Value.ownBlock] at e1
  · have : g = g' := by simpa [Value.ownBlock] using e1
    subst this
    rw [hb] at hg
    injection hg with hg
    injection hg with _ h2 _
    exact ht h2.symm
set_option maxHeartbeats 400000 in
/-- What Add does to the file: its bytes grow. -/
theorem addfn_any (w : World) (f bx base : Nat) (v i0 x0 : Value) (zs bs : List Int) (n m : Nat) (F : w.heap[f]? = some (.cells #[v, i0, x0] 100 (0, 0))) (hown : w.ownsRow base 5 1 v n (byt zs)) (bv : Value) (B : w.heap[bx]? = some (.cells #[bv] 22 (0, 0)))
    (hr : RdG 1 w bv m (byt bs)) (hn : n + m ≤ 1048576) (hb : base ≤ w.heap.size) :
    Calls Tryz.prog 47 #[.pointer (some ⟨f, 0, none⟩), .pointer (some ⟨bx, 0, none⟩)] w fun e w' => e = .returned (.tuple #[]) ∧ ∃ v', w'.heap[f]? = some (.cells #[v', i0, x0] 100 (0, 0)) ∧ w'.ownsRow base 5 1 v' (n + m) (byt (zs ++ bs)) ∧
      (v'.ownBlock = v.ownBlock ∨ v'.ownBlock = some w.heap.size) ∧ Kp (f :: v.ownBlock.toList) w w' := by
  obtain ⟨A0, c0', rfl⟩ := own_form hown
  obtain ⟨A2, c2', rfl⟩ := hr.form
  have hfv : f ∉ (Value.slice A0 n c0').ownBlock.toList := fun hx => own_ne hown F (by decide) (by simpa [eq_comm] using hx)
  have f0 := cell_of_heap F 0
  have b0 := cell_of_heap B 0
  have HF := Lib.hid F
  have HR := Lib.hid hr
  have HOW := Lib.hid hown
  clear F B hown hr
  go_enter Tryz.func47, Tryz.ntmps47
  go_region_law (refine step_appendG rfl (.tmp 8) (.tmp 9) 22 5 1 1 _ rfl Tryz.underlying22 info5 rfl (by omega) base (.slice A0 n c0') n (byt zs) rfl HOW.out _ m (byt bs) rfl HR.out (byt_one _) (by omega) (by omega) hb ?_; intro v' w1 hown1 hg1 hat1; obtain ⟨A1, c1, rfl⟩ := own_form hown1; have hk1 : Kp (Value.slice A0 n c0').ownBlock.toList w w1 := (Kp.drew _ w).trans (Kp.grown (S := (Value.slice A0 n c0').ownBlock.toList) hg1 (fun k hk => .inl (by simp [hk]))) (fun x hx => .inl hx); have F1 := hk1.heap HF.out hfv; have f1 := cell_of_heap F1 0; have fz1 := frozen_of_heap F1 0)
  all_goals
    go_end0
    refine ⟨rfl, _, heap_set F1 0 _, ?_, hat1, ?_⟩
    · rw [show byt (zs ++ bs) = byt zs ++ byt bs from by simp [byt]]
      exact ownsRow_setCell_other hown1 (fun e => own_ne hown1 F1 (by decide) e.symm) _
    · exact (hk1.mono (fun x hx => List.mem_cons_of_mem _ hx)).trans (Kp.setCell (S := [f]) _ _ (by simp) _) (by simp)
end Go.Proofs.YtmboklllkdlmgaaGreatDoor
