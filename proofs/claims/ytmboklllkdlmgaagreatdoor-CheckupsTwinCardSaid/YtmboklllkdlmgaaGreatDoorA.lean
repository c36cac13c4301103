/-
  Words for memory over this program, and small run laws: which blocks a step may turn ('Kp'), a slice that reads as a list ('RdA'), an append onto a row of the call's own from whatever source ('wpAppend'). Conditions: none; helper lemmas.
-/
import Derived.Test.YtmboklllkdlmgaaGreatDoorProg
import Derived.WalkKit
import Derived.WalkSpells
import Derived.WalkLawsBesides
import Derived.RangeFuncRecord
import Derived.Laws.AppendOwnNone
import Derived.Deep.Draws
namespace Go.Proofs.YtmboklllkdlmgaaGreatDoor
open Go.RowKit
set_option maxRecDepth 100000

/-- Of what was there in w only the blocks on the list S may have turned. -/
structure Kp (S : List Nat) (w w' : World) : Prop where
  os : w'.os = w.os
  tape : w'.tape = w.tape
  output : w'.output = w.output
  size : w.heap.size ≤ w'.heap.size
  block : ∀ k, k < w.heap.size → k ∉ S → w'.heap[k]? = w.heap[k]?

theorem Kp.refl (S : List Nat) (w : World) : Kp S w w := ⟨rfl, rfl, rfl, Nat.le_refl _, fun _ _ _ => rfl⟩
theorem Kp.below {w w' : World} (h : Kp [] w w') : Below w.heap.size w w' := ⟨h.os, h.tape, h.output, h.size, fun k hk => h.block k hk (by simp)⟩
theorem Kp.of_below {w w' : World} (h : Below w.heap.size w w') (S : List Nat) : Kp S w w' := ⟨h.os, h.tape, h.output, h.size, fun k hk _ => h.block k hk⟩
theorem Kp.trans {S T : List Nat} {a b c : World} (h : Kp S a b) (k : Kp T b c) (ht : ∀ x ∈ T, x ∈ S ∨ a.heap.size ≤ x) : Kp S a c :=
  ⟨k.os.trans h.os, k.tape.trans h.tape, k.output.trans h.output, Nat.le_trans h.size k.size, fun i hi hs =>
    (k.block i (Nat.lt_of_lt_of_le hi h.size) (fun hx => (ht i hx).elim hs (fun h1 => by omega))).trans (h.block i hi hs)⟩
theorem Kp.mono {S T : List Nat} {w w' : World} (h : Kp S w w') (hs : ∀ x ∈ S, x ∈ T) : Kp T w w' :=
  ⟨h.os, h.tape, h.output, h.size, fun k hk hn => h.block k hk (fun hx => hn (hs k hx))⟩
theorem Kp.alloc (S : List Nat) (w : World) (o : Obj) : Kp S w (w.alloc o) :=
  ⟨rfl, rfl, rfl, by simp, fun k hk _ => Below.heap_alloc _ _ _ hk⟩
theorem Kp.drew (S : List Nat) (w : World) : Kp S w w.drew := ⟨rfl, rfl, rfl, Nat.le_refl _, fun _ _ _ => rfl⟩
theorem Kp.drewN (S : List Nat) (w : World) (n : Nat) : Kp S w (w.drewN n) := ⟨rfl, rfl, rfl, Nat.le_refl _, fun _ _ _ => rfl⟩
theorem Kp.setCell {S : List Nat} (w : World) (p : Addr) (hp : p.block ∈ S ∨ w.heap.size ≤ p.block) (u : Value) : Kp S w (w.setCell p u) :=
  ⟨rfl, rfl, rfl, by simp [World.setCell], fun k hk hn => Below.heap_setCell _ _ _ _ (by rintro rfl; exact hp.elim hn (fun h => by omega))⟩
theorem Kp.putObj {S : List Nat} (w : World) (r : Nat) (o : Obj) (hp : r ∈ S) : Kp S w (w.putObj r o) :=
  ⟨rfl, rfl, rfl, by simp [World.putObj], fun k _ hn => by
    show (w.heap.setIfInBounds r o)[k]? = _
    rw [Array.getElem?_setIfInBounds_ne (by rintro rfl; exact hn hp)]⟩
theorem Kp.grown {S : List Nat} {w w' : World} {row : Option Nat} (h : w.grownBy w' row) (hr : ∀ k, row = some k → k ∈ S ∨ w.heap.size ≤ k) : Kp S w w' :=
  ⟨h.os, h.tape, h.output, h.size, fun k hk hn => h.block k hk (fun e => (hr k e.symm).elim hn (fun h1 => by omega))⟩
theorem Kp.cell {S : List Nat} {w w' : World} (h : Kp S w w') {p : Addr} (hp : p.block < w.heap.size) (hn : p.block ∉ S) : w'.cell? p = w.cell? p :=
  World.cell?_of_block (w := w) (h.block _ hp hn)
theorem Kp.frozen {S : List Nat} {w w' : World} (h : Kp S w w') {p : Addr} (hp : p.block < w.heap.size) (hn : p.block ∉ S) : w'.frozen? p = w.frozen? p :=
  World.frozen?_of_block (w := w) (h.block _ hp hn)

theorem lt_of_heap {w : World} {g : Nat} {o : Obj} (h : w.heap[g]? = some o) : g < w.heap.size := by
  rcases Nat.lt_or_ge g w.heap.size with hl | hl
  · exact hl
  · rw [Array.getElem?_eq_none hl] at h; cases h
theorem Kp.heap {S : List Nat} {w w' : World} (h : Kp S w w') {g : Nat} {o : Obj} (hg : w.heap[g]? = some o) (hn : g ∉ S) : w'.heap[g]? = some o :=
  (h.block g (lt_of_heap hg) hn).trans hg
theorem cell_of_heap {w : World} {g : Nat} {cs : Array Value} {t : TypeId} {fz : Nat × Nat} (h : w.heap[g]? = some (.cells cs t fz)) (i : Nat) : w.cell? ⟨g, i, none⟩ = cs[i]? := by
  simp only [World.cell?, h]; rfl
theorem frozen_of_heap {w : World} {g : Nat} {cs : Array Value} {t : TypeId} (h : w.heap[g]? = some (.cells cs t (0, 0))) (i : Nat) : w.frozen? ⟨g, i, none⟩ = false := by
  simp only [World.frozen?, h]
  simp
theorem heap_new (w : World) (o : Obj) : (w.alloc o).heap[w.heap.size]? = some o := heap_alloc_new w o
theorem heap_new_at (w : World) (o : Obj) {g : Nat} (hg : g = w.heap.size) : (w.alloc o).heap[g]? = some o := by rw [hg]; exact heap_new w o
theorem heap_old {w : World} {g : Nat} {x : Obj} (o : Obj) (h : w.heap[g]? = some x) : (w.alloc o).heap[g]? = some x := (Below.heap_alloc w o g (lt_of_heap h)).trans h
theorem heap_set {w : World} {g : Nat} {cs : Array Value} {t : TypeId} {fz : Nat × Nat} (h : w.heap[g]? = some (.cells cs t fz)) (i : Nat) (u : Value) :
    (w.setCell ⟨g, i, none⟩ u).heap[g]? = some (.cells (cs.setIfInBounds i u) t fz) := by
  simp [World.setCell, Array.getElem?_modify, h]
theorem heap_far {w : World} {g : Nat} {x : Obj} {p : Addr} (h : w.heap[g]? = some x) (hp : g ≠ p.block) (u : Value) : (w.setCell p u).heap[g]? = some x :=
  (Below.heap_setCell w p u g hp).trans h
theorem heap_put {w : World} {g : Nat} {x : Obj} (h : w.heap[g]? = some x) (o : Obj) : (w.putObj g o).heap[g]? = some o := by
  have := lt_of_heap h
  show (w.heap.setIfInBounds g o)[g]? = _
  simp [this]
theorem heap_put_far {w : World} {g r : Nat} {x : Obj} (h : w.heap[g]? = some x) (hr : g ≠ r) (o : Obj) : (w.putObj r o).heap[g]? = some x := by
  show (w.heap.setIfInBounds r o)[g]? = _
  rw [Array.getElem?_setIfInBounds_ne (Ne.symm hr)]
  exact h

/-- A slice value that reads as the list of cells xs, wherever it lies; nil reads as the empty list. -/
def RdA (w : World) (v : Value) (xs : List Value) : Prop :=
  (v = .slice none 0 0 ∧ xs = []) ∨ ∃ ad c, v = .slice (some ad) xs.length c ∧ xs.length ≤ c ∧ ad.block < w.heap.size ∧ ∀ j u, xs[j]? = some u → w.cell? (ad.add j) = some u

theorem add_block (a : Addr) (n : Nat) : (a.add n).block = a.block := by unfold Addr.add; split <;> rfl
theorem RdA.nil (w : World) : RdA w (.slice none 0 0) [] := .inl ⟨rfl, rfl⟩
theorem RdA.kp {S : List Nat} {w w' : World} {v : Value} {xs : List Value} (h : RdA w v xs) (k : Kp S w w') (hn : ∀ ad n c, v = .slice (some ad) n c → ad.block ∉ S) : RdA w' v xs := by
  rcases h with h | ⟨ad, c, hv, hl, hb, hc⟩
  · exact .inl h
  · exact .inr ⟨ad, c, hv, hl, Nat.lt_of_lt_of_le hb k.size, fun j u hu => (k.cell (by rw [add_block]; exact hb) (by rw [add_block]; exact hn _ _ _ hv)).trans (hc j u hu)⟩
theorem RdA.of_own {w : World} {base e n : Nat} {v : Value} {xs : List Value} (h : w.ownsRow base e 1 v n xs) : RdA w v xs := by
  have hl : xs.length = n := by simpa using h.1
  rcases h.2 with ⟨rfl, h0⟩ | ⟨g, cap, cur, rfl, _, hg, hn, _, _, _⟩
  · exact .inl ⟨rfl, List.eq_nil_of_length_eq_zero (by omega)⟩
  · refine .inr ⟨⟨g, 0, none⟩, cap, by rw [hl], by omega, lt_of_heap hg, h.cells (g := g) rfl⟩

section
variable {w : World} {ops : Array Oper} {rest : List Oper} {o : Oper} {a : Act} {Q : Exit → Act → World → Prop}
/-- 'append(s, x...)' onto a row of the call's own, from whatever slice of one-cell elements; nil too. -/
theorem wpAppend (hgd : o.guard = none) (s x : Operand) (t e bytes : Nat) (z : Value) (ho : o.op = .call { callee := .builtin .append, args := #[s, x], argTypes := #[t, t] })
    (ht : Tryz.prog.underlying t = some (.slice e)) (hinf : (Tryz.prog.info? e).map (fun i => (i.zero, i.size, i.bytes)) = some (some z, 1, bytes)) (hz1 : z.cells.size = 1)
    (base : Nat) (v : Value) (n : Nat) (xs : List Value) (hs : a.eval s = v) (hown : w.ownsRow base e 1 v n xs)
    (vx : Value) (ys : List Value) (hx : a.eval x = vx) (hr : RdA w vx ys) (h1 : ∀ u ∈ ys, u.oneCell' = true)
    (hbytes : (n + ys.length) * bytes ≤ 140737488355328) (hlen : n + ys.length ≤ 140737488355328) (hbase : base ≤ w.heap.size)
    (h : ∀ v' w', w'.ownsRow base e 1 v' (n + ys.length) (xs ++ ys) → w.grownBy w' v.ownBlock → (v'.ownBlock = v.ownBlock ∨ v'.ownBlock = some w.heap.size) → wpList Tryz.prog ops Q rest (a.put o.dst v') w') :
    wpList Tryz.prog ops Q (o :: rest) a w := by
  obtain ⟨i0, hi, hz, hz0, hz2⟩ := info_parts hinf
  rcases hr with ⟨rfl, rfl⟩ | ⟨ad, c, rfl, hlc, hb, hc⟩
  · refine wpList_append_own_none hgd s x t ho base e i0 1 ht hi v n xs hs hown hx ?_
    refine h v w (by simpa using hown) (World.grownBy.refl w _) (.inl rfl)
  · exact wpList_append_own_at w hgd s x t ho base e i0 z 1 bytes ht hi hz hz0 hz2 hz1 (by omega) v n xs hs hown ad ys.length c ys hx (by simp) hc h1 (by unfold maxLen; omega) hbytes hbase (fun v' w' h2 h3 _ h5 => h v' w' h2 h3 h5)
end

/-- A row of the call's own has grown: what was there at the call's start stays. -/
theorem Kp.app {w w1 w2 : World} {e s n : Nat} {v : Value} {xs : List Value} (hk : Kp [] w w1) (hown : w1.ownsRow w.heap.size e s v n xs) (hg : w1.grownBy w2 v.ownBlock) : Kp [] w w2 :=
  hk.trans (Kp.grown (S := v.ownBlock.toList) hg (fun k hk => .inl (by simp [hk]))) (fun x hx => .inr ((hown.lt x (by simpa using hx)).1))

theorem info5 : (Tryz.prog.info? 5).map (fun i => (i.zero, i.size, i.bytes)) = some (some (.int .u8 0), 1, 1) := by kernel_rfl
@[go_sem] theorem eql22 (a : Option Addr) (n c : Nat) (w : World) : (binOp .eql 22 (.slice a n c) (.slice none 0 0)).run Tryz.prog w = .ok (.bool a.isNone) w := Lib.run_eql_slice_nil w 22 5 a n c 0 0 Tryz.underlying22
@[go_sem] theorem neq28 (m : Option Nat) (w : World) : (binOp .neq 28 (.map m) (.map none)).run Tryz.prog w = .ok (.bool (!m.isNone)) w := run_neq_map_nil w 28 9 95 m Tryz.underlying28

/-- slices.Clone of bytes: a row of the call's own with the same cells; what was there stays. -/
theorem clone_any (w : World) (v : Value) (xs : List Value) (hr : RdA w v xs) (h1 : ∀ u ∈ xs, u.oneCell' = true) (hn : xs.length ≤ 140737488355328) :
    Calls Tryz.prog 44 #[v] w fun e w' => ∃ v', e = .returned v' ∧ w'.ownsRow w.heap.size 5 1 v' xs.length xs ∧ Kp [] w w' := by
  rcases hr with ⟨rfl, rfl⟩ | ⟨ad, c, rfl, hlc, hb, hc⟩
  · go_enter Tryz.func44, Tryz.ntmps44
    go_wp2
    go_ret
    exact ⟨_, rfl, World.ownsRow_nil _ _ _ _, Kp.refl _ _⟩
  · have hr : RdA (w.alloc (.cells #[] 5)) (.slice (some ad) xs.length c) xs := RdA.kp (.inr ⟨ad, c, rfl, hlc, hb, hc⟩) (Kp.alloc [] w _) (by simp)
    have hown : (w.alloc (.cells #[] 5)).ownsRow w.heap.size 5 1 (.slice (some ⟨w.heap.size, 0, none⟩) 0 0) 0 [] := World.ownsRow_lit w #[] 0 (Nat.le_refl _) (by unfold maxLen; omega) rfl
    go_enter Tryz.func44, Tryz.ntmps44
    go_wp2_with (at_builtin; refine wpAppend rfl (.tmp 5) (.tmp 6) 22 5 1 _ rfl Tryz.underlying22 info5 rfl w.heap.size (.slice (some ⟨w.heap.size, 0, none⟩) 0 0) 0 [] rfl hown _ xs rfl hr h1 (by omega) (by omega) (by simp) ?_; intro v' w1 hown1 hg1 hat1)
    go_ret
    refine ⟨_, rfl, by simpa using hown1, ?_⟩
    exact (Kp.alloc [] w _).trans (Kp.grown (S := [w.heap.size]) hg1 (by simp [Value.ownBlock])) (by simp)

end Go.Proofs.YtmboklllkdlmgaaGreatDoor
