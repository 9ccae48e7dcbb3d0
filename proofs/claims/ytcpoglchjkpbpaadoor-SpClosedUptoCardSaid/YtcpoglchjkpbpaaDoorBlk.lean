/-
  A block that is known whole: what a load and a store of a part of it give; two arrays of bools held against each other.
-/
import Derived.Test.YtcpoglchjkpbpaaDoorBase
import Derived.ChangeKeysEq
namespace Go.Proofs.YtcpoglchjkpbpaaDoor
set_option linter.unusedVariables false
set_option linter.unusedSimpArgs false
set_option maxRecDepth 100000
open Go.ChangeShapes Go.WideShapes Go.ChangeAt Go.RowKit

def Blk (w : World) (g : Nat) (t : TypeId) (cs : List Value) : Prop := w.heap[g]? = some (.cells cs.toArray t (0, 0))

section
variable {w w' : World} {g : Nat} {t : TypeId} {cs : List Value}
theorem Blk.lt (h : Blk w g t cs) : g < w.heap.size := (Array.getElem?_eq_some_iff.1 h).1
theorem Blk.cell (h : Blk w g t cs) (i : Nat) : w.cell? ⟨g, i, none⟩ = cs[i]? := by
  rw [cell_of_row w g i cs.toArray t (0, 0) h]; simp
theorem Blk.frozen (h : Blk w g t cs) (i : Nat) : w.frozen? ⟨g, i, none⟩ = false := frozen_of_row w g i _ t h
theorem Blk.new (w : World) (t : TypeId) (cs : List Value) : Blk (w.alloc (.cells cs.toArray t)) w.heap.size t cs := heap_alloc_new w _
theorem Blk.alloc (h : Blk w g t cs) (o : Obj) : Blk (w.alloc o) g t cs := (Below.heap_alloc w o g h.lt).trans h
theorem Blk.below (h : Blk w g t cs) (hb : Below w.heap.size w w') : Blk w' g t cs := (hb.block g h.lt).trans h
theorem Blk.set_ (h : Blk w g t cs) (i : Nat) (u : Value) : Blk (w.setCell ⟨g, i, none⟩ u) g t (cs.set i u) := by
  have := heap_setCell_same w g i cs.toArray t u h
  unfold Blk
  rw [this]
  simp
theorem Blk.far (h : Blk w g t cs) {p : Addr} (hp : g ≠ p.block) (u : Value) : Blk (w.setCell p u) g t cs := (Below.heap_setCell w p u g hp).trans h
theorem Blk.row (h : Blk w g t cs) (ds : List Value) : Blk (w.setRow g ds.toArray) g t ds := setRow_heap w g cs.toArray _ t _ h
theorem Blk.farRow (h : Blk w g t cs) {k : Nat} (hk : g ≠ k) (ds : Array Value) : Blk (w.setRow k ds) g t cs := (setRow_other w k g ds hk).trans h

theorem Blk.drewN (h : Blk w g t cs) (n : Nat) : Blk (w.drewN n) g t cs := h
theorem Blk.drew (h : Blk w g t cs) : Blk w.drew g t cs := h
theorem grown_undrewN {a b : World} {n : Nat} {r : Option Nat} (h : (a.drewN n).grownBy b r) : a.grownBy b r := ⟨h.os, h.tape, h.output, h.size, h.block⟩
theorem Blk.grown (h : Blk w g t cs) {r : Option Nat} (hg : w.grownBy w' r) (hne : some g ≠ r) : Blk w' g t cs := (hg.block g h.lt hne).trans h

theorem grown_setRow (w : World) (g : Nat) (ds : Array Value) : w.grownBy (w.setRow g ds) (some g) := ⟨rfl, rfl, rfl, by simp, fun k _ hk => setRow_other w g k ds (fun e => hk (by simp [e]))⟩
theorem grown_setCell (w : World) (g i : Nat) (u : Value) : w.grownBy (w.setCell ⟨g, i, none⟩ u) (some g) := ⟨rfl, rfl, rfl, by simp [World.setCell], fun k _ hk => Below.heap_setCell w _ u k (fun e => hk (by simp [e]))⟩
theorem grown_alloc (w : World) (o : Obj) (r : Option Nat) : w.grownBy (w.alloc o) r := World.grownBy_alloc w o r
theorem grown_trans {a b c : World} {r : Option Nat} (h : a.grownBy b r) (k : b.grownBy c r) : a.grownBy c r :=
  ⟨k.os.trans h.os, k.tape.trans h.tape, k.output.trans h.output, Nat.le_trans h.size k.size, fun i hi hne => (k.block i (Nat.lt_of_lt_of_le hi h.size) hne).trans (h.block i hi hne)⟩
theorem grown_of_below {a b : World} (h : Below a.heap.size a b) (r : Option Nat) : a.grownBy b r := ⟨h.os, h.tape, h.output, h.size, fun i hi _ => h.block i hi⟩
theorem grown_drewN (w : World) (n : Nat) (r : Option Nat) : w.grownBy (w.drewN n) r := ⟨rfl, rfl, rfl, Nat.le_refl _, fun _ _ _ => rfl⟩
theorem grown_drew (w : World) (r : Option Nat) : w.grownBy w.drew r := ⟨rfl, rfl, rfl, Nat.le_refl _, fun _ _ _ => rfl⟩
/-- only block g may have turned, and g is the call's own -/
theorem below_of_grown {a b : World} {B g : Nat} (h : a.grownBy b (some g)) (hB : B ≤ a.heap.size) (hg : B ≤ g) : Below B a b :=
  ⟨h.os, h.tape, h.output, h.size, fun i hi => h.block i (by omega) (fun e => by injection e; omega)⟩
end

theorem wpList_want {P : Program} {ops : Array Oper} {Q : Exit → Act → World → Prop} {a : Act} {w : World} {rest : List Oper} {o : Oper} (hg : Region.wanted o (yielded ops a.tmps) = true)
    (h : ∀ K : Act → World → Prop, (∀ a w, wpList P ops Q rest a w → K a w) → o.wp P a w K Q) : wpList P ops Q (o :: rest) a w :=
  wpList_step fun K hK => by rw [if_pos hg]; exact h K hK

section
variable {P : Program} {w : World} {g : Nat} {t : TypeId} {cs : List Value}

theorem run_loadVar_blk (h : Blk w g t cs) (ty : TypeId) (o k : Nat) (hu : ((P.underlying ty).map fun | .struct _ | .array _ _ => true | _ => false) = some true) (hi : (P.info? ty).map (·.size) = some k) (hk : o + k ≤ cs.length) :
    (loadVar ty ⟨g, o, none⟩).run P w = .ok (.agg ((cs.drop o).take k).toArray) w := by
  obtain ⟨d, hd, hdd⟩ := Option.map_eq_some_iff.1 hu
  obtain ⟨i, hii, his⟩ := Option.map_eq_some_iff.1 hi
  have hl : ((cs.drop o).take k).length = k := by simp; omega
  have hc : ∀ j v, ((cs.drop o).take k)[j]? = some v → w.cell? ((⟨g, o, none⟩ : Addr).add j) = some v := by
    intro j v hv
    rw [Addr.add_lit, h.cell]
    rw [List.getElem?_take] at hv
    split at hv
    · rw [← hv, List.getElem?_drop]
    · cases hv
  have hld := run_loadCells_list (P := P) w ⟨g, o, none⟩ _ hc
  rw [hl] at hld
  have hagg : (isAgg ty).run P w = .ok true w := by
    unfold isAgg
    rw [Sem.run_bind, run_underlying hd w]
    cases d <;> simp_all
  simp [loadVar, Sem.run_bind, hagg, sizeOf, typeInfo, hii, his, hld]

theorem wp_load_blk {o : Oper} {a : Act} {K : Act → World → Prop} {Q : Exit → Act → World → Prop} (h : Blk w g t cs) (ty : TypeId) (x : Operand) (off k : Nat)
    (hu : ((P.underlying ty).map fun | .struct _ | .array _ _ => true | _ => false) = some true) (hi : (P.info? ty).map (·.size) = some k) (hk : off + k ≤ cs.length)
    (ho : o.op = .load ty x) (hx : a.eval x = .pointer (some ⟨g, off, none⟩))
    (hK : K (a.put o.dst (.agg ((cs.drop off).take k).toArray)) w) : o.wp P a w K Q := by
  unfold Oper.wp execOp
  simp only [ho, hx, Instr.loadAt, Instr.sureAddr, Sem.run_bind, Sem.run_pure, Result.andThen_ok, run_loadVar_blk h ty off k hu hi hk]
  exact hK

theorem wpl_load_blk {ops : Array Oper} {rest : List Oper} {o : Oper} {a : Act} {Q : Exit → Act → World → Prop} (h : Blk w g t cs) (ty : TypeId) (off k : Nat)
    (hu : ((P.underlying ty).map fun | .struct _ | .array _ _ => true | _ => false) = some true) (hi : (P.info? ty).map (·.size) = some k) (hk : off + k ≤ cs.length)
    (hgd : Region.wanted o (yielded ops a.tmps) = true) {x : Operand} (ho : o.op = .load ty x) (hx : a.eval x = .pointer (some ⟨g, off, none⟩))
    (hK : wpList P ops Q rest (a.put o.dst (.agg ((cs.drop off).take k).toArray)) w) : wpList P ops Q (o :: rest) a w :=
  wpList_want hgd fun _ h' => wp_load_blk h ty x off k hu hi hk ho hx (h' _ _ hK)

theorem run_storeVar_blk (h : Blk w g t cs) (ty : TypeId) (o k : Nat) (vs : List Value) (hi : (P.info? ty).map (·.size) = some k) (hv : vs.length = k) (hk : o + k ≤ cs.length) (h1 : ∀ v ∈ vs, v.oneCell' = true) :
    (storeVar ty ⟨g, o, none⟩ (.agg vs.toArray)).run P w = .ok () (w.setRow g (cs.take o ++ vs ++ cs.drop (o + k)).toArray) := by
  obtain ⟨i, hii, his⟩ := Option.map_eq_some_iff.1 hi
  have := run_storeCells_at P g o t vs 0 cs.toArray w h (by simp; omega) h1
  simp only [Nat.add_zero, hv] at this
  simp [storeVar, sizeOf, typeInfo, hii, his, Value.cells, hv, this]

theorem wp_store_blk {o : Oper} {a : Act} {K : Act → World → Prop} {Q : Exit → Act → World → Prop} (h : Blk w g t cs) (ty : TypeId) (x y : Operand) (off k : Nat) (vs : List Value) (hi : (P.info? ty).map (·.size) = some k) (hv : vs.length = k) (hk : off + k ≤ cs.length) (h1 : ∀ v ∈ vs, v.oneCell' = true)
    (ho : o.op = .store ty x y) (hx : a.eval x = .pointer (some ⟨g, off, none⟩)) (hy : a.eval y = .agg vs.toArray)
    (hK : K (a.put o.dst undef) (w.setRow g (cs.take off ++ vs ++ cs.drop (off + k)).toArray)) : o.wp P a w K Q := by
  unfold Oper.wp execOp
  simp only [ho, hx, hy, Instr.storeAt, Instr.sureAddr, Sem.run_bind, Sem.run_pure, Result.andThen_ok, run_storeVar_blk h ty off k vs hi hv hk h1]
  exact hK

theorem wpl_store_blk {ops : Array Oper} {rest : List Oper} {o : Oper} {a : Act} {Q : Exit → Act → World → Prop} (h : Blk w g t cs) (ty : TypeId) (off k : Nat) (vs : List Value) (hi : (P.info? ty).map (·.size) = some k) (hv : vs.length = k) (hk : off + k ≤ cs.length) (h1 : ∀ v ∈ vs, v.oneCell' = true)
    (hgd : Region.wanted o (yielded ops a.tmps) = true) {x y : Operand} (ho : o.op = .store ty x y) (hx : a.eval x = .pointer (some ⟨g, off, none⟩)) (hy : a.eval y = .agg vs.toArray)
    (hK : ∀ w', Blk w' g t (cs.take off ++ vs ++ cs.drop (off + k)) → w.grownBy w' (some g) → wpList P ops Q rest (a.put o.dst undef) w') : wpList P ops Q (o :: rest) a w :=
  wpList_want hgd fun _ h' => wp_store_blk h ty x y off k vs hi hv hk h1 ho hx hy (h' _ _ (hK _ (h.row _) (grown_setRow _ _ _)))

theorem whole_put {cs vs : List Value} {k : Nat} (h : cs.length = k) : cs.take 0 ++ vs ++ cs.drop (0 + k) = vs := by
  rw [List.take_zero, List.nil_append, List.drop_of_length_le (by omega), List.append_nil]

/-- a store of all of it -/
theorem wpl_put_blk {ops : Array Oper} {rest : List Oper} {o : Oper} {a : Act} {Q : Exit → Act → World → Prop} (h : Blk w g t cs) (vs : List Value) {ty : TypeId} (hi : (P.info? ty).map (·.size) = some cs.length) (hv : vs.length = cs.length) (h1 : ∀ v ∈ vs, v.oneCell' = true)
    (hgd : Region.wanted o (yielded ops a.tmps) = true) {x y : Operand} (ho : o.op = .store ty x y) (hx : a.eval x = .pointer (some ⟨g, 0, none⟩)) (hy : a.eval y = .agg vs.toArray)
    (hK : ∀ w', Blk w' g t vs → w.grownBy w' (some g) → wpList P ops Q rest (a.put o.dst undef) w') : wpList P ops Q (o :: rest) a w := by
  refine wpl_store_blk h ty 0 cs.length vs hi hv (by omega) h1 hgd ho hx hy fun w' h2 h3 => hK w' ?_ h3
  rwa [whole_put rfl] at h2
/-- a load of all of it -/
theorem wpl_get_blk {ops : Array Oper} {rest : List Oper} {o : Oper} {a : Act} {Q : Exit → Act → World → Prop} (h : Blk w g t cs) {ty : TypeId}
    (hu : ((P.underlying ty).map fun | .struct _ | .array _ _ => true | _ => false) = some true) (hi : (P.info? ty).map (·.size) = some cs.length)
    (hgd : Region.wanted o (yielded ops a.tmps) = true) {x : Operand} (ho : o.op = .load ty x) (hx : a.eval x = .pointer (some ⟨g, 0, none⟩))
    (hK : wpList P ops Q rest (a.put o.dst (.agg cs.toArray)) w) : wpList P ops Q (o :: rest) a w := by
  refine wpl_load_blk h ty 0 cs.length hu hi (by omega) hgd ho hx ?_
  rw [List.drop_zero, List.take_length]
  exact hK

/-- a store into one cell of it -/
theorem wpl_set_blk {ops : Array Oper} {rest : List Oper} {o : Oper} {a : Act} {Q : Exit → Act → World → Prop} (h : Blk w g t cs) (i : Nat) (u : Value) {ty : TypeId} (hi : (P.info? ty).map (·.size) = some 1) (hk : i < cs.length) (hu : u.cells = #[u]) (h1 : u.oneCell' = true)
    (hgd : Region.wanted o (yielded ops a.tmps) = true) {x y : Operand} (ho : o.op = .store ty x y) (hx : a.eval x = .pointer (some ⟨g, i, none⟩)) (hy : a.eval y = u)
    (hK : ∀ w', Blk w' g t (cs.set i u) → w.grownBy w' (some g) → wpList P ops Q rest (a.put o.dst undef) w') : wpList P ops Q (o :: rest) a w := by
  refine wpList_want hgd fun _ h' => ?_
  obtain ⟨inf, hii, his⟩ := Option.map_eq_some_iff.1 hi
  have := run_storeCells_at P g i t [u] 0 cs.toArray w h (by simp; omega) (by simpa using h1)
  simp only [Nat.add_zero, List.length_singleton] at this
  have hrun : (storeVar ty ⟨g, i, none⟩ u).run P w = .ok () (w.setRow g (cs.take i ++ [u] ++ cs.drop (i + 1)).toArray) := by
    simp [storeVar, sizeOf, typeInfo, hii, his, hu, this]
  have e : cs.take i ++ [u] ++ cs.drop (i + 1) = cs.set i u := by
    rw [List.set_eq_take_append_cons_drop, if_pos hk]
    simp
  rw [e] at hrun
  unfold Oper.wp execOp
  simp only [ho, hx, hy, Instr.storeAt, Instr.sureAddr, Sem.run_bind, Sem.run_pure, Result.andThen_ok, hrun]
  exact h' _ _ (hK _ (h.row _) (grown_setRow _ _ _))
end

/-- a result that lies in a block -/
theorem ret_blk {P : Program} {fn : Func} {R : Ending → World → Prop} {a : Act} {w : World} {p : Tmp} {ty : TypeId} {g : Nat} {t : TypeId} {cs : List Value} (hB : Blk w g t cs) (hr : fn.results = #[.cell p ty]) (hp : a.tmps.getD p undef = .pointer (some ⟨g, 0, none⟩)) {d : TypeDesc}
    (hu : P.underlying ty = some d) (hd : (match d with | .struct _ | .array _ _ => true | _ => false) = true) (hi : (P.info? ty).map (·.size) = some cs.length) (hdf : a.defers = []) (hR : R (.returned (.agg cs.toArray)) w) : bodyPost P fn R .ret a w :=
  bodyPost_ret (results_cell_row hr _ _ g t cs.toArray (0, 0) d hp hB hu hd (by simpa using hi)) hdf hR

/-! ### two arrays of bools -/
def bools (l : List Bool) : List Value := l.map .bool
theorem bools_one (l : List Bool) : ∀ v ∈ bools l, v.oneCell' = true := by
  intro v hv
  obtain ⟨b, _, rfl⟩ := List.mem_map.1 hv
  rfl

theorem run_eqItems_bools {P : Program} (w : World) (d : Nat) (e : TypeId) (he : P.underlying e = some .bool) (hc : P.cellsOf e = 1) (xs ys : List Bool) (hl : xs.length = ys.length) :
    ∀ (n k : Nat), k + n = xs.length → (Op.eqItems (d + 1) e (P.cellsOf e) (bools xs).toArray (bools ys).toArray (List.range' k n)).run P w = .ok (decide (xs.drop k = ys.drop k)) w := by
  intro n
  induction n with
  | zero =>
    intro k hk
    rw [List.drop_of_length_le (by omega), List.drop_of_length_le (by omega)]
    simp [Op.eqItems]
  | succ n ih =>
    intro k hk
    have hx : xs[k]? = some xs[k] := List.getElem?_eq_getElem (by omega)
    have hy : ys[k]? = some ys[k] := List.getElem?_eq_getElem (by omega)
    have hagg : (isAgg e).run P w = .ok false w := by
      unfold isAgg
      rw [Sem.run_bind, run_underlying he w]
      rfl
    have px : (part e (bools xs).toArray (k * P.cellsOf e)).run P w = .ok (.bool xs[k]) w := by
      simp [part, Sem.run_bind, hagg, hc, bools, hx]
    have py : (part e (bools ys).toArray (k * P.cellsOf e)).run P w = .ok (.bool ys[k]) w := by
      simp [part, Sem.run_bind, hagg, hc, bools, hy]
    rw [List.range'_succ]
    simp only [Op.eqItems, Sem.run_bind, px, py, run_equalIn_bool w d e _ _ he, Result.andThen_ok]
    have dx : xs.drop k = xs[k] :: xs.drop (k + 1) := List.drop_eq_getElem_cons (by omega)
    have dy : ys.drop k = ys[k] :: ys.drop (k + 1) := List.drop_eq_getElem_cons (by omega)
    have e : (xs.drop k = ys.drop k) ↔ (xs[k] = ys[k] ∧ xs.drop (k + 1) = ys.drop (k + 1)) := by rw [dx, dy, List.cons.injEq]
    by_cases hb : xs[k] = ys[k]
    · have hb' : (!(xs[k] == ys[k])) = false := by simp [hb]
      rw [hb', if_neg (by simp), ih (k + 1) (by omega)]
      simp only [e, hb, true_and]
    · have hb' : (!(xs[k] == ys[k])) = true := by simp [hb]
      rw [hb', if_pos rfl]
      simp only [e, hb, false_and]
      rfl

theorem run_equal_bools {P : Program} (w : World) (t e : TypeId) (n : Nat) (ht : P.underlying t = some (.array n e)) (he : P.underlying e = some .bool) (hc : P.cellsOf e = 1) (hi : (P.info? e).isSome = true) (xs ys : List Bool) (hx : xs.length = n) (hy : ys.length = n) (b : Bool) (hb : decide (xs = ys) = b) :
    (Op.equalIn 10000 t (.agg (bools xs).toArray) (.agg (bools ys).toArray)).run P w = .ok b w := by
  subst hb
  obtain ⟨i, hi⟩ := Option.isSome_iff_exists.1 hi
  have := run_equalIn_array (P := P) w 9999 (bools xs).toArray (bools ys).toArray ht hi
  have h2 := run_eqItems_bools (P := P) w 9998 e he hc xs ys (by omega) n 0 (by omega)
  rw [← List.range_eq_range'] at h2
  rw [this, h2]
  simp
end Go.Proofs.YtcpoglchjkpbpaaDoor
