/-
  A map of integers to integers that the call makes, read as a function.
-/
import Derived.Test.YtajddbmmbhdnfaaTm
import Derived.Maps.OwnOps
import Derived.Maps.Views
namespace Go.Proofs.Ytajddbmmbhdnfaa
set_option linter.unusedVariables false
set_option linter.unusedSimpArgs false
set_option maxRecDepth 100000
open Go.RowKit Go.Maps

theorem keyed_i64 : Keyed Try.prog 3 := int_keyed Try.underlying3
theorem zero_i64 (w : World) : (zeroValue 3).run Try.prog w = .ok (.int .i64 0) w := by kernel_rfl

structure MapI (w : World) (g n : Nat) (f : Int → Int) : Prop where
  is : ∃ D : DataW Unit, w.ownsMap Try.prog 3 (plainElem Try.prog 3) g n D ∧ IsMap D ∧ ∀ k, (Lit.int .i64 k).wf = true → D.atKey (.int .i64 k) (.lit (.int .i64 0)) = .lit (.int .i64 (f k))

theorem MapI.made (w : World) : MapI (w.alloc (.map #[] 0)) w.heap.size 0 (fun _ => 0) := ⟨_, World.ownsMap_made _ _ _ _, isMap_empty, fun _ _ => rfl⟩
theorem MapI.lt {w : World} {g n : Nat} {f : Int → Int} (h : MapI w g n f) : g < w.heap.size := by obtain ⟨D, h1, -⟩ := h.is; exact h1.lt
theorem MapI.keep {w w' : World} {g n : Nat} {f : Int → Int} (h : MapI w g n f) (hg : w'.heap[g]? = w.heap[g]?) : MapI w' g n f := by
  obtain ⟨D, ⟨es, clock, hb, F, hs, hD⟩, h2, h3⟩ := h.is
  exact ⟨D, ⟨es, clock, hg.trans hb, F, hs, hD⟩, h2, h3⟩
theorem MapI.below {w w' : World} {g n B : Nat} {f : Int → Int} (h : MapI w g n f) (hb : Below B w w') (hB : g < B) : MapI w' g n f := h.keep (hb.block g hB)
theorem MapI.next {w w' : World} {g n : Nat} {f : Int → Int} (h : MapI w g n f) (hb : Below w.heap.size w w') : MapI w' g n f := h.below hb h.lt
theorem MapI.look {w : World} {g n : Nat} {f : Int → Int} (h : MapI w g n f) {k : Int} (hk : (Lit.int .i64 k).wf = true) : (Instr.lookup 46 (.map (some g)) (.int .i64 k) false).run Try.prog w = .ok (.int .i64 (f k)) w := by
  obtain ⟨D, h1, h2, h3⟩ := h.is
  obtain ⟨c, hrun, hat, -⟩ := h1.lookup_int keyed_i64 Try.underlying46 Try.underlying3 (zero_i64 _) (keyOf_int_mk Try.underlying3 hk)
  rw [h3 k hk] at hat
  injection hat with hat
  injection hat with _ hat
  rw [hat]
  exact hrun

theorem wp_mapset {P : Program} (hP : P = Try.prog) (w : World) {ops : Array Oper} {rest : List Oper} {o : Oper} {a : Act} {Q : Exit → Act → World → Prop}
    (hg : o.guard = none) (m x v : Operand) (hop : o.op = Op.mapUpdate 46 m x v) (g n : Nat) (f : Int → Int) (hm : a.eval m = .map (some g)) (h : MapI w g n f) (hn : n < maxLen)
    (k u : Int) (hx : a.eval x = .int .i64 k) (hv : a.eval v = .int .i64 u) (hk : (Lit.int .i64 k).wf = true) (hu : (Lit.int .i64 u).wf = true)
    (hK : ∀ w', MapI w' g (n + 1) (fun j => if j = k then u else f j) → w.grownBy w' (some g) → wpList P ops Q rest (a.put o.dst undef) w') :
    wpList P ops Q (o :: rest) a w := by
  subst hP
  obtain ⟨D, h1, h2, h3⟩ := h.is
  refine wpList_mapUpdate_own w hg m x v _ hop _ _ keyed_i64 Try.underlying46 _ g n D hm h1 hn _ _ _ hx hv (keyOf_int_mk Try.underlying3 hk) _ [] (plainElem_int Try.underlying3 hu) ?_
  intro w' hown hgr
  refine hK w' ⟨_, hown, h2.put _ _, fun j hj => ?_⟩ hgr
  by_cases e : j = k
  · subst e
    rw [if_pos rfl, atKey_put_same h2 (by first | trivial | exact ⟨_, _, rfl⟩ | (constructor))]
  · rw [if_neg e, atKey_put_other (by intro h; injection h with _ h; exact e h)]
    exact h3 j hj
end Go.Proofs.Ytajddbmmbhdnfaa
