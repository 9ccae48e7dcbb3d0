/-
  ExprRing, walked: its functions.
-/
import Derived.Test.YtniekhedpdkmiaaEx27
import Derived.Test.YtniekhedpdkmiaaApart
namespace Go.Proofs.Ytniekhedpdkmiaa
set_option linter.unusedVariables false
set_option linter.unusedSimpArgs false
open Go.RowKit

def IsR (x : Ex.X) (v : Value) (w : World) : Prop := ∃ cs, v = .agg cs.toArray ∧ XR w.heap.size w cs x
theorem IsR.later {x : Ex.X} {v : Value} {w w' : World} (h : IsR x v w) (hb : Below w.heap.size w w') : IsR x v w' := by
  obtain ⟨cs, h1, h2⟩ := h
  exact ⟨cs, h1, (h2.later hb).up hb.size⟩
def FR (x : Ex.X) : Fact (fun w w' => Below w.heap.size w w') := ⟨IsR x, fun _ _ _ h k => h.later k⟩
def FZ (B : Nat) (t : TypeId) (cs : List Value) : Fact (fun w w' => Below w.heap.size w w') := ⟨fun v w => ∃ g, v = .pointer (some ⟨g, 0, none⟩) ∧ B ≤ g ∧ Blk w g t cs, fun _ _ _ ⟨g, h1, h2, h3⟩ k => ⟨g, h1, h2, h3.below k⟩⟩
theorem FR_old (x : Ex.X) : ∀ v w, (FR x).holds v w → PtrOld w v := by
  rintro _ _ ⟨_, rfl, _⟩ _ h
  cases h
theorem FZ_old (B : Nat) (t : TypeId) (cs : List Value) : ∀ v w, (FZ B t cs).holds v w → PtrOld w v := by
  rintro _ _ ⟨_, rfl, _, hB⟩ _ h
  injection h with h
  injection h with h
  rw [← h]
  exact hB.lt
theorem new_agg (w : World) (cs : Array Value) : PtrNew w (.agg cs) := fun _ h => by cases h
theorem new_ptr (w : World) (g : Nat) (hg : w.heap.size ≤ g) : PtrNew w (.pointer (some ⟨g, 0, none⟩)) := fun _ h => by
  injection h with h
  injection h with h
  rw [← h]
  exact hg

theorem both_call (k : Int) (va vb : Value) (ea eb : Ex.X) (w : World) (ha : IsR ea va w) (hb : IsR eb vb w) (hk3 : 3 ≤ k) (hk9 : k ≤ 9) : Calls Try.prog 20 #[.int .i64 k, va, vb] w fun e w' => ∃ v, e = .returned v ∧ IsR (.two k ea eb) v w' ∧ Below w.heap.size w w' := by
  obtain ⟨ca, rfl, ha⟩ := ha
  obtain ⟨cb, rfl, hb⟩ := hb
  exact (both_any k ca cb ea eb w ha hb hk3 hk9).mono fun r w' ⟨cs, h1, h2, h3⟩ => ⟨_, h1, ⟨cs, rfl, h2⟩, h3⟩

theorem ring1_any (w : World) (q : Nat) (v va : Value) (zs : List Ex.Bd) (e : Ex.X) (hr : zs.length ≤ 8796093022200) (hq : q < w.heap.size) (h7 : w.cell? ⟨q, 0, none⟩ = some v) (hv : SlV w 2 v zs.length (Ex.bindcs zs)) (ha : IsR e va w) (n : Int) (hn : Ex.evl (Ex.bs zs) e = n) :
    Calls Try.prog 18 #[va, .pointer (some ⟨q, 0, none⟩)] w fun r w' => r = .returned (.int .i64 n) ∧ Below w.heap.size w w' := by
  obtain ⟨cs, rfl, h⟩ := ha
  obtain ⟨a0, a1, a2, A3, a4, a5, rfl, -, -⟩ := h.form
  have hb0 : Below w.heap.size w (w.alloc (.cells (xcells a0 a1 a2 A3 a4 a5).toArray 38)) := below_alloc (Below.refl _ _) _
  have x7 := (hb0.cell (p := ⟨q, 0, none⟩) hq).trans h7
  have re := eval_ok v zs hr e _ _ ((h.later hb0).up hb0.size) (hv.below hb0)
  rw [hn] at re
  have HB := Lib.hid hb0
  unfold xcells at re x7 HB ⊢
  clear h h7 hv hb0 hn
  go_enter Try.func18, Try.ntmps18
  go_wp2_with fail
  refine re.mono ?_
  rintro e w1 ⟨rfl, hb1⟩
  clear re x7
  go_wp2
  go_ret
  exact ⟨rfl, below_next hb1 HB.out⟩

theorem ring2_any (w : World) (va vb : Value) (ea eb : Ex.X) (ha : IsR ea va w) (hb : IsR eb vb w) :
    Calls Try.prog 19 #[va, vb] w fun r w' => ∃ v, r = .returned v ∧ IsR (.two 3 ea eb) v w' ∧ Below w.heap.size w w' := by
  obtain ⟨ca, rfl, ha⟩ := ha
  obtain ⟨cb, rfl, hb⟩ := hb
  obtain ⟨a0, a1, a2, A3, a4, a5, rfl, -, -⟩ := ha.form
  obtain ⟨b0, b1, b2, B3, b4, b5, rfl, -, -⟩ := hb.form
  obtain ⟨p0, p1, p2, hz, hb0⟩ := allocs3 w (xcells a0 a1 a2 A3 a4 a5) (xcells b0 b1 b2 B3 b4 b5) Ex.zeros 38 38 38
  have re := both_any (N := false) 3 _ _ ea eb _ ((ha.later hb0).up hb0.size) ((hb.later hb0).up hb0.size) (by omega) (by omega)
  unfold xcells Ex.zeros at re p2 hb0
  have hs := hb0.size
  unfold xcells
  clear ha hb p0 p1 hz
  go_enter Try.func19, Try.ntmps19
  go_wp2_with fail
  refine re.mono ?_
  rintro r w1 ⟨cs, rfl, hx, hb1⟩
  obtain ⟨c0, c1, c2, C3, c4, c5, rfl, -, -⟩ := hx.form
  have p5 := p2.below hb1
  have hb2 := below_next hb1 hb0
  clear re p2 hb0 hb1
  unfold xcells at hx ⊢
  go_wp2_with (refine wpl_put_blk p5 [.int .i64 c0, .int .i64 c1, .string c2, .slice C3 c4 c5] (by kernel_rfl) rfl (xcells_one c0 c1 c2 C3 c4 c5) rfl rfl rfl rfl ?_; intro w3 hB3 hg3)
  exact ret_blk hB3 rfl rfl Try.underlying38 rfl (by kernel_rfl) rfl ⟨_, rfl, ⟨_, rfl, hx.put p5 hg3⟩, hb2.trans (below_of_grown hg3 hb2.size (by omega))⟩

theorem ring3_any (w : World) (va vb : Value) (ea eb : Ex.X) (ha : IsR ea va w) (hb : IsR eb vb w) :
    Calls Try.prog 21 #[va, vb] w fun r w' => ∃ v, r = .returned v ∧ IsR (.two 5 ea eb) v w' ∧ Below w.heap.size w w' := by
  obtain ⟨ca, rfl, ha⟩ := ha
  obtain ⟨cb, rfl, hb⟩ := hb
  obtain ⟨a0, a1, a2, A3, a4, a5, rfl, -, -⟩ := ha.form
  obtain ⟨b0, b1, b2, B3, b4, b5, rfl, -, -⟩ := hb.form
  obtain ⟨p0, p1, p2, hz, hb0⟩ := allocs3 w (xcells a0 a1 a2 A3 a4 a5) (xcells b0 b1 b2 B3 b4 b5) Ex.zeros 38 38 38
  have re := both_any (N := false) 5 _ _ ea eb _ ((ha.later hb0).up hb0.size) ((hb.later hb0).up hb0.size) (by omega) (by omega)
  unfold xcells Ex.zeros at re p2 hb0
  have hs := hb0.size
  unfold xcells
  clear ha hb p0 p1 hz
  go_enter Try.func21, Try.ntmps21
  go_wp2_with fail
  refine re.mono ?_
  rintro r w1 ⟨cs, rfl, hx, hb1⟩
  obtain ⟨c0, c1, c2, C3, c4, c5, rfl, -, -⟩ := hx.form
  have p5 := p2.below hb1
  have hb2 := below_next hb1 hb0
  clear re p2 hb0 hb1
  unfold xcells at hx ⊢
  go_wp2_with (refine wpl_put_blk p5 [.int .i64 c0, .int .i64 c1, .string c2, .slice C3 c4 c5] (by kernel_rfl) rfl (xcells_one c0 c1 c2 C3 c4 c5) rfl rfl rfl rfl ?_; intro w3 hB3 hg3)
  exact ret_blk hB3 rfl rfl Try.underlying38 rfl (by kernel_rfl) rfl ⟨_, rfl, ⟨_, rfl, hx.put p5 hg3⟩, hb2.trans (below_of_grown hg3 hb2.size (by omega))⟩

end Go.Proofs.Ytniekhedpdkmiaa
