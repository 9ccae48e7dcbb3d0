/-
  Package expr, walked: two, flag, Do.
-/
import Derived.Test.YtajddbmmbhdnfaaChecked
import Derived.Test.YtajddbmmbhdnfaaExR
import Derived.Test.YtajddbmmbhdnfaaBase2
import Derived.Test.YtajddbmmbhdnfaaSettle3
import Derived.Deep.RegionWith
namespace Go.Proofs.Ytajddbmmbhdnfaa
set_option linter.unusedVariables false
set_option linter.unusedSimpArgs false
set_option maxRecDepth 100000
open Go.RowKit

theorem allocs2 (w : World) (c0 c1 : List Value) (t0 t1 : TypeId) : Blk ((w.alloc (.cells c0.toArray t0)).alloc (.cells c1.toArray t1)) w.heap.size t0 c0 ∧ Blk ((w.alloc (.cells c0.toArray t0)).alloc (.cells c1.toArray t1)) (w.heap.size + 1) t1 c1 ∧ ((w.alloc (.cells c0.toArray t0)).alloc (.cells c1.toArray t1)).heap.size = w.heap.size + 1 + 1 ∧ Below w.heap.size w ((w.alloc (.cells c0.toArray t0)).alloc (.cells c1.toArray t1)) := by
  have h0 := Blk.new w t0 c0
  have h1 := Blk.new (w.alloc (.cells c0.toArray t0)) t1 c1
  rw [show (w.alloc (.cells c0.toArray t0)).heap.size = w.heap.size + 1 by simp] at h1
  exact ⟨h0.alloc _, h1, by simp, below_alloc (below_alloc (Below.refl _ _) _) _⟩
theorem allocs3 (w : World) (c0 c1 c2 : List Value) (t0 t1 t2 : TypeId) : Blk (((w.alloc (.cells c0.toArray t0)).alloc (.cells c1.toArray t1)).alloc (.cells c2.toArray t2)) w.heap.size t0 c0 ∧ Blk (((w.alloc (.cells c0.toArray t0)).alloc (.cells c1.toArray t1)).alloc (.cells c2.toArray t2)) (w.heap.size + 1) t1 c1 ∧
    Blk (((w.alloc (.cells c0.toArray t0)).alloc (.cells c1.toArray t1)).alloc (.cells c2.toArray t2)) (w.heap.size + 1 + 1) t2 c2 ∧ (((w.alloc (.cells c0.toArray t0)).alloc (.cells c1.toArray t1)).alloc (.cells c2.toArray t2)).heap.size = w.heap.size + 1 + 1 + 1 ∧ Below w.heap.size w (((w.alloc (.cells c0.toArray t0)).alloc (.cells c1.toArray t1)).alloc (.cells c2.toArray t2)) := by
  obtain ⟨h0, h1, hz, hb⟩ := allocs2 w c0 c1 t0 t1
  have h2 := Blk.new ((w.alloc (.cells c0.toArray t0)).alloc (.cells c1.toArray t1)) t2 c2
  rw [hz] at h2
  exact ⟨h0.alloc _, h1.alloc _, h2, by simp, below_alloc hb _⟩

def Ex.zeros : List Value := [.int .i64 0, .int .i64 0, .string ⟨#[]⟩, .slice none 0 0]
theorem xcells_one (k n : Int) (s : ByteArray) (A : Option Addr) (len cap : Nat) : ∀ v ∈ xcells k n s A len cap, v.oneCell' = true := by
  intro v hv
  simp only [xcells, List.mem_cons, List.not_mem_nil, or_false] at hv
  rcases hv with rfl | rfl | rfl | rfl <;> rfl

/-- 'two' of what has two -/
theorem two_yes (B : Nat) (w : World) (cs : List Value) (k : Int) (e0 e1 : Ex.X) (h : XR B w cs (.two k e0 e1)) (hB : B ≤ w.heap.size) :
    Calls Try.prog 52 #[.agg cs.toArray] w fun e w' => ∃ cs0 cs1, e = .returned (.tuple #[.agg cs0.toArray, .agg cs1.toArray, .bool true]) ∧ XR B w cs0 e0 ∧ XR B w cs1 e1 ∧ Below w.heap.size w w' := by
  cases h with
  | two k n s g o len cap cs0 cs1 e0 e1 hle hm hk3 hk9 h2 hg h5 h6 r0 r1 =>
  obtain ⟨a0, a1, a2, A3, a4, a5, rfl, -, -⟩ := r0.form
  obtain ⟨b0, b1, b2, B3, b4, b5, rfl, -, -⟩ := r1.form
  have x0 := h5 0 _ rfl
  have x1 := h5 1 _ rfl
  have x2 := h5 2 _ rfl
  have x3 := h5 3 _ rfl
  have y0 := h6 0 _ rfl
  have y1 := h6 1 _ rfl
  have y2 := h6 2 _ rfl
  have y3 := h6 3 _ rfl
  rw [Nat.add_zero] at x0 y0
  unfold maxLen at hm
  have hgw : g < w.heap.size := by omega
  have old : ∀ (o0 o1 o2 : Obj) (j : Nat), (((w.alloc o0).alloc o1).alloc o2).cell? ⟨g, j, none⟩ = w.cell? ⟨g, j, none⟩ := fun o0 o1 o2 j =>
    (below_alloc (below_alloc (below_alloc (Below.refl _ w) o0) o1) o2).cell (p := ⟨g, j, none⟩) hgw
  have x0' := fun o0 o1 o2 => (old o0 o1 o2 _).trans x0
  have x1' := fun o0 o1 o2 => (old o0 o1 o2 _).trans x1
  have x2' := fun o0 o1 o2 => (old o0 o1 o2 _).trans x2
  have x3' := fun o0 o1 o2 => (old o0 o1 o2 _).trans x3
  have y0' := fun o0 o1 o2 => (old o0 o1 o2 _).trans y0
  have y1' := fun o0 o1 o2 => (old o0 o1 o2 _).trans y1
  have y2' := fun o0 o1 o2 => (old o0 o1 o2 _).trans y2
  have y3' := fun o0 o1 o2 => (old o0 o1 o2 _).trans y3
  clear old x0 x1 x2 x3 y0 y1 y2 y3
  unfold xcells
  have R0 := Lib.hid r0
  have R1 := Lib.hid r1
  have g1 : decide (k < 3) = false := by simp; omega
  have g2 : decide (9 < k) = false := by simp; omega
  have g3 : decide ((len : Int) < 2) = false := by simp; omega
  have g3' : decide (len < 2) = false := by simp; omega
  have m0 : (0 : Int) < (len : Int) := by omega
  have m1 : (1 : Int) < (len : Int) := by omega
  have m2 : 0 < len := by omega
  have m3 : 1 < len := by omega
  clear h5 h6 r0 r1
  go_enter Try.func52, Try.ntmps52
  go_wp2_with fail
  go_region_with (fail)
  all_goals
    go_wp2
    exact bodyPost_ret (v := .tuple #[.agg #[.int .i64 a0, .int .i64 a1, .string a2, .slice A3 a4 a5], .agg #[.int .i64 b0, .int .i64 b1, .string b2, .slice B3 b4 b5], .bool true]) (by simp [results, Try.results52, go_sem]) rfl ⟨_, _, rfl, R0.out, R1.out, (by repeat (first | exact Below.refl _ _ | apply below_drew | apply below_alloc))⟩

/-- 'two' of what has none -/
theorem two_no (w : World) (k n : Int) (s : ByteArray) (A : Option Addr) (len cap : Nat) (hno : ¬ ((3 ≤ k ∧ k ≤ 9) ∧ 2 ≤ len)) (hle : len ≤ cap) (hm : cap ≤ maxLen) :
    Calls Try.prog 52 #[.agg (xcells k n s A len cap).toArray] w fun e w' => e = .returned (.tuple #[.agg Ex.zeros.toArray, .agg Ex.zeros.toArray, .bool false]) ∧ Below w.heap.size w w' := by
  unfold xcells Ex.zeros
  unfold maxLen at hm
  by_cases h1 : k < 3
  · have g1 : decide (k < 3) = true := by simpa using h1
    clear hno
    go_enter Try.func52, Try.ntmps52
    go_wp2_with fail
    go_region_with (fail)
    all_goals
      go_wp2
      exact bodyPost_ret (v := .tuple #[.agg #[.int .i64 0, .int .i64 0, .string ⟨#[]⟩, .slice none 0 0], .agg #[.int .i64 0, .int .i64 0, .string ⟨#[]⟩, .slice none 0 0], .bool false]) (by simp [results, Try.results52, go_sem]) rfl ⟨rfl, (by repeat (first | exact Below.refl _ _ | apply below_drew | apply below_alloc))⟩
  have g1 : decide (k < 3) = false := by simpa using h1
  by_cases h2 : 9 < k
  · have g2 : decide (9 < k) = true := by simpa using h2
    clear hno
    go_enter Try.func52, Try.ntmps52
    go_wp2_with fail
    go_region_with (fail)
    all_goals
      go_wp2
      exact bodyPost_ret (v := .tuple #[.agg #[.int .i64 0, .int .i64 0, .string ⟨#[]⟩, .slice none 0 0], .agg #[.int .i64 0, .int .i64 0, .string ⟨#[]⟩, .slice none 0 0], .bool false]) (by simp [results, Try.results52, go_sem]) rfl ⟨rfl, (by repeat (first | exact Below.refl _ _ | apply below_drew | apply below_alloc))⟩
  have g2 : decide (9 < k) = false := by simpa using h2
  have g3 : decide ((len : Int) < 2) = true := by simp; omega
  have g3' : decide (len < 2) = true := by simp; omega
  clear hno h1 h2
  go_enter Try.func52, Try.ntmps52
  go_wp2_with fail
  go_region_with (fail)
  all_goals
    go_wp2
    exact bodyPost_ret (v := .tuple #[.agg #[.int .i64 0, .int .i64 0, .string ⟨#[]⟩, .slice none 0 0], .agg #[.int .i64 0, .int .i64 0, .string ⟨#[]⟩, .slice none 0 0], .bool false]) (by simp [results, Try.results52, go_sem]) rfl ⟨rfl, (by repeat (first | exact Below.refl _ _ | apply below_drew | apply below_alloc))⟩
end Go.Proofs.Ytajddbmmbhdnfaa
