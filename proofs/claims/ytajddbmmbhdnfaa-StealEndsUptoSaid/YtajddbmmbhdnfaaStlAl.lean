/-
  Workers who steal: what is asked ahead of each law, walked.
-/
import Derived.Test.YtajddbmmbhdnfaaStlEq
import Derived.Test.YtajddbmmbhdnfaaLeaf
namespace Go.Proofs.Ytajddbmmbhdnfaa
set_option linter.unusedVariables false
set_option linter.unusedSimpArgs false
set_option maxRecDepth 100000
open Go.RowKit

def tee : Sp.T := .two true (.one 1 false 0) (.two true (.one 2 false 0) (.one 3 false 0))
def teeP : List Stl.Pk := [⟨1, 0⟩, ⟨1, 0⟩, ⟨0, 0⟩]
theorem tee_is : Stl.sz tee = 5 ∧ tee.size = 3 ∧ Stl.logS tee 2 (Stl.start 0 tee) teeP = [(1, 1), (0, 0)] := by
  refine ⟨by decide, by decide, by decide⟩

theorem alive22_any (w : World) : Calls Try.prog 11 #[] w fun e w' => e = .returned (.bool true) ∧ Below w.heap.size w w' := by
  go_enter Try.func11, Try.ntmps11
  go_wp2_with fail
  refine (leaf_any 1 _).mono ?_
  rintro e w1 ⟨rfl, hb1⟩
  go_wp2_with fail
  refine (leaf_any 2 _).mono ?_
  rintro e w2 ⟨rfl, hb2⟩
  go_wp2_with fail
  refine (leaf_any 3 _).mono ?_
  rintro e w3 ⟨rfl, hb3⟩
  have hb13 : Below w.heap.size w w3 := (by repeat (first | exact Below.refl _ _ | assumption | apply below_alloc | apply below_drew | (apply below_next; assumption)))
  clear hb1 hb2 hb3
  obtain ⟨x0, x1, x2, hz, hk⟩ := three_allocs w3 [.int .i64 1, .int .i64 2, .bool false, .int .i64 0, .slice none 0 0, .int .i64 1, .int .i64 3, .bool false, .int .i64 0, .slice none 0 0] [.int .i64 1, .int .i64 1, .bool false, .int .i64 0, .slice none 0 0, .int .i64 3, .int .i64 0, .bool false, .int .i64 0, .slice (some ⟨w3.heap.size, 0, none⟩) 2 2] [.int .i64 3, .int .i64 0, .bool false, .int .i64 0, .slice (some ⟨w3.heap.size + 1, 0, none⟩) 2 2] 26 26 26
  have hbW := hb13.trans (hk.below hb13.size (fun i h => h.elim))
  go_upto_region 2 with (fail)
  obtain ⟨q0, hq0⟩ : ∃ q, q = w3.heap.size := ⟨_, rfl⟩
  generalize (((w3.alloc (.cells [Value.int .i64 1, .int .i64 2, .bool false, .int .i64 0, .slice none 0 0, .int .i64 1, .int .i64 3, .bool false, .int .i64 0, .slice none 0 0].toArray 26)).alloc (.cells [Value.int .i64 1, .int .i64 1, .bool false, .int .i64 0, .slice none 0 0, .int .i64 3, .int .i64 0, .bool false, .int .i64 0, .slice (some ⟨w3.heap.size, 0, none⟩) 2 2].toArray 26)).alloc (.cells [Value.int .i64 3, .int .i64 0, .bool false, .int .i64 0, .slice (some ⟨w3.heap.size + 1, 0, none⟩) 2 2].toArray 26)) = W at x0 x1 x2 hz hk hbW ⊢
  rw [← hq0] at x0 x1 x2 hz ⊢
  have lf : ∀ n : Int, TmR W.heap.size W [.int .i64 1, .int .i64 n, .bool false, .int .i64 0, .slice none 0 0] (.one n false 0) := fun n => .one n false 0 none 0 0 (Nat.le_refl _) (Nat.zero_le _)
  have r1 : TmR W.heap.size W (tcells 3 0 false 0 (some ⟨q0, 0, none⟩) 2 2) (.two true (.one 2 false 0) (.one 3 false 0)) := TmR.made (xs := [.int .i64 1, .int .i64 2, .bool false, .int .i64 0, .slice none 0 0]) (ys := [.int .i64 1, .int .i64 3, .bool false, .int .i64 0, .slice none 0 0]) true x0 rfl x0.lt (lf 2) (lf 3)
  have rt : TmR W.heap.size W [.int .i64 3, .int .i64 0, .bool false, .int .i64 0, .slice (some ⟨q0 + 1, 0, none⟩) 2 2] tee := TmR.made (xs := [.int .i64 1, .int .i64 1, .bool false, .int .i64 0, .slice none 0 0]) (ys := [.int .i64 3, .int .i64 0, .bool false, .int .i64 0, .slice (some ⟨q0, 0, none⟩) 2 2]) true x1 rfl x1.lt (lf 1) r1
  obtain ⟨s1, s2, s3⟩ := tee_is
  have hr := run_any tee teeP (W.alloc (.cells (pkcs teeP).toArray 29)) W.heap.size [.int .i64 3, .int .i64 0, .bool false, .int .i64 0, .slice (some ⟨q0 + 1, 0, none⟩) 2 2] 2 (.slice (some ⟨W.heap.size, 0, none⟩) 3 3) (rt.alloc (Nat.le_refl _) _) (by simp) (by omega) (by omega) (by decide) (by omega) (by omega) (SlV.lit W (pkcs teeP) 29 2 3 rfl (by omega))
  rw [s2, s3] at hr
  have hbP : Below w.heap.size w (W.alloc (.cells (pkcs teeP).toArray 29)) := below_alloc hbW _
  have c0 : W.cell? ⟨q0 + 1 + 1, 0, none⟩ = some (.int .i64 3) := by rw [x2.cell]; rfl
  have c1 : W.cell? ⟨q0 + 1 + 1, 1, none⟩ = some (.int .i64 0) := by rw [x2.cell]; rfl
  have c2 : W.cell? ⟨q0 + 1 + 1, 2, none⟩ = some (.bool false) := by rw [x2.cell]; rfl
  have c3 : W.cell? ⟨q0 + 1 + 1, 3, none⟩ = some (.int .i64 0) := by rw [x2.cell]; rfl
  have c4 : W.cell? ⟨q0 + 1 + 1, 4, none⟩ = some (.slice (some ⟨q0 + 1, 0, none⟩) 2 2) := by rw [x2.cell]; rfl
  have HR := Lib.hid hr
  clear hr lf r1 rt s1 s2 s3 x0 x1 x2 hz hk hq0
  go_wp2_with fail
  refine HR.out.mono ?_
  rintro e w4 ⟨D, rfl, hD, hb4⟩
  have hD4 := SlV.of_own hD
  have hDS := SlV.alloc hD4 (.cells (donecs [(1, 1), (0, 0)]).toArray 38)
  have hL := SlV.lit w4 (donecs [(1, 1), (0, 0)]) 38 2 2 rfl (by omega)
  have hbE := below_alloc (below_next hb4 hbP) (.cells (donecs [(1, 1), (0, 0)]).toArray 38)
  clear hb4 hbP hD hD4 c0 c1 c2 c3 c4
  go_wp2_with fail
  refine (equal_dones _ _ [(1, 1), (0, 0)] [(1, 1), (0, 0)] _ hDS hL).mono ?_
  rintro e w5 ⟨rfl, m5, rfl⟩
  clear hDS hL
  go_wp2
  go_ret
  exact ⟨rfl, below_drewN hbE _⟩
end Go.Proofs.Ytajddbmmbhdnfaa
