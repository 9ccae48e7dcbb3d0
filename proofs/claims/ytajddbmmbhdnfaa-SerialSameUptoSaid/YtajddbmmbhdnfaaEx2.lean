/-
  Package expr, walked: flag, Do.
-/
import Derived.Test.YtajddbmmbhdnfaaEx1
namespace Go.Proofs.Ytajddbmmbhdnfaa
set_option linter.unusedVariables false
set_option linter.unusedSimpArgs false
set_option maxRecDepth 100000
open Go.RowKit

namespace Ex
/-- what 'Do' reckons -/
def doo (k a b : Int) : Int :=
  if k = 3 then wrap64 (a + b) else if k = 4 then wrap64 (a - b) else if k = 5 then wrap64 (a * b) else if k = 8 then (if a < b then 1 else 0) else if k = 9 then (if a = b then 1 else 0)
  else if b = 0 then 0 else if k = 6 then wrap64 (a.tdiv b) else if k = 7 then a.tmod b else 0
end Ex

theorem flag_any (b : Bool) (w : World) : Calls Try.prog 57 #[.bool b] w fun e w' => e = .returned (.int .i64 (if b then 1 else 0)) ∧ w = w' := by
  cases b
  all_goals
    go_enter Try.func57, Try.ntmps57
    go_wp2
    go_ret
    exact ⟨rfl, rfl⟩

set_option maxHeartbeats 2000000 in
theorem do_any (k a b : Int) (w : World) : Calls Try.prog 53 #[.int .i64 k, .int .i64 a, .int .i64 b] w fun e w' => e = .returned (.int .i64 (Ex.doo k a b)) ∧ w = w' := by
  by_cases h3 : k = 3
  · subst h3
    go_enter Try.func53, Try.ntmps53
    go_wp2
    go_ret
    exact ⟨ret_int (by simp [Ex.doo]), rfl⟩
  by_cases h4 : k = 4
  · subst h4
    go_enter Try.func53, Try.ntmps53
    go_wp2
    go_ret
    exact ⟨ret_int (by simp [Ex.doo]), rfl⟩
  by_cases h5 : k = 5
  · subst h5
    go_enter Try.func53, Try.ntmps53
    go_wp2
    go_ret
    exact ⟨ret_int (by simp [Ex.doo]), rfl⟩
  by_cases h8 : k = 8
  · subst h8
    have hv : Ex.doo 8 a b = if decide (a < b) = true then 1 else 0 := by simp [Ex.doo]
    rcases hc : decide (a < b) with _ | _
    all_goals
      rw [hc] at hv
      have HV := Lib.hid hv
      clear hv
      go_enter Try.func53, Try.ntmps53
      go_wp2_with fail
      refine (flag_any _ _).mono ?_
      rintro e w' ⟨rfl, rfl⟩
      go_wp2
      go_ret
      exact ⟨ret_int (by rw [HV.out]; simp), rfl⟩
  by_cases h9 : k = 9
  · subst h9
    have hv : Ex.doo 9 a b = if (a == b) = true then 1 else 0 := by simp [Ex.doo]
    rcases hc : (a == b) with _ | _
    all_goals
      rw [hc] at hv
      have HV := Lib.hid hv
      clear hv
      go_enter Try.func53, Try.ntmps53
      go_wp2_with fail
      refine (flag_any _ _).mono ?_
      rintro e w' ⟨rfl, rfl⟩
      go_wp2
      go_ret
      exact ⟨ret_int (by rw [HV.out]; simp), rfl⟩
  have e3 : (k == 3) = false := by simpa using h3
  have e4 : (k == 4) = false := by simpa using h4
  have e5 : (k == 5) = false := by simpa using h5
  have e8 : (k == 8) = false := by simpa using h8
  have e9 : (k == 9) = false := by simpa using h9
  by_cases h0 : b = 0
  · subst h0
    have hv := Lib.hid (show Ex.doo k a 0 = 0 by simp [Ex.doo, h3, h4, h5, h8, h9])
    clear h3 h4 h5 h8 h9
    go_enter Try.func53, Try.ntmps53
    go_wp2
    go_ret
    exact ⟨ret_int (by rw [hv.out]), rfl⟩
  have e0 : (b == 0) = false := by simpa using h0
  by_cases h6 : k = 6
  · subst h6
    have hv := Lib.hid (show Ex.doo 6 a b = wrap64 (a.tdiv b) by simp [Ex.doo, h0])
    clear h3 h4 h5 h8 h9
    go_enter Try.func53, Try.ntmps53
    go_wp2
    go_ret
    exact ⟨ret_int (by rw [hv.out]), rfl⟩
  by_cases h7 : k = 7
  · subst h7
    have hv := Lib.hid (show Ex.doo 7 a b = a.tmod b by simp [Ex.doo, h0])
    clear h3 h4 h5 h8 h9 h6
    go_enter Try.func53, Try.ntmps53
    go_wp2
    go_ret
    exact ⟨ret_int (by rw [hv.out]), rfl⟩
  have e6 : (k == 6) = false := by simpa using h6
  have e7 : (k == 7) = false := by simpa using h7
  have hv := Lib.hid (show Ex.doo k a b = 0 by simp [Ex.doo, h3, h4, h5, h8, h9, h6, h7])
  clear h3 h4 h5 h8 h9 h6 h7 h0
  go_enter Try.func53, Try.ntmps53
  go_wp2
  go_ret
  exact ⟨ret_int (by rw [hv.out]), rfl⟩
end Go.Proofs.Ytajddbmmbhdnfaa
