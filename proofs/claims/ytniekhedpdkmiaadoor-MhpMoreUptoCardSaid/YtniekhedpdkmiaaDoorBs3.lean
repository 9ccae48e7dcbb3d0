/-
  Package bitset, walked: And, Or, Less, Within.
-/
import Derived.Test.YtniekhedpdkmiaaDoorBs2
import Derived.Shelf.Abstract
namespace Go.Proofs.YtniekhedpdkmiaaDoor
set_option linter.unusedVariables false
set_option linter.unusedSimpArgs false
open Go.RowKit Go.Shelf

theorem bits_andNot_u64_nat (a b : Nat) (ha : a < 18446744073709551616) (hb : b < 18446744073709551616) :
    bits .andNot .u64 (a : Int) (b : Int) = ((Bs.fless a b : Nat) : Int) := by
  have hx : Bs.fless a b < 18446744073709551616 := Bs.fless_lt ha
  have h1 : (BitVec.ofInt 64 (a : Int)).toNat = a := by
    rw [BitVec.ofInt_natCast, BitVec.toNat_ofNat]; exact Nat.mod_eq_of_lt (by omega)
  have h2 : (BitVec.ofInt 64 (b : Int)).toNat = b := by
    rw [BitVec.ofInt_natCast, BitVec.toNat_ofNat]; exact Nat.mod_eq_of_lt (by omega)
  show IntKind.u64.wrap ((BitVec.ofInt 64 (a : Int) &&& ~~~ BitVec.ofInt 64 (b : Int)).toNat : Int) = _
  rw [BitVec.toNat_and, BitVec.toNat_not, h1, h2, IntKind.wrap_u64]
  unfold Bs.fless at *
  rw [show 2 ^ 64 - 1 - b = 18446744073709551615 - b by omega]
  omega

theorem fn_and : Fn2 30 Bs.fand where
  ent := enters_of Tryd.func30 (by kernel_rfl) rfl
  lt := fun _ _ ha _ => Bs.fand_lt ha
  run := fun w a b ha hb => by
    have h := bits_and_u64_nat a b ha hb
    have H := Lib.hid h
    clear h
    go_enter Tryd.func30, Tryd.ntmps30
    go_wp2
    go_ret
    exact ⟨ret_int H.out, rfl⟩
theorem fn_or : Fn2 45 Bs.for_ where
  ent := enters_of Tryd.func45 (by kernel_rfl) rfl
  lt := fun _ _ ha hb => Bs.for_lt ha hb
  run := fun w a b ha hb => by
    have h := bits_or_u64_nat a b ha hb
    have H := Lib.hid h
    clear h
    go_enter Tryd.func45, Tryd.ntmps45
    go_wp2
    go_ret
    exact ⟨ret_int H.out, rfl⟩
theorem fn_less : Fn2 32 Bs.fless where
  ent := enters_of Tryd.func32 (by kernel_rfl) rfl
  lt := fun _ _ ha _ => Bs.fless_lt ha
  run := fun w a b ha hb => by
    have h := bits_andNot_u64_nat a b ha hb
    have H := Lib.hid h
    clear h
    go_enter Tryd.func32, Tryd.ntmps32
    go_wp2
    go_ret
    exact ⟨ret_int H.out, rfl⟩

theorem slU_form {w : World} {v : Value} {xs : List Nat} (h : SlU w v xs) : ∃ A c, v = .slice A xs.length c := by
  obtain ⟨⟨A, c, e, -⟩, -⟩ := h
  exact ⟨A, c, e⟩

theorem and_any (w : World) (v v' : Value) (xs ys : List Nat) (h : SlU w v xs) (h' : SlU w v' ys) (hr : xs.length ≤ 17592186044416) (hr' : ys.length ≤ 17592186044416) :
    Calls Tryd.prog 11 #[v, v'] w fun e w' => ∃ u, e = .returned u ∧ SlU w' u (Bs.op Bs.fand xs ys) ∧ Below w.heap.size w w' := by
  have hz := zip_any _ _ fn_and w v v' xs ys h h' hr hr'
  obtain ⟨A, c, rfl⟩ := slU_form h
  obtain ⟨A', c', rfl⟩ := slU_form h'
  clear h h'
  go_enter Tryd.func11, Tryd.ntmps11
  go_wp2_with fail
  refine hz.mono ?_
  rintro e w1 ⟨u, rfl, hu, hb⟩
  obtain ⟨U, uc, rfl⟩ := slU_form hu
  have HU := Lib.hid (And.intro hu hb)
  clear hz hu hb
  go_wp2
  go_ret
  exact ⟨_, rfl, HU.out⟩
theorem less_any (w : World) (v v' : Value) (xs ys : List Nat) (h : SlU w v xs) (h' : SlU w v' ys) (hr : xs.length ≤ 17592186044416) (hr' : ys.length ≤ 17592186044416) :
    Calls Tryd.prog 13 #[v, v'] w fun e w' => ∃ u, e = .returned u ∧ SlU w' u (Bs.op Bs.fless xs ys) ∧ Below w.heap.size w w' := by
  have hz := zip_any _ _ fn_less w v v' xs ys h h' hr hr'
  obtain ⟨A, c, rfl⟩ := slU_form h
  obtain ⟨A', c', rfl⟩ := slU_form h'
  clear h h'
  go_enter Tryd.func13, Tryd.ntmps13
  go_wp2_with fail
  refine hz.mono ?_
  rintro e w1 ⟨u, rfl, hu, hb⟩
  obtain ⟨U, uc, rfl⟩ := slU_form hu
  have HU := Lib.hid (And.intro hu hb)
  clear hz hu hb
  go_wp2
  go_ret
  exact ⟨_, rfl, HU.out⟩
theorem sor_any (w : World) (v v' : Value) (xs ys : List Nat) (h : SlU w v xs) (h' : SlU w v' ys) (hr : xs.length ≤ 17592186044416) (hr' : ys.length ≤ 17592186044416) :
    Calls Tryd.prog 31 #[v, v'] w fun e w' => ∃ u, e = .returned u ∧ SlU w' u (Bs.op Bs.for_ xs ys) ∧ Below w.heap.size w w' := by
  have hz := zip_any _ _ fn_or w v v' xs ys h h' hr hr'
  obtain ⟨A, c, rfl⟩ := slU_form h
  obtain ⟨A', c', rfl⟩ := slU_form h'
  clear h h'
  go_enter Tryd.func31, Tryd.ntmps31
  go_wp2_with fail
  refine hz.mono ?_
  rintro e w1 ⟨u, rfl, hu, hb⟩
  obtain ⟨U, uc, rfl⟩ := slU_form hu
  have HU := Lib.hid (And.intro hu hb)
  clear hz hu hb
  go_wp2
  go_ret
  exact ⟨_, rfl, HU.out⟩
theorem or_any (w : World) (v v' : Value) (xs ys : List Nat) (h : SlU w v xs) (h' : SlU w v' ys) (hr : xs.length ≤ 17592186044416) (hr' : ys.length ≤ 17592186044416) :
    Calls Tryd.prog 12 #[v, v'] w fun e w' => ∃ u, e = .returned u ∧ SlU w' u (Bs.op Bs.for_ xs ys) ∧ Below w.heap.size w w' := by
  have hz := sor_any w v v' xs ys h h' hr hr'
  obtain ⟨A, c, rfl⟩ := slU_form h
  obtain ⟨A', c', rfl⟩ := slU_form h'
  clear h h'
  go_enter Tryd.func12, Tryd.ntmps12
  go_wp2_with fail
  refine hz.mono ?_
  rintro e w1 ⟨u, rfl, hu, hb⟩
  obtain ⟨U, uc, rfl⟩ := slU_form hu
  have HU := Lib.hid (And.intro hu hb)
  clear hz hu hb
  go_wp2
  go_ret
  exact ⟨_, rfl, HU.out⟩
theorem within_any (w : World) (v v' : Value) (xs ys : List Nat) (h : SlU w v xs) (h' : SlU w v' ys) (hr : xs.length ≤ 17592186044416) (hr' : ys.length ≤ 17592186044416) (b : Bool) (hb : ((((Bs.op Bs.fless xs ys).length : Nat) : Int) == 0) = b) :
    Calls Tryd.prog 16 #[v, v'] w fun e w' => e = .returned (.bool b) ∧ Below w.heap.size w w' := by
  have hz := less_any w v v' xs ys h h' hr hr'
  obtain ⟨A, c, rfl⟩ := slU_form h
  obtain ⟨A', c', rfl⟩ := slU_form h'
  have H := Lib.hid hb
  clear h h' hb
  go_enter Tryd.func16, Tryd.ntmps16
  go_wp2_with fail
  refine hz.mono ?_
  rintro e w1 ⟨u, rfl, hu, hb⟩
  obtain ⟨U, uc, rfl⟩ := slU_form hu
  have HU := Lib.hid hb
  clear hz hu hb
  go_wp2
  go_ret
  exact ⟨ret_bool H.out, HU.out⟩
end Go.Proofs.YtniekhedpdkmiaaDoor
