/-
  Package bitset, walked: Set.Or, Less, Within.
-/
import Derived.Test.YtcpoglchjkpbpaaDoorBs2
import Derived.Shelf.Abstract
namespace Go.Proofs.YtcpoglchjkpbpaaDoor
set_option linter.unusedVariables false
set_option linter.unusedSimpArgs false
set_option maxRecDepth 100000
open Go.RowKit Go.Shelf

theorem bits_andNot_u64_nat (a b : Nat) (ha : a < 18446744073709551616) (hb : b < 18446744073709551616) :
    bits .andNot .u64 (a : Int) (b : Int) = ((Bs.fless a b : Nat) : Int) := by
  have hx : Bs.fless a b < 18446744073709551616 := Bs.fless_lt ha
  have h1 : (BitVec.ofInt 64 (a : Int)).toNat = a := by
    rw [BitVec.ofInt_natCast, BitVec.toNat_ofNat]; exact Nat.mod_eq_of_lt (by omega)
  have h2 : (BitVec.ofInt 64 (b : Int)).toNat = b := by
    rw [BitVec.ofInt_natCast, BitVec.toNat_ofNat]; exact Nat.mod_eq_of_lt (by omega)
  show IntKind.u64.wrap ((BitVec.ofInt 64 (a : Int) &&& ~~~ BitVec.ofInt 64 (b : Int)).toNat : Int) = _
  rw [BitVec.toNat_and, BitVec.toNat_not, h1, h2, IntKind.wrap_u64]
  unfold Bs.fless at *
  rw [show 2 ^ 64 - 1 - b = 18446744073709551615 - b by omega]
  omega

theorem fn_or : Fn2 63 Bs.for_ where
  ent := enters_of Tryd.func63 (by kernel_rfl) rfl
  lt := fun _ _ ha hb => Bs.for_lt ha hb
  run := fun w a b ha hb => by
    have h := bits_or_u64_nat a b ha hb
    have H := Lib.hid h
    clear h
    go_enter Tryd.func63, Tryd.ntmps63
    go_wp2
    go_ret
    exact ⟨ret_int H.out, rfl⟩
theorem fn_less : Fn2 64 Bs.fless where
  ent := enters_of Tryd.func64 (by kernel_rfl) rfl
  lt := fun _ _ ha _ => Bs.fless_lt ha
  run := fun w a b ha hb => by
    have h := bits_andNot_u64_nat a b ha hb
    have H := Lib.hid h
    clear h
    go_enter Tryd.func64, Tryd.ntmps64
    go_wp2
    go_ret
    exact ⟨ret_int H.out, rfl⟩

theorem slU_form {w : World} {v : Value} {xs : List Nat} (h : SlU w v xs) : ∃ A c, v = .slice A xs.length c := by
  obtain ⟨⟨A, c, e, -⟩, -⟩ := h
  exact ⟨A, c, e⟩

theorem less_new (w : World) (v v' : Value) (xs ys : List Nat) (h : SlU w v xs) (h' : SlU w v' ys) (hr : xs.length ≤ 17592186044416) (hr' : ys.length ≤ 17592186044416) :
    Calls Tryd.prog 45 #[v, v'] w fun e w' => ∃ u, e = .returned u ∧ (SlU w' u (Bs.op Bs.fless xs ys) ∧ New w.heap.size u) ∧ Below w.heap.size w w' := by
  have hz := zip_new _ _ fn_less w v v' xs ys h h' hr hr'
  obtain ⟨A, c, rfl⟩ := slU_form h
  obtain ⟨A', c', rfl⟩ := slU_form h'
  clear h h'
  go_enter Tryd.func45, Tryd.ntmps45
  go_wp2_with fail
  refine hz.mono ?_
  rintro e w1 ⟨u, rfl, hu, hb⟩
  obtain ⟨U, uc, rfl⟩ := slU_form hu.1
  have HU := Lib.hid (And.intro hu hb)
  clear hz hu hb
  go_wp2
  go_ret
  exact ⟨_, rfl, HU.out⟩
theorem less_any (w : World) (v v' : Value) (xs ys : List Nat) (h : SlU w v xs) (h' : SlU w v' ys) (hr : xs.length ≤ 17592186044416) (hr' : ys.length ≤ 17592186044416) :
    Calls Tryd.prog 45 #[v, v'] w fun e w' => ∃ u, e = .returned u ∧ SlU w' u (Bs.op Bs.fless xs ys) ∧ Below w.heap.size w w' :=
  (less_new w v v' xs ys h h' hr hr').mono fun _ _ ⟨u, h1, h2, h3⟩ => ⟨u, h1, h2.1, h3⟩
theorem sor_new (w : World) (v v' : Value) (xs ys : List Nat) (h : SlU w v xs) (h' : SlU w v' ys) (hr : xs.length ≤ 17592186044416) (hr' : ys.length ≤ 17592186044416) :
    Calls Tryd.prog 44 #[v, v'] w fun e w' => ∃ u, e = .returned u ∧ (SlU w' u (Bs.op Bs.for_ xs ys) ∧ New w.heap.size u) ∧ Below w.heap.size w w' := by
  have hz := zip_new _ _ fn_or w v v' xs ys h h' hr hr'
  obtain ⟨A, c, rfl⟩ := slU_form h
  obtain ⟨A', c', rfl⟩ := slU_form h'
  clear h h'
  go_enter Tryd.func44, Tryd.ntmps44
  go_wp2_with fail
  refine hz.mono ?_
  rintro e w1 ⟨u, rfl, hu, hb⟩
  obtain ⟨U, uc, rfl⟩ := slU_form hu.1
  have HU := Lib.hid (And.intro hu hb)
  clear hz hu hb
  go_wp2
  go_ret
  exact ⟨_, rfl, HU.out⟩
theorem sor_any (w : World) (v v' : Value) (xs ys : List Nat) (h : SlU w v xs) (h' : SlU w v' ys) (hr : xs.length ≤ 17592186044416) (hr' : ys.length ≤ 17592186044416) :
    Calls Tryd.prog 44 #[v, v'] w fun e w' => ∃ u, e = .returned u ∧ SlU w' u (Bs.op Bs.for_ xs ys) ∧ Below w.heap.size w w' :=
  (sor_new w v v' xs ys h h' hr hr').mono fun _ _ ⟨u, h1, h2, h3⟩ => ⟨u, h1, h2.1, h3⟩
theorem within_any (w : World) (v v' : Value) (xs ys : List Nat) (h : SlU w v xs) (h' : SlU w v' ys) (hr : xs.length ≤ 17592186044416) (hr' : ys.length ≤ 17592186044416) (b : Bool) (hb : ((((Bs.op Bs.fless xs ys).length : Nat) : Int) == 0) = b) :
    Calls Tryd.prog 17 #[v, v'] w fun e w' => e = .returned (.bool b) ∧ Below w.heap.size w w' := by
  have hz := less_any w v v' xs ys h h' hr hr'
  obtain ⟨A, c, rfl⟩ := slU_form h
  obtain ⟨A', c', rfl⟩ := slU_form h'
  have H := Lib.hid hb
  clear h h' hb
  go_enter Tryd.func17, Tryd.ntmps17
  go_wp2_with fail
  refine hz.mono ?_
  rintro e w1 ⟨u, rfl, hu, hb⟩
  obtain ⟨U, uc, rfl⟩ := slU_form hu
  have HU := Lib.hid hb
  clear hz hu hb
  go_wp2
  go_ret
  exact ⟨ret_bool H.out, HU.out⟩
end Go.Proofs.YtcpoglchjkpbpaaDoor
