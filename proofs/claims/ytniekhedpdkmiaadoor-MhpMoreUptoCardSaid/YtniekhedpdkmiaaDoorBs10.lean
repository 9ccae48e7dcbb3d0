/-
  slices.Contains of numbers; what the laws hang on: that the package is alive.
-/
import Derived.Test.YtniekhedpdkmiaaDoorBs9
namespace Go.Proofs.YtniekhedpdkmiaaDoor
set_option linter.unusedVariables false
set_option linter.unusedSimpArgs false
open Go.RowKit

def Bs.has (x : Int) (xs : List Int) : Bool := xs.any (fun y => x == y)
theorem index_i64 (v : Value) (xs : List Int) (s : Int) (w : World) (h : SlV w 1 v xs.length (ints .i64 xs)) :
    Calls Tryd.prog 36 #[v, .int .i64 s] w fun e w' => (∃ z : Int, e = .returned (.int .i64 z) ∧ decide (0 ≤ z) = Bs.has s xs) ∧ ∃ m, w' = w.drewN m := by
  obtain ⟨A, c, rfl, hle, hm, hlen, hc⟩ := h
  clear hlen
  unfold maxLen at hm
  go_enter Tryd.func36, Tryd.ntmps36
  go_wp2
  go_loopw [8] (fun i wr => ∃ k : Nat, k ≤ xs.length ∧ i = .int .i64 k ∧ (∃ a, wr = w.drewN a) ∧ (xs.take k).any (fun x => s == x) = false) (fun i _ => xs.length - (intOf i).toNat)
  case atStart => exact ⟨0, Nat.zero_le _, rfl, ⟨0, rfl⟩, rfl⟩
  case round =>
    obtain ⟨k, hk, rfl, ⟨a, rfl⟩, ht⟩ := hrel
    have HT := Lib.hid ht
    clear ht
    by_cases hlt : k < xs.length
    · obtain ⟨b, o, x, rfl, hb, hx, hcc⟩ := hc.one hlt
      have HX := Lib.hid hx.out
      clear hc hx
      rcases hq : (s == x) with _ | _
      · go_wp2
        go_roundw
        case rel => exact ⟨k + 1, by omega, by go_num, ⟨_, rfl⟩, by
          obtain ⟨h', hx'⟩ := List.getElem?_eq_some_iff.1 HX.out
          rw [List.take_succ_eq_append_getElem h', List.any_append, HT.out, hx']
          simp [hq]⟩
        case measure => simp [intOf]; omega
      · go_wp2
        go_ret
        exact ⟨⟨_, rfl, by
          have : Bs.has s xs = true := List.any_eq_true.2 ⟨x, List.mem_of_getElem? HX.out, hq⟩
          rw [this]
          simp⟩, ⟨_, rfl⟩⟩
    · have HK := Lib.hid (show k = xs.length by omega)
      clear hc
      go_wp2
      go_ret
      exact ⟨⟨_, rfl, by
        have := HT.out
        rw [HK.out, List.take_length] at this
        show _ = Bs.has s xs
        unfold Bs.has
        rw [this]
        rfl⟩, ⟨_, rfl⟩⟩

theorem contains_i64 (v : Value) (xs : List Int) (s : Int) (w : World) (h : SlV w 1 v xs.length (ints .i64 xs)) :
    Calls Tryd.prog 18 #[v, .int .i64 s] w fun e w' => e = .returned (.bool (Bs.has s xs)) ∧ ∃ m, w' = w.drewN m := by
  have hi := index_i64 v xs s w h
  obtain ⟨A, c, rfl, hle, hm, hlen, hc⟩ := h
  clear hlen hc hm hle
  go_enter Tryd.func18, Tryd.ntmps18
  go_wp2_with fail
  refine hi.mono ?_
  rintro e w1 ⟨⟨z, rfl, hz⟩, m, rfl⟩
  have HZ := Lib.hid hz
  clear hz hi
  go_wp2
  go_ret
  exact ⟨ret_bool HZ.out, m, rfl⟩

theorem Bs.ex_s : Bs.of_ [3, 70, 3, -1] = [8, 64] := by decide +kernel
theorem Bs.ex_t : Bs.of_ [3] = [8] := by decide +kernel
theorem Bs.ex_ls : Bs.ls 0 [8, 64] = [3, 70] := by
  have h1 : Bs.bl 8 = [3] := by
    rw [Bs.bl_pos (by decide), show 8 &&& (8 - 1) = 0 by decide, Bs.bl_zero, show Lib.ctz 64 8 = 3 by decide +kernel]
  have h2 : Bs.bl 64 = [6] := by
    rw [Bs.bl_pos (by decide), show 64 &&& (64 - 1) = 0 by decide, Bs.bl_zero, show Lib.ctz 64 64 = 6 by decide +kernel]
  rw [Bs.ls, Bs.ls, Bs.ls, h1, h2]
  rfl
theorem Bs.ex_more : Bs.size [8, 64] = 2 ∧ Bs.op Bs.fless [8] [8, 64] = [] ∧ Bs.op Bs.fless [8, 64] [8] = [0, 64] ∧ Bs.op Bs.fand [8, 64] [8] = [8] ∧ Bs.op Bs.for_ [8, 64] [8] = [8, 64] := by decide +kernel

theorem SlU.drewN {w : World} {v : Value} {xs : List Nat} (h : SlU w v xs) (k : Nat) : SlU (w.drewN k) v xs := ⟨h.1.drewN k, h.2⟩
theorem equal_i64_call (v v' : Value) (xs ys : List Int) (b : Bool) (hb : (decide (xs = ys)) = b) (w : World) (h : SlV w 1 v xs.length (ints .i64 xs)) (h' : SlV w 1 v' ys.length (ints .i64 ys)) :
    Calls Tryd.prog 28 #[v, v'] w fun e w' => e = .returned (.bool b) ∧ Below w.heap.size w w' := by
  subst hb
  exact (equal_i64 v v' xs ys w h h').mono fun e w' ⟨h1, m, h2⟩ => ⟨h1, by rw [h2]; exact below_drewN (Below.refl _ _) m⟩
theorem equal_u64_call (v v' : Value) (xs ys : List Nat) (b : Bool) (hb : (decide (xs = ys)) = b) (w : World) (h : SlU w v xs) (h' : SlU w v' ys) :
    Calls Tryd.prog 10 #[v, v'] w fun e w' => e = .returned (.bool b) ∧ Below w.heap.size w w' := by
  have e := equal_u64 v v' (xs.map fun (x : Nat) => (x : Int)) (ys.map fun (x : Nat) => (x : Int)) w (by rw [List.length_map, ← nats_ints]; exact h.1) (by rw [List.length_map, ← nats_ints]; exact h'.1)
  refine e.mono fun e w' ⟨h1, m, h2⟩ => ⟨?_, by rw [h2]; exact below_drewN (Below.refl _ _) m⟩
  rw [h1, ← hb]
  have : (xs.map fun (x : Nat) => (x : Int)) = (ys.map fun (x : Nat) => (x : Int)) ↔ xs = ys := List.map_inj_right (fun a b h => by omega)
  simp only [this]
theorem Tab.step {w w' : World} (h : Tab w) (hb : Below w.heap.size w w') : Tab w' := h.later h.lt hb
end Go.Proofs.YtniekhedpdkmiaaDoor
