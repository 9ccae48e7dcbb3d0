/-
  Sets in memory, by what is in them; mhp.span, walked.
-/
import Derived.Test.YtniekhedpdkmiaaDoorMh1
import Derived.Test.YtniekhedpdkmiaaDoorBsBk
import Derived.Test.YtniekhedpdkmiaaDoorBsPl
namespace Go.Proofs.YtniekhedpdkmiaaDoor
set_option linter.unusedVariables false
set_option linter.unusedSimpArgs false
open Go.RowKit

/-- a set of labels -/
def SetV (w : World) (v : Value) (S : Nat → Prop) : Prop := ∃ xs, SlU w v xs ∧ xs.length ≤ 1024 ∧ ∀ j, Bs.bit xs j = true ↔ S j
theorem SetV.below {w w' : World} {v : Value} {S : Nat → Prop} (h : SetV w v S) (hb : Below w.heap.size w w') : SetV w' v S := by
  obtain ⟨xs, h1, h2, h3⟩ := h
  exact ⟨xs, h1.below hb, h2, h3⟩
theorem SetV.iff {w : World} {v : Value} {S S' : Nat → Prop} (h : SetV w v S) (hs : ∀ x, S x ↔ S' x) : SetV w v S' := by
  obtain ⟨xs, h1, h2, h3⟩ := h
  exact ⟨xs, h1, h2, fun j => (h3 j).trans (hs j)⟩
theorem SetV.nil (w : World) : SetV w (.slice none 0 0) St.none_ := ⟨[], SlU.nil w, by simp, fun j => by simp [Bs.bit, Bs.at_, St.none_]⟩
theorem SetV.lt {w : World} {v : Value} {S : Nat → Prop} (h : SetV w v S) : ∃ A n c, v = .slice A n c := by
  obtain ⟨xs, h1, -⟩ := h
  obtain ⟨A, c, rfl⟩ := slU_form h1
  exact ⟨_, _, _, rfl⟩

theorem Bs.put_short {s : List Nat} {n : Nat} (h : s.length ≤ 1024) (hn : n ≤ 65535) : (Bs.put s n).length ≤ 1024 := by
  rw [Bs.put_length]
  omega
theorem add_set (w : World) (v : Value) (S : Nat → Prop) (n : Nat) (h : SetV w v S) (hn : n ≤ 65535) :
    Calls Tryd.prog 35 #[v, .int .i64 (n : Int)] w fun e w' => ∃ u, e = .returned u ∧ SetV w' u (fun x => S x ∨ x = n) ∧ Below w.heap.size w w' := by
  obtain ⟨xs, h1, h2, h3⟩ := h
  refine (add_yes w v xs n h1 hn (by omega)).mono ?_
  rintro e w' ⟨u, rfl, hu, hb⟩
  refine ⟨u, rfl, ⟨_, hu, Bs.put_short h2 hn, fun j => ?_⟩, hb⟩
  rw [Bs.bit_put]
  simp [h3 j]
theorem or_set (w : World) (v v' : Value) (S S' : Nat → Prop) (h : SetV w v S) (h' : SetV w v' S') :
    Calls Tryd.prog 31 #[v, v'] w fun e w' => ∃ u, e = .returned u ∧ SetV w' u (St.both S S') ∧ Below w.heap.size w w' := by
  obtain ⟨xs, h1, h2, h3⟩ := h
  obtain ⟨ys, k1, k2, k3⟩ := h'
  refine (sor_any w v v' xs ys h1 k1 (by omega) (by omega)).mono ?_
  rintro e w' ⟨u, rfl, hu, hb⟩
  refine ⟨u, rfl, ⟨_, hu, Bs.op_le h2 k2, fun j => ?_⟩, hb⟩
  unfold Bs.bit
  rw [Bs.aor, Nat.testBit_or, Bool.or_eq_true]
  exact or_congr (h3 j) (k3 j)

theorem span_any (w : World) (f m : Nat) (hm : f + m ≤ 65536) :
    Calls Tryd.prog 50 #[.int .i64 (f : Int), .int .i64 (m : Int)] w fun e w' => ∃ u, e = .returned u ∧ SetV w' u (St.span f m) ∧ Below w.heap.size w w' := by
  go_enter Tryd.func50, Tryd.ntmps50
  go_wp2
  go_loopw [5, 8] (fun s i wr => ∃ k : Nat, k ≤ m ∧ i = .int .i64 (k : Int) ∧ SetV wr s (St.span f k) ∧ Below w.heap.size w wr) (fun s i _ => m - (intOf i).toNat)
  case atStart => exact ⟨0, Nat.zero_le _, rfl, (SetV.nil w).iff fun x => ⟨fun h => h.elim, fun h => by unfold St.span at h; exfalso; omega⟩, Below.refl _ _⟩
  case round =>
    obtain ⟨k, hk, rfl, hs, hb⟩ := hrel
    by_cases hlt : k < m
    · go_wp2_with fail
      rw [← Int.natCast_add]
      refine (add_set _ _ _ _ hs (by omega)).mono ?_
      rintro e w2 ⟨u, rfl, hu, hb2⟩
      have hb3 := below_next hb2 hb
      go_wp2
      go_roundw
      case rel => exact ⟨k + 1, by omega, by go_num, hu.iff fun x => by unfold St.span; omega, hb3⟩
      case measure => simp [intOf]; omega
    · have HK := Lib.hid (show k = m by omega)
      go_wp2
      go_ret
      exact ⟨_, rfl, by rw [← HK.out]; exact hs, hb⟩
end Go.Proofs.YtniekhedpdkmiaaDoor
