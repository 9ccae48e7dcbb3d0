/-
  The phaser's closed fact, and: who leaves holds nobody up.
-/
import Derived.Test.YtphbegadddamgaaPhaPlay
namespace Go.Proofs.Ytphbegadddamgaa
set_option linter.unusedVariables false
set_option linter.unusedSimpArgs false
open Go.RowKit

theorem SlV.lit (w : World) (vs : List Value) (e : TypeId) (sz n : Nat) (hv : vs.length = n * sz) (hn : n ≤ 1000) : SlV (w.alloc (.cells vs.toArray e)) sz (.slice (some ⟨w.heap.size, 0, none⟩) n n) n vs := by
  have := World.ownsRow_lit (e := e) (size := sz) (base := w.heap.size) w vs.toArray n (Nat.le_refl _) (by unfold maxLen; omega) (by simpa using hv)
  exact SlV.of_own (by simpa using this)

theorem ans_cells {w : World} {B : Nat} {A : Option Addr} {l : List Pha.Ans} (h : Cells w B A (anscs l)) {k : Nat} {a : Pha.Ans} (ho : l[k]? = some a) :
    ∃ b off, A = some ⟨b, off, none⟩ ∧ b < B ∧ w.cell? ⟨b, off + k * 2, none⟩ = some (.int .i64 a.1) ∧ w.cell? ⟨b, off + k * 2 + 1, none⟩ = some (.int .i64 a.2) := by
  have g : ∀ j, j < 2 → (anscs l)[k * 2 + j]? = (ansc a)[j]? := fun j hj => flat_get ansc 2 (fun _ => rfl) l k j a ho hj
  obtain ⟨b, off, hA, hb, hc⟩ := h.at_ (by
    intro h0
    have := g 0 (by decide)
    rw [h0] at this
    simp [ansc] at this)
  exact ⟨b, off, hA, hb, hc _ _ (g 0 (by decide)), hc _ _ (g 1 (by decide))⟩

theorem opcs_one (l : List Pha.Op) : ∀ u ∈ opcs l, u.oneCell' = true := by
  intro u hu
  obtain ⟨o, _, ho⟩ := List.mem_flatMap.1 hu
  exact ints_one' (l := [o.kind, o.who, o.by_]) u ho

def alive23ops : List Pha.Op := [⟨1, 3, 0⟩, ⟨2, 0, 0⟩, ⟨4, 0, 0⟩, ⟨2, 3, 0⟩, ⟨4, 0, 0⟩]
theorem alive23play : Pha.play alive23ops = [(0, 0), (0, 0), (8, 0), (0, 1), (0, 1)] := by decide +kernel

theorem alive23_any (w : World) : Calls Try.prog 21 #[] w fun e w' => e = .returned (.bool true) ∧ Below w.heap.size w w' := by
  go_enter Try.func21, Try.ntmps21
  go_wp2_with fail
  refine (play_any _ alive23ops _ (SlV.lit w (opcs alive23ops) 33 3 5 rfl (by decide)) (by decide)).mono ?_
  rintro e w1 ⟨u, rfl, hs, hb⟩
  rw [alive23play] at hs
  obtain ⟨A, c, rfl, hle, hm, -, hc⟩ := hs
  obtain ⟨b, off, rfl, -, hcs⟩ := hc.at_ (by decide)
  have c2 := hcs 2 _ rfl
  have c3 := hcs 3 _ rfl
  have c4 := hcs 4 _ rfl
  have c7 := hcs 7 _ rfl
  have c8 := hcs 8 _ rfl
  have c9 := hcs 9 _ rfl
  clear hcs hc
  go_wp2
  go_ret
  exact ⟨rfl, (below_alloc (Below.refl _ _) _).trans (hb.mono (by simp))⟩

theorem phaserDrop_walk (k : Int) (w : World) : Calls Try.prog 6 #[.int .i64 k] w fun e w' => e = .returned (.bool true) ∧ Below w.heap.size w w' := by
  by_cases h1 : k < 1
  · go_enter Try.func6, Try.ntmps6
    go_wp2_with fail
    refine (alive23_any w).mono ?_
    rintro e w1 ⟨rfl, hb1⟩
    go_wp2
    go_ret
    exact ⟨rfl, hb1⟩
  · by_cases h2 : 16 ≤ k
    · go_enter Try.func6, Try.ntmps6
      go_wp2_with fail
      refine (alive23_any w).mono ?_
      rintro e w1 ⟨rfl, hb1⟩
      go_wp2
      go_ret
      exact ⟨rfl, hb1⟩
    · obtain ⟨k, rfl⟩ := Int.eq_ofNat_of_zero_le (show 0 ≤ k by omega)
      have hk1 : 1 ≤ k := by omega
      have hk2 : k < 16 := by omega
      clear h1 h2
      have hdrop := Lib.hid (Pha.drop_law k hk1 hk2)
      go_enter Try.func6, Try.ntmps6
      go_wp2_with fail
      refine (alive23_any w).mono ?_
      rintro e w1 ⟨rfl, hb1⟩
      go_wp2_with fail
      go_loopw [3, 16] (fun v i wr => ∃ j : Nat, j ≤ k ∧ i = .int .i64 j ∧ wr.ownsRow w.heap.size 33 3 v j (opcs (Pha.joins j)) ∧ Below w.heap.size w wr) (fun _ i _ => k - (intOf i).toNat)
      case atStart => exact ⟨0, Nat.zero_le _, rfl, World.ownsRow_nil _ _ _ _, hb1⟩
      case round =>
        clear hb1
        obtain ⟨j, hj, rfl, hown, hb⟩ := hrel
        obtain ⟨A, c, rfl, hle, hm⟩ := own_slice hown
        unfold maxLen at hm
        by_cases hlt : j < k
        · go_wp2_with (at_builtin; (refine wp_push wr _ _ _ _ _ _ _ _ Try.underlying31 info_op rfl (by decide) hown (opc ⟨1, j + 1, 0⟩) rfl (ints_one' (l := [1, j + 1, 0])) (by unfold maxLen; omega) (by omega) hb.size rfl rfl rfl rfl ?_); intro v' w4 hown4 _ _ hb4)
          go_roundw
          case rel => exact ⟨j + 1, by omega, by go_num, by rw [Pha.joins_succ]; simpa [opcs] using hown4, hb.trans hb4⟩
          case measure => simp [intOf]; omega
        · have hjk : j = k := by omega
          subst hjk
          go_wp2_with fail
          go_loopw [3, 27] (fun v i wr => ∃ i' : Nat, i' ≤ j ∧ i = .int .i64 i' ∧ wr.ownsRow w.heap.size 33 3 v (j + i') (opcs (Pha.joins j ++ Pha.nexts i')) ∧ Below w.heap.size w wr) (fun _ i _ => j - (intOf i).toNat)
          case atStart => exact ⟨0, Nat.zero_le _, rfl, by simpa [Pha.nexts] using hown, hb⟩
          case round =>
            clear hb hown hle hm
            obtain ⟨i, hi, rfl, hown, hb⟩ := hrel
            obtain ⟨A, c, rfl, hle, hm⟩ := own_slice hown
            unfold maxLen at hm
            by_cases hlt2 : i < j
            · go_wp2_with (at_builtin; (refine wp_push wr _ _ _ _ _ _ _ _ Try.underlying31 info_op rfl (by decide) hown (opc ⟨2, i + 1, 0⟩) rfl (ints_one' (l := [2, i + 1, 0])) (by unfold maxLen; omega) (by omega) hb.size rfl rfl rfl rfl ?_); intro v' w4 hown4 _ _ hb4)
              go_roundw
              case rel => exact ⟨i + 1, by omega, by go_num, by rw [Pha.nexts_succ]; simpa [opcs, Nat.add_assoc] using hown4, hb.trans hb4⟩
              case measure => simp [intOf]; omega
            · have hij : i = j := by omega
              subst hij
              go_wp2_with (at_builtin; (refine wp_append _ _ _ _ _ _ _ _ _ Try.underlying31 info_op rfl (by decide) (hown.alloc _) (Cells.new wr (opcs [⟨4, 0, 0⟩, ⟨3, 0, 0⟩, ⟨4, i, 0⟩]) 33) rfl (opcs_one _) (by unfold maxLen; omega) (by omega) (Nat.le_trans hb.size (by simp)) rfl rfl rfl rfl ?_); intro v' w4 hown4 _ _ hb4)
              have hb5 : Below w.heap.size w w4 := (below_alloc hb _).trans hb4
              have hsl : SlV w4 3 v' (Pha.dropOps i).length (opcs (Pha.dropOps i)) := by
                have e : (Pha.dropOps i).length = i + i + 3 := by simp [Pha.dropOps, Pha.joins, Pha.nexts]; omega
                rw [e]
                have := SlV.of_own hown4
                simpa [opcs, Pha.dropOps] using this
              have hlen : (Pha.dropOps i).length = 2 * i + 3 := by simp [Pha.dropOps, Pha.joins, Pha.nexts]; omega
              have HL := Lib.hid hlen
              clear hlen hown4 hb4 hown hb hle hm
              go_wp2_with fail
              refine (play_any _ _ _ hsl (by rw [HL.out]; omega)).mono ?_
              rintro e w6 ⟨u, rfl, hs, hb6⟩
              rw [HL.out] at hs
              obtain ⟨A, c, rfl, hle, hm, -, hc⟩ := hs
              have a0 : (Pha.play (Pha.dropOps i))[2 * i]? = some (0, 0) := by
                have := congrArg (fun l => l[0]?) hdrop.out
                simpa using this
              have a1 : (Pha.play (Pha.dropOps i))[2 * i + 1]? = some (0, 1) := by
                have := congrArg (fun l => l[1]?) hdrop.out
                simpa using this
              have a2 : (Pha.play (Pha.dropOps i))[2 * i + 2]? = some (0, 1) := by
                have := congrArg (fun l => l[2]?) hdrop.out
                simpa using this
              obtain ⟨b, off, rfl, -, c0, c1⟩ := ans_cells hc a0
              obtain ⟨b', off', hA, -, c2, c3⟩ := ans_cells hc a1
              cases hA
              obtain ⟨b', off', hA, -, c4, c5⟩ := ans_cells hc a2
              cases hA
              clear a0 a1 a2 hc
              go_wp2
              go_ret
              exact ⟨rfl, hb5.trans (hb6.mono hb5.size)⟩
end Go.Proofs.Ytphbegadddamgaa
