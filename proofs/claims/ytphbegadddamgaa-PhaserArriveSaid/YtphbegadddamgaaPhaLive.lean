/-
  Who all arrive go on: the law, walked.
-/
import Derived.Test.YtphbegadddamgaaPhaDrop
namespace Go.Proofs.Ytphbegadddamgaa
set_option linter.unusedVariables false
set_option linter.unusedSimpArgs false
open Go.RowKit

theorem l0phase_any (v : Value) (l : List Pha.Ans) (w : World) (h : SlV w 2 v l.length (anscs l)) :
    Calls Try.prog 23 #[v] w fun e w' => e = .returned (.int .i64 (Pha.top l)) ∧ Below w.heap.size w w' := by
  obtain ⟨A, c, rfl, hle, hm, -, hc⟩ := h
  unfold maxLen at hm
  go_enter Try.func23, Try.ntmps23
  go_wp2_with fail
  go_loopw [3, 8] (fun m i wr => ∃ k : Nat, k ≤ l.length ∧ i = .int .i64 k ∧ m = .int .i64 (Pha.top (l.take k)) ∧ Below w.heap.size w wr) (fun _ i _ => l.length - (intOf i).toNat)
  case atStart => exact ⟨0, Nat.zero_le _, rfl, rfl, Below.refl _ _⟩
  case round =>
    obtain ⟨k, hk, rfl, rfl, hb⟩ := hrel
    by_cases hlt : k < l.length
    · have ho : l[k]? = some l[k] := List.getElem?_eq_getElem hlt
      obtain ⟨b, off, rfl, hbw, c0, c1⟩ := ans_cells (hc.keep (Nat.le_refl _) (fun p hp => hb.cell hp)) ho
      obtain ⟨a, ha⟩ : ∃ a, a = l[k] := ⟨_, rfl⟩
      have e : Pha.top (l.take (k + 1)) = max (Pha.top (l.take k)) a.2 := by
        rw [List.take_succ_eq_append_getElem hlt, ha]
        unfold Pha.top
        rw [List.foldl_append]
        rfl
      have E := Lib.hid e
      rw [← ha] at c0 c1
      clear e ha ho hc
      obtain ⟨a1, a2⟩ := a
      simp only at c0 c1
      go_wp2_with fail
      go_roundw
      case rel => exact ⟨k + 1, by omega, by go_num, by rw [E.out], below_alloc hb _⟩
      case measure => simp [intOf]; omega
    · have hk' : k = l.length := by omega
      have HK := Lib.hid hk'
      clear hc hk'
      go_wp2
      go_ret
      exact ⟨ret_int (by rw [HK.out, List.take_length]), hb⟩

theorem clone_ops (v : Value) (n : Nat) (xs : List Value) (w : World) (h : SlV w 3 v n xs) (h1 : ∀ u ∈ xs, u.oneCell' = true) (hr : n ≤ 5864062014805) :
    Calls Try.prog 24 #[v] w fun e w' => ∃ u, e = .returned u ∧ w'.ownsRow w.heap.size 33 3 u n xs ∧ Below w.heap.size w w' := by
  obtain ⟨A, c, rfl, hle, hm, hlen, hc⟩ := h
  unfold maxLen at hm
  have heq := fun (w : World) (A : Option Addr) (n c : Nat) => Lib.run_eql_slice_nil (P := Try.prog) w _ _ A n c 0 0 Try.underlying31
  rcases A with _ | a
  · have h0 : xs = [] := by
      rcases xs with _ | ⟨x, xs⟩
      · rfl
      · obtain ⟨b, o, h1, _⟩ := hc
        have := (h1 (by simp)).1
        cases this
    have hn : n = 0 := by subst h0; simp at hlen; omega
    subst h0
    subst hn
    go_enter Try.func24, Try.ntmps24
    go_wp2
    go_ret
    exact ⟨_, rfl, World.ownsRow_nil _ _ _ _, Below.refl _ _⟩
  · go_enter Try.func24, Try.ntmps24
    have hmade := World.ownsRow_made (e := 33) (size := 3) (base := w.heap.size) w #[] 0 (Nat.le_refl _) (Nat.zero_le _) rfl
    have hc' := hc.keep (w' := w.alloc (.cells #[] 33)) (Nat.le_refl _) (fun p hp => World.cell?_alloc_lt w _ p hp)
    have n63 : 0 + n ≤ maxLen := by unfold maxLen; omega
    have n47 : (0 + n) * 24 ≤ 140737488355328 := by omega
    go_wp2_with (at_builtin; refine wp_append _ _ _ _ _ _ _ _ _ Try.underlying31 info_op rfl (by decide) hmade hc' hlen h1 n63 n47 (by simp) rfl rfl rfl rfl ?_; intro v' w' hown _ _ hb)
    go_ret
    refine ⟨_, rfl, by simpa using hown, ((Below.refl _ _).alloc (Nat.le_refl _) _).trans hb⟩

theorem phaserLive_walk (v : Value) (ops : List Pha.Op) (w : World) (h : SlV w 3 v ops.length (opcs ops)) (hr : ops.length ≤ 5864062014700) :
    Calls Try.prog 7 #[v] w fun e w' => e = .returned (.bool true) ∧ Below w.heap.size w w' := by
  have hl1 := Pha.answers_length Pha.start ops
  have hl2 : (Pha.play (ops ++ Pha.rest 16)).length = ops.length + 16 := by
    rw [Pha.play, Pha.answers_length]
    simp [Pha.rest]
  obtain ⟨A, c, rfl, hle, hm, hlen, hc⟩ := h
  unfold maxLen at hm
  have h : SlV w 3 (.slice A ops.length c) ops.length (opcs ops) := ⟨A, c, rfl, hle, by unfold maxLen; exact hm, hlen, hc⟩
  have HL2 := Lib.hid hl2
  clear hl2
  go_enter Try.func7, Try.ntmps7
  go_wp2_with fail
  refine (alive23_any w).mono ?_
  rintro e w1 ⟨rfl, hb1⟩
  go_wp2_with fail
  refine (play_any _ ops _ (by repeat (first | assumption | exact SlI.nil _ _ | exact SlV.nil _ _ | apply SlI.alloc | apply SlV.alloc | (apply SlI.step; assumption) | (apply SlV.step; assumption))) (by omega)).mono ?_
  rintro e w2 ⟨u2, rfl, h2, hb2⟩
  have h2' : SlV w2 2 u2 (Pha.play ops).length (anscs (Pha.play ops)) := by rw [Pha.play, hl1]; exact h2
  go_wp2_with fail
  refine (l0phase_any _ _ _ h2').mono ?_
  rintro e w3 ⟨rfl, hb3⟩
  go_wp2_with fail
  refine (clone_ops _ _ _ _ (show SlV w3 3 (.slice A ops.length c) ops.length (opcs ops) from (by repeat (first | assumption | exact SlI.nil _ _ | exact SlV.nil _ _ | apply SlI.alloc | apply SlV.alloc | (apply SlI.step; assumption) | (apply SlV.step; assumption)))) (opcs_one _) (by omega)).mono ?_
  rintro e w4 ⟨u4, rfl, hown, hb4⟩
  have hb5 : Below w.heap.size w w4 := (by repeat (first | exact Below.refl _ _ | assumption | apply below_alloc | apply below_drew | (apply below_next; assumption)))
  have hown5 := own_base hown (base' := w.heap.size) (by have := hb1.size; have := hb2.size; have := hb3.size; omega)
  clear hown hb1 hb2 hb3 hb4 h2 h2' hc hlen
  go_wp2_with fail
  go_loopw [5, 19] (fun v i wr => ∃ j : Nat, j ≤ 16 ∧ i = .int .i64 j ∧ wr.ownsRow w.heap.size 33 3 v (ops.length + j) (opcs (ops ++ Pha.rest j)) ∧ Below w.heap.size w wr) (fun _ i _ => 16 - (intOf i).toNat)
  case atStart => exact ⟨0, by decide, rfl, by simpa [Pha.rest] using hown5, hb5⟩
  case round =>
    clear hown5 hb5
    obtain ⟨j, hj, rfl, hown, hb⟩ := hrel
    obtain ⟨A', c', rfl, hle', hm'⟩ := own_slice hown
    unfold maxLen at hm'
    have n63 : ops.length + j + 1 ≤ maxLen := by unfold maxLen; omega
    have n47 : (ops.length + j + 1) * 24 ≤ 140737488355328 := by omega
    by_cases hlt : j < 16
    · go_wp2_with (at_builtin; (refine wp_push wr _ _ _ _ _ _ _ _ Try.underlying31 info_op rfl (by decide) hown (opc ⟨2, j, 0⟩) rfl (ints_one' (l := [2, j, 0])) n63 n47 hb.size rfl rfl rfl rfl ?_); intro v' w4 hown4 _ _ hb4)
      go_roundw
      case rel => exact ⟨j + 1, by omega, by go_num, by rw [Pha.rest_succ]; simpa [opcs, Nat.add_assoc] using hown4, hb.trans hb4⟩
      case measure => simp [intOf]; omega
    · have hj16 : j = 16 := by omega
      subst hj16
      have hsl := SlV.of_own hown
      have hsl' : SlV wr 3 (.slice A' (ops.length + 16) c') (ops ++ Pha.rest 16).length (opcs (ops ++ Pha.rest 16)) := by
        rw [show (ops ++ Pha.rest 16).length = ops.length + 16 by simp [Pha.rest]]
        exact hsl
      clear hown hsl
      go_wp2_with fail
      refine (play_any _ _ _ hsl' (by simp [Pha.rest]; omega)).mono ?_
      rintro e w6 ⟨u, rfl, hs, hb6⟩
      have e16 : (ops ++ Pha.rest 16).length = ops.length + 16 := by simp [Pha.rest]
      rw [e16] at hs
      have hs' := hs
      obtain ⟨A2, c2, rfl, hle2, hm2, -, hc2⟩ := hs
      have hb7 := below_next hb6 hb
      unfold maxLen at hm2
      have hne : ((ops.length : Int) + 16 != (ops.length : Int) + 16) = false := by simp
      obtain ⟨l, hl⟩ : ∃ l, l = Pha.answers (Pha.after Pha.start ops) (Pha.rest 16) := ⟨_, rfl⟩
      have hll : l.length = 16 := by rw [hl, Pha.answers_length]; simp [Pha.rest]
      have hget : ∀ k, k < 16 → (Pha.play (ops ++ Pha.rest 16))[ops.length + k]? = l[k]? := fun k _ => by
        rw [Pha.play, Pha.answers_append, ← hl, List.getElem?_append_right (by omega), hl1, Nat.add_sub_cancel_left]
      have hlaw := Lib.hid (fun h => Pha.live_law ops h)
      rw [← hl] at hlaw
      obtain ⟨b, off, rfl, hbw, hcs⟩ := hc2.at_ (by
        intro h0
        have := congrArg List.length h0
        rw [anscs_length, HL2.out] at this
        simp at this)
      have HLL := Lib.hid hll
      have HG := Lib.hid hget
      clear hcs hll hget hl hne e16
      go_wp2_with fail
      go_loopw [8, 40] (fun q i wr => ∃ k : Nat, k ≤ 16 ∧ i = .int .i64 k ∧ q = .bool ((l.take k).any fun a => a.1 == 0 || a.1 == 8) ∧ Below w6.heap.size w6 wr) (fun _ i _ => 16 - (intOf i).toNat)
      case atStart => exact ⟨0, by decide, rfl, rfl, Below.refl _ _⟩
      case round =>
        obtain ⟨k, hk, rfl, rfl, hb8⟩ := hrel
        by_cases hlt2 : k < 16
        · have hlk : k < l.length := by rw [HLL.out]; exact hlt2
          obtain ⟨b', off', hA, -, c0, c1⟩ := ans_cells (hc2.keep (Nat.le_refl _) (fun p hp => hb8.cell hp)) ((HG.out k hlt2).trans (List.getElem?_eq_getElem hlk))
          cases hA
          rw [show off + (ops.length + k) * 2 = off + ops.length * 2 + k * 2 by omega] at c0 c1
          have e : ((l.take (k + 1)).any fun a => a.1 == 0 || a.1 == 8) = (((l.take k).any fun a => a.1 == 0 || a.1 == 8) || (l[k].1 == 0 || l[k].1 == 8)) := by
            rw [List.take_succ_eq_append_getElem hlk, List.any_append]
            simp
          obtain ⟨a, ha⟩ : ∃ a, a = l[k] := ⟨_, rfl⟩
          obtain ⟨q, hq⟩ : ∃ q, q = (l.take k).any fun a => a.1 == 0 || a.1 == 8 := ⟨_, rfl⟩
          rw [← ha, ← hq] at e
          rw [← ha] at c0 c1
          rw [← hq]
          have E := Lib.hid e
          obtain ⟨a1, a2⟩ := a
          simp only at c0 c1
          clear e ha hq
          rcases q with _ | _
          · rcases q0 : a1 == 0 with _ | _
            · rcases q8 : a1 == 8 with _ | _
              all_goals
                go_wp2_with fail
                go_roundw
                case rel => exact ⟨k + 1, by omega, by go_num, by rw [E.out]; simp only [q0, q8]; rfl, below_alloc hb8 _⟩
                case measure => simp [intOf]; omega
            · go_wp2_with fail
              go_roundw
              case rel => exact ⟨k + 1, by omega, by go_num, by rw [E.out]; simp only [q0]; rfl, below_alloc hb8 _⟩
              case measure => simp [intOf]; omega
          · go_wp2_with fail
            go_roundw
            case rel => exact ⟨k + 1, by omega, by go_num, by rw [E.out]; rfl, below_alloc hb8 _⟩
            case measure => simp [intOf]; omega
        · have hk16 : k = 16 := by omega
          subst hk16
          have htk : l.take 16 = l := List.take_of_length_le (by rw [HLL.out]; exact Nat.le_refl _)
          rcases hq : (l.take 16).any fun a => a.1 == 0 || a.1 == 8 with _ | _
          · have HQ := Lib.hid hq
            clear hq htk hc2
            go_wp2
            go_ret
            exact ⟨rfl, below_next hb8 hb7⟩
          · have hex : ∃ a ∈ l, a.1 = 0 ∨ a.1 = 8 := by
              rw [htk, List.any_eq_true] at hq
              obtain ⟨a, ha, h0⟩ := hq
              exact ⟨a, ha, by simpa using h0⟩
            have hlt := hlaw.out hex
            have HQ := Lib.hid hq
            have hs8 := hs'.below hb8
            clear hq htk hc2 hs' hex
            go_wp2_with fail
            refine (l0phase_any _ _ _ (by rw [HL2.out]; exact hs8)).mono ?_
            rintro e w9 ⟨rfl, hb9⟩
            go_wp2
            go_ret
            exact ⟨rfl, below_next hb9 (below_next hb8 hb7)⟩
end Go.Proofs.Ytphbegadddamgaa
