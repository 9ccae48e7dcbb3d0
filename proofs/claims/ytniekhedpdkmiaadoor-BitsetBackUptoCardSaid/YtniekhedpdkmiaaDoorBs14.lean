/-
  BitsetBack, walked.
-/
import Derived.Test.YtniekhedpdkmiaaDoorBsBk
import Derived.BigQuiet
namespace Go.Proofs.YtniekhedpdkmiaaDoor
set_option linter.unusedVariables false
set_option linter.unusedSimpArgs false
open Go.RowKit

theorem SlV.below_ {w w' : World} {sz n : Nat} {v : Value} {vs : List Value} (h : SlV w sz v n vs) (hb : Below w.heap.size w w') : SlV w' sz v n vs := h.below hb
theorem slV_form {w : World} {sz n : Nat} {v : Value} {vs : List Value} (h : SlV w sz v n vs) : ∃ A c, v = .slice A n c := len_of h

set_option maxHeartbeats 8000000 in
theorem bitsetBack_walk (w : World) (v0 : Value) (l : List Int) (hT : Tab w) (hl : SlV w 1 v0 l.length (ints .i64 l)) (bl : l.length ≤ 17592186044) :
    Calls Tryd.prog 6 #[v0] w fun e w' => e = .returned (.bool true) ∧ Below w.heap.size w w' := by
  obtain ⟨A0, k0, rfl⟩ := len_of hl
  obtain ⟨ws, wt, -⟩ := Bs.of_facts l
  have bs := Bs.of_length l
  have hrise := Bs.ls_rise (Bs.of_ l) 0 ws
  have hin := Bs.back_in l
  have hsame := Bs.back_same l
  have hlast := (Bs.tr_iff _).1 wt
  have hlen := Bs.ls_length 0 (Bs.of_ l) ws
  obtain ⟨s, hs0⟩ : ∃ s, s = Bs.of_ l := ⟨_, rfl⟩
  obtain ⟨xs, hxs⟩ : ∃ xs, xs = Bs.ls 0 s := ⟨_, rfl⟩
  have e1 : Bs.ls 0 (Bs.of_ l) = xs := by rw [hxs, hs0]
  rw [e1] at hrise hin hsame hlen
  rw [← hs0] at ws wt bs hsame hlast hlen
  have HS := Lib.hid (And.intro hs0 (And.intro hxs (And.intro hrise (And.intro hin (And.intro hsame hlast)))))
  clear hs0 hxs e1 hrise hin hsame hlast
  go_enter Tryd.func6, Tryd.ntmps6
  have hbw : Below w.heap.size w w := Below.refl _ _
  go_wp2_with fail
  refine (alive1_any _ hT).mono ?_
  rintro e w1 ⟨rfl, hb1⟩
  replace hl := hl.below hb1
  replace hT := hT.step hb1
  replace hbw := below_next hb1 hbw
  clear hb1
  go_wp2_with fail
  refine (of_any _ _ l hl).mono ?_
  rintro e w2 ⟨u2, rfl, hs, hb2⟩
  rw [← HS.out.1] at hs
  obtain ⟨U2, c2, rfl⟩ := slU_form hs
  replace hl := hl.below hb2
  replace hT := hT.step hb2
  replace hbw := below_next hb2 hbw
  clear hb2
  go_wp2_with fail
  refine (list_any _ _ _ hs hT (Nat.le_trans bs (by decide))).mono ?_
  rintro e w3 ⟨u3, rfl, hx, hb3⟩
  rw [← HS.out.2.1] at hx
  obtain ⟨U3, c3, rfl⟩ := len_of hx
  replace hl := hl.below hb3
  replace hs := hs.below hb3
  replace hT := hT.step hb3
  replace hbw := below_next hb3 hbw
  clear hb3
  clear hT
  go_wp2_with fail
  have hxl : (xs.map fun (x : Nat) => (x : Int)).length = xs.length := List.length_map _
  have hx' : SlV w3 1 (.slice U3 xs.length c3) (xs.map fun (x : Nat) => (x : Int)).length (ints .i64 (xs.map fun (x : Nat) => (x : Int))) := by rw [hxl]; exact hx
  obtain ⟨A3, k3, e3, hle3, hm3, hln3, hc3⟩ := hx'
  obtain ⟨rfl, -, rfl⟩ : U3 = A3 ∧ xs.length = (xs.map fun (x : Nat) => (x : Int)).length ∧ c3 = k3 := by injection e3 with e1 e2 e4; exact ⟨e1, e2, e4⟩
  clear e3 hln3
  unfold maxLen at hm3
  have hcx : ∀ j, j < xs.length → ∃ b o, U3 = some ⟨b, o, none⟩ ∧ b < w3.heap.size ∧ ∃ x, xs[j]? = some x ∧ w3.cell? ⟨b, o + j, none⟩ = some (.int .i64 (x : Int)) := fun j hj => by
    obtain ⟨b, o, x, hA, hb, hx, hcc⟩ := hc3.one (j := j) (by rw [hxl]; exact hj)
    have hx2 := hx.out
    rw [List.getElem?_map, List.getElem?_eq_getElem hj] at hx2
    simp only [Option.map_some, Option.some.injEq] at hx2
    exact ⟨b, o, hA, hb, xs[j], List.getElem?_eq_getElem hj, by rw [hx2]; exact hcc⟩
  clear hxl
  go_loopw [5] (fun i wr => ∃ k : Nat, 1 ≤ k ∧ (k ≤ xs.length ∨ k = 1) ∧ i = .int .i64 k ∧ (∃ a, wr = w3.drewN a)) (fun i _ => xs.length - (intOf i).toNat)
  case atStart => exact ⟨1, Nat.le_refl _, .inr rfl, rfl, ⟨0, rfl⟩⟩
  case round =>
    obtain ⟨k, hk1, hk2, rfl, ⟨a, rfl⟩⟩ := hrel
    by_cases hlt : k < xs.length
    · obtain ⟨j, rfl⟩ : ∃ j, k = j + 1 := ⟨k - 1, by omega⟩
      obtain ⟨b, o, rfl, hb, x, hx1, cx⟩ := hcx j (by omega)
      obtain ⟨b', o', e', hb', y, hy1, cy⟩ := hcx (j + 1) hlt
      obtain ⟨rfl, rfl⟩ : b = b' ∧ o = o' := by injection e' with e'; injection e' with e1 e2; exact ⟨e1, e2⟩
      have hxy : x < y := by
        have := List.pairwise_iff_getElem.1 HS.out.2.2.1 j (j + 1) (by omega) hlt (by omega)
        rw [List.getElem?_eq_getElem (by omega)] at hx1
        rw [List.getElem?_eq_getElem hlt] at hy1
        injection hx1 with hx1
        injection hy1 with hy1
        omega
      have hge : decide (y ≤ x) = false := by simp; omega
      clear hx1 hy1 hxy e' hcx hc3
      go_wp2
      go_quiet (fail)
      go_wp2
      go_roundw
      case rel => exact ⟨j + 1 + 1, by omega, by omega, by go_num, ⟨_, rfl⟩⟩
      case measure => simp [intOf]; omega
    · have hlW : SlV (w3.drewN a) 1 (.slice A0 l.length k0) l.length (ints .i64 l) := hl.drewN a
      have hsW : SlU (w3.drewN a) (.slice U2 s.length c2) s := hs.drewN a
      have hbW : Below w.heap.size w (w3.drewN a) := below_drewN hbw a
      have hcW : ∀ j, j < xs.length → ∃ b o, U3 = some ⟨b, o, none⟩ ∧ b < (w3.drewN a).heap.size ∧ ∃ x, xs[j]? = some x ∧ (w3.drewN a).cell? ⟨b, o + j, none⟩ = some (.int .i64 (x : Int)) := fun j hj => by
        obtain ⟨b, o, h1, h2, x, h3, h4⟩ := hcx j hj
        exact ⟨b, o, h1, h2, x, h3, by rw [World.cell?_drewN]; exact h4⟩
      have hxW : SlV (w3.drewN a) 1 (.slice U3 xs.length c3) xs.length (ilist xs) := hx.drewN a
      clear hl hs hbw hcx hc3 hx
      generalize w3.drewN a = W at hlW hsW hbW hcW hxW ⊢
      go_wp2_with fail
      go_loopw [32] (fun i wr => ∃ k : Nat, k ≤ xs.length ∧ i = .int .i64 k ∧ (∃ a, wr = W.drewN a)) (fun i _ => xs.length - (intOf i).toNat)
      case atStart => exact ⟨0, Nat.zero_le _, rfl, ⟨0, rfl⟩⟩
      case round =>
        obtain ⟨j, hj, rfl, ⟨a, rfl⟩⟩ := hrel
        by_cases hlt2 : j < xs.length
        · obtain ⟨b, o, rfl, hb, x, hx1, cx⟩ := hcW j hlt2
          have hh := HS.out.2.2.2.1 x (List.mem_of_getElem? hx1)
          have HH := Lib.hid hh
          have hcon := contains_i64 (.slice A0 l.length k0) l (x : Int) (W.drewN a) (hlW.drewN a)
          rw [HH.out] at hcon
          clear hh hcW hx1 hxW hlW hsW
          go_wp2_with fail
          refine hcon.mono ?_
          rintro e w5 ⟨rfl, m, rfl⟩
          clear hcon
          go_wp2
          go_roundw
          case rel => exact ⟨j + 1, by omega, by go_num, ⟨_, rfl⟩⟩
          case measure => simp [intOf]; omega
        · have hbV : Below w.heap.size w (W.drewN a) := below_drewN hbW a
          have hsV : SlU (W.drewN a) (.slice U2 s.length c2) s := hsW.drewN a
          have hxV : SlV (W.drewN a) 1 (.slice U3 xs.length c3) xs.length (ilist xs) := hxW.drewN a
          clear hlW hsW hbW hcW hxW
          generalize W.drewN a = V at hbV hsV hxV ⊢
          have hof := of_any V (.slice U3 xs.length c3) (xs.map fun (x : Nat) => (x : Int)) (by rw [List.length_map]; exact hxV)
          rw [HS.out.2.2.2.2.1] at hof
          clear hxV
          go_wp2_with fail
          refine hof.mono ?_
          rintro e w6 ⟨u6, rfl, hu6, hb6⟩
          obtain ⟨U6, c6, rfl⟩ := slU_form hu6
          have hsX := hsV.below hb6
          have hbX := below_next hb6 hbV
          clear hof hsV hb6 hbV
          go_wp2_with fail
          refine (equal_u64_call _ _ _ _ true (by simp) _ hu6 hsX).mono ?_
          rintro e w7 ⟨rfl, hb7⟩
          have hsY := hsX.below hb7
          have hbY := below_next hb7 hbX
          clear hu6 hsX hb7 hbX
          obtain ⟨⟨S1, S2, eS, hS1, hS2, hS3, hS4⟩, -⟩ := hsY
          obtain ⟨rfl, -, rfl⟩ : U2 = S1 ∧ s.length = s.length ∧ c2 = S2 := by injection eS with e1 e2 e4; exact ⟨e1, rfl, e4⟩
          unfold maxLen at hS2
          rcases hz : (((s.length : Nat) : Int) == 0) with _ | _
          · have hpos : 0 < s.length := by simp at hz; exact List.length_pos_iff.2 hz
            obtain ⟨n, hn⟩ : ∃ n, s.length = n + 1 := ⟨s.length - 1, by omega⟩
            obtain ⟨x, hx⟩ : ∃ x, s[n]? = some x := ⟨_, List.getElem?_eq_getElem (by omega)⟩
            obtain ⟨b, o, rfl, hb, cx⟩ := hS4.nat hx
            have hx0 : ((x : Int) != 0) = true := by
              have h := HS.out.2.2.2.2.2
              rcases h with h | h
              · rw [h] at hpos; simp at hpos
              · rw [hn, Nat.add_sub_cancel] at h
                unfold Bs.at_ at h
                rw [List.getD_eq_getElem?_getD, hx, Option.getD_some] at h
                simp; omega
            have hsub : ((s.length : Nat) : Int) - 1 = (n : Int) := by omega
            have HB := Lib.hid hbY
            have hnl : n < s.length := by omega
            clear hx hS4 hS3 hbY hpos hn eS
            go_wp2
            go_ret
            exact ⟨rfl, HB.out⟩
          · have HB := Lib.hid hbY
            clear hbY hS4 hS3 eS
            go_wp2
            go_ret
            exact ⟨rfl, HB.out⟩
end Go.Proofs.YtniekhedpdkmiaaDoor
