/-
  To be ahead is an order: the law, walked.
-/
import Derived.Test.YtoddhfabeiimkaaHbP2

namespace Go.Proofs.Ytoddhfabeiimkaa
set_option linter.unusedVariables false
set_option linter.unusedSimpArgs false
set_option maxRecDepth 100000
open Go.RowKit Go.Maps


set_option maxHeartbeats 2000000 in
theorem hbOrder_walk (v : Value) (l : List Hb.Ev) (i j k : Int) (w : World) (h : SlV w 6 v l.length (evcs l)) (hl : l.length ≤ 2932031007402) :
    Calls Try.prog 4 #[v, .int .i64 i, .int .i64 j, .int .i64 k] w fun e w' => e = .returned (.bool true) ∧ Below w.heap.size w w' := by
  obtain ⟨A, c, rfl, hle, hm, hlen, hc⟩ := id h
  unfold maxLen at hm
  clear hlen
  have hii : Hb.ahead l i i = false := Hb.ahead_out (by omega)
  have hAh : ∀ (a b : Int) (r : Bool), Hb.ahead l a b = r → ∀ w', Below w.heap.size w w' → Calls Try.prog 12 #[.slice A l.length c, .int .i64 a, .int .i64 b] w' fun e w'' => e = .returned (.bool r) ∧ Below w'.heap.size w' w'' := fun a b r hr w' hb => ahead_any _ l a b r hr w' (h.below hb) hl
  by_cases hout : 0 ≤ i ∧ i < j ∧ j < l.length
  · obtain ⟨h0, h1, h2⟩ := hout
    obtain ⟨i, rfl⟩ := Int.eq_ofNat_of_zero_le h0
    obtain ⟨j, rfl⟩ := Int.eq_ofNat_of_zero_le (show 0 ≤ j by omega)
    have hij0 : i < j := by omega
    have hjl : j < l.length := by omega
    have hil : i < l.length := by omega
    have hji : Hb.ahead l j i = false := Hb.ahead_out (by omega)
    clear h0 h1 h2
    have hmi := List.getElem?_eq_getElem hil
    have hmj := List.getElem?_eq_getElem hjl
    obtain ⟨b, off, rfl, hbl, -, ci1, -⟩ := ev_cells hc hmi
    obtain ⟨b', off', hA, -, -, cj1, -⟩ := ev_cells hc hmj
    injection hA with hA
    injection hA with hb' ho'
    subst hb' ho'
    have hown := fun he h0 h1 => Hb.ahead_own (l := l) (by omega) hij0 hjl he h0 h1
    have hnat := Hb.ahead_nat l (by omega) hij0 hjl
    have htr := fun h1 h2 => Hb.ahead_trans (l := l) (by omega) (i := i) (j := j) (k := k) h1 h2
    obtain ⟨ai, hai⟩ : ∃ ai, ai = l[i].act := ⟨_, rfl⟩
    obtain ⟨aj, haj⟩ : ∃ aj, aj = l[j].act := ⟨_, rfl⟩
    rw [← hai] at ci1 hown hnat
    rw [← haj] at cj1 hown hnat
    clear hmi hmj hai haj hc h
    have g0 : decide ((i : Int) < 0) = false := by simp
    have g1 : decide (l.length ≤ j) = false := by simp; omega
    have g2 : decide (j ≤ i) = false := by simp; omega
    rcases hij : Hb.ahead l i j with _ | _
    · rcases n1 : (ai != aj) with _ | _
      · have e1 : ai = aj := by simpa using n1
        rcases n2 : decide (ai < 0) with _ | _
        · rcases n3 : decide (200 ≤ ai) with _ | _
          · exfalso
            have := hown e1 (by have := of_decide_eq_false n2; omega) (by have := of_decide_eq_false n3; omega)
            rw [hij] at this
            cases this
          · clear hown hnat htr e1
            go_enter Try.func4, Try.ntmps4
            go_wp2_with fail
            refine (alive19_any w).mono ?_
            rintro _ w1 ⟨rfl, hb⟩
            go_wp2_with fail
            refine (hAh i i false hii _ hb).mono ?_
            rintro _ wz ⟨rfl, hbz⟩
            have hb := below_next hbz hb
            clear hbz
            go_wp2_with fail
            refine (hAh i j false hij _ hb).mono ?_
            rintro _ wz ⟨rfl, hbz⟩
            have hb := below_next hbz hb
            clear hbz
            go_wp2_with fail
            refine (hAh i j false hij _ hb).mono ?_
            rintro _ wz ⟨rfl, hbz⟩
            have hb := below_next hbz hb
            clear hbz
            go_wp2_with fail
            have d1 := (hb.cell (p := ⟨b, off + i * 6 + 1, none⟩) hbl).trans ci1
            have d2 := (hb.cell (p := ⟨b, off + j * 6 + 1, none⟩) hbl).trans cj1
            have hbz := Nat.lt_of_lt_of_le hbl hb.size
            have keepS : ∀ w', Below wz.heap.size wz w' → (Below wz.heap.size wz w' ∧ w'.cell? ⟨b, off + i * 6 + 1, none⟩ = some (.int .i64 ai) ∧ w'.cell? ⟨b, off + j * 6 + 1, none⟩ = some (.int .i64 aj)) := fun w' hb =>
              ⟨hb, (hb.cell (p := ⟨b, off + i * 6 + 1, none⟩) hbz).trans d1, (hb.cell (p := ⟨b, off + j * 6 + 1, none⟩) hbz).trans d2⟩
            have hS0 := keepS _ (below_drew (Below.refl _ _))
            clear d1 d2 ci1 cj1
            refine wp_walk (by kernel_rfl) (by kernel_rfl) (fun _ _ => True) (fun w' => (Below wz.heap.size wz w' ∧ w'.cell? ⟨b, off + i * 6 + 1, none⟩ = some (.int .i64 ai) ∧ w'.cell? ⟨b, off + j * 6 + 1, none⟩ = some (.int .i64 aj))) hS0 ?_
            repeat (first | (refine settle_skip (fun _ => by rfl) ?_; (simp only [Act.put, List.setIfInBounds_toArray, List.set_cons_zero, List.set_cons_succ])) | (refine' settle_run (fun _ _ => trivial) (fun _ => by rfl) ?_ ?_; rotate_left; (focus (intro ρ w hS hF; (try dsimp only at hS); go_split_ands; go_simp; try with_reducible rfl)); (simp only [Act.put, List.setIfInBounds_toArray, List.set_cons_zero, List.set_cons_succ])))
            repeat (first | (refine settle_skip (fun _ => by rfl) ?_; (simp only [Act.put, List.setIfInBounds_toArray, List.set_cons_zero, List.set_cons_succ])) | (refine' settle_run (fun _ _ => trivial) (fun _ => by rfl) ?_ ?_; rotate_left; (focus (intro ρ w hS hF; (try dsimp only at hS); go_split_ands; go_simp; try with_reducible rfl)); (simp only [Act.put, List.setIfInBounds_toArray, List.set_cons_zero, List.set_cons_succ])))
            refine settle_nil ?_
            intro ρ w4 hS _
            have hbe := below_next hS.1 hb
            clear hS hS0 keepS
            go_wp2
            go_ret
            exact ⟨rfl, hbe⟩
        · clear hown hnat htr e1
          go_enter Try.func4, Try.ntmps4
          go_wp2_with fail
          refine (alive19_any w).mono ?_
          rintro _ w1 ⟨rfl, hb⟩
          go_wp2_with fail
          refine (hAh i i false hii _ hb).mono ?_
          rintro _ wz ⟨rfl, hbz⟩
          have hb := below_next hbz hb
          clear hbz
          go_wp2_with fail
          refine (hAh i j false hij _ hb).mono ?_
          rintro _ wz ⟨rfl, hbz⟩
          have hb := below_next hbz hb
          clear hbz
          go_wp2_with fail
          refine (hAh i j false hij _ hb).mono ?_
          rintro _ wz ⟨rfl, hbz⟩
          have hb := below_next hbz hb
          clear hbz
          go_wp2_with fail
          have d1 := (hb.cell (p := ⟨b, off + i * 6 + 1, none⟩) hbl).trans ci1
          have d2 := (hb.cell (p := ⟨b, off + j * 6 + 1, none⟩) hbl).trans cj1
          have hbz := Nat.lt_of_lt_of_le hbl hb.size
          have keepS : ∀ w', Below wz.heap.size wz w' → (Below wz.heap.size wz w' ∧ w'.cell? ⟨b, off + i * 6 + 1, none⟩ = some (.int .i64 ai) ∧ w'.cell? ⟨b, off + j * 6 + 1, none⟩ = some (.int .i64 aj)) := fun w' hb =>
            ⟨hb, (hb.cell (p := ⟨b, off + i * 6 + 1, none⟩) hbz).trans d1, (hb.cell (p := ⟨b, off + j * 6 + 1, none⟩) hbz).trans d2⟩
          have hS0 := keepS _ (below_drew (Below.refl _ _))
          clear d1 d2 ci1 cj1
          refine wp_walk (by kernel_rfl) (by kernel_rfl) (fun _ _ => True) (fun w' => (Below wz.heap.size wz w' ∧ w'.cell? ⟨b, off + i * 6 + 1, none⟩ = some (.int .i64 ai) ∧ w'.cell? ⟨b, off + j * 6 + 1, none⟩ = some (.int .i64 aj))) hS0 ?_
          repeat (first | (refine settle_skip (fun _ => by rfl) ?_; (simp only [Act.put, List.setIfInBounds_toArray, List.set_cons_zero, List.set_cons_succ])) | (refine' settle_run (fun _ _ => trivial) (fun _ => by rfl) ?_ ?_; rotate_left; (focus (intro ρ w hS hF; (try dsimp only at hS); go_split_ands; go_simp; try with_reducible rfl)); (simp only [Act.put, List.setIfInBounds_toArray, List.set_cons_zero, List.set_cons_succ])))
          repeat (first | (refine settle_skip (fun _ => by rfl) ?_; (simp only [Act.put, List.setIfInBounds_toArray, List.set_cons_zero, List.set_cons_succ])) | (refine' settle_run (fun _ _ => trivial) (fun _ => by rfl) ?_ ?_; rotate_left; (focus (intro ρ w hS hF; (try dsimp only at hS); go_split_ands; go_simp; try with_reducible rfl)); (simp only [Act.put, List.setIfInBounds_toArray, List.set_cons_zero, List.set_cons_succ])))
          refine settle_nil ?_
          intro ρ w4 hS _
          have hbe := below_next hS.1 hb
          clear hS hS0 keepS
          go_wp2
          go_ret
          exact ⟨rfl, hbe⟩
      · clear hown hnat htr
        go_enter Try.func4, Try.ntmps4
        go_wp2_with fail
        refine (alive19_any w).mono ?_
        rintro _ w1 ⟨rfl, hb⟩
        go_wp2_with fail
        refine (hAh i i false hii _ hb).mono ?_
        rintro _ wz ⟨rfl, hbz⟩
        have hb := below_next hbz hb
        clear hbz
        go_wp2_with fail
        refine (hAh i j false hij _ hb).mono ?_
        rintro _ wz ⟨rfl, hbz⟩
        have hb := below_next hbz hb
        clear hbz
        go_wp2_with fail
        refine (hAh i j false hij _ hb).mono ?_
        rintro _ wz ⟨rfl, hbz⟩
        have hb := below_next hbz hb
        clear hbz
        go_wp2_with fail
        have d1 := (hb.cell (p := ⟨b, off + i * 6 + 1, none⟩) hbl).trans ci1
        have d2 := (hb.cell (p := ⟨b, off + j * 6 + 1, none⟩) hbl).trans cj1
        have hbz := Nat.lt_of_lt_of_le hbl hb.size
        have keepS : ∀ w', Below wz.heap.size wz w' → (Below wz.heap.size wz w' ∧ w'.cell? ⟨b, off + i * 6 + 1, none⟩ = some (.int .i64 ai) ∧ w'.cell? ⟨b, off + j * 6 + 1, none⟩ = some (.int .i64 aj)) := fun w' hb =>
          ⟨hb, (hb.cell (p := ⟨b, off + i * 6 + 1, none⟩) hbz).trans d1, (hb.cell (p := ⟨b, off + j * 6 + 1, none⟩) hbz).trans d2⟩
        have hS0 := keepS _ (below_drew (Below.refl _ _))
        clear d1 d2 ci1 cj1
        refine wp_walk (by kernel_rfl) (by kernel_rfl) (fun _ _ => True) (fun w' => (Below wz.heap.size wz w' ∧ w'.cell? ⟨b, off + i * 6 + 1, none⟩ = some (.int .i64 ai) ∧ w'.cell? ⟨b, off + j * 6 + 1, none⟩ = some (.int .i64 aj))) hS0 ?_
        repeat (first | (refine settle_skip (fun _ => by rfl) ?_; (simp only [Act.put, List.setIfInBounds_toArray, List.set_cons_zero, List.set_cons_succ])) | (refine' settle_run (fun _ _ => trivial) (fun _ => by rfl) ?_ ?_; rotate_left; (focus (intro ρ w hS hF; (try dsimp only at hS); go_split_ands; go_simp; try with_reducible rfl)); (simp only [Act.put, List.setIfInBounds_toArray, List.set_cons_zero, List.set_cons_succ])))
        repeat (first | (refine settle_skip (fun _ => by rfl) ?_; (simp only [Act.put, List.setIfInBounds_toArray, List.set_cons_zero, List.set_cons_succ])) | (refine' settle_run (fun _ _ => trivial) (fun _ => by rfl) ?_ ?_; rotate_left; (focus (intro ρ w hS hF; (try dsimp only at hS); go_split_ands; go_simp; try with_reducible rfl)); (simp only [Act.put, List.setIfInBounds_toArray, List.set_cons_zero, List.set_cons_succ])))
        refine settle_nil ?_
        intro ρ w4 hS _
        have hbe := below_next hS.1 hb
        clear hS hS0 keepS
        go_wp2
        go_ret
        exact ⟨rfl, hbe⟩
    · have hk : Hb.known ai := by
        rw [hij] at hnat
        have := hnat.symm
        simp only [Bool.and_eq_true, decide_eq_true_iff] at this
        exact this.1
      have n2 : decide (ai < 0) = false := by simp; exact hk.1
      have n3 : decide (200 ≤ ai) = false := by simp; exact hk.2
      clear hown hnat hk
      rcases hjk : Hb.ahead l j k with _ | _
      · clear htr
        rcases n1 : (ai != aj) with _ | _
        · go_enter Try.func4, Try.ntmps4
          go_wp2_with fail
          refine (alive19_any w).mono ?_
          rintro _ w1 ⟨rfl, hb⟩
          go_wp2_with fail
          refine (hAh i i false hii _ hb).mono ?_
          rintro _ wz ⟨rfl, hbz⟩
          have hb := below_next hbz hb
          clear hbz
          go_wp2_with fail
          refine (hAh i j true hij _ hb).mono ?_
          rintro _ wz ⟨rfl, hbz⟩
          have hb := below_next hbz hb
          clear hbz
          go_wp2_with fail
          refine (hAh j i false hji _ hb).mono ?_
          rintro _ wz ⟨rfl, hbz⟩
          have hb := below_next hbz hb
          clear hbz
          go_wp2_with fail
          refine (hAh i j true hij _ hb).mono ?_
          rintro _ wz ⟨rfl, hbz⟩
          have hb := below_next hbz hb
          clear hbz
          go_wp2_with fail
          refine (hAh j k false hjk _ hb).mono ?_
          rintro _ wz ⟨rfl, hbz⟩
          have hb := below_next hbz hb
          clear hbz
          go_wp2_with fail
          have d1 := (hb.cell (p := ⟨b, off + i * 6 + 1, none⟩) hbl).trans ci1
          have d2 := (hb.cell (p := ⟨b, off + j * 6 + 1, none⟩) hbl).trans cj1
          have hbz := Nat.lt_of_lt_of_le hbl hb.size
          have keepS : ∀ w', Below wz.heap.size wz w' → (Below wz.heap.size wz w' ∧ w'.cell? ⟨b, off + i * 6 + 1, none⟩ = some (.int .i64 ai) ∧ w'.cell? ⟨b, off + j * 6 + 1, none⟩ = some (.int .i64 aj)) := fun w' hb =>
            ⟨hb, (hb.cell (p := ⟨b, off + i * 6 + 1, none⟩) hbz).trans d1, (hb.cell (p := ⟨b, off + j * 6 + 1, none⟩) hbz).trans d2⟩
          have hS0 := keepS _ (below_drew (Below.refl _ _))
          clear d1 d2 ci1 cj1
          refine wp_walk (by kernel_rfl) (by kernel_rfl) (fun _ _ => True) (fun w' => (Below wz.heap.size wz w' ∧ w'.cell? ⟨b, off + i * 6 + 1, none⟩ = some (.int .i64 ai) ∧ w'.cell? ⟨b, off + j * 6 + 1, none⟩ = some (.int .i64 aj))) hS0 ?_
          repeat (first | (refine settle_skip (fun _ => by rfl) ?_; (simp only [Act.put, List.setIfInBounds_toArray, List.set_cons_zero, List.set_cons_succ])) | (refine' settle_run (fun _ _ => trivial) (fun _ => by rfl) ?_ ?_; rotate_left; (focus (intro ρ w hS hF; (try dsimp only at hS); go_split_ands; go_simp; try with_reducible rfl)); (simp only [Act.put, List.setIfInBounds_toArray, List.set_cons_zero, List.set_cons_succ])))
          (refine' settle_step (fun _ => by rfl) ?_ ?_; rotate_left; (focus (intro ρ w hS hF K hK; (simp only [Act.put, List.setIfInBounds_toArray, List.set_cons_zero, List.set_cons_succ] at hK); go_simp; (refine (hAh i j true hij _ (below_next hS.1 hb)).mono ?_; rintro e w6 ⟨rfl, hb6⟩; have hS' := keepS _ (below_next hb6 hS.1); have hE' := True.intro); exact hK _ hS' hE')); (simp only [Act.put, List.setIfInBounds_toArray, List.set_cons_zero, List.set_cons_succ]))
          repeat (first | (refine settle_skip (fun _ => by rfl) ?_; (simp only [Act.put, List.setIfInBounds_toArray, List.set_cons_zero, List.set_cons_succ])) | (refine' settle_run (fun _ _ => trivial) (fun _ => by rfl) ?_ ?_; rotate_left; (focus (intro ρ w hS hF; (try dsimp only at hS); go_split_ands; go_simp; try with_reducible rfl)); (simp only [Act.put, List.setIfInBounds_toArray, List.set_cons_zero, List.set_cons_succ])))
          refine settle_nil ?_
          intro ρ w4 hS _
          have hbe := below_next hS.1 hb
          clear hS hS0 keepS
          go_wp2
          go_ret
          exact ⟨rfl, hbe⟩
        · go_enter Try.func4, Try.ntmps4
          go_wp2_with fail
          refine (alive19_any w).mono ?_
          rintro _ w1 ⟨rfl, hb⟩
          go_wp2_with fail
          refine (hAh i i false hii _ hb).mono ?_
          rintro _ wz ⟨rfl, hbz⟩
          have hb := below_next hbz hb
          clear hbz
          go_wp2_with fail
          refine (hAh i j true hij _ hb).mono ?_
          rintro _ wz ⟨rfl, hbz⟩
          have hb := below_next hbz hb
          clear hbz
          go_wp2_with fail
          refine (hAh j i false hji _ hb).mono ?_
          rintro _ wz ⟨rfl, hbz⟩
          have hb := below_next hbz hb
          clear hbz
          go_wp2_with fail
          refine (hAh i j true hij _ hb).mono ?_
          rintro _ wz ⟨rfl, hbz⟩
          have hb := below_next hbz hb
          clear hbz
          go_wp2_with fail
          refine (hAh j k false hjk _ hb).mono ?_
          rintro _ wz ⟨rfl, hbz⟩
          have hb := below_next hbz hb
          clear hbz
          go_wp2_with fail
          have d1 := (hb.cell (p := ⟨b, off + i * 6 + 1, none⟩) hbl).trans ci1
          have d2 := (hb.cell (p := ⟨b, off + j * 6 + 1, none⟩) hbl).trans cj1
          have hbz := Nat.lt_of_lt_of_le hbl hb.size
          have keepS : ∀ w', Below wz.heap.size wz w' → (Below wz.heap.size wz w' ∧ w'.cell? ⟨b, off + i * 6 + 1, none⟩ = some (.int .i64 ai) ∧ w'.cell? ⟨b, off + j * 6 + 1, none⟩ = some (.int .i64 aj)) := fun w' hb =>
            ⟨hb, (hb.cell (p := ⟨b, off + i * 6 + 1, none⟩) hbz).trans d1, (hb.cell (p := ⟨b, off + j * 6 + 1, none⟩) hbz).trans d2⟩
          have hS0 := keepS _ (below_drew (Below.refl _ _))
          clear d1 d2 ci1 cj1
          refine wp_walk (by kernel_rfl) (by kernel_rfl) (fun _ _ => True) (fun w' => (Below wz.heap.size wz w' ∧ w'.cell? ⟨b, off + i * 6 + 1, none⟩ = some (.int .i64 ai) ∧ w'.cell? ⟨b, off + j * 6 + 1, none⟩ = some (.int .i64 aj))) hS0 ?_
          repeat (first | (refine settle_skip (fun _ => by rfl) ?_; (simp only [Act.put, List.setIfInBounds_toArray, List.set_cons_zero, List.set_cons_succ])) | (refine' settle_run (fun _ _ => trivial) (fun _ => by rfl) ?_ ?_; rotate_left; (focus (intro ρ w hS hF; (try dsimp only at hS); go_split_ands; go_simp; try with_reducible rfl)); (simp only [Act.put, List.setIfInBounds_toArray, List.set_cons_zero, List.set_cons_succ])))
          repeat (first | (refine settle_skip (fun _ => by rfl) ?_; (simp only [Act.put, List.setIfInBounds_toArray, List.set_cons_zero, List.set_cons_succ])) | (refine' settle_run (fun _ _ => trivial) (fun _ => by rfl) ?_ ?_; rotate_left; (focus (intro ρ w hS hF; (try dsimp only at hS); go_split_ands; go_simp; try with_reducible rfl)); (simp only [Act.put, List.setIfInBounds_toArray, List.set_cons_zero, List.set_cons_succ])))
          refine settle_nil ?_
          intro ρ w4 hS _
          have hbe := below_next hS.1 hb
          clear hS hS0 keepS
          go_wp2
          go_ret
          exact ⟨rfl, hbe⟩
      · have hik := htr hij hjk
        clear htr
        rcases n1 : (ai != aj) with _ | _
        · go_enter Try.func4, Try.ntmps4
          go_wp2_with fail
          refine (alive19_any w).mono ?_
          rintro _ w1 ⟨rfl, hb⟩
          go_wp2_with fail
          refine (hAh i i false hii _ hb).mono ?_
          rintro _ wz ⟨rfl, hbz⟩
          have hb := below_next hbz hb
          clear hbz
          go_wp2_with fail
          refine (hAh i j true hij _ hb).mono ?_
          rintro _ wz ⟨rfl, hbz⟩
          have hb := below_next hbz hb
          clear hbz
          go_wp2_with fail
          refine (hAh j i false hji _ hb).mono ?_
          rintro _ wz ⟨rfl, hbz⟩
          have hb := below_next hbz hb
          clear hbz
          go_wp2_with fail
          refine (hAh i j true hij _ hb).mono ?_
          rintro _ wz ⟨rfl, hbz⟩
          have hb := below_next hbz hb
          clear hbz
          go_wp2_with fail
          refine (hAh j k true hjk _ hb).mono ?_
          rintro _ wz ⟨rfl, hbz⟩
          have hb := below_next hbz hb
          clear hbz
          go_wp2_with fail
          refine (hAh i k true hik _ hb).mono ?_
          rintro _ wz ⟨rfl, hbz⟩
          have hb := below_next hbz hb
          clear hbz
          go_wp2_with fail
          have d1 := (hb.cell (p := ⟨b, off + i * 6 + 1, none⟩) hbl).trans ci1
          have d2 := (hb.cell (p := ⟨b, off + j * 6 + 1, none⟩) hbl).trans cj1
          have hbz := Nat.lt_of_lt_of_le hbl hb.size
          have keepS : ∀ w', Below wz.heap.size wz w' → (Below wz.heap.size wz w' ∧ w'.cell? ⟨b, off + i * 6 + 1, none⟩ = some (.int .i64 ai) ∧ w'.cell? ⟨b, off + j * 6 + 1, none⟩ = some (.int .i64 aj)) := fun w' hb =>
            ⟨hb, (hb.cell (p := ⟨b, off + i * 6 + 1, none⟩) hbz).trans d1, (hb.cell (p := ⟨b, off + j * 6 + 1, none⟩) hbz).trans d2⟩
          have hS0 := keepS _ (below_drew (Below.refl _ _))
          clear d1 d2 ci1 cj1
          refine wp_walk (by kernel_rfl) (by kernel_rfl) (fun _ _ => True) (fun w' => (Below wz.heap.size wz w' ∧ w'.cell? ⟨b, off + i * 6 + 1, none⟩ = some (.int .i64 ai) ∧ w'.cell? ⟨b, off + j * 6 + 1, none⟩ = some (.int .i64 aj))) hS0 ?_
          repeat (first | (refine settle_skip (fun _ => by rfl) ?_; (simp only [Act.put, List.setIfInBounds_toArray, List.set_cons_zero, List.set_cons_succ])) | (refine' settle_run (fun _ _ => trivial) (fun _ => by rfl) ?_ ?_; rotate_left; (focus (intro ρ w hS hF; (try dsimp only at hS); go_split_ands; go_simp; try with_reducible rfl)); (simp only [Act.put, List.setIfInBounds_toArray, List.set_cons_zero, List.set_cons_succ])))
          (refine' settle_step (fun _ => by rfl) ?_ ?_; rotate_left; (focus (intro ρ w hS hF K hK; (simp only [Act.put, List.setIfInBounds_toArray, List.set_cons_zero, List.set_cons_succ] at hK); go_simp; (refine (hAh i j true hij _ (below_next hS.1 hb)).mono ?_; rintro e w6 ⟨rfl, hb6⟩; have hS' := keepS _ (below_next hb6 hS.1); have hE' := True.intro); exact hK _ hS' hE')); (simp only [Act.put, List.setIfInBounds_toArray, List.set_cons_zero, List.set_cons_succ]))
          repeat (first | (refine settle_skip (fun _ => by rfl) ?_; (simp only [Act.put, List.setIfInBounds_toArray, List.set_cons_zero, List.set_cons_succ])) | (refine' settle_run (fun _ _ => trivial) (fun _ => by rfl) ?_ ?_; rotate_left; (focus (intro ρ w hS hF; (try dsimp only at hS); go_split_ands; go_simp; try with_reducible rfl)); (simp only [Act.put, List.setIfInBounds_toArray, List.set_cons_zero, List.set_cons_succ])))
          refine settle_nil ?_
          intro ρ w4 hS _
          have hbe := below_next hS.1 hb
          clear hS hS0 keepS
          go_wp2
          go_ret
          exact ⟨rfl, hbe⟩
        · go_enter Try.func4, Try.ntmps4
          go_wp2_with fail
          refine (alive19_any w).mono ?_
          rintro _ w1 ⟨rfl, hb⟩
          go_wp2_with fail
          refine (hAh i i false hii _ hb).mono ?_
          rintro _ wz ⟨rfl, hbz⟩
          have hb := below_next hbz hb
          clear hbz
          go_wp2_with fail
          refine (hAh i j true hij _ hb).mono ?_
          rintro _ wz ⟨rfl, hbz⟩
          have hb := below_next hbz hb
          clear hbz
          go_wp2_with fail
          refine (hAh j i false hji _ hb).mono ?_
          rintro _ wz ⟨rfl, hbz⟩
          have hb := below_next hbz hb
          clear hbz
          go_wp2_with fail
          refine (hAh i j true hij _ hb).mono ?_
          rintro _ wz ⟨rfl, hbz⟩
          have hb := below_next hbz hb
          clear hbz
          go_wp2_with fail
          refine (hAh j k true hjk _ hb).mono ?_
          rintro _ wz ⟨rfl, hbz⟩
          have hb := below_next hbz hb
          clear hbz
          go_wp2_with fail
          refine (hAh i k true hik _ hb).mono ?_
          rintro _ wz ⟨rfl, hbz⟩
          have hb := below_next hbz hb
          clear hbz
          go_wp2_with fail
          have d1 := (hb.cell (p := ⟨b, off + i * 6 + 1, none⟩) hbl).trans ci1
          have d2 := (hb.cell (p := ⟨b, off + j * 6 + 1, none⟩) hbl).trans cj1
          have hbz := Nat.lt_of_lt_of_le hbl hb.size
          have keepS : ∀ w', Below wz.heap.size wz w' → (Below wz.heap.size wz w' ∧ w'.cell? ⟨b, off + i * 6 + 1, none⟩ = some (.int .i64 ai) ∧ w'.cell? ⟨b, off + j * 6 + 1, none⟩ = some (.int .i64 aj)) := fun w' hb =>
            ⟨hb, (hb.cell (p := ⟨b, off + i * 6 + 1, none⟩) hbz).trans d1, (hb.cell (p := ⟨b, off + j * 6 + 1, none⟩) hbz).trans d2⟩
          have hS0 := keepS _ (below_drew (Below.refl _ _))
          clear d1 d2 ci1 cj1
          refine wp_walk (by kernel_rfl) (by kernel_rfl) (fun _ _ => True) (fun w' => (Below wz.heap.size wz w' ∧ w'.cell? ⟨b, off + i * 6 + 1, none⟩ = some (.int .i64 ai) ∧ w'.cell? ⟨b, off + j * 6 + 1, none⟩ = some (.int .i64 aj))) hS0 ?_
          repeat (first | (refine settle_skip (fun _ => by rfl) ?_; (simp only [Act.put, List.setIfInBounds_toArray, List.set_cons_zero, List.set_cons_succ])) | (refine' settle_run (fun _ _ => trivial) (fun _ => by rfl) ?_ ?_; rotate_left; (focus (intro ρ w hS hF; (try dsimp only at hS); go_split_ands; go_simp; try with_reducible rfl)); (simp only [Act.put, List.setIfInBounds_toArray, List.set_cons_zero, List.set_cons_succ])))
          repeat (first | (refine settle_skip (fun _ => by rfl) ?_; (simp only [Act.put, List.setIfInBounds_toArray, List.set_cons_zero, List.set_cons_succ])) | (refine' settle_run (fun _ _ => trivial) (fun _ => by rfl) ?_ ?_; rotate_left; (focus (intro ρ w hS hF; (try dsimp only at hS); go_split_ands; go_simp; try with_reducible rfl)); (simp only [Act.put, List.setIfInBounds_toArray, List.set_cons_zero, List.set_cons_succ])))
          refine settle_nil ?_
          intro ρ w4 hS _
          have hbe := below_next hS.1 hb
          clear hS hS0 keepS
          go_wp2
          go_ret
          exact ⟨rfl, hbe⟩
  · have hij : Hb.ahead l i j = false := Hb.ahead_out hout
    clear hc h
    by_cases h0 : i < 0
    · have g0 : decide (i < 0) = true := by simpa using h0
      clear hout h0
      go_enter Try.func4, Try.ntmps4
      go_wp2_with fail
      refine (alive19_any w).mono ?_
      rintro _ w1 ⟨rfl, hb⟩
      go_wp2_with fail
      refine (hAh i i false hii _ hb).mono ?_
      rintro _ wz ⟨rfl, hbz⟩
      have hb := below_next hbz hb
      clear hbz
      go_wp2_with fail
      refine (hAh i j false hij _ hb).mono ?_
      rintro _ wz ⟨rfl, hbz⟩
      have hb := below_next hbz hb
      clear hbz
      go_wp2_with fail
      refine (hAh i j false hij _ hb).mono ?_
      rintro _ wz ⟨rfl, hbz⟩
      have hb := below_next hbz hb
      clear hbz
      go_wp2_with fail
      have keepS : ∀ w', Below wz.heap.size wz w' → (Below wz.heap.size wz w' ∧ True) := fun w' hb => ⟨hb, trivial⟩
      have hS0 := keepS _ (below_drew (Below.refl _ _))
      refine wp_walk (by kernel_rfl) (by kernel_rfl) (fun _ _ => True) (fun w' => (Below wz.heap.size wz w' ∧ True)) hS0 ?_
      repeat (first | (refine settle_skip (fun _ => by rfl) ?_; (simp only [Act.put, List.setIfInBounds_toArray, List.set_cons_zero, List.set_cons_succ])) | (refine' settle_run (fun _ _ => trivial) (fun _ => by rfl) ?_ ?_; rotate_left; (focus (intro ρ w hS hF; (try dsimp only at hS); go_split_ands; go_simp; try with_reducible rfl)); (simp only [Act.put, List.setIfInBounds_toArray, List.set_cons_zero, List.set_cons_succ])))
      refine settle_nil ?_
      intro ρ w4 hS _
      have hbe := below_next hS.1 hb
      clear hS hS0 keepS
      go_wp2
      go_ret
      exact ⟨rfl, hbe⟩
    have g0 : decide (i < 0) = false := by simpa using h0
    by_cases h1 : (l.length : Int) ≤ j
    · have g1 : decide ((l.length : Int) ≤ j) = true := by simpa using h1
      clear hout h0 h1
      go_enter Try.func4, Try.ntmps4
      go_wp2_with fail
      refine (alive19_any w).mono ?_
      rintro _ w1 ⟨rfl, hb⟩
      go_wp2_with fail
      refine (hAh i i false hii _ hb).mono ?_
      rintro _ wz ⟨rfl, hbz⟩
      have hb := below_next hbz hb
      clear hbz
      go_wp2_with fail
      refine (hAh i j false hij _ hb).mono ?_
      rintro _ wz ⟨rfl, hbz⟩
      have hb := below_next hbz hb
      clear hbz
      go_wp2_with fail
      refine (hAh i j false hij _ hb).mono ?_
      rintro _ wz ⟨rfl, hbz⟩
      have hb := below_next hbz hb
      clear hbz
      go_wp2_with fail
      have keepS : ∀ w', Below wz.heap.size wz w' → (Below wz.heap.size wz w' ∧ True) := fun w' hb => ⟨hb, trivial⟩
      have hS0 := keepS _ (below_drew (Below.refl _ _))
      refine wp_walk (by kernel_rfl) (by kernel_rfl) (fun _ _ => True) (fun w' => (Below wz.heap.size wz w' ∧ True)) hS0 ?_
      repeat (first | (refine settle_skip (fun _ => by rfl) ?_; (simp only [Act.put, List.setIfInBounds_toArray, List.set_cons_zero, List.set_cons_succ])) | (refine' settle_run (fun _ _ => trivial) (fun _ => by rfl) ?_ ?_; rotate_left; (focus (intro ρ w hS hF; (try dsimp only at hS); go_split_ands; go_simp; try with_reducible rfl)); (simp only [Act.put, List.setIfInBounds_toArray, List.set_cons_zero, List.set_cons_succ])))
      refine settle_nil ?_
      intro ρ w4 hS _
      have hbe := below_next hS.1 hb
      clear hS hS0 keepS
      go_wp2
      go_ret
      exact ⟨rfl, hbe⟩
    have g1 : decide ((l.length : Int) ≤ j) = false := by simpa using h1
    have g2 : decide (j ≤ i) = true := by simp; omega
    clear hout h0 h1
    go_enter Try.func4, Try.ntmps4
    go_wp2_with fail
    refine (alive19_any w).mono ?_
    rintro _ w1 ⟨rfl, hb⟩
    go_wp2_with fail
    refine (hAh i i false hii _ hb).mono ?_
    rintro _ wz ⟨rfl, hbz⟩
    have hb := below_next hbz hb
    clear hbz
    go_wp2_with fail
    refine (hAh i j false hij _ hb).mono ?_
    rintro _ wz ⟨rfl, hbz⟩
    have hb := below_next hbz hb
    clear hbz
    go_wp2_with fail
    refine (hAh i j false hij _ hb).mono ?_
    rintro _ wz ⟨rfl, hbz⟩
    have hb := below_next hbz hb
    clear hbz
    go_wp2_with fail
    have keepS : ∀ w', Below wz.heap.size wz w' → (Below wz.heap.size wz w' ∧ True) := fun w' hb => ⟨hb, trivial⟩
    have hS0 := keepS _ (below_drew (Below.refl _ _))
    refine wp_walk (by kernel_rfl) (by kernel_rfl) (fun _ _ => True) (fun w' => (Below wz.heap.size wz w' ∧ True)) hS0 ?_
    repeat (first | (refine settle_skip (fun _ => by rfl) ?_; (simp only [Act.put, List.setIfInBounds_toArray, List.set_cons_zero, List.set_cons_succ])) | (refine' settle_run (fun _ _ => trivial) (fun _ => by rfl) ?_ ?_; rotate_left; (focus (intro ρ w hS hF; (try dsimp only at hS); go_split_ands; go_simp; try with_reducible rfl)); (simp only [Act.put, List.setIfInBounds_toArray, List.set_cons_zero, List.set_cons_succ])))
    refine settle_nil ?_
    intro ρ w4 hS _
    have hbe := below_next hS.1 hb
    clear hS hS0 keepS
    go_wp2
    go_ret
    exact ⟨rfl, hbe⟩
end Go.Proofs.Ytoddhfabeiimkaa
