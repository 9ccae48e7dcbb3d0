/-
  Two orders tell it all: the law, walked.
-/
import Derived.Test.YtdipieplmmhnhaaSpLaws
import Derived.Test.YtdipieplmmhnhaaSettle3
namespace Go.Proofs.Ytdipieplmmhnhaa
set_option linter.unusedVariables false
set_option linter.unusedSimpArgs false
open Go.RowKit

set_option maxRecDepth 100000 in
set_option maxHeartbeats 16000000 in
theorem spTwo_walk (w : World) (cs : List Value) (t : Sp.T) (i j : Int) (hT : TmR w.heap.size w cs t) (hn : t.size ≤ 4194304) :
    Calls Try.prog 9 #[.agg cs.toArray, .int .i64 i, .int .i64 j] w fun e w' => e = .returned (.bool true) ∧ Below w.heap.size w w' := by
  obtain ⟨a0, a1, a2, a3, A4, a5, a6, rfl, -, -⟩ := hT.form
  have hP := Blk.new w 26 (tcells a0 a1 a2 a3 A4 a5 a6)
  have s1 := hT.alloc (Nat.le_refl _) (.cells (tcells a0 a1 a2 a3 A4 a5 a6).toArray 26)
  have hb0 : Below w.heap.size w (w.alloc (.cells (tcells a0 a1 a2 a3 A4 a5 a6).toArray 26)) := below_alloc (Below.refl _ _) _
  unfold tcells at s1 hP hb0 ⊢
  clear hT
  go_enter Try.func9, Try.ntmps9
  go_wp2_with fail
  refine (alive4_any _).mono ?_
  rintro e w1 ⟨rfl, hb1⟩
  have hbw := below_next hb1 hb0
  have hP1 := hP.below hb1
  have hsz : w.heap.size ≤ w1.heap.size := hbw.size
  have hX := Boxed.of hP1 (s1.later (hb1.mono (by simp))) hsz
  obtain ⟨q, hq⟩ : ∃ q, q = w.heap.size := ⟨_, rfl⟩
  rw [← hq] at hX ⊢
  have hA : Below w1.heap.size w1 w1 := Below.refl _ _
  have HQ := Lib.hid hq
  clear hP s1 hb0 hb1 hP1 hq hsz
  obtain ⟨⟨d0, d1, d2, d3, d4⟩, hT⟩ := hX.look _ hA
  go_wp2_with fail
  refine (marks_any _ _ t hT hn).mono ?_
  rintro e w2 ⟨h, rfl, hrow, hhlt, hb⟩
  replace hA := below_next hb hA
  clear d0 d1 d2 d3 d4 hT hb
  obtain ⟨⟨d0, d1, d2, d3, d4⟩, hT⟩ := hX.look _ hA
  go_wp2_with fail
  refine (leaves_any _ _ t hT hn).mono ?_
  rintro e w3 ⟨v, rfl, ⟨A7, c7, rfl, hle7, hm7, -, -⟩, hb⟩
  replace hA := below_next hb hA
  have hrow3 := hrow.below hb
  unfold maxLen at hm7
  obtain ⟨n, hnn⟩ : ∃ n, n = t.size := ⟨_, rfl⟩
  rw [← hnn] at hle7 ⊢
  have HN := Lib.hid hnn
  clear d0 d1 d2 d3 d4 hT hb hnn hrow hhlt
  have hout : ¬ (0 ≤ i ∧ 0 ≤ j ∧ i < (n : Int) ∧ j < (n : Int)) → Hid (t.before i j = false) := fun h => by
    rw [HN.out] at h
    unfold Sp.T.before
    rw [decide_eq_false_iff_not]
    exact fun h' => h h'.1
  by_cases g1 : i < 0
  · have gb : decide (i < 0) = true := by simpa using g1
    clear hrow3
    have e0 := hout (by omega)
    clear hout
    obtain ⟨⟨d0, d1, d2, d3, d4⟩, hT⟩ := hX.look _ hA
    go_wp2_with fail
    refine (before_any _ _ t i j hT hn).mono ?_
    rintro e w2 ⟨rfl, hb⟩
    replace hA := below_next hb hA
    clear d0 d1 d2 d3 d4 hT hb
    rw [e0.out]
    go_wp2
    go_ret
    exact ⟨rfl, below_self hbw hA⟩
  by_cases g2 : j < 0
  · have ga : decide (i < 0) = false := by simpa using g1
    have gb : decide (j < 0) = true := by simpa using g2
    clear hrow3
    have e0 := hout (by omega)
    clear hout
    obtain ⟨⟨d0, d1, d2, d3, d4⟩, hT⟩ := hX.look _ hA
    go_wp2_with fail
    refine (before_any _ _ t i j hT hn).mono ?_
    rintro e w2 ⟨rfl, hb⟩
    replace hA := below_next hb hA
    clear d0 d1 d2 d3 d4 hT hb
    rw [e0.out]
    go_wp2
    go_ret
    exact ⟨rfl, below_self hbw hA⟩
  obtain ⟨a, rfl⟩ := Int.eq_ofNat_of_zero_le (show 0 ≤ i by omega)
  obtain ⟨b, rfl⟩ := Int.eq_ofNat_of_zero_le (show 0 ≤ j by omega)
  have n1 : decide ((a : Int) < 0) = false := by simp
  have n2 : decide ((b : Int) < 0) = false := by simp
  clear g1 g2
  by_cases g3 : n ≤ a
  · have gb : decide (n ≤ a) = true := by simpa using g3
    clear hrow3
    have e0 := hout (by omega)
    clear hout
    obtain ⟨⟨d0, d1, d2, d3, d4⟩, hT⟩ := hX.look _ hA
    go_wp2_with fail
    refine (before_any _ _ t (a : Int) (b : Int) hT hn).mono ?_
    rintro e w2 ⟨rfl, hb⟩
    replace hA := below_next hb hA
    clear d0 d1 d2 d3 d4 hT hb
    rw [e0.out]
    go_wp2
    go_ret
    exact ⟨rfl, below_self hbw hA⟩
  by_cases g4 : n ≤ b
  · have ga : decide (n ≤ a) = false := by simpa using g3
    have gb : decide (n ≤ b) = true := by simpa using g4
    clear hrow3
    have e0 := hout (by omega)
    clear hout
    obtain ⟨⟨d0, d1, d2, d3, d4⟩, hT⟩ := hX.look _ hA
    go_wp2_with fail
    refine (before_any _ _ t (a : Int) (b : Int) hT hn).mono ?_
    rintro e w2 ⟨rfl, hb⟩
    replace hA := below_next hb hA
    clear d0 d1 d2 d3 d4 hT hb
    rw [e0.out]
    go_wp2
    go_ret
    exact ⟨rfl, below_self hbw hA⟩
  have n3 : decide (n ≤ a) = false := by simpa using g3
  have n4 : decide (n ≤ b) = false := by simpa using g4
  have ha : a < n := by omega
  have hb : b < n := by omega
  clear hout g3 g4
  have ga := Sp.prcs_get _ a _ (t.marks_get 0 0 a (by rw [← HN.out]; exact ha))
  have gb := Sp.prcs_get _ b _ (t.marks_get 0 0 b (by rw [← HN.out]; exact hb))
  rw [Nat.zero_add, Nat.zero_add] at ga gb
  have c0 : ∀ w', Below w3.heap.size w3 w' → w'.cell? ⟨h, a * 2, none⟩ = some (.int .i64 (a : Int)) := fun w' hb => ((hrow3.below hb).cell (a * 2)).trans ga.1
  have c1 : ∀ w', Below w3.heap.size w3 w' → w'.cell? ⟨h, a * 2 + 1, none⟩ = some (.int .i64 (t.rk a : Int)) := fun w' hb => ((hrow3.below hb).cell (a * 2 + 1)).trans ga.2
  have d0 : ∀ w', Below w3.heap.size w3 w' → w'.cell? ⟨h, b * 2, none⟩ = some (.int .i64 (b : Int)) := fun w' hb => ((hrow3.below hb).cell (b * 2)).trans gb.1
  have d1 : ∀ w', Below w3.heap.size w3 w' → w'.cell? ⟨h, b * 2 + 1, none⟩ = some (.int .i64 (t.rk b : Int)) := fun w' hb => ((hrow3.below hb).cell (b * 2 + 1)).trans gb.2
  have hinj : a ≠ b → t.rk a ≠ t.rk b := fun hne e => hne (t.rk_inj a b (by rw [← HN.out]; exact ha) (by rw [← HN.out]; exact hb) e)
  have hval : t.before (a : Int) (b : Int) = decide (a < b ∧ t.rk a < t.rk b) := by
    unfold Sp.T.before Sp.T.bf
    rw [Bool.eq_iff_iff, decide_eq_true_iff, decide_eq_true_iff]
    simp only [Int.toNat_natCast]
    have := HN.out
    omega
  have ask : ∀ (bv : Bool), t.before (a : Int) (b : Int) = bv → ∀ w', Below w3.heap.size w3 w' → Calls Try.prog 24 #[.agg #[.int .i64 a0, .int .i64 a1, .bool a2, .int .i64 a3, .slice A4 a5 a6], .int .i64 (a : Int), .int .i64 (b : Int)] w' fun e w'' => e = .returned (.bool bv) ∧ Below w3.heap.size w3 w'' := fun bv hbv w' hb => by
    subst hbv
    exact (before_any _ _ t _ _ (hX.look _ (below_next hb hA)).2 hn).mono fun e w'' hh => ⟨hh.1, below_next hh.2 hb⟩
  have lk := fun w' (hb : Below w3.heap.size w3 w') => (hX.look _ (below_next hb hA)).1
  by_cases hab : a = b
  · subst hab
    have hv : t.before (a : Int) (a : Int) = false := t.before_irr a
    have asked := ask _ hv
    obtain ⟨ra, hra⟩ : ∃ r, r = t.rk a := ⟨_, rfl⟩
    rw [← hra] at c1 d1
    clear ask hv hra
    have keepS : ∀ w', Below w3.heap.size w3 w' → (Below w3.heap.size w3 w' ∧ w'.cell? ⟨q, 0, none⟩ = some (.int .i64 a0) ∧ w'.cell? ⟨q, 1, none⟩ = some (.int .i64 a1) ∧ w'.cell? ⟨q, 2, none⟩ = some (.bool a2) ∧ w'.cell? ⟨q, 3, none⟩ = some (.int .i64 a3) ∧ w'.cell? ⟨q, 4, none⟩ = some (.slice A4 a5 a6) ∧ w'.cell? ⟨h, a * 2, none⟩ = some (.int .i64 (a : Int)) ∧ w'.cell? ⟨h, a * 2 + 1, none⟩ = some (.int .i64 (ra : Int)) ∧ w'.cell? ⟨h, a * 2, none⟩ = some (.int .i64 (a : Int)) ∧ w'.cell? ⟨h, a * 2 + 1, none⟩ = some (.int .i64 (ra : Int))) := fun w' hb =>
      ⟨hb, (lk w' hb).1, (lk w' hb).2.1, (lk w' hb).2.2.1, (lk w' hb).2.2.2.1, (lk w' hb).2.2.2.2, c0 w' hb, c1 w' hb, d0 w' hb, d1 w' hb⟩
    have hS0 := keepS _ (below_drew (Below.refl _ _))
    clear hX hrow3 hval hinj ga gb c0 c1 d0 d1 lk
    go_wp2_with fail
    refine wp_walk (by kernel_rfl) (by kernel_rfl) (fun _ _ => True) (fun w' => Below w3.heap.size w3 w' ∧ w'.cell? ⟨q, 0, none⟩ = some (.int .i64 a0) ∧ w'.cell? ⟨q, 1, none⟩ = some (.int .i64 a1) ∧ w'.cell? ⟨q, 2, none⟩ = some (.bool a2) ∧ w'.cell? ⟨q, 3, none⟩ = some (.int .i64 a3) ∧ w'.cell? ⟨q, 4, none⟩ = some (.slice A4 a5 a6) ∧ w'.cell? ⟨h, a * 2, none⟩ = some (.int .i64 (a : Int)) ∧ w'.cell? ⟨h, a * 2 + 1, none⟩ = some (.int .i64 (ra : Int)) ∧ w'.cell? ⟨h, a * 2, none⟩ = some (.int .i64 (a : Int)) ∧ w'.cell? ⟨h, a * 2 + 1, none⟩ = some (.int .i64 (ra : Int))) hS0 ?_
    repeat (first | (refine settle_skip (fun _ => by rfl) ?_; (simp only [Act.put, List.setIfInBounds_toArray, List.set_cons_zero, List.set_cons_succ])) | (refine' settle_run (fun _ _ => trivial) (fun _ => by rfl) ?_ ?_; rotate_left; (focus (intro ρ w hS hF; (try dsimp only at hS); go_split_ands; go_simp; try with_reducible rfl)); (simp only [Act.put, List.setIfInBounds_toArray, List.set_cons_zero, List.set_cons_succ])) | (refine' settle_step (fun _ => by rfl) ?_ ?_; rotate_left; (focus (intro ρ w hS hF K hK; (simp only [Act.put, List.setIfInBounds_toArray, List.set_cons_zero, List.set_cons_succ] at hK); go_simp; first | (go_at_call 24; refine (asked _ hS.1).mono ?_; rintro e w' ⟨rfl, hb'⟩; have hS' := keepS _ hb'; have hE' := True.intro; exact hK _ hS' hE'))); (simp only [Act.put, List.setIfInBounds_toArray, List.set_cons_zero, List.set_cons_succ])))
    refine settle_nil ?_
    intro ρ wS hS _
    have hbS := below_self hbw (below_next hS.1 hA)
    clear keepS hS0 hS asked hA
    go_wp2
    go_ret
    exact ⟨rfl, hbS⟩
  · have hne := hinj hab
    obtain ⟨ra, hra⟩ : ∃ r, r = t.rk a := ⟨_, rfl⟩
    obtain ⟨rb, hrb⟩ : ∃ r, r = t.rk b := ⟨_, rfl⟩
    rw [← hra] at c1 hne hval
    rw [← hrb] at d1 hne hval
    have E1 : (a == b) = false := by simpa using hab
    have E2 : (ra != rb) = true := by simpa using hne
    have E3 : ((a : Int) == (b : Int)) = false := by simp; omega
    have E4 : ((ra : Int) != (rb : Int)) = true := by simp; omega
    clear hra hrb hne
    by_cases hlt : a < b
    · have L1 : decide (a < b) = true := by simpa using hlt
      by_cases hrt : ra < rb
      · have R1 : decide (ra < rb) = true := by simpa using hrt
        have asked := ask true (by rw [hval]; simp; omega)
        clear ask hlt hrt
        have keepS : ∀ w', Below w3.heap.size w3 w' → (Below w3.heap.size w3 w' ∧ w'.cell? ⟨q, 0, none⟩ = some (.int .i64 a0) ∧ w'.cell? ⟨q, 1, none⟩ = some (.int .i64 a1) ∧ w'.cell? ⟨q, 2, none⟩ = some (.bool a2) ∧ w'.cell? ⟨q, 3, none⟩ = some (.int .i64 a3) ∧ w'.cell? ⟨q, 4, none⟩ = some (.slice A4 a5 a6) ∧ w'.cell? ⟨h, a * 2, none⟩ = some (.int .i64 (a : Int)) ∧ w'.cell? ⟨h, a * 2 + 1, none⟩ = some (.int .i64 (ra : Int)) ∧ w'.cell? ⟨h, b * 2, none⟩ = some (.int .i64 (b : Int)) ∧ w'.cell? ⟨h, b * 2 + 1, none⟩ = some (.int .i64 (rb : Int))) := fun w' hb =>
          ⟨hb, (lk w' hb).1, (lk w' hb).2.1, (lk w' hb).2.2.1, (lk w' hb).2.2.2.1, (lk w' hb).2.2.2.2, c0 w' hb, c1 w' hb, d0 w' hb, d1 w' hb⟩
        have hS0 := keepS _ (below_drew (Below.refl _ _))
        clear hX hrow3 hval hinj ga gb c0 c1 d0 d1 lk
        go_wp2_with fail
        refine wp_walk (by kernel_rfl) (by kernel_rfl) (fun _ _ => True) (fun w' => Below w3.heap.size w3 w' ∧ w'.cell? ⟨q, 0, none⟩ = some (.int .i64 a0) ∧ w'.cell? ⟨q, 1, none⟩ = some (.int .i64 a1) ∧ w'.cell? ⟨q, 2, none⟩ = some (.bool a2) ∧ w'.cell? ⟨q, 3, none⟩ = some (.int .i64 a3) ∧ w'.cell? ⟨q, 4, none⟩ = some (.slice A4 a5 a6) ∧ w'.cell? ⟨h, a * 2, none⟩ = some (.int .i64 (a : Int)) ∧ w'.cell? ⟨h, a * 2 + 1, none⟩ = some (.int .i64 (ra : Int)) ∧ w'.cell? ⟨h, b * 2, none⟩ = some (.int .i64 (b : Int)) ∧ w'.cell? ⟨h, b * 2 + 1, none⟩ = some (.int .i64 (rb : Int))) hS0 ?_
        repeat (first | (refine settle_skip (fun _ => by rfl) ?_; (simp only [Act.put, List.setIfInBounds_toArray, List.set_cons_zero, List.set_cons_succ])) | (refine' settle_run (fun _ _ => trivial) (fun _ => by rfl) ?_ ?_; rotate_left; (focus (intro ρ w hS hF; (try dsimp only at hS); go_split_ands; go_simp; try with_reducible rfl)); (simp only [Act.put, List.setIfInBounds_toArray, List.set_cons_zero, List.set_cons_succ])) | (refine' settle_step (fun _ => by rfl) ?_ ?_; rotate_left; (focus (intro ρ w hS hF K hK; (simp only [Act.put, List.setIfInBounds_toArray, List.set_cons_zero, List.set_cons_succ] at hK); go_simp; first | (go_at_call 24; refine (asked _ hS.1).mono ?_; rintro e w' ⟨rfl, hb'⟩; have hS' := keepS _ hb'; have hE' := True.intro; exact hK _ hS' hE'))); (simp only [Act.put, List.setIfInBounds_toArray, List.set_cons_zero, List.set_cons_succ])))
        refine settle_nil ?_
        intro ρ wS hS _
        have hbS := below_self hbw (below_next hS.1 hA)
        clear keepS hS0 hS asked hA
        go_wp2
        go_ret
        exact ⟨rfl, hbS⟩
      · have R1 : decide (ra < rb) = false := by simpa using hrt
        have asked := ask false (by rw [hval]; simp; omega)
        clear ask hlt hrt
        have keepS : ∀ w', Below w3.heap.size w3 w' → (Below w3.heap.size w3 w' ∧ w'.cell? ⟨q, 0, none⟩ = some (.int .i64 a0) ∧ w'.cell? ⟨q, 1, none⟩ = some (.int .i64 a1) ∧ w'.cell? ⟨q, 2, none⟩ = some (.bool a2) ∧ w'.cell? ⟨q, 3, none⟩ = some (.int .i64 a3) ∧ w'.cell? ⟨q, 4, none⟩ = some (.slice A4 a5 a6) ∧ w'.cell? ⟨h, a * 2, none⟩ = some (.int .i64 (a : Int)) ∧ w'.cell? ⟨h, a * 2 + 1, none⟩ = some (.int .i64 (ra : Int)) ∧ w'.cell? ⟨h, b * 2, none⟩ = some (.int .i64 (b : Int)) ∧ w'.cell? ⟨h, b * 2 + 1, none⟩ = some (.int .i64 (rb : Int))) := fun w' hb =>
          ⟨hb, (lk w' hb).1, (lk w' hb).2.1, (lk w' hb).2.2.1, (lk w' hb).2.2.2.1, (lk w' hb).2.2.2.2, c0 w' hb, c1 w' hb, d0 w' hb, d1 w' hb⟩
        have hS0 := keepS _ (below_drew (Below.refl _ _))
        clear hX hrow3 hval hinj ga gb c0 c1 d0 d1 lk
        go_wp2_with fail
        refine wp_walk (by kernel_rfl) (by kernel_rfl) (fun _ _ => True) (fun w' => Below w3.heap.size w3 w' ∧ w'.cell? ⟨q, 0, none⟩ = some (.int .i64 a0) ∧ w'.cell? ⟨q, 1, none⟩ = some (.int .i64 a1) ∧ w'.cell? ⟨q, 2, none⟩ = some (.bool a2) ∧ w'.cell? ⟨q, 3, none⟩ = some (.int .i64 a3) ∧ w'.cell? ⟨q, 4, none⟩ = some (.slice A4 a5 a6) ∧ w'.cell? ⟨h, a * 2, none⟩ = some (.int .i64 (a : Int)) ∧ w'.cell? ⟨h, a * 2 + 1, none⟩ = some (.int .i64 (ra : Int)) ∧ w'.cell? ⟨h, b * 2, none⟩ = some (.int .i64 (b : Int)) ∧ w'.cell? ⟨h, b * 2 + 1, none⟩ = some (.int .i64 (rb : Int))) hS0 ?_
        repeat (first | (refine settle_skip (fun _ => by rfl) ?_; (simp only [Act.put, List.setIfInBounds_toArray, List.set_cons_zero, List.set_cons_succ])) | (refine' settle_run (fun _ _ => trivial) (fun _ => by rfl) ?_ ?_; rotate_left; (focus (intro ρ w hS hF; (try dsimp only at hS); go_split_ands; go_simp; try with_reducible rfl)); (simp only [Act.put, List.setIfInBounds_toArray, List.set_cons_zero, List.set_cons_succ])) | (refine' settle_step (fun _ => by rfl) ?_ ?_; rotate_left; (focus (intro ρ w hS hF K hK; (simp only [Act.put, List.setIfInBounds_toArray, List.set_cons_zero, List.set_cons_succ] at hK); go_simp; first | (go_at_call 24; refine (asked _ hS.1).mono ?_; rintro e w' ⟨rfl, hb'⟩; have hS' := keepS _ hb'; have hE' := True.intro; exact hK _ hS' hE'))); (simp only [Act.put, List.setIfInBounds_toArray, List.set_cons_zero, List.set_cons_succ])))
        refine settle_nil ?_
        intro ρ wS hS _
        have hbS := below_self hbw (below_next hS.1 hA)
        clear keepS hS0 hS asked hA
        go_wp2
        go_ret
        exact ⟨rfl, hbS⟩
    · have L1 : decide (a < b) = false := by simpa using hlt
      have asked := ask false (by rw [hval]; simp; omega)
      clear ask hlt
      have keepS : ∀ w', Below w3.heap.size w3 w' → (Below w3.heap.size w3 w' ∧ w'.cell? ⟨q, 0, none⟩ = some (.int .i64 a0) ∧ w'.cell? ⟨q, 1, none⟩ = some (.int .i64 a1) ∧ w'.cell? ⟨q, 2, none⟩ = some (.bool a2) ∧ w'.cell? ⟨q, 3, none⟩ = some (.int .i64 a3) ∧ w'.cell? ⟨q, 4, none⟩ = some (.slice A4 a5 a6) ∧ w'.cell? ⟨h, a * 2, none⟩ = some (.int .i64 (a : Int)) ∧ w'.cell? ⟨h, a * 2 + 1, none⟩ = some (.int .i64 (ra : Int)) ∧ w'.cell? ⟨h, b * 2, none⟩ = some (.int .i64 (b : Int)) ∧ w'.cell? ⟨h, b * 2 + 1, none⟩ = some (.int .i64 (rb : Int))) := fun w' hb =>
        ⟨hb, (lk w' hb).1, (lk w' hb).2.1, (lk w' hb).2.2.1, (lk w' hb).2.2.2.1, (lk w' hb).2.2.2.2, c0 w' hb, c1 w' hb, d0 w' hb, d1 w' hb⟩
      have hS0 := keepS _ (below_drew (Below.refl _ _))
      clear hX hrow3 hval hinj ga gb c0 c1 d0 d1 lk
      go_wp2_with fail
      refine wp_walk (by kernel_rfl) (by kernel_rfl) (fun _ _ => True) (fun w' => Below w3.heap.size w3 w' ∧ w'.cell? ⟨q, 0, none⟩ = some (.int .i64 a0) ∧ w'.cell? ⟨q, 1, none⟩ = some (.int .i64 a1) ∧ w'.cell? ⟨q, 2, none⟩ = some (.bool a2) ∧ w'.cell? ⟨q, 3, none⟩ = some (.int .i64 a3) ∧ w'.cell? ⟨q, 4, none⟩ = some (.slice A4 a5 a6) ∧ w'.cell? ⟨h, a * 2, none⟩ = some (.int .i64 (a : Int)) ∧ w'.cell? ⟨h, a * 2 + 1, none⟩ = some (.int .i64 (ra : Int)) ∧ w'.cell? ⟨h, b * 2, none⟩ = some (.int .i64 (b : Int)) ∧ w'.cell? ⟨h, b * 2 + 1, none⟩ = some (.int .i64 (rb : Int))) hS0 ?_
      repeat (first | (refine settle_skip (fun _ => by rfl) ?_; (simp only [Act.put, List.setIfInBounds_toArray, List.set_cons_zero, List.set_cons_succ])) | (refine' settle_run (fun _ _ => trivial) (fun _ => by rfl) ?_ ?_; rotate_left; (focus (intro ρ w hS hF; (try dsimp only at hS); go_split_ands; go_simp; try with_reducible rfl)); (simp only [Act.put, List.setIfInBounds_toArray, List.set_cons_zero, List.set_cons_succ])) | (refine' settle_step (fun _ => by rfl) ?_ ?_; rotate_left; (focus (intro ρ w hS hF K hK; (simp only [Act.put, List.setIfInBounds_toArray, List.set_cons_zero, List.set_cons_succ] at hK); go_simp; first | (go_at_call 24; refine (asked _ hS.1).mono ?_; rintro e w' ⟨rfl, hb'⟩; have hS' := keepS _ hb'; have hE' := True.intro; exact hK _ hS' hE'))); (simp only [Act.put, List.setIfInBounds_toArray, List.set_cons_zero, List.set_cons_succ])))
      refine settle_nil ?_
      intro ρ wS hS _
      have hbS := below_self hbw (below_next hS.1 hA)
      clear keepS hS0 hS asked hA
      go_wp2
      go_ret
      exact ⟨rfl, hbS⟩
end Go.Proofs.Ytdipieplmmhnhaa
