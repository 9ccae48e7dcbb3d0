/-
  What races matters: the law, walked.
-/
import Derived.Test.YtcoijmnnnfogdaaRfP1
import Derived.Test.YtcoijmnnnfogdaaSmP4

namespace Go.Proofs.Ytcoijmnnnfogdaa
set_option linter.unusedVariables false
set_option linter.unusedSimpArgs false
set_option maxRecDepth 100000
open Go.RowKit

theorem Rc.race_apt {t : Sp.T} {p : Nat × Nat} (h : p ∈ Rc.races t) : Rc.Apt t p.1 p.2 ∧ Rc.clash t p.1 p.2 = true := by
  obtain ⟨h1, h2, h3⟩ := Rc.races_mem.1 h
  unfold Rc.hit at h3
  rw [Bool.and_eq_true] at h3
  have h4 := of_decide_eq_true h3.2
  exact ⟨⟨by omega, h2, by omega, fun hb => by have := hb.2; omega, fun hb => by have := hb.1; omega⟩, h3.1⟩

set_option maxRecDepth 20000 in
set_option maxHeartbeats 8000000 in
theorem raceMatters_walk (t : Sp.T) (k : Int) (w : World) (cs : List Value) (hT : TmR w.heap.size w cs t) (hwl : t.wfl) (hn : t.size ≤ 1048576) :
    Calls Try.prog 5 #[.agg cs.toArray, .int .i64 k] w fun e w' => e = .returned (.bool true) ∧ Below w.heap.size w w' := by
  obtain ⟨a0, a1, a2, a3, A4, a5, a6, rfl, -, -⟩ := hT.form
  have x0 := Blk.new w 26 [.int .i64 a0, .int .i64 a1, .bool a2, .int .i64 a3, .slice A4 a5 a6]
  unfold tcells at hT ⊢
  have hb0 : Below w.heap.size w (w.alloc (.cells [Value.int .i64 a0, .int .i64 a1, .bool a2, .int .i64 a3, .slice A4 a5 a6].toArray 26)) := below_alloc (Below.refl _ _) _
  go_enter Try.func5, Try.ntmps5
  go_wp2_with fail
  obtain ⟨q, hq⟩ : ∃ q, q = w.heap.size := ⟨_, rfl⟩
  have hT0 := tm_up (hT.later hb0) hb0.size
  generalize (w.alloc (.cells [Value.int .i64 a0, .int .i64 a1, .bool a2, .int .i64 a3, .slice A4 a5 a6].toArray 26)) = W0 at x0 hb0 hT0 ⊢
  rw [← hq] at x0 ⊢
  refine (alive15_any _).mono ?_
  rintro e w1 ⟨rfl, hb1⟩
  have hX := Boxed.of (x0.below hb1) (hT0.later hb1) hb1.size
  have hbw := below_next hb1 hb0
  have HQ := Lib.hid (And.intro hq (And.intro hbw hX))
  clear x0 hb0 hT0 hb1 hq hbw hT
  have keepS : ∀ w', Below w1.heap.size w1 w' → (Below w1.heap.size w1 w' ∧ w'.cell? ⟨q, 0, none⟩ = some (.int .i64 a0) ∧ w'.cell? ⟨q, 1, none⟩ = some (.int .i64 a1) ∧ w'.cell? ⟨q, 2, none⟩ = some (.bool a2) ∧ w'.cell? ⟨q, 3, none⟩ = some (.int .i64 a3) ∧ w'.cell? ⟨q, 4, none⟩ = some (.slice A4 a5 a6)) := fun w' hb =>
    ⟨hb, (hX.look _ hb).1.1, (hX.look _ hb).1.2.1, (hX.look _ hb).1.2.2.1, (hX.look _ hb).1.2.2.2.1, (hX.look _ hb).1.2.2.2.2⟩
  have gT : ∀ w', Below w1.heap.size w1 w' → TmR w'.heap.size w' [.int .i64 a0, .int .i64 a1, .bool a2, .int .i64 a3, .slice A4 a5 a6] t := fun w' hb => (hX.look _ hb).2
  have gL : ∀ w', Below w1.heap.size w1 w' → Calls Try.prog 14 #[.agg #[.int .i64 a0, .int .i64 a1, .bool a2, .int .i64 a3, .slice A4 a5 a6]] w' fun e w'' => ∃ v, e = .returned v ∧ SlV w'' 3 v t.size (Sp.acccs t.leaves) ∧ Below w'.heap.size w' w'' := fun w' hb => leaves_any w' _ t (gT w' hb) (by omega)
  have gR : ∀ w', Below w1.heap.size w1 w' → Calls Try.prog 11 #[.agg #[.int .i64 a0, .int .i64 a1, .bool a2, .int .i64 a3, .slice A4 a5 a6]] w' fun e w'' => ∃ v, e = .returned v ∧ SlV w'' 2 v (Rc.races t).length (Sp.prcs (Rc.races t)) ∧ Below w'.heap.size w' w'' := fun w' hb =>
    (race_races t w' _ (gT w' hb) hn).mono fun e w'' ⟨u, h1, h2, h3⟩ => ⟨u, h1, SlV.of_own h2, h3⟩
  have hS0 := keepS _ (below_drew (Below.refl _ _))
  obtain ⟨-, c0, c1, c2, c3, c4⟩ := keepS _ (Below.refl _ _)
  clear hX gT
  go_wp2_with fail
  clear c0 c1 c2 c3 c4
  refine wp_walk (by kernel_rfl) (by kernel_rfl) (fun w w' => Below w.heap.size w w') (fun w' => (Below w1.heap.size w1 w' ∧ w'.cell? ⟨q, 0, none⟩ = some (.int .i64 a0) ∧ w'.cell? ⟨q, 1, none⟩ = some (.int .i64 a1) ∧ w'.cell? ⟨q, 2, none⟩ = some (.bool a2) ∧ w'.cell? ⟨q, 3, none⟩ = some (.int .i64 a3) ∧ w'.cell? ⟨q, 4, none⟩ = some (.slice A4 a5 a6))) hS0 ?_
  repeat (first | (refine settle_skip (fun _ => by rfl) ?_; (simp only [Act.put, List.setIfInBounds_toArray, List.set_cons_zero, List.set_cons_succ])) | (refine' settle_run (fun _ _ => Below.refl _ _) (fun _ => by rfl) ?_ ?_; rotate_left; (focus (intro ρ w hS hF; (try dsimp only at hS); go_split_ands; go_simp; try with_reducible rfl)); (simp only [Act.put, List.setIfInBounds_toArray, List.set_cons_zero, List.set_cons_succ])))
  (refine settle_known (FSl 2 (Rc.races t).length (Sp.prcs (Rc.races t))) (by rfl) (fun _ => by rfl)  ?_ ?_; (focus (intro ρ w hS hF K hK; (simp only [Act.put, List.setIfInBounds_toArray, List.set_cons_zero, List.set_cons_succ] at hK); go_simp; (refine (gR _ hS.1).mono ?_; rintro e w' ⟨v, rfl, hF', hb'⟩; exact hK _ _ hF' (keepS _ (below_next hb' hS.1)) hb'))); (simp only [Act.put, List.setIfInBounds_toArray, List.set_cons_zero, List.set_cons_succ]))
  repeat (first | (refine settle_skip (fun _ => by rfl) ?_; (simp only [Act.put, List.setIfInBounds_toArray, List.set_cons_zero, List.set_cons_succ])) | (refine' settle_run (fun _ _ => Below.refl _ _) (fun _ => by rfl) ?_ ?_; rotate_left; (focus (intro ρ w hS hF; (try dsimp only at hS); go_split_ands; go_simp; try with_reducible rfl)); (simp only [Act.put, List.setIfInBounds_toArray, List.set_cons_zero, List.set_cons_succ])))
  (refine settle_known (FSl 3 t.size (Sp.acccs t.leaves)) (by rfl) (fun _ => by rfl)  ?_ ?_; (focus (intro ρ w hS hF K hK; (simp only [Act.put, List.setIfInBounds_toArray, List.set_cons_zero, List.set_cons_succ] at hK); go_simp; (refine (gL _ hS.1).mono ?_; rintro e w' ⟨v, rfl, hF', hb'⟩; exact hK _ _ hF' (keepS _ (below_next hb' hS.1)) hb'))); (simp only [Act.put, List.setIfInBounds_toArray, List.set_cons_zero, List.set_cons_succ]))
  (refine settle_known (FSl 2 (Rc.races t).length (Sp.prcs (Rc.races t))) (by rfl) (fun _ => by rfl)  ?_ ?_; (focus (intro ρ w hS hF K hK; (simp only [Act.put, List.setIfInBounds_toArray, List.set_cons_zero, List.set_cons_succ] at hK); go_simp; exact hK _ _ (hF.2.1 (by rfl)) hS (Below.refl _ _))); (simp only [Act.put, List.setIfInBounds_toArray, List.set_cons_zero, List.set_cons_succ]))
  (refine settle_known (FSl 3 t.size (Sp.acccs t.leaves)) (by rfl) (fun _ => by rfl)  ?_ ?_; (focus (intro ρ w hS hF K hK; (simp only [Act.put, List.setIfInBounds_toArray, List.set_cons_zero, List.set_cons_succ] at hK); go_simp; exact hK _ _ (hF.2.1 (by rfl)) hS (Below.refl _ _))); (simp only [Act.put, List.setIfInBounds_toArray, List.set_cons_zero, List.set_cons_succ]))
  refine settle_nil ?_
  intro ρ w2 hS hF
  have hM := hF 5 (FSl 2 (Rc.races t).length (Sp.prcs (Rc.races t))) (by repeat (first | exact List.mem_cons_self | apply List.mem_cons_of_mem))
  have hL := hF 6 (FSl 3 t.size (Sp.acccs t.leaves)) (by repeat (first | exact List.mem_cons_self | apply List.mem_cons_of_mem))
  have hb2 := hS.1
  dsimp only
  obtain ⟨PL, cL, eL, hleL, hmL, hlL, hL⟩ := hL
  obtain ⟨PM, cM, eM, hleM, hmM, hlM, hM⟩ := hM
  rw [eL, eM]
  have hbE := below_self HQ.out.2.1 hb2
  clear hF hS hS0 gL gR keepS eL eM hlL hlM
  unfold maxLen at hmL hmM
  have hn2 := hn
  obtain ⟨N, hN⟩ : ∃ N, N = t.size := ⟨_, rfl⟩
  obtain ⟨R, hR⟩ : ∃ R, R = (Rc.races t).length := ⟨_, rfl⟩
  rw [← hN] at hleL hn
  rw [← hR] at hleM
  rw [← hN, ← hR]
  have HN := Lib.hid (And.intro hN hR)
  clear hN hR
  by_cases hk0 : k < 0
  · have g1 : decide (k < 0) = true := by simpa using hk0
    clear hL hM hb2
    go_wp2_with fail
    go_ret
    exact ⟨rfl, hbE⟩
  obtain ⟨n, rfl⟩ := Int.eq_ofNat_of_zero_le (show 0 ≤ k by omega)
  have g1 : decide ((n : Int) < 0) = false := by simp
  by_cases hkR : R ≤ n
  · have g2 : decide (R ≤ n) = true := by simpa using hkR
    clear hL hM hb2
    go_wp2_with fail
    go_ret
    exact ⟨rfl, hbE⟩
  have g2 : decide (R ≤ n) = false := by simpa using hkR
  have hlt : n < R := by omega
  obtain ⟨p, hp⟩ : ∃ p, (Rc.races t)[n]? = some p := ⟨_, List.getElem?_eq_getElem (by rw [← HN.out.2]; exact hlt)⟩
  obtain ⟨hapt, hcl⟩ := Rc.race_apt (List.mem_of_getElem? hp)
  obtain ⟨y1, y2⟩ := Sp.prcs_get _ _ _ hp
  obtain ⟨bM, oM, rfl, hbM, hcM⟩ := hM.at_ (fun e => by rw [e] at y1; simp at y1)
  have c1 := hcM _ _ y1
  have c2 := hcM _ _ y2
  rw [← Nat.add_assoc] at c2
  obtain ⟨i, j⟩ := p
  dsimp only at hapt hcl c1 c2
  have hi : i < N := by rw [HN.out.1]; exact hapt.la
  have hj : j < N := by rw [HN.out.1]; exact hapt.lb
  obtain ⟨-, z2, -⟩ := Sp.acccs_get _ _ _ (Rc.acc_get (t := t) (n := i) (by rw [← HN.out.1]; exact hi))
  obtain ⟨-, z3, -⟩ := Sp.acccs_get _ _ _ (Rc.acc_get (t := t) (n := j) (by rw [← HN.out.1]; exact hj))
  obtain ⟨bL, oL, rfl, hbL, hcL⟩ := hL.at_ (fun e => by rw [e] at z2; simp at z2)
  have l1 := hcL _ _ z2
  have l2 := hcL _ _ z3
  rw [← Nat.add_assoc] at l1 l2
  obtain ⟨wi, hwi⟩ : ∃ b, b = (Rc.acc t i).2.1 := ⟨_, rfl⟩
  obtain ⟨wj, hwj⟩ : ∃ b, b = (Rc.acc t j).2.1 := ⟨_, rfl⟩
  rw [← hwi] at l1
  rw [← hwj] at l2
  have HP := Lib.hid (And.intro hapt (And.intro hcl (And.intro hwi hwj)))
  have g3 : decide (N ≤ j) = false := by simp; omega
  have g4 : decide ((i : Int) < 0) = false := by simp
  have hA : Blk (w2.alloc (.cells #[.int .i64 (i : Int), .int .i64 (j : Int)] 46)) w2.heap.size 46 [.int .i64 (i : Int), .int .i64 (j : Int)] := Blk.new _ _ _
  have hbA : Below w1.heap.size w1 (w2.alloc (.cells #[.int .i64 (i : Int), .int .i64 (j : Int)] 46)) := below_alloc hb2 _
  have hb2A : Below w2.heap.size w2 (w2.alloc (.cells #[.int .i64 (i : Int), .int .i64 (j : Int)] 46)) := below_alloc (Below.refl _ _) _
  have hq2 : q < w2.heap.size := by have := HQ.out.1; have := HQ.out.2.1.size; have := hb2.size; have := World.block_lt_of_cell? w2 _ (HQ.out.2.2.look _ hb2).1.1; exact this
  obtain ⟨⟨d0, d1, d2, d3, d4⟩, -⟩ := HQ.out.2.2.look _ hb2
  clear hp y1 y2 hM hcM hcL hL z2 z3 hwi hwj hapt hcl hk0 hkR
  obtain ⟨WA, hWA⟩ : ∃ WA, WA = (w2.alloc (.cells #[.int .i64 (i : Int), .int .i64 (j : Int)] 46)) := ⟨_, rfl⟩
  have gA := race_apart t i j WA _ (HQ.out.2.2.look _ (by rw [hWA]; exact hbA)).2 hn2
  rw [hWA] at gA
  clear hWA
  go_wp2_with fail
  refine gA.mono ?_
  rintro e w3 h3
  rcases h3 with ⟨i', j', u1, u2, ei, ej, -, rfl, ho1, ho2, hb3⟩ | ⟨c, -, hno, -, -⟩
  rotate_left
  · exact absurd HP.out.1 (hno i j rfl rfl)
  obtain rfl : i = i' := by omega
  obtain rfl : j = j' := by omega
  have hb23 := below_self hb2A hb3
  have hb13 := below_self hb2 hb23
  have hA3 := hA.below hb3
  have s1 := SlV.of_own ho1
  have s2 := SlV.of_own ho2
  have la1 : (apI t i j).length = N := by unfold apI; rw [List.length_map, (Rc.right_ap HP.out.1).len, ← HN.out.1]
  have la2 : (apI t j i).length = N := by unfold apI; rw [List.length_map, (Rc.right_ap HP.out.1.swap).len, ← HN.out.1]
  obtain ⟨A1, e1, rfl, -, -⟩ := own_slice ho1
  obtain ⟨A2, e2, rfl, -, -⟩ := own_slice ho2
  obtain ⟨⟨c0, c1', c2', c3, c4⟩, hT3⟩ := HQ.out.2.2.look _ hb13
  have gS1 := race_see t (apI t i j) w3 _ _ hT3 hn2 hwl s1
  rw [la1] at gS1 ⊢
  rw [la2] at s2 ⊢
  have HA := Lib.hid (And.intro hA3 (And.intro s2 (And.intro hb23 hb13)))
  have HLa := Lib.hid (And.intro la1 la2)
  clear gA d0 d1 d2 d3 d4 c1 c2 ho1 ho2 s1 s2 hT3 ei ej hA hA3 hbA hb2A hb3 hb23 hb13 hb2 la1 la2 hbE
  go_wp2_with fail
  refine gS1.mono ?_
  rintro e w4 h4
  rcases h4 with ⟨ns1, G1, en1, hr1, rfl, hG1, hB1, hb4⟩ | ⟨hno, -, -⟩
  rotate_left
  · exact absurd (Rc.right_nats (Rc.right_ap HP.out.1)) hno
  have hb14 := below_self HA.out.2.2.2 hb4
  obtain ⟨⟨d0, d1, d2, d3, d4⟩, hT4⟩ := HQ.out.2.2.look _ hb14
  have gS2 := race_see t (apI t j i) w4 _ (.slice A2 N e2) hT4 hn2 hwl (by rw [HLa.out.2]; exact HA.out.2.1.below hb4)
  have en1' : ns1 = Rc.apL t i j := ((List.map_inj_right (f := fun n : Nat => (n : Int)) (fun a b h => Int.ofNat.inj h)).1 en1).symm
  rw [en1'] at hB1
  rw [← HN.out.1]
  have H4 := Lib.hid (And.intro hB1 (And.intro hb4 hb14))
  clear gS1 c0 c1' c2' c3 c4 hT4 hr1 en1 en1' hB1 hb4 hb14 hG1
  go_wp2_with fail
  refine gS2.mono ?_
  rintro e w5 h5
  rcases h5 with ⟨ns2, G2, en2, hr2, rfl, hG2, hB2, hb5⟩ | ⟨hno, -, -⟩
  rotate_left
  · exact absurd (Rc.right_nats (Rc.right_ap HP.out.1.swap)) hno
  have en2' : ns2 = Rc.apL t j i := ((List.map_inj_right (f := fun n : Nat => (n : Int)) (fun a b h => Int.ofNat.inj h)).1 en2).symm
  rw [en2'] at hB2
  rw [← HN.out.1]
  have hb35 := below_self H4.out.2.1 hb5
  have hb25 := below_self HA.out.2.2.1 hb35
  have hb15 := below_self H4.out.2.2 hb5
  have hbF := below_self HQ.out.2.1 hb15
  have hB1 := H4.out.1.below hb5
  have hA5 := HA.out.1.below hb35
  have p0 := hA5.cell 0
  have p1 := hA5.cell 1
  simp only [List.getElem?_cons_zero, List.getElem?_cons_succ] at p0 p1
  have m1 := (hb25.cell hbL).trans l1
  have m2 := (hb25.cell hbL).trans l2
  have xi1 := hB1.cell i
  have xj1 := hB1.cell j
  have xi2 := hB2.cell i
  have xj2 := hB2.cell j
  have gi1 := Rc.seeL_get (t := t) (ns := Rc.apL t i j) (x := i) (by rw [← HN.out.1]; exact hi)
  have gj1 := Rc.seeL_get (t := t) (ns := Rc.apL t i j) (x := j) (by rw [← HN.out.1]; exact hj)
  have gi2 := Rc.seeL_get (t := t) (ns := Rc.apL t j i) (x := i) (by rw [← HN.out.1]; exact hi)
  have gj2 := Rc.seeL_get (t := t) (ns := Rc.apL t j i) (x := j) (by rw [← HN.out.1]; exact hj)
  have hdiff1 := fun h => Rc.ap_differ HP.out.1 HP.out.2.1 h
  have hdiff2 := fun h => Rc.ap_differ HP.out.1.swap (by rw [Rc.clash_comm]; exact HP.out.2.1) h
  have hcl := HP.out.2.1
  unfold Rc.clash at hcl
  rw [Bool.and_eq_true] at hcl
  have hor := hcl.2
  rw [← HP.out.2.2.1, ← HP.out.2.2.2] at hor
  rw [← HP.out.2.2.1] at hdiff1
  rw [← HP.out.2.2.2] at hdiff2
  rw [gj1, gj2] at hdiff1
  rw [gi1, gi2] at hdiff2
  unfold ints at xi1 xj1 xi2 xj2
  rw [List.getElem?_map, gi1] at xi1
  rw [List.getElem?_map, gj1] at xj1
  rw [List.getElem?_map, gi2] at xi2
  rw [List.getElem?_map, gj2] at xj2
  simp only [Option.map_some] at xi1 xj1 xi2 xj2
  generalize Rc.lw t ((Rc.apL t i j).take (Rc.pos (Rc.apL t i j) i)) (Rc.acc t i).1 - 1 = I1 at xi1 hdiff2
  generalize Rc.lw t ((Rc.apL t i j).take (Rc.pos (Rc.apL t i j) j)) (Rc.acc t j).1 - 1 = J1 at xj1 hdiff1
  generalize Rc.lw t ((Rc.apL t j i).take (Rc.pos (Rc.apL t j i) i)) (Rc.acc t i).1 - 1 = I2 at xi2 hdiff2
  generalize Rc.lw t ((Rc.apL t j i).take (Rc.pos (Rc.apL t j i) j)) (Rc.acc t j).1 - 1 = J2 at xj2 hdiff1
  have hbL' := Nat.lt_of_lt_of_le hbL hb25.size
  clear gS2 d0 d1 d2 d3 d4 hB1 hB2 hA5 gi1 gj1 gi2 gj2 hcl hr2 en2 en2' hb5 hb35 hb25 hb15 l1 l2 hG2
  rcases wi with _ | _
  · have hwj : wj = true := by simpa using hor
    subst hwj
    have hne := hdiff2 rfl
    have g5 : (I1 != I2) = true := by
      rw [bne_iff_ne]
      intro e
      exact hne (by rw [e])
    clear hdiff1 hdiff2 hor hne
    go_wp2_with fail
    go_quiet (fail)
    go_wp2_with fail
    go_ret
    exact ⟨rfl, below_drewN hbF _⟩
  · have hne := hdiff1 rfl
    have g5 : (J1 != J2) = true := by
      rw [bne_iff_ne]
      intro e
      exact hne (by rw [e])
    clear hdiff1 hdiff2 hor hne
    rcases wj with _ | _
    · go_wp2_with fail
      go_quiet (fail)
      go_wp2_with fail
      go_ret
      exact ⟨rfl, below_drewN hbF _⟩
    · go_wp2_with fail
      go_quiet (fail)
      go_wp2_with fail
      go_ret
      exact ⟨rfl, below_drewN hbF _⟩
end Go.Proofs.Ytcoijmnnnfogdaa
