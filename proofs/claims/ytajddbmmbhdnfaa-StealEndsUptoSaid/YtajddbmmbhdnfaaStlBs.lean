/-
  Whoever is picked and is not idle does something: the law, walked.
-/
import Derived.Test.YtajddbmmbhdnfaaStlAl
import Derived.Test.YtajddbmmbhdnfaaFacts
import Derived.Test.YtajddbmmbhdnfaaMark
import Derived.IntWalk
namespace Go.Proofs.Ytajddbmmbhdnfaa
set_option linter.unusedVariables false
set_option linter.unusedSimpArgs false
set_option maxRecDepth 100000
open Go.RowKit

/-- what a run has answered -/
def FRun (B : Nat) (log : List (Nat × Int)) (left : Int) : Fact (fun w w' => Below w.heap.size w w') := ⟨fun v w => ∃ D, v = .tuple #[D, .int .i64 left, .int .i64 0] ∧ w.ownsRow B 38 2 D log.length (donecs log), fun _ _ _ ⟨D, h1, h2⟩ k => ⟨D, h1, own_keeps h2 (keeps_below k) (fun _ _ => id)⟩⟩

set_option maxHeartbeats 4000000 in
theorem stealBusy_out (t : Sp.T) (ps : List Stl.Pk) (w : World) (cs : List Value) (W : Int) (v : Value) (m1 m2 : Int) (hT : TmR w.heap.size w cs t) (hW : W < 1 ∨ 16 < W) (hps : ps.length ≤ 1048576) (hp : SlV w 2 v ps.length (pkcs ps)) :
    Calls Try.prog 3 #[.agg cs.toArray, .int .i64 W, v, .agg #[.int .i64 m1, .int .i64 m2]] w fun e w' => e = .returned (.bool true) ∧ Below w.heap.size w w' := by
  obtain ⟨a0, a1, a2, a3, A4, a5, a6, rfl, -, -⟩ := hT.form
  unfold tcells at hT ⊢
  obtain ⟨x0, x1, hz, hk⟩ := two_allocs w [.int .i64 a0, .int .i64 a1, .bool a2, .int .i64 a3, .slice A4 a5 a6] [.int .i64 m1, .int .i64 m2] 26 29
  have hb0 := hk.below (Nat.le_refl _) (fun i h => h.elim)
  go_enter Try.func3, Try.ntmps3
  go_wp2_with fail
  obtain ⟨q, hq⟩ : ∃ q, q = w.heap.size := ⟨_, rfl⟩
  have hp0 := hp.below hb0
  have hT0 := tm_up (hT.later hb0) hb0.size
  generalize (w.alloc (.cells [Value.int .i64 a0, .int .i64 a1, .bool a2, .int .i64 a3, .slice A4 a5 a6].toArray 26)).alloc (.cells [Value.int .i64 m1, .int .i64 m2].toArray 29) = W0 at x0 x1 hz hk hb0 hp0 hT0 ⊢
  rw [← hq] at x0 x1 hz ⊢
  refine (alive22_any _).mono ?_
  rintro e w1 ⟨rfl, hb1⟩
  have hX := Boxed.of (x0.below hb1) (hT0.later hb1) hb1.size
  have y1 := x1.below hb1
  have hp1 := hp0.below hb1
  have hbw := below_next hb1 hb0
  have HQ := Lib.hid (And.intro hq hbw)
  clear x0 x1 hz hk hb0 hp0 hT0 hb1 hq hbw hT hp
  have keepS : ∀ w', Below w1.heap.size w1 w' → (Below w1.heap.size w1 w' ∧ w'.cell? ⟨q, 0, none⟩ = some (.int .i64 a0) ∧ w'.cell? ⟨q, 1, none⟩ = some (.int .i64 a1) ∧ w'.cell? ⟨q, 2, none⟩ = some (.bool a2) ∧ w'.cell? ⟨q, 3, none⟩ = some (.int .i64 a3) ∧ w'.cell? ⟨q, 4, none⟩ = some (.slice A4 a5 a6) ∧ w'.cell? ⟨q + 1, 0, none⟩ = some (.int .i64 m1) ∧ w'.cell? ⟨q + 1, 1, none⟩ = some (.int .i64 m2)) := fun w' hb =>
    ⟨hb, (hX.look _ hb).1.1, (hX.look _ hb).1.2.1, (hX.look _ hb).1.2.2.1, (hX.look _ hb).1.2.2.2.1, (hX.look _ hb).1.2.2.2.2, by rw [(y1.below hb).cell]; rfl, by rw [(y1.below hb).cell]; rfl⟩
  have gT : ∀ w', Below w1.heap.size w1 w' → TmR w'.heap.size w' [.int .i64 a0, .int .i64 a1, .bool a2, .int .i64 a3, .slice A4 a5 a6] t := fun w' hb => (hX.look _ hb).2
  have gC : ∀ w', Below w1.heap.size w1 w' → Calls Try.prog 13 #[v] w' fun r w'' => ∃ u, r = .returned u ∧ w''.ownsRow w1.heap.size 29 2 u ps.length (pkcs ps) ∧ Below w'.heap.size w' w'' := fun w' hb =>
    (clone_pks v ps.length _ w' (hp1.below hb) (pkcs_one ps) (by omega)).mono fun r w'' ⟨u, h1, h2, h3⟩ => ⟨u, h1, own_base h2 hb.size, h3⟩
  have gR : ∀ w' u, Below w1.heap.size w1 w' → Calls Try.prog 12 #[.agg #[.int .i64 a0, .int .i64 a1, .bool a2, .int .i64 a3, .slice A4 a5 a6], .int .i64 W, u] w' fun e w'' => e = .returned (.tuple #[.slice none 0 0, .int .i64 0, .int .i64 2]) ∧ Below w'.heap.size w' w'' := fun w' u hb =>
    run_out t w' w'.heap.size _ W u (gT w' hb) hW
  have n63 : ps.length + 1 ≤ maxLen := by unfold maxLen; omega
  have n47 : (ps.length + 1) * 16 ≤ 140737488355328 := by omega
  obtain ⟨-, c0, c1, c2, c3, c4, -⟩ := keepS _ (Below.refl _ _)
  have gR1 := gR w1 v (Below.refl _ _)
  have GS := Lib.hid (And.intro keepS (And.intro gC gR))
  clear hX y1 hp1 gT gC gR keepS hW
  go_wp2_with fail
  refine gR1.mono ?_
  rintro e w2 ⟨rfl, hb2⟩
  obtain ⟨keepS, gC, gR⟩ := GS.out
  have hS0 := keepS _ (below_drew hb2)
  clear c0 c1 c2 c3 c4 gR1 GS
  go_wp2_with fail
  refine wp_walk_marks (fun i => [6].contains i) (fun i => ([0,1] : List Nat).contains i) [6] (by intro m h; simpa using h) (by kernel_rfl) (by kernel_rfl) (by kernel_rfl) (fun w w' => Below w.heap.size w w') (fun w' => (Below w1.heap.size w1 w' ∧ w'.cell? ⟨q, 0, none⟩ = some (.int .i64 a0) ∧ w'.cell? ⟨q, 1, none⟩ = some (.int .i64 a1) ∧ w'.cell? ⟨q, 2, none⟩ = some (.bool a2) ∧ w'.cell? ⟨q, 3, none⟩ = some (.int .i64 a3) ∧ w'.cell? ⟨q, 4, none⟩ = some (.slice A4 a5 a6) ∧ w'.cell? ⟨q + 1, 0, none⟩ = some (.int .i64 m1) ∧ w'.cell? ⟨q + 1, 1, none⟩ = some (.int .i64 m2))) hS0 ?_
  repeat (first | (refine msettle_skip (by rfl) (fun _ => by rfl) ?_; (simp only [Act.put, List.setIfInBounds_toArray, List.set_cons_zero, List.set_cons_succ])) | (refine' msettle_run (by rfl) (fun _ _ => Below.refl _ _) (fun _ => by rfl) ?_ ?_; rotate_left; (focus (intro ρ w hS hF; (try dsimp only at hS); go_split_ands; go_simp; try with_reducible rfl)); (simp only [Act.put, List.setIfInBounds_toArray, List.set_cons_zero, List.set_cons_succ])))
  (refine msettle_known (FRow w1.heap.size 29 2 ps.length (pkcs ps)) (by rfl) (by rfl) (fun _ => by rfl)  ?_ ?_; (focus (intro ρ w hS hF K hK; (simp only [Act.put, List.setIfInBounds_toArray, List.set_cons_zero, List.set_cons_succ] at hK); go_simp; (refine (gC _ hS.1).mono ?_; rintro e w' ⟨v, rfl, hF', hb'⟩; exact hK _ _ hF' (keepS _ (below_next hb' hS.1)) hb'))); (simp only [Act.put, List.setIfInBounds_toArray, List.set_cons_zero, List.set_cons_succ]))
  repeat (first | (refine msettle_skip (by rfl) (fun _ => by rfl) ?_; (simp only [Act.put, List.setIfInBounds_toArray, List.set_cons_zero, List.set_cons_succ])) | (refine' msettle_run (by rfl) (fun _ _ => Below.refl _ _) (fun _ => by rfl) ?_ ?_; rotate_left; (focus (intro ρ w hS hF; (try dsimp only at hS); go_split_ands; go_simp; try with_reducible rfl)); (simp only [Act.put, List.setIfInBounds_toArray, List.set_cons_zero, List.set_cons_succ])))
  (refine msettle_known (FSl 2 1 [.int .i64 m1, .int .i64 m2]) (by rfl) (by rfl) (fun _ => by rfl)  ?_ ?_; (focus (intro ρ w hS hF K hK; (simp only [Act.put, List.setIfInBounds_toArray, List.set_cons_zero, List.set_cons_succ] at hK); go_simp; exact hK _ _ (SlV.lit _ [.int .i64 m1, .int .i64 m2] _ 2 1 rfl (by decide)) (keepS _ (below_alloc hS.1 _)) (below_alloc (Below.refl _ _) _))); (simp only [Act.put, List.setIfInBounds_toArray, List.set_cons_zero, List.set_cons_succ]))
  (refine msettle_mark (FSl 2 (ps.length + 1) (pkcs (ps ++ [⟨m1, m2⟩]))) (by rfl) (by rfl) (fun _ => by rfl) ?_ ?_; (focus (intro ρ w hS hF K hK; refine oper_append (.tmp 29) (.tmp 31) w1.heap.size _ _ _ _ _ Try.underlying27 info_pick rfl (by decide) (hF.2.1 (by rfl)) (hF.1 (by rfl)) (pkcs_one [⟨m1, m2⟩]) n63 n47 hS.1.size rfl rfl rfl ?_; intro v' w' hown _ _ hb; exact hK v' w' (by rw [pkcs_append]; exact SlV.of_own hown) (keepS _ (hS.1.trans hb)))); (simp only [Act.put, List.setIfInBounds_toArray, List.set_cons_zero, List.set_cons_succ]))
  (refine' msettle_step (by rfl) (fun _ => by rfl) ?_ ?_; rotate_left; (focus (intro ρ w hS hF K hK; (simp only [Act.put, List.setIfInBounds_toArray, List.set_cons_zero, List.set_cons_succ] at hK); go_simp; go_at_call 12; refine (gR _ _ hS.1).mono ?_; rintro e w6 ⟨rfl, hb6⟩; have hS' := keepS _ (below_next hb6 hS.1); have hE' := hb6; exact hK _ hS' hE')); (simp only [Act.put, List.setIfInBounds_toArray, List.set_cons_zero, List.set_cons_succ]))
  repeat (first | (refine msettle_skip (by rfl) (fun _ => by rfl) ?_; (simp only [Act.put, List.setIfInBounds_toArray, List.set_cons_zero, List.set_cons_succ])) | (refine' msettle_run (by rfl) (fun _ _ => Below.refl _ _) (fun _ => by rfl) ?_ ?_; rotate_left; (focus (intro ρ w hS hF; (try dsimp only at hS); go_split_ands; go_simp; try with_reducible rfl)); (simp only [Act.put, List.setIfInBounds_toArray, List.set_cons_zero, List.set_cons_succ])))
  refine msettle_nil ?_
  intro ρ w4 hS _
  have hS1 := hS.1
  clear keepS gC gR hS hS0
  dsimp only
  go_wp2
  go_ret
  exact ⟨rfl, below_next hS1 HQ.out.2⟩

theorem logS_one (t : Sp.T) (W : Nat) (s : Stl.S) (m1 m2 : Int) : Stl.logS t W s [⟨m1, m2⟩] = [] ∨ ∃ (k : Nat) (l : Int), m1 = k ∧ Stl.logS t W s [⟨m1, m2⟩] = [(k, l)] := by
  simp only [Stl.logS, List.append_nil, Stl.nextL]
  split
  · rename_i h
    exact .inr ⟨m1.toNat, _, by omega, rfl⟩
  · exact .inl rfl

set_option maxHeartbeats 8000000 in
theorem stealBusy_in (t : Sp.T) (ps : List Stl.Pk) (w : World) (cs : List Value) (W : Nat) (v : Value) (m1 m2 : Int) (hT : TmR w.heap.size w cs t) (hsz : Stl.sz t ≤ 1048576) (hlv : t.size ≤ 1048576) (hW1 : 1 ≤ W) (hW2 : W ≤ 16) (hps : ps.length ≤ 1048576) (hp : SlV w 2 v ps.length (pkcs ps)) :
    Calls Try.prog 3 #[.agg cs.toArray, .int .i64 (W : Int), v, .agg #[.int .i64 m1, .int .i64 m2]] w fun e w' => e = .returned (.bool true) ∧ Below w.heap.size w w' := by
  obtain ⟨a0, a1, a2, a3, A4, a5, a6, rfl, -, -⟩ := hT.form
  unfold tcells at hT ⊢
  obtain ⟨x0, x1, hz, hk⟩ := two_allocs w [.int .i64 a0, .int .i64 a1, .bool a2, .int .i64 a3, .slice A4 a5 a6] [.int .i64 m1, .int .i64 m2] 26 29
  have hb0 := hk.below (Nat.le_refl _) (fun i h => h.elim)
  go_enter Try.func3, Try.ntmps3
  go_wp2_with fail
  obtain ⟨q, hq⟩ : ∃ q, q = w.heap.size := ⟨_, rfl⟩
  have hp0 := hp.below hb0
  have hT0 := tm_up (hT.later hb0) hb0.size
  generalize (w.alloc (.cells [Value.int .i64 a0, .int .i64 a1, .bool a2, .int .i64 a3, .slice A4 a5 a6].toArray 26)).alloc (.cells [Value.int .i64 m1, .int .i64 m2].toArray 29) = W0 at x0 x1 hz hk hb0 hp0 hT0 ⊢
  rw [← hq] at x0 x1 hz ⊢
  refine (alive22_any _).mono ?_
  rintro e w1 ⟨rfl, hb1⟩
  have hX := Boxed.of (x0.below hb1) (hT0.later hb1) hb1.size
  have y1 := x1.below hb1
  have hp1 := hp0.below hb1
  have hbw := below_next hb1 hb0
  have HQ := Lib.hid (And.intro hq hbw)
  clear x0 x1 hz hk hb0 hp0 hT0 hb1 hq hbw hT hp
  have keepS : ∀ w', Below w1.heap.size w1 w' → (Below w1.heap.size w1 w' ∧ w'.cell? ⟨q, 0, none⟩ = some (.int .i64 a0) ∧ w'.cell? ⟨q, 1, none⟩ = some (.int .i64 a1) ∧ w'.cell? ⟨q, 2, none⟩ = some (.bool a2) ∧ w'.cell? ⟨q, 3, none⟩ = some (.int .i64 a3) ∧ w'.cell? ⟨q, 4, none⟩ = some (.slice A4 a5 a6) ∧ w'.cell? ⟨q + 1, 0, none⟩ = some (.int .i64 m1) ∧ w'.cell? ⟨q + 1, 1, none⟩ = some (.int .i64 m2)) := fun w' hb =>
    ⟨hb, (hX.look _ hb).1.1, (hX.look _ hb).1.2.1, (hX.look _ hb).1.2.2.1, (hX.look _ hb).1.2.2.2.1, (hX.look _ hb).1.2.2.2.2, by rw [(y1.below hb).cell]; rfl, by rw [(y1.below hb).cell]; rfl⟩
  have gT : ∀ w', Below w1.heap.size w1 w' → TmR w'.heap.size w' [.int .i64 a0, .int .i64 a1, .bool a2, .int .i64 a3, .slice A4 a5 a6] t := fun w' hb => (hX.look _ hb).2
  have gC : ∀ w' B, Below w1.heap.size w1 w' → B ≤ w'.heap.size → Calls Try.prog 13 #[v] w' fun r w'' => ∃ u, r = .returned u ∧ w''.ownsRow B 29 2 u ps.length (pkcs ps) ∧ Below w'.heap.size w' w'' := fun w' B hb hB =>
    (clone_pks v ps.length _ w' (hp1.below hb) (pkcs_one ps) (by omega)).mono fun r w'' ⟨u, h1, h2, h3⟩ => ⟨u, h1, own_base h2 hB, h3⟩
  have gR : ∀ w' u (qs : List Stl.Pk), Below w1.heap.size w1 w' → qs.length ≤ 1048577 → SlV w' 2 u qs.length (pkcs qs) → Calls Try.prog 12 #[.agg #[.int .i64 a0, .int .i64 a1, .bool a2, .int .i64 a3, .slice A4 a5 a6], .int .i64 (W : Int), u] w' fun e w'' => ∃ r, e = .returned r ∧ (FRun w1.heap.size (Stl.logS t W (Stl.start 0 t) qs) ((t.size : Int) - ((Stl.logS t W (Stl.start 0 t) qs).length : Int))).holds r w'' ∧ Below w'.heap.size w' w'' := fun w' u qs hb hq hs =>
    (run_any t qs w' w'.heap.size _ W u (gT w' hb) (Nat.le_refl _) (by omega) (by omega) (by omega) hW1 hW2 hs).mono fun e w'' ⟨D, h1, h2, h3⟩ => ⟨_, h1, ⟨D, rfl, own_base h2 hb.size⟩, h3⟩
  have n63 : ps.length + 1 ≤ maxLen := by unfold maxLen; omega
  have n47 : (ps.length + 1) * 16 ≤ 140737488355328 := by omega
  obtain ⟨-, c0, c1, c2, c3, c4, -⟩ := keepS _ (Below.refl _ _)
  have gR1 := gR w1 v ps (Below.refl _ _) (by omega) hp1
  have hl1 := logS_length t W ps (Stl.start 0 t)
  have hap := Stl.logS_append t W (Stl.start 0 t) ps [⟨m1, m2⟩]
  have hone := logS_one t W (Stl.afterS t W (Stl.start 0 t) ps) m1 m2
  obtain ⟨L1, hL1⟩ : ∃ L, L = Stl.logS t W (Stl.start 0 t) ps := ⟨_, rfl⟩
  obtain ⟨L2, hL2⟩ : ∃ L, L = Stl.logS t W (Stl.start 0 t) (ps ++ [⟨m1, m2⟩]) := ⟨_, rfl⟩
  obtain ⟨LX, hLX⟩ : ∃ L, L = Stl.logS t W (Stl.afterS t W (Stl.start 0 t) ps) [⟨m1, m2⟩] := ⟨_, rfl⟩
  rw [← hL1] at gR1 hl1 hap
  rw [← hL2] at hap
  rw [← hLX] at hap hone
  have gR2 : ∀ w' u, Below w1.heap.size w1 w' → SlV w' 2 u (ps.length + 1) (pkcs (ps ++ [⟨m1, m2⟩])) → Calls Try.prog 12 #[.agg #[.int .i64 a0, .int .i64 a1, .bool a2, .int .i64 a3, .slice A4 a5 a6], .int .i64 (W : Int), u] w' fun e w'' => ∃ r, e = .returned r ∧ (FRun w1.heap.size L2 ((t.size : Int) - (L2.length : Int))).holds r w'' ∧ Below w'.heap.size w' w'' := fun w' u hb hs => by
    have := gR w' u (ps ++ [⟨m1, m2⟩]) hb (by simp; omega) (by simpa using hs)
    rw [← hL2] at this
    exact this
  have GS := Lib.hid (And.intro keepS (And.intro gC (And.intro gR2 (And.intro hap (And.intro hone y1)))))
  clear hX y1 hp1 gT gC gR gR2 keepS hap hone hL1 hL2 hLX
  go_wp2_with fail
  refine gR1.mono ?_
  rintro e w2 ⟨r, rfl, ⟨D, rfl, hD⟩, hb2⟩
  obtain ⟨PD, cD, rfl, hcD, hmD⟩ := own_slice hD
  obtain ⟨keepS, gC, gR, -⟩ := GS.out
  have up : ∀ w', Below w2.heap.size w2 w' → Below w1.heap.size w1 w' := fun w' hb => below_next hb hb2
  have keep2 : ∀ w', Below w2.heap.size w2 w' → (Below w2.heap.size w2 w' ∧ w'.cell? ⟨q, 0, none⟩ = some (.int .i64 a0) ∧ w'.cell? ⟨q, 1, none⟩ = some (.int .i64 a1) ∧ w'.cell? ⟨q, 2, none⟩ = some (.bool a2) ∧ w'.cell? ⟨q, 3, none⟩ = some (.int .i64 a3) ∧ w'.cell? ⟨q, 4, none⟩ = some (.slice A4 a5 a6) ∧ w'.cell? ⟨q + 1, 0, none⟩ = some (.int .i64 m1) ∧ w'.cell? ⟨q + 1, 1, none⟩ = some (.int .i64 m2)) := fun w' hb => ⟨hb, (keepS _ (up _ hb)).2⟩
  have hS0 := keep2 _ (below_drew (Below.refl _ _))
  have HD := Lib.hid (And.intro (SlV.of_own hD) hb2)
  clear c0 c1 c2 c3 c4 gR1 hD hb2 keepS
  go_wp2_with fail
  refine wp_walk_marks (fun i => [6].contains i) (fun i => ([0,1] : List Nat).contains i) [6] (by intro m h; simpa using h) (by kernel_rfl) (by kernel_rfl) (by kernel_rfl) (fun w w' => Below w.heap.size w w') (fun w' => (Below w2.heap.size w2 w' ∧ w'.cell? ⟨q, 0, none⟩ = some (.int .i64 a0) ∧ w'.cell? ⟨q, 1, none⟩ = some (.int .i64 a1) ∧ w'.cell? ⟨q, 2, none⟩ = some (.bool a2) ∧ w'.cell? ⟨q, 3, none⟩ = some (.int .i64 a3) ∧ w'.cell? ⟨q, 4, none⟩ = some (.slice A4 a5 a6) ∧ w'.cell? ⟨q + 1, 0, none⟩ = some (.int .i64 m1) ∧ w'.cell? ⟨q + 1, 1, none⟩ = some (.int .i64 m2))) hS0 ?_
  repeat (first | (refine msettle_skip (by rfl) (fun _ => by rfl) ?_; (simp only [Act.put, List.setIfInBounds_toArray, List.set_cons_zero, List.set_cons_succ])) | (refine' msettle_run (by rfl) (fun _ _ => Below.refl _ _) (fun _ => by rfl) ?_ ?_; rotate_left; (focus (intro ρ w hS hF; (try dsimp only at hS); go_split_ands; go_simp; try with_reducible rfl)); (simp only [Act.put, List.setIfInBounds_toArray, List.set_cons_zero, List.set_cons_succ])))
  (refine msettle_known (FRow w2.heap.size 29 2 ps.length (pkcs ps)) (by rfl) (by rfl) (fun _ => by rfl)  ?_ ?_; (focus (intro ρ w hS hF K hK; (simp only [Act.put, List.setIfInBounds_toArray, List.set_cons_zero, List.set_cons_succ] at hK); go_simp; (refine (gC _ w2.heap.size (up _ hS.1) hS.1.size).mono ?_; rintro e w' ⟨v, rfl, hF', hb'⟩; exact hK _ _ hF' (keep2 _ (below_next hb' hS.1)) hb'))); (simp only [Act.put, List.setIfInBounds_toArray, List.set_cons_zero, List.set_cons_succ]))
  repeat (first | (refine msettle_skip (by rfl) (fun _ => by rfl) ?_; (simp only [Act.put, List.setIfInBounds_toArray, List.set_cons_zero, List.set_cons_succ])) | (refine' msettle_run (by rfl) (fun _ _ => Below.refl _ _) (fun _ => by rfl) ?_ ?_; rotate_left; (focus (intro ρ w hS hF; (try dsimp only at hS); go_split_ands; go_simp; try with_reducible rfl)); (simp only [Act.put, List.setIfInBounds_toArray, List.set_cons_zero, List.set_cons_succ])))
  (refine msettle_known (FSl 2 1 [.int .i64 m1, .int .i64 m2]) (by rfl) (by rfl) (fun _ => by rfl)  ?_ ?_; (focus (intro ρ w hS hF K hK; (simp only [Act.put, List.setIfInBounds_toArray, List.set_cons_zero, List.set_cons_succ] at hK); go_simp; exact hK _ _ (SlV.lit _ [.int .i64 m1, .int .i64 m2] _ 2 1 rfl (by decide)) (keep2 _ (below_alloc hS.1 _)) (below_alloc (Below.refl _ _) _))); (simp only [Act.put, List.setIfInBounds_toArray, List.set_cons_zero, List.set_cons_succ]))
  (refine msettle_mark (FSl 2 (ps.length + 1) (pkcs (ps ++ [⟨m1, m2⟩]))) (by rfl) (by rfl) (fun _ => by rfl) ?_ ?_; (focus (intro ρ w hS hF K hK; refine oper_append (.tmp 29) (.tmp 31) w2.heap.size _ _ _ _ _ Try.underlying27 info_pick rfl (by decide) (hF.2.1 (by rfl)) (hF.1 (by rfl)) (pkcs_one [⟨m1, m2⟩]) n63 n47 hS.1.size rfl rfl rfl ?_; intro v' w' hown _ _ hb; exact hK v' w' (by rw [pkcs_append]; exact SlV.of_own hown) (keep2 _ (hS.1.trans hb)))); (simp only [Act.put, List.setIfInBounds_toArray, List.set_cons_zero, List.set_cons_succ]))
  (refine msettle_known (FRun w1.heap.size L2 ((t.size : Int) - (L2.length : Int))) (by rfl) (by rfl) (fun _ => by rfl)  ?_ ?_; (focus (intro ρ w hS hF K hK; (simp only [Act.put, List.setIfInBounds_toArray, List.set_cons_zero, List.set_cons_succ] at hK); go_simp; (refine (gR _ _ (up _ hS.1) (hF.1 (by rfl))).mono ?_; rintro e w' ⟨v, rfl, hF', hb'⟩; exact hK _ _ hF' (keep2 _ (below_next hb' hS.1)) hb'))); (simp only [Act.put, List.setIfInBounds_toArray, List.set_cons_zero, List.set_cons_succ]))
  (refine msettle_known (FRun w1.heap.size L2 ((t.size : Int) - (L2.length : Int))) (by rfl) (by rfl) (fun _ => by rfl)  ?_ ?_; (focus (intro ρ w hS hF K hK; (simp only [Act.put, List.setIfInBounds_toArray, List.set_cons_zero, List.set_cons_succ] at hK); go_simp; exact hK _ _ (hF.1 (by rfl)) hS (Below.refl _ _))); (simp only [Act.put, List.setIfInBounds_toArray, List.set_cons_zero, List.set_cons_succ]))
  (refine msettle_known (FRow w1.heap.size 38 2 L2.length (donecs L2)) (by rfl) (by rfl) (fun _ => by rfl)  ?_ ?_; (focus (intro ρ w hS hF K hK; (simp only [Act.put, List.setIfInBounds_toArray, List.set_cons_zero, List.set_cons_succ] at hK); go_simp; (obtain ⟨D2, hD2, hD3⟩ := hF.1 (by rfl); rw [hD2] at hK ⊢; go_simp; exact hK _ _ hD3 hS (Below.refl _ _)))); (simp only [Act.put, List.setIfInBounds_toArray, List.set_cons_zero, List.set_cons_succ]))
  (refine' msettle_step (by rfl) (fun _ => by rfl) ?_ ?_; rotate_left; (focus (intro ρ w hS hF K hK; (simp only [Act.put, List.setIfInBounds_toArray, List.set_cons_zero, List.set_cons_succ] at hK); go_simp; (obtain ⟨D2, hD2, hD3⟩ := hF.2.1 (by rfl)); rw [hD2] at hK ⊢; go_simp; have hS' := hS; have hE' := Below.refl w.heap.size w; exact hK _ hS' hE')); (simp only [Act.put, List.setIfInBounds_toArray, List.set_cons_zero, List.set_cons_succ]))
  (refine' msettle_step (by rfl) (fun _ => by rfl) ?_ ?_; rotate_left; (focus (intro ρ w hS hF K hK; (simp only [Act.put, List.setIfInBounds_toArray, List.set_cons_zero, List.set_cons_succ] at hK); go_simp; (obtain ⟨D2, hD2, hD3⟩ := hF.2.1 (by rfl)); rw [hD2] at hK ⊢; go_simp; have hS' := hS; have hE' := Below.refl w.heap.size w; exact hK _ hS' hE')); (simp only [Act.put, List.setIfInBounds_toArray, List.set_cons_zero, List.set_cons_succ]))
  (refine msettle_known (FRow w1.heap.size 38 2 L2.length (donecs L2)) (by rfl) (by rfl) (fun _ => by rfl)  ?_ ?_; (focus (intro ρ w hS hF K hK; (simp only [Act.put, List.setIfInBounds_toArray, List.set_cons_zero, List.set_cons_succ] at hK); go_simp; exact hK _ _ (hF.1 (by rfl)) hS (Below.refl _ _))); (simp only [Act.put, List.setIfInBounds_toArray, List.set_cons_zero, List.set_cons_succ]))
  repeat (first | (refine msettle_skip (by rfl) (fun _ => by rfl) ?_; (simp only [Act.put, List.setIfInBounds_toArray, List.set_cons_zero, List.set_cons_succ])) | (refine' msettle_run (by rfl) (fun _ _ => Below.refl _ _) (fun _ => by rfl) ?_ ?_; rotate_left; (focus (intro ρ w hS hF; (try dsimp only at hS); go_split_ands; go_simp; try with_reducible rfl)); (simp only [Act.put, List.setIfInBounds_toArray, List.set_cons_zero, List.set_cons_succ])))
  refine msettle_nil ?_
  intro ρ w4 hS hF
  have hC := hF 12 (FRow w1.heap.size 38 2 L2.length (donecs L2)) (by repeat (first | exact List.mem_cons_self | apply List.mem_cons_of_mem))
  obtain ⟨hb4, -, -, -, -, -, e0, -⟩ := hS
  have hC1 := SlV.of_own hC
  have hC2 := hC
  obtain ⟨-, -, -, hap, hone, hy1⟩ := GS.out
  obtain ⟨PC, cC, eC, hcC, hmC⟩ := own_slice hC
  have hD4 := HD.out.1.below hb4
  have hbE := below_next hb4 HD.out.2
  dsimp only
  rw [eC] at hC1 hC2 ⊢
  clear hF eC hC keep2 up gC gR hS0 HD
  unfold maxLen at hmC hmD
  have hB : ∀ w', Below w4.heap.size w4 w' → (Below w4.heap.size w4 w' ∧ w'.cell? ⟨q + 1, 0, none⟩ = some (.int .i64 m1)) := fun w' hb => ⟨hb, by rw [(hy1.below (below_next hb hbE)).cell]; rfl⟩
  rcases hone with rfl | ⟨k, l, rfl, rfl⟩
  · rw [List.append_nil] at hap
    subst hap
    have heq : ∀ w', Below w4.heap.size w4 w' → Calls Try.prog 14 #[.slice PC L2.length cC, .slice PD L2.length cD] w' fun e w'' => e = .returned (.bool true) ∧ Below w'.heap.size w' w'' := fun w' hb =>
      (equal_dones _ _ L2 L2 w' (hC1.below hb) (hD4.below hb)).mono fun e w'' ⟨h1, m, h2⟩ => ⟨by rw [h1]; simp, by rw [h2]; exact below_drewN (Below.refl _ _) m⟩
    have HE := Lib.hid heq
    clear heq hC1 hC2 hD4
    have n1 : L2.length ≤ 1048576 := by omega
    have HB := Lib.hid hB
    have hS0 := hB _ (below_drew (Below.refl _ _))
    clear hB e0
    go_wp2_with fail
    refine wp_walk (by kernel_rfl) (by kernel_rfl) (fun w w' => Below w.heap.size w w') (fun w' => (Below w4.heap.size w4 w' ∧ w'.cell? ⟨q + 1, 0, none⟩ = some (.int .i64 m1))) hS0 ?_
    repeat (first | (refine settle_skip (fun _ => by rfl) ?_; (simp only [Act.put, List.setIfInBounds_toArray, List.set_cons_zero, List.set_cons_succ])) | (refine' settle_run (fun _ _ => Below.refl _ _) (fun _ => by rfl) ?_ ?_; rotate_left; (focus (intro ρ w hS hF; (try dsimp only at hS); go_split_ands; go_simp; try with_reducible rfl)); (simp only [Act.put, List.setIfInBounds_toArray, List.set_cons_zero, List.set_cons_succ])))
    (refine' settle_step (fun _ => by rfl) ?_ ?_; rotate_left; (focus (intro ρ w hS hF K hK; (simp only [Act.put, List.setIfInBounds_toArray, List.set_cons_zero, List.set_cons_succ] at hK); go_simp; go_at_call 14; refine (HE.out _ hS.1).mono ?_; rintro e w6 ⟨rfl, hb6⟩; have hS' := HB.out _ (below_next hb6 hS.1); have hE' := hb6; exact hK _ hS' hE')); (simp only [Act.put, List.setIfInBounds_toArray, List.set_cons_zero, List.set_cons_succ]))
    repeat (first | (refine settle_skip (fun _ => by rfl) ?_; (simp only [Act.put, List.setIfInBounds_toArray, List.set_cons_zero, List.set_cons_succ])) | (refine' settle_run (fun _ _ => Below.refl _ _) (fun _ => by rfl) ?_ ?_; rotate_left; (focus (intro ρ w hS hF; (try dsimp only at hS); go_split_ands; go_simp; try with_reducible rfl)); (simp only [Act.put, List.setIfInBounds_toArray, List.set_cons_zero, List.set_cons_succ])))
    refine settle_nil ?_
    intro ρ w5 hS _
    have hbZ := hS.1
    clear hS hS0
    dsimp only
    go_wp2
    go_ret
    exact ⟨rfl, below_self HQ.out.2 (below_next hbZ hbE)⟩
  · have hlen : L2.length = L1.length + 1 := by rw [hap]; simp
    have hg : (donecs L2)[L1.length * 2]? = some (.int .i64 (k : Int)) := (donecs_get L2 L1.length (k, l) (by rw [hap]; simp)).1
    have hC3 := hC1.takeV L1.length (by omega)
    have etk : (donecs L2).take (L1.length * 2) = donecs L1 := by
      rw [hap, donecs_append, List.take_append_of_le_length (by rw [donecs_length]; exact Nat.le_refl _), List.take_of_length_le (by rw [donecs_length]; exact Nat.le_refl _)]
    rw [etk] at hC3
    obtain ⟨_, _, e5, -, -, -, hcc⟩ := hC1
    injection e5 with e5 _ e6
    subst e5 e6
    obtain ⟨g, o, rfl, hgl, hcc⟩ := hcc.at_ (fun e => by rw [e] at hg; simp at hg)
    have heq : ∀ w', Below w4.heap.size w4 w' → Calls Try.prog 14 #[.slice (some ⟨g, o, none⟩) L1.length cC, .slice PD L1.length cD] w' fun e w'' => e = .returned (.bool true) ∧ Below w'.heap.size w' w'' := fun w' hb =>
      (equal_dones _ _ L1 L1 w' (hC3.below hb) (hD4.below hb)).mono fun e w'' ⟨h1, m, h2⟩ => ⟨by rw [h1]; simp, by rw [h2]; exact below_drewN (Below.refl _ _) m⟩
    have HE := Lib.hid heq
    have hB2 : ∀ w', Below w4.heap.size w4 w' → (Below w4.heap.size w4 w' ∧ w'.cell? ⟨q + 1, 0, none⟩ = some (.int .i64 (k : Int)) ∧ w'.cell? ⟨g, o + L1.length * 2, none⟩ = some (.int .i64 (k : Int))) := fun w' hb => ⟨hb, (hB w' hb).2, (hb.cell hgl).trans (hcc _ _ hg)⟩
    obtain ⟨c2, hc2⟩ : ∃ c, c = L2.length := ⟨_, rfl⟩
    obtain ⟨n1, hn1⟩ : ∃ c, c = L1.length := ⟨_, rfl⟩
    rw [← hn1] at hB2 HE hlen hl1
    rw [← hc2] at hlen
    rw [← hn1, ← hc2]
    have HB := Lib.hid hB2
    have hS0 := hB2 _ (below_drew (Below.refl _ _))
    have b1 : n1 ≤ 1048576 := by omega
    have b2 : c2 ≤ 1048577 := by omega
    have g1 : decide (n1 ≤ c2) = true := by simp; omega
    have g2 : n1 ≤ cC := by omega
    have g3 : decide ((c2 : Int) - (n1 : Int) ≤ 1) = true := by simp; omega
    have g4 : ((t.size : Int) - (n1 : Int) - ((t.size : Int) - (c2 : Int)) == (c2 : Int) - (n1 : Int)) = true := by simp; omega
    have g5 : (c2 == n1) = false := by simp; omega
    have g6 : n1 < c2 := by omega
    have g7 : ((c2 : Int) == (n1 : Int)) = false := by simp; omega
    have k1 : IntKind.i64.wrap ((c2 : Int) - (n1 : Int)) = 1 := by rw [IntWalk.i64_in _ (by omega)]; omega
    have k2 : IntKind.i64.wrap ((t.size : Int) - (n1 : Int) - ((t.size : Int) - (c2 : Int))) = 1 := by rw [IntWalk.i64_in _ (by omega)]; omega
    clear heq hB hB2 hC2 hC3 hD4 hap hcc hg etk e0 hlen hn1 hc2 hgl
    go_wp2_with fail
    refine wp_walk (by kernel_rfl) (by kernel_rfl) (fun w w' => Below w.heap.size w w') (fun w' => (Below w4.heap.size w4 w' ∧ w'.cell? ⟨q + 1, 0, none⟩ = some (.int .i64 (k : Int)) ∧ w'.cell? ⟨g, o + n1 * 2, none⟩ = some (.int .i64 (k : Int)))) hS0 ?_
    repeat (first | (refine settle_skip (fun _ => by rfl) ?_; (simp only [Act.put, List.setIfInBounds_toArray, List.set_cons_zero, List.set_cons_succ])) | (refine' settle_run (fun _ _ => Below.refl _ _) (fun _ => by rfl) ?_ ?_; rotate_left; (focus (intro ρ w hS hF; (try dsimp only at hS); go_split_ands; go_simp; try with_reducible rfl)); (simp only [Act.put, List.setIfInBounds_toArray, List.set_cons_zero, List.set_cons_succ])))
    (refine' settle_step (fun _ => by rfl) ?_ ?_; rotate_left; (focus (intro ρ w hS hF K hK; (simp only [Act.put, List.setIfInBounds_toArray, List.set_cons_zero, List.set_cons_succ] at hK); go_simp; go_at_call 14; refine (HE.out _ hS.1).mono ?_; rintro e w6 ⟨rfl, hb6⟩; have hS' := HB.out _ (below_next hb6 hS.1); have hE' := hb6; exact hK _ hS' hE')); (simp only [Act.put, List.setIfInBounds_toArray, List.set_cons_zero, List.set_cons_succ]))
    repeat (first | (refine settle_skip (fun _ => by rfl) ?_; (simp only [Act.put, List.setIfInBounds_toArray, List.set_cons_zero, List.set_cons_succ])) | (refine' settle_run (fun _ _ => Below.refl _ _) (fun _ => by rfl) ?_ ?_; rotate_left; (focus (intro ρ w hS hF; (try dsimp only at hS); go_split_ands; go_simp; try with_reducible rfl)); (simp only [Act.put, List.setIfInBounds_toArray, List.set_cons_zero, List.set_cons_succ])))
    refine settle_nil ?_
    intro ρ w5 hS _
    have hbZ := hS.1
    clear hS hS0
    dsimp only
    go_wp2
    go_ret
    exact ⟨rfl, below_self HQ.out.2 (below_next hbZ hbE)⟩
end Go.Proofs.Ytajddbmmbhdnfaa
