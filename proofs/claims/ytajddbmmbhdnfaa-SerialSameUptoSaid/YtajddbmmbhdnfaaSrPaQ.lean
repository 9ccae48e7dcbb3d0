/-
  One program behind another one runs so: the law, walked.
-/
import Derived.Test.YtajddbmmbhdnfaaSrX

namespace Go.Proofs.Ytajddbmmbhdnfaa
set_option linter.unusedVariables false
set_option linter.unusedSimpArgs false
set_option maxRecDepth 100000
open Go.RowKit

namespace Sr
open St
theorem err_names (p : P) (h : List Int) (fuel : Int) : Sr.free p ≠ [] → err p h fuel = 4 := fun h1 => by unfold err; rw [if_pos h1]
theorem parts_some (a b : P) (h : List Int) (fuel : Int) (h1 : err a h fuel ≠ 0) (h4 : err a h fuel ≠ 4) : err (a ++ b) h fuel ≠ 0 := fun hg => by
  obtain ⟨g1, g2, g3, g4, -⟩ := (err_range (a ++ b) h fuel).2 hg
  have hf : Sr.free a = [] := (free_nil a).2 ((cl_append a b []).2 ((free_nil _).1 g1))
  have hl := go_le a b h
  exact h1 ((err_zero hf g2 g3).1 (by omega)).1
theorem parts_all (a b : P) (h : List Int) (fuel : Int) (h1 : err a h fuel = 0) (h2 : err b (fin a h fuel).heap fuel = 0) :
    (fuel < ((fin a h fuel).steps : Int) + ((fin b (fin a h fuel).heap fuel).steps : Int) → err (a ++ b) h fuel = 5) ∧
    (¬ fuel < ((fin a h fuel).steps : Int) + ((fin b (fin a h fuel).heap fuel).steps : Int) → err (a ++ b) h fuel = 0 ∧ (fin (a ++ b) h fuel).heap = (fin b (fin a h fuel).heap fuel).heap ∧ (fin (a ++ b) h fuel).steps = (fin a h fuel).steps + (fin b (fin a h fuel).heap fuel).steps) := by
  obtain ⟨a1, a2, a3, a4, a5⟩ := (err_range a h fuel).2 h1
  obtain ⟨b1, -, -, b4, b5⟩ := (err_range b (fin a h fuel).heap fuel).2 h2
  rw [a5] at b4 b5 ⊢
  rw [b5]
  have hc : Sr.free (a ++ b) = [] := (free_nil _).2 ((cl_append a b []).1 ((free_nil a).1 a1) ((free_nil b).1 b1))
  obtain ⟨e1, e2, -⟩ := go_append a b h ((free_nil b).1 b1)
  refine ⟨fun hlt => (err_zero hc a2 a3).2 (by omega), fun hge => ?_⟩
  obtain ⟨z1, z2⟩ := (err_zero (h := h) hc a2 a3).1 (by omega)
  rw [z2]
  exact ⟨z1, e1, e2⟩
theorem fin_steps (p : P) (h : List Int) (fuel : Int) : (fin p h fuel).steps ≤ 2000 := by
  by_cases h0 : err p h fuel = 0
  · obtain ⟨a1, a2, a3, a4, a5⟩ := (err_range p h fuel).2 h0
    rw [a5]; omega
  · rw [(err_range p h fuel).1 h0]; exact Nat.zero_le _
end Sr
theorem cat_two (a b : St.P) : St.cat [a, b] = a ++ b := by
  show a ++ (b ++ St.P.nil) = a ++ b
  rw [St.P.append_nil]
/-- a variable that is new -/
def FNew (w1 : World) (t : TypeId) (cs : List Value) : Fact (fun w w' => Below w.heap.size w w') := ⟨fun v w => ∃ g, v = .pointer (some ⟨g, 0, none⟩) ∧ w1.heap.size ≤ g ∧ Blk w g t cs, fun v w w' ⟨g, h1, h2, h3⟩ k => ⟨g, h1, h2, h3.below k⟩⟩
/-- a slice of statements -/
def FPs (p : St.P) : Fact (fun w w' => Below w.heap.size w w') := ⟨fun v w => ∃ D n c, v = .slice D n c ∧ IsP w (.slice D n c) p, fun v w w' ⟨D, n, c, h1, h2⟩ k => ⟨D, n, c, h1, h2.step k⟩⟩


set_option maxHeartbeats 1000000 in
theorem serialParts_any (pa pb : St.P) (h : List Int) (fuel : Int) (w : World) (D : Option Addr) (dl dc : Nat) (E : Option Addr) (el ec : Nat) (hpa : IsP w (.slice D dl dc) pa) (hpb : IsP w (.slice E el ec) pb) (hs : pa.size + pb.size ≤ 1073741824) (hh : h.length = 8) (hr : ∀ x ∈ h, Ex.rng x) :
    Calls Try.prog 10 #[.slice D dl dc, .slice E el ec, hcells h, .int .i64 fuel] w fun e w' => e = .returned (.bool true) ∧ Below w.heap.size w w' := by
  have hL1 := Sr.parts_some pa pb h fuel
  have hL2 := Sr.parts_all pa pb h fuel
  obtain ⟨H1, hH1⟩ : ∃ H1, H1 = (Sr.fin pa h fuel).heap := ⟨_, rfl⟩
  obtain ⟨N, hN⟩ : ∃ N, N = (Sr.fin pa h fuel).steps := ⟨_, rfl⟩
  obtain ⟨E1, hE1⟩ : ∃ E1, E1 = Sr.err pa h fuel := ⟨_, rfl⟩
  have hl1 : H1.length = 8 := by rw [hH1]; exact Sr.fin_len _ _ _ hh
  have hn1 : N ≤ 2000 := by rw [hN]; exact Sr.fin_steps _ _ _
  have hr1 : ∀ x ∈ H1, Ex.rng x := by
    obtain ⟨_, _, _, e, _, _, hp⟩ := hpa
    rw [hH1]; exact Sr.fin_rng pa h fuel hp.ok hr
  have hrun1 : ∀ w', Below w.heap.size w w' → Calls Try.prog 20 #[.slice D dl dc, .agg (ints .i64 h).toArray, .int .i64 fuel] w' fun e w'' => e = .returned (.tuple #[.agg (ints .i64 H1).toArray, .int .i64 (N : Int), .int .i64 E1]) ∧ Below w'.heap.size w' w'' := fun w' hb =>
    isP_runs (hpa.step hb) h fuel (by omega) hh hr hH1.symm (by rw [hN]) hE1.symm
  rw [← hE1] at hL1 hL2
  rw [← hH1, ← hN] at hL2
  obtain ⟨H2, hH2⟩ : ∃ H2, H2 = (Sr.fin pb H1 fuel).heap := ⟨_, rfl⟩
  obtain ⟨M, hM⟩ : ∃ M, M = (Sr.fin pb H1 fuel).steps := ⟨_, rfl⟩
  obtain ⟨E2, hE2⟩ : ∃ E2, E2 = Sr.err pb H1 fuel := ⟨_, rfl⟩
  have hl2 : H2.length = 8 := by rw [hH2]; exact Sr.fin_len _ _ _ hl1
  have hn2 : M ≤ 2000 := by rw [hM]; exact Sr.fin_steps _ _ _
  have hrun2 : ∀ w', Below w.heap.size w w' → Calls Try.prog 20 #[.slice E el ec, .agg (ints .i64 H1).toArray, .int .i64 fuel] w' fun e w'' => e = .returned (.tuple #[.agg (ints .i64 H2).toArray, .int .i64 (M : Int), .int .i64 E2]) ∧ Below w'.heap.size w' w'' := fun w' hb =>
    isP_runs (hpb.step hb) H1 fuel (by omega) hl1 hr1 hH2.symm (by rw [hM]) hE2.symm
  rw [← hE2, ← hM, ← hH2] at hL2
  obtain ⟨H3, hH3⟩ : ∃ H3, H3 = (Sr.fin (pa ++ pb) h fuel).heap := ⟨_, rfl⟩
  obtain ⟨K, hK⟩ : ∃ K, K = (Sr.fin (pa ++ pb) h fuel).steps := ⟨_, rfl⟩
  obtain ⟨E3, hE3⟩ : ∃ E3, E3 = Sr.err (pa ++ pb) h fuel := ⟨_, rfl⟩
  have hl3 : H3.length = 8 := by rw [hH3]; exact Sr.fin_len _ _ _ hh
  have hrun3 : ∀ w' D dl dc, IsP w' (.slice D dl dc) (pa ++ pb) → Calls Try.prog 20 #[.slice D dl dc, .agg (ints .i64 h).toArray, .int .i64 fuel] w' fun e w'' => e = .returned (.tuple #[.agg (ints .i64 H3).toArray, .int .i64 (K : Int), .int .i64 E3]) ∧ Below w'.heap.size w' w'' := fun w' D dl dc hp =>
    isP_runs hp h fuel (by rw [St.P.size_append]; omega) hh hr hH3.symm (by rw [hK]) hE3.symm
  rw [← hE3] at hL1 hL2
  rw [← hK, ← hH3] at hL2
  have HL := Lib.hid (And.intro hL1 hL2)
  clear hL1 hL2 hH1 hN hE1 hH2 hM hE2 hH3 hK hE3 hr1
  have hcat : ∀ w' v, Below w.heap.size w w' → SlV w' 1 v 2 [.slice D dl dc, .slice E el ec] → Calls Try.prog 25 #[v] w' fun e w'' => ∃ D n c, e = .returned (.slice D n c) ∧ IsP w'' (.slice D n c) (pa ++ pb) ∧ Below w'.heap.size w' w'' := fun w' v hb hv => by
    have := concat_any [.slice D dl dc, .slice E el ec] [pa, pb] v w' hv ⟨rfl, fun j v hj => by
      match j, hj with
      | 0, hj => simp at hj; subst hj; exact ⟨pa, rfl, hpa.step hb⟩
      | 1, hj => simp at hj; subst hj; exact ⟨pb, rfl, hpb.step hb⟩⟩ (by
        unfold St.len
        rw [cat_two, St.P.length_append]
        have := pa.length_le
        have := pb.length_le
        omega)
    rw [cat_two] at this
    refine this.mono ?_
    rintro e w'' ⟨u, rfl, h1, h2⟩
    obtain ⟨A, n, c, rfl, h3⟩ := id h1
    exact ⟨A, n, c, rfl, h1, h2⟩
  clear hpa hpb
  obtain ⟨b0, b1, b2, b3, b4, b5, b6, b7, rfl⟩ := Sr.heap8 hh
  have x0 := Blk.new w 50 (ints .i64 [b0, b1, b2, b3, b4, b5, b6, b7])
  have hb0 : Below w.heap.size w (w.alloc (.cells (ints .i64 [b0, b1, b2, b3, b4, b5, b6, b7]).toArray 50)) := below_alloc (Below.refl _ _) _
  have h81 : (Try.prog.info? 50).map (·.size) = some (ints .i64 H1).length := by rw [ints_length, hl1]; kernel_rfl
  have h82 : (Try.prog.info? 50).map (·.size) = some (ints .i64 H2).length := by rw [ints_length, hl2]; kernel_rfl
  have h83 : (Try.prog.info? 50).map (·.size) = some (ints .i64 H3).length := by rw [ints_length, hl3]; kernel_rfl
  unfold hcells
  simp only [ints, List.map_cons, List.map_nil] at x0 hb0 hrun1 hrun3 ⊢
  go_enter Try.func10, Try.ntmps10
  go_wp2_with fail
  obtain ⟨q, hq⟩ : ∃ q, q = w.heap.size := ⟨_, rfl⟩
  generalize (w.alloc (.cells #[.int .i64 b0, .int .i64 b1, .int .i64 b2, .int .i64 b3, .int .i64 b4, .int .i64 b5, .int .i64 b6, .int .i64 b7] 50)) = W0 at x0 hb0 ⊢
  rw [← hq] at x0 ⊢
  refine (alive13_any _).mono ?_
  rintro e w1 ⟨rfl, hb1⟩
  have hH := x0.below hb1
  have hbw := below_next hb1 hb0
  have hz0 : q < W0.heap.size := x0.lt
  have HQ := Lib.hid hq
  clear x0 hb0 hb1 hq
  have keepS : ∀ w', Below w1.heap.size w1 w' → (Below w1.heap.size w1 w' ∧ w'.cell? ⟨q, 0, none⟩ = some (.int .i64 b0) ∧ w'.cell? ⟨q, 1, none⟩ = some (.int .i64 b1) ∧ w'.cell? ⟨q, 2, none⟩ = some (.int .i64 b2) ∧ w'.cell? ⟨q, 3, none⟩ = some (.int .i64 b3) ∧ w'.cell? ⟨q, 4, none⟩ = some (.int .i64 b4) ∧ w'.cell? ⟨q, 5, none⟩ = some (.int .i64 b5) ∧ w'.cell? ⟨q, 6, none⟩ = some (.int .i64 b6) ∧ w'.cell? ⟨q, 7, none⟩ = some (.int .i64 b7)) := fun w' hb => by
    have := hH.below hb
    exact ⟨hb, (this.cell 0).trans rfl, (this.cell 1).trans rfl, (this.cell 2).trans rfl, (this.cell 3).trans rfl, (this.cell 4).trans rfl, (this.cell 5).trans rfl, (this.cell 6).trans rfl, (this.cell 7).trans rfl⟩
  obtain ⟨-, d0, d1, d2, d3, d4, d5, d6, d7⟩ := keepS w1 (Below.refl _ _)
  go_wp2_with fail
  refine (hrun1 w1 hbw).mono ?_
  rintro e w2x ⟨rfl, hbw2⟩
  have hBw2 := Blk.new w2x 50 (ints .i64 [0, 0, 0, 0, 0, 0, 0, 0])
  have hpw2 := Lib.hid (fun w2 => put_heap (w2 := w2) hbw2)
  clear hbw2
  clear d0 d1 d2 d3 d4 d5 d6 d7 hrun1
  go_wp2_with (first | (refine wpl_put_blk hBw2 (ints .i64 H1) (by kernel_rfl) (by rw [ints_length, hl1]; rfl) (ints_one1 .i64 H1) rfl rfl rfl rfl ?_; intro w2 hXw2 hgw2; have hbw2 := hpw2.out w2 hgw2; clear hpw2 hgw2 hBw2; skip) | (refine wpl_get_blk (ty := 50) hXw2 (by kernel_rfl) h81 rfl rfl rfl ?_) | fail)
  have hr2 := hrun2 w2 (below_next hbw2 hbw)
  refine (hr2).mono ?_
  rintro e w3x ⟨rfl, hbw3⟩
  have hBw3 := Blk.new w3x 50 (ints .i64 [0, 0, 0, 0, 0, 0, 0, 0])
  have hpw3 := Lib.hid (fun w3 => put_heap (w2 := w3) hbw3)
  clear hbw3
  clear hr2 hrun2 hXw2
  go_wp2_with (first | (refine wpl_put_blk hBw3 (ints .i64 H2) (by kernel_rfl) (by rw [ints_length, hl2]; rfl) (ints_one1 .i64 H2) rfl rfl rfl rfl ?_; intro w3 hXw3 hgw3; have hbw3 := hpw3.out w3 hgw3; clear hpw3 hgw3 hBw3; skip) | fail)
  have hb13 := below_next hbw3 hbw2
  replace keepS : ∀ w', Below w3.heap.size w3 w' → (Below w3.heap.size w3 w' ∧ w'.cell? ⟨q, 0, none⟩ = some (.int .i64 b0) ∧ w'.cell? ⟨q, 1, none⟩ = some (.int .i64 b1) ∧ w'.cell? ⟨q, 2, none⟩ = some (.int .i64 b2) ∧ w'.cell? ⟨q, 3, none⟩ = some (.int .i64 b3) ∧ w'.cell? ⟨q, 4, none⟩ = some (.int .i64 b4) ∧ w'.cell? ⟨q, 5, none⟩ = some (.int .i64 b5) ∧ w'.cell? ⟨q, 6, none⟩ = some (.int .i64 b6) ∧ w'.cell? ⟨q, 7, none⟩ = some (.int .i64 b7)) := fun w' hb => ⟨hb, (keepS w' (below_next hb hb13)).2⟩
  have hS0 := keepS _ (below_drew (Below.refl _ _))
  have hbw3 := below_next hb13 hbw
  have HK := Lib.hid (And.intro hXw3 (And.intro hb13 hbw))
  have hn8 : (Try.prog.info? 50).map (·.size) = some 8 := by kernel_rfl
  have hw8 := whole_put (cs := ints .i64 [0, 0, 0, 0, 0, 0, 0, 0]) (vs := ints .i64 H3) (k := 8) rfl
  clear hXw3 hbw2 hb13 hbw hH
  refine wp_walk_ph 14 (fun i => ([12] : List Nat).contains i) (fun i => ([9,10] : List Nat).contains i) [12] (by intro m h; simpa using h) (by kernel_rfl) (by kernel_rfl) (by kernel_rfl) [15] (by kernel_rfl) (fun w w' => Below w.heap.size w w') (fun w' => (Below w3.heap.size w3 w' ∧ w'.cell? ⟨q, 0, none⟩ = some (.int .i64 b0) ∧ w'.cell? ⟨q, 1, none⟩ = some (.int .i64 b1) ∧ w'.cell? ⟨q, 2, none⟩ = some (.int .i64 b2) ∧ w'.cell? ⟨q, 3, none⟩ = some (.int .i64 b3) ∧ w'.cell? ⟨q, 4, none⟩ = some (.int .i64 b4) ∧ w'.cell? ⟨q, 5, none⟩ = some (.int .i64 b5) ∧ w'.cell? ⟨q, 6, none⟩ = some (.int .i64 b6) ∧ w'.cell? ⟨q, 7, none⟩ = some (.int .i64 b7))) (fun c ρ w' => match c with | 0 => True | _ + 1 => ∃ g', ρ 15 = .pointer (some ⟨g', 0, none⟩) ∧ w3.heap.size ≤ g' ∧ Blk w' g' 50 (ints .i64 H3)) hS0 (fun _ => trivial) (fun c ρ w w' h k => by cases c with | zero => trivial | succ c => (obtain ⟨g', h1, h2, h3⟩ := h; exact ⟨g', h1, h2, h3.below k⟩)) (fun _ _ _ _ => trivial) (fun c ρ ρ' w hL h => by cases c with | zero => trivial | succ c => (obtain ⟨g', h1, h2, h3⟩ := h; exact ⟨g', (hL 15 (by simp)).symm.trans h1, h2, h3⟩)) ?_
  simp only [List.length_cons, List.length_nil, Nat.reduceAdd, Nat.reduceSub, List.take_succ_cons, List.take_zero, List.drop_succ_cons, List.drop_zero]
  repeat (first | (refine psettle_skip (by rfl) (fun _ => by rfl) ?_; (simp only [Act.put, List.setIfInBounds_toArray, List.set_cons_zero, List.set_cons_succ])) | (refine' psettle_run (by rfl) (fun _ _ => Below.refl _ _) (fun _ => by rfl) ?_ ?_; rotate_left; (focus (intro ρ w hS hF hP; (try dsimp only at hS); go_split_ands; go_simp; try with_reducible rfl)); (simp only [Act.put, List.setIfInBounds_toArray, List.set_cons_zero, List.set_cons_succ])))
  (refine psettle_known (FSl 1 2 [.slice D dl dc, .slice E el ec]) (by rfl) (by rfl) (by rfl) (fun _ => by rfl)  ?_ ?_; (focus (intro ρ w hS hF hP K hK; (simp only [Act.put, List.setIfInBounds_toArray, List.set_cons_zero, List.set_cons_succ] at hK); go_simp; exact hK _ _ (SlV.lit w [.slice D dl dc, .slice E el ec] 48 1 2 rfl (by decide)) (keepS _ (below_alloc hS.1 _)) (below_alloc (Below.refl _ _) _))); (simp only [Act.put, List.setIfInBounds_toArray, List.set_cons_zero, List.set_cons_succ]))
  (refine psettle_known (FPs (pa ++ pb)) (by rfl) (by rfl) (by rfl) (fun _ => by rfl)  ?_ ?_; (focus (intro ρ w hS hF hP K hK; (simp only [Act.put, List.setIfInBounds_toArray, List.set_cons_zero, List.set_cons_succ] at hK); go_simp; (refine (hcat _ _ (below_next hS.1 hbw3) (hF.1 (by rfl))).mono ?_; rintro e w' ⟨D', n', c', rfl, hip, hb'⟩; exact hK _ _ ⟨D', n', c', rfl, hip⟩ (keepS _ (below_next hb' hS.1)) hb'))); (simp only [Act.put, List.setIfInBounds_toArray, List.set_cons_zero, List.set_cons_succ]))
  repeat (first | (refine psettle_skip (by rfl) (fun _ => by rfl) ?_; (simp only [Act.put, List.setIfInBounds_toArray, List.set_cons_zero, List.set_cons_succ])) | (refine' psettle_run (by rfl) (fun _ _ => Below.refl _ _) (fun _ => by rfl) ?_ ?_; rotate_left; (focus (intro ρ w hS hF hP; (try dsimp only at hS); go_split_ands; go_simp; try with_reducible rfl)); (simp only [Act.put, List.setIfInBounds_toArray, List.set_cons_zero, List.set_cons_succ])))
  (refine' psettle_step (by rfl) (fun _ => by rfl) ?_ ?_; rotate_left; (focus (intro ρ w hS hF hP K hK; (simp only [Act.put, List.setIfInBounds_toArray, List.set_cons_zero, List.set_cons_succ] at hK); go_simp; (obtain ⟨D', n', c', hv, hip⟩ := hF.1 (by rfl)); rw [hv] at hK ⊢; refine (hrun3 _ _ _ _ hip).mono ?_; rintro e w' ⟨rfl, hb'⟩; have hS' := keepS _ (below_next hb' hS.1); have hE' := hb'; exact hK _ hS' hE')); (simp only [Act.put, List.setIfInBounds_toArray, List.set_cons_zero, List.set_cons_succ]))
  repeat (first | (refine psettle_skip (by rfl) (fun _ => by rfl) ?_; (simp only [Act.put, List.setIfInBounds_toArray, List.set_cons_zero, List.set_cons_succ])) | (refine' psettle_run (by rfl) (fun _ _ => Below.refl _ _) (fun _ => by rfl) ?_ ?_; rotate_left; (focus (intro ρ w hS hF hP; (try dsimp only at hS); go_split_ands; go_simp; try with_reducible rfl)); (simp only [Act.put, List.setIfInBounds_toArray, List.set_cons_zero, List.set_cons_succ])))
  (refine psettle_known (FNew w3 50 (ints .i64 [0, 0, 0, 0, 0, 0, 0, 0])) (by rfl) (by rfl) (by rfl) (fun _ => by rfl)  ?_ ?_; (focus (intro ρ w hS hF hP K hK; (simp only [Act.put, List.setIfInBounds_toArray, List.set_cons_zero, List.set_cons_succ] at hK); go_simp; exact hK _ _ ⟨w.heap.size, rfl, hS.1.size, Blk.new w _ _⟩ (keepS _ (below_alloc hS.1 _)) (below_alloc (Below.refl _ _) _))); (simp only [Act.put, List.setIfInBounds_toArray, List.set_cons_zero, List.set_cons_succ]))
  (refine psettle_turn (v := undef) (by rfl) (fun _ => by rfl) ?_ ?_; (focus (intro ρ w hS hF hP K hK; (simp only [Act.put, List.setIfInBounds_toArray, List.set_cons_zero, List.set_cons_succ] at hK); (obtain ⟨g', hv, hg1, hB⟩ := hF.1 (by rfl); refine wp_store_blk hB 50 (.tmp 15) (.tmp 44) 0 8 (ints .i64 H3) hn8 (by rw [ints_length]; exact hl3) (by decide) (ints_one1 .i64 H3) rfl hv rfl ?_; have hB' := hB.row (List.take 0 (ints .i64 [0, 0, 0, 0, 0, 0, 0, 0]) ++ ints .i64 H3 ++ List.drop (0 + 8) (ints .i64 [0, 0, 0, 0, 0, 0, 0, 0])); have hbS := keepS _ (hS.1.trans (below_of_grown (grown_setRow w g' (List.take 0 (ints .i64 [0, 0, 0, 0, 0, 0, 0, 0]) ++ ints .i64 H3 ++ List.drop (0 + 8) (ints .i64 [0, 0, 0, 0, 0, 0, 0, 0])).toArray) hS.1.size hg1)); exact hK _ hbS ⟨g', hv, hg1, by rw [hw8] at hB' ⊢; exact hB'⟩))); (simp only [Act.put, List.setIfInBounds_toArray, List.set_cons_zero, List.set_cons_succ]))
  repeat (first | (refine psettle_skip (by rfl) (fun _ => by rfl) ?_; (simp only [Act.put, List.setIfInBounds_toArray, List.set_cons_zero, List.set_cons_succ])) | (refine' psettle_run (by rfl) (fun _ _ => Below.refl _ _) (fun _ => by rfl) ?_ ?_; rotate_left; (focus (intro ρ w hS hF hP; (try dsimp only at hS); go_split_ands; go_simp; try with_reducible rfl)); (simp only [Act.put, List.setIfInBounds_toArray, List.set_cons_zero, List.set_cons_succ])))
  refine psettle_nil ?_
  intro ρ w4 hS hI hF2
  obtain ⟨gz, hv15, hgz, hBz⟩ := hI
  have hb4 := hS.1
  have hX2 := HK.out.1.below hb4
  have hbF := below_next hb4 hbw3
  clear hF2 hS hS0 keepS hcat hrun3
  dsimp only
  rw [hv15]
  clear hv15
  generalize ρ 39 = v39
  generalize ρ 40 = v40
  by_cases e1 : E1 = 0
  · subst e1
    by_cases e2 : E2 = 0
    · subst e2
      obtain ⟨z1, z2⟩ := HL.out.2 rfl rfl
      by_cases hf : fuel < (N : Int) + (M : Int)
      · have z3 := z1 hf
        subst z3
        have g1 : decide (fuel < (N : Int) + (M : Int)) = true := by simpa using hf
        clear hBz hX2 hf z1 z2
        go_wp2_with fail
        go_ret
        exact ⟨rfl, hbF⟩
      · obtain ⟨z3, z4, z5⟩ := z2 (by omega)
        subst z3 z4 z5
        have g1 : decide (fuel < (N : Int) + (M : Int)) = false := by simpa using hf
        have hze := heap_eq H3 H3 hl3 hl3 true (by simp)
        have g2 : (((N + M : Nat) : Int) == (N : Int) + (M : Int)) = true := by simp
        clear hf z1 z2
        go_wp2_with (first | (refine wpl_get_blk (ty := 50) hBz (by kernel_rfl) h83 rfl rfl rfl ?_) | (refine wpl_get_blk (ty := 50) hX2 (by kernel_rfl) h83 rfl rfl rfl ?_) | fail)
        clear hBz hX2
        go_ret
        exact ⟨rfl, hbF⟩
    · have g2 : (E2 != 0) = true := by simpa using e2
      clear hBz hX2 e2
      go_wp2_with fail
      go_ret
      exact ⟨rfl, hbF⟩
  · have g1 : (E1 != 0) = true := by simpa using e1
    have g1' : (E1 == 0) = false := by simpa using e1
    by_cases e3 : E3 = 0
    · have g3 : (E3 != 0) = false := by simpa using e3
      have e4 : E1 = 4 := Classical.byContradiction fun h => HL.out.1 e1 h e3
      have g4 : (E1 == 4) = true := by simpa using e4
      clear hBz hX2 e1 e3 e4
      go_wp2_with fail
      go_ret
      exact ⟨rfl, hbF⟩
    · have g3 : (E3 != 0) = true := by simpa using e3
      clear hBz hX2 e1 e3
      go_wp2_with fail
      go_ret
      exact ⟨rfl, hbF⟩
end Go.Proofs.Ytajddbmmbhdnfaa
