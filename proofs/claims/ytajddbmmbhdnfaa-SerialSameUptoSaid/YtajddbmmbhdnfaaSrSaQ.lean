/-
  Side by side is as if it were not: the law, walked.
-/
import Derived.Test.YtajddbmmbhdnfaaSrPaQ
import Derived.Test.YtajddbmmbhdnfaaStPlQ
import Derived.Test.YtajddbmmbhdnfaaAccEq

namespace Go.Proofs.Ytajddbmmbhdnfaa
set_option linter.unusedVariables false
set_option linter.unusedSimpArgs false
set_option maxRecDepth 100000
open Go.RowKit

namespace Sr
open St
theorem plain_size : ∀ (p : P), (plain p).size ≤ p.size
  | .nil => Nat.le_refl _
  | .cons k n a b body els r => by
    have h1 := plain_size body
    have h2 := plain_size els
    have h3 := plain_size r
    have h4 := a.leaves_pos
    have h5 := b.leaves_pos
    unfold plain
    split <;> simp only [P.size, Ex.X.leaves] <;> omega
theorem plain_err (p : P) (h : List Int) (fuel : Int) : err (plain p) h fuel = err p h fuel := by
  unfold err
  rw [go_plain]
  by_cases h1 : free p = []
  · have h2 := (free_plain p).2 h1
    simp only [h1, h2]
  · have h2 : free (plain p) ≠ [] := fun e => h1 ((free_plain p).1 e)
    rw [if_pos h2, if_pos h1]
theorem plain_fin (p : P) (h : List Int) (fuel : Int) : fin (plain p) h fuel = fin p h fuel := by
  unfold fin
  rw [plain_err, go_plain]
end Sr
/-- what serial.Trace returns -/
def FTp (E : Int) (T : List Sp.Acc) : Fact (fun w w' => Below w.heap.size w w') := ⟨fun v w => ∃ vt, v = .tuple #[vt, .int .i64 E] ∧ SlV w 3 vt T.length (Sp.acccs T), fun v w w' ⟨vt, h1, h2⟩ k => ⟨vt, h1, h2.below k⟩⟩
def FTs (T : List Sp.Acc) : Fact (fun w w' => Below w.heap.size w w') := ⟨fun v w => SlV w 3 v T.length (Sp.acccs T), fun v w w' h k => h.below k⟩


set_option maxHeartbeats 1000000 in
theorem serialSame_any (p : St.P) (h : List Int) (fuel : Int) (w : World) (D : Option Addr) (dl dc : Nat) (hp : IsP w (.slice D dl dc) p) (hs : p.size ≤ 274877906944) (hh : h.length = 8) (hr : ∀ x ∈ h, Ex.rng x) :
    Calls Try.prog 9 #[.slice D dl dc, hcells h, .int .i64 fuel] w fun e w' => e = .returned (.bool true) ∧ Below w.heap.size w w' := by
  obtain ⟨H1, hH1⟩ : ∃ H1, H1 = (Sr.fin p h fuel).heap := ⟨_, rfl⟩
  obtain ⟨N, hN⟩ : ∃ N, N = (Sr.fin p h fuel).steps := ⟨_, rfl⟩
  obtain ⟨T, hT⟩ : ∃ T, T = (Sr.fin p h fuel).trace := ⟨_, rfl⟩
  obtain ⟨E1, hE1⟩ : ∃ E1, E1 = Sr.err p h fuel := ⟨_, rfl⟩
  have hl1 : H1.length = 8 := by rw [hH1]; exact Sr.fin_len _ _ _ hh
  have hrun : ∀ (w' : World) D dl dc q, (q = p ∨ q = St.plain p) → IsP w' (.slice D dl dc) q → Calls Try.prog 20 #[.slice D dl dc, .agg (ints .i64 h).toArray, .int .i64 fuel] w' fun e w'' => e = .returned (.tuple #[.agg (ints .i64 H1).toArray, .int .i64 (N : Int), .int .i64 E1]) ∧ Below w'.heap.size w' w'' := fun w' D dl dc q hq hz => by
    rcases hq with rfl | rfl
    · exact isP_runs hz h fuel hs hh hr hH1.symm (by rw [← hN]) hE1.symm
    · exact isP_runs hz h fuel (Nat.le_trans (Sr.plain_size _) hs) hh hr (by rw [Sr.plain_fin]; exact hH1.symm) (by rw [Sr.plain_fin, ← hN]) (by rw [Sr.plain_err]; exact hE1.symm)
  have htr : ∀ (w' : World) D dl dc q, (q = p ∨ q = St.plain p) → IsP w' (.slice D dl dc) q → Calls Try.prog 22 #[.slice D dl dc, .agg (ints .i64 h).toArray, .int .i64 fuel] w' fun e w'' => ∃ vt, e = .returned (.tuple #[vt, .int .i64 E1]) ∧ SlV w'' 3 vt T.length (Sp.acccs T) ∧ Below w'.heap.size w' w'' := fun w' D dl dc q hq hz => by
    have ht : Sr.fin q h fuel = Sr.fin p h fuel ∧ Sr.err q h fuel = Sr.err p h fuel := by rcases hq with rfl | rfl; exact ⟨rfl, rfl⟩; exact ⟨Sr.plain_fin _ _ _, Sr.plain_err _ _ _⟩
    have := isP_trace hz h fuel (by rcases hq with rfl | rfl; exact hs; exact Nat.le_trans (Sr.plain_size _) hs) hh hr
    rw [ht.1, ht.2, ← hE1, ← hT] at this
    exact this.mono fun e w'' ⟨vt, h1, h2, h3⟩ => ⟨vt, h1, SlV.of_own h2, h3⟩
  have hpl : ∀ w', Below w.heap.size w w' → Calls Try.prog 23 #[.slice D dl dc] w' fun e w'' => ∃ D n c, e = .returned (.slice D n c) ∧ IsP w'' (.slice D n c) (St.plain p) ∧ Below w'.heap.size w' w'' := fun w' hb => by
    obtain ⟨A, n, c, e, h1, h2, h3⟩ := hp.step hb
    injection e with e1 e2 e3
    subst e1 e2 e3
    refine (plain_any p w' _ dl dc D (Nat.le_refl _) h3 h1 h2 hs).mono ?_
    rintro e w'' ⟨u, rfl, h4, h5⟩
    have h6 := h4.is
    obtain ⟨A, n, c, rfl, -⟩ := id h6
    exact ⟨A, n, c, rfl, h6, h5⟩
  have hrun1 : ∀ w', Below w.heap.size w w' → Calls Try.prog 20 #[.slice D dl dc, .agg (ints .i64 h).toArray, .int .i64 fuel] w' fun e w'' => e = .returned (.tuple #[.agg (ints .i64 H1).toArray, .int .i64 (N : Int), .int .i64 E1]) ∧ Below w'.heap.size w' w'' := fun w' hb => hrun w' _ _ _ p (.inl rfl) (hp.step hb)
  have htr1 : ∀ w', Below w.heap.size w w' → Calls Try.prog 22 #[.slice D dl dc, .agg (ints .i64 h).toArray, .int .i64 fuel] w' fun e w'' => ∃ vt, e = .returned (.tuple #[vt, .int .i64 E1]) ∧ SlV w'' 3 vt T.length (Sp.acccs T) ∧ Below w'.heap.size w' w'' := fun w' hb => htr w' _ _ _ p (.inl rfl) (hp.step hb)
  have hrun2 : ∀ w' D dl dc, IsP w' (.slice D dl dc) (St.plain p) → Calls Try.prog 20 #[.slice D dl dc, .agg (ints .i64 h).toArray, .int .i64 fuel] w' fun e w'' => e = .returned (.tuple #[.agg (ints .i64 H1).toArray, .int .i64 (N : Int), .int .i64 E1]) ∧ Below w'.heap.size w' w'' := fun w' D dl dc hp => hrun w' _ _ _ _ (.inr rfl) hp
  have htr2 : ∀ w' D dl dc, IsP w' (.slice D dl dc) (St.plain p) → Calls Try.prog 22 #[.slice D dl dc, .agg (ints .i64 h).toArray, .int .i64 fuel] w' fun e w'' => ∃ vt, e = .returned (.tuple #[vt, .int .i64 E1]) ∧ SlV w'' 3 vt T.length (Sp.acccs T) ∧ Below w'.heap.size w' w'' := fun w' D dl dc hp => htr w' _ _ _ _ (.inr rfl) hp
  clear hrun htr hH1 hN hT hE1 hp
  obtain ⟨b0, b1, b2, b3, b4, b5, b6, b7, rfl⟩ := Sr.heap8 hh
  have x0 := Blk.new w 50 (ints .i64 [b0, b1, b2, b3, b4, b5, b6, b7])
  have hb0 : Below w.heap.size w (w.alloc (.cells (ints .i64 [b0, b1, b2, b3, b4, b5, b6, b7]).toArray 50)) := below_alloc (Below.refl _ _) _
  have h81 : (Try.prog.info? 50).map (·.size) = some (ints .i64 H1).length := by rw [ints_length, hl1]; kernel_rfl
  unfold hcells
  simp only [ints, List.map_cons, List.map_nil] at x0 hb0 hrun1 hrun2 htr1 htr2 ⊢
  go_enter Try.func9, Try.ntmps9
  go_wp2_with fail
  obtain ⟨q, hq⟩ : ∃ q, q = w.heap.size := ⟨_, rfl⟩
  generalize (w.alloc (.cells #[.int .i64 b0, .int .i64 b1, .int .i64 b2, .int .i64 b3, .int .i64 b4, .int .i64 b5, .int .i64 b6, .int .i64 b7] 50)) = W0 at x0 hb0 ⊢
  rw [← hq] at x0 ⊢
  refine (alive13_any _).mono ?_
  rintro e w1 ⟨rfl, hb1⟩
  have hH := x0.below hb1
  have hbw := below_next hb1 hb0
  clear x0 hb0 hb1 hq
  have keepS : ∀ w', Below w1.heap.size w1 w' → (Below w1.heap.size w1 w' ∧ w'.cell? ⟨q, 0, none⟩ = some (.int .i64 b0) ∧ w'.cell? ⟨q, 1, none⟩ = some (.int .i64 b1) ∧ w'.cell? ⟨q, 2, none⟩ = some (.int .i64 b2) ∧ w'.cell? ⟨q, 3, none⟩ = some (.int .i64 b3) ∧ w'.cell? ⟨q, 4, none⟩ = some (.int .i64 b4) ∧ w'.cell? ⟨q, 5, none⟩ = some (.int .i64 b5) ∧ w'.cell? ⟨q, 6, none⟩ = some (.int .i64 b6) ∧ w'.cell? ⟨q, 7, none⟩ = some (.int .i64 b7)) := fun w' hb => by
    have := hH.below hb
    exact ⟨hb, (this.cell 0).trans rfl, (this.cell 1).trans rfl, (this.cell 2).trans rfl, (this.cell 3).trans rfl, (this.cell 4).trans rfl, (this.cell 5).trans rfl, (this.cell 6).trans rfl, (this.cell 7).trans rfl⟩
  obtain ⟨-, d0, d1, d2, d3, d4, d5, d6, d7⟩ := keepS w1 (Below.refl _ _)
  go_wp2_with fail
  refine (hrun1 w1 hbw).mono ?_
  rintro e w2x ⟨rfl, hbw2⟩
  have hBw2 := Blk.new w2x 50 (ints .i64 [0, 0, 0, 0, 0, 0, 0, 0])
  have hpw2 := Lib.hid (fun w2 => put_heap (w2 := w2) hbw2)
  clear hbw2
  clear d0 d1 d2 d3 d4 d5 d6 d7 hrun1
  go_wp2_with (first | (refine wpl_put_blk hBw2 (ints .i64 H1) (by kernel_rfl) (by rw [ints_length, hl1]; rfl) (ints_one1 .i64 H1) rfl rfl rfl rfl ?_; intro w2 hXw2 hgw2; have hbw2 := hpw2.out w2 hgw2; clear hpw2 hgw2 hBw2; skip) | fail)
  replace keepS : ∀ w', Below w2.heap.size w2 w' → (Below w2.heap.size w2 w' ∧ w'.cell? ⟨q, 0, none⟩ = some (.int .i64 b0) ∧ w'.cell? ⟨q, 1, none⟩ = some (.int .i64 b1) ∧ w'.cell? ⟨q, 2, none⟩ = some (.int .i64 b2) ∧ w'.cell? ⟨q, 3, none⟩ = some (.int .i64 b3) ∧ w'.cell? ⟨q, 4, none⟩ = some (.int .i64 b4) ∧ w'.cell? ⟨q, 5, none⟩ = some (.int .i64 b5) ∧ w'.cell? ⟨q, 6, none⟩ = some (.int .i64 b6) ∧ w'.cell? ⟨q, 7, none⟩ = some (.int .i64 b7)) := fun w' hb => ⟨hb, (keepS w' (below_next hb hbw2)).2⟩
  have hS0 := keepS _ (below_drew (Below.refl _ _))
  have hbw2' := below_next hbw2 hbw
  have hn8 : (Try.prog.info? 50).map (·.size) = some 8 := by kernel_rfl
  have hw8 := whole_put (cs := ints .i64 [0, 0, 0, 0, 0, 0, 0, 0]) (vs := ints .i64 H1) (k := 8) rfl
  have HX2 := Lib.hid hXw2
  clear hXw2 hbw2 hbw hH
  refine wp_walk_ph 12 (fun i => ([10] : List Nat).contains i) (fun i => ([7,8] : List Nat).contains i) [10] (by intro m h; simpa using h) (by kernel_rfl) (by kernel_rfl) (by kernel_rfl) [10] (by kernel_rfl) (fun w w' => Below w.heap.size w w') (fun w' => (Below w2.heap.size w2 w' ∧ w'.cell? ⟨q, 0, none⟩ = some (.int .i64 b0) ∧ w'.cell? ⟨q, 1, none⟩ = some (.int .i64 b1) ∧ w'.cell? ⟨q, 2, none⟩ = some (.int .i64 b2) ∧ w'.cell? ⟨q, 3, none⟩ = some (.int .i64 b3) ∧ w'.cell? ⟨q, 4, none⟩ = some (.int .i64 b4) ∧ w'.cell? ⟨q, 5, none⟩ = some (.int .i64 b5) ∧ w'.cell? ⟨q, 6, none⟩ = some (.int .i64 b6) ∧ w'.cell? ⟨q, 7, none⟩ = some (.int .i64 b7))) (fun c ρ w' => match c with | 0 => True | _ + 1 => ∃ g', ρ 10 = .pointer (some ⟨g', 0, none⟩) ∧ w2.heap.size ≤ g' ∧ Blk w' g' 50 (ints .i64 H1)) hS0 (fun _ => trivial) (fun c ρ w w' h k => by cases c with | zero => trivial | succ c => (obtain ⟨g', h1, h2, h3⟩ := h; exact ⟨g', h1, h2, h3.below k⟩)) (fun _ _ _ _ => trivial) (fun c ρ ρ' w hL h => by cases c with | zero => trivial | succ c => (obtain ⟨g', h1, h2, h3⟩ := h; exact ⟨g', (hL 10 (by simp)).symm.trans h1, h2, h3⟩)) ?_
  simp only [List.length_cons, List.length_nil, Nat.reduceAdd, Nat.reduceSub, List.take_succ_cons, List.take_zero, List.drop_succ_cons, List.drop_zero]
  repeat (first | (refine psettle_skip (by rfl) (fun _ => by rfl) ?_; (simp only [Act.put, List.setIfInBounds_toArray, List.set_cons_zero, List.set_cons_succ])) | (refine' psettle_run (by rfl) (fun _ _ => Below.refl _ _) (fun _ => by rfl) ?_ ?_; rotate_left; (focus (intro ρ w hS hF hP; (try dsimp only at hS); go_split_ands; go_simp; try with_reducible rfl)); (simp only [Act.put, List.setIfInBounds_toArray, List.set_cons_zero, List.set_cons_succ])))
  (refine psettle_known (FPs (St.plain p)) (by rfl) (by rfl) (by rfl) (fun _ => by rfl)  ?_ ?_; (focus (intro ρ w hS hF hP K hK; (simp only [Act.put, List.setIfInBounds_toArray, List.set_cons_zero, List.set_cons_succ] at hK); go_simp; (refine (hpl _ (below_next hS.1 hbw2')).mono ?_; rintro e w' ⟨D', n', c', rfl, hip, hb'⟩; exact hK _ _ ⟨D', n', c', rfl, hip⟩ (keepS _ (below_next hb' hS.1)) hb'))); (simp only [Act.put, List.setIfInBounds_toArray, List.set_cons_zero, List.set_cons_succ]))
  repeat (first | (refine psettle_skip (by rfl) (fun _ => by rfl) ?_; (simp only [Act.put, List.setIfInBounds_toArray, List.set_cons_zero, List.set_cons_succ])) | (refine' psettle_run (by rfl) (fun _ _ => Below.refl _ _) (fun _ => by rfl) ?_ ?_; rotate_left; (focus (intro ρ w hS hF hP; (try dsimp only at hS); go_split_ands; go_simp; try with_reducible rfl)); (simp only [Act.put, List.setIfInBounds_toArray, List.set_cons_zero, List.set_cons_succ])))
  (refine' psettle_step (by rfl) (fun _ => by rfl) ?_ ?_; rotate_left; (focus (intro ρ w hS hF hP K hK; (simp only [Act.put, List.setIfInBounds_toArray, List.set_cons_zero, List.set_cons_succ] at hK); go_simp; (obtain ⟨D', n', c', hv, hip⟩ := hF.1 (by rfl)); rw [hv] at hK ⊢; refine (hrun2 _ _ _ _ hip).mono ?_; rintro e w' ⟨rfl, hb'⟩; have hS' := keepS _ (below_next hb' hS.1); have hE' := hb'; exact hK _ hS' hE')); (simp only [Act.put, List.setIfInBounds_toArray, List.set_cons_zero, List.set_cons_succ]))
  repeat (first | (refine psettle_skip (by rfl) (fun _ => by rfl) ?_; (simp only [Act.put, List.setIfInBounds_toArray, List.set_cons_zero, List.set_cons_succ])) | (refine' psettle_run (by rfl) (fun _ _ => Below.refl _ _) (fun _ => by rfl) ?_ ?_; rotate_left; (focus (intro ρ w hS hF hP; (try dsimp only at hS); go_split_ands; go_simp; try with_reducible rfl)); (simp only [Act.put, List.setIfInBounds_toArray, List.set_cons_zero, List.set_cons_succ])))
  (refine psettle_known (FNew w2 50 (ints .i64 [0, 0, 0, 0, 0, 0, 0, 0])) (by rfl) (by rfl) (by rfl) (fun _ => by rfl)  ?_ ?_; (focus (intro ρ w hS hF hP K hK; (simp only [Act.put, List.setIfInBounds_toArray, List.set_cons_zero, List.set_cons_succ] at hK); go_simp; exact hK _ _ ⟨w.heap.size, rfl, hS.1.size, Blk.new w _ _⟩ (keepS _ (below_alloc hS.1 _)) (below_alloc (Below.refl _ _) _))); (simp only [Act.put, List.setIfInBounds_toArray, List.set_cons_zero, List.set_cons_succ]))
  (refine psettle_turn (v := undef) (by rfl) (fun _ => by rfl) ?_ ?_; (focus (intro ρ w hS hF hP K hK; (simp only [Act.put, List.setIfInBounds_toArray, List.set_cons_zero, List.set_cons_succ] at hK); (obtain ⟨g', hv, hg1, hB⟩ := hF.1 (by rfl); refine wp_store_blk hB 50 (.tmp 10) (.tmp 33) 0 8 (ints .i64 H1) hn8 (by rw [ints_length]; exact hl1) (by decide) (ints_one1 .i64 H1) rfl hv rfl ?_; have hB' := hB.row (List.take 0 (ints .i64 [0, 0, 0, 0, 0, 0, 0, 0]) ++ ints .i64 H1 ++ List.drop (0 + 8) (ints .i64 [0, 0, 0, 0, 0, 0, 0, 0])); have hbS := keepS _ (hS.1.trans (below_of_grown (grown_setRow w g' (List.take 0 (ints .i64 [0, 0, 0, 0, 0, 0, 0, 0]) ++ ints .i64 H1 ++ List.drop (0 + 8) (ints .i64 [0, 0, 0, 0, 0, 0, 0, 0])).toArray) hS.1.size hg1)); exact hK _ hbS ⟨g', hv, hg1, by rw [hw8] at hB' ⊢; exact hB'⟩))); (simp only [Act.put, List.setIfInBounds_toArray, List.set_cons_zero, List.set_cons_succ]))
  repeat (first | (refine psettle_skip (by rfl) (fun _ => by rfl) ?_; (simp only [Act.put, List.setIfInBounds_toArray, List.set_cons_zero, List.set_cons_succ])) | (refine' psettle_run (by rfl) (fun _ _ => Below.refl _ _) (fun _ => by rfl) ?_ ?_; rotate_left; (focus (intro ρ w hS hF hP; (try dsimp only at hS); go_split_ands; go_simp; try with_reducible rfl)); (simp only [Act.put, List.setIfInBounds_toArray, List.set_cons_zero, List.set_cons_succ])))
  refine psettle_nil ?_
  intro ρ w3 hS hI hF2
  obtain ⟨gz, hv10, hgz, hBz⟩ := hI
  have hb3 := hS.1
  have hX3 := HX2.out.below hb3
  have hb3' := below_next hb3 hbw2'
  obtain ⟨-, d0, d1, d2, d3, d4, d5, d6, d7⟩ := hS
  clear hF2 hS0 hrun2
  dsimp only
  rw [hv10]
  clear hv10
  generalize ρ 29 = v29
  have ht1 := htr1 w3 hb3'
  clear htr1
  go_wp2_with fail
  refine ht1.mono ?_
  rintro e w4 ⟨vt, rfl, hsl, hb4⟩
  clear d0 d1 d2 d3 d4 d5 d6 d7 ht1
  replace keepS : ∀ w', Below w4.heap.size w4 w' → (Below w4.heap.size w4 w' ∧ w'.cell? ⟨q, 0, none⟩ = some (.int .i64 b0) ∧ w'.cell? ⟨q, 1, none⟩ = some (.int .i64 b1) ∧ w'.cell? ⟨q, 2, none⟩ = some (.int .i64 b2) ∧ w'.cell? ⟨q, 3, none⟩ = some (.int .i64 b3) ∧ w'.cell? ⟨q, 4, none⟩ = some (.int .i64 b4) ∧ w'.cell? ⟨q, 5, none⟩ = some (.int .i64 b5) ∧ w'.cell? ⟨q, 6, none⟩ = some (.int .i64 b6) ∧ w'.cell? ⟨q, 7, none⟩ = some (.int .i64 b7)) := fun w' hb => ⟨hb, (keepS w' (below_next hb (below_next hb4 hb3))).2⟩
  have hS0 := keepS _ (below_drew (Below.refl _ _))
  have hb4' := below_next hb4 hb3'
  have HZ := Lib.hid (And.intro (hX3.below hb4) (And.intro (hBz.below hb4) hsl))
  clear hX3 hBz hsl hb4 hb3
  go_wp2_with fail
  refine wp_walk (by kernel_rfl) (by kernel_rfl) (fun w w' => Below w.heap.size w w') (fun w' => (Below w4.heap.size w4 w' ∧ w'.cell? ⟨q, 0, none⟩ = some (.int .i64 b0) ∧ w'.cell? ⟨q, 1, none⟩ = some (.int .i64 b1) ∧ w'.cell? ⟨q, 2, none⟩ = some (.int .i64 b2) ∧ w'.cell? ⟨q, 3, none⟩ = some (.int .i64 b3) ∧ w'.cell? ⟨q, 4, none⟩ = some (.int .i64 b4) ∧ w'.cell? ⟨q, 5, none⟩ = some (.int .i64 b5) ∧ w'.cell? ⟨q, 6, none⟩ = some (.int .i64 b6) ∧ w'.cell? ⟨q, 7, none⟩ = some (.int .i64 b7))) hS0 ?_
  repeat (first | (refine settle_skip (fun _ => by rfl) ?_; (simp only [Act.put, List.setIfInBounds_toArray, List.set_cons_zero, List.set_cons_succ])) | (refine' settle_run (fun _ _ => Below.refl _ _) (fun _ => by rfl) ?_ ?_; rotate_left; (focus (intro ρ w hS hF; (try dsimp only at hS); go_split_ands; go_simp; try with_reducible rfl)); (simp only [Act.put, List.setIfInBounds_toArray, List.set_cons_zero, List.set_cons_succ])))
  (refine settle_known (FPs (St.plain p)) (by rfl) (fun _ => by rfl)  ?_ ?_; (focus (intro ρ w hS hF K hK; (simp only [Act.put, List.setIfInBounds_toArray, List.set_cons_zero, List.set_cons_succ] at hK); go_simp; (refine (hpl _ (below_next hS.1 hb4')).mono ?_; rintro e w' ⟨D', n', c', rfl, hip, hb'⟩; exact hK _ _ ⟨D', n', c', rfl, hip⟩ (keepS _ (below_next hb' hS.1)) hb'))); (simp only [Act.put, List.setIfInBounds_toArray, List.set_cons_zero, List.set_cons_succ]))
  repeat (first | (refine settle_skip (fun _ => by rfl) ?_; (simp only [Act.put, List.setIfInBounds_toArray, List.set_cons_zero, List.set_cons_succ])) | (refine' settle_run (fun _ _ => Below.refl _ _) (fun _ => by rfl) ?_ ?_; rotate_left; (focus (intro ρ w hS hF; (try dsimp only at hS); go_split_ands; go_simp; try with_reducible rfl)); (simp only [Act.put, List.setIfInBounds_toArray, List.set_cons_zero, List.set_cons_succ])))
  (refine settle_known (FTp E1 T) (by rfl) (fun _ => by rfl)  ?_ ?_; (focus (intro ρ w hS hF K hK; (simp only [Act.put, List.setIfInBounds_toArray, List.set_cons_zero, List.set_cons_succ] at hK); go_simp; (obtain ⟨D', n', c', hv, hip⟩ := hF.1 (by rfl); rw [hv] at hK ⊢; refine (htr2 _ _ _ _ hip).mono ?_; rintro e w' ⟨vt', rfl, hsl', hb'⟩; exact hK _ _ ⟨vt', rfl, hsl'⟩ (keepS _ (below_next hb' hS.1)) hb'))); (simp only [Act.put, List.setIfInBounds_toArray, List.set_cons_zero, List.set_cons_succ]))
  (refine settle_known (FTp E1 T) (by rfl) (fun _ => by rfl)  ?_ ?_; (focus (intro ρ w hS hF K hK; (simp only [Act.put, List.setIfInBounds_toArray, List.set_cons_zero, List.set_cons_succ] at hK); go_simp; (exact hK _ _ (hF.1 (by rfl)) hS (Below.refl _ _)))); (simp only [Act.put, List.setIfInBounds_toArray, List.set_cons_zero, List.set_cons_succ]))
  (refine settle_known (FTs T) (by rfl) (fun _ => by rfl)  ?_ ?_; (focus (intro ρ w hS hF K hK; (simp only [Act.put, List.setIfInBounds_toArray, List.set_cons_zero, List.set_cons_succ] at hK); go_simp; (obtain ⟨vt', hv, hsl'⟩ := hF.1 (by rfl); rw [hv] at hK ⊢; go_simp; exact hK _ _ hsl' hS (Below.refl _ _)))); (simp only [Act.put, List.setIfInBounds_toArray, List.set_cons_zero, List.set_cons_succ]))
  (refine' settle_step (fun _ => by rfl) ?_ ?_; rotate_left; (focus (intro ρ w hS hF K hK; (simp only [Act.put, List.setIfInBounds_toArray, List.set_cons_zero, List.set_cons_succ] at hK); go_simp; (obtain ⟨vt', hv, hsl'⟩ := hF.2.1 (by rfl)); rw [hv] at hK ⊢; go_simp; have hS' := hS; have hE' := Below.refl w.heap.size w; exact hK _ hS' hE')); (simp only [Act.put, List.setIfInBounds_toArray, List.set_cons_zero, List.set_cons_succ]))
  (refine settle_known (FTs T) (by rfl) (fun _ => by rfl)  ?_ ?_; (focus (intro ρ w hS hF K hK; (simp only [Act.put, List.setIfInBounds_toArray, List.set_cons_zero, List.set_cons_succ] at hK); go_simp; (exact hK _ _ (hF.1 (by rfl)) hS (Below.refl _ _)))); (simp only [Act.put, List.setIfInBounds_toArray, List.set_cons_zero, List.set_cons_succ]))
  repeat (first | (refine settle_skip (fun _ => by rfl) ?_; (simp only [Act.put, List.setIfInBounds_toArray, List.set_cons_zero, List.set_cons_succ])) | (refine' settle_run (fun _ _ => Below.refl _ _) (fun _ => by rfl) ?_ ?_; rotate_left; (focus (intro ρ w hS hF; (try dsimp only at hS); go_split_ands; go_simp; try with_reducible rfl)); (simp only [Act.put, List.setIfInBounds_toArray, List.set_cons_zero, List.set_cons_succ])))
  refine settle_nil ?_
  intro ρ w5 hS hF
  have hs15 := hF 15 (FTs T) (by repeat (first | exact List.mem_cons_self | apply List.mem_cons_of_mem))
  have hb5 := hS.1
  have hX5 := HZ.out.1.below hb5
  have hB5 := HZ.out.2.1.below hb5
  have hsl5 := HZ.out.2.2.below hb5
  have hb5' := below_next hb5 hb4'
  clear hF hS hS0 hpl htr2 keepS
  dsimp only
  generalize ρ 15 = v15 at hs15 ⊢
  generalize ρ 43 = v43
  generalize ρ 45 = v45
  generalize ρ 48 = v48
  generalize ρ 49 = v49
  have heq := equal_accs vt v15 T T w5 hsl5 hs15
  clear hsl5 hs15
  have hze := heap_eq H1 H1 hl1 hl1 true (by simp)
  go_wp2_with (first | (refine wpl_get_blk (ty := 50) hX5 (by kernel_rfl) h81 rfl rfl rfl ?_) | (refine wpl_get_blk (ty := 50) hB5 (by kernel_rfl) h81 rfl rfl rfl ?_) | fail)
  refine heq.mono ?_
  rintro e w6 ⟨rfl, m, rfl⟩
  rw [decide_true]
  have hbE := below_drewN hb5' m
  clear hX5 hB5 heq hze
  go_wp2_with fail
  go_ret
  exact ⟨rfl, hbE⟩
end Go.Proofs.Ytajddbmmbhdnfaa
