/-
  An argument that is a heap of eight cells, at a law's end.
-/
import Derived.Test.YtdhjfckckghicaaDoorScU1
import Derived.Test.YtdhjfckckghicaaDoorScT1
import Derived.Test.YtdhjfckckghicaaDoorScP3
import Derived.Test.YtdhjfckckghicaaDoorScP1
import Derived.OpenShut

namespace Go.Proofs.YtdhjfckckghicaaDoor
set_option linter.unusedVariables false
set_option linter.unusedSimpArgs false
set_option maxRecDepth 100000
open Go.RowKit

namespace Sr
open St
theorem rename_run (p : P) (h : List Int) (fuel : Int) (hf : free p = []) : err (rename vn p) h fuel = err p h fuel ∧ fin (rename vn p) h fuel = fin p h fuel := by
  obtain ⟨h1, h2⟩ := same_law p hf
  have hg : go (rename vn p) h = go p h := h2 _
  have he : err (rename vn p) h fuel = err p h fuel := by
    unfold err
    rw [hg]
    simp only [hf, h1]
  exact ⟨he, by unfold fin; rw [he, hg]⟩
end Sr
/-- a variable that is new -/
def FNewH (w1 : World) (t : TypeId) (cs : List Value) : Fact (fun w w' => Below w.heap.size w w') := ⟨fun v w => ∃ g, v = .pointer (some ⟨g, 0, none⟩) ∧ w1.heap.size ≤ g ∧ Blk w g t cs, fun v w w' ⟨g, h1, h2, h3⟩ k => ⟨g, h1, h2, h3.below k⟩⟩


set_option maxHeartbeats 1000000 in
theorem serialRename_any (p : St.P) (h : List Int) (fuel : Int) (w : World) (D : Option Addr) (dl dc : Nat) (hp : IsP w (.slice D dl dc) p) (hs : p.size ≤ 274877906944) (hh : h.length = 8) (hr : ∀ x ∈ h, Ex.rng x) (hP : Pow w.heap.size w) :
    Calls Tryd.prog 7 #[.slice D dl dc, hcells h, .int .i64 fuel] w fun e w' => e = .returned (.bool true) ∧ Below w.heap.size w w' := by
  obtain ⟨H1, hH1⟩ : ∃ H1, H1 = (Sr.fin p h fuel).heap := ⟨_, rfl⟩
  obtain ⟨N, hN⟩ : ∃ N, N = (Sr.fin p h fuel).steps := ⟨_, rfl⟩
  obtain ⟨E1, hE1⟩ : ∃ E1, E1 = Sr.err p h fuel := ⟨_, rfl⟩
  obtain ⟨H2, hH2⟩ : ∃ H2, H2 = (Sr.fin (Sr.rename Sr.vn p) h fuel).heap := ⟨_, rfl⟩
  obtain ⟨N2, hN2⟩ : ∃ N2, N2 = (Sr.fin (Sr.rename Sr.vn p) h fuel).steps := ⟨_, rfl⟩
  obtain ⟨E2, hE2⟩ : ∃ E2, E2 = Sr.err (Sr.rename Sr.vn p) h fuel := ⟨_, rfl⟩
  have hl1 : H1.length = 8 := by rw [hH1]; exact Sr.fin_len _ _ _ hh
  have hl2 : H2.length = 8 := by rw [hH2]; exact Sr.fin_len _ _ _ hh
  have hcase : (E1 == 4) = true ∨ ((E1 == 4) = false ∧ E2 = E1 ∧ H2 = H1 ∧ N2 = N) := by
    rcases h4 : (E1 == 4) with _ | _
    · refine .inr ⟨rfl, ?_⟩
      have hf : Sr.free p = [] := by
        rcases hfr : Sr.free p with _ | ⟨x, l⟩
        · rfl
        · exfalso
          have : E1 = 4 := by rw [hE1]; unfold Sr.err; rw [if_pos (by rw [hfr]; simp)]
          rw [this] at h4
          simp at h4
      obtain ⟨h1, h2⟩ := Sr.rename_run p h fuel hf
      exact ⟨by rw [hE2, hE1, h1], by rw [hH2, hH1, h2], by rw [hN2, hN, h2]⟩
    · exact .inl rfl
  have HC := Lib.hid hcase
  have hrun1 : ∀ w', Below w.heap.size w w' → Calls Tryd.prog 21 #[.slice D dl dc, .agg (ints .i64 h).toArray, .int .i64 fuel] w' fun e w'' => e = .returned (.tuple #[.agg (ints .i64 H1).toArray, .int .i64 (N : Int), .int .i64 E1]) ∧ Below w'.heap.size w' w'' := fun w' hb => isP_runs (hp.step hb) h fuel hs hh hr hH1.symm (by rw [← hN]) hE1.symm
  have hrun2 : ∀ w' D dl dc, IsP w' (.slice D dl dc) (Sr.rename Sr.vn p) → Calls Tryd.prog 21 #[.slice D dl dc, .agg (ints .i64 h).toArray, .int .i64 fuel] w' fun e w'' => e = .returned (.tuple #[.agg (ints .i64 H2).toArray, .int .i64 (N2 : Int), .int .i64 E2]) ∧ Below w'.heap.size w' w'' := fun w' D dl dc hz => isP_runs hz h fuel (Nat.le_trans (Sr.rename_size p) hs) hh hr hH2.symm (by rw [← hN2]) hE2.symm
  have hpl : ∀ w', Below w.heap.size w w' → Calls Tryd.prog 9 #[.slice D dl dc] w' fun e w'' => ∃ D n c, e = .returned (.slice D n c) ∧ IsP w'' (.slice D n c) (Sr.rename Sr.vn p) ∧ Below w'.heap.size w' w'' := fun w' hb => by
    refine (isP_rename (hp.step hb) hb.size (hP.later hb) hs).mono ?_
    rintro e w'' ⟨v, rfl, hz, hb2⟩
    have h6 := hz.is
    obtain ⟨A, n, c, rfl, -⟩ := id h6
    exact ⟨A, n, c, rfl, h6, hb2⟩
  clear hH1 hN hE1 hH2 hN2 hE2 hp hP hcase
  obtain ⟨b0, b1, b2, b3, b4, b5, b6, b7, rfl⟩ := Sr.heap8 hh
  have x0 := Blk.new w 45 (ints .i64 [b0, b1, b2, b3, b4, b5, b6, b7])
  have hb0 : Below w.heap.size w (w.alloc (.cells (ints .i64 [b0, b1, b2, b3, b4, b5, b6, b7]).toArray 45)) := below_alloc (Below.refl _ _) _
  have h81 : (Tryd.prog.info? 45).map (·.size) = some (ints .i64 H1).length := by rw [ints_length, hl1]; kernel_rfl
  have h82 : (Tryd.prog.info? 45).map (·.size) = some (ints .i64 H2).length := by rw [ints_length, hl2]; kernel_rfl
  unfold hcells
  simp only [ints, List.map_cons, List.map_nil] at x0 hb0 hrun1 hrun2 ⊢
  go_enter Tryd.func7, Tryd.ntmps7
  go_wp2_with fail
  obtain ⟨q, hq⟩ : ∃ q, q = w.heap.size := ⟨_, rfl⟩
  generalize (w.alloc (.cells #[.int .i64 b0, .int .i64 b1, .int .i64 b2, .int .i64 b3, .int .i64 b4, .int .i64 b5, .int .i64 b6, .int .i64 b7] 45)) = W0 at x0 hb0 ⊢
  rw [← hq] at x0 ⊢
  refine (alive13_any _).mono ?_
  rintro e w1 ⟨rfl, hb1⟩
  have hH := x0.below hb1
  have hbw := below_next hb1 hb0
  clear x0 hb0 hb1 hq
  have keepS : ∀ w', Below w1.heap.size w1 w' → (Below w1.heap.size w1 w' ∧ w'.cell? ⟨q, 0, none⟩ = some (.int .i64 b0) ∧ w'.cell? ⟨q, 1, none⟩ = some (.int .i64 b1) ∧ w'.cell? ⟨q, 2, none⟩ = some (.int .i64 b2) ∧ w'.cell? ⟨q, 3, none⟩ = some (.int .i64 b3) ∧ w'.cell? ⟨q, 4, none⟩ = some (.int .i64 b4) ∧ w'.cell? ⟨q, 5, none⟩ = some (.int .i64 b5) ∧ w'.cell? ⟨q, 6, none⟩ = some (.int .i64 b6) ∧ w'.cell? ⟨q, 7, none⟩ = some (.int .i64 b7)) := fun w' hb => by
    have := hH.below hb
    exact ⟨hb, (this.cell 0).trans rfl, (this.cell 1).trans rfl, (this.cell 2).trans rfl, (this.cell 3).trans rfl, (this.cell 4).trans rfl, (this.cell 5).trans rfl, (this.cell 6).trans rfl, (this.cell 7).trans rfl⟩
  obtain ⟨-, d0, d1, d2, d3, d4, d5, d6, d7⟩ := keepS w1 (Below.refl _ _)
  go_wp2_with fail
  refine (hrun1 w1 hbw).mono ?_
  rintro e w2x ⟨rfl, hbw2⟩
  have hBw2 := Blk.new w2x 45 (ints .i64 [0, 0, 0, 0, 0, 0, 0, 0])
  have hpw2 := Lib.hid (fun w2 => put_heap (w2 := w2) hbw2)
  clear hbw2
  clear d0 d1 d2 d3 d4 d5 d6 d7 hrun1
  go_wp2_with (first | (refine wpl_put_blk hBw2 (ints .i64 H1) (by kernel_rfl) (by rw [ints_length, hl1]; rfl) (ints_one1 .i64 H1) rfl rfl rfl rfl ?_; intro w2 hXw2 hgw2; have hbw2 := hpw2.out w2 hgw2; clear hpw2 hgw2 hBw2; skip) | fail)
  replace keepS : ∀ w', Below w2.heap.size w2 w' → (Below w2.heap.size w2 w' ∧ w'.cell? ⟨q, 0, none⟩ = some (.int .i64 b0) ∧ w'.cell? ⟨q, 1, none⟩ = some (.int .i64 b1) ∧ w'.cell? ⟨q, 2, none⟩ = some (.int .i64 b2) ∧ w'.cell? ⟨q, 3, none⟩ = some (.int .i64 b3) ∧ w'.cell? ⟨q, 4, none⟩ = some (.int .i64 b4) ∧ w'.cell? ⟨q, 5, none⟩ = some (.int .i64 b5) ∧ w'.cell? ⟨q, 6, none⟩ = some (.int .i64 b6) ∧ w'.cell? ⟨q, 7, none⟩ = some (.int .i64 b7)) := fun w' hb => ⟨hb, (keepS w' (below_next hb hbw2)).2⟩
  have hS0 := keepS _ (below_drew (Below.refl _ _))
  have hbw2' := below_next hbw2 hbw
  have hn8 : (Tryd.prog.info? 45).map (·.size) = some 8 := by kernel_rfl
  have hw8 := whole_put (cs := ints .i64 [0, 0, 0, 0, 0, 0, 0, 0]) (vs := ints .i64 H2) (k := 8) rfl
  have HX2 := Lib.hid hXw2
  clear hXw2 hbw2 hbw hH
  refine wp_walk_ph 12 (fun i => ([10] : List Nat).contains i) (fun i => ([7,8] : List Nat).contains i) [10] (by intro m h; simpa using h) (by kernel_rfl) (by kernel_rfl) (by kernel_rfl) [10] (by kernel_rfl) (fun w w' => Below w.heap.size w w') (fun w' => (Below w2.heap.size w2 w' ∧ w'.cell? ⟨q, 0, none⟩ = some (.int .i64 b0) ∧ w'.cell? ⟨q, 1, none⟩ = some (.int .i64 b1) ∧ w'.cell? ⟨q, 2, none⟩ = some (.int .i64 b2) ∧ w'.cell? ⟨q, 3, none⟩ = some (.int .i64 b3) ∧ w'.cell? ⟨q, 4, none⟩ = some (.int .i64 b4) ∧ w'.cell? ⟨q, 5, none⟩ = some (.int .i64 b5) ∧ w'.cell? ⟨q, 6, none⟩ = some (.int .i64 b6) ∧ w'.cell? ⟨q, 7, none⟩ = some (.int .i64 b7))) (fun c ρ w' => match c with | 0 => True | _ + 1 => ∃ g', ρ 10 = .pointer (some ⟨g', 0, none⟩) ∧ w2.heap.size ≤ g' ∧ Blk w' g' 45 (ints .i64 H2)) hS0 (fun _ => trivial) (fun c ρ w w' h k => by cases c with | zero => trivial | succ c => (obtain ⟨g', h1, h2, h3⟩ := h; exact ⟨g', h1, h2, h3.below k⟩)) (fun _ _ _ _ => trivial) (fun c ρ ρ' w hL h => by cases c with | zero => trivial | succ c => (obtain ⟨g', h1, h2, h3⟩ := h; exact ⟨g', (hL 10 (by simp)).symm.trans h1, h2, h3⟩)) ?_
  simp only [List.length_cons, List.length_nil, Nat.reduceAdd, Nat.reduceSub, List.take_succ_cons, List.take_zero, List.drop_succ_cons, List.drop_zero]
  repeat (first | (refine psettle_skip (by rfl) (fun _ => by rfl) ?_; (simp only [Act.put, List.setIfInBounds_toArray, List.set_cons_zero, List.set_cons_succ])) | (refine' psettle_run (by rfl) (fun _ _ => Below.refl _ _) (fun _ => by rfl) ?_ ?_; rotate_left; (focus (intro ρ w hS hF hP; (try dsimp only at hS); go_split_ands; go_simp; try with_reducible rfl)); (simp only [Act.put, List.setIfInBounds_toArray, List.set_cons_zero, List.set_cons_succ])))
  (refine psettle_known (FPs (Sr.rename Sr.vn p)) (by rfl) (by rfl) (by rfl) (fun _ => by rfl)  ?_ ?_; (focus (intro ρ w hS hF hP K hK; (simp only [Act.put, List.setIfInBounds_toArray, List.set_cons_zero, List.set_cons_succ] at hK); go_simp; (refine (hpl _ (below_next hS.1 hbw2')).mono ?_; rintro e w' ⟨D', n', c', rfl, hip, hb'⟩; exact hK _ _ ⟨D', n', c', rfl, hip⟩ (keepS _ (below_next hb' hS.1)) hb'))); (simp only [Act.put, List.setIfInBounds_toArray, List.set_cons_zero, List.set_cons_succ]))
  repeat (first | (refine psettle_skip (by rfl) (fun _ => by rfl) ?_; (simp only [Act.put, List.setIfInBounds_toArray, List.set_cons_zero, List.set_cons_succ])) | (refine' psettle_run (by rfl) (fun _ _ => Below.refl _ _) (fun _ => by rfl) ?_ ?_; rotate_left; (focus (intro ρ w hS hF hP; (try dsimp only at hS); go_split_ands; go_simp; try with_reducible rfl)); (simp only [Act.put, List.setIfInBounds_toArray, List.set_cons_zero, List.set_cons_succ])))
  (refine' psettle_step (by rfl) (fun _ => by rfl) ?_ ?_; rotate_left; (focus (intro ρ w hS hF hP K hK; (simp only [Act.put, List.setIfInBounds_toArray, List.set_cons_zero, List.set_cons_succ] at hK); go_simp; (obtain ⟨D', n', c', hv, hip⟩ := hF.1 (by rfl)); rw [hv] at hK ⊢; refine (hrun2 _ _ _ _ hip).mono ?_; rintro e w' ⟨rfl, hb'⟩; have hS' := keepS _ (below_next hb' hS.1); have hE' := hb'; exact hK _ hS' hE')); (simp only [Act.put, List.setIfInBounds_toArray, List.set_cons_zero, List.set_cons_succ]))
  repeat (first | (refine psettle_skip (by rfl) (fun _ => by rfl) ?_; (simp only [Act.put, List.setIfInBounds_toArray, List.set_cons_zero, List.set_cons_succ])) | (refine' psettle_run (by rfl) (fun _ _ => Below.refl _ _) (fun _ => by rfl) ?_ ?_; rotate_left; (focus (intro ρ w hS hF hP; (try dsimp only at hS); go_split_ands; go_simp; try with_reducible rfl)); (simp only [Act.put, List.setIfInBounds_toArray, List.set_cons_zero, List.set_cons_succ])))
  (refine psettle_known (FNewH w2 45 (ints .i64 [0, 0, 0, 0, 0, 0, 0, 0])) (by rfl) (by rfl) (by rfl) (fun _ => by rfl)  ?_ ?_; (focus (intro ρ w hS hF hP K hK; (simp only [Act.put, List.setIfInBounds_toArray, List.set_cons_zero, List.set_cons_succ] at hK); go_simp; exact hK _ _ ⟨w.heap.size, rfl, hS.1.size, Blk.new w _ _⟩ (keepS _ (below_alloc hS.1 _)) (below_alloc (Below.refl _ _) _))); (simp only [Act.put, List.setIfInBounds_toArray, List.set_cons_zero, List.set_cons_succ]))
  (refine psettle_turn (v := undef) (by rfl) (fun _ => by rfl) ?_ ?_; (focus (intro ρ w hS hF hP K hK; (simp only [Act.put, List.setIfInBounds_toArray, List.set_cons_zero, List.set_cons_succ] at hK); (obtain ⟨g', hv, hg1, hB⟩ := hF.1 (by rfl); refine wp_store_blk hB 45 (.tmp 10) (.tmp 29) 0 8 (ints .i64 H2) hn8 (by rw [ints_length]; exact hl2) (by decide) (ints_one1 .i64 H2) rfl hv rfl ?_; have hB' := hB.row (List.take 0 (ints .i64 [0, 0, 0, 0, 0, 0, 0, 0]) ++ ints .i64 H2 ++ List.drop (0 + 8) (ints .i64 [0, 0, 0, 0, 0, 0, 0, 0])); have hbS := keepS _ (hS.1.trans (below_of_grown (grown_setRow w g' (List.take 0 (ints .i64 [0, 0, 0, 0, 0, 0, 0, 0]) ++ ints .i64 H2 ++ List.drop (0 + 8) (ints .i64 [0, 0, 0, 0, 0, 0, 0, 0])).toArray) hS.1.size hg1)); exact hK _ hbS ⟨g', hv, hg1, by rw [hw8] at hB' ⊢; exact hB'⟩))); (simp only [Act.put, List.setIfInBounds_toArray, List.set_cons_zero, List.set_cons_succ]))
  repeat (first | (refine psettle_skip (by rfl) (fun _ => by rfl) ?_; (simp only [Act.put, List.setIfInBounds_toArray, List.set_cons_zero, List.set_cons_succ])) | (refine' psettle_run (by rfl) (fun _ _ => Below.refl _ _) (fun _ => by rfl) ?_ ?_; rotate_left; (focus (intro ρ w hS hF hP; (try dsimp only at hS); go_split_ands; go_simp; try with_reducible rfl)); (simp only [Act.put, List.setIfInBounds_toArray, List.set_cons_zero, List.set_cons_succ])))
  refine psettle_nil ?_
  intro ρ w3 hS hI hF2
  obtain ⟨gz, hv10, hgz, hBz⟩ := hI
  have hb3 := hS.1
  have hX3 := HX2.out.below hb3
  have hb3' := below_next hb3 hbw2'
  clear hF2 hS0 hS hrun2 keepS hpl
  dsimp only
  rw [hv10]
  clear hv10
  generalize ρ 25 = v25
  have HB3 := Lib.hid hb3'
  rcases HC.out with h4 | ⟨h4, rfl, rfl, rfl⟩
  · go_wp2_with fail
    go_ret
    exact ⟨rfl, HB3.out⟩
  · have hze := heap_eq H2 H2 hl2 hl2 true (by simp)
    go_wp2_with (first | (refine wpl_get_blk (ty := 45) hX3 (by kernel_rfl) h82 rfl rfl rfl ?_) | (refine wpl_get_blk (ty := 45) hBz (by kernel_rfl) h82 rfl rfl rfl ?_) | fail)
    go_ret
    exact ⟨rfl, HB3.out⟩
end Go.Proofs.YtdhjfckckghicaaDoor


namespace Go.Proofs.YtdhjfckckghicaaDoor
set_option linter.unusedVariables false
set_option linter.unusedSimpArgs false
set_option maxRecDepth 100000
open Go.ChangeShapes Go.WideShapes Go.ChangeAt Go.RowKit

theorem okWide_heap {W : World} {base : Nat} {v : Value} (h : Value.okWide Tryd.prog W .any base 45 v) : ∃ cs, v = .agg cs ∧ cs.size = 8 := by
  have c8 : Tryd.prog.cellsOf 45 = 8 := by kernel_rfl
  simp only [Value.okWide, arr_heap] at h
  obtain ⟨cs, h1, h2, _⟩ := h
  exact ⟨cs, h1, by rw [h2, c8]⟩
theorem open_arg_heap {H : Type} {enc : TypeId × Value → H} {W : World} {base : Nat} {v : Value} {d : DataW H} {p : List MemPlace} (hv : Value.okWide Tryd.prog W .any base 45 v) (h : DataW.Trod enc Tryd.prog W 0 (fun _ => true) true 45 v d p) :
    ∃ l : List Int, v = hcells l ∧ l.length = 8 ∧ ∀ x ∈ l, Ex.rng x := by
  obtain ⟨cs, rfl, hcs⟩ := okWide_heap hv
  obtain ⟨fuel, hf⟩ := h
  have c1 : Tryd.prog.cellsOf 3 = 1 := by kernel_rfl
  obtain ⟨xs, m, -, -, -, hx, hel⟩ := DataW.trod_array arr_heap hf
  have key : ∀ i, i < 8 → ∃ n : Int, cs[i]? = some (.int .i64 n) ∧ Ex.rng n := fun i hi => by
    have := hel i hi
    rw [c1, List.getElem?_eq_getElem (by omega)] at this
    obtain ⟨n, hn, -, hw⟩ := DataW.trod_int Tryd.underlying3 this
    refine ⟨n, ?_, wf_i64.1 hw⟩
    have h2 := congrArg (fun l => l[0]?) hn
    simp [Value.cells] at h2
    have hsz : i < cs.size := by omega
    simpa [hsz] using h2
  obtain ⟨n0, k0, r0⟩ := key 0 (by omega)
  obtain ⟨n1, k1, r1⟩ := key 1 (by omega)
  obtain ⟨n2, k2, r2⟩ := key 2 (by omega)
  obtain ⟨n3, k3, r3⟩ := key 3 (by omega)
  obtain ⟨n4, k4, r4⟩ := key 4 (by omega)
  obtain ⟨n5, k5, r5⟩ := key 5 (by omega)
  obtain ⟨n6, k6, r6⟩ := key 6 (by omega)
  obtain ⟨n7, k7, r7⟩ := key 7 (by omega)
  refine ⟨[n0, n1, n2, n3, n4, n5, n6, n7], ?_, rfl, ?_⟩
  · unfold hcells
    congr 1
    apply Array.ext'
    obtain ⟨l⟩ := cs
    match l, hcs with
    | [a0, a1, a2, a3, a4, a5, a6, a7], _ =>
      simp at k0 k1 k2 k3 k4 k5 k6 k7
      subst k0 k1 k2 k3 k4 k5 k6 k7
      rfl
  · intro x hx
    simp only [List.mem_cons, List.not_mem_nil, or_false] at hx
    rcases hx with rfl | rfl | rfl | rfl | rfl | rfl | rfl | rfl <;> assumption
end Go.Proofs.YtdhjfckckghicaaDoor
