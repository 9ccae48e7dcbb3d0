/-
  Brackets are no matter: the law, walked.
-/
import Derived.Test.YtdipieplmmhnhaaSpJn
namespace Go.Proofs.Ytdipieplmmhnhaa
set_option linter.unusedVariables false
set_option linter.unusedSimpArgs false
open Go.RowKit

theorem three_allocs (w : World) (c0 c1 c2 : List Value) (t0 t1 t2 : TypeId) : Blk (((w.alloc (.cells c0.toArray t0)).alloc (.cells c1.toArray t1)).alloc (.cells c2.toArray t2)) w.heap.size t0 c0 ∧ Blk (((w.alloc (.cells c0.toArray t0)).alloc (.cells c1.toArray t1)).alloc (.cells c2.toArray t2)) (w.heap.size + 1) t1 c1 ∧
    Blk (((w.alloc (.cells c0.toArray t0)).alloc (.cells c1.toArray t1)).alloc (.cells c2.toArray t2)) (w.heap.size + 1 + 1) t2 c2 ∧ (((w.alloc (.cells c0.toArray t0)).alloc (.cells c1.toArray t1)).alloc (.cells c2.toArray t2)).heap.size = w.heap.size + 1 + 1 + 1 ∧ Keeps (fun _ => False) w (((w.alloc (.cells c0.toArray t0)).alloc (.cells c1.toArray t1)).alloc (.cells c2.toArray t2)) := by
  obtain ⟨h0, h1, hz, hk⟩ := two_allocs w c0 c1 t0 t1
  have h2 := Blk.new ((w.alloc (.cells c0.toArray t0)).alloc (.cells c1.toArray t1)) t2 c2
  rw [hz] at h2
  exact ⟨h0.alloc _, h1.alloc _, h2, by simp, hk.alloc _⟩

theorem twoj_v (par : Bool) (w : World) (q : Nat) (vx vy : Value) (tx ty : Sp.T) (hq : w.cell? ⟨q, 0, none⟩ = some (.int .i64 (if par then 3 else 2))) (hx : IsT tx vx w) (hy : IsT ty vy w) :
    Calls Try.prog 26 #[vx, vy, .pointer (some ⟨q, 0, none⟩)] w fun e w' => ∃ v, e = .returned v ∧ IsT (.two par tx ty) v w' ∧ Below w.heap.size w w' := by
  obtain ⟨xs, rfl, h1⟩ := hx
  obtain ⟨ys, rfl, h2⟩ := hy
  exact twoj_any par w q xs ys tx ty hq h1 h2
theorem TmR.spare {B : Nat} {w w' : World} {cs : List Value} {t : Sp.T} {S : Nat → Prop} (h : TmR B w cs t) (hs : ∀ g, S g → ∀ o, 5 ≤ o → w.cell? ⟨g, o, none⟩ = none) (k : Keeps S w w') : TmR B w' cs t := by
  induction h with
  | nil k c b l A n cap h1 h2 h3 h4 => exact .nil k c b l A n cap h1 h2 h3 h4
  | one c b l A n cap h1 h2 => exact .one c b l A n cap h1 h2
  | two par c b l g o n cap cs0 cs1 t0 t1 h1 h2 h3 h4 h5 h6 r0 r1 i0 i1 =>
    have hg : ¬ S g := fun hg => by
      obtain ⟨_, _, _, _, _, _, _, rfl, _, _⟩ := r1.form
      have := h6 4 _ rfl
      rw [hs g hg _ (by omega)] at this
      cases this
    exact .two par c b l g o n cap cs0 cs1 t0 t1 h1 h2 h3 h4 (fun j u hu => k.cell (h5 j u hu) hg) (fun j u hu => k.cell (h6 j u hu) hg) i0 i1

def FL (l : List Sp.Acc) : Fact (fun w w' => Below w.heap.size w w') := ⟨fun v w => SlV w 3 v l.length (Sp.acccs l), fun _ _ _ h k => h.below k⟩

set_option maxRecDepth 100000 in
set_option maxHeartbeats 16000000 in
theorem spJoins_walk (w : World) (csa csb csc : List Value) (ta tb tc : Sp.T) (par : Bool) (i j : Int) (hTa : TmR w.heap.size w csa ta) (hTb : TmR w.heap.size w csb tb) (hTc : TmR w.heap.size w csc tc) (hn : ta.size + tb.size + tc.size ≤ 4194304) :
    Calls Try.prog 12 #[.agg csa.toArray, .agg csb.toArray, .agg csc.toArray, .bool par, .int .i64 i, .int .i64 j] w fun e w' => e = .returned (.bool true) ∧ Below w.heap.size w w' := by
  obtain ⟨a0, a1, a2, a3, A4, a5, a6, rfl, -, -⟩ := hTa.form
  obtain ⟨b0, b1, b2, b3, B4, b5, b6, rfl, -, -⟩ := hTb.form
  obtain ⟨c0, c1, c2, c3, C4, c5, c6, rfl, -, -⟩ := hTc.form
  unfold tcells at hTa hTb hTc ⊢
  obtain ⟨x0, x1, x2, hz, hk0⟩ := three_allocs w [Value.int .i64 a0, .int .i64 a1, .bool a2, .int .i64 a3, .slice A4 a5 a6] [Value.int .i64 b0, .int .i64 b1, .bool b2, .int .i64 b3, .slice B4 b5 b6] [Value.int .i64 c0, .int .i64 c1, .bool c2, .int .i64 c3, .slice C4 c5 c6] 26 26 26
  have hb0 := hk0.below (Nat.le_refl _) (fun i h => h.elim)
  go_enter Try.func12, Try.ntmps12
  go_wp2_with fail
  obtain ⟨qa, hqa⟩ : ∃ q, q = w.heap.size := ⟨_, rfl⟩
  generalize (((w.alloc (.cells [Value.int .i64 a0, .int .i64 a1, .bool a2, .int .i64 a3, .slice A4 a5 a6].toArray 26)).alloc (.cells [Value.int .i64 b0, .int .i64 b1, .bool b2, .int .i64 b3, .slice B4 b5 b6].toArray 26)).alloc (.cells [Value.int .i64 c0, .int .i64 c1, .bool c2, .int .i64 c3, .slice C4 c5 c6].toArray 26)) = W0 at x0 x1 x2 hz hk0 hb0 ⊢
  rw [← hqa] at x0 x1 x2 hz ⊢
  refine (alive4_any _).mono ?_
  rintro e w1 ⟨rfl, hb1⟩
  have y0 := x0.below hb1
  have y1 := x1.below hb1
  have y2 := x2.below hb1
  have hbw := below_next hb1 hb0
  have ra := tm_up (hTa.later hbw) hbw.size
  have rb := tm_up (hTb.later hbw) hbw.size
  have rc := tm_up (hTc.later hbw) hbw.size
  have hq3 : qa + 1 + 1 < w1.heap.size := y2.lt
  obtain ⟨qb, hqb⟩ : ∃ k, k = qa + 1 := ⟨_, rfl⟩
  obtain ⟨qc, hqc⟩ : ∃ k, k = qb + 1 := ⟨_, rfl⟩
  rw [← hqb] at y1 y2 hq3
  rw [← hqc] at y2 hq3
  simp only [← hqb, ← hqc]
  have hqa3 : qa < w1.heap.size := by omega
  have hqb3 : qb < w1.heap.size := by omega
  have HQ := Lib.hid hqa
  clear x0 x1 x2 hz hk0 hb0 hb1 hTa hTb hTc hqb hqc hqa
  rcases par with _ | _
  · have hB2 := Blk.new w1 3 [.int .i64 2]
    have hbk : Below w1.heap.size w1 (w1.alloc (.cells [Value.int .i64 2].toArray 3)) := below_alloc (Below.refl _ _) _
    go_wp2_with fail
    obtain ⟨qk, hqk⟩ : ∃ k, k = w1.heap.size := ⟨_, rfl⟩
    generalize w1.alloc (.cells [Value.int .i64 2].toArray 3) = W at hB2 hbk ⊢
    rw [← hqk] at hB2 ⊢
    clear hqk
    have hbwW := below_next hbk hbw
    have hsW : w1.heap.size ≤ W.heap.size := hbk.size
    have z0 := y0.below hbk
    have z1 := y1.below hbk
    have z2 := y2.below hbk
    have keepS : ∀ w', Below W.heap.size W w' → (Below W.heap.size W w' ∧ w'.cell? ⟨qa, 0, none⟩ = some (.int .i64 a0) ∧ w'.cell? ⟨qa, 1, none⟩ = some (.int .i64 a1) ∧ w'.cell? ⟨qa, 2, none⟩ = some (.bool a2) ∧ w'.cell? ⟨qa, 3, none⟩ = some (.int .i64 a3) ∧ w'.cell? ⟨qa, 4, none⟩ = some (.slice A4 a5 a6) ∧ w'.cell? ⟨qb, 0, none⟩ = some (.int .i64 b0) ∧ w'.cell? ⟨qb, 1, none⟩ = some (.int .i64 b1) ∧ w'.cell? ⟨qb, 2, none⟩ = some (.bool b2) ∧ w'.cell? ⟨qb, 3, none⟩ = some (.int .i64 b3) ∧ w'.cell? ⟨qb, 4, none⟩ = some (.slice B4 b5 b6) ∧ w'.cell? ⟨qc, 0, none⟩ = some (.int .i64 c0) ∧ w'.cell? ⟨qc, 1, none⟩ = some (.int .i64 c1) ∧ w'.cell? ⟨qc, 2, none⟩ = some (.bool c2) ∧ w'.cell? ⟨qc, 3, none⟩ = some (.int .i64 c3) ∧ w'.cell? ⟨qc, 4, none⟩ = some (.slice C4 c5 c6)) := fun w' hb =>
      ⟨hb, by rw [(z0.below hb).cell]; rfl, by rw [(z0.below hb).cell]; rfl, by rw [(z0.below hb).cell]; rfl, by rw [(z0.below hb).cell]; rfl, by rw [(z0.below hb).cell]; rfl, by rw [(z1.below hb).cell]; rfl, by rw [(z1.below hb).cell]; rfl, by rw [(z1.below hb).cell]; rfl, by rw [(z1.below hb).cell]; rfl, by rw [(z1.below hb).cell]; rfl, by rw [(z2.below hb).cell]; rfl, by rw [(z2.below hb).cell]; rfl, by rw [(z2.below hb).cell]; rfl, by rw [(z2.below hb).cell]; rfl, by rw [(z2.below hb).cell]; rfl⟩
    have tA : ∀ w', Below W.heap.size W w' → TmR w'.heap.size w' [Value.int .i64 a0, .int .i64 a1, .bool a2, .int .i64 a3, .slice A4 a5 a6] ta := fun w' hb => tm_up (ra.later (below_next hb hbk)) (Nat.le_trans hsW hb.size)
    have tB : ∀ w', Below W.heap.size W w' → TmR w'.heap.size w' [Value.int .i64 b0, .int .i64 b1, .bool b2, .int .i64 b3, .slice B4 b5 b6] tb := fun w' hb => tm_up (rb.later (below_next hb hbk)) (Nat.le_trans hsW hb.size)
    have tC : ∀ w', Below W.heap.size W w' → TmR w'.heap.size w' [Value.int .i64 c0, .int .i64 c1, .bool c2, .int .i64 c3, .slice C4 c5 c6] tc := fun w' hb => tm_up (rc.later (below_next hb hbk)) (Nat.le_trans hsW hb.size)
    have two : ∀ (w' : World) (vx vy : Value) (tx ty : Sp.T), Below W.heap.size W w' → IsT tx vx w' → IsT ty vy w' → Calls Try.prog 26 #[vx, vy, .pointer (some ⟨qk, 0, none⟩)] w' fun e w'' => ∃ v, e = .returned v ∧ IsT (.two false tx ty) v w'' ∧ Below w'.heap.size w' w'' := fun w' vx vy tx ty hb hx hy => twoj_v false w' qk vx vy tx ty (by rw [(hB2.below hb).cell]; rfl) hx hy
    have hS0 := keepS _ (below_drew (Below.refl _ _))
    clear z0 z1 z2 y0 y1 y2 ra rb rc hB2 hbk hbw hsW
    refine wp_walk_tail 16 (by kernel_rfl) (by kernel_rfl) (fun w w' => Below w.heap.size w w') (fun w' => Below W.heap.size W w' ∧ w'.cell? ⟨qa, 0, none⟩ = some (.int .i64 a0) ∧ w'.cell? ⟨qa, 1, none⟩ = some (.int .i64 a1) ∧ w'.cell? ⟨qa, 2, none⟩ = some (.bool a2) ∧ w'.cell? ⟨qa, 3, none⟩ = some (.int .i64 a3) ∧ w'.cell? ⟨qa, 4, none⟩ = some (.slice A4 a5 a6) ∧ w'.cell? ⟨qb, 0, none⟩ = some (.int .i64 b0) ∧ w'.cell? ⟨qb, 1, none⟩ = some (.int .i64 b1) ∧ w'.cell? ⟨qb, 2, none⟩ = some (.bool b2) ∧ w'.cell? ⟨qb, 3, none⟩ = some (.int .i64 b3) ∧ w'.cell? ⟨qb, 4, none⟩ = some (.slice B4 b5 b6) ∧ w'.cell? ⟨qc, 0, none⟩ = some (.int .i64 c0) ∧ w'.cell? ⟨qc, 1, none⟩ = some (.int .i64 c1) ∧ w'.cell? ⟨qc, 2, none⟩ = some (.bool c2) ∧ w'.cell? ⟨qc, 3, none⟩ = some (.int .i64 c3) ∧ w'.cell? ⟨qc, 4, none⟩ = some (.slice C4 c5 c6)) hS0 ?_
    simp only [List.length_cons, List.length_nil, Nat.reduceAdd, Nat.reduceSub, List.take_succ_cons, List.take_zero, List.drop_succ_cons, List.drop_zero]
    repeat (first | (refine settle_skip (fun _ => by rfl) ?_; (simp only [Act.put, List.setIfInBounds_toArray, List.set_cons_zero, List.set_cons_succ])) | (refine' settle_run (fun _ _ => Below.refl _ _) (fun _ => by rfl) ?_ ?_; rotate_left; (focus (intro ρ w hS hF; (try dsimp only at hS); go_split_ands; go_simp; try with_reducible rfl)); (simp only [Act.put, List.setIfInBounds_toArray, List.set_cons_zero, List.set_cons_succ])))
    (refine settle_known (FT (.two false ta tb)) (by rfl) (fun _ => by rfl) ?_ ?_; (focus (intro ρ w hS hF K hK; (simp only [Act.put, List.setIfInBounds_toArray, List.set_cons_zero, List.set_cons_succ] at hK); go_simp; (refine (two _ _ _ _ _ hS.1 ⟨_, rfl, tA _ hS.1⟩ ⟨_, rfl, tB _ hS.1⟩).mono ?_; rintro e w' ⟨v, rfl, hF', hb'⟩; exact hK _ _ hF' (keepS _ (below_next hb' hS.1)) hb'))); (simp only [Act.put, List.setIfInBounds_toArray, List.set_cons_zero, List.set_cons_succ]))
    repeat (first | (refine settle_skip (fun _ => by rfl) ?_; (simp only [Act.put, List.setIfInBounds_toArray, List.set_cons_zero, List.set_cons_succ])) | (refine' settle_run (fun _ _ => Below.refl _ _) (fun _ => by rfl) ?_ ?_; rotate_left; (focus (intro ρ w hS hF; (try dsimp only at hS); go_split_ands; go_simp; try with_reducible rfl)); (simp only [Act.put, List.setIfInBounds_toArray, List.set_cons_zero, List.set_cons_succ])))
    (refine settle_known (FT (.two false (.two false ta tb) tc)) (by rfl) (fun _ => by rfl) ?_ ?_; (focus (intro ρ w hS hF K hK; (simp only [Act.put, List.setIfInBounds_toArray, List.set_cons_zero, List.set_cons_succ] at hK); go_simp; (refine (two _ _ _ _ _ hS.1 (hF.1 (by rfl)) ⟨_, rfl, tC _ hS.1⟩).mono ?_; rintro e w' ⟨v, rfl, hF', hb'⟩; exact hK _ _ hF' (keepS _ (below_next hb' hS.1)) hb'))); (simp only [Act.put, List.setIfInBounds_toArray, List.set_cons_zero, List.set_cons_succ]))
    repeat (first | (refine settle_skip (fun _ => by rfl) ?_; (simp only [Act.put, List.setIfInBounds_toArray, List.set_cons_zero, List.set_cons_succ])) | (refine' settle_run (fun _ _ => Below.refl _ _) (fun _ => by rfl) ?_ ?_; rotate_left; (focus (intro ρ w hS hF; (try dsimp only at hS); go_split_ands; go_simp; try with_reducible rfl)); (simp only [Act.put, List.setIfInBounds_toArray, List.set_cons_zero, List.set_cons_succ])))
    (refine settle_known (FT (.two false tb tc)) (by rfl) (fun _ => by rfl) ?_ ?_; (focus (intro ρ w hS hF K hK; (simp only [Act.put, List.setIfInBounds_toArray, List.set_cons_zero, List.set_cons_succ] at hK); go_simp; (refine (two _ _ _ _ _ hS.1 ⟨_, rfl, tB _ hS.1⟩ ⟨_, rfl, tC _ hS.1⟩).mono ?_; rintro e w' ⟨v, rfl, hF', hb'⟩; exact hK _ _ hF' (keepS _ (below_next hb' hS.1)) hb'))); (simp only [Act.put, List.setIfInBounds_toArray, List.set_cons_zero, List.set_cons_succ]))
    repeat (first | (refine settle_skip (fun _ => by rfl) ?_; (simp only [Act.put, List.setIfInBounds_toArray, List.set_cons_zero, List.set_cons_succ])) | (refine' settle_run (fun _ _ => Below.refl _ _) (fun _ => by rfl) ?_ ?_; rotate_left; (focus (intro ρ w hS hF; (try dsimp only at hS); go_split_ands; go_simp; try with_reducible rfl)); (simp only [Act.put, List.setIfInBounds_toArray, List.set_cons_zero, List.set_cons_succ])))
    (refine settle_known (FT (.two false ta (.two false tb tc))) (by rfl) (fun _ => by rfl) ?_ ?_; (focus (intro ρ w hS hF K hK; (simp only [Act.put, List.setIfInBounds_toArray, List.set_cons_zero, List.set_cons_succ] at hK); go_simp; (refine (two _ _ _ _ _ hS.1 ⟨_, rfl, tA _ hS.1⟩ (hF.1 (by rfl))).mono ?_; rintro e w' ⟨v, rfl, hF', hb'⟩; exact hK _ _ hF' (keepS _ (below_next hb' hS.1)) hb'))); (simp only [Act.put, List.setIfInBounds_toArray, List.set_cons_zero, List.set_cons_succ]))
    (refine settle_known (FP W.heap.size) (by rfl) (fun _ => by rfl) ?_ ?_; (focus (intro ρ w hS hF K hK; (simp only [Act.put, List.setIfInBounds_toArray, List.set_cons_zero, List.set_cons_succ] at hK); go_simp; exact hK _ _ ⟨_, rfl, hS.1.size, Blk.new _ _ _⟩ (keepS _ (below_alloc hS.1 _)) (below_alloc (Below.refl _ _) _))); (simp only [Act.put, List.setIfInBounds_toArray, List.set_cons_zero, List.set_cons_succ]))
    (refine settle_known (FP W.heap.size) (by rfl) (fun _ => by rfl) ?_ ?_; (focus (intro ρ w hS hF K hK; (simp only [Act.put, List.setIfInBounds_toArray, List.set_cons_zero, List.set_cons_succ] at hK); go_simp; exact hK _ _ ⟨_, rfl, hS.1.size, Blk.new _ _ _⟩ (keepS _ (below_alloc hS.1 _)) (below_alloc (Below.refl _ _) _))); (simp only [Act.put, List.setIfInBounds_toArray, List.set_cons_zero, List.set_cons_succ]))
    refine settle_nil ?_
    intro ρ w5 hS hF
    obtain ⟨x28, e28, T28⟩ := hF 28 (FT (.two false (.two false ta tb) tc)) (by repeat (first | exact List.mem_cons_self | apply List.mem_cons_of_mem))
    obtain ⟨x35, e35, T35⟩ := hF 35 (FT (.two false ta (.two false tb tc))) (by repeat (first | exact List.mem_cons_self | apply List.mem_cons_of_mem))
    obtain ⟨g15, e15, l15, B15⟩ := hF 15 (FP W.heap.size) (by repeat (first | exact List.mem_cons_self | apply List.mem_cons_of_mem))
    obtain ⟨g16, e16, l16, B16⟩ := hF 16 (FP W.heap.size) (by repeat (first | exact List.mem_cons_self | apply List.mem_cons_of_mem))
    clear hF hS0
    obtain ⟨k0, k1, k2, k3, K4, k5, k6, rfl, -, -⟩ := T28.form
    obtain ⟨y0, y1, y2, y3, Y4, y5, y6, rfl, -, -⟩ := T35.form
    dsimp only
    rw [e28, e35, e15, e16]
    clear e28 e35 e15 e16
    refine wpl_put_blk B15 (tcells k0 k1 k2 k3 K4 k5 k6) (by kernel_rfl) rfl five_one rfl rfl rfl rfl ?_
    intro w6 hB6 hg6
    have kb6 : Below W.heap.size W w6 := hS.1.trans (below_of_grown hg6 hS.1.size l15)
    obtain ⟨z0, z1, z2, z3, Z4, z5, z6, hB16⟩ : ∃ z0 z1 z2 z3 Z4 z5 z6, Blk w6 g16 26 (tcells z0 z1 z2 z3 Z4 z5 z6) := by
      by_cases e : g15 = g16
      · subst e; exact ⟨_, _, _, _, _, _, _, hB6⟩
      · exact ⟨_, _, _, _, _, _, _, B16.grown hg6 (fun h => e (by injection h with h; exact h.symm))⟩
    refine wpl_put_blk hB16 (tcells y0 y1 y2 y3 Y4 y5 y6) (by kernel_rfl) rfl five_one rfl rfl rfl rfl ?_
    intro w7 hB7 hg7
    have kb7 : Below W.heap.size W w7 := kb6.trans (below_of_grown hg7 kb6.size l16)
    have kk : Keeps (fun k => k = g15 ∨ k = g16) w5 w7 := ((Keeps.of_grown hg6).mono (fun i hi => .inl (by injection hi))).trans ((Keeps.of_grown hg7).mono (fun i hi => .inr (by injection hi)))
    have up57 : ∀ cs t, TmR w5.heap.size w5 cs t → TmR w7.heap.size w7 cs t := fun cs t h => tm_up (h.spare (S := fun k => k = g15 ∨ k = g16) (fun g hg o ho => by rcases hg with rfl | rfl; rw [B15.cell]; exact List.getElem?_eq_none ho; rw [B16.cell]; exact List.getElem?_eq_none ho) kk) kk.size
    have TY := up57 _ _ T35
    obtain ⟨u0, u1, u2, u3, U4, u5, u6, tX, hX, TX, hsame⟩ : ∃ u0 u1 u2 u3 U4 u5 u6 tX, Blk w7 g15 26 (tcells u0 u1 u2 u3 U4 u5 u6) ∧ TmR w7.heap.size w7 (tcells u0 u1 u2 u3 U4 u5 u6) tX ∧ tX.same (.two false ta (.two false tb tc)) ∧ tX.ways = (Sp.T.two false ta (.two false tb tc)).ways := by
      by_cases e : g15 = g16
      · subst e
        exact ⟨_, _, _, _, _, _, _, _, hB7, TY, ⟨rfl, fun _ _ => rfl⟩, rfl⟩
      · exact ⟨_, _, _, _, _, _, _, _, hB6.grown hg7 (fun h => e (by injection h)), up57 _ _ T28, Sp.T.same_joins _ _ _ _, Sp.T.ways_joins _ _ _ _⟩
    obtain ⟨hsame, hways⟩ := hsame
    clear up57 T28 T35 kk hB6 hg6 hB16 hg7 B15 B16 kb6 hS
    obtain ⟨tY, htY⟩ : ∃ t, t = Sp.T.two false ta (.two false tb tc) := ⟨_, rfl⟩
    rw [← htY] at TY hsame hways
    have szY : tY.size ≤ 4194304 := by rw [htY, Sp.T.size_two, Sp.T.size_two]; omega
    have HTY := Lib.hid htY
    clear htY
    obtain ⟨-, d0, d1, d2, d3, d4, -⟩ := keepS _ kb7
    have zz : IsT .nil (.agg #[.int .i64 0, .int .i64 0, .bool false, .int .i64 0, .slice none 0 0]) w7 := ⟨_, rfl, .nil 0 0 false 0 none 0 0 (Nat.le_refl _) (Nat.zero_le _) (by omega) (by omega)⟩
    have hcall := two w7 _ _ _ _ kb7 zz ⟨_, rfl, tA _ kb7⟩
    clear zz
    go_wp2_with fail
    refine hcall.mono ?_
    rintro e w8 ⟨v8, rfl, T8, hb8⟩
    have kb8 := below_next hb8 kb7
    have hX8 := hX.below hb8
    have hY8 := hB7.below hb8
    have TX8 := tm_up (TX.later hb8) hb8.size
    have TY8 := tm_up (TY.later hb8) hb8.size
    clear d0 d1 d2 d3 d4 hX TX TY hB7 hb8 kb7 hcall
    have zz : IsT .nil (.agg #[.int .i64 0, .int .i64 0, .bool false, .int .i64 0, .slice none 0 0]) w8 := ⟨_, rfl, .nil 0 0 false 0 none 0 0 (Nat.le_refl _) (Nat.zero_le _) (by omega) (by omega)⟩
    have hcall := two w8 _ _ _ _ kb8 T8 zz
    clear zz
    go_wp2_with fail
    refine hcall.mono ?_
    rintro e w9 ⟨v9, rfl, ⟨cs9, rfl, T9⟩, hb9⟩
    obtain ⟨n0, n1, n2, n3, N4, n5, n6, rfl, -, -⟩ := T9.form
    have kb9 := below_next hb9 kb8
    have hX9 := hX8.below hb9
    have hY9 := hY8.below hb9
    have TX9 := tm_up (TX8.later hb9) hb9.size
    have TY9 := tm_up (TY8.later hb9) hb9.size
    clear hX8 TX8 TY8 hY8 hb9 kb8 hcall T8 two
    unfold tcells at hX9 hY9 TX9 TY9 T9 ⊢
    have hN := Blk.new w9 26 [.int .i64 n0, .int .i64 n1, .bool n2, .int .i64 n3, .slice N4 n5 n6]
    have hbN : Below w9.heap.size w9 (w9.alloc (.cells [Value.int .i64 n0, .int .i64 n1, .bool n2, .int .i64 n3, .slice N4 n5 n6].toArray 26)) := below_alloc (Below.refl _ _) _
    go_wp2_with fail
    obtain ⟨gn, hgn⟩ : ∃ k, k = w9.heap.size := ⟨_, rfl⟩
    generalize w9.alloc (.cells [Value.int .i64 n0, .int .i64 n1, .bool n2, .int .i64 n3, .slice N4 n5 n6].toArray 26) = Z at hN hbN ⊢
    rw [← hgn] at hN ⊢
    have kbZ := below_next hbN kb9
    have hXZ := hX9.below hbN
    have hYZ := hY9.below hbN
    have TXZ := tm_up (TX9.later hbN) hbN.size
    have TYZ := tm_up (TY9.later hbN) hbN.size
    have TNZ := tm_up (T9.later hbN) hbN.size
    clear hgn hX9 hY9 TX9 TY9 T9 hbN kb9
    have keepZ : ∀ w', Below Z.heap.size Z w' → (Below Z.heap.size Z w' ∧ w'.cell? ⟨g15, 0, none⟩ = some (.int .i64 u0) ∧ w'.cell? ⟨g15, 1, none⟩ = some (.int .i64 u1) ∧ w'.cell? ⟨g15, 2, none⟩ = some (.bool u2) ∧ w'.cell? ⟨g15, 3, none⟩ = some (.int .i64 u3) ∧ w'.cell? ⟨g15, 4, none⟩ = some (.slice U4 u5 u6) ∧ w'.cell? ⟨g16, 0, none⟩ = some (.int .i64 y0) ∧ w'.cell? ⟨g16, 1, none⟩ = some (.int .i64 y1) ∧ w'.cell? ⟨g16, 2, none⟩ = some (.bool y2) ∧ w'.cell? ⟨g16, 3, none⟩ = some (.int .i64 y3) ∧ w'.cell? ⟨g16, 4, none⟩ = some (.slice Y4 y5 y6) ∧ w'.cell? ⟨gn, 0, none⟩ = some (.int .i64 n0) ∧ w'.cell? ⟨gn, 1, none⟩ = some (.int .i64 n1) ∧ w'.cell? ⟨gn, 2, none⟩ = some (.bool n2) ∧ w'.cell? ⟨gn, 3, none⟩ = some (.int .i64 n3) ∧ w'.cell? ⟨gn, 4, none⟩ = some (.slice N4 n5 n6) ∧ w'.cell? ⟨qa, 0, none⟩ = some (.int .i64 a0) ∧ w'.cell? ⟨qa, 1, none⟩ = some (.int .i64 a1) ∧ w'.cell? ⟨qa, 2, none⟩ = some (.bool a2) ∧ w'.cell? ⟨qa, 3, none⟩ = some (.int .i64 a3) ∧ w'.cell? ⟨qa, 4, none⟩ = some (.slice A4 a5 a6)) := fun w' hb =>
      ⟨hb, by rw [(hXZ.below hb).cell]; rfl, by rw [(hXZ.below hb).cell]; rfl, by rw [(hXZ.below hb).cell]; rfl, by rw [(hXZ.below hb).cell]; rfl, by rw [(hXZ.below hb).cell]; rfl, by rw [(hYZ.below hb).cell]; rfl, by rw [(hYZ.below hb).cell]; rfl, by rw [(hYZ.below hb).cell]; rfl, by rw [(hYZ.below hb).cell]; rfl, by rw [(hYZ.below hb).cell]; rfl, by rw [(hN.below hb).cell]; rfl, by rw [(hN.below hb).cell]; rfl, by rw [(hN.below hb).cell]; rfl, by rw [(hN.below hb).cell]; rfl, by rw [(hN.below hb).cell]; rfl, (keepS _ (below_next hb kbZ)).2.1, (keepS _ (below_next hb kbZ)).2.2.1, (keepS _ (below_next hb kbZ)).2.2.2.1, (keepS _ (below_next hb kbZ)).2.2.2.2.1, (keepS _ (below_next hb kbZ)).2.2.2.2.2.1⟩
    have up : ∀ w', Below Z.heap.size Z w' → ∀ cs t, TmR Z.heap.size Z cs t → TmR w'.heap.size w' cs t := fun w' hb cs t h => tm_up (h.later hb) hb.size
    have szX : tX.size ≤ 4194304 := by rw [Sp.T.same_size hsame]; exact szY
    have sN := Sp.T.same_none false ta
    have szN : (Sp.T.two false (.two false .nil ta) .nil).size ≤ 4194304 := by rw [Sp.T.same_size sN]; omega
    have szA : ta.size ≤ 4194304 := by omega
    have gB : ∀ w' (x : List Value) (z : Bool), Below Z.heap.size Z w' → ((x = [.int .i64 u0, .int .i64 u1, .bool u2, .int .i64 u3, .slice U4 u5 u6] ∧ z = tX.before i j) ∨ (x = [.int .i64 y0, .int .i64 y1, .bool y2, .int .i64 y3, .slice Y4 y5 y6] ∧ z = tX.before i j) ∨ (x = [.int .i64 n0, .int .i64 n1, .bool n2, .int .i64 n3, .slice N4 n5 n6] ∧ z = ta.before i j) ∨ (x = [Value.int .i64 a0, .int .i64 a1, .bool a2, .int .i64 a3, .slice A4 a5 a6] ∧ z = ta.before i j)) → Calls Try.prog 24 #[.agg x.toArray, .int .i64 i, .int .i64 j] w' fun e w'' => e = .returned (.bool z) ∧ ((Below Z.heap.size Z w'' ∧ w''.cell? ⟨g15, 0, none⟩ = some (.int .i64 u0) ∧ w''.cell? ⟨g15, 1, none⟩ = some (.int .i64 u1) ∧ w''.cell? ⟨g15, 2, none⟩ = some (.bool u2) ∧ w''.cell? ⟨g15, 3, none⟩ = some (.int .i64 u3) ∧ w''.cell? ⟨g15, 4, none⟩ = some (.slice U4 u5 u6) ∧ w''.cell? ⟨g16, 0, none⟩ = some (.int .i64 y0) ∧ w''.cell? ⟨g16, 1, none⟩ = some (.int .i64 y1) ∧ w''.cell? ⟨g16, 2, none⟩ = some (.bool y2) ∧ w''.cell? ⟨g16, 3, none⟩ = some (.int .i64 y3) ∧ w''.cell? ⟨g16, 4, none⟩ = some (.slice Y4 y5 y6) ∧ w''.cell? ⟨gn, 0, none⟩ = some (.int .i64 n0) ∧ w''.cell? ⟨gn, 1, none⟩ = some (.int .i64 n1) ∧ w''.cell? ⟨gn, 2, none⟩ = some (.bool n2) ∧ w''.cell? ⟨gn, 3, none⟩ = some (.int .i64 n3) ∧ w''.cell? ⟨gn, 4, none⟩ = some (.slice N4 n5 n6) ∧ w''.cell? ⟨qa, 0, none⟩ = some (.int .i64 a0) ∧ w''.cell? ⟨qa, 1, none⟩ = some (.int .i64 a1) ∧ w''.cell? ⟨qa, 2, none⟩ = some (.bool a2) ∧ w''.cell? ⟨qa, 3, none⟩ = some (.int .i64 a3) ∧ w''.cell? ⟨qa, 4, none⟩ = some (.slice A4 a5 a6)) ∧ Below w'.heap.size w' w'') := fun w' x z hb hx => by
      rcases hx with ⟨rfl, rfl⟩ | ⟨rfl, rfl⟩ | ⟨rfl, rfl⟩ | ⟨rfl, rfl⟩
      · exact (before_any w' _ tX i j (up w' hb _ _ TXZ) szX).mono fun e w'' h => ⟨h.1, keepZ _ (below_next h.2 hb), h.2⟩
      · exact (before_any w' _ tY i j (up w' hb _ _ TYZ) szY).mono fun e w'' h => ⟨h.1.trans (ret_bool (Sp.T.same_before hsame i j).symm), keepZ _ (below_next h.2 hb), h.2⟩
      · exact (before_any w' _ _ i j (up w' hb _ _ TNZ) szN).mono fun e w'' h => ⟨h.1.trans (ret_bool (Sp.T.same_before sN i j)), keepZ _ (below_next h.2 hb), h.2⟩
      · exact (before_any w' _ ta i j (tA _ (below_next hb kbZ)) szA).mono fun e w'' h => ⟨h.1, keepZ _ (below_next h.2 hb), h.2⟩
    have gC : ∀ w' (x : List Value) (z : Int), Below Z.heap.size Z w' → ((x = [.int .i64 u0, .int .i64 u1, .bool u2, .int .i64 u3, .slice U4 u5 u6] ∧ z = Sp.u64 tX.ways) ∨ (x = [.int .i64 y0, .int .i64 y1, .bool y2, .int .i64 y3, .slice Y4 y5 y6] ∧ z = Sp.u64 tX.ways) ∨ (x = [.int .i64 n0, .int .i64 n1, .bool n2, .int .i64 n3, .slice N4 n5 n6] ∧ z = Sp.u64 ta.ways) ∨ (x = [Value.int .i64 a0, .int .i64 a1, .bool a2, .int .i64 a3, .slice A4 a5 a6] ∧ z = Sp.u64 ta.ways)) → Calls Try.prog 28 #[.agg x.toArray] w' fun e w'' => e = .returned (.int .u64 z) ∧ ((Below Z.heap.size Z w'' ∧ w''.cell? ⟨g15, 0, none⟩ = some (.int .i64 u0) ∧ w''.cell? ⟨g15, 1, none⟩ = some (.int .i64 u1) ∧ w''.cell? ⟨g15, 2, none⟩ = some (.bool u2) ∧ w''.cell? ⟨g15, 3, none⟩ = some (.int .i64 u3) ∧ w''.cell? ⟨g15, 4, none⟩ = some (.slice U4 u5 u6) ∧ w''.cell? ⟨g16, 0, none⟩ = some (.int .i64 y0) ∧ w''.cell? ⟨g16, 1, none⟩ = some (.int .i64 y1) ∧ w''.cell? ⟨g16, 2, none⟩ = some (.bool y2) ∧ w''.cell? ⟨g16, 3, none⟩ = some (.int .i64 y3) ∧ w''.cell? ⟨g16, 4, none⟩ = some (.slice Y4 y5 y6) ∧ w''.cell? ⟨gn, 0, none⟩ = some (.int .i64 n0) ∧ w''.cell? ⟨gn, 1, none⟩ = some (.int .i64 n1) ∧ w''.cell? ⟨gn, 2, none⟩ = some (.bool n2) ∧ w''.cell? ⟨gn, 3, none⟩ = some (.int .i64 n3) ∧ w''.cell? ⟨gn, 4, none⟩ = some (.slice N4 n5 n6) ∧ w''.cell? ⟨qa, 0, none⟩ = some (.int .i64 a0) ∧ w''.cell? ⟨qa, 1, none⟩ = some (.int .i64 a1) ∧ w''.cell? ⟨qa, 2, none⟩ = some (.bool a2) ∧ w''.cell? ⟨qa, 3, none⟩ = some (.int .i64 a3) ∧ w''.cell? ⟨qa, 4, none⟩ = some (.slice A4 a5 a6)) ∧ Below w'.heap.size w' w'') := fun w' x z hb hx => by
      rcases hx with ⟨rfl, rfl⟩ | ⟨rfl, rfl⟩ | ⟨rfl, rfl⟩ | ⟨rfl, rfl⟩
      · exact (count_any w' _ tX (up w' hb _ _ TXZ) szX).mono fun e w'' h => ⟨h.1, keepZ _ (below_next h.2 hb), h.2⟩
      · exact (count_any w' _ tY (up w' hb _ _ TYZ) szY).mono fun e w'' h => ⟨h.1.trans (by rw [hways]), keepZ _ (below_next h.2 hb), h.2⟩
      · exact (count_any w' _ _ (up w' hb _ _ TNZ) szN).mono fun e w'' h => ⟨h.1.trans (by rw [Sp.T.ways_none]), keepZ _ (below_next h.2 hb), h.2⟩
      · exact (count_any w' _ ta (tA _ (below_next hb kbZ)) szA).mono fun e w'' h => ⟨h.1, keepZ _ (below_next h.2 hb), h.2⟩
    obtain ⟨lv, hlv⟩ : ∃ l, l = tX.leaves := ⟨_, rfl⟩
    have gX : ∀ w', Below Z.heap.size Z w' → Calls Try.prog 23 #[.agg [.int .i64 u0, .int .i64 u1, .bool u2, .int .i64 u3, .slice U4 u5 u6].toArray] w' fun e w'' => ∃ v, e = .returned v ∧ SlV w'' 3 v lv.length (Sp.acccs lv) ∧ Below w'.heap.size w' w'' := fun w' hb => by
      subst hlv; exact leaves_any w' _ tX (up w' hb _ _ TXZ) szX
    have gY : ∀ w', Below Z.heap.size Z w' → Calls Try.prog 23 #[.agg [.int .i64 y0, .int .i64 y1, .bool y2, .int .i64 y3, .slice Y4 y5 y6].toArray] w' fun e w'' => ∃ v, e = .returned v ∧ SlV w'' 3 v lv.length (Sp.acccs lv) ∧ Below w'.heap.size w' w'' := fun w' hb => by
      subst hlv; rw [hsame.1]; exact leaves_any w' _ tY (up w' hb _ _ TYZ) szY
    have gE : ∀ w' v v', SlV w' 3 v lv.length (Sp.acccs lv) → SlV w' 3 v' lv.length (Sp.acccs lv) → Calls Try.prog 27 #[v, v'] w' fun e w'' => e = .returned (.bool true) ∧ ∃ m, w'' = w'.drewN m := fun w' v v' h h' => (equal_accs v v' lv lv w' h h').mono fun e w'' hh => ⟨hh.1.trans (ret_bool (by simp)), hh.2⟩
    obtain ⟨bx, hbx⟩ : ∃ b, b = tX.before i j := ⟨_, rfl⟩
    obtain ⟨ba, hba⟩ : ∃ b, b = ta.before i j := ⟨_, rfl⟩
    obtain ⟨wx, hwx⟩ : ∃ b, b = Sp.u64 tX.ways := ⟨_, rfl⟩
    obtain ⟨wa, hwa⟩ : ∃ b, b = Sp.u64 ta.ways := ⟨_, rfl⟩
    rw [← hbx, ← hba] at gB
    rw [← hwx, ← hwa] at gC
    have hS9 := keepZ _ (below_drew (Below.refl _ _))
    clear hbx hba hwx hwa hlv up szX szY szN szA sN hsame hways TXZ TYZ TNZ hXZ hYZ hN tA tB tC keepS HTY hn
    refine wp_walk (by kernel_rfl) (by kernel_rfl) (fun w w' => Below w.heap.size w w') (fun w' => Below Z.heap.size Z w' ∧ w'.cell? ⟨g15, 0, none⟩ = some (.int .i64 u0) ∧ w'.cell? ⟨g15, 1, none⟩ = some (.int .i64 u1) ∧ w'.cell? ⟨g15, 2, none⟩ = some (.bool u2) ∧ w'.cell? ⟨g15, 3, none⟩ = some (.int .i64 u3) ∧ w'.cell? ⟨g15, 4, none⟩ = some (.slice U4 u5 u6) ∧ w'.cell? ⟨g16, 0, none⟩ = some (.int .i64 y0) ∧ w'.cell? ⟨g16, 1, none⟩ = some (.int .i64 y1) ∧ w'.cell? ⟨g16, 2, none⟩ = some (.bool y2) ∧ w'.cell? ⟨g16, 3, none⟩ = some (.int .i64 y3) ∧ w'.cell? ⟨g16, 4, none⟩ = some (.slice Y4 y5 y6) ∧ w'.cell? ⟨gn, 0, none⟩ = some (.int .i64 n0) ∧ w'.cell? ⟨gn, 1, none⟩ = some (.int .i64 n1) ∧ w'.cell? ⟨gn, 2, none⟩ = some (.bool n2) ∧ w'.cell? ⟨gn, 3, none⟩ = some (.int .i64 n3) ∧ w'.cell? ⟨gn, 4, none⟩ = some (.slice N4 n5 n6) ∧ w'.cell? ⟨qa, 0, none⟩ = some (.int .i64 a0) ∧ w'.cell? ⟨qa, 1, none⟩ = some (.int .i64 a1) ∧ w'.cell? ⟨qa, 2, none⟩ = some (.bool a2) ∧ w'.cell? ⟨qa, 3, none⟩ = some (.int .i64 a3) ∧ w'.cell? ⟨qa, 4, none⟩ = some (.slice A4 a5 a6)) hS9 ?_
    repeat (first | (refine settle_skip (fun _ => by rfl) ?_; (simp only [Act.put, List.setIfInBounds_toArray, List.set_cons_zero, List.set_cons_succ])) | (refine' settle_run (fun _ _ => Below.refl _ _) (fun _ => by rfl) ?_ ?_; rotate_left; (focus (intro ρ w hS hF; (try dsimp only at hS); go_split_ands; go_simp; try with_reducible rfl)); (simp only [Act.put, List.setIfInBounds_toArray, List.set_cons_zero, List.set_cons_succ])) | (refine' settle_step (fun _ => by rfl) ?_ ?_; rotate_left; (focus (intro ρ w hS hF K hK; (simp only [Act.put, List.setIfInBounds_toArray, List.set_cons_zero, List.set_cons_succ] at hK); go_simp; first | (go_at_call 24; refine (gB _ _ _ hS.1 (by first | exact .inl ⟨rfl, rfl⟩ | exact .inr (.inl ⟨rfl, rfl⟩) | exact .inr (.inr (.inl ⟨rfl, rfl⟩)) | exact .inr (.inr (.inr ⟨rfl, rfl⟩)))).mono ?_; rintro e w' ⟨rfl, hS', hE'⟩; exact hK _ hS' hE') | (go_at_call 28; refine (gC _ _ _ hS.1 (by first | exact .inl ⟨rfl, rfl⟩ | exact .inr (.inl ⟨rfl, rfl⟩) | exact .inr (.inr (.inl ⟨rfl, rfl⟩)) | exact .inr (.inr (.inr ⟨rfl, rfl⟩)))).mono ?_; rintro e w' ⟨rfl, hS', hE'⟩; exact hK _ hS' hE') | (go_at_call 27; refine (gE _ _ _ (hF.2.1 (by rfl)) (hF.1 (by rfl))).mono ?_; rintro e w' ⟨rfl, m, rfl⟩; have hS' := keepZ _ (below_drewN hS.1 m); have hE' := below_drewN (Below.refl w.heap.size w) m; exact hK _ hS' hE'))); (simp only [Act.put, List.setIfInBounds_toArray, List.set_cons_zero, List.set_cons_succ])))
    (refine settle_known (FL lv) (by rfl) (fun _ => by rfl) ?_ ?_; (focus (intro ρ w hS hF K hK; (simp only [Act.put, List.setIfInBounds_toArray, List.set_cons_zero, List.set_cons_succ] at hK); go_simp; (refine (gX _ hS.1).mono ?_; rintro e w' ⟨v, rfl, hF', hb'⟩; exact hK _ _ hF' (keepZ _ (below_next hb' hS.1)) hb'))); (simp only [Act.put, List.setIfInBounds_toArray, List.set_cons_zero, List.set_cons_succ]))
    repeat (first | (refine settle_skip (fun _ => by rfl) ?_; (simp only [Act.put, List.setIfInBounds_toArray, List.set_cons_zero, List.set_cons_succ])) | (refine' settle_run (fun _ _ => Below.refl _ _) (fun _ => by rfl) ?_ ?_; rotate_left; (focus (intro ρ w hS hF; (try dsimp only at hS); go_split_ands; go_simp; try with_reducible rfl)); (simp only [Act.put, List.setIfInBounds_toArray, List.set_cons_zero, List.set_cons_succ])) | (refine' settle_step (fun _ => by rfl) ?_ ?_; rotate_left; (focus (intro ρ w hS hF K hK; (simp only [Act.put, List.setIfInBounds_toArray, List.set_cons_zero, List.set_cons_succ] at hK); go_simp; first | (go_at_call 24; refine (gB _ _ _ hS.1 (by first | exact .inl ⟨rfl, rfl⟩ | exact .inr (.inl ⟨rfl, rfl⟩) | exact .inr (.inr (.inl ⟨rfl, rfl⟩)) | exact .inr (.inr (.inr ⟨rfl, rfl⟩)))).mono ?_; rintro e w' ⟨rfl, hS', hE'⟩; exact hK _ hS' hE') | (go_at_call 28; refine (gC _ _ _ hS.1 (by first | exact .inl ⟨rfl, rfl⟩ | exact .inr (.inl ⟨rfl, rfl⟩) | exact .inr (.inr (.inl ⟨rfl, rfl⟩)) | exact .inr (.inr (.inr ⟨rfl, rfl⟩)))).mono ?_; rintro e w' ⟨rfl, hS', hE'⟩; exact hK _ hS' hE') | (go_at_call 27; refine (gE _ _ _ (hF.2.1 (by rfl)) (hF.1 (by rfl))).mono ?_; rintro e w' ⟨rfl, m, rfl⟩; have hS' := keepZ _ (below_drewN hS.1 m); have hE' := below_drewN (Below.refl w.heap.size w) m; exact hK _ hS' hE'))); (simp only [Act.put, List.setIfInBounds_toArray, List.set_cons_zero, List.set_cons_succ])))
    (refine settle_known (FL lv) (by rfl) (fun _ => by rfl) ?_ ?_; (focus (intro ρ w hS hF K hK; (simp only [Act.put, List.setIfInBounds_toArray, List.set_cons_zero, List.set_cons_succ] at hK); go_simp; (refine (gY _ hS.1).mono ?_; rintro e w' ⟨v, rfl, hF', hb'⟩; exact hK _ _ hF' (keepZ _ (below_next hb' hS.1)) hb'))); (simp only [Act.put, List.setIfInBounds_toArray, List.set_cons_zero, List.set_cons_succ]))
    repeat (first | (refine settle_skip (fun _ => by rfl) ?_; (simp only [Act.put, List.setIfInBounds_toArray, List.set_cons_zero, List.set_cons_succ])) | (refine' settle_run (fun _ _ => Below.refl _ _) (fun _ => by rfl) ?_ ?_; rotate_left; (focus (intro ρ w hS hF; (try dsimp only at hS); go_split_ands; go_simp; try with_reducible rfl)); (simp only [Act.put, List.setIfInBounds_toArray, List.set_cons_zero, List.set_cons_succ])) | (refine' settle_step (fun _ => by rfl) ?_ ?_; rotate_left; (focus (intro ρ w hS hF K hK; (simp only [Act.put, List.setIfInBounds_toArray, List.set_cons_zero, List.set_cons_succ] at hK); go_simp; first | (go_at_call 24; refine (gB _ _ _ hS.1 (by first | exact .inl ⟨rfl, rfl⟩ | exact .inr (.inl ⟨rfl, rfl⟩) | exact .inr (.inr (.inl ⟨rfl, rfl⟩)) | exact .inr (.inr (.inr ⟨rfl, rfl⟩)))).mono ?_; rintro e w' ⟨rfl, hS', hE'⟩; exact hK _ hS' hE') | (go_at_call 28; refine (gC _ _ _ hS.1 (by first | exact .inl ⟨rfl, rfl⟩ | exact .inr (.inl ⟨rfl, rfl⟩) | exact .inr (.inr (.inl ⟨rfl, rfl⟩)) | exact .inr (.inr (.inr ⟨rfl, rfl⟩)))).mono ?_; rintro e w' ⟨rfl, hS', hE'⟩; exact hK _ hS' hE') | (go_at_call 27; refine (gE _ _ _ (hF.2.1 (by rfl)) (hF.1 (by rfl))).mono ?_; rintro e w' ⟨rfl, m, rfl⟩; have hS' := keepZ _ (below_drewN hS.1 m); have hE' := below_drewN (Below.refl w.heap.size w) m; exact hK _ hS' hE'))); (simp only [Act.put, List.setIfInBounds_toArray, List.set_cons_zero, List.set_cons_succ])))
    refine settle_nil ?_
    intro ρ wE hS _
    have hbE := below_self hbwW (below_next hS.1 kbZ)
    clear gB gC gX gY gE keepZ hS hS9 kbZ
    go_wp2
    go_ret
    exact ⟨rfl, hbE⟩
  · have hB2 := Blk.new w1 3 [.int .i64 3]
    have hbk : Below w1.heap.size w1 (w1.alloc (.cells [Value.int .i64 3].toArray 3)) := below_alloc (Below.refl _ _) _
    go_wp2_with fail
    obtain ⟨qk, hqk⟩ : ∃ k, k = w1.heap.size := ⟨_, rfl⟩
    generalize w1.alloc (.cells [Value.int .i64 3].toArray 3) = W at hB2 hbk ⊢
    rw [← hqk] at hB2 ⊢
    clear hqk
    have hbwW := below_next hbk hbw
    have hsW : w1.heap.size ≤ W.heap.size := hbk.size
    have z0 := y0.below hbk
    have z1 := y1.below hbk
    have z2 := y2.below hbk
    have keepS : ∀ w', Below W.heap.size W w' → (Below W.heap.size W w' ∧ w'.cell? ⟨qa, 0, none⟩ = some (.int .i64 a0) ∧ w'.cell? ⟨qa, 1, none⟩ = some (.int .i64 a1) ∧ w'.cell? ⟨qa, 2, none⟩ = some (.bool a2) ∧ w'.cell? ⟨qa, 3, none⟩ = some (.int .i64 a3) ∧ w'.cell? ⟨qa, 4, none⟩ = some (.slice A4 a5 a6) ∧ w'.cell? ⟨qb, 0, none⟩ = some (.int .i64 b0) ∧ w'.cell? ⟨qb, 1, none⟩ = some (.int .i64 b1) ∧ w'.cell? ⟨qb, 2, none⟩ = some (.bool b2) ∧ w'.cell? ⟨qb, 3, none⟩ = some (.int .i64 b3) ∧ w'.cell? ⟨qb, 4, none⟩ = some (.slice B4 b5 b6) ∧ w'.cell? ⟨qc, 0, none⟩ = some (.int .i64 c0) ∧ w'.cell? ⟨qc, 1, none⟩ = some (.int .i64 c1) ∧ w'.cell? ⟨qc, 2, none⟩ = some (.bool c2) ∧ w'.cell? ⟨qc, 3, none⟩ = some (.int .i64 c3) ∧ w'.cell? ⟨qc, 4, none⟩ = some (.slice C4 c5 c6)) := fun w' hb =>
      ⟨hb, by rw [(z0.below hb).cell]; rfl, by rw [(z0.below hb).cell]; rfl, by rw [(z0.below hb).cell]; rfl, by rw [(z0.below hb).cell]; rfl, by rw [(z0.below hb).cell]; rfl, by rw [(z1.below hb).cell]; rfl, by rw [(z1.below hb).cell]; rfl, by rw [(z1.below hb).cell]; rfl, by rw [(z1.below hb).cell]; rfl, by rw [(z1.below hb).cell]; rfl, by rw [(z2.below hb).cell]; rfl, by rw [(z2.below hb).cell]; rfl, by rw [(z2.below hb).cell]; rfl, by rw [(z2.below hb).cell]; rfl, by rw [(z2.below hb).cell]; rfl⟩
    have tA : ∀ w', Below W.heap.size W w' → TmR w'.heap.size w' [Value.int .i64 a0, .int .i64 a1, .bool a2, .int .i64 a3, .slice A4 a5 a6] ta := fun w' hb => tm_up (ra.later (below_next hb hbk)) (Nat.le_trans hsW hb.size)
    have tB : ∀ w', Below W.heap.size W w' → TmR w'.heap.size w' [Value.int .i64 b0, .int .i64 b1, .bool b2, .int .i64 b3, .slice B4 b5 b6] tb := fun w' hb => tm_up (rb.later (below_next hb hbk)) (Nat.le_trans hsW hb.size)
    have tC : ∀ w', Below W.heap.size W w' → TmR w'.heap.size w' [Value.int .i64 c0, .int .i64 c1, .bool c2, .int .i64 c3, .slice C4 c5 c6] tc := fun w' hb => tm_up (rc.later (below_next hb hbk)) (Nat.le_trans hsW hb.size)
    have two : ∀ (w' : World) (vx vy : Value) (tx ty : Sp.T), Below W.heap.size W w' → IsT tx vx w' → IsT ty vy w' → Calls Try.prog 26 #[vx, vy, .pointer (some ⟨qk, 0, none⟩)] w' fun e w'' => ∃ v, e = .returned v ∧ IsT (.two true tx ty) v w'' ∧ Below w'.heap.size w' w'' := fun w' vx vy tx ty hb hx hy => twoj_v true w' qk vx vy tx ty (by rw [(hB2.below hb).cell]; rfl) hx hy
    have hS0 := keepS _ (below_drew (Below.refl _ _))
    clear z0 z1 z2 y0 y1 y2 ra rb rc hB2 hbk hbw hsW
    refine wp_walk_tail 16 (by kernel_rfl) (by kernel_rfl) (fun w w' => Below w.heap.size w w') (fun w' => Below W.heap.size W w' ∧ w'.cell? ⟨qa, 0, none⟩ = some (.int .i64 a0) ∧ w'.cell? ⟨qa, 1, none⟩ = some (.int .i64 a1) ∧ w'.cell? ⟨qa, 2, none⟩ = some (.bool a2) ∧ w'.cell? ⟨qa, 3, none⟩ = some (.int .i64 a3) ∧ w'.cell? ⟨qa, 4, none⟩ = some (.slice A4 a5 a6) ∧ w'.cell? ⟨qb, 0, none⟩ = some (.int .i64 b0) ∧ w'.cell? ⟨qb, 1, none⟩ = some (.int .i64 b1) ∧ w'.cell? ⟨qb, 2, none⟩ = some (.bool b2) ∧ w'.cell? ⟨qb, 3, none⟩ = some (.int .i64 b3) ∧ w'.cell? ⟨qb, 4, none⟩ = some (.slice B4 b5 b6) ∧ w'.cell? ⟨qc, 0, none⟩ = some (.int .i64 c0) ∧ w'.cell? ⟨qc, 1, none⟩ = some (.int .i64 c1) ∧ w'.cell? ⟨qc, 2, none⟩ = some (.bool c2) ∧ w'.cell? ⟨qc, 3, none⟩ = some (.int .i64 c3) ∧ w'.cell? ⟨qc, 4, none⟩ = some (.slice C4 c5 c6)) hS0 ?_
    simp only [List.length_cons, List.length_nil, Nat.reduceAdd, Nat.reduceSub, List.take_succ_cons, List.take_zero, List.drop_succ_cons, List.drop_zero]
    repeat (first | (refine settle_skip (fun _ => by rfl) ?_; (simp only [Act.put, List.setIfInBounds_toArray, List.set_cons_zero, List.set_cons_succ])) | (refine' settle_run (fun _ _ => Below.refl _ _) (fun _ => by rfl) ?_ ?_; rotate_left; (focus (intro ρ w hS hF; (try dsimp only at hS); go_split_ands; go_simp; try with_reducible rfl)); (simp only [Act.put, List.setIfInBounds_toArray, List.set_cons_zero, List.set_cons_succ])))
    (refine settle_known (FT (.two true ta tb)) (by rfl) (fun _ => by rfl) ?_ ?_; (focus (intro ρ w hS hF K hK; (simp only [Act.put, List.setIfInBounds_toArray, List.set_cons_zero, List.set_cons_succ] at hK); go_simp; (refine (two _ _ _ _ _ hS.1 ⟨_, rfl, tA _ hS.1⟩ ⟨_, rfl, tB _ hS.1⟩).mono ?_; rintro e w' ⟨v, rfl, hF', hb'⟩; exact hK _ _ hF' (keepS _ (below_next hb' hS.1)) hb'))); (simp only [Act.put, List.setIfInBounds_toArray, List.set_cons_zero, List.set_cons_succ]))
    repeat (first | (refine settle_skip (fun _ => by rfl) ?_; (simp only [Act.put, List.setIfInBounds_toArray, List.set_cons_zero, List.set_cons_succ])) | (refine' settle_run (fun _ _ => Below.refl _ _) (fun _ => by rfl) ?_ ?_; rotate_left; (focus (intro ρ w hS hF; (try dsimp only at hS); go_split_ands; go_simp; try with_reducible rfl)); (simp only [Act.put, List.setIfInBounds_toArray, List.set_cons_zero, List.set_cons_succ])))
    (refine settle_known (FT (.two true (.two true ta tb) tc)) (by rfl) (fun _ => by rfl) ?_ ?_; (focus (intro ρ w hS hF K hK; (simp only [Act.put, List.setIfInBounds_toArray, List.set_cons_zero, List.set_cons_succ] at hK); go_simp; (refine (two _ _ _ _ _ hS.1 (hF.1 (by rfl)) ⟨_, rfl, tC _ hS.1⟩).mono ?_; rintro e w' ⟨v, rfl, hF', hb'⟩; exact hK _ _ hF' (keepS _ (below_next hb' hS.1)) hb'))); (simp only [Act.put, List.setIfInBounds_toArray, List.set_cons_zero, List.set_cons_succ]))
    repeat (first | (refine settle_skip (fun _ => by rfl) ?_; (simp only [Act.put, List.setIfInBounds_toArray, List.set_cons_zero, List.set_cons_succ])) | (refine' settle_run (fun _ _ => Below.refl _ _) (fun _ => by rfl) ?_ ?_; rotate_left; (focus (intro ρ w hS hF; (try dsimp only at hS); go_split_ands; go_simp; try with_reducible rfl)); (simp only [Act.put, List.setIfInBounds_toArray, List.set_cons_zero, List.set_cons_succ])))
    (refine settle_known (FT (.two true tb tc)) (by rfl) (fun _ => by rfl) ?_ ?_; (focus (intro ρ w hS hF K hK; (simp only [Act.put, List.setIfInBounds_toArray, List.set_cons_zero, List.set_cons_succ] at hK); go_simp; (refine (two _ _ _ _ _ hS.1 ⟨_, rfl, tB _ hS.1⟩ ⟨_, rfl, tC _ hS.1⟩).mono ?_; rintro e w' ⟨v, rfl, hF', hb'⟩; exact hK _ _ hF' (keepS _ (below_next hb' hS.1)) hb'))); (simp only [Act.put, List.setIfInBounds_toArray, List.set_cons_zero, List.set_cons_succ]))
    repeat (first | (refine settle_skip (fun _ => by rfl) ?_; (simp only [Act.put, List.setIfInBounds_toArray, List.set_cons_zero, List.set_cons_succ])) | (refine' settle_run (fun _ _ => Below.refl _ _) (fun _ => by rfl) ?_ ?_; rotate_left; (focus (intro ρ w hS hF; (try dsimp only at hS); go_split_ands; go_simp; try with_reducible rfl)); (simp only [Act.put, List.setIfInBounds_toArray, List.set_cons_zero, List.set_cons_succ])))
    (refine settle_known (FT (.two true ta (.two true tb tc))) (by rfl) (fun _ => by rfl) ?_ ?_; (focus (intro ρ w hS hF K hK; (simp only [Act.put, List.setIfInBounds_toArray, List.set_cons_zero, List.set_cons_succ] at hK); go_simp; (refine (two _ _ _ _ _ hS.1 ⟨_, rfl, tA _ hS.1⟩ (hF.1 (by rfl))).mono ?_; rintro e w' ⟨v, rfl, hF', hb'⟩; exact hK _ _ hF' (keepS _ (below_next hb' hS.1)) hb'))); (simp only [Act.put, List.setIfInBounds_toArray, List.set_cons_zero, List.set_cons_succ]))
    (refine settle_known (FP W.heap.size) (by rfl) (fun _ => by rfl) ?_ ?_; (focus (intro ρ w hS hF K hK; (simp only [Act.put, List.setIfInBounds_toArray, List.set_cons_zero, List.set_cons_succ] at hK); go_simp; exact hK _ _ ⟨_, rfl, hS.1.size, Blk.new _ _ _⟩ (keepS _ (below_alloc hS.1 _)) (below_alloc (Below.refl _ _) _))); (simp only [Act.put, List.setIfInBounds_toArray, List.set_cons_zero, List.set_cons_succ]))
    (refine settle_known (FP W.heap.size) (by rfl) (fun _ => by rfl) ?_ ?_; (focus (intro ρ w hS hF K hK; (simp only [Act.put, List.setIfInBounds_toArray, List.set_cons_zero, List.set_cons_succ] at hK); go_simp; exact hK _ _ ⟨_, rfl, hS.1.size, Blk.new _ _ _⟩ (keepS _ (below_alloc hS.1 _)) (below_alloc (Below.refl _ _) _))); (simp only [Act.put, List.setIfInBounds_toArray, List.set_cons_zero, List.set_cons_succ]))
    refine settle_nil ?_
    intro ρ w5 hS hF
    obtain ⟨x28, e28, T28⟩ := hF 28 (FT (.two true (.two true ta tb) tc)) (by repeat (first | exact List.mem_cons_self | apply List.mem_cons_of_mem))
    obtain ⟨x35, e35, T35⟩ := hF 35 (FT (.two true ta (.two true tb tc))) (by repeat (first | exact List.mem_cons_self | apply List.mem_cons_of_mem))
    obtain ⟨g15, e15, l15, B15⟩ := hF 15 (FP W.heap.size) (by repeat (first | exact List.mem_cons_self | apply List.mem_cons_of_mem))
    obtain ⟨g16, e16, l16, B16⟩ := hF 16 (FP W.heap.size) (by repeat (first | exact List.mem_cons_self | apply List.mem_cons_of_mem))
    clear hF hS0
    obtain ⟨k0, k1, k2, k3, K4, k5, k6, rfl, -, -⟩ := T28.form
    obtain ⟨y0, y1, y2, y3, Y4, y5, y6, rfl, -, -⟩ := T35.form
    dsimp only
    rw [e28, e35, e15, e16]
    clear e28 e35 e15 e16
    refine wpl_put_blk B15 (tcells k0 k1 k2 k3 K4 k5 k6) (by kernel_rfl) rfl five_one rfl rfl rfl rfl ?_
    intro w6 hB6 hg6
    have kb6 : Below W.heap.size W w6 := hS.1.trans (below_of_grown hg6 hS.1.size l15)
    obtain ⟨z0, z1, z2, z3, Z4, z5, z6, hB16⟩ : ∃ z0 z1 z2 z3 Z4 z5 z6, Blk w6 g16 26 (tcells z0 z1 z2 z3 Z4 z5 z6) := by
      by_cases e : g15 = g16
      · subst e; exact ⟨_, _, _, _, _, _, _, hB6⟩
      · exact ⟨_, _, _, _, _, _, _, B16.grown hg6 (fun h => e (by injection h with h; exact h.symm))⟩
    refine wpl_put_blk hB16 (tcells y0 y1 y2 y3 Y4 y5 y6) (by kernel_rfl) rfl five_one rfl rfl rfl rfl ?_
    intro w7 hB7 hg7
    have kb7 : Below W.heap.size W w7 := kb6.trans (below_of_grown hg7 kb6.size l16)
    have kk : Keeps (fun k => k = g15 ∨ k = g16) w5 w7 := ((Keeps.of_grown hg6).mono (fun i hi => .inl (by injection hi))).trans ((Keeps.of_grown hg7).mono (fun i hi => .inr (by injection hi)))
    have up57 : ∀ cs t, TmR w5.heap.size w5 cs t → TmR w7.heap.size w7 cs t := fun cs t h => tm_up (h.spare (S := fun k => k = g15 ∨ k = g16) (fun g hg o ho => by rcases hg with rfl | rfl; rw [B15.cell]; exact List.getElem?_eq_none ho; rw [B16.cell]; exact List.getElem?_eq_none ho) kk) kk.size
    have TY := up57 _ _ T35
    obtain ⟨u0, u1, u2, u3, U4, u5, u6, tX, hX, TX, hsame⟩ : ∃ u0 u1 u2 u3 U4 u5 u6 tX, Blk w7 g15 26 (tcells u0 u1 u2 u3 U4 u5 u6) ∧ TmR w7.heap.size w7 (tcells u0 u1 u2 u3 U4 u5 u6) tX ∧ tX.same (.two true ta (.two true tb tc)) ∧ tX.ways = (Sp.T.two true ta (.two true tb tc)).ways := by
      by_cases e : g15 = g16
      · subst e
        exact ⟨_, _, _, _, _, _, _, _, hB7, TY, ⟨rfl, fun _ _ => rfl⟩, rfl⟩
      · exact ⟨_, _, _, _, _, _, _, _, hB6.grown hg7 (fun h => e (by injection h)), up57 _ _ T28, Sp.T.same_joins _ _ _ _, Sp.T.ways_joins _ _ _ _⟩
    obtain ⟨hsame, hways⟩ := hsame
    clear up57 T28 T35 kk hB6 hg6 hB16 hg7 B15 B16 kb6 hS
    obtain ⟨tY, htY⟩ : ∃ t, t = Sp.T.two true ta (.two true tb tc) := ⟨_, rfl⟩
    rw [← htY] at TY hsame hways
    have szY : tY.size ≤ 4194304 := by rw [htY, Sp.T.size_two, Sp.T.size_two]; omega
    have HTY := Lib.hid htY
    clear htY
    obtain ⟨-, d0, d1, d2, d3, d4, -⟩ := keepS _ kb7
    have zz : IsT .nil (.agg #[.int .i64 0, .int .i64 0, .bool false, .int .i64 0, .slice none 0 0]) w7 := ⟨_, rfl, .nil 0 0 false 0 none 0 0 (Nat.le_refl _) (Nat.zero_le _) (by omega) (by omega)⟩
    have hcall := two w7 _ _ _ _ kb7 zz ⟨_, rfl, tA _ kb7⟩
    clear zz
    go_wp2_with fail
    refine hcall.mono ?_
    rintro e w8 ⟨v8, rfl, T8, hb8⟩
    have kb8 := below_next hb8 kb7
    have hX8 := hX.below hb8
    have hY8 := hB7.below hb8
    have TX8 := tm_up (TX.later hb8) hb8.size
    have TY8 := tm_up (TY.later hb8) hb8.size
    clear d0 d1 d2 d3 d4 hX TX TY hB7 hb8 kb7 hcall
    have zz : IsT .nil (.agg #[.int .i64 0, .int .i64 0, .bool false, .int .i64 0, .slice none 0 0]) w8 := ⟨_, rfl, .nil 0 0 false 0 none 0 0 (Nat.le_refl _) (Nat.zero_le _) (by omega) (by omega)⟩
    have hcall := two w8 _ _ _ _ kb8 T8 zz
    clear zz
    go_wp2_with fail
    refine hcall.mono ?_
    rintro e w9 ⟨v9, rfl, ⟨cs9, rfl, T9⟩, hb9⟩
    obtain ⟨n0, n1, n2, n3, N4, n5, n6, rfl, -, -⟩ := T9.form
    have kb9 := below_next hb9 kb8
    have hX9 := hX8.below hb9
    have hY9 := hY8.below hb9
    have TX9 := tm_up (TX8.later hb9) hb9.size
    have TY9 := tm_up (TY8.later hb9) hb9.size
    clear hX8 TX8 TY8 hY8 hb9 kb8 hcall T8 two
    unfold tcells at hX9 hY9 TX9 TY9 T9 ⊢
    have hN := Blk.new w9 26 [.int .i64 n0, .int .i64 n1, .bool n2, .int .i64 n3, .slice N4 n5 n6]
    have hbN : Below w9.heap.size w9 (w9.alloc (.cells [Value.int .i64 n0, .int .i64 n1, .bool n2, .int .i64 n3, .slice N4 n5 n6].toArray 26)) := below_alloc (Below.refl _ _) _
    go_wp2_with fail
    obtain ⟨gn, hgn⟩ : ∃ k, k = w9.heap.size := ⟨_, rfl⟩
    generalize w9.alloc (.cells [Value.int .i64 n0, .int .i64 n1, .bool n2, .int .i64 n3, .slice N4 n5 n6].toArray 26) = Z at hN hbN ⊢
    rw [← hgn] at hN ⊢
    have kbZ := below_next hbN kb9
    have hXZ := hX9.below hbN
    have hYZ := hY9.below hbN
    have TXZ := tm_up (TX9.later hbN) hbN.size
    have TYZ := tm_up (TY9.later hbN) hbN.size
    have TNZ := tm_up (T9.later hbN) hbN.size
    clear hgn hX9 hY9 TX9 TY9 T9 hbN kb9
    have keepZ : ∀ w', Below Z.heap.size Z w' → (Below Z.heap.size Z w' ∧ w'.cell? ⟨g15, 0, none⟩ = some (.int .i64 u0) ∧ w'.cell? ⟨g15, 1, none⟩ = some (.int .i64 u1) ∧ w'.cell? ⟨g15, 2, none⟩ = some (.bool u2) ∧ w'.cell? ⟨g15, 3, none⟩ = some (.int .i64 u3) ∧ w'.cell? ⟨g15, 4, none⟩ = some (.slice U4 u5 u6) ∧ w'.cell? ⟨g16, 0, none⟩ = some (.int .i64 y0) ∧ w'.cell? ⟨g16, 1, none⟩ = some (.int .i64 y1) ∧ w'.cell? ⟨g16, 2, none⟩ = some (.bool y2) ∧ w'.cell? ⟨g16, 3, none⟩ = some (.int .i64 y3) ∧ w'.cell? ⟨g16, 4, none⟩ = some (.slice Y4 y5 y6) ∧ w'.cell? ⟨gn, 0, none⟩ = some (.int .i64 n0) ∧ w'.cell? ⟨gn, 1, none⟩ = some (.int .i64 n1) ∧ w'.cell? ⟨gn, 2, none⟩ = some (.bool n2) ∧ w'.cell? ⟨gn, 3, none⟩ = some (.int .i64 n3) ∧ w'.cell? ⟨gn, 4, none⟩ = some (.slice N4 n5 n6) ∧ w'.cell? ⟨qa, 0, none⟩ = some (.int .i64 a0) ∧ w'.cell? ⟨qa, 1, none⟩ = some (.int .i64 a1) ∧ w'.cell? ⟨qa, 2, none⟩ = some (.bool a2) ∧ w'.cell? ⟨qa, 3, none⟩ = some (.int .i64 a3) ∧ w'.cell? ⟨qa, 4, none⟩ = some (.slice A4 a5 a6)) := fun w' hb =>
      ⟨hb, by rw [(hXZ.below hb).cell]; rfl, by rw [(hXZ.below hb).cell]; rfl, by rw [(hXZ.below hb).cell]; rfl, by rw [(hXZ.below hb).cell]; rfl, by rw [(hXZ.below hb).cell]; rfl, by rw [(hYZ.below hb).cell]; rfl, by rw [(hYZ.below hb).cell]; rfl, by rw [(hYZ.below hb).cell]; rfl, by rw [(hYZ.below hb).cell]; rfl, by rw [(hYZ.below hb).cell]; rfl, by rw [(hN.below hb).cell]; rfl, by rw [(hN.below hb).cell]; rfl, by rw [(hN.below hb).cell]; rfl, by rw [(hN.below hb).cell]; rfl, by rw [(hN.below hb).cell]; rfl, (keepS _ (below_next hb kbZ)).2.1, (keepS _ (below_next hb kbZ)).2.2.1, (keepS _ (below_next hb kbZ)).2.2.2.1, (keepS _ (below_next hb kbZ)).2.2.2.2.1, (keepS _ (below_next hb kbZ)).2.2.2.2.2.1⟩
    have up : ∀ w', Below Z.heap.size Z w' → ∀ cs t, TmR Z.heap.size Z cs t → TmR w'.heap.size w' cs t := fun w' hb cs t h => tm_up (h.later hb) hb.size
    have szX : tX.size ≤ 4194304 := by rw [Sp.T.same_size hsame]; exact szY
    have sN := Sp.T.same_none true ta
    have szN : (Sp.T.two true (.two true .nil ta) .nil).size ≤ 4194304 := by rw [Sp.T.same_size sN]; omega
    have szA : ta.size ≤ 4194304 := by omega
    have gB : ∀ w' (x : List Value) (z : Bool), Below Z.heap.size Z w' → ((x = [.int .i64 u0, .int .i64 u1, .bool u2, .int .i64 u3, .slice U4 u5 u6] ∧ z = tX.before i j) ∨ (x = [.int .i64 y0, .int .i64 y1, .bool y2, .int .i64 y3, .slice Y4 y5 y6] ∧ z = tX.before i j) ∨ (x = [.int .i64 n0, .int .i64 n1, .bool n2, .int .i64 n3, .slice N4 n5 n6] ∧ z = ta.before i j) ∨ (x = [Value.int .i64 a0, .int .i64 a1, .bool a2, .int .i64 a3, .slice A4 a5 a6] ∧ z = ta.before i j)) → Calls Try.prog 24 #[.agg x.toArray, .int .i64 i, .int .i64 j] w' fun e w'' => e = .returned (.bool z) ∧ ((Below Z.heap.size Z w'' ∧ w''.cell? ⟨g15, 0, none⟩ = some (.int .i64 u0) ∧ w''.cell? ⟨g15, 1, none⟩ = some (.int .i64 u1) ∧ w''.cell? ⟨g15, 2, none⟩ = some (.bool u2) ∧ w''.cell? ⟨g15, 3, none⟩ = some (.int .i64 u3) ∧ w''.cell? ⟨g15, 4, none⟩ = some (.slice U4 u5 u6) ∧ w''.cell? ⟨g16, 0, none⟩ = some (.int .i64 y0) ∧ w''.cell? ⟨g16, 1, none⟩ = some (.int .i64 y1) ∧ w''.cell? ⟨g16, 2, none⟩ = some (.bool y2) ∧ w''.cell? ⟨g16, 3, none⟩ = some (.int .i64 y3) ∧ w''.cell? ⟨g16, 4, none⟩ = some (.slice Y4 y5 y6) ∧ w''.cell? ⟨gn, 0, none⟩ = some (.int .i64 n0) ∧ w''.cell? ⟨gn, 1, none⟩ = some (.int .i64 n1) ∧ w''.cell? ⟨gn, 2, none⟩ = some (.bool n2) ∧ w''.cell? ⟨gn, 3, none⟩ = some (.int .i64 n3) ∧ w''.cell? ⟨gn, 4, none⟩ = some (.slice N4 n5 n6) ∧ w''.cell? ⟨qa, 0, none⟩ = some (.int .i64 a0) ∧ w''.cell? ⟨qa, 1, none⟩ = some (.int .i64 a1) ∧ w''.cell? ⟨qa, 2, none⟩ = some (.bool a2) ∧ w''.cell? ⟨qa, 3, none⟩ = some (.int .i64 a3) ∧ w''.cell? ⟨qa, 4, none⟩ = some (.slice A4 a5 a6)) ∧ Below w'.heap.size w' w'') := fun w' x z hb hx => by
      rcases hx with ⟨rfl, rfl⟩ | ⟨rfl, rfl⟩ | ⟨rfl, rfl⟩ | ⟨rfl, rfl⟩
      · exact (before_any w' _ tX i j (up w' hb _ _ TXZ) szX).mono fun e w'' h => ⟨h.1, keepZ _ (below_next h.2 hb), h.2⟩
      · exact (before_any w' _ tY i j (up w' hb _ _ TYZ) szY).mono fun e w'' h => ⟨h.1.trans (ret_bool (Sp.T.same_before hsame i j).symm), keepZ _ (below_next h.2 hb), h.2⟩
      · exact (before_any w' _ _ i j (up w' hb _ _ TNZ) szN).mono fun e w'' h => ⟨h.1.trans (ret_bool (Sp.T.same_before sN i j)), keepZ _ (below_next h.2 hb), h.2⟩
      · exact (before_any w' _ ta i j (tA _ (below_next hb kbZ)) szA).mono fun e w'' h => ⟨h.1, keepZ _ (below_next h.2 hb), h.2⟩
    have gC : ∀ w' (x : List Value) (z : Int), Below Z.heap.size Z w' → ((x = [.int .i64 u0, .int .i64 u1, .bool u2, .int .i64 u3, .slice U4 u5 u6] ∧ z = Sp.u64 tX.ways) ∨ (x = [.int .i64 y0, .int .i64 y1, .bool y2, .int .i64 y3, .slice Y4 y5 y6] ∧ z = Sp.u64 tX.ways) ∨ (x = [.int .i64 n0, .int .i64 n1, .bool n2, .int .i64 n3, .slice N4 n5 n6] ∧ z = Sp.u64 ta.ways) ∨ (x = [Value.int .i64 a0, .int .i64 a1, .bool a2, .int .i64 a3, .slice A4 a5 a6] ∧ z = Sp.u64 ta.ways)) → Calls Try.prog 28 #[.agg x.toArray] w' fun e w'' => e = .returned (.int .u64 z) ∧ ((Below Z.heap.size Z w'' ∧ w''.cell? ⟨g15, 0, none⟩ = some (.int .i64 u0) ∧ w''.cell? ⟨g15, 1, none⟩ = some (.int .i64 u1) ∧ w''.cell? ⟨g15, 2, none⟩ = some (.bool u2) ∧ w''.cell? ⟨g15, 3, none⟩ = some (.int .i64 u3) ∧ w''.cell? ⟨g15, 4, none⟩ = some (.slice U4 u5 u6) ∧ w''.cell? ⟨g16, 0, none⟩ = some (.int .i64 y0) ∧ w''.cell? ⟨g16, 1, none⟩ = some (.int .i64 y1) ∧ w''.cell? ⟨g16, 2, none⟩ = some (.bool y2) ∧ w''.cell? ⟨g16, 3, none⟩ = some (.int .i64 y3) ∧ w''.cell? ⟨g16, 4, none⟩ = some (.slice Y4 y5 y6) ∧ w''.cell? ⟨gn, 0, none⟩ = some (.int .i64 n0) ∧ w''.cell? ⟨gn, 1, none⟩ = some (.int .i64 n1) ∧ w''.cell? ⟨gn, 2, none⟩ = some (.bool n2) ∧ w''.cell? ⟨gn, 3, none⟩ = some (.int .i64 n3) ∧ w''.cell? ⟨gn, 4, none⟩ = some (.slice N4 n5 n6) ∧ w''.cell? ⟨qa, 0, none⟩ = some (.int .i64 a0) ∧ w''.cell? ⟨qa, 1, none⟩ = some (.int .i64 a1) ∧ w''.cell? ⟨qa, 2, none⟩ = some (.bool a2) ∧ w''.cell? ⟨qa, 3, none⟩ = some (.int .i64 a3) ∧ w''.cell? ⟨qa, 4, none⟩ = some (.slice A4 a5 a6)) ∧ Below w'.heap.size w' w'') := fun w' x z hb hx => by
      rcases hx with ⟨rfl, rfl⟩ | ⟨rfl, rfl⟩ | ⟨rfl, rfl⟩ | ⟨rfl, rfl⟩
      · exact (count_any w' _ tX (up w' hb _ _ TXZ) szX).mono fun e w'' h => ⟨h.1, keepZ _ (below_next h.2 hb), h.2⟩
      · exact (count_any w' _ tY (up w' hb _ _ TYZ) szY).mono fun e w'' h => ⟨h.1.trans (by rw [hways]), keepZ _ (below_next h.2 hb), h.2⟩
      · exact (count_any w' _ _ (up w' hb _ _ TNZ) szN).mono fun e w'' h => ⟨h.1.trans (by rw [Sp.T.ways_none]), keepZ _ (below_next h.2 hb), h.2⟩
      · exact (count_any w' _ ta (tA _ (below_next hb kbZ)) szA).mono fun e w'' h => ⟨h.1, keepZ _ (below_next h.2 hb), h.2⟩
    obtain ⟨lv, hlv⟩ : ∃ l, l = tX.leaves := ⟨_, rfl⟩
    have gX : ∀ w', Below Z.heap.size Z w' → Calls Try.prog 23 #[.agg [.int .i64 u0, .int .i64 u1, .bool u2, .int .i64 u3, .slice U4 u5 u6].toArray] w' fun e w'' => ∃ v, e = .returned v ∧ SlV w'' 3 v lv.length (Sp.acccs lv) ∧ Below w'.heap.size w' w'' := fun w' hb => by
      subst hlv; exact leaves_any w' _ tX (up w' hb _ _ TXZ) szX
    have gY : ∀ w', Below Z.heap.size Z w' → Calls Try.prog 23 #[.agg [.int .i64 y0, .int .i64 y1, .bool y2, .int .i64 y3, .slice Y4 y5 y6].toArray] w' fun e w'' => ∃ v, e = .returned v ∧ SlV w'' 3 v lv.length (Sp.acccs lv) ∧ Below w'.heap.size w' w'' := fun w' hb => by
      subst hlv; rw [hsame.1]; exact leaves_any w' _ tY (up w' hb _ _ TYZ) szY
    have gE : ∀ w' v v', SlV w' 3 v lv.length (Sp.acccs lv) → SlV w' 3 v' lv.length (Sp.acccs lv) → Calls Try.prog 27 #[v, v'] w' fun e w'' => e = .returned (.bool true) ∧ ∃ m, w'' = w'.drewN m := fun w' v v' h h' => (equal_accs v v' lv lv w' h h').mono fun e w'' hh => ⟨hh.1.trans (ret_bool (by simp)), hh.2⟩
    obtain ⟨bx, hbx⟩ : ∃ b, b = tX.before i j := ⟨_, rfl⟩
    obtain ⟨ba, hba⟩ : ∃ b, b = ta.before i j := ⟨_, rfl⟩
    obtain ⟨wx, hwx⟩ : ∃ b, b = Sp.u64 tX.ways := ⟨_, rfl⟩
    obtain ⟨wa, hwa⟩ : ∃ b, b = Sp.u64 ta.ways := ⟨_, rfl⟩
    rw [← hbx, ← hba] at gB
    rw [← hwx, ← hwa] at gC
    have hS9 := keepZ _ (below_drew (Below.refl _ _))
    clear hbx hba hwx hwa hlv up szX szY szN szA sN hsame hways TXZ TYZ TNZ hXZ hYZ hN tA tB tC keepS HTY hn
    refine wp_walk (by kernel_rfl) (by kernel_rfl) (fun w w' => Below w.heap.size w w') (fun w' => Below Z.heap.size Z w' ∧ w'.cell? ⟨g15, 0, none⟩ = some (.int .i64 u0) ∧ w'.cell? ⟨g15, 1, none⟩ = some (.int .i64 u1) ∧ w'.cell? ⟨g15, 2, none⟩ = some (.bool u2) ∧ w'.cell? ⟨g15, 3, none⟩ = some (.int .i64 u3) ∧ w'.cell? ⟨g15, 4, none⟩ = some (.slice U4 u5 u6) ∧ w'.cell? ⟨g16, 0, none⟩ = some (.int .i64 y0) ∧ w'.cell? ⟨g16, 1, none⟩ = some (.int .i64 y1) ∧ w'.cell? ⟨g16, 2, none⟩ = some (.bool y2) ∧ w'.cell? ⟨g16, 3, none⟩ = some (.int .i64 y3) ∧ w'.cell? ⟨g16, 4, none⟩ = some (.slice Y4 y5 y6) ∧ w'.cell? ⟨gn, 0, none⟩ = some (.int .i64 n0) ∧ w'.cell? ⟨gn, 1, none⟩ = some (.int .i64 n1) ∧ w'.cell? ⟨gn, 2, none⟩ = some (.bool n2) ∧ w'.cell? ⟨gn, 3, none⟩ = some (.int .i64 n3) ∧ w'.cell? ⟨gn, 4, none⟩ = some (.slice N4 n5 n6) ∧ w'.cell? ⟨qa, 0, none⟩ = some (.int .i64 a0) ∧ w'.cell? ⟨qa, 1, none⟩ = some (.int .i64 a1) ∧ w'.cell? ⟨qa, 2, none⟩ = some (.bool a2) ∧ w'.cell? ⟨qa, 3, none⟩ = some (.int .i64 a3) ∧ w'.cell? ⟨qa, 4, none⟩ = some (.slice A4 a5 a6)) hS9 ?_
    repeat (first | (refine settle_skip (fun _ => by rfl) ?_; (simp only [Act.put, List.setIfInBounds_toArray, List.set_cons_zero, List.set_cons_succ])) | (refine' settle_run (fun _ _ => Below.refl _ _) (fun _ => by rfl) ?_ ?_; rotate_left; (focus (intro ρ w hS hF; (try dsimp only at hS); go_split_ands; go_simp; try with_reducible rfl)); (simp only [Act.put, List.setIfInBounds_toArray, List.set_cons_zero, List.set_cons_succ])) | (refine' settle_step (fun _ => by rfl) ?_ ?_; rotate_left; (focus (intro ρ w hS hF K hK; (simp only [Act.put, List.setIfInBounds_toArray, List.set_cons_zero, List.set_cons_succ] at hK); go_simp; first | (go_at_call 24; refine (gB _ _ _ hS.1 (by first | exact .inl ⟨rfl, rfl⟩ | exact .inr (.inl ⟨rfl, rfl⟩) | exact .inr (.inr (.inl ⟨rfl, rfl⟩)) | exact .inr (.inr (.inr ⟨rfl, rfl⟩)))).mono ?_; rintro e w' ⟨rfl, hS', hE'⟩; exact hK _ hS' hE') | (go_at_call 28; refine (gC _ _ _ hS.1 (by first | exact .inl ⟨rfl, rfl⟩ | exact .inr (.inl ⟨rfl, rfl⟩) | exact .inr (.inr (.inl ⟨rfl, rfl⟩)) | exact .inr (.inr (.inr ⟨rfl, rfl⟩)))).mono ?_; rintro e w' ⟨rfl, hS', hE'⟩; exact hK _ hS' hE') | (go_at_call 27; refine (gE _ _ _ (hF.2.1 (by rfl)) (hF.1 (by rfl))).mono ?_; rintro e w' ⟨rfl, m, rfl⟩; have hS' := keepZ _ (below_drewN hS.1 m); have hE' := below_drewN (Below.refl w.heap.size w) m; exact hK _ hS' hE'))); (simp only [Act.put, List.setIfInBounds_toArray, List.set_cons_zero, List.set_cons_succ])))
    (refine settle_known (FL lv) (by rfl) (fun _ => by rfl) ?_ ?_; (focus (intro ρ w hS hF K hK; (simp only [Act.put, List.setIfInBounds_toArray, List.set_cons_zero, List.set_cons_succ] at hK); go_simp; (refine (gX _ hS.1).mono ?_; rintro e w' ⟨v, rfl, hF', hb'⟩; exact hK _ _ hF' (keepZ _ (below_next hb' hS.1)) hb'))); (simp only [Act.put, List.setIfInBounds_toArray, List.set_cons_zero, List.set_cons_succ]))
    repeat (first | (refine settle_skip (fun _ => by rfl) ?_; (simp only [Act.put, List.setIfInBounds_toArray, List.set_cons_zero, List.set_cons_succ])) | (refine' settle_run (fun _ _ => Below.refl _ _) (fun _ => by rfl) ?_ ?_; rotate_left; (focus (intro ρ w hS hF; (try dsimp only at hS); go_split_ands; go_simp; try with_reducible rfl)); (simp only [Act.put, List.setIfInBounds_toArray, List.set_cons_zero, List.set_cons_succ])) | (refine' settle_step (fun _ => by rfl) ?_ ?_; rotate_left; (focus (intro ρ w hS hF K hK; (simp only [Act.put, List.setIfInBounds_toArray, List.set_cons_zero, List.set_cons_succ] at hK); go_simp; first | (go_at_call 24; refine (gB _ _ _ hS.1 (by first | exact .inl ⟨rfl, rfl⟩ | exact .inr (.inl ⟨rfl, rfl⟩) | exact .inr (.inr (.inl ⟨rfl, rfl⟩)) | exact .inr (.inr (.inr ⟨rfl, rfl⟩)))).mono ?_; rintro e w' ⟨rfl, hS', hE'⟩; exact hK _ hS' hE') | (go_at_call 28; refine (gC _ _ _ hS.1 (by first | exact .inl ⟨rfl, rfl⟩ | exact .inr (.inl ⟨rfl, rfl⟩) | exact .inr (.inr (.inl ⟨rfl, rfl⟩)) | exact .inr (.inr (.inr ⟨rfl, rfl⟩)))).mono ?_; rintro e w' ⟨rfl, hS', hE'⟩; exact hK _ hS' hE') | (go_at_call 27; refine (gE _ _ _ (hF.2.1 (by rfl)) (hF.1 (by rfl))).mono ?_; rintro e w' ⟨rfl, m, rfl⟩; have hS' := keepZ _ (below_drewN hS.1 m); have hE' := below_drewN (Below.refl w.heap.size w) m; exact hK _ hS' hE'))); (simp only [Act.put, List.setIfInBounds_toArray, List.set_cons_zero, List.set_cons_succ])))
    (refine settle_known (FL lv) (by rfl) (fun _ => by rfl) ?_ ?_; (focus (intro ρ w hS hF K hK; (simp only [Act.put, List.setIfInBounds_toArray, List.set_cons_zero, List.set_cons_succ] at hK); go_simp; (refine (gY _ hS.1).mono ?_; rintro e w' ⟨v, rfl, hF', hb'⟩; exact hK _ _ hF' (keepZ _ (below_next hb' hS.1)) hb'))); (simp only [Act.put, List.setIfInBounds_toArray, List.set_cons_zero, List.set_cons_succ]))
    repeat (first | (refine settle_skip (fun _ => by rfl) ?_; (simp only [Act.put, List.setIfInBounds_toArray, List.set_cons_zero, List.set_cons_succ])) | (refine' settle_run (fun _ _ => Below.refl _ _) (fun _ => by rfl) ?_ ?_; rotate_left; (focus (intro ρ w hS hF; (try dsimp only at hS); go_split_ands; go_simp; try with_reducible rfl)); (simp only [Act.put, List.setIfInBounds_toArray, List.set_cons_zero, List.set_cons_succ])) | (refine' settle_step (fun _ => by rfl) ?_ ?_; rotate_left; (focus (intro ρ w hS hF K hK; (simp only [Act.put, List.setIfInBounds_toArray, List.set_cons_zero, List.set_cons_succ] at hK); go_simp; first | (go_at_call 24; refine (gB _ _ _ hS.1 (by first | exact .inl ⟨rfl, rfl⟩ | exact .inr (.inl ⟨rfl, rfl⟩) | exact .inr (.inr (.inl ⟨rfl, rfl⟩)) | exact .inr (.inr (.inr ⟨rfl, rfl⟩)))).mono ?_; rintro e w' ⟨rfl, hS', hE'⟩; exact hK _ hS' hE') | (go_at_call 28; refine (gC _ _ _ hS.1 (by first | exact .inl ⟨rfl, rfl⟩ | exact .inr (.inl ⟨rfl, rfl⟩) | exact .inr (.inr (.inl ⟨rfl, rfl⟩)) | exact .inr (.inr (.inr ⟨rfl, rfl⟩)))).mono ?_; rintro e w' ⟨rfl, hS', hE'⟩; exact hK _ hS' hE') | (go_at_call 27; refine (gE _ _ _ (hF.2.1 (by rfl)) (hF.1 (by rfl))).mono ?_; rintro e w' ⟨rfl, m, rfl⟩; have hS' := keepZ _ (below_drewN hS.1 m); have hE' := below_drewN (Below.refl w.heap.size w) m; exact hK _ hS' hE'))); (simp only [Act.put, List.setIfInBounds_toArray, List.set_cons_zero, List.set_cons_succ])))
    refine settle_nil ?_
    intro ρ wE hS _
    have hbE := below_self hbwW (below_next hS.1 kbZ)
    clear gB gC gX gY gE keepZ hS hS9 kbZ
    go_wp2
    go_ret
    exact ⟨rfl, hbE⟩
end Go.Proofs.Ytdipieplmmhnhaa
