/-
  ExprPut, walked.
-/
import Derived.Test.YtniekhedpdkmiaaEx25
import Derived.Test.YtniekhedpdkmiaaMark
namespace Go.Proofs.Ytniekhedpdkmiaa
set_option linter.unusedVariables false
set_option linter.unusedSimpArgs false
open Go.RowKit

/-- 'append(v, vs...)' as one operation -/
theorem oper_append {P : Program} {w : World} {o : Oper} {a : Act} {K : Act → World → Prop} {Q : Exit → Act → World → Prop} (s x : Operand)
    (base t e : TypeId) (z : Value) (size bytes : Nat) (ht : P.underlying t = some (.slice e)) (hinfo : (P.info? e).map (fun i => (i.zero, i.size, i.bytes)) = some (some z, size, bytes)) (hz : z.cells.size = size) (hsz : 0 < size)
    {v : Value} {n : Nat} {xs : List Value} (hown : w.ownsRow base e size v n xs) {vs : Value} {m : Nat} {news : List Value} (hsl : SlV w size vs m news) (h1 : ∀ u ∈ news, u.oneCell' = true)
    (h63 : n + m ≤ maxLen) (hbytes : (n + m) * bytes ≤ 140737488355328) (hbase : base ≤ w.heap.size) (ho : o.op = .call { callee := .builtin .append, args := #[s, x], argTypes := #[t, t] }) (hs : a.eval s = v) (hx : a.eval x = vs)
    (h : ∀ v' w', w'.ownsRow base e size v' (n + m) (xs ++ news) → w.grownBy w' v.ownBlock → (v'.ownBlock = v.ownBlock ∨ v'.ownBlock = some w.heap.size) → Below base w w' → K (a.put o.dst v') w') : o.wp P a w K Q := by
  obtain ⟨A, c, rfl, hle, hm, hlen, hc⟩ := hsl
  obtain ⟨v', w', hrun, h2, h3, h4⟩ := run_append (P := P) w base t o.type e z size bytes ht hinfo hz hsz v n xs hown w.heap.size A m c news hlen hc h1 h63 hbytes hbase
  unfold Oper.wp execOp
  simp only [ho, resolve, invoke, builtin, Sem.run_bind, Sem.run_pure, Result.andThen_ok, List.map_toArray, List.map_cons, List.map_nil, hs, hx, hrun]
  exact h v' w' h2 h3 h4 ((Below.refl _ _).grown h3 hbase (own_ge hown))

/-- a row of the call's own, that stays as it is -/
def FRow (B : Nat) (e : TypeId) (sz n : Nat) (vs : List Value) : Fact (fun w w' => Below w.heap.size w w') := ⟨fun v w => w.ownsRow B e sz v n vs, fun _ _ _ h k => own_keeps h (keeps_below k) (fun _ _ => id)⟩

theorem bindcs_one (l : List Ex.Bd) : ∀ u ∈ Ex.bindcs l, u.oneCell' = true := by
  intro u hu
  obtain ⟨x, -, hx⟩ := List.mem_flatMap.1 hu
  simp only [Ex.bindc, List.mem_cons, List.not_mem_nil, or_false] at hx
  rcases hx with rfl | rfl <;> rfl
theorem Ex.bindcs_snoc (l : List Ex.Bd) (x : Ex.Bd) : Ex.bindcs (l ++ [x]) = Ex.bindcs l ++ [.string x.1, .int .i64 x.2] := by simp [Ex.bindcs, Ex.bindc]
theorem Ex.bs_snoc (l : List Ex.Bd) (x : Ex.Bd) : Ex.bs (l ++ [x]) = Ex.bs l ++ [(x.1.data.toList, x.2)] := by simp [Ex.bs]

set_option maxRecDepth 100000 in
set_option maxHeartbeats 4000000 in
theorem exprPut_walk (w : World) (cs cb : List Value) (e by_ : Ex.X) (t : ByteArray) (v : Value) (zs : List Ex.Bd) (h : XR w.heap.size w cs e) (hy : XR w.heap.size w cb by_) (hv : SlV w 2 v zs.length (Ex.bindcs zs)) (hr : zs.length + 1 ≤ 1000000000000) :
    Calls Try.prog 6 #[.agg cs.toArray, .string t, .agg cb.toArray, v] w fun r w' => r = .returned (.bool true) ∧ Below w.heap.size w w' := by
  obtain ⟨a0, a1, a2, A3, a4, a5, rfl, -, -⟩ := h.form
  obtain ⟨b0, b1, b2, B3, b4, b5, rfl, -, -⟩ := hy.form
  obtain ⟨p0, q0, hz, hb0⟩ := allocs2 w (xcells a0 a1 a2 A3 a4 a5) (xcells b0 b1 b2 B3 b4 b5) 38 38
  obtain ⟨p, hp⟩ : ∃ p, p = w.heap.size := ⟨_, rfl⟩
  rw [← hp] at p0 q0
  unfold xcells at p0 q0 hb0 h hy ⊢
  clear hz
  go_enter Try.func6, Try.ntmps6
  go_wp2_with fail
  refine (alive9_any _).mono ?_
  rintro r W ⟨rfl, hb1⟩
  have p1 := p0.below hb1
  have q1 := q0.below hb1
  have hbw1 := below_next hb1 hb0
  have r1 := (h.later hbw1).up hbw1.size
  have y1 := (hy.later hbw1).up hbw1.size
  have hv1 := hv.below hbw1
  rw [← hp]
  clear p0 q0 hb0 hb1 hp h hy hv
  have HB := Lib.hid hbw1
  have keepS : ∀ w', Below W.heap.size W w' → (Below W.heap.size W w' ∧ w'.cell? ⟨p, 0, none⟩ = some (.int .i64 a0) ∧ w'.cell? ⟨p, 1, none⟩ = some (.int .i64 a1) ∧ w'.cell? ⟨p, 2, none⟩ = some (.string a2) ∧ w'.cell? ⟨p, 3, none⟩ = some (.slice A3 a4 a5) ∧ w'.cell? ⟨p + 1, 0, none⟩ = some (.int .i64 b0) ∧ w'.cell? ⟨p + 1, 1, none⟩ = some (.int .i64 b1) ∧ w'.cell? ⟨p + 1, 2, none⟩ = some (.string b2) ∧ w'.cell? ⟨p + 1, 3, none⟩ = some (.slice B3 b4 b5)) := fun w' hb => ⟨hb, ((p1.below hb).cell 0).trans rfl, ((p1.below hb).cell 1).trans rfl, ((p1.below hb).cell 2).trans rfl, ((p1.below hb).cell 3).trans rfl, ((q1.below hb).cell 0).trans rfl, ((q1.below hb).cell 1).trans rfl, ((q1.below hb).cell 2).trans rfl, ((q1.below hb).cell 3).trans rfl⟩
  obtain ⟨x, hx⟩ : ∃ x, x = Ex.evl (Ex.bs zs) by_ := ⟨_, rfl⟩
  obtain ⟨y, hyy⟩ : ∃ y, y = Ex.evl (Ex.bs (zs ++ [(t, x)])) e := ⟨_, rfl⟩
  have gB : ∀ w', Below W.heap.size W w' → Calls Try.prog 14 #[.agg #[.int .i64 b0, .int .i64 b1, .string b2, .slice B3 b4 b5], v] w' fun r w'' => r = .returned (.int .i64 x) ∧ Below w'.heap.size w' w'' := fun w' hb => by
    rw [hx]
    exact eval_ok v zs (by omega) by_ w' _ ((y1.later hb).up hb.size) (hv1.below hb)
  have gA : ∀ w' v', Below W.heap.size W w' → SlV w' 2 v' (zs.length + 1) (Ex.bindcs (zs ++ [(t, x)])) → Calls Try.prog 14 #[.agg #[.int .i64 a0, .int .i64 a1, .string a2, .slice A3 a4 a5], v'] w' fun r w'' => r = .returned (.int .i64 y) ∧ Below w'.heap.size w' w'' := fun w' v' hb hs => by
    rw [hyy]
    exact eval_ok v' (zs ++ [(t, x)]) (by simp; omega) e w' _ ((r1.later hb).up hb.size) (by simpa using hs)
  have gP : ∀ w' v', Below W.heap.size W w' → IsX (Ex.put t.data.toList by_ e) v' w' → Calls Try.prog 14 #[v', v] w' fun r w'' => r = .returned (.int .i64 y) ∧ Below w'.heap.size w' w'' := fun w' v' hb ⟨cs, h1, h2⟩ => by
    rw [h1, hyy, Ex.bs_snoc, hx, ← Ex.evl_put]
    exact eval_ok v zs (by omega) _ w' cs h2.read (hv1.below hb)
  have gQ : ∀ w', Below W.heap.size W w' → Calls Try.prog 22 #[.agg #[.int .i64 a0, .int .i64 a1, .string a2, .slice A3 a4 a5], .string t, .agg #[.int .i64 b0, .int .i64 b1, .string b2, .slice B3 b4 b5]] w' fun r w'' => ∃ v, r = .returned v ∧ IsX (Ex.put t.data.toList by_ e) v w'' ∧ Below w'.heap.size w' w'' := fun w' hb =>
    put_ok e by_ w' _ _ t ((r1.later hb).up hb.size) ((y1.later hb).up hb.size)
  have gC : ∀ w', Below W.heap.size W w' → Calls Try.prog 23 #[v] w' fun r w'' => ∃ u, r = .returned u ∧ w''.ownsRow W.heap.size 54 2 u zs.length (Ex.bindcs zs) ∧ Below w'.heap.size w' w'' := fun w' hb =>
    (clone_bind v zs.length _ w' (hv1.below hb) (bindcs_one zs) (by omega)).mono fun r w'' ⟨u, h1, h2, h3⟩ => ⟨u, h1, own_base h2 hb.size, h3⟩
  have hS0 := keepS _ (below_drew (Below.refl _ _))
  have n63 : zs.length + 1 ≤ maxLen := by unfold maxLen; omega
  have n47 : (zs.length + 1) * 24 ≤ 140737488355328 := by omega
  clear p1 q1 hbw1 r1 y1 hv1 hx hyy
  go_wp2_with fail
  refine wp_walk_marks (fun i => [15].contains i) (fun i => ([6] : List Nat).contains i) [15] (by intro m h; simpa using h) (by kernel_rfl) (by kernel_rfl) (by kernel_rfl) (fun w w' => Below w.heap.size w w') (fun w' => (Below W.heap.size W w' ∧ w'.cell? ⟨p, 0, none⟩ = some (.int .i64 a0) ∧ w'.cell? ⟨p, 1, none⟩ = some (.int .i64 a1) ∧ w'.cell? ⟨p, 2, none⟩ = some (.string a2) ∧ w'.cell? ⟨p, 3, none⟩ = some (.slice A3 a4 a5) ∧ w'.cell? ⟨p + 1, 0, none⟩ = some (.int .i64 b0) ∧ w'.cell? ⟨p + 1, 1, none⟩ = some (.int .i64 b1) ∧ w'.cell? ⟨p + 1, 2, none⟩ = some (.string b2) ∧ w'.cell? ⟨p + 1, 3, none⟩ = some (.slice B3 b4 b5))) hS0 ?_
  repeat (first | (refine msettle_skip (by rfl) (fun _ => by rfl) ?_; (simp only [Act.put, List.setIfInBounds_toArray, List.set_cons_zero, List.set_cons_succ])) | (refine' msettle_run (by rfl) (fun _ _ => Below.refl _ _) (fun _ => by rfl) ?_ ?_; rotate_left; (focus (intro ρ w hS hF; (try dsimp only at hS); go_split_ands; go_simp; try with_reducible rfl)); (simp only [Act.put, List.setIfInBounds_toArray, List.set_cons_zero, List.set_cons_succ])))
  (refine msettle_known (FX (Ex.put t.data.toList by_ e)) (by rfl) (by rfl) (fun _ => by rfl) ?_ ?_; (focus (intro ρ w hS hF K hK; (simp only [Act.put, List.setIfInBounds_toArray, List.set_cons_zero, List.set_cons_succ] at hK); go_simp; (refine (gQ _ hS.1).mono ?_; rintro e w' ⟨v, rfl, hF', hb'⟩; exact hK _ _ hF' (keepS _ (below_next hb' hS.1)) hb'))); (simp only [Act.put, List.setIfInBounds_toArray, List.set_cons_zero, List.set_cons_succ]))
  repeat (first | (refine msettle_skip (by rfl) (fun _ => by rfl) ?_; (simp only [Act.put, List.setIfInBounds_toArray, List.set_cons_zero, List.set_cons_succ])) | (refine' msettle_run (by rfl) (fun _ _ => Below.refl _ _) (fun _ => by rfl) ?_ ?_; rotate_left; (focus (intro ρ w hS hF; (try dsimp only at hS); go_split_ands; go_simp; try with_reducible rfl)); (simp only [Act.put, List.setIfInBounds_toArray, List.set_cons_zero, List.set_cons_succ])))
  (refine' msettle_step (by rfl) (fun _ => by rfl) ?_ ?_; rotate_left; (focus (intro ρ w hS hF K hK; (simp only [Act.put, List.setIfInBounds_toArray, List.set_cons_zero, List.set_cons_succ] at hK); go_simp; go_at_call 14; refine (gP _ _ hS.1 (hF.1 (by rfl))).mono ?_; rintro e w6 ⟨rfl, hb6⟩; have hS' := keepS _ (below_next hb6 hS.1); have hE' := hb6; exact hK _ hS' hE')); (simp only [Act.put, List.setIfInBounds_toArray, List.set_cons_zero, List.set_cons_succ]))
  repeat (first | (refine msettle_skip (by rfl) (fun _ => by rfl) ?_; (simp only [Act.put, List.setIfInBounds_toArray, List.set_cons_zero, List.set_cons_succ])) | (refine' msettle_run (by rfl) (fun _ _ => Below.refl _ _) (fun _ => by rfl) ?_ ?_; rotate_left; (focus (intro ρ w hS hF; (try dsimp only at hS); go_split_ands; go_simp; try with_reducible rfl)); (simp only [Act.put, List.setIfInBounds_toArray, List.set_cons_zero, List.set_cons_succ])))
  (refine msettle_known (FRow W.heap.size 54 2 zs.length (Ex.bindcs zs)) (by rfl) (by rfl) (fun _ => by rfl) ?_ ?_; (focus (intro ρ w hS hF K hK; (simp only [Act.put, List.setIfInBounds_toArray, List.set_cons_zero, List.set_cons_succ] at hK); go_simp; (refine (gC _ hS.1).mono ?_; rintro e w' ⟨v, rfl, hF', hb'⟩; exact hK _ _ hF' (keepS _ (below_next hb' hS.1)) hb'))); (simp only [Act.put, List.setIfInBounds_toArray, List.set_cons_zero, List.set_cons_succ]))
  repeat (first | (refine msettle_skip (by rfl) (fun _ => by rfl) ?_; (simp only [Act.put, List.setIfInBounds_toArray, List.set_cons_zero, List.set_cons_succ])) | (refine' msettle_run (by rfl) (fun _ _ => Below.refl _ _) (fun _ => by rfl) ?_ ?_; rotate_left; (focus (intro ρ w hS hF; (try dsimp only at hS); go_split_ands; go_simp; try with_reducible rfl)); (simp only [Act.put, List.setIfInBounds_toArray, List.set_cons_zero, List.set_cons_succ])))
  (refine' msettle_step (by rfl) (fun _ => by rfl) ?_ ?_; rotate_left; (focus (intro ρ w hS hF K hK; (simp only [Act.put, List.setIfInBounds_toArray, List.set_cons_zero, List.set_cons_succ] at hK); go_simp; go_at_call 14; refine (gB _ hS.1).mono ?_; rintro e w6 ⟨rfl, hb6⟩; have hS' := keepS _ (below_next hb6 hS.1); have hE' := hb6; exact hK _ hS' hE')); (simp only [Act.put, List.setIfInBounds_toArray, List.set_cons_zero, List.set_cons_succ]))
  repeat (first | (refine msettle_skip (by rfl) (fun _ => by rfl) ?_; (simp only [Act.put, List.setIfInBounds_toArray, List.set_cons_zero, List.set_cons_succ])) | (refine' msettle_run (by rfl) (fun _ _ => Below.refl _ _) (fun _ => by rfl) ?_ ?_; rotate_left; (focus (intro ρ w hS hF; (try dsimp only at hS); go_split_ands; go_simp; try with_reducible rfl)); (simp only [Act.put, List.setIfInBounds_toArray, List.set_cons_zero, List.set_cons_succ])))
  (refine msettle_known (FSl 2 1 [.string t, .int .i64 x]) (by rfl) (by rfl) (fun _ => by rfl) ?_ ?_; (focus (intro ρ w hS hF K hK; (simp only [Act.put, List.setIfInBounds_toArray, List.set_cons_zero, List.set_cons_succ] at hK); go_simp; exact hK _ _ (SlV.lit _ [.string t, .int .i64 x] _ 2 1 rfl (by decide)) (keepS _ (below_alloc hS.1 _)) (below_alloc (Below.refl _ _) _))); (simp only [Act.put, List.setIfInBounds_toArray, List.set_cons_zero, List.set_cons_succ]))
  (refine msettle_mark (FSl 2 (zs.length + 1) (Ex.bindcs (zs ++ [(t, x)]))) (by rfl) (by rfl) (fun _ => by rfl) ?_ ?_; (focus (intro ρ w hS hF K hK; refine oper_append (.tmp 19) (.tmp 25) W.heap.size _ _ _ _ _ Try.underlying39 info_bind rfl (by decide) (hF.2.1 (by rfl)) (hF.1 (by rfl)) (bindcs_one [(t, x)]) n63 n47 hS.1.size rfl rfl rfl ?_; intro v' w' hown _ _ hb; exact hK v' w' (by rw [Ex.bindcs_snoc]; exact SlV.of_own hown) (keepS _ (hS.1.trans hb)))); (simp only [Act.put, List.setIfInBounds_toArray, List.set_cons_zero, List.set_cons_succ]))
  (refine' msettle_step (by rfl) (fun _ => by rfl) ?_ ?_; rotate_left; (focus (intro ρ w hS hF K hK; (simp only [Act.put, List.setIfInBounds_toArray, List.set_cons_zero, List.set_cons_succ] at hK); go_simp; go_at_call 14; refine (gA _ _ hS.1 (hF.1 (by rfl))).mono ?_; rintro e w6 ⟨rfl, hb6⟩; have hS' := keepS _ (below_next hb6 hS.1); have hE' := hb6; exact hK _ hS' hE')); (simp only [Act.put, List.setIfInBounds_toArray, List.set_cons_zero, List.set_cons_succ]))
  repeat (first | (refine msettle_skip (by rfl) (fun _ => by rfl) ?_; (simp only [Act.put, List.setIfInBounds_toArray, List.set_cons_zero, List.set_cons_succ])) | (refine' msettle_run (by rfl) (fun _ _ => Below.refl _ _) (fun _ => by rfl) ?_ ?_; rotate_left; (focus (intro ρ w hS hF; (try dsimp only at hS); go_split_ands; go_simp; try with_reducible rfl)); (simp only [Act.put, List.setIfInBounds_toArray, List.set_cons_zero, List.set_cons_succ])))
  refine msettle_nil ?_
  intro ρ w4 hS _
  have hS1 := hS.1
  clear keepS gA gB gP gQ gC hS hS0
  dsimp only
  go_wp2
  go_ret
  exact ⟨rfl, HB.out.trans (hS1.mono HB.out.size)⟩
end Go.Proofs.Ytniekhedpdkmiaa
