/-
  Who is alone goes from left to right: the law, walked.
-/
import Derived.Test.YtajddbmmbhdnfaaStlBs
import Derived.Test.YtajddbmmbhdnfaaStlLaws2
import Derived.Test.YtajddbmmbhdnfaaSpMks
namespace Go.Proofs.Ytajddbmmbhdnfaa
set_option linter.unusedVariables false
set_option linter.unusedSimpArgs false
set_option maxRecDepth 100000
open Go.RowKit

/-- 'make([]T, n)' as one operation -/
theorem oper_make {P : Program} {w : World} {o : Oper} {a : Act} {K : Act → World → Prop} {Q : Exit → Act → World → Prop}
    (t e : TypeId) (z zc : Value) (size bytes : Nat) (n : Nat) (ht : P.underlying t = some (.slice e)) (hinfo : (P.info? e).map (fun i => (i.zero, i.size, i.bytes)) = some (some z, size, bytes)) (hz : z.cells = Array.replicate size zc) (hsz : 0 < size)
    (b2 : bytes * n ≤ 281474976710656) (b3 : n ≤ 9223372036854775807)
    {l c : Operand} {kl kc : IntKind} (hop : o.op = Op.makeSlice t l c) (hl : a.eval l = .int kl (n : Int)) (hc : a.eval c = .int kc (n : Int))
    (hK : ∀ w', Blk w' w.heap.size e (List.replicate (n * size) zc) → Below w.heap.size w w' → w'.heap.size = w.heap.size + 1 → K (a.put o.dst (.slice (some ⟨w.heap.size, 0, none⟩) n n)) w') : o.wp P a w K Q := by
  obtain ⟨i, hi, hz0, hz1, hz2⟩ := info_parts hinfo
  have h63' : (n : Int) ≤ 9223372036854775807 := by omega
  have hb' : (i.bytes : Int) * (n : Int) ≤ 281474976710656 := by
    have h : ((i.bytes * n : Nat) : Int) ≤ 281474976710656 := by rw [hz2]; omega
    rwa [Int.natCast_mul] at h
  have hr := run_make (P := P) w t e i z ht hi hz0 kl kc n n (by omega) (Int.le_refl _) hb' h63'
  simp only [Int.toNat_natCast, hz1, hz] at hr
  unfold Oper.wp
  simp [execOp, hop, hl, hc, hr, Result.andThen]
  refine hK _ ?_ ((Below.refl _ _).alloc (Nat.le_refl _) _) (by simp)
  have := Blk.new w e (madeCells (Array.replicate size zc) (n * size)).toList
  rw [Array.toArray_toList] at this
  rwa [made_flat zc size _ hsz] at this

theorem pkcs_zero (n : Nat) : pkcs (List.replicate n ⟨0, 0⟩) = List.replicate (n * 2) (.int .i64 0) := by
  induction n with
  | zero => rfl
  | succ n ih =>
    rw [List.replicate_succ, show (n + 1) * 2 = n * 2 + 1 + 1 by omega, List.replicate_succ, List.replicate_succ, ← ih]
    rfl

set_option maxHeartbeats 4000000 in
theorem stealAlone_any (t : Sp.T) (w : World) (cs : List Value) (k : Int) (hT : TmR w.heap.size w cs t) (hsz : Stl.sz t ≤ 1048576) (hlv : t.size ≤ 1048576) :
    Calls Try.prog 4 #[.agg cs.toArray, .int .i64 k] w fun e w' => e = .returned (.bool true) ∧ Below w.heap.size w w' := by
  obtain ⟨a0, a1, a2, a3, A4, a5, a6, rfl, -, -⟩ := hT.form
  have x0 := Blk.new w 26 [.int .i64 a0, .int .i64 a1, .bool a2, .int .i64 a3, .slice A4 a5 a6]
  unfold tcells at hT ⊢
  have hb0 : Below w.heap.size w (w.alloc (.cells [Value.int .i64 a0, .int .i64 a1, .bool a2, .int .i64 a3, .slice A4 a5 a6].toArray 26)) := below_alloc (Below.refl _ _) _
  go_enter Try.func4, Try.ntmps4
  go_wp2_with fail
  obtain ⟨q, hq⟩ : ∃ q, q = w.heap.size := ⟨_, rfl⟩
  have hT0 := tm_up (hT.later hb0) hb0.size
  generalize (w.alloc (.cells [Value.int .i64 a0, .int .i64 a1, .bool a2, .int .i64 a3, .slice A4 a5 a6].toArray 26)) = W0 at x0 hb0 hT0 ⊢
  rw [← hq] at x0 ⊢
  refine (alive22_any _).mono ?_
  rintro e w1 ⟨rfl, hb1⟩
  have hX := Boxed.of (x0.below hb1) (hT0.later hb1) hb1.size
  have hbw := below_next hb1 hb0
  have HQ := Lib.hid (And.intro hq hbw)
  clear x0 hb0 hT0 hb1 hq hbw hT
  by_cases hr : k < 0 ∨ 1000 < k
  · clear hX
    by_cases h1 : k < 0
    · go_wp2
      go_ret
      exact ⟨rfl, HQ.out.2⟩
    · have h2 : 1000 < k := hr.resolve_left h1
      go_wp2
      go_ret
      exact ⟨rfl, HQ.out.2⟩
  obtain ⟨n, rfl⟩ := Int.eq_ofNat_of_zero_le (show 0 ≤ k by omega)
  have hn : n ≤ 1000 := by omega
  have keepS : ∀ w', Below w1.heap.size w1 w' → (Below w1.heap.size w1 w' ∧ w'.cell? ⟨q, 0, none⟩ = some (.int .i64 a0) ∧ w'.cell? ⟨q, 1, none⟩ = some (.int .i64 a1) ∧ w'.cell? ⟨q, 2, none⟩ = some (.bool a2) ∧ w'.cell? ⟨q, 3, none⟩ = some (.int .i64 a3) ∧ w'.cell? ⟨q, 4, none⟩ = some (.slice A4 a5 a6)) := fun w' hb =>
    ⟨hb, (hX.look _ hb).1.1, (hX.look _ hb).1.2.1, (hX.look _ hb).1.2.2.1, (hX.look _ hb).1.2.2.2.1, (hX.look _ hb).1.2.2.2.2⟩
  have gT : ∀ w', Below w1.heap.size w1 w' → TmR w'.heap.size w' [.int .i64 a0, .int .i64 a1, .bool a2, .int .i64 a3, .slice A4 a5 a6] t := fun w' hb => (hX.look _ hb).2
  obtain ⟨L, hL⟩ : ∃ L, L = (List.range (min n t.size)).map fun i : Nat => (0, (i : Int)) := ⟨_, rfl⟩
  have gR : ∀ w' u, Below w1.heap.size w1 w' → SlV w' 2 u n (pkcs (List.replicate n ⟨0, 0⟩)) → Calls Try.prog 12 #[.agg #[.int .i64 a0, .int .i64 a1, .bool a2, .int .i64 a3, .slice A4 a5 a6], .int .i64 1, u] w' fun e w'' => ∃ r, e = .returned r ∧ (FRun w1.heap.size L ((t.size : Int) - (L.length : Int))).holds r w'' ∧ Below w'.heap.size w' w'' := fun w' u hb hs => by
    have h := run_any t (List.replicate n ⟨0, 0⟩) w' w'.heap.size _ 1 u (gT w' hb) (Nat.le_refl _) (by omega) (by omega) (by simp; omega) (by omega) (by omega) (by simpa using hs)
    rw [Stl.alone_start, ← hL] at h
    exact h.mono fun e w'' ⟨D, h1, h2, h3⟩ => ⟨_, h1, ⟨D, rfl, own_base h2 hb.size⟩, h3⟩
  have gL : ∀ w', Below w1.heap.size w1 w' → Calls Try.prog 15 #[.agg #[.int .i64 a0, .int .i64 a1, .bool a2, .int .i64 a3, .slice A4 a5 a6]] w' fun e w'' => ∃ v, e = .returned v ∧ SlV w'' 3 v t.size (Sp.acccs t.leaves) ∧ Below w'.heap.size w' w'' := fun w' hb => leaves_any w' _ t (gT w' hb) (by omega)
  have GS := Lib.hid (And.intro gL hL)
  have hS0 := keepS _ (below_drew (Below.refl _ _))
  have hg1 : decide ((n : Int) < 0) = false := by simp
  have hg2 : decide ((1000 : Int) < (n : Int)) = false := by simp; omega
  clear hX gT hr hL gL
  go_wp2_with fail
  refine wp_walk (by kernel_rfl) (by kernel_rfl) (fun w w' => Below w.heap.size w w') (fun w' => (Below w1.heap.size w1 w' ∧ w'.cell? ⟨q, 0, none⟩ = some (.int .i64 a0) ∧ w'.cell? ⟨q, 1, none⟩ = some (.int .i64 a1) ∧ w'.cell? ⟨q, 2, none⟩ = some (.bool a2) ∧ w'.cell? ⟨q, 3, none⟩ = some (.int .i64 a3) ∧ w'.cell? ⟨q, 4, none⟩ = some (.slice A4 a5 a6))) hS0 ?_
  repeat (first | (refine settle_skip (fun _ => by rfl) ?_; (simp only [Act.put, List.setIfInBounds_toArray, List.set_cons_zero, List.set_cons_succ])) | (refine' settle_run (fun _ _ => Below.refl _ _) (fun _ => by rfl) ?_ ?_; rotate_left; (focus (intro ρ w hS hF; (try dsimp only at hS); go_split_ands; go_simp; try with_reducible rfl)); (simp only [Act.put, List.setIfInBounds_toArray, List.set_cons_zero, List.set_cons_succ])))
  (refine settle_known (FSl 2 n (pkcs (List.replicate n ⟨0, 0⟩))) (by rfl) (fun _ => by rfl) ?_ ?_; (focus (intro ρ w hS hF K hK; refine oper_make _ _ _ (.int .i64 0) 2 16 n Try.underlying27 info_pick rfl (by decide) (by omega) (by omega) rfl rfl rfl ?_; intro w' hB' hb' _; exact hK _ _ (by rw [pkcs_zero]; exact SlV.of_blk hB' (by simp) (by omega)) (keepS _ (below_next hb' hS.1)) hb')); (simp only [Act.put, List.setIfInBounds_toArray, List.set_cons_zero, List.set_cons_succ]))
  (refine settle_known (FRun w1.heap.size L ((t.size : Int) - (L.length : Int))) (by rfl) (fun _ => by rfl)  ?_ ?_; (focus (intro ρ w hS hF K hK; (simp only [Act.put, List.setIfInBounds_toArray, List.set_cons_zero, List.set_cons_succ] at hK); go_simp; (refine (gR _ _ hS.1 (hF.1 (by rfl))).mono ?_; rintro e w' ⟨v, rfl, hF', hb'⟩; exact hK _ _ hF' (keepS _ (below_next hb' hS.1)) hb'))); (simp only [Act.put, List.setIfInBounds_toArray, List.set_cons_zero, List.set_cons_succ]))
  (refine settle_known (FRun w1.heap.size L ((t.size : Int) - (L.length : Int))) (by rfl) (fun _ => by rfl)  ?_ ?_; (focus (intro ρ w hS hF K hK; (simp only [Act.put, List.setIfInBounds_toArray, List.set_cons_zero, List.set_cons_succ] at hK); go_simp; exact hK _ _ (hF.1 (by rfl)) hS (Below.refl _ _))); (simp only [Act.put, List.setIfInBounds_toArray, List.set_cons_zero, List.set_cons_succ]))
  (refine settle_known (FRow w1.heap.size 38 2 L.length (donecs L)) (by rfl) (fun _ => by rfl)  ?_ ?_; (focus (intro ρ w hS hF K hK; (simp only [Act.put, List.setIfInBounds_toArray, List.set_cons_zero, List.set_cons_succ] at hK); go_simp; (obtain ⟨D2, hD2, hD3⟩ := hF.1 (by rfl); rw [hD2] at hK ⊢; go_simp; exact hK _ _ hD3 hS (Below.refl _ _)))); (simp only [Act.put, List.setIfInBounds_toArray, List.set_cons_zero, List.set_cons_succ]))
  (refine' settle_step (fun _ => by rfl) ?_ ?_; rotate_left; (focus (intro ρ w hS hF K hK; (simp only [Act.put, List.setIfInBounds_toArray, List.set_cons_zero, List.set_cons_succ] at hK); go_simp; (obtain ⟨D2, hD2, hD3⟩ := hF.2.1 (by rfl)); rw [hD2] at hK ⊢; go_simp; have hS' := hS; have hE' := Below.refl w.heap.size w; exact hK _ hS' hE')); (simp only [Act.put, List.setIfInBounds_toArray, List.set_cons_zero, List.set_cons_succ]))
  (refine' settle_step (fun _ => by rfl) ?_ ?_; rotate_left; (focus (intro ρ w hS hF K hK; (simp only [Act.put, List.setIfInBounds_toArray, List.set_cons_zero, List.set_cons_succ] at hK); go_simp; (obtain ⟨D2, hD2, hD3⟩ := hF.2.1 (by rfl)); rw [hD2] at hK ⊢; go_simp; have hS' := hS; have hE' := Below.refl w.heap.size w; exact hK _ hS' hE')); (simp only [Act.put, List.setIfInBounds_toArray, List.set_cons_zero, List.set_cons_succ]))
  (refine settle_known (FRow w1.heap.size 38 2 L.length (donecs L)) (by rfl) (fun _ => by rfl)  ?_ ?_; (focus (intro ρ w hS hF K hK; (simp only [Act.put, List.setIfInBounds_toArray, List.set_cons_zero, List.set_cons_succ] at hK); go_simp; exact hK _ _ (hF.1 (by rfl)) hS (Below.refl _ _))); (simp only [Act.put, List.setIfInBounds_toArray, List.set_cons_zero, List.set_cons_succ]))
  repeat (first | (refine settle_skip (fun _ => by rfl) ?_; (simp only [Act.put, List.setIfInBounds_toArray, List.set_cons_zero, List.set_cons_succ])) | (refine' settle_run (fun _ _ => Below.refl _ _) (fun _ => by rfl) ?_ ?_; rotate_left; (focus (intro ρ w hS hF; (try dsimp only at hS); go_split_ands; go_simp; try with_reducible rfl)); (simp only [Act.put, List.setIfInBounds_toArray, List.set_cons_zero, List.set_cons_succ])))
  refine settle_nil ?_
  intro ρ w4 hS hF
  have hC := hF 5 (FRow w1.heap.size 38 2 L.length (donecs L)) (by repeat (first | exact List.mem_cons_self | apply List.mem_cons_of_mem))
  obtain ⟨hb4, c0, c1, c2, c3, c4⟩ := hS
  obtain ⟨PC, cC, eC, hcC, hmC⟩ := own_slice hC
  have hC1 := SlV.of_own hC
  have gL4 := GS.out.1 w4 hb4
  have hbE := below_self HQ.out.2 hb4
  dsimp only
  rw [eC] at hC1 ⊢
  have hlen : L.length = min n t.size := by rw [GS.out.2]; simp
  have HL := Lib.hid hlen
  clear hF eC hC gR hS0 keepS hlen
  unfold maxLen at hmC
  go_wp2_with fail
  refine gL4.mono ?_
  rintro e w5 ⟨v5, rfl, ⟨A5, c5, rfl, hle5, hm5, -, -⟩, hb5⟩
  have hC5 := hC1.below hb5
  have hbF := below_self hbE hb5
  clear hC1 hbE gL4 c0 c1 c2 c3 c4 hb4 hb5
  unfold maxLen at hm5
  obtain ⟨N, hN⟩ : ∃ N, N = L.length := ⟨_, rfl⟩
  obtain ⟨S, hS⟩ : ∃ S, S = t.size := ⟨_, rfl⟩
  have hget : ∀ k, k < N → L[k]? = some (0, (k : Int)) := fun k hk => by
    rw [hN, HL.out] at hk
    rw [GS.out.2, List.getElem?_map, List.getElem?_range hk]
    rfl
  have hNm : N = min n S := by rw [hN, hS]; exact HL.out
  rw [← hN] at hC5 hcC
  rw [← hS] at hle5 hlv
  rw [← hN, ← hS]
  have g1 : ((N : Int) == min (n : Int) (S : Int)) = true := by simp; omega
  have g2 : min (n : Int) (S : Int) = (N : Int) := by omega
  have HG := Lib.hid hget
  have hNS : N ≤ S := by omega
  clear hN hS hget hNm
  go_wp2_with fail
  go_loopw [32] (fun i wr => ∃ k : Nat, k ≤ N ∧ i = .int .i64 (k : Int) ∧ Below w5.heap.size w5 wr) (fun i _ => N - (intOf i).toNat)
  case atStart => exact ⟨0, Nat.zero_le _, rfl, Below.refl _ _⟩
  case round =>
    obtain ⟨k, hk, rfl, hb⟩ := hrel
    by_cases hlt : k < N
    · obtain ⟨gx1, gx2⟩ := donecs_get _ _ _ (HG.out k hlt)
      obtain ⟨_, _, e5, -, -, -, hcc⟩ := hC5.below hb
      injection e5 with e5 _ e6
      subst e5 e6
      obtain ⟨b, o, rfl, hbl, hcell⟩ := hcc.at_ (fun e => by rw [e] at gx1; simp at gx1)
      have c1 := hcell _ _ gx1
      have c2 := hcell _ _ gx2
      rw [← Nat.add_assoc] at c2
      have hb' := below_alloc hb (.cells #[.int .i64 0, .int .i64 (k : Int)] 38)
      clear hcell hcc gx1 gx2 hC5 hb g1 g2
      go_wp2_with fail
      go_roundw
      case rel => exact ⟨k + 1, by omega, by go_num, hb'⟩
      case measure => simp [intOf]; omega
    · obtain rfl : k = N := by omega
      have hbZ := below_self hbF hb
      clear hC5 hb hbF
      go_wp2
      go_ret
      exact ⟨rfl, hbZ⟩
end Go.Proofs.Ytajddbmmbhdnfaa
