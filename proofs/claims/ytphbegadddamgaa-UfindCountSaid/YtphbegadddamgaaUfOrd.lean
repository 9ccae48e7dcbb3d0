/-
  The order of joins is no matter: the law, walked to its end.
-/
import Derived.Test.YtphbegadddamgaaUfOrd0
namespace Go.Proofs.Ytphbegadddamgaa
set_option linter.unusedVariables false
set_option linter.unusedSimpArgs false
open Go.RowKit

set_option maxHeartbeats 4000000 in
theorem ufindOrder_walk (v : Value) (ops : List Uf.Op) (n i j : Int) (w : World) (h : SlV w 3 v ops.length (Ufd.opcs ops)) (hr : ops.length ≤ 5864062014804) :
    Calls Try.prog 14 #[.int .i64 n, v, .int .i64 i, .int .i64 j] w fun e w' => e = .returned (.bool true) ∧ Below w.heap.size w w' := by
  obtain ⟨A, c, rfl, hle, hm, hlen, hc⟩ := h
  unfold maxLen at hm
  have h : SlV w 3 (.slice A ops.length c) ops.length (Ufd.opcs ops) := ⟨A, c, rfl, hle, by unfold maxLen; exact hm, hlen, hc⟩
  clear hlen hc
  -- whatever is asked has one answer
  obtain ⟨r, hr1, hr2⟩ : ∃ r : Int, (∀ w' v', SlV w' 3 v' ops.length (Ufd.opcs ops) → Calls Try.prog 32 #[.int .i64 n, v', .agg #[.int .i64 2, .int .i64 i, .int .i64 j]] w' fun e w'' => e = .returned (.int .i64 r) ∧ Below w'.heap.size w' w'') ∧
      (∀ w' v', SlV w' 3 v' ops.length (Ufd.opcs (ops.reverse.map Ufd.swap)) → Calls Try.prog 32 #[.int .i64 n, v', .agg #[.int .i64 2, .int .i64 i, .int .i64 j]] w' fun e w'' => e = .returned (.int .i64 r) ∧ Below w'.heap.size w' w'') := by
    have hl : (ops.reverse.map Ufd.swap).length = ops.length := by simp
    by_cases hn : n < 0 ∨ 200 < n
    · exact ⟨-2, fun w' v' hv => asks_bad v' ops n ⟨2, i, j⟩ w' hn hv hr, fun w' v' hv => asks_bad v' (ops.reverse.map Ufd.swap) n ⟨2, i, j⟩ w' hn (by rw [hl]; exact hv) (by rw [hl]; exact hr)⟩
    · obtain ⟨n, rfl⟩ := Int.eq_ofNat_of_zero_le (show 0 ≤ n by omega)
      refine ⟨Uf.ans (Uf.after (Uf.start n) ops) ⟨2, i, j⟩, fun w' v' hv => asks_any v' ops n ⟨2, i, j⟩ w' (by omega) hv hr, fun w' v' hv => ?_⟩
      rw [← Uf.ans_other]
      exact asks_any v' (Uf.other ops) n ⟨2, i, j⟩ w' (by omega) (by rw [show (Uf.other ops).length = ops.length by simp [Uf.other]]; exact hv) (by rw [show (Uf.other ops).length = ops.length by simp [Uf.other]]; exact hr)
  go_enter Try.func14, Try.ntmps14
  go_wp2_with fail
  refine (alive8_any _).mono ?_
  rintro e w1 ⟨rfl, hb1⟩
  go_wp2_with fail
  refine (Ufd.clone_op _ _ _ _ (show SlV w1 3 (.slice A ops.length c) ops.length (Ufd.opcs ops) from (by repeat (first | assumption | exact SlI.nil _ _ | exact SlV.nil _ _ | apply SlI.alloc | apply SlV.alloc | (apply SlI.step; assumption) | (apply SlV.step; assumption)))) (Ufd.opcs_one _) (by omega)).mono ?_
  rintro e w2 ⟨u, rfl, hown, hb2⟩
  have hb : Below w.heap.size w w2 := (by repeat (first | exact Below.refl _ _ | assumption | apply below_alloc | apply below_drew | (apply below_next; assumption)))
  have hb12 : w1.heap.size ≤ w2.heap.size := hb2.size
  have hsl : SlV w2 3 (.slice A ops.length c) ops.length (Ufd.opcs ops) := h.below hb
  have hw1 : w.heap.size ≤ w1.heap.size := hb1.size
  clear hb1 hb2
  have hown' := hown
  rcases hown'.2 with ⟨rfl, h0⟩ | ⟨g, cap, cur, rfl, hbg, hg, hle2, hm2, -, -⟩
  · have h0' : ops = [] := List.eq_nil_of_length_eq_zero h0
    subst h0'
    have hs0 : SlV w2 3 (.slice none 0 0) ([] : List Uf.Op).length (Ufd.opcs (([] : List Uf.Op).reverse.map Ufd.swap)) := SlV.nil _ _
    clear hown hown' h0
    go_wp2_with fail
    refine (reverse_nil _ _).mono ?_
    rintro e w3 ⟨rfl, rfl⟩
    go_wp2_with fail
    go_loop [20] (fun i => i = .int .i64 0) (fun i => 0)
    case atStart => exact rfl
    case round =>
      obtain rfl := hrel
      go_wp2_with fail
      have hP := Blk.new w3 60 [.int .i64 2, .int .i64 i, .int .i64 j]
      have hbP : Below w.heap.size w (w3.alloc (.cells #[.int .i64 2, .int .i64 i, .int .i64 j] 60)) := below_alloc hb _
      have hA := hsl.alloc (.cells #[.int .i64 2, .int .i64 i, .int .i64 j] 60)
      have hO := hs0.alloc (.cells #[.int .i64 2, .int .i64 i, .int .i64 j] 60)
      have hP' : Blk (w3.alloc (.cells #[.int .i64 2, .int .i64 i, .int .i64 j] 60)) w3.heap.size 60 [.int .i64 2, .int .i64 i, .int .i64 j] := hP
      clear hP hb hsl hs0
      generalize (w3.alloc (.cells #[.int .i64 2, .int .i64 i, .int .i64 j] 60)) = w4 at hP' hbP hA hO ⊢
      obtain ⟨q, hq⟩ : ∃ q, q = w3.heap.size := ⟨_, rfl⟩
      rw [← hq] at hP' ⊢
      clear hq
      have keepS : ∀ w', Below w4.heap.size w4 w' → (Below w4.heap.size w4 w' ∧ w'.cell? ⟨q, 0, none⟩ = some (.int .i64 2) ∧ w'.cell? ⟨q, 1, none⟩ = some (.int .i64 i) ∧ w'.cell? ⟨q, 2, none⟩ = some (.int .i64 j)) := fun w' hb =>
        ⟨hb, by rw [(hP'.below hb).cell]; rfl, by rw [(hP'.below hb).cell]; rfl, by rw [(hP'.below hb).cell]; rfl⟩
      have hrr : ∀ w' v', (Below w4.heap.size w4 w' ∧ w'.cell? ⟨q, 0, none⟩ = some (.int .i64 2) ∧ w'.cell? ⟨q, 1, none⟩ = some (.int .i64 i) ∧ w'.cell? ⟨q, 2, none⟩ = some (.int .i64 j)) → (v' = .slice A ([] : List Uf.Op).length c ∨ v' = .slice none 0 0) → Calls Try.prog 32 #[.int .i64 n, v', .agg #[.int .i64 2, .int .i64 i, .int .i64 j]] w' fun e w' => e = .returned (.int .i64 r) ∧ (Below w4.heap.size w4 w' ∧ w'.cell? ⟨q, 0, none⟩ = some (.int .i64 2) ∧ w'.cell? ⟨q, 1, none⟩ = some (.int .i64 i) ∧ w'.cell? ⟨q, 2, none⟩ = some (.int .i64 j)) := fun w' v' hS hv => by
        rcases hv with rfl | rfl
        · exact (hr1 _ _ (hA.below hS.1)).mono fun e w'' ⟨h1, h2⟩ => ⟨h1, keepS _ (below_next h2 hS.1)⟩
        · exact (hr2 _ _ (hO.below hS.1)).mono fun e w'' ⟨h1, h2⟩ => ⟨h1, keepS _ (below_next h2 hS.1)⟩
      refine wp_walk (by kernel_rfl) (by kernel_rfl) (fun _ _ => True) (fun w' => Below w4.heap.size w4 w' ∧ w'.cell? ⟨q, 0, none⟩ = some (.int .i64 2) ∧ w'.cell? ⟨q, 1, none⟩ = some (.int .i64 i) ∧ w'.cell? ⟨q, 2, none⟩ = some (.int .i64 j)) (keepS _ (below_drew (Below.refl _ _))) ?_
      repeat (first | (refine settle_skip (fun _ => by rfl) ?_; (simp only [Act.put, List.setIfInBounds_toArray, List.set_cons_zero, List.set_cons_succ])) | (refine' settle_run (fun _ _ => trivial) (fun _ => by rfl) ?_ ?_; rotate_left; (focus (intro ρ w hS hF; (try dsimp only at hS); go_split_ands; go_simp; try with_reducible rfl)); (simp only [Act.put, List.setIfInBounds_toArray, List.set_cons_zero, List.set_cons_succ])) | (refine' settle_step (fun _ => by rfl) ?_ ?_; rotate_left; (focus (intro ρ w hS hF K hK; (simp only [Act.put, List.setIfInBounds_toArray, List.set_cons_zero, List.set_cons_succ] at hK); go_simp; first | (go_at_call 32; refine (hrr _ _ hS (by first | exact .inl rfl | exact .inr rfl)).mono ?_; rintro e w' ⟨rfl, hS'⟩; have hE' := True.intro; exact hK _ hS' hE'))); (simp only [Act.put, List.setIfInBounds_toArray, List.set_cons_zero, List.set_cons_succ])))
      refine settle_nil ?_
      intro ρ wS hS _
      clear hrr hr1 hr2 keepS hA hO hP'
      go_wp2
      go_ret
      exact ⟨rfl, below_self hbP hS.1⟩
  · clear hg cur hown'
    have hm3 := hm2
    unfold maxLen at hm3
    go_wp2_with fail
    refine (reverse_uf _ g ops.length cap ops _ hown rfl hm2 hle2).mono ?_
    rintro e w3 ⟨rfl, hown3, hk3⟩
    have hb3 : Below w.heap.size w w3 := hb.trans (hk3.below hb.size (fun i hi => by omega))
    clear hown hk3 hsl hb
    go_wp2_with fail
    go_loopw [20] (fun i wr => ∃ k : Nat, k ≤ ops.length ∧ i = .int .i64 k ∧ wr.ownsRow w1.heap.size 60 3 (.slice (some ⟨g, 0, none⟩) ops.length cap) ops.length (Ufd.opcs (Ufd.swapped ops.reverse k)) ∧ Below w.heap.size w wr) (fun i _ => ops.length - (intOf i).toNat)
    case atStart => exact ⟨0, Nat.zero_le _, rfl, by rw [Ufd.swapped_zero]; exact hown3, hb3⟩
    case round =>
      clear hown3 hb3
      obtain ⟨k, hk, rfl, hown, hb⟩ := hrel
      by_cases hlt : k < ops.length
      · have hll : (Ufd.swapped ops.reverse k).length = ops.length := by rw [Ufd.swapped_length]; simp
        have hsucc := Ufd.swapped_succ ops.reverse k (by simpa using hlt)
        have HS := Lib.hid hsucc
        have HLL := Lib.hid hll
        obtain ⟨a0, a1, a2⟩ := Ufd.op_cell hown (i := k) (by omega)
        have f := Ufd.op_free hown
        have f1 := f (k * 3 + 1)
        have f2 := f (k * 3 + 2)
        clear f hsucc hll a0
        go_wp2_with fail
        go_region
        have h1 := Ufd.own_swap hown k (by rw [HLL.out]; omega)
        rw [HS.out] at h1
        have ho := h1.1.drew
        have hkk : Below w.heap.size w (World.drew _) := (hb.trans (h1.2.below hb.size (fun i hi => by omega))).drew
        generalize World.drew _ = w9 at ho hkk ⊢
        clear h1 a1 a2 f1 f2 hown hb
        go_wp2
        go_roundw
        case rel => exact ⟨k + 1, by omega, by go_num, ho, hkk⟩
        case measure => simp [intOf]; omega
      · have hk' : k = ops.reverse.length := by simp; omega
        rw [hk', Ufd.swapped_all] at hown
        have hs0 := SlV.of_own hown
        have hsl := h.below hb
        clear hk' hown h
        go_wp2_with fail
        have hP := Blk.new wr 60 [.int .i64 2, .int .i64 i, .int .i64 j]
        have hbP : Below w.heap.size w (wr.alloc (.cells #[.int .i64 2, .int .i64 i, .int .i64 j] 60)) := below_alloc hb _
        have hA := hsl.alloc (.cells #[.int .i64 2, .int .i64 i, .int .i64 j] 60)
        have hO := hs0.alloc (.cells #[.int .i64 2, .int .i64 i, .int .i64 j] 60)
        have hP' : Blk (wr.alloc (.cells #[.int .i64 2, .int .i64 i, .int .i64 j] 60)) wr.heap.size 60 [.int .i64 2, .int .i64 i, .int .i64 j] := hP
        clear hP hb hsl hs0
        generalize (wr.alloc (.cells #[.int .i64 2, .int .i64 i, .int .i64 j] 60)) = w4 at hP' hbP hA hO ⊢
        obtain ⟨q, hq⟩ : ∃ q, q = wr.heap.size := ⟨_, rfl⟩
        rw [← hq] at hP' ⊢
        clear hq
        have keepS : ∀ w', Below w4.heap.size w4 w' → (Below w4.heap.size w4 w' ∧ w'.cell? ⟨q, 0, none⟩ = some (.int .i64 2) ∧ w'.cell? ⟨q, 1, none⟩ = some (.int .i64 i) ∧ w'.cell? ⟨q, 2, none⟩ = some (.int .i64 j)) := fun w' hb =>
          ⟨hb, by rw [(hP'.below hb).cell]; rfl, by rw [(hP'.below hb).cell]; rfl, by rw [(hP'.below hb).cell]; rfl⟩
        have hrr : ∀ w' v', (Below w4.heap.size w4 w' ∧ w'.cell? ⟨q, 0, none⟩ = some (.int .i64 2) ∧ w'.cell? ⟨q, 1, none⟩ = some (.int .i64 i) ∧ w'.cell? ⟨q, 2, none⟩ = some (.int .i64 j)) → (v' = .slice A ops.length c ∨ v' = .slice (some ⟨g, 0, none⟩) ops.length cap) → Calls Try.prog 32 #[.int .i64 n, v', .agg #[.int .i64 2, .int .i64 i, .int .i64 j]] w' fun e w' => e = .returned (.int .i64 r) ∧ (Below w4.heap.size w4 w' ∧ w'.cell? ⟨q, 0, none⟩ = some (.int .i64 2) ∧ w'.cell? ⟨q, 1, none⟩ = some (.int .i64 i) ∧ w'.cell? ⟨q, 2, none⟩ = some (.int .i64 j)) := fun w' v' hS hv => by
          rcases hv with rfl | rfl
          · exact (hr1 _ _ (hA.below hS.1)).mono fun e w'' ⟨h1, h2⟩ => ⟨h1, keepS _ (below_next h2 hS.1)⟩
          · exact (hr2 _ _ (hO.below hS.1)).mono fun e w'' ⟨h1, h2⟩ => ⟨h1, keepS _ (below_next h2 hS.1)⟩
        refine wp_walk (by kernel_rfl) (by kernel_rfl) (fun _ _ => True) (fun w' => Below w4.heap.size w4 w' ∧ w'.cell? ⟨q, 0, none⟩ = some (.int .i64 2) ∧ w'.cell? ⟨q, 1, none⟩ = some (.int .i64 i) ∧ w'.cell? ⟨q, 2, none⟩ = some (.int .i64 j)) (keepS _ (below_drew (Below.refl _ _))) ?_
        repeat (first | (refine settle_skip (fun _ => by rfl) ?_; (simp only [Act.put, List.setIfInBounds_toArray, List.set_cons_zero, List.set_cons_succ])) | (refine' settle_run (fun _ _ => trivial) (fun _ => by rfl) ?_ ?_; rotate_left; (focus (intro ρ w hS hF; (try dsimp only at hS); go_split_ands; go_simp; try with_reducible rfl)); (simp only [Act.put, List.setIfInBounds_toArray, List.set_cons_zero, List.set_cons_succ])) | (refine' settle_step (fun _ => by rfl) ?_ ?_; rotate_left; (focus (intro ρ w hS hF K hK; (simp only [Act.put, List.setIfInBounds_toArray, List.set_cons_zero, List.set_cons_succ] at hK); go_simp; first | (go_at_call 32; refine (hrr _ _ hS (by first | exact .inl rfl | exact .inr rfl)).mono ?_; rintro e w' ⟨rfl, hS'⟩; have hE' := True.intro; exact hK _ hS' hE'))); (simp only [Act.put, List.setIfInBounds_toArray, List.set_cons_zero, List.set_cons_succ])))
        refine settle_nil ?_
        intro ρ wS hS _
        clear hrr hr1 hr2 keepS hA hO hP'
        go_wp2
        go_ret
        exact ⟨rfl, below_self hbP hS.1⟩
end Go.Proofs.Ytphbegadddamgaa
