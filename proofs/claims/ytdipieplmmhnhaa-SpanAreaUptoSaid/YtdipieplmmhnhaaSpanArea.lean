/-
  Spans, widths and work: the two laws, walked.
-/
import Derived.Test.YtdipieplmmhnhaaSpanLaw
namespace Go.Proofs.Ytdipieplmmhnhaa
set_option linter.unusedVariables false
set_option linter.unusedSimpArgs false
open Go.RowKit

set_option maxHeartbeats 4000000 in
theorem spanArea_walk (w : World) (cs : List Value) (t : Sp.T) (hT : TmR w.heap.size w cs t) (hn : t.size ≤ 4194304) :
    Calls Try.prog 3 #[.agg cs.toArray] w fun e w' => e = .returned (.bool true) ∧ Below w.heap.size w w' := by
  obtain ⟨a0, a1, a2, a3, A4, a5, a6, rfl, -, -⟩ := hT.form
  have hP := Blk.new w 26 (tcells a0 a1 a2 a3 A4 a5 a6)
  have s1 := hT.alloc (Nat.le_refl _) (.cells (tcells a0 a1 a2 a3 A4 a5 a6).toArray 26)
  have hb0 : Below w.heap.size w (w.alloc (.cells (tcells a0 a1 a2 a3 A4 a5 a6).toArray 26)) := below_alloc (Below.refl _ _) _
  have hB1 : w.heap.size ≤ (w.alloc (.cells (tcells a0 a1 a2 a3 A4 a5 a6).toArray 26)).heap.size := by simp
  unfold tcells at s1 hP hb0 hB1 ⊢
  clear hT
  have u1 := t.span_le
  have u2 := t.width_le
  have u3 := t.area
  have u4 := t.zero
  have hwork := fun w' (h : TmR w.heap.size w' [.int .i64 a0, .int .i64 a1, .bool a2, .int .i64 a3, .slice A4 a5 a6] t) hb => work_any w.heap.size w' _ t h hb hn
  have hspan := fun w' (h : TmR w.heap.size w' [.int .i64 a0, .int .i64 a1, .bool a2, .int .i64 a3, .slice A4 a5 a6] t) hb => span_any w.heap.size w' _ t h hb hn
  have hwid := fun w' (h : TmR w.heap.size w' [.int .i64 a0, .int .i64 a1, .bool a2, .int .i64 a3, .slice A4 a5 a6] t) hb => width_any w.heap.size w' _ t h hb hn
  obtain ⟨s, hs⟩ : ∃ s, s = t.span := ⟨_, rfl⟩
  obtain ⟨b, hb⟩ : ∃ b, b = t.width := ⟨_, rfl⟩
  obtain ⟨k, hk⟩ : ∃ k, k = t.size := ⟨_, rfl⟩
  simp only [← hs, ← hb, ← hk] at u1 u2 u3 u4 hwork hspan hwid hn
  clear hs hb hk
  go_enter Try.func3, Try.ntmps3
  go_wp2_with fail
  refine (alive5_any _).mono ?_
  rintro e w1 ⟨rfl, hb1⟩
  have hbw := below_next hb1 hb0
  have s2 := s1.later (hb1.mono hB1)
  have hP1 := hP.below (by simpa using hb1)
  have hB2 : w.heap.size ≤ w1.heap.size := by have := hb1.size; simp at this; omega
  obtain ⟨q, hq⟩ : ∃ q, q = w.heap.size := ⟨_, rfl⟩
  rw [← hq] at hP1 hwork hspan hwid s2 hB2 ⊢
  clear s1 hP hb0 hB1 hb1
  have keepS : ∀ w', Below w1.heap.size w1 w' → (Below w1.heap.size w1 w' ∧ w'.cell? ⟨q, 0, none⟩ = some (.int .i64 a0) ∧ w'.cell? ⟨q, 1, none⟩ = some (.int .i64 a1) ∧ w'.cell? ⟨q, 2, none⟩ = some (.bool a2) ∧ w'.cell? ⟨q, 3, none⟩ = some (.int .i64 a3) ∧ w'.cell? ⟨q, 4, none⟩ = some (.slice A4 a5 a6)) := fun w' hb =>
    ⟨hb, by rw [(hP1.below hb).cell]; rfl, by rw [(hP1.below hb).cell]; rfl, by rw [(hP1.below hb).cell]; rfl, by rw [(hP1.below hb).cell]; rfl, by rw [(hP1.below hb).cell]; rfl⟩
  have g1 := fun w' (hb : Below w1.heap.size w1 w') => (hwork w' (s2.later (hb.mono hB2)) (Nat.le_trans hB2 hb.size)).mono (fun e w'' h => (⟨h.1, keepS w'' (below_next h.2 hb)⟩ : _ ∧ _))
  have g2 := fun w' (hb : Below w1.heap.size w1 w') => (hspan w' (s2.later (hb.mono hB2)) (Nat.le_trans hB2 hb.size)).mono (fun e w'' h => (⟨h.1, keepS w'' (below_next h.2 hb)⟩ : _ ∧ _))
  have g3 := fun w' (hb : Below w1.heap.size w1 w') => (hwid w' (s2.later (hb.mono hB2)) (Nat.le_trans hB2 hb.size)).mono (fun e w'' h => (⟨h.1, keepS w'' (below_next h.2 hb)⟩ : _ ∧ _))
  have hd := keepS _ (below_drew (Below.refl _ _))
  clear hwork hspan hwid s2 hP1 hq
  go_wp2_with fail
  refine wp_walk (by kernel_rfl) (by kernel_rfl) (fun _ _ => True) (fun w' => Below w1.heap.size w1 w' ∧ w'.cell? ⟨q, 0, none⟩ = some (.int .i64 a0) ∧ w'.cell? ⟨q, 1, none⟩ = some (.int .i64 a1) ∧ w'.cell? ⟨q, 2, none⟩ = some (.bool a2) ∧ w'.cell? ⟨q, 3, none⟩ = some (.int .i64 a3) ∧ w'.cell? ⟨q, 4, none⟩ = some (.slice A4 a5 a6)) hd ?_
  repeat (first | (refine settle_skip (fun _ => by rfl) ?_; (simp only [Act.put, List.setIfInBounds_toArray, List.set_cons_zero, List.set_cons_succ])) | (refine' settle_run (fun _ _ => trivial) (fun _ => by rfl) ?_ ?_; rotate_left; (focus (intro ρ w hS hF; (try dsimp only at hS); go_split_ands; go_simp; try with_reducible rfl)); (simp only [Act.put, List.setIfInBounds_toArray, List.set_cons_zero, List.set_cons_succ])) | (refine' settle_step (fun _ => by rfl) ?_ ?_; rotate_left; (focus (intro ρ w hS hF K hK; (simp only [Act.put, List.setIfInBounds_toArray, List.set_cons_zero, List.set_cons_succ] at hK); go_simp; first | (go_at_call 14; refine (g1 _ hS.1).mono ?_; rintro e w' ⟨rfl, hS'⟩; have hE' := True.intro; exact hK _ hS' hE') | (go_at_call 15; refine (g2 _ hS.1).mono ?_; rintro e w' ⟨rfl, hS'⟩; have hE' := True.intro; exact hK _ hS' hE') | (go_at_call 16; refine (g3 _ hS.1).mono ?_; rintro e w' ⟨rfl, hS'⟩; have hE' := True.intro; exact hK _ hS' hE'))); (simp only [Act.put, List.setIfInBounds_toArray, List.set_cons_zero, List.set_cons_succ])))
  refine settle_nil ?_
  intro ρ wS hS _
  have hbS := below_self hbw hS.1
  clear g1 g2 g3 keepS hd hS hbw hB2
  by_cases hbig : 1048576 < k
  · clear u1 u2 u3 u4
    go_wp2
    go_ret
    exact ⟨rfl, hbS⟩
  · have hmul : (s : Int) * (b : Int) = ((s * b : Nat) : Int) := by simp
    obtain ⟨z, hz⟩ : ∃ z, z = s * b := ⟨_, rfl⟩
    have hzb : z ≤ 1099511627776 := by rw [hz]; exact Nat.le_trans (Nat.mul_le_mul (show s ≤ 1048576 by omega) (show b ≤ 1048576 by omega)) (by decide)
    rw [← hz] at u3 hmul
    have q1 : IntKind.i64.wrap ((s : Int) * (b : Int)) = (z : Int) := by rw [hmul]; exact IntWalk.i64_in _ (by omega)
    have q2 : wrap64 ((s : Int) * (b : Int)) = (z : Int) := by rw [hmul]; exact IntWalk.wrap64_in _ (by omega)
    clear hz
    by_cases hk0 : k = 0
    · have hs0 : s = 0 := u4.1.1 hk0
      have hb0 : b = 0 := u4.2.1 hk0
      subst hk0 hs0 hb0
      clear u4 u1 u2
      go_wp2
      go_ret
      exact ⟨rfl, hbS⟩
    · have hs0 : s ≠ 0 := fun h => hk0 (u4.1.2 h)
      have hb0 : b ≠ 0 := fun h => hk0 (u4.2.2 h)
      have e1 : ((k : Int) == 0) = false := by simpa using hk0
      have e2 : ((s : Int) == 0) = false := by simpa using hs0
      have e3 : ((b : Int) == 0) = false := by simpa using hb0
      clear u4 hk0 hs0 hb0
      go_wp2
      go_ret
      exact ⟨rfl, hbS⟩
end Go.Proofs.Ytdipieplmmhnhaa
