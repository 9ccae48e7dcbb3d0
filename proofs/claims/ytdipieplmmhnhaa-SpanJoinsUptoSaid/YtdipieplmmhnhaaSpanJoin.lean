/-
  Spans are added one behind the other, and the longer one counts side by side: the law, walked.
-/
import Derived.Test.YtdipieplmmhnhaaSpanLaw
namespace Go.Proofs.Ytdipieplmmhnhaa
set_option linter.unusedVariables false
set_option linter.unusedSimpArgs false
open Go.RowKit

set_option maxRecDepth 100000 in
set_option maxHeartbeats 16000000 in
theorem spanJoins_walk (w : World) (csa csb : List Value) (ta tb : Sp.T) (hTa : TmR w.heap.size w csa ta) (hTb : TmR w.heap.size w csb tb) (hn : ta.size + tb.size ≤ 4194304) :
    Calls Try.prog 4 #[.agg csa.toArray, .agg csb.toArray] w fun e w' => e = .returned (.bool true) ∧ Below w.heap.size w w' := by
  obtain ⟨a0, a1, a2, a3, A4, a5, a6, rfl, -, -⟩ := hTa.form
  obtain ⟨b0, b1, b2, b3, B4, b5, b6, rfl, -, -⟩ := hTb.form
  unfold tcells at hTa hTb ⊢
  have hA0 := (Blk.new w 26 [.int .i64 a0, .int .i64 a1, .bool a2, .int .i64 a3, .slice A4 a5 a6]).alloc (.cells ([.int .i64 b0, .int .i64 b1, .bool b2, .int .i64 b3, .slice B4 b5 b6] : List Value).toArray 26)
  have hB0 := Blk.new (w.alloc (.cells ([.int .i64 a0, .int .i64 a1, .bool a2, .int .i64 a3, .slice A4 a5 a6] : List Value).toArray 26)) 26 [.int .i64 b0, .int .i64 b1, .bool b2, .int .i64 b3, .slice B4 b5 b6]
  have hb0 : Below w.heap.size w ((w.alloc (.cells ([.int .i64 a0, .int .i64 a1, .bool a2, .int .i64 a3, .slice A4 a5 a6] : List Value).toArray 26)).alloc (.cells ([.int .i64 b0, .int .i64 b1, .bool b2, .int .i64 b3, .slice B4 b5 b6] : List Value).toArray 26)) := below_alloc (below_alloc (Below.refl _ _) _) _
  have hs1 : (w.alloc (.cells ([.int .i64 a0, .int .i64 a1, .bool a2, .int .i64 a3, .slice A4 a5 a6] : List Value).toArray 26)).heap.size = w.heap.size + 1 := by simp
  rw [hs1] at hB0
  go_enter Try.func4, Try.ntmps4
  go_wp2_with fail
  refine (alive5_any _).mono ?_
  rintro e w1 ⟨rfl, hb1⟩
  have hA1 := hA0.below (by simpa using hb1)
  have hB1 := hB0.below (by simpa using hb1)
  have hbw := below_next hb1 hb0
  have hw1 : w.heap.size + 1 < w1.heap.size := hB1.lt
  have ra := (hTa.later hbw)
  have rb := (hTb.later hbw)
  clear hA0 hB0 hb0 hs1 hb1 hTa hTb
  obtain ⟨qb, hqb⟩ : ∃ q, q = w.heap.size + 1 := ⟨_, rfl⟩
  obtain ⟨qa, hqa⟩ : ∃ q, q = w.heap.size := ⟨_, rfl⟩
  obtain ⟨B, hBw⟩ : ∃ B, B = w.heap.size := ⟨_, rfl⟩
  rw [← hBw] at ra rb
  have hBle : B ≤ w1.heap.size := by omega
  rw [← hqb] at hB1 ⊢
  rw [← hqa] at hA1 ⊢
  have hwa : qa < w1.heap.size := by omega
  have hwb : qb < w1.heap.size := by omega
  clear hqa hqb hw1 hBw
  have ca := fun i => hA1.cell i
  have cb := fun i => hB1.cell i
  have x0 := ca 0
  have x1 := ca 1
  have x2 := ca 2
  have x3 := ca 3
  have x4 := ca 4
  have y0 := cb 0
  have y1 := cb 1
  have y2 := cb 2
  have y3 := cb 3
  have y4 := cb 4
  simp only [List.getElem?_cons_zero, List.getElem?_cons_succ] at x0 x1 x2 x3 x4 y0 y1 y2 y3 y4
  clear ca cb
  have hK1 := (((Blk.new w1 26 ([.int .i64 a0, .int .i64 a1, .bool a2, .int .i64 a3, .slice A4 a5 a6] ++ [.int .i64 b0, .int .i64 b1, .bool b2, .int .i64 b3, .slice B4 b5 b6])).alloc (.cells #[.int .i64 2, .int .i64 0, .bool false, .int .i64 0, .slice (some ⟨w1.heap.size, 0, none⟩) 2 2] 26)).alloc (.cells ([.int .i64 a0, .int .i64 a1, .bool a2, .int .i64 a3, .slice A4 a5 a6] ++ [.int .i64 b0, .int .i64 b1, .bool b2, .int .i64 b3, .slice B4 b5 b6] : List Value).toArray 26)).alloc (.cells #[.int .i64 3, .int .i64 0, .bool false, .int .i64 0, .slice (some ⟨w1.heap.size + 1 + 1, 0, none⟩) 2 2] 26)
  have hT1 := ((Blk.new (w1.alloc (.cells ([.int .i64 a0, .int .i64 a1, .bool a2, .int .i64 a3, .slice A4 a5 a6] ++ [.int .i64 b0, .int .i64 b1, .bool b2, .int .i64 b3, .slice B4 b5 b6] : List Value).toArray 26)) 26 [.int .i64 2, .int .i64 0, .bool false, .int .i64 0, .slice (some ⟨w1.heap.size, 0, none⟩) 2 2]).alloc (.cells ([.int .i64 a0, .int .i64 a1, .bool a2, .int .i64 a3, .slice A4 a5 a6] ++ [.int .i64 b0, .int .i64 b1, .bool b2, .int .i64 b3, .slice B4 b5 b6] : List Value).toArray 26)).alloc (.cells #[.int .i64 3, .int .i64 0, .bool false, .int .i64 0, .slice (some ⟨w1.heap.size + 1 + 1, 0, none⟩) 2 2] 26)
  have hK2 := (Blk.new ((w1.alloc (.cells ([.int .i64 a0, .int .i64 a1, .bool a2, .int .i64 a3, .slice A4 a5 a6] ++ [.int .i64 b0, .int .i64 b1, .bool b2, .int .i64 b3, .slice B4 b5 b6] : List Value).toArray 26)).alloc (.cells #[.int .i64 2, .int .i64 0, .bool false, .int .i64 0, .slice (some ⟨w1.heap.size, 0, none⟩) 2 2] 26)) 26 ([.int .i64 a0, .int .i64 a1, .bool a2, .int .i64 a3, .slice A4 a5 a6] ++ [.int .i64 b0, .int .i64 b1, .bool b2, .int .i64 b3, .slice B4 b5 b6])).alloc (.cells #[.int .i64 3, .int .i64 0, .bool false, .int .i64 0, .slice (some ⟨w1.heap.size + 1 + 1, 0, none⟩) 2 2] 26)
  have hT2 := Blk.new (((w1.alloc (.cells ([.int .i64 a0, .int .i64 a1, .bool a2, .int .i64 a3, .slice A4 a5 a6] ++ [.int .i64 b0, .int .i64 b1, .bool b2, .int .i64 b3, .slice B4 b5 b6] : List Value).toArray 26)).alloc (.cells #[.int .i64 2, .int .i64 0, .bool false, .int .i64 0, .slice (some ⟨w1.heap.size, 0, none⟩) 2 2] 26)).alloc (.cells ([.int .i64 a0, .int .i64 a1, .bool a2, .int .i64 a3, .slice A4 a5 a6] ++ [.int .i64 b0, .int .i64 b1, .bool b2, .int .i64 b3, .slice B4 b5 b6] : List Value).toArray 26)) 26 [.int .i64 3, .int .i64 0, .bool false, .int .i64 0, .slice (some ⟨w1.heap.size + 1 + 1, 0, none⟩) 2 2]
  have z1 : (w1.alloc (.cells ([.int .i64 a0, .int .i64 a1, .bool a2, .int .i64 a3, .slice A4 a5 a6] ++ [.int .i64 b0, .int .i64 b1, .bool b2, .int .i64 b3, .slice B4 b5 b6] : List Value).toArray 26)).heap.size = w1.heap.size + 1 := by simp
  have z2 : ((w1.alloc (.cells ([.int .i64 a0, .int .i64 a1, .bool a2, .int .i64 a3, .slice A4 a5 a6] ++ [.int .i64 b0, .int .i64 b1, .bool b2, .int .i64 b3, .slice B4 b5 b6] : List Value).toArray 26)).alloc (.cells #[.int .i64 2, .int .i64 0, .bool false, .int .i64 0, .slice (some ⟨w1.heap.size, 0, none⟩) 2 2] 26)).heap.size = w1.heap.size + 1 + 1 := by simp
  have z3 : (((w1.alloc (.cells ([.int .i64 a0, .int .i64 a1, .bool a2, .int .i64 a3, .slice A4 a5 a6] ++ [.int .i64 b0, .int .i64 b1, .bool b2, .int .i64 b3, .slice B4 b5 b6] : List Value).toArray 26)).alloc (.cells #[.int .i64 2, .int .i64 0, .bool false, .int .i64 0, .slice (some ⟨w1.heap.size, 0, none⟩) 2 2] 26)).alloc (.cells ([.int .i64 a0, .int .i64 a1, .bool a2, .int .i64 a3, .slice A4 a5 a6] ++ [.int .i64 b0, .int .i64 b1, .bool b2, .int .i64 b3, .slice B4 b5 b6] : List Value).toArray 26)).heap.size = w1.heap.size + 1 + 1 + 1 := by simp
  rw [z1] at hT1
  rw [z2] at hK2
  rw [z3] at hT2
  have hbW1 : Below w1.heap.size w1 ((((w1.alloc (.cells ([.int .i64 a0, .int .i64 a1, .bool a2, .int .i64 a3, .slice A4 a5 a6] ++ [.int .i64 b0, .int .i64 b1, .bool b2, .int .i64 b3, .slice B4 b5 b6] : List Value).toArray 26)).alloc (.cells #[.int .i64 2, .int .i64 0, .bool false, .int .i64 0, .slice (some ⟨w1.heap.size, 0, none⟩) 2 2] 26)).alloc (.cells ([.int .i64 a0, .int .i64 a1, .bool a2, .int .i64 a3, .slice A4 a5 a6] ++ [.int .i64 b0, .int .i64 b1, .bool b2, .int .i64 b3, .slice B4 b5 b6] : List Value).toArray 26)).alloc (.cells #[.int .i64 3, .int .i64 0, .bool false, .int .i64 0, .slice (some ⟨w1.heap.size + 1 + 1, 0, none⟩) 2 2] 26)) := below_alloc (below_alloc (below_alloc (below_alloc (Below.refl _ _) _) _) _) _
  have sA0 := hA1.below hbW1
  have sB0 := hB1.below hbW1
  have ra2 := ra.later (hbW1.mono (by omega))
  have rb2 := rb.later (hbW1.mono (by omega))
  clear z1 z2 z3 hA1 hB1 ra rb
  go_wp2_with fail
  simp only [List.cons_append, List.nil_append] at hK1 hT1 hK2 hT2 hbW1 sA0 sB0 ra2 rb2
  generalize ((((w1.alloc (.cells #[.int .i64 a0, .int .i64 a1, .bool a2, .int .i64 a3, .slice A4 a5 a6, .int .i64 b0, .int .i64 b1, .bool b2, .int .i64 b3, .slice B4 b5 b6] 26)).alloc (.cells #[.int .i64 2, .int .i64 0, .bool false, .int .i64 0, .slice (some ⟨w1.heap.size, 0, none⟩) 2 2] 26)).alloc (.cells #[.int .i64 a0, .int .i64 a1, .bool a2, .int .i64 a3, .slice A4 a5 a6, .int .i64 b0, .int .i64 b1, .bool b2, .int .i64 b3, .slice B4 b5 b6] 26)).alloc (.cells #[.int .i64 3, .int .i64 0, .bool false, .int .i64 0, .slice (some ⟨w1.heap.size + 1 + 1, 0, none⟩) 2 2] 26)) = W at hK1 hT1 hK2 hT2 hbW1 sA0 sB0 ra2 rb2 ⊢
  have hbW := below_next hbW1 hbw
  have hK1' : Blk W w1.heap.size 26 ([.int .i64 a0, .int .i64 a1, .bool a2, .int .i64 a3, .slice A4 a5 a6] ++ [.int .i64 b0, .int .i64 b1, .bool b2, .int .i64 b3, .slice B4 b5 b6]) := hK1
  have hK2' : Blk W (w1.heap.size + 1 + 1) 26 ([.int .i64 a0, .int .i64 a1, .bool a2, .int .i64 a3, .slice A4 a5 a6] ++ [.int .i64 b0, .int .i64 b1, .bool b2, .int .i64 b3, .slice B4 b5 b6]) := hK2
  obtain ⟨k1, hk1⟩ : ∃ k, k = w1.heap.size := ⟨_, rfl⟩
  rw [← hk1] at hK1' hT1 hK2' hT2 ⊢
  obtain ⟨qp, hqp⟩ : ∃ k, k = k1 + 1 + 1 + 1 := ⟨_, rfl⟩
  rw [← hqp] at hT2 ⊢
  obtain ⟨k2, hk2⟩ : ∃ k, k = k1 + 1 + 1 := ⟨_, rfl⟩
  rw [← hk2] at hK2' hT2 ⊢
  obtain ⟨qs, hqs⟩ : ∃ k, k = k1 + 1 := ⟨_, rfl⟩
  rw [← hqs] at hT1 ⊢
  have hA := sA0
  have hB := sB0
  have hS := hT1
  have hP := hT2
  have hBW : B ≤ W.heap.size := Nat.le_trans hBle hbW1.size
  have rA := ra2.up hBW
  have rB := rb2.up hBW
  have rS : TmR W.heap.size W [.int .i64 2, .int .i64 0, .bool false, .int .i64 0, .slice (some ⟨k1, 0, none⟩) 2 2] (.two false ta tb) := TmR.made false hK1' rfl hK1'.lt rA rB
  have rP : TmR W.heap.size W [.int .i64 3, .int .i64 0, .bool false, .int .i64 0, .slice (some ⟨k2, 0, none⟩) 2 2] (.two true ta tb) := TmR.made true hK2' rfl hK2'.lt rA rB
  have hn2 : (Sp.T.two false ta tb).size ≤ 4194304 := by rw [Sp.T.size_two]; exact hn
  have hn3 : (Sp.T.two true ta tb).size ≤ 4194304 := by rw [Sp.T.size_two]; exact hn
  have keepS : ∀ w', Below W.heap.size W w' → (Below W.heap.size W w' ∧ w'.cell? ⟨qa, 0, none⟩ = some (.int .i64 a0) ∧ w'.cell? ⟨qa, 1, none⟩ = some (.int .i64 a1) ∧ w'.cell? ⟨qa, 2, none⟩ = some (.bool a2) ∧ w'.cell? ⟨qa, 3, none⟩ = some (.int .i64 a3) ∧ w'.cell? ⟨qa, 4, none⟩ = some (.slice A4 a5 a6) ∧ w'.cell? ⟨qb, 0, none⟩ = some (.int .i64 b0) ∧ w'.cell? ⟨qb, 1, none⟩ = some (.int .i64 b1) ∧ w'.cell? ⟨qb, 2, none⟩ = some (.bool b2) ∧ w'.cell? ⟨qb, 3, none⟩ = some (.int .i64 b3) ∧ w'.cell? ⟨qb, 4, none⟩ = some (.slice B4 b5 b6) ∧ w'.cell? ⟨qs, 0, none⟩ = some (.int .i64 2) ∧ w'.cell? ⟨qs, 1, none⟩ = some (.int .i64 0) ∧ w'.cell? ⟨qs, 2, none⟩ = some (.bool false) ∧ w'.cell? ⟨qs, 3, none⟩ = some (.int .i64 0) ∧ w'.cell? ⟨qs, 4, none⟩ = some (.slice (some ⟨k1, 0, none⟩) 2 2) ∧ w'.cell? ⟨qp, 0, none⟩ = some (.int .i64 3) ∧ w'.cell? ⟨qp, 1, none⟩ = some (.int .i64 0) ∧ w'.cell? ⟨qp, 2, none⟩ = some (.bool false) ∧ w'.cell? ⟨qp, 3, none⟩ = some (.int .i64 0) ∧ w'.cell? ⟨qp, 4, none⟩ = some (.slice (some ⟨k2, 0, none⟩) 2 2)) := fun w' hb =>
    ⟨hb, by rw [(hA.below hb).cell]; rfl, by rw [(hA.below hb).cell]; rfl, by rw [(hA.below hb).cell]; rfl, by rw [(hA.below hb).cell]; rfl, by rw [(hA.below hb).cell]; rfl, by rw [(hB.below hb).cell]; rfl, by rw [(hB.below hb).cell]; rfl, by rw [(hB.below hb).cell]; rfl, by rw [(hB.below hb).cell]; rfl, by rw [(hB.below hb).cell]; rfl, by rw [(hS.below hb).cell]; rfl, by rw [(hS.below hb).cell]; rfl, by rw [(hS.below hb).cell]; rfl, by rw [(hS.below hb).cell]; rfl, by rw [(hS.below hb).cell]; rfl, by rw [(hP.below hb).cell]; rfl, by rw [(hP.below hb).cell]; rfl, by rw [(hP.below hb).cell]; rfl, by rw [(hP.below hb).cell]; rfl, by rw [(hP.below hb).cell]; rfl⟩
  have g1 : ∀ w' (x : List Value) (z : Int), Below W.heap.size W w' → ((x = [.int .i64 a0, .int .i64 a1, .bool a2, .int .i64 a3, .slice A4 a5 a6] ∧ z = (ta.size : Int)) ∨ (x = [.int .i64 b0, .int .i64 b1, .bool b2, .int .i64 b3, .slice B4 b5 b6] ∧ z = (tb.size : Int)) ∨ (x = [.int .i64 2, .int .i64 0, .bool false, .int .i64 0, .slice (some ⟨k1, 0, none⟩) 2 2] ∧ z = (ta.size : Int) + (tb.size : Int)) ∨ (x = [.int .i64 3, .int .i64 0, .bool false, .int .i64 0, .slice (some ⟨k2, 0, none⟩) 2 2] ∧ z = (ta.size : Int) + (tb.size : Int))) → Calls Try.prog 14 #[.agg x.toArray] w' fun e w'' => e = .returned (.int .i64 z) ∧ (Below W.heap.size W w'' ∧ w''.cell? ⟨qa, 0, none⟩ = some (.int .i64 a0) ∧ w''.cell? ⟨qa, 1, none⟩ = some (.int .i64 a1) ∧ w''.cell? ⟨qa, 2, none⟩ = some (.bool a2) ∧ w''.cell? ⟨qa, 3, none⟩ = some (.int .i64 a3) ∧ w''.cell? ⟨qa, 4, none⟩ = some (.slice A4 a5 a6) ∧ w''.cell? ⟨qb, 0, none⟩ = some (.int .i64 b0) ∧ w''.cell? ⟨qb, 1, none⟩ = some (.int .i64 b1) ∧ w''.cell? ⟨qb, 2, none⟩ = some (.bool b2) ∧ w''.cell? ⟨qb, 3, none⟩ = some (.int .i64 b3) ∧ w''.cell? ⟨qb, 4, none⟩ = some (.slice B4 b5 b6) ∧ w''.cell? ⟨qs, 0, none⟩ = some (.int .i64 2) ∧ w''.cell? ⟨qs, 1, none⟩ = some (.int .i64 0) ∧ w''.cell? ⟨qs, 2, none⟩ = some (.bool false) ∧ w''.cell? ⟨qs, 3, none⟩ = some (.int .i64 0) ∧ w''.cell? ⟨qs, 4, none⟩ = some (.slice (some ⟨k1, 0, none⟩) 2 2) ∧ w''.cell? ⟨qp, 0, none⟩ = some (.int .i64 3) ∧ w''.cell? ⟨qp, 1, none⟩ = some (.int .i64 0) ∧ w''.cell? ⟨qp, 2, none⟩ = some (.bool false) ∧ w''.cell? ⟨qp, 3, none⟩ = some (.int .i64 0) ∧ w''.cell? ⟨qp, 4, none⟩ = some (.slice (some ⟨k2, 0, none⟩) 2 2)) := fun w' x z hb hx => by
    rcases hx with ⟨rfl, rfl⟩ | ⟨rfl, rfl⟩ | ⟨rfl, rfl⟩ | ⟨rfl, rfl⟩
    · exact (work_any _ w' _ ta (rA.later hb) hb.size (by omega)).mono fun e w'' h => ⟨h.1, keepS _ (below_next h.2 hb)⟩
    · exact (work_any _ w' _ tb (rB.later hb) hb.size (by omega)).mono fun e w'' h => ⟨h.1, keepS _ (below_next h.2 hb)⟩
    · exact (work_any _ w' _ (.two false ta tb) (rS.later hb) hb.size hn2).mono fun e w'' h => ⟨h.1.trans (ret_int (by rw [Sp.T.size_two]; omega)), keepS _ (below_next h.2 hb)⟩
    · exact (work_any _ w' _ (.two true ta tb) (rP.later hb) hb.size hn3).mono fun e w'' h => ⟨h.1.trans (ret_int (by rw [Sp.T.size_two]; omega)), keepS _ (below_next h.2 hb)⟩
  have g2 : ∀ w' (x : List Value) (z : Int), Below W.heap.size W w' → ((x = [.int .i64 a0, .int .i64 a1, .bool a2, .int .i64 a3, .slice A4 a5 a6] ∧ z = (ta.span : Int)) ∨ (x = [.int .i64 b0, .int .i64 b1, .bool b2, .int .i64 b3, .slice B4 b5 b6] ∧ z = (tb.span : Int)) ∨ (x = [.int .i64 2, .int .i64 0, .bool false, .int .i64 0, .slice (some ⟨k1, 0, none⟩) 2 2] ∧ z = (ta.span : Int) + (tb.span : Int)) ∨ (x = [.int .i64 3, .int .i64 0, .bool false, .int .i64 0, .slice (some ⟨k2, 0, none⟩) 2 2] ∧ z = max (ta.span : Int) (tb.span : Int))) → Calls Try.prog 15 #[.agg x.toArray] w' fun e w'' => e = .returned (.int .i64 z) ∧ (Below W.heap.size W w'' ∧ w''.cell? ⟨qa, 0, none⟩ = some (.int .i64 a0) ∧ w''.cell? ⟨qa, 1, none⟩ = some (.int .i64 a1) ∧ w''.cell? ⟨qa, 2, none⟩ = some (.bool a2) ∧ w''.cell? ⟨qa, 3, none⟩ = some (.int .i64 a3) ∧ w''.cell? ⟨qa, 4, none⟩ = some (.slice A4 a5 a6) ∧ w''.cell? ⟨qb, 0, none⟩ = some (.int .i64 b0) ∧ w''.cell? ⟨qb, 1, none⟩ = some (.int .i64 b1) ∧ w''.cell? ⟨qb, 2, none⟩ = some (.bool b2) ∧ w''.cell? ⟨qb, 3, none⟩ = some (.int .i64 b3) ∧ w''.cell? ⟨qb, 4, none⟩ = some (.slice B4 b5 b6) ∧ w''.cell? ⟨qs, 0, none⟩ = some (.int .i64 2) ∧ w''.cell? ⟨qs, 1, none⟩ = some (.int .i64 0) ∧ w''.cell? ⟨qs, 2, none⟩ = some (.bool false) ∧ w''.cell? ⟨qs, 3, none⟩ = some (.int .i64 0) ∧ w''.cell? ⟨qs, 4, none⟩ = some (.slice (some ⟨k1, 0, none⟩) 2 2) ∧ w''.cell? ⟨qp, 0, none⟩ = some (.int .i64 3) ∧ w''.cell? ⟨qp, 1, none⟩ = some (.int .i64 0) ∧ w''.cell? ⟨qp, 2, none⟩ = some (.bool false) ∧ w''.cell? ⟨qp, 3, none⟩ = some (.int .i64 0) ∧ w''.cell? ⟨qp, 4, none⟩ = some (.slice (some ⟨k2, 0, none⟩) 2 2)) := fun w' x z hb hx => by
    rcases hx with ⟨rfl, rfl⟩ | ⟨rfl, rfl⟩ | ⟨rfl, rfl⟩ | ⟨rfl, rfl⟩
    · exact (span_any _ w' _ ta (rA.later hb) hb.size (by omega)).mono fun e w'' h => ⟨h.1, keepS _ (below_next h.2 hb)⟩
    · exact (span_any _ w' _ tb (rB.later hb) hb.size (by omega)).mono fun e w'' h => ⟨h.1, keepS _ (below_next h.2 hb)⟩
    · exact (span_any _ w' _ (.two false ta tb) (rS.later hb) hb.size hn2).mono fun e w'' h => ⟨h.1.trans (ret_int (by simp [Sp.T.span])), keepS _ (below_next h.2 hb)⟩
    · exact (span_any _ w' _ (.two true ta tb) (rP.later hb) hb.size hn3).mono fun e w'' h => ⟨h.1.trans (ret_int (by simp [Sp.T.span]; omega)), keepS _ (below_next h.2 hb)⟩
  have g3 : ∀ w' (x : List Value) (z : Int), Below W.heap.size W w' → ((x = [.int .i64 a0, .int .i64 a1, .bool a2, .int .i64 a3, .slice A4 a5 a6] ∧ z = (ta.width : Int)) ∨ (x = [.int .i64 b0, .int .i64 b1, .bool b2, .int .i64 b3, .slice B4 b5 b6] ∧ z = (tb.width : Int)) ∨ (x = [.int .i64 2, .int .i64 0, .bool false, .int .i64 0, .slice (some ⟨k1, 0, none⟩) 2 2] ∧ z = max (ta.width : Int) (tb.width : Int)) ∨ (x = [.int .i64 3, .int .i64 0, .bool false, .int .i64 0, .slice (some ⟨k2, 0, none⟩) 2 2] ∧ z = (ta.width : Int) + (tb.width : Int))) → Calls Try.prog 16 #[.agg x.toArray] w' fun e w'' => e = .returned (.int .i64 z) ∧ (Below W.heap.size W w'' ∧ w''.cell? ⟨qa, 0, none⟩ = some (.int .i64 a0) ∧ w''.cell? ⟨qa, 1, none⟩ = some (.int .i64 a1) ∧ w''.cell? ⟨qa, 2, none⟩ = some (.bool a2) ∧ w''.cell? ⟨qa, 3, none⟩ = some (.int .i64 a3) ∧ w''.cell? ⟨qa, 4, none⟩ = some (.slice A4 a5 a6) ∧ w''.cell? ⟨qb, 0, none⟩ = some (.int .i64 b0) ∧ w''.cell? ⟨qb, 1, none⟩ = some (.int .i64 b1) ∧ w''.cell? ⟨qb, 2, none⟩ = some (.bool b2) ∧ w''.cell? ⟨qb, 3, none⟩ = some (.int .i64 b3) ∧ w''.cell? ⟨qb, 4, none⟩ = some (.slice B4 b5 b6) ∧ w''.cell? ⟨qs, 0, none⟩ = some (.int .i64 2) ∧ w''.cell? ⟨qs, 1, none⟩ = some (.int .i64 0) ∧ w''.cell? ⟨qs, 2, none⟩ = some (.bool false) ∧ w''.cell? ⟨qs, 3, none⟩ = some (.int .i64 0) ∧ w''.cell? ⟨qs, 4, none⟩ = some (.slice (some ⟨k1, 0, none⟩) 2 2) ∧ w''.cell? ⟨qp, 0, none⟩ = some (.int .i64 3) ∧ w''.cell? ⟨qp, 1, none⟩ = some (.int .i64 0) ∧ w''.cell? ⟨qp, 2, none⟩ = some (.bool false) ∧ w''.cell? ⟨qp, 3, none⟩ = some (.int .i64 0) ∧ w''.cell? ⟨qp, 4, none⟩ = some (.slice (some ⟨k2, 0, none⟩) 2 2)) := fun w' x z hb hx => by
    rcases hx with ⟨rfl, rfl⟩ | ⟨rfl, rfl⟩ | ⟨rfl, rfl⟩ | ⟨rfl, rfl⟩
    · exact (width_any _ w' _ ta (rA.later hb) hb.size (by omega)).mono fun e w'' h => ⟨h.1, keepS _ (below_next h.2 hb)⟩
    · exact (width_any _ w' _ tb (rB.later hb) hb.size (by omega)).mono fun e w'' h => ⟨h.1, keepS _ (below_next h.2 hb)⟩
    · exact (width_any _ w' _ (.two false ta tb) (rS.later hb) hb.size hn2).mono fun e w'' h => ⟨h.1.trans (ret_int (by simp [Sp.T.width]; omega)), keepS _ (below_next h.2 hb)⟩
    · exact (width_any _ w' _ (.two true ta tb) (rP.later hb) hb.size hn3).mono fun e w'' h => ⟨h.1.trans (ret_int (by simp [Sp.T.width])), keepS _ (below_next h.2 hb)⟩
  have v1 := ta.span_le
  have v2 := tb.span_le
  have v3 := ta.width_le
  have v4 := tb.width_le
  obtain ⟨ka, hka⟩ : ∃ k, k = ta.size := ⟨_, rfl⟩
  obtain ⟨kb, hkb⟩ : ∃ k, k = tb.size := ⟨_, rfl⟩
  obtain ⟨sa, hsa⟩ : ∃ k, k = ta.span := ⟨_, rfl⟩
  obtain ⟨sb, hsb⟩ : ∃ k, k = tb.span := ⟨_, rfl⟩
  obtain ⟨ba, hba⟩ : ∃ k, k = ta.width := ⟨_, rfl⟩
  obtain ⟨bb, hbb⟩ : ∃ k, k = tb.width := ⟨_, rfl⟩
  rw [← hka, ← hkb] at g1
  rw [← hsa, ← hsb] at g2
  rw [← hba, ← hbb] at g3
  rw [← hka, ← hkb] at hn
  rw [← hsa, ← hka] at v1
  rw [← hsb, ← hkb] at v2
  rw [← hba, ← hka] at v3
  rw [← hbb, ← hkb] at v4
  have m1 : IntKind.i64.wrap ((ka : Int) + (kb : Int)) = (ka : Int) + (kb : Int) := IntWalk.i64_in _ (by omega)
  have m2 : IntKind.i64.wrap ((sa : Int) + (sb : Int)) = (sa : Int) + (sb : Int) := IntWalk.i64_in _ (by omega)
  have m3 : IntKind.i64.wrap ((ba : Int) + (bb : Int)) = (ba : Int) + (bb : Int) := IntWalk.i64_in _ (by omega)
  have hd := keepS _ (below_drew (Below.refl _ _))
  clear hka hkb hsa hsb hba hbb hqs hk2 hqp hk1 hT1 hT2 hK1 hK2 hK1' hK2' sA0 sB0 ra2 rb2 rA rB rS rP hA hB hS hP hbW1 hbw v1 v2 v3 v4 hn2 hn3 x0 x1 x2 x3 x4 y0 y1 y2 y3 y4
  refine wp_walk (by kernel_rfl) (by kernel_rfl) (fun _ _ => True) (fun w' => Below W.heap.size W w' ∧ w'.cell? ⟨qa, 0, none⟩ = some (.int .i64 a0) ∧ w'.cell? ⟨qa, 1, none⟩ = some (.int .i64 a1) ∧ w'.cell? ⟨qa, 2, none⟩ = some (.bool a2) ∧ w'.cell? ⟨qa, 3, none⟩ = some (.int .i64 a3) ∧ w'.cell? ⟨qa, 4, none⟩ = some (.slice A4 a5 a6) ∧ w'.cell? ⟨qb, 0, none⟩ = some (.int .i64 b0) ∧ w'.cell? ⟨qb, 1, none⟩ = some (.int .i64 b1) ∧ w'.cell? ⟨qb, 2, none⟩ = some (.bool b2) ∧ w'.cell? ⟨qb, 3, none⟩ = some (.int .i64 b3) ∧ w'.cell? ⟨qb, 4, none⟩ = some (.slice B4 b5 b6) ∧ w'.cell? ⟨qs, 0, none⟩ = some (.int .i64 2) ∧ w'.cell? ⟨qs, 1, none⟩ = some (.int .i64 0) ∧ w'.cell? ⟨qs, 2, none⟩ = some (.bool false) ∧ w'.cell? ⟨qs, 3, none⟩ = some (.int .i64 0) ∧ w'.cell? ⟨qs, 4, none⟩ = some (.slice (some ⟨k1, 0, none⟩) 2 2) ∧ w'.cell? ⟨qp, 0, none⟩ = some (.int .i64 3) ∧ w'.cell? ⟨qp, 1, none⟩ = some (.int .i64 0) ∧ w'.cell? ⟨qp, 2, none⟩ = some (.bool false) ∧ w'.cell? ⟨qp, 3, none⟩ = some (.int .i64 0) ∧ w'.cell? ⟨qp, 4, none⟩ = some (.slice (some ⟨k2, 0, none⟩) 2 2)) hd ?_
  repeat (first | (refine settle_skip (fun _ => by rfl) ?_; (simp only [Act.put, List.setIfInBounds_toArray, List.set_cons_zero, List.set_cons_succ])) | (refine' settle_run (fun _ _ => trivial) (fun _ => by rfl) ?_ ?_; rotate_left; (focus (intro ρ w hS hF; (try dsimp only at hS); go_split_ands; go_simp; try with_reducible rfl)); (simp only [Act.put, List.setIfInBounds_toArray, List.set_cons_zero, List.set_cons_succ])) | (refine' settle_step (fun _ => by rfl) ?_ ?_; rotate_left; (focus (intro ρ w hS hF K hK; (simp only [Act.put, List.setIfInBounds_toArray, List.set_cons_zero, List.set_cons_succ] at hK); go_simp; first | (go_at_call 14; refine (g1 _ _ _ hS.1 (by first | exact .inl ⟨rfl, rfl⟩ | exact .inr (.inl ⟨rfl, rfl⟩) | exact .inr (.inr (.inl ⟨rfl, rfl⟩)) | exact .inr (.inr (.inr ⟨rfl, rfl⟩)))).mono ?_; rintro e w' ⟨rfl, hS'⟩; have hE' := True.intro; exact hK _ hS' hE') | (go_at_call 15; refine (g2 _ _ _ hS.1 (by first | exact .inl ⟨rfl, rfl⟩ | exact .inr (.inl ⟨rfl, rfl⟩) | exact .inr (.inr (.inl ⟨rfl, rfl⟩)) | exact .inr (.inr (.inr ⟨rfl, rfl⟩)))).mono ?_; rintro e w' ⟨rfl, hS'⟩; have hE' := True.intro; exact hK _ hS' hE') | (go_at_call 16; refine (g3 _ _ _ hS.1 (by first | exact .inl ⟨rfl, rfl⟩ | exact .inr (.inl ⟨rfl, rfl⟩) | exact .inr (.inr (.inl ⟨rfl, rfl⟩)) | exact .inr (.inr (.inr ⟨rfl, rfl⟩)))).mono ?_; rintro e w' ⟨rfl, hS'⟩; have hE' := True.intro; exact hK _ hS' hE'))); (simp only [Act.put, List.setIfInBounds_toArray, List.set_cons_zero, List.set_cons_succ])))
  refine settle_nil ?_
  intro ρ wS hS _
  have hbS := below_self hbW hS.1
  clear g1 g2 g3 keepS hd hS m1 m2 m3
  go_wp2
  go_ret
  exact ⟨rfl, hbS⟩
end Go.Proofs.Ytdipieplmmhnhaa
