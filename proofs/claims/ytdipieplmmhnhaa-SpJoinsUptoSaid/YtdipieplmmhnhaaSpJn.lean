/-
  Brackets are no matter: the law, walked.
-/
import Derived.Test.YtdipieplmmhnhaaSpAlive
import Derived.Test.YtdipieplmmhnhaaSettle3
import Derived.Test.YtdipieplmmhnhaaSpLaws
namespace Go.Proofs.Ytdipieplmmhnhaa
set_option linter.unusedVariables false
set_option linter.unusedSimpArgs false
open Go.RowKit

theorem tm_up {B B' : Nat} {w : World} {cs : List Value} {t : Sp.T} (h : TmR B w cs t) (hB : B ≤ B') : TmR B' w cs t := h.keep hB (fun _ _ => rfl)

/-- a value that reads as a term -/
def IsT (t : Sp.T) (v : Value) (w : World) : Prop := ∃ cs, v = .agg cs.toArray ∧ TmR w.heap.size w cs t
theorem IsT.later {t : Sp.T} {v : Value} {w w' : World} (h : IsT t v w) (hb : Below w.heap.size w w') : IsT t v w' := by
  obtain ⟨cs, h1, h2⟩ := h
  exact ⟨cs, h1, tm_up (h2.later hb) hb.size⟩
def FT (t : Sp.T) : Fact (fun w w' => Below w.heap.size w w') := ⟨IsT t, fun _ _ _ h k => h.later k⟩
def FP (B : Nat) : Fact (fun w w' => Below w.heap.size w w') := ⟨fun v w => ∃ g, v = .pointer (some ⟨g, 0, none⟩) ∧ B ≤ g ∧ Blk w g 26 [.int .i64 0, .int .i64 0, .bool false, .int .i64 0, .slice none 0 0], fun _ _ _ ⟨g, h1, h2, h3⟩ k => ⟨g, h1, h2, h3.below k⟩⟩

theorem five_one {a b d : Int} {c : Bool} {A : Option Addr} {n m : Nat} : ∀ v ∈ tcells a b c d A n m, v.oneCell' = true := by
  intro v hv
  simp only [tcells, List.mem_cons, List.not_mem_nil, or_false] at hv
  rcases hv with rfl | rfl | rfl | rfl | rfl <;> rfl

set_option maxHeartbeats 2000000 in
theorem twoj_any (par : Bool) (w : World) (q : Nat) (xs ys : List Value) (tx ty : Sp.T) (hq : w.cell? ⟨q, 0, none⟩ = some (.int .i64 (if par then 3 else 2))) (hx : TmR w.heap.size w xs tx) (hy : TmR w.heap.size w ys ty) :
    Calls Try.prog 26 #[.agg xs.toArray, .agg ys.toArray, .pointer (some ⟨q, 0, none⟩)] w fun e w' => ∃ v, e = .returned v ∧ IsT (.two par tx ty) v w' ∧ Below w.heap.size w w' := by
  obtain ⟨a0, a1, a2, a3, A4, a5, a6, rfl, -, -⟩ := hx.form
  obtain ⟨b0, b1, b2, b3, B4, b5, b6, rfl, -, -⟩ := hy.form
  unfold tcells at hx hy ⊢
  obtain ⟨k, hk⟩ : ∃ k : Int, k = if par then 3 else 2 := ⟨_, rfl⟩
  rw [← hk] at hq
  have HK := Lib.hid hk
  clear hk
  have hqw : q < w.heap.size := World.block_lt_of_cell? w _ hq
  obtain ⟨x0, x1, hz, hk0⟩ := two_allocs w [.int .i64 a0, .int .i64 a1, .bool a2, .int .i64 a3, .slice A4 a5 a6] [.int .i64 b0, .int .i64 b1, .bool b2, .int .i64 b3, .slice B4 b5 b6] 26 26
  have hb0 := hk0.below (Nat.le_refl _) (fun i h => h.elim)
  have x2 := Blk.new ((w.alloc (.cells [Value.int .i64 a0, .int .i64 a1, .bool a2, .int .i64 a3, .slice A4 a5 a6].toArray 26)).alloc (.cells [Value.int .i64 b0, .int .i64 b1, .bool b2, .int .i64 b3, .slice B4 b5 b6].toArray 26)) 26 [.int .i64 0, .int .i64 0, .bool false, .int .i64 0, .slice none 0 0]
  rw [hz] at x2
  have hb1 := below_alloc hb0 (.cells [Value.int .i64 0, .int .i64 0, .bool false, .int .i64 0, .slice none 0 0].toArray 26)
  have x3 := (Blk.new (((w.alloc (.cells [Value.int .i64 a0, .int .i64 a1, .bool a2, .int .i64 a3, .slice A4 a5 a6].toArray 26)).alloc (.cells [Value.int .i64 b0, .int .i64 b1, .bool b2, .int .i64 b3, .slice B4 b5 b6].toArray 26)).alloc (.cells [Value.int .i64 0, .int .i64 0, .bool false, .int .i64 0, .slice none 0 0].toArray 26)) 26 ([Value.int .i64 a0, .int .i64 a1, .bool a2, .int .i64 a3, .slice A4 a5 a6] ++ [Value.int .i64 b0, .int .i64 b1, .bool b2, .int .i64 b3, .slice B4 b5 b6]))
  have x2' := x2.alloc (.cells ([Value.int .i64 a0, .int .i64 a1, .bool a2, .int .i64 a3, .slice A4 a5 a6] ++ [Value.int .i64 b0, .int .i64 b1, .bool b2, .int .i64 b3, .slice B4 b5 b6]).toArray 26)
  have hb2 := below_alloc hb1 (.cells ([Value.int .i64 a0, .int .i64 a1, .bool a2, .int .i64 a3, .slice A4 a5 a6] ++ [Value.int .i64 b0, .int .i64 b1, .bool b2, .int .i64 b3, .slice B4 b5 b6]).toArray 26)
  have hq3 := (hb1.cell (p := ⟨q, 0, none⟩) hqw).trans hq
  simp only [List.cons_append, List.nil_append] at x3 x2' hb2 hq3
  have hz3 : (((w.alloc (.cells #[Value.int .i64 a0, .int .i64 a1, .bool a2, .int .i64 a3, .slice A4 a5 a6] 26)).alloc (.cells #[Value.int .i64 b0, .int .i64 b1, .bool b2, .int .i64 b3, .slice B4 b5 b6] 26)).alloc (.cells #[Value.int .i64 0, .int .i64 0, .bool false, .int .i64 0, .slice none 0 0] 26)).heap.size = w.heap.size + 1 + 1 + 1 := by simp
  rw [hz3] at x3
  clear x0 x1 hz hk0 x2 hb0 hb1 hz3
  go_enter Try.func26, Try.ntmps26
  go_wp2_with (refine wpl_put_blk x2' (tcells k 0 false 0 (some ⟨w.heap.size + 1 + 1 + 1, 0, none⟩) 2 2) (by kernel_rfl) rfl five_one rfl rfl rfl rfl ?_; intro w2 hB2 hg2)
  have hbe : Below w.heap.size w w2 := hb2.trans (below_of_grown hg2 hb2.size (by omega))
  have x4 := x3.grown hg2 (fun e => by injection e with e; omega)
  refine ret_blk hB2 rfl rfl Try.underlying26 rfl (by kernel_rfl) rfl ⟨_, rfl, ⟨_, rfl, ?_⟩, hbe⟩
  rw [HK.out]
  exact TmR.made par x4 rfl x4.lt (tm_up (hx.later hbe) hbe.size) (tm_up (hy.later hbe) hbe.size)
end Go.Proofs.Ytdipieplmmhnhaa
