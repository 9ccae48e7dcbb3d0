/-
  Spans, widths and work: the laws, walked.
-/
import Derived.Test.YtdipieplmmhnhaaSpan
namespace Go.Proofs.Ytdipieplmmhnhaa
set_option linter.unusedVariables false
set_option linter.unusedSimpArgs false
open Go.RowKit

theorem TmR.up {B B' : Nat} {w : World} {cs : List Value} {t : Sp.T} (h : TmR B w cs t) (hB : B ≤ B') : TmR B' w cs t := h.keep hB (fun _ _ => rfl)

theorem work_any (B : Nat) (w : World) (cs : List Value) (t : Sp.T) (hT : TmR B w cs t) (hB : B ≤ w.heap.size) (hn : t.size ≤ 4194304) :
    Calls Try.prog 14 #[.agg cs.toArray] w fun e w' => e = .returned (.int .i64 (t.size : Nat)) ∧ Below w.heap.size w w' := by
  obtain ⟨a0, a1, a2, a3, A4, a5, a6, rfl, -, -⟩ := hT.form
  have s1 := (hT.up hB).keep (B' := (w.alloc (.cells (tcells a0 a1 a2 a3 A4 a5 a6).toArray 26)).heap.size) (w' := (w.alloc (.cells (tcells a0 a1 a2 a3 A4 a5 a6).toArray 26))) (by simp) (fun p hp => World.cell?_alloc_lt w _ p hp)
  have hb0 : Below w.heap.size w (w.alloc (.cells (tcells a0 a1 a2 a3 A4 a5 a6).toArray 26)) := below_alloc (Below.refl _ _) _
  unfold tcells at s1 hb0 ⊢
  clear hT
  go_enter Try.func14, Try.ntmps14
  go_wp2_with fail
  refine (leaves_any _ _ t s1 hn).mono ?_
  rintro e w1 ⟨v, rfl, hs, hb⟩
  obtain ⟨A9, c9, rfl, h1, h2, h3, h4⟩ := hs
  unfold maxLen at h2
  clear h3 h4 s1
  go_wp2
  go_ret
  exact ⟨rfl, below_next hb hb0⟩

theorem span_any (B : Nat) (w : World) (cs : List Value) (t : Sp.T) (hT : TmR B w cs t) (hB : B ≤ w.heap.size) (hn : t.size ≤ 4194304) :
    Calls Try.prog 15 #[.agg cs.toArray] w fun e w' => e = .returned (.int .i64 (t.span : Nat)) ∧ Below w.heap.size w w' := by
  obtain ⟨a0, a1, a2, a3, A4, a5, a6, rfl, -, -⟩ := hT.form
  have s1 := hT.alloc hB (.cells (tcells a0 a1 a2 a3 A4 a5 a6).toArray 26)
  have hb0 : Below w.heap.size w (w.alloc (.cells (tcells a0 a1 a2 a3 A4 a5 a6).toArray 26)) := below_alloc (Below.refl _ _) _
  have hB1 : B ≤ (w.alloc (.cells (tcells a0 a1 a2 a3 A4 a5 a6).toArray 26)).heap.size := by simp; omega
  unfold tcells at s1 hb0 hB1 ⊢
  clear hT
  go_enter Try.func15, Try.ntmps15
  go_wp2_with fail
  refine (sum_any true t B _ _ s1 hB1 hn).mono ?_
  rintro e w1 ⟨rfl, hb⟩
  clear s1
  go_wp2
  go_ret
  exact ⟨rfl, below_next hb hb0⟩

theorem width_any (B : Nat) (w : World) (cs : List Value) (t : Sp.T) (hT : TmR B w cs t) (hB : B ≤ w.heap.size) (hn : t.size ≤ 4194304) :
    Calls Try.prog 16 #[.agg cs.toArray] w fun e w' => e = .returned (.int .i64 (t.width : Nat)) ∧ Below w.heap.size w w' := by
  obtain ⟨a0, a1, a2, a3, A4, a5, a6, rfl, -, -⟩ := hT.form
  have s1 := hT.alloc hB (.cells (tcells a0 a1 a2 a3 A4 a5 a6).toArray 26)
  have hb0 : Below w.heap.size w (w.alloc (.cells (tcells a0 a1 a2 a3 A4 a5 a6).toArray 26)) := below_alloc (Below.refl _ _) _
  have hB1 : B ≤ (w.alloc (.cells (tcells a0 a1 a2 a3 A4 a5 a6).toArray 26)).heap.size := by simp; omega
  unfold tcells at s1 hb0 hB1 ⊢
  clear hT
  go_enter Try.func16, Try.ntmps16
  go_wp2_with fail
  refine (sum_any false t B _ _ s1 hB1 hn).mono ?_
  rintro e w1 ⟨rfl, hb⟩
  clear s1
  go_wp2
  go_ret
  exact ⟨rfl, below_next hb hb0⟩

theorem leaf_any (n : Int) (w : World) : Calls Try.prog 29 #[.int .i64 n] w fun e w' => e = .returned (.agg #[.int .i64 1, .int .i64 n, .bool false, .int .i64 0, .slice none 0 0]) ∧ Below w.heap.size w w' := by
  go_enter Try.func29, Try.ntmps29
  have hB0 := Blk.new w 26 [.int .i64 0, .int .i64 0, .bool false, .int .i64 0, .slice none 0 0]
  go_wp2_with (refine wpl_put_blk hB0 [.int .i64 1, .int .i64 n, .bool false, .int .i64 0, .slice none 0 0] (by kernel_rfl) rfl (by intro v hv; simp only [List.mem_cons, List.not_mem_nil, or_false] at hv; rcases hv with rfl | rfl | rfl | rfl | rfl <;> rfl) rfl rfl rfl rfl ?_; intro w2 hB2 hg2)
  have hb : Below w.heap.size w w2 := (below_alloc (Below.refl _ _) _).trans (below_of_grown hg2 (by simp) (Nat.le_refl _))
  exact ret_blk hB2 rfl rfl Try.underlying26 rfl (by kernel_rfl) rfl ⟨rfl, hb⟩

def five : Sp.T := .two false (.two true (.one 1 false 0) (.one 2 false 0)) (.one 3 false 0)
theorem five_is : five.size = 3 ∧ five.span = 2 ∧ five.width = 2 := by decide

theorem kids_cells {w : World} {g : Nat} {t : TypeId} {xs ys : List Value} (h : Blk w g t (xs ++ ys)) (hx : xs.length = 5) : (∀ j u, xs[j]? = some u → w.cell? ⟨g, 0 + j, none⟩ = some u) ∧ (∀ j u, ys[j]? = some u → w.cell? ⟨g, 0 + 5 + j, none⟩ = some u) := by
  refine ⟨fun j u hu => ?_, fun j u hu => ?_⟩
  · have hj := (List.getElem?_eq_some_iff.1 hu).1
    rw [h.cell, List.getElem?_append_left (by omega), Nat.zero_add]
    exact hu
  · rw [h.cell, List.getElem?_append_right (by omega), ← hu]
    congr 1
    omega

/-- a term of two, made by the call -/
theorem TmR.made {B : Nat} {w : World} {g : Nat} {xs ys : List Value} {t0 t1 : Sp.T} {tt : TypeId} (par : Bool) (h : Blk w g tt (xs ++ ys)) (hx : xs.length = 5) (hg : g < B) (r0 : TmR B w xs t0) (r1 : TmR B w ys t1) :
    TmR B w (tcells (if par then 3 else 2) 0 false 0 (some ⟨g, 0, none⟩) 2 2) (.two par t0 t1) :=
  .two par 0 false 0 g 0 2 2 xs ys t0 t1 (Nat.le_refl _) (by unfold maxLen; omega) (Nat.le_refl _) hg (kids_cells h hx).1 (kids_cells h hx).2 r0 r1

theorem alive5_any (w : World) : Calls Try.prog 13 #[] w fun e w' => e = .returned (.bool true) ∧ Below w.heap.size w w' := by
  go_enter Try.func13, Try.ntmps13
  go_wp2_with fail
  refine (leaf_any 1 _).mono ?_
  rintro e w1 ⟨rfl, hb1⟩
  go_wp2_with fail
  refine (leaf_any 2 _).mono ?_
  rintro e w2 ⟨rfl, hb2⟩
  have k1 := Blk.new w2 26 ([.int .i64 1, .int .i64 1, .bool false, .int .i64 0, .slice none 0 0] ++ [.int .i64 1, .int .i64 2, .bool false, .int .i64 0, .slice none 0 0])
  have hb12 : Below w.heap.size w w2 := (by repeat (first | exact Below.refl _ _ | assumption | apply below_alloc | apply below_drew | (apply below_next; assumption)))
  go_wp2_with fail
  refine (leaf_any 3 _).mono ?_
  rintro e w3 ⟨rfl, hb3⟩
  have k1' := k1.below (w' := w3) (by simpa using hb3)
  have hb13 : Below w.heap.size w w3 := below_next hb3 (below_alloc hb12 _)
  have hlt1 := k1'.lt
  obtain ⟨P, hP⟩ : ∃ P, P = w2.heap.size := ⟨_, rfl⟩
  rw [← hP] at k1' hlt1 ⊢
  clear hb3 hb12 hb2 hb1 k1 hP
  have k2 := Blk.new w3 26 ([.int .i64 3, .int .i64 0, .bool false, .int .i64 0, .slice (some ⟨P, 0, none⟩) 2 2] ++ [.int .i64 1, .int .i64 3, .bool false, .int .i64 0, .slice none 0 0])
  have k1'' := (k1'.alloc (.cells ([.int .i64 3, .int .i64 0, .bool false, .int .i64 0, .slice (some ⟨P, 0, none⟩) 2 2] ++ [.int .i64 1, .int .i64 3, .bool false, .int .i64 0, .slice none 0 0] : List Value).toArray 26)).alloc (.cells #[.int .i64 2, .int .i64 0, .bool false, .int .i64 0, .slice (some ⟨w3.heap.size, 0, none⟩) 2 2] 26)
  have k2' := k2.alloc (.cells #[.int .i64 2, .int .i64 0, .bool false, .int .i64 0, .slice (some ⟨w3.heap.size, 0, none⟩) 2 2] 26)
  have k3 := Blk.new (w3.alloc (.cells ([.int .i64 3, .int .i64 0, .bool false, .int .i64 0, .slice (some ⟨P, 0, none⟩) 2 2] ++ [.int .i64 1, .int .i64 3, .bool false, .int .i64 0, .slice none 0 0] : List Value).toArray 26)) 26 [.int .i64 2, .int .i64 0, .bool false, .int .i64 0, .slice (some ⟨w3.heap.size, 0, none⟩) 2 2]
  have hbW : Below w.heap.size w ((w3.alloc (.cells ([.int .i64 3, .int .i64 0, .bool false, .int .i64 0, .slice (some ⟨P, 0, none⟩) 2 2] ++ [.int .i64 1, .int .i64 3, .bool false, .int .i64 0, .slice none 0 0] : List Value).toArray 26)).alloc (.cells #[.int .i64 2, .int .i64 0, .bool false, .int .i64 0, .slice (some ⟨w3.heap.size, 0, none⟩) 2 2] 26)) := below_alloc (below_alloc hb13 _) _
  have hsz : (w3.alloc (.cells ([.int .i64 3, .int .i64 0, .bool false, .int .i64 0, .slice (some ⟨P, 0, none⟩) 2 2] ++ [.int .i64 1, .int .i64 3, .bool false, .int .i64 0, .slice none 0 0] : List Value).toArray 26)).heap.size = w3.heap.size + 1 := by simp
  rw [hsz] at k3
  simp only [List.cons_append, List.nil_append] at k1'' k2' k3 hbW
  go_wp2_with fail
  obtain ⟨W, hW⟩ : ∃ W, W = ((w3.alloc (.cells #[.int .i64 3, .int .i64 0, .bool false, .int .i64 0, .slice (some ⟨P, 0, none⟩) 2 2, .int .i64 1, .int .i64 3, .bool false, .int .i64 0, .slice none 0 0] 26)).alloc (.cells #[.int .i64 2, .int .i64 0, .bool false, .int .i64 0, .slice (some ⟨w3.heap.size, 0, none⟩) 2 2] 26)) := ⟨_, rfl⟩
  have k1W : Blk W P 26 ([.int .i64 1, .int .i64 1, .bool false, .int .i64 0, .slice none 0 0] ++ [.int .i64 1, .int .i64 2, .bool false, .int .i64 0, .slice none 0 0]) := by rw [hW]; exact k1''
  have k2W : Blk W w3.heap.size 26 ([.int .i64 3, .int .i64 0, .bool false, .int .i64 0, .slice (some ⟨P, 0, none⟩) 2 2] ++ [.int .i64 1, .int .i64 3, .bool false, .int .i64 0, .slice none 0 0]) := by rw [hW]; exact k2'
  have k3W : Blk W (w3.heap.size + 1) 26 [.int .i64 2, .int .i64 0, .bool false, .int .i64 0, .slice (some ⟨w3.heap.size, 0, none⟩) 2 2] := by rw [hW]; exact k3
  have hbWW : Below w.heap.size w W := by rw [hW]; exact hbW
  have lf : ∀ n : Int, TmR W.heap.size W [.int .i64 1, .int .i64 n, .bool false, .int .i64 0, .slice none 0 0] (.one n false 0) := fun n => .one n false 0 none 0 0 (Nat.le_refl _) (Nat.zero_le _)
  have rp : TmR W.heap.size W (tcells 3 0 false 0 (some ⟨P, 0, none⟩) 2 2) (.two true (.one 1 false 0) (.one 2 false 0)) := TmR.made true k1W rfl k1W.lt (lf 1) (lf 2)
  have rt : TmR W.heap.size W (tcells 2 0 false 0 (some ⟨w3.heap.size, 0, none⟩) 2 2) five := TmR.made false k2W rfl k2W.lt rp (lf 3)
  have keepC : ∀ w', Below W.heap.size W w' → w'.cell? ⟨w3.heap.size + 1, 0, none⟩ = some (.int .i64 2) ∧ w'.cell? ⟨w3.heap.size + 1, 1, none⟩ = some (.int .i64 0) ∧ w'.cell? ⟨w3.heap.size + 1, 2, none⟩ = some (.bool false) ∧ w'.cell? ⟨w3.heap.size + 1, 3, none⟩ = some (.int .i64 0) ∧ w'.cell? ⟨w3.heap.size + 1, 4, none⟩ = some (.slice (some ⟨w3.heap.size, 0, none⟩) 2 2) := fun w' hb =>
    ⟨by rw [(k3W.below hb).cell]; rfl, by rw [(k3W.below hb).cell]; rfl, by rw [(k3W.below hb).cell]; rfl, by rw [(k3W.below hb).cell]; rfl, by rw [(k3W.below hb).cell]; rfl⟩
  have f1 := work_any _ W _ five rt (Nat.le_refl _) (by decide)
  have f2 := fun w' (hb : Below W.heap.size W w') => span_any _ w' _ five (rt.later hb) hb.size (by decide)
  have f3 := fun w' (hb : Below W.heap.size W w') => width_any _ w' _ five (rt.later hb) hb.size (by decide)
  rw [five_is.1] at f1
  rw [five_is.2.1] at f2
  rw [five_is.2.2] at f3
  unfold tcells at f1 f2 f3
  have f1' := f1
  rw [hW] at f1'
  clear k1W k2W k3W k1'' k2' k3 hbW lf rp rt k1' k2 hsz f1 hlt1
  refine (show _ from f1').mono ?_
  rintro e w4 ⟨rfl, hb4⟩
  rw [← hW] at hb4
  clear f1' hW
  obtain ⟨d0, d1, d2, d3, d4⟩ := keepC _ hb4
  go_wp2_with fail
  refine (f2 _ hb4).mono ?_
  rintro e w5 ⟨rfl, hb5⟩
  have hb45 := below_next hb5 hb4
  clear d0 d1 d2 d3 d4 f2
  obtain ⟨d0, d1, d2, d3, d4⟩ := keepC _ hb45
  go_wp2_with fail
  refine (f3 _ hb45).mono ?_
  rintro e w6 ⟨rfl, hb6⟩
  have hb46 := below_next hb6 hb45
  clear d0 d1 d2 d3 d4 f3 keepC
  go_wp2
  go_ret
  exact ⟨rfl, below_self hbWW hb46⟩
end Go.Proofs.Ytdipieplmmhnhaa
