/-
  An argument that is a term, or a struct of integers, at a law's end.
-/
import Derived.Test.YtfjmhmfkhgjnhaaDoorSwP1
import Derived.Test.YtfjmhmfkhgjnhaaDoorOrP6

namespace Go.Proofs.YtfjmhmfkhgjnhaaDoor
set_option linter.unusedVariables false
set_option linter.unusedSimpArgs false
set_option maxRecDepth 100000
open Go.RowKit

theorem width_any (B : Nat) (w : World) (cs : List Value) (t : Sp.T) (hT : TmR B w cs t) (hB : B ≤ w.heap.size) (hn : t.size ≤ 4194304) :
    Calls Tryd.prog 22 #[.agg cs.toArray] w fun e w' => e = .returned (.int .i64 (t.width : Nat)) ∧ Below w.heap.size w w' := by
  obtain ⟨a0, a1, a2, a3, A4, a5, a6, rfl, -, -⟩ := hT.form
  have s1 := hT.alloc hB (.cells (tcells a0 a1 a2 a3 A4 a5 a6).toArray 44)
  have hb0 : Below w.heap.size w (w.alloc (.cells (tcells a0 a1 a2 a3 A4 a5 a6).toArray 44)) := below_alloc (Below.refl _ _) _
  have hB1 : B ≤ (w.alloc (.cells (tcells a0 a1 a2 a3 A4 a5 a6).toArray 44)).heap.size := by simp; omega
  unfold tcells at s1 hb0 hB1 ⊢
  clear hT
  go_enter Tryd.func22, Tryd.ntmps22
  go_wp2_with fail
  refine (sum_any false t B _ _ s1 hB1 hn).mono ?_
  rintro e w1 ⟨rfl, hb⟩
  clear s1
  go_wp2
  go_ret
  exact ⟨rfl, below_next hb hb0⟩

theorem five_is : five.size = 3 ∧ five.span = 2 ∧ five.width = 2 := by decide

theorem alive5_any (w : World) : Calls Tryd.prog 17 #[] w fun e w' => e = .returned (.bool true) ∧ Below w.heap.size w w' := by
  go_enter Tryd.func17, Tryd.ntmps17
  go_wp2_with fail
  refine (leaf_any 1 _).mono ?_
  rintro e w1 ⟨rfl, hb1⟩
  go_wp2_with fail
  refine (leaf_any 2 _).mono ?_
  rintro e w2 ⟨rfl, hb2⟩
  have k1 := Blk.new w2 44 ([.int .i64 1, .int .i64 1, .bool false, .int .i64 0, .slice none 0 0] ++ [.int .i64 1, .int .i64 2, .bool false, .int .i64 0, .slice none 0 0])
  have hb12 : Below w.heap.size w w2 := (by repeat (first | exact Below.refl _ _ | assumption | apply below_alloc | apply below_drew | (apply below_next; assumption)))
  go_wp2_with fail
  refine (leaf_any 3 _).mono ?_
  rintro e w3 ⟨rfl, hb3⟩
  have k1' := k1.below (w' := w3) (by simpa using hb3)
  have hb13 : Below w.heap.size w w3 := below_next hb3 (below_alloc hb12 _)
  have hlt1 := k1'.lt
  obtain ⟨P, hP⟩ : ∃ P, P = w2.heap.size := ⟨_, rfl⟩
  rw [← hP] at k1' hlt1 ⊢
  clear hb3 hb12 hb2 hb1 k1 hP
  have k2 := Blk.new w3 44 ([.int .i64 3, .int .i64 0, .bool false, .int .i64 0, .slice (some ⟨P, 0, none⟩) 2 2] ++ [.int .i64 1, .int .i64 3, .bool false, .int .i64 0, .slice none 0 0])
  have k1'' := (k1'.alloc (.cells ([.int .i64 3, .int .i64 0, .bool false, .int .i64 0, .slice (some ⟨P, 0, none⟩) 2 2] ++ [.int .i64 1, .int .i64 3, .bool false, .int .i64 0, .slice none 0 0] : List Value).toArray 44)).alloc (.cells #[.int .i64 2, .int .i64 0, .bool false, .int .i64 0, .slice (some ⟨w3.heap.size, 0, none⟩) 2 2] 44)
  have k2' := k2.alloc (.cells #[.int .i64 2, .int .i64 0, .bool false, .int .i64 0, .slice (some ⟨w3.heap.size, 0, none⟩) 2 2] 44)
  have k3 := Blk.new (w3.alloc (.cells ([.int .i64 3, .int .i64 0, .bool false, .int .i64 0, .slice (some ⟨P, 0, none⟩) 2 2] ++ [.int .i64 1, .int .i64 3, .bool false, .int .i64 0, .slice none 0 0] : List Value).toArray 44)) 44 [.int .i64 2, .int .i64 0, .bool false, .int .i64 0, .slice (some ⟨w3.heap.size, 0, none⟩) 2 2]
  have hbW : Below w.heap.size w ((w3.alloc (.cells ([.int .i64 3, .int .i64 0, .bool false, .int .i64 0, .slice (some ⟨P, 0, none⟩) 2 2] ++ [.int .i64 1, .int .i64 3, .bool false, .int .i64 0, .slice none 0 0] : List Value).toArray 44)).alloc (.cells #[.int .i64 2, .int .i64 0, .bool false, .int .i64 0, .slice (some ⟨w3.heap.size, 0, none⟩) 2 2] 44)) := below_alloc (below_alloc hb13 _) _
  have hsz : (w3.alloc (.cells ([.int .i64 3, .int .i64 0, .bool false, .int .i64 0, .slice (some ⟨P, 0, none⟩) 2 2] ++ [.int .i64 1, .int .i64 3, .bool false, .int .i64 0, .slice none 0 0] : List Value).toArray 44)).heap.size = w3.heap.size + 1 := by simp
  rw [hsz] at k3
  simp only [List.cons_append, List.nil_append] at k1'' k2' k3 hbW
  go_wp2_with fail
  obtain ⟨W, hW⟩ : ∃ W, W = ((w3.alloc (.cells #[.int .i64 3, .int .i64 0, .bool false, .int .i64 0, .slice (some ⟨P, 0, none⟩) 2 2, .int .i64 1, .int .i64 3, .bool false, .int .i64 0, .slice none 0 0] 44)).alloc (.cells #[.int .i64 2, .int .i64 0, .bool false, .int .i64 0, .slice (some ⟨w3.heap.size, 0, none⟩) 2 2] 44)) := ⟨_, rfl⟩
  have k1W : Blk W P 44 ([.int .i64 1, .int .i64 1, .bool false, .int .i64 0, .slice none 0 0] ++ [.int .i64 1, .int .i64 2, .bool false, .int .i64 0, .slice none 0 0]) := by rw [hW]; exact k1''
  have k2W : Blk W w3.heap.size 44 ([.int .i64 3, .int .i64 0, .bool false, .int .i64 0, .slice (some ⟨P, 0, none⟩) 2 2] ++ [.int .i64 1, .int .i64 3, .bool false, .int .i64 0, .slice none 0 0]) := by rw [hW]; exact k2'
  have k3W : Blk W (w3.heap.size + 1) 44 [.int .i64 2, .int .i64 0, .bool false, .int .i64 0, .slice (some ⟨w3.heap.size, 0, none⟩) 2 2] := by rw [hW]; exact k3
  have hbWW : Below w.heap.size w W := by rw [hW]; exact hbW
  have lf : ∀ n : Int, TmR W.heap.size W [.int .i64 1, .int .i64 n, .bool false, .int .i64 0, .slice none 0 0] (.one n false 0) := fun n => .one n false 0 none 0 0 (Nat.le_refl _) (Nat.zero_le _)
  have rp : TmR W.heap.size W (tcells 3 0 false 0 (some ⟨P, 0, none⟩) 2 2) (.two true (.one 1 false 0) (.one 2 false 0)) := TmR.made true k1W rfl k1W.lt (lf 1) (lf 2)
  have rt : TmR W.heap.size W (tcells 2 0 false 0 (some ⟨w3.heap.size, 0, none⟩) 2 2) five := TmR.made false k2W rfl k2W.lt rp (lf 3)
  have keepC : ∀ w', Below W.heap.size W w' → w'.cell? ⟨w3.heap.size + 1, 0, none⟩ = some (.int .i64 2) ∧ w'.cell? ⟨w3.heap.size + 1, 1, none⟩ = some (.int .i64 0) ∧ w'.cell? ⟨w3.heap.size + 1, 2, none⟩ = some (.bool false) ∧ w'.cell? ⟨w3.heap.size + 1, 3, none⟩ = some (.int .i64 0) ∧ w'.cell? ⟨w3.heap.size + 1, 4, none⟩ = some (.slice (some ⟨w3.heap.size, 0, none⟩) 2 2) := fun w' hb =>
    ⟨by rw [(k3W.below hb).cell]; rfl, by rw [(k3W.below hb).cell]; rfl, by rw [(k3W.below hb).cell]; rfl, by rw [(k3W.below hb).cell]; rfl, by rw [(k3W.below hb).cell]; rfl⟩
  have f1 := work_any _ W _ five rt (Nat.le_refl _) (by decide)
  have f2 := fun w' (hb : Below W.heap.size W w') => span_any _ w' _ five (rt.later hb) hb.size (by decide)
  have f3 := fun w' (hb : Below W.heap.size W w') => width_any _ w' _ five (rt.later hb) hb.size (by decide)
  rw [five_is.1] at f1
  rw [five_is.2.1] at f2
  rw [five_is.2.2] at f3
  unfold tcells at f1 f2 f3
  have f1' := f1
  rw [hW] at f1'
  clear k1W k2W k3W k1'' k2' k3 hbW lf rp rt k1' k2 hsz f1 hlt1
  refine (show _ from f1').mono ?_
  rintro e w4 ⟨rfl, hb4⟩
  rw [← hW] at hb4
  clear f1' hW
  obtain ⟨d0, d1, d2, d3, d4⟩ := keepC _ hb4
  go_wp2_with fail
  refine (f2 _ hb4).mono ?_
  rintro e w5 ⟨rfl, hb5⟩
  have hb45 := below_next hb5 hb4
  clear d0 d1 d2 d3 d4 f2
  obtain ⟨d0, d1, d2, d3, d4⟩ := keepC _ hb45
  go_wp2_with fail
  refine (f3 _ hb45).mono ?_
  rintro e w6 ⟨rfl, hb6⟩
  have hb46 := below_next hb6 hb45
  clear d0 d1 d2 d3 d4 f3 keepC
  go_wp2
  go_ret
  exact ⟨rfl, below_self hbWW hb46⟩
end Go.Proofs.YtfjmhmfkhgjnhaaDoor


namespace Go.Proofs.YtfjmhmfkhgjnhaaDoor
set_option linter.unusedVariables false
set_option linter.unusedSimpArgs false
set_option maxRecDepth 100000
open Go.ChangeShapes Go.WideShapes Go.ChangeAt Go.RowKit

theorem open_arg_cnt {H : Type} {enc : TypeId × Value → H} {W : World} {base : Nat} {v : Value} {d : DataW H} {p : List MemPlace} (hv : Value.okWide Tryd.prog W .any base 44 v) (h : DataW.Trod enc Tryd.prog W 0 (fun _ => true) true 44 v d p) (hlt : ∀ x ∈ p, x.block < W.heap.size) :
    ∃ (cs : List Value) (t : Sp.T), v = .agg cs.toArray ∧ TmR W.heap.size W cs t ∧ t.cnt ≤ Rows.uptoBulk d := by
  have hT : Tryd.prog.underlying 44 = some (.struct (fieldsOf Tryd.prog 44)) := by kernel_rfl
  obtain ⟨cs, rfl, hcs⟩ := okWide_struct hT hv
  obtain ⟨fuel, hf⟩ := h
  obtain ⟨t, h1, h2⟩ := open_term fuel cs.toList (d, p) (by simpa [Value.cells] using hf) hlt
  exact ⟨cs.toList, t, by simp, h1, h2⟩
theorem open_arg_term {H : Type} {enc : TypeId × Value → H} {W : World} {base : Nat} {v : Value} {d : DataW H} {p : List MemPlace} (hv : Value.okWide Tryd.prog W .any base 44 v) (h : DataW.Trod enc Tryd.prog W 0 (fun _ => true) true 44 v d p) (hlt : ∀ x ∈ p, x.block < W.heap.size) :
    ∃ (cs : List Value) (t : Sp.T), v = .agg cs.toArray ∧ TmR W.heap.size W cs t ∧ t.size ≤ Rows.uptoBulk d := by
  obtain ⟨cs, t, h1, h2, h3⟩ := open_arg_cnt hv h hlt
  exact ⟨cs, t, h1, h2, Nat.le_trans t.size_le_cnt h3⟩
/-- an argument that is a struct of n integers -/
theorem open_arg_ints {H : Type} {enc : TypeId × Value → H} {W : World} {base : Nat} {v : Value} {d : DataW H} {p : List MemPlace} {e : TypeId} {n : Nat} {fs : Array Field} (he : Tryd.prog.underlying e = some (.struct fs)) (hn : fs.size = n) (hC : Tryd.prog.cellsOf e = n) (hf : intFields Tryd.prog fs = true) (hv : Value.okWide Tryd.prog W .any base e v) (h : DataW.Trod enc Tryd.prog W 0 (fun _ => true) true e v d p) :
    ∃ r : List Int, v = .agg (irow r).toArray ∧ r.length = n ∧ Wfs .i64 r := by
  obtain ⟨cs, rfl, hcs⟩ := okWide_struct he hv
  obtain ⟨fuel, hfu⟩ := h
  obtain ⟨r, h1, h2, h3⟩ := struct_ints he hn hC hf (by simpa [Value.cells] using hfu)
  exact ⟨r, by rw [← h2], h1, h3⟩

theorem open_arg_two {H : Type} {enc : TypeId × Value → H} {W : World} {base : Nat} {v : Value} {d : DataW H} {p : List MemPlace} {e : TypeId} {fs : Array Field} (he : Tryd.prog.underlying e = some (.struct fs)) (hn : fs.size = 2) (hC : Tryd.prog.cellsOf e = 2) (hf : intFields Tryd.prog fs = true) (hv : Value.okWide Tryd.prog W .any base e v) (h : DataW.Trod enc Tryd.prog W 0 (fun _ => true) true e v d p) :
    ∃ a b : Int, v = .agg #[.int .i64 a, .int .i64 b] := by
  obtain ⟨r, h1, h2, -⟩ := open_arg_ints he hn hC hf hv h
  match r, h2 with
  | [a, b], _ => exact ⟨a, b, h1⟩

theorem bulk_pos {H : Type} (d : DataW H) : 1 ≤ Rows.uptoBulk d := by
  cases d with
  | lit x => cases x <;> simp [Rows.uptoBulk]
  | _ => simp [Rows.uptoBulk]
theorem bulk_len {H : Type} : ∀ l : List (DataW H), l.length ≤ Rows.uptoBulkAll l
  | [] => by simp
  | x :: l => by
    rw [Rows.uptoBulkAll, List.length_cons]
    have := bulk_pos x
    have := bulk_len l
    omega
theorem bulk_rows {H : Type} {d : DataW H} {n : Nat} (h : (d = .nil ∧ n = 0) ∨ ∃ (el sp : List (DataW H)), d = .slice el sp ∧ el.length = n) : n ≤ Rows.uptoBulk d := by
  rcases h with ⟨_, rfl⟩ | ⟨e, sp, rfl, he⟩
  · exact Nat.zero_le _
  · have := bulk_len e
    rw [Rows.uptoBulk]
    omega
end Go.Proofs.YtfjmhmfkhgjnhaaDoor
