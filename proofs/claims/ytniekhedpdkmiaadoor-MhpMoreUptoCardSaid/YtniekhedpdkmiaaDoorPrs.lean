/-
  Slices of pairs: slices.Equal, slices.Index, slices.Contains.
-/
import Derived.Test.YtniekhedpdkmiaaDoorMh6
import Derived.Laws.StructEq
namespace Go.Proofs.YtniekhedpdkmiaaDoor
set_option linter.unusedVariables false
set_option linter.unusedSimpArgs false
open Go.RowKit

theorem paircs_get (l : List (Nat × Nat)) (i : Nat) (p : Nat × Nat) (h : l[i]? = some p) : (paircs l)[i * 2]? = some (.int .i64 (p.1 : Int)) ∧ (paircs l)[i * 2 + 1]? = some (.int .i64 (p.2 : Int)) :=
  ⟨flat_get pairc 2 (fun _ => rfl) l i 0 p h (by omega), flat_get pairc 2 (fun _ => rfl) l i 1 p h (by omega)⟩
theorem take_snoc_eq {α : Type} {xs ys : List α} {k : Nat} {x y : α} (hx : xs[k]? = some x) (hy : ys[k]? = some y) (ht : xs.take k = ys.take k) (e : x = y) : xs.take (k + 1) = ys.take (k + 1) := by
  have hsn : ∀ (z : α) (l : List α), l[k]? = some z → l.take (k + 1) = l.take k ++ [z] := fun z l h => by
    obtain ⟨h', rfl⟩ := List.getElem?_eq_some_iff.1 h
    exact List.take_succ_eq_append_getElem h'
  rw [hsn _ _ hx, hsn _ _ hy, ht, e]
theorem ne_of_get {α : Type} {xs ys : List α} {k : Nat} {x y : α} (hx : xs[k]? = some x) (hy : ys[k]? = some y) (e : x ≠ y) : xs ≠ ys := by
  rintro rfl
  rw [hx] at hy
  injection hy with hy
  exact e hy

set_option maxHeartbeats 2000000 in
theorem equal_pairs (v v' : Value) (xs ys : List (Nat × Nat)) (w : World) (h : SlV w 2 v xs.length (paircs xs)) (h' : SlV w 2 v' ys.length (paircs ys)) :
    Calls Tryd.prog 25 #[v, v'] w fun e w' => e = .returned (.bool (decide (xs = ys))) ∧ ∃ m, w' = w.drewN m := by
  obtain ⟨A, c, rfl, hle, hm, hlen, hc⟩ := h
  obtain ⟨A', c', rfl, hle', hm', hlen', hc'⟩ := h'
  clear hlen hlen'
  unfold maxLen at hm hm'
  by_cases hn : xs.length = ys.length
  · have hne : ((xs.length : Int) != ys.length) = false := by simp [hn]
    have HN := Lib.hid hn
    clear hn
    go_enter Tryd.func25, Tryd.ntmps25
    go_wp2
    go_loopw [13] (fun i wr => ∃ k : Nat, k ≤ xs.length ∧ i = .int .i64 k ∧ (∃ a, wr = w.drewN a) ∧ xs.take k = ys.take k) (fun i _ => xs.length - (intOf i).toNat)
    case atStart => exact ⟨0, Nat.zero_le _, rfl, ⟨0, rfl⟩, rfl⟩
    case round =>
      obtain ⟨k, hk, rfl, ⟨a, rfl⟩, ht⟩ := hrel
      have HT := Lib.hid ht
      clear ht
      by_cases hlt : k < xs.length
      · have hlt' : k < ys.length := by rw [← HN.out]; exact hlt
        obtain ⟨⟨x1, x2⟩, hx⟩ : ∃ x, xs[k]? = some x := ⟨_, List.getElem?_eq_getElem hlt⟩
        obtain ⟨⟨y1, y2⟩, hy⟩ : ∃ x, ys[k]? = some x := ⟨_, List.getElem?_eq_getElem hlt'⟩
        obtain ⟨gx1, gx2⟩ := paircs_get _ _ _ hx
        obtain ⟨gy1, gy2⟩ := paircs_get _ _ _ hy
        obtain ⟨b, o, rfl, hb, hcc⟩ := hc.at_ (fun e => by rw [e] at gx1; simp at gx1)
        obtain ⟨b', o', rfl, hb', hcc'⟩ := hc'.at_ (fun e => by rw [e] at gy1; simp at gy1)
        have c1 := hcc _ _ gx1
        have c2 := hcc _ _ gx2
        have d1 := hcc' _ _ gy1
        have d2 := hcc' _ _ gy2
        rw [← Nat.add_assoc] at c2 d2
        have HX := Lib.hid hx
        have HY := Lib.hid hy
        clear hc hc' hcc hcc' hx hy gx1 gx2 gy1 gy2
        by_cases e : x1 = y1 ∧ x2 = y2
        · obtain ⟨rfl, rfl⟩ := e
          go_wp2
          go_quiet (fail)
          go_wp2
          go_roundw
          case rel => exact ⟨k + 1, by omega, by go_num, ⟨_, rfl⟩, take_snoc_eq HX.out HY.out HT.out rfl⟩
          case measure => simp [intOf]; omega
        · have hnl : xs ≠ ys := ne_of_get HX.out HY.out (fun h => by injection h with h1 h2; exact e ⟨h1, h2⟩)
          have HNL := Lib.hid hnl
          obtain ⟨X1, hX1⟩ : ∃ z : Int, z = x1 := ⟨_, rfl⟩
          obtain ⟨X2, hX2⟩ : ∃ z : Int, z = x2 := ⟨_, rfl⟩
          obtain ⟨Y1, hY1⟩ : ∃ z : Int, z = y1 := ⟨_, rfl⟩
          obtain ⟨Y2, hY2⟩ : ∃ z : Int, z = y2 := ⟨_, rfl⟩
          have he : (X1 == Y1 && X2 == Y2) = false := by
            rw [Bool.eq_false_iff]
            intro h
            simp only [Bool.and_eq_true, beq_iff_eq] at h
            exact e ⟨by omega, by omega⟩
          rw [← hX1] at c1
          rw [← hX2] at c2
          rw [← hY1] at d1
          rw [← hY2] at d2
          clear e hnl hX1 hX2 hY1 hY2
          rcases h1 : X1 == Y1 with _ | _
          · clear he
            go_wp2
            go_quiet (fail)
            go_wp2
            go_ret
            exact ⟨ret_bool (by simp [HNL.out]), ⟨_, World.drewN_drewN _ _ _⟩⟩
          · have h2 : (X2 == Y2) = false := by rw [h1] at he; simpa using he
            clear he
            go_wp2
            go_quiet (fail)
            go_wp2
            go_ret
            exact ⟨ret_bool (by simp [HNL.out]), ⟨_, World.drewN_drewN _ _ _⟩⟩
      · have HK := Lib.hid (show k = xs.length by omega)
        clear hc hc'
        go_wp2
        go_ret
        refine ⟨ret_bool ?_, ⟨_, rfl⟩⟩
        symm
        simp only [decide_eq_true_eq]
        have := HT.out
        rw [HK.out, List.take_length, HN.out, List.take_length] at this
        exact this
  · have hne : ((xs.length : Int) != ys.length) = true := by simp; omega
    have hnl : xs ≠ ys := fun e => hn (by rw [e])
    have HNL := Lib.hid hnl
    clear hnl hc hc'
    go_enter Tryd.func25, Tryd.ntmps25
    go_wp2
    go_ret
    exact ⟨ret_bool (by simp [HNL.out]), ⟨0, rfl⟩⟩

set_option maxHeartbeats 2000000 in
theorem index_pair (v : Value) (xs : List (Nat × Nat)) (s1 s2 : Nat) (w : World) (h : SlV w 2 v xs.length (paircs xs)) :
    Calls Tryd.prog 42 #[v, .agg #[.int .i64 (s1 : Int), .int .i64 (s2 : Int)]] w fun e w' => (∃ z : Int, e = .returned (.int .i64 z) ∧ ((s1, s2) ∈ xs → decide (0 ≤ z) = true)) ∧ Below w.heap.size w w' := by
  obtain ⟨A, c, rfl, hle, hm, hlen, hc⟩ := h
  clear hlen
  unfold maxLen at hm
  obtain ⟨S1, hS1⟩ : ∃ z : Int, z = s1 := ⟨_, rfl⟩
  obtain ⟨S2, hS2⟩ : ∃ z : Int, z = s2 := ⟨_, rfl⟩
  rw [← hS1, ← hS2]
  have HS := Lib.hid (And.intro hS1 hS2)
  clear hS1 hS2
  obtain ⟨q, hq⟩ : ∃ q, q = w.heap.size := ⟨_, rfl⟩
  have pb := Blk.new w 47 [.int .i64 S1, .int .i64 S2]
  have hbw : Below w.heap.size w (w.alloc (.cells [Value.int .i64 S1, .int .i64 S2].toArray 47)) := below_alloc (Below.refl _ _) _
  go_enter Tryd.func42, Tryd.ntmps42
  go_wp2
  rw [← hq] at pb hbw ⊢
  generalize (w.alloc (.cells [Value.int .i64 S1, .int .i64 S2].toArray 47)) = W at pb hbw ⊢
  go_loopw [8] (fun i wr => ∃ k : Nat, k ≤ xs.length ∧ i = .int .i64 k ∧ (∃ a, wr = W.drewN a) ∧ (s1, s2) ∉ xs.take k) (fun i _ => xs.length - (intOf i).toNat)
  case atStart => exact ⟨0, Nat.zero_le _, rfl, ⟨0, rfl⟩, by simp⟩
  case round =>
    obtain ⟨k, hk, rfl, ⟨a, rfl⟩, ht⟩ := hrel
    have HT := Lib.hid ht
    clear ht
    have d1 : W.cell? ⟨q, 0, none⟩ = some (.int .i64 S1) := (pb.cell 0).trans rfl
    have d2 : W.cell? ⟨q, 1, none⟩ = some (.int .i64 S2) := (pb.cell 1).trans rfl
    by_cases hlt : k < xs.length
    · obtain ⟨⟨x1, x2⟩, hx⟩ : ∃ x, xs[k]? = some x := ⟨_, List.getElem?_eq_getElem hlt⟩
      obtain ⟨gx1, gx2⟩ := paircs_get _ _ _ hx
      obtain ⟨b, o, rfl, hb, hcc⟩ := hc.at_ (fun e => by rw [e] at gx1; simp at gx1)
      have c1 := (hbw.cell (p := ⟨b, o + k * 2, none⟩) (by rw [hq]; exact hb)).trans (hcc _ _ gx1)
      have c2 := (hbw.cell (p := ⟨b, o + (k * 2 + 1), none⟩) (by rw [hq]; exact hb)).trans (hcc _ _ gx2)
      rw [← Nat.add_assoc] at c2
      obtain ⟨X1, hX1⟩ : ∃ z : Int, z = x1 := ⟨_, rfl⟩
      obtain ⟨X2, hX2⟩ : ∃ z : Int, z = x2 := ⟨_, rfl⟩
      rw [← hX1] at c1
      rw [← hX2] at c2
      have HX := Lib.hid (And.intro hx (And.intro hX1 (And.intro hX2 hq)))
      clear hc hcc hx gx1 gx2 hX1 hX2 hq
      have nope : ¬ (S1 = X1 ∧ S2 = X2) → (s1, s2) ∉ xs.take (k + 1) := fun hn hmem => by
        obtain ⟨h', hx'⟩ := List.getElem?_eq_some_iff.1 HX.out.1
        rw [List.take_succ_eq_append_getElem h', hx'] at hmem
        rcases List.mem_append.1 hmem with hmem | hmem
        · exact HT.out hmem
        · simp only [List.mem_singleton, Prod.mk.injEq] at hmem
          obtain ⟨e1, e2⟩ := hmem
          have := HS.out
          have := HX.out.2
          exact hn ⟨by omega, by omega⟩
      have HN := Lib.hid nope
      clear nope
      rcases h1 : S1 == X1 with _ | _
      · have hn : ¬ (S1 = X1 ∧ S2 = X2) := fun h => by simp [h.1] at h1
        have HNo := Lib.hid (HN.out hn)
        clear hn
        go_wp2
        go_quiet (fail)
        go_wp2
        go_roundw
        case rel => exact ⟨k + 1, by omega, by go_num, ⟨_, rfl⟩, HNo.out⟩
        case measure => simp [intOf]; omega
      · rcases h2 : S2 == X2 with _ | _
        · have hn : ¬ (S1 = X1 ∧ S2 = X2) := fun h => by simp [h.2] at h2
          have HNo := Lib.hid (HN.out hn)
          clear hn
          go_wp2
          go_quiet (fail)
          go_wp2
          go_roundw
          case rel => exact ⟨k + 1, by omega, by go_num, ⟨_, rfl⟩, HNo.out⟩
          case measure => simp [intOf]; omega
        · go_wp2
          go_quiet (fail)
          go_wp2
          go_ret
          exact ⟨⟨_, rfl, fun _ => by simp⟩, by rw [← HX.out.2.2.2]; exact below_drewN (below_drewN hbw _) _⟩
    · have HK := Lib.hid (show k = xs.length by omega)
      clear hc
      have HQ := Lib.hid hq
      clear hq
      go_wp2
      go_ret
      exact ⟨⟨_, rfl, fun h => by
        have := HT.out
        rw [HK.out, List.take_length] at this
        exact absurd h this⟩, by rw [← HQ.out]; exact below_drewN hbw _⟩
theorem contains_pair (v : Value) (xs : List (Nat × Nat)) (s1 s2 : Nat) (w : World) (h : SlV w 2 v xs.length (paircs xs)) (hmem : (s1, s2) ∈ xs) :
    Calls Tryd.prog 27 #[v, .agg #[.int .i64 (s1 : Int), .int .i64 (s2 : Int)]] w fun e w' => e = .returned (.bool true) ∧ Below w.heap.size w w' := by
  have hb0 : Below w.heap.size w (w.alloc (.cells #[.int .i64 (s1 : Int), .int .i64 (s2 : Int)] 47)) := below_alloc (Below.refl _ _) _
  have hi := index_pair v xs s1 s2 _ (h.alloc (.cells #[.int .i64 (s1 : Int), .int .i64 (s2 : Int)] 47))
  obtain ⟨A, c, rfl, hle, hm, hlen, hc⟩ := h
  clear hlen hc hm hle
  have HM := Lib.hid hmem
  clear hmem
  go_enter Tryd.func27, Tryd.ntmps27
  go_wp2_with fail
  refine hi.mono ?_
  rintro e w1 ⟨⟨z, rfl, hz⟩, hb1⟩
  have HZ := Lib.hid (hz HM.out)
  have hb2 := below_next hb1 hb0
  clear hz hi hb0 hb1
  go_wp2
  go_ret
  exact ⟨ret_bool HZ.out, hb2⟩
end Go.Proofs.YtniekhedpdkmiaaDoor
