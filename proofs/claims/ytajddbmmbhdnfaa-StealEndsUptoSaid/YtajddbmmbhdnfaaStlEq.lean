/-
  slices.Equal of what workers have done, slices.Clone of picks, walked.
-/
import Derived.Test.YtajddbmmbhdnfaaYdRun2
import Derived.Laws.StructEq
namespace Go.Proofs.Ytajddbmmbhdnfaa
set_option linter.unusedVariables false
set_option linter.unusedSimpArgs false
set_option maxRecDepth 100000
open Go.RowKit

theorem take_snoc_eq' {α : Type} {xs ys : List α} {k : Nat} {x y : α} (hx : xs[k]? = some x) (hy : ys[k]? = some y) (ht : xs.take k = ys.take k) (e : x = y) : xs.take (k + 1) = ys.take (k + 1) := by
  have hsn : ∀ (z : α) (l : List α), l[k]? = some z → l.take (k + 1) = l.take k ++ [z] := fun z l h => by
    obtain ⟨h', rfl⟩ := List.getElem?_eq_some_iff.1 h
    exact List.take_succ_eq_append_getElem h'
  rw [hsn _ _ hx, hsn _ _ hy, ht, e]
theorem ne_of_get' {α : Type} {xs ys : List α} {k : Nat} {x y : α} (hx : xs[k]? = some x) (hy : ys[k]? = some y) (e : x ≠ y) : xs ≠ ys := by
  rintro rfl
  rw [hx] at hy
  injection hy with hy
  exact e hy

set_option maxHeartbeats 2000000 in
theorem equal_dones (v v' : Value) (xs ys : List (Nat × Int)) (w : World) (h : SlV w 2 v xs.length (donecs xs)) (h' : SlV w 2 v' ys.length (donecs ys)) :
    Calls Try.prog 14 #[v, v'] w fun e w' => e = .returned (.bool (decide (xs = ys))) ∧ ∃ m, w' = w.drewN m := by
  obtain ⟨A, c, rfl, hle, hm, hlen, hc⟩ := h
  obtain ⟨A', c', rfl, hle', hm', hlen', hc'⟩ := h'
  clear hlen hlen'
  unfold maxLen at hm hm'
  by_cases hn : xs.length = ys.length
  · have hne : ((xs.length : Int) != ys.length) = false := by simp [hn]
    have HN := Lib.hid hn
    clear hn
    go_enter Try.func14, Try.ntmps14
    go_wp2
    go_loopw [13] (fun i wr => ∃ k : Nat, k ≤ xs.length ∧ i = .int .i64 k ∧ (∃ a, wr = w.drewN a) ∧ xs.take k = ys.take k) (fun i _ => xs.length - (intOf i).toNat)
    case atStart => exact ⟨0, Nat.zero_le _, rfl, ⟨0, rfl⟩, rfl⟩
    case round =>
      obtain ⟨k, hk, rfl, ⟨a, rfl⟩, ht⟩ := hrel
      have HT := Lib.hid ht
      clear ht
      by_cases hlt : k < xs.length
      · have hlt' : k < ys.length := by rw [← HN.out]; exact hlt
        obtain ⟨⟨x1, x2⟩, hx⟩ : ∃ x, xs[k]? = some x := ⟨_, List.getElem?_eq_getElem hlt⟩
        obtain ⟨⟨y1, y2⟩, hy⟩ : ∃ x, ys[k]? = some x := ⟨_, List.getElem?_eq_getElem hlt'⟩
        obtain ⟨gx1, gx2⟩ := donecs_get _ _ _ hx
        obtain ⟨gy1, gy2⟩ := donecs_get _ _ _ hy
        obtain ⟨b, o, rfl, hb, hcc⟩ := hc.at_ (fun e => by rw [e] at gx1; simp at gx1)
        obtain ⟨b', o', rfl, hb', hcc'⟩ := hc'.at_ (fun e => by rw [e] at gy1; simp at gy1)
        have c1 := hcc _ _ gx1
        have c2 := hcc _ _ gx2
        have d1 := hcc' _ _ gy1
        have d2 := hcc' _ _ gy2
        rw [← Nat.add_assoc] at c2 d2
        have HX := Lib.hid hx
        have HY := Lib.hid hy
        clear hc hc' hcc hcc' hx hy gx1 gx2 gy1 gy2
        by_cases e : x1 = y1 ∧ x2 = y2
        · obtain ⟨rfl, rfl⟩ := e
          go_wp2
          go_quiet (fail)
          go_wp2
          go_roundw
          case rel => exact ⟨k + 1, by omega, by go_num, ⟨_, rfl⟩, take_snoc_eq' HX.out HY.out HT.out rfl⟩
          case measure => simp [intOf]; omega
        · have hnl : xs ≠ ys := ne_of_get' HX.out HY.out (fun h => by injection h with h1 h2; exact e ⟨h1, h2⟩)
          have HNL := Lib.hid hnl
          obtain ⟨X1, hX1⟩ : ∃ z : Int, z = x1 := ⟨_, rfl⟩
          obtain ⟨X2, hX2⟩ : ∃ z : Int, z = x2 := ⟨_, rfl⟩
          obtain ⟨Y1, hY1⟩ : ∃ z : Int, z = y1 := ⟨_, rfl⟩
          obtain ⟨Y2, hY2⟩ : ∃ z : Int, z = y2 := ⟨_, rfl⟩
          have he : (X1 == Y1 && X2 == Y2) = false := by
            rw [Bool.eq_false_iff]
            intro h
            simp only [Bool.and_eq_true, beq_iff_eq] at h
            exact e ⟨by omega, by omega⟩
          rw [← hX1] at c1
          rw [← hX2] at c2
          rw [← hY1] at d1
          rw [← hY2] at d2
          clear e hnl hX1 hX2 hY1 hY2
          rcases h1 : X1 == Y1 with _ | _
          · clear he
            go_wp2
            go_quiet (fail)
            go_wp2
            go_ret
            exact ⟨ret_bool (by simp [HNL.out]), ⟨_, World.drewN_drewN _ _ _⟩⟩
          · have h2 : (X2 == Y2) = false := by rw [h1] at he; simpa using he
            clear he
            go_wp2
            go_quiet (fail)
            go_wp2
            go_ret
            exact ⟨ret_bool (by simp [HNL.out]), ⟨_, World.drewN_drewN _ _ _⟩⟩
      · have HK := Lib.hid (show k = xs.length by omega)
        clear hc hc'
        go_wp2
        go_ret
        refine ⟨ret_bool ?_, ⟨_, rfl⟩⟩
        symm
        simp only [decide_eq_true_eq]
        have := HT.out
        rw [HK.out, List.take_length, HN.out, List.take_length] at this
        exact this
  · have hne : ((xs.length : Int) != ys.length) = true := by simp; omega
    have hnl : xs ≠ ys := fun e => hn (by rw [e])
    have HNL := Lib.hid hnl
    clear hnl hc hc'
    go_enter Try.func14, Try.ntmps14
    go_wp2
    go_ret
    exact ⟨ret_bool (by simp [HNL.out]), ⟨0, rfl⟩⟩


theorem info_pick : (Try.prog.info? 29).map (fun i => (i.zero, i.size, i.bytes)) = some (some (.agg #[.int .i64 0, .int .i64 0]), 2, 16) := by kernel_rfl
theorem pkcs_append (a b : List Stl.Pk) : pkcs (a ++ b) = pkcs a ++ pkcs b := by simp [pkcs]
theorem pkc_one (p : Stl.Pk) : ∀ u ∈ pkc p, u.oneCell' = true := by
  intro u hu
  simp only [pkc, List.mem_cons, List.not_mem_nil, or_false] at hu
  rcases hu with rfl | rfl <;> rfl
theorem pkcs_one (l : List Stl.Pk) : ∀ u ∈ pkcs l, u.oneCell' = true := by
  intro u hu
  obtain ⟨p, -, hp⟩ := List.mem_flatMap.1 hu
  exact pkc_one p u hp
theorem clone_pks (v : Value) (n : Nat) (xs : List Value) (w : World) (h : SlV w 2 v n xs) (h1 : ∀ u ∈ xs, u.oneCell' = true) (hr : n * 16 ≤ 140737488355328) :
    Calls Try.prog 13 #[v] w fun e w' => ∃ u, e = .returned u ∧ w'.ownsRow w.heap.size 29 2 u n xs ∧ Below w.heap.size w w' := by
  obtain ⟨A, c, rfl, hle, hm, hlen, hc⟩ := h
  unfold maxLen at hm
  have heq := fun (w : World) (A : Option Addr) (n c : Nat) => Lib.run_eql_slice_nil (P := Try.prog) w _ _ A n c 0 0 Try.underlying27
  rcases A with _ | a
  · have h0 : xs = [] := by
      rcases xs with _ | ⟨x, xs⟩
      · rfl
      · obtain ⟨b, o, h1, _⟩ := hc
        have := (h1 (by simp)).1
        cases this
    have hn : n = 0 := by subst h0; simp at hlen; omega
    subst h0
    subst hn
    go_enter Try.func13, Try.ntmps13
    go_wp2
    go_ret
    exact ⟨_, rfl, World.ownsRow_nil _ _ _ _, Below.refl _ _⟩
  · go_enter Try.func13, Try.ntmps13
    have hmade := World.ownsRow_made (e := 29) (size := 2) (base := w.heap.size) w #[] 0 (Nat.le_refl _) (Nat.zero_le _) rfl
    have hc' := hc.keep (w' := w.alloc (.cells #[] 29)) (Nat.le_refl _) (fun p hp => World.cell?_alloc_lt w _ p hp)
    have n63 : 0 + n ≤ maxLen := by unfold maxLen; omega
    have n47 : (0 + n) * 16 ≤ 140737488355328 := by omega
    go_wp2_with (at_builtin; refine wp_append _ _ _ _ _ _ _ _ _ Try.underlying27 info_pick rfl (by decide) hmade hc' hlen h1 n63 n47 (by simp) rfl rfl rfl rfl ?_; intro v' w' hown _ _ hb)
    go_ret
    refine ⟨_, rfl, by simpa using hown, ((Below.refl _ _).alloc (Nat.le_refl _) _).trans hb⟩
end Go.Proofs.Ytajddbmmbhdnfaa
