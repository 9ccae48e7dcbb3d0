/-
  The laws of package lex: alike, what is asked ahead of each law, walked.
-/
import Derived.Test.YtdipieplmmhnhaaLex4
namespace Go.Proofs.Ytdipieplmmhnhaa
set_option linter.unusedVariables false
set_option linter.unusedSimpArgs false
open Go.RowKit

namespace Lx
theorem take_snoc_eq {α β : Type} (f : α → β) {xs ys : List α} {k : Nat} {x y : α} (hx : xs[k]? = some x) (hy : ys[k]? = some y) (ht : (xs.take k).map f = (ys.take k).map f) (e : f x = f y) : (xs.take (k + 1)).map f = (ys.take (k + 1)).map f := by
  have hsn : ∀ (z : α) (l : List α), l[k]? = some z → l.take (k + 1) = l.take k ++ [z] := fun z l h => by
    obtain ⟨h', rfl⟩ := List.getElem?_eq_some_iff.1 h
    exact List.take_succ_eq_append_getElem h'
  rw [hsn _ _ hx, hsn _ _ hy, List.map_append, List.map_append, ht, List.map_cons, List.map_cons, e]
theorem ne_of_get {α β : Type} (f : α → β) {xs ys : List α} {k : Nat} {x y : α} (hx : xs[k]? = some x) (hy : ys[k]? = some y) (e : f x ≠ f y) : xs.map f ≠ ys.map f := fun h => by
  have h1 := congrArg (fun l => l[k]?) h
  rw [show (xs.map f)[k]? = some (f x) by rw [List.getElem?_map, hx]; rfl, show (ys.map f)[k]? = some (f y) by rw [List.getElem?_map, hy]; rfl] at h1
  exact e (Option.some.inj h1)
end Lx

set_option maxHeartbeats 4000000 in
theorem alike_any (v v' : Value) (xs ys : List Lx.Tk) (w : World) (h : SlV w 3 v xs.length (Lx.tkcs xs)) (h' : SlV w 3 v' ys.length (Lx.tkcs ys)) :
    Calls Try.prog 20 #[v, v'] w fun e w' => e = .returned (.bool (decide (xs.map Lx.strip = ys.map Lx.strip))) ∧ ∃ m, w' = w.drewN m := by
  obtain ⟨A, c, rfl, hle, hm, hlen, hc⟩ := h
  obtain ⟨A', c', rfl, hle', hm', hlen', hc'⟩ := h'
  clear hlen hlen'
  unfold maxLen at hm hm'
  by_cases hn : xs.length = ys.length
  · have hne : ((xs.length : Int) != ys.length) = false := by simp [hn]
    have HN := Lib.hid hn
    clear hn
    go_enter Try.func20, Try.ntmps20
    go_wp2
    go_loopw [13] (fun i wr => ∃ k : Nat, k ≤ xs.length ∧ i = .int .i64 k ∧ (∃ a, wr = w.drewN a) ∧ (xs.take k).map Lx.strip = (ys.take k).map Lx.strip) (fun i _ => xs.length - (intOf i).toNat)
    case atStart => exact ⟨0, Nat.zero_le _, rfl, ⟨0, rfl⟩, rfl⟩
    case round =>
      obtain ⟨k, hk, rfl, ⟨a, rfl⟩, ht⟩ := hrel
      have HT := Lib.hid ht
      clear ht
      by_cases hlt : k < xs.length
      · have hlt' : k < ys.length := by rw [← HN.out]; exact hlt
        obtain ⟨⟨x1, x2, x3⟩, hx⟩ : ∃ x, xs[k]? = some x := ⟨_, List.getElem?_eq_getElem hlt⟩
        obtain ⟨⟨y1, y2, y3⟩, hy⟩ : ∃ x, ys[k]? = some x := ⟨_, List.getElem?_eq_getElem hlt'⟩
        obtain ⟨gx1, gx2, gx3⟩ := Lx.tkcs_get _ _ _ hx
        obtain ⟨gy1, gy2, gy3⟩ := Lx.tkcs_get _ _ _ hy
        obtain ⟨b, o, rfl, hb, hcc⟩ := hc.at_ (fun e => by rw [e] at gx1; simp at gx1)
        obtain ⟨b', o', rfl, hb', hcc'⟩ := hc'.at_ (fun e => by rw [e] at gy1; simp at gy1)
        have c1 := hcc _ _ gx1
        have c3 := hcc _ _ gx3
        have d1 := hcc' _ _ gy1
        have d3 := hcc' _ _ gy3
        rw [← Nat.add_assoc] at c3 d3
        simp only at c1 c3 d1 d3
        have HX := Lib.hid hx
        have HY := Lib.hid hy
        clear hc hc' hcc hcc' hx hy gx1 gx2 gy1 gy2 gx3 gy3
        by_cases e : x1 = y1 ∧ x3 = y3
        · obtain ⟨rfl, rfl⟩ := e
          obtain ⟨X, hX⟩ : ∃ X : ByteArray, X = ⟨x3.toArray⟩ := ⟨_, rfl⟩
          rw [← hX] at c3 d3
          have hb1 : (x1 != x1) = false := by simp
          clear hX
          go_wp2
          go_quiet (fail)
          go_wp2
          go_roundw
          case rel => exact ⟨k + 1, by omega, by go_num, ⟨_, rfl⟩, Lx.take_snoc_eq Lx.strip HX.out HY.out HT.out rfl⟩
          case measure => simp [intOf]; omega
        · have hnl : xs.map Lx.strip ≠ ys.map Lx.strip := Lx.ne_of_get Lx.strip HX.out HY.out (fun h => by injection h with h1 h2; exact e ⟨h1, h2⟩)
          have HNL := Lib.hid hnl
          obtain ⟨X, hX⟩ : ∃ X : ByteArray, X = ⟨x3.toArray⟩ := ⟨_, rfl⟩
          obtain ⟨Y, hY⟩ : ∃ Y : ByteArray, Y = ⟨y3.toArray⟩ := ⟨_, rfl⟩
          rw [← hX] at c3
          rw [← hY] at d3
          have he : x1 = y1 → X ≠ Y := fun h1 h => e ⟨h1, by rw [hX, hY] at h; injection h with h; exact Array.toList_inj.2 h |> fun h => by simpa using h⟩
          clear e hnl hX hY
          rcases h1 : x1 != y1 with _ | _
          · have h2 := he (by simpa using h1)
            have h3 : (X.toList == Y.toList) = false := by
              rw [Bool.eq_false_iff]
              intro h
              apply h2
              have := beq_iff_eq.1 h
              rw [ByteArray.toList_eq, ByteArray.toList_eq] at this
              exact ByteArray.ext (Array.toList_inj.1 this)
            have h5 : (X.toList != Y.toList) = true := by rw [bne, h3]; rfl
            clear he h2
            go_wp2
            go_quiet (fail)
            go_wp2
            go_ret
            exact ⟨ret_bool (by simp [HNL.out]), ⟨_, World.drewN_drewN _ _ _⟩⟩
          · clear he
            go_wp2
            go_quiet (fail)
            go_wp2
            go_ret
            exact ⟨ret_bool (by simp [HNL.out]), ⟨_, World.drewN_drewN _ _ _⟩⟩
      · have HK := Lib.hid (show k = xs.length by omega)
        clear hc hc'
        go_wp2
        go_ret
        refine ⟨ret_bool ?_, ⟨_, rfl⟩⟩
        symm
        simp only [decide_eq_true_eq]
        have := HT.out
        rw [HK.out, List.take_length, HN.out, List.take_length] at this
        exact this
  · have hne : ((xs.length : Int) != ys.length) = true := by simp; omega
    have hnl : xs.map Lx.strip ≠ ys.map Lx.strip := fun e => hn (by have := congrArg List.length e; simpa using this)
    have HNL := Lib.hid hnl
    clear hnl hc hc'
    go_enter Try.func20, Try.ntmps20
    go_wp2
    go_ret
    exact ⟨ret_bool (by simp [HNL.out]), ⟨0, rfl⟩⟩

/-! ### what is asked ahead of each law -/
def Lx.aliveA : Lx.Bs := [120, 49, 32, 61, 61, 49, 50, 59]
def Lx.aliveB : Lx.Bs := [120, 32, 48, 49]
def Lx.aliveT : List Lx.Tk := [(2, 0, [120, 49]), (3, 3, [61, 61]), (1, 5, [49, 50]), (3, 7, [59])]
theorem Lx.alive_a : Lx.toks Lx.number 0 Lx.aliveA = .ok Lx.aliveT := by
  unfold Lx.aliveA
  rw [Lx.toks_some Lx.number 0 (c := 120) rfl _ (k := 2) (t := [120, 49]) (by decide)]
  simp only [List.length_cons, List.length_nil, List.drop_succ_cons, List.drop_zero]
  rw [Lx.toks_blank Lx.number _ (c := 32) rfl]
  rw [Lx.toks_some Lx.number _ (c := 61) rfl _ (k := 3) (t := [61, 61]) (by decide)]
  simp only [List.length_cons, List.length_nil, List.drop_succ_cons, List.drop_zero]
  rw [Lx.toks_some Lx.number _ (c := 49) rfl _ (k := 1) (t := [49, 50]) (by decide)]
  simp only [List.length_cons, List.length_nil, List.drop_succ_cons, List.drop_zero]
  rw [Lx.toks_some Lx.number _ (c := 59) rfl _ (k := 3) (t := [59]) (by decide)]
  simp only [List.length_cons, List.length_nil, List.drop_succ_cons, List.drop_zero]
  rw [Lx.toks_nil]
  rfl
theorem Lx.alive_b : Lx.toks Lx.number 0 Lx.aliveB = .error 2 := by
  unfold Lx.aliveB
  rw [Lx.toks_some Lx.number 0 (c := 120) rfl _ (k := 2) (t := [120]) (by decide)]
  simp only [List.length_cons, List.length_nil, List.drop_succ_cons, List.drop_zero]
  rw [Lx.toks_blank Lx.number _ (c := 32) rfl]
  rw [Lx.toks_none Lx.number _ (c := 48) rfl _ (by decide)]
  rfl
theorem Lx.alive_t : Lx.text Lx.aliveT = [120, 49, 32, 61, 61, 32, 49, 50, 32, 59] := by decide

set_option maxRecDepth 100000 in
set_option maxHeartbeats 4000000 in
theorem alive10_any (w : World) : Calls Try.prog 17 #[] w fun e w' => e = .returned (.bool true) ∧ Below w.heap.size w w' := by
  go_enter Try.func17, Try.ntmps17
  have h1 := fun w => tokens_any ⟨Lx.aliveA.toArray⟩ w (by decide)
  have h2 := fun w => tokens_any ⟨Lx.aliveB.toArray⟩ w (by decide)
  have e1 : Lx.toks Lx.number 0 (⟨Lx.aliveA.toArray⟩ : ByteArray).data.toList = .ok Lx.aliveT := Lx.alive_a
  have e2 : Lx.toks Lx.number 0 (⟨Lx.aliveB.toArray⟩ : ByteArray).data.toList = .error 2 := Lx.alive_b
  rw [e1] at h1
  rw [e2] at h2
  have H1 := Lib.hid h1
  have H2 := Lib.hid h2
  clear h1 h2 e1 e2
  go_wp2_with fail
  refine (H1.out _).mono ?_
  rintro e w1 ⟨⟨v1, rfl, ho1⟩, hb1⟩
  have hs1 := SlV.of_own ho1
  clear ho1
  obtain ⟨A, c, rfl, hle, hm, hlen, hc⟩ := hs1
  have hs1 : SlV w1 3 (.slice A Lx.aliveT.length c) Lx.aliveT.length (Lx.tkcs Lx.aliveT) := ⟨A, c, rfl, hle, hm, hlen, hc⟩
  clear hlen hc
  unfold maxLen at hm
  go_wp2_with fail
  refine (H2.out _).mono ?_
  rintro e w2 ⟨rfl, hb2⟩
  have hs2 := hs1.below hb2
  have hbw := below_next hb2 hb1
  obtain ⟨A2, c2, he2, _, _, _, hc⟩ := hs2
  cases he2
  obtain ⟨b, o, rfl, hbl, hcc⟩ := hc.at_ (by decide)
  have t5 := hcc 5 _ rfl
  have t7 := hcc 7 _ rfl
  have hcall := lexjoin_any _ Lx.aliveT w2 (hs1.below hb2) (by rw [Lx.alive_t]; decide)
  rw [Lx.alive_t] at hcall
  have HC := Lib.hid hcall
  clear hs1 hb1 hb2 hc hcc hcall H1 H2
  go_wp2_with fail
  refine HC.out.mono ?_
  rintro e w3 ⟨rfl, hb3⟩
  have hbe := below_next hb3 hbw
  clear t5 t7 HC
  go_wp2
  go_ret
  exact ⟨rfl, hbe⟩
end Go.Proofs.Ytdipieplmmhnhaa
