/-
  Package bitset, walked: Of, Size; slices.Equal of words and numbers, slices.Contains of numbers.
-/
import Derived.Test.YtcpoglchjkpbpaaDoorBs8
namespace Go.Proofs.YtcpoglchjkpbpaaDoor
set_option linter.unusedVariables false
set_option linter.unusedSimpArgs false
set_option maxRecDepth 100000
open Go.RowKit

namespace Bs
def of_ (l : List Int) : List Nat := l.foldl add []
theorem of_snoc (l : List Int) (x : Int) : of_ (l ++ [x]) = add (of_ l) x := by unfold of_; rw [List.foldl_append]; rfl
theorem add_length (s : List Nat) (n : Int) : (add s n).length ≤ max s.length 1024 := by
  unfold add
  split
  · omega
  · rw [put_length]; omega
theorem of_length (l : List Int) : (of_ l).length ≤ 1024 := by
  have key : ∀ (l : List Int) (s : List Nat), s.length ≤ 1024 → (l.foldl add s).length ≤ 1024 := by
    intro l
    induction l with
    | nil => exact fun s h => h
    | cons x l ih => exact fun s h => ih _ (by have := add_length s x; omega)
  exact key l [] (by decide)
def size : List Nat → Nat
  | [] => 0
  | x :: r => Go.Lib.popAux 64 x + size r
theorem size_append (a b : List Nat) : size (a ++ b) = size a + size b := by
  induction a with
  | nil => simp [size]
  | cons x a ih => rw [List.cons_append, size, size, ih]; omega
theorem size_le (a : List Nat) : size a ≤ 64 * a.length := by
  induction a with
  | nil => simp [size]
  | cons x a ih =>
    have := pop_le 64 x
    rw [size, List.length_cons]; omega
end Bs
theorem SlU.nil (w : World) : SlU w (.slice none 0 0) [] := ⟨SlV.nil w 1, fun x h => by cases h⟩

theorem of_any (w : World) (v : Value) (l : List Int) (h : SlV w 1 v l.length (ints .i64 l)) :
    Calls Tryd.prog 18 #[v] w fun e w' => ∃ u, e = .returned u ∧ SlU w' u (Bs.of_ l) ∧ Below w.heap.size w w' := by
  obtain ⟨A, c, rfl, hle, hm, hlen, hc⟩ := h
  clear hlen
  unfold maxLen at hm
  go_enter Tryd.func18, Tryd.ntmps18
  go_wp2
  go_loopw [3, 8] (fun u i wr => ∃ k : Nat, k ≤ l.length ∧ i = .int .i64 k ∧ SlU wr u (Bs.of_ (l.take k)) ∧ Below w.heap.size w wr) (fun _ i _ => l.length - (intOf i).toNat)
  case atStart => exact ⟨0, Nat.zero_le _, rfl, SlU.nil _, Below.refl _ _⟩
  case round =>
    obtain ⟨k, hk, rfl, hu, hb⟩ := hrel
    by_cases hlt : k < l.length
    · obtain ⟨b, o, x, rfl, hbb, hx, hcc⟩ := hc.one hlt
      have hcw := (hb.cell (p := ⟨b, o + k, none⟩) hbb).trans hcc
      have HX := Lib.hid hx
      clear hc hcc hx
      go_wp2_with fail
      refine (add_any _ _ _ x hu (Nat.le_trans (Bs.of_length _) (by decide))).mono ?_
      rintro e w2 ⟨u2, rfl, hu2, hb2⟩
      obtain ⟨U, uc, rfl⟩ := slU_form hu2
      have HU := Lib.hid (And.intro hu2 (below_next hb2 hb))
      clear hu hu2 hb hb2 hcw
      go_wp2
      go_roundw
      case rel => exact ⟨k + 1, by omega, by go_num, by
        obtain ⟨h', hx'⟩ := List.getElem?_eq_some_iff.1 HX.out.out
        rw [List.take_succ_eq_append_getElem h', hx', Bs.of_snoc]
        exact HU.out.1, HU.out.2⟩
      case measure => simp [intOf]; omega
    · have HK := Lib.hid (show k = l.length by omega)
      obtain ⟨U, uc, rfl⟩ := slU_form hu
      have HU := Lib.hid (And.intro hu hb)
      clear hu hb hc
      go_wp2
      go_ret
      exact ⟨_, rfl, by have := HU.out.1; rw [HK.out, List.take_length] at this; rw [HK.out, List.take_length]; exact this, HU.out.2⟩

theorem size_any (w : World) (v : Value) (xs : List Nat) (h : SlU w v xs) (hr : xs.length ≤ 17592186044) :
    Calls Tryd.prog 41 #[v] w fun e w' => e = .returned (.int .i64 (Bs.size xs : Nat)) ∧ w = w' := by
  obtain ⟨⟨A, c, rfl, hle, hm, hlen, hc⟩, hw⟩ := h
  clear hlen
  unfold maxLen at hm
  go_enter Tryd.func41, Tryd.ntmps41
  go_wp2
  go_loopw [3, 8] (fun u i wr => ∃ k : Nat, k ≤ xs.length ∧ i = .int .i64 k ∧ u = .int .i64 (Bs.size (xs.take k) : Nat) ∧ w = wr) (fun _ i _ => xs.length - (intOf i).toNat)
  case atStart => exact ⟨0, Nat.zero_le _, rfl, rfl, rfl⟩
  case round =>
    obtain ⟨k, hk, rfl, rfl, rfl⟩ := hrel
    have hsz := Bs.size_le (xs.take k)
    rw [List.length_take] at hsz
    by_cases hlt : k < xs.length
    · obtain ⟨x, hx⟩ : ∃ x, xs[k]? = some x := ⟨_, List.getElem?_eq_getElem hlt⟩
      obtain ⟨b, o, rfl, hbb, hcc⟩ := hc.nat hx
      have hxw := hw x (List.mem_of_getElem? hx)
      have hp := Bs.pop_le 64 x
      have HX := Lib.hid hx
      obtain ⟨z, hz⟩ : ∃ z, z = Bs.size (xs.take k) := ⟨_, rfl⟩
      rw [← hz] at hsz ⊢
      have HZ := Lib.hid hz
      clear hc hx hz
      go_wp2_with fail
      refine (ones_any _ x hxw).mono ?_
      rintro e w2 ⟨rfl, rfl⟩
      go_wp2
      go_roundw
      case rel => exact ⟨k + 1, by omega, by go_num, by
        obtain ⟨h', hx'⟩ := List.getElem?_eq_some_iff.1 HX.out
        rw [List.take_succ_eq_append_getElem h', hx', Bs.size_append, ← HZ.out]
        simp [Bs.size], by first | rfl | trivial⟩
      case measure => simp [intOf]; omega
    · have HK := Lib.hid (show k = xs.length by omega)
      clear hc
      go_wp2
      go_ret
      exact ⟨by rw [HK.out, List.take_length]; rfl, rfl⟩

theorem equal_i64 (v v' : Value) (xs ys : List Int) (w : World) (h : SlV w 1 v xs.length (ints .i64 xs)) (h' : SlV w 1 v' ys.length (ints .i64 ys)) :
    Calls Tryd.prog 35 #[v, v'] w fun e w' => e = .returned (.bool (decide (xs = ys))) ∧ ∃ m, w' = w.drewN m := by
  obtain ⟨A, c, rfl, hle, hm, hlen, hc⟩ := h
  obtain ⟨A', c', rfl, hle', hm', hlen', hc'⟩ := h'
  clear hlen hlen'
  unfold maxLen at hm hm'
  by_cases hn : xs.length = ys.length
  · have hne : ((xs.length : Int) != ys.length) = false := by simp [hn]
    have HN := Lib.hid hn
    clear hn
    go_enter Tryd.func35, Tryd.ntmps35
    go_wp2
    go_loopw [13] (fun i wr => ∃ k : Nat, k ≤ xs.length ∧ i = .int .i64 k ∧ (∃ a, wr = w.drewN a) ∧ xs.take k = ys.take k) (fun i _ => xs.length - (intOf i).toNat)
    case atStart => exact ⟨0, Nat.zero_le _, rfl, ⟨0, rfl⟩, rfl⟩
    case round =>
      obtain ⟨k, hk, rfl, ⟨a, rfl⟩, ht⟩ := hrel
      have HT := Lib.hid ht
      clear ht
      by_cases hlt : k < xs.length
      · have hlt' : k < ys.length := by rw [← HN.out]; exact hlt
        obtain ⟨b, o, x, rfl, hb, hx, hcc⟩ := hc.one hlt
        obtain ⟨b', o', y, rfl, hb', hy, hcc'⟩ := hc'.one hlt'
        clear hc hc'
        have hsn : ∀ (z : Int) (l : List Int), l[k]? = some z → l.take (k + 1) = l.take k ++ [z] := fun z l h => by
          obtain ⟨h', rfl⟩ := List.getElem?_eq_some_iff.1 h
          exact List.take_succ_eq_append_getElem h'
        have HSN := Lib.hid hsn
        clear hsn
        rcases hg : x != y with _ | _
        · go_wp2
          go_quiet (fail)
          go_wp2
          go_roundw
          case rel => exact ⟨k + 1, by omega, by go_num, ⟨_, rfl⟩, by rw [HSN.out _ _ hx.out, HSN.out _ _ hy.out, HT.out, show x = y by simpa using hg]⟩
          case measure => simp [intOf]; omega
        · go_wp2
          go_quiet (fail)
          go_wp2
          go_ret
          refine ⟨ret_bool ?_, ⟨_, World.drewN_drewN _ _ _⟩⟩
          symm
          simp only [decide_eq_false_iff_not]
          rintro rfl
          rw [hx.out] at hy
          simp at hg
          exact hg (by simpa using hy.out)
      · have HK := Lib.hid (show k = xs.length by omega)
        clear hc hc'
        go_wp2
        go_ret
        refine ⟨ret_bool ?_, ⟨_, rfl⟩⟩
        symm
        simp only [decide_eq_true_eq]
        have := HT.out
        rw [HK.out, List.take_length, HN.out, List.take_length] at this
        exact this
  · have hne : ((xs.length : Int) != ys.length) = true := by simp; omega
    have hnl : xs ≠ ys := fun e => hn (by rw [e])
    have HNL := Lib.hid hnl
    clear hnl hc hc'
    go_enter Tryd.func35, Tryd.ntmps35
    go_wp2
    go_ret
    exact ⟨ret_bool (by simp [HNL.out]), ⟨0, rfl⟩⟩
end Go.Proofs.YtcpoglchjkpbpaaDoor
