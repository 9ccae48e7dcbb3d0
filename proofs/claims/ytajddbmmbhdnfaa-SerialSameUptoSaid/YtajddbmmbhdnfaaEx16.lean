/-
  Slices of strings: slices.Index, Contains, Equal; slices.Clone of bindings.
-/
import Derived.Test.YtajddbmmbhdnfaaEx1
import Derived.Test.YtajddbmmbhdnfaaExNm
namespace Go.Proofs.Ytajddbmmbhdnfaa
set_option linter.unusedVariables false
set_option linter.unusedSimpArgs false
set_option maxRecDepth 100000
open Go.RowKit

def strs (l : List ByteArray) : List Value := l.map Value.string
theorem strs_length (l : List ByteArray) : (strs l).length = l.length := by simp [strs]
theorem strs_get (l : List ByteArray) (i : Nat) (x : ByteArray) (h : l[i]? = some x) : (strs l)[i]? = some (.string x) := by simp [strs, h]
theorem strs_one (l : List ByteArray) : ∀ u ∈ strs l, u.oneCell' = true := by
  intro u hu
  obtain ⟨x, -, rfl⟩ := List.mem_map.1 hu
  rfl
theorem Cells.str {w : World} {B : Nat} {A : Option Addr} {xs : List ByteArray} (h : Cells w B A (strs xs)) {k : Nat} {x : ByteArray} (hx : xs[k]? = some x) :
    ∃ b o, A = some ⟨b, o, none⟩ ∧ b < B ∧ w.cell? ⟨b, o + k, none⟩ = some (.string x) := by
  have g := strs_get xs k x hx
  obtain ⟨b, o, hA, hb, hc⟩ := h.at_ (fun e => by rw [e] at g; simp at g)
  exact ⟨b, o, hA, hb, hc _ _ g⟩
theorem index_str (v : Value) (xs : List ByteArray) (s : ByteArray) (w : World) (h : SlV w 1 v xs.length (strs xs)) :
    Calls Try.prog 62 #[v, .string s] w fun e w' => (∃ z : Int, e = .returned (.int .i64 z) ∧ decide (0 ≤ z) = Ex.has s xs) ∧ ∃ m, w' = w.drewN m := by
  obtain ⟨A, c, rfl, hle, hm, hlen, hc⟩ := h
  clear hlen
  unfold maxLen at hm
  go_enter Try.func62, Try.ntmps62
  go_wp2
  go_loopw [8] (fun i wr => ∃ k : Nat, k ≤ xs.length ∧ i = .int .i64 k ∧ (∃ a, wr = w.drewN a) ∧ (xs.take k).any (fun x => s.toList == x.toList) = false) (fun i _ => xs.length - (intOf i).toNat)
  case atStart => exact ⟨0, Nat.zero_le _, rfl, ⟨0, rfl⟩, rfl⟩
  case round =>
    obtain ⟨k, hk, rfl, ⟨a, rfl⟩, ht⟩ := hrel
    have HT := Lib.hid ht
    clear ht
    by_cases hlt : k < xs.length
    · obtain ⟨x, hx⟩ : ∃ x, xs[k]? = some x := ⟨_, List.getElem?_eq_getElem hlt⟩
      obtain ⟨b, o, rfl, hb, hcc⟩ := hc.str hx
      have HX := Lib.hid hx
      clear hc hx
      rcases hq : (s.toList == x.toList) with _ | _
      · go_wp2
        go_roundw
        case rel => exact ⟨k + 1, by omega, by go_num, ⟨_, rfl⟩, by
          obtain ⟨h', hx'⟩ := List.getElem?_eq_some_iff.1 HX.out
          rw [List.take_succ_eq_append_getElem h', List.any_append, HT.out, hx']
          simp [hq]⟩
        case measure => simp [intOf]; omega
      · go_wp2
        go_ret
        exact ⟨⟨_, rfl, by
          have : Ex.has s xs = true := List.any_eq_true.2 ⟨x, List.mem_of_getElem? HX.out, hq⟩
          rw [this]
          simp⟩, ⟨_, rfl⟩⟩
    · have HK := Lib.hid (show k = xs.length by omega)
      clear hc
      go_wp2
      go_ret
      exact ⟨⟨_, rfl, by
        have := HT.out
        rw [HK.out, List.take_length] at this
        show _ = Ex.has s xs
        unfold Ex.has
        rw [this]
        rfl⟩, ⟨_, rfl⟩⟩

theorem contains_str (v : Value) (xs : List ByteArray) (s : ByteArray) (w : World) (h : SlV w 1 v xs.length (strs xs)) :
    Calls Try.prog 60 #[v, .string s] w fun e w' => e = .returned (.bool (Ex.has s xs)) ∧ ∃ m, w' = w.drewN m := by
  have hi := index_str v xs s w h
  obtain ⟨A, c, rfl, hle, hm, hlen, hc⟩ := h
  clear hlen hc hm hle
  go_enter Try.func60, Try.ntmps60
  go_wp2_with fail
  refine hi.mono ?_
  rintro e w1 ⟨⟨z, rfl, hz⟩, m, rfl⟩
  have HZ := Lib.hid hz
  clear hz hi
  go_wp2
  go_ret
  exact ⟨ret_bool HZ.out, m, rfl⟩
end Go.Proofs.Ytajddbmmbhdnfaa
