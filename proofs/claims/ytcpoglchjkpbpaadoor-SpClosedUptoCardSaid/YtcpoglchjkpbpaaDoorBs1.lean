/-
  Package bitset, walked: trim; the words of both.
-/
import Derived.Test.YtcpoglchjkpbpaaDoorChecked
import Derived.Test.YtcpoglchjkpbpaaDoorBase2
import Derived.Test.YtcpoglchjkpbpaaDoorBsLaw
import Derived.Laws.Bits64b
import Derived.BigQuiet
namespace Go.Proofs.YtcpoglchjkpbpaaDoor
set_option linter.unusedVariables false
set_option linter.unusedSimpArgs false
set_option maxRecDepth 100000
open Go.RowKit

def nats (l : List Nat) : List Value := l.map fun (x : Nat) => Value.int .u64 (x : Int)
theorem nats_length (l : List Nat) : (nats l).length = l.length := by simp [nats]
theorem nats_get (l : List Nat) (i x : Nat) (h : l[i]? = some x) : (nats l)[i]? = some (.int .u64 x) := by simp [nats, h]
theorem nats_one (l : List Nat) : ∀ u ∈ nats l, u.oneCell' = true := by
  intro u hu
  obtain ⟨x, -, rfl⟩ := List.mem_map.1 hu
  rfl
theorem nats_ints (l : List Nat) : nats l = ints .u64 (l.map fun (x : Nat) => (x : Int)) := by simp [nats, ints]
theorem Cells.nat {w : World} {B : Nat} {A : Option Addr} {xs : List Nat} (h : Cells w B A (nats xs)) {k x : Nat} (hx : xs[k]? = some x) :
    ∃ b o, A = some ⟨b, o, none⟩ ∧ b < B ∧ w.cell? ⟨b, o + k, none⟩ = some (.int .u64 x) := by
  have g := nats_get xs k x hx
  obtain ⟨b, o, hA, hb, hc⟩ := h.at_ (fun e => by rw [e] at g; simp at g)
  exact ⟨b, o, hA, hb, hc _ _ g⟩
/-- a slice of words -/
def SlU (w : World) (v : Value) (xs : List Nat) : Prop := SlV w 1 v xs.length (nats xs) ∧ Bs.Ws xs
theorem SlU.below {w w' : World} {v : Value} {xs : List Nat} (h : SlU w v xs) (hb : Below w.heap.size w w') : SlU w' v xs := ⟨h.1.below hb, h.2⟩

theorem Bs.trim_take (l : List Nat) : Bs.trim l = l.take (Bs.trim l).length := by
  induction l with
  | nil => rfl
  | cons x r ih =>
    rcases h : Bs.trim r with _ | ⟨y, s⟩
    · have e : Bs.trim (x :: r) = if x = 0 then [] else [x] := by rw [Bs.trim, h]
      rw [e]
      split <;> simp
    · have e : Bs.trim (x :: r) = x :: y :: s := by rw [Bs.trim, h]
      rw [e]
      rw [h] at ih
      simp only [List.length_cons, List.take_succ_cons]
      rw [show (s.length + 1) = (y :: s).length from rfl, ← ih]

theorem Bs.trim_end {xs : List Nat} {k : Nat} (hk : k ≤ xs.length) (ht : Bs.trim (xs.take k) = Bs.trim xs) (h0 : k = 0 ∨ ∃ j x, k = j + 1 ∧ xs[j]? = some x ∧ x ≠ 0) : Bs.trim xs = xs.take k := by
  rw [← ht]
  rcases h0 with rfl | ⟨j, x, rfl, hx, h⟩
  · rfl
  · obtain ⟨h', hx'⟩ := List.getElem?_eq_some_iff.1 hx
    rw [List.take_succ_eq_append_getElem h', hx']
    exact Bs.trim_snoc _ _ h
theorem SlU.end_ {w : World} {A : Option Addr} {c k : Nat} {xs : List Nat} (hc : Cells w w.heap.size A (nats xs)) (hw : Bs.Ws xs) (hk : k ≤ xs.length) (hle : xs.length ≤ c) (hm : c ≤ maxLen) (m : Nat) (ht : Bs.trim (xs.take k) = Bs.trim xs) (h0 : k = 0 ∨ ∃ j x, k = j + 1 ∧ xs[j]? = some x ∧ x ≠ 0) : SlU (w.drewN m) (.slice A k c) (Bs.trim xs) := by
  have e := Bs.trim_end hk ht h0
  have el : (Bs.trim xs).length = k := by rw [e, List.length_take]; omega
  refine ⟨⟨A, c, by rw [el], by omega, hm, by rw [nats_length, Nat.mul_one], ?_⟩, fun x hx => hw x (Bs.mem_trim hx)⟩
  rw [e]
  have := hc.take k
  rw [show (nats xs).take k = nats (xs.take k) by simp [nats, List.map_take]] at this
  exact this

/-- where a slice begins -/
def ptr : Value → Option Addr | .slice a _ _ => a | _ => none
/-- a slice that lies in nothing elder than B -/
def New (B : Nat) (v : Value) : Prop := ∀ p, ptr v = some p → B ≤ p.block
theorem New.nil (B n c : Nat) : New B (.slice none n c) := fun _ h => by cases h
theorem New.mono {B C : Nat} {v : Value} (h : New C v) (hB : B ≤ C) : New B v := fun p hp => Nat.le_trans hB (h p hp)

theorem trim_any (w : World) (v : Value) (xs : List Nat) (h : SlU w v xs) :
    Calls Tryd.prog 68 #[v] w fun e w' => ∃ v', e = .returned v' ∧ SlU w' v' (Bs.trim xs) ∧ (∃ m, w' = w.drewN m) ∧ ptr v' = ptr v := by
  obtain ⟨⟨A, c, rfl, hle, hm, hlen, hc⟩, hw⟩ := h
  clear hlen
  unfold maxLen at hm
  go_enter Tryd.func68, Tryd.ntmps68
  go_wp2
  go_loopw [0] (fun i wr => ∃ k : Nat, k ≤ xs.length ∧ i = .slice A k c ∧ (∃ a, wr = w.drewN a) ∧ Bs.trim (xs.take k) = Bs.trim xs) (fun i _ => slLen i)
  case atStart => exact ⟨xs.length, Nat.le_refl _, rfl, ⟨0, rfl⟩, by rw [List.take_length]⟩
  case round =>
    obtain ⟨k, hk, rfl, ⟨a, rfl⟩, ht⟩ := hrel
    have HT := Lib.hid ht
    clear ht
    match k, hk, HT with
    | 0, hk, HT =>
      have HC := Lib.hid hc
      clear hc
      go_wp2
      go_ret
      exact ⟨_, rfl, SlU.end_ HC.out hw hk hle hm a HT.out (.inl rfl), ⟨a, rfl⟩, rfl⟩
    | k + 1, hk, HT =>
      obtain ⟨x, hx⟩ : ∃ x, xs[k]? = some x := ⟨_, List.getElem?_eq_getElem (by omega)⟩
      obtain ⟨b, o, rfl, hb, hcc⟩ := hc.nat hx
      have HX := Lib.hid hx
      have HC := Lib.hid hc
      clear hc hx
      rcases hz : ((x : Int) == 0) with _ | _
      · have hx0 : x ≠ 0 := by simp at hz; omega
        have HX0 := Lib.hid hx0
        clear hx0
        go_wp2
        go_ret
        exact ⟨_, rfl, SlU.end_ HC.out hw hk hle hm a HT.out (.inr ⟨k, x, rfl, HX.out, HX0.out⟩), ⟨a, rfl⟩, rfl⟩
      · go_wp2
        go_roundw
        case rel => exact ⟨k, by omega, rfl, ⟨a, rfl⟩, by
          rw [← HT.out]
          obtain ⟨h', hx'⟩ := List.getElem?_eq_some_iff.1 HX.out
          have hx0 : x = 0 := by simpa using hz
          rw [List.take_succ_eq_append_getElem h', hx', hx0, Bs.trim_snoc_zero]⟩
        case measure => simp [slLen]
end Go.Proofs.YtcpoglchjkpbpaaDoor
