/-
  A region that draws its order, within a round of a range over a function: the walk in text order. No program is named here.
-/
import Derived.Test.YtcpoglchjkpbpaaDoorSettle3
import Derived.OrdersIn
import Derived.CallsIn
import Derived.RangeFuncCalls
import Derived.TacticsIn
namespace Go.Proofs.YtcpoglchjkpbpaaDoor
set_option linter.unusedVariables false
set_option linter.unusedSimpArgs false
set_option maxRecDepth 100000
open Go Go.RowKit

section
variable {P : Program} {ops : Array Oper} {Q : Exit → Act → World → Prop} {l n : Nat}

theorem operIn_of {o : Oper} {a : Act} {w : World} {K : Act → World → Prop} (hd : ∀ c, o.op ≠ .defer c) (h : o.wp P a w K Q) : o.wpIn (Fence.wide.inRound l) n P a w K Q := by
  refine ⟨fun f _ => trivial, ?_⟩
  rw [Fence.inRound_round, Oper.semAt_some l _ _ hd]
  unfold Oper.wp at h
  generalize (execOp a.eval o).run P w = r at h ⊢
  cases r with
  | ok x w' =>
    cases x with
    | enter f args => exact ⟨fun h' => (nomatch h'), CallsIn.inRound l (callsIn_wide.2 h)⟩
    | row row args =>
      refine ⟨fun h' => (nomatch h'), fun c cs _ => ?_⟩
      obtain ⟨v, w', r, s⟩ := h c cs
      exact ⟨v, w', r, stepsIn_wide.2 s⟩
    | value v => exact h
    | skip => exact h
    | defer d => exact h
    | _ => exact h.elim
  | halt x w' => cases x <;> exact h

theorem opIn_of {i : Nat} {a : Act} {w : World} {K : Act → World → Prop} (hd : ∀ o, ops[i]? = some o → ∀ c, o.op ≠ .defer c) (hL : ¬ LetsOut Q) (h : wpOp P ops Q i K a w) : wpOpIn (Fence.wide.inRound l) n P ops Q i K a w := by
  unfold wpOp at h
  unfold wpOpIn
  rcases ho : ops[i]? with _ | o
  · rw [ho] at h
    exact h
  · simp only [ho] at h ⊢
    split
    · rename_i hw
      rw [if_pos hw] at h
      rcases h with h | ⟨_, h⟩
      · exact operIn_of (hd o ho) h
      · exact (hL h).elim
    · rename_i hw
      rw [if_neg hw] at h
      exact ⟨fun _ _ => trivial, h⟩

theorem anyIn_of (hd : ∀ (i : Nat) (o : Oper), ops[i]? = some o → ∀ c, o.op ≠ .defer c) (hL : ¬ LetsOut Q) : ∀ (fuel : Nat) (listed : Array Bool) (a : Act) (w : World), wpAny P .any ops Q fuel listed a w → wpAnyIn (Fence.wide.inRound l) n P .any ops Q fuel listed a w
  | 0, _, _, _, h => h
  | fuel + 1, listed, a, w, h => ⟨h.1, fun i hi => wpOpIn_mono (fun a w h' => anyIn_of hd hL fuel _ a w h') (opIn_of (hd i) hL (h.2 i hi))⟩

def noDefer (ops : Array Oper) : Bool := ops.all fun o => match o.op with | .defer _ => false | _ => true
theorem noDefer_spec (h : noDefer ops = true) : ∀ (i : Nat) (o : Oper), ops[i]? = some o → ∀ c, o.op ≠ .defer c := fun i o ho c hc => by
  obtain ⟨hi, rfl⟩ := Array.getElem?_eq_some_iff.1 ho
  have := (Array.all_eq_true.1 h) i hi
  rw [hc] at this
  cases this

variable {E : World → World → Prop} {S : World → Prop}
theorem wpIn_walk_tail {id : Nat} {a : Act} {w : World} {l : List Oper} {r : Nat} (k : Nat) (hm : P.follows .mixedOrders = true) (hB : (tailB l.toArray k && noDefer l.toArray) = true) (hL : ¬ LetsOut Q) (E : World → World → Prop) (S : World → Prop) (hS : S w.drew)
    (h : Walk P l.toArray S E (fun A Fs => ∀ ρ w', S w' → (∀ t F, (t, F) ∈ Fs → F.holds (ρ t) w') → wpList P l.toArray Q (l.drop k) (A ρ) w') (l.take k) (fun _ => a) []) : (Code.region id l.toArray true).wpIn (Fence.wide.inRound r) n P Q a w := by
  rw [Bool.and_eq_true] at hB
  obtain ⟨hB, hno⟩ := hB
  simp only [tailB, Bool.and_eq_true, decide_eq_true_eq] at hB
  obtain ⟨⟨⟨⟨hn, hlin⟩, hs⟩, hc⟩, hq⟩ := hB
  obtain ⟨full, hp, he, hZ⟩ := settle_plan (l.take k) [] ⟨(fun _ h => by cases h), (fun pre p post he => by simp at he)⟩ h.out
  have inv0 : HeadInv .any l.toArray k (Array.replicate l.toArray.size false) :=
    ⟨by simp, fun j oj _ hl => (by rw [getD_replicate_false] at hl; cases hl), fun t _ ht => getD_in (by simpa using ht) (getD_replicate_false _ _)⟩
  have := any_order_tail (P := P) (Q := Q) hn (by simpa using he) (linearN_of hlin) hs hc (fun listed hsz h1 h2 => by
    have hn' := hn
    rw [show listed = (Array.replicate k true) ++ (Array.replicate (l.toArray.size - k) false) from getD_ext (by simp only [Array.size_append, Array.size_replicate]; omega) fun i => by
      rw [Array.getD_eq_getD_getElem? (xs := _ ++ _), Array.getElem?_append]
      rcases Nat.lt_or_ge i k with h | h
      · rw [h1 i h]
        simp [h]
      · rw [h2 i h]
        simp only [Array.size_replicate, Nat.not_lt.2 h, if_false, Array.getElem?_replicate]
        split <;> rfl]
    exact hq) hp hZ k _ a w.drew (fun _ => undef) inv0 ⟨List.range k, by simp, fun i hi _ => List.mem_range.2 hi⟩ ⟨rfl, rfl, fun _ _ => rfl, fun i p t hi => ?_⟩ hS fun i p F d hi => ?_
  · refine wpIn_region_any hm (anyIn_of (noDefer_spec hno) hL _ _ _ _ ?_)
    rwa [show k + (l.toArray.size - k) = l.toArray.size by omega] at this
  · exfalso; rw [getD_replicate_false] at hi; cases hi
  · exfalso; rw [getD_replicate_false] at hi; cases hi
theorem wpIn_walk_last {id : Nat} {a : Act} {w : World} {l : List Oper} {r : Nat} (hm : P.follows .mixedOrders = true) (hB : (tailB l.toArray (l.length - 1) && noDefer l.toArray) = true) (hL : ¬ LetsOut Q) (E : World → World → Prop) (S : World → Prop) (hS : S w.drew)
    (h : Walk P l.toArray S E (fun A Fs => ∀ ρ w', S w' → (∀ t F, (t, F) ∈ Fs → F.holds (ρ t) w') → wpList P l.toArray Q (l.drop (l.length - 1)) (A ρ) w') (l.take (l.length - 1)) (fun _ => a) []) : (Code.region id l.toArray true).wpIn (Fence.wide.inRound r) n P Q a w :=
  wpIn_walk_tail (l.length - 1) hm hB hL E S hS h
theorem wpIn_walk {id : Nat} {a : Act} {w : World} {l : List Oper} {r : Nat} (hm : P.follows .mixedOrders = true) (hlin : (linearB l.toArray && noDefer l.toArray) = true) (hL : ¬ LetsOut Q) (E : World → World → Prop) (S : World → Prop) (hS : S w.drew)
    (h : Walk P l.toArray S E (fun A Fs => ∀ ρ w', S w' → (∀ t F, (t, F) ∈ Fs → F.holds (ρ t) w') → Q .normal (A ρ) w') l (fun _ => a) []) : (Code.region id l.toArray true).wpIn (Fence.wide.inRound r) n P Q a w := by
  rw [Bool.and_eq_true] at hlin
  obtain ⟨hlin, hno⟩ := hlin
  obtain ⟨full, hp, he, hZ⟩ := settle_plan l [] ⟨(fun _ h => by cases h), (fun pre p post he => by simp at he)⟩ h.out
  refine wpIn_region_any hm (anyIn_of (noDefer_spec hno) hL _ _ _ _ (any_order (by simpa using he) (linear_of hlin) hp hZ _ _ a _ (fun _ => undef) (by simp) (fun i j o hj => ?_) ⟨List.range l.toArray.size, by simp, fun i hi _ => List.mem_range.2 hi⟩ ⟨rfl, rfl, fun _ _ => rfl, fun i p t hi => ?_⟩ hS fun i p F d hi => ?_))
  · exfalso; revert hj; simp [Array.getD]
  · exfalso; revert hi; simp [Array.getD]
  · exfalso; revert hi; simp [Array.getD]
end
end Go.Proofs.YtcpoglchjkpbpaaDoor
