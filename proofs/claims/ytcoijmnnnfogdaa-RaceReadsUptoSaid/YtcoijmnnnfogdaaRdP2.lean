/-
  slices.Grow, slices.Concat of integers.
-/
import Derived.Orders
import Derived.WalkKit
import Derived.Test.YtcoijmnnnfogdaaRdP1
import Derived.IntWalk
import Derived.Test.YtcoijmnnnfogdaaShelf
import Derived.Sort.OwnSortedInts
import Derived.Lib.SlKeysI
import Derived.Maps.OwnOps
import Derived.Maps.Views
import Derived.Test.YtcoijmnnnfogdaaRows
import Derived.Test.YtcoijmnnnfogdaaChecked
import Derived.Lib.AppendZeros

namespace Go.Proofs.Ytcoijmnnnfogdaa
set_option linter.unusedVariables false
set_option linter.unusedSimpArgs false
set_option maxRecDepth 100000
open Go

abbrev Env := Tmp → Value

/-- what is known of a value, and stays known while the world goes on -/
structure Fact (E : World → World → Prop) where
  holds : Value → World → Prop
  keep : ∀ v w w', holds v w → E w w' → holds v w'

inductive Kind (E : World → World → Prop) where
  | fixed (v : Value)
  | fresh (F : Fact E)

section
variable {P : Program} {ops : Array Oper} {Q : Exit → Act → World → Prop} {S : World → Prop} {E : World → World → Prop}

def Kind.val (ρ : Env) (o : Oper) : Kind E → Value
  | .fixed v => v
  | .fresh _ => match o.dst with | some d => ρ d | none => undef
def Kind.rel : Kind E → Value → World → Prop
  | .fixed v => fun u _ => u = v
  | .fresh F => F.holds

def FactsOK (looks : List Tmp) (ρ : Env) (w : World) : List (Tmp × Fact E) → Prop
  | [] => True
  | (t, F) :: r => (looks.contains t = true → F.holds (ρ t) w) ∧ FactsOK looks ρ w r

def StepTo (P : Program) (ops : Array Oper) (S : World → Prop) (E : World → World → Prop) (o : Oper) (a : Act) (w : World) (R : Value → World → Prop) : Prop :=
  if Region.wanted o (yielded ops a.tmps) = true then
    ∀ K : Act → World → Prop, (∀ v w', R v w' → S w' → E w w' → K (a.put o.dst v) w') → o.wp P a w K (fun _ _ _ => False)
  else R undef w

def Settle (P : Program) (ops : Array Oper) (S : World → Prop) (E : World → World → Prop) (Z : (Env → Act) → List (Tmp × Fact E) → Prop) : List Oper → (Env → Act) → List (Tmp × Fact E) → Prop
  | [], A, Fs => Z A Fs
  | o :: rest, A, Fs =>
    (∃ v, (∀ ρ w, S w → FactsOK (o.looksAt ops) ρ w Fs → StepTo P ops S E o (A ρ) w (fun u _ => u = v)) ∧ Settle P ops S E Z rest (fun ρ => (A ρ).put o.dst v) Fs) ∨
    (∃ d F, o.dst = some d ∧ (∀ ρ w, S w → FactsOK (o.looksAt ops) ρ w Fs → StepTo P ops S E o (A ρ) w F.holds) ∧ Settle P ops S E Z rest (fun ρ => (A ρ).put (some d) (ρ d)) ((d, F) :: Fs))

def actOf (a : Act) (ρ : Env) (l : List (Oper × Kind E)) : Act := l.foldl (fun a p => a.put p.1.dst (p.2.val ρ p.1)) a
def addFact (Fs : List (Tmp × Fact E)) (p : Oper × Kind E) : List (Tmp × Fact E) :=
  match p.2, p.1.dst with
  | .fresh F, some d => (d, F) :: Fs
  | _, _ => Fs
def factsOf (l : List (Oper × Kind E)) : List (Tmp × Fact E) := l.foldl addFact []

structure Plan (P : Program) (ops : Array Oper) (S : World → Prop) (a : Act) (l : List (Oper × Kind E)) : Prop where
  dst : ∀ p ∈ l, (∃ F, p.2 = .fresh F) → ∃ d, p.1.dst = some d
  step : ∀ pre p post, l = pre ++ p :: post → ∀ ρ w, S w → FactsOK (p.1.looksAt ops) ρ w (factsOf pre) → StepTo P ops S E p.1 (actOf a ρ pre) w p.2.rel

theorem plan_snoc {a : Act} {l : List (Oper × Kind E)} (h : Plan P ops S a l) {p : Oper × Kind E} (h1 : (∃ F, p.2 = .fresh F) → ∃ d, p.1.dst = some d)
    (h2 : ∀ ρ w, S w → FactsOK (p.1.looksAt ops) ρ w (factsOf l) → StepTo P ops S E p.1 (actOf a ρ l) w p.2.rel) : Plan P ops S a (l ++ [p]) := by
  refine ⟨fun q hq hf => ?_, fun pre q post he => ?_⟩
  · rcases List.mem_append.1 hq with hq | hq
    · exact h.dst q hq hf
    · rw [List.mem_singleton.1 hq] at hf ⊢
      exact h1 hf
  · rcases List.eq_nil_or_concat post with rfl | ⟨post', q', rfl⟩
    · have := List.append_inj' he rfl
      obtain ⟨e1, e2⟩ := this
      injection e2 with e2
      subst e1 e2
      exact h2
    · have e : pre ++ q :: (post' ++ [q']) = (pre ++ q :: post') ++ [q'] := by simp
      rw [List.concat_eq_append, e] at he
      exact h.step pre q post' (List.append_inj' he rfl).1

theorem settle_plan {Z : (Env → Act) → List (Tmp × Fact E) → Prop} {a : Act} : ∀ (l : List Oper) (pre : List (Oper × Kind E)), Plan P ops S a pre → Settle P ops S E Z l (fun ρ => actOf a ρ pre) (factsOf pre) →
    ∃ full : List (Oper × Kind E), Plan P ops S a full ∧ full.map (·.1) = pre.map (·.1) ++ l ∧ Z (fun ρ => actOf a ρ full) (factsOf full) := by
  intro l
  induction l with
  | nil => exact fun pre hp h => ⟨pre, hp, by simp, h⟩
  | cons o rest ih =>
    intro pre hp h
    rcases h with ⟨v, h1, h2⟩ | ⟨d, F, hd, h1, h2⟩
    · obtain ⟨full, q1, q2, q3⟩ := ih (pre ++ [(o, .fixed v)]) (plan_snoc (p := (o, .fixed v)) hp (fun ⟨F, h⟩ => by cases h) h1) (by
        have e1 : (fun ρ => actOf a ρ (pre ++ [(o, (Kind.fixed v : Kind E))])) = fun ρ => (actOf a ρ pre).put o.dst v := by
          funext ρ; simp [actOf, Kind.val]
        have e2 : factsOf (pre ++ [(o, (Kind.fixed v : Kind E))]) = factsOf pre := by simp [factsOf, addFact]
        rw [e1, e2]
        exact h2)
      exact ⟨full, q1, by rw [q2]; simp, q3⟩
    · obtain ⟨full, q1, q2, q3⟩ := ih (pre ++ [(o, .fresh F)]) (plan_snoc (p := (o, .fresh F)) hp (fun _ => ⟨d, hd⟩) h1) (by
        have e1 : (fun ρ => actOf a ρ (pre ++ [(o, (Kind.fresh F : Kind E))])) = fun ρ => (actOf a ρ pre).put (some d) (ρ d) := by
          funext ρ; simp [actOf, Kind.val, hd]
        have e2 : factsOf (pre ++ [(o, (Kind.fresh F : Kind E))]) = (d, F) :: factsOf pre := by simp [factsOf, addFact, hd]
        rw [e1, e2]
        exact h2)
      exact ⟨full, q1, by rw [q2]; simp, q3⟩

/-! ### what an act holds when some of the operations have come up -/
structure Holds (a0 : Act) (full : List (Oper × Kind E)) (L : Nat → Prop) (ρ : Env) (a : Act) : Prop where
  defers : a.defers = a0.defers
  size : a.tmps.size = a0.tmps.size
  far : ∀ t, (∀ i p, L i → full[i]? = some p → p.1.dst ≠ some t) → a.tmps[t]? = a0.tmps[t]?
  near : ∀ i p t, L i → full[i]? = some p → p.1.dst = some t → t < a0.tmps.size → a.tmps[t]? = some (p.2.val ρ p.1)

theorem put_size (a : Act) (d : Option Tmp) (v : Value) : (a.put d v).tmps.size = a.tmps.size := by cases d <;> simp [Act.put]
theorem put_defers' (a : Act) (d : Option Tmp) (v : Value) : (a.put d v).defers = a.defers := by cases d <;> simp [Act.put]
theorem put_get_ne (a : Act) (d : Option Tmp) (v : Value) (t : Tmp) (h : d ≠ some t) : (a.put d v).tmps[t]? = a.tmps[t]? := by
  cases d with
  | none => rfl
  | some d => simp [Act.put, Array.getElem?_setIfInBounds_ne (show d ≠ t from fun e => h (by rw [e]))]
theorem put_get_eq (a : Act) (v : Value) (t : Tmp) (h : t < a.tmps.size) : (a.put (some t) v).tmps[t]? = some v := by
  simp [Act.put, h]

theorem Holds.put {a0 a : Act} {full : List (Oper × Kind E)} {L L' : Nat → Prop} {ρ ρ' : Env} (h : Holds a0 full L ρ a) {i : Nat} {p : Oper × Kind E} (hp : full[i]? = some p) (hL : ∀ j, L' j ↔ j = i ∨ L j)
    (hdist : ∀ j q, L j → full[j]? = some q → ∀ d, q.1.dst = some d → p.1.dst ≠ some d) (hρ : ∀ j q, L j → full[j]? = some q → q.2.val ρ' q.1 = q.2.val ρ q.1) :
    Holds a0 full L' ρ' (a.put p.1.dst (p.2.val ρ' p.1)) := by
  refine ⟨(put_defers' _ _ _).trans h.defers, (put_size _ _ _).trans h.size, fun t ht => ?_, fun j q t hj hq hd hlt => ?_⟩
  · rw [put_get_ne _ _ _ _ (ht i p ((hL i).2 (.inl rfl)) hp)]
    exact h.far t fun j q hj hq => ht j q ((hL j).2 (.inr hj)) hq
  · rcases (hL j).1 hj with rfl | hj'
    · rw [hp] at hq
      injection hq with hq
      subst hq
      rw [hd]
      exact put_get_eq _ _ _ (by rw [h.size]; exact hlt)
    · rw [put_get_ne _ _ _ _ (hdist j q hj' hq t hd), h.near j q t hj' hq hd hlt, hρ j q hj' hq]

theorem Holds.agree {a0 a a' : Act} {full : List (Oper × Kind E)} {L L' : Nat → Prop} {ρ : Env} (h : Holds a0 full L ρ a) (h' : Holds a0 full L' ρ a') (t : Tmp)
    (ht : ∀ j q, full[j]? = some q → q.1.dst = some t → (L j ↔ L' j)) : a.tmps[t]? = a'.tmps[t]? := by
  by_cases hex : ∃ j q, L j ∧ full[j]? = some q ∧ q.1.dst = some t
  · obtain ⟨j, q, hj, hq, hd⟩ := hex
    rcases Nat.lt_or_ge t a0.tmps.size with hlt | hge
    · rw [h.near j q t hj hq hd hlt, h'.near j q t ((ht j q hq hd).1 hj) hq hd hlt]
    · rw [Array.getElem?_eq_none (by rw [h.size]; exact hge), Array.getElem?_eq_none (by rw [h'.size]; exact hge)]
  · rw [h.far t (fun j q hj hq hd => hex ⟨j, q, hj, hq, hd⟩), h'.far t (fun j q hj hq hd => hex ⟨j, q, (ht j q hq hd).2 hj, hq, hd⟩)]

theorem Holds.unique {a0 a a' : Act} {full : List (Oper × Kind E)} {L : Nat → Prop} {ρ : Env} (h : Holds a0 full L ρ a) (h' : Holds a0 full L ρ a') : a = a' := by
  have e : a.tmps = a'.tmps := Array.ext_getElem? fun t => h.agree h' t fun _ _ _ _ => Iff.rfl
  have d := h.defers.trans h'.defers.symm
  cases a; cases a'; simp_all

/-- the order of the text is one, and what is not apart waits -/
def linearB (ops : Array Oper) : Bool :=
  Region.noSelect ops && (List.range ops.size).all fun j =>
    match ops[j]? with
    | none => true
    | some oj => oj.after.all (fun e => !Region.binds .any e || decide (e.on < j)) && !((oj.dst.map fun d => (oj.looksAt ops).contains d).getD false) && (List.range j).all fun i =>
      match ops[i]? with
      | none => true
      | some oi => (oi.apart ops oj || oj.after.any (fun e => Region.binds .any e && e.on == i)) && (match oi.dst with | some d => oj.dst != some d | none => true)

structure Linear (ops : Array Oper) : Prop where
  sel : ∀ (j : Nat) (o : Oper) cs b, ops[j]? = some o → o.op ≠ .select cs b
  back : ∀ (j : Nat) (o : Oper), ops[j]? = some o → ∀ e ∈ o.after, Region.binds .any e = true → e.on < j
  self : ∀ (j : Nat) (o : Oper) d, ops[j]? = some o → o.dst = some d → d ∉ o.looksAt ops
  wait : ∀ (i j : Nat) (oi oj : Oper), i < j → ops[i]? = some oi → ops[j]? = some oj → oi.apart ops oj = true ∨ ∃ e ∈ oj.after, Region.binds .any e = true ∧ e.on = i
  dist : ∀ (i j : Nat) (oi oj : Oper) d, i < j → ops[i]? = some oi → ops[j]? = some oj → oi.dst = some d → oj.dst ≠ some d

theorem linear_of (h : linearB ops = true) : Linear ops := by
  unfold linearB at h
  rw [Bool.and_eq_true, List.all_eq_true] at h
  obtain ⟨h0, h⟩ := h
  have key : ∀ (j : Nat) (oj : Oper), ops[j]? = some oj → _ := fun j oj hj => by
    have := h j (List.mem_range.2 (Array.getElem?_eq_some_iff.1 hj).1)
    rw [hj] at this
    simp only [Bool.and_eq_true] at this
    exact this
  refine ⟨Region.noSelect_spec h0, fun j o ho e he hb => ?_, fun j o d ho hd hmem => ?_, fun i j oi oj hij hi hj => ?_, fun i j oi oj d hij hi hj hd => ?_⟩
  · have := (key j o ho).1.1
    rw [Array.all_eq_true_iff_forall_mem] at this
    have := this e he
    simpa [hb] using this
  · have := (key j o ho).1.2
    rw [hd] at this
    simp [hmem] at this
  · have := (List.all_eq_true.1 (key j oj hj).2) i (List.mem_range.2 hij)
    rw [hi] at this
    simp only [Bool.and_eq_true, Bool.or_eq_true] at this
    rcases this.1 with h | h
    · exact .inl h
    · obtain ⟨n, hn, hb⟩ := Array.any_eq_true.1 h
      simp only [Bool.and_eq_true, beq_iff_eq] at hb
      exact .inr ⟨_, Array.getElem_mem hn, hb.1, hb.2⟩
  · have := (List.all_eq_true.1 (key j oj hj).2) i (List.mem_range.2 hij)
    rw [hi] at this
    simp only [Bool.and_eq_true] at this
    have h2 := this.2
    rw [hd] at h2
    simpa using h2

/-! ### whatever order comes up -/
theorem factsOK_of {looks : List Tmp} {ρ : Env} {w : World} : ∀ (Fs : List (Tmp × Fact E)), (∀ t F, (t, F) ∈ Fs → looks.contains t = true → F.holds (ρ t) w) → FactsOK looks ρ w Fs
  | [], _ => trivial
  | (t, F) :: r, h => ⟨h t F (by simp), factsOK_of r fun t' F' hm => h t' F' (by simp [hm])⟩

theorem mem_facts {l : List (Oper × Kind E)} {t : Tmp} {F : Fact E} : ∀ {Fs : List (Tmp × Fact E)}, (t, F) ∈ l.foldl addFact Fs → (t, F) ∈ Fs ∨ ∃ (i : Nat) (p : Oper × Kind E), l[i]? = some p ∧ p.2 = .fresh F ∧ p.1.dst = some t := by
  induction l with
  | nil => exact fun h => .inl h
  | cons q l ih =>
    intro Fs h
    rw [List.foldl_cons] at h
    rcases ih h with h | ⟨i, p, h1, h2⟩
    · obtain ⟨o, k⟩ := q
      rcases k with v | G
      · exact .inl (by simpa [addFact] using h)
      · rcases hd : o.dst with _ | d
        · exact .inl (by simpa [addFact, hd] using h)
        · simp only [addFact, hd, List.mem_cons, Prod.mk.injEq] at h
          rcases h with ⟨rfl, rfl⟩ | h
          · exact .inr ⟨0, _, rfl, rfl, hd⟩
          · exact .inl h
    · exact .inr ⟨i + 1, p, by simpa using h1, h2⟩

theorem wp_carry {o : Oper} {a1 a2 : Act} {w : World} {R : Value → World → Prop} {K : Act → World → Prop} (he : execOp a2.eval o = execOp a1.eval o) (hsz : a1.tmps.size = a2.tmps.size)
    (h : o.wp P a1 w (fun a' w' => ∃ v, a' = a1.put o.dst v ∧ R v w') (fun _ _ _ => False)) (hK : ∀ v w', R v w' → K (a2.put o.dst v) w') : o.wp P a2 w K Q := by
  have key : ∀ u v, a1.put o.dst u = a1.put o.dst v → a2.put o.dst u = a2.put o.dst v := by
    intro u v huv
    cases hd : o.dst with
    | none => rfl
    | some d =>
      rw [hd] at huv
      rcases Nat.lt_or_ge d a1.tmps.size with hlt | hge
      · have h1 := put_get_eq a1 u d hlt
        rw [huv, put_get_eq a1 v d hlt] at h1
        injection h1 with h1
        rw [h1]
      · have : ¬ d < a2.tmps.size := by rw [← hsz]; exact Nat.not_lt.2 hge
        simp [Act.put, Array.setIfInBounds, this]
  have kd : ∀ (d : Deferred) u v, ({ a1 with defers := d :: a1.defers } : Act).put o.dst u = a1.put o.dst v → False := by
    intro d u v h
    have := congrArg Act.defers h
    rw [put_defers', put_defers'] at this
    simp at this
  unfold Oper.wp at *
  rw [he]
  generalize (execOp a1.eval o).run P w = r at *
  cases r with
  | ok n w' =>
    cases n <;> simp only [Oper.upon] at h ⊢
    case value u => obtain ⟨v, e, hR⟩ := h; rw [key u v e]; exact hK v _ hR
    case skip => obtain ⟨v, e, hR⟩ := h; rw [key _ v e]; exact hK v _ hR
    case defer d => obtain ⟨v, e, hR⟩ := h; exact (kd d _ v e).elim
    case enter f args =>
      refine Calls.mono h fun e w'' hh => ?_
      cases e with
      | returned u => obtain ⟨v, e, hR⟩ := hh; simp only; rw [key u v e]; exact hK v _ hR
      | panicked c => exact hh.elim
      | outgrown => obtain ⟨_, _, hf⟩ := hh; exact hf.elim
    case row row args => exact Rows.mono h fun u w'' hh => by obtain ⟨v, e, hR⟩ := hh; rw [key u v e]; exact hK v _ hR
  | halt x w' => cases x <;> simp only [Oper.upon] at h ⊢

theorem holds_prefix (a0 : Act) (full : List (Oper × Kind E)) (ρ : Env) (hdist : ∀ (i j : Nat) (p q : Oper × Kind E) (d : Tmp), i < j → full[i]? = some p → full[j]? = some q → p.1.dst = some d → q.1.dst ≠ some d) :
    ∀ n, n ≤ full.length → Holds a0 full (fun i => i < n) ρ (actOf a0 ρ (full.take n)) := by
  intro n
  induction n with
  | zero => exact fun _ => ⟨rfl, rfl, fun _ _ => rfl, fun i p t hi => absurd hi (Nat.not_lt_zero _)⟩
  | succ n ih =>
    intro hn
    have hp : full[n]? = some full[n] := List.getElem?_eq_getElem (by omega)
    have e : actOf a0 ρ (full.take (n + 1)) = (actOf a0 ρ (full.take n)).put full[n].1.dst (full[n].2.val ρ full[n].1) := by
      unfold actOf
      rw [List.take_succ_eq_append_getElem (by omega), List.foldl_append]
      rfl
    rw [e]
    exact (ih (by omega)).put hp (fun j => by omega) (fun j q hj hq d hd => hdist j n q _ d hj hq hp hd) (fun _ _ _ _ => rfl)

theorem any_order {a0 : Act} {full : List (Oper × Kind E)} (hops : full.map (·.1) = ops.toList) (hlin : Linear ops) (hp : Plan P ops S a0 full)
    (hZ : ∀ ρ w, S w → (∀ t F, (t, F) ∈ factsOf full → F.holds (ρ t) w) → Q .normal (actOf a0 ρ full) w) :
    ∀ (fuel : Nat) (listed : Array Bool) (a : Act) (w : World) (ρ : Env), listed.size = ops.size → (∀ i j o, listed.getD j false = true → ops[j]? = some o → (∃ e ∈ o.after, Region.binds .any e = true ∧ e.on = i) → listed.getD i false = true) →
      (∃ todo : List Nat, todo.length ≤ fuel ∧ ∀ i, i < ops.size → listed.getD i false = false → i ∈ todo) →
      Holds a0 full (fun i => listed.getD i false = true) ρ a → S w → (∀ (i : Nat) (p : Oper × Kind E) (F : Fact E) (d : Tmp), listed.getD i false = true → full[i]? = some p → p.2 = .fresh F → p.1.dst = some d → F.holds (ρ d) w) →
      wpAny P .any ops Q fuel listed a w := by
  have hget : ∀ (i : Nat) (p : Oper × Kind E), full[i]? = some p → ops[i]? = some p.1 := fun i p h => by
    have : (full.map (·.1))[i]? = some p.1 := by simp [h]
    rw [hops] at this
    simpa using this
  have hlen : full.length = ops.size := by
    have := congrArg List.length hops
    simpa using this
  have hget' : ∀ (i : Nat) (o : Oper), ops[i]? = some o → ∃ p : Oper × Kind E, full[i]? = some p ∧ p.1 = o := fun i o h => by
    have hi : i < full.length := by rw [hlen]; exact (Array.getElem?_eq_some_iff.1 h).1
    have h1 := hget i _ (List.getElem?_eq_getElem hi)
    rw [h] at h1
    injection h1 with h1
    exact ⟨_, List.getElem?_eq_getElem hi, h1.symm⟩
  have hdist : ∀ (i j : Nat) (p q : Oper × Kind E) (d : Tmp), i < j → full[i]? = some p → full[j]? = some q → p.1.dst = some d → q.1.dst ≠ some d := fun i j p q d hij h1 h2 => hlin.dist i j _ _ d hij (hget i p h1) (hget j q h2)
  have hdist2 : ∀ (i j : Nat) (p q : Oper × Kind E) (d : Tmp), i ≠ j → full[i]? = some p → full[j]? = some q → p.1.dst = some d → q.1.dst ≠ some d := fun i j p q d hij h1 h2 hd hd' => by
    rcases Nat.lt_or_gt_of_ne hij with h | h
    · exact hdist i j p q d h h1 h2 hd hd'
    · exact hdist j i q p d h h2 h1 hd' hd
  -- all have come up
  have fin : ∀ (listed : Array Bool) (a : Act) (w : World) (ρ : Env), listed.size = ops.size → (∀ i, i < ops.size → listed.getD i false = true) → Holds a0 full (fun i => listed.getD i false = true) ρ a → S w →
      (∀ (i : Nat) (p : Oper × Kind E) (F : Fact E) (d : Tmp), listed.getD i false = true → full[i]? = some p → p.2 = .fresh F → p.1.dst = some d → F.holds (ρ d) w) → Q .normal a w := fun listed a w ρ hsz hall hH hS hF => by
    have h1 : Holds a0 full (fun i => i < full.length) ρ (actOf a0 ρ full) := by
      have := holds_prefix a0 full ρ hdist full.length (Nat.le_refl _)
      rwa [List.take_length] at this
    have h2 : Holds a0 full (fun i => i < full.length) ρ a :=
      ⟨hH.defers, hH.size, fun t ht => hH.far t fun i p hi hp => ht i p (List.getElem?_eq_some_iff.1 hp).1 hp, fun i p t hi => hH.near i p t (hall i (by omega))⟩
    rw [h2.unique h1]
    refine hZ ρ w hS fun t F hm => ?_
    rcases mem_facts hm with h | ⟨i, p, h1, h2, h3⟩
    · cases h
    · exact hF i p F t (hall i (by have := (List.getElem?_eq_some_iff.1 h1).1; omega)) h1 h2 h3
  have none_left : ∀ listed : Array Bool, listed.size = ops.size → Region.ready .any ops listed = [] → ∀ n i, i < n → i < ops.size → listed.getD i false = true := by
    intro listed hsz hr n
    induction n with
    | zero => intro i h; omega
    | succ n ih =>
      intro i hi hlt
      cases hli : listed.getD i false with
      | true => rfl
      | false =>
        have ho : ops[i]? = some ops[i] := Array.getElem?_eq_getElem hlt
        have hmem : i ∈ Region.ready .any ops listed := by
          rw [mem_ready]
          refine ⟨?_, _, ho, fun e he hb => ?_⟩
          · simp only [Array.getD, hsz, hlt, dif_pos] at hli ⊢
            exact hli
          · have := hlin.back i _ ho e he hb
            exact ih e.on (by omega) (by omega)
        rw [hr] at hmem
        cases hmem
  intro fuel
  induction fuel with
  | zero =>
    intro listed a w ρ hsz hdown ⟨todo, htodo, hin⟩ hH hS hF
    have hall : ∀ i, i < ops.size → listed.getD i false = true := fun i hi => by
      cases hli : listed.getD i false with
      | true => rfl
      | false =>
        have := hin i hi hli
        rw [List.eq_nil_of_length_eq_zero (Nat.le_zero.1 htodo)] at this
        cases this
    refine ⟨?_, fin listed a w ρ hsz hall hH hS hF⟩
    rw [List.eq_nil_iff_forall_not_mem]
    intro i hi
    obtain ⟨h0, o, ho, _⟩ := mem_ready.1 hi
    have hlt := (Array.getElem?_eq_some_iff.1 ho).1
    have := hall i hlt
    simp only [Array.getD, hsz, hlt, dif_pos] at this h0
    rw [this] at h0
    cases h0
  | succ fuel ih =>
    intro listed a w ρ hsz hdown ⟨todo, htodo, hin⟩ hH hS hF
    refine ⟨fun hr => fin listed a w ρ hsz (fun i hi => none_left listed hsz hr (i + 1) i (by omega) hi) hH hS hF, fun i hi => ?_⟩
    obtain ⟨h0, o, ho, hall⟩ := mem_ready.1 hi
    have hlt := (Array.getElem?_eq_some_iff.1 ho).1
    have h0' : listed.getD i false = false := by
      simp only [Array.getD, hsz, hlt, dif_pos] at h0 ⊢
      exact h0
    obtain ⟨p, hpi, rfl⟩ := hget' i o ho
    have hil : i < full.length := by omega
    have hpre : Holds a0 full (fun j => j < i) ρ (actOf a0 ρ (full.take i)) := holds_prefix a0 full ρ hdist i (by omega)
    have hsplit : full = full.take i ++ p :: full.drop (i + 1) := by
      have : full[i] = p := by have := List.getElem?_eq_getElem hil; rw [hpi] at this; injection this with this; exact this.symm
      rw [← this, List.getElem_cons_drop, List.take_append_drop]
    have hstep := hp.step _ p _ hsplit ρ w hS
    have conf : ∀ (j : Nat) (q : Oper × Kind E), full[j]? = some q → ∀ t, q.1.dst = some t → t ∈ p.1.looksAt ops → (listed.getD j false = true ↔ j < i) := by
      intro j q hq t hd hl
      have hoj := hget j q hq
      rcases Nat.lt_trichotomy j i with h | h | h
      · refine ⟨fun _ => h, fun _ => ?_⟩
        rcases hlin.wait j i _ _ h hoj ho with hap | ⟨e, he, hb, hon⟩
        · exact absurd hl ((Oper.apart_spec hap).1 t hd)
        · rw [← hon]; exact hall e he hb
      · subst h
        rw [hpi] at hq
        injection hq with hq
        subst hq
        exact absurd hl (hlin.self j _ t ho hd)
      · refine ⟨fun hj => ?_, fun h' => by omega⟩
        exfalso
        rcases hlin.wait i j _ _ h ho hoj with hap | ⟨e, he, hb, hon⟩
        · exact absurd hl ((Oper.apart_spec hap).2.2 t hd)
        · have := hdown i j _ hj hoj ⟨e, he, hb, hon⟩
          rw [h0'] at this
          cases this
    have hfacts : FactsOK (p.1.looksAt ops) ρ w (factsOf (full.take i)) := factsOK_of _ fun t F hm hl => by
      rcases mem_facts hm with h | ⟨j, q, h1, h2, h3⟩
      · cases h
      · have hji : j < i := by
          have := (List.getElem?_eq_some_iff.1 h1).1
          rw [List.length_take] at this
          omega
        have hq : full[j]? = some q := by
          rw [List.getElem?_take, if_pos hji] at h1
          exact h1
        exact hF j q F t ((conf j q hq t h3 (by simpa using hl)).2 hji) hq h2 h3
    have hst := hstep hfacts
    have hag : ∀ t, t ∈ p.1.looksAt ops → a.tmps[t]? = (actOf a0 ρ (full.take i)).tmps[t]? := fun t ht =>
      hH.agree hpre t fun j q hq hd => conf j q hq t hd ht
    have hexec : execOp a.eval p.1 = execOp (actOf a0 ρ (full.take i)).eval p.1 := execOp_congr p.1 (fun cs b => hlin.sel i _ cs b ho) fun x hx => by
      cases x with
      | tmp t =>
        have := hag t (List.mem_append_left _ (List.mem_filterMap.2 ⟨.tmp t, by simpa using hx, rfl⟩))
        simp only [Act.eval, Array.getD_eq_getD_getElem?]
        rw [this]
      | _ => rfl
    have hwant : Region.wanted p.1 (yielded ops a.tmps) = Region.wanted p.1 (yielded ops (actOf a0 ρ (full.take i)).tmps) := by
      unfold Region.wanted
      cases hg : p.1.guard with
      | none => rfl
      | some gw =>
        obtain ⟨g, want⟩ := gw
        have : yielded ops a.tmps g = yielded ops (actOf a0 ρ (full.take i)).tmps g := by
          unfold yielded
          cases ht : (ops[g]?).bind (·.dst) with
          | none => rfl
          | some t =>
            have := hag t (List.mem_append_right _ (by simp [hg, ht]))
            simp only [Option.bind_some, this]
        simp only [this]
    have size_eq : (actOf a0 ρ (full.take i)).tmps.size = a.tmps.size := hpre.size.trans hH.size.symm
    -- the way on
    have go : ∀ v w', p.2.rel v w' → S w' → (∀ (j : Nat) (q : Oper × Kind E) (F : Fact E) (d : Tmp), listed.getD j false = true → full[j]? = some q → q.2 = .fresh F → q.1.dst = some d → F.holds (ρ d) w') →
        wpAny P .any ops Q fuel (listed.setIfInBounds i true) (a.put p.1.dst v) w' := by
      intro v w' hR hS' hF'
      have next : ∀ ρ' : Env, p.2.val ρ' p.1 = v → (∀ j q, j ≠ i → full[j]? = some q → q.2.val ρ' q.1 = q.2.val ρ q.1) → (∀ j q F d, j ≠ i → full[j]? = some q → q.2 = .fresh F → q.1.dst = some d → ρ' d = ρ d) → (∀ F d, p.2 = .fresh F → p.1.dst = some d → F.holds (ρ' d) w') →
          wpAny P .any ops Q fuel (listed.setIfInBounds i true) (a.put p.1.dst v) w' := by
        intro ρ' hv hothers hd' hself
        have hset : ∀ j, (listed.setIfInBounds i true).getD j false = true ↔ j = i ∨ listed.getD j false = true := fun j => by
          by_cases hji : j = i
          · subst hji
            simp [Array.getD, hsz, hlt]
          · rw [getD_set_ne false (Ne.symm hji)]
            simp [hji]
        refine ih _ _ _ ρ' (by simpa using hsz) (fun i' j o' hj ho' he => ?_) ⟨todo.filter (· != i), ?_, fun j hj hjl => ?_⟩ ?_ hS' (fun j q F d hj hq hf hd => ?_)
        · rcases (hset j).1 hj with rfl | hj
          · obtain ⟨e, he, hb, hon⟩ := he
            rw [ho] at ho'
            injection ho' with ho'
            subst ho'
            rw [hset, ← hon]
            exact .inr (hall e he hb)
          · exact (hset i').2 (.inr (hdown i' j o' hj ho' he))
        · have : (todo.filter (· != i)).length < todo.length := by
            rw [List.length_filter_lt_length_iff_exists]
            exact ⟨i, hin i hlt h0', by simp⟩
          omega
        · have hne : j ≠ i := fun e => by
            have := (hset j).2 (.inl e)
            rw [this] at hjl
            cases hjl
          refine List.mem_filter.2 ⟨hin j hj ?_, by simpa using hne⟩
          rwa [getD_set_ne false (Ne.symm hne)] at hjl
        · have := hH.put (ρ' := ρ') hpi hset (fun j q hj hq d hd => hdist2 j i q p d (fun e => by rw [e, h0'] at hj; cases hj) hq hpi hd) (fun j q hj hq => hothers j q (fun e => by rw [e, h0'] at hj; cases hj) hq)
          rwa [hv] at this
        · rcases (hset j).1 hj with rfl | hj
          · rw [hpi] at hq
            injection hq with hq
            subst hq
            exact hself F d hf hd
          · have hne : j ≠ i := fun e => by rw [e, h0'] at hj; cases hj
            rw [hd' j q F d hne hq hf hd]
            exact hF' j q F d hj hq hf hd
      cases hk : p.2 with
      | fixed v0 =>
        have hv : v = v0 := by rw [hk] at hR; exact hR
        exact next ρ (by rw [hk]; exact hv.symm) (fun _ _ _ _ => rfl) (fun _ _ _ _ _ _ _ _ => rfl) (fun F d hf => by rw [hk] at hf; cases hf)
      | fresh F =>
        obtain ⟨d, hd⟩ := hp.dst p (by rw [hsplit]; simp) ⟨F, hk⟩
        have hR' : F.holds v w' := by rw [hk] at hR; exact hR
        have hne : ∀ j q d', j ≠ i → full[j]? = some q → q.1.dst = some d' → d' ≠ d := fun j q d' hji hq hd' e => hdist2 j i q p d' hji hq hpi hd' (by rw [hd, e])
        refine next (fun t => if t = d then v else ρ t) (by rw [hk]; simp [Kind.val, hd]) (fun j q hji hq => ?_) (fun j q F' d' hji hq _ hd' => if_neg (hne j q d' hji hq hd')) (fun F' d' hf hd' => ?_)
        · cases hkq : q.2 with
          | fixed v0 => rfl
          | fresh F' =>
            obtain ⟨d', hd'⟩ := hp.dst q (List.mem_of_getElem? hq) ⟨F', hkq⟩
            simp only [Kind.val, hd']
            exact if_neg (hne j q d' hji hq hd')
        · rw [hk] at hf
          injection hf with hf
          rw [hd] at hd'
          injection hd' with hd'
          subst hf hd'
          simpa using hR'
    unfold wpOp
    simp only [ho]
    unfold StepTo at hst
    rw [← hwant] at hst
    split
    · rename_i hw
      rw [if_pos hw] at hst
      refine .inl (wp_carry (R := fun v w' => p.2.rel v w' ∧ S w' ∧ E w w') hexec size_eq (hst _ fun v w' h1 h2 h3 => ⟨v, rfl, h1, h2, h3⟩) fun v w' ⟨h1, h2, h3⟩ => go v w' h1 h2 fun j q F d hj hq hf hd => F.keep _ _ _ (hF j q F d hj hq hf hd) h3)
    · rename_i hw
      rw [if_neg hw] at hst
      exact go undef w hst hS hF

/-- THE RULE -/
theorem wp_settle {id : Nat} {a : Act} {w : World} {l : List Oper} (hm : P.follows .mixedOrders = true) (hlin : linearB l.toArray = true) (E : World → World → Prop) (S : World → Prop) (hS : S w.drew)
    (h : Settle P l.toArray S E (fun A Fs => ∀ ρ w', S w' → (∀ t F, (t, F) ∈ Fs → F.holds (ρ t) w') → Q .normal (A ρ) w') l (fun _ => a) []) : (Code.region id l.toArray true).wp P Q a w := by
  obtain ⟨full, hp, he, hZ⟩ := settle_plan l [] ⟨(fun _ h => by cases h), (fun pre p post he => by simp at he)⟩ h
  refine wp_region_any hm (any_order (by simpa using he) (linear_of hlin) hp hZ _ _ a _ (fun _ => undef) (by simp) (fun i j o hj => ?_) ⟨List.range l.toArray.size, by simp, fun i hi _ => List.mem_range.2 hi⟩ ⟨rfl, rfl, fun _ _ => rfl, fun i p t hi => ?_⟩ hS fun i p F d hi => ?_)
  · exfalso; revert hj; simp [Array.getD]
  · exfalso; revert hi; simp [Array.getD]
  · exfalso; revert hi; simp [Array.getD]
end
end Go.Proofs.Ytcoijmnnnfogdaa


namespace Go.Proofs.Ytcoijmnnnfogdaa
set_option linter.unusedVariables false
set_option linter.unusedSimpArgs false
set_option maxRecDepth 100000
open Go Go.RowKit

section
variable {P : Program} {ops : Array Oper} {S : World → Prop} {E : World → World → Prop} {Z : (Env → Act) → List (Tmp × Fact E) → Prop} {o : Oper} {rest : List Oper} {A : Env → Act} {Fs : List (Tmp × Fact E)}

/-- the same, that nothing looks into -/
structure Walk (P : Program) (ops : Array Oper) (S : World → Prop) (E : World → World → Prop) (Z : (Env → Act) → List (Tmp × Fact E) → Prop) (l : List Oper) (A : Env → Act) (Fs : List (Tmp × Fact E)) : Prop where
  out : Settle P ops S E Z l A Fs

theorem settle_nil (h : Z A Fs) : Walk P ops S E Z [] A Fs := ⟨h⟩

theorem settle_skip (hw : ∀ ρ, Region.wanted o (yielded ops (A ρ).tmps) = false) (h : Walk P ops S E Z rest (fun ρ => (A ρ).put o.dst undef) Fs) : Walk P ops S E Z (o :: rest) A Fs :=
  ⟨.inl ⟨undef, fun ρ w _ _ => by unfold StepTo; rw [if_neg (by rw [hw]; simp)], h.out⟩⟩

theorem settle_run {v : Value} (hE : ∀ w, S w → E w w) (hw : ∀ ρ, Region.wanted o (yielded ops (A ρ).tmps) = true)
    (hr : ∀ ρ w, S w → FactsOK (o.looksAt ops) ρ w Fs → (execOp (A ρ).eval o).run P w = .ok (.value v) w) (h : Walk P ops S E Z rest (fun ρ => (A ρ).put o.dst v) Fs) : Walk P ops S E Z (o :: rest) A Fs :=
  ⟨.inl ⟨v, fun ρ w hS hF => by
    unfold StepTo
    rw [if_pos (hw ρ)]
    intro K hK
    unfold Oper.wp
    rw [hr ρ w hS hF]
    exact hK v w rfl hS (hE w hS), h.out⟩⟩

theorem settle_call {v : Value} {f : FuncId} {args : Env → Array Value} (hw : ∀ ρ, Region.wanted o (yielded ops (A ρ).tmps) = true)
    (hr : ∀ ρ w, (execOp (A ρ).eval o).run P w = .ok (.enter f (args ρ)) w)
    (hc : ∀ ρ w, S w → FactsOK (o.looksAt ops) ρ w Fs → Calls P f (args ρ) w fun e w' => e = .returned v ∧ S w' ∧ E w w') (h : Walk P ops S E Z rest (fun ρ => (A ρ).put o.dst v) Fs) : Walk P ops S E Z (o :: rest) A Fs :=
  ⟨.inl ⟨v, fun ρ w hS hF => by
    unfold StepTo
    rw [if_pos (hw ρ)]
    intro K hK
    unfold Oper.wp
    rw [hr ρ w]
    refine (hc ρ w hS hF).mono fun e w' ⟨h1, h2, h3⟩ => ?_
    subst h1
    exact hK v w' rfl h2 h3, h.out⟩⟩

/-- whatever gives the value -/
theorem settle_step {v : Value} (hw : ∀ ρ, Region.wanted o (yielded ops (A ρ).tmps) = true)
    (hc : ∀ ρ w, S w → FactsOK (o.looksAt ops) ρ w Fs → ∀ K : Act → World → Prop, (∀ w', S w' → E w w' → K ((A ρ).put o.dst v) w') → o.wp P (A ρ) w K (fun _ _ _ => False)) (h : Walk P ops S E Z rest (fun ρ => (A ρ).put o.dst v) Fs) : Walk P ops S E Z (o :: rest) A Fs :=
  ⟨.inl ⟨v, fun ρ w hS hF => by
    unfold StepTo
    rw [if_pos (hw ρ)]
    exact fun K hK => hc ρ w hS hF K fun w' h1 h2 => hK v w' rfl h1 h2, h.out⟩⟩
/-- whatever gives a value of which a fact is known -/
theorem settle_known {d : Tmp} (F : Fact E) (hd : o.dst = some d) (hw : ∀ ρ, Region.wanted o (yielded ops (A ρ).tmps) = true)
    (hc : ∀ ρ w, S w → FactsOK (o.looksAt ops) ρ w Fs → ∀ K : Act → World → Prop, (∀ v w', F.holds v w' → S w' → E w w' → K ((A ρ).put o.dst v) w') → o.wp P (A ρ) w K (fun _ _ _ => False)) (h : Walk P ops S E Z rest (fun ρ => (A ρ).put (some d) (ρ d)) ((d, F) :: Fs)) : Walk P ops S E Z (o :: rest) A Fs :=
  ⟨.inr ⟨d, F, hd, fun ρ w hS hF => by
    unfold StepTo
    rw [if_pos (hw ρ)]
    exact fun K hK => hc ρ w hS hF K hK, h.out⟩⟩

/-- a call of whose result a fact is known -/
theorem settle_fresh {f : FuncId} {args : Env → Array Value} {d : Tmp} (F : Fact E) (hd : o.dst = some d) (hw : ∀ ρ, Region.wanted o (yielded ops (A ρ).tmps) = true)
    (hr : ∀ ρ w, (execOp (A ρ).eval o).run P w = .ok (.enter f (args ρ)) w)
    (hc : ∀ ρ w, S w → FactsOK (o.looksAt ops) ρ w Fs → Calls P f (args ρ) w fun e w' => ∃ v, e = .returned v ∧ F.holds v w' ∧ S w' ∧ E w w') (h : Walk P ops S E Z rest (fun ρ => (A ρ).put (some d) (ρ d)) ((d, F) :: Fs)) : Walk P ops S E Z (o :: rest) A Fs :=
  ⟨.inr ⟨d, F, hd, fun ρ w hS hF => by
    unfold StepTo
    rw [if_pos (hw ρ)]
    intro K hK
    unfold Oper.wp
    rw [hr ρ w]
    refine (hc ρ w hS hF).mono fun e w' ⟨v, h0, h1, h2, h3⟩ => ?_
    subst h0
    exact hK v w' h1 h2 h3, h.out⟩⟩

/-- an operation that gives a value of which a fact is known, and leaves the world -/
theorem settle_value {d : Tmp} (F : Fact E) (hE : ∀ w, S w → E w w) (hd : o.dst = some d) (hw : ∀ ρ, Region.wanted o (yielded ops (A ρ).tmps) = true)
    (hr : ∀ ρ w, S w → FactsOK (o.looksAt ops) ρ w Fs → ∃ v, (execOp (A ρ).eval o).run P w = .ok (.value v) w ∧ F.holds v w) (h : Walk P ops S E Z rest (fun ρ => (A ρ).put (some d) (ρ d)) ((d, F) :: Fs)) : Walk P ops S E Z (o :: rest) A Fs :=
  ⟨.inr ⟨d, F, hd, fun ρ w hS hF => by
    unfold StepTo
    rw [if_pos (hw ρ)]
    intro K hK
    obtain ⟨v, h1, h2⟩ := hr ρ w hS hF
    unfold Oper.wp
    rw [h1]
    exact hK v w h2 hS (hE w hS), h.out⟩⟩

/-- a copy of such a value -/
theorem settle_copy {d t : Tmp} {F : Fact E} (hE : ∀ w, S w → E w w) (hd : o.dst = some d) (hg : o.guard = none) (ho : o.op = .move (.tmp t) ∨ o.op = .assign (.tmp t)) (ht : ∀ ρ, (A ρ).eval (.tmp t) = ρ t) (hF : (t, F) ∈ Fs)
    (h : Walk P ops S E Z rest (fun ρ => (A ρ).put (some d) (ρ d)) ((d, F) :: Fs)) : Walk P ops S E Z (o :: rest) A Fs := by
  refine settle_value F hE hd (fun ρ => by simp [Region.wanted, hg]) (fun ρ w hS hFs => ?_) h
  have key : ∀ (l : List (Tmp × Fact E)), FactsOK (o.looksAt ops) ρ w l → (t, F) ∈ l → F.holds (ρ t) w := by
    intro l
    induction l with
    | nil => exact fun _ h => by cases h
    | cons p r ih =>
      obtain ⟨t', F'⟩ := p
      intro ⟨h1, h2⟩ hm
      rcases List.mem_cons.1 hm with e | hm
      · injection e with e1 e2
        subst e1 e2
        refine h1 ?_
        rcases ho with ho | ho <;> simp [Oper.looksAt, ho, Op.operands]
      · exact ih h2 hm
  refine ⟨ρ t, ?_, key Fs hFs hF⟩
  rcases ho with ho | ho <;> simp [execOp, ho, ht]
/-- THE RULE, with that -/
theorem wp_walk {Q : Exit → Act → World → Prop} {id : Nat} {a : Act} {w : World} {l : List Oper} (hm : P.follows .mixedOrders = true) (hlin : linearB l.toArray = true) (E : World → World → Prop) (S : World → Prop) (hS : S w.drew)
    (h : Walk P l.toArray S E (fun A Fs => ∀ ρ w', S w' → (∀ t F, (t, F) ∈ Fs → F.holds (ρ t) w') → Q .normal (A ρ) w') l (fun _ => a) []) : (Code.region id l.toArray true).wp P Q a w :=
  wp_settle hm hlin E S hS h.out
end
end Go.Proofs.Ytcoijmnnnfogdaa


namespace Go.Proofs.Ytcoijmnnnfogdaa
set_option linter.unusedVariables false
set_option linter.unusedSimpArgs false
set_option maxRecDepth 100000
open Go.RowKit

theorem made_flat (z : Value) (k n : Nat) (hk : 0 < k) : (madeCells (Array.replicate k z) n).toList = List.replicate n z := by
  apply List.ext_getElem?
  intro j
  by_cases hj : j < n
  · have := Nat.mod_lt j hk
    simp [madeCells, hj, this]
  · simp [madeCells, hj]

/-- 'make([]T, n)', T of some cells that are alike -/
theorem wp_make_flat {P : Program} (w : World) {ops : Array Oper} {rest : List Oper} {o : Oper} {a : Act} {Q : Exit → Act → World → Prop}
    (t e : TypeId) (z zc : Value) (size bytes : Nat) (n : Nat) (ht : P.underlying t = some (.slice e)) (hinfo : (P.info? e).map (fun i => (i.zero, i.size, i.bytes)) = some (some z, size, bytes)) (hz : z.cells = Array.replicate size zc) (hsz : 0 < size)
    {L C : Int} (hL : L = (n : Int)) (hC : C = (n : Int)) (b2 : bytes * n ≤ 281474976710656) (b3 : n ≤ 9223372036854775807)
    {l c : Operand} {kl kc : IntKind} (hg : o.guard = none) (hop : o.op = Op.makeSlice t l c) (hl : a.eval l = .int kl L) (hc : a.eval c = .int kc C)
    (hK : ∀ w', Blk w' w.heap.size e (List.replicate (n * size) zc) → Below w.heap.size w w' → w'.heap.size = w.heap.size + 1 → wpList P ops Q rest (a.put o.dst (.slice (some ⟨w.heap.size, 0, none⟩) n n)) w') :
    wpList P ops Q (o :: rest) a w := by
  obtain ⟨i, hi, hz0, hz1, hz2⟩ := info_parts hinfo
  refine wpList_plain hg fun K hK' => ?_
  subst hL
  subst hC
  have h63' : (n : Int) ≤ 9223372036854775807 := by omega
  have hb' : (i.bytes : Int) * (n : Int) ≤ 281474976710656 := by
    have h : ((i.bytes * n : Nat) : Int) ≤ 281474976710656 := by rw [hz2]; omega
    rwa [Int.natCast_mul] at h
  have hr := run_make (P := P) w t e i z ht hi hz0 kl kc n n (by omega) (Int.le_refl _) hb' h63'
  simp only [Int.toNat_natCast, hz1, hz] at hr
  unfold Oper.wp
  simp [execOp, hop, hl, hc, hr, Result.andThen]
  refine hK' _ _ (hK _ ?_ ((Below.refl _ _).alloc (Nat.le_refl _) _) (by simp))
  have := Blk.new w e (madeCells (Array.replicate size zc) (n * size)).toList
  rw [Array.toArray_toList] at this
  rwa [made_flat zc size _ hsz] at this

theorem info_pair : (Try.prog.info? 46).map (fun i => (i.zero, i.size, i.bytes)) = some (some (.agg #[.int .i64 0, .int .i64 0]), 2, 16) := by kernel_rfl

theorem marks_any (w : World) (cs : List Value) (t : Sp.T) (hT : TmR w.heap.size w cs t) (hn : t.size ≤ 4194304) :
    Calls Try.prog 28 #[.agg cs.toArray] w fun e w' => ∃ h, e = .returned (.slice (some ⟨h, 0, none⟩) t.size t.size) ∧ Blk w' h 46 (Sp.prcs (t.marks 0 0)) ∧ w.heap.size ≤ h ∧ Below w.heap.size w w' := by
  obtain ⟨a0, a1, a2, a3, A4, a5, a6, rfl, -, -⟩ := hT.form
  have hP := Blk.new w 26 (tcells a0 a1 a2 a3 A4 a5 a6)
  have s1 := hT.alloc (Nat.le_refl _) (.cells (tcells a0 a1 a2 a3 A4 a5 a6).toArray 26)
  have hb0 : Below w.heap.size w (w.alloc (.cells (tcells a0 a1 a2 a3 A4 a5 a6).toArray 26)) := below_alloc (Below.refl _ _) _
  unfold tcells at s1 hP hb0 ⊢
  clear hT
  go_enter Try.func28, Try.ntmps28
  go_wp2_with fail
  refine (leaves_any _ _ t (s1.keep (by simp) (fun _ _ => rfl)) hn).mono ?_
  rintro e w1 ⟨v, rfl, ⟨A7, c7, rfl, hle7, hm7, -, -⟩, hb1⟩
  have hb1' := below_next hb1 hb0
  have hP1 := hP.below (by simpa using hb1)
  have s2 := s1.later (hb1.mono (by simp))
  unfold maxLen at hm7
  have hsz1 : w.heap.size < w1.heap.size := by have := hb1.size; simp at this; omega
  obtain ⟨q, hq⟩ : ∃ q, q = w.heap.size := ⟨_, rfl⟩
  rw [← hq] at hP1 s2 hsz1 hb1' ⊢
  have HQ := Lib.hid hq
  clear hP s1 hb0 hb1 hq
  go_wp2_with (refine wp_make_flat w1 _ _ _ (.int .i64 0) 2 16 t.size Try.underlying38 info_pair rfl (by decide) rfl rfl (by omega) (by omega) rfl rfl rfl rfl ?_; intro w2 hR2 hb2 hsz2; have hP3 := (hP1.below hb2).alloc (.cells #[.int .i64 0, .slice (some ⟨w1.heap.size, 0, none⟩) t.size t.size, .int .i64 0] 90); have c0 := hP3.cell 0; have c1 := hP3.cell 1; have c2 := hP3.cell 2; have c3 := hP3.cell 3; have c4 := hP3.cell 4; simp only [List.getElem?_cons_zero, List.getElem?_cons_succ] at c0 c1 c2 c3 c4)
  have hq1 : q ≤ w1.heap.size := by omega
  have hB := Blk.new w2 90 [.int .i64 0, .slice (some ⟨w1.heap.size, 0, none⟩) t.size t.size, .int .i64 0]
  rw [hsz2] at hB
  have hrep : (List.replicate t.size ((0, 0) : Nat × Nat)).length = t.size := List.length_replicate
  have hM : Mk q (w2.alloc (.cells #[.int .i64 0, .slice (some ⟨w1.heap.size, 0, none⟩) t.size t.size, .int .i64 0] 90)) (w1.heap.size + 1) w1.heap.size (List.replicate t.size (0, 0)) 0 0 :=
    ⟨by rw [hrep]; exact hB, by rw [Sp.prcs_zero]; exact hR2.alloc _, by simp; omega, by omega, hq1, by omega⟩
  have s3 := (s2.later (hb2.mono hq1)).alloc (by omega) (.cells #[.int .i64 0, .slice (some ⟨w1.heap.size, 0, none⟩) t.size t.size, .int .i64 0] 90)
  have hb3 : Below q w (w2.alloc (.cells #[.int .i64 0, .slice (some ⟨w1.heap.size, 0, none⟩) t.size t.size, .int .i64 0] 90)) := (hb1'.trans (hb2.mono hq1)).trans ((Below.refl _ _).alloc (by omega) _)
  refine (tell_marks t q _ (w1.heap.size + 1) w1.heap.size _ 0 0 _ s3 hM (by rw [hrep]; omega) (by omega) (by rw [hrep]; exact hn)).mono ?_
  rintro e w4 ⟨rfl, bs, m4, k4⟩
  have hall := Sp.put_all (List.replicate t.size ((0, 0) : Nat × Nat)) (t.marks 0 0) (by rw [hrep, t.marks_length])
  rw [hall] at m4
  have hb4 : Below q w w4 := hb3.trans (k4.below hM.base (fun i hi => hi.elim (fun e => by omega) (fun e => by omega)))
  have d1 := m4.blk.cell 1
  rw [t.marks_length] at d1
  simp only [List.getElem?_cons_zero, List.getElem?_cons_succ] at d1
  have hrow := m4.row
  clear c0 c1 c2 c3 c4 hP3 hB hM s3 hb3 hall m4 k4 hR2 hb1'
  go_wp2
  go_ret
  rw [HQ.out] at hq1 hb4
  exact ⟨_, rfl, hrow, hq1, hb4⟩

theorem before_any (w : World) (cs : List Value) (t : Sp.T) (i j : Int) (hT : TmR w.heap.size w cs t) (hn : t.size ≤ 4194304) :
    Calls Try.prog 33 #[.agg cs.toArray, .int .i64 i, .int .i64 j] w fun e w' => e = .returned (.bool (t.before i j)) ∧ Below w.heap.size w w' := by
  obtain ⟨a0, a1, a2, a3, A4, a5, a6, rfl, -, -⟩ := hT.form
  have s1 := hT.alloc (Nat.le_refl _) (.cells (tcells a0 a1 a2 a3 A4 a5 a6).toArray 26)
  have hb0 : Below w.heap.size w (w.alloc (.cells (tcells a0 a1 a2 a3 A4 a5 a6).toArray 26)) := below_alloc (Below.refl _ _) _
  unfold tcells at s1 hb0 ⊢
  clear hT
  go_enter Try.func33, Try.ntmps33
  go_wp2_with fail
  refine (marks_any _ _ t (s1.keep (by simp) (fun _ _ => rfl)) hn).mono ?_
  rintro e w1 ⟨h, rfl, hrow, -, hb1⟩
  have hbf := below_next hb1 hb0
  clear s1 hb0 hb1
  by_cases hin : 0 ≤ i ∧ 0 ≤ j ∧ i < t.size ∧ j < t.size
  · obtain ⟨h1, h2, h3, h4⟩ := hin
    obtain ⟨a, rfl⟩ := Int.eq_ofNat_of_zero_le h1
    obtain ⟨b, rfl⟩ := Int.eq_ofNat_of_zero_le h2
    have ha : a < t.size := by omega
    have hb : b < t.size := by omega
    obtain ⟨ra, hra⟩ : ∃ r, r = t.rk a := ⟨_, rfl⟩
    obtain ⟨rb, hrb⟩ : ∃ r, r = t.rk b := ⟨_, rfl⟩
    have ga := Sp.prcs_get _ a _ (t.marks_get 0 0 a ha)
    have gb := Sp.prcs_get _ b _ (t.marks_get 0 0 b hb)
    rw [Nat.zero_add, Nat.zero_add] at ga gb
    rw [← hra] at ga
    rw [← hrb] at gb
    have c0 : w1.cell? ⟨h, a * 2, none⟩ = some (.int .i64 (a : Int)) := (hrow.cell (a * 2)).trans ga.1
    have c1 : w1.cell? ⟨h, a * 2 + 1, none⟩ = some (.int .i64 (ra : Int)) := (hrow.cell (a * 2 + 1)).trans ga.2
    have d0 : w1.cell? ⟨h, b * 2, none⟩ = some (.int .i64 (b : Int)) := (hrow.cell (b * 2)).trans gb.1
    have d1 : w1.cell? ⟨h, b * 2 + 1, none⟩ = some (.int .i64 (rb : Int)) := (hrow.cell (b * 2 + 1)).trans gb.2
    have hres : t.before (a : Int) (b : Int) = (decide ((a : Int) < (b : Int)) && decide ((ra : Int) < (rb : Int))) := by
      rw [Bool.eq_iff_iff, Bool.and_eq_true, decide_eq_true_iff, decide_eq_true_iff]
      unfold Sp.T.before Sp.T.bf
      rw [decide_eq_true_iff]
      simp only [Int.toNat_natCast, ← hra, ← hrb]
      omega
    have HR := Lib.hid hres
    clear hres hra hrb ga gb hrow
    have n1 : decide ((a : Int) < 0) = false := by simp
    have n2 : decide ((b : Int) < 0) = false := by simp
    have n3 : decide (t.size ≤ a) = false := by simp; omega
    have n4 : decide (t.size ≤ b) = false := by simp; omega
    by_cases hlt : a < b
    rotate_left
    · have hab : decide ((a : Int) < (b : Int)) = false := by simp; omega
      rw [hab, Bool.false_and] at HR
      have hab2 : decide (a < b) = false := by simp; omega
      clear hlt hab
      go_wp2
      go_quiet (fail)
      go_wp2
      go_ret
      exact ⟨ret_bool (by rw [HR.out]), hbf.trans (below_drewN (Below.refl _ _) _)⟩
    · have hab : decide ((a : Int) < (b : Int)) = true := by simp; omega
      rw [hab, Bool.true_and] at HR
      have hab2 : decide (a < b) = true := by simp; omega
      clear hlt hab
      go_wp2
      go_quiet (fail)
      go_wp2
      go_ret
      exact ⟨ret_bool (by rw [HR.out]; simp), hbf.trans (below_drewN (Below.refl _ _) _)⟩
  · have hres : t.before i j = false := by
      unfold Sp.T.before
      rw [decide_eq_false_iff_not]
      exact fun h => hin h.1
    have HR := Lib.hid hres
    clear hres hrow
    by_cases g1 : i < 0
    · go_wp2
      go_ret
      exact ⟨(show _ = Ending.returned (.bool false) from rfl).trans (by rw [HR.out]), hbf⟩
    by_cases g2 : j < 0
    · go_wp2
      go_ret
      exact ⟨(show _ = Ending.returned (.bool false) from rfl).trans (by rw [HR.out]), hbf⟩
    by_cases g3 : (t.size : Int) ≤ i
    · go_wp2
      go_ret
      exact ⟨(show _ = Ending.returned (.bool false) from rfl).trans (by rw [HR.out]), hbf⟩
    have g4 : (t.size : Int) ≤ j := by omega
    clear hin
    go_wp2
    go_ret
    exact ⟨(show _ = Ending.returned (.bool false) from rfl).trans (by rw [HR.out]), hbf⟩
end Go.Proofs.Ytcoijmnnnfogdaa


namespace Go.Proofs.Ytcoijmnnnfogdaa
set_option linter.unusedVariables false
set_option linter.unusedSimpArgs false
set_option maxRecDepth 100000
open Go Go.RowKit

theorem keeps_below {w w' : World} (h : Below w.heap.size w w') : Keeps (fun _ => False) w w' := Keeps.of_below h _
def FSl (sz n : Nat) (vs : List Value) : Fact (fun w w' => Below w.heap.size w w') := ⟨fun v w => SlV w sz v n vs, fun _ _ _ h k => h.below k⟩
/-- 'append(v, vs...)' as one operation -/
theorem oper_append {P : Program} {w : World} {o : Oper} {a : Act} {K : Act → World → Prop} {Q : Exit → Act → World → Prop} (s x : Operand)
    (base t e : TypeId) (z : Value) (size bytes : Nat) (ht : P.underlying t = some (.slice e)) (hinfo : (P.info? e).map (fun i => (i.zero, i.size, i.bytes)) = some (some z, size, bytes)) (hz : z.cells.size = size) (hsz : 0 < size)
    {v : Value} {n : Nat} {xs : List Value} (hown : w.ownsRow base e size v n xs) {vs : Value} {m : Nat} {news : List Value} (hsl : SlV w size vs m news) (h1 : ∀ u ∈ news, u.oneCell' = true)
    (h63 : n + m ≤ maxLen) (hbytes : (n + m) * bytes ≤ 140737488355328) (hbase : base ≤ w.heap.size) (ho : o.op = .call { callee := .builtin .append, args := #[s, x], argTypes := #[t, t] }) (hs : a.eval s = v) (hx : a.eval x = vs)
    (h : ∀ v' w', w'.ownsRow base e size v' (n + m) (xs ++ news) → w.grownBy w' v.ownBlock → (v'.ownBlock = v.ownBlock ∨ v'.ownBlock = some w.heap.size) → Below base w w' → K (a.put o.dst v') w') : o.wp P a w K Q := by
  obtain ⟨A, c, rfl, hle, hm, hlen, hc⟩ := hsl
  obtain ⟨v', w', hrun, h2, h3, h4⟩ := run_append (P := P) w base t o.type e z size bytes ht hinfo hz hsz v n xs hown w.heap.size A m c news hlen hc h1 h63 hbytes hbase
  unfold Oper.wp execOp
  simp only [ho, resolve, invoke, builtin, Sem.run_bind, Sem.run_pure, Result.andThen_ok, List.map_toArray, List.map_cons, List.map_nil, hs, hx, hrun]
  exact h v' w' h2 h3 h4 ((Below.refl _ _).grown h3 hbase (own_ge hown))

/-- a row of the call's own, that stays as it is -/
def FRow (B : Nat) (e : TypeId) (sz n : Nat) (vs : List Value) : Fact (fun w w' => Below w.heap.size w w') := ⟨fun v w => w.ownsRow B e sz v n vs, fun _ _ _ h k => own_keeps h (keeps_below k) (fun _ _ => id)⟩

/-- the first k elements -/
theorem SlV.takeV {w : World} {sz n c : Nat} {A : Option Addr} {vs : List Value} (h : SlV w sz (.slice A n c) n vs) (k : Nat) (hk : k ≤ n) : SlV w sz (.slice A k c) k (vs.take (k * sz)) := by
  obtain ⟨A', c', he, h1, h2, h3, h4⟩ := h
  injection he with e1 e2 e3
  subst e1 e3
  have := Nat.mul_le_mul_right sz hk
  exact ⟨A, c, rfl, by omega, h2, by rw [List.length_take, h3]; omega, h4.take _⟩
end Go.Proofs.Ytcoijmnnnfogdaa


namespace Go.Proofs.Ytcoijmnnnfogdaa
set_option linter.unusedVariables false
set_option linter.unusedSimpArgs false
set_option maxRecDepth 100000
open Go Go.RowKit

/-- 'append(v, x)', the block's number told apart -/
theorem wp_push_at {P : Program} (w : World) {ops : Array Oper} {rest : List Oper} {o : Oper} {a : Act} {Q : Exit → Act → World → Prop} (s x : Operand) (q : Nat) (hq : w.heap.size = q)
    (base t e : TypeId) (z : Value) (size bytes : Nat) (ht : P.underlying t = some (.slice e)) (hinfo : (P.info? e).map (fun i => (i.zero, i.size, i.bytes)) = some (some z, size, bytes)) (hz : z.cells.size = size) (hsz : 0 < size)
    {v : Value} {n : Nat} {xs : List Value} (hown : w.ownsRow base e size v n xs) {c : Nat} (news : List Value) (hlen : news.length = 1 * size) (h1 : ∀ u ∈ news, u.oneCell' = true)
    (h63 : n + 1 ≤ maxLen) (hbytes : (n + 1) * bytes ≤ 140737488355328) (hbase : base ≤ w.heap.size)
    (hgd : o.guard = none) (ho : o.op = .call { callee := .builtin .append, args := #[s, x], argTypes := #[t, t] }) (hs : a.eval s = v) (hx : a.eval x = .slice (some ⟨q, 0, none⟩) 1 c)
    (h : ∀ v' w', w'.ownsRow base e size v' (n + 1) (xs ++ news) → w.grownBy w' v.ownBlock → (v'.ownBlock = v.ownBlock ∨ v'.ownBlock = some (w.heap.size + 1)) → Below base w w' → wpList P ops Q rest (a.put o.dst v') w') : wpList P ops Q (o :: rest) a (w.alloc (.cells news.toArray e)) := by
  subst hq
  exact wp_push w s x base t e z size bytes ht hinfo hz hsz hown news hlen h1 h63 hbytes hbase hgd ho hs hx h

/-- two rows of the call's own, and what was laid beside them since w0 -/
structure Two (w0 : World) (T : Nat → Prop) (B : Nat) (e1 : TypeId) (s1 : Nat) (e2 : TypeId) (s2 : Nat) (L : List (Nat × TypeId × List Value)) (w : World) (v1 : Value) (n1 : Nat) (xs1 : List Value) (v2 : Value) (n2 : Nat) (xs2 : List Value) : Prop where
  r1 : w.ownsRow B e1 s1 v1 n1 xs1
  r2 : w.ownsRow B e2 s2 v2 n2 xs2
  k : Keeps T w0 w
  base : B ≤ w.heap.size
  t1 : ∀ i, v1.ownBlock = some i → i < w0.heap.size → T i
  t2 : ∀ i, v2.ownBlock = some i → i < w0.heap.size → T i
  ap : ∀ i, v1.ownBlock = some i → v2.ownBlock ≠ some i
  src : ∀ p ∈ L, Blk w p.1 p.2.1 p.2.2 ∧ v1.ownBlock ≠ some p.1 ∧ v2.ownBlock ≠ some p.1

section
variable {w0 w : World} {T : Nat → Prop} {B s1 s2 n1 n2 : Nat} {e1 e2 : TypeId} {L : List (Nat × TypeId × List Value)} {v1 v2 : Value} {xs1 xs2 : List Value}

theorem Two.start (h1 : w0.ownsRow B e1 s1 v1 n1 xs1) (h2 : w0.ownsRow B e2 s2 v2 n2 xs2) (hb : B ≤ w0.heap.size) (hap : ∀ i, v1.ownBlock = some i → v2.ownBlock ≠ some i) :
    Two w0 (fun k => v1.ownBlock = some k ∨ v2.ownBlock = some k) B e1 s1 e2 s2 [] w0 v1 n1 xs1 v2 n2 xs2 :=
  ⟨h1, h2, Keeps.refl _ _, hb, fun i h _ => .inl h, fun i h _ => .inr h, hap, fun p h => by cases h⟩
theorem Two.drew (h : Two w0 T B e1 s1 e2 s2 L w v1 n1 xs1 v2 n2 xs2) : Two w0 T B e1 s1 e2 s2 L w.drew v1 n1 xs1 v2 n2 xs2 :=
  ⟨h.r1.drew, h.r2.drew, h.k.drewN 1, h.base, h.t1, h.t2, h.ap, fun p hp => ⟨(h.src p hp).1, (h.src p hp).2⟩⟩
theorem Two.alloc (h : Two w0 T B e1 s1 e2 s2 L w v1 n1 xs1 v2 n2 xs2) (cs : List Value) (t : TypeId) : Two w0 T B e1 s1 e2 s2 ((w.heap.size, t, cs) :: L) (w.alloc (.cells cs.toArray t)) v1 n1 xs1 v2 n2 xs2 := by
  refine ⟨h.r1.alloc _, h.r2.alloc _, h.k.alloc _, by have := h.base; simp; omega, h.t1, h.t2, h.ap, fun p hp => ?_⟩
  rcases List.mem_cons.1 hp with rfl | hp
  · exact ⟨Blk.new w t cs, fun e => by have := (h.r1.lt _ e).2; simp at this, fun e => by have := (h.r2.lt _ e).2; simp at this⟩
  · exact ⟨(h.src p hp).1.alloc _, (h.src p hp).2⟩
theorem Two.swap (h : Two w0 T B e1 s1 e2 s2 L w v1 n1 xs1 v2 n2 xs2) : Two w0 T B e2 s2 e1 s1 L w v2 n2 xs2 v1 n1 xs1 :=
  ⟨h.r2, h.r1, h.k, h.base, h.t2, h.t1, fun i h2 h1 => h.ap i h1 h2, fun p hp => ⟨(h.src p hp).1, (h.src p hp).2.2, (h.src p hp).2.1⟩⟩
theorem Two.cells (h : Two w0 T B e1 s1 e2 s2 L w v1 n1 xs1 v2 n2 xs2) {g : Nat} {t : TypeId} {cs : List Value} (hm : (g, t, cs) ∈ L) : Cells w (g + 1) (some ⟨g, 0, none⟩) cs :=
  ⟨g, 0, fun _ => ⟨rfl, Nat.lt_succ_self g⟩, fun j u hu => by rw [Nat.zero_add, (h.src _ hm).1.cell]; exact hu⟩

/-- an append to the first of them -/
theorem Two.grow (h : Two w0 T B e1 s1 e2 s2 L w v1 n1 xs1 v2 n2 xs2) {w' : World} {v' : Value} {n' : Nat} {xs' : List Value} (h1 : w'.ownsRow B e1 s1 v' n' xs') (hg : w.grownBy w' v1.ownBlock) (hv : v'.ownBlock = v1.ownBlock ∨ v'.ownBlock = some w.heap.size) :
    Two w0 T B e1 s1 e2 s2 L w' v' n' xs' v2 n2 xs2 := by
  have kk := Keeps.of_grown hg
  refine ⟨h1, own_keeps h.r2 kk (fun g e1 e2 => h.ap g e2.symm e1), h.k.step kk (fun i hi e => h.t1 i e.symm hi), Nat.le_trans h.base hg.size, fun i hi hl => ?_, h.t2, fun i hi => ?_, fun p hp => ⟨?_, ?_, (h.src p hp).2.2⟩⟩
  · rcases hv with e | e
    · exact h.t1 i (e ▸ hi) hl
    · rw [e] at hi
      injection hi with hi
      have := h.k.size
      omega
  · rcases hv with e | e
    · exact h.ap i (e ▸ hi)
    · rw [e] at hi
      injection hi with hi
      intro e2
      have := (h.r2.lt i e2).2
      omega
  · exact (h.src p hp).1.keeps kk (fun e => (h.src p hp).2.1 e.symm)
  · rcases hv with e | e
    · rw [e]; exact (h.src p hp).2.1
    · rw [e]
      intro e3
      injection e3 with e3
      have := (h.src p hp).1.lt
      omega

theorem two_append1 {P : Program} {ops : Array Oper} {o : Oper} {a : Act} {K : Act → World → Prop} {Q : Exit → Act → World → Prop} {E : Prop} {s x : Operand} {t : TypeId} (h : Two w0 T B e1 s1 e2 s2 L w v1 n1 xs1 v2 n2 xs2)
    {z : Value} {bytes : Nat} (ht : P.underlying t = some (.slice e1)) (hinfo : (P.info? e1).map (fun i => (i.zero, i.size, i.bytes)) = some (some z, s1, bytes)) (hz : z.cells.size = s1) (hsz : 0 < s1)
    {g : Nat} {news : List Value} {c : Nat} {tt : TypeId} (hm : (g, tt, news) ∈ L) (hlen : news.length = 1 * s1) (h1 : ∀ u ∈ news, u.oneCell' = true)
    (h63 : n1 + 1 ≤ maxLen) (hbytes : (n1 + 1) * bytes ≤ 140737488355328)
    (hgd : Region.wanted o (yielded ops a.tmps) = true) (ho : o.op = .call { callee := .builtin .append, args := #[s, x], argTypes := #[t, t] }) (hs : a.eval s = v1) (hx : a.eval x = .slice (some ⟨g, 0, none⟩) 1 c)
    (hK : ∀ v' w', Two w0 T B e1 s1 e2 s2 L w' v' (n1 + 1) (xs1 ++ news) v2 n2 xs2 → K (a.put o.dst v') w') :
    if Region.wanted o (yielded ops a.tmps) = true then Oper.wp P o a w K Q else E :=
  step_append s x B t e1 z s1 bytes ht hinfo hz hsz h.r1 (h.cells hm) hlen h1 h63 hbytes h.base hgd ho hs hx fun v' w' q1 q2 q3 _ => hK v' w' (h.grow q1 q2 q3)

theorem two_append2 {P : Program} {ops : Array Oper} {o : Oper} {a : Act} {K : Act → World → Prop} {Q : Exit → Act → World → Prop} {E : Prop} {s x : Operand} {t : TypeId} (h : Two w0 T B e1 s1 e2 s2 L w v1 n1 xs1 v2 n2 xs2)
    {z : Value} {bytes : Nat} (ht : P.underlying t = some (.slice e2)) (hinfo : (P.info? e2).map (fun i => (i.zero, i.size, i.bytes)) = some (some z, s2, bytes)) (hz : z.cells.size = s2) (hsz : 0 < s2)
    {g : Nat} {news : List Value} {c : Nat} {tt : TypeId} (hm : (g, tt, news) ∈ L) (hlen : news.length = 1 * s2) (h1 : ∀ u ∈ news, u.oneCell' = true)
    (h63 : n2 + 1 ≤ maxLen) (hbytes : (n2 + 1) * bytes ≤ 140737488355328)
    (hgd : Region.wanted o (yielded ops a.tmps) = true) (ho : o.op = .call { callee := .builtin .append, args := #[s, x], argTypes := #[t, t] }) (hs : a.eval s = v2) (hx : a.eval x = .slice (some ⟨g, 0, none⟩) 1 c)
    (hK : ∀ v' w', Two w0 T B e1 s1 e2 s2 L w' v1 n1 xs1 v' (n2 + 1) (xs2 ++ news) → K (a.put o.dst v') w') :
    if Region.wanted o (yielded ops a.tmps) = true then Oper.wp P o a w K Q else E :=
  two_append1 h.swap ht hinfo hz hsz hm hlen h1 h63 hbytes hgd ho hs hx fun v' w' q => hK v' w' q.swap

theorem twl_append1 {P : Program} {ops : Array Oper} {rest : List Oper} {o : Oper} {a : Act} {Q : Exit → Act → World → Prop} {s x : Operand} {t : TypeId} (h : Two w0 T B e1 s1 e2 s2 L w v1 n1 xs1 v2 n2 xs2)
    {z : Value} {bytes : Nat} (ht : P.underlying t = some (.slice e1)) (hinfo : (P.info? e1).map (fun i => (i.zero, i.size, i.bytes)) = some (some z, s1, bytes)) (hz : z.cells.size = s1) (hsz : 0 < s1)
    {g : Nat} {news : List Value} {c : Nat} {tt : TypeId} (hm : (g, tt, news) ∈ L) (hlen : news.length = 1 * s1) (h1 : ∀ u ∈ news, u.oneCell' = true)
    (h63 : n1 + 1 ≤ maxLen) (hbytes : (n1 + 1) * bytes ≤ 140737488355328)
    (hgd : o.guard = none) (ho : o.op = .call { callee := .builtin .append, args := #[s, x], argTypes := #[t, t] }) (hs : a.eval s = v1) (hx : a.eval x = .slice (some ⟨g, 0, none⟩) 1 c)
    (hK : ∀ v' w', Two w0 T B e1 s1 e2 s2 L w' v' (n1 + 1) (xs1 ++ news) v2 n2 xs2 → wpList P ops Q rest (a.put o.dst v') w') : wpList P ops Q (o :: rest) a w :=
  wp_append w s x B t e1 z s1 bytes ht hinfo hz hsz h.r1 (h.cells hm) hlen h1 h63 hbytes h.base hgd ho hs hx fun v' w' q1 q2 q3 _ => hK v' w' (h.grow q1 q2 q3)

theorem twl_append2 {P : Program} {ops : Array Oper} {rest : List Oper} {o : Oper} {a : Act} {Q : Exit → Act → World → Prop} {s x : Operand} {t : TypeId} (h : Two w0 T B e1 s1 e2 s2 L w v1 n1 xs1 v2 n2 xs2)
    {z : Value} {bytes : Nat} (ht : P.underlying t = some (.slice e2)) (hinfo : (P.info? e2).map (fun i => (i.zero, i.size, i.bytes)) = some (some z, s2, bytes)) (hz : z.cells.size = s2) (hsz : 0 < s2)
    {g : Nat} {news : List Value} {c : Nat} {tt : TypeId} (hm : (g, tt, news) ∈ L) (hlen : news.length = 1 * s2) (h1 : ∀ u ∈ news, u.oneCell' = true)
    (h63 : n2 + 1 ≤ maxLen) (hbytes : (n2 + 1) * bytes ≤ 140737488355328)
    (hgd : o.guard = none) (ho : o.op = .call { callee := .builtin .append, args := #[s, x], argTypes := #[t, t] }) (hs : a.eval s = v2) (hx : a.eval x = .slice (some ⟨g, 0, none⟩) 1 c)
    (hK : ∀ v' w', Two w0 T B e1 s1 e2 s2 L w' v1 n1 xs1 v' (n2 + 1) (xs2 ++ news) → wpList P ops Q rest (a.put o.dst v') w') : wpList P ops Q (o :: rest) a w :=
  twl_append1 h.swap ht hinfo hz hsz hm hlen h1 h63 hbytes hgd ho hs hx fun v' w' q => hK v' w' q.swap
end
end Go.Proofs.Ytcoijmnnnfogdaa


namespace Go.Proofs.Ytcoijmnnnfogdaa
set_option linter.unusedVariables false
set_option linter.unusedSimpArgs false
set_option maxRecDepth 100000
open Go.RowKit

theorem kids_cells {w : World} {g : Nat} {t : TypeId} {xs ys : List Value} (h : Blk w g t (xs ++ ys)) (hx : xs.length = 5) : (∀ j u, xs[j]? = some u → w.cell? ⟨g, 0 + j, none⟩ = some u) ∧ (∀ j u, ys[j]? = some u → w.cell? ⟨g, 0 + 5 + j, none⟩ = some u) := by
  refine ⟨fun j u hu => ?_, fun j u hu => ?_⟩
  · have hj := (List.getElem?_eq_some_iff.1 hu).1
    rw [h.cell, List.getElem?_append_left (by omega), Nat.zero_add]
    exact hu
  · rw [h.cell, List.getElem?_append_right (by omega), ← hu]
    congr 1
    omega

/-- a term of two, made by the call -/
theorem TmR.made {B : Nat} {w : World} {g : Nat} {xs ys : List Value} {t0 t1 : Sp.T} {tt : TypeId} (par : Bool) (h : Blk w g tt (xs ++ ys)) (hx : xs.length = 5) (hg : g < B) (r0 : TmR B w xs t0) (r1 : TmR B w ys t1) :
    TmR B w (tcells (if par then 3 else 2) 0 false 0 (some ⟨g, 0, none⟩) 2 2) (.two par t0 t1) :=
  .two par 0 false 0 g 0 2 2 xs ys t0 t1 (Nat.le_refl _) (by unfold maxLen; omega) (Nat.le_refl _) hg (kids_cells h hx).1 (kids_cells h hx).2 r0 r1

theorem two_allocs (w : World) (c0 c1 : List Value) (t0 t1 : TypeId) : Blk ((w.alloc (.cells c0.toArray t0)).alloc (.cells c1.toArray t1)) w.heap.size t0 c0 ∧ Blk ((w.alloc (.cells c0.toArray t0)).alloc (.cells c1.toArray t1)) (w.heap.size + 1) t1 c1 ∧ ((w.alloc (.cells c0.toArray t0)).alloc (.cells c1.toArray t1)).heap.size = w.heap.size + 1 + 1 ∧ Keeps (fun _ => False) w ((w.alloc (.cells c0.toArray t0)).alloc (.cells c1.toArray t1)) := by
  have h0 := Blk.new w t0 c0
  have h1 := Blk.new (w.alloc (.cells c0.toArray t0)) t1 c1
  rw [show (w.alloc (.cells c0.toArray t0)).heap.size = w.heap.size + 1 by simp] at h1
  exact ⟨h0.alloc _, h1, by simp, ((Keeps.refl _ w).alloc _).alloc _⟩
theorem four_allocs (w : World) (c0 c1 c2 c3 : List Value) (t0 t1 t2 t3 : TypeId) : Blk ((((w.alloc (.cells c0.toArray t0)).alloc (.cells c1.toArray t1)).alloc (.cells c2.toArray t2)).alloc (.cells c3.toArray t3)) w.heap.size t0 c0 ∧ Blk ((((w.alloc (.cells c0.toArray t0)).alloc (.cells c1.toArray t1)).alloc (.cells c2.toArray t2)).alloc (.cells c3.toArray t3)) (w.heap.size + 1) t1 c1 ∧
    Blk ((((w.alloc (.cells c0.toArray t0)).alloc (.cells c1.toArray t1)).alloc (.cells c2.toArray t2)).alloc (.cells c3.toArray t3)) (w.heap.size + 1 + 1) t2 c2 ∧ Blk ((((w.alloc (.cells c0.toArray t0)).alloc (.cells c1.toArray t1)).alloc (.cells c2.toArray t2)).alloc (.cells c3.toArray t3)) (w.heap.size + 1 + 1 + 1) t3 c3 ∧
    ((((w.alloc (.cells c0.toArray t0)).alloc (.cells c1.toArray t1)).alloc (.cells c2.toArray t2)).alloc (.cells c3.toArray t3)).heap.size = w.heap.size + 1 + 1 + 1 + 1 ∧ Keeps (fun _ => False) w ((((w.alloc (.cells c0.toArray t0)).alloc (.cells c1.toArray t1)).alloc (.cells c2.toArray t2)).alloc (.cells c3.toArray t3)) := by
  obtain ⟨h0, h1, hz, hk⟩ := two_allocs w c0 c1 t0 t1
  obtain ⟨h2, h3, hz2, hk2⟩ := two_allocs ((w.alloc (.cells c0.toArray t0)).alloc (.cells c1.toArray t1)) c2 c3 t2 t3
  rw [hz] at h2 h3 hz2
  exact ⟨(h0.alloc _).alloc _, (h1.alloc _).alloc _, h2, h3, hz2, hk.trans hk2⟩

/-- what is known of a term that lies in a box, while the world goes on -/
structure Boxed (w1 : World) (q : Nat) (k c : Int) (b : Bool) (l : Int) (A : Option Addr) (n cap : Nat) (t : Sp.T) : Prop where
  look : ∀ w', Below w1.heap.size w1 w' → (w'.cell? ⟨q, 0, none⟩ = some (.int .i64 k) ∧ w'.cell? ⟨q, 1, none⟩ = some (.int .i64 c) ∧ w'.cell? ⟨q, 2, none⟩ = some (.bool b) ∧ w'.cell? ⟨q, 3, none⟩ = some (.int .i64 l) ∧ w'.cell? ⟨q, 4, none⟩ = some (.slice A n cap)) ∧
    TmR w'.heap.size w' [.int .i64 k, .int .i64 c, .bool b, .int .i64 l, .slice A n cap] t
theorem Boxed.of {w1 : World} {q : Nat} {k c : Int} {b : Bool} {l : Int} {A : Option Addr} {n cap : Nat} {t : Sp.T} {B : Nat} (hB : Blk w1 q 26 [.int .i64 k, .int .i64 c, .bool b, .int .i64 l, .slice A n cap]) (hT : TmR B w1 [.int .i64 k, .int .i64 c, .bool b, .int .i64 l, .slice A n cap] t) (hb : B ≤ w1.heap.size) : Boxed w1 q k c b l A n cap t :=
  ⟨fun w' h => ⟨⟨by rw [(hB.below h).cell]; rfl, by rw [(hB.below h).cell]; rfl, by rw [(hB.below h).cell]; rfl, by rw [(hB.below h).cell]; rfl, by rw [(hB.below h).cell]; rfl⟩, (hT.later (h.mono hb)).keep (Nat.le_trans hb h.size) (fun _ _ => rfl)⟩⟩

theorem tm_up {B B' : Nat} {w : World} {cs : List Value} {t : Sp.T} (h : TmR B w cs t) (hB : B ≤ B') : TmR B' w cs t := h.keep hB (fun _ _ => rfl)

theorem three_allocs (w : World) (c0 c1 c2 : List Value) (t0 t1 t2 : TypeId) : Blk (((w.alloc (.cells c0.toArray t0)).alloc (.cells c1.toArray t1)).alloc (.cells c2.toArray t2)) w.heap.size t0 c0 ∧ Blk (((w.alloc (.cells c0.toArray t0)).alloc (.cells c1.toArray t1)).alloc (.cells c2.toArray t2)) (w.heap.size + 1) t1 c1 ∧
    Blk (((w.alloc (.cells c0.toArray t0)).alloc (.cells c1.toArray t1)).alloc (.cells c2.toArray t2)) (w.heap.size + 1 + 1) t2 c2 ∧ (((w.alloc (.cells c0.toArray t0)).alloc (.cells c1.toArray t1)).alloc (.cells c2.toArray t2)).heap.size = w.heap.size + 1 + 1 + 1 ∧ Keeps (fun _ => False) w (((w.alloc (.cells c0.toArray t0)).alloc (.cells c1.toArray t1)).alloc (.cells c2.toArray t2)) := by
  obtain ⟨h0, h1, hz, hk⟩ := two_allocs w c0 c1 t0 t1
  have h2 := Blk.new ((w.alloc (.cells c0.toArray t0)).alloc (.cells c1.toArray t1)) t2 c2
  rw [hz] at h2
  exact ⟨h0.alloc _, h1.alloc _, h2, by simp, hk.alloc _⟩

theorem SlV.of_blk {w : World} {g sz n : Nat} {e : TypeId} {cs : List Value} (h : Blk w g e cs) (hl : cs.length = n * sz) (hn : n ≤ 1000000000) : SlV w sz (.slice (some ⟨g, 0, none⟩) n n) n cs :=
  ⟨_, _, rfl, Nat.le_refl _, by unfold maxLen; omega, hl, g, 0, fun _ => ⟨rfl, h.lt⟩, fun j u hu => by rw [Nat.zero_add, h.cell]; exact hu⟩

end Go.Proofs.Ytcoijmnnnfogdaa


namespace Go.Proofs.Ytcoijmnnnfogdaa
set_option linter.unusedVariables false
set_option linter.unusedSimpArgs false
set_option maxRecDepth 100000
open Go.RowKit

namespace Sp
theorem acccs_get (l : List Acc) (i : Nat) (p : Acc) (h : l[i]? = some p) : (acccs l)[i * 3]? = some (.int .i64 p.1) ∧ (acccs l)[i * 3 + 1]? = some (.bool p.2.1) ∧ (acccs l)[i * 3 + 2]? = some (.int .i64 p.2.2) :=
  ⟨flat_get accc 3 (fun _ => rfl) l i 0 p h (by omega), flat_get accc 3 (fun _ => rfl) l i 1 p h (by omega), flat_get accc 3 (fun _ => rfl) l i 2 p h (by omega)⟩
theorem take_snoc_eq {α : Type} {xs ys : List α} {k : Nat} {x y : α} (hx : xs[k]? = some x) (hy : ys[k]? = some y) (ht : xs.take k = ys.take k) (e : x = y) : xs.take (k + 1) = ys.take (k + 1) := by
  have hsn : ∀ (z : α) (l : List α), l[k]? = some z → l.take (k + 1) = l.take k ++ [z] := fun z l h => by
    obtain ⟨h', rfl⟩ := List.getElem?_eq_some_iff.1 h
    exact List.take_succ_eq_append_getElem h'
  rw [hsn _ _ hx, hsn _ _ hy, ht, e]
theorem ne_of_get {α : Type} {xs ys : List α} {k : Nat} {x y : α} (hx : xs[k]? = some x) (hy : ys[k]? = some y) (e : x ≠ y) : xs ≠ ys := by
  rintro rfl
  rw [hx] at hy
  injection hy with hy
  exact e hy
end Sp
end Go.Proofs.Ytcoijmnnnfogdaa


namespace Go.Proofs.Ytcoijmnnnfogdaa
set_option linter.unusedVariables false
set_option linter.unusedSimpArgs false
set_option maxRecDepth 100000
open Go.RowKit

theorem race_clash (w : World) (c1 l1 c2 l2 : Int) (b1 b2 : Bool) :
    Calls Try.prog 29 #[.agg #[.int .i64 c1, .bool b1, .int .i64 l1], .agg #[.int .i64 c2, .bool b2, .int .i64 l2]] w fun e w' => e = .returned (.bool (c1 == c2 && (b1 || b2))) ∧ Below w.heap.size w w' := by
  obtain ⟨x0, x1, hz, hk⟩ := two_allocs w [.int .i64 c1, .bool b1, .int .i64 l1] [.int .i64 c2, .bool b2, .int .i64 l2] 23 23
  have hb0 := hk.below (Nat.le_refl _) (fun i h => h.elim)
  go_enter Try.func29, Try.ntmps29
  have k1 := x0.cell 0
  have k2 := x0.cell 1
  have k3 := x1.cell 0
  have k4 := x1.cell 1
  simp only [List.getElem?_cons_zero, List.getElem?_cons_succ] at k1 k2 k3 k4
  clear x0 x1 hz hk
  rcases hc : c1 == c2 with _ | _
  · go_wp2_with fail
    go_ret
    exact ⟨rfl, hb0⟩
  · rcases b1 with _ | _
    · go_wp2_with fail
      go_ret
      exact ⟨rfl, hb0⟩
    · go_wp2_with fail
      go_ret
      exact ⟨rfl, hb0⟩

set_option maxHeartbeats 4000000 in
theorem race_races (t : Sp.T) (w : World) (cs : List Value) (hT : TmR w.heap.size w cs t) (hn : t.size ≤ 1048576) :
    Calls Try.prog 11 #[.agg cs.toArray] w fun e w' => ∃ u, e = .returned u ∧ w'.ownsRow w.heap.size 46 2 u (Rc.races t).length (Sp.prcs (Rc.races t)) ∧ Below w.heap.size w w' := by
  obtain ⟨a0, a1, a2, a3, A4, a5, a6, rfl, -, -⟩ := hT.form
  have x0 := Blk.new w 26 [.int .i64 a0, .int .i64 a1, .bool a2, .int .i64 a3, .slice A4 a5 a6]
  unfold tcells at hT ⊢
  have hb0 : Below w.heap.size w (w.alloc (.cells [Value.int .i64 a0, .int .i64 a1, .bool a2, .int .i64 a3, .slice A4 a5 a6].toArray 26)) := below_alloc (Below.refl _ _) _
  go_enter Try.func11, Try.ntmps11
  go_wp2_with fail
  obtain ⟨q, hq⟩ : ∃ q, q = w.heap.size := ⟨_, rfl⟩
  have hT0 := tm_up (hT.later hb0) hb0.size
  generalize (w.alloc (.cells [Value.int .i64 a0, .int .i64 a1, .bool a2, .int .i64 a3, .slice A4 a5 a6].toArray 26)) = w1 at x0 hb0 hT0 ⊢
  rw [← hq] at x0 ⊢
  have hX := Boxed.of x0 hT0 (Nat.le_refl _)
  have HQ := Lib.hid (And.intro hq hb0)
  clear x0 hb0 hT0 hq hT
  have keepS : ∀ w', Below w1.heap.size w1 w' → (Below w1.heap.size w1 w' ∧ w'.cell? ⟨q, 0, none⟩ = some (.int .i64 a0) ∧ w'.cell? ⟨q, 1, none⟩ = some (.int .i64 a1) ∧ w'.cell? ⟨q, 2, none⟩ = some (.bool a2) ∧ w'.cell? ⟨q, 3, none⟩ = some (.int .i64 a3) ∧ w'.cell? ⟨q, 4, none⟩ = some (.slice A4 a5 a6)) := fun w' hb =>
    ⟨hb, (hX.look _ hb).1.1, (hX.look _ hb).1.2.1, (hX.look _ hb).1.2.2.1, (hX.look _ hb).1.2.2.2.1, (hX.look _ hb).1.2.2.2.2⟩
  have gT : ∀ w', Below w1.heap.size w1 w' → TmR w'.heap.size w' [.int .i64 a0, .int .i64 a1, .bool a2, .int .i64 a3, .slice A4 a5 a6] t := fun w' hb => (hX.look _ hb).2
  have gL : ∀ w', Below w1.heap.size w1 w' → Calls Try.prog 14 #[.agg #[.int .i64 a0, .int .i64 a1, .bool a2, .int .i64 a3, .slice A4 a5 a6]] w' fun e w'' => ∃ v, e = .returned v ∧ SlV w'' 3 v t.size (Sp.acccs t.leaves) ∧ Below w'.heap.size w' w'' := fun w' hb => leaves_any w' _ t (gT w' hb) (by omega)
  have gM : ∀ w', Below w1.heap.size w1 w' → Calls Try.prog 28 #[.agg #[.int .i64 a0, .int .i64 a1, .bool a2, .int .i64 a3, .slice A4 a5 a6]] w' fun e w'' => ∃ v, e = .returned v ∧ SlV w'' 2 v t.size (Sp.prcs (t.marks 0 0)) ∧ Below w'.heap.size w' w'' := fun w' hb =>
    (marks_any w' _ t (gT w' hb) (by omega)).mono fun e w'' ⟨h, h1, h2, h3, h4⟩ => ⟨_, h1, SlV.of_blk h2 (by rw [Sp.prcs_length, t.marks_length]) (by omega), h4⟩
  have hS0 := keepS _ (below_drew (Below.refl _ _))
  clear hX gT
  refine wp_walk (by kernel_rfl) (by kernel_rfl) (fun w w' => Below w.heap.size w w') (fun w' => (Below w1.heap.size w1 w' ∧ w'.cell? ⟨q, 0, none⟩ = some (.int .i64 a0) ∧ w'.cell? ⟨q, 1, none⟩ = some (.int .i64 a1) ∧ w'.cell? ⟨q, 2, none⟩ = some (.bool a2) ∧ w'.cell? ⟨q, 3, none⟩ = some (.int .i64 a3) ∧ w'.cell? ⟨q, 4, none⟩ = some (.slice A4 a5 a6))) hS0 ?_
  repeat (first | (refine settle_skip (fun _ => by rfl) ?_; (simp only [Act.put, List.setIfInBounds_toArray, List.set_cons_zero, List.set_cons_succ])) | (refine' settle_run (fun _ _ => Below.refl _ _) (fun _ => by rfl) ?_ ?_; rotate_left; (focus (intro ρ w hS hF; (try dsimp only at hS); go_split_ands; go_simp; try with_reducible rfl)); (simp only [Act.put, List.setIfInBounds_toArray, List.set_cons_zero, List.set_cons_succ])))
  (refine settle_known (FSl 3 t.size (Sp.acccs t.leaves)) (by rfl) (fun _ => by rfl)  ?_ ?_; (focus (intro ρ w hS hF K hK; (simp only [Act.put, List.setIfInBounds_toArray, List.set_cons_zero, List.set_cons_succ] at hK); go_simp; (refine (gL _ hS.1).mono ?_; rintro e w' ⟨v, rfl, hF', hb'⟩; exact hK _ _ hF' (keepS _ (below_next hb' hS.1)) hb'))); (simp only [Act.put, List.setIfInBounds_toArray, List.set_cons_zero, List.set_cons_succ]))
  repeat (first | (refine settle_skip (fun _ => by rfl) ?_; (simp only [Act.put, List.setIfInBounds_toArray, List.set_cons_zero, List.set_cons_succ])) | (refine' settle_run (fun _ _ => Below.refl _ _) (fun _ => by rfl) ?_ ?_; rotate_left; (focus (intro ρ w hS hF; (try dsimp only at hS); go_split_ands; go_simp; try with_reducible rfl)); (simp only [Act.put, List.setIfInBounds_toArray, List.set_cons_zero, List.set_cons_succ])))
  (refine settle_known (FSl 2 t.size (Sp.prcs (t.marks 0 0))) (by rfl) (fun _ => by rfl)  ?_ ?_; (focus (intro ρ w hS hF K hK; (simp only [Act.put, List.setIfInBounds_toArray, List.set_cons_zero, List.set_cons_succ] at hK); go_simp; (refine (gM _ hS.1).mono ?_; rintro e w' ⟨v, rfl, hF', hb'⟩; exact hK _ _ hF' (keepS _ (below_next hb' hS.1)) hb'))); (simp only [Act.put, List.setIfInBounds_toArray, List.set_cons_zero, List.set_cons_succ]))
  (refine settle_known (FSl 3 t.size (Sp.acccs t.leaves)) (by rfl) (fun _ => by rfl)  ?_ ?_; (focus (intro ρ w hS hF K hK; (simp only [Act.put, List.setIfInBounds_toArray, List.set_cons_zero, List.set_cons_succ] at hK); go_simp; exact hK _ _ (hF.2.1 (by rfl)) hS (Below.refl _ _))); (simp only [Act.put, List.setIfInBounds_toArray, List.set_cons_zero, List.set_cons_succ]))
  (refine settle_known (FSl 2 t.size (Sp.prcs (t.marks 0 0))) (by rfl) (fun _ => by rfl)  ?_ ?_; (focus (intro ρ w hS hF K hK; (simp only [Act.put, List.setIfInBounds_toArray, List.set_cons_zero, List.set_cons_succ] at hK); go_simp; exact hK _ _ (hF.2.1 (by rfl)) hS (Below.refl _ _))); (simp only [Act.put, List.setIfInBounds_toArray, List.set_cons_zero, List.set_cons_succ]))
  refine settle_nil ?_
  intro ρ w2 hS hF
  have hL := hF 3 (FSl 3 t.size (Sp.acccs t.leaves)) (by repeat (first | exact List.mem_cons_self | apply List.mem_cons_of_mem))
  have hM := hF 4 (FSl 2 t.size (Sp.prcs (t.marks 0 0))) (by repeat (first | exact List.mem_cons_self | apply List.mem_cons_of_mem))
  have hb2 := hS.1
  dsimp only
  obtain ⟨PL, cL, eL, hleL, hmL, hlL, hL⟩ := hL
  obtain ⟨PM, cM, eM, hleM, hmM, hlM, hM⟩ := hM
  rw [eL, eM]
  have hbE := below_self HQ.out.2 hb2
  clear hF hS hS0 gL gM keepS eL eM hlL hlM hb2
  unfold maxLen at hmL hmM
  obtain ⟨N, hN⟩ : ∃ N, N = t.size := ⟨_, rfl⟩
  rw [← hN] at hleL hleM hn ⊢
  have HN := Lib.hid hN
  clear hN
  go_wp2_with fail
  go_loopw [5, 15] (fun out i wr => ∃ k : Nat, k ≤ N ∧ i = .int .i64 (k : Int) ∧ Below w2.heap.size w2 wr ∧ wr.ownsRow w2.heap.size 46 2 out (Rc.racesK t k).length (Sp.prcs (Rc.racesK t k))) (fun _ i _ => N - (intOf i).toNat)
  case atStart => exact ⟨0, Nat.zero_le _, rfl, Below.refl _ _, World.ownsRow_nil _ _ _ _⟩
  case round =>
    obtain ⟨i, hi, rfl, hb, hown⟩ := hrel
    obtain ⟨W0, hW0⟩ : ∃ W0, W0 = wr := ⟨_, rfl⟩
    subst hW0
    by_cases hlt : i < N
    · have hgi := Rc.acc_get (t := t) (n := i) (by rw [← HN.out]; exact hlt)
      obtain ⟨x1, x2, x3⟩ := Sp.acccs_get _ _ _ hgi
      obtain ⟨bL, oL, rfl, hbl, hcc⟩ := hL.at_ (fun e => by rw [e] at x1; simp at x1)
      have mi := Sp.prcs_get _ i _ (t.marks_get 0 0 i (by rw [← HN.out]; exact hlt))
      obtain ⟨bM, oM, rfl, hbm, hcm⟩ := hM.at_ (fun e => by rw [e] at mi; simp at mi)
      have m1 := hcm _ _ mi.2
      simp only [Nat.zero_add] at m1
      rw [← Nat.add_assoc] at m1
      have c1 := (hb.cell hbl).trans (hcc _ _ x1)
      have c2 := (hb.cell hbl).trans (hcc _ _ x2)
      have c3 := (hb.cell hbl).trans (hcc _ _ x3)
      rw [← Nat.add_assoc] at c2 c3
      obtain ⟨⟨ci, wi, li⟩, hei⟩ : ∃ x, x = Rc.acc t i := ⟨_, rfl⟩
      rw [← hei] at c1 c2 c3
      dsimp only at c1 c2 c3
      obtain ⟨ri, hri⟩ : ∃ r, r = t.rk i := ⟨_, rfl⟩
      rw [← hri] at m1
      have HI := Lib.hid (And.intro hei hri)
      clear hgi x1 x2 x3 mi hei hri
      have hB1 : Blk (W0.alloc (.cells #[.int .i64 ci, .bool wi, .int .i64 li] 23)) W0.heap.size 23 [.int .i64 ci, .bool wi, .int .i64 li] := Blk.new _ _ _
      have hbA : Below w2.heap.size w2 (W0.alloc (.cells #[.int .i64 ci, .bool wi, .int .i64 li] 23)) := below_alloc hb _
      have hownA := hown.alloc (.cells #[.int .i64 ci, .bool wi, .int .i64 li] 23)
      have HA := Lib.hid (And.intro hB1 (And.intro hbA hownA))
      clear hB1 hbA hownA hown hb
      go_wp2_with fail
      clear c1 c2 c3
      go_loopw [5, 8] (fun out j wr => ∃ m : Nat, m + (i + 1) ≤ N ∧ j = .int .i64 ((i + 1 + m : Nat) : Int) ∧ Below w2.heap.size w2 wr ∧ wr.ownsRow w2.heap.size 46 2 out (Rc.racesK t i ++ Rc.rowR t i m).length (Sp.prcs (Rc.racesK t i ++ Rc.rowR t i m)) ∧ Blk wr W0.heap.size 23 [.int .i64 ci, .bool wi, .int .i64 li]) (fun _ j _ => N - (intOf j).toNat)
      case atStart => exact ⟨0, by omega, by go_num, HA.out.2.1, by simpa [Rc.rowR_zero] using HA.out.2.2, HA.out.1⟩
      case round =>
        clear HA
        obtain ⟨m, hm, rfl, hbk, hownk, hBq⟩ := hrel
        obtain ⟨j, hj⟩ : ∃ j, j = i + 1 + m := ⟨_, rfl⟩
        rw [← hj]
        by_cases hjl : j < N
        · have hgj := Rc.acc_get (t := t) (n := j) (by rw [← HN.out]; exact hjl)
          obtain ⟨x1, x2, x3⟩ := Sp.acccs_get _ _ _ hgj
          have mj := Sp.prcs_get _ j _ (t.marks_get 0 0 j (by rw [← HN.out]; exact hjl))
          have m2 := hcm _ _ mj.2
          simp only [Nat.zero_add] at m2
          rw [← Nat.add_assoc] at m2
          have c1 := hcc _ _ x1
          have c2 := hcc _ _ x2
          have c3 := hcc _ _ x3
          rw [← Nat.add_assoc] at c2 c3
          obtain ⟨⟨cj, wj, lj⟩, hej⟩ : ∃ x, x = Rc.acc t j := ⟨_, rfl⟩
          rw [← hej] at c1 c2 c3
          dsimp only at c1 c2 c3
          obtain ⟨rj, hrj⟩ : ∃ r, r = t.rk j := ⟨_, rfl⟩
          rw [← hrj] at m2
          have hhit : Rc.hit t i j = ((ci == cj && (wi || wj)) && decide (rj < ri)) := by
            unfold Rc.hit Rc.clash
            rw [← hej, ← HI.out.1, hrj, HI.out.2]
          have hsucc := Rc.rowR_succ t i m
          rw [← hj] at hsucc
          have hcl := fun w' => race_clash w' ci li cj lj wi wj
          have hql := hBq.lt
          have hbl' := Nat.lt_of_lt_of_le hbl hbk.size
          have hbm' := Nat.lt_of_lt_of_le hbm hbk.size
          have n1 := (hbk.cell (p := ⟨bM, oM + i * 2 + 1, none⟩) hbm).trans m1
          have n2 := (hbk.cell (p := ⟨bM, oM + j * 2 + 1, none⟩) hbm).trans m2
          have d1 := (hbk.cell (p := ⟨bL, oL + j * 3, none⟩) hbl).trans c1
          have d2 := (hbk.cell (p := ⟨bL, oL + j * 3 + 1, none⟩) hbl).trans c2
          have d3 := (hbk.cell (p := ⟨bL, oL + j * 3 + 2, none⟩) hbl).trans c3
          have keepS : ∀ w', Below wr.heap.size wr w' → (Below wr.heap.size wr w' ∧ w'.cell? ⟨W0.heap.size, 0, none⟩ = some (.int .i64 ci) ∧ w'.cell? ⟨W0.heap.size, 1, none⟩ = some (.bool wi) ∧ w'.cell? ⟨W0.heap.size, 2, none⟩ = some (.int .i64 li) ∧ w'.cell? ⟨bM, oM + i * 2 + 1, none⟩ = some (.int .i64 (ri : Int)) ∧ w'.cell? ⟨bM, oM + j * 2 + 1, none⟩ = some (.int .i64 (rj : Int)) ∧ w'.cell? ⟨bL, oL + j * 3, none⟩ = some (.int .i64 cj) ∧ w'.cell? ⟨bL, oL + j * 3 + 1, none⟩ = some (.bool wj) ∧ w'.cell? ⟨bL, oL + j * 3 + 2, none⟩ = some (.int .i64 lj)) := fun w' hb =>
            ⟨hb, by rw [(hBq.below hb).cell]; rfl, by rw [(hBq.below hb).cell]; rfl, by rw [(hBq.below hb).cell]; rfl, (hb.cell (p := ⟨bM, oM + i * 2 + 1, none⟩) hbm').trans n1, (hb.cell (p := ⟨bM, oM + j * 2 + 1, none⟩) hbm').trans n2, (hb.cell (p := ⟨bL, oL + j * 3, none⟩) hbl').trans d1, (hb.cell (p := ⟨bL, oL + j * 3 + 1, none⟩) hbl').trans d2, (hb.cell (p := ⟨bL, oL + j * 3 + 2, none⟩) hbl').trans d3⟩
          have hS0 := keepS _ (below_drew (Below.refl _ _))
          have HK := Lib.hid keepS
          have HR := Lib.hid (And.intro hhit (And.intro hsucc (And.intro hj (And.intro hbk (And.intro hownk hBq)))))
          obtain ⟨C, hC⟩ : ∃ C, C = (ci == cj && (wi || wj)) := ⟨_, rfl⟩
          rw [← hC] at hcl hhit
          clear HR
          have HR := Lib.hid (And.intro hhit (And.intro hsucc (And.intro hj (And.intro hbk (And.intro hownk hBq)))))
          clear hgj x1 x2 x3 mj m2 c1 c2 c3 hej hrj hhit hsucc hbk hownk hBq n1 n2 d1 d2 d3 keepS hj hm hC hql hbl' hbm' m1
          rcases C with _ | _
          · go_wp2_with fail
            refine wp_walk (by kernel_rfl) (by kernel_rfl) (fun _ _ => True) (fun w' => (Below wr.heap.size wr w' ∧ w'.cell? ⟨W0.heap.size, 0, none⟩ = some (.int .i64 ci) ∧ w'.cell? ⟨W0.heap.size, 1, none⟩ = some (.bool wi) ∧ w'.cell? ⟨W0.heap.size, 2, none⟩ = some (.int .i64 li) ∧ w'.cell? ⟨bM, oM + i * 2 + 1, none⟩ = some (.int .i64 (ri : Int)) ∧ w'.cell? ⟨bM, oM + j * 2 + 1, none⟩ = some (.int .i64 (rj : Int)) ∧ w'.cell? ⟨bL, oL + j * 3, none⟩ = some (.int .i64 cj) ∧ w'.cell? ⟨bL, oL + j * 3 + 1, none⟩ = some (.bool wj) ∧ w'.cell? ⟨bL, oL + j * 3 + 2, none⟩ = some (.int .i64 lj))) hS0 ?_
            repeat (first | (refine settle_skip (fun _ => by rfl) ?_; (simp only [Act.put, List.setIfInBounds_toArray, List.set_cons_zero, List.set_cons_succ])) | (refine' settle_run (fun _ _ => trivial) (fun _ => by rfl) ?_ ?_; rotate_left; (focus (intro ρ w hS hF; (try dsimp only at hS); go_split_ands; go_simp; try with_reducible rfl)); (simp only [Act.put, List.setIfInBounds_toArray, List.set_cons_zero, List.set_cons_succ])))
            (refine' settle_step (fun _ => by rfl) ?_ ?_; rotate_left; (focus (intro ρ w hS hF K hK; (simp only [Act.put, List.setIfInBounds_toArray, List.set_cons_zero, List.set_cons_succ] at hK); go_simp; go_at_call 29; refine (hcl _).mono ?_; rintro e w6 ⟨rfl, hb6⟩; have hS' := HK.out _ (below_next hb6 hS.1); have hE' := True.intro; exact hK _ hS' hE')); (simp only [Act.put, List.setIfInBounds_toArray, List.set_cons_zero, List.set_cons_succ]))
            repeat (first | (refine settle_skip (fun _ => by rfl) ?_; (simp only [Act.put, List.setIfInBounds_toArray, List.set_cons_zero, List.set_cons_succ])) | (refine' settle_run (fun _ _ => trivial) (fun _ => by rfl) ?_ ?_; rotate_left; (focus (intro ρ w hS hF; (try dsimp only at hS); go_split_ands; go_simp; try with_reducible rfl)); (simp only [Act.put, List.setIfInBounds_toArray, List.set_cons_zero, List.set_cons_succ])))
            refine settle_nil ?_
            intro ρ w5 hS _
            have hb5 := hS.1
            clear hS hS0
            dsimp only
            go_wp2_with fail
            go_roundw
            case rel =>
              obtain ⟨hhit, hsucc, hj, hbk, hownk, hBq⟩ := HR.out
              refine ⟨m + 1, by omega, by rw [hj]; go_num, below_next hb5 hbk, ?_, hBq.below hb5⟩
              rw [hsucc, hhit]
              simpa using own_keeps hownk (Keeps.of_below hb5 (fun _ => False)) (fun _ _ => id)
            case measure => simp [intOf]; omega
          · rcases hrr : decide (rj < ri) with _ | _
            · go_wp2_with fail
              refine wp_walk (by kernel_rfl) (by kernel_rfl) (fun _ _ => True) (fun w' => (Below wr.heap.size wr w' ∧ w'.cell? ⟨W0.heap.size, 0, none⟩ = some (.int .i64 ci) ∧ w'.cell? ⟨W0.heap.size, 1, none⟩ = some (.bool wi) ∧ w'.cell? ⟨W0.heap.size, 2, none⟩ = some (.int .i64 li) ∧ w'.cell? ⟨bM, oM + i * 2 + 1, none⟩ = some (.int .i64 (ri : Int)) ∧ w'.cell? ⟨bM, oM + j * 2 + 1, none⟩ = some (.int .i64 (rj : Int)) ∧ w'.cell? ⟨bL, oL + j * 3, none⟩ = some (.int .i64 cj) ∧ w'.cell? ⟨bL, oL + j * 3 + 1, none⟩ = some (.bool wj) ∧ w'.cell? ⟨bL, oL + j * 3 + 2, none⟩ = some (.int .i64 lj))) hS0 ?_
              repeat (first | (refine settle_skip (fun _ => by rfl) ?_; (simp only [Act.put, List.setIfInBounds_toArray, List.set_cons_zero, List.set_cons_succ])) | (refine' settle_run (fun _ _ => trivial) (fun _ => by rfl) ?_ ?_; rotate_left; (focus (intro ρ w hS hF; (try dsimp only at hS); go_split_ands; go_simp; try with_reducible rfl)); (simp only [Act.put, List.setIfInBounds_toArray, List.set_cons_zero, List.set_cons_succ])))
              (refine' settle_step (fun _ => by rfl) ?_ ?_; rotate_left; (focus (intro ρ w hS hF K hK; (simp only [Act.put, List.setIfInBounds_toArray, List.set_cons_zero, List.set_cons_succ] at hK); go_simp; go_at_call 29; refine (hcl _).mono ?_; rintro e w6 ⟨rfl, hb6⟩; have hS' := HK.out _ (below_next hb6 hS.1); have hE' := True.intro; exact hK _ hS' hE')); (simp only [Act.put, List.setIfInBounds_toArray, List.set_cons_zero, List.set_cons_succ]))
              repeat (first | (refine settle_skip (fun _ => by rfl) ?_; (simp only [Act.put, List.setIfInBounds_toArray, List.set_cons_zero, List.set_cons_succ])) | (refine' settle_run (fun _ _ => trivial) (fun _ => by rfl) ?_ ?_; rotate_left; (focus (intro ρ w hS hF; (try dsimp only at hS); go_split_ands; go_simp; try with_reducible rfl)); (simp only [Act.put, List.setIfInBounds_toArray, List.set_cons_zero, List.set_cons_succ])))
              refine settle_nil ?_
              intro ρ w5 hS _
              have hb5 := hS.1
              clear hS hS0
              dsimp only
              go_wp2_with fail
              go_roundw
              case rel =>
                obtain ⟨hhit, hsucc, hj, hbk, hownk, hBq⟩ := HR.out
                refine ⟨m + 1, by omega, by rw [hj]; go_num, below_next hb5 hbk, ?_, hBq.below hb5⟩
                rw [hsucc, hhit, hrr]
                simpa using own_keeps hownk (Keeps.of_below hb5 (fun _ => False)) (fun _ _ => id)
              case measure => simp [intOf]; omega
            · go_wp2_with fail
              refine wp_walk (by kernel_rfl) (by kernel_rfl) (fun _ _ => True) (fun w' => (Below wr.heap.size wr w' ∧ w'.cell? ⟨W0.heap.size, 0, none⟩ = some (.int .i64 ci) ∧ w'.cell? ⟨W0.heap.size, 1, none⟩ = some (.bool wi) ∧ w'.cell? ⟨W0.heap.size, 2, none⟩ = some (.int .i64 li) ∧ w'.cell? ⟨bM, oM + i * 2 + 1, none⟩ = some (.int .i64 (ri : Int)) ∧ w'.cell? ⟨bM, oM + j * 2 + 1, none⟩ = some (.int .i64 (rj : Int)) ∧ w'.cell? ⟨bL, oL + j * 3, none⟩ = some (.int .i64 cj) ∧ w'.cell? ⟨bL, oL + j * 3 + 1, none⟩ = some (.bool wj) ∧ w'.cell? ⟨bL, oL + j * 3 + 2, none⟩ = some (.int .i64 lj))) hS0 ?_
              repeat (first | (refine settle_skip (fun _ => by rfl) ?_; (simp only [Act.put, List.setIfInBounds_toArray, List.set_cons_zero, List.set_cons_succ])) | (refine' settle_run (fun _ _ => trivial) (fun _ => by rfl) ?_ ?_; rotate_left; (focus (intro ρ w hS hF; (try dsimp only at hS); go_split_ands; go_simp; try with_reducible rfl)); (simp only [Act.put, List.setIfInBounds_toArray, List.set_cons_zero, List.set_cons_succ])))
              (refine' settle_step (fun _ => by rfl) ?_ ?_; rotate_left; (focus (intro ρ w hS hF K hK; (simp only [Act.put, List.setIfInBounds_toArray, List.set_cons_zero, List.set_cons_succ] at hK); go_simp; go_at_call 29; refine (hcl _).mono ?_; rintro e w6 ⟨rfl, hb6⟩; have hS' := HK.out _ (below_next hb6 hS.1); have hE' := True.intro; exact hK _ hS' hE')); (simp only [Act.put, List.setIfInBounds_toArray, List.set_cons_zero, List.set_cons_succ]))
              repeat (first | (refine settle_skip (fun _ => by rfl) ?_; (simp only [Act.put, List.setIfInBounds_toArray, List.set_cons_zero, List.set_cons_succ])) | (refine' settle_run (fun _ _ => trivial) (fun _ => by rfl) ?_ ?_; rotate_left; (focus (intro ρ w hS hF; (try dsimp only at hS); go_split_ands; go_simp; try with_reducible rfl)); (simp only [Act.put, List.setIfInBounds_toArray, List.set_cons_zero, List.set_cons_succ])))
              refine settle_nil ?_
              intro ρ w5 hS _
              have hb5 := hS.1
              clear hS hS0
              dsimp only
              obtain ⟨hhit, hsucc, hj, hbk, hownk, hBq⟩ := HR.out
              have hbk5 := below_next hb5 hbk
              have hown5 := own_keeps hownk (Keeps.of_below hb5 (fun _ => False)) (fun _ _ => id)
              have hB5 := hBq.below hb5
              have hbase5 := hbk5.size
              have hlen1 := Rc.racesK_len t i
              have hlen2 := Rc.rowR_len t i m
              have hlen3 : i * t.size ≤ 1048576 * 1048576 := Nat.mul_le_mul (by omega) (by rw [← HN.out]; exact hn)
              have hmj : m ≤ 1048576 := by omega
              have n63 : (Rc.racesK t i ++ Rc.rowR t i m).length + 1 ≤ maxLen := by rw [List.length_append]; unfold maxLen; omega
              have n47 : ((Rc.racesK t i ++ Rc.rowR t i m).length + 1) * 16 ≤ 140737488355328 := by rw [List.length_append]; omega
              have hne := own_blk_ne hown5 hB5 (by decide)
              have HC := Lib.hid (And.intro hbk5 hB5)
              clear hhit hsucc hj hbk hownk hBq hlen1 hlen2 hlen3 hbk5 hB5 hmj
              go_wp2_with (first | (at_builtin; refine wp_push_at _ _ _ _ (by first | rfl | simp) _ _ _ _ _ _ Try.underlying38 info_pair rfl (by decide) hown5 [.int .i64 (i : Int), .int .i64 (j : Int)] rfl (by simp [Value.oneCell']) n63 n47 hbase5 rfl rfl rfl rfl ?_; intro v7 w7 hr7 hg7 hv7 hb7) | fail)
              have HP := Lib.hid (And.intro hr7 (And.intro (HC.out.1.trans hb7) (HC.out.2.grown hg7 (fun e => hne e.symm))))
              clear hr7 hg7 hv7 hb7 hne
              go_roundw
              case rel =>
                obtain ⟨hhit, hsucc, hj, -, -, -⟩ := HR.out
                refine ⟨m + 1, by omega, by rw [hj]; go_num, HP.out.2.1, ?_, HP.out.2.2⟩
                rw [hsucc, hhit, hrr]
                have := HP.out.1
                simpa [Sp.prcs_append, Sp.prcs, Sp.prc, Nat.add_assoc] using this
              case measure => simp [intOf]; omega
        · have hmN : m = N - (i + 1) := by omega
          have HC := Lib.hid (And.intro hbk hownk)
          have HJ := Lib.hid hmN
          clear hbk hownk hBq hmN
          go_wp2_with fail
          go_roundw
          case rel => exact ⟨i + 1, by omega, by go_num, HC.out.1, by rw [Rc.racesK_succ, ← HN.out, ← HJ.out]; exact HC.out.2⟩
          case measure => simp [intOf]; omega
    · obtain rfl : i = N := by omega
      have HC := Lib.hid (And.intro (below_self hbE hb) (own_base hown (Nat.le_trans hbE.size (Nat.le_refl _))))
      obtain ⟨Ao, co, rfl, -, -⟩ := own_slice hown
      clear hown hb hbE
      go_wp2_with fail
      go_ret
      have e : Rc.races t = Rc.racesK t i := by
        rw [HN.out]
        rfl
      refine ⟨_, rfl, ?_, HC.out.1⟩
      rw [e]
      exact HC.out.2
end Go.Proofs.Ytcoijmnnnfogdaa


namespace Go.Proofs.Ytcoijmnnnfogdaa
set_option linter.unusedVariables false
set_option linter.unusedSimpArgs false
set_option maxRecDepth 100000
open Go.RowKit

theorem info_rc : (Try.prog.info? 3).map (fun i => (i.zero, i.size, i.bytes)) = some (some (.int .i64 0), 1, 8) := by kernel_rfl

/-- what right answers -/
def RtPost (t : Sp.T) (zs : List Int) (w : World) : Ending → World → Prop := fun e w' => ∃ b : Bool, e = .returned (.bool b) ∧ (b = true ↔ Rc.RightI t zs) ∧ Below w.heap.size w w'
theorem RtPost.no {t : Sp.T} {zs : List Int} {w w' : World} {e : Ending} (he : e = .returned (.bool false)) (h : ¬ Rc.RightI t zs) (hb : Below w.heap.size w w') : RtPost t zs w e w' := ⟨false, he, ⟨fun h => (by cases h), fun h' => absurd h' h⟩, hb⟩
theorem RtPost.yes {t : Sp.T} {zs : List Int} {w w' : World} {e : Ending} (he : e = .returned (.bool true)) (h : Rc.RightI t zs) (hb : Below w.heap.size w w') : RtPost t zs w e w' := ⟨true, he, ⟨fun _ => h, fun _ => rfl⟩, hb⟩

set_option maxHeartbeats 4000000 in
theorem race_right (t : Sp.T) (zs : List Int) (w : World) (cs : List Value) (v : Value) (hT : TmR w.heap.size w cs t) (hn : t.size ≤ 1048576) (hz : SlV w 1 v zs.length (ints .i64 zs)) :
    Calls Try.prog 27 #[.agg cs.toArray, v] w (RtPost t zs w) := by
  obtain ⟨a0, a1, a2, a3, A4, a5, a6, rfl, -, -⟩ := hT.form
  have x0 := Blk.new w 26 [.int .i64 a0, .int .i64 a1, .bool a2, .int .i64 a3, .slice A4 a5 a6]
  unfold tcells at hT ⊢
  have hb0 : Below w.heap.size w (w.alloc (.cells [Value.int .i64 a0, .int .i64 a1, .bool a2, .int .i64 a3, .slice A4 a5 a6].toArray 26)) := below_alloc (Below.refl _ _) _
  obtain ⟨PZ, cZ, rfl, hleZ, hmZ, hlZ, hcZ⟩ := hz
  have hsl : SlV w 1 (.slice PZ zs.length cZ) zs.length (ints .i64 zs) := ⟨PZ, cZ, rfl, hleZ, hmZ, hlZ, hcZ⟩
  have hsl0 := hsl.below hb0
  unfold maxLen at hmZ
  clear hlZ hcZ hsl
  go_enter Try.func27, Try.ntmps27
  go_wp2_with fail
  have hT0 := tm_up (hT.later hb0) hb0.size
  refine (marks_any _ _ t hT0 (by omega)).mono ?_
  rintro e w1 ⟨pm, rfl, hrow, hh, hb1⟩
  have hsl1 := hsl0.below hb1
  have hbw := below_next hb1 hb0
  have hM := SlV.of_blk hrow (sz := 2) (n := t.size) (by rw [Sp.prcs_length, t.marks_length]) (by omega)
  have hhl := hrow.lt
  have hcell : ∀ i, i < t.size → w1.cell? ⟨pm, i * 2, none⟩ = some (.int .i64 (i : Int)) ∧ w1.cell? ⟨pm, i * 2 + 1, none⟩ = some (.int .i64 (t.rk i : Int)) := fun i hi => by
    have := Sp.prcs_get _ i _ (t.marks_get 0 0 i hi)
    rw [hrow.cell, hrow.cell, this.1, this.2]
    simp
  clear hb0 hT0 x0 hT hb1 hsl0 hrow hM
  obtain ⟨N, hN⟩ : ∃ N, N = t.size := ⟨_, rfl⟩
  rw [← hN] at hn hcell ⊢
  have HN := Lib.hid hN
  have HC := Lib.hid hcell
  clear hN hcell
  obtain ⟨L, hL⟩ : ∃ L, L = zs.length := ⟨_, rfl⟩
  rw [← hL] at hsl1 hleZ ⊢
  have HL := Lib.hid hL
  clear hL
  rcases hne : ((L : Int) != (N : Int)) with _ | _
  rotate_left
  · go_wp2_with (at_make; refine wp_make_flat w1 33 3 (.int .i64 0) (.int .i64 0) 1 8 N Try.underlying33 info_rc rfl (by decide) rfl rfl (by omega) (by omega) rfl rfl rfl rfl ?_; intro w2 hB2 hb2 hs2)
    go_ret
    refine RtPost.no rfl (fun h => ?_) (below_self hbw hb2)
    have h1 := h.len
    have h2 : (L : Int) ≠ N := by simpa using hne
    rw [HN.out, HL.out] at h2
    omega
  have hLN : L = N := by have : (L : Int) = N := by simpa using hne
                         omega
  go_wp2_with (at_make; refine wp_make_flat w1 33 3 (.int .i64 0) (.int .i64 0) 1 8 N Try.underlying33 info_rc rfl (by decide) rfl rfl (by omega) (by omega) rfl rfl rfl rfl ?_; intro w2 hB2 hb2 hs2)
  rw [Nat.mul_one, ← Rc.atL_nil] at hB2
  have hg2 := hB2.lt
  have hS1 := Lib.hid hsl1
  have HW := Lib.hid hbw
  clear hs2 hsl1 hne hbw
  subst hLN
  go_wp2_with fail
  go_loopw [25] (fun i wr => ∃ k : Nat, k ≤ L ∧ i = .int .i64 (k : Int) ∧ Below w1.heap.size w1 wr ∧ Blk wr w1.heap.size 3 (Rc.atL L (zs.take k)) ∧ Rc.Pre L (zs.take k)) (fun i _ => L - (intOf i).toNat)
  case atStart => exact ⟨0, Nat.zero_le _, rfl, hb2, hB2, Rc.Pre.nil _⟩
  case round =>
    clear hb2 hB2
    obtain ⟨k, hk, rfl, hb, hB, hp⟩ := hrel
    by_cases hlt : k < L
    · obtain ⟨z, hzk⟩ : ∃ z, zs[k]? = some z := ⟨_, List.getElem?_eq_getElem (by rw [← HL.out]; exact hlt)⟩
      have htk : zs.take (k + 1) = zs.take k ++ [z] := by
        obtain ⟨h', rfl⟩ := List.getElem?_eq_some_iff.1 hzk
        exact List.take_succ_eq_append_getElem h'
      have hno : ¬ Rc.Pre L (zs.take k ++ [z]) → ¬ Rc.RightI t zs := fun h1 h2 => h1 (by
        rw [← htk]
        have := h2.pre
        rw [← List.take_append_drop (k + 1) zs, ← HN.out] at this
        exact this.head)
      obtain ⟨_, _, e5, -, -, -, hcc⟩ := hS1.out.below hb
      injection e5 with e5 _ e6
      subst e5 e6
      have gz : (ints .i64 zs)[k]? = some (.int .i64 z) := by
        unfold ints
        rw [List.getElem?_map, hzk]
        rfl
      obtain ⟨b, o, rfl, hbl, hcc⟩ := hcc.at_ (fun e => by rw [e] at gz; simp at gz)
      have c1 := hcc _ _ gz
      have hlen : (zs.take k).length = k := by rw [List.length_take, ← HL.out]; omega
      have HK := Lib.hid (And.intro htk (And.intro hno (And.intro hb (And.intro hB (And.intro hp hlen)))))
      clear hzk htk hno hcc gz hb hp hlen
      by_cases h1 : z < 0
      · have g1 : decide (z < 0) = true := by simpa using h1
        clear hB
        go_wp2_with fail
        go_ret
        refine RtPost.no rfl (fun h => ?_) (below_self HW.out HK.out.2.2.1)
        exact absurd h (HK.out.2.1 fun hp => by have := hp.last; omega)
      obtain ⟨n, rfl⟩ := Int.eq_ofNat_of_zero_le (show 0 ≤ z by omega)
      have g1 : decide ((n : Int) < 0) = false := by simp
      by_cases h2 : L ≤ n
      · have g2 : decide (L ≤ n) = true := by simpa using h2
        clear hB
        go_wp2_with fail
        go_ret
        refine RtPost.no rfl (fun h => ?_) (below_self HW.out HK.out.2.2.1)
        exact absurd h (HK.out.2.1 fun hp => by have := hp.last; omega)
      have g2 : decide (L ≤ n) = false := by simpa using h2
      have hnl : n < L := by omega
      have ca := hB.cell n
      rw [Rc.atL_get hnl] at ca
      have hap := Rc.atf_pos (pre := zs.take k) (n := n)
      have hal := Rc.atf_le (zs.take k) n
      obtain ⟨A, hA⟩ : ∃ A, A = Rc.atf (zs.take k) n := ⟨_, rfl⟩
      rw [← hA] at ca hap hal
      clear hA
      by_cases h3 : 0 < A
      · have g3 : decide (0 < A) = true := by simpa using h3
        have hmem := hap.1 h3
        clear hB hap hal
        go_wp2_with fail
        go_ret
        refine RtPost.no rfl (fun h => ?_) (below_self HW.out HK.out.2.2.1)
        exact absurd h (HK.out.2.1 fun hp => hp.last.2.2 hmem)
      have g3 : decide (0 < A) = false := by simpa using h3
      have hmem : (n : Int) ∉ zs.take k := fun h => h3 (hap.2 h)
      have HM := Lib.hid hmem
      clear hap hal h1 h2 h3 hmem
      go_wp2_with (refine wpl_set_blk hB n (.int .i64 ((k : Int) + 1)) (by kernel_rfl) (by rw [Rc.atL_length]; exact hnl) rfl rfl rfl rfl rfl rfl ?_; intro w4 hB4 hg4)
      go_roundw
      case rel =>
        obtain ⟨htk, hno, hb, -, hp, hlen⟩ := HK.out
        refine ⟨k + 1, by omega, by go_num, hb.trans (below_of_grown hg4 hb.size (Nat.le_refl _)), ?_, ?_⟩
        · rw [htk, ← Rc.atL_set hnl HM.out, hlen]
          exact hB4
        · rw [htk]
          exact hp.snoc hnl HM.out
      case measure => simp [intOf]; omega
    · obtain rfl : L = k := by omega
      have htk : zs.take L = zs := List.take_of_length_le (by rw [← HL.out]; exact Nat.le_refl _)
      rw [htk] at hB hp
      have HP := Lib.hid hp
      have HB0 := Lib.hid hb
      clear htk hp hb
      go_wp2_with fail
      obtain ⟨W1, hW1⟩ : ∃ W1, W1 = wr := ⟨_, rfl⟩
      subst hW1
      go_loopw [53] (fun i wr' => ∃ k : Nat, k ≤ L ∧ i = .int .i64 (k : Int) ∧ Below W1.heap.size W1 wr' ∧ ∀ a b, a < k → a < b → b < L → Rc.Ups t zs a b) (fun i _ => L - (intOf i).toNat)
      case atStart => exact ⟨0, Nat.zero_le _, rfl, Below.refl _ _, fun a b h => absurd h (Nat.not_lt_zero _)⟩
      case round =>
        obtain ⟨i, hi, rfl, hb, hu⟩ := hrel
        obtain ⟨W0, hW0⟩ : ∃ W0, W0 = wr := ⟨_, rfl⟩
        subst hW0
        by_cases hli : i < L
        · obtain ⟨m1, m2⟩ := HC.out i hli
          have hb01 := below_next hb HB0.out
          have c1 := (hb01.cell (p := ⟨pm, i * 2, none⟩) hhl).trans m1
          have c2 := (hb01.cell (p := ⟨pm, i * 2 + 1, none⟩) hhl).trans m2
          have hB1 : Blk (W0.alloc (.cells #[.int .i64 (i : Int), .int .i64 (t.rk i : Int)] 46)) W0.heap.size 46 [.int .i64 (i : Int), .int .i64 (t.rk i : Int)] := Blk.new _ _ _
          have hbA : Below W1.heap.size W1 (W0.alloc (.cells #[.int .i64 (i : Int), .int .i64 (t.rk i : Int)] 46)) := below_alloc hb _
          obtain ⟨ri, hri⟩ : ∃ r, r = t.rk i := ⟨_, rfl⟩
          rw [← hri] at c2 hB1 hbA
          have HU := Lib.hid (And.intro hu hri)
          have b1 : (i : Int) + 1 ≤ L := by omega
          have b2 : 0 ≤ (i : Int) + 1 := by omega
          have b3 : ((i : Int) + 1).toNat = i + 1 := by omega
          clear m1 m2 hu hri hb hb01
          by_cases hlast : L = i + 1
          · have g1 : (L : Int) - ((i : Int) + 1) = 0 := by omega
            go_wp2_with fail
            go_loopw [63] (fun j wr' => j = .int .i64 0 ∧ Below W1.heap.size W1 wr') (fun j _ => 0)
            case atStart => exact ⟨rfl, hbA⟩
            case round =>
              obtain ⟨rfl, hbk⟩ := hrel
              have HX := Lib.hid hbk
              clear hB c1 c2 hB1 hbk hbA
              go_wp2_with fail
              go_roundw
              case rel => exact ⟨i + 1, by omega, by go_num, HX.out, fun a b h1 h2 h3 => HU.out.1 a b (by omega) h2 h3⟩
              case measure => simp [intOf]; omega
          · have b4 : i + 1 < L := by omega
            go_wp2_with fail
            go_loopw [63] (fun j wr' => ∃ m : Nat, m + (i + 1) ≤ L ∧ j = .int .i64 (m : Int) ∧ Below W1.heap.size W1 wr' ∧ Blk wr' W0.heap.size 46 [.int .i64 (i : Int), .int .i64 (ri : Int)] ∧ ∀ b, i < b → b < i + 1 + m → Rc.Ups t zs i b) (fun j _ => L - (intOf j).toNat)
            case atStart => exact ⟨0, by omega, rfl, hbA, hB1, fun b h1 h2 => by omega⟩
            case round =>
              clear hbA hB1 c1 c2
              obtain ⟨m, hm, rfl, hbk, hBq, hv⟩ := hrel
              have HV := Lib.hid hv
              clear hv
              have hb1k := below_next hbk HB0.out
              by_cases hml : i + 1 + m < L
              · obtain ⟨m1, m2⟩ := HC.out (i + 1 + m) hml
                have c1 := (hb1k.cell (p := ⟨pm, (i + 1 + m) * 2, none⟩) hhl).trans m1
                have c2 := (hb1k.cell (p := ⟨pm, (i + 1 + m) * 2 + 1, none⟩) hhl).trans m2
                rw [show (i + 1 + m) * 2 = (i + 1) * 2 + m * 2 by omega] at c1 c2
                obtain ⟨J, hJ⟩ : ∃ J : Int, J = ((i + 1 + m : Nat) : Int) := ⟨_, rfl⟩
                obtain ⟨rj, hrj⟩ : ∃ r, r = t.rk (i + 1 + m) := ⟨_, rfl⟩
                rw [← hJ] at c1
                rw [← hrj] at c2
                have a1 := hB.cell i
                have a2 := hB.cell (i + 1 + m)
                rw [Rc.atL_get (by omega)] at a1
                rw [Rc.atL_get hml] at a2
                obtain ⟨A1, hA1⟩ : ∃ A, A = Rc.atf zs i := ⟨_, rfl⟩
                obtain ⟨A2, hA2⟩ : ∃ A, A = Rc.atf zs (i + 1 + m) := ⟨_, rfl⟩
                rw [← hA1] at a1
                rw [← hA2] at a2
                have hbW := hB.lt
                have hbkA : Below W1.heap.size W1 (wr.alloc (.cells #[.int .i64 J, .int .i64 (rj : Int)] 46)) := below_alloc hbk _
                have hA : Blk (wr.alloc (.cells #[.int .i64 J, .int .i64 (rj : Int)] 46)) wr.heap.size 46 [.int .i64 J, .int .i64 (rj : Int)] := Blk.new _ _ _
                have hBqA := hBq.alloc (.cells #[.int .i64 J, .int .i64 (rj : Int)] 46)
                have HF := Lib.hid (And.intro hrj (And.intro hA1 hA2))
                clear m1 m2 hJ hrj hA1 hA2 hb1k hbk hBq
                go_wp2_with fail
                generalize (wr.alloc (.cells #[.int .i64 J, .int .i64 (rj : Int)] 46)) = WA at hbkA hA hBqA ⊢
                have q1 := hA.cell 1
                have q2 := hBqA.cell 1
                have q3 := (hbkA.cell (p := ⟨w1.heap.size, i, none⟩) hbW).trans a1
                have q4 := (hbkA.cell (p := ⟨w1.heap.size, i + 1 + m, none⟩) hbW).trans a2
                simp only [List.getElem?_cons_zero, List.getElem?_cons_succ] at q1 q2
                clear c1 c2 a1 a2 hA
                have HX := Lib.hid (And.intro hbkA hBqA)
                clear hbkA hBqA
                rcases hrr : decide (ri < rj) with _ | _
                · go_quiet (fail)
                  go_wp2_with fail
                  go_roundw
                  case rel => exact ⟨m + 1, by omega, by go_num, below_drewN HX.out.1 _, HX.out.2.below (below_drewN (Below.refl _ _) _), fun b h1 h2 => by
                    by_cases e : b = i + 1 + m
                    · subst e
                      intro hr
                      rw [← HU.out.2, ← HF.out.1] at hr
                      exact absurd hr (of_decide_eq_false hrr)
                    · exact HV.out b h1 (by omega)⟩
                  case measure => simp [intOf]; omega
                rcases haa : decide (A2 < A1) with _ | _
                · go_quiet (fail)
                  go_wp2_with fail
                  go_roundw
                  case rel => exact ⟨m + 1, by omega, by go_num, below_drewN HX.out.1 _, HX.out.2.below (below_drewN (Below.refl _ _) _), fun b h1 h2 => by
                    by_cases e : b = i + 1 + m
                    · subst e
                      intro _
                      rw [← HF.out.2.1, ← HF.out.2.2]
                      exact of_decide_eq_false haa
                    · exact HV.out b h1 (by omega)⟩
                  case measure => simp [intOf]; omega
                · go_quiet (fail)
                  go_wp2_with fail
                  go_ret
                  refine RtPost.no rfl (fun h => ?_) (below_self (below_self HW.out HB0.out) (below_drewN HX.out.1 _))
                  have hup := h.ups (i := i) (j := i + 1 + m) (by omega) (by rw [← HN.out]; exact hml)
                  unfold Rc.Ups at hup
                  rw [← HU.out.2, ← HF.out.1, ← HF.out.2.1, ← HF.out.2.2] at hup
                  exact hup (of_decide_eq_true hrr) (of_decide_eq_true haa)
              · obtain hmL : m = L - (i + 1) := by omega
                have HX := Lib.hid (And.intro hbk hmL)
                clear hB hbk hBq hb1k hmL
                go_wp2_with fail
                go_roundw
                case rel => exact ⟨i + 1, by omega, by go_num, HX.out.1, fun a b h1 h2 h3 => by
                  by_cases e : a = i
                  · subst e
                    exact HV.out b h2 (by have := HX.out.2; omega)
                  · exact HU.out.1 a b (by omega) h2 h3⟩
                case measure => simp [intOf]; omega
        · obtain rfl : L = i := by omega
          have hbF := below_self (below_self HW.out HB0.out) hb
          have HX := Lib.hid (And.intro hu hbF)
          clear hB hb hu hbF
          go_wp2_with fail
          go_ret
          refine RtPost.yes rfl (Rc.rightI_of (by rw [← HL.out, ← HN.out]) (by rw [← HN.out]; exact HP.out) fun a b h1 h2 => ?_) HX.out.2
          rw [← HN.out] at h2
          exact HX.out.1 a b (by omega) h1 h2
end Go.Proofs.Ytcoijmnnnfogdaa


namespace Go.Proofs.Ytcoijmnnnfogdaa
set_option linter.unusedVariables false
set_option linter.unusedSimpArgs false
set_option maxRecDepth 100000
open Go.RowKit

theorem insert_one (A : Option Addr) (c : Nat) (f : Value) (w : World) :
    Calls Try.prog 62 #[.slice A 1 c, .int .i64 0, .int .i64 1, f] w fun e w' => e = .returned (.tuple #[]) ∧ w' = w := by
  go_enter Try.func62, Try.ntmps62
  go_wp2
  go_loopw [8] (fun i wr => i = .int .i64 1 ∧ wr = w) (fun _ _ => 0)
  case atStart => exact ⟨rfl, rfl⟩
  case round =>
    obtain ⟨rfl, rfl⟩ := hrel
    go_wp2
    go_end0
    first | trivial | exact ⟨rfl, rfl⟩
theorem pdq_one (A : Option Addr) (c : Nat) (f : Value) (l : Int) (w : World) :
    Calls Try.prog 48 #[.slice A 1 c, .int .i64 0, .int .i64 1, .int .i64 l, f] w fun e w' => e = .returned (.tuple #[]) ∧ w' = w := by
  go_enter Try.func48, Try.ntmps48
  go_wp2
  go_loopw [1, 2] (fun i b wr => i = .int .i64 0 ∧ b = .int .i64 1 ∧ wr = w) (fun _ _ _ => 0)
  case atStart => exact ⟨rfl, rfl, rfl⟩
  case round =>
    obtain ⟨rfl, rfl, rfl⟩ := hrel
    go_wp2_with fail
    refine (insert_one _ _ _ _).mono ?_
    rintro e w1 ⟨rfl, rfl⟩
    go_wp2_with fail
    refine bodyPost_ret (results_none rfl _ _ _) rfl ?_
    first | trivial | exact ⟨rfl, rfl⟩
theorem sortf_one (A : Option Addr) (c : Nat) (f : Value) (w : World) :
    Calls Try.prog 41 #[.slice A 1 c, f] w fun e w' => e = .returned (.tuple #[]) ∧ w' = w := by
  go_enter Try.func41, Try.ntmps41
  go_wp2_with fail
  refine (Try.bits_Len 1 w (by decide) (by decide)).mono ?_
  rintro e w1 ⟨rfl, rfl⟩
  go_wp2_with fail
  refine (pdq_one _ _ _ _ _).mono ?_
  rintro e w2 ⟨rfl, rfl⟩
  go_wp2_with fail
  go_end0
  first | trivial | exact ⟨rfl, rfl⟩
theorem compact_pair1 (A : Option Addr) (c : Nat) (w : World) :
    Calls Try.prog 43 #[.slice A 1 c] w fun e w' => e = .returned (.slice A 1 c) ∧ w' = w := by
  go_enter Try.func43, Try.ntmps43
  go_wp2
  go_ret
  exact ⟨rfl, rfl⟩

set_option maxHeartbeats 4000000 in
theorem race_labels1 (t : Sp.T) (w : World) (cs : List Value) (hT : TmR w.heap.size w cs t) (hn : t.size ≤ 1048576) (hone : (Rc.races t).length = 1) :
    Calls Try.prog 31 #[.agg cs.toArray] w fun e w' => (∃ (A : Option Addr) (c : Nat), e = .returned (.slice A 1 c)) ∧ Below w.heap.size w w' := by
  obtain ⟨a0, a1, a2, a3, A4, a5, a6, rfl, -, -⟩ := hT.form
  have x0 := Blk.new w 26 [.int .i64 a0, .int .i64 a1, .bool a2, .int .i64 a3, .slice A4 a5 a6]
  unfold tcells at hT ⊢
  have hb0 : Below w.heap.size w (w.alloc (.cells [Value.int .i64 a0, .int .i64 a1, .bool a2, .int .i64 a3, .slice A4 a5 a6].toArray 26)) := below_alloc (Below.refl _ _) _
  go_enter Try.func31, Try.ntmps31
  go_wp2_with fail
  obtain ⟨q, hq⟩ : ∃ q, q = w.heap.size := ⟨_, rfl⟩
  have hT0 := tm_up (hT.later hb0) hb0.size
  generalize (w.alloc (.cells [Value.int .i64 a0, .int .i64 a1, .bool a2, .int .i64 a3, .slice A4 a5 a6].toArray 26)) = W0 at x0 hb0 hT0 ⊢
  rw [← hq] at x0 ⊢
  refine (leaves_any W0 _ t hT0 (by omega)).mono ?_
  rintro e w1 ⟨v1, rfl, ⟨PL, cL, rfl, hleL, hmL, -, hL⟩, hb1⟩
  have hX := Boxed.of (x0.below hb1) (hT0.later hb1) hb1.size
  have hbw := below_next hb1 hb0
  obtain ⟨⟨c0, c1, c2, c3, c4⟩, hT1⟩ := hX.look _ (Below.refl _ _)
  have gR := race_races t w1 _ hT1 hn
  rw [hone] at gR
  unfold maxLen at hmL
  clear x0 hb0 hT0 hb1 hq hT hT1 hX
  obtain ⟨N, hN⟩ : ∃ N, N = t.size := ⟨_, rfl⟩
  rw [← hN] at hleL hn ⊢
  have HN := Lib.hid hN
  clear hN
  go_wp2_with fail
  refine gR.mono ?_
  rintro e w2 ⟨u, rfl, hu, hb2⟩
  obtain ⟨AR, cR, rfl, hcR, hmR⟩ := own_slice hu
  have hus := SlV.of_own hu
  unfold maxLen at hmR
  have hbE := below_self hbw hb2
  clear gR c0 c1 c2 c3 c4 hu hbw
  go_wp2_with fail
  go_loopw [4, 14] (fun out i wr => ∃ k : Nat, k ≤ 1 ∧ i = .int .i64 (k : Int) ∧ Below w2.heap.size w2 wr ∧ ∃ cs, cs.length = k * 2 ∧ wr.ownsRow w2.heap.size 46 2 out k cs) (fun _ i _ => 1 - (intOf i).toNat)
  case atStart => exact ⟨0, Nat.zero_le _, rfl, Below.refl _ _, [], rfl, World.ownsRow_nil _ _ _ _⟩
  case round =>
    obtain ⟨k, hk, rfl, hb, ds, hdl, hown⟩ := hrel
    by_cases hlt : k < 1
    · obtain rfl : k = 0 := by omega
      obtain ⟨p, hp⟩ : ∃ p, (Rc.races t)[0]? = some p := ⟨_, List.getElem?_eq_getElem (by omega)⟩
      have hm := Rc.races_mem.1 (List.mem_of_getElem? hp)
      obtain ⟨g1, g2⟩ := Sp.prcs_get _ _ _ hp
      obtain ⟨_, _, e5, -, -, -, hcc⟩ := hus.below hb
      injection e5 with e5 _ e6
      subst e5 e6
      obtain ⟨bR, oR, rfl, hbR, hcR'⟩ := hcc.at_ (fun e => by rw [e] at g1; simp at g1)
      have c1 := hcR' _ _ g1
      have c2 := hcR' _ _ g2
      simp only [Nat.zero_mul, Nat.add_zero, Nat.zero_add] at c1 c2
      obtain ⟨a, b⟩ := p
      dsimp only at hm c1 c2
      have haN : a < N := by rw [HN.out]; omega
      have hbN : b < N := by rw [HN.out]; omega
      obtain ⟨y1, -, y3⟩ := Sp.acccs_get _ _ _ (Rc.acc_get (t := t) (n := a) (by rw [← HN.out]; exact haN))
      obtain ⟨-, -, z3⟩ := Sp.acccs_get _ _ _ (Rc.acc_get (t := t) (n := b) (by rw [← HN.out]; exact hbN))
      obtain ⟨bL, oL, rfl, hbL, hcL⟩ := hL.at_ (fun e => by rw [e] at y1; simp at y1)
      have hb12 := below_self hb2 hb
      obtain ⟨lA, hlA⟩ : ∃ C, C = (Rc.acc t a).2.2 := ⟨_, rfl⟩
      obtain ⟨lB, hlB⟩ : ∃ C, C = (Rc.acc t b).2.2 := ⟨_, rfl⟩
      rw [← hlA] at y3
      rw [← hlB] at z3
      have c3 := (hb12.cell hbL).trans (hcL _ _ y3)
      have c4 := (hb12.cell hbL).trans (hcL _ _ z3)
      rw [← Nat.add_assoc] at c3 c4
      have hbL' := Nat.lt_of_lt_of_le hbL hb12.size
      have hbA : Below w2.heap.size w2 (wr.alloc (.cells #[.int .i64 (a : Int), .int .i64 (b : Int)] 46)) := below_alloc hb _
      have hA : Blk (wr.alloc (.cells #[.int .i64 (a : Int), .int .i64 (b : Int)] 46)) wr.heap.size 46 [.int .i64 (a : Int), .int .i64 (b : Int)] := Blk.new _ _ _
      have hoA := hown.alloc (.cells #[.int .i64 (a : Int), .int .i64 (b : Int)] 46)
      have f3 : (wr.alloc (.cells #[.int .i64 (a : Int), .int .i64 (b : Int)] 46)).cell? ⟨bL, oL + a * 3 + 2, none⟩ = some (.int .i64 lA) := (World.cell?_alloc_lt wr _ _ hbL').trans c3
      have f4 : (wr.alloc (.cells #[.int .i64 (a : Int), .int .i64 (b : Int)] 46)).cell? ⟨bL, oL + b * 3 + 2, none⟩ = some (.int .i64 lB) := (World.cell?_alloc_lt wr _ _ hbL').trans c4
      clear hp hm g1 g2 hcc hcR' y1 y3 z3 hcL hlA hlB hb hown hb12
      go_wp2_with fail
      generalize (wr.alloc (.cells #[.int .i64 (a : Int), .int .i64 (b : Int)] 46)) = WA at hbA hA hoA f3 f4 ⊢
      have q0 := hA.cell 0
      have q1 := hA.cell 1
      simp only [List.getElem?_cons_zero, List.getElem?_cons_succ] at q0 q1
      clear c1 c2 c3 c4 hA
      have HB := Lib.hid (And.intro hbA hoA)
      clear hbA hoA
      have HM := Lib.hid (show 0 + 1 ≤ maxLen ∧ (0 + 1) * 16 ≤ 140737488355328 by unfold maxLen; omega)
      go_quiet (fail)
      have hoQ := own_keeps HB.out.2 (Keeps.of_below (below_drewN (Below.refl _ _) nq) (fun _ => False)) (fun _ _ => id)
      have hbQ := below_drewN HB.out.1 nq
      have hszQ := hbQ.size
      go_wp2_with (first
        | (at_builtin; refine wp_push_at _ _ _ _ (by first | rfl | simp) _ _ _ _ _ _ Try.underlying38 info_pair rfl (by decide) hoQ [.int .i64 (min lA lB), .int .i64 (max lA lB)] rfl (by simp [Value.oneCell']) HM.out.1 HM.out.2 hszQ rfl rfl rfl rfl ?_; intro v7 w7 hr7 hg7 hv7 hb7)
        | fail)
      have HZ := Lib.hid (And.intro hr7 (hbQ.trans hb7))
      clear hr7 hg7 hv7 hb7
      go_roundw
      case rel => exact ⟨1, Nat.le_refl _, by go_num, HZ.out.2, _, by simp [hdl], HZ.out.1⟩
      case measure => simp [intOf]
    · obtain rfl : k = 1 := by omega
      have hbF := below_self hbE hb
      obtain ⟨Ao, co, rfl, -, -⟩ := own_slice hown
      clear hown hb hus hL hbE hb2
      go_wp2_with fail
      refine (sortf_one _ _ _ _).mono ?_
      rintro e w3 ⟨rfl, rfl⟩
      go_wp2_with fail
      refine (compact_pair1 _ _ _).mono ?_
      rintro e w4 ⟨rfl, rfl⟩
      go_wp2_with fail
      go_ret
      exact ⟨⟨_, _, rfl⟩, hbF⟩
end Go.Proofs.Ytcoijmnnnfogdaa


namespace Go.Proofs.Ytcoijmnnnfogdaa
set_option linter.unusedVariables false
set_option linter.unusedSimpArgs false
set_option maxRecDepth 100000
open Go.RowKit Go.Sort

def srt (zs : List Int) : List Int := zs.mergeSort fun x y => decide (x ≤ y)
theorem srt_length (zs : List Int) : (srt zs).length = zs.length := (List.mergeSort_perm zs _).length_eq
theorem srt_perm {a b : List Int} (h : a.Perm b) : srt a = srt b := Go.mergeSort_of_perm_i h

theorem sort_own (v : Value) (zs : List Int) (w : World) (B : Nat) (h : w.ownsRow B 3 1 v zs.length (ints .i64 zs)) (hz : zs.length < 4611686018427387904) :
    Calls Try.prog 35 #[v] w fun e w' => e = .returned (.tuple #[]) ∧ w'.ownsRow B 3 1 v zs.length (ints .i64 (srt zs)) ∧ w.grownBy w' v.ownBlock := by
  rcases h.2 with ⟨rfl, h0⟩ | ⟨g, cap, cur, rfl, hB, hg, hle, hm, hsz, ht⟩
  · have hz0 : zs.length = 0 := h0
    rw [hz0]
    refine (Try.slices_Sort_int_none none 0 w).mono ?_
    rintro e w' ⟨rfl, rfl⟩
    have : zs = [] := List.eq_nil_of_length_eq_zero hz0
    subst this
    exact ⟨rfl, by simpa [srt] using h, World.grownBy.refl _ _⟩
  · have ht' : cur.toList.take zs.length = zs.map (Value.int .i64) := by simpa [ints] using ht
    have hgl : g < w.heap.size := (Array.getElem?_eq_some_iff.1 hg).1
    refine (Try.slices_Sort_int g 0 cap zs w (holds_of_blockI hg ht') hgl hz).mono ?_
    rintro e w' ⟨rfl, n, os, rfl⟩
    refine ⟨rfl, ?_, grownBy_sortedI _⟩
    have := ownsRow_sortedI (base := B) (n := n) (os := os) (ss := zs) (ts := srt zs) (srt_length zs) hB hg hle hm (by simpa using hsz)
    unfold srt at this ⊢
    simpa [ints] using this
end Go.Proofs.Ytcoijmnnnfogdaa


namespace Go.Proofs.Ytcoijmnnnfogdaa
set_option linter.unusedVariables false
set_option linter.unusedSimpArgs false
set_option maxRecDepth 100000
open Go.RowKit Go.Sort

theorem compact_le (zs : List Int) : (Lib.compact zs).length ≤ zs.length := by
  unfold Lib.compact Lib.compactUpTo
  rw [List.length_map]
  exact Nat.le_trans (List.length_filter_le _ _) (by simp)

theorem compact_own (v : Value) (zs : List Int) (w : World) (B : Nat) (h : w.ownsRow B 3 1 v zs.length (ints .i64 zs)) (hz : zs.length < 4611686018427387904) :
    Calls Try.prog 36 #[v] w fun e w' => ∃ u, e = .returned u ∧ w'.ownsRow B 3 1 u (Lib.compact zs).length (ints .i64 (Lib.compact zs)) ∧ w.grownBy w' v.ownBlock := by
  rcases h.2 with ⟨rfl, h0⟩ | ⟨g, cap, cur, rfl, hB, hg, hle, hm, hsz, ht⟩
  · have hz0 : zs.length = 0 := h0
    refine (Try.slices_Compact_int_empty none 0 w).mono ?_
    rintro e w' ⟨rfl, rfl⟩
    have : zs = [] := List.eq_nil_of_length_eq_zero hz0
    subst this
    exact ⟨_, rfl, by simpa [Lib.compact, Lib.compactUpTo] using h, World.grownBy.refl _ _⟩
  · have ht' : cur.toList.take zs.length = zs.map (Value.int .i64) := by simpa [ints] using ht
    have hgl : g < w.heap.size := (Array.getElem?_eq_some_iff.1 hg).1
    refine (Try.slices_Compact_int g 0 cap zs w (holds_of_blockI hg ht') (by omega) hle).mono ?_
    rintro e w' ⟨rfl, n, rfl⟩
    have hcl := compact_le zs
    have hl : (Lib.compact zs ++ List.replicate (zs.length - (Lib.compact zs).length) 0).length = zs.length := by
      rw [List.length_append, List.length_replicate]
      omega
    have hgrow : ∀ W : World, grow W #[] = W := fun W => by simp [grow]
    have hrow := ownsRow_sortedI (base := B) (n := n) (os := #[]) (ss := zs) (ts := Lib.compact zs ++ List.replicate (zs.length - (Lib.compact zs).length) 0) hl hB hg hle hm (by simpa using hsz)
    have hgr := grownBy_sortedI (w := w) (g := g) (n := n) (os := #[]) (Lib.compact zs ++ List.replicate (zs.length - (Lib.compact zs).length) 0).toArray
    rw [hgrow] at hrow hgr
    refine ⟨_, rfl, ?_, hgr⟩
    rcases hrow.2 with ⟨h1, -⟩ | ⟨g', cap', cur', e1, hB', hg', hle', hm', hsz', ht2⟩
    · simp at h1
    · injection e1 with e1 _ e2
      injection e1 with e1
      injection e1 with e1
      subst e1 e2
      refine ⟨by simp [ints], .inr ⟨g, cap, cur', rfl, hB', hg', by omega, hm', hsz', ?_⟩⟩
      have := congrArg (List.take (Lib.compact zs).length) ht2
      rw [List.take_take] at this
      have e3 : min (Lib.compact zs).length (zs.length * 1) = (Lib.compact zs).length * 1 := by omega
      rw [e3] at this
      rw [this]
      simp [ints]
end Go.Proofs.Ytcoijmnnnfogdaa


namespace Go.Proofs.Ytcoijmnnnfogdaa
set_option linter.unusedVariables false
set_option linter.unusedSimpArgs false
set_option maxRecDepth 100000
open Go.RowKit

/-- the cells of the first k races -/
def Rc.rcel (t : Sp.T) (k : Nat) : List Int := ((Rc.races t).take k).map fun p => (Rc.acc t p.1).1
def Rc.cellsL (t : Sp.T) : List Int := Lib.compact (srt (Rc.rcel t (Rc.races t).length))
theorem Rc.rcel_len {t : Sp.T} {k : Nat} (h : k ≤ (Rc.races t).length) : (Rc.rcel t k).length = k := by
  unfold Rc.rcel
  rw [List.length_map, List.length_take]
  omega
theorem Rc.rcel_succ {t : Sp.T} {k : Nat} {p : Nat × Nat} (h : (Rc.races t)[k]? = some p) : Rc.rcel t (k + 1) = Rc.rcel t k ++ [(Rc.acc t p.1).1] := by
  obtain ⟨h', rfl⟩ := List.getElem?_eq_some_iff.1 h
  unfold Rc.rcel
  rw [List.take_succ_eq_append_getElem h', List.map_append]
  rfl

set_option maxHeartbeats 4000000 in
theorem race_cells (t : Sp.T) (w : World) (cs : List Value) (hT : TmR w.heap.size w cs t) (hn : t.size ≤ 1048576) :
    Calls Try.prog 18 #[.agg cs.toArray] w fun e w' => ∃ u, e = .returned u ∧ SlV w' 1 u (Rc.cellsL t).length (ints .i64 (Rc.cellsL t)) ∧ Below w.heap.size w w' := by
  obtain ⟨a0, a1, a2, a3, A4, a5, a6, rfl, -, -⟩ := hT.form
  have x0 := Blk.new w 26 [.int .i64 a0, .int .i64 a1, .bool a2, .int .i64 a3, .slice A4 a5 a6]
  unfold tcells at hT ⊢
  have hb0 : Below w.heap.size w (w.alloc (.cells [Value.int .i64 a0, .int .i64 a1, .bool a2, .int .i64 a3, .slice A4 a5 a6].toArray 26)) := below_alloc (Below.refl _ _) _
  go_enter Try.func18, Try.ntmps18
  go_wp2_with fail
  obtain ⟨q, hq⟩ : ∃ q, q = w.heap.size := ⟨_, rfl⟩
  have hT0 := tm_up (hT.later hb0) hb0.size
  generalize (w.alloc (.cells [Value.int .i64 a0, .int .i64 a1, .bool a2, .int .i64 a3, .slice A4 a5 a6].toArray 26)) = W0 at x0 hb0 hT0 ⊢
  rw [← hq] at x0 ⊢
  refine (leaves_any W0 _ t hT0 (by omega)).mono ?_
  rintro e w1 ⟨v1, rfl, ⟨PL, cL, rfl, hleL, hmL, -, hL⟩, hb1⟩
  have hX := Boxed.of (x0.below hb1) (hT0.later hb1) hb1.size
  have hbw := below_next hb1 hb0
  obtain ⟨⟨c0, c1, c2, c3, c4⟩, hT1⟩ := hX.look _ (Below.refl _ _)
  have gR := race_races t w1 _ hT1 hn
  unfold maxLen at hmL
  clear x0 hb0 hT0 hb1 hq hT hT1 hX
  obtain ⟨N, hN⟩ : ∃ N, N = t.size := ⟨_, rfl⟩
  rw [← hN] at hleL hn ⊢
  have HN := Lib.hid hN
  clear hN
  go_wp2_with fail
  refine gR.mono ?_
  rintro e w2 ⟨u, rfl, hu, hb2⟩
  obtain ⟨AR, cR, rfl, hcR, hmR⟩ := own_slice hu
  have hus := SlV.of_own hu
  have hlen1 := Rc.racesK_len t t.size
  have hbig : (Rc.races t).length ≤ 1048576 * 1048576 := Nat.le_trans hlen1 (Nat.mul_le_mul (by rw [← HN.out]; exact hn) (by rw [← HN.out]; exact hn))
  obtain ⟨R, hR⟩ : ∃ R, R = (Rc.races t).length := ⟨_, rfl⟩
  rw [← hR] at hus hcR hbig ⊢
  have HR := Lib.hid hR
  unfold maxLen at hmR
  have hbE := below_self hbw hb2
  clear gR c0 c1 c2 c3 c4 hu hR hlen1 hbw
  go_wp2_with fail
  go_loopw [4, 12] (fun out i wr => ∃ k : Nat, k ≤ R ∧ i = .int .i64 (k : Int) ∧ Below w2.heap.size w2 wr ∧ wr.ownsRow w2.heap.size 3 1 out k (ints .i64 (Rc.rcel t k))) (fun _ i _ => R - (intOf i).toNat)
  case atStart => exact ⟨0, Nat.zero_le _, rfl, Below.refl _ _, World.ownsRow_nil _ _ _ _⟩
  case round =>
    obtain ⟨k, hk, rfl, hb, hown⟩ := hrel
    by_cases hlt : k < R
    · obtain ⟨p, hp⟩ : ∃ p, (Rc.races t)[k]? = some p := ⟨_, List.getElem?_eq_getElem (by rw [← HR.out]; exact hlt)⟩
      have hm := Rc.races_mem.1 (List.mem_of_getElem? hp)
      have hsc := Rc.rcel_succ hp
      obtain ⟨g1, g2⟩ := Sp.prcs_get _ _ _ hp
      obtain ⟨_, _, e5, -, -, -, hcc⟩ := hus.below hb
      injection e5 with e5 _ e6
      subst e5 e6
      obtain ⟨bR, oR, rfl, hbR, hcR'⟩ := hcc.at_ (fun e => by rw [e] at g1; simp at g1)
      have c1 := hcR' _ _ g1
      have c2 := hcR' _ _ g2
      rw [← Nat.add_assoc] at c2
      obtain ⟨a, b⟩ := p
      dsimp only at hm c1 c2 hsc
      have haN : a < N := by rw [HN.out]; omega
      obtain ⟨y1, -, -⟩ := Sp.acccs_get _ _ _ (Rc.acc_get (t := t) (n := a) (by rw [← HN.out]; exact haN))
      obtain ⟨bL, oL, rfl, hbL, hcL⟩ := hL.at_ (fun e => by rw [e] at y1; simp at y1)
      have hb12 := below_self hb2 hb
      have c3 := (hb12.cell (p := ⟨bL, oL + a * 3, none⟩) hbL).trans (hcL _ _ y1)
      have hbL' := Nat.lt_of_lt_of_le hbL hb12.size
      obtain ⟨C, hC⟩ : ∃ C, C = (Rc.acc t a).1 := ⟨_, rfl⟩
      rw [← hC] at c3 hsc
      have hbA : Below w2.heap.size w2 (wr.alloc (.cells #[.int .i64 (a : Int), .int .i64 (b : Int)] 46)) := below_alloc hb _
      have hoA := hown.alloc (.cells #[.int .i64 (a : Int), .int .i64 (b : Int)] 46)
      have hszA := hbA.size
      have HM := Lib.hid (show k + 1 ≤ maxLen ∧ (k + 1) * 8 ≤ 140737488355328 by unfold maxLen; omega)
      have HS := Lib.hid (And.intro hsc hbA)
      clear hp hm hsc g1 g2 hcc hcR' y1 hcL hC hbA hb hown hb12
      go_wp2_with (first
        | (at_builtin; refine wp_push_at _ _ _ _ (by first | rfl | simp) _ _ _ _ _ _ Try.underlying33 info_rc rfl (by decide) hoA [.int .i64 C] rfl (by simp [Value.oneCell']) HM.out.1 HM.out.2 hszA rfl rfl rfl rfl ?_; intro v7 w7 hr7 hg7 hv7 hb7)
        | fail)
      have HZ := Lib.hid (And.intro hr7 (HS.out.2.trans hb7))
      clear hr7 hg7 hv7 hb7 hoA
      go_roundw
      case rel => exact ⟨k + 1, by omega, by go_num, HZ.out.2, by rw [HS.out.1]; simpa [ints] using HZ.out.1⟩
      case measure => simp [intOf]; omega
    · obtain rfl : R = k := by omega
      have hl : (Rc.rcel t R).length = R := Rc.rcel_len (by rw [HR.out]; exact Nat.le_refl _)
      have hso := sort_own _ (Rc.rcel t R) wr w2.heap.size (by rw [hl]; exact hown) (by rw [hl]; omega)
      have hbF := below_self hbE hb
      have hws := hbE.size
      have hvb := hown.lt
      obtain ⟨Ao, co, rfl, hco, hmo⟩ := own_slice hown
      unfold maxLen at hmo
      have HF := Lib.hid (And.intro hbF hl)
      clear hown hb hus hL hbE hbF hl hb2
      go_wp2_with fail
      refine hso.mono ?_
      rintro e w4 ⟨rfl, hr4, hg4⟩
      have hsl := srt_length (Rc.rcel t R)
      rw [← hsl] at hr4
      have hcm := compact_own _ (srt (Rc.rcel t R)) w4 w2.heap.size hr4 (by rw [hsl, HF.out.2]; omega)
      clear hso
      go_wp2_with fail
      refine hcm.mono ?_
      rintro e w5 ⟨u5, rfl, hr5, hg5⟩
      have hs5 := SlV.of_own hr5
      have hb4 := HF.out.1.grown hg4 HF.out.1.size (fun i hi => by have := (hvb i hi).1; omega)
      have hbZ := hb4.grown hg5 hb4.size (fun i hi => by have := (hvb i hi).1; omega)
      have H5 := Lib.hid (And.intro hs5 hbZ)
      obtain ⟨A5, d5, rfl, -, -⟩ := own_slice hr5
      clear hcm hr4 hr5 hg4 hg5 hs5 hb4 hbZ hvb
      go_wp2_with fail
      go_ret
      refine ⟨_, rfl, ?_, H5.out.2⟩
      have := H5.out.1
      unfold Rc.cellsL
      rw [← HR.out]
      exact this
end Go.Proofs.Ytcoijmnnnfogdaa


namespace Go.Proofs.Ytcoijmnnnfogdaa.Rc
set_option linter.unusedVariables false
set_option linter.unusedSimpArgs false
set_option maxRecDepth 100000
open Go.RowKit
open Sp (T Acc)

theorem lw_bound {t : T} {N : Nat} (c : Int) (pre : List Nat) (h : ∀ y ∈ pre, y < N) : 0 ≤ lw t pre c ∧ lw t pre c ≤ N := by
  unfold lw
  rw [lw_last]
  rcases e : (pre.filter (isw t c)).getLast? with _ | y
  · simp
  · have := List.mem_of_getLast? e
    have := h y (List.mem_filter.1 this).1
    simp
    omega
def outV (t : T) (ns : List Nat) (x : Nat) : Int := lw t (ns.take (pos ns x)) (acc t x).1 - 1
def outL (t : T) (ns : List Nat) (k : Nat) : List Value := (List.range t.size).map fun x => .int .i64 (if x ∈ ns.take k then outV t ns x else 0)
theorem outL_length (t : T) (ns : List Nat) (k : Nat) : (outL t ns k).length = t.size := by simp [outL]
theorem outL_get {t : T} {ns : List Nat} {k x : Nat} (h : x < t.size) : (outL t ns k)[x]? = some (.int .i64 (if x ∈ ns.take k then outV t ns x else 0)) := by
  unfold outL
  rw [List.getElem?_map, List.getElem?_range h]
  rfl
theorem outL_zero (t : T) (ns : List Nat) : outL t ns 0 = List.replicate t.size (.int .i64 0) := by
  unfold outL
  apply List.ext_getElem?
  intro i
  by_cases h : i < t.size
  · simp [h]
  · simp [h]
theorem outL_all {t : T} {ns : List Nat} (h : Right t ns) : outL t ns t.size = ints .i64 (seeL t ns) := by
  unfold outL seeL ints
  rw [List.map_map]
  refine List.map_congr_left fun x hx => ?_
  rw [List.take_of_length_le (by rw [h.len]; exact Nat.le_refl _), if_pos (h.all (List.mem_range.1 hx))]
  rfl
theorem outV_at {t : T} {ns : List Nat} (hn : ns.Nodup) {k n : Nat} (hk : ns[k]? = some n) : outV t ns n = lw t (ns.take k) (acc t n).1 - 1 := by
  unfold outV
  rw [pos_eq hn hk]
theorem outL_set {t : T} {ns : List Nat} (hn : ns.Nodup) {k n : Nat} (hk : ns[k]? = some n) (hs : n < t.size) : (outL t ns k).set n (.int .i64 (lw t (ns.take k) (acc t n).1 - 1)) = outL t ns (k + 1) := by
  have htk : ns.take (k + 1) = ns.take k ++ [n] := by
    obtain ⟨h', rfl⟩ := List.getElem?_eq_some_iff.1 hk
    exact List.take_succ_eq_append_getElem h'
  apply List.ext_getElem?
  intro i
  by_cases hi : i < t.size
  · rw [outL_get hi, htk]
    by_cases e : i = n
    · subst e
      rw [List.getElem?_set_self (by rw [outL_length]; exact hs), if_pos (by simp), outV_at hn hk]
    · rw [List.getElem?_set_ne (fun h => e h.symm), outL_get hi]
      have : (i ∈ ns.take k ++ [n]) ↔ i ∈ ns.take k := by simp [e]
      simp only [this]
  · rw [List.getElem?_eq_none (by rw [List.length_set, outL_length]; omega), List.getElem?_eq_none (by rw [outL_length]; omega)]
theorem lw_step {t : T} {ns : List Nat} {k n : Nat} (hk : ns[k]? = some n) : lw t (ns.take (k + 1)) = fun c => if isw t c n then ((n : Int) + 1) else lw t (ns.take k) c := by
  have htk : ns.take (k + 1) = ns.take k ++ [n] := by
    obtain ⟨h', rfl⟩ := List.getElem?_eq_some_iff.1 hk
    exact List.take_succ_eq_append_getElem h'
  funext c
  rw [htk, lw_snoc]
theorem lw_step_no {t : T} {ns : List Nat} {k n : Nat} (hk : ns[k]? = some n) (hw : (acc t n).2.1 = false) : lw t (ns.take (k + 1)) = lw t (ns.take k) := by
  rw [lw_step hk]
  funext c
  unfold isw
  rw [hw]
  rfl
theorem lw_step_yes {t : T} {ns : List Nat} {k n : Nat} (hk : ns[k]? = some n) (hw : (acc t n).2.1 = true) : lw t (ns.take (k + 1)) = fun c => if c = (acc t n).1 then ((n : Int) + 1) else lw t (ns.take k) c := by
  rw [lw_step hk]
  funext c
  unfold isw
  rw [hw, Bool.true_and]
  by_cases e : c = (acc t n).1
  · rw [if_pos (by rw [beq_iff_eq]; exact e.symm), if_pos e]
  · rw [if_neg (by rw [beq_iff_eq]; exact fun h => e h.symm), if_neg e]
end Go.Proofs.Ytcoijmnnnfogdaa.Rc


namespace Go.Proofs.Ytcoijmnnnfogdaa.Rc
set_option linter.unusedVariables false
set_option linter.unusedSimpArgs false
set_option maxRecDepth 100000
open Sp (T Acc)

theorem bf_trans {t : T} {i j k : Nat} (h1 : t.bf i j) (h2 : t.bf j k) : t.bf i k := ⟨Nat.lt_trans h1.1 h2.1, Nat.lt_trans h1.2 h2.2⟩
def ahd (t : T) (a b n : Nat) : Bool := !(n == a || n == b) && (decide (t.bf n a) || decide (t.bf n b))
def bhd (t : T) (a b n : Nat) : Bool := !(n == a || n == b) && !(decide (t.bf n a) || decide (t.bf n b))
theorem ahd_comm (t : T) (a b : Nat) : ahd t a b = ahd t b a := by
  funext n
  unfold ahd
  rw [Bool.or_comm (n == a), Bool.or_comm (decide (t.bf n a))]
theorem bhd_comm (t : T) (a b : Nat) : bhd t a b = bhd t b a := by
  funext n
  unfold bhd
  rw [Bool.or_comm (n == a), Bool.or_comm (decide (t.bf n a))]
def ahL (t : T) (a b k : Nat) : List Nat := (List.range k).filter (ahd t a b)
def bhL (t : T) (a b k : Nat) : List Nat := (List.range k).filter (bhd t a b)
theorem ahL_succ (t : T) (a b k : Nat) : ahL t a b (k + 1) = ahL t a b k ++ if ahd t a b k then [k] else [] := by
  unfold ahL
  rw [List.range_succ, List.filter_append]
  simp only [List.filter_cons, List.filter_nil]
theorem bhL_succ (t : T) (a b k : Nat) : bhL t a b (k + 1) = bhL t a b k ++ if bhd t a b k then [k] else [] := by
  unfold bhL
  rw [List.range_succ, List.filter_append]
  simp only [List.filter_cons, List.filter_nil]
theorem ahL_len (t : T) (a b k : Nat) : (ahL t a b k).length ≤ k := Nat.le_trans (List.length_filter_le _ _) (by simp)
theorem bhL_len (t : T) (a b k : Nat) : (bhL t a b k).length ≤ k := Nat.le_trans (List.length_filter_le _ _) (by simp)
def apL (t : T) (a b : Nat) : List Nat := ahL t a b t.size ++ ([a, b] ++ bhL t a b t.size)
structure Apt (t : T) (a b : Nat) : Prop where
  la : a < t.size
  lb : b < t.size
  ne : a ≠ b
  ab : ¬ t.bf a b
  ba : ¬ t.bf b a
theorem Apt.swap {t : T} {a b : Nat} (h : Apt t a b) : Apt t b a := ⟨h.lb, h.la, fun e => h.ne e.symm, h.ba, h.ab⟩
theorem ahL_mem {t : T} {a b k n : Nat} : n ∈ ahL t a b k ↔ n < k ∧ n ≠ a ∧ n ≠ b ∧ (t.bf n a ∨ t.bf n b) := by
  unfold ahL ahd
  rw [List.mem_filter, List.mem_range]
  simp [and_assoc]
theorem bhL_mem {t : T} {a b k n : Nat} : n ∈ bhL t a b k ↔ n < k ∧ n ≠ a ∧ n ≠ b ∧ ¬ (t.bf n a ∨ t.bf n b) := by
  unfold bhL bhd
  rw [List.mem_filter, List.mem_range]
  simp [and_assoc]
theorem apL_mem {t : T} {a b : Nat} (h : Apt t a b) (n : Nat) : n ∈ apL t a b ↔ n < t.size := by
  unfold apL
  rw [List.mem_append, List.mem_append, ahL_mem, bhL_mem]
  have la := h.la
  have lb := h.lb
  constructor
  · rintro (h1 | h1 | h1)
    · exact h1.1
    · rcases List.mem_cons.1 h1 with rfl | h1
      · exact la
      · rw [List.mem_singleton] at h1
        omega
    · exact h1.1
  · intro hn
    by_cases ea : n = a
    · exact .inr (.inl (by rw [ea]; simp))
    by_cases eb : n = b
    · exact .inr (.inl (by rw [eb]; simp))
    by_cases hb : t.bf n a ∨ t.bf n b
    · exact .inl ⟨hn, ea, eb, hb⟩
    · exact .inr (.inr ⟨hn, ea, eb, hb⟩)
theorem apL_nodup {t : T} {a b : Nat} (h : Apt t a b) : (apL t a b).Nodup := by
  unfold apL
  refine List.nodup_append.2 ⟨List.nodup_range.filter _, List.nodup_append.2 ⟨?_, List.nodup_range.filter _, ?_⟩, ?_⟩
  · simp [h.ne]
  · intro x hx y hy e
    subst e
    have := bhL_mem.1 hy
    rcases List.mem_cons.1 hx with e | hx
    · exact this.2.1 e
    · exact this.2.2.1 (List.mem_singleton.1 hx)
  · intro x hx y hy e
    subst e
    have h1 := ahL_mem.1 hx
    rcases List.mem_append.1 hy with hy | hy
    · rcases List.mem_cons.1 hy with e | hy
      · exact h1.2.1 e
      · exact h1.2.2.1 (List.mem_singleton.1 hy)
    · exact (bhL_mem.1 hy).2.2.2 h1.2.2.2
theorem apL_up {t : T} {a b : Nat} (h : Apt t a b) : (apL t a b).Pairwise fun x y => ¬ t.bf y x := by
  have hr : ∀ p : Nat → Bool, ((List.range t.size).filter p).Pairwise fun x y => ¬ t.bf y x := fun p => (List.pairwise_lt_range.imp fun hlt hb => by have := hb.1; omega).filter p
  unfold apL
  refine List.pairwise_append.2 ⟨hr _, List.pairwise_append.2 ⟨?_, hr _, ?_⟩, ?_⟩
  · simp [h.ba]
  · intro x hx y hy hb
    have h1 := (bhL_mem.1 hy).2.2.2
    rcases List.mem_cons.1 hx with e | hx
    · rw [e] at hb
      exact h1 (.inl hb)
    · rw [List.mem_singleton.1 hx] at hb
      exact h1 (.inr hb)
  · intro x hx y hy hb
    have h1 := (ahL_mem.1 hx).2.2.2
    rcases List.mem_append.1 hy with hy | hy
    · rcases List.mem_cons.1 hy with e | hy
      · rw [e] at hb
        rcases h1 with h1 | h1
        · have := h1.1
          have := hb.1
          omega
        · exact h.ab (bf_trans hb h1)
      · rw [List.mem_singleton.1 hy] at hb
        rcases h1 with h1 | h1
        · exact h.ba (bf_trans hb h1)
        · have := h1.1
          have := hb.1
          omega
    · refine (bhL_mem.1 hy).2.2.2 (h1.imp (fun h1 => bf_trans hb h1) (fun h1 => bf_trans hb h1))
theorem right_up {t : T} {ns : List Nat} (hn : ns.Nodup) (hm : ∀ n, n ∈ ns ↔ n < t.size) (hp : ns.Pairwise fun x y => ¬ t.bf y x) : Right t ns := by
  refine ⟨?_, fun x hx => (hm x).1 hx, hn, fun i j hij hj hr => ?_⟩
  · have h1 := hn.length_le_of_subset (l₂ := List.range t.size) (fun y hy => List.mem_range.2 ((hm y).1 hy))
    have h2 := (List.nodup_range (n := t.size)).length_le_of_subset (l₂ := ns) (fun y hy => (hm y).2 (List.mem_range.1 hy))
    simp at h1 h2
    omega
  · obtain ⟨p, hp1⟩ := List.getElem?_of_mem ((hm i).2 (by omega))
    obtain ⟨q, hq1⟩ := List.getElem?_of_mem ((hm j).2 hj)
    rw [pos_eq hn hp1, pos_eq hn hq1]
    refine Decidable.byContradiction fun hlt => ?_
    have hne : p ≠ q := fun e => by
      subst e
      rw [hp1] at hq1
      injection hq1 with hq1
      omega
    obtain ⟨hpl, e1⟩ := List.getElem?_eq_some_iff.1 hp1
    obtain ⟨hql, e2⟩ := List.getElem?_eq_some_iff.1 hq1
    have := List.pairwise_iff_getElem.1 hp q p hql hpl (by omega)
    rw [e1, e2] at this
    exact this ⟨hij, hr⟩
theorem right_ap {t : T} {a b : Nat} (h : Apt t a b) : Right t (apL t a b) := right_up (apL_nodup h) (apL_mem h) (apL_up h)

/-! ### what they find -/
theorem seeL_get {t : T} {ns : List Nat} {x : Nat} (hx : x < t.size) : (seeL t ns)[x]? = some (lw t (ns.take (pos ns x)) (acc t x).1 - 1) := by
  unfold seeL
  rw [List.getElem?_map, List.getElem?_range hx]
  rfl
theorem lw_from {t : T} {pre : List Nat} {c : Int} {a : Nat} (h : lw t pre c = (a : Int) + 1) : a ∈ pre := by
  unfold lw at h
  rw [lw_last] at h
  rcases e : (pre.filter (isw t c)).getLast? with _ | y
  · rw [e] at h
    simp at h
    omega
  · rw [e] at h
    have hy := (List.mem_filter.1 (List.mem_of_getLast? e)).1
    simp at h
    have : y = a := by omega
    rw [← this]
    exact hy
theorem apL_pos2 {t : T} {a b : Nat} (h : Apt t a b) : (apL t a b).take (pos (apL t a b) b) = ahL t a b t.size ++ [a] := by
  have hp : (apL t a b)[(ahL t a b t.size).length + 1]? = some b := by
    unfold apL
    rw [List.getElem?_append_right (by omega)]
    simp
  rw [pos_eq (apL_nodup h) hp]
  unfold apL
  rw [List.take_append]
  simp
  exact List.take_of_length_le (by omega)
theorem apL_pos1 {t : T} {a b : Nat} (h : Apt t a b) : (apL t a b).take (pos (apL t a b) a) = ahL t a b t.size := by
  have hp : (apL t a b)[(ahL t a b t.size).length]? = some a := by
    unfold apL
    rw [List.getElem?_append_right (by omega)]
    simp
  rw [pos_eq (apL_nodup h) hp]
  unfold apL
  rw [List.take_append]
  simp
/-- who is behind a writer finds it, and does not where it is ahead of it -/
theorem ap_differ {t : T} {a b : Nat} (h : Apt t a b) (hc : clash t a b = true) (hw : (acc t a).2.1 = true) : (seeL t (apL t a b))[b]? ≠ (seeL t (apL t b a))[b]? := by
  rw [seeL_get h.lb, seeL_get h.lb, apL_pos2 h, apL_pos1 h.swap]
  have hi : isw t (acc t b).1 a = true := by
    unfold clash at hc
    unfold isw
    rw [hw, Bool.true_and]
    exact (Bool.and_eq_true_iff.1 hc).1
  rw [lw_snoc, if_pos hi]
  intro e
  injection e with e
  have := lw_from (t := t) (pre := ahL t b a t.size) (c := (acc t b).1) (a := a) (by omega)
  exact (ahL_mem.1 this).2.2.1 rfl
end Go.Proofs.Ytcoijmnnnfogdaa.Rc


namespace Go.Proofs.Ytcoijmnnnfogdaa
set_option linter.unusedVariables false
set_option linter.unusedSimpArgs false
set_option maxRecDepth 100000
open Go.RowKit Go.Maps

theorem keyed_i64 : Keyed Try.prog 3 := int_keyed Try.underlying3
theorem zero_i64 (w : World) : (zeroValue 3).run Try.prog w = .ok (.int .i64 0) w := by kernel_rfl

structure MapI (w : World) (g n : Nat) (f : Int → Int) : Prop where
  is : ∃ D : DataW Unit, w.ownsMap Try.prog 3 (plainElem Try.prog 3) g n D ∧ IsMap D ∧ ∀ k, (Lit.int .i64 k).wf = true → D.atKey (.int .i64 k) (.lit (.int .i64 0)) = .lit (.int .i64 (f k))

theorem MapI.made (w : World) : MapI (w.alloc (.map #[] 0)) w.heap.size 0 (fun _ => 0) := ⟨_, World.ownsMap_made _ _ _ _, isMap_empty, fun _ _ => rfl⟩
theorem MapI.lt {w : World} {g n : Nat} {f : Int → Int} (h : MapI w g n f) : g < w.heap.size := by obtain ⟨D, h1, -⟩ := h.is; exact h1.lt
theorem MapI.keep {w w' : World} {g n : Nat} {f : Int → Int} (h : MapI w g n f) (hg : w'.heap[g]? = w.heap[g]?) : MapI w' g n f := by
  obtain ⟨D, ⟨es, clock, hb, F, hs, hD⟩, h2, h3⟩ := h.is
  exact ⟨D, ⟨es, clock, hg.trans hb, F, hs, hD⟩, h2, h3⟩
theorem MapI.below {w w' : World} {g n B : Nat} {f : Int → Int} (h : MapI w g n f) (hb : Below B w w') (hB : g < B) : MapI w' g n f := h.keep (hb.block g hB)
theorem MapI.next {w w' : World} {g n : Nat} {f : Int → Int} (h : MapI w g n f) (hb : Below w.heap.size w w') : MapI w' g n f := h.below hb h.lt
theorem MapI.look {w : World} {g n : Nat} {f : Int → Int} (h : MapI w g n f) {k : Int} (hk : (Lit.int .i64 k).wf = true) : (Instr.lookup 72 (.map (some g)) (.int .i64 k) false).run Try.prog w = .ok (.int .i64 (f k)) w := by
  obtain ⟨D, h1, h2, h3⟩ := h.is
  obtain ⟨c, hrun, hat, -⟩ := h1.lookup_int keyed_i64 Try.underlying72 Try.underlying3 (zero_i64 _) (keyOf_int_mk Try.underlying3 hk)
  rw [h3 k hk] at hat
  injection hat with hat
  injection hat with _ hat
  rw [hat]
  exact hrun

theorem wp_mapset {P : Program} (hP : P = Try.prog) (w : World) {ops : Array Oper} {rest : List Oper} {o : Oper} {a : Act} {Q : Exit → Act → World → Prop}
    (hg : o.guard = none) (m x v : Operand) (hop : o.op = Op.mapUpdate 72 m x v) (g n : Nat) (f : Int → Int) (hm : a.eval m = .map (some g)) (h : MapI w g n f) (hn : n < maxLen)
    (k u : Int) (hx : a.eval x = .int .i64 k) (hv : a.eval v = .int .i64 u) (hk : (Lit.int .i64 k).wf = true) (hu : (Lit.int .i64 u).wf = true)
    (hK : ∀ w', MapI w' g (n + 1) (fun j => if j = k then u else f j) → w.grownBy w' (some g) → wpList P ops Q rest (a.put o.dst undef) w') :
    wpList P ops Q (o :: rest) a w := by
  subst hP
  obtain ⟨D, h1, h2, h3⟩ := h.is
  refine wpList_mapUpdate_own w hg m x v _ hop _ _ keyed_i64 Try.underlying72 _ g n D hm h1 hn _ _ _ hx hv (keyOf_int_mk Try.underlying3 hk) _ [] (plainElem_int Try.underlying3 hu) ?_
  intro w' hown hgr
  refine hK w' ⟨_, hown, h2.put _ _, fun j hj => ?_⟩ hgr
  by_cases e : j = k
  · subst e
    rw [if_pos rfl, atKey_put_same h2 (by first | trivial | exact ⟨_, _, rfl⟩ | (constructor))]
  · rw [if_neg e, atKey_put_other (by intro h; injection h with _ h; exact e h)]
    exact h3 j hj
end Go.Proofs.Ytcoijmnnnfogdaa


namespace Go.Proofs.Ytcoijmnnnfogdaa
set_option linter.unusedVariables false
set_option linter.unusedSimpArgs false
set_option maxRecDepth 100000
open Go.ChangeShapes Go.WideShapes Go.ChangeAt Go.RowKit

theorem own : ownKnob Try.prog.godebug = none := by kernel_rfl
theorem laidOut : laidOutB Try.prog = true := by kernel_rfl

/-- the form's own reach, of a slice that was opened -/
theorem reach_rows {H : Type} {ts : List TypeId} {ds : List (DataW H)} {n by_ : Nat} {d : DataW H} {t e : TypeId} (hsz : (DataW.weightsEach Try.prog ts ds).all (· ≤ reachBytes) = true) {j : Nat} (ht : ts[j]? = some t) (hd : ds[j]? = some d)
    (hu : Try.prog.underlying t = some (.slice e)) (hb : Try.prog.bytesOf e = by_) (h : (d = .nil ∧ n = 0) ∨ ∃ (el sp : List (DataW H)), d = .slice el sp ∧ el.length = n) : n * by_ ≤ 140737488351232 := by
  rcases h with ⟨_, rfl⟩ | ⟨el, sp, rfl, rfl⟩
  · simp
  · have := sized_slice hsz ht hd hu
    rw [hb] at this
    have h2 : el.length * by_ ≤ (el.length + sp.length) * by_ := Nat.mul_le_mul_right _ (by omega)
    simp only [reachBytes] at this
    omega
end Go.Proofs.Ytcoijmnnnfogdaa


namespace Go.Proofs.Ytcoijmnnnfogdaa
set_option linter.unusedVariables false
set_option linter.unusedSimpArgs false
set_option maxRecDepth 100000
open Go.ChangeShapes Go.WideShapes Go.ChangeAt Go.RowKit

theorem open_arg_cnt {H : Type} {enc : TypeId × Value → H} {W : World} {base : Nat} {v : Value} {d : DataW H} {p : List MemPlace} (hv : Value.okWide Try.prog W .any base 26 v) (h : DataW.Trod enc Try.prog W 0 (fun _ => true) true 26 v d p) (hlt : ∀ x ∈ p, x.block < W.heap.size) :
    ∃ (cs : List Value) (t : Sp.T), v = .agg cs.toArray ∧ TmR W.heap.size W cs t ∧ t.cnt ≤ Rows.uptoBulk d := by
  have hT : Try.prog.underlying 26 = some (.struct (fieldsOf Try.prog 26)) := by kernel_rfl
  obtain ⟨cs, rfl, hcs⟩ := okWide_struct hT hv
  obtain ⟨fuel, hf⟩ := h
  obtain ⟨t, h1, h2⟩ := open_term fuel cs.toList (d, p) (by simpa [Value.cells] using hf) hlt
  exact ⟨cs.toList, t, by simp, h1, h2⟩
theorem open_arg_term {H : Type} {enc : TypeId × Value → H} {W : World} {base : Nat} {v : Value} {d : DataW H} {p : List MemPlace} (hv : Value.okWide Try.prog W .any base 26 v) (h : DataW.Trod enc Try.prog W 0 (fun _ => true) true 26 v d p) (hlt : ∀ x ∈ p, x.block < W.heap.size) :
    ∃ (cs : List Value) (t : Sp.T), v = .agg cs.toArray ∧ TmR W.heap.size W cs t ∧ t.size ≤ Rows.uptoBulk d := by
  obtain ⟨cs, t, h1, h2, h3⟩ := open_arg_cnt hv h hlt
  exact ⟨cs, t, h1, h2, Nat.le_trans t.size_le_cnt h3⟩
/-- an argument that is a struct of n integers -/
theorem open_arg_ints {H : Type} {enc : TypeId × Value → H} {W : World} {base : Nat} {v : Value} {d : DataW H} {p : List MemPlace} {e : TypeId} {n : Nat} {fs : Array Field} (he : Try.prog.underlying e = some (.struct fs)) (hn : fs.size = n) (hC : Try.prog.cellsOf e = n) (hf : intFields Try.prog fs = true) (hv : Value.okWide Try.prog W .any base e v) (h : DataW.Trod enc Try.prog W 0 (fun _ => true) true e v d p) :
    ∃ r : List Int, v = .agg (irow r).toArray ∧ r.length = n ∧ Wfs .i64 r := by
  obtain ⟨cs, rfl, hcs⟩ := okWide_struct he hv
  obtain ⟨fuel, hfu⟩ := h
  obtain ⟨r, h1, h2, h3⟩ := struct_ints he hn hC hf (by simpa [Value.cells] using hfu)
  exact ⟨r, by rw [← h2], h1, h3⟩

theorem open_arg_two {H : Type} {enc : TypeId × Value → H} {W : World} {base : Nat} {v : Value} {d : DataW H} {p : List MemPlace} {e : TypeId} {fs : Array Field} (he : Try.prog.underlying e = some (.struct fs)) (hn : fs.size = 2) (hC : Try.prog.cellsOf e = 2) (hf : intFields Try.prog fs = true) (hv : Value.okWide Try.prog W .any base e v) (h : DataW.Trod enc Try.prog W 0 (fun _ => true) true e v d p) :
    ∃ a b : Int, v = .agg #[.int .i64 a, .int .i64 b] := by
  obtain ⟨r, h1, h2, -⟩ := open_arg_ints he hn hC hf hv h
  match r, h2 with
  | [a, b], _ => exact ⟨a, b, h1⟩

theorem bulk_pos {H : Type} (d : DataW H) : 1 ≤ Rows.uptoBulk d := by
  cases d with
  | lit x => cases x <;> simp [Rows.uptoBulk]
  | _ => simp [Rows.uptoBulk]
theorem bulk_len {H : Type} : ∀ l : List (DataW H), l.length ≤ Rows.uptoBulkAll l
  | [] => by simp
  | x :: l => by
    rw [Rows.uptoBulkAll, List.length_cons]
    have := bulk_pos x
    have := bulk_len l
    omega
theorem bulk_rows {H : Type} {d : DataW H} {n : Nat} (h : (d = .nil ∧ n = 0) ∨ ∃ (el sp : List (DataW H)), d = .slice el sp ∧ el.length = n) : n ≤ Rows.uptoBulk d := by
  rcases h with ⟨_, rfl⟩ | ⟨e, sp, rfl, he⟩
  · exact Nat.zero_le _
  · have := bulk_len e
    rw [Rows.uptoBulk]
    omega
end Go.Proofs.Ytcoijmnnnfogdaa


namespace Go.Proofs.Ytcoijmnnnfogdaa
set_option linter.unusedVariables false
set_option linter.unusedSimpArgs false
set_option maxRecDepth 100000
open Go.ChangeShapes Go.WideShapes Go.ChangeAt Go.RowKit
set_option maxRecDepth 100000

namespace Sp
def T.wfl (t : T) : Prop := ∀ a ∈ t.leaves, (Lit.int .i64 a.1).wf = true
theorem T.wfl_nil : T.nil.wfl := by intro a ha; simp [T.leaves] at ha
theorem T.wfl_one {c : Int} {b : Bool} {l : Int} (h : (Lit.int .i64 c).wf = true) : (T.one c b l).wfl := by
  intro a ha
  simp only [T.leaves, List.mem_singleton] at ha
  subst ha
  exact h
theorem T.wfl_two {p : Bool} {l r : T} (hl : l.wfl) (hr : r.wfl) : (T.two p l r).wfl := by
  intro a ha
  simp only [T.leaves, List.mem_append] at ha
  exact ha.elim (hl a) (hr a)
end Sp

theorem open_term_wf {H : Type} {enc : TypeId × Value → H} {w : World} : ∀ (fuel : Nat) (cs : List Value) (x : DataW H × List MemPlace), DataW.trod enc Try.prog w 0 (fun _ => true) true fuel 26 cs = some x → (∀ p ∈ x.2, p.block < w.heap.size) →
    ∃ t : Sp.T, TmR w.heap.size w cs t ∧ t.cnt ≤ Rows.uptoBulk x.1 ∧ t.wfl := by
  intro fuel
  induction fuel using Nat.strongRecOn with
  | _ fuel ih =>
    intro cs x h hlt
    have hT : Try.prog.underlying 26 = some (.struct (fieldsOf Try.prog 26)) := by kernel_rfl
    have hA : Try.prog.underlying 23 = some (.struct (fieldsOf Try.prog 23)) := by kernel_rfl
    obtain ⟨xs, m, rfl, rfl, hl, hxl, hfs⟩ := DataW.trod_struct hT h
    have e0 : (fieldsOf Try.prog 26)[0]?.map (fun f => (f.type, f.offset)) = some (3, 0) := by kernel_rfl
    have e1 : (fieldsOf Try.prog 26)[1]?.map (fun f => (f.type, f.offset)) = some (23, 1) := by kernel_rfl
    have e2 : (fieldsOf Try.prog 26)[2]?.map (fun f => (f.type, f.offset)) = some (24, 4) := by kernel_rfl
    have hsz : (fieldsOf Try.prog 26).size = 3 := by kernel_rfl
    obtain ⟨f0, g0, q0⟩ := Option.map_eq_some_iff.1 e0
    obtain ⟨f1, g1, q1⟩ := Option.map_eq_some_iff.1 e1
    obtain ⟨f2, g2, q2⟩ := Option.map_eq_some_iff.1 e2
    injection q0 with q0 q0'
    injection q1 with q1 q1'
    injection q2 with q2 q2'
    have h0 := hfs 0 f0 g0
    have h1 := hfs 1 f1 g1
    have h2 := hfs 2 f2 g2
    have c0 : Try.prog.cellsOf 3 = 1 := by kernel_rfl
    have c1 : Try.prog.cellsOf 23 = 3 := by kernel_rfl
    have c2 : Try.prog.cellsOf 24 = 1 := by kernel_rfl
    have cT : Try.prog.cellsOf 26 = 5 := by kernel_rfl
    have cB : Try.prog.cellsOf 4 = 1 := by kernel_rfl
    rw [q0, q0', c0] at h0
    rw [q1, q1', c1] at h1
    rw [q2, q2', c2] at h2
    rw [cT] at hl
    rw [hsz] at hxl
    match xs, hxl, cs, hl with
    | [x0, x1, x2], _, [v0, v1, v2, v3, v4], _ =>
      simp only [List.drop_succ_cons, List.drop_zero, List.take_succ_cons, List.take_zero, List.getElem?_cons_zero, List.getElem?_cons_succ] at h0 h1 h2
      obtain ⟨k, hk, -, -⟩ := DataW.trod_int Try.underlying3 h0
      obtain ⟨ys, m1, rfl, -, hl1, hyl, hys⟩ := DataW.trod_struct hA h1
      have d0 : (fieldsOf Try.prog 23)[0]?.map (fun f => (f.type, f.offset)) = some (3, 0) := by kernel_rfl
      have d1 : (fieldsOf Try.prog 23)[1]?.map (fun f => (f.type, f.offset)) = some (4, 1) := by kernel_rfl
      have d2 : (fieldsOf Try.prog 23)[2]?.map (fun f => (f.type, f.offset)) = some (3, 2) := by kernel_rfl
      have hsy : (fieldsOf Try.prog 23).size = 3 := by kernel_rfl
      obtain ⟨u0, w0, p0⟩ := Option.map_eq_some_iff.1 d0
      obtain ⟨u1, w1, p1⟩ := Option.map_eq_some_iff.1 d1
      obtain ⟨u2, w2, p2⟩ := Option.map_eq_some_iff.1 d2
      injection p0 with p0 p0'
      injection p1 with p1 p1'
      injection p2 with p2 p2'
      have y0 := hys 0 u0 w0
      have y1 := hys 1 u1 w1
      have y2 := hys 2 u2 w2
      rw [p0, p0', c0] at y0
      rw [p1, p1', cB] at y1
      rw [p2, p2', c0] at y2
      rw [hsy] at hyl
      match ys, hyl with
      | [z0, z1, z2], _ =>
        simp only [List.drop_succ_cons, List.drop_zero, List.take_succ_cons, List.take_zero, List.getElem?_cons_zero, List.getElem?_cons_succ] at y0 y1 y2
        obtain ⟨c, hc, -, hcw⟩ := DataW.trod_int Try.underlying3 y0
        obtain ⟨b, hb, -⟩ := DataW.trod_bool Try.underlying4 y1
        obtain ⟨l, hl', -, -⟩ := DataW.trod_int Try.underlying3 y2
        simp only [List.cons.injEq, and_true] at hk hc hb hl'
        subst hk hc hb hl'
        have bulk1 : Rows.uptoBulk (DataW.agg (H := H) [x0.1, x1.1, x2.1]) = Rows.uptoBulk x0.1 + (Rows.uptoBulk x1.1 + Rows.uptoBulk x2.1) + 1 := by
          simp [Rows.uptoBulk, Rows.uptoBulkAll]
        have pos : ∀ d : DataW H, 1 ≤ Rows.uptoBulk d := fun d => by
          cases d with
          | lit x => cases x <;> simp [Rows.uptoBulk]
          | _ => simp [Rows.uptoBulk]
        rcases DataW.trod_slice Try.underlying24 h2 with ⟨hcs, hx⟩ | ⟨a, len, cap, el, rest, n, hn, hcs, hx, -, hle, hm, hlen, hel, hsp, -⟩
        · simp only [List.cons.injEq, and_true] at hcs
          subst hcs
          by_cases hk1 : k = 1
          · subst hk1
            exact ⟨.one c b l, .one c b l none 0 0 (Nat.le_refl _) (Nat.zero_le _), by have := pos x0.1; simp [Sp.T.cnt, bulk1], Sp.T.wfl_one hcw⟩
          · exact ⟨.nil, .nil k c b l none 0 0 (Nat.le_refl _) (Nat.zero_le _) hk1 (by omega), by simp [Sp.T.cnt, bulk1], Sp.T.wfl_nil⟩
        · simp only [List.cons.injEq, and_true] at hcs
          subst hcs
          by_cases hk1 : k = 1
          · subst hk1
            exact ⟨.one c b l, .one c b l _ len cap hle hm, by have := pos x0.1; simp [Sp.T.cnt, bulk1], Sp.T.wfl_one hcw⟩
          · by_cases hk2 : (k = 2 ∨ k = 3) ∧ 2 ≤ len
            · obtain ⟨hk2, h2l⟩ := hk2
              have kid : ∀ i, i < len → ∃ (y : DataW H × List MemPlace) (cs' : List Value) (t : Sp.T), el[i]? = some y ∧ cs'.length = 5 ∧ (∀ j u, cs'[j]? = some u → w.cell? ((a.add (i * 5)).add j) = some u) ∧ TmR w.heap.size w cs' t ∧ t.cnt ≤ Rows.uptoBulk y.1 ∧ t.wfl := by
                intro i hi
                have h3 := hel i hi
                rw [cT, List.getElem?_eq_getElem (by omega)] at h3
                obtain ⟨cs', hc', htr⟩ := Option.bind_eq_some_iff.1 h3
                obtain ⟨hb0, hl5, hat⟩ := World.cells?_some hc'
                obtain ⟨t, ht1, ht2, ht3⟩ := ih n (by omega) cs' _ htr (fun p hp => hlt p (by
                  rw [hx]
                  simp only [List.flatMap_cons, List.flatMap_nil, List.mem_append, List.append_nil]
                  exact .inr (.inr (.inr (List.mem_flatMap.2 ⟨el[i], List.mem_append_left _ (List.getElem_mem _), hp⟩)))))
                refine ⟨el[i], cs', t, List.getElem?_eq_getElem (by omega), hl5, fun j u hu => ?_, ht1, ht2, ht3⟩
                have hj : j < 5 := by have := (List.getElem?_eq_some_iff.1 hu).1; omega
                rw [hat j hj, hu]
              obtain ⟨ya, csa, ta, ea, la, ca, ra, ba, wa⟩ := kid 0 (by omega)
              obtain ⟨yb, csb, tb, eb, lb, cb, rb, bb, wb⟩ := kid 1 (by omega)
              obtain ⟨g, o, sp⟩ := a
              have hsp0 : sp = none := by
                have := ca 0 _ (List.getElem?_eq_getElem (by omega))
                simpa [Addr.add] using World.cell?_spot this
              subst hsp0
              have ca' : ∀ j u, csa[j]? = some u → w.cell? ⟨g, o + j, none⟩ = some u := fun j u hu => by
                have := ca j u hu
                rw [Addr.add_lit, Addr.add_lit] at this
                simpa using this
              have cb' : ∀ j u, csb[j]? = some u → w.cell? ⟨g, o + 5 + j, none⟩ = some u := fun j u hu => by
                have := cb j u hu
                rw [Addr.add_lit, Addr.add_lit] at this
                simpa using this
              have hg : g < w.heap.size := World.block_lt_of_cell? w _ (ca' 0 _ (List.getElem?_eq_getElem (by omega)))
              have hbulk : ta.cnt + tb.cnt ≤ Rows.uptoBulk x2.1 := by
                rw [hx]
                match el, hlen, ea, eb with
                | e0 :: e1 :: el', _, ea, eb =>
                  simp only [List.getElem?_cons_zero, List.getElem?_cons_succ, Option.some.injEq] at ea eb
                  subst ea eb
                  have := bulk_two e0.1 e1.1 (el'.map (·.1))
                  simp only [List.map_cons, Rows.uptoBulk]
                  omega
              rcases hk2 with rfl | rfl
              · exact ⟨.two false ta tb, .two false c b l g o len cap csa csb ta tb hle hm h2l hg ca' cb' ra rb, by show _ ≤ Rows.uptoBulk (DataW.agg (H := H) [x0.1, x1.1, x2.1]); rw [Sp.T.cnt, bulk1]; omega, Sp.T.wfl_two wa wb⟩
              · exact ⟨.two true ta tb, .two true c b l g o len cap csa csb ta tb hle hm h2l hg ca' cb' ra rb, by show _ ≤ Rows.uptoBulk (DataW.agg (H := H) [x0.1, x1.1, x2.1]); rw [Sp.T.cnt, bulk1]; omega, Sp.T.wfl_two wa wb⟩
            · exact ⟨.nil, .nil k c b l _ len cap hle hm hk1 hk2, by simp [Sp.T.cnt, bulk1], Sp.T.wfl_nil⟩

theorem open_arg_wfl {H : Type} {enc : TypeId × Value → H} {W : World} {base : Nat} {v : Value} {d : DataW H} {p : List MemPlace} (hv : Value.okWide Try.prog W .any base 26 v) (h : DataW.Trod enc Try.prog W 0 (fun _ => true) true 26 v d p) (hlt : ∀ x ∈ p, x.block < W.heap.size) :
    ∃ (cs : List Value) (t : Sp.T), v = .agg cs.toArray ∧ TmR W.heap.size W cs t ∧ t.cnt ≤ Rows.uptoBulk d ∧ t.wfl := by
  have hT : Try.prog.underlying 26 = some (.struct (fieldsOf Try.prog 26)) := by kernel_rfl
  obtain ⟨cs, rfl, hcs⟩ := okWide_struct hT hv
  obtain ⟨fuel, hf⟩ := h
  obtain ⟨t, h1, h2⟩ := open_term_wf fuel cs.toList (d, p) (by simpa [Value.cells] using hf) hlt
  exact ⟨cs.toList, t, by simp, h1, h2⟩
end Go.Proofs.Ytcoijmnnnfogdaa


namespace Go.Proofs.Ytcoijmnnnfogdaa
set_option linter.unusedVariables false
set_option linter.unusedSimpArgs false
set_option maxRecDepth 100000
open Go.RowKit

theorem wf_i64_rc {a : Int} (h : -9223372036854775808 ≤ a ∧ a ≤ 9223372036854775807) : (Lit.int .i64 a).wf = true := WalkArith.wf_i64 (by omega)

/-- what See answers -/
inductive SeePost (t : Sp.T) (zs : List Int) (w : World) (e : Ending) (w' : World) : Prop
  | yes (ns : List Nat) (g : Nat) : zs = ns.map (fun n : Nat => (n : Int)) → Rc.Right t ns → e = .returned (.tuple #[.slice (some ⟨g, 0, none⟩) t.size t.size, .int .i64 0]) → w.heap.size ≤ g → Blk w' g 3 (ints .i64 (Rc.seeL t ns)) → Below w.heap.size w w' → SeePost t zs w e w'
  | no : ¬ Rc.RightI t zs → e = .returned (.tuple #[.slice none 0 0, .int .i64 1]) → Below w.heap.size w w' → SeePost t zs w e w'

set_option maxRecDepth 20000 in
set_option maxHeartbeats 4000000 in
theorem race_see (t : Sp.T) (zs : List Int) (w : World) (cs : List Value) (v : Value) (hT : TmR w.heap.size w cs t) (hn : t.size ≤ 1048576) (hwl : t.wfl) (hz : SlV w 1 v zs.length (ints .i64 zs)) :
    Calls Try.prog 10 #[.agg cs.toArray, v] w (SeePost t zs w) := by
  obtain ⟨a0, a1, a2, a3, A4, a5, a6, rfl, -, -⟩ := hT.form
  have x0 := Blk.new w 26 [.int .i64 a0, .int .i64 a1, .bool a2, .int .i64 a3, .slice A4 a5 a6]
  unfold tcells at hT ⊢
  have hb0 : Below w.heap.size w (w.alloc (.cells [Value.int .i64 a0, .int .i64 a1, .bool a2, .int .i64 a3, .slice A4 a5 a6].toArray 26)) := below_alloc (Below.refl _ _) _
  have hz0 := hz.below hb0
  have hmm := @run_makeMap Try.prog
  go_enter Try.func10, Try.ntmps10
  go_wp2_with fail
  obtain ⟨q, hq⟩ : ∃ q, q = w.heap.size := ⟨_, rfl⟩
  have hT0 := tm_up (hT.later hb0) hb0.size
  generalize (w.alloc (.cells [Value.int .i64 a0, .int .i64 a1, .bool a2, .int .i64 a3, .slice A4 a5 a6].toArray 26)) = W0 at x0 hb0 hT0 hz0 ⊢
  rw [← hq] at x0 ⊢
  refine (race_right t zs W0 _ v hT0 hn hz0).mono ?_
  rintro e w1 ⟨b, rfl, hright, hb1⟩
  have hX := Boxed.of (x0.below hb1) (hT0.later hb1) hb1.size
  have hz1 := hz0.below hb1
  have hbw := below_next hb1 hb0
  clear x0 hb0 hT0 hb1 hq hT hz hz0
  obtain ⟨⟨c0, c1, c2, c3, c4⟩, hT1⟩ := hX.look _ (Below.refl _ _)
  rcases b with _ | _
  · have hno : ¬ Rc.RightI t zs := fun h => by have := hright.2 h; cases this
    have HB := Lib.hid (And.intro hbw hno)
    clear hX hT1 hz1 hright hno hbw
    go_wp2_with fail
    go_ret2
    exact SeePost.no HB.out.2 rfl HB.out.1
  obtain ⟨ns, hns, hR⟩ := hright.1 rfl
  have hzl : zs.length = t.size := by rw [hns, List.length_map, hR.len]
  rw [hzl] at hz1
  have HR := Lib.hid (And.intro hns hR)
  have gL := leaves_any w1 _ t hT1 (by omega)
  clear hright hns hR hX hT1
  go_wp2_with fail
  refine gL.mono ?_
  rintro e w3 ⟨v3, rfl, ⟨PL, cL, rfl, hleL, hmL, -, hL⟩, hb3⟩
  have hz3 := hz1.below hb3
  have hbw3 := below_self hbw hb3
  obtain ⟨PZ, cZ, rfl, hleZ, hmZ, -, hZ⟩ := hz3
  unfold maxLen at hmZ hmL
  clear gL c0 c1 c2 c3 c4 hz1 hbw hb3
  obtain ⟨N, hN⟩ : ∃ N, N = t.size := ⟨_, rfl⟩
  rw [← hN] at hleL hleZ hn ⊢
  have HN := Lib.hid hN
  clear hN hzl
  go_wp2_with (at_make; refine wp_make_flat w3 33 3 (.int .i64 0) (.int .i64 0) 1 8 N Try.underlying33 info_rc rfl (by decide) rfl rfl (by omega) (by omega) rfl rfl rfl rfl ?_; intro w4 hB4 hb4 hs4)
  rw [Nat.mul_one, HN.out, ← Rc.outL_zero t ns] at hB4
  have hlt4 : w3.heap.size < w4.heap.size := hB4.lt
  have hb4' : Below w3.heap.size w3 (w4.alloc (.map #[] 0)) := below_alloc hb4 _
  have hB4' := hB4.alloc (.map #[] 0)
  have hM4 := MapI.made w4
  rw [hs4] at hM4
  clear hB4 hb4 hlt4
  go_wp2_with fail
  go_loopw [24] (fun i wr => ∃ k : Nat, k ≤ N ∧ i = .int .i64 (k : Int) ∧ Below w3.heap.size w3 wr ∧ Blk wr w3.heap.size 3 (Rc.outL t ns k) ∧ ∃ m, m ≤ k ∧ MapI wr (w3.heap.size + 1) m (Rc.lw t (ns.take k))) (fun i _ => N - (intOf i).toNat)
  case atStart => exact ⟨0, Nat.zero_le _, rfl, hb4', hB4', 0, Nat.le_refl _, hM4⟩
  case round =>
    clear hb4' hB4' hM4
    obtain ⟨k, hk, rfl, hb, hB, m, hm, hM⟩ := hrel
    by_cases hlt : k < N
    · obtain ⟨n, hnk⟩ : ∃ n, ns[k]? = some n := ⟨_, List.getElem?_eq_getElem (by rw [HR.out.2.len, ← HN.out]; exact hlt)⟩
      have hnN : n < N := by rw [HN.out]; exact HR.out.2.lt n (List.mem_of_getElem? hnk)
      have gz : (ints .i64 zs)[k]? = some (.int .i64 (n : Int)) := by
        unfold ints
        rw [HR.out.1, List.getElem?_map, List.getElem?_map, hnk]
        rfl
      obtain ⟨bZ, oZ, rfl, hbZ, hcZ⟩ := hZ.at_ (fun e => by rw [e] at gz; simp at gz)
      have z1 := (hb.cell hbZ).trans (hcZ _ _ gz)
      have hgi := Rc.acc_get (t := t) (n := n) (by rw [← HN.out]; exact hnN)
      have hwf := hwl _ (List.mem_of_getElem? hgi)
      obtain ⟨y1, y2, y3⟩ := Sp.acccs_get _ _ _ hgi
      obtain ⟨bL, oL, rfl, hbL, hcL⟩ := hL.at_ (fun e => by rw [e] at y1; simp at y1)
      have c1 := (hb.cell hbL).trans (hcL _ _ y1)
      have c2 := (hb.cell hbL).trans (hcL _ _ y2)
      have c3 := (hb.cell hbL).trans (hcL _ _ y3)
      rw [← Nat.add_assoc] at c2 c3
      have hset := Rc.outL_set HR.out.2.nd hnk (by rw [← HN.out]; exact hnN)
      have hlb := Rc.lw_bound (t := t) (N := N) (Rc.acc t n).1 (ns.take k) (fun y hy => by rw [HN.out]; exact HR.out.2.lt y (List.mem_of_mem_take hy))
      have hno := Rc.lw_step_no (t := t) hnk
      have hyes := Rc.lw_step_yes (t := t) hnk
      obtain ⟨⟨ci, wi, li⟩, hei⟩ : ∃ x, x = Rc.acc t n := ⟨_, rfl⟩
      rw [← hei] at c1 c2 c3 hset hlb hno hyes hwf
      dsimp only at c1 c2 c3 hset hlb hno hyes hwf
      have hbA : Below w3.heap.size w3 (wr.alloc (.cells #[.int .i64 ci, .bool wi, .int .i64 li] 23)) := below_alloc hb _
      have hA : Blk (wr.alloc (.cells #[.int .i64 ci, .bool wi, .int .i64 li] 23)) wr.heap.size 23 [.int .i64 ci, .bool wi, .int .i64 li] := Blk.new _ _ _
      have hBA := hB.alloc (.cells #[.int .i64 ci, .bool wi, .int .i64 li] 23)
      have hMA := hM.next (below_alloc (Below.refl _ _) (.cells #[.int .i64 ci, .bool wi, .int .i64 li] 23))
      have hlook := hMA.look hwf
      obtain ⟨V, hV⟩ : ∃ V, V = Rc.lw t (ns.take k) ci := ⟨_, rfl⟩
      rw [← hV] at hlook hset hlb
      have h3r := hB.lt
      have h4r := hM.lt
      have n63 : m < maxLen := by unfold maxLen; omega
      have hwn : (Lit.int .i64 ((n : Int) + 1)).wf = true := wf_i64_rc (by omega)
      have HN63 := Lib.hid (And.intro n63 hwn)
      have HS := Lib.hid (And.intro hset (And.intro hno (And.intro hyes hbA)))
      clear n63 hwn hnk gz hcZ hgi y1 y2 y3 hcL hset hno hyes hei hV hbA hb hB hM
      rcases wi with _ | _
      · go_wp2_with (first
          | (refine wpl_set_blk hBA n (.int .i64 (V - 1)) (by kernel_rfl) (by rw [Rc.outL_length, ← HN.out]; exact hnN) rfl rfl rfl rfl rfl rfl ?_; intro w5 hB5 hg5; have hA5 := hA.grown hg5 (by simp <;> omega); have d1 : w5.cell? ⟨wr.heap.size, 1, none⟩ = some (.bool false) := (hA5.cell _).trans rfl)
          | fail)
        have hb5 := HS.out.2.2.2.trans (below_of_grown hg5 HS.out.2.2.2.size (Nat.le_refl _))
        have hM5 : MapI w5 (w3.heap.size + 1) m (Rc.lw t (ns.take k)) := hMA.keep (hg5.block _ (by simp <;> omega) (by simp))
        have HZ := Lib.hid (And.intro hb5 (And.intro hB5 hM5))
        clear hb5 hM5 hB5 hA5 hMA hBA hA d1 hg5
        go_roundw
        case rel => exact ⟨k + 1, by omega, by go_num, HZ.out.1, by rw [← HS.out.1]; exact HZ.out.2.1, m, by omega, by rw [HS.out.2.1 rfl]; exact HZ.out.2.2⟩
        case measure => simp [intOf]; omega
      · go_wp2_with (first
          | (refine wpl_set_blk hBA n (.int .i64 (V - 1)) (by kernel_rfl) (by rw [Rc.outL_length, ← HN.out]; exact hnN) rfl rfl rfl rfl rfl rfl ?_; intro w5 hB5 hg5; have hA5 := hA.grown hg5 (by simp <;> omega); have d1 : w5.cell? ⟨wr.heap.size, 1, none⟩ = some (.bool true) := (hA5.cell _).trans rfl; have d0 : w5.cell? ⟨wr.heap.size, 0, none⟩ = some (.int .i64 ci) := (hA5.cell _).trans rfl; have hM5 : MapI w5 (w3.heap.size + 1) m (Rc.lw t (ns.take k)) := hMA.keep (hg5.block _ (by simp <;> omega) (by simp)))
          | (at_mapUpdate; refine wp_mapset rfl _ rfl _ _ _ rfl (w3.heap.size + 1) m _ rfl hM5 HN63.out.1 _ _ rfl rfl hwf (by first | exact HN63.out.2 | exact wrap64_wf _) ?_; intro w6 hM6 hg6)
          | fail)
        have hb5 := HS.out.2.2.2.trans (below_of_grown hg5 HS.out.2.2.2.size (Nat.le_refl _))
        have hb6 := hb5.trans (below_of_grown hg6 hb5.size (by omega))
        have hB6 := hB5.grown hg6 (by simp)
        have HZ := Lib.hid (And.intro hb6 (And.intro hB6 hM6))
        clear hb5 hb6 hB6 hM6 hB5 hM5 hA5 hMA hBA hA d1 d0 hg5 hg6
        go_roundw
        case rel => exact ⟨k + 1, by omega, by go_num, HZ.out.1, by rw [← HS.out.1]; exact HZ.out.2.1, m + 1, by omega, by rw [HS.out.2.2.1 rfl]; exact HZ.out.2.2⟩
        case measure => simp [intOf]; omega
    · obtain rfl : N = k := by omega
      have HZ := Lib.hid (And.intro (below_self hbw3 hb) (And.intro hB hbw3.size))
      clear hb hB hM hbw3 hZ hL
      go_wp2_with fail
      go_ret2
      obtain ⟨h1, h2, h3⟩ := HZ.out
      refine SeePost.yes ns w3.heap.size HR.out.1 HR.out.2 (by rw [← HN.out]; rfl) h3 ?_ h1
      rw [HN.out, Rc.outL_all HR.out.2] at h2
      exact h2
end Go.Proofs.Ytcoijmnnnfogdaa


namespace Go.Proofs.Ytcoijmnnnfogdaa
set_option linter.unusedVariables false
set_option linter.unusedSimpArgs false
set_option maxRecDepth 100000
open Go.RowKit

theorem info_int3J : (Try.prog.info? 3).map (fun i => (i.zero, i.size, i.bytes)) = some (some (.int .i64 0), 1, 8) := by kernel_rfl
theorem info_parts1J {P : Program} {t : TypeId} {z : Value} {s b : Nat} (h : (P.info? t).map (fun i => (i.zero, i.size, i.bytes)) = some (some z, s, b)) : ∃ i, P.info? t = some i ∧ i.zero = some z ∧ i.size = s ∧ i.bytes = b := by
  obtain ⟨i, hi, he⟩ := Option.map_eq_some_iff.1 h
  injection he with h1 h2
  injection h2 with h2 h3
  exact ⟨i, hi, h1, h2, h3⟩

theorem grow_intsJ (n : Nat) (w : World) (hn : n ≤ 137438953472) :
    Calls Try.prog 44 #[.slice none 0 0, .int .i64 n] w fun e w' => ∃ v, e = .returned v ∧ w'.ownsRow w.heap.size 3 1 v 0 [] ∧ Below w.heap.size w w' := by
  rcases Nat.eq_zero_or_pos n with rfl | hpos
  · go_enter Try.func44, Try.ntmps44
    go_wp2
    go_ret
    exact ⟨_, rfl, World.ownsRow_nil _ _ _ _, Below.refl _ _⟩
  · obtain ⟨i, hi, hz0, hz1, hz2⟩ := info_parts1J info_int3J
    have hcap := grownCap_ge w n 0 3
    have hcm := grownCap_le_maxLen w n 0 3 (by unfold maxLen; omega)
    have hr := fun ty kq => Lib.run_append_nil_zeros (P := Try.prog) w 33 3 ty 3 i _ kq .i64 Try.underlying33 Try.underlying3 hi hz0 n hpos (by omega) (by omega) (by rw [hz2]; omega)
    obtain ⟨cap, hc⟩ : ∃ cap, cap = grownCap w n 0 3 := ⟨_, rfl⟩
    rw [← hc] at hcap hcm hr
    have hcz : (Builtin.zeroCells (Value.int IntKind.i64 0).cells n ++ Builtin.zeroCells (Value.int IntKind.i64 0).cells (cap - n)).size = cap * 1 := by
      simp only [Array.size_append, size_zeroCells, Value.cells, List.size_toArray, List.length_cons, List.length_nil]
      omega
    generalize (Builtin.zeroCells (Value.int IntKind.i64 0).cells n ++ Builtin.zeroCells (Value.int IntKind.i64 0).cells (cap - n)) = cur at hr hcz
    have hcm' := hcm
    unfold maxLen at hcm
    have hend : (w.drew.alloc (.cells cur 3)).ownsRow w.heap.size 3 1 (.slice (some ⟨w.heap.size, 0, none⟩) 0 cap) 0 [] ∧ Below w.heap.size w (w.drew.alloc (.cells cur 3)) :=
      ⟨⟨rfl, .inr ⟨w.heap.size, cap, cur, rfl, Nat.le_refl _, heap_alloc_new w.drew _, Nat.zero_le _, hcm', hcz, by simp⟩⟩, below_alloc (below_drew (Below.refl _ _)) _⟩
    have HR := Lib.hid hr
    have HE := Lib.hid hend
    clear hr hend hc hcz hz0 hz1 hz2 hi hcm'
    go_enter Try.func44, Try.ntmps44
    go_wp2_with (at_builtin; refine Lib.wpList_append_run _ rfl _ _ _ _ rfl _ _ rfl rfl _ _ (HR.out _ _) ?_)
    go_ret
    exact ⟨_, rfl, HE.out.1, HE.out.2⟩

theorem take_snoc_cc {α : Type} {ls : List α} {k : Nat} {a : α} (h : ls[k]? = some a) : ls.take (k + 1) = ls.take k ++ [a] := by
  obtain ⟨h', rfl⟩ := List.getElem?_eq_some_iff.1 h
  exact List.take_succ_eq_append_getElem h'
/-- values that are slices of such lists -/
def RsI (w : World) (os : List Value) (ls : List (List Int)) : Prop := os.length = ls.length ∧ ∀ (k : Nat) (a : List Int), ls[k]? = some a → ∃ u, os[k]? = some u ∧ SlV w 1 u a.length (ints .i64 a)
theorem flat_take_leJ (ls : List (List Int)) (k : Nat) : (ls.take k).flatten.length ≤ ls.flatten.length := by
  conv => rhs; rw [← List.take_append_drop k ls, List.flatten_append, List.length_append]
  omega
/-- how many the first k hold -/
def flenJ (ls : List (List Int)) (k : Nat) : Nat := (ls.take k).flatten.length
theorem flat_snocJ {ls : List (List Int)} {k : Nat} {a : List Int} (h : ls[k]? = some a) : (ls.take (k + 1)).flatten = (ls.take k).flatten ++ a := by
  rw [take_snoc_cc h, List.flatten_append, List.flatten_singleton]

theorem flenJ_le (ls : List (List Int)) (k : Nat) : flenJ ls k ≤ ls.flatten.length := flat_take_leJ ls k
theorem flenJ_snoc {ls : List (List Int)} {k : Nat} {a : List Int} (h : ls[k]? = some a) : flenJ ls (k + 1) = flenJ ls k + a.length := by
  unfold flenJ
  rw [flat_snocJ h, List.length_append]
theorem flenJ_all (ls : List (List Int)) : flenJ ls ls.length = ls.flatten.length := by unfold flenJ; rw [List.take_length]

set_option maxHeartbeats 2000000 in
theorem concat_intsJ (os : List Value) (ls : List (List Int)) (v : Value) (w : World) (h : SlV w 1 v os.length os) (hp : RsI w os ls) (hsz : ls.flatten.length ≤ 1099511627) :
    Calls Try.prog 34 #[v] w fun e w' => ∃ u, e = .returned u ∧ w'.ownsRow w.heap.size 3 1 u ls.flatten.length (ints .i64 ls.flatten) ∧ Below w.heap.size w w' := by
  obtain ⟨A, c, rfl, hle, hm, hlen, hc⟩ := h
  unfold maxLen at hm
  have hone : ∀ k, k < os.length → ∃ (A' : Option Addr) (c' : Nat) (a : List Int), os[k]? = some (.slice A' a.length c') ∧ ls[k]? = some a ∧ a.length ≤ c' ∧ c' ≤ maxLen ∧ SlV w 1 (.slice A' a.length c') a.length (ints .i64 a) := fun k hk => by
    obtain ⟨a, ha⟩ : ∃ a, ls[k]? = some a := ⟨_, List.getElem?_eq_getElem (by rw [← hp.1]; exact hk)⟩
    obtain ⟨u, hu, hs⟩ := hp.2 k a ha
    obtain ⟨A', c', rfl, h1, h2, -⟩ := id hs
    exact ⟨A', c', a, hu, ha, h1, h2, hs⟩
  have HL := Lib.hid hp.1
  have HO := Lib.hid (And.intro hone hsz)
  clear hone hsz hp hlen
  go_enter Try.func34, Try.ntmps34
  go_wp2
  go_loop [3, 11] (fun s i => ∃ k : Nat, k ≤ os.length ∧ i = .int .i64 k ∧ s = .int .i64 (flenJ ls k : Nat)) (fun s i => os.length - (intOf i).toNat)
  case atStart => exact ⟨0, Nat.zero_le _, rfl, rfl⟩
  case round =>
    obtain ⟨k, hk, rfl, rfl⟩ := hrel
    have hb := flenJ_le ls k
    have hb2 := HO.out.2
    by_cases hlt : k < os.length
    · obtain ⟨A', c', a, hu, hpk, hle', hm', -⟩ := HO.out.1 k hlt
      obtain ⟨b, o, rfl, hbb, hcc⟩ := hc.at_ (fun e => by rw [e] at hu; simp at hu)
      have c1 := hcc _ _ hu
      have hln := flenJ_snoc hpk
      have hb3 := flenJ_le ls (k + 1)
      rw [hln] at hb3
      have HN := Lib.hid hln
      obtain ⟨l, hl⟩ : ∃ l, l = flenJ ls k := ⟨_, rfl⟩
      rw [← hl] at hb hb3 ⊢
      have HK := Lib.hid hl
      clear hc hcc hu hpk hln hl
      go_wp2
      go_round
      case rel => exact ⟨k + 1, by omega, by go_num, by rw [HN.out, ← HK.out]; go_num⟩
      case measure => simp [intOf]; omega
    · have HK := Lib.hid (show k = ls.length by have := HL.out; omega)
      clear hb
      go_wp2_with fail
      refine (grow_intsJ _ _ (by rw [HK.out, flenJ_all]; omega)).mono ?_
      rintro e w1 ⟨v1, rfl, hown1, hb1⟩
      go_wp2_with fail
      go_loopw [6, 27] (fun s i wr => ∃ k : Nat, k ≤ os.length ∧ i = .int .i64 k ∧ wr.ownsRow w.heap.size 3 1 s (flenJ ls k) (ints .i64 (ls.take k).flatten) ∧ Below w.heap.size w wr) (fun s i _ => os.length - (intOf i).toNat)
      case atStart => exact ⟨0, Nat.zero_le _, rfl, hown1, hb1⟩
      case round =>
        clear hb1 hown1
        obtain ⟨k, hk, rfl, hown, hbw⟩ := hrel
        have hb := flenJ_le ls k
        by_cases hlt : k < os.length
        · obtain ⟨A', c', a, hu, hpk, hle', hm', hpr⟩ := HO.out.1 k hlt
          obtain ⟨b, o, rfl, hbb, hcc⟩ := hc.at_ (fun e => by rw [e] at hu; simp at hu)
          have c1 := (hbw.cell (p := ⟨b, o + k, none⟩) hbb).trans (hcc _ _ hu)
          have hln : (ls.take (k + 1)).flatten = (ls.take k).flatten ++ a := flat_snocJ hpk
          have hfl := flenJ_snoc hpk
          have hb3 := flenJ_le ls (k + 1)
          rw [hfl] at hb3
          obtain ⟨A'', c'', he, -, -, hil, hcd⟩ := hpr.below hbw
          injection he with e1 e2 e3
          subst e1
          have HN := Lib.hid (And.intro hln hfl)
          have n63 : flenJ ls k + a.length ≤ maxLen := by unfold maxLen; omega
          have n47 : (flenJ ls k + a.length) * 8 ≤ 140737488355328 := by omega
          have hle0 := hbw.size
          have hone : ∀ u ∈ ints .i64 a, u.oneCell' = true := ints_one1 .i64 _
          clear hc hcc hu hpk hln hfl e2 e3
          go_wp2_with (at_builtin; refine wp_append wr _ _ _ _ _ _ _ _ Try.underlying33 info_int3J rfl (by decide) hown hcd hil hone n63 n47 hle0 rfl rfl rfl rfl ?_; intro v' w4 hown4 _ _ hb4)
          have hbw4 := hbw.trans hb4
          clear hown hcd hb4 hbw hpr
          go_roundw
          case rel => exact ⟨k + 1, by omega, by go_num, by rw [HN.out.1, HN.out.2]; simpa [ints] using hown4, hbw4⟩
          case measure => simp [intOf]; omega
        · have HK2 := Lib.hid (show k = ls.length by have := HL.out; omega)
          clear hc
          go_wp2
          go_ret
          exact ⟨_, rfl, by rw [HK2.out, List.take_length, flenJ_all] at hown; exact hown, hbw⟩
end Go.Proofs.Ytcoijmnnnfogdaa
