/-
  A region that draws its order, walked once, in the order of the text: each operation is shown to give its value, or a value of which a fact is known, in whatever world the region may have come to. No program is named here.
-/
import Derived.Orders
import Derived.WalkKit
namespace Go.Proofs.YtcpoglchjkpbpaaDoor
set_option linter.unusedVariables false
set_option linter.unusedSimpArgs false
set_option maxRecDepth 100000
open Go

abbrev Env := Tmp → Value

/-- what is known of a value, and stays known while the world goes on -/
structure Fact (E : World → World → Prop) where
  holds : Value → World → Prop
  keep : ∀ v w w', holds v w → E w w' → holds v w'

inductive Kind (E : World → World → Prop) where
  | fixed (v : Value)
  | fresh (F : Fact E)

section
variable {P : Program} {ops : Array Oper} {Q : Exit → Act → World → Prop} {S : World → Prop} {E : World → World → Prop}

def Kind.val (ρ : Env) (o : Oper) : Kind E → Value
  | .fixed v => v
  | .fresh _ => match o.dst with | some d => ρ d | none => undef
def Kind.rel : Kind E → Value → World → Prop
  | .fixed v => fun u _ => u = v
  | .fresh F => F.holds

def FactsOK (looks : List Tmp) (ρ : Env) (w : World) : List (Tmp × Fact E) → Prop
  | [] => True
  | (t, F) :: r => (looks.contains t = true → F.holds (ρ t) w) ∧ FactsOK looks ρ w r

def StepTo (P : Program) (ops : Array Oper) (S : World → Prop) (E : World → World → Prop) (o : Oper) (a : Act) (w : World) (R : Value → World → Prop) : Prop :=
  if Region.wanted o (yielded ops a.tmps) = true then
    ∀ K : Act → World → Prop, (∀ v w', R v w' → S w' → E w w' → K (a.put o.dst v) w') → o.wp P a w K (fun _ _ _ => False)
  else R undef w

def Settle (P : Program) (ops : Array Oper) (S : World → Prop) (E : World → World → Prop) (Z : (Env → Act) → List (Tmp × Fact E) → Prop) : List Oper → (Env → Act) → List (Tmp × Fact E) → Prop
  | [], A, Fs => Z A Fs
  | o :: rest, A, Fs =>
    (∃ v, (∀ ρ w, S w → FactsOK (o.looksAt ops) ρ w Fs → StepTo P ops S E o (A ρ) w (fun u _ => u = v)) ∧ Settle P ops S E Z rest (fun ρ => (A ρ).put o.dst v) Fs) ∨
    (∃ d F, o.dst = some d ∧ (∀ ρ w, S w → FactsOK (o.looksAt ops) ρ w Fs → StepTo P ops S E o (A ρ) w F.holds) ∧ Settle P ops S E Z rest (fun ρ => (A ρ).put (some d) (ρ d)) ((d, F) :: Fs))

def actOf (a : Act) (ρ : Env) (l : List (Oper × Kind E)) : Act := l.foldl (fun a p => a.put p.1.dst (p.2.val ρ p.1)) a
def addFact (Fs : List (Tmp × Fact E)) (p : Oper × Kind E) : List (Tmp × Fact E) :=
  match p.2, p.1.dst with
  | .fresh F, some d => (d, F) :: Fs
  | _, _ => Fs
def factsOf (l : List (Oper × Kind E)) : List (Tmp × Fact E) := l.foldl addFact []

structure Plan (P : Program) (ops : Array Oper) (S : World → Prop) (a : Act) (l : List (Oper × Kind E)) : Prop where
  dst : ∀ p ∈ l, (∃ F, p.2 = .fresh F) → ∃ d, p.1.dst = some d
  step : ∀ pre p post, l = pre ++ p :: post → ∀ ρ w, S w → FactsOK (p.1.looksAt ops) ρ w (factsOf pre) → StepTo P ops S E p.1 (actOf a ρ pre) w p.2.rel

theorem plan_snoc {a : Act} {l : List (Oper × Kind E)} (h : Plan P ops S a l) {p : Oper × Kind E} (h1 : (∃ F, p.2 = .fresh F) → ∃ d, p.1.dst = some d)
    (h2 : ∀ ρ w, S w → FactsOK (p.1.looksAt ops) ρ w (factsOf l) → StepTo P ops S E p.1 (actOf a ρ l) w p.2.rel) : Plan P ops S a (l ++ [p]) := by
  refine ⟨fun q hq hf => ?_, fun pre q post he => ?_⟩
  · rcases List.mem_append.1 hq with hq | hq
    · exact h.dst q hq hf
    · rw [List.mem_singleton.1 hq] at hf ⊢
      exact h1 hf
  · rcases List.eq_nil_or_concat post with rfl | ⟨post', q', rfl⟩
    · have := List.append_inj' he rfl
      obtain ⟨e1, e2⟩ := this
      injection e2 with e2
      subst e1 e2
      exact h2
    · have e : pre ++ q :: (post' ++ [q']) = (pre ++ q :: post') ++ [q'] := by simp
      rw [List.concat_eq_append, e] at he
      exact h.step pre q post' (List.append_inj' he rfl).1

theorem settle_plan {Z : (Env → Act) → List (Tmp × Fact E) → Prop} {a : Act} : ∀ (l : List Oper) (pre : List (Oper × Kind E)), Plan P ops S a pre → Settle P ops S E Z l (fun ρ => actOf a ρ pre) (factsOf pre) →
    ∃ full : List (Oper × Kind E), Plan P ops S a full ∧ full.map (·.1) = pre.map (·.1) ++ l ∧ Z (fun ρ => actOf a ρ full) (factsOf full) := by
  intro l
  induction l with
  | nil => exact fun pre hp h => ⟨pre, hp, by simp, h⟩
  | cons o rest ih =>
    intro pre hp h
    rcases h with ⟨v, h1, h2⟩ | ⟨d, F, hd, h1, h2⟩
    · obtain ⟨full, q1, q2, q3⟩ := ih (pre ++ [(o, .fixed v)]) (plan_snoc (p := (o, .fixed v)) hp (fun ⟨F, h⟩ => by cases h) h1) (by
        have e1 : (fun ρ => actOf a ρ (pre ++ [(o, (Kind.fixed v : Kind E))])) = fun ρ => (actOf a ρ pre).put o.dst v := by
          funext ρ; simp [actOf, Kind.val]
        have e2 : factsOf (pre ++ [(o, (Kind.fixed v : Kind E))]) = factsOf pre := by simp [factsOf, addFact]
        rw [e1, e2]
        exact h2)
      exact ⟨full, q1, by rw [q2]; simp, q3⟩
    · obtain ⟨full, q1, q2, q3⟩ := ih (pre ++ [(o, .fresh F)]) (plan_snoc (p := (o, .fresh F)) hp (fun _ => ⟨d, hd⟩) h1) (by
        have e1 : (fun ρ => actOf a ρ (pre ++ [(o, (Kind.fresh F : Kind E))])) = fun ρ => (actOf a ρ pre).put (some d) (ρ d) := by
          funext ρ; simp [actOf, Kind.val, hd]
        have e2 : factsOf (pre ++ [(o, (Kind.fresh F : Kind E))]) = (d, F) :: factsOf pre := by simp [factsOf, addFact, hd]
        rw [e1, e2]
        exact h2)
      exact ⟨full, q1, by rw [q2]; simp, q3⟩

/-! ### what an act holds when some of the operations have come up -/
structure Holds (a0 : Act) (full : List (Oper × Kind E)) (L : Nat → Prop) (ρ : Env) (a : Act) : Prop where
  defers : a.defers = a0.defers
  size : a.tmps.size = a0.tmps.size
  far : ∀ t, (∀ i p, L i → full[i]? = some p → p.1.dst ≠ some t) → a.tmps[t]? = a0.tmps[t]?
  near : ∀ i p t, L i → full[i]? = some p → p.1.dst = some t → t < a0.tmps.size → a.tmps[t]? = some (p.2.val ρ p.1)

theorem put_size (a : Act) (d : Option Tmp) (v : Value) : (a.put d v).tmps.size = a.tmps.size := by cases d <;> simp [Act.put]
theorem put_defers' (a : Act) (d : Option Tmp) (v : Value) : (a.put d v).defers = a.defers := by cases d <;> simp [Act.put]
theorem put_get_ne (a : Act) (d : Option Tmp) (v : Value) (t : Tmp) (h : d ≠ some t) : (a.put d v).tmps[t]? = a.tmps[t]? := by
  cases d with
  | none => rfl
  | some d => simp [Act.put, Array.getElem?_setIfInBounds_ne (show d ≠ t from fun e => h (by rw [e]))]
theorem put_get_eq (a : Act) (v : Value) (t : Tmp) (h : t < a.tmps.size) : (a.put (some t) v).tmps[t]? = some v := by
  simp [Act.put, h]

theorem Holds.put {a0 a : Act} {full : List (Oper × Kind E)} {L L' : Nat → Prop} {ρ ρ' : Env} (h : Holds a0 full L ρ a) {i : Nat} {p : Oper × Kind E} (hp : full[i]? = some p) (hL : ∀ j, L' j ↔ j = i ∨ L j)
    (hdist : ∀ j q, L j → full[j]? = some q → ∀ d, q.1.dst = some d → p.1.dst ≠ some d) (hρ : ∀ j q, L j → full[j]? = some q → q.2.val ρ' q.1 = q.2.val ρ q.1) :
    Holds a0 full L' ρ' (a.put p.1.dst (p.2.val ρ' p.1)) := by
  refine ⟨(put_defers' _ _ _).trans h.defers, (put_size _ _ _).trans h.size, fun t ht => ?_, fun j q t hj hq hd hlt => ?_⟩
  · rw [put_get_ne _ _ _ _ (ht i p ((hL i).2 (.inl rfl)) hp)]
    exact h.far t fun j q hj hq => ht j q ((hL j).2 (.inr hj)) hq
  · rcases (hL j).1 hj with rfl | hj'
    · rw [hp] at hq
      injection hq with hq
      subst hq
      rw [hd]
      exact put_get_eq _ _ _ (by rw [h.size]; exact hlt)
    · rw [put_get_ne _ _ _ _ (hdist j q hj' hq t hd), h.near j q t hj' hq hd hlt, hρ j q hj' hq]

theorem Holds.agree {a0 a a' : Act} {full : List (Oper × Kind E)} {L L' : Nat → Prop} {ρ : Env} (h : Holds a0 full L ρ a) (h' : Holds a0 full L' ρ a') (t : Tmp)
    (ht : ∀ j q, full[j]? = some q → q.1.dst = some t → (L j ↔ L' j)) : a.tmps[t]? = a'.tmps[t]? := by
  by_cases hex : ∃ j q, L j ∧ full[j]? = some q ∧ q.1.dst = some t
  · obtain ⟨j, q, hj, hq, hd⟩ := hex
    rcases Nat.lt_or_ge t a0.tmps.size with hlt | hge
    · rw [h.near j q t hj hq hd hlt, h'.near j q t ((ht j q hq hd).1 hj) hq hd hlt]
    · rw [Array.getElem?_eq_none (by rw [h.size]; exact hge), Array.getElem?_eq_none (by rw [h'.size]; exact hge)]
  · rw [h.far t (fun j q hj hq hd => hex ⟨j, q, hj, hq, hd⟩), h'.far t (fun j q hj hq hd => hex ⟨j, q, (ht j q hq hd).2 hj, hq, hd⟩)]

theorem Holds.unique {a0 a a' : Act} {full : List (Oper × Kind E)} {L : Nat → Prop} {ρ : Env} (h : Holds a0 full L ρ a) (h' : Holds a0 full L ρ a') : a = a' := by
  have e : a.tmps = a'.tmps := Array.ext_getElem? fun t => h.agree h' t fun _ _ _ _ => Iff.rfl
  have d := h.defers.trans h'.defers.symm
  cases a; cases a'; simp_all

/-- the order of the text is one, and what is not apart waits -/
def linearB (ops : Array Oper) : Bool :=
  Region.noSelect ops && (List.range ops.size).all fun j =>
    match ops[j]? with
    | none => true
    | some oj => oj.after.all (fun e => !Region.binds .any e || decide (e.on < j)) && !((oj.dst.map fun d => (oj.looksAt ops).contains d).getD false) && (List.range j).all fun i =>
      match ops[i]? with
      | none => true
      | some oi => (oi.apart ops oj || oj.after.any (fun e => Region.binds .any e && e.on == i)) && (match oi.dst with | some d => oj.dst != some d | none => true)

structure Linear (ops : Array Oper) : Prop where
  sel : ∀ (j : Nat) (o : Oper) cs b, ops[j]? = some o → o.op ≠ .select cs b
  back : ∀ (j : Nat) (o : Oper), ops[j]? = some o → ∀ e ∈ o.after, Region.binds .any e = true → e.on < j
  self : ∀ (j : Nat) (o : Oper) d, ops[j]? = some o → o.dst = some d → d ∉ o.looksAt ops
  wait : ∀ (i j : Nat) (oi oj : Oper), i < j → ops[i]? = some oi → ops[j]? = some oj → oi.apart ops oj = true ∨ ∃ e ∈ oj.after, Region.binds .any e = true ∧ e.on = i
  dist : ∀ (i j : Nat) (oi oj : Oper) d, i < j → ops[i]? = some oi → ops[j]? = some oj → oi.dst = some d → oj.dst ≠ some d

theorem linear_of (h : linearB ops = true) : Linear ops := by
  unfold linearB at h
  rw [Bool.and_eq_true, List.all_eq_true] at h
  obtain ⟨h0, h⟩ := h
  have key : ∀ (j : Nat) (oj : Oper), ops[j]? = some oj → _ := fun j oj hj => by
    have := h j (List.mem_range.2 (Array.getElem?_eq_some_iff.1 hj).1)
    rw [hj] at this
    simp only [Bool.and_eq_true] at this
    exact this
  refine ⟨Region.noSelect_spec h0, fun j o ho e he hb => ?_, fun j o d ho hd hmem => ?_, fun i j oi oj hij hi hj => ?_, fun i j oi oj d hij hi hj hd => ?_⟩
  · have := (key j o ho).1.1
    rw [Array.all_eq_true_iff_forall_mem] at this
    have := this e he
    simpa [hb] using this
  · have := (key j o ho).1.2
    rw [hd] at this
    simp [hmem] at this
  · have := (List.all_eq_true.1 (key j oj hj).2) i (List.mem_range.2 hij)
    rw [hi] at this
    simp only [Bool.and_eq_true, Bool.or_eq_true] at this
    rcases this.1 with h | h
    · exact .inl h
    · obtain ⟨n, hn, hb⟩ := Array.any_eq_true.1 h
      simp only [Bool.and_eq_true, beq_iff_eq] at hb
      exact .inr ⟨_, Array.getElem_mem hn, hb.1, hb.2⟩
  · have := (List.all_eq_true.1 (key j oj hj).2) i (List.mem_range.2 hij)
    rw [hi] at this
    simp only [Bool.and_eq_true] at this
    have h2 := this.2
    rw [hd] at h2
    simpa using h2

/-! ### whatever order comes up -/
theorem factsOK_of {looks : List Tmp} {ρ : Env} {w : World} : ∀ (Fs : List (Tmp × Fact E)), (∀ t F, (t, F) ∈ Fs → looks.contains t = true → F.holds (ρ t) w) → FactsOK looks ρ w Fs
  | [], _ => trivial
  | (t, F) :: r, h => ⟨h t F (by simp), factsOK_of r fun t' F' hm => h t' F' (by simp [hm])⟩

theorem mem_facts {l : List (Oper × Kind E)} {t : Tmp} {F : Fact E} : ∀ {Fs : List (Tmp × Fact E)}, (t, F) ∈ l.foldl addFact Fs → (t, F) ∈ Fs ∨ ∃ (i : Nat) (p : Oper × Kind E), l[i]? = some p ∧ p.2 = .fresh F ∧ p.1.dst = some t := by
  induction l with
  | nil => exact fun h => .inl h
  | cons q l ih =>
    intro Fs h
    rw [List.foldl_cons] at h
    rcases ih h with h | ⟨i, p, h1, h2⟩
    · obtain ⟨o, k⟩ := q
      rcases k with v | G
      · exact .inl (by simpa [addFact] using h)
      · rcases hd : o.dst with _ | d
        · exact .inl (by simpa [addFact, hd] using h)
        · simp only [addFact, hd, List.mem_cons, Prod.mk.injEq] at h
          rcases h with ⟨rfl, rfl⟩ | h
          · exact .inr ⟨0, _, rfl, rfl, hd⟩
          · exact .inl h
    · exact .inr ⟨i + 1, p, by simpa using h1, h2⟩

theorem wp_carry {o : Oper} {a1 a2 : Act} {w : World} {R : Value → World → Prop} {K : Act → World → Prop} (he : execOp a2.eval o = execOp a1.eval o) (hsz : a1.tmps.size = a2.tmps.size)
    (h : o.wp P a1 w (fun a' w' => ∃ v, a' = a1.put o.dst v ∧ R v w') (fun _ _ _ => False)) (hK : ∀ v w', R v w' → K (a2.put o.dst v) w') : o.wp P a2 w K Q := by
  have key : ∀ u v, a1.put o.dst u = a1.put o.dst v → a2.put o.dst u = a2.put o.dst v := by
    intro u v huv
    cases hd : o.dst with
    | none => rfl
    | some d =>
      rw [hd] at huv
      rcases Nat.lt_or_ge d a1.tmps.size with hlt | hge
      · have h1 := put_get_eq a1 u d hlt
        rw [huv, put_get_eq a1 v d hlt] at h1
        injection h1 with h1
        rw [h1]
      · have : ¬ d < a2.tmps.size := by rw [← hsz]; exact Nat.not_lt.2 hge
        simp [Act.put, Array.setIfInBounds, this]
  have kd : ∀ (d : Deferred) u v, ({ a1 with defers := d :: a1.defers } : Act).put o.dst u = a1.put o.dst v → False := by
    intro d u v h
    have := congrArg Act.defers h
    rw [put_defers', put_defers'] at this
    simp at this
  unfold Oper.wp at *
  rw [he]
  generalize (execOp a1.eval o).run P w = r at *
  cases r with
  | ok n w' =>
    cases n <;> simp only [Oper.upon] at h ⊢
    case value u => obtain ⟨v, e, hR⟩ := h; rw [key u v e]; exact hK v _ hR
    case skip => obtain ⟨v, e, hR⟩ := h; rw [key _ v e]; exact hK v _ hR
    case defer d => obtain ⟨v, e, hR⟩ := h; exact (kd d _ v e).elim
    case enter f args =>
      refine Calls.mono h fun e w'' hh => ?_
      cases e with
      | returned u => obtain ⟨v, e, hR⟩ := hh; simp only; rw [key u v e]; exact hK v _ hR
      | panicked c => exact hh.elim
      | outgrown => obtain ⟨_, _, hf⟩ := hh; exact hf.elim
    case row row args => exact Rows.mono h fun u w'' hh => by obtain ⟨v, e, hR⟩ := hh; rw [key u v e]; exact hK v _ hR
  | halt x w' => cases x <;> simp only [Oper.upon] at h ⊢

theorem holds_prefix (a0 : Act) (full : List (Oper × Kind E)) (ρ : Env) (hdist : ∀ (i j : Nat) (p q : Oper × Kind E) (d : Tmp), i < j → full[i]? = some p → full[j]? = some q → p.1.dst = some d → q.1.dst ≠ some d) :
    ∀ n, n ≤ full.length → Holds a0 full (fun i => i < n) ρ (actOf a0 ρ (full.take n)) := by
  intro n
  induction n with
  | zero => exact fun _ => ⟨rfl, rfl, fun _ _ => rfl, fun i p t hi => absurd hi (Nat.not_lt_zero _)⟩
  | succ n ih =>
    intro hn
    have hp : full[n]? = some full[n] := List.getElem?_eq_getElem (by omega)
    have e : actOf a0 ρ (full.take (n + 1)) = (actOf a0 ρ (full.take n)).put full[n].1.dst (full[n].2.val ρ full[n].1) := by
      unfold actOf
      rw [List.take_succ_eq_append_getElem (by omega), List.foldl_append]
      rfl
    rw [e]
    exact (ih (by omega)).put hp (fun j => by omega) (fun j q hj hq d hd => hdist j n q _ d hj hq hp hd) (fun _ _ _ _ => rfl)

theorem any_order {a0 : Act} {full : List (Oper × Kind E)} (hops : full.map (·.1) = ops.toList) (hlin : Linear ops) (hp : Plan P ops S a0 full)
    (hZ : ∀ ρ w, S w → (∀ t F, (t, F) ∈ factsOf full → F.holds (ρ t) w) → Q .normal (actOf a0 ρ full) w) :
    ∀ (fuel : Nat) (listed : Array Bool) (a : Act) (w : World) (ρ : Env), listed.size = ops.size → (∀ i j o, listed.getD j false = true → ops[j]? = some o → (∃ e ∈ o.after, Region.binds .any e = true ∧ e.on = i) → listed.getD i false = true) →
      (∃ todo : List Nat, todo.length ≤ fuel ∧ ∀ i, i < ops.size → listed.getD i false = false → i ∈ todo) →
      Holds a0 full (fun i => listed.getD i false = true) ρ a → S w → (∀ (i : Nat) (p : Oper × Kind E) (F : Fact E) (d : Tmp), listed.getD i false = true → full[i]? = some p → p.2 = .fresh F → p.1.dst = some d → F.holds (ρ d) w) →
      wpAny P .any ops Q fuel listed a w := by
  have hget : ∀ (i : Nat) (p : Oper × Kind E), full[i]? = some p → ops[i]? = some p.1 := fun i p h => by
    have : (full.map (·.1))[i]? = some p.1 := by simp [h]
    rw [hops] at this
    simpa using this
  have hlen : full.length = ops.size := by
    have := congrArg List.length hops
    simpa using this
  have hget' : ∀ (i : Nat) (o : Oper), ops[i]? = some o → ∃ p : Oper × Kind E, full[i]? = some p ∧ p.1 = o := fun i o h => by
    have hi : i < full.length := by rw [hlen]; exact (Array.getElem?_eq_some_iff.1 h).1
    have h1 := hget i _ (List.getElem?_eq_getElem hi)
    rw [h] at h1
    injection h1 with h1
    exact ⟨_, List.getElem?_eq_getElem hi, h1.symm⟩
  have hdist : ∀ (i j : Nat) (p q : Oper × Kind E) (d : Tmp), i < j → full[i]? = some p → full[j]? = some q → p.1.dst = some d → q.1.dst ≠ some d := fun i j p q d hij h1 h2 => hlin.dist i j _ _ d hij (hget i p h1) (hget j q h2)
  have hdist2 : ∀ (i j : Nat) (p q : Oper × Kind E) (d : Tmp), i ≠ j → full[i]? = some p → full[j]? = some q → p.1.dst = some d → q.1.dst ≠ some d := fun i j p q d hij h1 h2 hd hd' => by
    rcases Nat.lt_or_gt_of_ne hij with h | h
    · exact hdist i j p q d h h1 h2 hd hd'
    · exact hdist j i q p d h h2 h1 hd' hd
  -- all have come up
  have fin : ∀ (listed : Array Bool) (a : Act) (w : World) (ρ : Env), listed.size = ops.size → (∀ i, i < ops.size → listed.getD i false = true) → Holds a0 full (fun i => listed.getD i false = true) ρ a → S w →
      (∀ (i : Nat) (p : Oper × Kind E) (F : Fact E) (d : Tmp), listed.getD i false = true → full[i]? = some p → p.2 = .fresh F → p.1.dst = some d → F.holds (ρ d) w) → Q .normal a w := fun listed a w ρ hsz hall hH hS hF => by
    have h1 : Holds a0 full (fun i => i < full.length) ρ (actOf a0 ρ full) := by
      have := holds_prefix a0 full ρ hdist full.length (Nat.le_refl _)
      rwa [List.take_length] at this
    have h2 : Holds a0 full (fun i => i < full.length) ρ a :=
      ⟨hH.defers, hH.size, fun t ht => hH.far t fun i p hi hp => ht i p (List.getElem?_eq_some_iff.1 hp).1 hp, fun i p t hi => hH.near i p t (hall i (by omega))⟩
    rw [h2.unique h1]
    refine hZ ρ w hS fun t F hm => ?_
    rcases mem_facts hm with h | ⟨i, p, h1, h2, h3⟩
    · cases h
    · exact hF i p F t (hall i (by have := (List.getElem?_eq_some_iff.1 h1).1; omega)) h1 h2 h3
  have none_left : ∀ listed : Array Bool, listed.size = ops.size → Region.ready .any ops listed = [] → ∀ n i, i < n → i < ops.size → listed.getD i false = true := by
    intro listed hsz hr n
    induction n with
    | zero => intro i h; omega
    | succ n ih =>
      intro i hi hlt
      cases hli : listed.getD i false with
      | true => rfl
      | false =>
        have ho : ops[i]? = some ops[i] := Array.getElem?_eq_getElem hlt
        have hmem : i ∈ Region.ready .any ops listed := by
          rw [mem_ready]
          refine ⟨?_, _, ho, fun e he hb => ?_⟩
          · simp only [Array.getD, hsz, hlt, dif_pos] at hli ⊢
            exact hli
          · have := hlin.back i _ ho e he hb
            exact ih e.on (by omega) (by omega)
        rw [hr] at hmem
        cases hmem
  intro fuel
  induction fuel with
  | zero =>
    intro listed a w ρ hsz hdown ⟨todo, htodo, hin⟩ hH hS hF
    have hall : ∀ i, i < ops.size → listed.getD i false = true := fun i hi => by
      cases hli : listed.getD i false with
      | true => rfl
      | false =>
        have := hin i hi hli
        rw [List.eq_nil_of_length_eq_zero (Nat.le_zero.1 htodo)] at this
        cases this
    refine ⟨?_, fin listed a w ρ hsz hall hH hS hF⟩
    rw [List.eq_nil_iff_forall_not_mem]
    intro i hi
    obtain ⟨h0, o, ho, _⟩ := mem_ready.1 hi
    have hlt := (Array.getElem?_eq_some_iff.1 ho).1
    have := hall i hlt
    simp only [Array.getD, hsz, hlt, dif_pos] at this h0
    rw [this] at h0
    cases h0
  | succ fuel ih =>
    intro listed a w ρ hsz hdown ⟨todo, htodo, hin⟩ hH hS hF
    refine ⟨fun hr => fin listed a w ρ hsz (fun i hi => none_left listed hsz hr (i + 1) i (by omega) hi) hH hS hF, fun i hi => ?_⟩
    obtain ⟨h0, o, ho, hall⟩ := mem_ready.1 hi
    have hlt := (Array.getElem?_eq_some_iff.1 ho).1
    have h0' : listed.getD i false = false := by
      simp only [Array.getD, hsz, hlt, dif_pos] at h0 ⊢
      exact h0
    obtain ⟨p, hpi, rfl⟩ := hget' i o ho
    have hil : i < full.length := by omega
    have hpre : Holds a0 full (fun j => j < i) ρ (actOf a0 ρ (full.take i)) := holds_prefix a0 full ρ hdist i (by omega)
    have hsplit : full = full.take i ++ p :: full.drop (i + 1) := by
      have : full[i] = p := by have := List.getElem?_eq_getElem hil; rw [hpi] at this; injection this with this; exact this.symm
      rw [← this, List.getElem_cons_drop, List.take_append_drop]
    have hstep := hp.step _ p _ hsplit ρ w hS
    have conf : ∀ (j : Nat) (q : Oper × Kind E), full[j]? = some q → ∀ t, q.1.dst = some t → t ∈ p.1.looksAt ops → (listed.getD j false = true ↔ j < i) := by
      intro j q hq t hd hl
      have hoj := hget j q hq
      rcases Nat.lt_trichotomy j i with h | h | h
      · refine ⟨fun _ => h, fun _ => ?_⟩
        rcases hlin.wait j i _ _ h hoj ho with hap | ⟨e, he, hb, hon⟩
        · exact absurd hl ((Oper.apart_spec hap).1 t hd)
        · rw [← hon]; exact hall e he hb
      · subst h
        rw [hpi] at hq
        injection hq with hq
        subst hq
        exact absurd hl (hlin.self j _ t ho hd)
      · refine ⟨fun hj => ?_, fun h' => by omega⟩
        exfalso
        rcases hlin.wait i j _ _ h ho hoj with hap | ⟨e, he, hb, hon⟩
        · exact absurd hl ((Oper.apart_spec hap).2.2 t hd)
        · have := hdown i j _ hj hoj ⟨e, he, hb, hon⟩
          rw [h0'] at this
          cases this
    have hfacts : FactsOK (p.1.looksAt ops) ρ w (factsOf (full.take i)) := factsOK_of _ fun t F hm hl => by
      rcases mem_facts hm with h | ⟨j, q, h1, h2, h3⟩
      · cases h
      · have hji : j < i := by
          have := (List.getElem?_eq_some_iff.1 h1).1
          rw [List.length_take] at this
          omega
        have hq : full[j]? = some q := by
          rw [List.getElem?_take, if_pos hji] at h1
          exact h1
        exact hF j q F t ((conf j q hq t h3 (by simpa using hl)).2 hji) hq h2 h3
    have hst := hstep hfacts
    have hag : ∀ t, t ∈ p.1.looksAt ops → a.tmps[t]? = (actOf a0 ρ (full.take i)).tmps[t]? := fun t ht =>
      hH.agree hpre t fun j q hq hd => conf j q hq t hd ht
    have hexec : execOp a.eval p.1 = execOp (actOf a0 ρ (full.take i)).eval p.1 := execOp_congr p.1 (fun cs b => hlin.sel i _ cs b ho) fun x hx => by
      cases x with
      | tmp t =>
        have := hag t (List.mem_append_left _ (List.mem_filterMap.2 ⟨.tmp t, by simpa using hx, rfl⟩))
        simp only [Act.eval, Array.getD_eq_getD_getElem?]
        rw [this]
      | _ => rfl
    have hwant : Region.wanted p.1 (yielded ops a.tmps) = Region.wanted p.1 (yielded ops (actOf a0 ρ (full.take i)).tmps) := by
      unfold Region.wanted
      cases hg : p.1.guard with
      | none => rfl
      | some gw =>
        obtain ⟨g, want⟩ := gw
        have : yielded ops a.tmps g = yielded ops (actOf a0 ρ (full.take i)).tmps g := by
          unfold yielded
          cases ht : (ops[g]?).bind (·.dst) with
          | none => rfl
          | some t =>
            have := hag t (List.mem_append_right _ (by simp [hg, ht]))
            simp only [Option.bind_some, this]
        simp only [this]
    have size_eq : (actOf a0 ρ (full.take i)).tmps.size = a.tmps.size := hpre.size.trans hH.size.symm
    -- the way on
    have go : ∀ v w', p.2.rel v w' → S w' → (∀ (j : Nat) (q : Oper × Kind E) (F : Fact E) (d : Tmp), listed.getD j false = true → full[j]? = some q → q.2 = .fresh F → q.1.dst = some d → F.holds (ρ d) w') →
        wpAny P .any ops Q fuel (listed.setIfInBounds i true) (a.put p.1.dst v) w' := by
      intro v w' hR hS' hF'
      have next : ∀ ρ' : Env, p.2.val ρ' p.1 = v → (∀ j q, j ≠ i → full[j]? = some q → q.2.val ρ' q.1 = q.2.val ρ q.1) → (∀ j q F d, j ≠ i → full[j]? = some q → q.2 = .fresh F → q.1.dst = some d → ρ' d = ρ d) → (∀ F d, p.2 = .fresh F → p.1.dst = some d → F.holds (ρ' d) w') →
          wpAny P .any ops Q fuel (listed.setIfInBounds i true) (a.put p.1.dst v) w' := by
        intro ρ' hv hothers hd' hself
        have hset : ∀ j, (listed.setIfInBounds i true).getD j false = true ↔ j = i ∨ listed.getD j false = true := fun j => by
          by_cases hji : j = i
          · subst hji
            simp [Array.getD, hsz, hlt]
          · rw [getD_set_ne false (Ne.symm hji)]
            simp [hji]
        refine ih _ _ _ ρ' (by simpa using hsz) (fun i' j o' hj ho' he => ?_) ⟨todo.filter (· != i), ?_, fun j hj hjl => ?_⟩ ?_ hS' (fun j q F d hj hq hf hd => ?_)
        · rcases (hset j).1 hj with rfl | hj
          · obtain ⟨e, he, hb, hon⟩ := he
            rw [ho] at ho'
            injection ho' with ho'
            subst ho'
            rw [hset, ← hon]
            exact .inr (hall e he hb)
          · exact (hset i').2 (.inr (hdown i' j o' hj ho' he))
        · have : (todo.filter (· != i)).length < todo.length := by
            rw [List.length_filter_lt_length_iff_exists]
            exact ⟨i, hin i hlt h0', by simp⟩
          omega
        · have hne : j ≠ i := fun e => by
            have := (hset j).2 (.inl e)
            rw [this] at hjl
            cases hjl
          refine List.mem_filter.2 ⟨hin j hj ?_, by simpa using hne⟩
          rwa [getD_set_ne false (Ne.symm hne)] at hjl
        · have := hH.put (ρ' := ρ') hpi hset (fun j q hj hq d hd => hdist2 j i q p d (fun e => by rw [e, h0'] at hj; cases hj) hq hpi hd) (fun j q hj hq => hothers j q (fun e => by rw [e, h0'] at hj; cases hj) hq)
          rwa [hv] at this
        · rcases (hset j).1 hj with rfl | hj
          · rw [hpi] at hq
            injection hq with hq
            subst hq
            exact hself F d hf hd
          · have hne : j ≠ i := fun e => by rw [e, h0'] at hj; cases hj
            rw [hd' j q F d hne hq hf hd]
            exact hF' j q F d hj hq hf hd
      cases hk : p.2 with
      | fixed v0 =>
        have hv : v = v0 := by rw [hk] at hR; exact hR
        exact next ρ (by rw [hk]; exact hv.symm) (fun _ _ _ _ => rfl) (fun _ _ _ _ _ _ _ _ => rfl) (fun F d hf => by rw [hk] at hf; cases hf)
      | fresh F =>
        obtain ⟨d, hd⟩ := hp.dst p (by rw [hsplit]; simp) ⟨F, hk⟩
        have hR' : F.holds v w' := by rw [hk] at hR; exact hR
        have hne : ∀ j q d', j ≠ i → full[j]? = some q → q.1.dst = some d' → d' ≠ d := fun j q d' hji hq hd' e => hdist2 j i q p d' hji hq hpi hd' (by rw [hd, e])
        refine next (fun t => if t = d then v else ρ t) (by rw [hk]; simp [Kind.val, hd]) (fun j q hji hq => ?_) (fun j q F' d' hji hq _ hd' => if_neg (hne j q d' hji hq hd')) (fun F' d' hf hd' => ?_)
        · cases hkq : q.2 with
          | fixed v0 => rfl
          | fresh F' =>
            obtain ⟨d', hd'⟩ := hp.dst q (List.mem_of_getElem? hq) ⟨F', hkq⟩
            simp only [Kind.val, hd']
            exact if_neg (hne j q d' hji hq hd')
        · rw [hk] at hf
          injection hf with hf
          rw [hd] at hd'
          injection hd' with hd'
          subst hf hd'
          simpa using hR'
    unfold wpOp
    simp only [ho]
    unfold StepTo at hst
    rw [← hwant] at hst
    split
    · rename_i hw
      rw [if_pos hw] at hst
      refine .inl (wp_carry (R := fun v w' => p.2.rel v w' ∧ S w' ∧ E w w') hexec size_eq (hst _ fun v w' h1 h2 h3 => ⟨v, rfl, h1, h2, h3⟩) fun v w' ⟨h1, h2, h3⟩ => go v w' h1 h2 fun j q F d hj hq hf hd => F.keep _ _ _ (hF j q F d hj hq hf hd) h3)
    · rename_i hw
      rw [if_neg hw] at hst
      exact go undef w hst hS hF

/-- THE RULE -/
theorem wp_settle {id : Nat} {a : Act} {w : World} {l : List Oper} (hm : P.follows .mixedOrders = true) (hlin : linearB l.toArray = true) (E : World → World → Prop) (S : World → Prop) (hS : S w.drew)
    (h : Settle P l.toArray S E (fun A Fs => ∀ ρ w', S w' → (∀ t F, (t, F) ∈ Fs → F.holds (ρ t) w') → Q .normal (A ρ) w') l (fun _ => a) []) : (Code.region id l.toArray true).wp P Q a w := by
  obtain ⟨full, hp, he, hZ⟩ := settle_plan l [] ⟨(fun _ h => by cases h), (fun pre p post he => by simp at he)⟩ h
  refine wp_region_any hm (any_order (by simpa using he) (linear_of hlin) hp hZ _ _ a _ (fun _ => undef) (by simp) (fun i j o hj => ?_) ⟨List.range l.toArray.size, by simp, fun i hi _ => List.mem_range.2 hi⟩ ⟨rfl, rfl, fun _ _ => rfl, fun i p t hi => ?_⟩ hS fun i p F d hi => ?_)
  · exfalso; revert hj; simp [Array.getD]
  · exfalso; revert hi; simp [Array.getD]
  · exfalso; revert hi; simp [Array.getD]
end
end Go.Proofs.YtcpoglchjkpbpaaDoor
