/-
  scope's walker: within, walked.
-/
import Derived.Test.YtkjmddgnfgbioaaDoorUsP1
import Derived.Test.YtkjmddgnfgbioaaDoorChecked
import Derived.Test.YtkjmddgnfgbioaaDoorUsP2
import Derived.StillTailTactics
import Derived.Deep.RegionLaw
import Derived.WalkLawsBesides
import Derived.ArgAppend
import Derived.BigQuiet

namespace Go.Proofs.YtkjmddgnfgbioaaDoor
set_option linter.unusedVariables false
set_option linter.unusedSimpArgs false
set_option maxRecDepth 100000
open Go

section
variable {P : Program} {ops : Array Oper} {Q : Exit → Act → World → Prop} {S : World → Prop} {E : World → World → Prop} {mk fl : Nat → Bool}

/-- by its edges j comes behind i -/
def reachB (ops : Array Oper) : Nat → Nat → Nat → Bool
  | 0, j, i => j == i
  | f + 1, j, i => j == i || (match ops[j]? with
    | some o => o.after.any fun e => Region.binds .any e && reachB ops f e.on i
    | none => false)

theorem reach_closed {listed : Array Bool} (hdown : ∀ j o, listed.getD j false = true → ops[j]? = some o → ∀ e ∈ o.after, Region.binds .any e = true → listed.getD e.on false = true) :
    ∀ (f j i : Nat), reachB ops f j i = true → listed.getD j false = true → listed.getD i false = true := by
  intro f
  induction f with
  | zero =>
    intro j i h hj
    have : j = i := by simpa [reachB] using h
    rw [← this]; exact hj
  | succ f ih =>
    intro j i h hj
    unfold reachB at h
    rw [Bool.or_eq_true] at h
    rcases h with h | h
    · have : j = i := by simpa using h
      rw [← this]; exact hj
    · split at h
      · rename_i o ho
        obtain ⟨n, hn, hb⟩ := Array.any_eq_true.1 h
        rw [Bool.and_eq_true] at hb
        exact ih _ _ hb.2 (hdown j o hj ho _ (Array.getElem_mem hn) hb.1)
      · cases h

def markB (ops : Array Oper) (mk fl : Nat → Bool) (ms : List Nat) : Bool :=
  ms.all fun m => decide (m < ops.size) && (List.range ops.size).all fun i => i == m || (if i < m then fl i || reachB ops 6 m i else reachB ops 6 i m)

structure Marked (ops : Array Oper) (mk fl : Nat → Bool) : Prop where
  lt : ∀ m, mk m = true → m < ops.size
  before : ∀ m i, mk m = true → i < m → fl i = false → reachB ops 6 m i = true
  after : ∀ m i, mk m = true → m < i → i < ops.size → reachB ops 6 i m = true

theorem marked_of {ms : List Nat} (hms : ∀ m, mk m = true → m ∈ ms) (h : markB ops mk fl ms = true) : Marked ops mk fl := by
  have key := List.all_eq_true.1 h
  refine ⟨fun m hm => ?_, fun m i hm hi hf => ?_, fun m i hm hi hlt => ?_⟩
  · have := key m (hms m hm)
    rw [Bool.and_eq_true, decide_eq_true_eq] at this
    exact this.1
  · have := key m (hms m hm)
    rw [Bool.and_eq_true, decide_eq_true_eq] at this
    have h2 := List.all_eq_true.1 this.2 i (List.mem_range.2 (by omega))
    have hne : (i == m) = false := by simp; omega
    rw [hne, Bool.false_or, if_pos hi, hf, Bool.false_or] at h2
    exact h2
  · have := key m (hms m hm)
    rw [Bool.and_eq_true, decide_eq_true_eq] at this
    have h2 := List.all_eq_true.1 this.2 i (List.mem_range.2 hlt)
    have hne : (i == m) = false := by simp; omega
    rw [hne, Bool.false_or, if_neg (by omega)] at h2
    exact h2

/-- what is known since the last mark -/
def factsM (mk : Nat → Bool) : Nat → List (Oper × Kind E) → List (Tmp × Fact E) → List (Tmp × Fact E)
  | _, [], Fs => Fs
  | k, p :: l, Fs => factsM mk (k + 1) l (addFact (cond (mk k) [] Fs) p)

theorem factsM_snoc : ∀ (l : List (Oper × Kind E)) (k : Nat) (Fs : List (Tmp × Fact E)) (p : Oper × Kind E), factsM mk k (l ++ [p]) Fs = addFact (cond (mk (k + l.length)) [] (factsM mk k l Fs)) p
  | [], k, Fs, p => rfl
  | q :: l, k, Fs, p => by
    show factsM mk (k + 1) (l ++ [p]) _ = _
    rw [factsM_snoc l (k + 1), List.length_cons, show k + 1 + l.length = k + (l.length + 1) by omega]
    rfl

theorem mem_addFact {Fs : List (Tmp × Fact E)} {p : Oper × Kind E} {t : Tmp} {F : Fact E} (h : (t, F) ∈ addFact Fs p) : (t, F) ∈ Fs ∨ (p.2 = .fresh F ∧ p.1.dst = some t) := by
  obtain ⟨o, k⟩ := p
  rcases k with v | G
  · exact .inl (by simpa [addFact] using h)
  · rcases hd : o.dst with _ | d
    · exact .inl (by simpa [addFact, hd] using h)
    · simp only [addFact, hd, List.mem_cons, Prod.mk.injEq] at h
      rcases h with ⟨rfl, rfl⟩ | h
      · exact .inr ⟨rfl, rfl⟩
      · exact .inl h

theorem mem_factsM {t : Tmp} {F : Fact E} : ∀ {l : List (Oper × Kind E)} {k : Nat} {Fs : List (Tmp × Fact E)}, (t, F) ∈ factsM mk k l Fs →
    ((t, F) ∈ Fs ∧ ∀ m, mk m = true → k ≤ m → m < k + l.length → False) ∨ ∃ (i : Nat) (p : Oper × Kind E), l[i]? = some p ∧ p.2 = .fresh F ∧ p.1.dst = some t ∧ ∀ m, mk m = true → k + i < m → m < k + l.length → False := by
  intro l
  induction l with
  | nil => exact fun h => .inl ⟨h, fun m _ h1 h2 => by simp at h2; omega⟩
  | cons q l ih =>
    intro k Fs h
    rcases ih (show (t, F) ∈ factsM mk (k + 1) l _ from h) with ⟨h, h'⟩ | ⟨i, p, h1, h2, h3, h4⟩
    · rcases mem_addFact h with h | ⟨h1, h2⟩
      · rcases hk : mk k with _ | _
        · rw [hk] at h
          refine .inl ⟨h, fun m hm h1 h2 => ?_⟩
          rcases Nat.lt_or_ge k m with h3 | h3
          · exact h' m hm (by omega) (by rw [List.length_cons] at h2; omega)
          · have : m = k := by omega
            rw [this, hk] at hm
            cases hm
        · rw [hk] at h; cases h
      · exact .inr ⟨0, q, rfl, h1, h2, fun m hm h1 h2 => h' m hm (by omega) (by rw [List.length_cons] at h2; omega)⟩
    · exact .inr ⟨i + 1, p, by simpa using h1, h2, h3, fun m hm h1 h2 => h4 m hm (by omega) (by rw [List.length_cons] at h2; omega)⟩

def SettleM (P : Program) (ops : Array Oper) (S : World → Prop) (E : World → World → Prop) (mk fl : Nat → Bool) (Z : (Env → Act) → List (Tmp × Fact E) → Prop) : Nat → List Oper → (Env → Act) → List (Tmp × Fact E) → Prop
  | _, [], A, Fs => Z A Fs
  | k, o :: rest, A, Fs =>
    (∃ v, (∀ ρ w, S w → FactsOK (o.looksAt ops) ρ w (cond (fl k) [] Fs) → StepTo P ops S (cond (mk k) (fun _ _ => True) E) o (A ρ) w (fun u _ => u = v)) ∧ SettleM P ops S E mk fl Z (k + 1) rest (fun ρ => (A ρ).put o.dst v) (cond (mk k) [] Fs)) ∨
    (∃ d F, o.dst = some d ∧ (∀ ρ w, S w → FactsOK (o.looksAt ops) ρ w (cond (fl k) [] Fs) → StepTo P ops S (cond (mk k) (fun _ _ => True) E) o (A ρ) w F.holds) ∧ SettleM P ops S E mk fl Z (k + 1) rest (fun ρ => (A ρ).put (some d) (ρ d)) ((d, F) :: cond (mk k) [] Fs))

structure PlanM (P : Program) (ops : Array Oper) (S : World → Prop) (mk fl : Nat → Bool) (a : Act) (l : List (Oper × Kind E)) : Prop where
  dst : ∀ p ∈ l, (∃ F, p.2 = .fresh F) → ∃ d, p.1.dst = some d
  step : ∀ pre p post, l = pre ++ p :: post → ∀ ρ w, S w → FactsOK (p.1.looksAt ops) ρ w (cond (fl pre.length) [] (factsM mk 0 pre [])) → StepTo P ops S (cond (mk pre.length) (fun _ _ => True) E) p.1 (actOf a ρ pre) w p.2.rel

theorem planM_snoc {a : Act} {l : List (Oper × Kind E)} (h : PlanM P ops S mk fl a l) {p : Oper × Kind E} (h1 : (∃ F, p.2 = .fresh F) → ∃ d, p.1.dst = some d)
    (h2 : ∀ ρ w, S w → FactsOK (p.1.looksAt ops) ρ w (cond (fl l.length) [] (factsM mk 0 l [])) → StepTo P ops S (cond (mk l.length) (fun _ _ => True) E) p.1 (actOf a ρ l) w p.2.rel) : PlanM P ops S mk fl a (l ++ [p]) := by
  refine ⟨fun q hq hf => ?_, fun pre q post he => ?_⟩
  · rcases List.mem_append.1 hq with hq | hq
    · exact h.dst q hq hf
    · rw [List.mem_singleton.1 hq] at hf ⊢
      exact h1 hf
  · rcases List.eq_nil_or_concat post with rfl | ⟨post', q', rfl⟩
    · have := List.append_inj' he rfl
      obtain ⟨e1, e2⟩ := this
      injection e2 with e2
      subst e1 e2
      exact h2
    · have e : pre ++ q :: (post' ++ [q']) = (pre ++ q :: post') ++ [q'] := by simp
      rw [List.concat_eq_append, e] at he
      exact h.step pre q post' (List.append_inj' he rfl).1

theorem settleM_plan {Z : (Env → Act) → List (Tmp × Fact E) → Prop} {a : Act} : ∀ (l : List Oper) (pre : List (Oper × Kind E)), PlanM P ops S mk fl a pre → SettleM P ops S E mk fl Z pre.length l (fun ρ => actOf a ρ pre) (factsM mk 0 pre []) →
    ∃ full : List (Oper × Kind E), PlanM P ops S mk fl a full ∧ full.map (·.1) = pre.map (·.1) ++ l ∧ Z (fun ρ => actOf a ρ full) (factsM mk 0 full []) := by
  intro l
  induction l with
  | nil => exact fun pre hp h => ⟨pre, hp, by simp, h⟩
  | cons o rest ih =>
    intro pre hp h
    rcases h with ⟨v, h1, h2⟩ | ⟨d, F, hd, h1, h2⟩
    · obtain ⟨full, q1, q2, q3⟩ := ih (pre ++ [(o, .fixed v)]) (planM_snoc (p := (o, .fixed v)) hp (fun ⟨F, h⟩ => by cases h) h1) (by
        have e1 : (fun ρ => actOf a ρ (pre ++ [(o, (Kind.fixed v : Kind E))])) = fun ρ => (actOf a ρ pre).put o.dst v := by
          funext ρ; simp [actOf, Kind.val]
        have e2 : factsM mk 0 (pre ++ [(o, (Kind.fixed v : Kind E))]) [] = cond (mk pre.length) [] (factsM mk 0 pre []) := by rw [factsM_snoc, Nat.zero_add]; rfl
        rw [e1, e2, List.length_append]
        exact h2)
      exact ⟨full, q1, by rw [q2]; simp, q3⟩
    · obtain ⟨full, q1, q2, q3⟩ := ih (pre ++ [(o, .fresh F)]) (planM_snoc (p := (o, .fresh F)) hp (fun _ => ⟨d, hd⟩) h1) (by
        have e1 : (fun ρ => actOf a ρ (pre ++ [(o, (Kind.fresh F : Kind E))])) = fun ρ => (actOf a ρ pre).put (some d) (ρ d) := by
          funext ρ; simp [actOf, Kind.val, hd]
        have e2 : factsM mk 0 (pre ++ [(o, (Kind.fresh F : Kind E))]) [] = (d, F) :: cond (mk pre.length) [] (factsM mk 0 pre []) := by rw [factsM_snoc, Nat.zero_add]; simp [addFact, hd]
        rw [e1, e2, List.length_append]
        exact h2)
      exact ⟨full, q1, by rw [q2]; simp, q3⟩

theorem any_order_m {a0 : Act} {full : List (Oper × Kind E)} (hops : full.map (·.1) = ops.toList) (hlin : Linear ops) (hmk : Marked ops mk fl) (hp : PlanM P ops S mk fl a0 full)
    (hZ : ∀ ρ w, S w → (∀ t F, (t, F) ∈ factsM mk 0 full [] → F.holds (ρ t) w) → Q .normal (actOf a0 ρ full) w) :
    ∀ (fuel : Nat) (listed : Array Bool) (a : Act) (w : World) (ρ : Env), listed.size = ops.size → (∀ i j o, listed.getD j false = true → ops[j]? = some o → (∃ e ∈ o.after, Region.binds .any e = true ∧ e.on = i) → listed.getD i false = true) →
      (∃ todo : List Nat, todo.length ≤ fuel ∧ ∀ i, i < ops.size → listed.getD i false = false → i ∈ todo) →
      Holds a0 full (fun i => listed.getD i false = true) ρ a → S w → (∀ (i : Nat) (p : Oper × Kind E) (F : Fact E) (d : Tmp), listed.getD i false = true → (∀ m, mk m = true → i < m → listed.getD m false = false) → full[i]? = some p → p.2 = .fresh F → p.1.dst = some d → F.holds (ρ d) w) →
      wpAny P .any ops Q fuel listed a w := by
  have hget : ∀ (i : Nat) (p : Oper × Kind E), full[i]? = some p → ops[i]? = some p.1 := fun i p h => by
    have : (full.map (·.1))[i]? = some p.1 := by simp [h]
    rw [hops] at this
    simpa using this
  have hlen : full.length = ops.size := by
    have := congrArg List.length hops
    simpa using this
  have hget' : ∀ (i : Nat) (o : Oper), ops[i]? = some o → ∃ p : Oper × Kind E, full[i]? = some p ∧ p.1 = o := fun i o h => by
    have hi : i < full.length := by rw [hlen]; exact (Array.getElem?_eq_some_iff.1 h).1
    have h1 := hget i _ (List.getElem?_eq_getElem hi)
    rw [h] at h1
    injection h1 with h1
    exact ⟨_, List.getElem?_eq_getElem hi, h1.symm⟩
  have hdist : ∀ (i j : Nat) (p q : Oper × Kind E) (d : Tmp), i < j → full[i]? = some p → full[j]? = some q → p.1.dst = some d → q.1.dst ≠ some d := fun i j p q d hij h1 h2 => hlin.dist i j _ _ d hij (hget i p h1) (hget j q h2)
  have hdist2 : ∀ (i j : Nat) (p q : Oper × Kind E) (d : Tmp), i ≠ j → full[i]? = some p → full[j]? = some q → p.1.dst = some d → q.1.dst ≠ some d := fun i j p q d hij h1 h2 hd hd' => by
    rcases Nat.lt_or_gt_of_ne hij with h | h
    · exact hdist i j p q d h h1 h2 hd hd'
    · exact hdist j i q p d h h2 h1 hd' hd
  -- all have come up
  have fin : ∀ (listed : Array Bool) (a : Act) (w : World) (ρ : Env), listed.size = ops.size → (∀ i, i < ops.size → listed.getD i false = true) → Holds a0 full (fun i => listed.getD i false = true) ρ a → S w →
      (∀ (i : Nat) (p : Oper × Kind E) (F : Fact E) (d : Tmp), listed.getD i false = true → (∀ m, mk m = true → i < m → listed.getD m false = false) → full[i]? = some p → p.2 = .fresh F → p.1.dst = some d → F.holds (ρ d) w) → Q .normal a w := fun listed a w ρ hsz hall hH hS hF => by
    have h1 : Holds a0 full (fun i => i < full.length) ρ (actOf a0 ρ full) := by
      have := holds_prefix a0 full ρ hdist full.length (Nat.le_refl _)
      rwa [List.take_length] at this
    have h2 : Holds a0 full (fun i => i < full.length) ρ a :=
      ⟨hH.defers, hH.size, fun t ht => hH.far t fun i p hi hp => ht i p (List.getElem?_eq_some_iff.1 hp).1 hp, fun i p t hi => hH.near i p t (hall i (by omega))⟩
    rw [h2.unique h1]
    refine hZ ρ w hS fun t F hm => ?_
    rcases mem_factsM hm with ⟨h, -⟩ | ⟨i, p, h1, h2, h3, h4⟩
    · cases h
    · refine hF i p F t (hall i (by have := (List.getElem?_eq_some_iff.1 h1).1; omega)) (fun m hm him => ?_) h1 h2 h3
      exact absurd (hmk.lt m hm) (fun h => h4 m hm (by omega) (by omega))
  have none_left : ∀ listed : Array Bool, listed.size = ops.size → Region.ready .any ops listed = [] → ∀ n i, i < n → i < ops.size → listed.getD i false = true := by
    intro listed hsz hr n
    induction n with
    | zero => intro i h; omega
    | succ n ih =>
      intro i hi hlt
      cases hli : listed.getD i false with
      | true => rfl
      | false =>
        have ho : ops[i]? = some ops[i] := Array.getElem?_eq_getElem hlt
        have hmem : i ∈ Region.ready .any ops listed := by
          rw [mem_ready]
          refine ⟨?_, _, ho, fun e he hb => ?_⟩
          · simp only [Array.getD, hsz, hlt, dif_pos] at hli ⊢
            exact hli
          · have := hlin.back i _ ho e he hb
            exact ih e.on (by omega) (by omega)
        rw [hr] at hmem
        cases hmem
  intro fuel
  induction fuel with
  | zero =>
    intro listed a w ρ hsz hdown ⟨todo, htodo, hin⟩ hH hS hF
    have hall : ∀ i, i < ops.size → listed.getD i false = true := fun i hi => by
      cases hli : listed.getD i false with
      | true => rfl
      | false =>
        have := hin i hi hli
        rw [List.eq_nil_of_length_eq_zero (Nat.le_zero.1 htodo)] at this
        cases this
    refine ⟨?_, fin listed a w ρ hsz hall hH hS hF⟩
    rw [List.eq_nil_iff_forall_not_mem]
    intro i hi
    obtain ⟨h0, o, ho, _⟩ := mem_ready.1 hi
    have hlt := (Array.getElem?_eq_some_iff.1 ho).1
    have := hall i hlt
    simp only [Array.getD, hsz, hlt, dif_pos] at this h0
    rw [this] at h0
    cases h0
  | succ fuel ih =>
    intro listed a w ρ hsz hdown ⟨todo, htodo, hin⟩ hH hS hF
    refine ⟨fun hr => fin listed a w ρ hsz (fun i hi => none_left listed hsz hr (i + 1) i (by omega) hi) hH hS hF, fun i hi => ?_⟩
    obtain ⟨h0, o, ho, hall⟩ := mem_ready.1 hi
    have hlt := (Array.getElem?_eq_some_iff.1 ho).1
    have h0' : listed.getD i false = false := by
      simp only [Array.getD, hsz, hlt, dif_pos] at h0 ⊢
      exact h0
    obtain ⟨p, hpi, rfl⟩ := hget' i o ho
    have hil : i < full.length := by omega
    have hpre : Holds a0 full (fun j => j < i) ρ (actOf a0 ρ (full.take i)) := holds_prefix a0 full ρ hdist i (by omega)
    have hsplit : full = full.take i ++ p :: full.drop (i + 1) := by
      have : full[i] = p := by have := List.getElem?_eq_getElem hil; rw [hpi] at this; injection this with this; exact this.symm
      rw [← this, List.getElem_cons_drop, List.take_append_drop]
    have hstep := hp.step _ p _ hsplit ρ w hS
    have conf : ∀ (j : Nat) (q : Oper × Kind E), full[j]? = some q → ∀ t, q.1.dst = some t → t ∈ p.1.looksAt ops → (listed.getD j false = true ↔ j < i) := by
      intro j q hq t hd hl
      have hoj := hget j q hq
      rcases Nat.lt_trichotomy j i with h | h | h
      · refine ⟨fun _ => h, fun _ => ?_⟩
        rcases hlin.wait j i _ _ h hoj ho with hap | ⟨e, he, hb, hon⟩
        · exact absurd hl ((Oper.apart_spec hap).1 t hd)
        · rw [← hon]; exact hall e he hb
      · subst h
        rw [hpi] at hq
        injection hq with hq
        subst hq
        exact absurd hl (hlin.self j _ t ho hd)
      · refine ⟨fun hj => ?_, fun h' => by omega⟩
        exfalso
        rcases hlin.wait i j _ _ h ho hoj with hap | ⟨e, he, hb, hon⟩
        · exact absurd hl ((Oper.apart_spec hap).2.2 t hd)
        · have := hdown i j _ hj hoj ⟨e, he, hb, hon⟩
          rw [h0'] at this
          cases this
    have hdown' : ∀ j o, listed.getD j false = true → ops[j]? = some o → ∀ e ∈ o.after, Region.binds .any e = true → listed.getD e.on false = true := fun j o hj ho e he hb => hdown e.on j o hj ho ⟨e, he, hb, rfl⟩
    have later : ∀ m, mk m = true → i < m → fl i = false → listed.getD m false = false := fun m hm him hfl => by
      cases hlm : listed.getD m false with
      | false => rfl
      | true =>
        have := reach_closed hdown' 6 m i (hmk.before m i hm him hfl) hlm
        rw [h0'] at this
        cases this
    have hfacts : FactsOK (p.1.looksAt ops) ρ w (cond (fl i) [] (factsM mk 0 (full.take i) [])) := factsOK_of _ fun t F hm hl => by
      rcases hfl : fl i with _ | _
      case true => rw [hfl] at hm; cases hm
      rw [hfl] at hm
      rcases mem_factsM hm with ⟨h, -⟩ | ⟨j, q, h1, h2, h3, h4⟩
      · cases h
      · have hji : j < i := by
          have := (List.getElem?_eq_some_iff.1 h1).1
          rw [List.length_take] at this
          omega
        have hq : full[j]? = some q := by
          rw [List.getElem?_take, if_pos hji] at h1
          exact h1
        refine hF j q F t ((conf j q hq t h3 (by simpa using hl)).2 hji) (fun m hm hjm => ?_) hq h2 h3
        rcases Nat.lt_trichotomy i m with h | h | h
        · exact later m hm h hfl
        · rw [← h]; exact h0'
        · exact absurd (h4 m hm (by omega) (by rw [List.length_take]; omega)) id
    have hst := hstep (by rw [show (full.take i).length = i by rw [List.length_take]; omega]; exact hfacts)
    have hag : ∀ t, t ∈ p.1.looksAt ops → a.tmps[t]? = (actOf a0 ρ (full.take i)).tmps[t]? := fun t ht =>
      hH.agree hpre t fun j q hq hd => conf j q hq t hd ht
    have hexec : execOp a.eval p.1 = execOp (actOf a0 ρ (full.take i)).eval p.1 := execOp_congr p.1 (fun cs b => hlin.sel i _ cs b ho) fun x hx => by
      cases x with
      | tmp t =>
        have := hag t (List.mem_append_left _ (List.mem_filterMap.2 ⟨.tmp t, by simpa using hx, rfl⟩))
        simp only [Act.eval, Array.getD_eq_getD_getElem?]
        rw [this]
      | _ => rfl
    have hwant : Region.wanted p.1 (yielded ops a.tmps) = Region.wanted p.1 (yielded ops (actOf a0 ρ (full.take i)).tmps) := by
      unfold Region.wanted
      cases hg : p.1.guard with
      | none => rfl
      | some gw =>
        obtain ⟨g, want⟩ := gw
        have : yielded ops a.tmps g = yielded ops (actOf a0 ρ (full.take i)).tmps g := by
          unfold yielded
          cases ht : (ops[g]?).bind (·.dst) with
          | none => rfl
          | some t =>
            have := hag t (List.mem_append_right _ (by simp [hg, ht]))
            simp only [Option.bind_some, this]
        simp only [this]
    have size_eq : (actOf a0 ρ (full.take i)).tmps.size = a.tmps.size := hpre.size.trans hH.size.symm
    -- the way on
    have go : ∀ v w', p.2.rel v w' → S w' → (∀ (j : Nat) (q : Oper × Kind E) (F : Fact E) (d : Tmp), listed.getD j false = true → (∀ m, mk m = true → j < m → (listed.setIfInBounds i true).getD m false = false) → full[j]? = some q → q.2 = .fresh F → q.1.dst = some d → F.holds (ρ d) w') →
        wpAny P .any ops Q fuel (listed.setIfInBounds i true) (a.put p.1.dst v) w' := by
      intro v w' hR hS' hF'
      have next : ∀ ρ' : Env, p.2.val ρ' p.1 = v → (∀ j q, j ≠ i → full[j]? = some q → q.2.val ρ' q.1 = q.2.val ρ q.1) → (∀ j q F d, j ≠ i → full[j]? = some q → q.2 = .fresh F → q.1.dst = some d → ρ' d = ρ d) → (∀ F d, p.2 = .fresh F → p.1.dst = some d → F.holds (ρ' d) w') →
          wpAny P .any ops Q fuel (listed.setIfInBounds i true) (a.put p.1.dst v) w' := by
        intro ρ' hv hothers hd' hself
        have hset : ∀ j, (listed.setIfInBounds i true).getD j false = true ↔ j = i ∨ listed.getD j false = true := fun j => by
          by_cases hji : j = i
          · subst hji
            simp [Array.getD, hsz, hlt]
          · rw [getD_set_ne false (Ne.symm hji)]
            simp [hji]
        refine ih _ _ _ ρ' (by simpa using hsz) (fun i' j o' hj ho' he => ?_) ⟨todo.filter (· != i), ?_, fun j hj hjl => ?_⟩ ?_ hS' (fun j q F d hj hjm hq hf hd => ?_)
        · rcases (hset j).1 hj with rfl | hj
          · obtain ⟨e, he, hb, hon⟩ := he
            rw [ho] at ho'
            injection ho' with ho'
            subst ho'
            rw [hset, ← hon]
            exact .inr (hall e he hb)
          · exact (hset i').2 (.inr (hdown i' j o' hj ho' he))
        · have : (todo.filter (· != i)).length < todo.length := by
            rw [List.length_filter_lt_length_iff_exists]
            exact ⟨i, hin i hlt h0', by simp⟩
          omega
        · have hne : j ≠ i := fun e => by
            have := (hset j).2 (.inl e)
            rw [this] at hjl
            cases hjl
          refine List.mem_filter.2 ⟨hin j hj ?_, by simpa using hne⟩
          rwa [getD_set_ne false (Ne.symm hne)] at hjl
        · have := hH.put (ρ' := ρ') hpi hset (fun j q hj hq d hd => hdist2 j i q p d (fun e => by rw [e, h0'] at hj; cases hj) hq hpi hd) (fun j q hj hq => hothers j q (fun e => by rw [e, h0'] at hj; cases hj) hq)
          rwa [hv] at this
        · rcases (hset j).1 hj with rfl | hj
          · rw [hpi] at hq
            injection hq with hq
            subst hq
            exact hself F d hf hd
          · have hne : j ≠ i := fun e => by rw [e, h0'] at hj; cases hj
            rw [hd' j q F d hne hq hf hd]
            exact hF' j q F d hj hjm hq hf hd
      cases hk : p.2 with
      | fixed v0 =>
        have hv : v = v0 := by rw [hk] at hR; exact hR
        exact next ρ (by rw [hk]; exact hv.symm) (fun _ _ _ _ => rfl) (fun _ _ _ _ _ _ _ _ => rfl) (fun F d hf => by rw [hk] at hf; cases hf)
      | fresh F =>
        obtain ⟨d, hd⟩ := hp.dst p (by rw [hsplit]; simp) ⟨F, hk⟩
        have hR' : F.holds v w' := by rw [hk] at hR; exact hR
        have hne : ∀ j q d', j ≠ i → full[j]? = some q → q.1.dst = some d' → d' ≠ d := fun j q d' hji hq hd' e => hdist2 j i q p d' hji hq hpi hd' (by rw [hd, e])
        refine next (fun t => if t = d then v else ρ t) (by rw [hk]; simp [Kind.val, hd]) (fun j q hji hq => ?_) (fun j q F' d' hji hq _ hd' => if_neg (hne j q d' hji hq hd')) (fun F' d' hf hd' => ?_)
        · cases hkq : q.2 with
          | fixed v0 => rfl
          | fresh F' =>
            obtain ⟨d', hd'⟩ := hp.dst q (List.mem_of_getElem? hq) ⟨F', hkq⟩
            simp only [Kind.val, hd']
            exact if_neg (hne j q d' hji hq hd')
        · rw [hk] at hf
          injection hf with hf
          rw [hd] at hd'
          injection hd' with hd'
          subst hf hd'
          simpa using hR'
    have hset' : ∀ j, (listed.setIfInBounds i true).getD j false = false → listed.getD j false = false := fun j hj => by
      by_cases hji : j = i
      · rw [hji]; exact h0'
      · rwa [getD_set_ne false (Ne.symm hji)] at hj
    have hlen_i : (full.take i).length = i := by rw [List.length_take]; omega
    have hseti : (listed.setIfInBounds i true).getD i false = true := by simp [Array.getD, hsz, hlt]
    rw [hlen_i] at hst
    unfold wpOp
    simp only [ho]
    unfold StepTo at hst
    rw [← hwant] at hst
    split
    · rename_i hw
      rw [if_pos hw] at hst
      refine .inl (wp_carry (R := fun v w' => p.2.rel v w' ∧ S w' ∧ (cond (mk i) (fun _ _ => True) E) w w') hexec size_eq (hst _ fun v w' h1 h2 h3 => ⟨v, rfl, h1, h2, h3⟩) fun v w' ⟨h1, h2, h3⟩ => go v w' h1 h2 fun j q F d hj hjm hq hf hd => ?_)
      rcases hmi : mk i with _ | _
      · rw [hmi] at h3
        exact F.keep _ _ _ (hF j q F d hj (fun m hm h => hset' m (hjm m hm h)) hq hf hd) h3
      · exfalso
        rcases Nat.lt_trichotomy j i with h | h | h
        · have := hjm i hmi h
          rw [hseti] at this
          cases this
        · rw [h, h0'] at hj; cases hj
        · have := reach_closed hdown' 6 j i (hmk.after i j hmi h (by have := (List.getElem?_eq_some_iff.1 hq).1; omega)) hj
          rw [h0'] at this
          cases this
    · rename_i hw
      rw [if_neg hw] at hst
      exact go undef w hst hS fun j q F d hj hjm hq hf hd => hF j q F d hj (fun m hm h => hset' m (hjm m hm h)) hq hf hd

/-- the same, that nothing looks into -/
structure WalkM (P : Program) (ops : Array Oper) (S : World → Prop) (E : World → World → Prop) (mk fl : Nat → Bool) (Z : (Env → Act) → List (Tmp × Fact E) → Prop) (k : Nat) (l : List Oper) (A : Env → Act) (Fs : List (Tmp × Fact E)) : Prop where
  out : SettleM P ops S E mk fl Z k l A Fs

/-- THE RULE, with marks -/
theorem wp_walk_marks {id : Nat} {a : Act} {w : World} {l : List Oper} (mk fl : Nat → Bool) (ms : List Nat) (hms : ∀ m, mk m = true → m ∈ ms) (hm : P.follows .mixedOrders = true) (hlin : linearB l.toArray = true) (hmk : markB l.toArray mk fl ms = true) (E : World → World → Prop) (S : World → Prop) (hS : S w.drew)
    (h : WalkM P l.toArray S E mk fl (fun A Fs => ∀ ρ w', S w' → (∀ t F, (t, F) ∈ Fs → F.holds (ρ t) w') → Q .normal (A ρ) w') 0 l (fun _ => a) []) : (Code.region id l.toArray true).wp P Q a w := by
  obtain ⟨full, hp, he, hZ⟩ := settleM_plan l [] ⟨(fun _ h => by cases h), (fun pre p post he => by simp at he)⟩ h.out
  refine wp_region_any hm (any_order_m (by simpa using he) (linear_of hlin) (marked_of hms hmk) hp hZ _ _ a _ (fun _ => undef) (by simp) (fun i j o hj => ?_) ⟨List.range l.toArray.size, by simp, fun i hi _ => List.mem_range.2 hi⟩ ⟨rfl, rfl, fun _ _ => rfl, fun i p t hi => ?_⟩ hS fun i p F d hi => ?_)
  · exfalso; revert hj; simp [Array.getD]
  · exfalso; revert hi; simp [Array.getD]
  · exfalso; revert hi; simp [Array.getD]

variable {Z : (Env → Act) → List (Tmp × Fact E) → Prop} {o : Oper} {rest : List Oper} {A : Env → Act} {Fs : List (Tmp × Fact E)} {k : Nat}
theorem msettle_nil (h : Z A Fs) : WalkM P ops S E mk fl Z k [] A Fs := ⟨h⟩
theorem msettle_skip (hmk : mk k = false) (hw : ∀ ρ, Region.wanted o (yielded ops (A ρ).tmps) = false) (h : WalkM P ops S E mk fl Z (k + 1) rest (fun ρ => (A ρ).put o.dst undef) Fs) : WalkM P ops S E mk fl Z k (o :: rest) A Fs :=
  ⟨.inl ⟨undef, fun ρ w _ _ => by unfold StepTo; rw [if_neg (by rw [hw]; simp)], by rw [hmk]; exact h.out⟩⟩
theorem msettle_run {v : Value} (hmk : mk k = false) (hE : ∀ w, S w → E w w) (hw : ∀ ρ, Region.wanted o (yielded ops (A ρ).tmps) = true)
    (hr : ∀ ρ w, S w → FactsOK (o.looksAt ops) ρ w (cond (fl k) [] Fs) → (execOp (A ρ).eval o).run P w = .ok (.value v) w) (h : WalkM P ops S E mk fl Z (k + 1) rest (fun ρ => (A ρ).put o.dst v) Fs) : WalkM P ops S E mk fl Z k (o :: rest) A Fs :=
  ⟨.inl ⟨v, fun ρ w hS hF => by
    unfold StepTo
    rw [if_pos (hw ρ), hmk]
    intro K hK
    unfold Oper.wp
    rw [hr ρ w hS hF]
    exact hK v w rfl hS (hE w hS), by rw [hmk]; exact h.out⟩⟩
theorem msettle_step {v : Value} (hmk : mk k = false) (hw : ∀ ρ, Region.wanted o (yielded ops (A ρ).tmps) = true)
    (hc : ∀ ρ w, S w → FactsOK (o.looksAt ops) ρ w (cond (fl k) [] Fs) → ∀ K : Act → World → Prop, (∀ w', S w' → E w w' → K ((A ρ).put o.dst v) w') → o.wp P (A ρ) w K (fun _ _ _ => False)) (h : WalkM P ops S E mk fl Z (k + 1) rest (fun ρ => (A ρ).put o.dst v) Fs) : WalkM P ops S E mk fl Z k (o :: rest) A Fs :=
  ⟨.inl ⟨v, fun ρ w hS hF => by
    unfold StepTo
    rw [if_pos (hw ρ), hmk]
    exact fun K hK => hc ρ w hS hF K fun w' h1 h2 => hK v w' rfl h1 h2, by rw [hmk]; exact h.out⟩⟩
theorem msettle_known {d : Tmp} (F : Fact E) (hmk : mk k = false) (hd : o.dst = some d) (hw : ∀ ρ, Region.wanted o (yielded ops (A ρ).tmps) = true)
    (hc : ∀ ρ w, S w → FactsOK (o.looksAt ops) ρ w (cond (fl k) [] Fs) → ∀ K : Act → World → Prop, (∀ v w', F.holds v w' → S w' → E w w' → K ((A ρ).put o.dst v) w') → o.wp P (A ρ) w K (fun _ _ _ => False)) (h : WalkM P ops S E mk fl Z (k + 1) rest (fun ρ => (A ρ).put (some d) (ρ d)) ((d, F) :: Fs)) : WalkM P ops S E mk fl Z k (o :: rest) A Fs :=
  ⟨.inr ⟨d, F, hd, fun ρ w hS hF => by
    unfold StepTo
    rw [if_pos (hw ρ), hmk]
    exact fun K hK => hc ρ w hS hF K hK, by rw [hmk]; exact h.out⟩⟩
/-- a mark: what was known is forgotten -/
theorem msettle_mark {d : Tmp} (F : Fact E) (hmk : mk k = true) (hd : o.dst = some d) (hw : ∀ ρ, Region.wanted o (yielded ops (A ρ).tmps) = true)
    (hc : ∀ ρ w, S w → FactsOK (o.looksAt ops) ρ w (cond (fl k) [] Fs) → ∀ K : Act → World → Prop, (∀ v w', F.holds v w' → S w' → K ((A ρ).put o.dst v) w') → o.wp P (A ρ) w K (fun _ _ _ => False)) (h : WalkM P ops S E mk fl Z (k + 1) rest (fun ρ => (A ρ).put (some d) (ρ d)) [(d, F)]) : WalkM P ops S E mk fl Z k (o :: rest) A Fs :=
  ⟨.inr ⟨d, F, hd, fun ρ w hS hF => by
    unfold StepTo
    rw [if_pos (hw ρ), hmk]
    exact fun K hK => hc ρ w hS hF K fun v w' h1 h2 => hK v w' h1 h2 trivial, by rw [hmk]; exact h.out⟩⟩
end
end Go.Proofs.YtkjmddgnfgbioaaDoor


namespace Go.Proofs.YtkjmddgnfgbioaaDoor
set_option linter.unusedVariables false
set_option linter.unusedSimpArgs false
set_option maxRecDepth 100000
open Go

section
variable {P : Program} {ops : Array Oper} {Q : Exit → Act → World → Prop} {S S0 : World → Prop} {E : World → World → Prop} {mk fl : Nat → Bool}

def markNB (ops : Array Oper) (n : Nat) (mk fl : Nat → Bool) (ms : List Nat) : Bool :=
  ms.all fun m => decide (m < n) && (List.range n).all fun i => i == m || (fl i || if i < m then reachB ops 6 m i else reachB ops 6 i m)
structure MarkedN (ops : Array Oper) (mk fl : Nat → Bool) (n : Nat) : Prop where
  lt : ∀ m, mk m = true → m < n
  before : ∀ m i, mk m = true → i < m → fl i = false → reachB ops 6 m i = true
  after : ∀ m i, mk m = true → m < i → i < n → fl i = false → reachB ops 6 i m = true
theorem markedN_of {n : Nat} {ms : List Nat} (hms : ∀ m, mk m = true → m ∈ ms) (h : markNB ops n mk fl ms = true) : MarkedN ops mk fl n := by
  have key := List.all_eq_true.1 h
  refine ⟨fun m hm => ?_, fun m i hm hi hf => ?_, fun m i hm hi hlt hf => ?_⟩
  · have := key m (hms m hm)
    rw [Bool.and_eq_true, decide_eq_true_eq] at this
    exact this.1
  · have := key m (hms m hm)
    rw [Bool.and_eq_true, decide_eq_true_eq] at this
    have h2 := List.all_eq_true.1 this.2 i (List.mem_range.2 (by omega))
    have hne : (i == m) = false := by simp; omega
    rw [hne, Bool.false_or, hf, Bool.false_or, if_pos hi] at h2
    exact h2
  · have := key m (hms m hm)
    rw [Bool.and_eq_true, decide_eq_true_eq] at this
    have h2 := List.all_eq_true.1 this.2 i (List.mem_range.2 hlt)
    have hne : (i == m) = false := by simp; omega
    rw [hne, Bool.false_or, hf, Bool.false_or, if_neg (by omega)] at h2
    exact h2

/-- no mark ahead of it -/
def noMark (mk : Nat → Bool) (k : Nat) : Bool := (List.range k).all fun m => !mk m
/-- what holds ahead of the first mark -/
def Pre (mk fl : Nat → Bool) (S0 : World → Prop) (k : Nat) (w : World) : Prop := (noMark mk k && !fl k) = true → S0 w
def SettleN (P : Program) (ops : Array Oper) (S S0 : World → Prop) (E : World → World → Prop) (mk fl : Nat → Bool) (Z : (Env → Act) → List (Tmp × Fact E) → Prop) : Nat → List Oper → (Env → Act) → List (Tmp × Fact E) → Prop
  | _, [], A, Fs => Z A Fs
  | k, o :: rest, A, Fs =>
    (∃ v, (∀ ρ w, S w → FactsOK (o.looksAt ops) ρ w (cond (fl k) [] Fs) → Pre mk fl S0 k w → StepTo P ops S (cond (mk k) (fun _ _ => True) E) o (A ρ) w (fun u _ => u = v)) ∧ SettleN P ops S S0 E mk fl Z (k + 1) rest (fun ρ => (A ρ).put o.dst v) (cond (mk k) [] Fs)) ∨
    (∃ d F, o.dst = some d ∧ fl k = false ∧ (∀ ρ w, S w → FactsOK (o.looksAt ops) ρ w (cond (fl k) [] Fs) → Pre mk fl S0 k w → StepTo P ops S (cond (mk k) (fun _ _ => True) E) o (A ρ) w F.holds) ∧ SettleN P ops S S0 E mk fl Z (k + 1) rest (fun ρ => (A ρ).put (some d) (ρ d)) ((d, F) :: cond (mk k) [] Fs))

structure PlanN (P : Program) (ops : Array Oper) (S S0 : World → Prop) (mk fl : Nat → Bool) (a : Act) (l : List (Oper × Kind E)) : Prop where
  dst : ∀ p ∈ l, (∃ F, p.2 = .fresh F) → ∃ d, p.1.dst = some d
  flt : ∀ (j : Nat) p, l[j]? = some p → (∃ F, p.2 = .fresh F) → fl j = false
  step : ∀ pre p post, l = pre ++ p :: post → ∀ ρ w, S w → FactsOK (p.1.looksAt ops) ρ w (cond (fl pre.length) [] (factsM mk 0 pre [])) → Pre mk fl S0 pre.length w → StepTo P ops S (cond (mk pre.length) (fun _ _ => True) E) p.1 (actOf a ρ pre) w p.2.rel

theorem planN_snoc {a : Act} {l : List (Oper × Kind E)} (h : PlanN P ops S S0 mk fl a l) {p : Oper × Kind E} (h1 : (∃ F, p.2 = .fresh F) → ∃ d, p.1.dst = some d) (h3 : (∃ F, p.2 = .fresh F) → fl l.length = false)
    (h2 : ∀ ρ w, S w → FactsOK (p.1.looksAt ops) ρ w (cond (fl l.length) [] (factsM mk 0 l [])) → Pre mk fl S0 l.length w → StepTo P ops S (cond (mk l.length) (fun _ _ => True) E) p.1 (actOf a ρ l) w p.2.rel) : PlanN P ops S S0 mk fl a (l ++ [p]) := by
  refine ⟨fun q hq hf => ?_, fun j q hq hf => ?_, fun pre q post he => ?_⟩
  · rcases List.mem_append.1 hq with hq | hq
    · exact h.dst q hq hf
    · rw [List.mem_singleton.1 hq] at hf ⊢
      exact h1 hf
  · rcases Nat.lt_or_ge j l.length with hj | hj
    · rw [List.getElem?_append_left hj] at hq
      exact h.flt j q hq hf
    · rw [List.getElem?_append_right hj] at hq
      have hj' := (List.getElem?_eq_some_iff.1 hq).1
      simp only [List.length_singleton] at hj'
      have e : j = l.length := by omega
      subst e
      simp only [Nat.sub_self, List.getElem?_cons_zero, Option.some.injEq] at hq
      subst hq
      exact h3 hf
  · rcases List.eq_nil_or_concat post with rfl | ⟨post', q', rfl⟩
    · have := List.append_inj' he rfl
      obtain ⟨e1, e2⟩ := this
      injection e2 with e2
      subst e1 e2
      exact h2
    · have e : pre ++ q :: (post' ++ [q']) = (pre ++ q :: post') ++ [q'] := by simp
      rw [List.concat_eq_append, e] at he
      exact h.step pre q post' (List.append_inj' he rfl).1

theorem settleN_plan {Z : (Env → Act) → List (Tmp × Fact E) → Prop} {a : Act} : ∀ (l : List Oper) (pre : List (Oper × Kind E)), PlanN P ops S S0 mk fl a pre → SettleN P ops S S0 E mk fl Z pre.length l (fun ρ => actOf a ρ pre) (factsM mk 0 pre []) →
    ∃ full : List (Oper × Kind E), PlanN P ops S S0 mk fl a full ∧ full.map (·.1) = pre.map (·.1) ++ l ∧ Z (fun ρ => actOf a ρ full) (factsM mk 0 full []) := by
  intro l
  induction l with
  | nil => exact fun pre hp h => ⟨pre, hp, by simp, h⟩
  | cons o rest ih =>
    intro pre hp h
    rcases h with ⟨v, h1, h2⟩ | ⟨d, F, hd, h3, h1, h2⟩
    · obtain ⟨full, q1, q2, q3⟩ := ih (pre ++ [(o, .fixed v)]) (planN_snoc (p := (o, .fixed v)) hp (fun ⟨F, h⟩ => by cases h) (fun ⟨F, h⟩ => by cases h) h1) (by
        have e1 : (fun ρ => actOf a ρ (pre ++ [(o, (Kind.fixed v : Kind E))])) = fun ρ => (actOf a ρ pre).put o.dst v := by
          funext ρ; simp [actOf, Kind.val]
        have e2 : factsM mk 0 (pre ++ [(o, (Kind.fixed v : Kind E))]) [] = cond (mk pre.length) [] (factsM mk 0 pre []) := by rw [factsM_snoc, Nat.zero_add]; rfl
        rw [e1, e2, List.length_append]
        exact h2)
      exact ⟨full, q1, by rw [q2]; simp, q3⟩
    · obtain ⟨full, q1, q2, q3⟩ := ih (pre ++ [(o, .fresh F)]) (planN_snoc (p := (o, .fresh F)) hp (fun _ => ⟨d, hd⟩) (fun _ => h3) h1) (by
        have e1 : (fun ρ => actOf a ρ (pre ++ [(o, (Kind.fresh F : Kind E))])) = fun ρ => (actOf a ρ pre).put (some d) (ρ d) := by
          funext ρ; simp [actOf, Kind.val, hd]
        have e2 : factsM mk 0 (pre ++ [(o, (Kind.fresh F : Kind E))]) [] = (d, F) :: cond (mk pre.length) [] (factsM mk 0 pre []) := by rw [factsM_snoc, Nat.zero_add]; simp [addFact, hd]
        rw [e1, e2, List.length_append]
        exact h2)
      exact ⟨full, q1, by rw [q2]; simp, q3⟩

theorem any_order_mt {a0 : Act} {full : List (Oper × Kind E)} {n : Nat} (hn : n < ops.size) (hops : full.map (·.1) = ops.toList.take n) (hlin : LinearN ops n) (hsk : Region.sinkB .any ops n = true) (hch : Region.chainB .any ops n = true)
    (hsq : ∀ listed : Array Bool, listed.size = ops.size → (∀ i, i < n → listed.getD i false = true) → (∀ i, n ≤ i → listed.getD i false = false) → Region.seqB .any ops (ops.size - n) n listed = true) (hmk : MarkedN ops mk fl n) (hp : PlanN P ops S S0 mk fl a0 full) (hE0 : ∀ w w', S0 w → E w w' → S0 w')
    (hZ : ∀ ρ w, S w → (∀ t F, (t, F) ∈ factsM mk 0 full [] → F.holds (ρ t) w) → wpList P ops Q (ops.toList.drop n) (actOf a0 ρ full) w) :
    ∀ (fuel : Nat) (listed : Array Bool) (a : Act) (w : World) (ρ : Env), HeadInv .any ops n listed →
      (∃ todo : List Nat, todo.length ≤ fuel ∧ ∀ i, i < n → listed.getD i false = false → i ∈ todo) →
      Holds a0 full (fun i => listed.getD i false = true) ρ a → S w → ((∀ m, mk m = true → listed.getD m false = false) → S0 w) → (∀ (i : Nat) (p : Oper × Kind E) (F : Fact E) (d : Tmp), listed.getD i false = true → (∀ m, mk m = true → i < m → listed.getD m false = false) → full[i]? = some p → p.2 = .fresh F → p.1.dst = some d → F.holds (ρ d) w) →
      wpAny P .any ops Q (fuel + (ops.size - n)) listed a w := by
  have hget : ∀ (i : Nat) (p : Oper × Kind E), full[i]? = some p → ops[i]? = some p.1 := fun i p h => by
    have : (full.map (·.1))[i]? = some p.1 := by simp [h]
    rw [hops, List.getElem?_take] at this
    split at this
    · simpa using this
    · cases this
  have hlen : full.length = n := by
    have := congrArg List.length hops
    simp only [List.length_map, List.length_take, Array.length_toList] at this
    omega
  have hget' : ∀ (i : Nat) (o : Oper), i < n → ops[i]? = some o → ∃ p : Oper × Kind E, full[i]? = some p ∧ p.1 = o := fun i o hin h => by
    have hi : i < full.length := by rw [hlen]; exact hin
    have h1 := hget i _ (List.getElem?_eq_getElem hi)
    rw [h] at h1
    injection h1 with h1
    exact ⟨_, List.getElem?_eq_getElem hi, h1.symm⟩
  have hdist : ∀ (i j : Nat) (p q : Oper × Kind E) (d : Tmp), i < j → full[i]? = some p → full[j]? = some q → p.1.dst = some d → q.1.dst ≠ some d := fun i j p q d hij h1 h2 => hlin.dist i j _ _ d hij (by have := (List.getElem?_eq_some_iff.1 h2).1; omega) (hget i p h1) (hget j q h2)
  have hdist2 : ∀ (i j : Nat) (p q : Oper × Kind E) (d : Tmp), i ≠ j → full[i]? = some p → full[j]? = some q → p.1.dst = some d → q.1.dst ≠ some d := fun i j p q d hij h1 h2 hd hd' => by
    rcases Nat.lt_or_gt_of_ne hij with h | h
    · exact hdist i j p q d h h1 h2 hd hd'
    · exact hdist j i q p d h h2 h1 hd' hd
  -- all have come up
  have fin : ∀ (fuel : Nat) (listed : Array Bool) (a : Act) (w : World) (ρ : Env), HeadInv .any ops n listed → (∀ i, i < n → listed.getD i false = true) → Holds a0 full (fun i => listed.getD i false = true) ρ a → S w →
      (∀ (i : Nat) (p : Oper × Kind E) (F : Fact E) (d : Tmp), listed.getD i false = true → (∀ m, mk m = true → i < m → listed.getD m false = false) → full[i]? = some p → p.2 = .fresh F → p.1.dst = some d → F.holds (ρ d) w) → wpAny P .any ops Q (fuel + (ops.size - n)) listed a w := fun fuel listed a w ρ inv hall hH hS hF => by
    have h1 : Holds a0 full (fun i => i < full.length) ρ (actOf a0 ρ full) := by
      have := holds_prefix a0 full ρ hdist full.length (Nat.le_refl _)
      rwa [List.take_length] at this
    have h2 : Holds a0 full (fun i => i < full.length) ρ a :=
      ⟨hH.defers, hH.size, fun t ht => hH.far t fun i p hi hp => ht i p (List.getElem?_eq_some_iff.1 hp).1 hp, fun i p t hi => hH.near i p t (hall i (by omega))⟩
    rw [h2.unique h1]
    have hz := hZ ρ w hS fun t F hm => by
      rcases mem_factsM hm with ⟨h, -⟩ | ⟨i, p, h1, h2, h3, h4⟩
      · cases h
      · exact hF i p F t (hall i (by have := (List.getElem?_eq_some_iff.1 h1).1; omega)) (fun m hm him => absurd (hmk.lt m hm) (fun h => h4 m hm (by omega) (by omega))) h1 h2 h3
    have hdl : (ops.toList.drop n).length = ops.size - n := by simp
    have hs := hsq listed inv.size hall (fun i hi => by
      rcases Nat.lt_or_ge i ops.size with h | h
      · exact getD_both (inv.tail i hi h)
      · simp [Array.getD, inv.size, Nat.not_lt.2 h])
    have := wpAny_seq_more fuel (ops.toList.drop n) n listed (actOf a0 ρ full) w (fun j => by simp [List.getElem?_drop]) (by rw [hdl]; exact hs) hz
    rwa [hdl, Nat.add_comm] at this
  have none_left : ∀ listed : Array Bool, HeadInv .any ops n listed → Region.ready .any ops listed = [] → ∀ m i, i < m → i < n → listed.getD i false = true := by
    intro listed inv hr m
    induction m with
    | zero => intro i h; omega
    | succ m ih =>
      intro i hi hin
      cases hli : listed.getD i false with
      | true => rfl
      | false =>
        have hlt : i < ops.size := by omega
        have ho : ops[i]? = some ops[i] := Array.getElem?_eq_getElem hlt
        have hmem : i ∈ Region.ready .any ops listed := by
          rw [mem_ready]
          refine ⟨?_, _, ho, fun e he hb => ?_⟩
          · simp only [Array.getD, inv.size, hlt, dif_pos] at hli ⊢
            exact hli
          · have := hlin.back i _ hin ho e he hb
            exact ih e.on (by omega) (by omega)
        rw [hr] at hmem
        cases hmem
  have some_left : ∀ listed : Array Bool, (∀ i, i < n → listed.getD i false = true) ∨ ∃ i, i < n ∧ listed.getD i false = false := fun listed => by
    by_cases h : ∃ i, i < n ∧ listed.getD i false = false
    · exact .inr h
    · exact .inl fun i hi => by
        cases hl : listed.getD i false with
        | true => rfl
        | false => exact (h ⟨i, hi, hl⟩).elim
  intro fuel
  induction fuel with
  | zero =>
    intro listed a w ρ inv ⟨todo, htodo, hin⟩ hH hS hS0 hF
    have hall : ∀ i, i < n → listed.getD i false = true := fun i hi => by
      cases hli : listed.getD i false with
      | true => rfl
      | false =>
        have := hin i hi hli
        rw [List.eq_nil_of_length_eq_zero (Nat.le_zero.1 htodo)] at this
        cases this
    exact fin 0 listed a w ρ inv hall hH hS hF
  | succ fuel ih =>
    intro listed a w ρ inv ⟨todo, htodo, hin⟩ hH hS hS0 hF
    rcases some_left listed with hall | ⟨i0, hi0, hl0⟩
    · exact fin (fuel + 1) listed a w ρ inv hall hH hS hF
    have hsz := inv.size
    rw [show fuel + 1 + (ops.size - n) = (fuel + (ops.size - n)) + 1 by omega]
    refine ⟨fun hr => ?_, fun i hi => ?_⟩
    · have := none_left listed inv hr (i0 + 1) i0 (by omega) hi0
      rw [hl0] at this
      cases this
    have hilt : i < n := by
      rcases Nat.lt_or_ge i n with h | h
      · exact h
      · exact absurd hi (tail_waits hsk hch hn inv _ i0 rfl hi0 (getD_in (by omega) hl0) i h)
    obtain ⟨h0, o, ho, hall⟩ := mem_ready.1 hi
    have hlt := (Array.getElem?_eq_some_iff.1 ho).1
    have h0' : listed.getD i false = false := by
      simp only [Array.getD, hsz, hlt, dif_pos] at h0 ⊢
      exact h0
    obtain ⟨p, hpi, rfl⟩ := hget' i o hilt ho
    have hil : i < full.length := by omega
    have hpre : Holds a0 full (fun j => j < i) ρ (actOf a0 ρ (full.take i)) := holds_prefix a0 full ρ hdist i (by omega)
    have hsplit : full = full.take i ++ p :: full.drop (i + 1) := by
      have : full[i] = p := by have := List.getElem?_eq_getElem hil; rw [hpi] at this; injection this with this; exact this.symm
      rw [← this, List.getElem_cons_drop, List.take_append_drop]
    have hstep := hp.step _ p _ hsplit ρ w hS
    have conf : ∀ (j : Nat) (q : Oper × Kind E), full[j]? = some q → ∀ t, q.1.dst = some t → t ∈ p.1.looksAt ops → (listed.getD j false = true ↔ j < i) := by
      intro j q hq t hd hl
      have hoj := hget j q hq
      have hjn : j < n := by have := (List.getElem?_eq_some_iff.1 hq).1; omega
      rcases Nat.lt_trichotomy j i with h | h | h
      · refine ⟨fun _ => h, fun _ => ?_⟩
        rcases hlin.wait j i _ _ h hilt hoj ho with hap | ⟨e, he, hb, hon⟩
        · exact absurd hl ((Oper.apart_spec hap).1 t hd)
        · rw [← hon]; exact hall e he hb
      · subst h
        rw [hpi] at hq
        injection hq with hq
        subst hq
        exact absurd hl (hlin.self j _ t hilt ho hd)
      · refine ⟨fun hj => ?_, fun h' => by omega⟩
        exfalso
        rcases hlin.wait i j _ _ h hjn ho hoj with hap | ⟨e, he, hb, hon⟩
        · exact absurd hl ((Oper.apart_spec hap).2.2 t hd)
        · have := inv.closed j _ hoj hj e he hb
          rw [hon, h0'] at this
          cases this
    have hdown' : ∀ j o, listed.getD j false = true → ops[j]? = some o → ∀ e ∈ o.after, Region.binds .any e = true → listed.getD e.on false = true := fun j o hj ho e he hb => inv.closed j o ho hj e he hb
    have later : ∀ m, mk m = true → i < m → fl i = false → listed.getD m false = false := fun m hm him hfl => by
      cases hlm : listed.getD m false with
      | false => rfl
      | true =>
        have := reach_closed hdown' 6 m i (hmk.before m i hm him hfl) hlm
        rw [h0'] at this
        cases this
    have hfacts : FactsOK (p.1.looksAt ops) ρ w (cond (fl i) [] (factsM mk 0 (full.take i) [])) := factsOK_of _ fun t F hm hl => by
      rcases hfl : fl i with _ | _
      case true => rw [hfl] at hm; cases hm
      rw [hfl] at hm
      rcases mem_factsM hm with ⟨h, -⟩ | ⟨j, q, h1, h2, h3, h4⟩
      · cases h
      · have hji : j < i := by
          have := (List.getElem?_eq_some_iff.1 h1).1
          rw [List.length_take] at this
          omega
        have hq : full[j]? = some q := by
          rw [List.getElem?_take, if_pos hji] at h1
          exact h1
        refine hF j q F t ((conf j q hq t h3 (by simpa using hl)).2 hji) (fun m hm hjm => ?_) hq h2 h3
        rcases Nat.lt_trichotomy i m with h | h | h
        · exact later m hm h hfl
        · rw [← h]; exact h0'
        · exact absurd (h4 m hm (by omega) (by rw [List.length_take]; omega)) id
    have hli' : (full.take i).length = i := by rw [List.length_take]; omega
    have hst := hstep (by rw [hli']; exact hfacts) (by
      rw [hli']
      intro hnm
      rw [Bool.and_eq_true] at hnm
      refine hS0 fun m hm => ?_
      have hfl : fl i = false := by simpa using hnm.2
      rcases Nat.lt_trichotomy i m with h | h | h
      · exact later m hm h hfl
      · rw [← h]; exact h0'
      · have := List.all_eq_true.1 hnm.1 m (List.mem_range.2 h)
        rw [hm] at this
        cases this)
    have hag : ∀ t, t ∈ p.1.looksAt ops → a.tmps[t]? = (actOf a0 ρ (full.take i)).tmps[t]? := fun t ht =>
      hH.agree hpre t fun j q hq hd => conf j q hq t hd ht
    have hexec : execOp a.eval p.1 = execOp (actOf a0 ρ (full.take i)).eval p.1 := execOp_congr p.1 (fun cs b => hlin.sel i _ cs b ho) fun x hx => by
      cases x with
      | tmp t =>
        have := hag t (List.mem_append_left _ (List.mem_filterMap.2 ⟨.tmp t, by simpa using hx, rfl⟩))
        simp only [Act.eval, Array.getD_eq_getD_getElem?]
        rw [this]
      | _ => rfl
    have hwant : Region.wanted p.1 (yielded ops a.tmps) = Region.wanted p.1 (yielded ops (actOf a0 ρ (full.take i)).tmps) := by
      unfold Region.wanted
      cases hg : p.1.guard with
      | none => rfl
      | some gw =>
        obtain ⟨g, want⟩ := gw
        have : yielded ops a.tmps g = yielded ops (actOf a0 ρ (full.take i)).tmps g := by
          unfold yielded
          cases ht : (ops[g]?).bind (·.dst) with
          | none => rfl
          | some t =>
            have := hag t (List.mem_append_right _ (by simp [hg, ht]))
            simp only [Option.bind_some, this]
        simp only [this]
    have size_eq : (actOf a0 ρ (full.take i)).tmps.size = a.tmps.size := hpre.size.trans hH.size.symm
    -- the way on
    have go : ∀ v w', p.2.rel v w' → S w' → ((∀ m, mk m = true → (listed.setIfInBounds i true).getD m false = false) → S0 w') → (∀ (j : Nat) (q : Oper × Kind E) (F : Fact E) (d : Tmp), listed.getD j false = true → (∀ m, mk m = true → j < m → (listed.setIfInBounds i true).getD m false = false) → full[j]? = some q → q.2 = .fresh F → q.1.dst = some d → F.holds (ρ d) w') →
        wpAny P .any ops Q (fuel + (ops.size - n)) (listed.setIfInBounds i true) (a.put p.1.dst v) w' := by
      intro v w' hR hS' hS0' hF'
      have next : ∀ ρ' : Env, p.2.val ρ' p.1 = v → (∀ j q, j ≠ i → full[j]? = some q → q.2.val ρ' q.1 = q.2.val ρ q.1) → (∀ j q F d, j ≠ i → full[j]? = some q → q.2 = .fresh F → q.1.dst = some d → ρ' d = ρ d) → (∀ F d, p.2 = .fresh F → p.1.dst = some d → F.holds (ρ' d) w') →
          wpAny P .any ops Q (fuel + (ops.size - n)) (listed.setIfInBounds i true) (a.put p.1.dst v) w' := by
        intro ρ' hv hothers hd' hself
        have hset : ∀ j, (listed.setIfInBounds i true).getD j false = true ↔ j = i ∨ listed.getD j false = true := fun j => by
          by_cases hji : j = i
          · subst hji
            simp [Array.getD, hsz, hlt]
          · rw [getD_set_ne false (Ne.symm hji)]
            simp [hji]
        refine ih _ _ _ ρ' (inv.set hi hilt) ⟨todo.filter (· != i), ?_, fun j hj hjl => ?_⟩ ?_ hS' hS0' (fun j q F d hj hjm hq hf hd => ?_)
        · have : (todo.filter (· != i)).length < todo.length := by
            rw [List.length_filter_lt_length_iff_exists]
            exact ⟨i, hin i hilt h0', by simp⟩
          omega
        · have hne : j ≠ i := fun e => by
            have := (hset j).2 (.inl e)
            rw [this] at hjl
            cases hjl
          refine List.mem_filter.2 ⟨hin j hj ?_, by simpa using hne⟩
          rwa [getD_set_ne false (Ne.symm hne)] at hjl
        · have := hH.put (ρ' := ρ') hpi hset (fun j q hj hq d hd => hdist2 j i q p d (fun e => by rw [e, h0'] at hj; cases hj) hq hpi hd) (fun j q hj hq => hothers j q (fun e => by rw [e, h0'] at hj; cases hj) hq)
          rwa [hv] at this
        · rcases (hset j).1 hj with rfl | hj
          · rw [hpi] at hq
            injection hq with hq
            subst hq
            exact hself F d hf hd
          · have hne : j ≠ i := fun e => by rw [e, h0'] at hj; cases hj
            rw [hd' j q F d hne hq hf hd]
            exact hF' j q F d hj hjm hq hf hd
      cases hk : p.2 with
      | fixed v0 =>
        have hv : v = v0 := by rw [hk] at hR; exact hR
        exact next ρ (by rw [hk]; exact hv.symm) (fun _ _ _ _ => rfl) (fun _ _ _ _ _ _ _ _ => rfl) (fun F d hf => by rw [hk] at hf; cases hf)
      | fresh F =>
        obtain ⟨d, hd⟩ := hp.dst p (by rw [hsplit]; simp) ⟨F, hk⟩
        have hR' : F.holds v w' := by rw [hk] at hR; exact hR
        have hne : ∀ j q d', j ≠ i → full[j]? = some q → q.1.dst = some d' → d' ≠ d := fun j q d' hji hq hd' e => hdist2 j i q p d' hji hq hpi hd' (by rw [hd, e])
        refine next (fun t => if t = d then v else ρ t) (by rw [hk]; simp [Kind.val, hd]) (fun j q hji hq => ?_) (fun j q F' d' hji hq _ hd' => if_neg (hne j q d' hji hq hd')) (fun F' d' hf hd' => ?_)
        · cases hkq : q.2 with
          | fixed v0 => rfl
          | fresh F' =>
            obtain ⟨d', hd'⟩ := hp.dst q (List.mem_of_getElem? hq) ⟨F', hkq⟩
            simp only [Kind.val, hd']
            exact if_neg (hne j q d' hji hq hd')
        · rw [hk] at hf
          injection hf with hf
          rw [hd] at hd'
          injection hd' with hd'
          subst hf hd'
          simpa using hR'
    have hset' : ∀ j, (listed.setIfInBounds i true).getD j false = false → listed.getD j false = false := fun j hj => by
      by_cases hji : j = i
      · rw [hji]; exact h0'
      · rwa [getD_set_ne false (Ne.symm hji)] at hj
    have hlen_i : (full.take i).length = i := by rw [List.length_take]; omega
    have hseti : (listed.setIfInBounds i true).getD i false = true := by simp [Array.getD, hsz, hlt]
    rw [hlen_i] at hst
    unfold wpOp
    simp only [ho]
    unfold StepTo at hst
    rw [← hwant] at hst
    split
    · rename_i hw
      rw [if_pos hw] at hst
      refine .inl (wp_carry (R := fun v w' => p.2.rel v w' ∧ S w' ∧ (cond (mk i) (fun _ _ => True) E) w w') hexec size_eq (hst _ fun v w' h1 h2 h3 => ⟨v, rfl, h1, h2, h3⟩) fun v w' ⟨h1, h2, h3⟩ => go v w' h1 h2 (fun hno => ?_) fun j q F d hj hjm hq hf hd => ?_)
      · rcases hmi : mk i with _ | _
        · rw [hmi] at h3
          exact hE0 _ _ (hS0 fun m hm => hset' m (hno m hm)) h3
        · have := hno i hmi
          rw [hseti] at this
          cases this
      rcases hmi : mk i with _ | _
      · rw [hmi] at h3
        exact F.keep _ _ _ (hF j q F d hj (fun m hm h => hset' m (hjm m hm h)) hq hf hd) h3
      · exfalso
        rcases Nat.lt_trichotomy j i with h | h | h
        · have := hjm i hmi h
          rw [hseti] at this
          cases this
        · rw [h, h0'] at hj; cases hj
        · have := reach_closed hdown' 6 j i (hmk.after i j hmi h (by have := (List.getElem?_eq_some_iff.1 hq).1; omega) (hp.flt j q hq ⟨F, hf⟩)) hj
          rw [h0'] at this
          cases this
    · rename_i hw
      rw [if_neg hw] at hst
      exact go undef w hst hS (fun hno => hS0 fun m hm => hset' m (hno m hm)) fun j q F d hj hjm hq hf hd => hF j q F d hj (fun m hm h => hset' m (hjm m hm h)) hq hf hd

/-- the same, that nothing looks into -/
structure WalkN (P : Program) (ops : Array Oper) (S S0 : World → Prop) (E : World → World → Prop) (mk fl : Nat → Bool) (Z : (Env → Act) → List (Tmp × Fact E) → Prop) (k : Nat) (l : List Oper) (A : Env → Act) (Fs : List (Tmp × Fact E)) : Prop where
  out : SettleN P ops S S0 E mk fl Z k l A Fs

/-- THE RULE, with marks and a tail of n operations ahead of it -/
theorem wp_walk_mt {id : Nat} {a : Act} {w : World} {l : List Oper} (n : Nat) (mk fl : Nat → Bool) (ms : List Nat) (hms : ∀ m, mk m = true → m ∈ ms) (hm : P.follows .mixedOrders = true) (hB : tailB l.toArray n = true) (hmk : markNB l.toArray n mk fl ms = true) (E : World → World → Prop) (S S0 : World → Prop) (hS : S w.drew) (hS0 : S0 w.drew) (hE0 : ∀ w w', S0 w → E w w' → S0 w')
    (h : WalkN P l.toArray S S0 E mk fl (fun A Fs => ∀ ρ w', S w' → (∀ t F, (t, F) ∈ Fs → F.holds (ρ t) w') → wpList P l.toArray Q (l.drop n) (A ρ) w') 0 (l.take n) (fun _ => a) []) : (Code.region id l.toArray true).wp P Q a w := by
  simp only [tailB, Bool.and_eq_true, decide_eq_true_eq] at hB
  obtain ⟨⟨⟨⟨hn, hlin⟩, hs⟩, hc⟩, hq⟩ := hB
  obtain ⟨full, hp, he, hZ⟩ := settleN_plan (l.take n) [] ⟨(fun _ h => by cases h), (fun j p h => by simp at h), (fun pre p post he => by simp at he)⟩ h.out
  have inv0 : HeadInv .any l.toArray n (Array.replicate l.toArray.size false) :=
    ⟨by simp, fun j oj _ hl => (by rw [getD_replicate_false] at hl; cases hl), fun t _ ht => getD_in (by simpa using ht) (getD_replicate_false _ _)⟩
  have := any_order_mt (P := P) (Q := Q) hn (by simpa using he) (linearN_of hlin) hs hc (fun listed hsz h1 h2 => by
    have hn' := hn
    rw [show listed = (Array.replicate n true) ++ (Array.replicate (l.toArray.size - n) false) from getD_ext (by simp only [Array.size_append, Array.size_replicate]; omega) fun i => by
      rw [Array.getD_eq_getD_getElem? (xs := _ ++ _), Array.getElem?_append]
      rcases Nat.lt_or_ge i n with h | h
      · rw [h1 i h]
        simp [h]
      · rw [h2 i h]
        simp only [Array.size_replicate, Nat.not_lt.2 h, if_false, Array.getElem?_replicate]
        split <;> rfl]
    exact hq) (markedN_of hms hmk) hp hE0 hZ n _ a w.drew (fun _ => undef) inv0 ⟨List.range n, by simp, fun i hi _ => List.mem_range.2 hi⟩ ⟨rfl, rfl, fun _ _ => rfl, fun i p t hi => ?_⟩ hS (fun _ => hS0) fun i p F d hi => ?_
  · refine wp_region_any hm ?_
    rwa [show n + (l.toArray.size - n) = l.toArray.size by omega] at this
  · exfalso; rw [getD_replicate_false] at hi; cases hi
  · exfalso; rw [getD_replicate_false] at hi; cases hi
variable {Z : (Env → Act) → List (Tmp × Fact E) → Prop} {o : Oper} {rest : List Oper} {A : Env → Act} {Fs : List (Tmp × Fact E)} {k : Nat}
theorem nsettle_nil (h : Z A Fs) : WalkN P ops S S0 E mk fl Z k [] A Fs := ⟨h⟩
theorem nsettle_skip (hmk : mk k = false) (hw : ∀ ρ, Region.wanted o (yielded ops (A ρ).tmps) = false) (h : WalkN P ops S S0 E mk fl Z (k + 1) rest (fun ρ => (A ρ).put o.dst undef) Fs) : WalkN P ops S S0 E mk fl Z k (o :: rest) A Fs :=
  ⟨.inl ⟨undef, fun ρ w _ _ _ => by unfold StepTo; rw [if_neg (by rw [hw]; simp)], by rw [hmk]; exact h.out⟩⟩
theorem nsettle_run {v : Value} (hmk : mk k = false) (hE : ∀ w, S w → E w w) (hw : ∀ ρ, Region.wanted o (yielded ops (A ρ).tmps) = true)
    (hr : ∀ ρ w, S w → FactsOK (o.looksAt ops) ρ w (cond (fl k) [] Fs) → Pre mk fl S0 k w → (execOp (A ρ).eval o).run P w = .ok (.value v) w) (h : WalkN P ops S S0 E mk fl Z (k + 1) rest (fun ρ => (A ρ).put o.dst v) Fs) : WalkN P ops S S0 E mk fl Z k (o :: rest) A Fs :=
  ⟨.inl ⟨v, fun ρ w hS hF hP => by
    unfold StepTo
    rw [if_pos (hw ρ), hmk]
    intro K hK
    unfold Oper.wp
    rw [hr ρ w hS hF hP]
    exact hK v w rfl hS (hE w hS), by rw [hmk]; exact h.out⟩⟩
theorem nsettle_step {v : Value} (hmk : mk k = false) (hw : ∀ ρ, Region.wanted o (yielded ops (A ρ).tmps) = true)
    (hc : ∀ ρ w, S w → FactsOK (o.looksAt ops) ρ w (cond (fl k) [] Fs) → Pre mk fl S0 k w → ∀ K : Act → World → Prop, (∀ w', S w' → E w w' → K ((A ρ).put o.dst v) w') → o.wp P (A ρ) w K (fun _ _ _ => False)) (h : WalkN P ops S S0 E mk fl Z (k + 1) rest (fun ρ => (A ρ).put o.dst v) Fs) : WalkN P ops S S0 E mk fl Z k (o :: rest) A Fs :=
  ⟨.inl ⟨v, fun ρ w hS hF hP => by
    unfold StepTo
    rw [if_pos (hw ρ), hmk]
    exact fun K hK => hc ρ w hS hF hP K fun w' h1 h2 => hK v w' rfl h1 h2, by rw [hmk]; exact h.out⟩⟩
theorem nsettle_known {d : Tmp} (F : Fact E) (hmk : mk k = false) (hfl : fl k = false) (hd : o.dst = some d) (hw : ∀ ρ, Region.wanted o (yielded ops (A ρ).tmps) = true)
    (hc : ∀ ρ w, S w → FactsOK (o.looksAt ops) ρ w (cond (fl k) [] Fs) → Pre mk fl S0 k w → ∀ K : Act → World → Prop, (∀ v w', F.holds v w' → S w' → E w w' → K ((A ρ).put o.dst v) w') → o.wp P (A ρ) w K (fun _ _ _ => False)) (h : WalkN P ops S S0 E mk fl Z (k + 1) rest (fun ρ => (A ρ).put (some d) (ρ d)) ((d, F) :: Fs)) : WalkN P ops S S0 E mk fl Z k (o :: rest) A Fs :=
  ⟨.inr ⟨d, F, hd, hfl, fun ρ w hS hF hP => by
    unfold StepTo
    rw [if_pos (hw ρ), hmk]
    exact fun K hK => hc ρ w hS hF hP K hK, by rw [hmk]; exact h.out⟩⟩
/-- a mark: what was known is forgotten -/
theorem nsettle_mark {d : Tmp} (F : Fact E) (hmk : mk k = true) (hfl : fl k = false) (hd : o.dst = some d) (hw : ∀ ρ, Region.wanted o (yielded ops (A ρ).tmps) = true)
    (hc : ∀ ρ w, S w → FactsOK (o.looksAt ops) ρ w (cond (fl k) [] Fs) → Pre mk fl S0 k w → ∀ K : Act → World → Prop, (∀ v w', F.holds v w' → S w' → K ((A ρ).put o.dst v) w') → o.wp P (A ρ) w K (fun _ _ _ => False)) (h : WalkN P ops S S0 E mk fl Z (k + 1) rest (fun ρ => (A ρ).put (some d) (ρ d)) [(d, F)]) : WalkN P ops S S0 E mk fl Z k (o :: rest) A Fs :=
  ⟨.inr ⟨d, F, hd, hfl, fun ρ w hS hF hP => by
    unfold StepTo
    rw [if_pos (hw ρ), hmk]
    exact fun K hK => hc ρ w hS hF hP K fun v w' h1 h2 => hK v w' h1 h2 trivial, by rw [hmk]; exact h.out⟩⟩
end
end Go.Proofs.YtkjmddgnfgbioaaDoor


namespace Go.Proofs.YtkjmddgnfgbioaaDoor
set_option linter.unusedVariables false
set_option linter.unusedSimpArgs false
set_option maxRecDepth 100000
open Go.RowKit
namespace Sp
def accc (a : Acc) : List Value := [.int .i64 a.1, .bool a.2.1, .int .i64 a.2.2]
def acccs (l : List Acc) : List Value := l.flatMap accc
theorem acccs_length (l : List Acc) : (acccs l).length = l.length * 3 := flat_length accc 3 (fun _ => rfl) l
theorem acccs_append (a b : List Acc) : acccs (a ++ b) = acccs a ++ acccs b := by simp [acccs]
theorem acc_one (a : Acc) : ∀ u ∈ accc a, u.oneCell' = true := by
  intro u hu
  simp only [accc, List.mem_cons, List.not_mem_nil, or_false] at hu
  rcases hu with rfl | rfl | rfl <;> rfl
theorem info_acc : (Tryd.prog.info? 56).map (fun i => (i.zero, i.size, i.bytes)) = some (some (.agg #[.int .i64 0, .bool false, .int .i64 0]), 3, 24) := by kernel_rfl
end Sp
end Go.Proofs.YtkjmddgnfgbioaaDoor


namespace Go.Proofs.YtkjmddgnfgbioaaDoor
set_option linter.unusedVariables false
set_option linter.unusedSimpArgs false
set_option maxRecDepth 100000
open Go Go.RowKit

theorem still_tail {P : Go.Program} {id : Nat} {Q : Exit → Act → World → Prop} {a : Act} {w : World} {l : List Oper} (n : Nat) (hm : P.follows .mixedOrders = true) (hB : Region.lexTailB .any l.toArray n = true)
    (h : wpStill P l.toArray (w.drewN 1) (fun a' => wpList P l.toArray Q (l.drop n) a' (w.drewN 1)) (l.take n) a) : (Code.region id l.toArray true).wp P Q a w :=
  wp_region_still_tail n hm hB h

/-- its last operation is the store -/
theorem still_last {P : Go.Program} {id : Nat} {Q : Exit → Act → World → Prop} {a : Act} {w : World} {l : List Oper} (hm : P.follows .mixedOrders = true) (hB : Region.lexTailB .any l.toArray (l.length - 1) = true)
    (h : wpStill P l.toArray (w.drewN 1) (fun a' => wpList P l.toArray Q (l.drop (l.length - 1)) a' (w.drewN 1)) (l.take (l.length - 1)) a) : (Code.region id l.toArray true).wp P Q a w :=
  still_tail (l.length - 1) hm hB h

/-- an own row and its block: the block as a whole -/
theorem own_blk {w : World} {base : Nat} {e : TypeId} {g n c : Nat} {xs : List Value} (h : w.ownsRow base e 1 (.slice (some ⟨g, 0, none⟩) n c) n xs) :
    ∃ cs, Blk w g e cs ∧ cs.length = c ∧ cs.take n = xs ∧ n ≤ c ∧ c ≤ maxLen ∧ base ≤ g := by
  rcases h.2 with ⟨h', _⟩ | ⟨g1, cap, cur, he, hb, hh, hle, hm, hs, ht⟩
  · cases h'
  · cases he
    exact ⟨cur.toList, hh, by simpa using hs, by simpa using ht, hle, hm, hb⟩
theorem own_of_blk {w : World} {base : Nat} {e : TypeId} {g n : Nat} {cs : List Value} (h : Blk w g e cs) (hb : base ≤ g) (hn : n ≤ cs.length) (hm : cs.length ≤ maxLen) : w.ownsRow base e 1 (.slice (some ⟨g, 0, none⟩) n cs.length) n (cs.take n) :=
  ⟨by simp; omega, .inr ⟨g, cs.length, cs.toArray, rfl, hb, h, hn, hm, by simp, by simp⟩⟩

theorem wpl_set_own {P : Go.Program} {w : World} {base : Nat} {e : TypeId} {g n c : Nat} {xs : List Value} {ops : Array Oper} {rest : List Oper} {o : Oper} {a : Act} {Q : Exit → Act → World → Prop} (h : w.ownsRow base e 1 (.slice (some ⟨g, 0, none⟩) n c) n xs) (i : Nat) (u : Value) {ty : TypeId} (hi : (P.info? ty).map (·.size) = some 1) (hk : i < n) (hu : u.cells = #[u]) (h1 : u.oneCell' = true)
    (hgd : Region.wanted o (yielded ops a.tmps) = true) {x y : Operand} (ho : o.op = .store ty x y) (hx : a.eval x = .pointer (some ⟨g, i, none⟩)) (hy : a.eval y = u)
    (hK : ∀ w', w'.ownsRow base e 1 (.slice (some ⟨g, 0, none⟩) n c) n (xs.set i u) → w.grownBy w' (some g) → wpList P ops Q rest (a.put o.dst undef) w') : wpList P ops Q (o :: rest) a w := by
  obtain ⟨cs, hB, rfl, rfl, hn, hm, hb⟩ := own_blk h
  refine wpl_set_blk hB i u hi (by omega) hu h1 hgd ho hx hy fun w' hB' hg => hK w' ?_ hg
  have := own_of_blk (n := n) hB' hb (by simpa using hn) (by simpa using hm)
  rw [List.length_set, List.take_set] at this
  exact this
end Go.Proofs.YtkjmddgnfgbioaaDoor


namespace Go.Proofs.YtkjmddgnfgbioaaDoor
set_option linter.unusedVariables false
set_option linter.unusedSimpArgs false
set_option maxRecDepth 100000
open Go.RowKit

namespace Sr
/-- the accesses that are kept -/
def rows (vt : Value) (t : List Sp.Acc) : List Rw := [⟨56, 3, vt, t.length, Sp.acccs t⟩]
def rcells (F : Nat) (m : M) (vt : Value) : List Value := ints .i64 m.heap ++ [.int .i64 (F : Int), .int .i64 (m.steps : Int), vt]
end Sr
abbrev RuO (B : Nat) (w : World) (g F : Nat) (m : Sr.M) (vt : Value) : Prop := Own B w g 116 (Sr.rcells F m vt) (Sr.rows vt m.trace)
abbrev RuT (g : Nat) (m : Sr.M) (vt : Value) : Nat → Prop := Tw g (Sr.rows vt m.trace)
abbrev RuTo (B : Nat) (w0 : World) (T : Nat → Prop) (w : World) (g F : Nat) (m : Sr.M) (vt : Value) : Prop := OwnTo B w0 T w g 116 (Sr.rcells F m vt) (Sr.rows vt m.trace)
/-- what ends a run for lack of fuel -/
def spent : List PanicEntry := [{ v := .iface 155 (.agg #[]), recovered := false }]

theorem Sr.heap8 {h : List Int} (hl : h.length = 8) : ∃ a b c d e f g i, h = [a, b, c, d, e, f, g, i] := by
  match h, hl with
  | [a, b, c, d, e, f, g, i], _ => exact ⟨a, b, c, d, e, f, g, i, rfl⟩

theorem Sr.cell_eq (n : Int) : (wrap64 (n.tmod 8 + 8)).tmod 8 = ((Sr.cell n : Nat) : Int) := by
  have h1 := Int.mul_tdiv_add_tmod n 8
  have h2 := Int.tmod_lt_of_pos n (b := 8) (by decide)
  have h3 := Int.lt_tmod_of_pos n (b := 8) (by decide)
  unfold Sr.cell
  generalize n.tmod 8 = x at h1 h2 h3 ⊢
  generalize n.tdiv 8 = q at h1
  rw [show wrap64 (x + 8) = x + 8 by unfold wrap64; omega, Int.tmod_eq_emod_of_nonneg (by omega)]
  omega

theorem cell_any (n : Int) (w : World) : Calls Tryd.prog 73 #[.int .i64 n] w fun e w' => e = .returned (.int .i64 (Sr.cell n : Nat)) ∧ w = w' := by
  have HH := Lib.hid (Sr.cell_eq n)
  go_enter Tryd.func73, Tryd.ntmps73
  go_wp2
  go_ret
  exact ⟨ret_int HH.out, rfl⟩

theorem Sr.rcells_get {F : Nat} {m : Sr.M} {vt : Value} (hl : m.heap.length = 8) : (∀ c, c < 8 → (Sr.rcells F m vt)[c]? = some (.int .i64 (m.heap.getD c 0))) ∧ (Sr.rcells F m vt)[8]? = some (.int .i64 (F : Int)) ∧ (Sr.rcells F m vt)[9]? = some (.int .i64 (m.steps : Int)) ∧ (Sr.rcells F m vt)[10]? = some vt := by
  obtain ⟨a, b, c, d, e, f, g, i, h⟩ := Sr.heap8 hl
  unfold Sr.rcells
  rw [h]
  refine ⟨fun c hc => ?_, rfl, rfl, rfl⟩
  match c, hc with
  | 0, _ => rfl
  | 1, _ => rfl
  | 2, _ => rfl
  | 3, _ => rfl
  | 4, _ => rfl
  | 5, _ => rfl
  | 6, _ => rfl
  | 7, _ => rfl

theorem step_ok (B : Nat) (w : World) (g F : Nat) (m : Sr.M) (vt : Value) (h : RuO B w g F m vt) (hl : m.heap.length = 8) (hs : m.steps < F) (hF : F ≤ 2000) :
    Calls Tryd.prog 136 #[.pointer (some ⟨g, 0, none⟩)] w fun e w' => e = .returned (.tuple #[]) ∧ RuTo B w (RuT g m vt) w' g F m.step vt := by
  obtain ⟨r0, r8, r9, r10⟩ := Sr.rcells_get (F := F) (vt := vt) hl
  have c8 : w.cell? ⟨g, 8, none⟩ = some (.int .i64 (F : Int)) := (h.blk.cell 8).trans r8
  have c9 : w.cell? ⟨g, 9, none⟩ = some (.int .i64 (m.steps : Int)) := (h.blk.cell 9).trans r9
  have g1 : ((m.steps : Int) == (F : Int)) = false := by simp; omega
  have hB := h.blk
  have hend : ∀ w2, Blk w2 g 116 ((Sr.rcells F m vt).set 9 (.int .i64 ((m.steps : Int) + 1))) → w.grownBy w2 (some g) → RuTo B w (RuT g m vt) w2 g F m.step vt := fun w2 b2 g2 => by
    have := h.cells_to b2 g2
    obtain ⟨a, b, c, d, e, f, g', i, h8⟩ := Sr.heap8 hl
    have e : (Sr.rcells F m vt).set 9 (.int .i64 ((m.steps : Int) + 1)) = Sr.rcells F m.step vt := by
      unfold Sr.rcells Sr.M.step
      rw [h8]
      rfl
    rw [e] at this
    exact this
  have HE := Lib.hid hend
  clear hend h r0 r8 r9 r10
  go_enter Tryd.func136, Tryd.ntmps136
  go_wp2_with fail
  go_quiet (fail)
  go_wp2_with (first | (refine wpl_set_blk hB 9 (.int .i64 ((m.steps : Int) + 1)) (by kernel_rfl) (by simp [Sr.rcells, ints_length, hl]) rfl rfl rfl rfl rfl rfl ?_; intro w2 hB2 hg2) | fail)
  go_end0
  exact ⟨rfl, HE.out w2 hB2 (grown_undrewN hg2)⟩

theorem step_out (B : Nat) (w : World) (g F : Nat) (m : Sr.M) (vt : Value) (h : RuO B w g F m vt) (hl : m.heap.length = 8) (hs : m.steps = F) :
    Calls Tryd.prog 136 #[.pointer (some ⟨g, 0, none⟩)] w fun e w' => e = .panicked spent ∧ Below w.heap.size w w' := by
  obtain ⟨r0, r8, r9, r10⟩ := Sr.rcells_get (F := F) (vt := vt) hl
  have c8 : w.cell? ⟨g, 8, none⟩ = some (.int .i64 (F : Int)) := (h.blk.cell 8).trans r8
  have c9 : w.cell? ⟨g, 9, none⟩ = some (.int .i64 (m.steps : Int)) := (h.blk.cell 9).trans r9
  have g1 : ((m.steps : Int) == (F : Int)) = true := by simp; omega
  clear h r0 r8 r9 r10
  go_enter Tryd.func136, Tryd.ntmps136
  go_wp2_with fail
  go_quiet (fail)
  go_wp2
  exact ⟨rfl, rfl, below_drewN (Below.refl _ _) _⟩


set_option maxHeartbeats 1000000 in
theorem access_any (B : Nat) (w : World) (g F : Nat) (m : Sr.M) (vt : Value) (n : Int) (wr : Bool) (l : Nat) (h : RuO B w g F m vt) (hl : m.heap.length = 8) (ht : m.trace.length ≤ 2000) :
    Calls Tryd.prog 138 #[.pointer (some ⟨g, 0, none⟩), .int .i64 n, .bool wr, .int .i64 (l : Int)] w fun e w' => e = .returned (.int .i64 (Sr.cell n : Nat)) ∧ ∃ vt', RuTo B w (RuT g m vt) w' g F (m.acc (Sr.cell n) wr l) vt' := by
  obtain ⟨r0, r8, r9, r10⟩ := Sr.rcells_get (F := F) (vt := vt) hl
  have c10 : w.cell? ⟨g, 10, none⟩ = some vt := (h.blk.cell 10).trans r10
  have rt : w.ownsRow B 56 3 vt m.trace.length (Sp.acccs m.trace) := h.row 0 rfl
  have hbase := h.base
  obtain ⟨VT, ct, rfl, -, -⟩ := own_slice rt
  obtain ⟨N, hN⟩ : ∃ N, N = m.trace.length := ⟨_, rfl⟩
  have hHE : ∀ (w4 : World) (v' : Value) (w5 : World), w4.ownsRow B 56 3 v' (m.trace.length + 1) (Sp.acccs m.trace ++ [.int .i64 (Sr.cell n : Nat), .bool wr, .int .i64 (l : Int)]) → w.grownBy w4 (Value.slice VT m.trace.length ct).ownBlock → (v'.ownBlock = (Value.slice VT m.trace.length ct).ownBlock ∨ v'.ownBlock = some (w.heap.size + 1)) →
      Blk w4 g 116 (Sr.rcells F m (.slice VT m.trace.length ct)) ∧ (Blk w5 g 116 ((Sr.rcells F m (.slice VT m.trace.length ct)).set 10 v') → w4.grownBy w5 (some g) → RuTo B w (RuT g m (.slice VT m.trace.length ct)) w5 g F (m.acc (Sr.cell n) wr l) v') := fun w4 v' w5 o4 g4 e4 => by
    have o4' : w4.ownsRow B 56 3 v' (m.acc (Sr.cell n) wr l).trace.length (Sp.acccs (m.acc (Sr.cell n) wr l).trace) := by
      simpa [Sr.M.acc, Sp.acccs, Sp.accc] using o4
    have hv : v'.ownBlock = (Value.slice VT m.trace.length ct).ownBlock ∨ ∃ k, w.heap.size ≤ k ∧ v'.ownBlock = some k := e4.imp id fun e => ⟨_, Nat.le_succ _, e⟩
    refine ⟨(h.put (i := 0) rfl o4' g4 hv).1, fun b5 g5 => ?_⟩
    have := h.put_to (i := 0) rfl o4' g4 hv b5 g5
    obtain ⟨a, b, c, d, e, f, g', i, h8⟩ := Sr.heap8 hl
    have e : (Sr.rcells F m (.slice VT m.trace.length ct)).set 10 v' = Sr.rcells F (m.acc (Sr.cell n) wr l) v' := by
      unfold Sr.rcells Sr.M.acc
      rw [h8]
      rfl
    rw [e] at this
    exact this
  have hn63 : N + 1 ≤ maxLen := by unfold maxLen; omega
  have hn47 : (N + 1) * 24 ≤ 140737488355328 := by omega
  have hlen10 : 10 < (Sr.rcells F m (.slice VT m.trace.length ct)).length := by simp [Sr.rcells, ints_length, hl]
  rw [← hN] at rt c10 hHE hlen10
  have HE := Lib.hid hHE
  clear hHE h r0 r8 r9 r10
  have h3 : ∀ u ∈ ([.int .i64 (Sr.cell n : Nat), .bool wr, .int .i64 (l : Int)] : List Value), u.oneCell' = true := by
    intro u hu
    rcases List.mem_cons.1 hu with rfl | hu
    · rfl
    rcases List.mem_cons.1 hu with rfl | hu
    · rfl
    rcases List.mem_singleton.1 hu with rfl
    rfl
  have HN := Lib.hid hN
  clear hN
  go_enter Tryd.func138, Tryd.ntmps138
  go_wp2_with fail
  refine (cell_any n w).mono ?_
  rintro e w1 ⟨rfl, rfl⟩
  go_wp2_with (first | (at_builtin; refine wp_push w _ _ B _ _ _ _ _ Tryd.underlying63 Sp.info_acc rfl (by decide) rt [.int .i64 (Sr.cell n : Nat), .bool wr, .int .i64 (l : Int)] rfl h3 hn63 hn47 hbase rfl rfl rfl rfl ?_; intro v' w4 hown4 hg4 hv4 _; have hB4 := (HE.out w4 v' w4 hown4 hg4 hv4).1; obtain ⟨V', c', rfl, _, _⟩ := own_slice hown4) | (refine wpl_set_blk hB4 10 _ (by kernel_rfl) hlen10 rfl rfl rfl rfl rfl rfl ?_; intro w5 hB5 hg5) | fail)
  go_ret
  exact ⟨rfl, _, by rw [← HN.out]; exact (HE.out w4 _ w5 hown4 hg4 hv4).2 hB5 hg5⟩
end Go.Proofs.YtkjmddgnfgbioaaDoor


namespace Go.Proofs.YtkjmddgnfgbioaaDoor
set_option linter.unusedVariables false
set_option linter.unusedSimpArgs false
set_option maxRecDepth 100000
open Go Go.RowKit

namespace Sr
open Ex St
/-- all its numbers are 64-bit numbers -/
def okp : P → Prop
  | .nil => True
  | .cons _ _ a b body els rest => ok a ∧ ok b ∧ okp body ∧ okp els ∧ okp rest
structure Fit (F : Nat) (m : M) : Prop where
  len : m.heap.length = 8
  rg : ∀ x ∈ m.heap, rng x
  st : m.steps ≤ F
  tr : m.trace.length ≤ m.steps
theorem getD_rng {h : List Int} (hr : ∀ x ∈ h, rng x) (c : Nat) : rng (h.getD c 0) := by
  rw [List.getD_eq_getElem?_getD]
  rcases hc : h[c]? with _ | x
  · unfold rng; simp
  · exact hr x (List.mem_of_getElem? hc)
theorem iter_rng {f : Int → M → M} (hf : ∀ i m, rng i → (∀ x ∈ m.heap, rng x) → ∀ x ∈ (f i m).heap, rng x) : ∀ (n : Nat) (i : Int) (m : M), rng i → rng (i + (n : Int)) → (∀ x ∈ m.heap, rng x) → ∀ x ∈ (iter n i f m).heap, rng x
  | 0, _, _, _, _, h => h
  | n + 1, i, m, hi, hn, h => iter_rng hf n (i + 1) (f i m) (by unfold rng at *; omega) (by unfold rng at *; omega) (hf i m hi h)
theorem env_snoc {env : Env} (h : ∀ b ∈ env, rng b.2) (nm : Bs) {v : Int} (hv : rng v) : ∀ b ∈ env ++ [(nm, v)], rng b.2 := fun b hb => by
  rcases List.mem_append.1 hb with hb | hb
  · exact h b hb
  · rw [List.mem_singleton.1 hb]; exact hv
theorem run_rng : ∀ (p : P) (env : Env) (l : Nat) (m : M), okp p → (∀ b ∈ env, rng b.2) → (∀ x ∈ m.heap, rng x) → ∀ x ∈ (run p env l m).heap, rng x
  | .nil, _, _, _, _, _, h => h
  | .cons k nm a b body els rest, env, l, m, ⟨ha, hb, hbo, hel, hre⟩, he, h => by
    unfold run
    split
    · exact run_rng rest _ _ _ hre (env_snoc he _ (evl_rng env he a ha)) h
    split
    · exact run_rng rest _ _ _ hre (env_snoc he _ (getD_rng h _)) h
    split
    · refine run_rng rest _ _ _ hre he fun x hx => ?_
      rcases List.mem_or_eq_of_mem_set (show x ∈ m.heap.set _ _ from hx) with hx | rfl
      · exact h x hx
      · exact evl_rng env he b hb
    split
    · exact run_rng rest _ _ _ hre he (run_rng body _ _ _ hbo he h)
    split
    · refine run_rng rest _ _ _ hre he ?_
      split
      · exact run_rng body _ _ _ hbo he h
      · exact run_rng els _ _ _ hel he h
    split
    · have hra := evl_rng env he a ha
      have hrb := evl_rng env he b hb
      refine run_rng rest _ _ _ hre he ?_
      by_cases hn : evl env a ≤ evl env b
      · exact iter_rng (fun i m hi h => run_rng body (env ++ [(nm, i)]) l m.step hbo (env_snoc he _ hi) h) (evl env b - evl env a).toNat _ _ hra (by unfold rng at *; omega) h
      · rw [show (evl env b - evl env a).toNat = 0 by omega]
        exact h
    exact run_rng rest _ _ _ hre he h
theorem Fit.on {F : Nat} {m m' : M} (h : Fit F m) (ho : On m m') (hr : ∀ x ∈ m'.heap, rng x) (hs : m'.steps ≤ F) : Fit F m' := by
  obtain ⟨h1, h2, t, h3, h4, -⟩ := ho
  exact ⟨h2.trans h.len, hr, hs, by rw [h3, List.length_append]; have := h.tr; omega⟩
end Sr

theorem PR.ok {B : Nat} {w : World} {A : Option Addr} {n : Nat} {p : St.P} (h : PR B w A n p) : Sr.okp p := by
  induction h with
  | nil A => trivial
  | cons g o n k nm ca cb ea eb D dl dc E el ec body els rest h1 h2 h3 h4 h5 h6 h7 h8 _ _ _ i1 i2 i3 => exact ⟨h7.ok, h8.ok, i1, i2, i3⟩

/-! ### a slice that is full, appended to: always a new block -/
theorem run_append_full {P : Program} (w : World) (t ty e : TypeId) (z : Value) (size bytes : Nat) (ht : P.underlying t = some (.slice e)) (hinfo : (P.info? e).map (fun i => (i.zero, i.size, i.bytes)) = some (some z, size, bytes)) (hz : z.cells.size = size) (hsz : 0 < size)
    {A : Option Addr} {n : Nat} {xs : List Value} (h : SlV w size (.slice A n n) n xs) {vs : Value} {m : Nat} {news : List Value} (hs : SlV w size vs m news) (h1 : ∀ u ∈ news, u.oneCell' = true) (hm : 0 < m)
    (h63 : n + m ≤ maxLen) (hbytes : (n + m) * bytes ≤ 140737488355328) :
    ∃ v' w', (Builtin.append_ #[t, t] ty #[.slice A n n, vs]).run P w = .ok v' w' ∧ w'.ownsRow w.heap.size e size v' (n + m) (xs ++ news) ∧ Below w.heap.size w w' := by
  obtain ⟨A', c', he, _, _, hl, hc⟩ := h
  injection he with e1 e2 e3
  subst e1 e3
  obtain ⟨D, c, rfl, hc1, hc2, hln, hcn⟩ := hs
  obtain ⟨i, hi, hz0, hz1, hz2⟩ := info_parts hinfo
  have hne : news ≠ [] := by
    intro h0
    rw [h0] at hln
    have : 0 < m * size := Nat.mul_pos hm hsz
    simp at hln
    omega
  obtain ⟨b, o, rfl, hb, hcell⟩ := hcn.at_ hne
  rcases A with _ | a
  · have h0 : xs = [] := by
      apply Classical.byContradiction
      intro hx
      obtain ⟨_, _, h, _⟩ := hc.at_ hx
      cases h
    subst h0
    have hn0 : n = 0 := by
      have : n * size = 0 := by simpa using hl.symm
      rcases Nat.mul_eq_zero.1 this with h | h <;> omega
    subst hn0
    obtain ⟨v', w', hrun, h2, h3, h4⟩ := run_append (P := P) w w.heap.size t ty e z size bytes ht hinfo hz hsz (.slice none 0 0) 0 [] (World.ownsRow_nil w _ e size) w.heap.size (some ⟨b, o, none⟩) m c news hln hcn h1 h63 hbytes (Nat.le_refl _)
    exact ⟨v', w', hrun, h2, (Below.refl _ _).grown h3 (Nat.le_refl _) (by intro k hk; cases hk)⟩
  · obtain ⟨v', w', hrun, h2, h3⟩ := run_append_arg_grows (P := P) w t ty e i z size bytes ht hi hz0 hz1 hz2 hz hsz a n n xs hl (fun j u hu => by
      obtain ⟨b', o', e', _, h'⟩ := hc.at_ (fun e => by rw [e] at hu; simp at hu)
      injection e' with e'
      subst e'
      rw [Addr.add_lit]
      exact h' j u hu) ⟨b, o, none⟩ m c news hln (fun j u hu => by rw [Addr.add_lit]; exact hcell j u hu) (by omega) h63 hbytes
    exact ⟨v', w', hrun, h2, (Below.refl _ _).grown h3 (Nat.le_refl _) (by intro k hk; cases hk)⟩
/-- the same, as an operation -/
theorem oper_full {P : Program} {w : World} {o : Oper} {a : Act} {K : Act → World → Prop} {Q : Exit → Act → World → Prop} (s x : Operand)
    (t e : TypeId) (z : Value) (size bytes : Nat) (ht : P.underlying t = some (.slice e)) (hinfo : (P.info? e).map (fun i => (i.zero, i.size, i.bytes)) = some (some z, size, bytes)) (hz : z.cells.size = size) (hsz : 0 < size)
    {A : Option Addr} {n : Nat} {xs : List Value} (h : SlV w size (.slice A n n) n xs) {vs : Value} {m : Nat} {news : List Value} (hsl : SlV w size vs m news) (h1 : ∀ u ∈ news, u.oneCell' = true) (hm : 0 < m)
    (h63 : n + m ≤ maxLen) (hbytes : (n + m) * bytes ≤ 140737488355328) (ho : o.op = .call { callee := .builtin .append, args := #[s, x], argTypes := #[t, t] }) (hs : a.eval s = .slice A n n) (hx : a.eval x = vs)
    (hK : ∀ v' w', w'.ownsRow w.heap.size e size v' (n + m) (xs ++ news) → Below w.heap.size w w' → K (a.put o.dst v') w') : o.wp P a w K Q := by
  obtain ⟨v', w', hrun, h2, h3⟩ := run_append_full (P := P) w t o.type e z size bytes ht hinfo hz hsz h hsl h1 hm h63 hbytes
  unfold Oper.wp execOp
  simp only [ho, resolve, invoke, builtin, Sem.run_bind, Sem.run_pure, Result.andThen_ok, List.map_toArray, List.map_cons, List.map_nil, hs, hx, hrun]
  exact hK v' w' h2 h3

theorem clip_any (w : World) (A : Option Addr) (n c : Nat) (hnc : n ≤ c) (hc : c ≤ maxLen) (hA : A = none → n = 0) : Calls Tryd.prog 137 #[.slice A n c] w fun e w' => e = .returned (.slice A n n) ∧ w = w' := by
  unfold maxLen at hc
  go_enter Tryd.func137, Tryd.ntmps137
  rcases A with _ | a
  · obtain rfl := hA rfl
    go_wp2
    go_ret
    exact ⟨rfl, rfl⟩
  · go_wp2
    go_ret
    exact ⟨rfl, rfl⟩
end Go.Proofs.YtkjmddgnfgbioaaDoor


namespace Go.Proofs.YtkjmddgnfgbioaaDoor
set_option linter.unusedVariables false
set_option linter.unusedSimpArgs false
set_option maxRecDepth 100000
open Go.RowKit

def strs (l : List ByteArray) : List Value := l.map Value.string
theorem strs_length (l : List ByteArray) : (strs l).length = l.length := by simp [strs]
theorem strs_get (l : List ByteArray) (i : Nat) (x : ByteArray) (h : l[i]? = some x) : (strs l)[i]? = some (.string x) := by simp [strs, h]
theorem strs_one (l : List ByteArray) : ∀ u ∈ strs l, u.oneCell' = true := by
  intro u hu
  obtain ⟨x, -, rfl⟩ := List.mem_map.1 hu
  rfl
theorem Cells.str {w : World} {B : Nat} {A : Option Addr} {xs : List ByteArray} (h : Cells w B A (strs xs)) {k : Nat} {x : ByteArray} (hx : xs[k]? = some x) :
    ∃ b o, A = some ⟨b, o, none⟩ ∧ b < B ∧ w.cell? ⟨b, o + k, none⟩ = some (.string x) := by
  have g := strs_get xs k x hx
  obtain ⟨b, o, hA, hb, hc⟩ := h.at_ (fun e => by rw [e] at g; simp at g)
  exact ⟨b, o, hA, hb, hc _ _ g⟩
theorem index_str (v : Value) (xs : List ByteArray) (s : ByteArray) (w : World) (h : SlV w 1 v xs.length (strs xs)) :
    Calls Tryd.prog 174 #[v, .string s] w fun e w' => (∃ z : Int, e = .returned (.int .i64 z) ∧ decide (0 ≤ z) = Ex.has s xs) ∧ ∃ m, w' = w.drewN m := by
  obtain ⟨A, c, rfl, hle, hm, hlen, hc⟩ := h
  clear hlen
  unfold maxLen at hm
  go_enter Tryd.func174, Tryd.ntmps174
  go_wp2
  go_loopw [8] (fun i wr => ∃ k : Nat, k ≤ xs.length ∧ i = .int .i64 k ∧ (∃ a, wr = w.drewN a) ∧ (xs.take k).any (fun x => s.toList == x.toList) = false) (fun i _ => xs.length - (intOf i).toNat)
  case atStart => exact ⟨0, Nat.zero_le _, rfl, ⟨0, rfl⟩, rfl⟩
  case round =>
    obtain ⟨k, hk, rfl, ⟨a, rfl⟩, ht⟩ := hrel
    have HT := Lib.hid ht
    clear ht
    by_cases hlt : k < xs.length
    · obtain ⟨x, hx⟩ : ∃ x, xs[k]? = some x := ⟨_, List.getElem?_eq_getElem hlt⟩
      obtain ⟨b, o, rfl, hb, hcc⟩ := hc.str hx
      have HX := Lib.hid hx
      clear hc hx
      rcases hq : (s.toList == x.toList) with _ | _
      · go_wp2
        go_roundw
        case rel => exact ⟨k + 1, by omega, by go_num, ⟨_, rfl⟩, by
          obtain ⟨h', hx'⟩ := List.getElem?_eq_some_iff.1 HX.out
          rw [List.take_succ_eq_append_getElem h', List.any_append, HT.out, hx']
          simp [hq]⟩
        case measure => simp [intOf]; omega
      · go_wp2
        go_ret
        exact ⟨⟨_, rfl, by
          have : Ex.has s xs = true := List.any_eq_true.2 ⟨x, List.mem_of_getElem? HX.out, hq⟩
          rw [this]
          simp⟩, ⟨_, rfl⟩⟩
    · have HK := Lib.hid (show k = xs.length by omega)
      clear hc
      go_wp2
      go_ret
      exact ⟨⟨_, rfl, by
        have := HT.out
        rw [HK.out, List.take_length] at this
        show _ = Ex.has s xs
        unfold Ex.has
        rw [this]
        rfl⟩, ⟨_, rfl⟩⟩

theorem contains_str (v : Value) (xs : List ByteArray) (s : ByteArray) (w : World) (h : SlV w 1 v xs.length (strs xs)) :
    Calls Tryd.prog 166 #[v, .string s] w fun e w' => e = .returned (.bool (Ex.has s xs)) ∧ ∃ m, w' = w.drewN m := by
  have hi := index_str v xs s w h
  obtain ⟨A, c, rfl, hle, hm, hlen, hc⟩ := h
  clear hlen hc hm hle
  go_enter Tryd.func166, Tryd.ntmps166
  go_wp2_with fail
  refine hi.mono ?_
  rintro e w1 ⟨⟨z, rfl, hz⟩, m, rfl⟩
  have HZ := Lib.hid hz
  clear hz hi
  go_wp2
  go_ret
  exact ⟨ret_bool HZ.out, m, rfl⟩
end Go.Proofs.YtkjmddgnfgbioaaDoor


namespace Go.Proofs.YtkjmddgnfgbioaaDoor
set_option linter.unusedVariables false
set_option linter.unusedSimpArgs false
set_option maxRecDepth 100000
open Go.RowKit

/-- what gathers names -/
structure Nm (B : Nat) (w : World) (gf g : Nat) (v : Value) (xs : List ByteArray) : Prop where
  fn : Blk w gf 230 [.func (.func 173) #[] #[.pointer (some ⟨gf, 0, none⟩), .pointer (some ⟨g, 0, none⟩)]]
  blk : Blk w g 117 [v]
  row : w.ownsRow B 9 1 v xs.length (strs xs)
  base : B ≤ w.heap.size
  at_ : B ≤ g
  ne : v.ownBlock ≠ some g
  nef : v.ownBlock ≠ some gf
  gg : gf ≠ g

def NmEnd (B : Nat) (w : World) (gf g : Nat) (v : Value) (xs : List ByteArray) : Ending → World → Prop := fun e w' =>
  e = .returned (.tuple #[]) ∧ ∃ v', Nm B w' gf g v' xs ∧ Keeps (fun k => k = g ∨ v.ownBlock = some k) w w' ∧ (∀ i, v'.ownBlock = some i → v.ownBlock = some i ∨ w.heap.size ≤ i)

theorem Nm.keeps {B : Nat} {w w' : World} {gf g : Nat} {v : Value} {xs : List ByteArray} (h : Nm B w gf g v xs) (k : Keeps (fun _ => False) w w') : Nm B w' gf g v xs :=
  ⟨h.fn.keeps k id, h.blk.keeps k id, own_keeps h.row k (fun _ _ => id), Nat.le_trans h.base k.size, h.at_, h.ne, h.nef, h.gg⟩
theorem Nm.alloc {B : Nat} {w : World} {gf g : Nat} {v : Value} {xs : List ByteArray} (h : Nm B w gf g v xs) (o : Obj) : Nm B (w.alloc o) gf g v xs := h.keeps ((Keeps.refl _ w).alloc o)
theorem nm_back {B : Nat} {w w0 : World} {gf g : Nat} {v : Value} {xs : List ByteArray} (hk : Keeps (fun _ => False) w w0) {e : Ending} {w' : World} (h : NmEnd B w0 gf g v xs e w') : NmEnd B w gf g v xs e w' := by
  obtain ⟨h1, v', h2, h3, h4⟩ := h
  have := hk.size
  exact ⟨h1, v', h2, (hk.mono (fun _ h => h.elim)).trans h3, fun i hi => (h4 i hi).imp id (fun h => by omega)⟩

theorem nm_put {B : Nat} {w w0 w4 : World} {gf g : Nat} {v v' : Value} {xs xs' : List ByteArray} (hL : Nm B w0 gf g v xs) (hk0 : Keeps (fun _ => False) w w0) (hg4 : w0.grownBy w4 v.ownBlock) (hown : w4.ownsRow B 9 1 v' xs'.length (strs xs'))
    (hv4 : v'.ownBlock = v.ownBlock ∨ v'.ownBlock = some (w0.heap.size + 1)) : Blk w4 g 117 [v] ∧ ∀ w5, Blk w5 g 117 [v'] → w4.grownBy w5 (some g) → NmEnd B w gf g v xs' (.returned (.tuple #[])) w5 := by
  have kk : Keeps (fun k => v.ownBlock = some k) w0 w4 := (Keeps.of_grown hg4).mono (fun i hi => hi.symm)
  have far : ∀ i, i < w0.heap.size → v.ownBlock ≠ some i → v'.ownBlock ≠ some i := fun i hi hne e => by
    rcases hv4 with h | h
    · exact hne (h ▸ e)
    · rw [h] at e
      injection e with e
      omega
  have hne := far g hL.blk.lt hL.ne
  have hnf := far gf hL.fn.lt hL.nef
  refine ⟨hL.blk.keeps kk hL.ne, fun w5 hB5 hg5 => ?_⟩
  have ks : Keeps (fun k => k = g) w4 w5 := (Keeps.of_grown hg5).mono (fun i hi => by injection hi)
  refine ⟨rfl, v', ⟨(hL.fn.keeps kk hL.nef).keeps ks hL.gg, hB5, own_keeps hown ks (fun i hi e => hne (e ▸ hi)), by have := hL.base; have := kk.size; have := ks.size; omega, hL.at_, hne, hnf, hL.gg⟩, ((hk0.mono (fun _ h => h.elim)).trans (kk.mono (fun i hi => .inr hi))).trans (ks.mono (fun i hi => .inl hi)), fun i hi => ?_⟩
  rcases hv4 with h | h
  · exact .inl (h ▸ hi)
  · rw [h] at hi
    injection hi with hi
    have := hk0.size
    exact .inr (by omega)
theorem info_str : (Tryd.prog.info? 9).map (fun i => (i.zero, i.size, i.bytes)) = some (some (.string ⟨#[]⟩), 1, 16) := by kernel_rfl
end Go.Proofs.YtkjmddgnfgbioaaDoor


namespace Go.Proofs.YtkjmddgnfgbioaaDoor
set_option linter.unusedVariables false
set_option linter.unusedSimpArgs false
set_option maxRecDepth 100000
open Go.RowKit

theorem nm_same {B : Nat} {w w' : World} {gf g : Nat} {v : Value} {xs : List ByteArray} (h : Nm B w gf g v xs) (hk : Keeps (fun _ => False) w w') : NmEnd B w gf g v xs (.returned (.tuple #[])) w' :=
  ⟨rfl, v, h.keeps hk, hk.mono (fun _ h => h.elim), fun i hi => .inl hi⟩

theorem names1_odd (B : Nat) (w : World) (gf g : Nat) (v : Value) (xs : List ByteArray) (h : Nm B w gf g v xs) (k n : Int) (s : ByteArray) (A : Option Addr) (len cap : Nat) (hno : ¬ ((3 ≤ k ∧ k ≤ 9) ∧ 2 ≤ len)) (hle : len ≤ cap) (hm : cap ≤ maxLen) (hk : (k == 2) = false) :
    Calls Tryd.prog 173 #[.agg (xcells k n s A len cap).toArray, .pointer (some ⟨gf, 0, none⟩), .pointer (some ⟨g, 0, none⟩)] w (NmEnd B w gf g v xs) := by
  have p0 := Blk.new w 38 (xcells k n s A len cap)
  have hb0 : Below w.heap.size w (w.alloc (.cells (xcells k n s A len cap).toArray 38)) := below_alloc (Below.refl _ _) _
  unfold xcells at p0 hb0
  have HN := Lib.hid h
  clear h
  go_enter Tryd.func173, Tryd.ntmps173
  unfold xcells
  go_wp2_with fail
  refine (two_no _ k n s A len cap hno hle hm).mono ?_
  rintro e w1 ⟨rfl, hb1⟩
  clear hno hle hm
  unfold Ex.zeros
  have p1 := p0.below hb1
  have hbw1 := below_next hb1 hb0
  clear p0 hb0 hb1
  have x0 : ∀ o o' : Obj, ((w1.alloc o).alloc o').cell? ⟨w.heap.size, 0, none⟩ = some (.int .i64 k) := fun o o' => (((p1.alloc o).alloc o').cell 0).trans rfl
  have hbw2 := fun o o' => below_alloc (below_alloc hbw1 o) o'
  have HB := Lib.hid hbw2
  clear hbw2 hbw1 p1
  go_wp2
  go_end0
  exact nm_same HN.out (keeps_below (HB.out _ _))

theorem names1_has (B : Nat) (w : World) (gf g : Nat) (v : Value) (xs : List ByteArray) (h : Nm B w gf g v xs) (n : Int) (s : ByteArray) (A : Option Addr) (len cap : Nat) (hle : len ≤ cap) (hm : cap ≤ maxLen) (hs : Ex.has s xs = true) :
    Calls Tryd.prog 173 #[.agg (xcells 2 n s A len cap).toArray, .pointer (some ⟨gf, 0, none⟩), .pointer (some ⟨g, 0, none⟩)] w (NmEnd B w gf g v xs) := by
  have p0 := Blk.new w 38 (xcells 2 n s A len cap)
  have hb0 : Below w.heap.size w (w.alloc (.cells (xcells 2 n s A len cap).toArray 38)) := below_alloc (Below.refl _ _) _
  unfold xcells at p0 hb0
  go_enter Tryd.func173, Tryd.ntmps173
  unfold xcells
  go_wp2_with fail
  refine (two_no _ 2 n s A len cap (by omega) hle hm).mono ?_
  rintro e w1 ⟨rfl, hb1⟩
  unfold Ex.zeros
  have p1 := p0.below hb1
  have hbw1 := below_next hb1 hb0
  clear p0 hb0 hb1
  have x0 : ∀ o o' : Obj, ((w1.alloc o).alloc o').cell? ⟨w.heap.size, 0, none⟩ = some (.int .i64 2) := fun o o' => (((p1.alloc o).alloc o').cell 0).trans rfl
  have x2 : ∀ o o' : Obj, ((w1.alloc o).alloc o').cell? ⟨w.heap.size, 2, none⟩ = some (.string s) := fun o o' => (((p1.alloc o).alloc o').cell 2).trans rfl
  have hN := fun o o' => h.keeps (keeps_below (below_alloc (below_alloc hbw1 o) o'))
  have g0 : ∀ o o' : Obj, ((w1.alloc o).alloc o').cell? ⟨g, 0, none⟩ = some v := fun o o' => ((hN o o').blk.cell 0).trans rfl
  have hsl : ∀ o o' : Obj, SlV ((w1.alloc o).alloc o') 1 v xs.length (strs xs) := fun o o' => SlV.of_own (hN o o').row
  obtain ⟨V, cV, rfl, u1, u2⟩ := own_slice h.row
  have hbw2 := fun o o' => below_alloc (below_alloc hbw1 o) o'
  have HB := Lib.hid hbw2
  have HN := Lib.hid h
  clear hbw2 hbw1 p1 h hN
  go_wp2_with fail
  refine (contains_str _ xs s _ (hsl _ _)).mono ?_
  rintro e w2 ⟨rfl, m, rfl⟩
  clear x0 x2 g0 hsl
  rw [hs]
  go_wp2
  go_end0
  exact nm_same HN.out ((keeps_below (HB.out _ _)).drewN m)

theorem names1_new (B : Nat) (w : World) (gf g : Nat) (v : Value) (xs : List ByteArray) (h : Nm B w gf g v xs) (n : Int) (s : ByteArray) (A : Option Addr) (len cap : Nat) (hle : len ≤ cap) (hm : cap ≤ maxLen) (hs : Ex.has s xs = false) (hr : xs.length ≤ 8796093022200) :
    Calls Tryd.prog 173 #[.agg (xcells 2 n s A len cap).toArray, .pointer (some ⟨gf, 0, none⟩), .pointer (some ⟨g, 0, none⟩)] w (NmEnd B w gf g v (xs ++ [s])) := by
  have p0 := Blk.new w 38 (xcells 2 n s A len cap)
  have hb0 : Below w.heap.size w (w.alloc (.cells (xcells 2 n s A len cap).toArray 38)) := below_alloc (Below.refl _ _) _
  unfold xcells at p0 hb0
  go_enter Tryd.func173, Tryd.ntmps173
  unfold xcells
  go_wp2_with fail
  refine (two_no _ 2 n s A len cap (by omega) hle hm).mono ?_
  rintro e w1 ⟨rfl, hb1⟩
  unfold Ex.zeros
  have p1 := p0.below hb1
  have hbw1 := below_next hb1 hb0
  clear p0 hb0 hb1
  have x0 : ∀ o o' : Obj, ((w1.alloc o).alloc o').cell? ⟨w.heap.size, 0, none⟩ = some (.int .i64 2) := fun o o' => (((p1.alloc o).alloc o').cell 0).trans rfl
  have x2 : ∀ o o' : Obj, ((w1.alloc o).alloc o').cell? ⟨w.heap.size, 2, none⟩ = some (.string s) := fun o o' => (((p1.alloc o).alloc o').cell 2).trans rfl
  have hN := fun o o' => h.keeps (keeps_below (below_alloc (below_alloc hbw1 o) o'))
  have g0 : ∀ o o' : Obj, ((w1.alloc o).alloc o').cell? ⟨g, 0, none⟩ = some v := fun o o' => ((hN o o').blk.cell 0).trans rfl
  have hsl : ∀ o o' : Obj, SlV ((w1.alloc o).alloc o') 1 v xs.length (strs xs) := fun o o' => SlV.of_own (hN o o').row
  obtain ⟨V, cV, rfl, u1, u2⟩ := own_slice h.row
  have hkw := fun o o' => keeps_below (below_alloc (below_alloc hbw1 o) o')
  clear hbw1 p1 h
  go_wp2_with fail
  refine (contains_str _ xs s _ (hsl _ _)).mono ?_
  rintro e w2 ⟨rfl, m, rfl⟩
  rw [hs]
  have hN2 := (hN (.cells #[.int .i64 0, .int .i64 0, .string ⟨#[]⟩, .slice none 0 0] 38) (.cells #[.int .i64 0, .int .i64 0, .string ⟨#[]⟩, .slice none 0 0] 38)).keeps ((Keeps.refl _ _).drewN m)
  have hk2 := (hkw (.cells #[.int .i64 0, .int .i64 0, .string ⟨#[]⟩, .slice none 0 0] 38) (.cells #[.int .i64 0, .int .i64 0, .string ⟨#[]⟩, .slice none 0 0] 38)).drewN m
  have y2 := x2 (.cells #[.int .i64 0, .int .i64 0, .string ⟨#[]⟩, .slice none 0 0] 38) (.cells #[.int .i64 0, .int .i64 0, .string ⟨#[]⟩, .slice none 0 0] 38)
  rw [← World.cell?_drewN _ m] at y2
  clear x0 x2 g0 hsl hN hkw
  generalize (((w1.alloc (.cells #[.int .i64 0, .int .i64 0, .string ⟨#[]⟩, .slice none 0 0] 38)).alloc (.cells #[.int .i64 0, .int .i64 0, .string ⟨#[]⟩, .slice none 0 0] 38)).drewN m) = w2 at y2 hN2 hk2 ⊢
  have g2 := (hN2.blk.cell 0).trans rfl
  simp only [List.getElem?_cons_zero] at g2
  have n63 : xs.length + 1 ≤ maxLen := by unfold maxLen; omega
  have n47 : (xs.length + 1) * 16 ≤ 140737488355328 := by omega
  have hrow := hN2.row
  have hba := hN2.base
  have HP := Lib.hid (fun w4 v' hg4 hown hv4 => nm_put (w4 := w4) (v' := v') (xs' := xs ++ [s]) hN2 hk2 hg4 hown hv4)
  clear hN2 hk2
  go_wp2_with (first | (at_builtin; refine wp_push w2 _ _ B _ _ _ _ _ Tryd.underlying117 info_str rfl (by decide) hrow [.string s] rfl (strs_one [s]) n63 n47 hba rfl rfl rfl rfl ?_; intro v' w4 hown4 hg4 hv4 _; obtain ⟨hb4, hend⟩ := HP.out w4 v' hg4 (by simpa [strs] using hown4) hv4; obtain ⟨V', c', rfl, _, _⟩ := own_slice hown4) | (refine wpl_set_blk hb4 0 _ (by kernel_rfl) (by simp) rfl rfl rfl rfl rfl rfl ?_; intro w5 hB5 hg5) | fail)
  go_end0
  exact hend w5 hB5 hg5
end Go.Proofs.YtkjmddgnfgbioaaDoor


namespace Go.Proofs.YtkjmddgnfgbioaaDoor
set_option linter.unusedVariables false
set_option linter.unusedSimpArgs false
set_option maxRecDepth 100000
open Go.RowKit

def NmOK (e : Ex.X) : Prop := ∀ (B : Nat) (w : World) (gf g : Nat) (v : Value) (xs : List ByteArray) (cs : List Value), XR B w cs e → Nm B w gf g v xs → xs.length + e.leaves ≤ 8796093022200 →
    Calls Tryd.prog 173 #[.agg cs.toArray, .pointer (some ⟨gf, 0, none⟩), .pointer (some ⟨g, 0, none⟩)] w (NmEnd B w gf g v (Ex.names xs e))

set_option maxHeartbeats 2000000 in
theorem names1_two (k : Int) (e0 e1 : Ex.X) (ih0 : NmOK e0) (ih1 : NmOK e1) : NmOK (.two k e0 e1) := by
  intro B w gf g v xs cs h hL hn
  unfold Ex.X.leaves at hn
  have hB := hL.base
  have h2 := h.alloc hB (.cells cs.toArray 38)
  have hb0 : Below w.heap.size w (w.alloc (.cells cs.toArray 38)) := below_alloc (Below.refl _ _) _
  have hB2 : B ≤ (w.alloc (.cells cs.toArray 38)).heap.size := by simp; omega
  have hz0 := hb0.size
  obtain ⟨a0, a1, a2, A3, a4, a5, rfl, -, -⟩ := h.form
  unfold xcells at h2 hb0 hB2 hz0 ⊢
  clear h
  go_enter Tryd.func173, Tryd.ntmps173
  go_wp2_with fail
  refine (two_yes _ _ _ k e0 e1 h2 hB2).mono ?_
  rintro e w1 ⟨c0, c1, rfl, r0, r1, hb1⟩
  have hbw1 := below_next hb1 hb0
  replace r0 := r0.later (hb1.mono hB2)
  replace r1 := r1.later (hb1.mono hB2)
  clear h2 hb0 hb1 hB2 hz0
  have hs1 := hbw1.size
  obtain ⟨q0, q1, hz3, hb3⟩ := allocs2 w1 c0 c1 38 38
  have hbw3 := below_next hb3 hbw1
  replace r0 := r0.later (hb3.mono (by omega))
  replace r1 := r1.later (hb3.mono (by omega))
  have hL3 := hL.keeps (keeps_below hbw3)
  have hkw := keeps_below hbw3
  have hvw : ∀ i, v.ownBlock = some i → i < w.heap.size := fun i hi => (hL.row.lt i hi).2
  have hvB : ∀ i, v.ownBlock = some i → B ≤ i := own_ge hL.row
  have hgw := hL.blk.lt
  have hgB := hL.at_
  clear hbw1 hbw3 hb3 hL
  obtain ⟨b0, b1, b2, B3, b4, b5, rfl, -, -⟩ := r0.form
  obtain ⟨d0, d1, d2, D3, d4, d5, rfl, -, -⟩ := r1.form
  unfold xcells at q0 q1 hz3 r0 r1 hL3 hkw ⊢
  have HK := Lib.hid hkw
  have f3 := (hL3.fn.cell 0).trans rfl
  simp only [List.getElem?_cons_zero] at f3
  clear hkw q0
  go_wp2_with fail
  refine (ih0 B _ gf g v xs _ r0 hL3 (by omega)).mono ?_
  rintro e w2 ⟨rfl, v2, L2, k2, o2⟩
  rw [hz3] at o2
  have hl1 := Ex.names_length xs e0
  have hbel := k2.below (B := B) hL3.base (fun i hi => hi.elim (fun e => by omega) (hvB i))
  have hz2 := hbel.size
  have r1' := r1.later hbel
  have Q1 := q1.keeps k2 (fun h => h.elim (fun e => by omega) (fun e => by have := hvw _ e; omega))
  have d0' := (Q1.cell 0).trans rfl
  have d1' := (Q1.cell 1).trans rfl
  have d2' := (Q1.cell 2).trans rfl
  have d3' := (Q1.cell 3).trans rfl
  have f2 := (L2.fn.cell 0).trans rfl
  simp only [List.getElem?_cons_zero, List.getElem?_cons_succ] at d0' d1' d2' d3' f2
  have kk := HK.out.mono (S' := fun k => k = g ∨ v.ownBlock = some k) (fun _ h => h.elim) |>.trans k2
  clear Q1 hbel r0 r1 hL3 k2 HK q1 hz2 hz3 f3
  go_wp2_with fail
  refine (ih1 B _ gf g v2 _ _ r1' L2 (by omega)).mono ?_
  rintro e w3 ⟨rfl, v3, L3, k3, o3⟩
  have hw2 := kk.size
  have kf := kk.step k3 (fun i hi h => h.elim .inl (fun e => (o2 i e).elim .inr (fun h => by omega)))
  clear d0' d1' d2' d3' f2 r1' L2
  go_wp2
  go_end0
  exact ⟨rfl, v3, L3, kf, fun i hi => (o3 i hi).elim (fun h => (o2 i h).imp id (fun h => by omega)) (fun h => .inr (by omega))⟩

theorem names1_ok : ∀ e : Ex.X, NmOK e
  | .num n => fun B w gf g v xs cs h hL hn => by
    cases h with
    | num n s A len cap h1 h2 h3 => exact names1_odd B w gf g v xs hL 1 n s A len cap (by omega) h1 h2 rfl
  | .bad => fun B w gf g v xs cs h hL hn => by
    cases h with
    | bad k n s A len cap h1 h2 h3 h4 h5 => exact names1_odd B w gf g v xs hL k n s A len cap h5 h1 h2 (by simpa using h4)
  | .name s => fun B w gf g v xs cs h hL hn => by
    cases h with
    | name n s A len cap h1 h2 =>
      unfold Ex.X.leaves at hn
      unfold Ex.names
      rw [Ex.ba_data]
      rcases hs : Ex.has s xs with _ | _
      · simpa using names1_new B w gf g v xs hL n s A len cap h1 h2 hs (by omega)
      · simpa using names1_has B w gf g v xs hL n s A len cap h1 h2 hs
  | .two k a b => names1_two k a b (names1_ok a) (names1_ok b)
end Go.Proofs.YtkjmddgnfgbioaaDoor


namespace Go.Proofs.YtkjmddgnfgbioaaDoor
set_option linter.unusedVariables false
set_option linter.unusedSimpArgs false
set_option maxRecDepth 100000
open Go.RowKit

theorem names_world (w W w5 : World) (cs : List Value) (e : Ex.X) (hb : Below w.heap.size w W) (hz : W.heap.size = w.heap.size + 1 + 1) (d0 : Blk W w.heap.size 38 cs) (d1 : Blk W (w.heap.size + 1) 117 [.slice none 0 0]) (h : XR w.heap.size w cs e)
    (hB5 : Blk w5 (w.heap.size + 1 + 1) 230 [.func (.func 173) #[] #[.pointer (some ⟨w.heap.size + 1 + 1, 0, none⟩), .pointer (some ⟨w.heap.size + 1, 0, none⟩)]]) (hg5 : (W.alloc (.cells #[.nilFunc] 230)).grownBy w5 (some (w.heap.size + 1 + 1))) :
    Nm w.heap.size w5 (w.heap.size + 1 + 1) (w.heap.size + 1) (.slice none 0 0) [] ∧ XR w.heap.size w5 cs e ∧ Blk w5 w.heap.size 38 cs ∧ Below w.heap.size w w5 := by
  have k5 : Below W.heap.size W w5 := (below_alloc (Below.refl _ W) _).trans (below_of_grown hg5 (by simp) (by omega))
  have kw : Below w.heap.size w w5 := below_next k5 hb
  exact ⟨⟨hB5, d1.below k5, World.ownsRow_nil _ _ _ _, kw.size, by omega, by simp [Value.ownBlock], by simp [Value.ownBlock], by omega⟩, h.later kw, d0.below k5, kw⟩

/-- **expr.Names** -/
theorem names_own (e : Ex.X) (w : World) (cs : List Value) (h : XR w.heap.size w cs e) (hn : e.leaves ≤ 8796093022200) : Calls Tryd.prog 165 #[.agg cs.toArray] w fun r w' => ∃ v, r = .returned v ∧ w'.ownsRow w.heap.size 9 1 v (Ex.names [] e).length (strs (Ex.names [] e)) ∧ Below w.heap.size w w' := by
  obtain ⟨a0, a1, a2, A3, a4, a5, rfl, -, -⟩ := h.form
  obtain ⟨d0, d1, hz, hb⟩ := allocs2 w (xcells a0 a1 a2 A3 a4 a5) [.slice none 0 0] 38 117
  have d2 := Blk.new ((w.alloc (.cells (xcells a0 a1 a2 A3 a4 a5).toArray 38)).alloc (.cells [Value.slice none 0 0].toArray 117)) 230 [.nilFunc]
  rw [hz] at d2
  have HD := Lib.hid (fun w5 hB5 hg5 => names_world w _ w5 _ e hb hz d0 d1 h hB5 hg5)
  clear hb hz d0 d1 h
  unfold xcells at HD d2 ⊢
  go_enter Tryd.func165, Tryd.ntmps165
  go_wp2_with (first | (refine wpl_set_blk d2 0 (.func (.func 173) #[] #[.pointer (some ⟨w.heap.size + 1 + 1, 0, none⟩), .pointer (some ⟨w.heap.size + 1, 0, none⟩)]) (by kernel_rfl) (by simp) rfl rfl rfl rfl rfl rfl ?_; intro w5 hB5 hg5; obtain ⟨hL, hx, hb0, hbw⟩ := HD.out w5 hB5 hg5; have x0 := (hb0.cell 0).trans rfl; have x1 := (hb0.cell 1).trans rfl; have x2 := (hb0.cell 2).trans rfl; have x3 := (hb0.cell 3).trans rfl; have f5 := (hL.fn.cell 0).trans rfl; simp only [List.getElem?_cons_zero, List.getElem?_cons_succ] at x0 x1 x2 x3 f5; clear HD hB5 hg5 hb0 d2) | fail)
  refine (names1_ok e _ _ _ _ _ _ _ hx hL (by simpa using hn)).mono ?_
  rintro r w6 ⟨rfl, v6, L6, k6, o6⟩
  have y := (L6.blk.cell 0).trans rfl
  simp only [List.getElem?_cons_zero] at y
  have hs := L6.row
  have hb6 : Below w.heap.size w w6 := hbw.trans (k6.below hL.base (fun i hi => hi.elim (fun e => by omega) (fun e => by simp [Value.ownBlock] at e)))
  obtain ⟨V, c, rfl, -, -⟩ := own_slice L6.row
  have HS := Lib.hid (And.intro hs hb6)
  clear x0 x1 x2 x3 f5 hL hx hbw L6 k6 o6 hs hb6
  go_wp2
  go_ret
  exact ⟨_, rfl, HS.out⟩
theorem names_ok (e : Ex.X) (w : World) (cs : List Value) (h : XR w.heap.size w cs e) (hn : e.leaves ≤ 8796093022200) : Calls Tryd.prog 165 #[.agg cs.toArray] w fun r w' => ∃ v, r = .returned v ∧ SlV w' 1 v (Ex.names [] e).length (strs (Ex.names [] e)) ∧ Below w.heap.size w w' :=
  (names_own e w cs h hn).mono fun r w' ⟨v, h1, h2, h3⟩ => ⟨v, h1, SlV.of_own h2, h3⟩
end Go.Proofs.YtkjmddgnfgbioaaDoor


namespace Go.Proofs.YtkjmddgnfgbioaaDoor
set_option linter.unusedVariables false
set_option linter.unusedSimpArgs false
set_option maxRecDepth 100000
open Go.RowKit

def strRw (v : Value) (xs : List ByteArray) : Rw := ⟨9, 1, v, xs.length, strs xs⟩
/-- a walker: what is bound, what is free -/
abbrev WkO (B : Nat) (w : World) (g : Nat) (vb : Value) (bd : List ByteArray) (vf : Value) (fs : List ByteArray) : Prop := Own B w g 210 [vb, vf] [strRw vb bd, strRw vf fs]
abbrev WkT (g : Nat) (vb : Value) (bd : List ByteArray) (vf : Value) (fs : List ByteArray) : Nat → Prop := Tw g [strRw vb bd, strRw vf fs]
abbrev WkTo (B : Nat) (w0 : World) (T : Nat → Prop) (w : World) (g : Nat) (vb : Value) (bd : List ByteArray) (vf : Value) (fs : List ByteArray) : Prop := OwnTo B w0 T w g 210 [vb, vf] [strRw vb bd, strRw vf fs]
def WkEnd (B : Nat) (w0 : World) (T : Nat → Prop) (g : Nat) (bd fs : List ByteArray) : Ending → World → Prop := fun e w' => e = .returned (.tuple #[]) ∧ ∃ vb vf, WkTo B w0 T w' g vb bd vf fs

theorem Sr.use1_length (bd acc : List ByteArray) (s : ByteArray) : (Sr.use1 bd acc s).length ≤ acc.length + 1 := by
  unfold Sr.use1
  split <;> simp
theorem Sr.fold_length (bd : List ByteArray) : ∀ (l acc : List ByteArray), (l.foldl (Sr.use1 bd) acc).length ≤ acc.length + l.length
  | [], acc => by simp
  | s :: l, acc => by
    have h1 := Sr.fold_length bd l (Sr.use1 bd acc s)
    have h2 := Sr.use1_length bd acc s
    rw [List.foldl_cons, List.length_cons]
    omega
theorem Sr.fold_snoc (bd acc ns : List ByteArray) (k : Nat) (x : ByteArray) (h : ns[k]? = some x) : (ns.take (k + 1)).foldl (Sr.use1 bd) acc = Sr.use1 bd ((ns.take k).foldl (Sr.use1 bd) acc) x := by
  obtain ⟨h', rfl⟩ := List.getElem?_eq_some_iff.1 h
  rw [List.take_succ_eq_append_getElem h', List.foldl_append]
  rfl

set_option maxHeartbeats 2000000 in
theorem uses_any (e : Ex.X) (B : Nat) (w : World) (g : Nat) (vb vf : Value) (bd fs : List ByteArray) (cs : List Value) (h : WkO B w g vb bd vf fs) (hx : XR B w cs e) (hn : e.leaves ≤ 1099511627776) (hf : fs.length ≤ 1099511627776) :
    Calls Tryd.prog 158 #[.pointer (some ⟨g, 0, none⟩), .agg cs.toArray] w (WkEnd B w (WkT g vb bd vf fs) g bd (Sr.use bd fs e)) := by
  obtain ⟨a0, a1, a2, A3, a4, a5, rfl, -, -⟩ := hx.form
  have hb0 : Below w.heap.size w (w.alloc (.cells (xcells a0 a1 a2 A3 a4 a5).toArray 38)) := below_alloc (Below.refl _ _) _
  have h0 := h.later hb0
  have hx0 := (hx.later (hb0.mono h.base)).up h0.base
  unfold xcells at hb0 h0 hx0 ⊢
  have HH := Lib.hid h
  clear h hx
  go_enter Tryd.func158, Tryd.ntmps158
  go_wp2_with fail
  refine (names_own e _ _ hx0 (by omega)).mono ?_
  rintro r w1 ⟨v, rfl, hrow, hb1⟩
  have hl := Ex.names_length [] e
  obtain ⟨ns, hns⟩ : ∃ ns, ns = Ex.names [] e := ⟨_, rfl⟩
  rw [← hns] at hrow hl
  have HN := Lib.hid hns
  clear hns
  obtain ⟨V, cV, rfl, hc1, hc2⟩ := own_slice hrow
  unfold maxLen at hc2
  have hbw := below_next hb1 hb0
  have h1 := h0.later hb1
  have hwz : w.heap.size < (w.alloc (.cells #[.int .i64 a0, .int .i64 a1, .string a2, .slice A3 a4 a5] 38)).heap.size := by simp
  have hlt : ∀ k, WkT g vb bd vf fs k → k < w.heap.size := fun k hk => HH.out.lt hk
  have HB := Lib.hid (And.intro hbw (And.intro hwz hlt))
  clear hb0 h0 hx0 hb1 hbw hwz hlt
  simp only [List.length_nil] at hl
  go_wp2_with fail
  go_loopw [9] (fun i wr => ∃ (k : Nat) (vf' : Value), k ≤ ns.length ∧ i = .int .i64 (k : Int) ∧ WkTo B w1 (WkT g vb bd vf fs) wr g vb bd vf' ((ns.take k).foldl (Sr.use1 bd) fs)) (fun i _ => ns.length - (intOf i).toNat)
  case atStart => exact ⟨0, vf, Nat.zero_le _, rfl, OwnTo.start h1⟩
  case round =>
    obtain ⟨k, vf', hk, rfl, hW⟩ := hrel
    by_cases hlk : k < ns.length
    · obtain ⟨x, hx⟩ : ∃ x, ns[k]? = some x := ⟨_, List.getElem?_eq_getElem hlk⟩
      have hfold := Sr.fold_snoc bd fs ns k x hx
      have hlen := Sr.fold_length bd (ns.take k) fs
      have hrw := own_keeps hrow hW.kp (fun i hi hT => by have := HB.out.2.2 i hT; have := (hrow.lt i hi).1; have := HB.out.2.1; omega)
      obtain ⟨b, o, rfl, hbl, hcell⟩ := (Cells.of_own hrw).str hx
      have rb : wr.ownsRow B 9 1 vb bd.length (strs bd) := hW.own.row 0 rfl
      obtain ⟨fk, hfk⟩ : ∃ fk, fk = (ns.take k).foldl (Sr.use1 bd) fs := ⟨_, rfl⟩
      rw [← hfk] at hfold hlen hW
      have rf : wr.ownsRow B 9 1 vf' fk.length (strs fk) := hW.own.row 1 rfl
      have gb := contains_str vb bd x wr (SlV.of_own rb)
      have gf := fun m => contains_str vf' fk x (wr.drewN m) ((SlV.of_own rf).drewN m)
      have b0 : wr.cell? ⟨g, 0, none⟩ = some vb := (hW.own.blk.cell 0).trans rfl
      have b1 : wr.cell? ⟨g, 1, none⟩ = some vf' := (hW.own.blk.cell 1).trans rfl
      have hwl := hW.own.base
      rw [List.length_take] at hlen
      rw [show Sr.use1 bd fk x = if Ex.has x bd = false ∧ Ex.has x fk = false then fk ++ [x] else fk from rfl] at hfold
      have HR := Lib.hid (And.intro hfold (And.intro hlen (And.intro hrw hW)))
      have HX := Lib.hid hx
      obtain ⟨VB, cb, rfl, -, -⟩ := own_slice rb
      clear hx hfold hlen hW hfk hrw rb hrow
      rcases h1' : Ex.has x bd with _ | _
      · rcases h2' : Ex.has x fk with _ | _
        · rw [h1'] at gb HR
          rw [h2'] at HR
          simp only [h2'] at gf
          obtain ⟨VF, cf, rfl, -, -⟩ := own_slice rf
          clear h1' h2'
          go_wp2_with fail
          refine gb.mono ?_
          rintro r w2 ⟨rfl, m, rfl⟩
          go_wp2_with fail
          refine (gf m).mono ?_
          rintro r w3 ⟨rfl, m', rfl⟩
          have hrf := rf
          have hn63 : fk.length + 1 ≤ maxLen := by have := HR.out.2.1; unfold maxLen; omega
          have hn47 : (fk.length + 1) * 16 ≤ 140737488355328 := by have := HR.out.2.1; omega
          have hO := HR.out.2.2.2
          clear gb gf h1 rf
          rw [World.drewN_drewN] at *
          have hO3 := hO.own.drewN (m + m')
          have r3 : (wr.drewN (m + m')).ownsRow B 9 1 (.slice VF fk.length cf) fk.length (strs fk) := hO3.row 1 rfl
          have hbl3 : B ≤ (wr.drewN (m + m')).heap.size := hO3.base
          have hkd : Below wr.heap.size wr (wr.drewN (m + m')) := below_drewN (Below.refl _ _) _
          have c1 : (wr.drewN (m + m')).cell? ⟨g, 1, none⟩ = some (.slice VF fk.length cf) := (hO3.blk.cell 1).trans rfl
          have hend : ∀ (w4 : World) (v' : Value) (w5 : World), w4.ownsRow B 9 1 v' (fk.length + 1) (strs fk ++ [.string x]) → (wr.drewN (m + m')).grownBy w4 (Value.slice VF fk.length cf).ownBlock → (v'.ownBlock = (Value.slice VF fk.length cf).ownBlock ∨ v'.ownBlock = some ((wr.drewN (m + m')).heap.size + 1)) → Blk w5 g 210 [.slice VB bd.length cb, v'] → w4.grownBy w5 (some g) →
              WkTo B w1 (WkT g (.slice VB bd.length cb) bd vf fs) w5 g (.slice VB bd.length cb) bd v' (fk ++ [x]) := fun w4 v' w5 o4 g4 e4 b5 g5 => by
            have := hO3.put_to (i := 1) (r := strRw (.slice VF fk.length cf) fk) rfl (n' := (fk ++ [x]).length) (xs' := strs (fk ++ [x])) (by simpa [strs, strRw] using o4) g4 (e4.imp id fun e => ⟨_, Nat.le_succ _, e⟩) b5 g5
            exact (hO.later hkd).step this
          have hmid : ∀ (w4 : World), (wr.drewN (m + m')).grownBy w4 (Value.slice VF fk.length cf).ownBlock → Blk w4 g 210 [.slice VB bd.length cb, .slice VF fk.length cf] := fun w4 g4 => hO3.blk.grown g4 (fun e => hO3.ng _ (List.mem_cons_of_mem _ (List.mem_singleton.2 rfl)) e.symm)
          have HE := Lib.hid (And.intro hend hmid)
          clear hend hmid hO hO3 hrf b0 b1 hkd
          generalize wr.drewN (m + m') = W at r3 hbl3 c1 HE ⊢
          go_wp2_with (first | (at_builtin; refine wp_push W _ _ B _ _ _ _ _ Tryd.underlying117 info_str rfl (by decide) r3 [.string x] rfl (strs_one [x]) hn63 hn47 hbl3 rfl rfl rfl rfl ?_; intro v' w4 hown4 hg4 hv4 _; have hB4 := HE.out.2 w4 hg4; obtain ⟨V', c', rfl, _, _⟩ := own_slice hown4) | (refine wpl_set_blk hB4 1 _ (by kernel_rfl) (by simp) rfl rfl rfl rfl rfl rfl ?_; intro w5 hB5 hg5) | fail)
          go_roundw
          case rel => exact ⟨k + 1, _, by omega, by go_num, by rw [HR.out.1]; simpa using HE.out.1 w4 _ w5 hown4 hg4 hv4 hB5 hg5⟩
          case measure => simp [intOf]; omega
        · rw [h1'] at gb HR
          rw [h2'] at HR
          simp only [h2'] at gf
          obtain ⟨VF, cf, rfl, -, -⟩ := own_slice rf
          clear h1' h2'
          go_wp2_with fail
          refine gb.mono ?_
          rintro r w2 ⟨rfl, m, rfl⟩
          go_wp2_with fail
          refine (gf m).mono ?_
          rintro r w3 ⟨rfl, m', rfl⟩
          clear gb gf
          go_wp2_with fail
          go_roundw
          case rel => exact ⟨k + 1, _, by omega, by go_num, by rw [HR.out.1]; exact HR.out.2.2.2.later (below_drewN (Below.refl _ _) (m + m'))⟩
          case measure => simp [intOf]; omega
      · rw [h1'] at gb HR
        obtain ⟨VF, cf, rfl, -, -⟩ := own_slice rf
        clear h1' gf
        go_wp2_with fail
        refine gb.mono ?_
        rintro r w2 ⟨rfl, m, rfl⟩
        clear gb
        go_wp2_with fail
        go_roundw
        case rel => exact ⟨k + 1, _, by omega, by go_num, by rw [HR.out.1]; exact HR.out.2.2.2.later (below_drewN (Below.refl _ _) m)⟩
        case measure => simp [intOf]; omega
    · obtain rfl : k = ns.length := by omega
      go_wp2_with fail
      go_end0
      refine ⟨rfl, vb, vf', ?_⟩
      unfold Sr.use
      rw [← HN.out]
      rw [List.take_length] at hW
      exact hW.since HB.out.1
end Go.Proofs.YtkjmddgnfgbioaaDoor


namespace Go.Proofs.YtkjmddgnfgbioaaDoor
set_option linter.unusedVariables false
set_option linter.unusedSimpArgs false
set_option maxRecDepth 100000
open Go.RowKit

def LabOK (p : St.P) : Prop := ∀ (w : World) (B n c : Nat) (A : Option Addr), B ≤ w.heap.size → PR B w A n p → n ≤ c → c ≤ maxLen → p.size ≤ 1152921504606846976 →
  Calls Tryd.prog 38 #[.slice A n c] w fun e w' => e = .returned (.int .i64 (St.labels p : Nat)) ∧ Below w.heap.size w w'

/-- a copy of a statement, in a block of its own -/
theorem st_copy {w0 w : World} (hb : Below w0.heap.size w0 w) (cs : List Value) (t : TypeId) : Blk (w.alloc (.cells cs.toArray t)) w.heap.size t cs ∧ Below w0.heap.size w0 (w.alloc (.cells cs.toArray t)) ∧ Below w.heap.size w (w.alloc (.cells cs.toArray t)) :=
  ⟨Blk.new w t cs, below_alloc hb _, below_alloc (Below.refl _ _) _⟩

theorem i64_add (a b : Nat) (h : a + b ≤ 9223372036854775807) : wrap64 ((a : Int) + (b : Int)) = ((a + b : Nat) : Int) := by
  unfold wrap64
  omega
theorem i64_addk (a b : Nat) (h : a + b ≤ 9223372036854775807) : IntKind.i64.wrap ((a : Int) + (b : Int)) = ((a + b : Nat) : Int) := by
  rw [show IntKind.i64.wrap ((a : Int) + (b : Int)) = wrap64 ((a : Int) + (b : Int)) by
    simp [IntKind.wrap, IntKind.signed, IntKind.bits, wrap64]
    split <;> omega]
  exact i64_add a b h
theorem lab_kinds (k : Int) : k = 2 ∨ k = 3 ∨ k = 4 ∨ k = 5 ∨ k = 6 ∨ k = 7 ∨ ((k == 2) = false ∧ (k == 3) = false ∧ (k == 4) = false ∧ (k == 5) = false ∧ (k == 6) = false ∧ (k == 7) = false) := by
  by_cases h2 : k = 2; · exact .inl h2
  by_cases h3 : k = 3; · exact .inr (.inl h3)
  by_cases h4 : k = 4; · exact .inr (.inr (.inl h4))
  by_cases h5 : k = 5; · exact .inr (.inr (.inr (.inl h5)))
  by_cases h6 : k = 6; · exact .inr (.inr (.inr (.inr (.inl h6))))
  by_cases h7 : k = 7; · exact .inr (.inr (.inr (.inr (.inr (.inl h7)))))
  exact .inr (.inr (.inr (.inr (.inr (.inr (by simp [h2, h3, h4, h5, h6, h7]))))))

set_option maxHeartbeats 4000000 in
theorem labels_step (p : St.P) (ih : ∀ q : St.P, q.size < p.size → LabOK q) : LabOK p := by
  intro w B n c A hB hp hnc hcm hsz
  obtain ⟨g, o, hA, hpl⟩ := hp.place
  have hn63 : n ≤ 9223372036854775807 := by unfold maxLen at hcm; omega
  go_enter Tryd.func38, Tryd.ntmps38
  go_wp2
  go_loopw [3, 8] (fun s i wr => ∃ (k acc : Nat) (q : St.P), k ≤ n ∧ i = .int .i64 (k : Int) ∧ s = .int .i64 (acc : Int) ∧ acc + St.labels q = St.labels p ∧ acc ≤ 1152921504606846976 ∧ q.size ≤ p.size ∧ PR B wr (some ⟨g, o + k * 12, none⟩) (n - k) q ∧ Below w.heap.size w wr) (fun s i _ => n - (intOf i).toNat)
  case atStart => exact ⟨0, 0, p, Nat.zero_le _, rfl, rfl, Nat.zero_add _, by omega, Nat.le_refl _, hpl, Below.refl _ _⟩
  case round =>
    obtain ⟨k, acc, q, hk, rfl, rfl, hacc, haccb, hqs, hq, hb⟩ := hrel
    have hLp := St.labels_le p
    by_cases hlt : k < n
    · obtain ⟨kd, nm, ak, an, bk, bn, sa, sb, aA, bA, al, ac, bl, bc, ea, eb, D, dl, dc, E, el, ec, body, els, rest, rfl, hg, ⟨hd1, hd2, he1, he2⟩, hcell, xa, xb, pb, pe, pr⟩ := hq.next (by omega)
      have hAA := hA (by omega)
      subst hAA
      have c0 : wr.cell? ⟨g, o + k * 12, none⟩ = some (.int .i64 kd) := hcell 0 _ rfl
      have c1 := hcell 1 _ rfl
      have c2 := hcell 2 _ rfl
      have c3 := hcell 3 _ rfl
      have c4 := hcell 4 _ rfl
      have c5 := hcell 5 _ rfl
      have c6 := hcell 6 _ rfl
      have c7 := hcell 7 _ rfl
      have c8 := hcell 8 _ rfl
      have c9 := hcell 9 _ rfl
      have c10 := hcell 10 _ rfl
      have c11 := hcell 11 _ rfl
      have hBr : B ≤ wr.heap.size := Nat.le_trans hB hb.size
      have hs : body.size < p.size ∧ els.size < p.size ∧ rest.size ≤ p.size := by rw [St.P.size] at hqs; omega
      rw [St.labels] at hacc
      obtain ⟨p0, hb0, hbr⟩ := st_copy hb (stcells kd nm (xcells ak an sa aA al ac) (xcells bk bn sb bA bl bc) D dl dc E el ec) 40
      have HH := Lib.hid (And.intro hqs (And.intro hacc (And.intro hs (And.intro hsz hLp))))
      clear hcell xa xb hq hqs hacc hs hpl hp hLp hsz
      unfold stcells xcells at p0 hb0 hbr
      rcases lab_kinds kd with rfl | rfl | rfl | rfl | rfl | rfl | ⟨k2, k3, k4, k5, k6, k7⟩
      · have HL := Lib.hid (show acc + 1 + St.labels rest = St.labels p by have := HH.out.2.1; rw [show St.lab1 2 (St.labels body) (St.labels els) = 1 from rfl] at this; omega)
        go_wp2
        go_roundw
        case rel => exact ⟨k + 1, acc + 1, rest, by omega, by go_num, by have := HH.out; have := HL.out; go_num, HL.out, by have := HH.out; have := HL.out; omega, by have := HH.out; omega, by rw [show n - (k + 1) = n - k - 1 by omega]; exact pr.later (hbr.mono hBr), hb0⟩
        case measure => simp [intOf]; omega
      · have HL := Lib.hid (show acc + 1 + St.labels rest = St.labels p by have := HH.out.2.1; rw [show St.lab1 3 (St.labels body) (St.labels els) = 1 from rfl] at this; omega)
        go_wp2
        go_roundw
        case rel => exact ⟨k + 1, acc + 1, rest, by omega, by go_num, by have := HH.out; have := HL.out; go_num, HL.out, by have := HH.out; have := HL.out; omega, by have := HH.out; omega, by rw [show n - (k + 1) = n - k - 1 by omega]; exact pr.later (hbr.mono hBr), hb0⟩
        case measure => simp [intOf]; omega
      · have HL := Lib.hid (show acc + St.labels body + St.labels rest = St.labels p by have := HH.out.2.1; rw [show St.lab1 4 (St.labels body) (St.labels els) = St.labels body from rfl] at this; omega)
        go_wp2_with fail
        refine (ih body HH.out.2.2.1.1 _ B dl dc D (Nat.le_trans hBr hbr.size) (pb.later (hbr.mono hBr)) hd1 hd2 (by have := HH.out; omega)).mono ?_
        rintro e w2 ⟨rfl, hb2⟩
        have hb3 := below_next hb2 hb0
        have hbr3 := below_next hb2 hbr
        go_wp2
        go_roundw
        case rel => exact ⟨k + 1, acc + St.labels body, rest, by omega, by go_num, congrArg (Value.int .i64) (i64_add _ _ (by have := HH.out; have := HL.out; omega)), HL.out, by have := HH.out; have := HL.out; omega, by have := HH.out; omega, by rw [show n - (k + 1) = n - k - 1 by omega]; exact pr.later (hbr3.mono hBr), hb3⟩
        case measure => simp [intOf]; omega
      · have HL := Lib.hid (show acc + St.labels body + St.labels rest = St.labels p by have := HH.out.2.1; rw [show St.lab1 5 (St.labels body) (St.labels els) = St.labels body from rfl] at this; omega)
        go_wp2_with fail
        refine (ih body HH.out.2.2.1.1 _ B dl dc D (Nat.le_trans hBr hbr.size) (pb.later (hbr.mono hBr)) hd1 hd2 (by have := HH.out; omega)).mono ?_
        rintro e w2 ⟨rfl, hb2⟩
        have hb3 := below_next hb2 hb0
        have hbr3 := below_next hb2 hbr
        go_wp2
        go_roundw
        case rel => exact ⟨k + 1, acc + St.labels body, rest, by omega, by go_num, congrArg (Value.int .i64) (i64_add _ _ (by have := HH.out; have := HL.out; omega)), HL.out, by have := HH.out; have := HL.out; omega, by have := HH.out; omega, by rw [show n - (k + 1) = n - k - 1 by omega]; exact pr.later (hbr3.mono hBr), hb3⟩
        case measure => simp [intOf]; omega
      · have HL := Lib.hid (show acc + (St.labels body + St.labels els) + St.labels rest = St.labels p by have := HH.out.2.1; rw [show St.lab1 6 (St.labels body) (St.labels els) = St.labels body + St.labels els from rfl] at this; omega)
        go_wp2_with fail
        have hIB := ih body HH.out.2.2.1.1
        have hIE := ih els HH.out.2.2.1.2.1
        have hbd : body.size ≤ 1152921504606846976 ∧ els.size ≤ 1152921504606846976 := by have := HH.out; omega
        obtain ⟨W, hW⟩ : ∃ W, W = wr.alloc (.cells #[.int .i64 6, .string nm, .int .i64 ak, .int .i64 an, .string sa, .slice aA al ac, .int .i64 bk, .int .i64 bn, .string sb, .slice bA bl bc, .slice D dl dc, .slice E el ec] 40) := ⟨_, rfl⟩
        have p0' : Blk W wr.heap.size 40 [.int .i64 6, .string nm, .int .i64 ak, .int .i64 an, .string sa, .slice aA al ac, .int .i64 bk, .int .i64 bn, .string sb, .slice bA bl bc, .slice D dl dc, .slice E el ec] := by rw [hW]; exact p0
        have hb0' : Below w.heap.size w W := by rw [hW]; exact hb0
        have hbr' : Below wr.heap.size wr W := by rw [hW]; exact hbr
        rw [← hW]
        clear p0 hb0 hbr hW
        have key : ∀ w', Below W.heap.size W w' → w'.cell? ⟨wr.heap.size, 10, none⟩ = some (.slice D dl dc) ∧ w'.cell? ⟨wr.heap.size, 11, none⟩ = some (.slice E el ec) ∧ PR B w' D dl body ∧ PR B w' E el els ∧ B ≤ w'.heap.size := fun w' h =>
          ⟨((p0'.below h).cell 10).trans rfl, ((p0'.below h).cell 11).trans rfl, (pb.later (hbr'.mono hBr)).later (h.mono (Nat.le_trans hBr hbr'.size)), (pe.later (hbr'.mono hBr)).later (h.mono (Nat.le_trans hBr hbr'.size)), Nat.le_trans (Nat.le_trans hBr hbr'.size) h.size⟩
        clear pb pe p0'
        refine wp_walk (by kernel_rfl) (by kernel_rfl) (fun _ _ => True) (fun w' => (Below W.heap.size W w' ∧ w'.cell? ⟨wr.heap.size, 10, none⟩ = some (.slice D dl dc) ∧ w'.cell? ⟨wr.heap.size, 11, none⟩ = some (.slice E el ec))) ⟨below_drew (Below.refl _ _), (key _ (below_drew (Below.refl _ _))).1, (key _ (below_drew (Below.refl _ _))).2.1⟩ ?_
        repeat (first | (refine settle_skip (fun _ => by rfl) ?_; (simp only [Act.put, List.setIfInBounds_toArray, List.set_cons_zero, List.set_cons_succ])) | (refine' settle_run (fun _ _ => trivial) (fun _ => by rfl) ?_ ?_; rotate_left; (focus (intro ρ w hS hF; (try dsimp only at hS); go_split_ands; go_simp; try with_reducible rfl)); (simp only [Act.put, List.setIfInBounds_toArray, List.set_cons_zero, List.set_cons_succ])))
        (refine' settle_step (fun _ => by rfl) ?_ ?_; rotate_left; (focus (intro ρ w hS hF K hK; (simp only [Act.put, List.setIfInBounds_toArray, List.set_cons_zero, List.set_cons_succ] at hK); go_simp; (have hk := key _ hS.1; go_at_call 38; refine (hIB _ B dl dc D hk.2.2.2.2 hk.2.2.1 hd1 hd2 hbd.1).mono ?_; rintro e w6 ⟨rfl, hb6⟩; have hS0 := below_next hb6 hS.1; have hS' := (And.intro hS0 (And.intro (key _ hS0).1 (key _ hS0).2.1)); have hE' := True.intro); exact hK _ hS' hE')); (simp only [Act.put, List.setIfInBounds_toArray, List.set_cons_zero, List.set_cons_succ]))
        repeat (first | (refine settle_skip (fun _ => by rfl) ?_; (simp only [Act.put, List.setIfInBounds_toArray, List.set_cons_zero, List.set_cons_succ])) | (refine' settle_run (fun _ _ => trivial) (fun _ => by rfl) ?_ ?_; rotate_left; (focus (intro ρ w hS hF; (try dsimp only at hS); go_split_ands; go_simp; try with_reducible rfl)); (simp only [Act.put, List.setIfInBounds_toArray, List.set_cons_zero, List.set_cons_succ])))
        (refine' settle_step (fun _ => by rfl) ?_ ?_; rotate_left; (focus (intro ρ w hS hF K hK; (simp only [Act.put, List.setIfInBounds_toArray, List.set_cons_zero, List.set_cons_succ] at hK); go_simp; (have hk := key _ hS.1; go_at_call 38; refine (hIE _ B el ec E hk.2.2.2.2 hk.2.2.2.1 he1 he2 hbd.2).mono ?_; rintro e w6 ⟨rfl, hb6⟩; have hS0 := below_next hb6 hS.1; have hS' := (And.intro hS0 (And.intro (key _ hS0).1 (key _ hS0).2.1)); have hE' := True.intro); exact hK _ hS' hE')); (simp only [Act.put, List.setIfInBounds_toArray, List.set_cons_zero, List.set_cons_succ]))
        repeat (first | (refine settle_skip (fun _ => by rfl) ?_; (simp only [Act.put, List.setIfInBounds_toArray, List.set_cons_zero, List.set_cons_succ])) | (refine' settle_run (fun _ _ => trivial) (fun _ => by rfl) ?_ ?_; rotate_left; (focus (intro ρ w hS hF; (try dsimp only at hS); go_split_ands; go_simp; try with_reducible rfl)); (simp only [Act.put, List.setIfInBounds_toArray, List.set_cons_zero, List.set_cons_succ])))
        refine settle_nil ?_
        intro ρ w4 hS _
        have hb3 := below_next hS.1 hb0'
        have hbr3 := below_next hS.1 hbr'
        clear key
        go_wp2
        go_roundw
        case rel => exact ⟨k + 1, acc + (St.labels body + St.labels els), rest, by omega, by go_num, by
          have h1 : St.labels body + St.labels els ≤ 9223372036854775807 := by have := HH.out; have := HL.out; omega
          have h2 : acc + (St.labels body + St.labels els) ≤ 9223372036854775807 := by have := HH.out; have := HL.out; omega
          rw [i64_addk _ _ h1, i64_addk _ _ h2], HL.out, by have := HH.out; have := HL.out; omega, by have := HH.out; omega, by rw [show n - (k + 1) = n - k - 1 by omega]; exact pr.later (hbr3.mono hBr), hb3⟩
        case measure => simp [intOf]; omega
      · have HL := Lib.hid (show acc + St.labels body + St.labels rest = St.labels p by have := HH.out.2.1; rw [show St.lab1 7 (St.labels body) (St.labels els) = St.labels body from rfl] at this; omega)
        go_wp2_with fail
        refine (ih body HH.out.2.2.1.1 _ B dl dc D (Nat.le_trans hBr hbr.size) (pb.later (hbr.mono hBr)) hd1 hd2 (by have := HH.out; omega)).mono ?_
        rintro e w2 ⟨rfl, hb2⟩
        have hb3 := below_next hb2 hb0
        have hbr3 := below_next hb2 hbr
        go_wp2
        go_roundw
        case rel => exact ⟨k + 1, acc + St.labels body, rest, by omega, by go_num, congrArg (Value.int .i64) (i64_add _ _ (by have := HH.out; have := HL.out; omega)), HL.out, by have := HH.out; have := HL.out; omega, by have := HH.out; omega, by rw [show n - (k + 1) = n - k - 1 by omega]; exact pr.later (hbr3.mono hBr), hb3⟩
        case measure => simp [intOf]; omega
      · have HL := Lib.hid (show acc + St.labels rest = St.labels p by have := HH.out.2.1; rw [show St.lab1 kd (St.labels body) (St.labels els) = 0 by simp at k2 k3 k4 k5 k6 k7; simp [St.lab1, k2, k3, k4, k5, k6, k7]] at this; omega)
        go_wp2
        go_roundw
        case rel => exact ⟨k + 1, acc, rest, by omega, by go_num, rfl, HL.out, by have := HH.out; have := HL.out; omega, by have := HH.out; omega, by rw [show n - (k + 1) = n - k - 1 by omega]; exact pr.later (hbr.mono hBr), hb0⟩
        case measure => simp [intOf]; omega
    · have hkn : k = n := by omega
      have h0 : St.labels q = 0 := by
        rw [hkn, Nat.sub_self] at hq
        rw [hq.zero]
        rfl
      have HH := Lib.hid (And.intro hkn (And.intro hacc h0))
      clear hacc h0 hkn
      go_wp2
      go_ret
      exact ⟨by have := HH.out; rw [show acc = St.labels p by omega]; rfl, hb⟩
theorem labels_any (p : St.P) : LabOK p := by
  suffices h : ∀ m (p : St.P), p.size ≤ m → LabOK p from h _ p (Nat.le_refl _)
  intro m
  induction m with
  | zero =>
    intro p hp
    exact labels_step p fun q hq => by omega
  | succ m ih => exact fun p hp => labels_step p fun q hq => ih q (by omega)
end Go.Proofs.YtkjmddgnfgbioaaDoor


namespace Go.Proofs.YtkjmddgnfgbioaaDoor
set_option linter.unusedVariables false
set_option linter.unusedSimpArgs false
set_option maxRecDepth 100000
open Go.RowKit

namespace Sr
open Ex St
/-- what is bound behind statements -/
def bda : P → List ByteArray → List ByteArray
  | .nil, bd => bd
  | .cons k nm _ _ _ _ rest, bd => if k = 1 ∨ k = 2 then bda rest (bd ++ [ba nm]) else bda rest bd
theorem bda_grow : ∀ (p : P) (bd : List ByteArray), ∃ more, bda p bd = bd ++ more ∧ more.length ≤ p.size
  | .nil, bd => ⟨[], by simp [bda], Nat.zero_le _⟩
  | .cons k nm a b body els rest, bd => by
    unfold bda P.size
    split
    · obtain ⟨m, h1, h2⟩ := bda_grow rest (bd ++ [ba nm])
      exact ⟨ba nm :: m, by rw [h1]; simp, by rw [List.length_cons]; omega⟩
    · obtain ⟨m, h1, h2⟩ := bda_grow rest bd
      exact ⟨m, h1, by omega⟩
theorem use_length (bd acc : List ByteArray) (e : X) : (use bd acc e).length ≤ acc.length + e.leaves := by
  have h1 := fold_length bd (names [] e) acc
  have h2 := names_length [] e
  unfold use
  simp only [List.length_nil] at h2
  omega
theorem fr_length : ∀ (p : P) (bd acc : List ByteArray), (fr p bd acc).length ≤ acc.length + p.size
  | .nil, _, _ => Nat.le_refl _
  | .cons k nm a b body els rest, bd, acc => by
    unfold fr P.size
    have ha := use_length bd acc a
    have hb := use_length bd (use bd acc a) b
    split
    · have := fr_length rest (bd ++ [ba nm]) (use bd acc a)
      omega
    split
    · have := fr_length rest bd (use bd (use bd acc a) b)
      omega
    split
    · have h1 := fr_length body bd acc
      have := fr_length rest bd (fr body bd acc)
      omega
    split
    · have h1 := fr_length body bd (use bd acc a)
      have h2 := fr_length els bd (fr body bd (use bd acc a))
      have := fr_length rest bd (fr els bd (fr body bd (use bd acc a)))
      omega
    split
    · have h1 := fr_length body (bd ++ [ba nm]) (use bd (use bd acc a) b)
      have := fr_length rest bd (fr body (bd ++ [ba nm]) (use bd (use bd acc a) b))
      omega
    · have := fr_length rest bd acc
      omega
end Sr

def StmtsOK (p : St.P) : Prop := ∀ (w : World) (B n c g : Nat) (A : Option Addr) (vb vf : Value) (bd fs : List ByteArray), PR B w A n p → n ≤ c → c ≤ maxLen → WkO B w g vb bd vf fs → bd.length + p.size ≤ 549755813888 → fs.length + p.size ≤ 549755813888 →
  Calls Tryd.prog 141 #[.pointer (some ⟨g, 0, none⟩), .slice A n c] w (WkEnd B w (WkT g vb bd vf fs) g (Sr.bda p bd) (Sr.fr p bd fs))

set_option maxHeartbeats 2000000 in
theorem sc_within (p : St.P) (ih : StmtsOK p) (w : World) (B n c g : Nat) (A : Option Addr) (vb vf vm : Value) (bd fs ms : List ByteArray) (hp : PR B w A n p) (hnc : n ≤ c) (hc : c ≤ maxLen) (hO : WkO B w g vb bd vf fs)
    (hm : SlV w 1 vm ms.length (strs ms)) (hbd : bd.length + ms.length + p.size ≤ 549755813888) (hfs : fs.length + p.size ≤ 549755813888) :
    Calls Tryd.prog 159 #[.pointer (some ⟨g, 0, none⟩), .slice A n c, vm] w (WkEnd B w (WkT g vb bd vf fs) g bd (Sr.fr p (bd ++ ms) fs)) := by
  have rb : w.ownsRow B 9 1 vb bd.length (strs bd) := hO.row 0 rfl
  have b0 : w.cell? ⟨g, 0, none⟩ = some vb := (hO.blk.cell 0).trans rfl
  have hbase := hO.base
  obtain ⟨VB, cb, rfl, -, -⟩ := own_slice rb
  obtain ⟨VM, cm, rfl, -, -, hml, hmc⟩ := hm
  have n63 : bd.length + ms.length ≤ maxLen := by unfold maxLen; omega
  have n47 : (bd.length + ms.length) * 16 ≤ 140737488355328 := by omega
  have hmid : ∀ (w4 : World), w.grownBy w4 (Value.slice VB bd.length cb).ownBlock → Blk w4 g 210 [.slice VB bd.length cb, vf] := fun w4 g4 => hO.blk.grown g4 (fun e => hO.ng _ List.mem_cons_self e.symm)
  have hend : ∀ (w4 : World) (v' : Value) (w5 : World), w4.ownsRow B 9 1 v' (bd.length + ms.length) (strs bd ++ strs ms) → w.grownBy w4 (Value.slice VB bd.length cb).ownBlock → (v'.ownBlock = (Value.slice VB bd.length cb).ownBlock ∨ v'.ownBlock = some w.heap.size) → Blk w5 g 210 [v', vf] → w4.grownBy w5 (some g) →
      WkTo B w (WkT g (.slice VB bd.length cb) bd vf fs) w5 g v' (bd ++ ms) vf fs := fun w4 v' w5 o4 g4 e4 b5 g5 =>
    hO.put_to (i := 0) (r := strRw (.slice VB bd.length cb) bd) rfl (n' := (bd ++ ms).length) (xs' := strs (bd ++ ms)) (by simpa [strs, strRw] using o4) g4 (e4.imp id fun e => ⟨_, Nat.le_refl _, e⟩) b5 g5
  have hlater : ∀ w5, Keeps (WkT g (.slice VB bd.length cb) bd vf fs) w w5 → PR B w5 A n p := fun w5 k => hp.later (hO.below k)
  have HE := Lib.hid (And.intro hmid (And.intro hend hlater))
  clear hmid hend hlater hO hp
  go_enter Tryd.func159, Tryd.ntmps159
  go_wp2_with (first | (at_builtin; refine wp_append w _ _ B _ _ _ _ _ Tryd.underlying117 info_str rfl (by decide) rb hmc hml (strs_one ms) n63 n47 hbase rfl rfl rfl rfl ?_; intro v' w4 hown4 hg4 hv4 _; have hB4 := HE.out.1 w4 hg4; obtain ⟨V', c', rfl, _, _⟩ := own_slice hown4) | (refine wpl_set_blk hB4 0 _ (by kernel_rfl) (by simp) rfl rfl rfl rfl rfl rfl ?_; intro w5 hB5 hg5) | fail)
  have hT5 := HE.out.2.1 w4 _ w5 hown4 hg4 hv4 hB5 hg5
  have hp5 := HE.out.2.2 w5 hT5.kp
  refine (ih w5 B n c g A _ _ (bd ++ ms) fs hp5 hnc hc hT5.own (by rw [List.length_append]; omega) hfs).mono ?_
  rintro r w6 ⟨rfl, vb6, vf6, hT6⟩
  have hT := hT5.step hT6
  obtain ⟨more, hmo, -⟩ := Sr.bda_grow p (bd ++ ms)
  have r6 : w6.ownsRow B 9 1 vb6 (Sr.bda p (bd ++ ms)).length (strs (Sr.bda p (bd ++ ms))) := hT.own.row 0 rfl
  have d0 : w6.cell? ⟨g, 0, none⟩ = some vb6 := (hT.own.blk.cell 0).trans rfl
  have hle : bd.length ≤ (Sr.bda p (bd ++ ms)).length := by rw [hmo]; simp
  obtain ⟨V6, c6, rfl, hc6, hm6⟩ := own_slice r6
  unfold maxLen at hm6
  have r7 := own_prefix r6 hle
  have e7 : (strs (Sr.bda p (bd ++ ms))).take (bd.length * 1) = strs bd := by rw [hmo]; simp [strs]
  rw [e7] at r7
  have hB6 := hT.own.blk
  have HF := Lib.hid (And.intro hT r7)
  obtain ⟨K6, hK6⟩ : ∃ K6, K6 = (Sr.bda p (bd ++ ms)).length := ⟨_, rfl⟩
  rw [← hK6] at hle hB6 hc6 d0
  have HK := Lib.hid hK6
  clear hT hT5 hT6 r6 r7 e7 hown4 hg4 hv4 hB4 hB5 hg5 hp5 rb b0 HE hmo hK6 hmc hml
  go_wp2_with (first | (refine wpl_set_blk hB6 0 _ (by kernel_rfl) (by simp) rfl rfl rfl rfl rfl rfl ?_; intro w7 hB7 hg7) | fail)
  go_end0
  refine ⟨rfl, .slice V6 bd.length c6, vf6, ?_⟩
  have := HF.out.1.own.put_to (i := 0) (r := strRw (.slice V6 (Sr.bda p (bd ++ ms)).length c6) (Sr.bda p (bd ++ ms))) rfl (v' := .slice V6 bd.length c6) (n' := bd.length) (xs' := strs bd) HF.out.2 (World.grownBy.refl w6 _) (.inl (by cases V6 <;> rfl)) hB7 hg7
  exact HF.out.1.step this
end Go.Proofs.YtkjmddgnfgbioaaDoor
