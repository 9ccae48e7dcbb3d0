/-
  A mark whose value a fact tells, and the fact stays. No program is named here.
-/
import Derived.Test.YtdhjfckckghicaaDoorScP1
import Derived.Test.YtdhjfckckghicaaDoorScP2
import Derived.Test.YtdhjfckckghicaaDoorChecked
import Derived.BigQuiet
import Derived.Test.YtdhjfckckghicaaDoorShelf
import Derived.Lib.AppendIntMem
import Derived.Lib.ItoaLen
import Derived.BigRegion

namespace Go.Proofs.YtdhjfckckghicaaDoor
set_option linter.unusedVariables false
set_option linter.unusedSimpArgs false
set_option maxRecDepth 100000
open Go

section
variable {P : Program} {ops : Array Oper} {Q : Exit → Act → World → Prop} {S S0 : World → Prop} {E : World → World → Prop} {mk fl : Nat → Bool}

def markNB (ops : Array Oper) (n : Nat) (mk fl : Nat → Bool) (ms : List Nat) : Bool :=
  ms.all fun m => decide (m < n) && (List.range n).all fun i => i == m || (fl i || if i < m then reachB ops 6 m i else reachB ops 6 i m)
structure MarkedN (ops : Array Oper) (mk fl : Nat → Bool) (n : Nat) : Prop where
  lt : ∀ m, mk m = true → m < n
  before : ∀ m i, mk m = true → i < m → fl i = false → reachB ops 6 m i = true
  after : ∀ m i, mk m = true → m < i → i < n → fl i = false → reachB ops 6 i m = true
theorem markedN_of {n : Nat} {ms : List Nat} (hms : ∀ m, mk m = true → m ∈ ms) (h : markNB ops n mk fl ms = true) : MarkedN ops mk fl n := by
  have key := List.all_eq_true.1 h
  refine ⟨fun m hm => ?_, fun m i hm hi hf => ?_, fun m i hm hi hlt hf => ?_⟩
  · have := key m (hms m hm)
    rw [Bool.and_eq_true, decide_eq_true_eq] at this
    exact this.1
  · have := key m (hms m hm)
    rw [Bool.and_eq_true, decide_eq_true_eq] at this
    have h2 := List.all_eq_true.1 this.2 i (List.mem_range.2 (by omega))
    have hne : (i == m) = false := by simp; omega
    rw [hne, Bool.false_or, hf, Bool.false_or, if_pos hi] at h2
    exact h2
  · have := key m (hms m hm)
    rw [Bool.and_eq_true, decide_eq_true_eq] at this
    have h2 := List.all_eq_true.1 this.2 i (List.mem_range.2 hlt)
    have hne : (i == m) = false := by simp; omega
    rw [hne, Bool.false_or, hf, Bool.false_or, if_neg (by omega)] at h2
    exact h2

/-- no mark ahead of it -/
def noMark (mk : Nat → Bool) (k : Nat) : Bool := (List.range k).all fun m => !mk m
/-- what holds ahead of the first mark -/
def Pre (mk fl : Nat → Bool) (S0 : World → Prop) (k : Nat) (w : World) : Prop := (noMark mk k && !fl k) = true → S0 w
def SettleN (P : Program) (ops : Array Oper) (S S0 : World → Prop) (E : World → World → Prop) (mk fl : Nat → Bool) (Z : (Env → Act) → List (Tmp × Fact E) → Prop) : Nat → List Oper → (Env → Act) → List (Tmp × Fact E) → Prop
  | _, [], A, Fs => Z A Fs
  | k, o :: rest, A, Fs =>
    (∃ v, (∀ ρ w, S w → FactsOK (o.looksAt ops) ρ w (cond (fl k) [] Fs) → Pre mk fl S0 k w → StepTo P ops S (cond (mk k) (fun _ _ => True) E) o (A ρ) w (fun u _ => u = v)) ∧ SettleN P ops S S0 E mk fl Z (k + 1) rest (fun ρ => (A ρ).put o.dst v) (cond (mk k) [] Fs)) ∨
    (∃ d F, o.dst = some d ∧ fl k = false ∧ (∀ ρ w, S w → FactsOK (o.looksAt ops) ρ w (cond (fl k) [] Fs) → Pre mk fl S0 k w → StepTo P ops S (cond (mk k) (fun _ _ => True) E) o (A ρ) w F.holds) ∧ SettleN P ops S S0 E mk fl Z (k + 1) rest (fun ρ => (A ρ).put (some d) (ρ d)) ((d, F) :: cond (mk k) [] Fs))

structure PlanN (P : Program) (ops : Array Oper) (S S0 : World → Prop) (mk fl : Nat → Bool) (a : Act) (l : List (Oper × Kind E)) : Prop where
  dst : ∀ p ∈ l, (∃ F, p.2 = .fresh F) → ∃ d, p.1.dst = some d
  flt : ∀ (j : Nat) p, l[j]? = some p → (∃ F, p.2 = .fresh F) → fl j = false
  step : ∀ pre p post, l = pre ++ p :: post → ∀ ρ w, S w → FactsOK (p.1.looksAt ops) ρ w (cond (fl pre.length) [] (factsM mk 0 pre [])) → Pre mk fl S0 pre.length w → StepTo P ops S (cond (mk pre.length) (fun _ _ => True) E) p.1 (actOf a ρ pre) w p.2.rel

theorem planN_snoc {a : Act} {l : List (Oper × Kind E)} (h : PlanN P ops S S0 mk fl a l) {p : Oper × Kind E} (h1 : (∃ F, p.2 = .fresh F) → ∃ d, p.1.dst = some d) (h3 : (∃ F, p.2 = .fresh F) → fl l.length = false)
    (h2 : ∀ ρ w, S w → FactsOK (p.1.looksAt ops) ρ w (cond (fl l.length) [] (factsM mk 0 l [])) → Pre mk fl S0 l.length w → StepTo P ops S (cond (mk l.length) (fun _ _ => True) E) p.1 (actOf a ρ l) w p.2.rel) : PlanN P ops S S0 mk fl a (l ++ [p]) := by
  refine ⟨fun q hq hf => ?_, fun j q hq hf => ?_, fun pre q post he => ?_⟩
  · rcases List.mem_append.1 hq with hq | hq
    · exact h.dst q hq hf
    · rw [List.mem_singleton.1 hq] at hf ⊢
      exact h1 hf
  · rcases Nat.lt_or_ge j l.length with hj | hj
    · rw [List.getElem?_append_left hj] at hq
      exact h.flt j q hq hf
    · rw [List.getElem?_append_right hj] at hq
      have hj' := (List.getElem?_eq_some_iff.1 hq).1
      simp only [List.length_singleton] at hj'
      have e : j = l.length := by omega
      subst e
      simp only [Nat.sub_self, List.getElem?_cons_zero, Option.some.injEq] at hq
      subst hq
      exact h3 hf
  · rcases List.eq_nil_or_concat post with rfl | ⟨post', q', rfl⟩
    · have := List.append_inj' he rfl
      obtain ⟨e1, e2⟩ := this
      injection e2 with e2
      subst e1 e2
      exact h2
    · have e : pre ++ q :: (post' ++ [q']) = (pre ++ q :: post') ++ [q'] := by simp
      rw [List.concat_eq_append, e] at he
      exact h.step pre q post' (List.append_inj' he rfl).1

theorem settleN_plan {Z : (Env → Act) → List (Tmp × Fact E) → Prop} {a : Act} : ∀ (l : List Oper) (pre : List (Oper × Kind E)), PlanN P ops S S0 mk fl a pre → SettleN P ops S S0 E mk fl Z pre.length l (fun ρ => actOf a ρ pre) (factsM mk 0 pre []) →
    ∃ full : List (Oper × Kind E), PlanN P ops S S0 mk fl a full ∧ full.map (·.1) = pre.map (·.1) ++ l ∧ Z (fun ρ => actOf a ρ full) (factsM mk 0 full []) := by
  intro l
  induction l with
  | nil => exact fun pre hp h => ⟨pre, hp, by simp, h⟩
  | cons o rest ih =>
    intro pre hp h
    rcases h with ⟨v, h1, h2⟩ | ⟨d, F, hd, h3, h1, h2⟩
    · obtain ⟨full, q1, q2, q3⟩ := ih (pre ++ [(o, .fixed v)]) (planN_snoc (p := (o, .fixed v)) hp (fun ⟨F, h⟩ => by cases h) (fun ⟨F, h⟩ => by cases h) h1) (by
        have e1 : (fun ρ => actOf a ρ (pre ++ [(o, (Kind.fixed v : Kind E))])) = fun ρ => (actOf a ρ pre).put o.dst v := by
          funext ρ; simp [actOf, Kind.val]
        have e2 : factsM mk 0 (pre ++ [(o, (Kind.fixed v : Kind E))]) [] = cond (mk pre.length) [] (factsM mk 0 pre []) := by rw [factsM_snoc, Nat.zero_add]; rfl
        rw [e1, e2, List.length_append]
        exact h2)
      exact ⟨full, q1, by rw [q2]; simp, q3⟩
    · obtain ⟨full, q1, q2, q3⟩ := ih (pre ++ [(o, .fresh F)]) (planN_snoc (p := (o, .fresh F)) hp (fun _ => ⟨d, hd⟩) (fun _ => h3) h1) (by
        have e1 : (fun ρ => actOf a ρ (pre ++ [(o, (Kind.fresh F : Kind E))])) = fun ρ => (actOf a ρ pre).put (some d) (ρ d) := by
          funext ρ; simp [actOf, Kind.val, hd]
        have e2 : factsM mk 0 (pre ++ [(o, (Kind.fresh F : Kind E))]) [] = (d, F) :: cond (mk pre.length) [] (factsM mk 0 pre []) := by rw [factsM_snoc, Nat.zero_add]; simp [addFact, hd]
        rw [e1, e2, List.length_append]
        exact h2)
      exact ⟨full, q1, by rw [q2]; simp, q3⟩

theorem any_order_mt {a0 : Act} {full : List (Oper × Kind E)} {n : Nat} (hn : n < ops.size) (hops : full.map (·.1) = ops.toList.take n) (hlin : LinearN ops n) (hsk : Region.sinkB .any ops n = true) (hch : Region.chainB .any ops n = true)
    (hsq : ∀ listed : Array Bool, listed.size = ops.size → (∀ i, i < n → listed.getD i false = true) → (∀ i, n ≤ i → listed.getD i false = false) → Region.seqB .any ops (ops.size - n) n listed = true) (hmk : MarkedN ops mk fl n) (hp : PlanN P ops S S0 mk fl a0 full) (hE0 : ∀ w w', S0 w → E w w' → S0 w')
    (hZ : ∀ ρ w, S w → (∀ t F, (t, F) ∈ factsM mk 0 full [] → F.holds (ρ t) w) → wpList P ops Q (ops.toList.drop n) (actOf a0 ρ full) w) :
    ∀ (fuel : Nat) (listed : Array Bool) (a : Act) (w : World) (ρ : Env), HeadInv .any ops n listed →
      (∃ todo : List Nat, todo.length ≤ fuel ∧ ∀ i, i < n → listed.getD i false = false → i ∈ todo) →
      Holds a0 full (fun i => listed.getD i false = true) ρ a → S w → ((∀ m, mk m = true → listed.getD m false = false) → S0 w) → (∀ (i : Nat) (p : Oper × Kind E) (F : Fact E) (d : Tmp), listed.getD i false = true → (∀ m, mk m = true → i < m → listed.getD m false = false) → full[i]? = some p → p.2 = .fresh F → p.1.dst = some d → F.holds (ρ d) w) →
      wpAny P .any ops Q (fuel + (ops.size - n)) listed a w := by
  have hget : ∀ (i : Nat) (p : Oper × Kind E), full[i]? = some p → ops[i]? = some p.1 := fun i p h => by
    have : (full.map (·.1))[i]? = some p.1 := by simp [h]
    rw [hops, List.getElem?_take] at this
    split at this
    · simpa using this
    · cases this
  have hlen : full.length = n := by
    have := congrArg List.length hops
    simp only [List.length_map, List.length_take, Array.length_toList] at this
    omega
  have hget' : ∀ (i : Nat) (o : Oper), i < n → ops[i]? = some o → ∃ p : Oper × Kind E, full[i]? = some p ∧ p.1 = o := fun i o hin h => by
    have hi : i < full.length := by rw [hlen]; exact hin
    have h1 := hget i _ (List.getElem?_eq_getElem hi)
    rw [h] at h1
    injection h1 with h1
    exact ⟨_, List.getElem?_eq_getElem hi, h1.symm⟩
  have hdist : ∀ (i j : Nat) (p q : Oper × Kind E) (d : Tmp), i < j → full[i]? = some p → full[j]? = some q → p.1.dst = some d → q.1.dst ≠ some d := fun i j p q d hij h1 h2 => hlin.dist i j _ _ d hij (by have := (List.getElem?_eq_some_iff.1 h2).1; omega) (hget i p h1) (hget j q h2)
  have hdist2 : ∀ (i j : Nat) (p q : Oper × Kind E) (d : Tmp), i ≠ j → full[i]? = some p → full[j]? = some q → p.1.dst = some d → q.1.dst ≠ some d := fun i j p q d hij h1 h2 hd hd' => by
    rcases Nat.lt_or_gt_of_ne hij with h | h
    · exact hdist i j p q d h h1 h2 hd hd'
    · exact hdist j i q p d h h2 h1 hd' hd
  -- all have come up
  have fin : ∀ (fuel : Nat) (listed : Array Bool) (a : Act) (w : World) (ρ : Env), HeadInv .any ops n listed → (∀ i, i < n → listed.getD i false = true) → Holds a0 full (fun i => listed.getD i false = true) ρ a → S w →
      (∀ (i : Nat) (p : Oper × Kind E) (F : Fact E) (d : Tmp), listed.getD i false = true → (∀ m, mk m = true → i < m → listed.getD m false = false) → full[i]? = some p → p.2 = .fresh F → p.1.dst = some d → F.holds (ρ d) w) → wpAny P .any ops Q (fuel + (ops.size - n)) listed a w := fun fuel listed a w ρ inv hall hH hS hF => by
    have h1 : Holds a0 full (fun i => i < full.length) ρ (actOf a0 ρ full) := by
      have := holds_prefix a0 full ρ hdist full.length (Nat.le_refl _)
      rwa [List.take_length] at this
    have h2 : Holds a0 full (fun i => i < full.length) ρ a :=
      ⟨hH.defers, hH.size, fun t ht => hH.far t fun i p hi hp => ht i p (List.getElem?_eq_some_iff.1 hp).1 hp, fun i p t hi => hH.near i p t (hall i (by omega))⟩
    rw [h2.unique h1]
    have hz := hZ ρ w hS fun t F hm => by
      rcases mem_factsM hm with ⟨h, -⟩ | ⟨i, p, h1, h2, h3, h4⟩
      · cases h
      · exact hF i p F t (hall i (by have := (List.getElem?_eq_some_iff.1 h1).1; omega)) (fun m hm him => absurd (hmk.lt m hm) (fun h => h4 m hm (by omega) (by omega))) h1 h2 h3
    have hdl : (ops.toList.drop n).length = ops.size - n := by simp
    have hs := hsq listed inv.size hall (fun i hi => by
      rcases Nat.lt_or_ge i ops.size with h | h
      · exact getD_both (inv.tail i hi h)
      · simp [Array.getD, inv.size, Nat.not_lt.2 h])
    have := wpAny_seq_more fuel (ops.toList.drop n) n listed (actOf a0 ρ full) w (fun j => by simp [List.getElem?_drop]) (by rw [hdl]; exact hs) hz
    rwa [hdl, Nat.add_comm] at this
  have none_left : ∀ listed : Array Bool, HeadInv .any ops n listed → Region.ready .any ops listed = [] → ∀ m i, i < m → i < n → listed.getD i false = true := by
    intro listed inv hr m
    induction m with
    | zero => intro i h; omega
    | succ m ih =>
      intro i hi hin
      cases hli : listed.getD i false with
      | true => rfl
      | false =>
        have hlt : i < ops.size := by omega
        have ho : ops[i]? = some ops[i] := Array.getElem?_eq_getElem hlt
        have hmem : i ∈ Region.ready .any ops listed := by
          rw [mem_ready]
          refine ⟨?_, _, ho, fun e he hb => ?_⟩
          · simp only [Array.getD, inv.size, hlt, dif_pos] at hli ⊢
            exact hli
          · have := hlin.back i _ hin ho e he hb
            exact ih e.on (by omega) (by omega)
        rw [hr] at hmem
        cases hmem
  have some_left : ∀ listed : Array Bool, (∀ i, i < n → listed.getD i false = true) ∨ ∃ i, i < n ∧ listed.getD i false = false := fun listed => by
    by_cases h : ∃ i, i < n ∧ listed.getD i false = false
    · exact .inr h
    · exact .inl fun i hi => by
        cases hl : listed.getD i false with
        | true => rfl
        | false => exact (h ⟨i, hi, hl⟩).elim
  intro fuel
  induction fuel with
  | zero =>
    intro listed a w ρ inv ⟨todo, htodo, hin⟩ hH hS hS0 hF
    have hall : ∀ i, i < n → listed.getD i false = true := fun i hi => by
      cases hli : listed.getD i false with
      | true => rfl
      | false =>
        have := hin i hi hli
        rw [List.eq_nil_of_length_eq_zero (Nat.le_zero.1 htodo)] at this
        cases this
    exact fin 0 listed a w ρ inv hall hH hS hF
  | succ fuel ih =>
    intro listed a w ρ inv ⟨todo, htodo, hin⟩ hH hS hS0 hF
    rcases some_left listed with hall | ⟨i0, hi0, hl0⟩
    · exact fin (fuel + 1) listed a w ρ inv hall hH hS hF
    have hsz := inv.size
    rw [show fuel + 1 + (ops.size - n) = (fuel + (ops.size - n)) + 1 by omega]
    refine ⟨fun hr => ?_, fun i hi => ?_⟩
    · have := none_left listed inv hr (i0 + 1) i0 (by omega) hi0
      rw [hl0] at this
      cases this
    have hilt : i < n := by
      rcases Nat.lt_or_ge i n with h | h
      · exact h
      · exact absurd hi (tail_waits hsk hch hn inv _ i0 rfl hi0 (getD_in (by omega) hl0) i h)
    obtain ⟨h0, o, ho, hall⟩ := mem_ready.1 hi
    have hlt := (Array.getElem?_eq_some_iff.1 ho).1
    have h0' : listed.getD i false = false := by
      simp only [Array.getD, hsz, hlt, dif_pos] at h0 ⊢
      exact h0
    obtain ⟨p, hpi, rfl⟩ := hget' i o hilt ho
    have hil : i < full.length := by omega
    have hpre : Holds a0 full (fun j => j < i) ρ (actOf a0 ρ (full.take i)) := holds_prefix a0 full ρ hdist i (by omega)
    have hsplit : full = full.take i ++ p :: full.drop (i + 1) := by
      have : full[i] = p := by have := List.getElem?_eq_getElem hil; rw [hpi] at this; injection this with this; exact this.symm
      rw [← this, List.getElem_cons_drop, List.take_append_drop]
    have hstep := hp.step _ p _ hsplit ρ w hS
    have conf : ∀ (j : Nat) (q : Oper × Kind E), full[j]? = some q → ∀ t, q.1.dst = some t → t ∈ p.1.looksAt ops → (listed.getD j false = true ↔ j < i) := by
      intro j q hq t hd hl
      have hoj := hget j q hq
      have hjn : j < n := by have := (List.getElem?_eq_some_iff.1 hq).1; omega
      rcases Nat.lt_trichotomy j i with h | h | h
      · refine ⟨fun _ => h, fun _ => ?_⟩
        rcases hlin.wait j i _ _ h hilt hoj ho with hap | ⟨e, he, hb, hon⟩
        · exact absurd hl ((Oper.apart_spec hap).1 t hd)
        · rw [← hon]; exact hall e he hb
      · subst h
        rw [hpi] at hq
        injection hq with hq
        subst hq
        exact absurd hl (hlin.self j _ t hilt ho hd)
      · refine ⟨fun hj => ?_, fun h' => by omega⟩
        exfalso
        rcases hlin.wait i j _ _ h hjn ho hoj with hap | ⟨e, he, hb, hon⟩
        · exact absurd hl ((Oper.apart_spec hap).2.2 t hd)
        · have := inv.closed j _ hoj hj e he hb
          rw [hon, h0'] at this
          cases this
    have hdown' : ∀ j o, listed.getD j false = true → ops[j]? = some o → ∀ e ∈ o.after, Region.binds .any e = true → listed.getD e.on false = true := fun j o hj ho e he hb => inv.closed j o ho hj e he hb
    have later : ∀ m, mk m = true → i < m → fl i = false → listed.getD m false = false := fun m hm him hfl => by
      cases hlm : listed.getD m false with
      | false => rfl
      | true =>
        have := reach_closed hdown' 6 m i (hmk.before m i hm him hfl) hlm
        rw [h0'] at this
        cases this
    have hfacts : FactsOK (p.1.looksAt ops) ρ w (cond (fl i) [] (factsM mk 0 (full.take i) [])) := factsOK_of _ fun t F hm hl => by
      rcases hfl : fl i with _ | _
      case true => rw [hfl] at hm; cases hm
      rw [hfl] at hm
      rcases mem_factsM hm with ⟨h, -⟩ | ⟨j, q, h1, h2, h3, h4⟩
      · cases h
      · have hji : j < i := by
          have := (List.getElem?_eq_some_iff.1 h1).1
          rw [List.length_take] at this
          omega
        have hq : full[j]? = some q := by
          rw [List.getElem?_take, if_pos hji] at h1
          exact h1
        refine hF j q F t ((conf j q hq t h3 (by simpa using hl)).2 hji) (fun m hm hjm => ?_) hq h2 h3
        rcases Nat.lt_trichotomy i m with h | h | h
        · exact later m hm h hfl
        · rw [← h]; exact h0'
        · exact absurd (h4 m hm (by omega) (by rw [List.length_take]; omega)) id
    have hli' : (full.take i).length = i := by rw [List.length_take]; omega
    have hst := hstep (by rw [hli']; exact hfacts) (by
      rw [hli']
      intro hnm
      rw [Bool.and_eq_true] at hnm
      refine hS0 fun m hm => ?_
      have hfl : fl i = false := by simpa using hnm.2
      rcases Nat.lt_trichotomy i m with h | h | h
      · exact later m hm h hfl
      · rw [← h]; exact h0'
      · have := List.all_eq_true.1 hnm.1 m (List.mem_range.2 h)
        rw [hm] at this
        cases this)
    have hag : ∀ t, t ∈ p.1.looksAt ops → a.tmps[t]? = (actOf a0 ρ (full.take i)).tmps[t]? := fun t ht =>
      hH.agree hpre t fun j q hq hd => conf j q hq t hd ht
    have hexec : execOp a.eval p.1 = execOp (actOf a0 ρ (full.take i)).eval p.1 := execOp_congr p.1 (fun cs b => hlin.sel i _ cs b ho) fun x hx => by
      cases x with
      | tmp t =>
        have := hag t (List.mem_append_left _ (List.mem_filterMap.2 ⟨.tmp t, by simpa using hx, rfl⟩))
        simp only [Act.eval, Array.getD_eq_getD_getElem?]
        rw [this]
      | _ => rfl
    have hwant : Region.wanted p.1 (yielded ops a.tmps) = Region.wanted p.1 (yielded ops (actOf a0 ρ (full.take i)).tmps) := by
      unfold Region.wanted
      cases hg : p.1.guard with
      | none => rfl
      | some gw =>
        obtain ⟨g, want⟩ := gw
        have : yielded ops a.tmps g = yielded ops (actOf a0 ρ (full.take i)).tmps g := by
          unfold yielded
          cases ht : (ops[g]?).bind (·.dst) with
          | none => rfl
          | some t =>
            have := hag t (List.mem_append_right _ (by simp [hg, ht]))
            simp only [Option.bind_some, this]
        simp only [this]
    have size_eq : (actOf a0 ρ (full.take i)).tmps.size = a.tmps.size := hpre.size.trans hH.size.symm
    -- the way on
    have go : ∀ v w', p.2.rel v w' → S w' → ((∀ m, mk m = true → (listed.setIfInBounds i true).getD m false = false) → S0 w') → (∀ (j : Nat) (q : Oper × Kind E) (F : Fact E) (d : Tmp), listed.getD j false = true → (∀ m, mk m = true → j < m → (listed.setIfInBounds i true).getD m false = false) → full[j]? = some q → q.2 = .fresh F → q.1.dst = some d → F.holds (ρ d) w') →
        wpAny P .any ops Q (fuel + (ops.size - n)) (listed.setIfInBounds i true) (a.put p.1.dst v) w' := by
      intro v w' hR hS' hS0' hF'
      have next : ∀ ρ' : Env, p.2.val ρ' p.1 = v → (∀ j q, j ≠ i → full[j]? = some q → q.2.val ρ' q.1 = q.2.val ρ q.1) → (∀ j q F d, j ≠ i → full[j]? = some q → q.2 = .fresh F → q.1.dst = some d → ρ' d = ρ d) → (∀ F d, p.2 = .fresh F → p.1.dst = some d → F.holds (ρ' d) w') →
          wpAny P .any ops Q (fuel + (ops.size - n)) (listed.setIfInBounds i true) (a.put p.1.dst v) w' := by
        intro ρ' hv hothers hd' hself
        have hset : ∀ j, (listed.setIfInBounds i true).getD j false = true ↔ j = i ∨ listed.getD j false = true := fun j => by
          by_cases hji : j = i
          · subst hji
            simp [Array.getD, hsz, hlt]
          · rw [getD_set_ne false (Ne.symm hji)]
            simp [hji]
        refine ih _ _ _ ρ' (inv.set hi hilt) ⟨todo.filter (· != i), ?_, fun j hj hjl => ?_⟩ ?_ hS' hS0' (fun j q F d hj hjm hq hf hd => ?_)
        · have : (todo.filter (· != i)).length < todo.length := by
            rw [List.length_filter_lt_length_iff_exists]
            exact ⟨i, hin i hilt h0', by simp⟩
          omega
        · have hne : j ≠ i := fun e => by
            have := (hset j).2 (.inl e)
            rw [this] at hjl
            cases hjl
          refine List.mem_filter.2 ⟨hin j hj ?_, by simpa using hne⟩
          rwa [getD_set_ne false (Ne.symm hne)] at hjl
        · have := hH.put (ρ' := ρ') hpi hset (fun j q hj hq d hd => hdist2 j i q p d (fun e => by rw [e, h0'] at hj; cases hj) hq hpi hd) (fun j q hj hq => hothers j q (fun e => by rw [e, h0'] at hj; cases hj) hq)
          rwa [hv] at this
        · rcases (hset j).1 hj with rfl | hj
          · rw [hpi] at hq
            injection hq with hq
            subst hq
            exact hself F d hf hd
          · have hne : j ≠ i := fun e => by rw [e, h0'] at hj; cases hj
            rw [hd' j q F d hne hq hf hd]
            exact hF' j q F d hj hjm hq hf hd
      cases hk : p.2 with
      | fixed v0 =>
        have hv : v = v0 := by rw [hk] at hR; exact hR
        exact next ρ (by rw [hk]; exact hv.symm) (fun _ _ _ _ => rfl) (fun _ _ _ _ _ _ _ _ => rfl) (fun F d hf => by rw [hk] at hf; cases hf)
      | fresh F =>
        obtain ⟨d, hd⟩ := hp.dst p (by rw [hsplit]; simp) ⟨F, hk⟩
        have hR' : F.holds v w' := by rw [hk] at hR; exact hR
        have hne : ∀ j q d', j ≠ i → full[j]? = some q → q.1.dst = some d' → d' ≠ d := fun j q d' hji hq hd' e => hdist2 j i q p d' hji hq hpi hd' (by rw [hd, e])
        refine next (fun t => if t = d then v else ρ t) (by rw [hk]; simp [Kind.val, hd]) (fun j q hji hq => ?_) (fun j q F' d' hji hq _ hd' => if_neg (hne j q d' hji hq hd')) (fun F' d' hf hd' => ?_)
        · cases hkq : q.2 with
          | fixed v0 => rfl
          | fresh F' =>
            obtain ⟨d', hd'⟩ := hp.dst q (List.mem_of_getElem? hq) ⟨F', hkq⟩
            simp only [Kind.val, hd']
            exact if_neg (hne j q d' hji hq hd')
        · rw [hk] at hf
          injection hf with hf
          rw [hd] at hd'
          injection hd' with hd'
          subst hf hd'
          simpa using hR'
    have hset' : ∀ j, (listed.setIfInBounds i true).getD j false = false → listed.getD j false = false := fun j hj => by
      by_cases hji : j = i
      · rw [hji]; exact h0'
      · rwa [getD_set_ne false (Ne.symm hji)] at hj
    have hlen_i : (full.take i).length = i := by rw [List.length_take]; omega
    have hseti : (listed.setIfInBounds i true).getD i false = true := by simp [Array.getD, hsz, hlt]
    rw [hlen_i] at hst
    unfold wpOp
    simp only [ho]
    unfold StepTo at hst
    rw [← hwant] at hst
    split
    · rename_i hw
      rw [if_pos hw] at hst
      refine .inl (wp_carry (R := fun v w' => p.2.rel v w' ∧ S w' ∧ (cond (mk i) (fun _ _ => True) E) w w') hexec size_eq (hst _ fun v w' h1 h2 h3 => ⟨v, rfl, h1, h2, h3⟩) fun v w' ⟨h1, h2, h3⟩ => go v w' h1 h2 (fun hno => ?_) fun j q F d hj hjm hq hf hd => ?_)
      · rcases hmi : mk i with _ | _
        · rw [hmi] at h3
          exact hE0 _ _ (hS0 fun m hm => hset' m (hno m hm)) h3
        · have := hno i hmi
          rw [hseti] at this
          cases this
      rcases hmi : mk i with _ | _
      · rw [hmi] at h3
        exact F.keep _ _ _ (hF j q F d hj (fun m hm h => hset' m (hjm m hm h)) hq hf hd) h3
      · exfalso
        rcases Nat.lt_trichotomy j i with h | h | h
        · have := hjm i hmi h
          rw [hseti] at this
          cases this
        · rw [h, h0'] at hj; cases hj
        · have := reach_closed hdown' 6 j i (hmk.after i j hmi h (by have := (List.getElem?_eq_some_iff.1 hq).1; omega) (hp.flt j q hq ⟨F, hf⟩)) hj
          rw [h0'] at this
          cases this
    · rename_i hw
      rw [if_neg hw] at hst
      exact go undef w hst hS (fun hno => hS0 fun m hm => hset' m (hno m hm)) fun j q F d hj hjm hq hf hd => hF j q F d hj (fun m hm h => hset' m (hjm m hm h)) hq hf hd

/-- the same, that nothing looks into -/
structure WalkN (P : Program) (ops : Array Oper) (S S0 : World → Prop) (E : World → World → Prop) (mk fl : Nat → Bool) (Z : (Env → Act) → List (Tmp × Fact E) → Prop) (k : Nat) (l : List Oper) (A : Env → Act) (Fs : List (Tmp × Fact E)) : Prop where
  out : SettleN P ops S S0 E mk fl Z k l A Fs

/-- THE RULE, with marks and a tail of n operations ahead of it -/
theorem wp_walk_mt {id : Nat} {a : Act} {w : World} {l : List Oper} (n : Nat) (mk fl : Nat → Bool) (ms : List Nat) (hms : ∀ m, mk m = true → m ∈ ms) (hm : P.follows .mixedOrders = true) (hB : tailB l.toArray n = true) (hmk : markNB l.toArray n mk fl ms = true) (E : World → World → Prop) (S S0 : World → Prop) (hS : S w.drew) (hS0 : S0 w.drew) (hE0 : ∀ w w', S0 w → E w w' → S0 w')
    (h : WalkN P l.toArray S S0 E mk fl (fun A Fs => ∀ ρ w', S w' → (∀ t F, (t, F) ∈ Fs → F.holds (ρ t) w') → wpList P l.toArray Q (l.drop n) (A ρ) w') 0 (l.take n) (fun _ => a) []) : (Code.region id l.toArray true).wp P Q a w := by
  simp only [tailB, Bool.and_eq_true, decide_eq_true_eq] at hB
  obtain ⟨⟨⟨⟨hn, hlin⟩, hs⟩, hc⟩, hq⟩ := hB
  obtain ⟨full, hp, he, hZ⟩ := settleN_plan (l.take n) [] ⟨(fun _ h => by cases h), (fun j p h => by simp at h), (fun pre p post he => by simp at he)⟩ h.out
  have inv0 : HeadInv .any l.toArray n (Array.replicate l.toArray.size false) :=
    ⟨by simp, fun j oj _ hl => (by rw [getD_replicate_false] at hl; cases hl), fun t _ ht => getD_in (by simpa using ht) (getD_replicate_false _ _)⟩
  have := any_order_mt (P := P) (Q := Q) hn (by simpa using he) (linearN_of hlin) hs hc (fun listed hsz h1 h2 => by
    have hn' := hn
    rw [show listed = (Array.replicate n true) ++ (Array.replicate (l.toArray.size - n) false) from getD_ext (by simp only [Array.size_append, Array.size_replicate]; omega) fun i => by
      rw [Array.getD_eq_getD_getElem? (xs := _ ++ _), Array.getElem?_append]
      rcases Nat.lt_or_ge i n with h | h
      · rw [h1 i h]
        simp [h]
      · rw [h2 i h]
        simp only [Array.size_replicate, Nat.not_lt.2 h, if_false, Array.getElem?_replicate]
        split <;> rfl]
    exact hq) (markedN_of hms hmk) hp hE0 hZ n _ a w.drew (fun _ => undef) inv0 ⟨List.range n, by simp, fun i hi _ => List.mem_range.2 hi⟩ ⟨rfl, rfl, fun _ _ => rfl, fun i p t hi => ?_⟩ hS (fun _ => hS0) fun i p F d hi => ?_
  · refine wp_region_any hm ?_
    rwa [show n + (l.toArray.size - n) = l.toArray.size by omega] at this
  · exfalso; rw [getD_replicate_false] at hi; cases hi
  · exfalso; rw [getD_replicate_false] at hi; cases hi
variable {Z : (Env → Act) → List (Tmp × Fact E) → Prop} {o : Oper} {rest : List Oper} {A : Env → Act} {Fs : List (Tmp × Fact E)} {k : Nat}
theorem nsettle_nil (h : Z A Fs) : WalkN P ops S S0 E mk fl Z k [] A Fs := ⟨h⟩
theorem nsettle_skip (hmk : mk k = false) (hw : ∀ ρ, Region.wanted o (yielded ops (A ρ).tmps) = false) (h : WalkN P ops S S0 E mk fl Z (k + 1) rest (fun ρ => (A ρ).put o.dst undef) Fs) : WalkN P ops S S0 E mk fl Z k (o :: rest) A Fs :=
  ⟨.inl ⟨undef, fun ρ w _ _ _ => by unfold StepTo; rw [if_neg (by rw [hw]; simp)], by rw [hmk]; exact h.out⟩⟩
theorem nsettle_run {v : Value} (hmk : mk k = false) (hE : ∀ w, S w → E w w) (hw : ∀ ρ, Region.wanted o (yielded ops (A ρ).tmps) = true)
    (hr : ∀ ρ w, S w → FactsOK (o.looksAt ops) ρ w (cond (fl k) [] Fs) → Pre mk fl S0 k w → (execOp (A ρ).eval o).run P w = .ok (.value v) w) (h : WalkN P ops S S0 E mk fl Z (k + 1) rest (fun ρ => (A ρ).put o.dst v) Fs) : WalkN P ops S S0 E mk fl Z k (o :: rest) A Fs :=
  ⟨.inl ⟨v, fun ρ w hS hF hP => by
    unfold StepTo
    rw [if_pos (hw ρ), hmk]
    intro K hK
    unfold Oper.wp
    rw [hr ρ w hS hF hP]
    exact hK v w rfl hS (hE w hS), by rw [hmk]; exact h.out⟩⟩
theorem nsettle_step {v : Value} (hmk : mk k = false) (hw : ∀ ρ, Region.wanted o (yielded ops (A ρ).tmps) = true)
    (hc : ∀ ρ w, S w → FactsOK (o.looksAt ops) ρ w (cond (fl k) [] Fs) → Pre mk fl S0 k w → ∀ K : Act → World → Prop, (∀ w', S w' → E w w' → K ((A ρ).put o.dst v) w') → o.wp P (A ρ) w K (fun _ _ _ => False)) (h : WalkN P ops S S0 E mk fl Z (k + 1) rest (fun ρ => (A ρ).put o.dst v) Fs) : WalkN P ops S S0 E mk fl Z k (o :: rest) A Fs :=
  ⟨.inl ⟨v, fun ρ w hS hF hP => by
    unfold StepTo
    rw [if_pos (hw ρ), hmk]
    exact fun K hK => hc ρ w hS hF hP K fun w' h1 h2 => hK v w' rfl h1 h2, by rw [hmk]; exact h.out⟩⟩
theorem nsettle_known {d : Tmp} (F : Fact E) (hmk : mk k = false) (hfl : fl k = false) (hd : o.dst = some d) (hw : ∀ ρ, Region.wanted o (yielded ops (A ρ).tmps) = true)
    (hc : ∀ ρ w, S w → FactsOK (o.looksAt ops) ρ w (cond (fl k) [] Fs) → Pre mk fl S0 k w → ∀ K : Act → World → Prop, (∀ v w', F.holds v w' → S w' → E w w' → K ((A ρ).put o.dst v) w') → o.wp P (A ρ) w K (fun _ _ _ => False)) (h : WalkN P ops S S0 E mk fl Z (k + 1) rest (fun ρ => (A ρ).put (some d) (ρ d)) ((d, F) :: Fs)) : WalkN P ops S S0 E mk fl Z k (o :: rest) A Fs :=
  ⟨.inr ⟨d, F, hd, hfl, fun ρ w hS hF hP => by
    unfold StepTo
    rw [if_pos (hw ρ), hmk]
    exact fun K hK => hc ρ w hS hF hP K hK, by rw [hmk]; exact h.out⟩⟩
/-- a mark: what was known is forgotten -/
theorem nsettle_mark {d : Tmp} (F : Fact E) (hmk : mk k = true) (hfl : fl k = false) (hd : o.dst = some d) (hw : ∀ ρ, Region.wanted o (yielded ops (A ρ).tmps) = true)
    (hc : ∀ ρ w, S w → FactsOK (o.looksAt ops) ρ w (cond (fl k) [] Fs) → Pre mk fl S0 k w → ∀ K : Act → World → Prop, (∀ v w', F.holds v w' → S w' → K ((A ρ).put o.dst v) w') → o.wp P (A ρ) w K (fun _ _ _ => False)) (h : WalkN P ops S S0 E mk fl Z (k + 1) rest (fun ρ => (A ρ).put (some d) (ρ d)) [(d, F)]) : WalkN P ops S S0 E mk fl Z k (o :: rest) A Fs :=
  ⟨.inr ⟨d, F, hd, hfl, fun ρ w hS hF hP => by
    unfold StepTo
    rw [if_pos (hw ρ), hmk]
    exact fun K hK => hc ρ w hS hF hP K fun v w' h1 h2 => hK v w' h1 h2 trivial, by rw [hmk]; exact h.out⟩⟩
end
end Go.Proofs.YtdhjfckckghicaaDoor


namespace Go.Proofs.YtdhjfckckghicaaDoor
set_option linter.unusedVariables false
set_option linter.unusedSimpArgs false
set_option maxRecDepth 100000
open Go.RowKit

def LabOK (p : St.P) : Prop := ∀ (w : World) (B n c : Nat) (A : Option Addr), B ≤ w.heap.size → PR B w A n p → n ≤ c → c ≤ maxLen → p.size ≤ 1152921504606846976 →
  Calls Tryd.prog 13 #[.slice A n c] w fun e w' => e = .returned (.int .i64 (St.labels p : Nat)) ∧ Below w.heap.size w w'

/-- a copy of a statement, in a block of its own -/
theorem st_copy {w0 w : World} (hb : Below w0.heap.size w0 w) (cs : List Value) (t : TypeId) : Blk (w.alloc (.cells cs.toArray t)) w.heap.size t cs ∧ Below w0.heap.size w0 (w.alloc (.cells cs.toArray t)) ∧ Below w.heap.size w (w.alloc (.cells cs.toArray t)) :=
  ⟨Blk.new w t cs, below_alloc hb _, below_alloc (Below.refl _ _) _⟩

theorem i64_add (a b : Nat) (h : a + b ≤ 9223372036854775807) : wrap64 ((a : Int) + (b : Int)) = ((a + b : Nat) : Int) := by
  unfold wrap64
  omega
theorem i64_addk (a b : Nat) (h : a + b ≤ 9223372036854775807) : IntKind.i64.wrap ((a : Int) + (b : Int)) = ((a + b : Nat) : Int) := by
  rw [show IntKind.i64.wrap ((a : Int) + (b : Int)) = wrap64 ((a : Int) + (b : Int)) by
    simp [IntKind.wrap, IntKind.signed, IntKind.bits, wrap64]
    split <;> omega]
  exact i64_add a b h
theorem lab_kinds (k : Int) : k = 2 ∨ k = 3 ∨ k = 4 ∨ k = 5 ∨ k = 6 ∨ k = 7 ∨ ((k == 2) = false ∧ (k == 3) = false ∧ (k == 4) = false ∧ (k == 5) = false ∧ (k == 6) = false ∧ (k == 7) = false) := by
  by_cases h2 : k = 2; · exact .inl h2
  by_cases h3 : k = 3; · exact .inr (.inl h3)
  by_cases h4 : k = 4; · exact .inr (.inr (.inl h4))
  by_cases h5 : k = 5; · exact .inr (.inr (.inr (.inl h5)))
  by_cases h6 : k = 6; · exact .inr (.inr (.inr (.inr (.inl h6))))
  by_cases h7 : k = 7; · exact .inr (.inr (.inr (.inr (.inr (.inl h7)))))
  exact .inr (.inr (.inr (.inr (.inr (.inr (by simp [h2, h3, h4, h5, h6, h7]))))))

set_option maxHeartbeats 4000000 in
theorem labels_step (p : St.P) (ih : ∀ q : St.P, q.size < p.size → LabOK q) : LabOK p := by
  intro w B n c A hB hp hnc hcm hsz
  obtain ⟨g, o, hA, hpl⟩ := hp.place
  have hn63 : n ≤ 9223372036854775807 := by unfold maxLen at hcm; omega
  go_enter Tryd.func13, Tryd.ntmps13
  go_wp2
  go_loopw [3, 8] (fun s i wr => ∃ (k acc : Nat) (q : St.P), k ≤ n ∧ i = .int .i64 (k : Int) ∧ s = .int .i64 (acc : Int) ∧ acc + St.labels q = St.labels p ∧ acc ≤ 1152921504606846976 ∧ q.size ≤ p.size ∧ PR B wr (some ⟨g, o + k * 12, none⟩) (n - k) q ∧ Below w.heap.size w wr) (fun s i _ => n - (intOf i).toNat)
  case atStart => exact ⟨0, 0, p, Nat.zero_le _, rfl, rfl, Nat.zero_add _, by omega, Nat.le_refl _, hpl, Below.refl _ _⟩
  case round =>
    obtain ⟨k, acc, q, hk, rfl, rfl, hacc, haccb, hqs, hq, hb⟩ := hrel
    have hLp := St.labels_le p
    by_cases hlt : k < n
    · obtain ⟨kd, nm, ak, an, bk, bn, sa, sb, aA, bA, al, ac, bl, bc, ea, eb, D, dl, dc, E, el, ec, body, els, rest, rfl, hg, ⟨hd1, hd2, he1, he2⟩, hcell, xa, xb, pb, pe, pr⟩ := hq.next (by omega)
      have hAA := hA (by omega)
      subst hAA
      have c0 : wr.cell? ⟨g, o + k * 12, none⟩ = some (.int .i64 kd) := hcell 0 _ rfl
      have c1 := hcell 1 _ rfl
      have c2 := hcell 2 _ rfl
      have c3 := hcell 3 _ rfl
      have c4 := hcell 4 _ rfl
      have c5 := hcell 5 _ rfl
      have c6 := hcell 6 _ rfl
      have c7 := hcell 7 _ rfl
      have c8 := hcell 8 _ rfl
      have c9 := hcell 9 _ rfl
      have c10 := hcell 10 _ rfl
      have c11 := hcell 11 _ rfl
      have hBr : B ≤ wr.heap.size := Nat.le_trans hB hb.size
      have hs : body.size < p.size ∧ els.size < p.size ∧ rest.size ≤ p.size := by rw [St.P.size] at hqs; omega
      rw [St.labels] at hacc
      obtain ⟨p0, hb0, hbr⟩ := st_copy hb (stcells kd nm (xcells ak an sa aA al ac) (xcells bk bn sb bA bl bc) D dl dc E el ec) 36
      have HH := Lib.hid (And.intro hqs (And.intro hacc (And.intro hs (And.intro hsz hLp))))
      clear hcell xa xb hq hqs hacc hs hpl hp hLp hsz
      unfold stcells xcells at p0 hb0 hbr
      rcases lab_kinds kd with rfl | rfl | rfl | rfl | rfl | rfl | ⟨k2, k3, k4, k5, k6, k7⟩
      · have HL := Lib.hid (show acc + 1 + St.labels rest = St.labels p by have := HH.out.2.1; rw [show St.lab1 2 (St.labels body) (St.labels els) = 1 from rfl] at this; omega)
        go_wp2
        go_roundw
        case rel => exact ⟨k + 1, acc + 1, rest, by omega, by go_num, by have := HH.out; have := HL.out; go_num, HL.out, by have := HH.out; have := HL.out; omega, by have := HH.out; omega, by rw [show n - (k + 1) = n - k - 1 by omega]; exact pr.later (hbr.mono hBr), hb0⟩
        case measure => simp [intOf]; omega
      · have HL := Lib.hid (show acc + 1 + St.labels rest = St.labels p by have := HH.out.2.1; rw [show St.lab1 3 (St.labels body) (St.labels els) = 1 from rfl] at this; omega)
        go_wp2
        go_roundw
        case rel => exact ⟨k + 1, acc + 1, rest, by omega, by go_num, by have := HH.out; have := HL.out; go_num, HL.out, by have := HH.out; have := HL.out; omega, by have := HH.out; omega, by rw [show n - (k + 1) = n - k - 1 by omega]; exact pr.later (hbr.mono hBr), hb0⟩
        case measure => simp [intOf]; omega
      · have HL := Lib.hid (show acc + St.labels body + St.labels rest = St.labels p by have := HH.out.2.1; rw [show St.lab1 4 (St.labels body) (St.labels els) = St.labels body from rfl] at this; omega)
        go_wp2_with fail
        refine (ih body HH.out.2.2.1.1 _ B dl dc D (Nat.le_trans hBr hbr.size) (pb.later (hbr.mono hBr)) hd1 hd2 (by have := HH.out; omega)).mono ?_
        rintro e w2 ⟨rfl, hb2⟩
        have hb3 := below_next hb2 hb0
        have hbr3 := below_next hb2 hbr
        go_wp2
        go_roundw
        case rel => exact ⟨k + 1, acc + St.labels body, rest, by omega, by go_num, congrArg (Value.int .i64) (i64_add _ _ (by have := HH.out; have := HL.out; omega)), HL.out, by have := HH.out; have := HL.out; omega, by have := HH.out; omega, by rw [show n - (k + 1) = n - k - 1 by omega]; exact pr.later (hbr3.mono hBr), hb3⟩
        case measure => simp [intOf]; omega
      · have HL := Lib.hid (show acc + St.labels body + St.labels rest = St.labels p by have := HH.out.2.1; rw [show St.lab1 5 (St.labels body) (St.labels els) = St.labels body from rfl] at this; omega)
        go_wp2_with fail
        refine (ih body HH.out.2.2.1.1 _ B dl dc D (Nat.le_trans hBr hbr.size) (pb.later (hbr.mono hBr)) hd1 hd2 (by have := HH.out; omega)).mono ?_
        rintro e w2 ⟨rfl, hb2⟩
        have hb3 := below_next hb2 hb0
        have hbr3 := below_next hb2 hbr
        go_wp2
        go_roundw
        case rel => exact ⟨k + 1, acc + St.labels body, rest, by omega, by go_num, congrArg (Value.int .i64) (i64_add _ _ (by have := HH.out; have := HL.out; omega)), HL.out, by have := HH.out; have := HL.out; omega, by have := HH.out; omega, by rw [show n - (k + 1) = n - k - 1 by omega]; exact pr.later (hbr3.mono hBr), hb3⟩
        case measure => simp [intOf]; omega
      · have HL := Lib.hid (show acc + (St.labels body + St.labels els) + St.labels rest = St.labels p by have := HH.out.2.1; rw [show St.lab1 6 (St.labels body) (St.labels els) = St.labels body + St.labels els from rfl] at this; omega)
        go_wp2_with fail
        have hIB := ih body HH.out.2.2.1.1
        have hIE := ih els HH.out.2.2.1.2.1
        have hbd : body.size ≤ 1152921504606846976 ∧ els.size ≤ 1152921504606846976 := by have := HH.out; omega
        obtain ⟨W, hW⟩ : ∃ W, W = wr.alloc (.cells #[.int .i64 6, .string nm, .int .i64 ak, .int .i64 an, .string sa, .slice aA al ac, .int .i64 bk, .int .i64 bn, .string sb, .slice bA bl bc, .slice D dl dc, .slice E el ec] 36) := ⟨_, rfl⟩
        have p0' : Blk W wr.heap.size 36 [.int .i64 6, .string nm, .int .i64 ak, .int .i64 an, .string sa, .slice aA al ac, .int .i64 bk, .int .i64 bn, .string sb, .slice bA bl bc, .slice D dl dc, .slice E el ec] := by rw [hW]; exact p0
        have hb0' : Below w.heap.size w W := by rw [hW]; exact hb0
        have hbr' : Below wr.heap.size wr W := by rw [hW]; exact hbr
        rw [← hW]
        clear p0 hb0 hbr hW
        have key : ∀ w', Below W.heap.size W w' → w'.cell? ⟨wr.heap.size, 10, none⟩ = some (.slice D dl dc) ∧ w'.cell? ⟨wr.heap.size, 11, none⟩ = some (.slice E el ec) ∧ PR B w' D dl body ∧ PR B w' E el els ∧ B ≤ w'.heap.size := fun w' h =>
          ⟨((p0'.below h).cell 10).trans rfl, ((p0'.below h).cell 11).trans rfl, (pb.later (hbr'.mono hBr)).later (h.mono (Nat.le_trans hBr hbr'.size)), (pe.later (hbr'.mono hBr)).later (h.mono (Nat.le_trans hBr hbr'.size)), Nat.le_trans (Nat.le_trans hBr hbr'.size) h.size⟩
        clear pb pe p0'
        refine wp_walk (by kernel_rfl) (by kernel_rfl) (fun _ _ => True) (fun w' => (Below W.heap.size W w' ∧ w'.cell? ⟨wr.heap.size, 10, none⟩ = some (.slice D dl dc) ∧ w'.cell? ⟨wr.heap.size, 11, none⟩ = some (.slice E el ec))) ⟨below_drew (Below.refl _ _), (key _ (below_drew (Below.refl _ _))).1, (key _ (below_drew (Below.refl _ _))).2.1⟩ ?_
        repeat (first | (refine settle_skip (fun _ => by rfl) ?_; (simp only [Act.put, List.setIfInBounds_toArray, List.set_cons_zero, List.set_cons_succ])) | (refine' settle_run (fun _ _ => trivial) (fun _ => by rfl) ?_ ?_; rotate_left; (focus (intro ρ w hS hF; (try dsimp only at hS); go_split_ands; go_simp; try with_reducible rfl)); (simp only [Act.put, List.setIfInBounds_toArray, List.set_cons_zero, List.set_cons_succ])))
        (refine' settle_step (fun _ => by rfl) ?_ ?_; rotate_left; (focus (intro ρ w hS hF K hK; (simp only [Act.put, List.setIfInBounds_toArray, List.set_cons_zero, List.set_cons_succ] at hK); go_simp; (have hk := key _ hS.1; go_at_call 13; refine (hIB _ B dl dc D hk.2.2.2.2 hk.2.2.1 hd1 hd2 hbd.1).mono ?_; rintro e w6 ⟨rfl, hb6⟩; have hS0 := below_next hb6 hS.1; have hS' := (And.intro hS0 (And.intro (key _ hS0).1 (key _ hS0).2.1)); have hE' := True.intro); exact hK _ hS' hE')); (simp only [Act.put, List.setIfInBounds_toArray, List.set_cons_zero, List.set_cons_succ]))
        repeat (first | (refine settle_skip (fun _ => by rfl) ?_; (simp only [Act.put, List.setIfInBounds_toArray, List.set_cons_zero, List.set_cons_succ])) | (refine' settle_run (fun _ _ => trivial) (fun _ => by rfl) ?_ ?_; rotate_left; (focus (intro ρ w hS hF; (try dsimp only at hS); go_split_ands; go_simp; try with_reducible rfl)); (simp only [Act.put, List.setIfInBounds_toArray, List.set_cons_zero, List.set_cons_succ])))
        (refine' settle_step (fun _ => by rfl) ?_ ?_; rotate_left; (focus (intro ρ w hS hF K hK; (simp only [Act.put, List.setIfInBounds_toArray, List.set_cons_zero, List.set_cons_succ] at hK); go_simp; (have hk := key _ hS.1; go_at_call 13; refine (hIE _ B el ec E hk.2.2.2.2 hk.2.2.2.1 he1 he2 hbd.2).mono ?_; rintro e w6 ⟨rfl, hb6⟩; have hS0 := below_next hb6 hS.1; have hS' := (And.intro hS0 (And.intro (key _ hS0).1 (key _ hS0).2.1)); have hE' := True.intro); exact hK _ hS' hE')); (simp only [Act.put, List.setIfInBounds_toArray, List.set_cons_zero, List.set_cons_succ]))
        repeat (first | (refine settle_skip (fun _ => by rfl) ?_; (simp only [Act.put, List.setIfInBounds_toArray, List.set_cons_zero, List.set_cons_succ])) | (refine' settle_run (fun _ _ => trivial) (fun _ => by rfl) ?_ ?_; rotate_left; (focus (intro ρ w hS hF; (try dsimp only at hS); go_split_ands; go_simp; try with_reducible rfl)); (simp only [Act.put, List.setIfInBounds_toArray, List.set_cons_zero, List.set_cons_succ])))
        refine settle_nil ?_
        intro ρ w4 hS _
        have hb3 := below_next hS.1 hb0'
        have hbr3 := below_next hS.1 hbr'
        clear key
        go_wp2
        go_roundw
        case rel => exact ⟨k + 1, acc + (St.labels body + St.labels els), rest, by omega, by go_num, by
          have h1 : St.labels body + St.labels els ≤ 9223372036854775807 := by have := HH.out; have := HL.out; omega
          have h2 : acc + (St.labels body + St.labels els) ≤ 9223372036854775807 := by have := HH.out; have := HL.out; omega
          rw [i64_addk _ _ h1, i64_addk _ _ h2], HL.out, by have := HH.out; have := HL.out; omega, by have := HH.out; omega, by rw [show n - (k + 1) = n - k - 1 by omega]; exact pr.later (hbr3.mono hBr), hb3⟩
        case measure => simp [intOf]; omega
      · have HL := Lib.hid (show acc + St.labels body + St.labels rest = St.labels p by have := HH.out.2.1; rw [show St.lab1 7 (St.labels body) (St.labels els) = St.labels body from rfl] at this; omega)
        go_wp2_with fail
        refine (ih body HH.out.2.2.1.1 _ B dl dc D (Nat.le_trans hBr hbr.size) (pb.later (hbr.mono hBr)) hd1 hd2 (by have := HH.out; omega)).mono ?_
        rintro e w2 ⟨rfl, hb2⟩
        have hb3 := below_next hb2 hb0
        have hbr3 := below_next hb2 hbr
        go_wp2
        go_roundw
        case rel => exact ⟨k + 1, acc + St.labels body, rest, by omega, by go_num, congrArg (Value.int .i64) (i64_add _ _ (by have := HH.out; have := HL.out; omega)), HL.out, by have := HH.out; have := HL.out; omega, by have := HH.out; omega, by rw [show n - (k + 1) = n - k - 1 by omega]; exact pr.later (hbr3.mono hBr), hb3⟩
        case measure => simp [intOf]; omega
      · have HL := Lib.hid (show acc + St.labels rest = St.labels p by have := HH.out.2.1; rw [show St.lab1 kd (St.labels body) (St.labels els) = 0 by simp at k2 k3 k4 k5 k6 k7; simp [St.lab1, k2, k3, k4, k5, k6, k7]] at this; omega)
        go_wp2
        go_roundw
        case rel => exact ⟨k + 1, acc, rest, by omega, by go_num, rfl, HL.out, by have := HH.out; have := HL.out; omega, by have := HH.out; omega, by rw [show n - (k + 1) = n - k - 1 by omega]; exact pr.later (hbr.mono hBr), hb0⟩
        case measure => simp [intOf]; omega
    · have hkn : k = n := by omega
      have h0 : St.labels q = 0 := by
        rw [hkn, Nat.sub_self] at hq
        rw [hq.zero]
        rfl
      have HH := Lib.hid (And.intro hkn (And.intro hacc h0))
      clear hacc h0 hkn
      go_wp2
      go_ret
      exact ⟨by have := HH.out; rw [show acc = St.labels p by omega]; rfl, hb⟩
theorem labels_any (p : St.P) : LabOK p := by
  suffices h : ∀ m (p : St.P), p.size ≤ m → LabOK p from h _ p (Nat.le_refl _)
  intro m
  induction m with
  | zero =>
    intro p hp
    exact labels_step p fun q hq => by omega
  | succ m ih => exact fun p hp => labels_step p fun q hq => ih q (by omega)
end Go.Proofs.YtdhjfckckghicaaDoor


namespace Go.Proofs.YtdhjfckckghicaaDoor
set_option linter.unusedVariables false
set_option linter.unusedSimpArgs false
set_option maxRecDepth 100000
open Go.RowKit

namespace Sr
open Ex St
/-- what is bound behind statements -/
def bda : P → List ByteArray → List ByteArray
  | .nil, bd => bd
  | .cons k nm _ _ _ _ rest, bd => if k = 1 ∨ k = 2 then bda rest (bd ++ [ba nm]) else bda rest bd
theorem bda_grow : ∀ (p : P) (bd : List ByteArray), ∃ more, bda p bd = bd ++ more ∧ more.length ≤ p.size
  | .nil, bd => ⟨[], by simp [bda], Nat.zero_le _⟩
  | .cons k nm a b body els rest, bd => by
    unfold bda P.size
    split
    · obtain ⟨m, h1, h2⟩ := bda_grow rest (bd ++ [ba nm])
      exact ⟨ba nm :: m, by rw [h1]; simp, by rw [List.length_cons]; omega⟩
    · obtain ⟨m, h1, h2⟩ := bda_grow rest bd
      exact ⟨m, h1, by omega⟩
theorem use_length (bd acc : List ByteArray) (e : X) : (use bd acc e).length ≤ acc.length + e.leaves := by
  have h1 := fold_length bd (names [] e) acc
  have h2 := names_length [] e
  unfold use
  simp only [List.length_nil] at h2
  omega
theorem fr_length : ∀ (p : P) (bd acc : List ByteArray), (fr p bd acc).length ≤ acc.length + p.size
  | .nil, _, _ => Nat.le_refl _
  | .cons k nm a b body els rest, bd, acc => by
    unfold fr P.size
    have ha := use_length bd acc a
    have hb := use_length bd (use bd acc a) b
    split
    · have := fr_length rest (bd ++ [ba nm]) (use bd acc a)
      omega
    split
    · have := fr_length rest bd (use bd (use bd acc a) b)
      omega
    split
    · have h1 := fr_length body bd acc
      have := fr_length rest bd (fr body bd acc)
      omega
    split
    · have h1 := fr_length body bd (use bd acc a)
      have h2 := fr_length els bd (fr body bd (use bd acc a))
      have := fr_length rest bd (fr els bd (fr body bd (use bd acc a)))
      omega
    split
    · have h1 := fr_length body (bd ++ [ba nm]) (use bd (use bd acc a) b)
      have := fr_length rest bd (fr body (bd ++ [ba nm]) (use bd (use bd acc a) b))
      omega
    · have := fr_length rest bd acc
      omega
end Sr

def StmtsOK (p : St.P) : Prop := ∀ (w : World) (B n c g : Nat) (A : Option Addr) (vb vf : Value) (bd fs : List ByteArray), PR B w A n p → n ≤ c → c ≤ maxLen → WkO B w g vb bd vf fs → bd.length + p.size ≤ 549755813888 → fs.length + p.size ≤ 549755813888 →
  Calls Tryd.prog 23 #[.pointer (some ⟨g, 0, none⟩), .slice A n c] w (WkEnd B w (WkT g vb bd vf fs) g (Sr.bda p bd) (Sr.fr p bd fs))

set_option maxHeartbeats 2000000 in
theorem within_any (p : St.P) (ih : StmtsOK p) (w : World) (B n c g : Nat) (A : Option Addr) (vb vf vm : Value) (bd fs ms : List ByteArray) (hp : PR B w A n p) (hnc : n ≤ c) (hc : c ≤ maxLen) (hO : WkO B w g vb bd vf fs)
    (hm : SlV w 1 vm ms.length (strs ms)) (hbd : bd.length + ms.length + p.size ≤ 549755813888) (hfs : fs.length + p.size ≤ 549755813888) :
    Calls Tryd.prog 35 #[.pointer (some ⟨g, 0, none⟩), .slice A n c, vm] w (WkEnd B w (WkT g vb bd vf fs) g bd (Sr.fr p (bd ++ ms) fs)) := by
  have rb : w.ownsRow B 9 1 vb bd.length (strs bd) := hO.row 0 rfl
  have b0 : w.cell? ⟨g, 0, none⟩ = some vb := (hO.blk.cell 0).trans rfl
  have hbase := hO.base
  obtain ⟨VB, cb, rfl, -, -⟩ := own_slice rb
  obtain ⟨VM, cm, rfl, -, -, hml, hmc⟩ := hm
  have n63 : bd.length + ms.length ≤ maxLen := by unfold maxLen; omega
  have n47 : (bd.length + ms.length) * 16 ≤ 140737488355328 := by omega
  have hmid : ∀ (w4 : World), w.grownBy w4 (Value.slice VB bd.length cb).ownBlock → Blk w4 g 53 [.slice VB bd.length cb, vf] := fun w4 g4 => hO.blk.grown g4 (fun e => hO.ng _ List.mem_cons_self e.symm)
  have hend : ∀ (w4 : World) (v' : Value) (w5 : World), w4.ownsRow B 9 1 v' (bd.length + ms.length) (strs bd ++ strs ms) → w.grownBy w4 (Value.slice VB bd.length cb).ownBlock → (v'.ownBlock = (Value.slice VB bd.length cb).ownBlock ∨ v'.ownBlock = some w.heap.size) → Blk w5 g 53 [v', vf] → w4.grownBy w5 (some g) →
      WkTo B w (WkT g (.slice VB bd.length cb) bd vf fs) w5 g v' (bd ++ ms) vf fs := fun w4 v' w5 o4 g4 e4 b5 g5 =>
    hO.put_to (i := 0) (r := strRw (.slice VB bd.length cb) bd) rfl (n' := (bd ++ ms).length) (xs' := strs (bd ++ ms)) (by simpa [strs, strRw] using o4) g4 (e4.imp id fun e => ⟨_, Nat.le_refl _, e⟩) b5 g5
  have hlater : ∀ w5, Keeps (WkT g (.slice VB bd.length cb) bd vf fs) w w5 → PR B w5 A n p := fun w5 k => hp.later (hO.below k)
  have HE := Lib.hid (And.intro hmid (And.intro hend hlater))
  clear hmid hend hlater hO hp
  go_enter Tryd.func35, Tryd.ntmps35
  go_wp2_with (first | (at_builtin; refine wp_append w _ _ B _ _ _ _ _ Tryd.underlying25 info_str rfl (by decide) rb hmc hml (strs_one ms) n63 n47 hbase rfl rfl rfl rfl ?_; intro v' w4 hown4 hg4 hv4 _; have hB4 := HE.out.1 w4 hg4; obtain ⟨V', c', rfl, _, _⟩ := own_slice hown4) | (refine wpl_set_blk hB4 0 _ (by kernel_rfl) (by simp) rfl rfl rfl rfl rfl rfl ?_; intro w5 hB5 hg5) | fail)
  have hT5 := HE.out.2.1 w4 _ w5 hown4 hg4 hv4 hB5 hg5
  have hp5 := HE.out.2.2 w5 hT5.kp
  refine (ih w5 B n c g A _ _ (bd ++ ms) fs hp5 hnc hc hT5.own (by rw [List.length_append]; omega) hfs).mono ?_
  rintro r w6 ⟨rfl, vb6, vf6, hT6⟩
  have hT := hT5.step hT6
  obtain ⟨more, hmo, -⟩ := Sr.bda_grow p (bd ++ ms)
  have r6 : w6.ownsRow B 9 1 vb6 (Sr.bda p (bd ++ ms)).length (strs (Sr.bda p (bd ++ ms))) := hT.own.row 0 rfl
  have d0 : w6.cell? ⟨g, 0, none⟩ = some vb6 := (hT.own.blk.cell 0).trans rfl
  have hle : bd.length ≤ (Sr.bda p (bd ++ ms)).length := by rw [hmo]; simp
  obtain ⟨V6, c6, rfl, hc6, hm6⟩ := own_slice r6
  unfold maxLen at hm6
  have r7 := own_prefix r6 hle
  have e7 : (strs (Sr.bda p (bd ++ ms))).take (bd.length * 1) = strs bd := by rw [hmo]; simp [strs]
  rw [e7] at r7
  have hB6 := hT.own.blk
  have HF := Lib.hid (And.intro hT r7)
  obtain ⟨K6, hK6⟩ : ∃ K6, K6 = (Sr.bda p (bd ++ ms)).length := ⟨_, rfl⟩
  rw [← hK6] at hle hB6 hc6 d0
  have HK := Lib.hid hK6
  clear hT hT5 hT6 r6 r7 e7 hown4 hg4 hv4 hB4 hB5 hg5 hp5 rb b0 HE hmo hK6 hmc hml
  go_wp2_with (first | (refine wpl_set_blk hB6 0 _ (by kernel_rfl) (by simp) rfl rfl rfl rfl rfl rfl ?_; intro w7 hB7 hg7) | fail)
  go_end0
  refine ⟨rfl, .slice V6 bd.length c6, vf6, ?_⟩
  have := HF.out.1.own.put_to (i := 0) (r := strRw (.slice V6 (Sr.bda p (bd ++ ms)).length c6) (Sr.bda p (bd ++ ms))) rfl (v' := .slice V6 bd.length c6) (n' := bd.length) (xs' := strs bd) HF.out.2 (World.grownBy.refl w6 _) (.inl (by cases V6 <;> rfl)) hB7 hg7
  exact HF.out.1.step this
end Go.Proofs.YtdhjfckckghicaaDoor


namespace Go.Proofs.YtdhjfckckghicaaDoor
set_option linter.unusedVariables false
set_option linter.unusedSimpArgs false
set_option maxRecDepth 100000
open Go

section
variable {P : Program} {ops : Array Oper} {Q : Exit → Act → World → Prop} {S : World → Prop} {I : Nat → Env → World → Prop} {L : List Tmp} {E : World → World → Prop} {mk fl : Nat → Bool}

def markPB (ops : Array Oper) (n : Nat) (mk fl : Nat → Bool) (ms : List Nat) : Bool :=
  ms.all fun m => (decide (m < n) && (!fl m && match ops[m]? with | some o => o.guard.isNone | none => true)) && (List.range n).all fun i => i == m || (fl i || if i < m then reachB ops 6 m i else reachB ops 6 i m)
structure MarkedP (ops : Array Oper) (mk fl : Nat → Bool) (n : Nat) : Prop where
  lt : ∀ m, mk m = true → m < n
  fix : ∀ m, mk m = true → fl m = false
  gd : ∀ m o, mk m = true → ops[m]? = some o → o.guard = none
  before : ∀ m i, mk m = true → i < m → fl i = false → reachB ops 6 m i = true
  after : ∀ m i, mk m = true → m < i → i < n → fl i = false → reachB ops 6 i m = true
theorem markedP_of {n : Nat} {ms : List Nat} (hms : ∀ m, mk m = true → m ∈ ms) (h : markPB ops n mk fl ms = true) : MarkedP ops mk fl n := by
  have key := List.all_eq_true.1 h
  have k1 : ∀ m, mk m = true → m < n ∧ fl m = false ∧ (match ops[m]? with | some o => o.guard.isNone | none => true) = true := fun m hm => by
    have := key m (hms m hm)
    rw [Bool.and_eq_true, Bool.and_eq_true, Bool.and_eq_true, decide_eq_true_eq] at this
    exact ⟨this.1.1, by simpa using this.1.2.1, this.1.2.2⟩
  have k2 : ∀ m, mk m = true → (List.range n).all (fun i => i == m || (fl i || if i < m then reachB ops 6 m i else reachB ops 6 i m)) = true := fun m hm => by
    have := key m (hms m hm)
    rw [Bool.and_eq_true] at this
    exact this.2
  refine ⟨fun m hm => (k1 m hm).1, fun m hm => (k1 m hm).2.1, fun m o hm ho => ?_, fun m i hm hi hf => ?_, fun m i hm hi hlt hf => ?_⟩
  · have := (k1 m hm).2.2
    rw [ho] at this
    simpa using this
  · have h2 := List.all_eq_true.1 (k2 m hm) i (List.mem_range.2 (by have := (k1 m hm).1; omega))
    have hne : (i == m) = false := by simp; omega
    rw [hne, Bool.false_or, hf, Bool.false_or, if_pos hi] at h2
    exact h2
  · have h2 := List.all_eq_true.1 (k2 m hm) i (List.mem_range.2 hlt)
    have hne : (i == m) = false := by simp; omega
    rw [hne, Bool.false_or, hf, Bool.false_or, if_neg (by omega)] at h2
    exact h2

/-- the marks ahead of it -/
def cntM (mk : Nat → Bool) : Nat → Nat
  | 0 => 0
  | k + 1 => cntM mk k + cond (mk k) 1 0
theorem cntM_mono {a b : Nat} (h : a ≤ b) : cntM mk a ≤ cntM mk b := by
  induction b with
  | zero => rw [Nat.le_zero.1 h]; exact Nat.le_refl _
  | succ b ih =>
    rcases Nat.lt_or_ge a (b + 1) with h' | h'
    · exact Nat.le_trans (ih (by omega)) (Nat.le_add_right _ _)
    · rw [show a = b + 1 by omega]; exact Nat.le_refl _
theorem cntM_lt {a b : Nat} (h : a < b) (hm : mk a = true) : cntM mk a < cntM mk b := by
  have h1 : cntM mk (a + 1) = cntM mk a + 1 := by rw [cntM, hm]; rfl
  have h2 := cntM_mono (mk := mk) (show a + 1 ≤ b by omega)
  omega
/-- the next one -/
theorem cntM_next {a b : Nat} (h : cntM mk a < cntM mk b) : ∃ m, a ≤ m ∧ m < b ∧ mk m = true ∧ cntM mk m = cntM mk a := by
  induction b with
  | zero => exact absurd h (by simp [cntM])
  | succ b ih =>
    by_cases h' : cntM mk a < cntM mk b
    · obtain ⟨m, h1, h2, h3, h4⟩ := ih h'
      exact ⟨m, h1, by omega, h3, h4⟩
    · have hab : a ≤ b := by
        rcases Nat.lt_or_ge b a with h2 | h2
        · have := cntM_mono (mk := mk) (show b + 1 ≤ a by omega)
          omega
        · exact h2
      have := cntM_mono (mk := mk) hab
      rw [cntM] at h
      rcases hb : mk b with _ | _
      · rw [hb] at h; simp at h; omega
      · exact ⟨b, hab, by omega, hb, by omega⟩
/-- what is known in the phase -/
def PreP (mk fl : Nat → Bool) (I : Nat → Env → World → Prop) (k : Nat) (ρ : Env) (w : World) : Prop := fl k = false → I (cntM mk k) ρ w
/-- what a step gives -/
def EsP (mk : Nat → Bool) (E : World → World → Prop) (I : Nat → Env → World → Prop) (k : Nat) (ρ : Env) : World → World → Prop := cond (mk k) (fun _ w' => I (cntM mk k + 1) ρ w') E
def SettleP (P : Program) (ops : Array Oper) (S : World → Prop) (I : Nat → Env → World → Prop) (E : World → World → Prop) (mk fl : Nat → Bool) (Z : (Env → Act) → List (Tmp × Fact E) → Prop) : Nat → List Oper → (Env → Act) → List (Tmp × Fact E) → Prop
  | _, [], A, Fs => Z A Fs
  | k, o :: rest, A, Fs =>
    (∃ v, (∀ ρ w, S w → FactsOK (o.looksAt ops) ρ w (cond (fl k) [] Fs) → PreP mk fl I k ρ w → StepTo P ops S (EsP mk E I k ρ) o (A ρ) w (fun u _ => u = v)) ∧ SettleP P ops S I E mk fl Z (k + 1) rest (fun ρ => (A ρ).put o.dst v) (cond (mk k) [] Fs)) ∨
    (∃ d F, o.dst = some d ∧ fl k = false ∧ (∀ ρ w, S w → FactsOK (o.looksAt ops) ρ w (cond (fl k) [] Fs) → PreP mk fl I k ρ w → StepTo P ops S (EsP mk E I k ρ) o (A ρ) w F.holds) ∧ SettleP P ops S I E mk fl Z (k + 1) rest (fun ρ => (A ρ).put (some d) (ρ d)) ((d, F) :: cond (mk k) [] Fs))

structure PlanP (P : Program) (ops : Array Oper) (S : World → Prop) (I : Nat → Env → World → Prop) (mk fl : Nat → Bool) (a : Act) (l : List (Oper × Kind E)) : Prop where
  dst : ∀ p ∈ l, (∃ F, p.2 = .fresh F) → ∃ d, p.1.dst = some d
  flt : ∀ (j : Nat) p, l[j]? = some p → (∃ F, p.2 = .fresh F) → fl j = false
  step : ∀ pre p post, l = pre ++ p :: post → ∀ ρ w, S w → FactsOK (p.1.looksAt ops) ρ w (cond (fl pre.length) [] (factsM mk 0 pre [])) → PreP mk fl I pre.length ρ w → StepTo P ops S (EsP mk E I pre.length ρ) p.1 (actOf a ρ pre) w p.2.rel

theorem planP_snoc {a : Act} {l : List (Oper × Kind E)} (h : PlanP P ops S I mk fl a l) {p : Oper × Kind E} (h1 : (∃ F, p.2 = .fresh F) → ∃ d, p.1.dst = some d) (h3 : (∃ F, p.2 = .fresh F) → fl l.length = false)
    (h2 : ∀ ρ w, S w → FactsOK (p.1.looksAt ops) ρ w (cond (fl l.length) [] (factsM mk 0 l [])) → PreP mk fl I l.length ρ w → StepTo P ops S (EsP mk E I l.length ρ) p.1 (actOf a ρ l) w p.2.rel) : PlanP P ops S I mk fl a (l ++ [p]) := by
  refine ⟨fun q hq hf => ?_, fun j q hq hf => ?_, fun pre q post he => ?_⟩
  · rcases List.mem_append.1 hq with hq | hq
    · exact h.dst q hq hf
    · rw [List.mem_singleton.1 hq] at hf ⊢
      exact h1 hf
  · rcases Nat.lt_or_ge j l.length with hj | hj
    · rw [List.getElem?_append_left hj] at hq
      exact h.flt j q hq hf
    · rw [List.getElem?_append_right hj] at hq
      have hj' := (List.getElem?_eq_some_iff.1 hq).1
      simp only [List.length_singleton] at hj'
      have e : j = l.length := by omega
      subst e
      simp only [Nat.sub_self, List.getElem?_cons_zero, Option.some.injEq] at hq
      subst hq
      exact h3 hf
  · rcases List.eq_nil_or_concat post with rfl | ⟨post', q', rfl⟩
    · have := List.append_inj' he rfl
      obtain ⟨e1, e2⟩ := this
      injection e2 with e2
      subst e1 e2
      exact h2
    · have e : pre ++ q :: (post' ++ [q']) = (pre ++ q :: post') ++ [q'] := by simp
      rw [List.concat_eq_append, e] at he
      exact h.step pre q post' (List.append_inj' he rfl).1

theorem settleP_plan {Z : (Env → Act) → List (Tmp × Fact E) → Prop} {a : Act} : ∀ (l : List Oper) (pre : List (Oper × Kind E)), PlanP P ops S I mk fl a pre → SettleP P ops S I E mk fl Z pre.length l (fun ρ => actOf a ρ pre) (factsM mk 0 pre []) →
    ∃ full : List (Oper × Kind E), PlanP P ops S I mk fl a full ∧ full.map (·.1) = pre.map (·.1) ++ l ∧ Z (fun ρ => actOf a ρ full) (factsM mk 0 full []) := by
  intro l
  induction l with
  | nil => exact fun pre hp h => ⟨pre, hp, by simp, h⟩
  | cons o rest ih =>
    intro pre hp h
    rcases h with ⟨v, h1, h2⟩ | ⟨d, F, hd, h3, h1, h2⟩
    · obtain ⟨full, q1, q2, q3⟩ := ih (pre ++ [(o, .fixed v)]) (planP_snoc (p := (o, .fixed v)) hp (fun ⟨F, h⟩ => by cases h) (fun ⟨F, h⟩ => by cases h) h1) (by
        have e1 : (fun ρ => actOf a ρ (pre ++ [(o, (Kind.fixed v : Kind E))])) = fun ρ => (actOf a ρ pre).put o.dst v := by
          funext ρ; simp [actOf, Kind.val]
        have e2 : factsM mk 0 (pre ++ [(o, (Kind.fixed v : Kind E))]) [] = cond (mk pre.length) [] (factsM mk 0 pre []) := by rw [factsM_snoc, Nat.zero_add]; rfl
        rw [e1, e2, List.length_append]
        exact h2)
      exact ⟨full, q1, by rw [q2]; simp, q3⟩
    · obtain ⟨full, q1, q2, q3⟩ := ih (pre ++ [(o, .fresh F)]) (planP_snoc (p := (o, .fresh F)) hp (fun _ => ⟨d, hd⟩) (fun _ => h3) h1) (by
        have e1 : (fun ρ => actOf a ρ (pre ++ [(o, (Kind.fresh F : Kind E))])) = fun ρ => (actOf a ρ pre).put (some d) (ρ d) := by
          funext ρ; simp [actOf, Kind.val, hd]
        have e2 : factsM mk 0 (pre ++ [(o, (Kind.fresh F : Kind E))]) [] = (d, F) :: cond (mk pre.length) [] (factsM mk 0 pre []) := by rw [factsM_snoc, Nat.zero_add]; simp [addFact, hd]
        rw [e1, e2, List.length_append]
        exact h2)
      exact ⟨full, q1, by rw [q2]; simp, q3⟩

/-- the temporaries that a phase may speak of: made ahead of all marks -/
def labB (ops : Array Oper) (n : Nat) (ms : List Nat) (L : List Tmp) : Bool :=
  L.all fun t => (List.range n).any fun j => (match ops[j]? with | some o => o.dst == some t | none => false) && ms.all fun m => j != m && reachB ops 6 m j
theorem labB_spec {n : Nat} {ms : List Nat} (hms : ∀ m, mk m = true → m ∈ ms) (h : labB ops n ms L = true) : ∀ t ∈ L, ∃ j o, j < n ∧ ops[j]? = some o ∧ o.dst = some t ∧ ∀ m, mk m = true → j ≠ m ∧ reachB ops 6 m j = true := fun t ht => by
  have := List.all_eq_true.1 h t ht
  obtain ⟨j, hj, hb⟩ := List.any_eq_true.1 this
  rw [Bool.and_eq_true] at hb
  rcases ho : ops[j]? with _ | o
  · rw [ho] at hb; simp at hb
  · rw [ho] at hb
    refine ⟨j, o, List.mem_range.1 hj, ho, by simpa using hb.1, fun m hm => ?_⟩
    have := List.all_eq_true.1 hb.2 m (hms m hm)
    rw [Bool.and_eq_true] at this
    exact ⟨by simpa using this.1, this.2⟩

theorem any_order_ph {a0 : Act} {full : List (Oper × Kind E)} {n : Nat} (hn : n < ops.size) (hops : full.map (·.1) = ops.toList.take n) (hlin : LinearN ops n) (hsk : Region.sinkB .any ops n = true) (hch : Region.chainB .any ops n = true)
    (hsq : ∀ listed : Array Bool, listed.size = ops.size → (∀ i, i < n → listed.getD i false = true) → (∀ i, n ≤ i → listed.getD i false = false) → Region.seqB .any ops (ops.size - n) n listed = true) (hmk : MarkedP ops mk fl n) (hp : PlanP P ops S I mk fl a0 full) (hIE : ∀ c ρ w w', I c ρ w → E w w' → I c ρ w') (hI0 : ∀ ρ ρ' w, I 0 ρ w → I 0 ρ' w) (hIρ : ∀ c ρ ρ' w, (∀ t ∈ L, ρ t = ρ' t) → I c ρ w → I c ρ' w)
    (hL : ∀ t ∈ L, ∃ j o, j < n ∧ ops[j]? = some o ∧ o.dst = some t ∧ ∀ m, mk m = true → j ≠ m ∧ reachB ops 6 m j = true)
    (hZ : ∀ ρ w, S w → I (cntM mk n) ρ w → (∀ t F, (t, F) ∈ factsM mk 0 full [] → F.holds (ρ t) w) → wpList P ops Q (ops.toList.drop n) (actOf a0 ρ full) w) :
    ∀ (fuel : Nat) (listed : Array Bool) (a : Act) (w : World) (ρ : Env), HeadInv .any ops n listed →
      (∃ todo : List Nat, todo.length ≤ fuel ∧ ∀ i, i < n → listed.getD i false = false → i ∈ todo) →
      Holds a0 full (fun i => listed.getD i false = true) ρ a → S w → (∀ c, c ≤ cntM mk n → (∀ m, mk m = true → (listed.getD m false = true ↔ cntM mk m < c)) → I c ρ w) → (∀ (i : Nat) (p : Oper × Kind E) (F : Fact E) (d : Tmp), listed.getD i false = true → (∀ m, mk m = true → i < m → listed.getD m false = false) → full[i]? = some p → p.2 = .fresh F → p.1.dst = some d → F.holds (ρ d) w) →
      wpAny P .any ops Q (fuel + (ops.size - n)) listed a w := by
  have hget : ∀ (i : Nat) (p : Oper × Kind E), full[i]? = some p → ops[i]? = some p.1 := fun i p h => by
    have : (full.map (·.1))[i]? = some p.1 := by simp [h]
    rw [hops, List.getElem?_take] at this
    split at this
    · simpa using this
    · cases this
  have hlen : full.length = n := by
    have := congrArg List.length hops
    simp only [List.length_map, List.length_take, Array.length_toList] at this
    omega
  have hget' : ∀ (i : Nat) (o : Oper), i < n → ops[i]? = some o → ∃ p : Oper × Kind E, full[i]? = some p ∧ p.1 = o := fun i o hin h => by
    have hi : i < full.length := by rw [hlen]; exact hin
    have h1 := hget i _ (List.getElem?_eq_getElem hi)
    rw [h] at h1
    injection h1 with h1
    exact ⟨_, List.getElem?_eq_getElem hi, h1.symm⟩
  have hdist : ∀ (i j : Nat) (p q : Oper × Kind E) (d : Tmp), i < j → full[i]? = some p → full[j]? = some q → p.1.dst = some d → q.1.dst ≠ some d := fun i j p q d hij h1 h2 => hlin.dist i j _ _ d hij (by have := (List.getElem?_eq_some_iff.1 h2).1; omega) (hget i p h1) (hget j q h2)
  have hdist2 : ∀ (i j : Nat) (p q : Oper × Kind E) (d : Tmp), i ≠ j → full[i]? = some p → full[j]? = some q → p.1.dst = some d → q.1.dst ≠ some d := fun i j p q d hij h1 h2 hd hd' => by
    rcases Nat.lt_or_gt_of_ne hij with h | h
    · exact hdist i j p q d h h1 h2 hd hd'
    · exact hdist j i q p d h h2 h1 hd' hd
  -- all have come up
  have fin : ∀ (fuel : Nat) (listed : Array Bool) (a : Act) (w : World) (ρ : Env), HeadInv .any ops n listed → (∀ i, i < n → listed.getD i false = true) → Holds a0 full (fun i => listed.getD i false = true) ρ a → S w → I (cntM mk n) ρ w →
      (∀ (i : Nat) (p : Oper × Kind E) (F : Fact E) (d : Tmp), listed.getD i false = true → (∀ m, mk m = true → i < m → listed.getD m false = false) → full[i]? = some p → p.2 = .fresh F → p.1.dst = some d → F.holds (ρ d) w) → wpAny P .any ops Q (fuel + (ops.size - n)) listed a w := fun fuel listed a w ρ inv hall hH hS hIn hF => by
    have h1 : Holds a0 full (fun i => i < full.length) ρ (actOf a0 ρ full) := by
      have := holds_prefix a0 full ρ hdist full.length (Nat.le_refl _)
      rwa [List.take_length] at this
    have h2 : Holds a0 full (fun i => i < full.length) ρ a :=
      ⟨hH.defers, hH.size, fun t ht => hH.far t fun i p hi hp => ht i p (List.getElem?_eq_some_iff.1 hp).1 hp, fun i p t hi => hH.near i p t (hall i (by omega))⟩
    rw [h2.unique h1]
    have hz := hZ ρ w hS hIn fun t F hm => by
      rcases mem_factsM hm with ⟨h, -⟩ | ⟨i, p, h1, h2, h3, h4⟩
      · cases h
      · exact hF i p F t (hall i (by have := (List.getElem?_eq_some_iff.1 h1).1; omega)) (fun m hm him => absurd (hmk.lt m hm) (fun h => h4 m hm (by omega) (by omega))) h1 h2 h3
    have hdl : (ops.toList.drop n).length = ops.size - n := by simp
    have hs := hsq listed inv.size hall (fun i hi => by
      rcases Nat.lt_or_ge i ops.size with h | h
      · exact getD_both (inv.tail i hi h)
      · simp [Array.getD, inv.size, Nat.not_lt.2 h])
    have := wpAny_seq_more fuel (ops.toList.drop n) n listed (actOf a0 ρ full) w (fun j => by simp [List.getElem?_drop]) (by rw [hdl]; exact hs) hz
    rwa [hdl, Nat.add_comm] at this
  have none_left : ∀ listed : Array Bool, HeadInv .any ops n listed → Region.ready .any ops listed = [] → ∀ m i, i < m → i < n → listed.getD i false = true := by
    intro listed inv hr m
    induction m with
    | zero => intro i h; omega
    | succ m ih =>
      intro i hi hin
      cases hli : listed.getD i false with
      | true => rfl
      | false =>
        have hlt : i < ops.size := by omega
        have ho : ops[i]? = some ops[i] := Array.getElem?_eq_getElem hlt
        have hmem : i ∈ Region.ready .any ops listed := by
          rw [mem_ready]
          refine ⟨?_, _, ho, fun e he hb => ?_⟩
          · simp only [Array.getD, inv.size, hlt, dif_pos] at hli ⊢
            exact hli
          · have := hlin.back i _ hin ho e he hb
            exact ih e.on (by omega) (by omega)
        rw [hr] at hmem
        cases hmem
  have some_left : ∀ listed : Array Bool, (∀ i, i < n → listed.getD i false = true) ∨ ∃ i, i < n ∧ listed.getD i false = false := fun listed => by
    by_cases h : ∃ i, i < n ∧ listed.getD i false = false
    · exact .inr h
    · exact .inl fun i hi => by
        cases hl : listed.getD i false with
        | true => rfl
        | false => exact (h ⟨i, hi, hl⟩).elim
  intro fuel
  induction fuel with
  | zero =>
    intro listed a w ρ inv ⟨todo, htodo, hin⟩ hH hS hS0 hF
    have hall : ∀ i, i < n → listed.getD i false = true := fun i hi => by
      cases hli : listed.getD i false with
      | true => rfl
      | false =>
        have := hin i hi hli
        rw [List.eq_nil_of_length_eq_zero (Nat.le_zero.1 htodo)] at this
        cases this
    exact fin 0 listed a w ρ inv hall hH hS (hS0 _ (Nat.le_refl _) fun m hm => ⟨fun _ => cntM_lt (hmk.lt m hm) hm, fun _ => hall m (hmk.lt m hm)⟩) hF
  | succ fuel ih =>
    intro listed a w ρ inv ⟨todo, htodo, hin⟩ hH hS hS0 hF
    rcases some_left listed with hall | ⟨i0, hi0, hl0⟩
    · exact fin (fuel + 1) listed a w ρ inv hall hH hS (hS0 _ (Nat.le_refl _) fun m hm => ⟨fun _ => cntM_lt (hmk.lt m hm) hm, fun _ => hall m (hmk.lt m hm)⟩) hF
    have hsz := inv.size
    rw [show fuel + 1 + (ops.size - n) = (fuel + (ops.size - n)) + 1 by omega]
    refine ⟨fun hr => ?_, fun i hi => ?_⟩
    · have := none_left listed inv hr (i0 + 1) i0 (by omega) hi0
      rw [hl0] at this
      cases this
    have hilt : i < n := by
      rcases Nat.lt_or_ge i n with h | h
      · exact h
      · exact absurd hi (tail_waits hsk hch hn inv _ i0 rfl hi0 (getD_in (by omega) hl0) i h)
    obtain ⟨h0, o, ho, hall⟩ := mem_ready.1 hi
    have hlt := (Array.getElem?_eq_some_iff.1 ho).1
    have h0' : listed.getD i false = false := by
      simp only [Array.getD, hsz, hlt, dif_pos] at h0 ⊢
      exact h0
    obtain ⟨p, hpi, rfl⟩ := hget' i o hilt ho
    have hil : i < full.length := by omega
    have hpre : Holds a0 full (fun j => j < i) ρ (actOf a0 ρ (full.take i)) := holds_prefix a0 full ρ hdist i (by omega)
    have hsplit : full = full.take i ++ p :: full.drop (i + 1) := by
      have : full[i] = p := by have := List.getElem?_eq_getElem hil; rw [hpi] at this; injection this with this; exact this.symm
      rw [← this, List.getElem_cons_drop, List.take_append_drop]
    have hstep := hp.step _ p _ hsplit ρ w hS
    have conf : ∀ (j : Nat) (q : Oper × Kind E), full[j]? = some q → ∀ t, q.1.dst = some t → t ∈ p.1.looksAt ops → (listed.getD j false = true ↔ j < i) := by
      intro j q hq t hd hl
      have hoj := hget j q hq
      have hjn : j < n := by have := (List.getElem?_eq_some_iff.1 hq).1; omega
      rcases Nat.lt_trichotomy j i with h | h | h
      · refine ⟨fun _ => h, fun _ => ?_⟩
        rcases hlin.wait j i _ _ h hilt hoj ho with hap | ⟨e, he, hb, hon⟩
        · exact absurd hl ((Oper.apart_spec hap).1 t hd)
        · rw [← hon]; exact hall e he hb
      · subst h
        rw [hpi] at hq
        injection hq with hq
        subst hq
        exact absurd hl (hlin.self j _ t hilt ho hd)
      · refine ⟨fun hj => ?_, fun h' => by omega⟩
        exfalso
        rcases hlin.wait i j _ _ h hjn ho hoj with hap | ⟨e, he, hb, hon⟩
        · exact absurd hl ((Oper.apart_spec hap).2.2 t hd)
        · have := inv.closed j _ hoj hj e he hb
          rw [hon, h0'] at this
          cases this
    have hdown' : ∀ j o, listed.getD j false = true → ops[j]? = some o → ∀ e ∈ o.after, Region.binds .any e = true → listed.getD e.on false = true := fun j o hj ho e he hb => inv.closed j o ho hj e he hb
    have later : ∀ m, mk m = true → i < m → fl i = false → listed.getD m false = false := fun m hm him hfl => by
      cases hlm : listed.getD m false with
      | false => rfl
      | true =>
        have := reach_closed hdown' 6 m i (hmk.before m i hm him hfl) hlm
        rw [h0'] at this
        cases this
    have hfacts : FactsOK (p.1.looksAt ops) ρ w (cond (fl i) [] (factsM mk 0 (full.take i) [])) := factsOK_of _ fun t F hm hl => by
      rcases hfl : fl i with _ | _
      case true => rw [hfl] at hm; cases hm
      rw [hfl] at hm
      rcases mem_factsM hm with ⟨h, -⟩ | ⟨j, q, h1, h2, h3, h4⟩
      · cases h
      · have hji : j < i := by
          have := (List.getElem?_eq_some_iff.1 h1).1
          rw [List.length_take] at this
          omega
        have hq : full[j]? = some q := by
          rw [List.getElem?_take, if_pos hji] at h1
          exact h1
        refine hF j q F t ((conf j q hq t h3 (by simpa using hl)).2 hji) (fun m hm hjm => ?_) hq h2 h3
        rcases Nat.lt_trichotomy i m with h | h | h
        · exact later m hm h hfl
        · rw [← h]; exact h0'
        · exact absurd (h4 m hm (by omega) (by rw [List.length_take]; omega)) id
    have hli' : (full.take i).length = i := by rw [List.length_take]; omega
    have earlier : ∀ m, mk m = true → m < i → fl i = false → listed.getD m false = true := fun m hm him hfl => by
      have hr := hmk.after m i hm him hilt hfl
      unfold reachB at hr
      rw [Bool.or_eq_true] at hr
      rcases hr with hr | hr
      · have : i = m := by simpa using hr
        omega
      · rw [ho] at hr
        obtain ⟨k, hk, hb⟩ := Array.any_eq_true.1 hr
        rw [Bool.and_eq_true] at hb
        exact reach_closed hdown' 5 _ _ hb.2 (hall _ (Array.getElem_mem hk) hb.1)
    have hst := hstep (by rw [hli']; exact hfacts) (by
      rw [hli']
      intro hfl
      refine hS0 _ (cntM_mono (by omega)) fun m hm => ?_
      rcases Nat.lt_trichotomy i m with h | h | h
      · rw [later m hm h hfl]
        have := cntM_mono (mk := mk) (show i ≤ m by omega)
        simp; omega
      · rw [← h, h0']
        simp
      · rw [earlier m hm h hfl]
        simp [cntM_lt h hm])
    have hag : ∀ t, t ∈ p.1.looksAt ops → a.tmps[t]? = (actOf a0 ρ (full.take i)).tmps[t]? := fun t ht =>
      hH.agree hpre t fun j q hq hd => conf j q hq t hd ht
    have hexec : execOp a.eval p.1 = execOp (actOf a0 ρ (full.take i)).eval p.1 := execOp_congr p.1 (fun cs b => hlin.sel i _ cs b ho) fun x hx => by
      cases x with
      | tmp t =>
        have := hag t (List.mem_append_left _ (List.mem_filterMap.2 ⟨.tmp t, by simpa using hx, rfl⟩))
        simp only [Act.eval, Array.getD_eq_getD_getElem?]
        rw [this]
      | _ => rfl
    have hwant : Region.wanted p.1 (yielded ops a.tmps) = Region.wanted p.1 (yielded ops (actOf a0 ρ (full.take i)).tmps) := by
      unfold Region.wanted
      cases hg : p.1.guard with
      | none => rfl
      | some gw =>
        obtain ⟨g, want⟩ := gw
        have : yielded ops a.tmps g = yielded ops (actOf a0 ρ (full.take i)).tmps g := by
          unfold yielded
          cases ht : (ops[g]?).bind (·.dst) with
          | none => rfl
          | some t =>
            have := hag t (List.mem_append_right _ (by simp [hg, ht]))
            simp only [Option.bind_some, this]
        simp only [this]
    have size_eq : (actOf a0 ρ (full.take i)).tmps.size = a.tmps.size := hpre.size.trans hH.size.symm
    -- the way on
    have go : ∀ v w', p.2.rel v w' → S w' → (∀ c, c ≤ cntM mk n → (∀ m, mk m = true → ((listed.setIfInBounds i true).getD m false = true ↔ cntM mk m < c)) → I c ρ w') → (∀ (j : Nat) (q : Oper × Kind E) (F : Fact E) (d : Tmp), listed.getD j false = true → (∀ m, mk m = true → j < m → (listed.setIfInBounds i true).getD m false = false) → full[j]? = some q → q.2 = .fresh F → q.1.dst = some d → F.holds (ρ d) w') →
        wpAny P .any ops Q (fuel + (ops.size - n)) (listed.setIfInBounds i true) (a.put p.1.dst v) w' := by
      intro v w' hR hS' hS0' hF'
      have next : ∀ ρ' : Env, p.2.val ρ' p.1 = v → (∀ j q, j ≠ i → full[j]? = some q → q.2.val ρ' q.1 = q.2.val ρ q.1) → (∀ j q F d, j ≠ i → full[j]? = some q → q.2 = .fresh F → q.1.dst = some d → ρ' d = ρ d) → (∀ F d, p.2 = .fresh F → p.1.dst = some d → F.holds (ρ' d) w') → (∀ t, (∀ F, p.2 = .fresh F → p.1.dst ≠ some t) → ρ' t = ρ t) →
          wpAny P .any ops Q (fuel + (ops.size - n)) (listed.setIfInBounds i true) (a.put p.1.dst v) w' := by
        intro ρ' hv hothers hd' hself hρ
        have hset : ∀ j, (listed.setIfInBounds i true).getD j false = true ↔ j = i ∨ listed.getD j false = true := fun j => by
          by_cases hji : j = i
          · subst hji
            simp [Array.getD, hsz, hlt]
          · rw [getD_set_ne false (Ne.symm hji)]
            simp [hji]
        refine ih _ _ _ ρ' (inv.set hi hilt) ⟨todo.filter (· != i), ?_, fun j hj hjl => ?_⟩ ?_ hS' (fun c hc hcm => ?_) (fun j q F d hj hjm hq hf hd => ?_)
        · have : (todo.filter (· != i)).length < todo.length := by
            rw [List.length_filter_lt_length_iff_exists]
            exact ⟨i, hin i hilt h0', by simp⟩
          omega
        · have hne : j ≠ i := fun e => by
            have := (hset j).2 (.inl e)
            rw [this] at hjl
            cases hjl
          refine List.mem_filter.2 ⟨hin j hj ?_, by simpa using hne⟩
          rwa [getD_set_ne false (Ne.symm hne)] at hjl
        · have := hH.put (ρ' := ρ') hpi hset (fun j q hj hq d hd => hdist2 j i q p d (fun e => by rw [e, h0'] at hj; cases hj) hq hpi hd) (fun j q hj hq => hothers j q (fun e => by rw [e, h0'] at hj; cases hj) hq)
          rwa [hv] at this
        · have hold := hS0' c hc hcm
          rcases c with _ | c
          · exact hI0 ρ ρ' w' hold
          · refine hIρ _ ρ ρ' w' (fun t ht => ?_) hold
            obtain ⟨j0, o0, hj0, ho0, hd0, hbm⟩ := hL t ht
            refine (hρ t fun F hF hd => ?_).symm
            have hji : j0 = i := by
              rcases Nat.lt_trichotomy j0 i with h | h | h
              · exact absurd hd (hlin.dist j0 i o0 p.1 t h hilt ho0 ho hd0)
              · exact h
              · exact absurd hd0 (hlin.dist i j0 p.1 o0 t h hj0 ho ho0 hd)
            obtain ⟨m0, -, hm0, hmk0, hc0⟩ := cntM_next (mk := mk) (a := 0) (b := n) (by simp [cntM]; omega)
            have hml := (hcm m0 hmk0).2 (by rw [hc0]; simp [cntM])
            obtain ⟨hne, hre⟩ := hbm m0 hmk0
            have hml' : listed.getD m0 false = true := ((hset m0).1 hml).resolve_left (fun e => hne (by omega))
            have := reach_closed hdown' 6 m0 j0 hre hml'
            rw [hji, h0'] at this
            cases this
        · rcases (hset j).1 hj with rfl | hj
          · rw [hpi] at hq
            injection hq with hq
            subst hq
            exact hself F d hf hd
          · have hne : j ≠ i := fun e => by rw [e, h0'] at hj; cases hj
            rw [hd' j q F d hne hq hf hd]
            exact hF' j q F d hj hjm hq hf hd
      cases hk : p.2 with
      | fixed v0 =>
        have hv : v = v0 := by rw [hk] at hR; exact hR
        exact next ρ (by rw [hk]; exact hv.symm) (fun _ _ _ _ => rfl) (fun _ _ _ _ _ _ _ _ => rfl) (fun F d hf => by rw [hk] at hf; cases hf) (fun _ _ => rfl)
      | fresh F =>
        obtain ⟨d, hd⟩ := hp.dst p (by rw [hsplit]; simp) ⟨F, hk⟩
        have hR' : F.holds v w' := by rw [hk] at hR; exact hR
        have hne : ∀ j q d', j ≠ i → full[j]? = some q → q.1.dst = some d' → d' ≠ d := fun j q d' hji hq hd' e => hdist2 j i q p d' hji hq hpi hd' (by rw [hd, e])
        refine next (fun t => if t = d then v else ρ t) (by rw [hk]; simp [Kind.val, hd]) (fun j q hji hq => ?_) (fun j q F' d' hji hq _ hd' => if_neg (hne j q d' hji hq hd')) (fun F' d' hf hd' => ?_) (fun t ht => if_neg (fun e => ht F hk (by rw [hd, e])))
        · cases hkq : q.2 with
          | fixed v0 => rfl
          | fresh F' =>
            obtain ⟨d', hd'⟩ := hp.dst q (List.mem_of_getElem? hq) ⟨F', hkq⟩
            simp only [Kind.val, hd']
            exact if_neg (hne j q d' hji hq hd')
        · rw [hk] at hf
          injection hf with hf
          rw [hd] at hd'
          injection hd' with hd'
          subst hf hd'
          simpa using hR'
    have hset' : ∀ j, (listed.setIfInBounds i true).getD j false = false → listed.getD j false = false := fun j hj => by
      by_cases hji : j = i
      · rw [hji]; exact h0'
      · rwa [getD_set_ne false (Ne.symm hji)] at hj
    have hlen_i : (full.take i).length = i := by rw [List.length_take]; omega
    have hseti : (listed.setIfInBounds i true).getD i false = true := by simp [Array.getD, hsz, hlt]
    rw [hlen_i] at hst
    unfold wpOp
    simp only [ho]
    unfold StepTo at hst
    rw [← hwant] at hst
    split
    · rename_i hw
      rw [if_pos hw] at hst
      refine .inl (wp_carry (R := fun v w' => p.2.rel v w' ∧ S w' ∧ (EsP mk E I i ρ) w w') hexec size_eq (hst _ fun v w' h1 h2 h3 => ⟨v, rfl, h1, h2, h3⟩) fun v w' ⟨h1, h2, h3⟩ => go v w' h1 h2 (fun c hc hcm => ?_) fun j q F d hj hjm hq hf hd => ?_)
      · rcases hmi : mk i with _ | _
        · unfold EsP at h3
          rw [hmi] at h3
          refine hIE _ _ _ _ (hS0 c hc fun m hm => ?_) h3
          rw [← hcm m hm, getD_set_ne false (fun e => by rw [← e, hmi] at hm; cases hm)]
        · unfold EsP at h3
          rw [hmi] at h3
          have hci := (hcm i hmi).1 hseti
          have hceq : c = cntM mk i + 1 := by
            apply Classical.byContradiction
            intro hne
            have h1i : cntM mk (i + 1) = cntM mk i + 1 := by rw [cntM, hmi]; rfl
            obtain ⟨m', hm1, hm2, hm3, hm4⟩ := cntM_next (mk := mk) (a := i + 1) (b := n) (by omega)
            have hl := (hcm m' hm3).2 (by omega)
            rw [getD_set_ne false (by omega), later m' hm3 (by omega) (hmk.fix i hmi)] at hl
            cases hl
          rw [hceq]
          exact h3
      rcases hmi : mk i with _ | _
      · unfold EsP at h3
        rw [hmi] at h3
        exact F.keep _ _ _ (hF j q F d hj (fun m hm h => hset' m (hjm m hm h)) hq hf hd) h3
      · exfalso
        rcases Nat.lt_trichotomy j i with h | h | h
        · have := hjm i hmi h
          rw [hseti] at this
          cases this
        · rw [h, h0'] at hj; cases hj
        · have := reach_closed hdown' 6 j i (hmk.after i j hmi h (by have := (List.getElem?_eq_some_iff.1 hq).1; omega) (hp.flt j q hq ⟨F, hf⟩)) hj
          rw [h0'] at this
          cases this
    · rename_i hw
      rw [if_neg hw] at hst
      have hni : mk i = false := by
        rcases hmi : mk i with _ | _
        · rfl
        · exact absurd (by simp [Region.wanted, hmk.gd i _ hmi ho]) hw
      exact go undef w hst hS (fun c hc hcm => hS0 c hc fun m hm => by rw [← hcm m hm, getD_set_ne false (fun e => by rw [← e, hni] at hm; cases hm)]) fun j q F d hj hjm hq hf hd => hF j q F d hj (fun m hm h => hset' m (hjm m hm h)) hq hf hd

/-- the same, that nothing looks into -/
structure WalkP (P : Program) (ops : Array Oper) (S : World → Prop) (I : Nat → Env → World → Prop) (E : World → World → Prop) (mk fl : Nat → Bool) (Z : (Env → Act) → List (Tmp × Fact E) → Prop) (k : Nat) (l : List Oper) (A : Env → Act) (Fs : List (Tmp × Fact E)) : Prop where
  out : SettleP P ops S I E mk fl Z k l A Fs

/-- THE RULE, with marks and a tail of n operations ahead of it -/
theorem wp_walk_ph {id : Nat} {a : Act} {w : World} {l : List Oper} (n : Nat) (mk fl : Nat → Bool) (ms : List Nat) (hms : ∀ m, mk m = true → m ∈ ms) (hm : P.follows .mixedOrders = true) (hB : tailB l.toArray n = true) (hmk : markPB l.toArray n mk fl ms = true) (L : List Tmp) (hLB : labB l.toArray n ms L = true) (E : World → World → Prop) (S : World → Prop) (I : Nat → Env → World → Prop) (hS : S w.drew) (hS0 : ∀ ρ, I 0 ρ w.drew) (hIE : ∀ c ρ w w', I c ρ w → E w w' → I c ρ w') (hI0 : ∀ ρ ρ' w, I 0 ρ w → I 0 ρ' w) (hIρ : ∀ c ρ ρ' w, (∀ t ∈ L, ρ t = ρ' t) → I c ρ w → I c ρ' w)
    (h : WalkP P l.toArray S I E mk fl (fun A Fs => ∀ ρ w', S w' → I (cntM mk n) ρ w' → (∀ t F, (t, F) ∈ Fs → F.holds (ρ t) w') → wpList P l.toArray Q (l.drop n) (A ρ) w') 0 (l.take n) (fun _ => a) []) : (Code.region id l.toArray true).wp P Q a w := by
  simp only [tailB, Bool.and_eq_true, decide_eq_true_eq] at hB
  obtain ⟨⟨⟨⟨hn, hlin⟩, hs⟩, hc⟩, hq⟩ := hB
  obtain ⟨full, hp, he, hZ⟩ := settleP_plan (l.take n) [] ⟨(fun _ h => by cases h), (fun j p h => by simp at h), (fun pre p post he => by simp at he)⟩ h.out
  have inv0 : HeadInv .any l.toArray n (Array.replicate l.toArray.size false) :=
    ⟨by simp, fun j oj _ hl => (by rw [getD_replicate_false] at hl; cases hl), fun t _ ht => getD_in (by simpa using ht) (getD_replicate_false _ _)⟩
  have := any_order_ph (P := P) (Q := Q) hn (by simpa using he) (linearN_of hlin) hs hc (fun listed hsz h1 h2 => by
    have hn' := hn
    rw [show listed = (Array.replicate n true) ++ (Array.replicate (l.toArray.size - n) false) from getD_ext (by simp only [Array.size_append, Array.size_replicate]; omega) fun i => by
      rw [Array.getD_eq_getD_getElem? (xs := _ ++ _), Array.getElem?_append]
      rcases Nat.lt_or_ge i n with h | h
      · rw [h1 i h]
        simp [h]
      · rw [h2 i h]
        simp only [Array.size_replicate, Nat.not_lt.2 h, if_false, Array.getElem?_replicate]
        split <;> rfl]
    exact hq) (markedP_of hms hmk) hp hIE hI0 hIρ (labB_spec hms hLB) hZ n _ a w.drew (fun _ => undef) inv0 ⟨List.range n, by simp, fun i hi _ => List.mem_range.2 hi⟩ ⟨rfl, rfl, fun _ _ => rfl, fun i p t hi => ?_⟩ hS (fun c hc hcm => ?_) fun i p F d hi => ?_
  · refine wp_region_any hm ?_
    rwa [show n + (l.toArray.size - n) = l.toArray.size by omega] at this
  · exfalso; rw [getD_replicate_false] at hi; cases hi
  · rcases c with _ | c
    · exact hS0 _
    · obtain ⟨m0, -, hm0, hmk0, hc0⟩ := cntM_next (mk := mk) (a := 0) (b := n) (by simp [cntM]; omega)
      have := (hcm m0 hmk0).2 (by rw [hc0]; simp [cntM])
      rw [getD_replicate_false] at this
      cases this
  · exfalso; rw [getD_replicate_false] at hi; cases hi
variable {Z : (Env → Act) → List (Tmp × Fact E) → Prop} {o : Oper} {rest : List Oper} {A : Env → Act} {Fs : List (Tmp × Fact E)} {k : Nat}
theorem psettle_nil (h : Z A Fs) : WalkP P ops S I E mk fl Z k [] A Fs := ⟨h⟩
theorem psettle_skip (hmk : mk k = false) (hw : ∀ ρ, Region.wanted o (yielded ops (A ρ).tmps) = false) (h : WalkP P ops S I E mk fl Z (k + 1) rest (fun ρ => (A ρ).put o.dst undef) Fs) : WalkP P ops S I E mk fl Z k (o :: rest) A Fs :=
  ⟨.inl ⟨undef, fun ρ w _ _ _ => by unfold StepTo; rw [if_neg (by rw [hw]; simp)], by rw [hmk]; exact h.out⟩⟩
theorem psettle_run {v : Value} (hmk : mk k = false) (hE : ∀ w, S w → E w w) (hw : ∀ ρ, Region.wanted o (yielded ops (A ρ).tmps) = true)
    (hr : ∀ ρ w, S w → FactsOK (o.looksAt ops) ρ w (cond (fl k) [] Fs) → PreP mk fl I k ρ w → (execOp (A ρ).eval o).run P w = .ok (.value v) w) (h : WalkP P ops S I E mk fl Z (k + 1) rest (fun ρ => (A ρ).put o.dst v) Fs) : WalkP P ops S I E mk fl Z k (o :: rest) A Fs :=
  ⟨.inl ⟨v, fun ρ w hS hF hP => by
    unfold StepTo
    rw [if_pos (hw ρ)]
    unfold EsP
    rw [hmk]
    intro K hK
    unfold Oper.wp
    rw [hr ρ w hS hF hP]
    exact hK v w rfl hS (hE w hS), by rw [hmk]; exact h.out⟩⟩
theorem psettle_step {v : Value} (hmk : mk k = false) (hw : ∀ ρ, Region.wanted o (yielded ops (A ρ).tmps) = true)
    (hc : ∀ ρ w, S w → FactsOK (o.looksAt ops) ρ w (cond (fl k) [] Fs) → PreP mk fl I k ρ w → ∀ K : Act → World → Prop, (∀ w', S w' → E w w' → K ((A ρ).put o.dst v) w') → o.wp P (A ρ) w K (fun _ _ _ => False)) (h : WalkP P ops S I E mk fl Z (k + 1) rest (fun ρ => (A ρ).put o.dst v) Fs) : WalkP P ops S I E mk fl Z k (o :: rest) A Fs :=
  ⟨.inl ⟨v, fun ρ w hS hF hP => by
    unfold StepTo
    rw [if_pos (hw ρ)]
    unfold EsP
    rw [hmk]
    exact fun K hK => hc ρ w hS hF hP K fun w' h1 h2 => hK v w' rfl h1 h2, by rw [hmk]; exact h.out⟩⟩
theorem psettle_known {d : Tmp} (F : Fact E) (hmk : mk k = false) (hfl : fl k = false) (hd : o.dst = some d) (hw : ∀ ρ, Region.wanted o (yielded ops (A ρ).tmps) = true)
    (hc : ∀ ρ w, S w → FactsOK (o.looksAt ops) ρ w (cond (fl k) [] Fs) → PreP mk fl I k ρ w → ∀ K : Act → World → Prop, (∀ v w', F.holds v w' → S w' → E w w' → K ((A ρ).put o.dst v) w') → o.wp P (A ρ) w K (fun _ _ _ => False)) (h : WalkP P ops S I E mk fl Z (k + 1) rest (fun ρ => (A ρ).put (some d) (ρ d)) ((d, F) :: Fs)) : WalkP P ops S I E mk fl Z k (o :: rest) A Fs :=
  ⟨.inr ⟨d, F, hd, hfl, fun ρ w hS hF hP => by
    unfold StepTo
    rw [if_pos (hw ρ)]
    unfold EsP
    rw [hmk]
    exact fun K hK => hc ρ w hS hF hP K hK, by rw [hmk]; exact h.out⟩⟩
/-- a mark: what was known is forgotten -/
theorem psettle_mark {d : Tmp} (F : Fact E) (hmk : mk k = true) (hfl : fl k = false) (hd : o.dst = some d) (hw : ∀ ρ, Region.wanted o (yielded ops (A ρ).tmps) = true)
    (hc : ∀ ρ w, S w → FactsOK (o.looksAt ops) ρ w (cond (fl k) [] Fs) → PreP mk fl I k ρ w → ∀ K : Act → World → Prop, (∀ v w', F.holds v w' → S w' → I (cntM mk k + 1) ρ w' → K ((A ρ).put o.dst v) w') → o.wp P (A ρ) w K (fun _ _ _ => False)) (h : WalkP P ops S I E mk fl Z (k + 1) rest (fun ρ => (A ρ).put (some d) (ρ d)) [(d, F)]) : WalkP P ops S I E mk fl Z k (o :: rest) A Fs :=
  ⟨.inr ⟨d, F, hd, hfl, fun ρ w hS hF hP => by
    unfold StepTo
    rw [if_pos (hw ρ)]
    unfold EsP
    rw [hmk]
    exact fun K hK => hc ρ w hS hF hP K fun v w' h1 h2 h3 => hK v w' h1 h2 h3, by rw [hmk]; exact h.out⟩⟩
/-- a mark whose value is known, or that has none -/
theorem psettle_turn {v : Value} (hmk : mk k = true) (hw : ∀ ρ, Region.wanted o (yielded ops (A ρ).tmps) = true)
    (hc : ∀ ρ w, S w → FactsOK (o.looksAt ops) ρ w (cond (fl k) [] Fs) → PreP mk fl I k ρ w → ∀ K : Act → World → Prop, (∀ w', S w' → I (cntM mk k + 1) ρ w' → K ((A ρ).put o.dst v) w') → o.wp P (A ρ) w K (fun _ _ _ => False)) (h : WalkP P ops S I E mk fl Z (k + 1) rest (fun ρ => (A ρ).put o.dst v) []) : WalkP P ops S I E mk fl Z k (o :: rest) A Fs :=
  ⟨.inl ⟨v, fun ρ w hS hF hP => by
    unfold StepTo
    rw [if_pos (hw ρ)]
    unfold EsP
    rw [hmk]
    exact fun K hK => hc ρ w hS hF hP K fun w' h1 h2 => hK v w' rfl h1 h2, by rw [hmk]; exact h.out⟩⟩
end
end Go.Proofs.YtdhjfckckghicaaDoor


namespace Go.Proofs.YtdhjfckckghicaaDoor
set_option linter.unusedVariables false
set_option linter.unusedSimpArgs false
set_option maxRecDepth 100000
open Go

section
variable {P : Program} {ops : Array Oper} {Q : Exit → Act → World → Prop} {S : World → Prop} {I : Nat → Env → World → Prop} {L : List Tmp} {E Ef : World → World → Prop} {mk fl : Nat → Bool} {t1 t2 : Tmp} {R2 : Value → Value → Prop}

/-- t2 is made behind t1, among the first n -/
def pairB (ops : Array Oper) (n : Nat) (t1 t2 : Tmp) : Bool := t1 != t2 && (List.range n).all fun j => match ops[j]? with
  | some o => !(o.dst == some t2) || (List.range n).any fun i => (match ops[i]? with | some o' => o'.dst == some t1 | none => false) && (j != i && reachB ops 6 j i)
  | none => true
theorem pairB_spec {n : Nat} (h : pairB ops n t1 t2 = true) {j : Nat} {o : Oper} (hj : j < n) (ho : ops[j]? = some o) (hd : o.dst = some t2) : ∃ i o', i < n ∧ ops[i]? = some o' ∧ o'.dst = some t1 ∧ j ≠ i ∧ reachB ops 6 j i = true := by
  unfold pairB at h
  rw [Bool.and_eq_true] at h
  have h1 := List.all_eq_true.1 h.2 j (List.mem_range.2 hj)
  rw [ho] at h1
  simp only [hd, beq_self_eq_true, Bool.not_true, Bool.false_or] at h1
  obtain ⟨i, hi, hb⟩ := List.any_eq_true.1 h1
  rw [Bool.and_eq_true, Bool.and_eq_true] at hb
  rcases ho' : ops[i]? with _ | o'
  · rw [ho'] at hb; simp at hb
  · rw [ho'] at hb
    exact ⟨i, o', List.mem_range.1 hi, ho', by simpa using hb.1, by simpa using hb.2.1, hb.2.2⟩
theorem pairB_ne {n : Nat} (h : pairB ops n t1 t2 = true) : t1 ≠ t2 := by
  unfold pairB at h
  rw [Bool.and_eq_true] at h
  simpa using h.1
/-- what a step gives -/
def EsQ (mk : Nat → Bool) (E Ef : World → World → Prop) (I : Nat → Env → World → Prop) (k : Nat) (ρ : Env) : World → World → Prop := cond (mk k) (fun w w' => I (cntM mk k + 1) ρ w' ∧ Ef w w') E
/-- where it looks; and t2's at t1, too -/
def looksQ (ops : Array Oper) (t1 t2 : Tmp) (o : Oper) : List Tmp := if o.dst == some t2 then t1 :: o.looksAt ops else o.looksAt ops
def SettleQ (P : Program) (ops : Array Oper) (S : World → Prop) (I : Nat → Env → World → Prop) (E Ef : World → World → Prop) (mk fl : Nat → Bool) (t1 t2 : Tmp) (R2 : Value → Value → Prop) (Z : (Env → Act) → List (Tmp × Fact Ef) → Prop) : Nat → List Oper → (Env → Act) → List (Tmp × Fact Ef) → Prop
  | _, [], A, Fs => Z A Fs
  | k, o :: rest, A, Fs =>
    (∃ v, o.dst ≠ some t2 ∧ (∀ ρ w, S w → FactsOK (looksQ ops t1 t2 o) ρ w Fs → PreP mk fl I k ρ w → StepTo P ops S (EsQ mk E Ef I k ρ) o (A ρ) w (fun u _ => u = v ∧ (o.dst = some t2 → R2 (ρ t1) u))) ∧ SettleQ P ops S I E Ef mk fl t1 t2 R2 Z (k + 1) rest (fun ρ => (A ρ).put o.dst v) Fs) ∨
    (∃ d F, o.dst = some d ∧ (∀ ρ w, S w → FactsOK (looksQ ops t1 t2 o) ρ w Fs → PreP mk fl I k ρ w → StepTo P ops S (EsQ mk E Ef I k ρ) o (A ρ) w (fun u w' => F.holds u w' ∧ (o.dst = some t2 → R2 (ρ t1) u))) ∧ SettleQ P ops S I E Ef mk fl t1 t2 R2 Z (k + 1) rest (fun ρ => (A ρ).put (some d) (ρ d)) ((d, F) :: Fs))

structure PlanQ (P : Program) (ops : Array Oper) (S : World → Prop) (I : Nat → Env → World → Prop) (E : World → World → Prop) (mk fl : Nat → Bool) (t1 t2 : Tmp) (R2 : Value → Value → Prop) (a : Act) (l : List (Oper × Kind Ef)) : Prop where
  dst : ∀ p ∈ l, (∃ F, p.2 = .fresh F) → ∃ d, p.1.dst = some d
  prf : ∀ p ∈ l, p.1.dst = some t2 → ∃ F, p.2 = .fresh F
  step : ∀ pre p post, l = pre ++ p :: post → ∀ ρ w, S w → FactsOK (looksQ ops t1 t2 p.1) ρ w (factsOf pre) → PreP mk fl I pre.length ρ w → StepTo P ops S (EsQ mk E Ef I pre.length ρ) p.1 (actOf a ρ pre) w (fun v w' => p.2.rel v w' ∧ (p.1.dst = some t2 → R2 (ρ t1) v))

theorem planQ_snoc {a : Act} {l : List (Oper × Kind Ef)} (h : PlanQ P ops S I E mk fl t1 t2 R2 a l) {p : Oper × Kind Ef} (h1 : (∃ F, p.2 = .fresh F) → ∃ d, p.1.dst = some d) (h5 : p.1.dst = some t2 → ∃ F, p.2 = .fresh F)
    (h2 : ∀ ρ w, S w → FactsOK (looksQ ops t1 t2 p.1) ρ w (factsOf l) → PreP mk fl I l.length ρ w → StepTo P ops S (EsQ mk E Ef I l.length ρ) p.1 (actOf a ρ l) w (fun v w' => p.2.rel v w' ∧ (p.1.dst = some t2 → R2 (ρ t1) v))) : PlanQ P ops S I E mk fl t1 t2 R2 a (l ++ [p]) := by
  refine ⟨fun q hq hf => ?_, fun q hq hf => ?_, fun pre q post he => ?_⟩
  · rcases List.mem_append.1 hq with hq | hq
    · exact h.dst q hq hf
    · rw [List.mem_singleton.1 hq] at hf ⊢
      exact h1 hf
  · rcases List.mem_append.1 hq with hq | hq
    · exact h.prf q hq hf
    · rw [List.mem_singleton.1 hq] at hf ⊢
      exact h5 hf
  · rcases List.eq_nil_or_concat post with rfl | ⟨post', q', rfl⟩
    · have := List.append_inj' he rfl
      obtain ⟨e1, e2⟩ := this
      injection e2 with e2
      subst e1 e2
      exact h2
    · have e : pre ++ q :: (post' ++ [q']) = (pre ++ q :: post') ++ [q'] := by simp
      rw [List.concat_eq_append, e] at he
      exact h.step pre q post' (List.append_inj' he rfl).1

theorem settleQ_plan {Z : (Env → Act) → List (Tmp × Fact Ef) → Prop} {a : Act} : ∀ (l : List Oper) (pre : List (Oper × Kind Ef)), PlanQ P ops S I E mk fl t1 t2 R2 a pre → SettleQ P ops S I E Ef mk fl t1 t2 R2 Z pre.length l (fun ρ => actOf a ρ pre) (factsOf pre) →
    ∃ full : List (Oper × Kind Ef), PlanQ P ops S I E mk fl t1 t2 R2 a full ∧ full.map (·.1) = pre.map (·.1) ++ l ∧ Z (fun ρ => actOf a ρ full) (factsOf full) := by
  intro l
  induction l with
  | nil => exact fun pre hp h => ⟨pre, hp, by simp, h⟩
  | cons o rest ih =>
    intro pre hp h
    rcases h with ⟨v, hne, h1, h2⟩ | ⟨d, F, hd, h1, h2⟩
    · obtain ⟨full, q1, q2, q3⟩ := ih (pre ++ [(o, .fixed v)]) (planQ_snoc (p := (o, .fixed v)) hp (fun ⟨F, h⟩ => by cases h) (fun h => absurd h hne) h1) (by
        have e1 : (fun ρ => actOf a ρ (pre ++ [(o, (Kind.fixed v : Kind Ef))])) = fun ρ => (actOf a ρ pre).put o.dst v := by
          funext ρ; simp [actOf, Kind.val]
        have e2 : factsOf (pre ++ [(o, (Kind.fixed v : Kind Ef))]) = factsOf pre := by simp [factsOf, addFact]
        rw [e1, e2, List.length_append]
        exact h2)
      exact ⟨full, q1, by rw [q2]; simp, q3⟩
    · obtain ⟨full, q1, q2, q3⟩ := ih (pre ++ [(o, .fresh F)]) (planQ_snoc (p := (o, .fresh F)) hp (fun _ => ⟨d, hd⟩) (fun _ => ⟨F, rfl⟩) h1) (by
        have e1 : (fun ρ => actOf a ρ (pre ++ [(o, (Kind.fresh F : Kind Ef))])) = fun ρ => (actOf a ρ pre).put (some d) (ρ d) := by
          funext ρ; simp [actOf, Kind.val, hd]
        have e2 : factsOf (pre ++ [(o, (Kind.fresh F : Kind Ef))]) = (d, F) :: factsOf pre := by simp [factsOf, addFact, hd]
        rw [e1, e2, List.length_append]
        exact h2)
      exact ⟨full, q1, by rw [q2]; simp, q3⟩

theorem any_order_pr {a0 : Act} {full : List (Oper × Kind Ef)} {n : Nat} (hn : n < ops.size) (hops : full.map (·.1) = ops.toList.take n) (hlin : LinearN ops n) (hsk : Region.sinkB .any ops n = true) (hch : Region.chainB .any ops n = true)
    (hsq : ∀ listed : Array Bool, listed.size = ops.size → (∀ i, i < n → listed.getD i false = true) → (∀ i, n ≤ i → listed.getD i false = false) → Region.seqB .any ops (ops.size - n) n listed = true) (hmk : MarkedP ops mk fl n) (hp : PlanQ P ops S I E mk fl t1 t2 R2 a0 full) (hEf : ∀ w w', E w w' → Ef w w') (hIE : ∀ c ρ w w', I c ρ w → E w w' → I c ρ w') (hI0 : ∀ ρ ρ' w, I 0 ρ w → I 0 ρ' w) (hIρ : ∀ c ρ ρ' w, (∀ t ∈ L, ρ t = ρ' t) → I c ρ w → I c ρ' w)
    (hpr : pairB ops n t1 t2 = true) (hfr : ∀ (j : Nat) (p : Oper × Kind Ef), full[j]? = some p → p.1.dst = some t2 → ∃ F, p.2 = .fresh F)
    (hL : ∀ t ∈ L, ∃ j o, j < n ∧ ops[j]? = some o ∧ o.dst = some t ∧ ∀ m, mk m = true → j ≠ m ∧ reachB ops 6 m j = true)
    (hZ : ∀ ρ w, S w → I (cntM mk n) ρ w → (∀ t F, (t, F) ∈ factsOf full → F.holds (ρ t) w) → ((∃ (j : Nat) (p : Oper × Kind Ef), full[j]? = some p ∧ p.1.dst = some t2) → R2 (ρ t1) (ρ t2)) → wpList P ops Q (ops.toList.drop n) (actOf a0 ρ full) w) :
    ∀ (fuel : Nat) (listed : Array Bool) (a : Act) (w : World) (ρ : Env), HeadInv .any ops n listed →
      (∃ todo : List Nat, todo.length ≤ fuel ∧ ∀ i, i < n → listed.getD i false = false → i ∈ todo) →
      Holds a0 full (fun i => listed.getD i false = true) ρ a → S w → (∀ c, c ≤ cntM mk n → (∀ m, mk m = true → (listed.getD m false = true ↔ cntM mk m < c)) → I c ρ w) → (∀ (i : Nat) (p : Oper × Kind Ef) (F : Fact Ef) (d : Tmp), listed.getD i false = true → full[i]? = some p → p.2 = .fresh F → p.1.dst = some d → F.holds (ρ d) w) → (∀ (j : Nat) (p : Oper × Kind Ef), listed.getD j false = true → full[j]? = some p → p.1.dst = some t2 → R2 (ρ t1) (ρ t2)) →
      wpAny P .any ops Q (fuel + (ops.size - n)) listed a w := by
  have hget : ∀ (i : Nat) (p : Oper × Kind Ef), full[i]? = some p → ops[i]? = some p.1 := fun i p h => by
    have : (full.map (·.1))[i]? = some p.1 := by simp [h]
    rw [hops, List.getElem?_take] at this
    split at this
    · simpa using this
    · cases this
  have hlen : full.length = n := by
    have := congrArg List.length hops
    simp only [List.length_map, List.length_take, Array.length_toList] at this
    omega
  have hget' : ∀ (i : Nat) (o : Oper), i < n → ops[i]? = some o → ∃ p : Oper × Kind Ef, full[i]? = some p ∧ p.1 = o := fun i o hin h => by
    have hi : i < full.length := by rw [hlen]; exact hin
    have h1 := hget i _ (List.getElem?_eq_getElem hi)
    rw [h] at h1
    injection h1 with h1
    exact ⟨_, List.getElem?_eq_getElem hi, h1.symm⟩
  have hdist : ∀ (i j : Nat) (p q : Oper × Kind Ef) (d : Tmp), i < j → full[i]? = some p → full[j]? = some q → p.1.dst = some d → q.1.dst ≠ some d := fun i j p q d hij h1 h2 => hlin.dist i j _ _ d hij (by have := (List.getElem?_eq_some_iff.1 h2).1; omega) (hget i p h1) (hget j q h2)
  have hdist2 : ∀ (i j : Nat) (p q : Oper × Kind Ef) (d : Tmp), i ≠ j → full[i]? = some p → full[j]? = some q → p.1.dst = some d → q.1.dst ≠ some d := fun i j p q d hij h1 h2 hd hd' => by
    rcases Nat.lt_or_gt_of_ne hij with h | h
    · exact hdist i j p q d h h1 h2 hd hd'
    · exact hdist j i q p d h h2 h1 hd' hd
  -- all have come up
  have fin : ∀ (fuel : Nat) (listed : Array Bool) (a : Act) (w : World) (ρ : Env), HeadInv .any ops n listed → (∀ i, i < n → listed.getD i false = true) → Holds a0 full (fun i => listed.getD i false = true) ρ a → S w → I (cntM mk n) ρ w →
      (∀ (i : Nat) (p : Oper × Kind Ef) (F : Fact Ef) (d : Tmp), listed.getD i false = true → full[i]? = some p → p.2 = .fresh F → p.1.dst = some d → F.holds (ρ d) w) → (∀ (j : Nat) (p : Oper × Kind Ef), listed.getD j false = true → full[j]? = some p → p.1.dst = some t2 → R2 (ρ t1) (ρ t2)) → wpAny P .any ops Q (fuel + (ops.size - n)) listed a w := fun fuel listed a w ρ inv hall hH hS hIn hF hR2 => by
    have h1 : Holds a0 full (fun i => i < full.length) ρ (actOf a0 ρ full) := by
      have := holds_prefix a0 full ρ hdist full.length (Nat.le_refl _)
      rwa [List.take_length] at this
    have h2 : Holds a0 full (fun i => i < full.length) ρ a :=
      ⟨hH.defers, hH.size, fun t ht => hH.far t fun i p hi hp => ht i p (List.getElem?_eq_some_iff.1 hp).1 hp, fun i p t hi => hH.near i p t (hall i (by omega))⟩
    rw [h2.unique h1]
    have hz := hZ ρ w hS hIn (fun t F hm => by
      rcases mem_facts hm with h | ⟨i, p, h1, h2, h3⟩
      · cases h
      · exact hF i p F t (hall i (by have := (List.getElem?_eq_some_iff.1 h1).1; omega)) h1 h2 h3) (fun ⟨j, p, h1, h2⟩ => hR2 j p (hall j (by have := (List.getElem?_eq_some_iff.1 h1).1; omega)) h1 h2)
    have hdl : (ops.toList.drop n).length = ops.size - n := by simp
    have hs := hsq listed inv.size hall (fun i hi => by
      rcases Nat.lt_or_ge i ops.size with h | h
      · exact getD_both (inv.tail i hi h)
      · simp [Array.getD, inv.size, Nat.not_lt.2 h])
    have := wpAny_seq_more fuel (ops.toList.drop n) n listed (actOf a0 ρ full) w (fun j => by simp [List.getElem?_drop]) (by rw [hdl]; exact hs) hz
    rwa [hdl, Nat.add_comm] at this
  have none_left : ∀ listed : Array Bool, HeadInv .any ops n listed → Region.ready .any ops listed = [] → ∀ m i, i < m → i < n → listed.getD i false = true := by
    intro listed inv hr m
    induction m with
    | zero => intro i h; omega
    | succ m ih =>
      intro i hi hin
      cases hli : listed.getD i false with
      | true => rfl
      | false =>
        have hlt : i < ops.size := by omega
        have ho : ops[i]? = some ops[i] := Array.getElem?_eq_getElem hlt
        have hmem : i ∈ Region.ready .any ops listed := by
          rw [mem_ready]
          refine ⟨?_, _, ho, fun e he hb => ?_⟩
          · simp only [Array.getD, inv.size, hlt, dif_pos] at hli ⊢
            exact hli
          · have := hlin.back i _ hin ho e he hb
            exact ih e.on (by omega) (by omega)
        rw [hr] at hmem
        cases hmem
  have some_left : ∀ listed : Array Bool, (∀ i, i < n → listed.getD i false = true) ∨ ∃ i, i < n ∧ listed.getD i false = false := fun listed => by
    by_cases h : ∃ i, i < n ∧ listed.getD i false = false
    · exact .inr h
    · exact .inl fun i hi => by
        cases hl : listed.getD i false with
        | true => rfl
        | false => exact (h ⟨i, hi, hl⟩).elim
  intro fuel
  induction fuel with
  | zero =>
    intro listed a w ρ inv ⟨todo, htodo, hin⟩ hH hS hS0 hF hR2
    have hall : ∀ i, i < n → listed.getD i false = true := fun i hi => by
      cases hli : listed.getD i false with
      | true => rfl
      | false =>
        have := hin i hi hli
        rw [List.eq_nil_of_length_eq_zero (Nat.le_zero.1 htodo)] at this
        cases this
    exact fin 0 listed a w ρ inv hall hH hS (hS0 _ (Nat.le_refl _) fun m hm => ⟨fun _ => cntM_lt (hmk.lt m hm) hm, fun _ => hall m (hmk.lt m hm)⟩) hF hR2
  | succ fuel ih =>
    intro listed a w ρ inv ⟨todo, htodo, hin⟩ hH hS hS0 hF hR2
    rcases some_left listed with hall | ⟨i0, hi0, hl0⟩
    · exact fin (fuel + 1) listed a w ρ inv hall hH hS (hS0 _ (Nat.le_refl _) fun m hm => ⟨fun _ => cntM_lt (hmk.lt m hm) hm, fun _ => hall m (hmk.lt m hm)⟩) hF hR2
    have hsz := inv.size
    rw [show fuel + 1 + (ops.size - n) = (fuel + (ops.size - n)) + 1 by omega]
    refine ⟨fun hr => ?_, fun i hi => ?_⟩
    · have := none_left listed inv hr (i0 + 1) i0 (by omega) hi0
      rw [hl0] at this
      cases this
    have hilt : i < n := by
      rcases Nat.lt_or_ge i n with h | h
      · exact h
      · exact absurd hi (tail_waits hsk hch hn inv _ i0 rfl hi0 (getD_in (by omega) hl0) i h)
    obtain ⟨h0, o, ho, hall⟩ := mem_ready.1 hi
    have hlt := (Array.getElem?_eq_some_iff.1 ho).1
    have h0' : listed.getD i false = false := by
      simp only [Array.getD, hsz, hlt, dif_pos] at h0 ⊢
      exact h0
    obtain ⟨p, hpi, rfl⟩ := hget' i o hilt ho
    have hil : i < full.length := by omega
    have hpre : Holds a0 full (fun j => j < i) ρ (actOf a0 ρ (full.take i)) := holds_prefix a0 full ρ hdist i (by omega)
    have hsplit : full = full.take i ++ p :: full.drop (i + 1) := by
      have : full[i] = p := by have := List.getElem?_eq_getElem hil; rw [hpi] at this; injection this with this; exact this.symm
      rw [← this, List.getElem_cons_drop, List.take_append_drop]
    have hstep := hp.step _ p _ hsplit ρ w hS
    have conf : ∀ (j : Nat) (q : Oper × Kind Ef), full[j]? = some q → ∀ t, q.1.dst = some t → t ∈ p.1.looksAt ops → (listed.getD j false = true ↔ j < i) := by
      intro j q hq t hd hl
      have hoj := hget j q hq
      have hjn : j < n := by have := (List.getElem?_eq_some_iff.1 hq).1; omega
      rcases Nat.lt_trichotomy j i with h | h | h
      · refine ⟨fun _ => h, fun _ => ?_⟩
        rcases hlin.wait j i _ _ h hilt hoj ho with hap | ⟨e, he, hb, hon⟩
        · exact absurd hl ((Oper.apart_spec hap).1 t hd)
        · rw [← hon]; exact hall e he hb
      · subst h
        rw [hpi] at hq
        injection hq with hq
        subst hq
        exact absurd hl (hlin.self j _ t hilt ho hd)
      · refine ⟨fun hj => ?_, fun h' => by omega⟩
        exfalso
        rcases hlin.wait i j _ _ h hjn ho hoj with hap | ⟨e, he, hb, hon⟩
        · exact absurd hl ((Oper.apart_spec hap).2.2 t hd)
        · have := inv.closed j _ hoj hj e he hb
          rw [hon, h0'] at this
          cases this
    have hdown' : ∀ j o, listed.getD j false = true → ops[j]? = some o → ∀ e ∈ o.after, Region.binds .any e = true → listed.getD e.on false = true := fun j o hj ho e he hb => inv.closed j o ho hj e he hb
    have later : ∀ m, mk m = true → i < m → fl i = false → listed.getD m false = false := fun m hm him hfl => by
      cases hlm : listed.getD m false with
      | false => rfl
      | true =>
        have := reach_closed hdown' 6 m i (hmk.before m i hm him hfl) hlm
        rw [h0'] at this
        cases this
    have hfacts : FactsOK (looksQ ops t1 t2 p.1) ρ w (factsOf (full.take i)) := factsOK_of _ fun t F hm hl => by
      rcases mem_facts hm with h | ⟨j, q, h1, h2, h3⟩
      · cases h
      · have hji : j < i := by
          have := (List.getElem?_eq_some_iff.1 h1).1
          rw [List.length_take] at this
          omega
        have hq : full[j]? = some q := by
          rw [List.getElem?_take, if_pos hji] at h1
          exact h1
        refine hF j q F t ?_ hq h2 h3
        unfold looksQ at hl
        split at hl
        · rename_i hdp
          have hdp' : p.1.dst = some t2 := by simpa using hdp
          by_cases hla : t ∈ p.1.looksAt ops
          · exact (conf j q hq t h3 hla).2 hji
          · have ht1 : t = t1 := by
              have : t ∈ t1 :: p.1.looksAt ops := by simpa using hl
              exact (List.mem_cons.1 this).resolve_right hla
            rw [ht1] at h3
            obtain ⟨i1, o1, hi1, ho1, hd1, hne1, hre1⟩ := pairB_spec hpr hilt ho hdp'
            obtain ⟨q1, hq1, rfl⟩ := hget' i1 o1 hi1 ho1
            have hj1 : j = i1 := Decidable.byContradiction fun hne => hdist2 j i1 q q1 t1 hne hq hq1 h3 hd1
            subst hj1
            unfold reachB at hre1
            rw [Bool.or_eq_true] at hre1
            rcases hre1 with hr | hr
            · exact absurd (by simpa using hr) hne1
            · rw [ho] at hr
              obtain ⟨k, hk, hb⟩ := Array.any_eq_true.1 hr
              rw [Bool.and_eq_true] at hb
              exact reach_closed hdown' 5 _ _ hb.2 (hall _ (Array.getElem_mem hk) hb.1)
        · exact (conf j q hq t h3 (by simpa using hl)).2 hji
    have hli' : (full.take i).length = i := by rw [List.length_take]; omega
    have earlier : ∀ m, mk m = true → m < i → fl i = false → listed.getD m false = true := fun m hm him hfl => by
      have hr := hmk.after m i hm him hilt hfl
      unfold reachB at hr
      rw [Bool.or_eq_true] at hr
      rcases hr with hr | hr
      · have : i = m := by simpa using hr
        omega
      · rw [ho] at hr
        obtain ⟨k, hk, hb⟩ := Array.any_eq_true.1 hr
        rw [Bool.and_eq_true] at hb
        exact reach_closed hdown' 5 _ _ hb.2 (hall _ (Array.getElem_mem hk) hb.1)
    have hst := hstep hfacts (by
      rw [hli']
      intro hfl
      refine hS0 _ (cntM_mono (by omega)) fun m hm => ?_
      rcases Nat.lt_trichotomy i m with h | h | h
      · rw [later m hm h hfl]
        have := cntM_mono (mk := mk) (show i ≤ m by omega)
        simp; omega
      · rw [← h, h0']
        simp
      · rw [earlier m hm h hfl]
        simp [cntM_lt h hm])
    have hag : ∀ t, t ∈ p.1.looksAt ops → a.tmps[t]? = (actOf a0 ρ (full.take i)).tmps[t]? := fun t ht =>
      hH.agree hpre t fun j q hq hd => conf j q hq t hd ht
    have hexec : execOp a.eval p.1 = execOp (actOf a0 ρ (full.take i)).eval p.1 := execOp_congr p.1 (fun cs b => hlin.sel i _ cs b ho) fun x hx => by
      cases x with
      | tmp t =>
        have := hag t (List.mem_append_left _ (List.mem_filterMap.2 ⟨.tmp t, by simpa using hx, rfl⟩))
        simp only [Act.eval, Array.getD_eq_getD_getElem?]
        rw [this]
      | _ => rfl
    have hwant : Region.wanted p.1 (yielded ops a.tmps) = Region.wanted p.1 (yielded ops (actOf a0 ρ (full.take i)).tmps) := by
      unfold Region.wanted
      cases hg : p.1.guard with
      | none => rfl
      | some gw =>
        obtain ⟨g, want⟩ := gw
        have : yielded ops a.tmps g = yielded ops (actOf a0 ρ (full.take i)).tmps g := by
          unfold yielded
          cases ht : (ops[g]?).bind (·.dst) with
          | none => rfl
          | some t =>
            have := hag t (List.mem_append_right _ (by simp [hg, ht]))
            simp only [Option.bind_some, this]
        simp only [this]
    have size_eq : (actOf a0 ρ (full.take i)).tmps.size = a.tmps.size := hpre.size.trans hH.size.symm
    -- the way on
    have go : ∀ v w', p.2.rel v w' → (p.1.dst = some t2 → R2 (ρ t1) v) → S w' → (∀ c, c ≤ cntM mk n → (∀ m, mk m = true → ((listed.setIfInBounds i true).getD m false = true ↔ cntM mk m < c)) → I c ρ w') → (∀ (j : Nat) (q : Oper × Kind Ef) (F : Fact Ef) (d : Tmp), listed.getD j false = true → full[j]? = some q → q.2 = .fresh F → q.1.dst = some d → F.holds (ρ d) w') →
        wpAny P .any ops Q (fuel + (ops.size - n)) (listed.setIfInBounds i true) (a.put p.1.dst v) w' := by
      intro v w' hR hRv hS' hS0' hF'
      have next : ∀ ρ' : Env, p.2.val ρ' p.1 = v → (∀ j q, j ≠ i → full[j]? = some q → q.2.val ρ' q.1 = q.2.val ρ q.1) → (∀ j q F d, j ≠ i → full[j]? = some q → q.2 = .fresh F → q.1.dst = some d → ρ' d = ρ d) → (∀ F d, p.2 = .fresh F → p.1.dst = some d → F.holds (ρ' d) w') → (∀ t, (∀ F, p.2 = .fresh F → p.1.dst ≠ some t) → ρ' t = ρ t) →
          wpAny P .any ops Q (fuel + (ops.size - n)) (listed.setIfInBounds i true) (a.put p.1.dst v) w' := by
        intro ρ' hv hothers hd' hself hρ
        have hset : ∀ j, (listed.setIfInBounds i true).getD j false = true ↔ j = i ∨ listed.getD j false = true := fun j => by
          by_cases hji : j = i
          · subst hji
            simp [Array.getD, hsz, hlt]
          · rw [getD_set_ne false (Ne.symm hji)]
            simp [hji]
        refine ih _ _ _ ρ' (inv.set hi hilt) ⟨todo.filter (· != i), ?_, fun j hj hjl => ?_⟩ ?_ hS' (fun c hc hcm => ?_) (fun j q F d hj hq hf hd => ?_) (fun j q hj hq hd => ?_)
        · have : (todo.filter (· != i)).length < todo.length := by
            rw [List.length_filter_lt_length_iff_exists]
            exact ⟨i, hin i hilt h0', by simp⟩
          omega
        · have hne : j ≠ i := fun e => by
            have := (hset j).2 (.inl e)
            rw [this] at hjl
            cases hjl
          refine List.mem_filter.2 ⟨hin j hj ?_, by simpa using hne⟩
          rwa [getD_set_ne false (Ne.symm hne)] at hjl
        · have := hH.put (ρ' := ρ') hpi hset (fun j q hj hq d hd => hdist2 j i q p d (fun e => by rw [e, h0'] at hj; cases hj) hq hpi hd) (fun j q hj hq => hothers j q (fun e => by rw [e, h0'] at hj; cases hj) hq)
          rwa [hv] at this
        · have hold := hS0' c hc hcm
          rcases c with _ | c
          · exact hI0 ρ ρ' w' hold
          · refine hIρ _ ρ ρ' w' (fun t ht => ?_) hold
            obtain ⟨j0, o0, hj0, ho0, hd0, hbm⟩ := hL t ht
            refine (hρ t fun F hF hd => ?_).symm
            have hji : j0 = i := by
              rcases Nat.lt_trichotomy j0 i with h | h | h
              · exact absurd hd (hlin.dist j0 i o0 p.1 t h hilt ho0 ho hd0)
              · exact h
              · exact absurd hd0 (hlin.dist i j0 p.1 o0 t h hj0 ho ho0 hd)
            obtain ⟨m0, -, hm0, hmk0, hc0⟩ := cntM_next (mk := mk) (a := 0) (b := n) (by simp [cntM]; omega)
            have hml := (hcm m0 hmk0).2 (by rw [hc0]; simp [cntM])
            obtain ⟨hne, hre⟩ := hbm m0 hmk0
            have hml' : listed.getD m0 false = true := ((hset m0).1 hml).resolve_left (fun e => hne (by omega))
            have := reach_closed hdown' 6 m0 j0 hre hml'
            rw [hji, h0'] at this
            cases this
        · rcases (hset j).1 hj with rfl | hj
          · rw [hpi] at hq
            injection hq with hq
            subst hq
            exact hself F d hf hd
          · have hne : j ≠ i := fun e => by rw [e, h0'] at hj; cases hj
            rw [hd' j q F d hne hq hf hd]
            exact hF' j q F d hj hq hf hd
        · have hjn : j < n := by have := (List.getElem?_eq_some_iff.1 hq).1; omega
          obtain ⟨i1, o1, hi1, ho1, hd1, hne1, hre1⟩ := pairB_spec hpr hjn (hget j q hq) hd
          have h12 : t1 ≠ t2 := pairB_ne hpr
          have hnot : j = i → p.1.dst ≠ some t1 := fun e hx => by
            rw [e, hpi] at hq
            injection hq with hq
            rw [← hq, hx] at hd
            injection hd with hd
            exact h12 hd
          have hnot1 : ∀ F, p.2 = .fresh F → p.1.dst ≠ some t1 := fun F hF hd' => by
            by_cases e : j = i
            · exact hnot e hd'
            have hjl : listed.getD j false = true := ((hset j).1 hj).resolve_left e
            have h1l := reach_closed hdown' 6 j i1 hre1 hjl
            obtain ⟨q1, hq1, rfl⟩ := hget' i1 o1 hi1 ho1
            by_cases e2 : i1 = i
            · rw [e2, h0'] at h1l; cases h1l
            · exact hdist2 i i1 p q1 t1 (fun e3 => e2 e3.symm) hpi hq1 hd' hd1
          rw [hρ t1 hnot1]
          by_cases e : j = i
          · subst e
            rw [hpi] at hq
            injection hq with hq
            subst hq
            obtain ⟨F, hk⟩ := hfr j p hpi hd
            have : ρ' t2 = v := by rw [← hv, hk]; simp [Kind.val, hd]
            rw [this]
            exact hRv hd
          · have hjl : listed.getD j false = true := ((hset j).1 hj).resolve_left e
            rw [hρ t2 fun F hF hd' => hdist2 j i q p t2 e hq hpi hd hd']
            exact hR2 j q hjl hq hd
      cases hk : p.2 with
      | fixed v0 =>
        have hv : v = v0 := by rw [hk] at hR; exact hR
        exact next ρ (by rw [hk]; exact hv.symm) (fun _ _ _ _ => rfl) (fun _ _ _ _ _ _ _ _ => rfl) (fun F d hf => by rw [hk] at hf; cases hf) (fun _ _ => rfl)
      | fresh F =>
        obtain ⟨d, hd⟩ := hp.dst p (by rw [hsplit]; simp) ⟨F, hk⟩
        have hR' : F.holds v w' := by rw [hk] at hR; exact hR
        have hne : ∀ j q d', j ≠ i → full[j]? = some q → q.1.dst = some d' → d' ≠ d := fun j q d' hji hq hd' e => hdist2 j i q p d' hji hq hpi hd' (by rw [hd, e])
        refine next (fun t => if t = d then v else ρ t) (by rw [hk]; simp [Kind.val, hd]) (fun j q hji hq => ?_) (fun j q F' d' hji hq _ hd' => if_neg (hne j q d' hji hq hd')) (fun F' d' hf hd' => ?_) (fun t ht => if_neg (fun e => ht F hk (by rw [hd, e])))
        · cases hkq : q.2 with
          | fixed v0 => rfl
          | fresh F' =>
            obtain ⟨d', hd'⟩ := hp.dst q (List.mem_of_getElem? hq) ⟨F', hkq⟩
            simp only [Kind.val, hd']
            exact if_neg (hne j q d' hji hq hd')
        · rw [hk] at hf
          injection hf with hf
          rw [hd] at hd'
          injection hd' with hd'
          subst hf hd'
          simpa using hR'
    have hset' : ∀ j, (listed.setIfInBounds i true).getD j false = false → listed.getD j false = false := fun j hj => by
      by_cases hji : j = i
      · rw [hji]; exact h0'
      · rwa [getD_set_ne false (Ne.symm hji)] at hj
    have hlen_i : (full.take i).length = i := by rw [List.length_take]; omega
    have hseti : (listed.setIfInBounds i true).getD i false = true := by simp [Array.getD, hsz, hlt]
    rw [hlen_i] at hst
    unfold wpOp
    simp only [ho]
    unfold StepTo at hst
    rw [← hwant] at hst
    split
    · rename_i hw
      rw [if_pos hw] at hst
      refine .inl (wp_carry (R := fun v w' => (p.2.rel v w' ∧ (p.1.dst = some t2 → R2 (ρ t1) v)) ∧ S w' ∧ (EsQ mk E Ef I i ρ) w w') hexec size_eq (hst _ fun v w' h1 h2 h3 => ⟨v, rfl, h1, h2, h3⟩) fun v w' ⟨h1, h2, h3⟩ => go v w' h1.1 h1.2 h2 (fun c hc hcm => ?_) fun j q F d hj hq hf hd => ?_)
      · rcases hmi : mk i with _ | _
        · unfold EsQ at h3
          rw [hmi] at h3
          refine hIE _ _ _ _ (hS0 c hc fun m hm => ?_) h3
          rw [← hcm m hm, getD_set_ne false (fun e => by rw [← e, hmi] at hm; cases hm)]
        · unfold EsQ at h3
          rw [hmi] at h3
          have hci := (hcm i hmi).1 hseti
          have hceq : c = cntM mk i + 1 := by
            apply Classical.byContradiction
            intro hne
            have h1i : cntM mk (i + 1) = cntM mk i + 1 := by rw [cntM, hmi]; rfl
            obtain ⟨m', hm1, hm2, hm3, hm4⟩ := cntM_next (mk := mk) (a := i + 1) (b := n) (by omega)
            have hl := (hcm m' hm3).2 (by omega)
            rw [getD_set_ne false (by omega), later m' hm3 (by omega) (hmk.fix i hmi)] at hl
            cases hl
          rw [hceq]
          exact h3.1
      rcases hmi : mk i with _ | _
      · unfold EsQ at h3
        rw [hmi] at h3
        exact F.keep _ _ _ (hF j q F d hj hq hf hd) (hEf _ _ h3)
      · unfold EsQ at h3
        rw [hmi] at h3
        exact F.keep _ _ _ (hF j q F d hj hq hf hd) h3.2
    · rename_i hw
      rw [if_neg hw] at hst
      have hni : mk i = false := by
        rcases hmi : mk i with _ | _
        · rfl
        · exact absurd (by simp [Region.wanted, hmk.gd i _ hmi ho]) hw
      exact go undef w hst.1 hst.2 hS (fun c hc hcm => hS0 c hc fun m hm => by rw [← hcm m hm, getD_set_ne false (fun e => by rw [← e, hni] at hm; cases hm)]) fun j q F d hj hq hf hd => hF j q F d hj hq hf hd

/-- the same, that nothing looks into -/
structure WalkQ (P : Program) (ops : Array Oper) (S : World → Prop) (I : Nat → Env → World → Prop) (E Ef : World → World → Prop) (mk fl : Nat → Bool) (t1 t2 : Tmp) (R2 : Value → Value → Prop) (Z : (Env → Act) → List (Tmp × Fact Ef) → Prop) (k : Nat) (l : List Oper) (A : Env → Act) (Fs : List (Tmp × Fact Ef)) : Prop where
  out : SettleQ P ops S I E Ef mk fl t1 t2 R2 Z k l A Fs

/-- THE RULE, with marks and a tail of n operations ahead of it -/
theorem wp_walk_pr {id : Nat} {a : Act} {w : World} {l : List Oper} (n : Nat) (mk fl : Nat → Bool) (ms : List Nat) (hms : ∀ m, mk m = true → m ∈ ms) (hm : P.follows .mixedOrders = true) (hB : tailB l.toArray n = true) (hmk : markPB l.toArray n mk fl ms = true) (L : List Tmp) (hLB : labB l.toArray n ms L = true) (t1 t2 : Tmp) (R2 : Value → Value → Prop) (hpr : pairB l.toArray n t1 t2 = true) (E Ef : World → World → Prop) (hEf : ∀ w w', E w w' → Ef w w') (S : World → Prop) (I : Nat → Env → World → Prop) (hS : S w.drew) (hS0 : ∀ ρ, I 0 ρ w.drew) (hIE : ∀ c ρ w w', I c ρ w → E w w' → I c ρ w') (hI0 : ∀ ρ ρ' w, I 0 ρ w → I 0 ρ' w) (hIρ : ∀ c ρ ρ' w, (∀ t ∈ L, ρ t = ρ' t) → I c ρ w → I c ρ' w)
    (h : WalkQ P l.toArray S I E Ef mk fl t1 t2 R2 (fun A Fs => ∀ ρ w', S w' → I (cntM mk n) ρ w' → (∀ t F, (t, F) ∈ Fs → F.holds (ρ t) w') → ((∃ j o, j < n ∧ l.toArray[j]? = some o ∧ o.dst = some t2) → R2 (ρ t1) (ρ t2)) → wpList P l.toArray Q (l.drop n) (A ρ) w') 0 (l.take n) (fun _ => a) []) : (Code.region id l.toArray true).wp P Q a w := by
  simp only [tailB, Bool.and_eq_true, decide_eq_true_eq] at hB
  obtain ⟨⟨⟨⟨hn, hlin⟩, hs⟩, hc⟩, hq⟩ := hB
  obtain ⟨full, hp, he, hZ⟩ := settleQ_plan (l.take n) [] ⟨(fun _ h => by cases h), (fun _ h => by cases h), (fun pre p post he => by simp at he)⟩ h.out
  have inv0 : HeadInv .any l.toArray n (Array.replicate l.toArray.size false) :=
    ⟨by simp, fun j oj _ hl => (by rw [getD_replicate_false] at hl; cases hl), fun t _ ht => getD_in (by simpa using ht) (getD_replicate_false _ _)⟩
  have hZ' : ∀ ρ w, S w → I (cntM mk n) ρ w → (∀ t F, (t, F) ∈ factsOf full → F.holds (ρ t) w) → ((∃ (j : Nat) (p : Oper × Kind Ef), full[j]? = some p ∧ p.1.dst = some t2) → R2 (ρ t1) (ρ t2)) → wpList P l.toArray Q (l.toArray.toList.drop n) (actOf a ρ full) w := fun ρ w h1 h2 h3 h4 => hZ ρ w h1 h2 h3 fun ⟨j, o, hj, ho, hd⟩ => h4 (by
    have hm : (full.map (·.1))[j]? = some o := by
      rw [he, List.map_nil, List.nil_append, List.getElem?_take, if_pos hj]
      simpa using ho
    rw [List.getElem?_map] at hm
    obtain ⟨p, hp1, rfl⟩ := Option.map_eq_some_iff.1 hm
    exact ⟨j, p, hp1, hd⟩)
  have := any_order_pr (P := P) (Q := Q) hn (by simpa using he) (linearN_of hlin) hs hc (fun listed hsz h1 h2 => by
    have hn' := hn
    rw [show listed = (Array.replicate n true) ++ (Array.replicate (l.toArray.size - n) false) from getD_ext (by simp only [Array.size_append, Array.size_replicate]; omega) fun i => by
      rw [Array.getD_eq_getD_getElem? (xs := _ ++ _), Array.getElem?_append]
      rcases Nat.lt_or_ge i n with h | h
      · rw [h1 i h]
        simp [h]
      · rw [h2 i h]
        simp only [Array.size_replicate, Nat.not_lt.2 h, if_false, Array.getElem?_replicate]
        split <;> rfl]
    exact hq) (markedP_of hms hmk) hp hEf hIE hI0 hIρ hpr (fun j p h => hp.prf p (List.mem_of_getElem? h)) (labB_spec hms hLB) hZ' n _ a w.drew (fun _ => undef) inv0 ⟨List.range n, by simp, fun i hi _ => List.mem_range.2 hi⟩ ⟨rfl, rfl, fun _ _ => rfl, fun i p t hi => ?_⟩ hS (fun c hc hcm => ?_) (fun i p F d hi => ?_) (fun i p hi => ?_)
  · refine wp_region_any hm ?_
    rwa [show n + (l.toArray.size - n) = l.toArray.size by omega] at this
  · exfalso; rw [getD_replicate_false] at hi; cases hi
  · rcases c with _ | c
    · exact hS0 _
    · obtain ⟨m0, -, hm0, hmk0, hc0⟩ := cntM_next (mk := mk) (a := 0) (b := n) (by simp [cntM]; omega)
      have := (hcm m0 hmk0).2 (by rw [hc0]; simp [cntM])
      rw [getD_replicate_false] at this
      cases this
  · exfalso; rw [getD_replicate_false] at hi; cases hi
  · exfalso; rw [getD_replicate_false] at hi; cases hi
variable {Z : (Env → Act) → List (Tmp × Fact Ef) → Prop} {o : Oper} {rest : List Oper} {A : Env → Act} {Fs : List (Tmp × Fact Ef)} {k : Nat}
theorem qsettle_nil (h : Z A Fs) : WalkQ P ops S I E Ef mk fl t1 t2 R2 Z k [] A Fs := ⟨h⟩
theorem qsettle_skip (hmk : mk k = false) (hw : ∀ ρ, Region.wanted o (yielded ops (A ρ).tmps) = false) (h : WalkQ P ops S I E Ef mk fl t1 t2 R2 Z (k + 1) rest (fun ρ => (A ρ).put o.dst undef) Fs) (hd2 : (o.dst == some t2) = false := by rfl) : WalkQ P ops S I E Ef mk fl t1 t2 R2 Z k (o :: rest) A Fs :=
  ⟨.inl ⟨undef, by simpa using hd2, fun ρ w _ _ _ => by unfold StepTo; rw [if_neg (by rw [hw]; simp)]; exact ⟨rfl, fun e => absurd e (by simpa using hd2)⟩, by exact h.out⟩⟩
theorem qsettle_run {v : Value} (hmk : mk k = false) (hE : ∀ w, S w → E w w) (hw : ∀ ρ, Region.wanted o (yielded ops (A ρ).tmps) = true)
    (hr : ∀ ρ w, S w → FactsOK (looksQ ops t1 t2 o) ρ w Fs → PreP mk fl I k ρ w → (execOp (A ρ).eval o).run P w = .ok (.value v) w) (h : WalkQ P ops S I E Ef mk fl t1 t2 R2 Z (k + 1) rest (fun ρ => (A ρ).put o.dst v) Fs) (hd2 : (o.dst == some t2) = false := by rfl) : WalkQ P ops S I E Ef mk fl t1 t2 R2 Z k (o :: rest) A Fs :=
  ⟨.inl ⟨v, by simpa using hd2, fun ρ w hS hF hP => by
    unfold StepTo
    rw [if_pos (hw ρ)]
    unfold EsQ
    rw [hmk]
    intro K hK
    unfold Oper.wp
    rw [hr ρ w hS hF hP]
    exact hK v w ⟨rfl, fun e => absurd e (by simpa using hd2)⟩ hS (hE w hS), by exact h.out⟩⟩
theorem qsettle_known {d : Tmp} (F : Fact Ef) (hmk : mk k = false) (hd : o.dst = some d) (hw : ∀ ρ, Region.wanted o (yielded ops (A ρ).tmps) = true)
    (hc : ∀ ρ w, S w → FactsOK (looksQ ops t1 t2 o) ρ w Fs → PreP mk fl I k ρ w → ∀ K : Act → World → Prop, (∀ v w', F.holds v w' → S w' → E w w' → K ((A ρ).put o.dst v) w') → o.wp P (A ρ) w K (fun _ _ _ => False)) (h : WalkQ P ops S I E Ef mk fl t1 t2 R2 Z (k + 1) rest (fun ρ => (A ρ).put (some d) (ρ d)) ((d, F) :: Fs)) (hd2 : (o.dst == some t2) = false := by rfl) : WalkQ P ops S I E Ef mk fl t1 t2 R2 Z k (o :: rest) A Fs :=
  ⟨.inr ⟨d, F, hd, fun ρ w hS hF hP => by
    unfold StepTo
    rw [if_pos (hw ρ)]
    unfold EsQ
    rw [hmk]
    exact fun K hK => hc ρ w hS hF hP K fun v w' h1 h2 h3 => hK v w' ⟨h1, fun e => absurd e (by simpa using hd2)⟩ h2 h3, by exact h.out⟩⟩
/-- the second one of the two -/
theorem qsettle_pair (F : Fact Ef) (hmk : mk k = false) (hd : o.dst = some t2) (hw : ∀ ρ, Region.wanted o (yielded ops (A ρ).tmps) = true)
    (hc : ∀ ρ w, S w → FactsOK (looksQ ops t1 t2 o) ρ w Fs → PreP mk fl I k ρ w → ∀ K : Act → World → Prop, (∀ v w', F.holds v w' → R2 (ρ t1) v → S w' → E w w' → K ((A ρ).put o.dst v) w') → o.wp P (A ρ) w K (fun _ _ _ => False)) (h : WalkQ P ops S I E Ef mk fl t1 t2 R2 Z (k + 1) rest (fun ρ => (A ρ).put (some t2) (ρ t2)) ((t2, F) :: Fs)) : WalkQ P ops S I E Ef mk fl t1 t2 R2 Z k (o :: rest) A Fs :=
  ⟨.inr ⟨t2, F, hd, fun ρ w hS hF hP => by
    unfold StepTo
    rw [if_pos (hw ρ)]
    unfold EsQ
    rw [hmk]
    exact fun K hK => hc ρ w hS hF hP K fun v w' h1 h4 h2 h3 => hK v w' ⟨h1, fun _ => h4⟩ h2 h3, by exact h.out⟩⟩
/-- a mark that has no value -/
theorem qsettle_turn {v : Value} (hmk : mk k = true) (hw : ∀ ρ, Region.wanted o (yielded ops (A ρ).tmps) = true)
    (hc : ∀ ρ w, S w → FactsOK (looksQ ops t1 t2 o) ρ w Fs → PreP mk fl I k ρ w → ∀ K : Act → World → Prop, (∀ w', S w' → I (cntM mk k + 1) ρ w' → Ef w w' → K ((A ρ).put o.dst v) w') → o.wp P (A ρ) w K (fun _ _ _ => False)) (h : WalkQ P ops S I E Ef mk fl t1 t2 R2 Z (k + 1) rest (fun ρ => (A ρ).put o.dst v) Fs) (hd2 : (o.dst == some t2) = false := by rfl) : WalkQ P ops S I E Ef mk fl t1 t2 R2 Z k (o :: rest) A Fs :=
  ⟨.inl ⟨v, by simpa using hd2, fun ρ w hS hF hP => by
    unfold StepTo
    rw [if_pos (hw ρ)]
    unfold EsQ
    rw [hmk]
    exact fun K hK => hc ρ w hS hF hP K fun w' h1 h2 h3 => hK v w' ⟨rfl, fun e => absurd e (by simpa using hd2)⟩ h1 ⟨h2, h3⟩, by exact h.out⟩⟩
end
end Go.Proofs.YtdhjfckckghicaaDoor


namespace Go.Proofs.YtdhjfckckghicaaDoor
set_option linter.unusedVariables false
set_option linter.unusedSimpArgs false
set_option maxRecDepth 100000
open Go Go.RowKit

/-- what was there stays, or is what is known ahead -/
structure Ext (T : List (Nat × Obj)) (w w' : World) : Prop where
  os : w'.os = w.os
  tape : w'.tape = w.tape
  output : w'.output = w.output
  size : w.heap.size ≤ w'.heap.size
  block : ∀ k, k < w.heap.size → w'.heap[k]? = w.heap[k]? ∨ ∃ o, (k, o) ∈ T ∧ w'.heap[k]? = some o
section
variable {T T' : List (Nat × Obj)} {w w' w'' : World}
theorem Ext.refl (w : World) : Ext T w w := ⟨rfl, rfl, rfl, Nat.le_refl _, fun _ _ => .inl rfl⟩
theorem Ext.trans (h : Ext T w w') (k : Ext T w' w'') : Ext T w w'' :=
  ⟨k.os.trans h.os, k.tape.trans h.tape, k.output.trans h.output, Nat.le_trans h.size k.size, fun i hi => by
    rcases k.block i (Nat.lt_of_lt_of_le hi h.size) with e | e
    · rw [e]; exact h.block i hi
    · exact .inr e⟩
theorem Ext.mono (h : Ext T w w') (hT : ∀ x ∈ T, x ∈ T') : Ext T' w w' := ⟨h.os, h.tape, h.output, h.size, fun i hi => (h.block i hi).imp id fun ⟨o, h1, h2⟩ => ⟨o, hT _ h1, h2⟩⟩
theorem Ext.of_below (h : Below w.heap.size w w') : Ext T w w' := ⟨h.os, h.tape, h.output, h.size, fun i hi => .inl (h.block i hi)⟩
theorem Ext.drew (w : World) : Ext T w w.drew := Ext.of_below (below_drew (Below.refl _ _))
theorem Ext.far (h : Ext T w w') {k : Nat} (hk : k < w.heap.size) (hn : ∀ o, (k, o) ∉ T) : w'.heap[k]? = w.heap[k]? := (h.block k hk).resolve_right fun ⟨o, h1, _⟩ => hn o h1
theorem Ext.keeps (h : Ext T w w') : Keeps (fun k => ∃ o, (k, o) ∈ T) w w' := ⟨h.os, h.tape, h.output, h.size, fun k hk hn => h.far hk fun o ho => hn ⟨o, ho⟩⟩
end

/-- a row's block with one more in it -/
def tgt (w : World) (v : Value) (n : Nat) (u : Value) : List (Nat × Obj) := match v.ownBlock with
  | none => []
  | some k => match w.heap[k]? with
    | some (.cells cur t fr) => if n < cur.size then [(k, .cells (cur.toList.take n ++ u :: cur.toList.drop (n + 1)).toArray t fr)] else []
    | _ => []
theorem tgt_mem {w : World} {v u : Value} {n k : Nat} {o : Obj} (h : (k, o) ∈ tgt w v n u) : v.ownBlock = some k ∧ ∃ cur t fr, w.heap[k]? = some (.cells cur t fr) ∧ n < cur.size ∧ o = .cells (cur.toList.take n ++ u :: cur.toList.drop (n + 1)).toArray t fr := by
  unfold tgt at h
  rcases hv : v.ownBlock with _ | k'
  · rw [hv] at h; cases h
  · rw [hv] at h
    dsimp only at h
    split at h
    · rename_i cur t fr hg
      split at h
      · simp only [List.mem_singleton, Prod.mk.injEq] at h
        obtain ⟨rfl, rfl⟩ := h
        exact ⟨rfl, cur, t, fr, hg, by assumption, rfl⟩
      · cases h
    · cases h
theorem tgt_own {w : World} {v u : Value} {n k : Nat} {o : Obj} (h : (k, o) ∈ tgt w v n u) : v.ownBlock = some k := (tgt_mem h).1
theorem tgt_one {w : World} {v u : Value} {n k : Nat} {o o' : Obj} (h : (k, o) ∈ tgt w v n u) (h' : (k, o') ∈ tgt w v n u) : o = o' := by
  obtain ⟨-, c1, t1, f1, a1, -, rfl⟩ := tgt_mem h
  obtain ⟨-, c2, t2, f2, a2, -, rfl⟩ := tgt_mem h'
  rw [a1] at a2
  cases a2
  rfl
theorem take_put {α : Type} (l : List α) (n : Nat) (u : α) (h : n ≤ l.length) : (l.take n ++ u :: l.drop (n + 1)).take n = l.take n := by
  rw [List.take_append_of_le_length (by rw [List.length_take]; omega), List.take_take, Nat.min_self]
theorem drop_put {α : Type} (l : List α) (n : Nat) (u : α) (h : n ≤ l.length) : (l.take n ++ u :: l.drop (n + 1)).drop (n + 1) = l.drop (n + 1) := by
  rw [List.drop_append, List.drop_eq_nil_of_le (by rw [List.length_take]; omega), List.nil_append, List.length_take, Nat.min_eq_left h, show n + 1 - n = 0 + 1 by omega, List.drop_succ_cons, List.drop_zero]

/-- a row of the call's own, to which one is put: it is where it was and its block is what is known ahead, or it is new -/
def Pushed (T : List (Nat × Obj)) (b0 B : Nat) (e : TypeId) (n : Nat) (xs : List Value) (v : Value) (w : World) : Prop :=
  w.ownsRow B e 1 v n xs ∧ ∀ k, v.ownBlock = some k → b0 ≤ k ∨ ∃ o, (k, o) ∈ T ∧ w.heap[k]? = some o
theorem Pushed.ext {T T' : List (Nat × Obj)} {b0 B : Nat} {e : TypeId} {n : Nat} {xs : List Value} {v : Value} {w w' : World} (h : Pushed T b0 B e n xs v w) (hx : Ext T' w w') (hb : ∀ x ∈ T', x.1 < b0) (hT : ∀ k o o', (k, o) ∈ T → (k, o') ∈ T' → o = o') : Pushed T b0 B e n xs v w' := by
  obtain ⟨⟨hl, h1⟩, h2⟩ := h
  rcases h1 with ⟨rfl, rfl⟩ | ⟨g, cap, cur, rfl, hbg, hg, rest⟩
  · exact ⟨⟨hl, .inl ⟨rfl, rfl⟩⟩, fun k hk => by cases hk⟩
  · have hlt : g < w.heap.size := (Array.getElem?_eq_some_iff.1 hg).1
    have same : w'.heap[g]? = w.heap[g]? := by
      rcases hx.block g hlt with e | ⟨o, ho, e⟩
      · exact e
      · rcases h2 g rfl with hb0 | ⟨o', ho', e'⟩
        · have := hb _ ho
          simp only at this
          omega
        · rw [e, e', hT _ _ _ ho' ho]
    exact ⟨⟨hl, .inr ⟨g, cap, cur, rfl, hbg, same.trans hg, rest⟩⟩, fun k hk => by
      injection hk with hk
      subst hk
      rcases h2 g rfl with hb0 | ⟨o', ho', e'⟩
      · exact .inl hb0
      · exact .inr ⟨o', ho', same.trans e'⟩⟩

theorem oper_push {P : Program} {w2 w : World} {o : Oper} {a : Act} {K : Act → World → Prop} {Q : Exit → Act → World → Prop} (s x : Operand)
    (base t e : TypeId) (z : Value) (bytes : Nat) (ht : P.underlying t = some (.slice e)) (hinfo : (P.info? e).map (fun i => (i.zero, i.size, i.bytes)) = some (some z, 1, bytes)) (hz : z.cells.size = 1)
    {v : Value} {n : Nat} {xs : List Value} (hown : w2.ownsRow base e 1 v n xs) {u : Value} (hE : ∀ k, v.ownBlock = some k → w.heap[k]? = w2.heap[k]? ∨ ∃ o, (k, o) ∈ tgt w2 v n u ∧ w.heap[k]? = some o)
    {vs : Value} (hsl : SlV w 1 vs 1 [u]) (h1 : u.oneCell' = true)
    (h63 : n + 1 ≤ maxLen) (hbytes : (n + 1) * bytes ≤ 140737488355328) (hbase : base ≤ w.heap.size) (hw2 : w2.heap.size ≤ w.heap.size) (ho : o.op = .call { callee := .builtin .append, args := #[s, x], argTypes := #[t, t] }) (hs : a.eval s = v) (hx : a.eval x = vs)
    (h : ∀ v' w', w'.ownsRow base e 1 v' (n + 1) (xs ++ [u]) → Ext (tgt w2 v n u) w w' → (∀ k, v'.ownBlock = some k → k = w.heap.size ∨ v.ownBlock = some k) → (∀ k, v'.ownBlock = some k → w2.heap.size ≤ k ∨ ∃ o, (k, o) ∈ tgt w2 v n u ∧ w'.heap[k]? = some o) → K (a.put o.dst v') w') : o.wp P a w K Q := by
  obtain ⟨A, c, rfl, hle, hm, hlen, hc⟩ := hsl
  obtain ⟨b, of, hA, hcell⟩ := hc
  obtain ⟨rfl, _⟩ := hA (by simp)
  have hnews : ∀ j v, [u][j]? = some v → w.cell? ((⟨b, of, none⟩ : Addr).add j) = some v := fun j v hv => by rw [Addr.add_lit]; exact hcell j v hv
  have h1' : ∀ v ∈ [u], v.oneCell' = true := fun v hv => by rw [List.mem_singleton.1 hv]; exact h1
  obtain ⟨i, hi, hz0, hz1, hz2⟩ := info_parts hinfo
  have hrun : ∃ v' w', (Builtin.append_ #[t, t] o.type #[v, .slice (some ⟨b, of, none⟩) 1 c]).run P w = .ok v' w' ∧ w'.ownsRow base e 1 v' (n + 1) (xs ++ [u]) ∧ Ext (tgt w2 v n u) w w' ∧ (∀ k, v'.ownBlock = some k → k = w.heap.size ∨ v.ownBlock = some k) ∧ (∀ k, v'.ownBlock = some k → w2.heap.size ≤ k ∨ ∃ o, (k, o) ∈ tgt w2 v n u ∧ w'.heap[k]? = some o) := by
    -- there is no room, or nothing yet
    have anew : (v = .slice none 0 0 ∨ ∃ g cap, v = .slice (some ⟨g, 0, none⟩) n cap ∧ ¬ n + 1 ≤ cap) → w.ownsRow base e 1 v n xs → ∃ v' w', (Builtin.append_ #[t, t] o.type #[v, .slice (some ⟨b, of, none⟩) 1 c]).run P w = .ok v' w' ∧ w'.ownsRow base e 1 v' (n + 1) (xs ++ [u]) ∧ Ext (tgt w2 v n u) w w' ∧ (∀ k, v'.ownBlock = some k → k = w.heap.size ∨ v.ownBlock = some k) ∧ (∀ k, v'.ownBlock = some k → w2.heap.size ≤ k ∨ ∃ o, (k, o) ∈ tgt w2 v n u ∧ w'.heap[k]? = some o) := fun hv ow => by
      obtain ⟨v', w', hrun, r2, -, -, -⟩ := run_append_own_at (P := P) w base t o.type e i z 1 bytes ht hi hz0 hz1 hz2 hz (by decide) v n xs ow ⟨b, of, none⟩ 1 c [u] (by simp) hnews h1' h63 hbytes hbase
      have key : ∃ cap' arr, v' = .slice (some ⟨w.heap.size, 0, none⟩) (n + 1) cap' ∧ w' = w.drew.alloc (.cells arr e) := by
        subst hz2
        rcases hv with rfl | ⟨g, cap, rfl, hroom⟩
        · have hn : n = 0 := by
            rcases ow.2 with ⟨_, h⟩ | ⟨g, cap, cur, h, _⟩
            · exact h
            · cases h
          subst hn
          have hr := run_append_nil (P := P) w t o.type e i z ht hi hz0 ⟨b, of, none⟩ 1 c [u] (by simp [hz1]) hnews (by decide) (by decide) (by omega)
          rw [hr] at hrun
          injection hrun with e1 e2
          exact ⟨_, _, e1.symm, e2.symm⟩
        · have holds : ∀ j u, xs[j]? = some u → w.cell? ((⟨g, 0, none⟩ : Addr).add j) = some u := ow.cells (g := g) rfl
          have hr := run_append_grow (P := P) w t o.type e i z ht hi hz0 ⟨g, 0, none⟩ n cap xs (by rw [hz1]; exact ow.1) holds ⟨b, of, none⟩ 1 c [u] (by simp [hz1]) hnews (by omega) (by unfold maxLen at h63; omega) (growslice_fits (by omega) hbytes)
          rw [hr] at hrun
          injection hrun with e1 e2
          exact ⟨_, _, e1.symm, e2.symm⟩
      obtain ⟨cap', arr, rfl, rfl⟩ := key
      refine ⟨_, _, hrun, r2, Ext.of_below (below_alloc (below_drew (Below.refl _ _)) _), fun k hk => .inl ?_, fun k hk => .inl ?_⟩
      · exact (Option.some.inj hk).symm
      · have e : w.heap.size = k := Option.some.inj hk
        omega
    rcases hown.2 with ⟨rfl, rfl⟩ | ⟨g, cap, cur, rfl, hbg, hg, hnc, hcm, hcs, htake⟩
    · have hx0 : xs = [] := List.eq_nil_of_length_eq_zero (by simpa using hown.1)
      subst hx0
      exact anew (.inl rfl) (World.ownsRow_nil _ _ _ _)
    · have hlen0 : cur.size = cap := by rw [hcs, Nat.mul_one]
      rw [Nat.mul_one] at htake
      have hln : n ≤ cur.toList.length := by rw [Array.length_toList]; omega
      by_cases hroom : n + 1 ≤ cap
      · have hin : (g, Obj.cells (cur.toList.take n ++ u :: cur.toList.drop (n + 1)).toArray e (0, 0)) ∈ tgt w2 (.slice (some ⟨g, 0, none⟩) n cap) n u := by
          unfold tgt
          simp only [Value.ownBlock, hg, if_pos (show n < cur.size by omega), List.mem_singleton]
        obtain ⟨cw, hgw, htw, hsw, hdw⟩ : ∃ cw : Array Value, w.heap[g]? = some (.cells cw e (0, 0)) ∧ cw.toList.take n = xs ∧ cw.size = cap ∧ cw.toList.drop (n + 1) = cur.toList.drop (n + 1) := by
          rcases hE g rfl with e1 | ⟨oo, ho1, e1⟩
          · exact ⟨cur, e1.trans hg, htake, hlen0, rfl⟩
          · rw [tgt_one ho1 hin] at e1
            refine ⟨_, e1, ?_, ?_, ?_⟩
            · rw [List.toList_toArray, take_put _ _ _ hln, htake]
            · rw [List.size_toArray, List.length_append, List.length_take, List.length_cons, List.length_drop, Array.length_toList]; omega
            · rw [List.toList_toArray, drop_put _ _ _ hln]
        have hr := run_append_room (P := P) (ty := o.type) w t e i ht hi g n cap cw hgw ⟨b, of, none⟩ 1 c [u] (by simp [hz1]) hnews h1' hroom (by rw [hz1]; simp; omega)
        have hnew : (List.take (n * i.size) cw.toList ++ [u] ++ List.drop (n * i.size + [u].length) cw.toList).toArray = (cur.toList.take n ++ u :: cur.toList.drop (n + 1)).toArray := by
          rw [hz1, Nat.mul_one, htw, List.length_singleton, hdw, htake]
          simp
        rw [hnew] at hr
        have hsr := setRow_heap w g cw (cur.toList.take n ++ u :: cur.toList.drop (n + 1)).toArray e (0, 0) hgw
        refine ⟨_, _, hr, ⟨by rw [List.length_append, hown.1]; simp, .inr ⟨g, cap, _, rfl, hbg, hsr, hroom, hcm, ?_, ?_⟩⟩, ⟨rfl, rfl, rfl, by simp, fun k hk => ?_⟩, fun k hk => .inr hk, fun k hk => .inr ⟨Obj.cells (cur.toList.take n ++ u :: cur.toList.drop (n + 1)).toArray e (0, 0), ?_, ?_⟩⟩
        · rw [List.size_toArray, List.length_append, List.length_take, List.length_cons, List.length_drop, Array.length_toList]; omega
        · rw [List.toList_toArray, htake, Nat.mul_one]
          have hxl : xs.length = n := by rw [hown.1, Nat.mul_one]
          rw [List.take_append, hxl, List.take_of_length_le (by omega), show n + 1 - n = 1 by omega]
          simp
        · by_cases e : k = g
          · subst e
            exact .inr ⟨_, hin, hsr⟩
          · exact .inl (setRow_other w g k _ e)
        · injection hk with hk
          subst hk
          exact hin
        · injection hk with hk
          subst hk
          exact hsr
      · have same : w.heap[g]? = w2.heap[g]? := by
          rcases hE g rfl with e1 | ⟨oo, ho1, e1⟩
          · exact e1
          · obtain ⟨-, c2, t2, f2, a2, a3, -⟩ := tgt_mem ho1
            rw [hg] at a2
            cases a2
            omega
        exact anew (.inr ⟨g, cap, rfl, hroom⟩) ⟨hown.1, .inr ⟨g, cap, cur, rfl, hbg, same.trans hg, hnc, hcm, hcs, by rw [Nat.mul_one]; exact htake⟩⟩
  obtain ⟨v', w', hr, h2, h3, h4, h5⟩ := hrun
  unfold Oper.wp execOp
  simp only [ho, resolve, invoke, builtin, Sem.run_bind, Sem.run_pure, Result.andThen_ok, List.map_toArray, List.map_cons, List.map_nil, hs, hx, hr]
  exact h v' w' h2 h3 h4 h5

/-- a store into one cell of a block -/
theorem oper_set {P : Program} {w : World} {g : Nat} {t : TypeId} {cs : List Value} {o : Oper} {a : Act} {K : Act → World → Prop} {Q : Exit → Act → World → Prop} (h : Blk w g t cs) (i : Nat) (u : Value) {ty : TypeId} (hi : (P.info? ty).map (·.size) = some 1) (hk : i < cs.length) (hu : u.cells = #[u]) (h1 : u.oneCell' = true)
    (x y : Operand) (ho : o.op = .store ty x y) (hx : a.eval x = .pointer (some ⟨g, i, none⟩)) (hy : a.eval y = u)
    (hK : ∀ w', Blk w' g t (cs.set i u) → w.grownBy w' (some g) → K (a.put o.dst undef) w') : o.wp P a w K Q := by
  obtain ⟨inf, hii, his⟩ := Option.map_eq_some_iff.1 hi
  have := run_storeCells_at P g i t [u] 0 cs.toArray w h (by simp; omega) (by simpa using h1)
  simp only [Nat.add_zero, List.length_singleton] at this
  have hrun : (storeVar ty ⟨g, i, none⟩ u).run P w = .ok () (w.setRow g (cs.take i ++ [u] ++ cs.drop (i + 1)).toArray) := by
    simp [storeVar, sizeOf, typeInfo, hii, his, hu, this]
  have e : cs.take i ++ [u] ++ cs.drop (i + 1) = cs.set i u := by
    rw [List.set_eq_take_append_cons_drop, if_pos hk]
    simp
  rw [e] at hrun
  have hB : Blk (w.setRow g (cs.set i u).toArray) g t (cs.set i u) := h.row _
  unfold Oper.wp execOp
  simp only [ho, hx, hy, Instr.storeAt, Instr.sureAddr, Sem.run_bind, Sem.run_pure, Result.andThen_ok, hrun]
  exact hK _ hB (grown_setRow w g _)

/-- the same but for one block that may turn -/
structure ExtB (g : Nat) (T : List (Nat × Obj)) (w w' : World) : Prop where
  os : w'.os = w.os
  tape : w'.tape = w.tape
  output : w'.output = w.output
  size : w.heap.size ≤ w'.heap.size
  block : ∀ k, k < w.heap.size → k ≠ g → w'.heap[k]? = w.heap[k]? ∨ ∃ o, (k, o) ∈ T ∧ w'.heap[k]? = some o
section
variable {g : Nat} {T : List (Nat × Obj)} {w w' w'' : World}
theorem Ext.but (h : Ext T w w') : ExtB g T w w' := ⟨h.os, h.tape, h.output, h.size, fun k hk _ => h.block k hk⟩
theorem ExtB.trans (h : ExtB g T w w') (k : ExtB g T w' w'') : ExtB g T w w'' :=
  ⟨k.os.trans h.os, k.tape.trans h.tape, k.output.trans h.output, Nat.le_trans h.size k.size, fun i hi hg => by
    rcases k.block i (Nat.lt_of_lt_of_le hi h.size) hg with e | e
    · rw [e]; exact h.block i hi hg
    · exact .inr e⟩
theorem ExtB.of_grown (h : w.grownBy w' (some g)) : ExtB g T w w' := ⟨h.os, h.tape, h.output, h.size, fun i hi hg => .inl (h.block i hi (fun e => hg (by injection e)))⟩
theorem ExtB.keeps (h : ExtB g T w w') : Keeps (fun k => k = g ∨ ∃ o, (k, o) ∈ T) w w' := ⟨h.os, h.tape, h.output, h.size, fun k hk hn => (h.block k hk (fun e => hn (.inl e))).resolve_right fun ⟨o, h1, _⟩ => hn (.inr ⟨o, h1⟩)⟩
end
theorem Pushed.extB {T T' : List (Nat × Obj)} {g b0 B : Nat} {e : TypeId} {n : Nat} {xs : List Value} {v : Value} {w w' : World} (h : Pushed T b0 B e n xs v w) (hx : ExtB g T' w w') (hv : v.ownBlock ≠ some g) (hb : ∀ x ∈ T', x.1 < b0) (hT : ∀ k o o', (k, o) ∈ T → (k, o') ∈ T' → o = o') : Pushed T b0 B e n xs v w' := by
  obtain ⟨⟨hl, h1⟩, h2⟩ := h
  rcases h1 with ⟨rfl, rfl⟩ | ⟨gg, cap, cur, rfl, hbg, hg, rest⟩
  · exact ⟨⟨hl, .inl ⟨rfl, rfl⟩⟩, fun k hk => by cases hk⟩
  · have hlt : gg < w.heap.size := (Array.getElem?_eq_some_iff.1 hg).1
    have same : w'.heap[gg]? = w.heap[gg]? := by
      rcases hx.block gg hlt (fun e => hv (by rw [← e]; rfl)) with e | ⟨o, ho, e⟩
      · exact e
      · rcases h2 gg rfl with hb0 | ⟨o', ho', e'⟩
        · have := hb _ ho
          simp only at this
          omega
        · rw [e, e', hT _ _ _ ho' ho]
    exact ⟨⟨hl, .inr ⟨gg, cap, cur, rfl, hbg, same.trans hg, rest⟩⟩, fun k hk => by
      injection hk with hk
      subst hk
      rcases h2 gg rfl with hb0 | ⟨o', ho', e'⟩
      · exact .inl hb0
      · exact .inr ⟨o', ho', same.trans e'⟩⟩
/-- a new block with one cell, as a slice -/
def FOne (g : Nat) (T : List (Nat × Obj)) (b0 : Nat) (hT : ∀ x ∈ T, x.1 < b0) (t : TypeId) (u : Value) : Fact (ExtB g T) :=
  ⟨fun v w => ∃ k c, v = .slice (some ⟨k, 0, none⟩) 1 c ∧ 1 ≤ c ∧ c ≤ maxLen ∧ b0 ≤ k ∧ k ≠ g ∧ Blk w k t [u], fun v w w' ⟨k, c, h1, h2, h3, h4, h5, h6⟩ hx => ⟨k, c, h1, h2, h3, h4, h5, h6.keeps hx.keeps (fun h => h.elim h5 (fun ⟨o, ho⟩ => by have := hT _ ho; simp only at this; omega))⟩⟩
theorem FOne.sl {g : Nat} {T : List (Nat × Obj)} {b0 : Nat} {hT : ∀ x ∈ T, x.1 < b0} {t : TypeId} {u v : Value} {w : World} (h : (FOne g T b0 hT t u).holds v w) : SlV w 1 v 1 [u] := by
  obtain ⟨k, c, rfl, h2, h3, h4, h5, h6⟩ := h
  exact ⟨_, c, rfl, h2, h3, rfl, k, 0, fun _ => ⟨rfl, h6.lt⟩, fun j u hu => by rw [Nat.zero_add, h6.cell]; exact hu⟩
/-- a row to which one was put -/
def FPut (g : Nat) (T T1 : List (Nat × Obj)) (b0 B : Nat) (hT : ∀ x ∈ T, x.1 < b0) (h1 : ∀ k o o', (k, o) ∈ T1 → (k, o') ∈ T → o = o') (e : TypeId) (n : Nat) (xs : List Value) (v0 : Value) : Fact (ExtB g T) :=
  ⟨fun v w => Pushed T1 b0 B e n xs v w ∧ v.ownBlock ≠ some g ∧ ∀ k, v.ownBlock = some k → b0 ≤ k ∨ v0.ownBlock = some k, fun v w w' ⟨a, b, c⟩ hx => ⟨a.extB hx b hT h1, b, c⟩⟩
end Go.Proofs.YtdhjfckckghicaaDoor


namespace Go.Proofs.YtdhjfckckghicaaDoor
set_option linter.unusedVariables false
set_option linter.unusedSimpArgs false
set_option maxRecDepth 100000
open Go.RowKit

abbrev RnRw (uo un : Value) (en : List (Ex.Bs × Ex.Bs)) : List Rw := [strRw uo (Sr.olds en), strRw un (Sr.nows en)]
/-- a renamer: its rows, how many names it has given -/
abbrev RnO (B : Nat) (w : World) (g : Nat) (uo un : Value) (en : List (Ex.Bs × Ex.Bs)) (m : Nat) : Prop := Own B w g 51 [uo, un, .int .i64 (m : Int)] (RnRw uo un en)
abbrev RnT (g : Nat) (uo un : Value) (en : List (Ex.Bs × Ex.Bs)) : Nat → Prop := Tw g (RnRw uo un en)
abbrev RnTo (B : Nat) (w0 : World) (T : Nat → Prop) (w : World) (g : Nat) (uo un : Value) (en : List (Ex.Bs × Ex.Bs)) (m : Nat) : Prop := OwnTo B w0 T w g 51 [uo, un, .int .i64 (m : Int)] (RnRw uo un en)
/-- the table of powers of ten -/
def Pow (B : Nat) (w : World) : Prop := Lib.TabBelow Tryd.prog B w "internal/strconv.uint64pow10" .u64 Lib.pow10Tab
theorem Pow.later {B : Nat} {w w' : World} (h : Pow B w) (hb : Below B w w') : Pow B w' := fun w2 h2 => h w2 (hb.trans h2)

set_option maxHeartbeats 2000000 in
theorem bind_any (B : Nat) (w : World) (g : Nat) (uo un : Value) (en : List (Ex.Bs × Ex.Bs)) (m : Nat) (s : ByteArray) (hO : RnO B w g uo un en m) (hP : Pow B w) (hm : m < 1099511627776) (hn : en.length < 1099511627776) :
    Calls Tryd.prog 32 #[.pointer (some ⟨g, 0, none⟩), .string s] w fun e w' => e = .returned (.string (Ex.ba (Sr.vn m))) ∧ ∃ uo' un', RnTo B w (RnT g uo un en) w' g uo' un' (en ++ [(s.data.toList, Sr.vn m)]) (m + 1) := by
  have c0 : w.cell? ⟨g, 0, none⟩ = some uo := (hO.blk.cell 0).trans rfl
  have c1 : w.cell? ⟨g, 1, none⟩ = some un := (hO.blk.cell 1).trans rfl
  have c2 : w.cell? ⟨g, 2, none⟩ = some (.int .i64 (m : Int)) := (hO.blk.cell 2).trans rfl
  have hI := Tryd.strconv_Itoa (m : Int) (by omega) (by omega) w hP.here
  go_enter Tryd.func32, Tryd.ntmps32
  go_wp2_with fail
  refine hI.mono ?_
  rintro r w1 ⟨rfl, k, os, hw1⟩
  have hb1 : Below w.heap.size w w1 := by rw [hw1]; exact Lib.below_grow _ _ (Nat.le_refl _) _ _
  obtain ⟨t, ht⟩ : ∃ t : ByteArray, t = ⟨(Lib.itoa (m : Int)).toArray⟩ := ⟨_, rfl⟩
  rw [← ht]
  have hto : (⟨#[118]⟩ : ByteArray) ++ t = Ex.ba (Sr.vn m) := by rw [ht, Lib.itoa_nonneg]; rfl
  have HT := Lib.hid hto
  have O1 := hO.later hb1
  have hts : ¬ 9223372036854775807 < 1 + t.size := by
    have h1 := Lib.itoa_length_le (m : Int) (by omega) (by omega)
    have h2 : t.size = (Lib.itoa (m : Int)).length := by rw [ht]; simp [ByteArray.size]
    omega
  have hB1 := O1.blk
  have c2' : w1.cell? ⟨g, 2, none⟩ = some (.int .i64 (m : Int)) := (hB1.cell 2).trans rfl
  have hfz : w1.frozen? ⟨g, 2, none⟩ = false := hB1.frozen 2
  have hB2 : Blk (w1.setCell ⟨g, 2, none⟩ (.int .i64 ((m : Int) + 1))) g 51 [uo, un, .int .i64 ((m + 1 : Nat) : Int)] := hB1.set_ 2 _
  have T2 := O1.cells_to hB2 (grown_setCell w1 g 2 (.int .i64 ((m : Int) + 1)))
  have HO := Lib.hid (And.intro hO hb1)
  have HT' := Lib.hid ht
  clear hI hO hb1 hw1 ht hto O1 c0 c1 c2 hP hB1 hB2
  go_wp2_with fail
  generalize (w1.setCell ⟨g, 2, none⟩ (.int .i64 ((m : Int) + 1))) = W2 at T2 ⊢
  obtain ⟨u5, hu5⟩ : ∃ u : ByteArray, u = (⟨#[118]⟩ : ByteArray) ++ t := ⟨_, rfl⟩
  rw [← hu5]
  have HU := Lib.hid hu5
  clear hu5 c2' hfz hts
  have O2 := T2.own
  have hown1 : W2.ownsRow B 9 1 uo (Sr.olds en).length (strs (Sr.olds en)) := O2.row 0 rfl
  have hown2 : W2.ownsRow B 9 1 un (Sr.nows en).length (strs (Sr.nows en)) := O2.row 1 rfl
  have hBg := O2.blk
  have hgl := hBg.lt
  have hbase := O2.base
  have hap : ∀ k, uo.ownBlock = some k → un.ownBlock ≠ some k := O2.ap 0 1 _ _ rfl rfl (by decide)
  have hng1 : uo.ownBlock ≠ some g := O2.ng _ List.mem_cons_self
  have hng2 : un.ownBlock ≠ some g := O2.ng _ (List.mem_cons_of_mem _ List.mem_cons_self)
  obtain ⟨T1, hT1⟩ : ∃ T, T = tgt W2 uo (Sr.olds en).length (.string s) := ⟨_, rfl⟩
  obtain ⟨T2', hT2⟩ : ∃ T, T = tgt W2 un (Sr.nows en).length (.string u5) := ⟨_, rfl⟩
  have in1 : ∀ k o, (k, o) ∈ T1 → uo.ownBlock = some k := fun k o h => by rw [hT1] at h; exact tgt_own h
  have in2 : ∀ k o, (k, o) ∈ T2' → un.ownBlock = some k := fun k o h => by rw [hT2] at h; exact tgt_own h
  have hTb : ∀ x ∈ T1 ++ T2', x.1 < W2.heap.size := fun x hx => by
    rcases List.mem_append.1 hx with h | h
    · exact (hown1.lt _ (in1 x.1 x.2 h)).2
    · exact (hown2.lt _ (in2 x.1 x.2 h)).2
  have h11 : ∀ k o o', (k, o) ∈ T1 → (k, o') ∈ T1 ++ T2' → o = o' := fun k o o' h h' => by
    rcases List.mem_append.1 h' with h2 | h2
    · rw [hT1] at h h2; exact tgt_one h h2
    · exact absurd (in2 k o' h2) (hap k (in1 k o h))
  have h22 : ∀ k o o', (k, o) ∈ T2' → (k, o') ∈ T1 ++ T2' → o = o' := fun k o o' h h' => by
    rcases List.mem_append.1 h' with h2 | h2
    · exact absurd (in2 k o h) (hap k (in1 k o' h2))
    · rw [hT2] at h h2; exact tgt_one h h2
  have hTg : ∀ o, (g, o) ∉ T1 ++ T2' := fun o h => by
    rcases List.mem_append.1 h with h | h
    · exact hng1 (in1 g o h)
    · exact hng2 (in2 g o h)
  have hn63 : (Sr.olds en).length + 1 ≤ maxLen := by rw [Sr.olds_length]; unfold maxLen; omega
  have hn47 : ((Sr.olds en).length + 1) * 16 ≤ 140737488355328 := by rw [Sr.olds_length]; omega
  have hm63 : (Sr.nows en).length + 1 ≤ maxLen := by rw [Sr.nows_length]; unfold maxLen; omega
  have hm47 : ((Sr.nows en).length + 1) * 16 ≤ 140737488355328 := by rw [Sr.nows_length]; omega
  have hIE : ∀ (c : Nat) (ρ : Env) (w w' : World), (match c with | 0 => Blk w g 51 [uo, un, .int .i64 ((m + 1 : Nat) : Int)] | _ + 1 => Blk w g 51 [ρ 27, un, .int .i64 ((m + 1 : Nat) : Int)]) → Ext (T1 ++ T2') w w' → (match c with | 0 => Blk w' g 51 [uo, un, .int .i64 ((m + 1 : Nat) : Int)] | _ + 1 => Blk w' g 51 [ρ 27, un, .int .i64 ((m + 1 : Nat) : Int)]) := fun c ρ w w' h hx => by
    cases c with
    | zero => exact h.keeps hx.keeps (fun ⟨o, ho⟩ => hTg o ho)
    | succ c => exact h.keeps hx.keeps (fun ⟨o, ho⟩ => hTg o ho)
  -- what the appends find
  have at1 : ∀ w, ExtB g (T1 ++ T2') W2 w → ∀ k, uo.ownBlock = some k → w.heap[k]? = W2.heap[k]? ∨ ∃ o, (k, o) ∈ tgt W2 uo (Sr.olds en).length (.string s) ∧ w.heap[k]? = some o := fun w h k hk => by
    rcases h.block k (hown1.lt k hk).2 (fun e => hng1 (e ▸ hk)) with h | ⟨o, ho, e⟩
    · exact .inl h
    · rcases List.mem_append.1 ho with ho | ho
      · exact .inr ⟨o, by rw [← hT1]; exact ho, e⟩
      · exact absurd (in2 k o ho) (hap k hk)
  have at2 : ∀ w, ExtB g (T1 ++ T2') W2 w → ∀ k, un.ownBlock = some k → w.heap[k]? = W2.heap[k]? ∨ ∃ o, (k, o) ∈ tgt W2 un (Sr.nows en).length (.string u5) ∧ w.heap[k]? = some o := fun w h k hk => by
    rcases h.block k (hown2.lt k hk).2 (fun e => hng2 (e ▸ hk)) with h | ⟨o, ho, e⟩
    · exact .inl h
    · rcases List.mem_append.1 ho with ho | ho
      · exact absurd hk (hap k (in1 k o ho))
      · exact .inr ⟨o, by rw [← hT2]; exact ho, e⟩
  have ex1 : ∀ {w w' : World}, Ext (tgt W2 uo (Sr.olds en).length (.string s)) w w' → Ext (T1 ++ T2') w w' := fun h => h.mono fun x hx => List.mem_append_left _ (by rw [hT1]; exact hx)
  have ex2 : ∀ {w w' : World}, Ext (tgt W2 un (Sr.nows en).length (.string u5)) w w' → Ext (T1 ++ T2') w w' := fun h => h.mono fun x hx => List.mem_append_right _ (by rw [hT2]; exact hx)
  have one1 : (Value.string s).oneCell' = true := rfl
  have one2 : (Value.string u5).oneCell' = true := rfl
  have put1 : ∀ (w w' : World) (v' : Value), ExtB g (T1 ++ T2') W2 w → w'.ownsRow B 9 1 v' ((Sr.olds en).length + 1) (strs (Sr.olds en) ++ [.string s]) → (∀ k, v'.ownBlock = some k → k = w.heap.size ∨ uo.ownBlock = some k) → (∀ k, v'.ownBlock = some k → W2.heap.size ≤ k ∨ ∃ o, (k, o) ∈ tgt W2 uo (Sr.olds en).length (.string s) ∧ w'.heap[k]? = some o) →
      (FPut g (T1 ++ T2') T1 W2.heap.size B hTb h11 9 ((Sr.olds en).length + 1) (strs (Sr.olds en) ++ [.string s]) uo).holds v' w' := fun w w' v' hS h1 h2 h3 => by
    refine ⟨⟨h1, fun k hk => (h3 k hk).imp id fun ⟨o, ho, e⟩ => ⟨o, by rw [hT1]; exact ho, e⟩⟩, fun hk => ?_, fun k hk => (h2 k hk).imp (fun e => by have := hS.size; omega) id⟩
    rcases h2 g hk with e | e
    · have := hS.size; omega
    · exact hng1 e
  have put2 : ∀ (w w' : World) (v' : Value), ExtB g (T1 ++ T2') W2 w → w'.ownsRow B 9 1 v' ((Sr.nows en).length + 1) (strs (Sr.nows en) ++ [.string u5]) → (∀ k, v'.ownBlock = some k → k = w.heap.size ∨ un.ownBlock = some k) → (∀ k, v'.ownBlock = some k → W2.heap.size ≤ k ∨ ∃ o, (k, o) ∈ tgt W2 un (Sr.nows en).length (.string u5) ∧ w'.heap[k]? = some o) →
      (FPut g (T1 ++ T2') T2' W2.heap.size B hTb h22 9 ((Sr.nows en).length + 1) (strs (Sr.nows en) ++ [.string u5]) un).holds v' w' := fun w w' v' hS h1 h2 h3 => by
    refine ⟨⟨h1, fun k hk => (h3 k hk).imp id fun ⟨o, ho, e⟩ => ⟨o, by rw [hT2]; exact ho, e⟩⟩, fun hk => ?_, fun k hk => (h2 k hk).imp (fun e => by have := hS.size; omega) id⟩
    rcases h2 g hk with e | e
    · have := hS.size; omega
    · exact hng2 e
  have pair12 : ∀ (w : World) (a b : Value), ExtB g (T1 ++ T2') W2 w → (FPut g (T1 ++ T2') T1 W2.heap.size B hTb h11 9 ((Sr.olds en).length + 1) (strs (Sr.olds en) ++ [.string s]) uo).holds a w → (∀ k, b.ownBlock = some k → k = w.heap.size ∨ un.ownBlock = some k) → ∀ k, a.ownBlock = some k → b.ownBlock ≠ some k := fun w a b hS ha hb k hk e => by
    have hlt := (ha.1.1.lt k hk).2
    rcases hb k e with e1 | e1
    · omega
    · rcases ha.2.2 k hk with e2 | e2
      · have := (hown2.lt k e1).2; omega
      · exact hap k e2 e1
  have hS0 : ExtB g (T1 ++ T2') W2 W2.drew := (Ext.drew W2).but
  have keepT : ∀ k o, (k, o) ∈ T1 ++ T2' → RnT g uo un en k := fun k o h => by
    rcases List.mem_append.1 h with h | h
    · exact .inr ⟨_, List.mem_cons_self, in1 k o h⟩
    · exact .inr ⟨_, List.mem_cons_of_mem _ List.mem_cons_self, in2 k o h⟩
  have HM := Lib.hid (And.intro T2 keepT)
  clear keepT
  obtain ⟨no, hno⟩ : ∃ n, n = (Sr.olds en).length := ⟨_, rfl⟩
  obtain ⟨nn, hnn⟩ : ∃ n, n = (Sr.nows en).length := ⟨_, rfl⟩
  rw [← hno] at hown1 hn63 hn47 at1 ex1 put1 pair12
  rw [← hnn] at hown2 hm63 hm47 at2 ex2 put2
  have HNN := Lib.hid (And.intro hno hnn)
  clear hno hnn hT1 hT2 in1 in2 T2 O2 hng1 hng2
  refine wp_walk_pr 19 (fun i => ([18] : List Nat).contains i) (fun i => ([1] : List Nat).contains i) [18] (by intro m h; simpa using h) (by kernel_rfl) (by kernel_rfl) (by kernel_rfl) [27] (by kernel_rfl) 27 34 (fun a b => ∀ k, a.ownBlock = some k → b.ownBlock ≠ some k) (by kernel_rfl) (Ext (T1 ++ T2')) (ExtB g (T1 ++ T2')) (fun _ _ h => h.but) (fun w => ExtB g (T1 ++ T2') W2 w)
    (fun c ρ w => match c with | 0 => Blk w g 51 [uo, un, .int .i64 ((m + 1 : Nat) : Int)] | _ + 1 => Blk w g 51 [ρ 27, un, .int .i64 ((m + 1 : Nat) : Int)]) hS0 (fun _ => hBg) hIE (fun _ _ _ h => h) (fun c ρ ρ' w hL h => by cases c with | zero => exact h | succ c => (have := hL 27 (by simp); dsimp only; rw [← this]; exact h)) ?_
  simp only [List.length_cons, List.length_nil, Nat.reduceAdd, Nat.reduceSub, List.take_succ_cons, List.take_zero, List.drop_succ_cons, List.drop_zero]
  repeat (first | (refine qsettle_skip (by rfl) (fun _ => by rfl) ?_; (simp only [Act.put, List.setIfInBounds_toArray, List.set_cons_zero, List.set_cons_succ])) | (refine' qsettle_run (by rfl) (fun _ _ => Ext.refl _) (fun _ => by rfl) ?_ ?_; rotate_left; (focus (intro ρ w hS hF hP; go_simp; try with_reducible rfl)); (simp only [Act.put, List.setIfInBounds_toArray, List.set_cons_zero, List.set_cons_succ])) | (refine' qsettle_run (by rfl) (fun _ _ => Ext.refl _) (fun _ => by rfl) ?_ ?_; rotate_left; (focus (intro ρ w hS hF hP; have hI : Blk w g 51 [uo, un, .int .i64 ((m + 1 : Nat) : Int)] := hP (by rfl); have d0 : w.cell? ⟨g, 0, none⟩ = some uo := (hI.cell 0).trans rfl; have d1 : w.cell? ⟨g, 1, none⟩ = some un := (hI.cell 1).trans rfl; clear hI hP; go_simp; try with_reducible rfl)); (simp only [Act.put, List.setIfInBounds_toArray, List.set_cons_zero, List.set_cons_succ])))
  (refine qsettle_known (FOne g (T1 ++ T2') W2.heap.size hTb 9 (.string s)) (by rfl) (by rfl) (fun _ => by rfl) ?_ ?_; (focus (intro ρ w hS hF hP K hK; (simp only [Act.put, List.setIfInBounds_toArray, List.set_cons_zero, List.set_cons_succ] at hK); go_simp; have hbl : Below w.heap.size w (w.alloc (.cells #[.string s] 9)) := below_alloc (Below.refl _ _) _; exact hK _ _ ⟨w.heap.size, 1, rfl, by decide, by decide, hS.size, by have := hS.size; omega, Blk.new w 9 [.string s]⟩ (hS.trans (Ext.of_below hbl).but) (Ext.of_below hbl))); (simp only [Act.put, List.setIfInBounds_toArray, List.set_cons_zero, List.set_cons_succ]))
  (refine qsettle_known (FPut g (T1 ++ T2') T1 W2.heap.size B hTb h11 9 (no + 1) (strs (Sr.olds en) ++ [.string s]) uo) (by rfl) (by rfl) (fun _ => by rfl) ?_ ?_; (focus (intro ρ w hS hF hP K hK; (simp only [Act.put, List.setIfInBounds_toArray, List.set_cons_zero, List.set_cons_succ] at hK); refine oper_push (.tmp 24) (.tmp 26) B _ _ _ _ Tryd.underlying25 info_str rfl hown1 (at1 w hS) (FOne.sl (hF.1 (by rfl))) one1 hn63 hn47 (Nat.le_trans hbase hS.size) hS.size rfl rfl rfl ?_; intro v' w' h1 h2 h3 h4; exact hK v' w' (put1 w w' v' hS h1 h3 h4) (hS.trans (ex1 h2).but) (ex1 h2))); (simp only [Act.put, List.setIfInBounds_toArray, List.set_cons_zero, List.set_cons_succ]))
  repeat (first | (refine qsettle_skip (by rfl) (fun _ => by rfl) ?_; (simp only [Act.put, List.setIfInBounds_toArray, List.set_cons_zero, List.set_cons_succ])) | (refine' qsettle_run (by rfl) (fun _ _ => Ext.refl _) (fun _ => by rfl) ?_ ?_; rotate_left; (focus (intro ρ w hS hF hP; go_simp; try with_reducible rfl)); (simp only [Act.put, List.setIfInBounds_toArray, List.set_cons_zero, List.set_cons_succ])) | (refine' qsettle_run (by rfl) (fun _ _ => Ext.refl _) (fun _ => by rfl) ?_ ?_; rotate_left; (focus (intro ρ w hS hF hP; have hI : Blk w g 51 [uo, un, .int .i64 ((m + 1 : Nat) : Int)] := hP (by rfl); have d0 : w.cell? ⟨g, 0, none⟩ = some uo := (hI.cell 0).trans rfl; have d1 : w.cell? ⟨g, 1, none⟩ = some un := (hI.cell 1).trans rfl; clear hI hP; go_simp; try with_reducible rfl)); (simp only [Act.put, List.setIfInBounds_toArray, List.set_cons_zero, List.set_cons_succ])))
  (refine qsettle_known (FOne g (T1 ++ T2') W2.heap.size hTb 9 (.string u5)) (by rfl) (by rfl) (fun _ => by rfl) ?_ ?_; (focus (intro ρ w hS hF hP K hK; (simp only [Act.put, List.setIfInBounds_toArray, List.set_cons_zero, List.set_cons_succ] at hK); go_simp; have hbl : Below w.heap.size w (w.alloc (.cells #[.string u5] 9)) := below_alloc (Below.refl _ _) _; exact hK _ _ ⟨w.heap.size, 1, rfl, by decide, by decide, hS.size, by have := hS.size; omega, Blk.new w 9 [.string u5]⟩ (hS.trans (Ext.of_below hbl).but) (Ext.of_below hbl))); (simp only [Act.put, List.setIfInBounds_toArray, List.set_cons_zero, List.set_cons_succ]))
  (refine qsettle_pair (FPut g (T1 ++ T2') T2' W2.heap.size B hTb h22 9 (nn + 1) (strs (Sr.nows en) ++ [.string u5]) un) (by rfl) (by rfl) (fun _ => by rfl) ?_ ?_; (focus (intro ρ w hS hF hP K hK; (simp only [Act.put, List.setIfInBounds_toArray, List.set_cons_zero, List.set_cons_succ] at hK); refine oper_push (.tmp 31) (.tmp 33) B _ _ _ _ Tryd.underlying25 info_str rfl hown2 (at2 w hS) (FOne.sl (hF.1 (by rfl))) one2 hm63 hm47 (Nat.le_trans hbase hS.size) hS.size rfl rfl rfl ?_; intro v' w' h1 h2 h3 h4; exact hK v' w' (put2 w w' v' hS h1 h3 h4) (pair12 w _ v' hS (hF.2.1 (by rfl)) h3) (hS.trans (ex2 h2).but) (ex2 h2))); (simp only [Act.put, List.setIfInBounds_toArray, List.set_cons_zero, List.set_cons_succ]))
  repeat (first | (refine qsettle_skip (by rfl) (fun _ => by rfl) ?_; (simp only [Act.put, List.setIfInBounds_toArray, List.set_cons_zero, List.set_cons_succ])) | (refine' qsettle_run (by rfl) (fun _ _ => Ext.refl _) (fun _ => by rfl) ?_ ?_; rotate_left; (focus (intro ρ w hS hF hP; go_simp; try with_reducible rfl)); (simp only [Act.put, List.setIfInBounds_toArray, List.set_cons_zero, List.set_cons_succ])))
  (refine qsettle_turn (v := undef) (by rfl) (fun _ => by rfl) ?_ ?_; (focus (intro ρ w hS hF hP K hK; (simp only [Act.put, List.setIfInBounds_toArray, List.set_cons_zero, List.set_cons_succ] at hK); have hI : Blk w g 51 [uo, un, .int .i64 ((m + 1 : Nat) : Int)] := hP (by rfl); have h27 := hF.2.2.1 (by rfl); obtain ⟨V, cV, e27, -, -⟩ := own_slice h27.1.1; have hcs : (ρ 27).cells = #[ρ 27] := (by rw [e27]; rfl); have hoc : (ρ 27).oneCell' = true := (by rw [e27]; rfl); refine oper_set hI 0 (ρ 27) (by kernel_rfl) (by simp) hcs hoc (.tmp 36) (.tmp 27) rfl rfl rfl ?_; intro w' hB hg; exact hK w' (hS.trans (ExtB.of_grown hg)) hB (ExtB.of_grown hg))); (simp only [Act.put, List.setIfInBounds_toArray, List.set_cons_zero, List.set_cons_succ]))
  refine qsettle_nil ?_
  intro ρ w4 hS hI hF hR
  have hI : Blk w4 g 51 [ρ 27, un, .int .i64 ((m + 1 : Nat) : Int)] := hI
  have h27 := hF 27 (FPut g (T1 ++ T2') T1 W2.heap.size B hTb h11 9 (no + 1) (strs (Sr.olds en) ++ [.string s]) uo) (by repeat (first | exact List.mem_cons_self | apply List.mem_cons_of_mem))
  have h34 := hF 34 (FPut g (T1 ++ T2') T2' W2.heap.size B hTb h22 9 (nn + 1) (strs (Sr.nows en) ++ [.string u5]) un) (by repeat (first | exact List.mem_cons_self | apply List.mem_cons_of_mem))
  have hR := hR ⟨15, _, by decide, rfl, rfl⟩
  clear hF at1 at2 ex1 ex2 put1 put2 pair12 hIE hS0
  dsimp only
  generalize ρ 27 = v27 at hI h27 hR ⊢
  generalize ρ 34 = v34 at h34 hR ⊢
  obtain ⟨⟨o27, -⟩, g27, n27⟩ := h27
  obtain ⟨⟨o34, -⟩, g34, n34⟩ := h34
  have hend : ∀ w5, Blk w5 g 51 [v27, v34, .int .i64 ((m + 1 : Nat) : Int)] → w4.grownBy w5 (some g) → RnTo B w (RnT g uo un en) w5 g v27 v34 (en ++ [(s.data.toList, Sr.vn m)]) (m + 1) := fun w5 b5 g5 => by
    obtain ⟨T2, keepT⟩ := HM.out
    obtain ⟨hO, hb1⟩ := HO.out
    obtain ⟨hno, hnn⟩ := HNN.out
    have hs4 := hS.size
    have e1 : Sr.olds (en ++ [(s.data.toList, Sr.vn m)]) = Sr.olds en ++ [s] := by rw [Sr.olds_snoc, Ex.ba_data]
    have e2 : Sr.nows (en ++ [(s.data.toList, Sr.vn m)]) = Sr.nows en ++ [u5] := by rw [Sr.nows_snoc, HU.out, HT.out]
    have k5 : Keeps (fun k => k = g) w4 w5 := (Keeps.of_grown g5).mono (fun i hi => by injection hi)
    have r27 : (strRw v27 (Sr.olds (en ++ [(s.data.toList, Sr.vn m)]))).at_ B w5 := by
      rw [e1]
      have := own_keeps o27 k5 (fun k hk e => g27 (e ▸ hk))
      simpa [Rw.at_, strRw, strs, hno] using this
    have r34 : (strRw v34 (Sr.nows (en ++ [(s.data.toList, Sr.vn m)]))).at_ B w5 := by
      rw [e2]
      have := own_keeps o34 k5 (fun k hk e => g34 (e ▸ hk))
      simpa [Rw.at_, strRw, strs, hnn] using this
    have own5 : RnO B w5 g v27 v34 (en ++ [(s.data.toList, Sr.vn m)]) (m + 1) := by
      refine ⟨b5, fun r hr => ?_, fun i j r r' hr hr' hij => ?_, fun r hr => ?_, by have := k5.size; omega, T2.own.lo⟩
      · rcases List.mem_cons.1 hr with rfl | hr
        · exact r27
        · rw [List.mem_singleton.1 hr]; exact r34
      · match i, j, hr, hr' with
        | 0, 0, _, _ => exact absurd rfl hij
        | 0, 1, hr, hr' => injection hr with hr; injection hr' with hr'; subst hr hr'; exact hR
        | 1, 0, hr, hr' => injection hr with hr; injection hr' with hr'; subst hr hr'; exact fun k h1 h2 => hR k h2 h1
        | 1, 1, _, _ => exact absurd rfl hij
        | 0, j + 2, _, hr' => cases hr'
        | 1, j + 2, _, hr' => cases hr'
        | i + 2, _, hr, _ => cases hr
      · rcases List.mem_cons.1 hr with rfl | hr
        · exact g27
        · rw [List.mem_singleton.1 hr]; exact g34
    have kk : Keeps (RnT g uo un en) W2 w5 := (hS.keeps.mono (fun k hk => hk.elim (fun e => .inl e) (fun ⟨o, ho⟩ => keepT k o ho))).trans (k5.mono (fun k hk => .inl hk))
    have hto : RnTo B W2 (RnT g uo un en) w5 g v27 v34 (en ++ [(s.data.toList, Sr.vn m)]) (m + 1) := ⟨own5, kk, fun k hk => by
      rcases hk with rfl | ⟨r, hr, hk⟩
      · exact .inl (.inl rfl)
      · rcases List.mem_cons.1 hr with rfl | hr
        · rcases n27 k hk with h | h
          · exact .inr h
          · exact .inl (.inr ⟨_, List.mem_cons_self, h⟩)
        · rw [List.mem_singleton.1 hr] at hk
          rcases n34 k hk with h | h
          · exact .inr h
          · exact .inl (.inr ⟨_, List.mem_cons_of_mem _ List.mem_cons_self, h⟩)⟩
    exact (T2.step hto).since hb1
  obtain ⟨V34, c34, rfl, -, -⟩ := own_slice o34
  have HR5 : u5 = Ex.ba (Sr.vn m) := by rw [HU.out, HT.out]
  have HR5 := Lib.hid HR5
  clear o27 o34 g27 g34 n27 n34 hR hS hap h11 h22 hTg hTb
  go_wp2_with (first | (refine wpl_set_blk hI 1 _ (by kernel_rfl) (by simp) rfl rfl rfl rfl rfl rfl ?_; intro w5 hB5 hg5; have hT5 := hend w5 hB5 hg5; clear hend hI hB5 hg5) | fail)
  go_ret
  exact ⟨rfl, _, _, hT5⟩
end Go.Proofs.YtdhjfckckghicaaDoor


namespace Go.Proofs.YtdhjfckckghicaaDoor
set_option linter.unusedVariables false
set_option linter.unusedSimpArgs false
set_option maxRecDepth 100000
open Go.RowKit

/-- an expression as the program makes it, or none -/
def XZ (B : Nat) (w : World) (cs : List Value) (e : Ex.X) : Prop := XN B w cs e ∨ (e = .bad ∧ cs = xcells 0 0 ⟨#[]⟩ none 0 0)
section
variable {B B' : Nat} {w w' : World} {cs : List Value} {e : Ex.X}
theorem XZ.form (h : XZ B w cs e) : ∃ k n s A len cap, cs = xcells k n s A len cap ∧ len ≤ cap ∧ cap ≤ maxLen := by
  rcases h with h | ⟨rfl, rfl⟩
  · exact XRN.form h
  · exact ⟨0, 0, ⟨#[]⟩, none, 0, 0, rfl, Nat.le_refl _, Nat.zero_le _⟩
theorem XZ.keep (h : XZ B w cs e) (hB : B ≤ B') (hk : ∀ p : Addr, p.block < B → w'.cell? p = w.cell? p) : XZ B' w' cs e := h.imp (fun h => XRN.keep h hB hk) id
theorem XZ.later (h : XZ B w cs e) (hb : Below B w w') : XZ B w' cs e := h.imp (fun h => XRN.later h hb) id
theorem XZ.mono (h : XZ B w cs e) (hB : B ≤ B') (hk : ∀ (p : Addr) (v : Value), p.block < B → w.cell? p = some v → w'.cell? p = some v) : XZ B' w' cs e := h.imp (fun h => XRN.mono h hB hk) id
theorem XZ.xr (h : XZ B w cs e) : XR B w cs e := by
  rcases h with h | ⟨rfl, rfl⟩
  · exact XRN.read h
  · exact .bad 0 0 ⟨#[]⟩ none 0 0 (Nat.le_refl _) (Nat.zero_le _) (by decide) (by decide) (by omega)
theorem XZ.none : XZ B w (xcells 0 0 ⟨#[]⟩ none 0 0) .bad := .inr ⟨rfl, rfl⟩
end

/-- what lies behind an address, read as n statements -/
inductive ZR (B : Nat) (w : World) : Option Addr → Nat → St.P → Prop
  | nil (A : Option Addr) : ZR B w A 0 .nil
  | cons (g o n : Nat) (k : Int) (nm : ByteArray) (ca cb : List Value) (ea eb : Ex.X) (D : Option Addr) (dl dc : Nat) (E : Option Addr) (el ec : Nat) (body els rest : St.P) : g < B → dl ≤ dc → dc ≤ maxLen → el ≤ ec → ec ≤ maxLen →
      (∀ j u, (stcells k nm ca cb D dl dc E el ec)[j]? = some u → w.cell? ⟨g, o + j, none⟩ = some u) → XZ B w ca ea → XZ B w cb eb → ZR B w D dl body → ZR B w E el els → ZR B w (some ⟨g, o + 12, none⟩) n rest →
      ZR B w (some ⟨g, o, none⟩) (n + 1) (.cons k nm.data.toList ea eb body els rest)

theorem ZR.length {B : Nat} {w : World} {A : Option Addr} {n : Nat} {p : St.P} (h : ZR B w A n p) : n = p.length := by
  induction h with
  | nil A => rfl
  | cons g o n k nm ca cb ea eb D dl dc E el ec body els rest h1 h2 h3 h4 h5 h6 h7 h8 _ _ _ i1 i2 i3 => rw [St.P.length, i3]
theorem ZR.keep {B B' : Nat} {w w' : World} {A : Option Addr} {n : Nat} {p : St.P} (h : ZR B w A n p) (hB : B ≤ B') (hk : ∀ p : Addr, p.block < B → w'.cell? p = w.cell? p) : ZR B' w' A n p := by
  induction h with
  | nil A => exact .nil A
  | cons g o n k nm ca cb ea eb D dl dc E el ec body els rest h1 h2 h3 h4 h5 h6 h7 h8 _ _ _ i1 i2 i3 =>
    exact .cons g o n k nm ca cb ea eb D dl dc E el ec body els rest (Nat.lt_of_lt_of_le h1 hB) h2 h3 h4 h5 (fun j u hu => (hk ⟨g, o + j, none⟩ h1).trans (h6 j u hu)) (h7.keep hB hk) (h8.keep hB hk) i1 i2 i3
theorem ZR.later {B : Nat} {w w' : World} {A : Option Addr} {n : Nat} {p : St.P} (h : ZR B w A n p) (hb : Below B w w') : ZR B w' A n p := h.keep (Nat.le_refl _) (fun _ hp => hb.cell hp)
theorem ZR.up {B B' : Nat} {w : World} {A : Option Addr} {n : Nat} {p : St.P} (h : ZR B w A n p) (hB : B ≤ B') : ZR B' w A n p := h.keep hB (fun _ _ => rfl)
theorem ZR.alloc {B : Nat} {w : World} {A : Option Addr} {n : Nat} {p : St.P} (h : ZR B w A n p) (hB : B ≤ w.heap.size) (o : Obj) : ZR B (w.alloc o) A n p := h.later ((Below.refl _ _).alloc hB o)

theorem ZR.step {B n : Nat} {w : World} {A : Option Addr} {q : St.P} (h : ZR B w A (n + 1) q) : ∃ (g o : Nat) (k : Int) (nm : ByteArray) (ca cb : List Value) (ea eb : Ex.X) (D : Option Addr) (dl dc : Nat) (E : Option Addr) (el ec : Nat) (body els rest : St.P),
    A = some ⟨g, o, none⟩ ∧ q = .cons k nm.data.toList ea eb body els rest ∧ g < B ∧ (dl ≤ dc ∧ dc ≤ maxLen ∧ el ≤ ec ∧ ec ≤ maxLen) ∧ (∀ j u, (stcells k nm ca cb D dl dc E el ec)[j]? = some u → w.cell? ⟨g, o + j, none⟩ = some u) ∧
      XZ B w ca ea ∧ XZ B w cb eb ∧ ZR B w D dl body ∧ ZR B w E el els ∧ ZR B w (some ⟨g, o + 12, none⟩) n rest := by
  cases h with
  | cons g o n k nm ca cb ea eb D dl dc E el ec body els rest h1 h2 h3 h4 h5 h6 h7 h8 h9 h10 h11 => exact ⟨g, o, k, nm, ca, cb, ea, eb, D, dl, dc, E, el, ec, body, els, rest, rfl, rfl, h1, ⟨h2, h3, h4, h5⟩, h6, h7, h8, h9, h10, h11⟩
theorem ZR.zero {B : Nat} {w : World} {A : Option Addr} {q : St.P} (h : ZR B w A 0 q) : q = .nil := by cases h; rfl
/-- a place for what lies behind an address -/
theorem ZR.place {B n : Nat} {w : World} {A : Option Addr} {q : St.P} (h : ZR B w A n q) : ∃ g o, (0 < n → A = some ⟨g, o, none⟩) ∧ ZR B w (some ⟨g, o + 0 * 12, none⟩) (n - 0) q := by
  cases h with
  | nil => exact ⟨0, 0, fun h => by omega, .nil _⟩
  | cons g o n k nm ca cb ea eb D dl dc E el ec body els rest h1 h2 h3 h4 h5 h6 h7 h8 h9 h10 h11 =>
    exact ⟨g, o, fun _ => rfl, .cons g (o + 0 * 12) n k nm ca cb ea eb D dl dc E el ec body els rest h1 h2 h3 h4 h5 (by simpa using h6) h7 h8 h9 h10 (by simpa using h11)⟩
/-- the next one's twelve cells, one by one -/
theorem ZR.next {B n k : Nat} {g o : Nat} {w : World} {q : St.P} (h : ZR B w (some ⟨g, o + k * 12, none⟩) n q) (hn : 0 < n) : ∃ (kd : Int) (nm : ByteArray) (ak an bk bn : Int) (sa sb : ByteArray) (aA bA : Option Addr) (al ac bl bc : Nat) (ea eb : Ex.X) (D : Option Addr) (dl dc : Nat) (E : Option Addr) (el ec : Nat) (body els rest : St.P),
    q = .cons kd nm.data.toList ea eb body els rest ∧ g < B ∧ (dl ≤ dc ∧ dc ≤ maxLen ∧ el ≤ ec ∧ ec ≤ maxLen) ∧
      (∀ j u, (stcells kd nm (xcells ak an sa aA al ac) (xcells bk bn sb bA bl bc) D dl dc E el ec)[j]? = some u → w.cell? ⟨g, o + k * 12 + j, none⟩ = some u) ∧
      XZ B w (xcells ak an sa aA al ac) ea ∧ XZ B w (xcells bk bn sb bA bl bc) eb ∧ ZR B w D dl body ∧ ZR B w E el els ∧ ZR B w (some ⟨g, o + (k + 1) * 12, none⟩) (n - 1) rest := by
  obtain ⟨m, rfl⟩ : ∃ m, n = m + 1 := ⟨n - 1, by omega⟩
  obtain ⟨g', o', kd, nm, ca, cb, ea, eb, D, dl, dc, E, el, ec, body, els, rest, hA, hq, h1, h2, h3, h4, h5, h6, h7, h8⟩ := h.step
  injection hA with hA
  injection hA with e1 e2
  subst e1 e2
  obtain ⟨ak, an, sa, aA, al, ac, rfl, -, -⟩ := h4.form
  obtain ⟨bk, bn, sb, bA, bl, bc, rfl, -, -⟩ := h5.form
  refine ⟨kd, nm, ak, an, bk, bn, sa, sb, aA, bA, al, ac, bl, bc, ea, eb, D, dl, dc, E, el, ec, body, els, rest, hq, h1, h2, h3, h4, h5, h6, h7, ?_⟩
  rw [Nat.add_mul, ← Nat.add_assoc, Nat.one_mul]
  exact h8

/-- cells that read as n statements -/
inductive ZC (B : Nat) (w : World) : List Value → Nat → St.P → Prop
  | nil : ZC B w [] 0 .nil
  | cons (n : Nat) (k : Int) (nm : ByteArray) (ca cb : List Value) (ea eb : Ex.X) (D : Option Addr) (dl dc : Nat) (E : Option Addr) (el ec : Nat) (body els rest : St.P) (cs : List Value) : dl ≤ dc → dc ≤ maxLen → el ≤ ec → ec ≤ maxLen →
      XZ B w ca ea → XZ B w cb eb → ZR B w D dl body → ZR B w E el els → ZC B w cs n rest → ZC B w (stcells k nm ca cb D dl dc E el ec ++ cs) (n + 1) (.cons k nm.data.toList ea eb body els rest)

theorem zcells_length {B : Nat} {w : World} {k : Int} {nm : ByteArray} {ca cb : List Value} {ea eb : Ex.X} {D E : Option Addr} {dl dc el ec : Nat} (ha : XZ B w ca ea) (hb : XZ B w cb eb) : (stcells k nm ca cb D dl dc E el ec).length = 12 := by
  obtain ⟨_, _, _, _, _, _, rfl, -, -⟩ := ha.form
  obtain ⟨_, _, _, _, _, _, rfl, -, -⟩ := hb.form
  rfl
section
variable {B B' n : Nat} {w w' : World} {cs : List Value} {p : St.P}
theorem ZC.length (h : ZC B w cs n p) : cs.length = n * 12 := by
  induction h with
  | nil => rfl
  | cons n k nm ca cb ea eb D dl dc E el ec body els rest cs h1 h2 h3 h4 h5 h6 h7 h8 _ ih => rw [List.length_append, ih, zcells_length h5 h6]; omega
theorem ZC.keep (h : ZC B w cs n p) (hB : B ≤ B') (hk : ∀ p : Addr, p.block < B → w'.cell? p = w.cell? p) : ZC B' w' cs n p := by
  induction h with
  | nil => exact .nil
  | cons n k nm ca cb ea eb D dl dc E el ec body els rest cs h1 h2 h3 h4 h5 h6 h7 h8 _ ih => exact .cons n k nm ca cb ea eb D dl dc E el ec body els rest cs h1 h2 h3 h4 (h5.keep hB hk) (h6.keep hB hk) (h7.keep hB hk) (h8.keep hB hk) ih
theorem ZC.later (h : ZC B w cs n p) (hb : Below B w w') : ZC B w' cs n p := h.keep (Nat.le_refl _) fun _ hp => hb.cell hp
theorem ZC.step (h : ZC w.heap.size w cs n p) (hb : Below w.heap.size w w') : ZC w'.heap.size w' cs n p := h.keep hb.size fun _ hp => hb.cell hp
theorem ZR.step_ {A : Option Addr} (h : ZR w.heap.size w A n p) (hb : Below w.heap.size w w') : ZR w'.heap.size w' A n p := h.keep hb.size fun _ hp => hb.cell hp
theorem XZ.step_ {ca : List Value} {e : Ex.X} (h : XZ w.heap.size w ca e) (hb : Below w.heap.size w w') : XZ w'.heap.size w' ca e := h.keep hb.size fun _ hp => hb.cell hp
theorem ZC.append {cs' : List Value} {n' : Nat} {p' : St.P} (h : ZC B w cs n p) (h' : ZC B w cs' n' p') : ZC B w (cs ++ cs') (n + n') (p ++ p') := by
  induction h with
  | nil => simpa [St.P.nil_append] using h'
  | cons n k nm ca cb ea eb D dl dc E el ec body els rest cs h1 h2 h3 h4 h5 h6 h7 h8 _ ih =>
    rw [St.P.cons_append, List.append_assoc, show n + 1 + n' = (n + n') + 1 by omega]
    exact .cons _ k nm ca cb ea eb D dl dc E el ec body els _ _ h1 h2 h3 h4 h5 h6 h7 h8 ih
theorem ZC.one {k : Int} {nm : ByteArray} {ca cb : List Value} {ea eb : Ex.X} {D : Option Addr} {dl dc : Nat} {E : Option Addr} {el ec : Nat} {body els : St.P} (h : dl ≤ dc ∧ dc ≤ maxLen ∧ el ≤ ec ∧ ec ≤ maxLen) (h5 : XZ B w ca ea) (h6 : XZ B w cb eb) (h7 : ZR B w D dl body) (h8 : ZR B w E el els) : ZC B w (stcells k nm ca cb D dl dc E el ec) 1 (.cons k nm.data.toList ea eb body els .nil) := by
  have := ZC.cons 0 k nm ca cb ea eb D dl dc E el ec body els .nil [] h.1 h.2.1 h.2.2.1 h.2.2.2 h5 h6 h7 h8 .nil
  rwa [List.append_nil] at this
theorem ZC.read (h : ZC B w cs n p) (hB : B ≤ B') : ∀ (g o : Nat), (n ≠ 0 → g < B') → (∀ j u, cs[j]? = some u → w.cell? ⟨g, o + j, none⟩ = some u) → ZR B' w (some ⟨g, o, none⟩) n p := by
  induction h with
  | nil => exact fun _ _ _ _ => .nil _
  | cons n k nm ca cb ea eb D dl dc E el ec body els rest cs h1 h2 h3 h4 h5 h6 h7 h8 _ ih =>
    intro g o hg hc
    refine .cons g o n k nm ca cb ea eb D dl dc E el ec body els rest (hg (by omega)) h1 h2 h3 h4 (fun j u hu => hc j u (by
      rw [List.getElem?_append_left (List.getElem?_eq_some_iff.1 hu).1]
      exact hu)) (h5.keep hB fun _ _ => rfl) (h6.keep hB fun _ _ => rfl) (h7.up hB) (h8.up hB) (ih g (o + 12) (fun _ => hg (by omega)) fun j u hu => ?_)
    have hl := zcells_length (k := k) (nm := nm) (D := D) (dl := dl) (dc := dc) (E := E) (el := el) (ec := ec) h5 h6
    have := hc (12 + j) u (by rw [List.getElem?_append_right (by omega), hl]; simpa using hu)
    rwa [← Nat.add_assoc] at this
theorem ZC.of_cells {A : Option Addr} (h : ZC B w cs n p) (hc : Cells w B' A cs) (hB : B ≤ B') : ZR B' w A n p := by
  by_cases h0 : n = 0
  · subst h0
    cases h
    exact .nil _
  obtain ⟨b, o, rfl, hb, hc⟩ := hc.at_ (fun e => by have := h.length; rw [e] at this; simp at this; omega)
  exact h.read hB b o (fun _ => hb) hc
theorem ZR.flat {A : Option Addr} (h : ZR B w A n p) : ∃ cs, ZC B w cs n p ∧ Cells w B A cs := by
  induction h with
  | nil A => exact ⟨[], .nil, Cells.nil _ _ _⟩
  | cons g o n k nm ca cb ea eb D dl dc E el ec body els rest h1 h2 h3 h4 h5 h6 h7 h8 h9 h10 _ _ _ ih =>
    obtain ⟨cs, hpc, hcc⟩ := ih
    refine ⟨_, .cons n k nm ca cb ea eb D dl dc E el ec body els rest cs h2 h3 h4 h5 h7 h8 h9 h10 hpc, g, o, fun _ => ⟨rfl, h1⟩, fun j u hu => ?_⟩
    have hl := zcells_length (k := k) (nm := nm) (D := D) (dl := dl) (dc := dc) (E := E) (el := el) (ec := ec) h7 h8
    by_cases hj : j < 12
    · rw [List.getElem?_append_left (by omega)] at hu
      exact h6 j u hu
    · rw [List.getElem?_append_right (by omega), hl] at hu
      obtain ⟨b, o', e, _, hc⟩ := hcc.at_ (fun e => by rw [e] at hu; simp at hu)
      injection e with e
      injection e with e1 e2
      subst e1 e2
      have := hc _ u hu
      rwa [show o + 12 + (j - 12) = o + j by omega] at this
end
theorem ZC.one_cells {B n : Nat} {w : World} {cs : List Value} {p : St.P} (h : ZC B w cs n p) : ∀ u ∈ cs, u.oneCell' = true := by
  induction h with
  | nil => intro u hu; cases hu
  | cons n k nm ca cb ea eb D dl dc E el ec body els rest cs h1 h2 h3 h4 h5 h6 h7 h8 _ ih =>
    intro u hu
    rcases List.mem_append.1 hu with hu | hu
    · obtain ⟨_, _, _, _, _, _, rfl, -, -⟩ := h5.form
      obtain ⟨_, _, _, _, _, _, rfl, -, -⟩ := h6.form
      simp [stcells, xcells] at hu
      rcases hu with rfl | rfl | rfl | rfl | rfl | rfl | rfl | rfl | rfl | rfl | rfl | rfl <;> rfl
    · exact ih u hu

/-- a slice of statements -/
def IsZ (w : World) (v : Value) (p : St.P) : Prop := ∃ A n c, v = .slice A n c ∧ n ≤ c ∧ c ≤ maxLen ∧ ZR w.heap.size w A n p
theorem IsZ.step {w w' : World} {v : Value} {p : St.P} (h : IsZ w v p) (hb : Below w.heap.size w w') : IsZ w' v p := by
  obtain ⟨A, n, c, rfl, h1, h2, h3⟩ := h
  exact ⟨A, n, c, rfl, h1, h2, h3.step_ hb⟩
theorem IsZ.nil (w : World) : IsZ w (.slice none 0 0) .nil := ⟨none, 0, 0, rfl, Nat.le_refl _, Nat.zero_le _, .nil _⟩
theorem IsZ.of_slv {w : World} {v : Value} {n : Nat} {cs : List Value} {p : St.P} (h : ZC w.heap.size w cs n p) (hv : SlV w 12 v n cs) : IsZ w v p := by
  obtain ⟨A, c, rfl, h1, h2, -, h3⟩ := hv
  exact ⟨A, n, c, rfl, h1, h2, h.of_cells h3 (Nat.le_refl _)⟩
theorem IsZ.of_blk {w : World} {g : Nat} {t : TypeId} {n : Nat} {cs : List Value} {p : St.P} (h : ZC w.heap.size w cs n p) (hb : Blk w g t cs) (hn : n ≤ 1000) : IsZ w (.slice (some ⟨g, 0, none⟩) n n) p :=
  ⟨_, n, n, rfl, Nat.le_refl _, by unfold maxLen; omega, h.read (Nat.le_refl _) g 0 (fun _ => hb.lt) fun j u hu => by rw [Nat.zero_add, hb.cell]; exact hu⟩
section
variable {S S' : Nat → Prop} {B B' n : Nat} {w w' : World} {cs : List Value} {A : Option Addr} {p : St.P}
theorem ZR.mono (h : ZR B w A n p) (hB : B ≤ B') (hk : ∀ (p : Addr) (v : Value), p.block < B → w.cell? p = some v → w'.cell? p = some v) : ZR B' w' A n p := by
  induction h with
  | nil A => exact .nil A
  | cons g o n k nm ca cb ea eb D dl dc E el ec body els rest h1 h2 h3 h4 h5 h6 h7 h8 _ _ _ i1 i2 i3 =>
    exact .cons g o n k nm ca cb ea eb D dl dc E el ec body els rest (Nat.lt_of_lt_of_le h1 hB) h2 h3 h4 h5 (fun j u hu => hk ⟨g, o + j, none⟩ u h1 (h6 j u hu)) (h7.mono hB hk) (h8.mono hB hk) i1 i2 i3
theorem ZC.mono (h : ZC B w cs n p) (hB : B ≤ B') (hk : ∀ (p : Addr) (v : Value), p.block < B → w.cell? p = some v → w'.cell? p = some v) : ZC B' w' cs n p := by
  induction h with
  | nil => exact .nil
  | cons n k nm ca cb ea eb D dl dc E el ec body els rest cs h1 h2 h3 h4 h5 h6 h7 h8 _ ih => exact .cons n k nm ca cb ea eb D dl dc E el ec body els rest cs h1 h2 h3 h4 (h5.mono hB hk) (h6.mono hB hk) (h7.mono hB hk) (h8.mono hB hk) ih

/-- read, in those blocks alone -/
def XZS (S : Nat → Prop) (w : World) (cs : List Value) (e : Ex.X) : Prop := XZ w.heap.size (only w S) cs e
def ZS (S : Nat → Prop) (w : World) (A : Option Addr) (n : Nat) (p : St.P) : Prop := ZR w.heap.size (only w S) A n p
def ZCS (S : Nat → Prop) (w : World) (cs : List Value) (n : Nat) (p : St.P) : Prop := ZC w.heap.size (only w S) cs n p

theorem XZS.go {e : Ex.X} {r : Option Nat} (h : XZS S w cs e) (hg : w.grownBy w' r) (hS : ∀ g, g < w.heap.size → S g → S' g ∧ some g ≠ r) : XZS S' w' cs e := h.mono hg.size (only_up hg hS)
theorem ZS.go {r : Option Nat} (h : ZS S w A n p) (hg : w.grownBy w' r) (hS : ∀ g, g < w.heap.size → S g → S' g ∧ some g ≠ r) : ZS S' w' A n p := h.mono hg.size (only_up hg hS)
theorem ZCS.go {r : Option Nat} (h : ZCS S w cs n p) (hg : w.grownBy w' r) (hS : ∀ g, g < w.heap.size → S g → S' g ∧ some g ≠ r) : ZCS S' w' cs n p := h.mono hg.size (only_up hg hS)
theorem XZS.of {e : Ex.X} (h : XZ B w cs e) (hB : B ≤ w.heap.size) (hS : ∀ g, g < B → S g) : XZS S w cs e := h.mono hB fun p v hp hv => only_some.2 ⟨hS _ hp, hv⟩
theorem ZS.of (h : ZR B w A n p) (hB : B ≤ w.heap.size) (hS : ∀ g, g < B → S g) : ZS S w A n p := ZR.mono h hB fun p v hp hv => only_some.2 ⟨hS _ hp, hv⟩
theorem ZCS.of (h : ZC B w cs n p) (hB : B ≤ w.heap.size) (hS : ∀ g, g < B → S g) : ZCS S w cs n p := ZC.mono h hB fun p v hp hv => only_some.2 ⟨hS _ hp, hv⟩
theorem XZS.xr {e : Ex.X} (h : XZS S w cs e) : XZ w.heap.size w cs e := h.mono (Nat.le_refl _) fun p v hp hv => (only_some.1 hv).2
theorem ZS.pr (h : ZS S w A n p) : ZR w.heap.size w A n p := ZR.mono h (Nat.le_refl _) fun p v hp hv => (only_some.1 hv).2
theorem ZCS.pc (h : ZCS S w cs n p) : ZC w.heap.size w cs n p := ZC.mono h (Nat.le_refl _) fun p v hp hv => (only_some.1 hv).2
theorem ZS.imp (h : ZS S w A n p) (hS : ∀ g, g < w.heap.size → S g → S' g) : ZS S' w A n p := h.go (World.grownBy.refl w none) fun g hg hs => ⟨hS g hg hs, by simp⟩
theorem ZCS.imp (h : ZCS S w cs n p) (hS : ∀ g, g < w.heap.size → S g → S' g) : ZCS S' w cs n p := h.go (World.grownBy.refl w none) fun g hg hs => ⟨hS g hg hs, by simp⟩
theorem XZS.imp {e : Ex.X} (h : XZS S w cs e) (hS : ∀ g, g < w.heap.size → S g → S' g) : XZS S' w cs e := h.go (World.grownBy.refl w none) fun g hg hs => ⟨hS g hg hs, by simp⟩
theorem ZCS.nil : ZCS S w [] 0 .nil := ZC.nil
theorem ZCS.append {cs' : List Value} {n' : Nat} {p' : St.P} (h : ZCS S w cs n p) (h' : ZCS S w cs' n' p') : ZCS S w (cs ++ cs') (n + n') (p ++ p') := ZC.append h h'
theorem ZCS.one {k : Int} {nm : ByteArray} {ca cb : List Value} {ea eb : Ex.X} {D : Option Addr} {dl dc : Nat} {E : Option Addr} {el ec : Nat} {body els : St.P} (h : dl ≤ dc ∧ dc ≤ maxLen ∧ el ≤ ec ∧ ec ≤ maxLen) (h5 : XZS S w ca ea) (h6 : XZS S w cb eb) (h7 : ZS S w D dl body) (h8 : ZS S w E el els) : ZCS S w (stcells k nm ca cb D dl dc E el ec) 1 (.cons k nm.data.toList ea eb body els .nil) := ZC.one h h5 h6 h7 h8
/-- where the cells lie, too -/
theorem ZCS.read (h : ZCS S w cs n p) (g o : Nat) (hg : n ≠ 0 → g < w.heap.size) (hc : ∀ j u, cs[j]? = some u → w.cell? ⟨g, o + j, none⟩ = some u) : ZS (fun b => S b ∨ b = g) w (some ⟨g, o, none⟩) n p :=
  ZC.read (w := only w fun b => S b ∨ b = g) (ZCS.imp h fun _ _ => .inl) (Nat.le_refl _) g o hg fun j u hu => only_some.2 ⟨.inr rfl, hc j u hu⟩
theorem ZCS.one_cells (h : ZCS S w cs n p) : ∀ u ∈ cs, u.oneCell' = true := ZC.one_cells h
theorem ZCS.length (h : ZCS S w cs n p) : cs.length = n * 12 := ZC.length h

/-- a slice of statements, in those blocks alone -/
def ZP (S : Nat → Prop) (w : World) (v : Value) (p : St.P) : Prop := ∃ A n c, v = .slice A n c ∧ n ≤ c ∧ c ≤ maxLen ∧ ZS S w A n p
theorem ZP.nil : ZP S w (.slice none 0 0) .nil := ⟨none, 0, 0, rfl, Nat.le_refl _, Nat.zero_le _, ZR.nil _⟩
theorem ZP.go {v : Value} {r : Option Nat} (h : ZP S w v p) (hg : w.grownBy w' r) (hS : ∀ g, g < w.heap.size → S g → S' g ∧ some g ≠ r) : ZP S' w' v p := by
  obtain ⟨A, n, c, rfl, h1, h2, h3⟩ := h
  exact ⟨A, n, c, rfl, h1, h2, h3.go hg hS⟩
theorem ZP.is {v : Value} (h : ZP S w v p) : IsZ w v p := by
  obtain ⟨A, n, c, rfl, h1, h2, h3⟩ := h
  exact ⟨A, n, c, rfl, h1, h2, h3.pr⟩
theorem ZP.of_own {base : Nat} {v : Value} {e : TypeId} (h : ZCS S w cs n p) (hown : w.ownsRow base e 12 v n cs) : ZP (fun g => S g ∨ some g = v.ownBlock) w v p := by
  rcases hown.2 with ⟨rfl, rfl⟩ | ⟨g, cap, cur, rfl, _, hg, hle, hm, _, _⟩
  · have : cs = [] := List.eq_nil_of_length_eq_zero (by rw [hown.1])
    subst this
    cases (show ZC _ _ [] 0 p from h)
    exact ZP.nil
  · refine ⟨_, n, cap, rfl, hle, hm, (ZCS.read h g 0 (fun _ => (Array.getElem?_eq_some_iff.1 hg).1) fun j u hu => ?_).imp fun b _ hb => hb.imp id fun e => by subst e; rfl⟩
    have := hown.cells (g := g) rfl j u hu
    rw [Nat.zero_add]
    rwa [show ((⟨g, 0, none⟩ : Addr).add j) = ⟨g, j, none⟩ from by unfold Addr.add; split <;> simp_all] at this
theorem ZCS.row {base : Nat} {v v' : Value} {e : TypeId} {size m : Nat} {xs : List Value} (h : ZCS S w cs n p) (hown : w.ownsRow base e size v m xs) (hg : w.grownBy w' v.ownBlock) (hv : v'.ownBlock = v.ownBlock ∨ ∃ g, w.heap.size ≤ g ∧ v'.ownBlock = some g) (hS : ∀ g, g < w.heap.size → S g → S' g ∧ some g ≠ v.ownBlock) : ZCS (fun g => S' g ∧ some g ≠ v'.ownBlock) w' cs n p :=
  h.go hg fun g hl hs => ⟨⟨(hS g hl hs).1, by
    rcases hv with e | ⟨g', hge, e⟩
    · rw [e]; exact (hS g hl hs).2
    · rw [e]; intro e'; injection e' with e'; omega⟩, (hS g hl hs).2⟩
end

theorem ZR.pr {B n : Nat} {w : World} {A : Option Addr} {p : St.P} (h : ZR B w A n p) : PR B w A n p := by
  induction h with
  | nil A => exact .nil A
  | cons g o n k nm ca cb ea eb D dl dc E el ec body els rest h1 h2 h3 h4 h5 h6 h7 h8 _ _ _ i1 i2 i3 => exact .cons g o n k nm ca cb ea eb D dl dc E el ec body els rest h1 h2 h3 h4 h5 h6 h7.xr h8.xr i1 i2 i3
theorem IsZ.is {w : World} {v : Value} {p : St.P} (h : IsZ w v p) : IsP w v p := by
  obtain ⟨A, n, c, rfl, h1, h2, h3⟩ := h
  exact ⟨A, n, c, rfl, h1, h2, h3.pr⟩
end Go.Proofs.YtdhjfckckghicaaDoor


namespace Go.Proofs.YtdhjfckckghicaaDoor
set_option linter.unusedVariables false
set_option linter.unusedSimpArgs false
set_option maxRecDepth 100000
open Go.RowKit

section
variable {S S' T : Nat → Prop} {w w' : World} {cs : List Value} {n : Nat} {A : Option Addr} {p : St.P} {e : Ex.X} {v : Value}
theorem XZS.kept (h : XZS S w cs e) (k : Keeps T w w') (hS : ∀ g, g < w.heap.size → S g → S' g ∧ ¬ T g) : XZS S' w' cs e := XZ.mono h k.size (only_kept k hS)
theorem ZS.kept (h : ZS S w A n p) (k : Keeps T w w') (hS : ∀ g, g < w.heap.size → S g → S' g ∧ ¬ T g) : ZS S' w' A n p := ZR.mono h k.size (only_kept k hS)
theorem ZCS.kept (h : ZCS S w cs n p) (k : Keeps T w w') (hS : ∀ g, g < w.heap.size → S g → S' g ∧ ¬ T g) : ZCS S' w' cs n p := ZC.mono h k.size (only_kept k hS)
theorem ZP.kept (h : ZP S w v p) (k : Keeps T w w') (hS : ∀ g, g < w.heap.size → S g → S' g ∧ ¬ T g) : ZP S' w' v p := by
  obtain ⟨A, n, c, rfl, h1, h2, h3⟩ := h
  exact ⟨A, n, c, rfl, h1, h2, h3.kept k hS⟩
theorem ZP.imp (h : ZP S w v p) (hS : ∀ g, g < w.heap.size → S g → S' g) : ZP S' w v p := h.kept (Keeps.refl (fun _ => False) w) fun g hg hs => ⟨hS g hg hs, id⟩
end

/-- the renamer's block, and those of its rows -/
def RT (g : Nat) (w : World) (b : Nat) : Prop := b = g ∨ ∃ i u, i < 2 ∧ w.cell? ⟨g, i, none⟩ = some u ∧ u.ownBlock = some b
/-- made since, and not the renamer's -/
def Ok (g H : Nat) (w : World) (b : Nat) : Prop := H ≤ b ∧ ¬ RT g w b
theorem rt_iff {B : Nat} {w : World} {g : Nat} {uo un : Value} {en : List (Ex.Bs × Ex.Bs)} {m : Nat} (h : RnO B w g uo un en m) (b : Nat) : RT g w b ↔ RnT g uo un en b := by
  have c0 : w.cell? ⟨g, 0, none⟩ = some uo := (h.blk.cell 0).trans rfl
  have c1 : w.cell? ⟨g, 1, none⟩ = some un := (h.blk.cell 1).trans rfl
  constructor
  · rintro (rfl | ⟨i, u, hi, hc, hu⟩)
    · exact .inl rfl
    · match i, hi with
      | 0, _ => rw [c0] at hc; injection hc with hc; subst hc; exact .inr ⟨_, List.mem_cons_self, hu⟩
      | 1, _ => rw [c1] at hc; injection hc with hc; subst hc; exact .inr ⟨_, List.mem_cons_of_mem _ List.mem_cons_self, hu⟩
  · rintro (rfl | ⟨r, hr, hu⟩)
    · exact .inl rfl
    · rcases List.mem_cons.1 hr with rfl | hr
      · exact .inr ⟨0, uo, by decide, c0, hu⟩
      · rw [List.mem_singleton.1 hr] at hu
        exact .inr ⟨1, un, by decide, c1, hu⟩

structure Turn (g : Nat) (w w' : World) : Prop where
  kp : Keeps (RT g w) w w'
  nw : ∀ b, b < w.heap.size → RT g w' b → RT g w b
theorem Turn.refl (g : Nat) (w : World) : Turn g w w := ⟨Keeps.refl _ _, fun _ _ h => h⟩
theorem Turn.trans {g : Nat} {a b c : World} (h : Turn g a b) (k : Turn g b c) : Turn g a c :=
  ⟨h.kp.step k.kp (fun i hi hT => h.nw i hi hT), fun i hi hT => h.nw i hi (k.nw i (Nat.lt_of_lt_of_le hi h.kp.size) hT)⟩
theorem Turn.of_below {g : Nat} {w w' : World} (hg : g < w.heap.size) (hb : Below w.heap.size w w') : Turn g w w' :=
  ⟨Keeps.of_below hb _, fun b _ h => h.imp id fun ⟨i, u, hi, hc, hu⟩ => ⟨i, u, hi, (hb.cell (p := ⟨g, i, none⟩) hg).symm.trans hc, hu⟩⟩
theorem Turn.of_rn {B : Nat} {w w' : World} {g : Nat} {uo un uo' un' : Value} {en en' : List (Ex.Bs × Ex.Bs)} {m m' : Nat} (h : RnO B w g uo un en m) (ht : RnTo B w (RnT g uo un en) w' g uo' un' en' m') : Turn g w w' :=
  ⟨ht.kp.mono fun i hi => (rt_iff h i).2 hi, fun b hb hT => (rt_iff h b).2 ((ht.nw b ((rt_iff ht.own b).1 hT)).resolve_right (by omega))⟩
theorem Turn.ok {g H : Nat} {w w' : World} (h : Turn g w w') : ∀ b, b < w.heap.size → Ok g H w b → Ok g H w' b ∧ ¬ RT g w b := fun b hb ⟨h1, h2⟩ => ⟨⟨h1, fun h3 => h2 (h.nw b hb h3)⟩, h2⟩
theorem Ok.mono {g H H' : Nat} {w : World} (hH : H' ≤ H) : ∀ b, Ok g H w b → Ok g H' w b := fun _ ⟨h1, h2⟩ => ⟨Nat.le_trans hH h1, h2⟩
/-- other blocks are turned: the renamer's are what they were -/
theorem rt_far {g q : Nat} {w w' : World} (hg : g < w.heap.size) (hq : q ≠ g) (hk : w.grownBy w' (some q)) (b : Nat) : RT g w' b ↔ RT g w b := by
  have hc : ∀ i, w'.cell? ⟨g, i, none⟩ = w.cell? ⟨g, i, none⟩ := fun i => World.cell?_of_block (a := ⟨g, i, none⟩) (hk.block g hg (fun e => hq (by injection e with e; exact e.symm)))
  unfold RT
  simp only [hc]
theorem ok_far {g q H : Nat} {w w' : World} (hg : g < w.heap.size) (hq : q ≠ g) (hk : w.grownBy w' (some q)) (b : Nat) : Ok g H w' b ↔ Ok g H w b := by
  unfold Ok
  rw [rt_far hg hq hk]
theorem own_slice_block (A : Option Addr) (n c k c' : Nat) : (Value.slice A n c).ownBlock = (Value.slice A k c').ownBlock := by cases A <;> rfl
/-- a renamer's rows, cut back -/
theorem Own.cut {B : Nat} {w w' : World} {g : Nat} {A C : Option Addr} {n k c1 c2 n2 : Nat} {en more : List (Ex.Bs × Ex.Bs)} {m : Nat} (h : RnO B w g (.slice A n c1) (.slice C n2 c2) (en ++ more) m) (hk : k = en.length)
    (hb : Blk w' g 51 [.slice A k c1, .slice C k c2, .int .i64 (m : Int)]) (hg : w.grownBy w' (some g)) : RnTo B w (RnT g (.slice A n c1) (.slice C n2 c2) (en ++ more)) w' g (.slice A k c1) (.slice C k c2) en m := by
  have k5 : Keeps (fun k => k = g) w w' := (Keeps.of_grown hg).mono (fun i hi => by injection hi)
  have r0 : w.ownsRow B 9 1 (.slice A n c1) (Sr.olds (en ++ more)).length (strs (Sr.olds (en ++ more))) := h.row 0 rfl
  have r1 : w.ownsRow B 9 1 (.slice C n2 c2) (Sr.nows (en ++ more)).length (strs (Sr.nows (en ++ more))) := h.row 1 rfl
  have l0 : (Sr.olds (en ++ more)).length = en.length + more.length := by rw [Sr.olds_length, List.length_append]
  have l1 : (Sr.nows (en ++ more)).length = en.length + more.length := by rw [Sr.nows_length, List.length_append]
  have s0 : n = (Sr.olds (en ++ more)).length := by obtain ⟨_, _, e, -, -⟩ := own_slice r0; injection e
  have s1 : n2 = (Sr.nows (en ++ more)).length := by obtain ⟨_, _, e, -, -⟩ := own_slice r1; injection e
  rw [s0] at r0
  rw [s1] at r1
  have p0 := own_keeps (own_prefix r0 (k := k) (by omega)) k5 (fun j hj e => h.ng _ List.mem_cons_self (by rw [← e]; exact (own_slice_block _ _ _ _ _).trans hj))
  have p1 := own_keeps (own_prefix r1 (k := k) (by omega)) k5 (fun j hj e => h.ng _ (List.mem_cons_of_mem _ List.mem_cons_self) (by rw [← e]; exact (own_slice_block _ _ _ _ _).trans hj))
  have e0 : (strs (Sr.olds (en ++ more))).take (k * 1) = strs (Sr.olds en) := by
    rw [Nat.mul_one, hk]
    unfold strs Sr.olds
    rw [List.map_append, List.map_append, List.take_left' (by simp)]
  have e1 : (strs (Sr.nows (en ++ more))).take (k * 1) = strs (Sr.nows en) := by
    rw [Nat.mul_one, hk]
    unfold strs Sr.nows
    rw [List.map_append, List.map_append, List.take_left' (by simp)]
  rw [e0] at p0
  rw [e1] at p1
  refine ⟨⟨hb, fun r hr => ?_, fun i j r r' hr hr' hij => ?_, fun r hr => ?_, by have := k5.size; have := h.base; omega, h.lo⟩, k5.mono (fun k hk => .inl hk), fun j hj => .inl ?_⟩
  · rcases List.mem_cons.1 hr with rfl | hr
    · simpa [Rw.at_, strRw, Sr.olds_length, hk] using p0
    · rw [List.mem_singleton.1 hr]
      simpa [Rw.at_, strRw, Sr.nows_length, hk] using p1
  · have ap := h.ap
    match i, j, hr, hr' with
    | 0, 0, _, _ => exact absurd rfl hij
    | 0, 1, hr, hr' => injection hr with hr; injection hr' with hr'; subst hr hr'; exact fun k h1 h2 => ap 0 1 _ _ rfl rfl (by decide) k ((own_slice_block _ _ _ _ _).trans h1) ((own_slice_block _ _ _ _ _).trans h2)
    | 1, 0, hr, hr' => injection hr with hr; injection hr' with hr'; subst hr hr'; exact fun k h1 h2 => ap 1 0 _ _ rfl rfl (by decide) k ((own_slice_block _ _ _ _ _).trans h1) ((own_slice_block _ _ _ _ _).trans h2)
    | 1, 1, _, _ => exact absurd rfl hij
    | 0, j + 2, _, hr' => cases hr'
    | 1, j + 2, _, hr' => cases hr'
    | i + 2, _, hr, _ => cases hr
  · rcases List.mem_cons.1 hr with rfl | hr
    · exact fun e => h.ng _ List.mem_cons_self ((own_slice_block _ _ _ _ _).trans e)
    · rw [List.mem_singleton.1 hr]
      exact fun e => h.ng _ (List.mem_cons_of_mem _ List.mem_cons_self) ((own_slice_block _ _ _ _ _).trans e)
  · rcases hj with rfl | ⟨r, hr, hj⟩
    · exact .inl rfl
    · rcases List.mem_cons.1 hr with rfl | hr
      · exact .inr ⟨_, List.mem_cons_self, (own_slice_block _ _ _ _ _).trans hj⟩
      · rw [List.mem_singleton.1 hr] at hj
        exact .inr ⟨_, List.mem_cons_of_mem _ List.mem_cons_self, (own_slice_block _ _ _ _ _).trans hj⟩
end Go.Proofs.YtdhjfckckghicaaDoor


namespace Go.Proofs.YtdhjfckckghicaaDoor
set_option linter.unusedVariables false
set_option linter.unusedSimpArgs false
set_option maxRecDepth 100000
open Go.RowKit

def RStOK (p : St.P) : Prop := ∀ (w : World) (B n c g : Nat) (A : Option Addr) (uo un : Value) (en : List (Ex.Bs × Ex.Bs)) (m : Nat), PR B w A n p → n ≤ c → c ≤ maxLen → RnO B w g uo un en m → Pow B w → en.length + p.size ≤ 549755813888 → m + p.size ≤ 549755813888 →
  Calls Tryd.prog 22 #[.pointer (some ⟨g, 0, none⟩), .slice A n c] w fun e w' => ∃ u uo' un' more, e = .returned u ∧ RnTo B w (RnT g uo un en) w' g uo' un' (en ++ more) (Sr.rn Sr.vn p en m).2 ∧ more.length ≤ p.size ∧ ZP (Ok g w.heap.size w') w' u (Sr.rn Sr.vn p en m).1

theorem Own.wr {B : Nat} {w : World} {g : Nat} {uo un : Value} {en : List (Ex.Bs × Ex.Bs)} {m : Nat} (h : RnO B w g uo un en m) : (∃ A c, uo = .slice A en.length c ∧ en.length ≤ c) ∧ (∃ A c, un = .slice A en.length c ∧ en.length ≤ c) := by
  have r0 : w.ownsRow B 9 1 uo (Sr.olds en).length (strs (Sr.olds en)) := h.row 0 rfl
  have r1 : w.ownsRow B 9 1 un (Sr.nows en).length (strs (Sr.nows en)) := h.row 1 rfl
  obtain ⟨A, c, e, h1, -⟩ := own_slice r0
  obtain ⟨C, d, f, h2, -⟩ := own_slice r1
  rw [Sr.olds_length] at e h1
  rw [Sr.nows_length] at f h2
  exact ⟨⟨A, c, e, h1⟩, ⟨C, d, f, h2⟩⟩

set_option maxHeartbeats 4000000 in
theorem rblock_any (p : St.P) (ih : RStOK p) (w : World) (B n c g : Nat) (A : Option Addr) (uo un : Value) (en : List (Ex.Bs × Ex.Bs)) (m : Nat) (hp : PR B w A n p) (hnc : n ≤ c) (hc : c ≤ maxLen) (hO : RnO B w g uo un en m) (hP : Pow B w) (hsz : en.length + p.size ≤ 549755813888) (hmz : m + p.size ≤ 549755813888) :
    Calls Tryd.prog 33 #[.pointer (some ⟨g, 0, none⟩), .slice A n c] w fun e w' => ∃ u uo' un', e = .returned u ∧ RnTo B w (RnT g uo un en) w' g uo' un' en (Sr.rn Sr.vn p en m).2 ∧ ZP (Ok g w.heap.size w') w' u (Sr.rn Sr.vn p en m).1 := by
  have hs := ih w B n c g A uo un en m hp hnc hc hO hP hsz hmz
  have c0 : w.cell? ⟨g, 0, none⟩ = some uo := (hO.blk.cell 0).trans rfl
  obtain ⟨⟨Ao, co, rfl, hco⟩, -⟩ := hO.wr
  have HO := Lib.hid (And.intro hO hsz)
  obtain ⟨k, hk⟩ : ∃ k, k = en.length := ⟨_, rfl⟩
  have HK := Lib.hid hk
  rw [← hk] at c0 hco
  have HS := Lib.hid hs
  clear hs hO hp hP hsz hk
  go_enter Tryd.func33, Tryd.ntmps33
  go_wp2_with fail
  have hs := HS.out
  rw [← HK.out] at hs
  refine hs.mono ?_
  rintro e w1 ⟨u, uo1, un1, more, rfl, hT, hm, hu⟩
  have hkn : k ≤ (en ++ more).length := by rw [List.length_append]; have := HK.out; omega
  obtain ⟨⟨A1, c1, rfl, h1⟩, ⟨C1, d1, rfl, h2⟩⟩ := hT.own.wr
  have e0 : w1.cell? ⟨g, 0, none⟩ = some (.slice A1 (en ++ more).length c1) := (hT.own.blk.cell 0).trans rfl
  have e1 : w1.cell? ⟨g, 1, none⟩ = some (.slice C1 (en ++ more).length d1) := (hT.own.blk.cell 1).trans rfl
  have f0 : w1.frozen? ⟨g, 0, none⟩ = false := hT.own.blk.frozen 0
  have f1 : w1.frozen? ⟨g, 1, none⟩ = false := hT.own.blk.frozen 1
  obtain ⟨l, hl⟩ : ∃ l, l = (en ++ more).length := ⟨_, rfl⟩
  have hend : ∀ w5, Blk w5 g 51 [.slice A1 k c1, .slice C1 k d1, .int .i64 (((Sr.rn Sr.vn p en m).2 : Nat) : Int)] → w1.grownBy w5 (some g) → RnTo B w (RnT g (.slice Ao k co) un en) w5 g (.slice A1 k c1) (.slice C1 k d1) en (Sr.rn Sr.vn p en m).2 ∧ ZP (Ok g w.heap.size w5) w5 u (Sr.rn Sr.vn p en m).1 := fun w5 b5 g5 => by
    have hcut := hT.own.cut HK.out b5 g5
    have ht := Turn.of_rn hT.own hcut
    exact ⟨hT.step hcut, hu.kept ht.kp (ht.ok)⟩
  have hB1 := hT.own.blk
  rw [← hl] at hkn h1 h2 e0 e1 hB1
  have hA1 : k ≤ c1 := by omega
  have hC1 : k ≤ d1 := by omega
  have HE := Lib.hid (And.intro hend hB1)
  have HX := Lib.hid (And.intro hkn (And.intro h1 h2))
  clear hend hu hT hs hl HS hB1 c0 hm
  go_wp2_with fail
  go_region
  have b5 := ((HE.out.2.set_ 0 (.slice A1 k c1)).set_ 1 (.slice C1 k d1)).below (below_drew (Below.refl _ ((w1.setCell ⟨g, 0, none⟩ (.slice A1 k c1)).setCell ⟨g, 1, none⟩ (.slice C1 k d1))))
  have g5 := grown_trans (grown_trans (grown_setCell w1 g 0 (.slice A1 k c1)) (grown_setCell (w1.setCell ⟨g, 0, none⟩ (.slice A1 k c1)) g 1 (.slice C1 k d1))) (grown_of_below (below_drew (Below.refl _ ((w1.setCell ⟨g, 0, none⟩ (.slice A1 k c1)).setCell ⟨g, 1, none⟩ (.slice C1 k d1)))) (some g))
  have h5 := HE.out.1 _ b5 g5
  generalize ((w1.setCell ⟨g, 0, none⟩ (.slice A1 k c1)).setCell ⟨g, 1, none⟩ (.slice C1 k d1)).drew = w5 at h5 ⊢
  have H5 := Lib.hid h5
  clear b5 g5 h5 HE e0 e1 f0 f1
  go_wp2
  go_ret
  obtain ⟨h5, h6⟩ := H5.out
  rw [HK.out] at h5
  exact ⟨_, _, _, rfl, h5, h6⟩
end Go.Proofs.YtdhjfckckghicaaDoor


namespace Go.Proofs.YtdhjfckckghicaaDoor
set_option linter.unusedVariables false
set_option linter.unusedSimpArgs false
set_option maxRecDepth 100000
open Go.RowKit

theorem rt_lt {B : Nat} {w : World} {g : Nat} {uo un : Value} {en : List (Ex.Bs × Ex.Bs)} {m : Nat} (h : RnO B w g uo un en m) {b : Nat} (hb : RT g w b) : b < w.heap.size := h.lt ((rt_iff h b).1 hb)
theorem rt_below {g : Nat} {w w' : World} (hg : g < w.heap.size) (hb : Below w.heap.size w w') (b : Nat) : RT g w' b ↔ RT g w b := by
  have hc : ∀ i, w'.cell? ⟨g, i, none⟩ = w.cell? ⟨g, i, none⟩ := fun i => hb.cell (p := ⟨g, i, none⟩) hg
  unfold RT
  simp only [hc]
theorem RnI.of {B : Nat} {w : World} {g : Nat} {uo un : Value} {en : List (Ex.Bs × Ex.Bs)} {m : Nat} (h : RnO B w g uo un en m) (hf : en.length ≤ 8796093022200) : RnI w g uo un en :=
  ⟨(h.blk.cell 0).trans rfl, (h.blk.cell 1).trans rfl, SlV.of_own (h.row 0 rfl), SlV.of_own (h.row 1 rfl), hf⟩

theorem stone (k : Int) (nm : ByteArray) (ak an : Int) (sa : ByteArray) (aA : Option Addr) (al ac : Nat) (bk bn : Int) (sb : ByteArray) (bA : Option Addr) (bl bc : Nat) (D : Option Addr) (dl dc : Nat) (E : Option Addr) (el ec : Nat) : ∀ v ∈ stcells k nm (xcells ak an sa aA al ac) (xcells bk bn sb bA bl bc) D dl dc E el ec, v.oneCell' = true := by
  intro v hv
  simp [stcells, xcells] at hv
  rcases hv with rfl | rfl | rfl | rfl | rfl | rfl | rfl | rfl | rfl | rfl | rfl | rfl <;> rfl
/-- the blocks that what was made may lie in -/
def Vs (g H Q : Nat) (out : Value) (w : World) (b : Nat) : Prop := Ok g H w b ∧ out.ownBlock ≠ some b ∧ b ≠ Q + 1
theorem vs_turn {g H Q : Nat} {out : Value} {w w' : World} (h : Turn g w w') : ∀ b, b < w.heap.size → Vs g H Q out w b → Vs g H Q out w' b ∧ ¬ RT g w b := fun b hb ⟨h1, h2, h3⟩ => by
  obtain ⟨h4, h5⟩ := h.ok b hb h1
  exact ⟨⟨h4, h2, h3⟩, h5⟩

structure Rd (B : Nat) (w0 : World) (g Q : Nat) (out : Value) (k : Nat) (cs : List Value) (dn : St.P) (uo un : Value) (en : List (Ex.Bs × Ex.Bs)) (sc : List Value) (u1 u2 : Value) (en1 : List (Ex.Bs × Ex.Bs)) (m1 : Nat) (tc : List Value) (w : World) : Prop where
  to : RnTo B w0 (RnT g uo un en) w g u1 u2 en1 m1
  row : w.ownsRow w0.heap.size 36 12 out k cs
  far : ∀ b, out.ownBlock = some b → ¬ RT g w b
  done : ZCS (Vs g w0.heap.size Q out w) w cs k dn
  src : Blk w Q 36 sc
  cur : Blk w (Q + 1) 36 tc
  q0 : ¬ RT g w Q
  q1 : ¬ RT g w (Q + 1)
  hi : w0.heap.size ≤ Q
  o0 : out.ownBlock ≠ some Q
  o1 : out.ownBlock ≠ some (Q + 1)
  low : Below B w0 w
  base : B ≤ w0.heap.size
section
variable {B : Nat} {w0 : World} {g Q : Nat} {out : Value} {k : Nat} {cs : List Value} {dn : St.P} {uo un : Value} {en : List (Ex.Bs × Ex.Bs)} {sc : List Value} {u1 u2 : Value} {en1 : List (Ex.Bs × Ex.Bs)} {m1 : Nat} {tc : List Value} {w w' : World}
theorem Rd.call {u1' u2' : Value} {en1' : List (Ex.Bs × Ex.Bs)} {m1' : Nat} (h : Rd B w0 g Q out k cs dn uo un en sc u1 u2 en1 m1 tc w) (ht : RnTo B w (RnT g u1 u2 en1) w' g u1' u2' en1' m1') : Rd B w0 g Q out k cs dn uo un en sc u1' u2' en1' m1' tc w' := by
  have tt := Turn.of_rn h.to.own ht
  refine ⟨h.to.step ht, own_keeps h.row tt.kp h.far, fun b hb hT => h.far b hb (tt.nw b (h.row.lt b hb).2 hT), h.done.kept tt.kp (vs_turn tt), h.src.keeps tt.kp h.q0, h.cur.keeps tt.kp h.q1, fun hT => h.q0 (tt.nw Q h.src.lt hT), fun hT => h.q1 (tt.nw _ h.cur.lt hT), h.hi, h.o0, h.o1, h.low.trans (h.to.own.below ht.kp), h.base⟩
theorem Rd.below (h : Rd B w0 g Q out k cs dn uo un en sc u1 u2 en1 m1 tc w) (hb : Below w.heap.size w w') : Rd B w0 g Q out k cs dn uo un en sc u1 u2 en1 m1 tc w' := by
  have tt := Turn.of_below h.to.own.blk.lt hb
  have ro : ∀ b, RT g w' b ↔ RT g w b := rt_below h.to.own.blk.lt hb
  refine ⟨h.to.later hb, own_keeps h.row tt.kp h.far, fun b hb hT => h.far b hb ((ro b).1 hT), h.done.kept tt.kp (vs_turn tt), h.src.below hb, h.cur.below hb, fun hT => h.q0 ((ro _).1 hT), fun hT => h.q1 ((ro _).1 hT), h.hi, h.o0, h.o1, h.low.trans (hb.mono h.to.own.base), h.base⟩
theorem Rd.g1 (h : Rd B w0 g Q out k cs dn uo un en sc u1 u2 en1 m1 tc w) : Q + 1 ≠ g := fun e => h.q1 (.inl e)
theorem vs_put {H : Nat} (hg : g < w.heap.size) (hq : Q + 1 ≠ g) (hk : w.grownBy w' (some (Q + 1))) : ∀ b, b < w.heap.size → Vs g H Q out w b → Vs g H Q out w' b ∧ some b ≠ some (Q + 1) := fun b _ ⟨h1, h2, h3⟩ => ⟨⟨(ok_far hg hq hk b).2 h1, h2, h3⟩, fun e => by injection e with e; exact h3 e⟩
theorem Rd.put {tc' : List Value} (h : Rd B w0 g Q out k cs dn uo un en sc u1 u2 en1 m1 tc w) (hB : Blk w' (Q + 1) 36 tc') (hg : w.grownBy w' (some (Q + 1))) : Rd B w0 g Q out k cs dn uo un en sc u1 u2 en1 m1 tc' w' := by
  have hgl := h.to.own.blk.lt
  have ro : ∀ b, RT g w' b ↔ RT g w b := rt_far hgl h.g1 hg
  have k5 : Keeps (fun k => k = Q + 1) w w' := (Keeps.of_grown hg).mono (fun i hi => by injection hi)
  have hT : ∀ i, RnT g u1 u2 en1 i → i ≠ Q + 1 := fun i hi e => h.q1 ((rt_iff h.to.own _).2 (e ▸ hi))
  have own' := h.to.own.keeps k5 hT
  have hw0 : w0.heap.size ≤ Q + 1 := Nat.le_succ_of_le h.hi
  refine ⟨⟨own', h.to.kp.step k5 (fun i hi e => by omega), h.to.nw⟩, own_keeps h.row k5 (fun j hj e => h.o1 (e ▸ hj)), fun b hb hT => h.far b hb ((ro b).1 hT), h.done.go hg (vs_put hgl h.g1 hg), h.src.keeps k5 (fun e => by omega), hB, fun hT => h.q0 ((ro _).1 hT), fun hT => h.q1 ((ro _).1 hT), h.hi, h.o0, h.o1, h.low.trans (below_of_grown hg h.to.own.base (by have := h.base; have := h.hi; omega)), h.base⟩
/-- what an expression's copy is made of may lie anywhere new -/
theorem Rd.fresh_x {ca : List Value} {e : Ex.X} (h : Rd B w0 g Q out k cs dn uo un en sc u1 u2 en1 m1 tc w) (hb : Below w.heap.size w w') (hx : NS (fun b => w.heap.size ≤ b) w' ca e) : XZS (Vs g w0.heap.size Q out w') w' ca e := by
  have hn := hx.imp (S' := Vs g w0.heap.size Q out w') fun b _ hge => by
    have hge : w.heap.size ≤ b := hge
    have h1 := h.cur.lt
    have h2 := h.hi
    refine ⟨⟨by omega, fun hT => ?_⟩, fun e => ?_, by omega⟩
    · have := rt_lt h.to.own ((rt_below h.to.own.blk.lt hb b).1 hT)
      omega
    · have := (h.row.lt b e).2
      omega
  exact .inl hn
theorem Rd.fresh_p {u : Value} {q : St.P} (h : Rd B w0 g Q out k cs dn uo un en sc u1 u2 en1 m1 tc w) (hx : ZP (Ok g w.heap.size w') w' u q) : ZP (Vs g w0.heap.size Q out w') w' u q :=
  hx.imp fun b _ ⟨hge, hT⟩ => by
    have h1 := h.cur.lt
    have h2 := h.hi
    refine ⟨⟨by omega, hT⟩, fun e => ?_, by omega⟩
    have := (h.row.lt b e).2
    omega
theorem XZS.turn {H : Nat} {ca : List Value} {e : Ex.X} (h : XZS (Vs g H Q out w) w ca e) (tt : Turn g w w') : XZS (Vs g H Q out w') w' ca e := h.kept tt.kp (vs_turn tt)
theorem ZP.turn {H : Nat} {u : Value} {q : St.P} (h : ZP (Vs g H Q out w) w u q) (tt : Turn g w w') : ZP (Vs g H Q out w') w' u q := h.kept tt.kp (vs_turn tt)
theorem XZS.puts {H : Nat} {ca : List Value} {e : Ex.X} (h : XZS (Vs g H Q out w) w ca e) (hgl : g < w.heap.size) (hq : Q + 1 ≠ g) (hg : w.grownBy w' (some (Q + 1))) : XZS (Vs g H Q out w') w' ca e := h.go hg (vs_put hgl hq hg)
theorem ZP.puts {H : Nat} {u : Value} {q : St.P} (h : ZP (Vs g H Q out w) w u q) (hgl : g < w.heap.size) (hq : Q + 1 ≠ g) (hg : w.grownBy w' (some (Q + 1))) : ZP (Vs g H Q out w') w' u q := h.go hg (vs_put hgl hq hg)
theorem Rd.gl (h : Rd B w0 g Q out k cs dn uo un en sc u1 u2 en1 m1 tc w) : g < w.heap.size := h.to.own.blk.lt
theorem Rd.pow (h : Rd B w0 g Q out k cs dn uo un en sc u1 u2 en1 m1 tc w) (hP : Pow B w0) : Pow B w := hP.later h.low
/-- the statement that was made is put to the others -/
theorem Rd.finish {kd : Int} {nm : ByteArray} {ca cb : List Value} {ea eb : Ex.X} {D1 D2 : Option Addr} {l1 k1 l2 k2 : Nat} {body els : St.P} {v7 : Value} {w7 : World} (h : Rd B w0 g Q out k cs dn uo un en sc u1 u2 en1 m1 tc w) (htc : tc = stcells kd nm ca cb D1 l1 k1 D2 l2 k2)
    (za : XZS (Vs g w0.heap.size Q out w) w ca ea) (zb : XZS (Vs g w0.heap.size Q out w) w cb eb) (pb : ZP (Vs g w0.heap.size Q out w) w (.slice D1 l1 k1) body) (pe : ZP (Vs g w0.heap.size Q out w) w (.slice D2 l2 k2) els)
    (hown : w7.ownsRow w0.heap.size 36 12 v7 (k + 1) (cs ++ tc)) (hg : w.grownBy w7 out.ownBlock) (hv : v7.ownBlock = out.ownBlock ∨ v7.ownBlock = some (w.heap.size + 1)) (hb : Below w0.heap.size w w7) :
    RnTo B w0 (RnT g uo un en) w7 g u1 u2 en1 m1 ∧ (∀ b, v7.ownBlock = some b → ¬ RT g w7 b) ∧ ZCS (fun b => Ok g w0.heap.size w7 b ∧ v7.ownBlock ≠ some b) w7 (cs ++ tc) (k + 1) (dn ++ .cons kd nm.data.toList ea eb body els .nil) ∧ Below B w0 w7 := by
  have hog : out.ownBlock ≠ some g := fun e => h.far g e (.inl rfl)
  have k5 : Keeps (fun k => out.ownBlock = some k) w w7 := (Keeps.of_grown hg).mono (fun i hi => hi.symm)
  have hc : ∀ i, w7.cell? ⟨g, i, none⟩ = w.cell? ⟨g, i, none⟩ := fun i => World.cell?_of_block (a := ⟨g, i, none⟩) (hg.block g h.gl (fun e => hog e.symm))
  have ro : ∀ b, RT g w7 b ↔ RT g w b := fun b => by unfold RT; simp only [hc]
  have own' := h.to.own.keeps k5 (fun i hi e => h.far i e ((rt_iff h.to.own i).2 hi))
  have hlow : w0.heap.size ≤ w.heap.size := h.to.kp.size
  refine ⟨⟨own', h.to.kp.step k5 (fun i hi e => by have := (h.row.lt i e).1; omega), h.to.nw⟩, fun b hb hT => ?_, ?_, h.low.trans (hb.mono h.base)⟩
  · rcases hv with e | e
    · exact h.far b (e ▸ hb) ((ro b).1 hT)
    · rw [e] at hb
      injection hb with hb
      have := rt_lt h.to.own ((ro b).1 hT)
      omega
  · have one : ZCS (Vs g w0.heap.size Q out w) w tc 1 (.cons kd nm.data.toList ea eb body els .nil) := by
      obtain ⟨_, _, _, e1, a1, a2, s1⟩ := pb
      obtain ⟨_, _, _, e2, b1, b2, s2⟩ := pe
      injection e1 with e1 e3 e4
      injection e2 with e2 e5 e6
      subst e1 e3 e4 e2 e5 e6
      rw [htc]
      exact ZCS.one ⟨a1, a2, b1, b2⟩ za zb s1 s2
    have all := h.done.append one
    have := all.row (S' := fun b => Ok g w0.heap.size w7 b) h.row hg (hv.imp id fun e => ⟨_, Nat.le_succ _, e⟩) (fun b hb ⟨h1, h2, h3⟩ => ⟨⟨h1.1, fun hT => h1.2 ((ro b).1 hT)⟩, fun e => h2 e.symm⟩)
    exact this.imp fun b _ ⟨h1, h2⟩ => ⟨h1, fun e => h2 e.symm⟩
theorem XZS.none {S : Nat → Prop} : XZS S w (xcells 0 0 ⟨#[]⟩ none 0 0) .bad := .inr ⟨rfl, rfl⟩
end
end Go.Proofs.YtdhjfckckghicaaDoor


namespace Go.Proofs.YtdhjfckckghicaaDoor
set_option linter.unusedVariables false
set_option linter.unusedSimpArgs false
set_option maxRecDepth 100000
open Go

section
variable {P : Program} {ops : Array Oper} {S : World → Prop} {I : Nat → Env → World → Prop} {E Ef : World → World → Prop} {mk fl : Nat → Bool} {t1 t2 : Tmp} {R2 : Value → Value → Prop}
variable {Z : (Env → Act) → List (Tmp × Fact Ef) → Prop} {o : Oper} {rest : List Oper} {A : Env → Act} {Fs : List (Tmp × Fact Ef)} {k : Nat}
theorem qsettle_mark {d : Tmp} (F : Fact Ef) (hmk : mk k = true) (hd : o.dst = some d) (hw : ∀ ρ, Region.wanted o (yielded ops (A ρ).tmps) = true)
    (hc : ∀ ρ w, S w → FactsOK (looksQ ops t1 t2 o) ρ w Fs → PreP mk fl I k ρ w → ∀ K : Act → World → Prop, (∀ v w', F.holds v w' → S w' → I (cntM mk k + 1) ρ w' → Ef w w' → K ((A ρ).put o.dst v) w') → o.wp P (A ρ) w K (fun _ _ _ => False)) (h : WalkQ P ops S I E Ef mk fl t1 t2 R2 Z (k + 1) rest (fun ρ => (A ρ).put (some d) (ρ d)) ((d, F) :: Fs)) (hd2 : (o.dst == some t2) = false := by rfl) : WalkQ P ops S I E Ef mk fl t1 t2 R2 Z k (o :: rest) A Fs :=
  ⟨.inr ⟨d, F, hd, fun ρ w hS hF hP => by
    unfold StepTo
    rw [if_pos (hw ρ)]
    unfold EsQ
    rw [hmk]
    exact fun K hK => hc ρ w hS hF hP K fun v w1 h1 h2 h3 h4 => hK v w1 ⟨h1, fun e => absurd e (by simpa using hd2)⟩ h2 ⟨h3, h4⟩, by exact h.out⟩⟩
end
end Go.Proofs.YtdhjfckckghicaaDoor
