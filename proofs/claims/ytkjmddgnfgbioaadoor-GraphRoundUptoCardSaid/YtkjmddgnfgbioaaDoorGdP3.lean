/-
  Package graph, walked: Sort.
-/
import Derived.Test.YtkjmddgnfgbioaaDoorGdP2
import Derived.Test.YtkjmddgnfgbioaaDoorGdP1
import Derived.Deep.DeepCutAuto
import Derived.Test.YtkjmddgnfgbioaaDoorRows
import Derived.Maps.OwnOps
import Derived.Maps.Views

namespace Go.Proofs.YtkjmddgnfgbioaaDoor
set_option linter.unusedVariables false
set_option linter.unusedSimpArgs false
set_option maxRecDepth 100000
open Go

section
variable {P : Program} {ops : Array Oper} {Q : Exit → Act → World → Prop} {S S0 : World → Prop} {E : World → World → Prop} {mk fl : Nat → Bool}

def markNB (ops : Array Oper) (n : Nat) (mk fl : Nat → Bool) (ms : List Nat) : Bool :=
  ms.all fun m => decide (m < n) && (List.range n).all fun i => i == m || (fl i || if i < m then reachB ops 6 m i else reachB ops 6 i m)
structure MarkedN (ops : Array Oper) (mk fl : Nat → Bool) (n : Nat) : Prop where
  lt : ∀ m, mk m = true → m < n
  before : ∀ m i, mk m = true → i < m → fl i = false → reachB ops 6 m i = true
  after : ∀ m i, mk m = true → m < i → i < n → fl i = false → reachB ops 6 i m = true
theorem markedN_of {n : Nat} {ms : List Nat} (hms : ∀ m, mk m = true → m ∈ ms) (h : markNB ops n mk fl ms = true) : MarkedN ops mk fl n := by
  have key := List.all_eq_true.1 h
  refine ⟨fun m hm => ?_, fun m i hm hi hf => ?_, fun m i hm hi hlt hf => ?_⟩
  · have := key m (hms m hm)
    rw [Bool.and_eq_true, decide_eq_true_eq] at this
    exact this.1
  · have := key m (hms m hm)
    rw [Bool.and_eq_true, decide_eq_true_eq] at this
    have h2 := List.all_eq_true.1 this.2 i (List.mem_range.2 (by omega))
    have hne : (i == m) = false := by simp; omega
    rw [hne, Bool.false_or, hf, Bool.false_or, if_pos hi] at h2
    exact h2
  · have := key m (hms m hm)
    rw [Bool.and_eq_true, decide_eq_true_eq] at this
    have h2 := List.all_eq_true.1 this.2 i (List.mem_range.2 hlt)
    have hne : (i == m) = false := by simp; omega
    rw [hne, Bool.false_or, hf, Bool.false_or, if_neg (by omega)] at h2
    exact h2

/-- no mark ahead of it -/
def noMark (mk : Nat → Bool) (k : Nat) : Bool := (List.range k).all fun m => !mk m
/-- what holds ahead of the first mark -/
def Pre (mk fl : Nat → Bool) (S0 : World → Prop) (k : Nat) (w : World) : Prop := (noMark mk k && !fl k) = true → S0 w
def SettleN (P : Program) (ops : Array Oper) (S S0 : World → Prop) (E : World → World → Prop) (mk fl : Nat → Bool) (Z : (Env → Act) → List (Tmp × Fact E) → Prop) : Nat → List Oper → (Env → Act) → List (Tmp × Fact E) → Prop
  | _, [], A, Fs => Z A Fs
  | k, o :: rest, A, Fs =>
    (∃ v, (∀ ρ w, S w → FactsOK (o.looksAt ops) ρ w (cond (fl k) [] Fs) → Pre mk fl S0 k w → StepTo P ops S (cond (mk k) (fun _ _ => True) E) o (A ρ) w (fun u _ => u = v)) ∧ SettleN P ops S S0 E mk fl Z (k + 1) rest (fun ρ => (A ρ).put o.dst v) (cond (mk k) [] Fs)) ∨
    (∃ d F, o.dst = some d ∧ fl k = false ∧ (∀ ρ w, S w → FactsOK (o.looksAt ops) ρ w (cond (fl k) [] Fs) → Pre mk fl S0 k w → StepTo P ops S (cond (mk k) (fun _ _ => True) E) o (A ρ) w F.holds) ∧ SettleN P ops S S0 E mk fl Z (k + 1) rest (fun ρ => (A ρ).put (some d) (ρ d)) ((d, F) :: cond (mk k) [] Fs))

structure PlanN (P : Program) (ops : Array Oper) (S S0 : World → Prop) (mk fl : Nat → Bool) (a : Act) (l : List (Oper × Kind E)) : Prop where
  dst : ∀ p ∈ l, (∃ F, p.2 = .fresh F) → ∃ d, p.1.dst = some d
  flt : ∀ (j : Nat) p, l[j]? = some p → (∃ F, p.2 = .fresh F) → fl j = false
  step : ∀ pre p post, l = pre ++ p :: post → ∀ ρ w, S w → FactsOK (p.1.looksAt ops) ρ w (cond (fl pre.length) [] (factsM mk 0 pre [])) → Pre mk fl S0 pre.length w → StepTo P ops S (cond (mk pre.length) (fun _ _ => True) E) p.1 (actOf a ρ pre) w p.2.rel

theorem planN_snoc {a : Act} {l : List (Oper × Kind E)} (h : PlanN P ops S S0 mk fl a l) {p : Oper × Kind E} (h1 : (∃ F, p.2 = .fresh F) → ∃ d, p.1.dst = some d) (h3 : (∃ F, p.2 = .fresh F) → fl l.length = false)
    (h2 : ∀ ρ w, S w → FactsOK (p.1.looksAt ops) ρ w (cond (fl l.length) [] (factsM mk 0 l [])) → Pre mk fl S0 l.length w → StepTo P ops S (cond (mk l.length) (fun _ _ => True) E) p.1 (actOf a ρ l) w p.2.rel) : PlanN P ops S S0 mk fl a (l ++ [p]) := by
  refine ⟨fun q hq hf => ?_, fun j q hq hf => ?_, fun pre q post he => ?_⟩
  · rcases List.mem_append.1 hq with hq | hq
    · exact h.dst q hq hf
    · rw [List.mem_singleton.1 hq] at hf ⊢
      exact h1 hf
  · rcases Nat.lt_or_ge j l.length with hj | hj
    · rw [List.getElem?_append_left hj] at hq
      exact h.flt j q hq hf
    · rw [List.getElem?_append_right hj] at hq
      have hj' := (List.getElem?_eq_some_iff.1 hq).1
      simp only [List.length_singleton] at hj'
      have e : j = l.length := by omega
      subst e
      simp only [Nat.sub_self, List.getElem?_cons_zero, Option.some.injEq] at hq
      subst hq
      exact h3 hf
  · rcases List.eq_nil_or_concat post with rfl | ⟨post', q', rfl⟩
    · have := List.append_inj' he rfl
      obtain ⟨e1, e2⟩ := this
      injection e2 with e2
      subst e1 e2
      exact h2
    · have e : pre ++ q :: (post' ++ [q']) = (pre ++ q :: post') ++ [q'] := by simp
      rw [List.concat_eq_append, e] at he
      exact h.step pre q post' (List.append_inj' he rfl).1

theorem settleN_plan {Z : (Env → Act) → List (Tmp × Fact E) → Prop} {a : Act} : ∀ (l : List Oper) (pre : List (Oper × Kind E)), PlanN P ops S S0 mk fl a pre → SettleN P ops S S0 E mk fl Z pre.length l (fun ρ => actOf a ρ pre) (factsM mk 0 pre []) →
    ∃ full : List (Oper × Kind E), PlanN P ops S S0 mk fl a full ∧ full.map (·.1) = pre.map (·.1) ++ l ∧ Z (fun ρ => actOf a ρ full) (factsM mk 0 full []) := by
  intro l
  induction l with
  | nil => exact fun pre hp h => ⟨pre, hp, by simp, h⟩
  | cons o rest ih =>
    intro pre hp h
    rcases h with ⟨v, h1, h2⟩ | ⟨d, F, hd, h3, h1, h2⟩
    · obtain ⟨full, q1, q2, q3⟩ := ih (pre ++ [(o, .fixed v)]) (planN_snoc (p := (o, .fixed v)) hp (fun ⟨F, h⟩ => by cases h) (fun ⟨F, h⟩ => by cases h) h1) (by
        have e1 : (fun ρ => actOf a ρ (pre ++ [(o, (Kind.fixed v : Kind E))])) = fun ρ => (actOf a ρ pre).put o.dst v := by
          funext ρ; simp [actOf, Kind.val]
        have e2 : factsM mk 0 (pre ++ [(o, (Kind.fixed v : Kind E))]) [] = cond (mk pre.length) [] (factsM mk 0 pre []) := by rw [factsM_snoc, Nat.zero_add]; rfl
        rw [e1, e2, List.length_append]
        exact h2)
      exact ⟨full, q1, by rw [q2]; simp, q3⟩
    · obtain ⟨full, q1, q2, q3⟩ := ih (pre ++ [(o, .fresh F)]) (planN_snoc (p := (o, .fresh F)) hp (fun _ => ⟨d, hd⟩) (fun _ => h3) h1) (by
        have e1 : (fun ρ => actOf a ρ (pre ++ [(o, (Kind.fresh F : Kind E))])) = fun ρ => (actOf a ρ pre).put (some d) (ρ d) := by
          funext ρ; simp [actOf, Kind.val, hd]
        have e2 : factsM mk 0 (pre ++ [(o, (Kind.fresh F : Kind E))]) [] = (d, F) :: cond (mk pre.length) [] (factsM mk 0 pre []) := by rw [factsM_snoc, Nat.zero_add]; simp [addFact, hd]
        rw [e1, e2, List.length_append]
        exact h2)
      exact ⟨full, q1, by rw [q2]; simp, q3⟩

theorem any_order_mt {a0 : Act} {full : List (Oper × Kind E)} {n : Nat} (hn : n < ops.size) (hops : full.map (·.1) = ops.toList.take n) (hlin : LinearN ops n) (hsk : Region.sinkB .any ops n = true) (hch : Region.chainB .any ops n = true)
    (hsq : ∀ listed : Array Bool, listed.size = ops.size → (∀ i, i < n → listed.getD i false = true) → (∀ i, n ≤ i → listed.getD i false = false) → Region.seqB .any ops (ops.size - n) n listed = true) (hmk : MarkedN ops mk fl n) (hp : PlanN P ops S S0 mk fl a0 full) (hE0 : ∀ w w', S0 w → E w w' → S0 w')
    (hZ : ∀ ρ w, S w → (∀ t F, (t, F) ∈ factsM mk 0 full [] → F.holds (ρ t) w) → wpList P ops Q (ops.toList.drop n) (actOf a0 ρ full) w) :
    ∀ (fuel : Nat) (listed : Array Bool) (a : Act) (w : World) (ρ : Env), HeadInv .any ops n listed →
      (∃ todo : List Nat, todo.length ≤ fuel ∧ ∀ i, i < n → listed.getD i false = false → i ∈ todo) →
      Holds a0 full (fun i => listed.getD i false = true) ρ a → S w → ((∀ m, mk m = true → listed.getD m false = false) → S0 w) → (∀ (i : Nat) (p : Oper × Kind E) (F : Fact E) (d : Tmp), listed.getD i false = true → (∀ m, mk m = true → i < m → listed.getD m false = false) → full[i]? = some p → p.2 = .fresh F → p.1.dst = some d → F.holds (ρ d) w) →
      wpAny P .any ops Q (fuel + (ops.size - n)) listed a w := by
  have hget : ∀ (i : Nat) (p : Oper × Kind E), full[i]? = some p → ops[i]? = some p.1 := fun i p h => by
    have : (full.map (·.1))[i]? = some p.1 := by simp [h]
    rw [hops, List.getElem?_take] at this
    split at this
    · simpa using this
    · cases this
  have hlen : full.length = n := by
    have := congrArg List.length hops
    simp only [List.length_map, List.length_take, Array.length_toList] at this
    omega
  have hget' : ∀ (i : Nat) (o : Oper), i < n → ops[i]? = some o → ∃ p : Oper × Kind E, full[i]? = some p ∧ p.1 = o := fun i o hin h => by
    have hi : i < full.length := by rw [hlen]; exact hin
    have h1 := hget i _ (List.getElem?_eq_getElem hi)
    rw [h] at h1
    injection h1 with h1
    exact ⟨_, List.getElem?_eq_getElem hi, h1.symm⟩
  have hdist : ∀ (i j : Nat) (p q : Oper × Kind E) (d : Tmp), i < j → full[i]? = some p → full[j]? = some q → p.1.dst = some d → q.1.dst ≠ some d := fun i j p q d hij h1 h2 => hlin.dist i j _ _ d hij (by have := (List.getElem?_eq_some_iff.1 h2).1; omega) (hget i p h1) (hget j q h2)
  have hdist2 : ∀ (i j : Nat) (p q : Oper × Kind E) (d : Tmp), i ≠ j → full[i]? = some p → full[j]? = some q → p.1.dst = some d → q.1.dst ≠ some d := fun i j p q d hij h1 h2 hd hd' => by
    rcases Nat.lt_or_gt_of_ne hij with h | h
    · exact hdist i j p q d h h1 h2 hd hd'
    · exact hdist j i q p d h h2 h1 hd' hd
  -- all have come up
  have fin : ∀ (fuel : Nat) (listed : Array Bool) (a : Act) (w : World) (ρ : Env), HeadInv .any ops n listed → (∀ i, i < n → listed.getD i false = true) → Holds a0 full (fun i => listed.getD i false = true) ρ a → S w →
      (∀ (i : Nat) (p : Oper × Kind E) (F : Fact E) (d : Tmp), listed.getD i false = true → (∀ m, mk m = true → i < m → listed.getD m false = false) → full[i]? = some p → p.2 = .fresh F → p.1.dst = some d → F.holds (ρ d) w) → wpAny P .any ops Q (fuel + (ops.size - n)) listed a w := fun fuel listed a w ρ inv hall hH hS hF => by
    have h1 : Holds a0 full (fun i => i < full.length) ρ (actOf a0 ρ full) := by
      have := holds_prefix a0 full ρ hdist full.length (Nat.le_refl _)
      rwa [List.take_length] at this
    have h2 : Holds a0 full (fun i => i < full.length) ρ a :=
      ⟨hH.defers, hH.size, fun t ht => hH.far t fun i p hi hp => ht i p (List.getElem?_eq_some_iff.1 hp).1 hp, fun i p t hi => hH.near i p t (hall i (by omega))⟩
    rw [h2.unique h1]
    have hz := hZ ρ w hS fun t F hm => by
      rcases mem_factsM hm with ⟨h, -⟩ | ⟨i, p, h1, h2, h3, h4⟩
      · cases h
      · exact hF i p F t (hall i (by have := (List.getElem?_eq_some_iff.1 h1).1; omega)) (fun m hm him => absurd (hmk.lt m hm) (fun h => h4 m hm (by omega) (by omega))) h1 h2 h3
    have hdl : (ops.toList.drop n).length = ops.size - n := by simp
    have hs := hsq listed inv.size hall (fun i hi => by
      rcases Nat.lt_or_ge i ops.size with h | h
      · exact getD_both (inv.tail i hi h)
      · simp [Array.getD, inv.size, Nat.not_lt.2 h])
    have := wpAny_seq_more fuel (ops.toList.drop n) n listed (actOf a0 ρ full) w (fun j => by simp [List.getElem?_drop]) (by rw [hdl]; exact hs) hz
    rwa [hdl, Nat.add_comm] at this
  have none_left : ∀ listed : Array Bool, HeadInv .any ops n listed → Region.ready .any ops listed = [] → ∀ m i, i < m → i < n → listed.getD i false = true := by
    intro listed inv hr m
    induction m with
    | zero => intro i h; omega
    | succ m ih =>
      intro i hi hin
      cases hli : listed.getD i false with
      | true => rfl
      | false =>
        have hlt : i < ops.size := by omega
        have ho : ops[i]? = some ops[i] := Array.getElem?_eq_getElem hlt
        have hmem : i ∈ Region.ready .any ops listed := by
          rw [mem_ready]
          refine ⟨?_, _, ho, fun e he hb => ?_⟩
          · simp only [Array.getD, inv.size, hlt, dif_pos] at hli ⊢
            exact hli
          · have := hlin.back i _ hin ho e he hb
            exact ih e.on (by omega) (by omega)
        rw [hr] at hmem
        cases hmem
  have some_left : ∀ listed : Array Bool, (∀ i, i < n → listed.getD i false = true) ∨ ∃ i, i < n ∧ listed.getD i false = false := fun listed => by
    by_cases h : ∃ i, i < n ∧ listed.getD i false = false
    · exact .inr h
    · exact .inl fun i hi => by
        cases hl : listed.getD i false with
        | true => rfl
        | false => exact (h ⟨i, hi, hl⟩).elim
  intro fuel
  induction fuel with
  | zero =>
    intro listed a w ρ inv ⟨todo, htodo, hin⟩ hH hS hS0 hF
    have hall : ∀ i, i < n → listed.getD i false = true := fun i hi => by
      cases hli : listed.getD i false with
      | true => rfl
      | false =>
        have := hin i hi hli
        rw [List.eq_nil_of_length_eq_zero (Nat.le_zero.1 htodo)] at this
        cases this
    exact fin 0 listed a w ρ inv hall hH hS hF
  | succ fuel ih =>
    intro listed a w ρ inv ⟨todo, htodo, hin⟩ hH hS hS0 hF
    rcases some_left listed with hall | ⟨i0, hi0, hl0⟩
    · exact fin (fuel + 1) listed a w ρ inv hall hH hS hF
    have hsz := inv.size
    rw [show fuel + 1 + (ops.size - n) = (fuel + (ops.size - n)) + 1 by omega]
    refine ⟨fun hr => ?_, fun i hi => ?_⟩
    · have := none_left listed inv hr (i0 + 1) i0 (by omega) hi0
      rw [hl0] at this
      cases this
    have hilt : i < n := by
      rcases Nat.lt_or_ge i n with h | h
      · exact h
      · exact absurd hi (tail_waits hsk hch hn inv _ i0 rfl hi0 (getD_in (by omega) hl0) i h)
    obtain ⟨h0, o, ho, hall⟩ := mem_ready.1 hi
    have hlt := (Array.getElem?_eq_some_iff.1 ho).1
    have h0' : listed.getD i false = false := by
      simp only [Array.getD, hsz, hlt, dif_pos] at h0 ⊢
      exact h0
    obtain ⟨p, hpi, rfl⟩ := hget' i o hilt ho
    have hil : i < full.length := by omega
    have hpre : Holds a0 full (fun j => j < i) ρ (actOf a0 ρ (full.take i)) := holds_prefix a0 full ρ hdist i (by omega)
    have hsplit : full = full.take i ++ p :: full.drop (i + 1) := by
      have : full[i] = p := by have := List.getElem?_eq_getElem hil; rw [hpi] at this; injection this with this; exact this.symm
      rw [← this, List.getElem_cons_drop, List.take_append_drop]
    have hstep := hp.step _ p _ hsplit ρ w hS
    have conf : ∀ (j : Nat) (q : Oper × Kind E), full[j]? = some q → ∀ t, q.1.dst = some t → t ∈ p.1.looksAt ops → (listed.getD j false = true ↔ j < i) := by
      intro j q hq t hd hl
      have hoj := hget j q hq
      have hjn : j < n := by have := (List.getElem?_eq_some_iff.1 hq).1; omega
      rcases Nat.lt_trichotomy j i with h | h | h
      · refine ⟨fun _ => h, fun _ => ?_⟩
        rcases hlin.wait j i _ _ h hilt hoj ho with hap | ⟨e, he, hb, hon⟩
        · exact absurd hl ((Oper.apart_spec hap).1 t hd)
        · rw [← hon]; exact hall e he hb
      · subst h
        rw [hpi] at hq
        injection hq with hq
        subst hq
        exact absurd hl (hlin.self j _ t hilt ho hd)
      · refine ⟨fun hj => ?_, fun h' => by omega⟩
        exfalso
        rcases hlin.wait i j _ _ h hjn ho hoj with hap | ⟨e, he, hb, hon⟩
        · exact absurd hl ((Oper.apart_spec hap).2.2 t hd)
        · have := inv.closed j _ hoj hj e he hb
          rw [hon, h0'] at this
          cases this
    have hdown' : ∀ j o, listed.getD j false = true → ops[j]? = some o → ∀ e ∈ o.after, Region.binds .any e = true → listed.getD e.on false = true := fun j o hj ho e he hb => inv.closed j o ho hj e he hb
    have later : ∀ m, mk m = true → i < m → fl i = false → listed.getD m false = false := fun m hm him hfl => by
      cases hlm : listed.getD m false with
      | false => rfl
      | true =>
        have := reach_closed hdown' 6 m i (hmk.before m i hm him hfl) hlm
        rw [h0'] at this
        cases this
    have hfacts : FactsOK (p.1.looksAt ops) ρ w (cond (fl i) [] (factsM mk 0 (full.take i) [])) := factsOK_of _ fun t F hm hl => by
      rcases hfl : fl i with _ | _
      case true => rw [hfl] at hm; cases hm
      rw [hfl] at hm
      rcases mem_factsM hm with ⟨h, -⟩ | ⟨j, q, h1, h2, h3, h4⟩
      · cases h
      · have hji : j < i := by
          have := (List.getElem?_eq_some_iff.1 h1).1
          rw [List.length_take] at this
          omega
        have hq : full[j]? = some q := by
          rw [List.getElem?_take, if_pos hji] at h1
          exact h1
        refine hF j q F t ((conf j q hq t h3 (by simpa using hl)).2 hji) (fun m hm hjm => ?_) hq h2 h3
        rcases Nat.lt_trichotomy i m with h | h | h
        · exact later m hm h hfl
        · rw [← h]; exact h0'
        · exact absurd (h4 m hm (by omega) (by rw [List.length_take]; omega)) id
    have hli' : (full.take i).length = i := by rw [List.length_take]; omega
    have hst := hstep (by rw [hli']; exact hfacts) (by
      rw [hli']
      intro hnm
      rw [Bool.and_eq_true] at hnm
      refine hS0 fun m hm => ?_
      have hfl : fl i = false := by simpa using hnm.2
      rcases Nat.lt_trichotomy i m with h | h | h
      · exact later m hm h hfl
      · rw [← h]; exact h0'
      · have := List.all_eq_true.1 hnm.1 m (List.mem_range.2 h)
        rw [hm] at this
        cases this)
    have hag : ∀ t, t ∈ p.1.looksAt ops → a.tmps[t]? = (actOf a0 ρ (full.take i)).tmps[t]? := fun t ht =>
      hH.agree hpre t fun j q hq hd => conf j q hq t hd ht
    have hexec : execOp a.eval p.1 = execOp (actOf a0 ρ (full.take i)).eval p.1 := execOp_congr p.1 (fun cs b => hlin.sel i _ cs b ho) fun x hx => by
      cases x with
      | tmp t =>
        have := hag t (List.mem_append_left _ (List.mem_filterMap.2 ⟨.tmp t, by simpa using hx, rfl⟩))
        simp only [Act.eval, Array.getD_eq_getD_getElem?]
        rw [this]
      | _ => rfl
    have hwant : Region.wanted p.1 (yielded ops a.tmps) = Region.wanted p.1 (yielded ops (actOf a0 ρ (full.take i)).tmps) := by
      unfold Region.wanted
      cases hg : p.1.guard with
      | none => rfl
      | some gw =>
        obtain ⟨g, want⟩ := gw
        have : yielded ops a.tmps g = yielded ops (actOf a0 ρ (full.take i)).tmps g := by
          unfold yielded
          cases ht : (ops[g]?).bind (·.dst) with
          | none => rfl
          | some t =>
            have := hag t (List.mem_append_right _ (by simp [hg, ht]))
            simp only [Option.bind_some, this]
        simp only [this]
    have size_eq : (actOf a0 ρ (full.take i)).tmps.size = a.tmps.size := hpre.size.trans hH.size.symm
    -- the way on
    have go : ∀ v w', p.2.rel v w' → S w' → ((∀ m, mk m = true → (listed.setIfInBounds i true).getD m false = false) → S0 w') → (∀ (j : Nat) (q : Oper × Kind E) (F : Fact E) (d : Tmp), listed.getD j false = true → (∀ m, mk m = true → j < m → (listed.setIfInBounds i true).getD m false = false) → full[j]? = some q → q.2 = .fresh F → q.1.dst = some d → F.holds (ρ d) w') →
        wpAny P .any ops Q (fuel + (ops.size - n)) (listed.setIfInBounds i true) (a.put p.1.dst v) w' := by
      intro v w' hR hS' hS0' hF'
      have next : ∀ ρ' : Env, p.2.val ρ' p.1 = v → (∀ j q, j ≠ i → full[j]? = some q → q.2.val ρ' q.1 = q.2.val ρ q.1) → (∀ j q F d, j ≠ i → full[j]? = some q → q.2 = .fresh F → q.1.dst = some d → ρ' d = ρ d) → (∀ F d, p.2 = .fresh F → p.1.dst = some d → F.holds (ρ' d) w') →
          wpAny P .any ops Q (fuel + (ops.size - n)) (listed.setIfInBounds i true) (a.put p.1.dst v) w' := by
        intro ρ' hv hothers hd' hself
        have hset : ∀ j, (listed.setIfInBounds i true).getD j false = true ↔ j = i ∨ listed.getD j false = true := fun j => by
          by_cases hji : j = i
          · subst hji
            simp [Array.getD, hsz, hlt]
          · rw [getD_set_ne false (Ne.symm hji)]
            simp [hji]
        refine ih _ _ _ ρ' (inv.set hi hilt) ⟨todo.filter (· != i), ?_, fun j hj hjl => ?_⟩ ?_ hS' hS0' (fun j q F d hj hjm hq hf hd => ?_)
        · have : (todo.filter (· != i)).length < todo.length := by
            rw [List.length_filter_lt_length_iff_exists]
            exact ⟨i, hin i hilt h0', by simp⟩
          omega
        · have hne : j ≠ i := fun e => by
            have := (hset j).2 (.inl e)
            rw [this] at hjl
            cases hjl
          refine List.mem_filter.2 ⟨hin j hj ?_, by simpa using hne⟩
          rwa [getD_set_ne false (Ne.symm hne)] at hjl
        · have := hH.put (ρ' := ρ') hpi hset (fun j q hj hq d hd => hdist2 j i q p d (fun e => by rw [e, h0'] at hj; cases hj) hq hpi hd) (fun j q hj hq => hothers j q (fun e => by rw [e, h0'] at hj; cases hj) hq)
          rwa [hv] at this
        · rcases (hset j).1 hj with rfl | hj
          · rw [hpi] at hq
            injection hq with hq
            subst hq
            exact hself F d hf hd
          · have hne : j ≠ i := fun e => by rw [e, h0'] at hj; cases hj
            rw [hd' j q F d hne hq hf hd]
            exact hF' j q F d hj hjm hq hf hd
      cases hk : p.2 with
      | fixed v0 =>
        have hv : v = v0 := by rw [hk] at hR; exact hR
        exact next ρ (by rw [hk]; exact hv.symm) (fun _ _ _ _ => rfl) (fun _ _ _ _ _ _ _ _ => rfl) (fun F d hf => by rw [hk] at hf; cases hf)
      | fresh F =>
        obtain ⟨d, hd⟩ := hp.dst p (by rw [hsplit]; simp) ⟨F, hk⟩
        have hR' : F.holds v w' := by rw [hk] at hR; exact hR
        have hne : ∀ j q d', j ≠ i → full[j]? = some q → q.1.dst = some d' → d' ≠ d := fun j q d' hji hq hd' e => hdist2 j i q p d' hji hq hpi hd' (by rw [hd, e])
        refine next (fun t => if t = d then v else ρ t) (by rw [hk]; simp [Kind.val, hd]) (fun j q hji hq => ?_) (fun j q F' d' hji hq _ hd' => if_neg (hne j q d' hji hq hd')) (fun F' d' hf hd' => ?_)
        · cases hkq : q.2 with
          | fixed v0 => rfl
          | fresh F' =>
            obtain ⟨d', hd'⟩ := hp.dst q (List.mem_of_getElem? hq) ⟨F', hkq⟩
            simp only [Kind.val, hd']
            exact if_neg (hne j q d' hji hq hd')
        · rw [hk] at hf
          injection hf with hf
          rw [hd] at hd'
          injection hd' with hd'
          subst hf hd'
          simpa using hR'
    have hset' : ∀ j, (listed.setIfInBounds i true).getD j false = false → listed.getD j false = false := fun j hj => by
      by_cases hji : j = i
      · rw [hji]; exact h0'
      · rwa [getD_set_ne false (Ne.symm hji)] at hj
    have hlen_i : (full.take i).length = i := by rw [List.length_take]; omega
    have hseti : (listed.setIfInBounds i true).getD i false = true := by simp [Array.getD, hsz, hlt]
    rw [hlen_i] at hst
    unfold wpOp
    simp only [ho]
    unfold StepTo at hst
    rw [← hwant] at hst
    split
    · rename_i hw
      rw [if_pos hw] at hst
      refine .inl (wp_carry (R := fun v w' => p.2.rel v w' ∧ S w' ∧ (cond (mk i) (fun _ _ => True) E) w w') hexec size_eq (hst _ fun v w' h1 h2 h3 => ⟨v, rfl, h1, h2, h3⟩) fun v w' ⟨h1, h2, h3⟩ => go v w' h1 h2 (fun hno => ?_) fun j q F d hj hjm hq hf hd => ?_)
      · rcases hmi : mk i with _ | _
        · rw [hmi] at h3
          exact hE0 _ _ (hS0 fun m hm => hset' m (hno m hm)) h3
        · have := hno i hmi
          rw [hseti] at this
          cases this
      rcases hmi : mk i with _ | _
      · rw [hmi] at h3
        exact F.keep _ _ _ (hF j q F d hj (fun m hm h => hset' m (hjm m hm h)) hq hf hd) h3
      · exfalso
        rcases Nat.lt_trichotomy j i with h | h | h
        · have := hjm i hmi h
          rw [hseti] at this
          cases this
        · rw [h, h0'] at hj; cases hj
        · have := reach_closed hdown' 6 j i (hmk.after i j hmi h (by have := (List.getElem?_eq_some_iff.1 hq).1; omega) (hp.flt j q hq ⟨F, hf⟩)) hj
          rw [h0'] at this
          cases this
    · rename_i hw
      rw [if_neg hw] at hst
      exact go undef w hst hS (fun hno => hS0 fun m hm => hset' m (hno m hm)) fun j q F d hj hjm hq hf hd => hF j q F d hj (fun m hm h => hset' m (hjm m hm h)) hq hf hd

/-- the same, that nothing looks into -/
structure WalkN (P : Program) (ops : Array Oper) (S S0 : World → Prop) (E : World → World → Prop) (mk fl : Nat → Bool) (Z : (Env → Act) → List (Tmp × Fact E) → Prop) (k : Nat) (l : List Oper) (A : Env → Act) (Fs : List (Tmp × Fact E)) : Prop where
  out : SettleN P ops S S0 E mk fl Z k l A Fs

/-- THE RULE, with marks and a tail of n operations ahead of it -/
theorem wp_walk_mt {id : Nat} {a : Act} {w : World} {l : List Oper} (n : Nat) (mk fl : Nat → Bool) (ms : List Nat) (hms : ∀ m, mk m = true → m ∈ ms) (hm : P.follows .mixedOrders = true) (hB : tailB l.toArray n = true) (hmk : markNB l.toArray n mk fl ms = true) (E : World → World → Prop) (S S0 : World → Prop) (hS : S w.drew) (hS0 : S0 w.drew) (hE0 : ∀ w w', S0 w → E w w' → S0 w')
    (h : WalkN P l.toArray S S0 E mk fl (fun A Fs => ∀ ρ w', S w' → (∀ t F, (t, F) ∈ Fs → F.holds (ρ t) w') → wpList P l.toArray Q (l.drop n) (A ρ) w') 0 (l.take n) (fun _ => a) []) : (Code.region id l.toArray true).wp P Q a w := by
  simp only [tailB, Bool.and_eq_true, decide_eq_true_eq] at hB
  obtain ⟨⟨⟨⟨hn, hlin⟩, hs⟩, hc⟩, hq⟩ := hB
  obtain ⟨full, hp, he, hZ⟩ := settleN_plan (l.take n) [] ⟨(fun _ h => by cases h), (fun j p h => by simp at h), (fun pre p post he => by simp at he)⟩ h.out
  have inv0 : HeadInv .any l.toArray n (Array.replicate l.toArray.size false) :=
    ⟨by simp, fun j oj _ hl => (by rw [getD_replicate_false] at hl; cases hl), fun t _ ht => getD_in (by simpa using ht) (getD_replicate_false _ _)⟩
  have := any_order_mt (P := P) (Q := Q) hn (by simpa using he) (linearN_of hlin) hs hc (fun listed hsz h1 h2 => by
    have hn' := hn
    rw [show listed = (Array.replicate n true) ++ (Array.replicate (l.toArray.size - n) false) from getD_ext (by simp only [Array.size_append, Array.size_replicate]; omega) fun i => by
      rw [Array.getD_eq_getD_getElem? (xs := _ ++ _), Array.getElem?_append]
      rcases Nat.lt_or_ge i n with h | h
      · rw [h1 i h]
        simp [h]
      · rw [h2 i h]
        simp only [Array.size_replicate, Nat.not_lt.2 h, if_false, Array.getElem?_replicate]
        split <;> rfl]
    exact hq) (markedN_of hms hmk) hp hE0 hZ n _ a w.drew (fun _ => undef) inv0 ⟨List.range n, by simp, fun i hi _ => List.mem_range.2 hi⟩ ⟨rfl, rfl, fun _ _ => rfl, fun i p t hi => ?_⟩ hS (fun _ => hS0) fun i p F d hi => ?_
  · refine wp_region_any hm ?_
    rwa [show n + (l.toArray.size - n) = l.toArray.size by omega] at this
  · exfalso; rw [getD_replicate_false] at hi; cases hi
  · exfalso; rw [getD_replicate_false] at hi; cases hi
variable {Z : (Env → Act) → List (Tmp × Fact E) → Prop} {o : Oper} {rest : List Oper} {A : Env → Act} {Fs : List (Tmp × Fact E)} {k : Nat}
theorem nsettle_nil (h : Z A Fs) : WalkN P ops S S0 E mk fl Z k [] A Fs := ⟨h⟩
theorem nsettle_skip (hmk : mk k = false) (hw : ∀ ρ, Region.wanted o (yielded ops (A ρ).tmps) = false) (h : WalkN P ops S S0 E mk fl Z (k + 1) rest (fun ρ => (A ρ).put o.dst undef) Fs) : WalkN P ops S S0 E mk fl Z k (o :: rest) A Fs :=
  ⟨.inl ⟨undef, fun ρ w _ _ _ => by unfold StepTo; rw [if_neg (by rw [hw]; simp)], by rw [hmk]; exact h.out⟩⟩
theorem nsettle_run {v : Value} (hmk : mk k = false) (hE : ∀ w, S w → E w w) (hw : ∀ ρ, Region.wanted o (yielded ops (A ρ).tmps) = true)
    (hr : ∀ ρ w, S w → FactsOK (o.looksAt ops) ρ w (cond (fl k) [] Fs) → Pre mk fl S0 k w → (execOp (A ρ).eval o).run P w = .ok (.value v) w) (h : WalkN P ops S S0 E mk fl Z (k + 1) rest (fun ρ => (A ρ).put o.dst v) Fs) : WalkN P ops S S0 E mk fl Z k (o :: rest) A Fs :=
  ⟨.inl ⟨v, fun ρ w hS hF hP => by
    unfold StepTo
    rw [if_pos (hw ρ), hmk]
    intro K hK
    unfold Oper.wp
    rw [hr ρ w hS hF hP]
    exact hK v w rfl hS (hE w hS), by rw [hmk]; exact h.out⟩⟩
theorem nsettle_step {v : Value} (hmk : mk k = false) (hw : ∀ ρ, Region.wanted o (yielded ops (A ρ).tmps) = true)
    (hc : ∀ ρ w, S w → FactsOK (o.looksAt ops) ρ w (cond (fl k) [] Fs) → Pre mk fl S0 k w → ∀ K : Act → World → Prop, (∀ w', S w' → E w w' → K ((A ρ).put o.dst v) w') → o.wp P (A ρ) w K (fun _ _ _ => False)) (h : WalkN P ops S S0 E mk fl Z (k + 1) rest (fun ρ => (A ρ).put o.dst v) Fs) : WalkN P ops S S0 E mk fl Z k (o :: rest) A Fs :=
  ⟨.inl ⟨v, fun ρ w hS hF hP => by
    unfold StepTo
    rw [if_pos (hw ρ), hmk]
    exact fun K hK => hc ρ w hS hF hP K fun w' h1 h2 => hK v w' rfl h1 h2, by rw [hmk]; exact h.out⟩⟩
theorem nsettle_known {d : Tmp} (F : Fact E) (hmk : mk k = false) (hfl : fl k = false) (hd : o.dst = some d) (hw : ∀ ρ, Region.wanted o (yielded ops (A ρ).tmps) = true)
    (hc : ∀ ρ w, S w → FactsOK (o.looksAt ops) ρ w (cond (fl k) [] Fs) → Pre mk fl S0 k w → ∀ K : Act → World → Prop, (∀ v w', F.holds v w' → S w' → E w w' → K ((A ρ).put o.dst v) w') → o.wp P (A ρ) w K (fun _ _ _ => False)) (h : WalkN P ops S S0 E mk fl Z (k + 1) rest (fun ρ => (A ρ).put (some d) (ρ d)) ((d, F) :: Fs)) : WalkN P ops S S0 E mk fl Z k (o :: rest) A Fs :=
  ⟨.inr ⟨d, F, hd, hfl, fun ρ w hS hF hP => by
    unfold StepTo
    rw [if_pos (hw ρ), hmk]
    exact fun K hK => hc ρ w hS hF hP K hK, by rw [hmk]; exact h.out⟩⟩
/-- a mark: what was known is forgotten -/
theorem nsettle_mark {d : Tmp} (F : Fact E) (hmk : mk k = true) (hfl : fl k = false) (hd : o.dst = some d) (hw : ∀ ρ, Region.wanted o (yielded ops (A ρ).tmps) = true)
    (hc : ∀ ρ w, S w → FactsOK (o.looksAt ops) ρ w (cond (fl k) [] Fs) → Pre mk fl S0 k w → ∀ K : Act → World → Prop, (∀ v w', F.holds v w' → S w' → K ((A ρ).put o.dst v) w') → o.wp P (A ρ) w K (fun _ _ _ => False)) (h : WalkN P ops S S0 E mk fl Z (k + 1) rest (fun ρ => (A ρ).put (some d) (ρ d)) [(d, F)]) : WalkN P ops S S0 E mk fl Z k (o :: rest) A Fs :=
  ⟨.inr ⟨d, F, hd, hfl, fun ρ w hS hF hP => by
    unfold StepTo
    rw [if_pos (hw ρ), hmk]
    exact fun K hK => hc ρ w hS hF hP K fun v w' h1 h2 => hK v w' h1 h2 trivial, by rw [hmk]; exact h.out⟩⟩
end
end Go.Proofs.YtkjmddgnfgbioaaDoor


namespace Go.Proofs.YtkjmddgnfgbioaaDoor
set_option linter.unusedVariables false
set_option linter.unusedSimpArgs false
set_option maxRecDepth 100000
open Go Go.RowKit

theorem keeps_below {w w' : World} (h : Below w.heap.size w w') : Keeps (fun _ => False) w w' := Keeps.of_below h _
def FSl (sz n : Nat) (vs : List Value) : Fact (fun w w' => Below w.heap.size w w') := ⟨fun v w => SlV w sz v n vs, fun _ _ _ h k => h.below k⟩
/-- 'append(v, vs...)' as one operation -/
theorem oper_append {P : Program} {w : World} {o : Oper} {a : Act} {K : Act → World → Prop} {Q : Exit → Act → World → Prop} (s x : Operand)
    (base t e : TypeId) (z : Value) (size bytes : Nat) (ht : P.underlying t = some (.slice e)) (hinfo : (P.info? e).map (fun i => (i.zero, i.size, i.bytes)) = some (some z, size, bytes)) (hz : z.cells.size = size) (hsz : 0 < size)
    {v : Value} {n : Nat} {xs : List Value} (hown : w.ownsRow base e size v n xs) {vs : Value} {m : Nat} {news : List Value} (hsl : SlV w size vs m news) (h1 : ∀ u ∈ news, u.oneCell' = true)
    (h63 : n + m ≤ maxLen) (hbytes : (n + m) * bytes ≤ 140737488355328) (hbase : base ≤ w.heap.size) (ho : o.op = .call { callee := .builtin .append, args := #[s, x], argTypes := #[t, t] }) (hs : a.eval s = v) (hx : a.eval x = vs)
    (h : ∀ v' w', w'.ownsRow base e size v' (n + m) (xs ++ news) → w.grownBy w' v.ownBlock → (v'.ownBlock = v.ownBlock ∨ v'.ownBlock = some w.heap.size) → Below base w w' → K (a.put o.dst v') w') : o.wp P a w K Q := by
  obtain ⟨A, c, rfl, hle, hm, hlen, hc⟩ := hsl
  obtain ⟨v', w', hrun, h2, h3, h4⟩ := run_append (P := P) w base t o.type e z size bytes ht hinfo hz hsz v n xs hown w.heap.size A m c news hlen hc h1 h63 hbytes hbase
  unfold Oper.wp execOp
  simp only [ho, resolve, invoke, builtin, Sem.run_bind, Sem.run_pure, Result.andThen_ok, List.map_toArray, List.map_cons, List.map_nil, hs, hx, hrun]
  exact h v' w' h2 h3 h4 ((Below.refl _ _).grown h3 hbase (own_ge hown))

/-- a row of the call's own, that stays as it is -/
def FRow (B : Nat) (e : TypeId) (sz n : Nat) (vs : List Value) : Fact (fun w w' => Below w.heap.size w w') := ⟨fun v w => w.ownsRow B e sz v n vs, fun _ _ _ h k => own_keeps h (keeps_below k) (fun _ _ => id)⟩

/-- the first k elements -/
theorem SlV.takeV {w : World} {sz n c : Nat} {A : Option Addr} {vs : List Value} (h : SlV w sz (.slice A n c) n vs) (k : Nat) (hk : k ≤ n) : SlV w sz (.slice A k c) k (vs.take (k * sz)) := by
  obtain ⟨A', c', he, h1, h2, h3, h4⟩ := h
  injection he with e1 e2 e3
  subst e1 e3
  have := Nat.mul_le_mul_right sz hk
  exact ⟨A, c, rfl, by omega, h2, by rw [List.length_take, h3]; omega, h4.take _⟩
end Go.Proofs.YtkjmddgnfgbioaaDoor


namespace Go.Proofs.YtkjmddgnfgbioaaDoor
set_option linter.unusedVariables false
set_option linter.unusedSimpArgs false
set_option maxRecDepth 100000
open Go.RowKit

def edc (e : Gr.Ed) : List Value := [.int .i64 (e.1 : Int), .int .i64 (e.2 : Int)]
def edcs (l : List Gr.Ed) : List Value := l.flatMap edc
theorem info_sint : (Tryd.prog.info? 29).map (fun i => (i.zero, i.size, i.bytes)) = some (some (.slice none 0 0), 1, 24) := by kernel_rfl
theorem ilist_length (l : List Nat) : (ilist l).length = l.length := by simp [ilist, ints_length]

def irw (v : Value) (l : List Nat) : Rw := ⟨3, 1, v, l.length, ilist l⟩
def wrw (v : Value) (ws : List Int) : Rw := ⟨3, 1, v, ws.length, ints .i64 ws⟩
/-- how many each one waits for; what each one leads to -/
def tkR (wv : Value) (ws : List Int) (vs : List Value) (L : List (List Nat)) : List Rw := wrw wv ws :: List.zipWith irw vs L
theorem zip_set {α β γ : Type} (f : α → β → γ) : ∀ (l : List α) (m : List β) (i : Nat) (a : α) (b : β), (List.zipWith f l m).set i (f a b) = List.zipWith f (l.set i a) (m.set i b)
  | [], _, _, _, _ => rfl
  | _ :: _, [], i, _, _ => by cases i <;> rfl
  | x :: l, y :: m, 0, _, _ => rfl
  | x :: l, y :: m, i + 1, a, b => by simp [zip_set f l m i a b]
theorem tkR_w (wv : Value) (ws ws' : List Int) (vs : List Value) (L : List (List Nat)) : (tkR wv ws vs L).set 0 (wrw wv ws') = tkR wv ws' vs L := rfl
theorem tkR_i (wv : Value) (ws : List Int) (vs : List Value) (L : List (List Nat)) (i : Nat) (v : Value) (l : List Nat) : (tkR wv ws vs L).set (i + 1) (irw v l) = tkR wv ws (vs.set i v) (L.set i l) := by
  unfold tkR
  rw [List.set_cons_succ, zip_set]
theorem tkR_get (wv : Value) (ws : List Int) (vs : List Value) (L : List (List Nat)) (i : Nat) (v : Value) (l : List Nat) (hv : vs[i]? = some v) (hl : L[i]? = some l) : (tkR wv ws vs L)[i + 1]? = some (irw v l) := by
  unfold tkR
  rw [List.getElem?_cons_succ, List.getElem?_zipWith, hv, hl]
/-- both are made -/
theorem tk_start {B q r : Nat} {w1 w2 : World} {N : Nat} (h1 : w1.ownsRow B 3 1 (.slice (some ⟨q, 0, none⟩) N N) N (List.replicate N (.int .i64 0))) (hb : Below w1.heap.size w1 w2) (hr : r = w1.heap.size) (h2 : Blk w2 r 29 (List.replicate N (.slice none 0 0))) (hB : B ≤ w1.heap.size) :
    Own B w2 r 29 (List.replicate N (.slice none 0 0)) (tkR (.slice (some ⟨q, 0, none⟩) N N) (Gr.wl N []) (List.replicate N (.slice none 0 0)) (Gr.nl N [])) := by
  have hw : Gr.wl N [] = List.replicate N 0 := by
    apply List.ext_getElem
    · simp [Gr.wl]
    · intro i h h'; simp [Gr.wl, Gr.wt]
  have hn : Gr.nl N [] = List.replicate N [] := by
    apply List.ext_getElem
    · simp [Gr.nl]
    · intro i h h'; simp [Gr.nl, Gr.next]
  have hz : List.zipWith irw (List.replicate N (.slice none 0 0)) (List.replicate N []) = List.replicate N (irw (.slice none 0 0) []) := by simp
  have hq := h1.lt q rfl
  unfold tkR
  rw [hw, hn, hz]
  refine ⟨h2, fun s hs => ?_, fun i j s t hi hj hij => ?_, fun s hs => ?_, Nat.le_trans hB hb.size, by omega⟩
  · rcases List.mem_cons.1 hs with rfl | hs
    · have := own_keeps h1 (Keeps.of_below hb (fun _ => False)) (fun _ _ => id)
      show w2.ownsRow _ _ _ _ _ _
      simpa [wrw, ints] using this
    · rw [(List.mem_replicate.1 hs).2]
      exact World.ownsRow_nil _ _ _ _
  · intro k hk hk'
    cases i with
    | zero =>
      cases j with
      | zero => exact hij rfl
      | succ j =>
        rw [List.getElem?_cons_succ, List.getElem?_replicate] at hj
        split at hj
        · injection hj with hj; subst hj; simp [irw, Value.ownBlock] at hk'
        · cases hj
    | succ i =>
      rw [List.getElem?_cons_succ, List.getElem?_replicate] at hi
      split at hi
      · injection hi with hi; subst hi; simp [irw, Value.ownBlock] at hk
      · cases hi
  · rcases List.mem_cons.1 hs with rfl | hs
    · intro e
      have : q = r := by simpa [wrw, Value.ownBlock] using e
      omega
    · rw [(List.mem_replicate.1 hs).2]
      simp [irw, Value.ownBlock]

theorem own_cell {w : World} {B g n c : Nat} {e : TypeId} {xs : List Value} (h : w.ownsRow B e 1 (.slice (some ⟨g, 0, none⟩) n c) n xs) {j : Nat} {u : Value} (hj : xs[j]? = some u) : w.cell? ⟨g, j, none⟩ = some u := by
  obtain ⟨cs, hB, -, ht, -⟩ := row_blk h
  rw [hB.cell]
  rw [← ht, List.getElem?_take] at hj
  split at hj
  · exact hj
  · cases hj
theorem row_set {w : World} {B g n c : Nat} {e : TypeId} {xs : List Value} (h : w.ownsRow B e 1 (.slice (some ⟨g, 0, none⟩) n c) n xs) (i : Nat) (u : Value) : (w.setCell ⟨g, i, none⟩ u).ownsRow B e 1 (.slice (some ⟨g, 0, none⟩) n c) n (xs.set i u) := by
  obtain ⟨cs, hB, hl, ht, hn, hm, hb⟩ := row_blk h
  have := row_of_blk (size := 1) (c := c) (n := n) (hB.set_ i u) (by simpa using hl) hb hn hm
  rw [List.take_set, ht] at this
  exact this
theorem row_frozen {w : World} {B g n c : Nat} {e : TypeId} {xs : List Value} (h : w.ownsRow B e 1 (.slice (some ⟨g, 0, none⟩) n c) n xs) (i : Nat) : w.frozen? ⟨g, i, none⟩ = false := by
  obtain ⟨cs, hB, -⟩ := row_blk h
  exact hB.frozen i
/-- a slice as long as it may be: its block is known whole -/
theorem row_whole {w : World} {B g n : Nat} {e : TypeId} {xs : List Value} (h : w.ownsRow B e 1 (.slice (some ⟨g, 0, none⟩) n n) n xs) : Blk w g e xs := by
  obtain ⟨cs, hB, hl, ht, -⟩ := row_blk h
  rw [← ht, List.take_of_length_le (by omega)]
  exact hB

theorem SlU.far {S : Nat → Prop} {w w' : World} {v : Value} {xs : List Nat} (h : SlU w v xs) (k : Keeps S w w') (hf : xs ≠ [] → ∀ p, ptr v = some p → ¬ S p.block) : SlU w' v xs := by
  obtain ⟨⟨A, c, rfl, h1, h2, h3, b, o, h4, h5⟩, h6⟩ := h
  refine ⟨⟨A, c, rfl, h1, h2, h3, b, o, fun hn => ⟨(h4 hn).1, Nat.lt_of_lt_of_le (h4 hn).2 k.size⟩, fun j u hu => ?_⟩, h6⟩
  have hn : nats xs ≠ [] := fun e => by rw [e] at hu; simp at hu
  obtain ⟨hA, hb⟩ := h4 hn
  exact (World.cell?_of_block (a := ⟨b, o + j, none⟩) (k.block b hb (hf (fun e => hn (by rw [e]; rfl)) _ (by rw [hA]; rfl)))).trans (h5 j u hu)
/-- a slice of words that lies in none of these blocks -/
def FarU (T : Nat → Prop) (v : Value) (xs : List Nat) : Prop := xs ≠ [] → ∀ p, ptr v = some p → ¬ T p.block
theorem FarU.new {T : Nat → Prop} {B : Nat} {v : Value} {xs : List Nat} (h : New B v) (hT : ∀ k, T k → k < B) : FarU T v xs := fun _ p hp hk => by
  have h1 := hT _ hk
  have h2 := h p hp
  omega
theorem FarU.step {T T' : Nat → Prop} {w : World} {v : Value} {xs : List Nat} (h : FarU T v xs) (hu : SlU w v xs) (hT : ∀ k, T' k → T k ∨ w.heap.size ≤ k) : FarU T' v xs := fun hn p hp hk => by
  obtain ⟨⟨A, c, rfl, h1, h2, h3, b, o, h4, h5⟩, h6⟩ := hu
  obtain ⟨hA, hb⟩ := h4 (fun e => hn (by simpa [nats] using e))
  have hp' : A = some p := hp
  rcases hT _ hk with hk | hk
  · exact h hn p hp hk
  · rw [hp'] at hA
    injection hA with hA
    rw [hA] at hk
    simp at hk
    omega
theorem OwnTo.cons_nil {B g : Nat} {w0 w : World} {T0 : Nat → Prop} {t : TypeId} {cs : List Value} {rs : List Rw} (h : OwnTo B w0 T0 w g t cs rs) : OwnTo B w0 T0 w g t cs (irw (.slice none 0 0) [] :: rs) := by
  refine ⟨⟨h.own.blk, fun r hr => ?_, fun i j r s hi hj hij => ?_, fun r hr => ?_, h.own.base, h.own.lo⟩, h.kp, fun k hk => h.nw k ?_⟩
  · rcases List.mem_cons.1 hr with rfl | hr
    · exact World.ownsRow_nil _ _ _ _
    · exact h.own.rows r hr
  · cases i with
    | zero =>
      injection hi with hi
      subst hi
      intro k hk
      simp [irw, Value.ownBlock] at hk
    | succ i =>
      cases j with
      | zero =>
        injection hj with hj
        subst hj
        intro k hk
        simp [irw, Value.ownBlock]
      | succ j => exact h.own.ap i j r s hi hj (fun e => hij (by rw [e]))
  · rcases List.mem_cons.1 hr with rfl | hr
    · simp [irw, Value.ownBlock]
    · exact h.own.ng r hr
  · rcases hk with rfl | ⟨r, hr, hk⟩
    · exact .inl rfl
    · rcases List.mem_cons.1 hr with rfl | hr
      · simp [irw, Value.ownBlock] at hk
      · exact .inr ⟨r, hr, hk⟩
/-- how many each one waits for, when these are out -/
def wo (N : Nat) (es : List Gr.Ed) (out : List Nat) : List Int := (List.range N).map fun m => ((Gr.wt es out m : Nat) : Int)

set_option maxHeartbeats 4000000 in
theorem take_any (N : Nat) (es : List Gr.Ed) (w : World) (A : Option Addr) (c : Nat) (hN : N ≤ 200) (hes : ∀ e ∈ es, e.1 < N ∧ e.2 < N) (hA : SlV w 2 (.slice A es.length c) es.length (edcs es)) (hle : es.length ≤ 1099511627776) (hT : Tab w) :
    Calls Tryd.prog 85 #[.agg #[.int .i64 (N : Int), .slice A es.length c]] w fun e w' => ∃ u, e = .returned u ∧ w'.ownsRow w.heap.size 3 1 u (Gr.take N es).length (ilist (Gr.take N es)) ∧ Below w.heap.size w w' := by
  have HES := Lib.hid hes
  have x0 := Blk.new w 72 [.int .i64 (N : Int), .slice A es.length c]
  have hb0 : Below w.heap.size w (w.alloc (.cells #[.int .i64 (N : Int), .slice A es.length c] 72)) := below_alloc (Below.refl _ _) _
  clear hes
  go_enter Tryd.func85, Tryd.ntmps85
  have n47 : 8 * N ≤ 281474976710656 := by omega
  have n47' : 24 * N ≤ 281474976710656 := by omega
  have n63 : N ≤ 9223372036854775807 := by omega
  have hz0 : (w.alloc (.cells #[.int .i64 (N : Int), .slice A es.length c] 72)).heap.size = w.heap.size + 1 := by simp
  have c00 : (w.alloc (.cells #[.int .i64 (N : Int), .slice A es.length c] 72)).cell? ⟨w.heap.size, 0, none⟩ = some (.int .i64 (N : Int)) := (x0.cell 0).trans rfl
  have HZ0 := Lib.hid hz0
  clear hz0
  go_wp2_with (first | (at_make; refine wp_make _ 29 3 (.int .i64 0) 8 N Tryd.underlying29 info_int rfl (by omega) (by omega) n47 n63 rfl rfl rfl rfl ?_; intro w1 hown1 hb1 hs1; have x1 := x0.below hb1; have c10 : w1.cell? ⟨w.heap.size, 0, none⟩ = some (.int .i64 (N : Int)) := (x1.cell 0).trans rfl; have c11 : w1.cell? ⟨w.heap.size, 1, none⟩ = some (.slice A es.length c) := (x1.cell 1).trans rfl) | (at_make; refine wp_make _ 146 29 (.slice none 0 0) 24 N Tryd.underlying146 info_sint rfl (by omega) (by omega) n47' n63 rfl rfl rfl rfl ?_; intro w2 hown2 hb2 hs2; have x2 := x1.below hb2; have c20 : w2.cell? ⟨w.heap.size, 0, none⟩ = some (.int .i64 (N : Int)) := (x2.cell 0).trans rfl; have c21 : w2.cell? ⟨w.heap.size, 1, none⟩ = some (.slice A es.length c) := (x2.cell 1).trans rfl) | fail)
  have hO : Own (w.heap.size + 1) w2 (w.heap.size + 1 + 1) 29 (List.replicate N (.slice none 0 0)) (tkR (.slice (some ⟨w.heap.size + 1, 0, none⟩) N N) (Gr.wl N []) (List.replicate N (.slice none 0 0)) (Gr.nl N [])) := by
    have hz := HZ0.out
    rw [hz] at hown1 hs1
    have hw := row_whole hown2
    rw [hs1] at hw
    exact tk_start hown1 hb2 hs1.symm hw (by omega)
  have hb02 : Below w.heap.size w w2 := below_next hb2 (below_next hb1 hb0)
  have hQ2 : w.heap.size + 1 + 1 < w2.heap.size := hO.blk.lt
  obtain ⟨Q, hQ⟩ : ∃ Q, Q = w.heap.size := ⟨_, rfl⟩
  rw [← hQ] at hO hQ2 ⊢
  have HQ := Lib.hid hQ
  clear hown1 hown2 hb1 hb2 hs1 hs2 x0 hb0 n47 n47' n63 c00 c10 c11 c20 c21 x1 HZ0 hQ
  have keepB : ∀ (vs : List Value) (rs : List Rw) (wr : World), OwnTo (Q + 1) w2 (Tw (Q + 1 + 1) (tkR (.slice (some ⟨Q + 1, 0, none⟩) N N) (Gr.wl N []) (List.replicate N (.slice none 0 0)) (Gr.nl N []))) wr (Q + 1 + 1) 29 vs rs → Below w.heap.size w wr := fun _ _ wr h => hb02.trans ((hO.below h.kp).mono (by rw [HQ.out]; omega))
  have HK := Lib.hid keepB
  clear keepB
  go_loopw [23] (fun i wr => ∃ (k : Nat) (vs : List Value), k ≤ es.length ∧ i = .int .i64 (k : Int) ∧ vs.length = N ∧ OwnTo (Q + 1) w2 (Tw (Q + 1 + 1) (tkR (.slice (some ⟨Q + 1, 0, none⟩) N N) (Gr.wl N []) (List.replicate N (.slice none 0 0)) (Gr.nl N []))) wr (Q + 1 + 1) 29 vs (tkR (.slice (some ⟨Q + 1, 0, none⟩) N N) (Gr.wl N (es.take k)) vs (Gr.nl N (es.take k)))) (fun i _ => es.length - (intOf i).toNat)
  case atStart => exact ⟨0, _, Nat.zero_le _, rfl, by simp, OwnTo.start hO⟩
  case round =>
    obtain ⟨k, vs, hk, rfl, hvl, hOk⟩ := hrel
    have hbw := HK.out _ _ wr hOk
    by_cases hlt : k < es.length
    · obtain ⟨⟨a, b⟩, hx⟩ : ∃ x, es[k]? = some x := ⟨_, List.getElem?_eq_getElem hlt⟩
      obtain ⟨ha, hb⟩ := HES.out _ (List.mem_of_getElem? hx)
      have gx := flat_get edc 2 (fun _ => rfl) es k
      have g1 := gx 0 _ hx (by omega)
      have g2 := gx 1 _ hx (by omega)
      obtain ⟨A', c', he, -, -, -, hcc⟩ := hA.below hbw
      injection he with e1 e2 e3
      subst e1 e3
      obtain ⟨g, o, rfl, hgl, hcell⟩ := hcc.at_ (fun e => by rw [show List.flatMap edc es = edcs es from rfl, e] at g1; simp [edc] at g1)
      have d0 : wr.cell? ⟨g, o + k * 2, none⟩ = some (.int .i64 (a : Int)) := (hcell _ _ g1).trans rfl
      have d1 : wr.cell? ⟨g, o + k * 2 + 1, none⟩ = some (.int .i64 (b : Int)) := by rw [Nat.add_assoc]; exact hcell _ _ g2
      have htk := Gr.take_snoc hx
      have hw1 := Gr.wl_one N (es.take k) a b
      have hn1 := Gr.nl_one N (es.take k) a b
      rw [← htk] at hw1 hn1
      obtain ⟨U, hU⟩ : ∃ U, U = Gr.wt (es.take k) [] b := ⟨_, rfl⟩
      rw [← hU] at hw1
      have hUb : U ≤ 1099511627776 := by rw [hU]; exact Nat.le_trans (Gr.wt_le _ _ _) (by rw [List.length_take]; omega)
      have hwl : (Gr.wl N (es.take k)).length = N := by simp [Gr.wl]
      have hTA := hOk.later (below_alloc (Below.refl _ _) (.cells #[.int .i64 (a : Int), .int .i64 (b : Int)] 75))
      have hE := Blk.new wr 75 [.int .i64 (a : Int), .int .i64 (b : Int)]
      have r0 := hTA.own.row 0 rfl
      unfold Rw.at_ wrw at r0
      rw [hwl] at r0
      have c0 := own_cell r0 (j := b) (u := .int .i64 (U : Int)) (by
        show (List.map _ _)[b]? = _
        rw [List.getElem?_map, show (Gr.wl N (es.take k))[b]? = some (U : Int) by rw [hU]; exact Gr.map_get _ _ _ hb]
        rfl)
      obtain ⟨v, hv⟩ : ∃ v, vs[a]? = some v := ⟨_, List.getElem?_eq_getElem (by omega)⟩
      have hnx : (Gr.nl N (es.take k))[a]? = some (Gr.next (es.take k) a) := Gr.map_get _ _ _ ha
      have hnl : (Gr.next (es.take k) a).length ≤ 1099511627776 := by
        have := List.length_filter_le (fun e : Gr.Ed => e.1 == a) (es.take k)
        rw [List.length_take] at this
        unfold Gr.next
        rw [List.length_map]
        omega
      obtain ⟨nx, hnxq⟩ : ∃ nx, nx = Gr.next (es.take k) a := ⟨_, rfl⟩
      rw [← hnxq] at hnx hn1 hnl
      clear hnxq
      have hvne : v.ownBlock ≠ some wr.heap.size := fun e => by
        have := ((hOk.own.row (a + 1) (tkR_get _ _ _ _ a v nx hv hnx)).lt _ e).2
        omega
      have HX := Lib.hid (And.intro hw1 (And.intro hn1 (And.intro hwl (And.intro hv hnx))))
      clear hv hnx
      have HO := Lib.hid hO
      have hlw : Q + 1 + 1 < wr.heap.size := Nat.lt_of_lt_of_le hQ2 hOk.kp.size
      clear hOk htk hw1 hn1 hx gx g1 g2 hcc hcell e2 hA hO hwl hU hbw
      go_upto_region 6 with (fail)
      have hb5 : Below wr.heap.size wr (wr.alloc (.cells #[.int .i64 (a : Int), .int .i64 (b : Int)] 75)) := below_alloc (Below.refl _ _) _
      generalize (wr.alloc (.cells #[.int .i64 (a : Int), .int .i64 (b : Int)] 75)) = W5 at hTA hE r0 c0 hb5 ⊢
      have e0 : W5.cell? ⟨wr.heap.size, 0, none⟩ = some (.int .i64 (a : Int)) := (hE.cell 0).trans rfl
      have e1 : W5.cell? ⟨wr.heap.size, 1, none⟩ = some (.int .i64 (b : Int)) := (hE.cell 1).trans rfl
      clear d0 d1
      have f0 := row_frozen r0 b
      have hr6 := row_set r0 b (.int .i64 ((U : Int) + 1))
      have hg6 := grown_setCell W5 (Q + 1) b (.int .i64 ((U : Int) + 1))
      go_wp2_with fail
      obtain ⟨w6, hw6⟩ : ∃ w6, w6 = W5.setCell ⟨Q + 1, b, none⟩ (.int .i64 ((U : Int) + 1)) := ⟨_, rfl⟩
      rw [← hw6] at hr6 hg6 ⊢
      clear hw6 c0 f0
      have hT6 : OwnTo (Q + 1) w2 (Tw (Q + 1 + 1) (tkR (.slice (some ⟨Q + 1, 0, none⟩) N N) (Gr.wl N []) (List.replicate N (.slice none 0 0)) (Gr.nl N []))) w6 (Q + 1 + 1) 29 vs (tkR (.slice (some ⟨Q + 1, 0, none⟩) N N) (Gr.wl N (es.take (k + 1))) vs (Gr.nl N (es.take k))) := by
        rw [← ints_set, ← HX.out.1] at hr6
        have hl1 : (Gr.wl N (es.take (k + 1))).length = N := by simp [Gr.wl]
        have h1 : W5.grownBy w6 (wrw (.slice (some ⟨Q + 1, 0, none⟩) N N) (Gr.wl N (es.take k))).v.ownBlock := hg6
        have hp := (hTA.own.put (i := 0) rfl (v' := .slice (some ⟨Q + 1, 0, none⟩) N N) (n' := N) hr6 h1 (.inl rfl)).1
        have := hTA.step (hTA.own.put_to (i := 0) rfl (v' := .slice (some ⟨Q + 1, 0, none⟩) N N) (n' := N) hr6 h1 (.inl rfl) hp (World.grownBy.refl w6 _))
        have e : (tkR (.slice (some ⟨Q + 1, 0, none⟩) N N) (Gr.wl N (es.take k)) vs (Gr.nl N (es.take k))).set 0 ⟨3, 1, .slice (some ⟨Q + 1, 0, none⟩) N N, N, ints .i64 (Gr.wl N (es.take (k + 1)))⟩ = tkR (.slice (some ⟨Q + 1, 0, none⟩) N N) (Gr.wl N (es.take (k + 1))) vs (Gr.nl N (es.take k)) := by
          show _ = wrw _ _ :: _
          unfold wrw
          rw [hl1]
          rfl
        exact e ▸ this
      have hE6 := hE.grown hg6 (by intro e; injection e with e; omega)
      clear hTA r0 hr6 hg6 hE e0 e1
      have hget := tkR_get (.slice (some ⟨Q + 1, 0, none⟩) N N) (Gr.wl N (es.take (k + 1))) vs (Gr.nl N (es.take k)) a v nx HX.out.2.2.2.1 HX.out.2.2.2.2
      have rv : w6.ownsRow (Q + 1) 3 1 v nx.length (ilist nx) := hT6.own.row (a + 1) hget
      have hng : v.ownBlock ≠ some (Q + 1 + 1) := hT6.own.ng _ (List.mem_of_getElem? hget)
      obtain ⟨VB, cb, rfl, -, -⟩ := own_slice rv
      have hR : ∀ w', Below w6.heap.size w6 w' → w'.ownsRow (Q + 1) 3 1 (.slice VB nx.length cb) nx.length (ilist nx) ∧ Q + 1 ≤ w'.heap.size := fun w' hb => ⟨(hT6.own.later hb).row (a + 1) hget, (hT6.own.later hb).base⟩
      have keepS : ∀ w', Keeps (fun k => (Value.slice VB nx.length cb).ownBlock = some k) w6 w' → Keeps (fun k => (Value.slice VB nx.length cb).ownBlock = some k) w6 w' ∧ w'.cell? ⟨Q + 1 + 1, a, none⟩ = some (.slice VB nx.length cb) ∧ w'.cell? ⟨wr.heap.size, 0, none⟩ = some (.int .i64 (a : Int)) ∧ w'.cell? ⟨wr.heap.size, 1, none⟩ = some (.int .i64 (b : Int)) := fun w' k =>
        ⟨k, ((hT6.own.blk.keeps k hng).cell a).trans HX.out.2.2.2.1, ((hE6.keeps k hvne).cell 0).trans rfl, ((hE6.keeps k hvne).cell 1).trans rfl⟩
      have hS1 := keepS _ ((Keeps.refl _ w6).drewN 1)
      have hn63 : nx.length + 1 ≤ maxLen := by unfold maxLen; omega
      have hn47 : (nx.length + 1) * 8 ≤ 140737488355328 := by omega
      have HT := Lib.hid (And.intro hT6 hget)
      clear hT6 rv hE6 hget hng hvne
      refine wp_walk_mt 13 (fun i => ([11] : List Nat).contains i) (fun i => ([0,1,2,12] : List Nat).contains i) [11] (by intro m h; simpa using h) (by kernel_rfl) (by kernel_rfl) (by kernel_rfl) (fun w w' => Below w.heap.size w w')  (fun w' => Keeps (fun k => (Value.slice VB nx.length cb).ownBlock = some k) w6 w' ∧ w'.cell? ⟨Q + 1 + 1, a, none⟩ = some (.slice VB nx.length cb) ∧ w'.cell? ⟨wr.heap.size, 0, none⟩ = some (.int .i64 (a : Int)) ∧ w'.cell? ⟨wr.heap.size, 1, none⟩ = some (.int .i64 (b : Int))) (fun w' => Below w6.heap.size w6 w') hS1 (below_drew (Below.refl _ _)) (fun _ _ h h' => below_next h' h) ?_
      simp only [List.length_cons, List.length_nil, Nat.reduceAdd, Nat.reduceSub, List.take_succ_cons, List.take_zero, List.drop_succ_cons, List.drop_zero]
      repeat (first | (refine nsettle_skip (by rfl) (fun _ => by rfl) ?_; (simp only [Act.put, List.setIfInBounds_toArray, List.set_cons_zero, List.set_cons_succ])) | (refine' nsettle_run (by rfl) (fun _ _ => Below.refl _ _) (fun _ => by rfl) ?_ ?_; rotate_left; (focus (intro ρ w hS hF hP; (try dsimp only at hS); go_split_ands; go_simp; try with_reducible rfl)); (simp only [Act.put, List.setIfInBounds_toArray, List.set_cons_zero, List.set_cons_succ])))
      (refine nsettle_known (FSl 1 1 [.int .i64 (b : Int)]) (by rfl) (by rfl) (by rfl) (fun _ => by rfl)  ?_ ?_; (focus (intro ρ w hS hF hP K hK; (simp only [Act.put, List.setIfInBounds_toArray, List.set_cons_zero, List.set_cons_succ] at hK); go_simp; exact hK _ _ (SlV.lit w [.int .i64 (b : Int)] 3 1 1 rfl (by decide)) (keepS _ (hS.1.alloc _)) (below_alloc (Below.refl _ _) _))); (simp only [Act.put, List.setIfInBounds_toArray, List.set_cons_zero, List.set_cons_succ]))
      (refine nsettle_mark (FPush w6 (Q + 1) 3 1 (.slice VB nx.length cb) (nx.length + 1) (ilist nx ++ [.int .i64 (b : Int)])) (by rfl) (by rfl) (by rfl) (fun _ => by rfl) ?_ ?_; (focus (intro ρ w hS hF hP K hK; refine oper_append (.tmp 41) (.tmp 44) (Q + 1) _ _ _ _ _ Tryd.underlying29 info_int rfl (by decide) (hR w (hP (by rfl))).1 (hF.1 (by rfl)) (by simp [Value.oneCell']) hn63 hn47 (hR w (hP (by rfl))).2 rfl rfl rfl ?_; intro v' w' hown hg hv _; exact hK v' w' ⟨w, hP (by rfl), hg, hown, hv.imp id fun e => ⟨_, Nat.le_refl _, e⟩⟩ (keepS _ (hS.1.trans ((Keeps.of_grown hg).mono fun i hi => hi.symm))))); (simp only [Act.put, List.setIfInBounds_toArray, List.set_cons_zero, List.set_cons_succ]))
      repeat (first | (refine nsettle_skip (by rfl) (fun _ => by rfl) ?_; (simp only [Act.put, List.setIfInBounds_toArray, List.set_cons_zero, List.set_cons_succ])) | (refine' nsettle_run (by rfl) (fun _ _ => Below.refl _ _) (fun _ => by rfl) ?_ ?_; rotate_left; (focus (intro ρ w hS hF hP; (try dsimp only at hS); go_split_ands; go_simp; try with_reducible rfl)); (simp only [Act.put, List.setIfInBounds_toArray, List.set_cons_zero, List.set_cons_succ])))
      refine nsettle_nil ?_
      intro ρ w7 hS hF
      obtain ⟨wa, ha1, ha2, ha3, ha4⟩ := hF 45 (FPush w6 (Q + 1) 3 1 (.slice VB nx.length cb) (nx.length + 1) (ilist nx ++ [.int .i64 (b : Int)])) (by repeat (first | exact List.mem_cons_self | apply List.mem_cons_of_mem))
      clear hF hS hS1 keepS hR
      dsimp only
      generalize ρ 44 = v44
      generalize ρ 45 = v4 at ha3 ha4 ⊢
      have hx4 : wa.grownBy w7 (irw (.slice VB nx.length cb) nx).v.ownBlock := ha2
      have ho4 : w7.ownsRow (Q + 1) 3 1 v4 (nx ++ [b]).length (ilist (nx ++ [b])) := by simpa [ilist, ints] using ha3
      have hB4 := ((HT.out.1.own.later ha1).put (i := a + 1) HT.out.2 ho4 hx4 ha4).1
      have hend : ∀ w8, Blk w8 (Q + 1 + 1) 29 (vs.set a v4) → w7.grownBy w8 (some (Q + 1 + 1)) → OwnTo (Q + 1) w2 (Tw (Q + 1 + 1) (tkR (.slice (some ⟨Q + 1, 0, none⟩) N N) (Gr.wl N []) (List.replicate N (.slice none 0 0)) (Gr.nl N []))) w8 (Q + 1 + 1) 29 (vs.set a v4) (tkR (.slice (some ⟨Q + 1, 0, none⟩) N N) (Gr.wl N (es.take (k + 1))) (vs.set a v4) (Gr.nl N (es.take (k + 1)))) := fun w8 b8 g8 => by
        have := (HT.out.1.later ha1).step ((HT.out.1.own.later ha1).put_to (i := a + 1) HT.out.2 ho4 hx4 ha4 b8 g8)
        have e := tkR_i (.slice (some ⟨Q + 1, 0, none⟩) N N) (Gr.wl N (es.take (k + 1))) vs (Gr.nl N (es.take k)) a v4 (nx ++ [b])
        rw [← HX.out.2.1] at e
        exact e ▸ this
      obtain ⟨V4, c4, rfl, -, -⟩ := own_slice ha3
      clear ha1 ha2 ha3 ha4 hx4 ho4
      have hva : a < vs.length := by omega
      refine wpl_set_blk hB4 a _ (by kernel_rfl) hva rfl rfl rfl rfl rfl rfl ?_
      intro w8 hB8 hg8
      have T8 := hend w8 hB8 hg8
      have HT8 := Lib.hid T8
      clear hB4 hB8 hg8 hend T8 HT
      go_wp2_with fail
      go_roundw
      case rel => exact ⟨k + 1, _, by omega, by go_num, by simpa using hvl, HT8.out⟩
      case measure => simp [intOf]; omega
    · obtain rfl : k = es.length := by omega
      rw [List.take_length] at hOk
      clear hA
      go_wp2_with fail
      obtain ⟨wz, rfl⟩ : ∃ wz : World, wz = wr := ⟨_, rfl⟩
      have hwl : (Gr.wl N es).length = N := by simp [Gr.wl]
      have r0 := hOk.own.row 0 rfl
      unfold Rw.at_ wrw at r0
      rw [hwl] at r0
      have hcz : ∀ m, m < N → ∀ w', Below wz.heap.size wz w' → w'.cell? ⟨Q + 1, m, none⟩ = some (.int .i64 ((Gr.wt es [] m : Nat) : Int)) := fun m hm w' hb => by
        have c0 := own_cell r0 (j := m) (u := .int .i64 ((Gr.wt es [] m : Nat) : Int)) (by
          show (List.map _ _)[m]? = _
          rw [List.getElem?_map, show (Gr.wl N es)[m]? = some ((Gr.wt es [] m : Nat) : Int) from Gr.map_get _ _ _ hm]
          rfl)
        exact (hb.cell (p := ⟨Q + 1, m, none⟩) (r0.lt _ rfl).2).trans c0
      have HR := Lib.hid (And.intro r0 hwl)
      clear r0 hwl
      go_loopw [8, 50] (fun u i wr => ∃ (k : Nat) (s : List Nat), k ≤ N ∧ i = .int .i64 (k : Int) ∧ SlU wr u s ∧ New wz.heap.size u ∧ Gr.R0 N es k s ∧ Below wz.heap.size wz wr) (fun _ i _ => N - (intOf i).toNat)
      case atStart => exact ⟨0, [], Nat.zero_le _, rfl, SlU.nil _, New.nil _ _ _, Gr.R0.zero _ _, Below.refl _ _⟩
      case round =>
        obtain ⟨k, s, hk, rfl, hu, hnw, hs, hbz⟩ := hrel
        by_cases hlt : k < N
        · have c0 := hcz k hlt _ hbz
          obtain ⟨U, hU⟩ : ∃ U, U = Gr.wt es [] k := ⟨_, rfl⟩
          rw [← hU] at c0
          have HU := Lib.hid hU
          obtain ⟨A8, c8, rfl⟩ := slU_form hu
          by_cases h0 : U = 0
          · subst h0
            have hadd := put_new wr _ s k hu (by omega) (Nat.le_trans hs.length (by omega))
            have HS := Lib.hid (And.intro (hs.add hlt HU.out.symm) hbz)
            clear hU hu hnw hs hcz hbz
            go_wp2_with fail
            refine hadd.mono ?_
            rintro e w5 ⟨u, rfl, ⟨hu5, hn5⟩, hb5⟩
            obtain ⟨A9, c9, rfl⟩ := slU_form hu5
            have H5 := Lib.hid (And.intro hu5 (And.intro (hn5.mono HS.out.2.size) (below_next hb5 HS.out.2)))
            clear hu5 hn5 hb5 hadd c0
            go_wp2_with fail
            go_roundw
            case rel => exact ⟨k + 1, _, by omega, by go_num, H5.out.1, H5.out.2.1, HS.out.1, H5.out.2.2⟩
            case measure => simp [intOf]; omega
          · have g0 : ((U : Int) == 0) = false := by simp; omega
            have HS := Lib.hid (And.intro (hs.stay (by rw [← HU.out]; exact h0)) (And.intro hu (And.intro hnw hbz)))
            clear hU hu hnw hs hcz hbz h0
            go_wp2_with fail
            go_roundw
            case rel => exact ⟨k + 1, _, by omega, by go_num, HS.out.2.1, HS.out.2.2.1, HS.out.1, HS.out.2.2.2⟩
            case measure => simp [intOf]; omega
        · obtain rfl : N = k := by omega
          have hrs := hs.rs
          have hO3 := hOk.later hbz
          obtain ⟨A8, c8, rfl⟩ := slU_form hu
          clear hcz
          go_wp2_with fail
          have hO4 := hO3.cons_nil
          have hfar : FarU (Tw (Q + 1 + 1) (irw (.slice none 0 0) [] :: tkR (.slice (some ⟨Q + 1, 0, none⟩) N N) (Gr.wl N es) vs (Gr.nl N es))) (.slice A8 s.length c8) s := by
            refine FarU.new hnw fun k hk => ?_
            rcases hk with rfl | ⟨r, hr, hk⟩
            · exact hOk.own.blk.lt
            · rcases List.mem_cons.1 hr with rfl | hr
              · simp [irw, Value.ownBlock] at hk
              · exact hOk.own.lt (.inr ⟨r, hr, hk⟩)
          obtain ⟨wy, rfl⟩ : ∃ wy : World, wy = wr := ⟨_, rfl⟩
          clear hnw hO3 hOk hs
          go_loopw [7, 8] (fun u7 u8 wr => ∃ (out s : List Nat), Gr.Good N es out ∧ Gr.Rs N es out s ∧ SlU wr u8 s ∧ FarU (Tw (Q + 1 + 1) (irw u7 out :: tkR (.slice (some ⟨Q + 1, 0, none⟩) N N) (wo N es out) vs (Gr.nl N es))) u8 s ∧ OwnTo (Q + 1) w2 (Tw (Q + 1 + 1) (tkR (.slice (some ⟨Q + 1, 0, none⟩) N N) (Gr.wl N []) (List.replicate N (.slice none 0 0)) (Gr.nl N []))) wr (Q + 1 + 1) 29 vs (irw u7 out :: tkR (.slice (some ⟨Q + 1, 0, none⟩) N N) (wo N es out) vs (Gr.nl N es)) ∧ Gr.run N es (N - out.length) out = Gr.take N es) (fun u7 _ _ => N - slLen u7)
          case atStart => exact ⟨[], s, Gr.Good.nil N es, hrs, hu, hfar, hO4, rfl⟩
          case round =>
            clear hu hfar hO4 hrs hbz
            obtain ⟨out, s, hgd, hrs, hu, hfar, hOo, hrun⟩ := hrel
            have hbo := HK.out _ _ _ hOo
            obtain ⟨A8, c8, rfl⟩ := slU_form hu
            by_cases h0 : s = []
            · have hnone := hrs.none h0
              rw [Gr.run_end hnone] at hrun
              have ro : wr.ownsRow (Q + 1) 3 1 u7 out.length (ilist out) := hOo.own.row 0 rfl
              subst h0
              obtain ⟨A7, c7, rfl, -, -⟩ := own_slice ro
              have HE := Lib.hid (And.intro ro (And.intro hbo hrun))
              clear ro hbo hrun hgd hrs hu hfar hOo hnone
              go_wp2_with fail
              all_goals go_ret
              all_goals exact ⟨_, rfl, by rw [← HE.out.2.2]; exact own_base HE.out.1 (by have := HQ.out; omega), HE.out.2.1⟩
            · obtain ⟨n, r, hls⟩ : ∃ n r, Bs.ls 0 s = n :: r := by
                cases hl : Bs.ls 0 s with
                | nil => exact absurd (Bs.ls_none hrs.toGs hl) h0
                | cons n r => exact ⟨n, r, rfl⟩
              have hnx := hrs.some hls
              have hlt := (Gr.nxt_some hnx).1
              have hno := (Gr.nxt_some hnx).2.1
              have hgd' := hgd.snoc hnx
              have hol : out.length < N := by have := hgd'.length; simp at this; omega
              have hrun' : Gr.run N es (N - (out ++ [n]).length) (out ++ [n]) = Gr.take N es := by
                rw [← hrun]
                obtain ⟨d, hd⟩ : ∃ d, N - out.length = d + 1 := ⟨N - out.length - 1, by omega⟩
                rw [hd, Gr.run_more hnx]
                congr 1
                simp
                omega
              have hj0 := hrs.without hN hnx
              have hsl : s.length ≤ 200 := Nat.le_trans hrs.length hN
              have hTw : Tab wr := fun j hj => (hbo.cell (p := ⟨0, j, none⟩) hT.lt).trans (hT j hj)
              have hfi := first_any wr _ s hu hTw (by omega)
              rw [hls] at hfi
              have hpos : 0 < s.length := List.length_pos_iff.2 h0
              have ro : wr.ownsRow (Q + 1) 3 1 u7 out.length (ilist out) := hOo.own.row 0 rfl
              obtain ⟨A7, c7, rfl, -, -⟩ := own_slice ro
              have HG := Lib.hid (And.intro hgd' (And.intro hrun' (And.intro hj0 (And.intro hnx (And.intro hno hgd)))))
              have HU := Lib.hid (And.intro hu hfar)
              clear hgd' hrun' hj0 hnx hno hgd hrun hrs hls hu hfar hbo hTw h0 ro
              go_wp2_with fail
              refine hfi.mono ?_
              rintro e w5 ⟨⟨r5, rfl, h5⟩, hb5⟩
              obtain rfl : r5 = (n : Int) := h5
              have hO5 := hOo.later hb5
              have hu5 := HU.out.1.below hb5
              clear hfi hOo
              have ro : w5.ownsRow (Q + 1) 3 1 (.slice A7 out.length c7) out.length (ilist out) := hO5.own.row 0 rfl
              have hn63 : out.length + 1 ≤ maxLen := by unfold maxLen; omega
              have hn47 : (out.length + 1) * 8 ≤ 140737488355328 := by omega
              have hbase := hO5.own.base
              have HO5 := Lib.hid (And.intro hO5 (And.intro hu5 hb5))
              clear hO5 hu5 hb5
              go_wp2_with (first | (at_builtin; refine wp_push w5 _ _ (Q + 1) _ _ _ _ _ Tryd.underlying29 info_int rfl (by decide) ro [.int .i64 (n : Int)] rfl (by simp [Value.oneCell']) hn63 hn47 hbase rfl rfl rfl rfl ?_; intro v6 w6 hown6 hg6 hv6 hb6; obtain ⟨V6, c6, rfl, _, _⟩ := own_slice hown6) | fail)
              have hT6 : OwnTo (Q + 1) w2 (Tw (Q + 1 + 1) (tkR (.slice (some ⟨Q + 1, 0, none⟩) N N) (Gr.wl N []) (List.replicate N (.slice none 0 0)) (Gr.nl N []))) w6 (Q + 1 + 1) 29 vs (irw (.slice V6 (out.length + 1) c6) (out ++ [n]) :: tkR (.slice (some ⟨Q + 1, 0, none⟩) N N) (wo N es out) vs (Gr.nl N es)) ∧ (∀ k, Tw (Q + 1 + 1) (irw (.slice V6 (out.length + 1) c6) (out ++ [n]) :: tkR (.slice (some ⟨Q + 1, 0, none⟩) N N) (wo N es out) vs (Gr.nl N es)) k → Tw (Q + 1 + 1) (irw (.slice A7 out.length c7) out :: tkR (.slice (some ⟨Q + 1, 0, none⟩) N N) (wo N es out) vs (Gr.nl N es)) k ∨ w5.heap.size ≤ k) ∧ SlU w6 (.slice A8 s.length c8) s := by
                have hx : w5.grownBy w6 (irw (.slice A7 out.length c7) out).v.ownBlock := hg6
                have ho : w6.ownsRow (Q + 1) 3 1 (.slice V6 (out.length + 1) c6) (out ++ [n]).length (ilist (out ++ [n])) := by simpa [ilist, ints] using hown6
                have hvv : (Value.slice V6 (out.length + 1) c6).ownBlock = (irw (.slice A7 out.length c7) out).v.ownBlock ∨ ∃ k, w5.heap.size ≤ k ∧ (Value.slice V6 (out.length + 1) c6).ownBlock = some k := hv6.imp id fun e => ⟨_, Nat.le_succ _, e⟩
                have hp := (HO5.out.1.own.put (i := 0) rfl ho hx hvv).1
                have ht := HO5.out.1.own.put_to (i := 0) rfl ho hx hvv hp (World.grownBy.refl w6 _)
                have hf : FarU (Tw (Q + 1 + 1) (irw (.slice A7 out.length c7) out :: tkR (.slice (some ⟨Q + 1, 0, none⟩) N N) (wo N es out) vs (Gr.nl N es))) (.slice A8 s.length c8) s := HU.out.2
                exact ⟨HO5.out.1.step ht, ht.nw, HO5.out.2.1.far ht.kp hf⟩
              have hofc := of_any (w6.alloc (.cells #[.int .i64 (n : Int)] 3)) (.slice (some ⟨w6.heap.size, 0, none⟩) 1 1) [(n : Int)] (SlV.lit w6 [.int .i64 (n : Int)] 3 1 1 rfl (by decide))
              refine hofc.mono ?_
              rintro e w7 ⟨u7, rfl, hu7, hb7⟩
              have hb67 := below_next hb7 (below_alloc (Below.refl w6.heap.size w6) (.cells #[.int .i64 (n : Int)] 3))
              have hle7 := less_new w7 _ _ s (Bs.of_ [(n : Int)]) (hT6.2.2.below hb67) hu7 (by omega) (Nat.le_trans (Bs.of_length _) (by decide))
              obtain ⟨A9, c9, rfl⟩ := slU_form hu7
              have H6 := Lib.hid (And.intro hT6 hb67)
              clear hofc hu7 hb7 hb67 hT6 hown6 hg6 hv6 hb6 hbase ro
              go_wp2_with fail
              refine hle7.mono ?_
              rintro e w8 ⟨u8, rfl, ⟨hu8, hn8⟩, hb8⟩
              have e0 : wo N es out = Gr.wj N es out n 0 := (Gr.wj_zero N es out n).symm
              have hO7 := H6.out.1.1.later H6.out.2
              have hfar8 : FarU (Tw (Q + 1 + 1) (irw (.slice V6 (out.length + 1) c6) (out ++ [n]) :: tkR (.slice (some ⟨Q + 1, 0, none⟩) N N) (wo N es out) vs (Gr.nl N es))) u8 (Bs.op Bs.fless s (Bs.of_ [(n : Int)])) := FarU.new hn8 fun k hk => hO7.own.lt hk
              have hO8 := hO7.later hb8
              rw [e0] at hfar8 hO8
              obtain ⟨nx, hnx⟩ : ∃ nx, nx = Gr.next es n := ⟨_, rfl⟩
              have hnl : (Gr.nl N es)[n]? = some nx := by rw [hnx]; exact Gr.map_get _ _ _ hlt
              obtain ⟨vn, hvn⟩ : ∃ v, vs[n]? = some v := ⟨_, List.getElem?_eq_getElem (by omega)⟩
              have hrw : ∀ (o : Value) (l : List Nat) (ws : List Int), (irw o l :: tkR (.slice (some ⟨Q + 1, 0, none⟩) N N) ws vs (Gr.nl N es))[n + 1 + 1]? = some (irw vn nx) := fun o l ws => tkR_get (.slice (some ⟨Q + 1, 0, none⟩) N N) ws vs (Gr.nl N es) n vn nx hvn hnl
              have rn : w8.ownsRow (Q + 1) 3 1 vn nx.length (ilist nx) := hO8.own.row (n + 1 + 1) (hrw _ _ _)
              have c21 : w8.cell? ⟨Q + 1 + 1, n, none⟩ = some vn := (hO8.own.blk.cell n).trans hvn
              obtain ⟨VB, cb, rfl, -, -⟩ := own_slice rn
              obtain ⟨A10, c10, rfl⟩ := slU_form hu8
              have HN := Lib.hid (And.intro hnx (And.intro hnl (And.intro hvn hrw)))
              have H8 := Lib.hid (And.intro hu8 (And.intro hfar8 hO8))
              have hnxl : nx.length ≤ 1099511627776 := by
                rw [hnx]
                unfold Gr.next
                rw [List.length_map]
                exact Nat.le_trans (List.length_filter_le _ _) hle
              clear hu8 hn8 hb8 hle7 e0 hO7 hfar8 hO8 hnx hnl hvn hrw rn
              go_wp2_with fail
              clear c21
              go_loopw [8, 80] (fun u i wr => ∃ (j : Nat) (s : List Nat), j ≤ nx.length ∧ i = .int .i64 (j : Int) ∧ SlU wr u s ∧ FarU (Tw (Q + 1 + 1) (irw (.slice V6 (out.length + 1) c6) (out ++ [n]) :: tkR (.slice (some ⟨Q + 1, 0, none⟩) N N) (Gr.wj N es out n j) vs (Gr.nl N es))) u s ∧ Gr.Rj N es out n j s ∧ OwnTo (Q + 1) w2 (Tw (Q + 1 + 1) (tkR (.slice (some ⟨Q + 1, 0, none⟩) N N) (Gr.wl N []) (List.replicate N (.slice none 0 0)) (Gr.nl N []))) wr (Q + 1 + 1) 29 vs (irw (.slice V6 (out.length + 1) c6) (out ++ [n]) :: tkR (.slice (some ⟨Q + 1, 0, none⟩) N N) (Gr.wj N es out n j) vs (Gr.nl N es))) (fun _ i _ => nx.length - (intOf i).toNat)
              case atStart => exact ⟨0, _, Nat.zero_le _, rfl, H8.out.1, H8.out.2.1, HG.out.2.2.1, H8.out.2.2⟩
              case round =>
                clear H8
                obtain ⟨j, s, hj, rfl, hu, hfar, hrj, hO9⟩ := hrel
                by_cases hjl : j < nx.length
                · obtain ⟨m, hm⟩ : ∃ m, nx[j]? = some m := ⟨_, List.getElem?_eq_getElem hjl⟩
                  have hm' : (Gr.next es n)[j]? = some m := by rw [← HN.out.1]; exact hm
                  have hmN : m < N := (HES.out _ (Gr.mem_next.1 (List.mem_of_getElem? hm'))).2
                  have rn : wr.ownsRow (Q + 1) 3 1 (.slice VB nx.length cb) nx.length (ilist nx) := hO9.own.row (n + 1 + 1) (HN.out.2.2.2 _ _ _)
                  have gm : (ilist nx)[j]? = some (.int .i64 (m : Int)) := by
                    show (List.map _ (List.map _ _))[j]? = _
                    rw [List.getElem?_map, List.getElem?_map, hm]
                    rfl
                  obtain ⟨gb, go, hVB, hgl, hgc⟩ := (Cells.of_own rn).at_ (fun e => by rw [e] at gm; simp at gm)
                  have c1 := hgc _ _ gm
                  subst hVB
                  have hwl : (Gr.wj N es out n j).length = N := by simp [Gr.wj]
                  have r0 := hO9.own.row 1 rfl
                  unfold Rw.at_ wrw at r0
                  rw [hwl] at r0
                  obtain ⟨X, hX⟩ : ∃ X : Int, X = ((Gr.wt es out m : Nat) : Int) - ((((Gr.next es n).take j).count m : Nat) : Int) := ⟨_, rfl⟩
                  have c0 := own_cell r0 (j := m) (u := .int .i64 X) (by
                    show (List.map _ _)[m]? = _
                    rw [List.getElem?_map, Gr.wj_get hmN, hX]
                    rfl)
                  have hX0 : 0 ≤ X := by
                    have h1 := Gr.count_le HG.out.2.2.2.2.1 es m
                    have h2 : ((Gr.next es n).take j).count m ≤ (Gr.next es n).count m := List.Sublist.count_le m (List.take_sublist _ _)
                    omega
                  have hX1 : X ≤ 1099511627776 := by
                    have := Gr.wt_le es out m
                    omega
                  have f0 := row_frozen r0 m
                  have hr9 := row_set r0 m (.int .i64 (X - 1))
                  have hg9 := grown_setCell wr (Q + 1) m (.int .i64 (X - 1))
                  have H9 := Lib.hid (And.intro hu (And.intro hfar (And.intro hrj (And.intro hO9 (And.intro hX hm')))))
                  have hsl9 : s.length ≤ 200 := Nat.le_trans hrj.length hN
                  obtain ⟨A11, c11, rfl⟩ := slU_form hu
                  clear hu hfar hrj hO9 hX hm hm' gm hgc rn r0 hwl
                  go_upto_region 25 with (fail)
                  obtain ⟨w9, hw9⟩ : ∃ w9, w9 = wr.setCell ⟨Q + 1, m, none⟩ (.int .i64 (X - 1)) := ⟨_, rfl⟩
                  rw [← hw9] at hr9 hg9 ⊢
                  have hws : Gr.wj N es out n (j + 1) = (Gr.wj N es out n j).set m (X - 1) := by rw [Gr.wj_step H9.out.2.2.2.2.2, H9.out.2.2.2.2.1]
                  have c2 := own_cell hr9 (j := m) (u := .int .i64 (X - 1)) (List.getElem?_set_self (by rw [ints_length]; simp [Gr.wj]; exact hmN))
                  have hT9 : OwnTo (Q + 1) w2 (Tw (Q + 1 + 1) (tkR (.slice (some ⟨Q + 1, 0, none⟩) N N) (Gr.wl N []) (List.replicate N (.slice none 0 0)) (Gr.nl N []))) w9 (Q + 1 + 1) 29 vs (irw (.slice V6 (out.length + 1) c6) (out ++ [n]) :: tkR (.slice (some ⟨Q + 1, 0, none⟩) N N) (Gr.wj N es out n (j + 1)) vs (Gr.nl N es)) ∧ SlU w9 (.slice A11 s.length c11) s ∧ FarU (Tw (Q + 1 + 1) (irw (.slice V6 (out.length + 1) c6) (out ++ [n]) :: tkR (.slice (some ⟨Q + 1, 0, none⟩) N N) (Gr.wj N es out n (j + 1)) vs (Gr.nl N es))) (.slice A11 s.length c11) s := by
                    rw [← ints_set, ← hws] at hr9
                    have hl1 : (Gr.wj N es out n (j + 1)).length = N := by simp [Gr.wj]
                    have h1 : wr.grownBy w9 (wrw (.slice (some ⟨Q + 1, 0, none⟩) N N) (Gr.wj N es out n j)).v.ownBlock := hg9
                    have hO := H9.out.2.2.2.1
                    have hp := (hO.own.put (i := 1) rfl (v' := .slice (some ⟨Q + 1, 0, none⟩) N N) (n' := N) hr9 h1 (.inl rfl)).1
                    have ht := hO.own.put_to (i := 1) rfl (v' := .slice (some ⟨Q + 1, 0, none⟩) N N) (n' := N) hr9 h1 (.inl rfl) hp (World.grownBy.refl w9 _)
                    have e : (irw (.slice V6 (out.length + 1) c6) (out ++ [n]) :: tkR (.slice (some ⟨Q + 1, 0, none⟩) N N) (Gr.wj N es out n j) vs (Gr.nl N es)).set 1 ⟨3, 1, .slice (some ⟨Q + 1, 0, none⟩) N N, N, ints .i64 (Gr.wj N es out n (j + 1))⟩ = (irw (.slice V6 (out.length + 1) c6) (out ++ [n]) :: tkR (.slice (some ⟨Q + 1, 0, none⟩) N N) (Gr.wj N es out n (j + 1)) vs (Gr.nl N es)) := by
                      show _ = irw _ _ :: wrw _ _ :: _
                      unfold wrw
                      rw [hl1]
                      rfl
                    have ht' : OwnTo (Q + 1) wr (Tw (Q + 1 + 1) (irw (.slice V6 (out.length + 1) c6) (out ++ [n]) :: tkR (.slice (some ⟨Q + 1, 0, none⟩) N N) (Gr.wj N es out n j) vs (Gr.nl N es))) w9 (Q + 1 + 1) 29 vs (irw (.slice V6 (out.length + 1) c6) (out ++ [n]) :: tkR (.slice (some ⟨Q + 1, 0, none⟩) N N) (Gr.wj N es out n (j + 1)) vs (Gr.nl N es)) := e ▸ ht
                    exact ⟨hO.step ht', H9.out.1.far ht'.kp H9.out.2.1, H9.out.2.1.step H9.out.1 ht'.nw⟩
                  clear hr9 hg9 hw9 c0 c1 f0 hws
                  generalize hY : X - 1 = Y at c2 ⊢
                  have HY := Lib.hid hY
                  have HT9 := Lib.hid hT9
                  clear hY hX0 hX1 hT9
                  by_cases hy : Y = 0
                  · subst hy
                    have hadd := put_new w9 _ s m HT9.out.2.1 (by omega) (by omega)
                    go_wp2_with fail
                    refine hadd.mono ?_
                    rintro e w10 ⟨u10, rfl, ⟨hu10, hn10⟩, hb10⟩
                    have hrj' := H9.out.2.2.1.add HG.out.2.2.2.2.2 (fun e he => (HES.out e he).2) HG.out.2.2.2.1 H9.out.2.2.2.2.2 (by have := H9.out.2.2.2.2.1; have := HY.out; omega)
                    have hO10 := HT9.out.1.later hb10
                    have hf10 : FarU (Tw (Q + 1 + 1) (irw (.slice V6 (out.length + 1) c6) (out ++ [n]) :: tkR (.slice (some ⟨Q + 1, 0, none⟩) N N) (Gr.wj N es out n (j + 1)) vs (Gr.nl N es))) u10 (Bs.put s m) := FarU.new hn10 fun k hk => HT9.out.1.own.lt hk
                    obtain ⟨A12, c12, rfl⟩ := slU_form hu10
                    have HF := Lib.hid (And.intro hu10 (And.intro hf10 (And.intro hrj' hO10)))
                    clear hu10 hn10 hb10 hadd hrj' hO10 hf10 c2
                    go_wp2_with fail
                    go_roundw
                    case rel => exact ⟨j + 1, _, by omega, by go_num, HF.out.1, HF.out.2.1, HF.out.2.2.1, HF.out.2.2.2⟩
                    case measure => simp [intOf]; omega
                  · have gy : (Y == 0) = false := by simpa using hy
                    have hrj' := H9.out.2.2.1.stay HG.out.2.2.2.2.2 (fun e he => (HES.out e he).2) HG.out.2.2.2.1 H9.out.2.2.2.2.2 (fun h => hy (by have := H9.out.2.2.2.2.1; have := HY.out; omega))
                    have HF := Lib.hid hrj'
                    clear hrj' hy
                    go_wp2_with fail
                    go_roundw
                    case rel => exact ⟨j + 1, _, by omega, by go_num, HT9.out.2.1, HT9.out.2.2, HF.out, HT9.out.1⟩
                    case measure => simp [intOf]; omega
                · obtain rfl : j = nx.length := by omega
                  have hnn : nx.length = (Gr.next es n).length := by rw [HN.out.1]
                  rw [hnn] at hrj hfar hO9
                  have e1 : Gr.wj N es out n (Gr.next es n).length = wo N es (out ++ [n]) := Gr.wj_full HG.out.2.2.2.2.1
                  rw [e1] at hfar hO9
                  obtain ⟨A12, c12, rfl⟩ := slU_form hu
                  have HF := Lib.hid (And.intro hu (And.intro hfar (And.intro (hrj.full HG.out.2.2.2.2.1) hO9)))
                  clear hu hfar hrj hO9 e1 hnn
                  go_wp2_with fail
                  go_roundw
                  case rel => exact ⟨out ++ [n], _, HG.out.1, HF.out.2.2.1, HF.out.1, HF.out.2.1, HF.out.2.2.2, HG.out.2.1⟩
                  case measure => simp [slLen]; omega
end Go.Proofs.YtkjmddgnfgbioaaDoor


namespace Go.Proofs.YtkjmddgnfgbioaaDoor
set_option linter.unusedVariables false
set_option linter.unusedSimpArgs false
set_option maxRecDepth 100000
open Go.RowKit

namespace Gr
abbrev Er := Int × Int
def okE (n : Int) (e : Er) : Bool := !(decide (e.1 < 0) || decide (e.2 < 0) || decide (n ≤ e.1) || decide (n ≤ e.2))
def okG (n : Int) (es : List Er) : Bool := !(decide (n < 0)) && !(decide (200 < n)) && es.all (okE n)
def nat (es : List Er) : List Ed := es.map fun e => (e.1.toNat, e.2.toNat)
/-- what is wrong with a graph -/
def wrong (n : Int) (es : List Er) : Int := if okG n es then (if (take n.toNat (nat es)).length < n.toNat then 3 else 0) else 2
theorem okG_iff {n : Int} {es : List Er} : okG n es = true ↔ 0 ≤ n ∧ n ≤ 200 ∧ ∀ e ∈ es, 0 ≤ e.1 ∧ 0 ≤ e.2 ∧ e.1 < n ∧ e.2 < n := by
  unfold okG
  rw [Bool.and_eq_true, Bool.and_eq_true, List.all_eq_true]
  simp only [okE, Bool.not_eq_true', Bool.or_eq_false_iff, decide_eq_false_iff_not]
  constructor
  · rintro ⟨⟨a, b⟩, c⟩
    exact ⟨by omega, by omega, fun e he => by have := c e he; omega⟩
  · rintro ⟨a, b, c⟩
    exact ⟨⟨by omega, by omega⟩, fun e he => by have := c e he; omega⟩
theorem nat_ok {n : Int} {es : List Er} (h : okG n es = true) : ∃ N : Nat, n = (N : Int) ∧ N ≤ 200 ∧ (∀ e ∈ nat es, e.1 < N ∧ e.2 < N) ∧ (nat es).length = es.length ∧ es.map (fun e => ((e.1 : Int), (e.2 : Int))) = (nat es).map fun e => ((e.1 : Int), (e.2 : Int)) := by
  obtain ⟨a, b, c⟩ := okG_iff.1 h
  obtain ⟨N, rfl⟩ := Int.eq_ofNat_of_zero_le a
  refine ⟨N, rfl, by omega, fun e he => ?_, by simp [nat], ?_⟩
  · obtain ⟨x, hx, rfl⟩ := List.mem_map.1 he
    have := c x hx
    exact ⟨by show x.1.toNat < N; omega, by show x.2.toNat < N; omega⟩
  · unfold nat
    rw [List.map_map]
    refine List.map_congr_left fun e he => ?_
    have := c e he
    show (e.1, e.2) = (((e.1.toNat : Nat) : Int), ((e.2.toNat : Nat) : Int))
    rw [Int.toNat_of_nonneg this.1, Int.toNat_of_nonneg this.2.1]
end Gr
def erc (e : Gr.Er) : List Value := [.int .i64 e.1, .int .i64 e.2]
def ercs (l : List Gr.Er) : List Value := l.flatMap erc
theorem ercs_nat {n : Int} {es : List Gr.Er} (h : Gr.okG n es = true) : ercs es = edcs (Gr.nat es) := by
  obtain ⟨_, _, c⟩ := Gr.okG_iff.1 h
  unfold ercs edcs Gr.nat
  rw [List.flatMap_map, List.flatMap_def, List.flatMap_def]
  congr 1
  refine List.map_congr_left fun e he => ?_
  have := c e he
  show [Value.int .i64 e.1, .int .i64 e.2] = [.int .i64 ((e.1.toNat : Nat) : Int), .int .i64 ((e.2.toNat : Nat) : Int)]
  rw [Int.toNat_of_nonneg this.1, Int.toNat_of_nonneg this.2.1]

def FTk (base : Nat) (l : List Nat) : Fact (fun w w' => Below w.heap.size w w') := ⟨fun v w => w.ownsRow base 3 1 v l.length (ilist l), fun _ _ _ h k => own_keeps h (Keeps.of_below k (fun _ => False)) (fun _ _ => id)⟩

set_option maxHeartbeats 4000000 in
theorem wrong_any (n : Int) (es : List Gr.Er) (w : World) (A : Option Addr) (c : Nat) (hA : SlV w 2 (.slice A es.length c) es.length (ercs es)) (hle : es.length ≤ 1099511627776) (hT : Tab w) :
    Calls Tryd.prog 48 #[.agg #[.int .i64 n, .slice A es.length c]] w fun e w' => e = .returned (.int .i64 (Gr.wrong n es)) ∧ Below w.heap.size w w' := by
  have x0 := Blk.new w 72 [.int .i64 n, .slice A es.length c]
  have hb0 : Below w.heap.size w (w.alloc (.cells #[.int .i64 n, .slice A es.length c] 72)) := below_alloc (Below.refl _ _) _
  obtain ⟨R, hR⟩ : ∃ R, R = Gr.wrong n es := ⟨_, rfl⟩
  rw [← hR]
  have HR := Lib.hid hR
  clear hR
  rcases h1 : decide (n < 0) with _ | _
  · rcases h2 : decide (200 < n) with _ | _
    · go_enter Tryd.func48, Tryd.ntmps48
      go_upto_region 3 with (fail)
      generalize (w.alloc (.cells #[.int .i64 n, .slice A es.length c] 72)) = W0 at x0 hb0 ⊢
      have d0 : W0.cell? ⟨w.heap.size, 0, none⟩ = some (.int .i64 n) := (x0.cell 0).trans rfl
      have d1 : W0.cell? ⟨w.heap.size, 1, none⟩ = some (.slice A es.length c) := (x0.cell 1).trans rfl
      go_wp2_with fail
      clear d0 d1
      go_loopw [16] (fun i wr => ∃ k : Nat, k ≤ es.length ∧ i = .int .i64 (k : Int) ∧ (∀ e ∈ es.take k, Gr.okE n e = true) ∧ Below W0.heap.size W0 wr) (fun i _ => es.length - (intOf i).toNat)
      case atStart => exact ⟨0, Nat.zero_le _, rfl, by simp, Below.refl _ _⟩
      case round =>
        obtain ⟨k, hk, rfl, hok, hb⟩ := hrel
        have hbw := below_next hb hb0
        have x1 := x0.below hb
        by_cases hlt : k < es.length
        · obtain ⟨⟨a, b⟩, hx⟩ : ∃ x, es[k]? = some x := ⟨_, List.getElem?_eq_getElem hlt⟩
          have gx := flat_get erc 2 (fun _ => rfl) es k
          have g1 := gx 0 _ hx (by omega)
          have g2 := gx 1 _ hx (by omega)
          obtain ⟨A', c', he, -, -, -, hcc⟩ := hA.below hbw
          injection he with e1 e2 e3
          subst e1 e3
          obtain ⟨g, o, rfl, hgl, hcell⟩ := hcc.at_ (fun e => by rw [show List.flatMap erc es = ercs es from rfl, e] at g1; simp [erc] at g1)
          have d0 : wr.cell? ⟨g, o + k * 2, none⟩ = some (.int .i64 a) := (hcell _ _ g1).trans rfl
          have d1 : wr.cell? ⟨g, o + k * 2 + 1, none⟩ = some (.int .i64 b) := by rw [Nat.add_assoc]; exact hcell _ _ g2
          have htk := Gr.take_snoc hx
          have hbad : Gr.okE n (a, b) = false → R = 2 := fun hf => by
            rw [HR.out]
            unfold Gr.wrong
            have : Gr.okG n es = false := by
              unfold Gr.okG
              rw [List.all_eq_false.2 ⟨_, List.mem_of_getElem? hx, by rw [hf]; simp⟩, Bool.and_false]
            rw [this]
            rfl
          have hgood : Gr.okE n (a, b) = true → ∀ e ∈ es.take (k + 1), Gr.okE n e = true := fun hf e he => by
            rw [htk] at he
            rcases List.mem_append.1 he with he | he
            · exact hok e he
            · rw [List.mem_singleton.1 he]; exact hf
          have hE := Blk.new wr 75 [.int .i64 a, .int .i64 b]
          have x5 := x1.alloc (.cells #[.int .i64 a, .int .i64 b] 75)
          have hb5 := below_alloc hb (.cells #[.int .i64 a, .int .i64 b] 75)
          have HH := Lib.hid (And.intro hbad hgood)
          clear hbad hgood htk hok hx gx g1 g2 hcc hcell e2 hA x0 x1 hb
          go_upto_region 6 with (fail)
          generalize (wr.alloc (.cells #[.int .i64 a, .int .i64 b] 75)) = W5 at hE x5 hb5 ⊢
          have c0 : W5.cell? ⟨wr.heap.size, 0, none⟩ = some (.int .i64 a) := (hE.cell 0).trans rfl
          have c1 : W5.cell? ⟨wr.heap.size, 1, none⟩ = some (.int .i64 b) := (hE.cell 1).trans rfl
          have c2 : W5.cell? ⟨w.heap.size, 0, none⟩ = some (.int .i64 n) := (x5.cell 0).trans rfl
          have hb50 := Lib.hid (And.intro hb5 (below_next hb5 hb0))
          clear d0 d1 hE x5 hbw hb5
          rcases k1 : decide (a < 0) with _ | _
          · rcases k2 : decide (b < 0) with _ | _
            · rcases k3 : decide (n ≤ a) with _ | _
              · rcases k4 : decide (n ≤ b) with _ | _
                · have hg := HH.out.2 (by unfold Gr.okE; simp only [k1, k2, k3, k4]; rfl)
                  have HG := Lib.hid hg
                  clear hg
                  go_wp2_with fail
                  go_roundw
                  case rel => exact ⟨k + 1, by omega, by go_num, HG.out, hb50.out.1⟩
                  case measure => simp [intOf]; omega
                · have h3 := HH.out.1 (by unfold Gr.okE; simp only [k1, k2, k3, k4]; rfl)
                  subst h3
                  go_wp2_with fail
                  go_ret
                  exact ⟨rfl, hb50.out.2⟩
              · have h3 := HH.out.1 (by unfold Gr.okE; simp only [k1, k2, k3]; simp)
                subst h3
                go_wp2_with fail
                go_ret
                exact ⟨rfl, hb50.out.2⟩
            · have h3 := HH.out.1 (by unfold Gr.okE; simp only [k1, k2]; simp)
              subst h3
              go_wp2_with fail
              go_ret
              exact ⟨rfl, hb50.out.2⟩
          · have h3 := HH.out.1 (by unfold Gr.okE; simp only [k1]; simp)
            subst h3
            go_wp2_with fail
            go_ret
            exact ⟨rfl, hb50.out.2⟩
        · obtain rfl : k = es.length := by omega
          rw [List.take_length] at hok
          have hokG : Gr.okG n es = true := by
            unfold Gr.okG
            rw [h1, h2, List.all_eq_true.2 hok]
            rfl
          obtain ⟨N, rfl, hN, hes, hln, -⟩ := Gr.nat_ok hokG
          have hAe := hA.below hbw
          rw [ercs_nat hokG] at hAe
          have htk : ∀ w', Below wr.heap.size wr w' → Calls Tryd.prog 85 #[.agg #[.int .i64 (N : Int), .slice A es.length c]] w' fun e w'' => ∃ u, e = .returned u ∧ w''.ownsRow w'.heap.size 3 1 u (Gr.take N (Gr.nat es)).length (ilist (Gr.take N (Gr.nat es))) ∧ Below w'.heap.size w' w'' := fun w' hb' => by
            have h4 := hAe.below hb'
            rw [← hln] at h4
            have := take_any N (Gr.nat es) w' A c hN hes h4 (by omega) (fun j hj => ((below_next hb' hbw).cell (p := ⟨0, j, none⟩) hT.lt).trans (hT j hj))
            rwa [hln] at this
          have hRv : R = if (Gr.take N (Gr.nat es)).length < N then 3 else 0 := by
            rw [HR.out]
            unfold Gr.wrong
            rw [hokG]
            rfl
          obtain ⟨L, hL⟩ : ∃ L, L = Gr.take N (Gr.nat es) := ⟨_, rfl⟩
          rw [← hL] at htk hRv
          have keepS : ∀ w', Below wr.heap.size wr w' → (Below wr.heap.size wr w' ∧ w'.cell? ⟨w.heap.size, 0, none⟩ = some (.int .i64 (N : Int)) ∧ w'.cell? ⟨w.heap.size, 1, none⟩ = some (.slice A es.length c)) := fun w' hb' => ⟨hb', ((x1.below hb').cell 0).trans rfl, ((x1.below hb').cell 1).trans rfl⟩
          have hS0 := keepS _ (below_drew (Below.refl _ _))
          have HRv := Lib.hid (And.intro hRv hbw)
          clear hA hAe hok hokG hL hRv x0 x1 hb HR hes hln
          go_wp2_with fail
          refine wp_walk (by kernel_rfl) (by kernel_rfl) (fun w w' => Below w.heap.size w w') (fun w' => (Below wr.heap.size wr w' ∧ w'.cell? ⟨w.heap.size, 0, none⟩ = some (.int .i64 (N : Int)) ∧ w'.cell? ⟨w.heap.size, 1, none⟩ = some (.slice A es.length c))) hS0 ?_
          repeat (first | (refine settle_skip (fun _ => by rfl) ?_; (simp only [Act.put, List.setIfInBounds_toArray, List.set_cons_zero, List.set_cons_succ])) | (refine' settle_run (fun _ _ => Below.refl _ _) (fun _ => by rfl) ?_ ?_; rotate_left; (focus (intro ρ w hS hF; (try dsimp only at hS); go_split_ands; go_simp; try with_reducible rfl)); (simp only [Act.put, List.setIfInBounds_toArray, List.set_cons_zero, List.set_cons_succ])))
          (refine settle_known (FTk wr.heap.size L) (by rfl) (fun _ => by rfl)  ?_ ?_; (focus (intro ρ w hS hF K hK; (simp only [Act.put, List.setIfInBounds_toArray, List.set_cons_zero, List.set_cons_succ] at hK); go_simp; (refine (htk _ hS.1).mono ?_; rintro e w' ⟨u, rfl, ho, hb'⟩; exact hK _ _ (own_base ho hS.1.size) (keepS _ (below_next hb' hS.1)) hb'))); (simp only [Act.put, List.setIfInBounds_toArray, List.set_cons_zero, List.set_cons_succ]))
          (refine' settle_step (fun _ => by rfl) ?_ ?_; rotate_left; (focus (intro ρ w hS hF K hK; (simp only [Act.put, List.setIfInBounds_toArray, List.set_cons_zero, List.set_cons_succ] at hK); go_simp; (obtain ⟨A', c', hv, -, -⟩ := own_slice (hF.1 (by rfl))); rw [hv] at hK ⊢; go_simp; have hS' := hS; have hE' := Below.refl w.heap.size w; exact hK _ hS' hE')); (simp only [Act.put, List.setIfInBounds_toArray, List.set_cons_zero, List.set_cons_succ]))
          repeat (first | (refine settle_skip (fun _ => by rfl) ?_; (simp only [Act.put, List.setIfInBounds_toArray, List.set_cons_zero, List.set_cons_succ])) | (refine' settle_run (fun _ _ => Below.refl _ _) (fun _ => by rfl) ?_ ?_; rotate_left; (focus (intro ρ w hS hF; (try dsimp only at hS); go_split_ands; go_simp; try with_reducible rfl)); (simp only [Act.put, List.setIfInBounds_toArray, List.set_cons_zero, List.set_cons_succ])))
          refine settle_nil ?_
          intro ρ w5 hS hF
          have hb5 := below_next hS.1 HRv.out.2
          clear hF hS hS0 keepS htk
          dsimp only
          generalize ρ 44 = v44
          by_cases hlt2 : L.length < N
          · have h3 : R = 3 := by rw [HRv.out.1, if_pos hlt2]
            subst h3
            go_wp2_with fail
            go_ret
            exact ⟨rfl, hb5⟩
          · have h3 : R = 0 := by rw [HRv.out.1, if_neg hlt2]
            subst h3
            go_wp2_with fail
            go_ret
            exact ⟨rfl, hb5⟩
    · have h3 : R = 2 := by rw [HR.out]; unfold Gr.wrong Gr.okG; rw [h1, h2]; rfl
      subst h3
      clear x0 HR hA
      have HB := Lib.hid hb0
      clear hb0
      go_enter Tryd.func48, Tryd.ntmps48
      go_wp2_with fail
      go_ret
      exact ⟨rfl, HB.out⟩
  · have h3 : R = 2 := by rw [HR.out]; unfold Gr.wrong Gr.okG; rw [h1]; rfl
    subst h3
    clear x0 HR hA
    have HB := Lib.hid hb0
    clear hb0
    go_enter Tryd.func48, Tryd.ntmps48
    go_wp2_with fail
    go_ret
    exact ⟨rfl, HB.out⟩
end Go.Proofs.YtkjmddgnfgbioaaDoor


namespace Go.Proofs.YtkjmddgnfgbioaaDoor.Gr
set_option linter.unusedVariables false
set_option linter.unusedSimpArgs false
set_option maxRecDepth 100000

/-- where each stands, by one more; 0: nowhere -/
def at_ (l : List Int) : Int → Int := l.zipIdx.foldl (fun f p => fun x => if x = p.1 then (p.2 : Int) + 1 else f x) (fun _ => 0)
theorem at_nil : at_ [] = fun _ => 0 := rfl
theorem at_snoc (l : List Int) (a : Int) : at_ (l ++ [a]) = fun x => if x = a then (l.length : Int) + 1 else at_ l x := by
  unfold at_
  rw [List.zipIdx_append, List.foldl_append]
  simp
theorem at_pos (l : List Int) (x : Int) : 0 ≤ at_ l x ∧ at_ l x ≤ l.length := by
  suffices h : ∀ k, k ≤ l.length → 0 ≤ at_ (l.take k) x ∧ at_ (l.take k) x ≤ k by
    have := h l.length (Nat.le_refl _)
    rwa [List.take_length] at this
  intro k
  induction k with
  | zero => intro _; rw [List.take_zero, at_nil]; simp
  | succ k ih =>
    intro hk
    obtain ⟨h1, h2⟩ := ih (by omega)
    rw [List.take_succ_eq_append_getElem (by omega), at_snoc]
    have hl : (l.take k).length = k := by rw [List.length_take]; omega
    dsimp only
    rw [hl]
    split <;> omega
theorem at_get {l : List Int} (hn : l.Nodup) : ∀ k, k ≤ l.length → ∀ (i : Nat) (x : Int), l[i]? = some x → at_ (l.take k) x = if i < k then (i : Int) + 1 else 0
  | 0, _, i, x, _ => by rw [List.take_zero, at_nil]; simp
  | k + 1, hk, i, x, hx => by
    have hl : (l.take k).length = k := by rw [List.length_take]; omega
    rw [List.take_succ_eq_append_getElem (by omega), at_snoc]
    dsimp only
    rw [hl]
    obtain ⟨hi, rfl⟩ := List.getElem?_eq_some_iff.1 hx
    by_cases e : i = k
    · subst e
      rw [if_pos rfl, if_pos (by omega)]
    · rw [if_neg (fun h => e ((List.getElem_inj hn).1 h)), at_get hn k (by omega) i _ hx]
      by_cases h : i < k
      · rw [if_pos h, if_pos (by omega)]
      · rw [if_neg h, if_neg (by omega)]
/-- is one of an edge's nodes nowhere, or do they stand the wrong way round? -/
def bad1 (l : List Int) (e : Er) : Bool := at_ l e.1 == 0 || (at_ l e.2 == 0 || decide (at_ l e.2 ≤ at_ l e.1))
def leads (l : List Int) (es : List Er) : Bool := es.all fun e => !bad1 l e

theorem take_perm {N : Nat} {es : List Ed} (hl : (take N es).length = N) : (take N es).Perm (List.range N) := by
  have hg := good_take N es
  refine (List.perm_ext_iff_of_nodup hg.1 List.nodup_range).2 fun m => ?_
  rw [List.mem_range]
  exact ⟨hg.2 m, hg.full hl m⟩
/-- THE LAW: what is sorted leads on -/
theorem sorted_leads {n : Int} {es : List Er} (h : wrong n es = 0) : leads ((take n.toNat (nat es)).map Int.ofNat) es = true ∧ (take n.toNat (nat es)).length = n.toNat := by
  unfold wrong at h
  split at h
  · rename_i hok
    split at h
    · cases h
    · rename_i hlen
      have hg := good_take n.toNat (nat es)
      have hl : (take n.toNat (nat es)).length = n.toNat := Nat.le_antisymm hg.length (by omega)
      refine ⟨?_, hl⟩
      obtain ⟨h0, h2, hes⟩ := okG_iff.1 hok
      unfold leads
      rw [List.all_eq_true]
      intro e he
      obtain ⟨e1, e2, e3, e4⟩ := hes e he
      obtain ⟨L, hL⟩ : ∃ L, L = take n.toNat (nat es) := ⟨_, rfl⟩
      rw [← hL] at hg hl ⊢
      have hnd : (L.map Int.ofNat).Nodup := by
        rw [List.nodup_iff_pairwise_ne, List.pairwise_map]
        exact hg.1.imp fun h h' => h (by injection h')
      have hat : ∀ (i m : Nat), L[i]? = some m → at_ (L.map Int.ofNat) (m : Int) = (i : Int) + 1 := fun i m hm => by
        have := at_get hnd (L.map Int.ofNat).length (Nat.le_refl _) i (m : Int) (by rw [List.getElem?_map, hm]; rfl)
        rw [List.take_length] at this
        rw [this, if_pos]
        rw [List.length_map]
        exact (List.getElem?_eq_some_iff.1 hm).1
      obtain ⟨j, hj⟩ := List.getElem?_of_mem (hg.full hl e.2.toNat (by omega))
      have hmem : (e.1.toNat, e.2.toNat) ∈ nat es := List.mem_map.2 ⟨e, he, rfl⟩
      obtain ⟨i, hij, hi⟩ := hg.up (.one hmem) j hj
      have a1 := hat i _ hi
      have a2 := hat j _ hj
      rw [Int.toNat_of_nonneg e1] at a1
      rw [Int.toNat_of_nonneg e2] at a2
      unfold bad1
      rw [a1, a2]
      simp
      omega
  · cases h
/-- THE LAW: what goes round does not lead on, in no order -/
theorem round_leads {n : Int} {es : List Er} (h : wrong n es = 3) (l : List Int) : leads l es = false := by
  unfold wrong at h
  split at h
  · rename_i hok
    split at h
    · rename_i hlen
      rcases hld : leads l es with _ | _
      · rfl
      · exfalso
        unfold leads at hld
        rw [List.all_eq_true] at hld
        obtain ⟨h0, h2, hes⟩ := okG_iff.1 hok
        have hst := nxt_none (take_stop n.toNat (nat es))
        -- one that is least of those left out
        have key : ∀ k m : Nat, m < n.toNat → m ∉ take n.toNat (nat es) → (at_ l (m : Int)).toNat ≤ k → False := by
          intro k
          induction k with
          | zero =>
            intro m hm hnot hk
            have hr := hst m hm
            have : ¬ (rdy (nat es) (take n.toNat (nat es)) m = true) := by rw [hr]; simp
            rw [rdy_iff] at this
            refine this ⟨hnot, fun e he e2 => ?_⟩
            exfalso
            obtain ⟨x, hx, rfl⟩ := List.mem_map.1 he
            have hx2 := hes x hx
            have hb := hld x hx
            unfold bad1 at hb
            have e3 : ((x.2.toNat : Nat) : Int) = x.2 := Int.toNat_of_nonneg hx2.2.1
            dsimp only at e2
            rw [← e2, e3] at hk
            have hp := at_pos l x.2
            have : at_ l x.2 = 0 := by omega
            rw [this] at hb
            simp at hb
          | succ k ih =>
            intro m hm hnot hk
            have hr := hst m hm
            have : ¬ (rdy (nat es) (take n.toNat (nat es)) m = true) := by rw [hr]; simp
            rw [rdy_iff] at this
            refine this ⟨hnot, fun e he e2 => ?_⟩
            obtain ⟨x, hx, rfl⟩ := List.mem_map.1 he
            have hx2 := hes x hx
            have hb := hld x hx
            unfold bad1 at hb
            have e3 : ((x.2.toNat : Nat) : Int) = x.2 := Int.toNat_of_nonneg hx2.2.1
            have e4 : ((x.1.toNat : Nat) : Int) = x.1 := Int.toNat_of_nonneg hx2.1
            dsimp only at e2 ⊢
            rw [← e2, e3] at hk
            apply Classical.byContradiction
            intro hnot1
            have hp1 := at_pos l x.1
            simp at hb
            refine ih x.1.toNat (by omega) hnot1 ?_
            rw [e4]
            omega
        -- there is one
        have hg := good_take n.toNat (nat es)
        have : ∃ m, m < n.toNat ∧ m ∉ take n.toNat (nat es) := by
          apply Classical.byContradiction
          intro hno
          have hsub : ∀ m ∈ List.range n.toNat, m ∈ take n.toNat (nat es) := fun m hm => by
            apply Classical.byContradiction
            exact fun h => hno ⟨m, List.mem_range.1 hm, h⟩
          have := List.nodup_range.length_le_of_subset hsub
          rw [List.length_range] at this
          omega
        obtain ⟨m, hm, hnot⟩ := this
        exact key _ m hm hnot (Nat.le_refl _)
    · cases h
  · cases h
theorem wrong_is (n : Int) (es : List Er) : wrong n es = 0 ∨ wrong n es = 2 ∨ wrong n es = 3 := by
  unfold wrong
  split
  · split
    · exact .inr (.inr rfl)
    · exact .inl rfl
  · exact .inr (.inl rfl)
end Go.Proofs.YtkjmddgnfgbioaaDoor.Gr


namespace Go.Proofs.YtkjmddgnfgbioaaDoor
set_option linter.unusedVariables false
set_option linter.unusedSimpArgs false
set_option maxRecDepth 100000
open Go.RowKit

theorem edcs_get (l : List (Nat × Nat)) (i : Nat) (p : Nat × Nat) (h : l[i]? = some p) : (edcs l)[i * 2]? = some (.int .i64 (p.1 : Int)) ∧ (edcs l)[i * 2 + 1]? = some (.int .i64 (p.2 : Int)) :=
  ⟨flat_get edc 2 (fun _ => rfl) l i 0 p h (by omega), flat_get edc 2 (fun _ => rfl) l i 1 p h (by omega)⟩
end Go.Proofs.YtkjmddgnfgbioaaDoor


namespace Go.Proofs.YtkjmddgnfgbioaaDoor
set_option linter.unusedVariables false
set_option linter.unusedSimpArgs false
set_option maxRecDepth 100000
open Go.ChangeShapes Go.WideShapes Go.ChangeAt Go.RowKit Go.Deep

/-- every field is an int of one cell, and they lie one behind the other -/
def intFields (P : Program) (fs : Array Field) : Bool :=
  (List.range fs.size).all fun j => match fs[j]? with
    | some f => f.offset == j && P.cellsOf f.type == 1 && (match P.underlying f.type with | some (.int .i64) => true | _ => false)
    | none => false

theorem intFields_at {P : Program} {fs : Array Field} (h : intFields P fs = true) {j : Nat} (hj : j < fs.size) : ∃ f, fs[j]? = some f ∧ f.offset = j ∧ P.cellsOf f.type = 1 ∧ P.underlying f.type = some (.int .i64) := by
  have := List.all_eq_true.1 h j (by simpa using hj)
  rw [Array.getElem?_eq_getElem hj] at this
  simp only [Bool.and_eq_true, beq_iff_eq] at this
  refine ⟨fs[j], Array.getElem?_eq_getElem hj, this.1.1, this.1.2, ?_⟩
  have h3 := this.2
  split at h3
  · assumption
  · cases h3

def irow (r : List Int) : List Value := ints .i64 r

section
variable {H : Type} {enc : TypeId × Value → H} {P : Program} {w : World}

/-- one struct's cells are integers -/
theorem struct_ints {e : TypeId} {fs : Array Field} {n fuel : Nat} {cs : List Value} {x : DataW H × List MemPlace} (he : P.underlying e = some (.struct fs)) (hn : fs.size = n) (hC : P.cellsOf e = n) (hf : intFields P fs = true)
    (h : DataW.trod enc P w 0 (fun _ => true) true fuel e cs = some x) : ∃ r : List Int, r.length = n ∧ cs = irow r ∧ Wfs .i64 r := by
  obtain ⟨xs, m, _, _, hl, hxl, hfs⟩ := DataW.trod_struct he h
  rw [hC] at hl
  have each : ∀ j, j < n → ∃ k : Int, cs[j]? = some (.int .i64 k) ∧ (Lit.int .i64 k).wf = true := by
    intro j hj
    obtain ⟨f, hfj, ho, hc, hu⟩ := intFields_at hf (j := j) (by omega)
    have h1 := hfs j f hfj
    rw [ho, hc] at h1
    have hxj : xs[j]? = some xs[j] := List.getElem?_eq_getElem (by omega)
    rw [hxj] at h1
    obtain ⟨k, hk, _, hw⟩ := DataW.trod_int hu h1
    refine ⟨k, ?_, hw⟩
    have := congrArg (fun l => l[0]?) hk
    simp only [List.getElem?_cons_zero] at this
    rw [← this, List.getElem?_take, if_pos (by decide), List.getElem?_drop, Nat.add_zero]
  refine ⟨(List.range n).map fun j => intOf (cs.getD j undef), by simp, ?_, ?_⟩
  · apply List.ext_getElem?
    intro j
    by_cases hj : j < n
    · obtain ⟨k, hk, _⟩ := each j hj
      rw [hk]
      simp [irow, ints, hj, hk, List.getD, intOf]
    · rw [List.getElem?_eq_none (by omega), List.getElem?_eq_none (by simp [irow, ints]; omega)]
  · intro y hy
    obtain ⟨j, hj, rfl⟩ := List.mem_map.1 hy
    obtain ⟨k, hk, hw⟩ := each j (by simpa using hj)
    simp only [List.getD, hk, Option.getD_some, intOf]
    exact hw

/-- an argument that is a slice of structs of n integers -/
theorem open_rows {t e : TypeId} {fs : Array Field} {n : Nat} {v : Value} {d : DataW H} {ps : List MemPlace} (ht : P.underlying t = some (.slice e)) (he : P.underlying e = some (.struct fs)) (hn : fs.size = n) (hn0 : 0 < n) (hC : P.cellsOf e = n) (hf : intFields P fs = true)
    (hv : ∃ a len cap, v = .slice a len cap) (h : DataW.Trod enc P w 0 (fun _ => true) true t v d ps) (hlt : ∀ x ∈ ps, x.block < w.heap.size) :
    ∃ rs : List (List Int), (∀ r ∈ rs, r.length = n ∧ Wfs .i64 r) ∧ SlV w n v rs.length (rs.flatMap irow) ∧ ((d = .nil ∧ rs = []) ∨ ∃ (el sp : List (DataW H)), d = .slice el sp ∧ el.length = rs.length) := by
  obtain ⟨a0, len, cap, rfl⟩ := hv
  obtain ⟨fuel, hfu⟩ := h
  rcases open_slice ht hfu with ⟨hcs, hx⟩ | ⟨a, len', cap', m, k, D, Pl, hcs, _, hl, hm, hmm, hx, hi⟩
  · simp [Value.cells] at hcs
    obtain ⟨rfl, rfl, rfl⟩ := hcs
    simp only [Prod.mk.injEq] at hx
    exact ⟨[], by simp, SlV.nil _ _, .inl ⟨hx.1, rfl⟩⟩
  · simp [Value.cells] at hcs
    obtain ⟨rfl, rfl, rfl⟩ := hcs
    simp only [Prod.mk.injEq] at hx
    simp only [if_true] at hmm
    rw [hC] at hi hx
    have each : ∀ i, i < len → ∃ r : List Int, (r.length = n ∧ Wfs .i64 r) ∧ w.cells? 0 (a.add (i * n)) n = some (irow r) := by
      intro i hil
      obtain ⟨cs', hc, htr⟩ := hi i (by omega)
      obtain ⟨r, hr, hcr, hw⟩ := struct_ints he hn hC hf htr
      exact ⟨r, ⟨hr, hw⟩, by rw [hc, hcr]⟩
    obtain ⟨f, hff⟩ := choose_lt each
    have hlen : ∀ r ∈ (List.range len).map f, r.length = n ∧ Wfs .i64 r := by
      intro r hr
      obtain ⟨i, hi', rfl⟩ := List.mem_map.1 hr
      exact (hff i (by simpa using hi')).1
    have hflat : (((List.range len).map f).flatMap irow).length = len * n := by
      have : ∀ l : List (List Int), (∀ r ∈ l, r.length = n) → (l.flatMap irow).length = l.length * n := by
        intro l
        induction l with
        | nil => simp
        | cons r l ih =>
          intro hl'
          rw [List.flatMap_cons, List.length_append, ih (fun x hx => hl' x (by simp [hx])), List.length_cons, Nat.add_mul]
          have := hl' r (by simp)
          simp [irow, ints, this]
          omega
      rw [this _ fun r hr => (hlen r hr).1]
      simp
    refine ⟨(List.range len).map f, hlen, ⟨some a, cap, by simp, by simpa using hl, hm, by simpa using hflat, ?_⟩, .inr ⟨_, _, hx.1, by simp⟩⟩
    by_cases h0 : len = 0
    · subst h0
      exact Cells.nil _ _ _
    · obtain ⟨b, off, spot⟩ := a
      have hcell : ∀ i, i < len → ∀ j u, (irow (f i))[j]? = some u → w.cell? ((⟨b, off, spot⟩ : Addr).add (i * n + j)) = some u := by
        intro i hil j u hu
        have hj : j < n := by
          have := (List.getElem?_eq_some_iff.1 hu).1
          have h1 := (hff i hil).1.1
          simp [irow, ints, h1] at this
          exact this
        obtain ⟨_, _, hat⟩ := World.cells?_some (hff i hil).2
        have := hat j hj
        rw [Go.Deep.add_add] at this
        rw [this, hu]
      have hspot : spot = none := by
        have hr := (hff 0 (by omega)).1.1
        have hex : ∃ u, (irow (f 0))[0]? = some u := ⟨_, List.getElem?_eq_getElem (by simp [irow, ints]; omega)⟩
        obtain ⟨u, hu⟩ := hex
        have := hcell 0 (by omega) 0 u hu
        simpa [Addr.add] using World.cell?_spot this
      subst hspot
      refine ⟨b, off, fun _ => ⟨rfl, hlt (.cell b off) (by
        rw [hx.2]
        refine List.mem_append_left _ (MemPlace.mem_row.2 ⟨0, ?_, by simp⟩)
        exact Nat.mul_pos (by omega) hn0)⟩, fun j u hu => ?_⟩
      have hjl : j < len * n := by
        have := (List.getElem?_eq_some_iff.1 hu).1
        omega
      have hq : j / n < len := Nat.div_lt_of_lt_mul (by rw [Nat.mul_comm]; exact hjl)
      have hr : j % n < n := Nat.mod_lt _ hn0
      have hj : j = j / n * n + j % n := by have := Nat.div_add_mod j n; rw [Nat.mul_comm] at this; omega
      have hget : ((List.range len).map f)[j / n]? = some (f (j / n)) := by simp [hq]
      have key : ∀ (l : List (List Int)), (∀ r ∈ l, r.length = n) → ∀ (q s : Nat) (r : List Int), l[q]? = some r → s < n → (l.flatMap irow)[q * n + s]? = (irow r)[s]? := by
        intro l
        induction l with
        | nil => intro _ q s r h'; simp at h'
        | cons r0 l ih =>
          intro hl' q s r h' hs
          have h00 : (irow r0).length = n := by simp [irow, ints, hl' r0 (by simp)]
          rw [List.flatMap_cons]
          rcases q with _ | q
          · simp at h'
            subst h'
            rw [Nat.zero_mul, Nat.zero_add, List.getElem?_append_left (by omega)]
          · have e : (q + 1) * n + s = (irow r0).length + (q * n + s) := by rw [h00, Nat.add_mul]; omega
            rw [e, List.getElem?_append_right (by omega), Nat.add_sub_cancel_left]
            exact ih (fun x hx => hl' x (by simp [hx])) q s r (by simpa using h') hs
      rw [hj, key _ (fun r hr => (hlen r hr).1) _ _ _ hget hr] at hu
      have := hcell _ hq _ _ hu
      rw [← hj, Addr.add_lit] at this
      exact this
end
end Go.Proofs.YtkjmddgnfgbioaaDoor


namespace Go.Proofs.YtkjmddgnfgbioaaDoor
set_option linter.unusedVariables false
set_option linter.unusedSimpArgs false
set_option maxRecDepth 100000
open Go

def fieldsOf (P : Program) (t : TypeId) : Array Field := match P.underlying t with | some (.struct fs) => fs | _ => #[]
end Go.Proofs.YtkjmddgnfgbioaaDoor


namespace Go.Proofs.YtkjmddgnfgbioaaDoor.Sp
set_option linter.unusedVariables false
set_option linter.unusedSimpArgs false
set_option maxRecDepth 100000

inductive T where
  | nil
  | one (c : Int) (wr : Bool) (lb : Int)
  | two (par : Bool) (l r : T)

abbrev Acc := Int × Bool × Int

def T.leaves : T → List Acc
  | .nil => []
  | .one c b l => [(c, b, l)]
  | .two _ l r => l.leaves ++ r.leaves
def T.size (t : T) : Nat := t.leaves.length
def T.span : T → Nat
  | .nil => 0
  | .one _ _ _ => 1
  | .two par l r => if par then max l.span r.span else l.span + r.span
def T.width : T → Nat
  | .nil => 0
  | .one _ _ _ => 1
  | .two par l r => if par then l.width + r.width else max l.width r.width

theorem T.size_two (p : Bool) (l r : T) : (T.two p l r).size = l.size + r.size := by simp [T.size, T.leaves]
def T.cnt : T → Nat
  | .nil => 1
  | .one _ _ _ => 1
  | .two _ l r => 1 + l.cnt + r.cnt
theorem T.size_le_cnt (t : T) : t.size ≤ t.cnt := by
  induction t with
  | nil => exact Nat.zero_le _
  | one _ _ _ => exact Nat.le_refl _
  | two p l r ihl ihr => rw [T.size_two, T.cnt]; omega
theorem T.span_le (t : T) : t.span ≤ t.size := by
  induction t with
  | nil => exact Nat.le_refl _
  | one _ _ _ => exact Nat.le_refl _
  | two p l r ihl ihr =>
    rw [T.size_two]
    cases p <;> simp only [T.span] <;> simp <;> omega
theorem T.width_le (t : T) : t.width ≤ t.size := by
  induction t with
  | nil => exact Nat.le_refl _
  | one _ _ _ => exact Nat.le_refl _
  | two p l r ihl ihr =>
    rw [T.size_two]
    cases p <;> simp only [T.width] <;> simp <;> omega
theorem T.area (t : T) : t.size ≤ t.span * t.width := by
  induction t with
  | nil => exact Nat.le_refl _
  | one _ _ _ => exact Nat.le_refl _
  | two p l r ihl ihr =>
    rw [T.size_two]
    cases p
    · simp only [T.span, T.width, Bool.false_eq_true, if_false, Nat.add_mul]
      exact Nat.add_le_add (Nat.le_trans ihl (Nat.mul_le_mul_left _ (Nat.le_max_left _ _))) (Nat.le_trans ihr (Nat.mul_le_mul_left _ (Nat.le_max_right _ _)))
    · simp only [T.span, T.width, if_true, Nat.mul_add]
      exact Nat.add_le_add (Nat.le_trans ihl (Nat.mul_le_mul_right _ (Nat.le_max_left _ _))) (Nat.le_trans ihr (Nat.mul_le_mul_right _ (Nat.le_max_right _ _)))
theorem T.zero (t : T) : (t.size = 0 ↔ t.span = 0) ∧ (t.size = 0 ↔ t.width = 0) := by
  have h1 := t.span_le
  have h2 := t.width_le
  have h3 := t.area
  refine ⟨⟨fun h => by omega, fun h => ?_⟩, ⟨fun h => by omega, fun h => ?_⟩⟩
  · rw [h, Nat.zero_mul] at h3; omega
  · rw [h, Nat.mul_zero] at h3; omega
end Go.Proofs.YtkjmddgnfgbioaaDoor.Sp


namespace Go.Proofs.YtkjmddgnfgbioaaDoor
set_option linter.unusedVariables false
set_option linter.unusedSimpArgs false
set_option maxRecDepth 100000
open Go.ChangeShapes Go.WideShapes Go.ChangeAt Go.RowKit
set_option maxRecDepth 100000

def tcells (k c : Int) (b : Bool) (l : Int) (A : Option Addr) (n cap : Nat) : List Value := [.int .i64 k, .int .i64 c, .bool b, .int .i64 l, .slice A n cap]

inductive TmR (B : Nat) (w : World) : List Value → Sp.T → Prop
  | nil (k c : Int) (b : Bool) (l : Int) (A : Option Addr) (n cap : Nat) : n ≤ cap → cap ≤ maxLen → k ≠ 1 → ¬ ((k = 2 ∨ k = 3) ∧ 2 ≤ n) → TmR B w (tcells k c b l A n cap) .nil
  | one (c : Int) (b : Bool) (l : Int) (A : Option Addr) (n cap : Nat) : n ≤ cap → cap ≤ maxLen → TmR B w (tcells 1 c b l A n cap) (.one c b l)
  | two (par : Bool) (c : Int) (b : Bool) (l : Int) (g o n cap : Nat) (cs0 cs1 : List Value) (t0 t1 : Sp.T) : n ≤ cap → cap ≤ maxLen → 2 ≤ n → g < B →
      (∀ j u, cs0[j]? = some u → w.cell? ⟨g, o + j, none⟩ = some u) → (∀ j u, cs1[j]? = some u → w.cell? ⟨g, o + 5 + j, none⟩ = some u) → TmR B w cs0 t0 → TmR B w cs1 t1 →
      TmR B w (tcells (if par then 3 else 2) c b l (some ⟨g, o, none⟩) n cap) (.two par t0 t1)

theorem TmR.form {B : Nat} {w : World} {cs : List Value} {t : Sp.T} (h : TmR B w cs t) : ∃ k c b l A n cap, cs = tcells k c b l A n cap ∧ n ≤ cap ∧ cap ≤ maxLen := by
  cases h with
  | nil k c b l A n cap h1 h2 => exact ⟨_, _, _, _, _, _, _, rfl, h1, h2⟩
  | one c b l A n cap h1 h2 => exact ⟨_, _, _, _, _, _, _, rfl, h1, h2⟩
  | two par c b l g o n cap cs0 cs1 t0 t1 h1 h2 => exact ⟨_, _, _, _, _, _, _, rfl, h1, h2⟩

theorem TmR.keep {B B' : Nat} {w w' : World} {cs : List Value} {t : Sp.T} (h : TmR B w cs t) (hB : B ≤ B') (hk : ∀ p : Addr, p.block < B → w'.cell? p = w.cell? p) : TmR B' w' cs t := by
  induction h with
  | nil k c b l A n cap h1 h2 h3 h4 => exact .nil k c b l A n cap h1 h2 h3 h4
  | one c b l A n cap h1 h2 => exact .one c b l A n cap h1 h2
  | two par c b l g o n cap cs0 cs1 t0 t1 h1 h2 h3 h4 h5 h6 _ _ i0 i1 =>
    exact .two par c b l g o n cap cs0 cs1 t0 t1 h1 h2 h3 (Nat.lt_of_lt_of_le h4 hB) (fun j u hu => (hk ⟨g, o + j, none⟩ h4).trans (h5 j u hu)) (fun j u hu => (hk ⟨g, o + 5 + j, none⟩ h4).trans (h6 j u hu)) i0 i1
theorem TmR.later {B : Nat} {w w' : World} {cs : List Value} {t : Sp.T} (h : TmR B w cs t) (hb : Below B w w') : TmR B w' cs t := h.keep (Nat.le_refl _) (fun _ hp => hb.cell hp)
theorem TmR.alloc {B : Nat} {w : World} {cs : List Value} {t : Sp.T} (h : TmR B w cs t) (hB : B ≤ w.heap.size) (o : Obj) : TmR B (w.alloc o) cs t := h.later ((Below.refl _ _).alloc hB o)

/-! ### an argument -/
theorem bulk_mem {H : Type} {d : DataW H} : ∀ {l : List (DataW H)}, d ∈ l → Rows.uptoBulk d ≤ Rows.uptoBulkAll l
  | x :: l, h => by
    rw [Rows.uptoBulkAll]
    rcases List.mem_cons.1 h with rfl | h
    · omega
    · have := bulk_mem h; omega
theorem bulk_two {H : Type} (x y : DataW H) (l : List (DataW H)) : Rows.uptoBulk x + Rows.uptoBulk y ≤ Rows.uptoBulkAll (x :: y :: l) := by
  rw [Rows.uptoBulkAll, Rows.uptoBulkAll]; omega


theorem open_term {H : Type} {enc : TypeId × Value → H} {w : World} : ∀ (fuel : Nat) (cs : List Value) (x : DataW H × List MemPlace), DataW.trod enc Tryd.prog w 0 (fun _ => true) true fuel 59 cs = some x → (∀ p ∈ x.2, p.block < w.heap.size) →
    ∃ t : Sp.T, TmR w.heap.size w cs t ∧ t.cnt ≤ Rows.uptoBulk x.1 := by
  intro fuel
  induction fuel using Nat.strongRecOn with
  | _ fuel ih =>
    intro cs x h hlt
    have hT : Tryd.prog.underlying 59 = some (.struct (fieldsOf Tryd.prog 59)) := by kernel_rfl
    have hA : Tryd.prog.underlying 56 = some (.struct (fieldsOf Tryd.prog 56)) := by kernel_rfl
    obtain ⟨xs, m, rfl, rfl, hl, hxl, hfs⟩ := DataW.trod_struct hT h
    have e0 : (fieldsOf Tryd.prog 59)[0]?.map (fun f => (f.type, f.offset)) = some (3, 0) := by kernel_rfl
    have e1 : (fieldsOf Tryd.prog 59)[1]?.map (fun f => (f.type, f.offset)) = some (56, 1) := by kernel_rfl
    have e2 : (fieldsOf Tryd.prog 59)[2]?.map (fun f => (f.type, f.offset)) = some (57, 4) := by kernel_rfl
    have hsz : (fieldsOf Tryd.prog 59).size = 3 := by kernel_rfl
    obtain ⟨f0, g0, q0⟩ := Option.map_eq_some_iff.1 e0
    obtain ⟨f1, g1, q1⟩ := Option.map_eq_some_iff.1 e1
    obtain ⟨f2, g2, q2⟩ := Option.map_eq_some_iff.1 e2
    injection q0 with q0 q0'
    injection q1 with q1 q1'
    injection q2 with q2 q2'
    have h0 := hfs 0 f0 g0
    have h1 := hfs 1 f1 g1
    have h2 := hfs 2 f2 g2
    have c0 : Tryd.prog.cellsOf 3 = 1 := by kernel_rfl
    have c1 : Tryd.prog.cellsOf 56 = 3 := by kernel_rfl
    have c2 : Tryd.prog.cellsOf 57 = 1 := by kernel_rfl
    have cT : Tryd.prog.cellsOf 59 = 5 := by kernel_rfl
    have cB : Tryd.prog.cellsOf 4 = 1 := by kernel_rfl
    rw [q0, q0', c0] at h0
    rw [q1, q1', c1] at h1
    rw [q2, q2', c2] at h2
    rw [cT] at hl
    rw [hsz] at hxl
    match xs, hxl, cs, hl with
    | [x0, x1, x2], _, [v0, v1, v2, v3, v4], _ =>
      simp only [List.drop_succ_cons, List.drop_zero, List.take_succ_cons, List.take_zero, List.getElem?_cons_zero, List.getElem?_cons_succ] at h0 h1 h2
      obtain ⟨k, hk, -, -⟩ := DataW.trod_int Tryd.underlying3 h0
      obtain ⟨ys, m1, rfl, -, hl1, hyl, hys⟩ := DataW.trod_struct hA h1
      have d0 : (fieldsOf Tryd.prog 56)[0]?.map (fun f => (f.type, f.offset)) = some (3, 0) := by kernel_rfl
      have d1 : (fieldsOf Tryd.prog 56)[1]?.map (fun f => (f.type, f.offset)) = some (4, 1) := by kernel_rfl
      have d2 : (fieldsOf Tryd.prog 56)[2]?.map (fun f => (f.type, f.offset)) = some (3, 2) := by kernel_rfl
      have hsy : (fieldsOf Tryd.prog 56).size = 3 := by kernel_rfl
      obtain ⟨u0, w0, p0⟩ := Option.map_eq_some_iff.1 d0
      obtain ⟨u1, w1, p1⟩ := Option.map_eq_some_iff.1 d1
      obtain ⟨u2, w2, p2⟩ := Option.map_eq_some_iff.1 d2
      injection p0 with p0 p0'
      injection p1 with p1 p1'
      injection p2 with p2 p2'
      have y0 := hys 0 u0 w0
      have y1 := hys 1 u1 w1
      have y2 := hys 2 u2 w2
      rw [p0, p0', c0] at y0
      rw [p1, p1', cB] at y1
      rw [p2, p2', c0] at y2
      rw [hsy] at hyl
      match ys, hyl with
      | [z0, z1, z2], _ =>
        simp only [List.drop_succ_cons, List.drop_zero, List.take_succ_cons, List.take_zero, List.getElem?_cons_zero, List.getElem?_cons_succ] at y0 y1 y2
        obtain ⟨c, hc, -, -⟩ := DataW.trod_int Tryd.underlying3 y0
        obtain ⟨b, hb, -⟩ := DataW.trod_bool Tryd.underlying4 y1
        obtain ⟨l, hl', -, -⟩ := DataW.trod_int Tryd.underlying3 y2
        simp only [List.cons.injEq, and_true] at hk hc hb hl'
        subst hk hc hb hl'
        have bulk1 : Rows.uptoBulk (DataW.agg (H := H) [x0.1, x1.1, x2.1]) = Rows.uptoBulk x0.1 + (Rows.uptoBulk x1.1 + Rows.uptoBulk x2.1) + 1 := by
          simp [Rows.uptoBulk, Rows.uptoBulkAll]
        have pos : ∀ d : DataW H, 1 ≤ Rows.uptoBulk d := fun d => by
          cases d with
          | lit x => cases x <;> simp [Rows.uptoBulk]
          | _ => simp [Rows.uptoBulk]
        rcases DataW.trod_slice Tryd.underlying57 h2 with ⟨hcs, hx⟩ | ⟨a, len, cap, el, rest, n, hn, hcs, hx, -, hle, hm, hlen, hel, hsp, -⟩
        · simp only [List.cons.injEq, and_true] at hcs
          subst hcs
          by_cases hk1 : k = 1
          · subst hk1
            exact ⟨.one c b l, .one c b l none 0 0 (Nat.le_refl _) (Nat.zero_le _), by have := pos x0.1; simp [Sp.T.cnt, bulk1]⟩
          · exact ⟨.nil, .nil k c b l none 0 0 (Nat.le_refl _) (Nat.zero_le _) hk1 (by omega), by simp [Sp.T.cnt, bulk1]⟩
        · simp only [List.cons.injEq, and_true] at hcs
          subst hcs
          by_cases hk1 : k = 1
          · subst hk1
            exact ⟨.one c b l, .one c b l _ len cap hle hm, by have := pos x0.1; simp [Sp.T.cnt, bulk1]⟩
          · by_cases hk2 : (k = 2 ∨ k = 3) ∧ 2 ≤ len
            · obtain ⟨hk2, h2l⟩ := hk2
              have kid : ∀ i, i < len → ∃ (y : DataW H × List MemPlace) (cs' : List Value) (t : Sp.T), el[i]? = some y ∧ cs'.length = 5 ∧ (∀ j u, cs'[j]? = some u → w.cell? ((a.add (i * 5)).add j) = some u) ∧ TmR w.heap.size w cs' t ∧ t.cnt ≤ Rows.uptoBulk y.1 := by
                intro i hi
                have h3 := hel i hi
                rw [cT, List.getElem?_eq_getElem (by omega)] at h3
                obtain ⟨cs', hc', htr⟩ := Option.bind_eq_some_iff.1 h3
                obtain ⟨hb0, hl5, hat⟩ := World.cells?_some hc'
                obtain ⟨t, ht1, ht2⟩ := ih n (by omega) cs' _ htr (fun p hp => hlt p (by
                  rw [hx]
                  simp only [List.flatMap_cons, List.flatMap_nil, List.mem_append, List.append_nil]
                  exact .inr (.inr (.inr (List.mem_flatMap.2 ⟨el[i], List.mem_append_left _ (List.getElem_mem _), hp⟩)))))
                refine ⟨el[i], cs', t, List.getElem?_eq_getElem (by omega), hl5, fun j u hu => ?_, ht1, ht2⟩
                have hj : j < 5 := by have := (List.getElem?_eq_some_iff.1 hu).1; omega
                rw [hat j hj, hu]
              obtain ⟨ya, csa, ta, ea, la, ca, ra, ba⟩ := kid 0 (by omega)
              obtain ⟨yb, csb, tb, eb, lb, cb, rb, bb⟩ := kid 1 (by omega)
              obtain ⟨g, o, sp⟩ := a
              have hsp0 : sp = none := by
                have := ca 0 _ (List.getElem?_eq_getElem (by omega))
                simpa [Addr.add] using World.cell?_spot this
              subst hsp0
              have ca' : ∀ j u, csa[j]? = some u → w.cell? ⟨g, o + j, none⟩ = some u := fun j u hu => by
                have := ca j u hu
                rw [Addr.add_lit, Addr.add_lit] at this
                simpa using this
              have cb' : ∀ j u, csb[j]? = some u → w.cell? ⟨g, o + 5 + j, none⟩ = some u := fun j u hu => by
                have := cb j u hu
                rw [Addr.add_lit, Addr.add_lit] at this
                simpa using this
              have hg : g < w.heap.size := World.block_lt_of_cell? w _ (ca' 0 _ (List.getElem?_eq_getElem (by omega)))
              have hbulk : ta.cnt + tb.cnt ≤ Rows.uptoBulk x2.1 := by
                rw [hx]
                match el, hlen, ea, eb with
                | e0 :: e1 :: el', _, ea, eb =>
                  simp only [List.getElem?_cons_zero, List.getElem?_cons_succ, Option.some.injEq] at ea eb
                  subst ea eb
                  have := bulk_two e0.1 e1.1 (el'.map (·.1))
                  simp only [List.map_cons, Rows.uptoBulk]
                  omega
              rcases hk2 with rfl | rfl
              · exact ⟨.two false ta tb, .two false c b l g o len cap csa csb ta tb hle hm h2l hg ca' cb' ra rb, by show _ ≤ Rows.uptoBulk (DataW.agg (H := H) [x0.1, x1.1, x2.1]); rw [Sp.T.cnt, bulk1]; omega⟩
              · exact ⟨.two true ta tb, .two true c b l g o len cap csa csb ta tb hle hm h2l hg ca' cb' ra rb, by show _ ≤ Rows.uptoBulk (DataW.agg (H := H) [x0.1, x1.1, x2.1]); rw [Sp.T.cnt, bulk1]; omega⟩
            · exact ⟨.nil, .nil k c b l _ len cap hle hm hk1 hk2, by simp [Sp.T.cnt, bulk1]⟩
end Go.Proofs.YtkjmddgnfgbioaaDoor


namespace Go.Proofs.YtkjmddgnfgbioaaDoor
set_option linter.unusedVariables false
set_option linter.unusedSimpArgs false
set_option maxRecDepth 100000
open Go.RowKit

theorem kids_cells {w : World} {g : Nat} {t : TypeId} {xs ys : List Value} (h : Blk w g t (xs ++ ys)) (hx : xs.length = 5) : (∀ j u, xs[j]? = some u → w.cell? ⟨g, 0 + j, none⟩ = some u) ∧ (∀ j u, ys[j]? = some u → w.cell? ⟨g, 0 + 5 + j, none⟩ = some u) := by
  refine ⟨fun j u hu => ?_, fun j u hu => ?_⟩
  · have hj := (List.getElem?_eq_some_iff.1 hu).1
    rw [h.cell, List.getElem?_append_left (by omega), Nat.zero_add]
    exact hu
  · rw [h.cell, List.getElem?_append_right (by omega), ← hu]
    congr 1
    omega

/-- a term of two, made by the call -/
theorem TmR.made {B : Nat} {w : World} {g : Nat} {xs ys : List Value} {t0 t1 : Sp.T} {tt : TypeId} (par : Bool) (h : Blk w g tt (xs ++ ys)) (hx : xs.length = 5) (hg : g < B) (r0 : TmR B w xs t0) (r1 : TmR B w ys t1) :
    TmR B w (tcells (if par then 3 else 2) 0 false 0 (some ⟨g, 0, none⟩) 2 2) (.two par t0 t1) :=
  .two par 0 false 0 g 0 2 2 xs ys t0 t1 (Nat.le_refl _) (by unfold maxLen; omega) (Nat.le_refl _) hg (kids_cells h hx).1 (kids_cells h hx).2 r0 r1

theorem two_allocs (w : World) (c0 c1 : List Value) (t0 t1 : TypeId) : Blk ((w.alloc (.cells c0.toArray t0)).alloc (.cells c1.toArray t1)) w.heap.size t0 c0 ∧ Blk ((w.alloc (.cells c0.toArray t0)).alloc (.cells c1.toArray t1)) (w.heap.size + 1) t1 c1 ∧ ((w.alloc (.cells c0.toArray t0)).alloc (.cells c1.toArray t1)).heap.size = w.heap.size + 1 + 1 ∧ Keeps (fun _ => False) w ((w.alloc (.cells c0.toArray t0)).alloc (.cells c1.toArray t1)) := by
  have h0 := Blk.new w t0 c0
  have h1 := Blk.new (w.alloc (.cells c0.toArray t0)) t1 c1
  rw [show (w.alloc (.cells c0.toArray t0)).heap.size = w.heap.size + 1 by simp] at h1
  exact ⟨h0.alloc _, h1, by simp, ((Keeps.refl _ w).alloc _).alloc _⟩
theorem four_allocs (w : World) (c0 c1 c2 c3 : List Value) (t0 t1 t2 t3 : TypeId) : Blk ((((w.alloc (.cells c0.toArray t0)).alloc (.cells c1.toArray t1)).alloc (.cells c2.toArray t2)).alloc (.cells c3.toArray t3)) w.heap.size t0 c0 ∧ Blk ((((w.alloc (.cells c0.toArray t0)).alloc (.cells c1.toArray t1)).alloc (.cells c2.toArray t2)).alloc (.cells c3.toArray t3)) (w.heap.size + 1) t1 c1 ∧
    Blk ((((w.alloc (.cells c0.toArray t0)).alloc (.cells c1.toArray t1)).alloc (.cells c2.toArray t2)).alloc (.cells c3.toArray t3)) (w.heap.size + 1 + 1) t2 c2 ∧ Blk ((((w.alloc (.cells c0.toArray t0)).alloc (.cells c1.toArray t1)).alloc (.cells c2.toArray t2)).alloc (.cells c3.toArray t3)) (w.heap.size + 1 + 1 + 1) t3 c3 ∧
    ((((w.alloc (.cells c0.toArray t0)).alloc (.cells c1.toArray t1)).alloc (.cells c2.toArray t2)).alloc (.cells c3.toArray t3)).heap.size = w.heap.size + 1 + 1 + 1 + 1 ∧ Keeps (fun _ => False) w ((((w.alloc (.cells c0.toArray t0)).alloc (.cells c1.toArray t1)).alloc (.cells c2.toArray t2)).alloc (.cells c3.toArray t3)) := by
  obtain ⟨h0, h1, hz, hk⟩ := two_allocs w c0 c1 t0 t1
  obtain ⟨h2, h3, hz2, hk2⟩ := two_allocs ((w.alloc (.cells c0.toArray t0)).alloc (.cells c1.toArray t1)) c2 c3 t2 t3
  rw [hz] at h2 h3 hz2
  exact ⟨(h0.alloc _).alloc _, (h1.alloc _).alloc _, h2, h3, hz2, hk.trans hk2⟩

/-- what is known of a term that lies in a box, while the world goes on -/
structure Boxed (w1 : World) (q : Nat) (k c : Int) (b : Bool) (l : Int) (A : Option Addr) (n cap : Nat) (t : Sp.T) : Prop where
  look : ∀ w', Below w1.heap.size w1 w' → (w'.cell? ⟨q, 0, none⟩ = some (.int .i64 k) ∧ w'.cell? ⟨q, 1, none⟩ = some (.int .i64 c) ∧ w'.cell? ⟨q, 2, none⟩ = some (.bool b) ∧ w'.cell? ⟨q, 3, none⟩ = some (.int .i64 l) ∧ w'.cell? ⟨q, 4, none⟩ = some (.slice A n cap)) ∧
    TmR w'.heap.size w' [.int .i64 k, .int .i64 c, .bool b, .int .i64 l, .slice A n cap] t
theorem Boxed.of {w1 : World} {q : Nat} {k c : Int} {b : Bool} {l : Int} {A : Option Addr} {n cap : Nat} {t : Sp.T} {B : Nat} (hB : Blk w1 q 59 [.int .i64 k, .int .i64 c, .bool b, .int .i64 l, .slice A n cap]) (hT : TmR B w1 [.int .i64 k, .int .i64 c, .bool b, .int .i64 l, .slice A n cap] t) (hb : B ≤ w1.heap.size) : Boxed w1 q k c b l A n cap t :=
  ⟨fun w' h => ⟨⟨by rw [(hB.below h).cell]; rfl, by rw [(hB.below h).cell]; rfl, by rw [(hB.below h).cell]; rfl, by rw [(hB.below h).cell]; rfl, by rw [(hB.below h).cell]; rfl⟩, (hT.later (h.mono hb)).keep (Nat.le_trans hb h.size) (fun _ _ => rfl)⟩⟩

theorem tm_up {B B' : Nat} {w : World} {cs : List Value} {t : Sp.T} (h : TmR B w cs t) (hB : B ≤ B') : TmR B' w cs t := h.keep hB (fun _ _ => rfl)

theorem three_allocs (w : World) (c0 c1 c2 : List Value) (t0 t1 t2 : TypeId) : Blk (((w.alloc (.cells c0.toArray t0)).alloc (.cells c1.toArray t1)).alloc (.cells c2.toArray t2)) w.heap.size t0 c0 ∧ Blk (((w.alloc (.cells c0.toArray t0)).alloc (.cells c1.toArray t1)).alloc (.cells c2.toArray t2)) (w.heap.size + 1) t1 c1 ∧
    Blk (((w.alloc (.cells c0.toArray t0)).alloc (.cells c1.toArray t1)).alloc (.cells c2.toArray t2)) (w.heap.size + 1 + 1) t2 c2 ∧ (((w.alloc (.cells c0.toArray t0)).alloc (.cells c1.toArray t1)).alloc (.cells c2.toArray t2)).heap.size = w.heap.size + 1 + 1 + 1 ∧ Keeps (fun _ => False) w (((w.alloc (.cells c0.toArray t0)).alloc (.cells c1.toArray t1)).alloc (.cells c2.toArray t2)) := by
  obtain ⟨h0, h1, hz, hk⟩ := two_allocs w c0 c1 t0 t1
  have h2 := Blk.new ((w.alloc (.cells c0.toArray t0)).alloc (.cells c1.toArray t1)) t2 c2
  rw [hz] at h2
  exact ⟨h0.alloc _, h1.alloc _, h2, by simp, hk.alloc _⟩

theorem SlV.of_blk {w : World} {g sz n : Nat} {e : TypeId} {cs : List Value} (h : Blk w g e cs) (hl : cs.length = n * sz) (hn : n ≤ 1000000000) : SlV w sz (.slice (some ⟨g, 0, none⟩) n n) n cs :=
  ⟨_, _, rfl, Nat.le_refl _, by unfold maxLen; omega, hl, g, 0, fun _ => ⟨rfl, h.lt⟩, fun j u hu => by rw [Nat.zero_add, h.cell]; exact hu⟩

end Go.Proofs.YtkjmddgnfgbioaaDoor


namespace Go.Proofs.YtkjmddgnfgbioaaDoor
set_option linter.unusedVariables false
set_option linter.unusedSimpArgs false
set_option maxRecDepth 100000
open Go.RowKit Go.Maps

theorem keyed_i64 : Keyed Tryd.prog 3 := int_keyed Tryd.underlying3
theorem zero_i64 (w : World) : (zeroValue 3).run Tryd.prog w = .ok (.int .i64 0) w := by kernel_rfl

structure MapI (w : World) (g n : Nat) (f : Int → Int) : Prop where
  is : ∃ D : DataW Unit, w.ownsMap Tryd.prog 3 (plainElem Tryd.prog 3) g n D ∧ IsMap D ∧ ∀ k, (Lit.int .i64 k).wf = true → D.atKey (.int .i64 k) (.lit (.int .i64 0)) = .lit (.int .i64 (f k))

theorem MapI.made (w : World) : MapI (w.alloc (.map #[] 0)) w.heap.size 0 (fun _ => 0) := ⟨_, World.ownsMap_made _ _ _ _, isMap_empty, fun _ _ => rfl⟩
theorem MapI.lt {w : World} {g n : Nat} {f : Int → Int} (h : MapI w g n f) : g < w.heap.size := by obtain ⟨D, h1, -⟩ := h.is; exact h1.lt
theorem MapI.keep {w w' : World} {g n : Nat} {f : Int → Int} (h : MapI w g n f) (hg : w'.heap[g]? = w.heap[g]?) : MapI w' g n f := by
  obtain ⟨D, ⟨es, clock, hb, F, hs, hD⟩, h2, h3⟩ := h.is
  exact ⟨D, ⟨es, clock, hg.trans hb, F, hs, hD⟩, h2, h3⟩
theorem MapI.below {w w' : World} {g n B : Nat} {f : Int → Int} (h : MapI w g n f) (hb : Below B w w') (hB : g < B) : MapI w' g n f := h.keep (hb.block g hB)
theorem MapI.next {w w' : World} {g n : Nat} {f : Int → Int} (h : MapI w g n f) (hb : Below w.heap.size w w') : MapI w' g n f := h.below hb h.lt
theorem MapI.look {w : World} {g n : Nat} {f : Int → Int} (h : MapI w g n f) {k : Int} (hk : (Lit.int .i64 k).wf = true) : (Instr.lookup 73 (.map (some g)) (.int .i64 k) false).run Tryd.prog w = .ok (.int .i64 (f k)) w := by
  obtain ⟨D, h1, h2, h3⟩ := h.is
  obtain ⟨c, hrun, hat, -⟩ := h1.lookup_int keyed_i64 Tryd.underlying73 Tryd.underlying3 (zero_i64 _) (keyOf_int_mk Tryd.underlying3 hk)
  rw [h3 k hk] at hat
  injection hat with hat
  injection hat with _ hat
  rw [hat]
  exact hrun

theorem wp_mapset {P : Program} (hP : P = Tryd.prog) (w : World) {ops : Array Oper} {rest : List Oper} {o : Oper} {a : Act} {Q : Exit → Act → World → Prop}
    (hg : o.guard = none) (m x v : Operand) (hop : o.op = Op.mapUpdate 73 m x v) (g n : Nat) (f : Int → Int) (hm : a.eval m = .map (some g)) (h : MapI w g n f) (hn : n < maxLen)
    (k u : Int) (hx : a.eval x = .int .i64 k) (hv : a.eval v = .int .i64 u) (hk : (Lit.int .i64 k).wf = true) (hu : (Lit.int .i64 u).wf = true)
    (hK : ∀ w', MapI w' g (n + 1) (fun j => if j = k then u else f j) → w.grownBy w' (some g) → wpList P ops Q rest (a.put o.dst undef) w') :
    wpList P ops Q (o :: rest) a w := by
  subst hP
  obtain ⟨D, h1, h2, h3⟩ := h.is
  refine wpList_mapUpdate_own w hg m x v _ hop _ _ keyed_i64 Tryd.underlying73 _ g n D hm h1 hn _ _ _ hx hv (keyOf_int_mk Tryd.underlying3 hk) _ [] (plainElem_int Tryd.underlying3 hu) ?_
  intro w' hown hgr
  refine hK w' ⟨_, hown, h2.put _ _, fun j hj => ?_⟩ hgr
  by_cases e : j = k
  · subst e
    rw [if_pos rfl, atKey_put_same h2 (by first | trivial | exact ⟨_, _, rfl⟩ | (constructor))]
  · rw [if_neg e, atKey_put_other (by intro h; injection h with _ h; exact e h)]
    exact h3 j hj
end Go.Proofs.YtkjmddgnfgbioaaDoor


namespace Go.Proofs.YtkjmddgnfgbioaaDoor
set_option linter.unusedVariables false
set_option linter.unusedSimpArgs false
set_option maxRecDepth 100000
open Go.RowKit

def Gr.ers (L : List Gr.Ed) : List Gr.Er := L.map fun e => ((e.1 : Int), (e.2 : Int))
theorem gd_wf {a : Int} (h : -9223372036854775808 ≤ a ∧ a ≤ 9223372036854775807) : (Lit.int .i64 a).wf = true := WalkArith.wf_i64 (by omega)

set_option maxHeartbeats 4000000 in
theorem gdleads_any (l : List Int) (L : List Gr.Ed) (w : World) (pg : Nat) (v : Value) (A : Option Addr) (c : Nat) (hl : SlI .i64 w v l) (hll : l.length ≤ 1099511627776) (hc1 : w.cell? ⟨pg, 1, none⟩ = some (.slice A L.length c)) (hA : SlV w 2 (.slice A L.length c) L.length (edcs L)) (hL : ∀ e ∈ L, e.1 ≤ 200 ∧ e.2 ≤ 200) (hLl : L.length ≤ 1099511627776) :
    Calls Tryd.prog 43 #[v, .pointer (some ⟨pg, 0, none⟩)] w fun e w' => e = .returned (.bool (Gr.leads l (Gr.ers L))) ∧ Below w.heap.size w w' := by
  obtain ⟨Al, cl, rfl, hle, hm, hlen, hcl⟩ := id hl.1
  have hmm := @run_makeMap Tryd.prog
  have hlt := World.block_lt_of_cell? _ _ hc1
  have M0 : MapI (w.alloc (.map #[] 0)) w.heap.size 0 (Gr.at_ (l.take 0)) := by rw [List.take_zero]; exact MapI.made w
  have hb0 : Below w.heap.size w (w.alloc (.map #[] 0)) := below_alloc (Below.refl _ _) _
  clear hcl hlen
  go_enter Tryd.func43, Tryd.ntmps43
  go_wp2_with fail
  go_loopw [12] (fun i wr => ∃ k m : Nat, k ≤ l.length ∧ m ≤ k ∧ i = .int .i64 (k : Int) ∧ MapI wr w.heap.size m (Gr.at_ (l.take k)) ∧ Below w.heap.size w wr) (fun i _ => l.length - (intOf i).toNat)
  case atStart => exact ⟨0, 0, Nat.zero_le _, Nat.le_refl _, rfl, M0, hb0⟩
  case round =>
    clear M0 hb0
    obtain ⟨k, m, hk, hmk, rfl, hM, hb⟩ := hrel
    by_cases hlt2 : k < l.length
    · obtain ⟨x, hx⟩ : ∃ x, l[k]? = some x := ⟨_, List.getElem?_eq_getElem hlt2⟩
      obtain ⟨_, _, e5, -, -, -, hcc⟩ := hl.1.below hb
      injection e5 with e5 e6 e7
      subst e5 e7
      obtain ⟨b, o, rfl, hbl, hcell⟩ := hcc.at_ (fun e => by simp [ints] at e; rw [e] at hlt2; simp at hlt2)
      have c1 := hcell k (.int .i64 x) (by rw [ints_get _ _ _ hlt2, List.getD_eq_getElem?_getD, hx]; rfl)
      have hwf : (Lit.int .i64 x).wf = true := hl.2 x (List.mem_of_getElem? hx)
      have hn63 : m < maxLen := by unfold maxLen; omega
      have hs : l.take (k + 1) = l.take k ++ [x] := by rw [List.take_add_one, hx]; rfl
      have hsn : Gr.at_ (l.take (k + 1)) = fun j => if j = x then (k : Int) + 1 else Gr.at_ (l.take k) j := by
        rw [hs, Gr.at_snoc]
        have : (l.take k).length = k := by rw [List.length_take]; omega
        rw [this]
      have HF := Lib.hid (And.intro hb (And.intro hsn hs))
      clear hcell hcc hx hsn hs hb e6
      go_wp2_with (first | (at_mapUpdate; refine wp_mapset rfl _ rfl _ _ _ rfl w.heap.size m _ rfl hM hn63 _ _ rfl rfl hwf (by first | exact gd_wf (by omega) | exact wrap64_wf _) ?_; intro w4 hM4 hg4) | fail)
      rw [← HF.out.2.1] at hM4
      have hb4 := HF.out.1.trans (below_of_grown hg4 HF.out.1.size (Nat.le_refl _))
      have HG := Lib.hid (And.intro hM4 hb4)
      clear hM4 hg4 hb4 hM
      go_roundw
      case rel => exact ⟨k + 1, m + 1, by omega, by omega, by go_num, HG.out.1, HG.out.2⟩
      case measure => simp [intOf]; omega
    · obtain rfl : k = l.length := by omega
      rw [List.take_length] at hM
      have hlk : ∀ w' (e : Nat), Below wr.heap.size wr w' → e ≤ 200 → (Instr.lookup 73 (.map (some w.heap.size)) (.int .i64 (e : Int)) false).run Tryd.prog w' = .ok (.int .i64 (Gr.at_ l (e : Int))) w' := fun w' e h1 h2 => (hM.next h1).look (gd_wf (by omega))
      have c1 : wr.cell? ⟨pg, 1, none⟩ = some (.slice A L.length c) := (hb.cell (p := ⟨pg, 1, none⟩) hlt).trans hc1
      have HB := Lib.hid (And.intro hb (hA.below hb))
      clear hb hM hA hc1
      go_wp2_with fail
      clear c1
      obtain ⟨w2, hw2⟩ : ∃ w2 : World, w2 = wr := ⟨_, rfl⟩
      subst hw2
      go_loopw [25] (fun i wr => ∃ k : Nat, k ≤ L.length ∧ i = .int .i64 (k : Int) ∧ Gr.leads l (Gr.ers (L.take k)) = true ∧ Below w2.heap.size w2 wr) (fun i _ => L.length - (intOf i).toNat)
      case atStart => exact ⟨0, Nat.zero_le _, rfl, rfl, Below.refl _ _⟩
      case round =>
        obtain ⟨k, hk, rfl, hld, hb⟩ := hrel
        by_cases hlt3 : k < L.length
        · obtain ⟨x, hx⟩ : ∃ x, L[k]? = some x := ⟨_, List.getElem?_eq_getElem hlt3⟩
          obtain ⟨gx1, gx2⟩ := edcs_get _ _ _ hx
          obtain ⟨hx1, hx2⟩ := hL x (List.mem_of_getElem? hx)
          obtain ⟨_, _, e5, -, -, -, hcc⟩ := HB.out.2.below hb
          injection e5 with e5 e6 e7
          subst e5 e7
          obtain ⟨b, o, rfl, hbl, hcell⟩ := hcc.at_ (fun e => by rw [e] at gx1; simp at gx1)
          have d1 := hcell _ _ gx1
          have d2 := hcell _ _ gx2
          rw [← Nat.add_assoc] at d2
          have hs : L.take (k + 1) = L.take k ++ [x] := by rw [List.take_add_one, hx]; rfl
          have hsn : Gr.leads l (Gr.ers (L.take (k + 1))) = !Gr.bad1 l ((x.1 : Int), (x.2 : Int)) := by
            rw [hs]
            unfold Gr.ers
            rw [List.map_append]
            unfold Gr.leads at hld ⊢
            rw [List.all_append]
            unfold Gr.ers at hld
            rw [hld]
            simp
          have hsb : Gr.bad1 l ((x.1 : Int), (x.2 : Int)) = true → Gr.leads l (Gr.ers L) = false := fun h => by
            unfold Gr.leads
            rw [List.all_eq_false]
            exact ⟨((x.1 : Int), (x.2 : Int)), List.mem_map.2 ⟨x, List.mem_of_getElem? hx, rfl⟩, by rw [h]; simp⟩
          obtain ⟨xa, xb⟩ := x
          dsimp only at d1 d2 hx1 hx2 hsn hsb
          have hb1 : Below w2.heap.size w2 (wr.alloc (.cells #[.int .i64 (xa : Int), .int .i64 (xb : Int)] 75)) := below_alloc hb _
          have pe := Blk.new wr 75 [.int .i64 (xa : Int), .int .i64 (xb : Int)]
          have hl1 := hlk _ xa hb1 hx1
          have hl2 := hlk _ xb hb1 hx2
          unfold Gr.bad1 at hsn hsb
          dsimp only at hsn hsb
          have HF := Lib.hid (And.intro hld (And.intro hsn (And.intro hsb (And.intro hb1 hs))))
          clear hcell hcc hx hsn hsb hs hld hb1 gx1 gx2 e6
          go_upto_region 10 with (fail)
          obtain ⟨gk, hgk⟩ : ∃ x, x = wr.heap.size := ⟨_, rfl⟩
          rw [← hgk] at pe ⊢
          generalize (wr.alloc (.cells #[.int .i64 (xa : Int), .int .i64 (xb : Int)] 75)) = W1 at pe hl1 hl2 HF ⊢
          have HGk := Lib.hid hgk
          clear hgk
          have f0 : W1.cell? ⟨gk, 0, none⟩ = some (.int .i64 (xa : Int)) := (pe.cell 0).trans rfl
          have f1 : W1.cell? ⟨gk, 1, none⟩ = some (.int .i64 (xb : Int)) := (pe.cell 1).trans rfl
          generalize hga : Gr.at_ l (xa : Int) = ya at hl1 HF
          generalize hgb : Gr.at_ l (xb : Int) = yb at hl2 HF
          clear hga hgb d1 d2 pe
          rcases q1 : (ya == 0) with _ | _
          · rcases q2 : (yb == 0) with _ | _
            · rcases q3 : decide (yb ≤ ya) with _ | _
              · skip
                obtain ⟨h1, h2, h3, h4, h5⟩ := HF.out
                rw [q1, q2, q3] at h2
                have HG := Lib.hid (And.intro h2 h4)
                clear h1 h2 h3 h4 h5
                go_wp2_with fail
                go_roundw
                case rel => exact ⟨k + 1, by omega, by go_num, HG.out.1, by have := HG.out.2; exact (by repeat (first | assumption | apply below_drew))⟩
                case measure => simp [intOf]; omega
              · skip
                obtain ⟨h1, h2, h3, h4, h5⟩ := HF.out
                rw [q1, q2, q3] at h3
                have hz := h3 rfl
                have HG := Lib.hid (And.intro hz (below_next h4 HB.out.1))
                clear h1 h2 h3 h4 h5 hz
                go_wp2_with fail
                go_ret
                exact ⟨by rw [HG.out.1]; rfl, (by have := HG.out.2; repeat (first | assumption | apply below_drew))⟩
            · skip
              obtain ⟨h1, h2, h3, h4, h5⟩ := HF.out
              rw [q1, q2] at h3
              have hz := h3 rfl
              have HG := Lib.hid (And.intro hz (below_next h4 HB.out.1))
              clear h1 h2 h3 h4 h5 hz
              go_wp2_with fail
              go_ret
              exact ⟨by rw [HG.out.1]; rfl, (by have := HG.out.2; repeat (first | assumption | apply below_drew))⟩
          · skip
            obtain ⟨h1, h2, h3, h4, h5⟩ := HF.out
            rw [q1] at h3
            have hz := h3 rfl
            have HG := Lib.hid (And.intro hz (below_next h4 HB.out.1))
            clear h1 h2 h3 h4 h5 hz
            go_wp2_with fail
            go_ret
            exact ⟨by rw [HG.out.1]; rfl, (by have := HG.out.2; repeat (first | assumption | apply below_drew))⟩
        · obtain rfl : k = L.length := by omega
          rw [List.take_length] at hld
          have HG := Lib.hid (And.intro hld (below_next hb HB.out.1))
          clear hld hb
          go_wp2_with fail
          go_ret
          exact ⟨by rw [HG.out.1]; rfl, HG.out.2⟩
end Go.Proofs.YtkjmddgnfgbioaaDoor


namespace Go.Proofs.YtkjmddgnfgbioaaDoor
set_option linter.unusedVariables false
set_option linter.unusedSimpArgs false
set_option maxRecDepth 100000
open Go.RowKit Go.Shelf

theorem ones_any (w : World) (x : Nat) (hx : x < 18446744073709551616) :
    Calls Tryd.prog 62 #[.int .u64 x] w fun e w' => e = .returned (.int .i64 (Go.Lib.popAux 64 x : Nat)) ∧ w = w' := by
  have H := Lib.hid hx
  clear hx
  go_enter Tryd.func62, Tryd.ntmps62
  go_wp2
  go_ret
  refine ⟨?_, rfl⟩
  have hx := H.out
  obtain ⟨m1, m2, m3⟩ := Bs.mask_is
  have hs := (Bs.side 8 x (by simpa using hx)).2
  rw [m1, m2, m3] at hs
  rw [Bs.k1 x hx, Bs.k2 _ (Bs.s1_lt _ x (by decide)), Bs.k3 _ (Bs.s2_lt _ _ (by decide)), hs]
  obtain ⟨hl, hb⟩ := Bs.last_sum x
  have e4 : IntKind.u64.wrap ((Bs.bytes 8 x : Nat) + ((Bs.bytes 8 x : Nat) : Int) / 256) = ((Bs.bytes 8 x + Bs.bytes 8 x / 256 : Nat) : Int) := by rw [IntKind.wrap_u64]; omega
  rw [e4]
  generalize Bs.bytes 8 x = b at hl hb ⊢
  obtain ⟨c, hc⟩ : ∃ c, c = b + b / 256 := ⟨_, rfl⟩
  have hcb : c ≤ 1157442765409226768 := by omega
  rw [← hc] at hl ⊢
  have e5 : IntKind.u64.wrap ((c : Int) + (c : Int) / 65536) = ((c + c / 65536 : Nat) : Int) := by rw [IntKind.wrap_u64]; omega
  rw [e5]
  obtain ⟨d, hd⟩ : ∃ d, d = c + c / 65536 := ⟨_, rfl⟩
  have hdb : d ≤ 1257442765409226768 := by omega
  rw [← hd] at hl ⊢
  have e6 : IntKind.u64.wrap ((d : Int) + (d : Int) / 4294967296) = ((d + d / 4294967296 : Nat) : Int) := by rw [IntKind.wrap_u64]; omega
  rw [e6, ← hl]
  refine ret_int ?_
  have h7 := Bs.k7 (d + d / 4294967296) (by clear hl hd e4 e5 e6 hc; omega)
  rw [wrap_is] at h7
  exact h7
end Go.Proofs.YtkjmddgnfgbioaaDoor


namespace Go.Proofs.YtkjmddgnfgbioaaDoor
set_option linter.unusedVariables false
set_option linter.unusedSimpArgs false
set_option maxRecDepth 100000
open Go.RowKit

theorem size_any (w : World) (v : Value) (xs : List Nat) (h : SlU w v xs) (hr : xs.length ≤ 17592186044) :
    Calls Tryd.prog 19 #[v] w fun e w' => e = .returned (.int .i64 (Bs.size xs : Nat)) ∧ w = w' := by
  obtain ⟨⟨A, c, rfl, hle, hm, hlen, hc⟩, hw⟩ := h
  clear hlen
  unfold maxLen at hm
  go_enter Tryd.func19, Tryd.ntmps19
  go_wp2
  go_loopw [3, 8] (fun u i wr => ∃ k : Nat, k ≤ xs.length ∧ i = .int .i64 k ∧ u = .int .i64 (Bs.size (xs.take k) : Nat) ∧ w = wr) (fun _ i _ => xs.length - (intOf i).toNat)
  case atStart => exact ⟨0, Nat.zero_le _, rfl, rfl, rfl⟩
  case round =>
    obtain ⟨k, hk, rfl, rfl, rfl⟩ := hrel
    have hsz := Bs.size_le (xs.take k)
    rw [List.length_take] at hsz
    by_cases hlt : k < xs.length
    · obtain ⟨x, hx⟩ : ∃ x, xs[k]? = some x := ⟨_, List.getElem?_eq_getElem hlt⟩
      obtain ⟨b, o, rfl, hbb, hcc⟩ := hc.nat hx
      have hxw := hw x (List.mem_of_getElem? hx)
      have hp := Bs.pop_le 64 x
      have HX := Lib.hid hx
      obtain ⟨z, hz⟩ : ∃ z, z = Bs.size (xs.take k) := ⟨_, rfl⟩
      rw [← hz] at hsz ⊢
      have HZ := Lib.hid hz
      clear hc hx hz
      go_wp2_with fail
      refine (ones_any _ x hxw).mono ?_
      rintro e w2 ⟨rfl, rfl⟩
      go_wp2
      go_roundw
      case rel => exact ⟨k + 1, by omega, by go_num, by
        obtain ⟨h', hx'⟩ := List.getElem?_eq_some_iff.1 HX.out
        rw [List.take_succ_eq_append_getElem h', hx', Bs.size_append, ← HZ.out]
        simp [Bs.size], by first | rfl | trivial⟩
      case measure => simp [intOf]; omega
    · have HK := Lib.hid (show k = xs.length by omega)
      clear hc
      go_wp2
      go_ret
      exact ⟨by rw [HK.out, List.take_length]; rfl, rfl⟩
end Go.Proofs.YtkjmddgnfgbioaaDoor


namespace Go.Proofs.YtkjmddgnfgbioaaDoor
set_option linter.unusedVariables false
set_option linter.unusedSimpArgs false
set_option maxRecDepth 100000
open Go.RowKit

set_option maxHeartbeats 4000000 in
theorem sort_any (n : Int) (es : List Gr.Er) (w : World) (A : Option Addr) (c : Nat) (hA : SlV w 2 (.slice A es.length c) es.length (ercs es)) (hle : es.length ≤ 1099511627776) (hT : Tab w) :
    Calls Tryd.prog 44 #[.agg #[.int .i64 n, .slice A es.length c]] w fun e w' => ∃ v, e = .returned (.tuple #[v, .int .i64 (Gr.wrong n es)]) ∧ (Gr.wrong n es ≠ 0 → v = .slice none 0 0) ∧ (Gr.wrong n es = 0 → w'.ownsRow w.heap.size 3 1 v (Gr.take n.toNat (Gr.nat es)).length (ilist (Gr.take n.toNat (Gr.nat es)))) ∧ Below w.heap.size w w' := by
  have x0 := Blk.new w 72 [.int .i64 n, .slice A es.length c]
  have hb0 : Below w.heap.size w (w.alloc (.cells #[.int .i64 n, .slice A es.length c] 72)) := below_alloc (Below.refl _ _) _
  have hTb : ∀ w', Below w.heap.size w w' → Tab w' := fun w' hb j hj => (hb.cell (p := ⟨0, j, none⟩) hT.lt).trans (hT j hj)
  have hwr : ∀ w', Below w.heap.size w w' → Calls Tryd.prog 48 #[.agg #[.int .i64 n, .slice A es.length c]] w' fun e w'' => e = .returned (.int .i64 (Gr.wrong n es)) ∧ Below w'.heap.size w' w'' := fun w' hb => wrong_any n es w' A c (hA.below hb) hle (hTb w' hb)
  have htk : Gr.wrong n es = 0 → ∀ w', Below w.heap.size w w' → Calls Tryd.prog 85 #[.agg #[.int .i64 n, .slice A es.length c]] w' fun e w'' => ∃ u, e = .returned u ∧ w''.ownsRow w'.heap.size 3 1 u (Gr.take n.toNat (Gr.nat es)).length (ilist (Gr.take n.toNat (Gr.nat es))) ∧ Below w'.heap.size w' w'' := fun h0 w' hb => by
    have hok : Gr.okG n es = true := by
      cases h : Gr.okG n es with
      | true => rfl
      | false =>
        unfold Gr.wrong at h0
        rw [h] at h0
        cases h0
    obtain ⟨N, rfl, hN, hes, hln, -⟩ := Gr.nat_ok hok
    have h4 := hA.below hb
    rw [ercs_nat hok, ← hln] at h4
    have := take_any N (Gr.nat es) w' A c hN hes h4 (by omega) (hTb w' hb)
    rw [hln] at this
    exact this
  obtain ⟨R, hR⟩ : ∃ R, R = Gr.wrong n es := ⟨_, rfl⟩
  rw [← hR] at hwr htk ⊢
  generalize Gr.take n.toNat (Gr.nat es) = L at htk ⊢
  clear hR hA hTb hT
  go_enter Tryd.func44, Tryd.ntmps44
  go_upto_region 1 with (fail)
  generalize (w.alloc (.cells #[.int .i64 n, .slice A es.length c] 72)) = W0 at x0 hb0 ⊢
  have d0 : W0.cell? ⟨w.heap.size, 0, none⟩ = some (.int .i64 n) := (x0.cell 0).trans rfl
  have d1 : W0.cell? ⟨w.heap.size, 1, none⟩ = some (.slice A es.length c) := (x0.cell 1).trans rfl
  go_wp2_with fail
  refine (hwr W0 hb0).mono ?_
  rintro e w1 ⟨rfl, hb1⟩
  have x1 := x0.below hb1
  have c0 : w1.cell? ⟨w.heap.size, 0, none⟩ = some (.int .i64 n) := (x1.cell 0).trans rfl
  have c1 : w1.cell? ⟨w.heap.size, 1, none⟩ = some (.slice A es.length c) := (x1.cell 1).trans rfl
  have hb01 := below_next hb1 hb0
  clear d0 d1 x0 x1 hwr hb1 hb0
  by_cases h0 : R = 0
  · have hk := htk h0 w1 hb01
    subst h0
    clear htk
    have HB := Lib.hid hb01
    clear hb01
    go_wp2_with fail
    refine hk.mono ?_
    rintro e w2 ⟨u, rfl, ho, hb2⟩
    obtain ⟨A', c', rfl, -, -⟩ := own_slice ho
    have HE := Lib.hid (And.intro (own_base ho HB.out.size) (below_next hb2 HB.out))
    clear ho hb2 hk c0 c1
    go_wp2_with fail
    go_ret2
    exact ⟨_, rfl, HE.out.1, HE.out.2⟩
  · have g0 : (R != 0) = true := by simpa using h0
    have HE := Lib.hid (And.intro h0 hb01)
    clear htk h0 hb01 c0 c1
    go_wp2_with fail
    go_ret2
    exact ⟨_, rfl, fun _ => rfl, fun h => absurd h HE.out.1, HE.out.2⟩
end Go.Proofs.YtkjmddgnfgbioaaDoor
