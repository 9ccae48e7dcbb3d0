/-
  Package graph, walked: Behind, of any graph.
-/
import Derived.Test.YtkjmddgnfgbioaaDoorGdP2
import Derived.Test.YtkjmddgnfgbioaaDoorGdP1
import Derived.Deep.DeepCutAuto
import Derived.Lib.Hide

namespace Go.Proofs.YtkjmddgnfgbioaaDoor
set_option linter.unusedVariables false
set_option linter.unusedSimpArgs false
set_option maxRecDepth 100000
open Go

section
variable {P : Program} {ops : Array Oper} {Q : Exit → Act → World → Prop} {S S0 : World → Prop} {E : World → World → Prop} {mk fl : Nat → Bool}

def markNB (ops : Array Oper) (n : Nat) (mk fl : Nat → Bool) (ms : List Nat) : Bool :=
  ms.all fun m => decide (m < n) && (List.range n).all fun i => i == m || (fl i || if i < m then reachB ops 6 m i else reachB ops 6 i m)
structure MarkedN (ops : Array Oper) (mk fl : Nat → Bool) (n : Nat) : Prop where
  lt : ∀ m, mk m = true → m < n
  before : ∀ m i, mk m = true → i < m → fl i = false → reachB ops 6 m i = true
  after : ∀ m i, mk m = true → m < i → i < n → fl i = false → reachB ops 6 i m = true
theorem markedN_of {n : Nat} {ms : List Nat} (hms : ∀ m, mk m = true → m ∈ ms) (h : markNB ops n mk fl ms = true) : MarkedN ops mk fl n := by
  have key := List.all_eq_true.1 h
  refine ⟨fun m hm => ?_, fun m i hm hi hf => ?_, fun m i hm hi hlt hf => ?_⟩
  · have := key m (hms m hm)
    rw [Bool.and_eq_true, decide_eq_true_eq] at this
    exact this.1
  · have := key m (hms m hm)
    rw [Bool.and_eq_true, decide_eq_true_eq] at this
    have h2 := List.all_eq_true.1 this.2 i (List.mem_range.2 (by omega))
    have hne : (i == m) = false := by simp; omega
    rw [hne, Bool.false_or, hf, Bool.false_or, if_pos hi] at h2
    exact h2
  · have := key m (hms m hm)
    rw [Bool.and_eq_true, decide_eq_true_eq] at this
    have h2 := List.all_eq_true.1 this.2 i (List.mem_range.2 hlt)
    have hne : (i == m) = false := by simp; omega
    rw [hne, Bool.false_or, hf, Bool.false_or, if_neg (by omega)] at h2
    exact h2

/-- no mark ahead of it -/
def noMark (mk : Nat → Bool) (k : Nat) : Bool := (List.range k).all fun m => !mk m
/-- what holds ahead of the first mark -/
def Pre (mk fl : Nat → Bool) (S0 : World → Prop) (k : Nat) (w : World) : Prop := (noMark mk k && !fl k) = true → S0 w
def SettleN (P : Program) (ops : Array Oper) (S S0 : World → Prop) (E : World → World → Prop) (mk fl : Nat → Bool) (Z : (Env → Act) → List (Tmp × Fact E) → Prop) : Nat → List Oper → (Env → Act) → List (Tmp × Fact E) → Prop
  | _, [], A, Fs => Z A Fs
  | k, o :: rest, A, Fs =>
    (∃ v, (∀ ρ w, S w → FactsOK (o.looksAt ops) ρ w (cond (fl k) [] Fs) → Pre mk fl S0 k w → StepTo P ops S (cond (mk k) (fun _ _ => True) E) o (A ρ) w (fun u _ => u = v)) ∧ SettleN P ops S S0 E mk fl Z (k + 1) rest (fun ρ => (A ρ).put o.dst v) (cond (mk k) [] Fs)) ∨
    (∃ d F, o.dst = some d ∧ fl k = false ∧ (∀ ρ w, S w → FactsOK (o.looksAt ops) ρ w (cond (fl k) [] Fs) → Pre mk fl S0 k w → StepTo P ops S (cond (mk k) (fun _ _ => True) E) o (A ρ) w F.holds) ∧ SettleN P ops S S0 E mk fl Z (k + 1) rest (fun ρ => (A ρ).put (some d) (ρ d)) ((d, F) :: cond (mk k) [] Fs))

structure PlanN (P : Program) (ops : Array Oper) (S S0 : World → Prop) (mk fl : Nat → Bool) (a : Act) (l : List (Oper × Kind E)) : Prop where
  dst : ∀ p ∈ l, (∃ F, p.2 = .fresh F) → ∃ d, p.1.dst = some d
  flt : ∀ (j : Nat) p, l[j]? = some p → (∃ F, p.2 = .fresh F) → fl j = false
  step : ∀ pre p post, l = pre ++ p :: post → ∀ ρ w, S w → FactsOK (p.1.looksAt ops) ρ w (cond (fl pre.length) [] (factsM mk 0 pre [])) → Pre mk fl S0 pre.length w → StepTo P ops S (cond (mk pre.length) (fun _ _ => True) E) p.1 (actOf a ρ pre) w p.2.rel

theorem planN_snoc {a : Act} {l : List (Oper × Kind E)} (h : PlanN P ops S S0 mk fl a l) {p : Oper × Kind E} (h1 : (∃ F, p.2 = .fresh F) → ∃ d, p.1.dst = some d) (h3 : (∃ F, p.2 = .fresh F) → fl l.length = false)
    (h2 : ∀ ρ w, S w → FactsOK (p.1.looksAt ops) ρ w (cond (fl l.length) [] (factsM mk 0 l [])) → Pre mk fl S0 l.length w → StepTo P ops S (cond (mk l.length) (fun _ _ => True) E) p.1 (actOf a ρ l) w p.2.rel) : PlanN P ops S S0 mk fl a (l ++ [p]) := by
  refine ⟨fun q hq hf => ?_, fun j q hq hf => ?_, fun pre q post he => ?_⟩
  · rcases List.mem_append.1 hq with hq | hq
    · exact h.dst q hq hf
    · rw [List.mem_singleton.1 hq] at hf ⊢
      exact h1 hf
  · rcases Nat.lt_or_ge j l.length with hj | hj
    · rw [List.getElem?_append_left hj] at hq
      exact h.flt j q hq hf
    · rw [List.getElem?_append_right hj] at hq
      have hj' := (List.getElem?_eq_some_iff.1 hq).1
      simp only [List.length_singleton] at hj'
      have e : j = l.length := by omega
      subst e
      simp only [Nat.sub_self, List.getElem?_cons_zero, Option.some.injEq] at hq
      subst hq
      exact h3 hf
  · rcases List.eq_nil_or_concat post with rfl | ⟨post', q', rfl⟩
    · have := List.append_inj' he rfl
      obtain ⟨e1, e2⟩ := this
      injection e2 with e2
      subst e1 e2
      exact h2
    · have e : pre ++ q :: (post' ++ [q']) = (pre ++ q :: post') ++ [q'] := by simp
      rw [List.concat_eq_append, e] at he
      exact h.step pre q post' (List.append_inj' he rfl).1

theorem settleN_plan {Z : (Env → Act) → List (Tmp × Fact E) → Prop} {a : Act} : ∀ (l : List Oper) (pre : List (Oper × Kind E)), PlanN P ops S S0 mk fl a pre → SettleN P ops S S0 E mk fl Z pre.length l (fun ρ => actOf a ρ pre) (factsM mk 0 pre []) →
    ∃ full : List (Oper × Kind E), PlanN P ops S S0 mk fl a full ∧ full.map (·.1) = pre.map (·.1) ++ l ∧ Z (fun ρ => actOf a ρ full) (factsM mk 0 full []) := by
  intro l
  induction l with
  | nil => exact fun pre hp h => ⟨pre, hp, by simp, h⟩
  | cons o rest ih =>
    intro pre hp h
    rcases h with ⟨v, h1, h2⟩ | ⟨d, F, hd, h3, h1, h2⟩
    · obtain ⟨full, q1, q2, q3⟩ := ih (pre ++ [(o, .fixed v)]) (planN_snoc (p := (o, .fixed v)) hp (fun ⟨F, h⟩ => by cases h) (fun ⟨F, h⟩ => by cases h) h1) (by
        have e1 : (fun ρ => actOf a ρ (pre ++ [(o, (Kind.fixed v : Kind E))])) = fun ρ => (actOf a ρ pre).put o.dst v := by
          funext ρ; simp [actOf, Kind.val]
        have e2 : factsM mk 0 (pre ++ [(o, (Kind.fixed v : Kind E))]) [] = cond (mk pre.length) [] (factsM mk 0 pre []) := by rw [factsM_snoc, Nat.zero_add]; rfl
        rw [e1, e2, List.length_append]
        exact h2)
      exact ⟨full, q1, by rw [q2]; simp, q3⟩
    · obtain ⟨full, q1, q2, q3⟩ := ih (pre ++ [(o, .fresh F)]) (planN_snoc (p := (o, .fresh F)) hp (fun _ => ⟨d, hd⟩) (fun _ => h3) h1) (by
        have e1 : (fun ρ => actOf a ρ (pre ++ [(o, (Kind.fresh F : Kind E))])) = fun ρ => (actOf a ρ pre).put (some d) (ρ d) := by
          funext ρ; simp [actOf, Kind.val, hd]
        have e2 : factsM mk 0 (pre ++ [(o, (Kind.fresh F : Kind E))]) [] = (d, F) :: cond (mk pre.length) [] (factsM mk 0 pre []) := by rw [factsM_snoc, Nat.zero_add]; simp [addFact, hd]
        rw [e1, e2, List.length_append]
        exact h2)
      exact ⟨full, q1, by rw [q2]; simp, q3⟩

theorem any_order_mt {a0 : Act} {full : List (Oper × Kind E)} {n : Nat} (hn : n < ops.size) (hops : full.map (·.1) = ops.toList.take n) (hlin : LinearN ops n) (hsk : Region.sinkB .any ops n = true) (hch : Region.chainB .any ops n = true)
    (hsq : ∀ listed : Array Bool, listed.size = ops.size → (∀ i, i < n → listed.getD i false = true) → (∀ i, n ≤ i → listed.getD i false = false) → Region.seqB .any ops (ops.size - n) n listed = true) (hmk : MarkedN ops mk fl n) (hp : PlanN P ops S S0 mk fl a0 full) (hE0 : ∀ w w', S0 w → E w w' → S0 w')
    (hZ : ∀ ρ w, S w → (∀ t F, (t, F) ∈ factsM mk 0 full [] → F.holds (ρ t) w) → wpList P ops Q (ops.toList.drop n) (actOf a0 ρ full) w) :
    ∀ (fuel : Nat) (listed : Array Bool) (a : Act) (w : World) (ρ : Env), HeadInv .any ops n listed →
      (∃ todo : List Nat, todo.length ≤ fuel ∧ ∀ i, i < n → listed.getD i false = false → i ∈ todo) →
      Holds a0 full (fun i => listed.getD i false = true) ρ a → S w → ((∀ m, mk m = true → listed.getD m false = false) → S0 w) → (∀ (i : Nat) (p : Oper × Kind E) (F : Fact E) (d : Tmp), listed.getD i false = true → (∀ m, mk m = true → i < m → listed.getD m false = false) → full[i]? = some p → p.2 = .fresh F → p.1.dst = some d → F.holds (ρ d) w) →
      wpAny P .any ops Q (fuel + (ops.size - n)) listed a w := by
  have hget : ∀ (i : Nat) (p : Oper × Kind E), full[i]? = some p → ops[i]? = some p.1 := fun i p h => by
    have : (full.map (·.1))[i]? = some p.1 := by simp [h]
    rw [hops, List.getElem?_take] at this
    split at this
    · simpa using this
    · cases this
  have hlen : full.length = n := by
    have := congrArg List.length hops
    simp only [List.length_map, List.length_take, Array.length_toList] at this
    omega
  have hget' : ∀ (i : Nat) (o : Oper), i < n → ops[i]? = some o → ∃ p : Oper × Kind E, full[i]? = some p ∧ p.1 = o := fun i o hin h => by
    have hi : i < full.length := by rw [hlen]; exact hin
    have h1 := hget i _ (List.getElem?_eq_getElem hi)
    rw [h] at h1
    injection h1 with h1
    exact ⟨_, List.getElem?_eq_getElem hi, h1.symm⟩
  have hdist : ∀ (i j : Nat) (p q : Oper × Kind E) (d : Tmp), i < j → full[i]? = some p → full[j]? = some q → p.1.dst = some d → q.1.dst ≠ some d := fun i j p q d hij h1 h2 => hlin.dist i j _ _ d hij (by have := (List.getElem?_eq_some_iff.1 h2).1; omega) (hget i p h1) (hget j q h2)
  have hdist2 : ∀ (i j : Nat) (p q : Oper × Kind E) (d : Tmp), i ≠ j → full[i]? = some p → full[j]? = some q → p.1.dst = some d → q.1.dst ≠ some d := fun i j p q d hij h1 h2 hd hd' => by
    rcases Nat.lt_or_gt_of_ne hij with h | h
    · exact hdist i j p q d h h1 h2 hd hd'
    · exact hdist j i q p d h h2 h1 hd' hd
  -- all have come up
  have fin : ∀ (fuel : Nat) (listed : Array Bool) (a : Act) (w : World) (ρ : Env), HeadInv .any ops n listed → (∀ i, i < n → listed.getD i false = true) → Holds a0 full (fun i => listed.getD i false = true) ρ a → S w →
      (∀ (i : Nat) (p : Oper × Kind E) (F : Fact E) (d : Tmp), listed.getD i false = true → (∀ m, mk m = true → i < m → listed.getD m false = false) → full[i]? = some p → p.2 = .fresh F → p.1.dst = some d → F.holds (ρ d) w) → wpAny P .any ops Q (fuel + (ops.size - n)) listed a w := fun fuel listed a w ρ inv hall hH hS hF => by
    have h1 : Holds a0 full (fun i => i < full.length) ρ (actOf a0 ρ full) := by
      have := holds_prefix a0 full ρ hdist full.length (Nat.le_refl _)
      rwa [List.take_length] at this
    have h2 : Holds a0 full (fun i => i < full.length) ρ a :=
      ⟨hH.defers, hH.size, fun t ht => hH.far t fun i p hi hp => ht i p (List.getElem?_eq_some_iff.1 hp).1 hp, fun i p t hi => hH.near i p t (hall i (by omega))⟩
    rw [h2.unique h1]
    have hz := hZ ρ w hS fun t F hm => by
      rcases mem_factsM hm with ⟨h, -⟩ | ⟨i, p, h1, h2, h3, h4⟩
      · cases h
      · exact hF i p F t (hall i (by have := (List.getElem?_eq_some_iff.1 h1).1; omega)) (fun m hm him => absurd (hmk.lt m hm) (fun h => h4 m hm (by omega) (by omega))) h1 h2 h3
    have hdl : (ops.toList.drop n).length = ops.size - n := by simp
    have hs := hsq listed inv.size hall (fun i hi => by
      rcases Nat.lt_or_ge i ops.size with h | h
      · exact getD_both (inv.tail i hi h)
      · simp [Array.getD, inv.size, Nat.not_lt.2 h])
    have := wpAny_seq_more fuel (ops.toList.drop n) n listed (actOf a0 ρ full) w (fun j => by simp [List.getElem?_drop]) (by rw [hdl]; exact hs) hz
    rwa [hdl, Nat.add_comm] at this
  have none_left : ∀ listed : Array Bool, HeadInv .any ops n listed → Region.ready .any ops listed = [] → ∀ m i, i < m → i < n → listed.getD i false = true := by
    intro listed inv hr m
    induction m with
    | zero => intro i h; omega
    | succ m ih =>
      intro i hi hin
      cases hli : listed.getD i false with
      | true => rfl
      | false =>
        have hlt : i < ops.size := by omega
        have ho : ops[i]? = some ops[i] := Array.getElem?_eq_getElem hlt
        have hmem : i ∈ Region.ready .any ops listed := by
          rw [mem_ready]
          refine ⟨?_, _, ho, fun e he hb => ?_⟩
          · simp only [Array.getD, inv.size, hlt, dif_pos] at hli ⊢
            exact hli
          · have := hlin.back i _ hin ho e he hb
            exact ih e.on (by omega) (by omega)
        rw [hr] at hmem
        cases hmem
  have some_left : ∀ listed : Array Bool, (∀ i, i < n → listed.getD i false = true) ∨ ∃ i, i < n ∧ listed.getD i false = false := fun listed => by
    by_cases h : ∃ i, i < n ∧ listed.getD i false = false
    · exact .inr h
    · exact .inl fun i hi => by
        cases hl : listed.getD i false with
        | true => rfl
        | false => exact (h ⟨i, hi, hl⟩).elim
  intro fuel
  induction fuel with
  | zero =>
    intro listed a w ρ inv ⟨todo, htodo, hin⟩ hH hS hS0 hF
    have hall : ∀ i, i < n → listed.getD i false = true := fun i hi => by
      cases hli : listed.getD i false with
      | true => rfl
      | false =>
        have := hin i hi hli
        rw [List.eq_nil_of_length_eq_zero (Nat.le_zero.1 htodo)] at this
        cases this
    exact fin 0 listed a w ρ inv hall hH hS hF
  | succ fuel ih =>
    intro listed a w ρ inv ⟨todo, htodo, hin⟩ hH hS hS0 hF
    rcases some_left listed with hall | ⟨i0, hi0, hl0⟩
    · exact fin (fuel + 1) listed a w ρ inv hall hH hS hF
    have hsz := inv.size
    rw [show fuel + 1 + (ops.size - n) = (fuel + (ops.size - n)) + 1 by omega]
    refine ⟨fun hr => ?_, fun i hi => ?_⟩
    · have := none_left listed inv hr (i0 + 1) i0 (by omega) hi0
      rw [hl0] at this
      cases this
    have hilt : i < n := by
      rcases Nat.lt_or_ge i n with h | h
      · exact h
      · exact absurd hi (tail_waits hsk hch hn inv _ i0 rfl hi0 (getD_in (by omega) hl0) i h)
    obtain ⟨h0, o, ho, hall⟩ := mem_ready.1 hi
    have hlt := (Array.getElem?_eq_some_iff.1 ho).1
    have h0' : listed.getD i false = false := by
      simp only [Array.getD, hsz, hlt, dif_pos] at h0 ⊢
      exact h0
    obtain ⟨p, hpi, rfl⟩ := hget' i o hilt ho
    have hil : i < full.length := by omega
    have hpre : Holds a0 full (fun j => j < i) ρ (actOf a0 ρ (full.take i)) := holds_prefix a0 full ρ hdist i (by omega)
    have hsplit : full = full.take i ++ p :: full.drop (i + 1) := by
      have : full[i] = p := by have := List.getElem?_eq_getElem hil; rw [hpi] at this; injection this with this; exact this.symm
      rw [← this, List.getElem_cons_drop, List.take_append_drop]
    have hstep := hp.step _ p _ hsplit ρ w hS
    have conf : ∀ (j : Nat) (q : Oper × Kind E), full[j]? = some q → ∀ t, q.1.dst = some t → t ∈ p.1.looksAt ops → (listed.getD j false = true ↔ j < i) := by
      intro j q hq t hd hl
      have hoj := hget j q hq
      have hjn : j < n := by have := (List.getElem?_eq_some_iff.1 hq).1; omega
      rcases Nat.lt_trichotomy j i with h | h | h
      · refine ⟨fun _ => h, fun _ => ?_⟩
        rcases hlin.wait j i _ _ h hilt hoj ho with hap | ⟨e, he, hb, hon⟩
        · exact absurd hl ((Oper.apart_spec hap).1 t hd)
        · rw [← hon]; exact hall e he hb
      · subst h
        rw [hpi] at hq
        injection hq with hq
        subst hq
        exact absurd hl (hlin.self j _ t hilt ho hd)
      · refine ⟨fun hj => ?_, fun h' => by omega⟩
        exfalso
        rcases hlin.wait i j _ _ h hjn ho hoj with hap | ⟨e, he, hb, hon⟩
        · exact absurd hl ((Oper.apart_spec hap).2.2 t hd)
        · have := inv.closed j _ hoj hj e he hb
          rw [hon, h0'] at this
          cases this
    have hdown' : ∀ j o, listed.getD j false = true → ops[j]? = some o → ∀ e ∈ o.after, Region.binds .any e = true → listed.getD e.on false = true := fun j o hj ho e he hb => inv.closed j o ho hj e he hb
    have later : ∀ m, mk m = true → i < m → fl i = false → listed.getD m false = false := fun m hm him hfl => by
      cases hlm : listed.getD m false with
      | false => rfl
      | true =>
        have := reach_closed hdown' 6 m i (hmk.before m i hm him hfl) hlm
        rw [h0'] at this
        cases this
    have hfacts : FactsOK (p.1.looksAt ops) ρ w (cond (fl i) [] (factsM mk 0 (full.take i) [])) := factsOK_of _ fun t F hm hl => by
      rcases hfl : fl i with _ | _
      case true => rw [hfl] at hm; cases hm
      rw [hfl] at hm
      rcases mem_factsM hm with ⟨h, -⟩ | ⟨j, q, h1, h2, h3, h4⟩
      · cases h
      · have hji : j < i := by
          have := (List.getElem?_eq_some_iff.1 h1).1
          rw [List.length_take] at this
          omega
        have hq : full[j]? = some q := by
          rw [List.getElem?_take, if_pos hji] at h1
          exact h1
        refine hF j q F t ((conf j q hq t h3 (by simpa using hl)).2 hji) (fun m hm hjm => ?_) hq h2 h3
        rcases Nat.lt_trichotomy i m with h | h | h
        · exact later m hm h hfl
        · rw [← h]; exact h0'
        · exact absurd (h4 m hm (by omega) (by rw [List.length_take]; omega)) id
    have hli' : (full.take i).length = i := by rw [List.length_take]; omega
    have hst := hstep (by rw [hli']; exact hfacts) (by
      rw [hli']
      intro hnm
      rw [Bool.and_eq_true] at hnm
      refine hS0 fun m hm => ?_
      have hfl : fl i = false := by simpa using hnm.2
      rcases Nat.lt_trichotomy i m with h | h | h
      · exact later m hm h hfl
      · rw [← h]; exact h0'
      · have := List.all_eq_true.1 hnm.1 m (List.mem_range.2 h)
        rw [hm] at this
        cases this)
    have hag : ∀ t, t ∈ p.1.looksAt ops → a.tmps[t]? = (actOf a0 ρ (full.take i)).tmps[t]? := fun t ht =>
      hH.agree hpre t fun j q hq hd => conf j q hq t hd ht
    have hexec : execOp a.eval p.1 = execOp (actOf a0 ρ (full.take i)).eval p.1 := execOp_congr p.1 (fun cs b => hlin.sel i _ cs b ho) fun x hx => by
      cases x with
      | tmp t =>
        have := hag t (List.mem_append_left _ (List.mem_filterMap.2 ⟨.tmp t, by simpa using hx, rfl⟩))
        simp only [Act.eval, Array.getD_eq_getD_getElem?]
        rw [this]
      | _ => rfl
    have hwant : Region.wanted p.1 (yielded ops a.tmps) = Region.wanted p.1 (yielded ops (actOf a0 ρ (full.take i)).tmps) := by
      unfold Region.wanted
      cases hg : p.1.guard with
      | none => rfl
      | some gw =>
        obtain ⟨g, want⟩ := gw
        have : yielded ops a.tmps g = yielded ops (actOf a0 ρ (full.take i)).tmps g := by
          unfold yielded
          cases ht : (ops[g]?).bind (·.dst) with
          | none => rfl
          | some t =>
            have := hag t (List.mem_append_right _ (by simp [hg, ht]))
            simp only [Option.bind_some, this]
        simp only [this]
    have size_eq : (actOf a0 ρ (full.take i)).tmps.size = a.tmps.size := hpre.size.trans hH.size.symm
    -- the way on
    have go : ∀ v w', p.2.rel v w' → S w' → ((∀ m, mk m = true → (listed.setIfInBounds i true).getD m false = false) → S0 w') → (∀ (j : Nat) (q : Oper × Kind E) (F : Fact E) (d : Tmp), listed.getD j false = true → (∀ m, mk m = true → j < m → (listed.setIfInBounds i true).getD m false = false) → full[j]? = some q → q.2 = .fresh F → q.1.dst = some d → F.holds (ρ d) w') →
        wpAny P .any ops Q (fuel + (ops.size - n)) (listed.setIfInBounds i true) (a.put p.1.dst v) w' := by
      intro v w' hR hS' hS0' hF'
      have next : ∀ ρ' : Env, p.2.val ρ' p.1 = v → (∀ j q, j ≠ i → full[j]? = some q → q.2.val ρ' q.1 = q.2.val ρ q.1) → (∀ j q F d, j ≠ i → full[j]? = some q → q.2 = .fresh F → q.1.dst = some d → ρ' d = ρ d) → (∀ F d, p.2 = .fresh F → p.1.dst = some d → F.holds (ρ' d) w') →
          wpAny P .any ops Q (fuel + (ops.size - n)) (listed.setIfInBounds i true) (a.put p.1.dst v) w' := by
        intro ρ' hv hothers hd' hself
        have hset : ∀ j, (listed.setIfInBounds i true).getD j false = true ↔ j = i ∨ listed.getD j false = true := fun j => by
          by_cases hji : j = i
          · subst hji
            simp [Array.getD, hsz, hlt]
          · rw [getD_set_ne false (Ne.symm hji)]
            simp [hji]
        refine ih _ _ _ ρ' (inv.set hi hilt) ⟨todo.filter (· != i), ?_, fun j hj hjl => ?_⟩ ?_ hS' hS0' (fun j q F d hj hjm hq hf hd => ?_)
        · have : (todo.filter (· != i)).length < todo.length := by
            rw [List.length_filter_lt_length_iff_exists]
            exact ⟨i, hin i hilt h0', by simp⟩
          omega
        · have hne : j ≠ i := fun e => by
            have := (hset j).2 (.inl e)
            rw [this] at hjl
            cases hjl
          refine List.mem_filter.2 ⟨hin j hj ?_, by simpa using hne⟩
          rwa [getD_set_ne false (Ne.symm hne)] at hjl
        · have := hH.put (ρ' := ρ') hpi hset (fun j q hj hq d hd => hdist2 j i q p d (fun e => by rw [e, h0'] at hj; cases hj) hq hpi hd) (fun j q hj hq => hothers j q (fun e => by rw [e, h0'] at hj; cases hj) hq)
          rwa [hv] at this
        · rcases (hset j).1 hj with rfl | hj
          · rw [hpi] at hq
            injection hq with hq
            subst hq
            exact hself F d hf hd
          · have hne : j ≠ i := fun e => by rw [e, h0'] at hj; cases hj
            rw [hd' j q F d hne hq hf hd]
            exact hF' j q F d hj hjm hq hf hd
      cases hk : p.2 with
      | fixed v0 =>
        have hv : v = v0 := by rw [hk] at hR; exact hR
        exact next ρ (by rw [hk]; exact hv.symm) (fun _ _ _ _ => rfl) (fun _ _ _ _ _ _ _ _ => rfl) (fun F d hf => by rw [hk] at hf; cases hf)
      | fresh F =>
        obtain ⟨d, hd⟩ := hp.dst p (by rw [hsplit]; simp) ⟨F, hk⟩
        have hR' : F.holds v w' := by rw [hk] at hR; exact hR
        have hne : ∀ j q d', j ≠ i → full[j]? = some q → q.1.dst = some d' → d' ≠ d := fun j q d' hji hq hd' e => hdist2 j i q p d' hji hq hpi hd' (by rw [hd, e])
        refine next (fun t => if t = d then v else ρ t) (by rw [hk]; simp [Kind.val, hd]) (fun j q hji hq => ?_) (fun j q F' d' hji hq _ hd' => if_neg (hne j q d' hji hq hd')) (fun F' d' hf hd' => ?_)
        · cases hkq : q.2 with
          | fixed v0 => rfl
          | fresh F' =>
            obtain ⟨d', hd'⟩ := hp.dst q (List.mem_of_getElem? hq) ⟨F', hkq⟩
            simp only [Kind.val, hd']
            exact if_neg (hne j q d' hji hq hd')
        · rw [hk] at hf
          injection hf with hf
          rw [hd] at hd'
          injection hd' with hd'
          subst hf hd'
          simpa using hR'
    have hset' : ∀ j, (listed.setIfInBounds i true).getD j false = false → listed.getD j false = false := fun j hj => by
      by_cases hji : j = i
      · rw [hji]; exact h0'
      · rwa [getD_set_ne false (Ne.symm hji)] at hj
    have hlen_i : (full.take i).length = i := by rw [List.length_take]; omega
    have hseti : (listed.setIfInBounds i true).getD i false = true := by simp [Array.getD, hsz, hlt]
    rw [hlen_i] at hst
    unfold wpOp
    simp only [ho]
    unfold StepTo at hst
    rw [← hwant] at hst
    split
    · rename_i hw
      rw [if_pos hw] at hst
      refine .inl (wp_carry (R := fun v w' => p.2.rel v w' ∧ S w' ∧ (cond (mk i) (fun _ _ => True) E) w w') hexec size_eq (hst _ fun v w' h1 h2 h3 => ⟨v, rfl, h1, h2, h3⟩) fun v w' ⟨h1, h2, h3⟩ => go v w' h1 h2 (fun hno => ?_) fun j q F d hj hjm hq hf hd => ?_)
      · rcases hmi : mk i with _ | _
        · rw [hmi] at h3
          exact hE0 _ _ (hS0 fun m hm => hset' m (hno m hm)) h3
        · have := hno i hmi
          rw [hseti] at this
          cases this
      rcases hmi : mk i with _ | _
      · rw [hmi] at h3
        exact F.keep _ _ _ (hF j q F d hj (fun m hm h => hset' m (hjm m hm h)) hq hf hd) h3
      · exfalso
        rcases Nat.lt_trichotomy j i with h | h | h
        · have := hjm i hmi h
          rw [hseti] at this
          cases this
        · rw [h, h0'] at hj; cases hj
        · have := reach_closed hdown' 6 j i (hmk.after i j hmi h (by have := (List.getElem?_eq_some_iff.1 hq).1; omega) (hp.flt j q hq ⟨F, hf⟩)) hj
          rw [h0'] at this
          cases this
    · rename_i hw
      rw [if_neg hw] at hst
      exact go undef w hst hS (fun hno => hS0 fun m hm => hset' m (hno m hm)) fun j q F d hj hjm hq hf hd => hF j q F d hj (fun m hm h => hset' m (hjm m hm h)) hq hf hd

/-- the same, that nothing looks into -/
structure WalkN (P : Program) (ops : Array Oper) (S S0 : World → Prop) (E : World → World → Prop) (mk fl : Nat → Bool) (Z : (Env → Act) → List (Tmp × Fact E) → Prop) (k : Nat) (l : List Oper) (A : Env → Act) (Fs : List (Tmp × Fact E)) : Prop where
  out : SettleN P ops S S0 E mk fl Z k l A Fs

/-- THE RULE, with marks and a tail of n operations ahead of it -/
theorem wp_walk_mt {id : Nat} {a : Act} {w : World} {l : List Oper} (n : Nat) (mk fl : Nat → Bool) (ms : List Nat) (hms : ∀ m, mk m = true → m ∈ ms) (hm : P.follows .mixedOrders = true) (hB : tailB l.toArray n = true) (hmk : markNB l.toArray n mk fl ms = true) (E : World → World → Prop) (S S0 : World → Prop) (hS : S w.drew) (hS0 : S0 w.drew) (hE0 : ∀ w w', S0 w → E w w' → S0 w')
    (h : WalkN P l.toArray S S0 E mk fl (fun A Fs => ∀ ρ w', S w' → (∀ t F, (t, F) ∈ Fs → F.holds (ρ t) w') → wpList P l.toArray Q (l.drop n) (A ρ) w') 0 (l.take n) (fun _ => a) []) : (Code.region id l.toArray true).wp P Q a w := by
  simp only [tailB, Bool.and_eq_true, decide_eq_true_eq] at hB
  obtain ⟨⟨⟨⟨hn, hlin⟩, hs⟩, hc⟩, hq⟩ := hB
  obtain ⟨full, hp, he, hZ⟩ := settleN_plan (l.take n) [] ⟨(fun _ h => by cases h), (fun j p h => by simp at h), (fun pre p post he => by simp at he)⟩ h.out
  have inv0 : HeadInv .any l.toArray n (Array.replicate l.toArray.size false) :=
    ⟨by simp, fun j oj _ hl => (by rw [getD_replicate_false] at hl; cases hl), fun t _ ht => getD_in (by simpa using ht) (getD_replicate_false _ _)⟩
  have := any_order_mt (P := P) (Q := Q) hn (by simpa using he) (linearN_of hlin) hs hc (fun listed hsz h1 h2 => by
    have hn' := hn
    rw [show listed = (Array.replicate n true) ++ (Array.replicate (l.toArray.size - n) false) from getD_ext (by simp only [Array.size_append, Array.size_replicate]; omega) fun i => by
      rw [Array.getD_eq_getD_getElem? (xs := _ ++ _), Array.getElem?_append]
      rcases Nat.lt_or_ge i n with h | h
      · rw [h1 i h]
        simp [h]
      · rw [h2 i h]
        simp only [Array.size_replicate, Nat.not_lt.2 h, if_false, Array.getElem?_replicate]
        split <;> rfl]
    exact hq) (markedN_of hms hmk) hp hE0 hZ n _ a w.drew (fun _ => undef) inv0 ⟨List.range n, by simp, fun i hi _ => List.mem_range.2 hi⟩ ⟨rfl, rfl, fun _ _ => rfl, fun i p t hi => ?_⟩ hS (fun _ => hS0) fun i p F d hi => ?_
  · refine wp_region_any hm ?_
    rwa [show n + (l.toArray.size - n) = l.toArray.size by omega] at this
  · exfalso; rw [getD_replicate_false] at hi; cases hi
  · exfalso; rw [getD_replicate_false] at hi; cases hi
variable {Z : (Env → Act) → List (Tmp × Fact E) → Prop} {o : Oper} {rest : List Oper} {A : Env → Act} {Fs : List (Tmp × Fact E)} {k : Nat}
theorem nsettle_nil (h : Z A Fs) : WalkN P ops S S0 E mk fl Z k [] A Fs := ⟨h⟩
theorem nsettle_skip (hmk : mk k = false) (hw : ∀ ρ, Region.wanted o (yielded ops (A ρ).tmps) = false) (h : WalkN P ops S S0 E mk fl Z (k + 1) rest (fun ρ => (A ρ).put o.dst undef) Fs) : WalkN P ops S S0 E mk fl Z k (o :: rest) A Fs :=
  ⟨.inl ⟨undef, fun ρ w _ _ _ => by unfold StepTo; rw [if_neg (by rw [hw]; simp)], by rw [hmk]; exact h.out⟩⟩
theorem nsettle_run {v : Value} (hmk : mk k = false) (hE : ∀ w, S w → E w w) (hw : ∀ ρ, Region.wanted o (yielded ops (A ρ).tmps) = true)
    (hr : ∀ ρ w, S w → FactsOK (o.looksAt ops) ρ w (cond (fl k) [] Fs) → Pre mk fl S0 k w → (execOp (A ρ).eval o).run P w = .ok (.value v) w) (h : WalkN P ops S S0 E mk fl Z (k + 1) rest (fun ρ => (A ρ).put o.dst v) Fs) : WalkN P ops S S0 E mk fl Z k (o :: rest) A Fs :=
  ⟨.inl ⟨v, fun ρ w hS hF hP => by
    unfold StepTo
    rw [if_pos (hw ρ), hmk]
    intro K hK
    unfold Oper.wp
    rw [hr ρ w hS hF hP]
    exact hK v w rfl hS (hE w hS), by rw [hmk]; exact h.out⟩⟩
theorem nsettle_step {v : Value} (hmk : mk k = false) (hw : ∀ ρ, Region.wanted o (yielded ops (A ρ).tmps) = true)
    (hc : ∀ ρ w, S w → FactsOK (o.looksAt ops) ρ w (cond (fl k) [] Fs) → Pre mk fl S0 k w → ∀ K : Act → World → Prop, (∀ w', S w' → E w w' → K ((A ρ).put o.dst v) w') → o.wp P (A ρ) w K (fun _ _ _ => False)) (h : WalkN P ops S S0 E mk fl Z (k + 1) rest (fun ρ => (A ρ).put o.dst v) Fs) : WalkN P ops S S0 E mk fl Z k (o :: rest) A Fs :=
  ⟨.inl ⟨v, fun ρ w hS hF hP => by
    unfold StepTo
    rw [if_pos (hw ρ), hmk]
    exact fun K hK => hc ρ w hS hF hP K fun w' h1 h2 => hK v w' rfl h1 h2, by rw [hmk]; exact h.out⟩⟩
theorem nsettle_known {d : Tmp} (F : Fact E) (hmk : mk k = false) (hfl : fl k = false) (hd : o.dst = some d) (hw : ∀ ρ, Region.wanted o (yielded ops (A ρ).tmps) = true)
    (hc : ∀ ρ w, S w → FactsOK (o.looksAt ops) ρ w (cond (fl k) [] Fs) → Pre mk fl S0 k w → ∀ K : Act → World → Prop, (∀ v w', F.holds v w' → S w' → E w w' → K ((A ρ).put o.dst v) w') → o.wp P (A ρ) w K (fun _ _ _ => False)) (h : WalkN P ops S S0 E mk fl Z (k + 1) rest (fun ρ => (A ρ).put (some d) (ρ d)) ((d, F) :: Fs)) : WalkN P ops S S0 E mk fl Z k (o :: rest) A Fs :=
  ⟨.inr ⟨d, F, hd, hfl, fun ρ w hS hF hP => by
    unfold StepTo
    rw [if_pos (hw ρ), hmk]
    exact fun K hK => hc ρ w hS hF hP K hK, by rw [hmk]; exact h.out⟩⟩
/-- a mark: what was known is forgotten -/
theorem nsettle_mark {d : Tmp} (F : Fact E) (hmk : mk k = true) (hfl : fl k = false) (hd : o.dst = some d) (hw : ∀ ρ, Region.wanted o (yielded ops (A ρ).tmps) = true)
    (hc : ∀ ρ w, S w → FactsOK (o.looksAt ops) ρ w (cond (fl k) [] Fs) → Pre mk fl S0 k w → ∀ K : Act → World → Prop, (∀ v w', F.holds v w' → S w' → K ((A ρ).put o.dst v) w') → o.wp P (A ρ) w K (fun _ _ _ => False)) (h : WalkN P ops S S0 E mk fl Z (k + 1) rest (fun ρ => (A ρ).put (some d) (ρ d)) [(d, F)]) : WalkN P ops S S0 E mk fl Z k (o :: rest) A Fs :=
  ⟨.inr ⟨d, F, hd, hfl, fun ρ w hS hF hP => by
    unfold StepTo
    rw [if_pos (hw ρ), hmk]
    exact fun K hK => hc ρ w hS hF hP K fun v w' h1 h2 => hK v w' h1 h2 trivial, by rw [hmk]; exact h.out⟩⟩
end
end Go.Proofs.YtkjmddgnfgbioaaDoor


namespace Go.Proofs.YtkjmddgnfgbioaaDoor
set_option linter.unusedVariables false
set_option linter.unusedSimpArgs false
set_option maxRecDepth 100000
open Go Go.RowKit

theorem keeps_below {w w' : World} (h : Below w.heap.size w w') : Keeps (fun _ => False) w w' := Keeps.of_below h _
def FSl (sz n : Nat) (vs : List Value) : Fact (fun w w' => Below w.heap.size w w') := ⟨fun v w => SlV w sz v n vs, fun _ _ _ h k => h.below k⟩
/-- 'append(v, vs...)' as one operation -/
theorem oper_append {P : Program} {w : World} {o : Oper} {a : Act} {K : Act → World → Prop} {Q : Exit → Act → World → Prop} (s x : Operand)
    (base t e : TypeId) (z : Value) (size bytes : Nat) (ht : P.underlying t = some (.slice e)) (hinfo : (P.info? e).map (fun i => (i.zero, i.size, i.bytes)) = some (some z, size, bytes)) (hz : z.cells.size = size) (hsz : 0 < size)
    {v : Value} {n : Nat} {xs : List Value} (hown : w.ownsRow base e size v n xs) {vs : Value} {m : Nat} {news : List Value} (hsl : SlV w size vs m news) (h1 : ∀ u ∈ news, u.oneCell' = true)
    (h63 : n + m ≤ maxLen) (hbytes : (n + m) * bytes ≤ 140737488355328) (hbase : base ≤ w.heap.size) (ho : o.op = .call { callee := .builtin .append, args := #[s, x], argTypes := #[t, t] }) (hs : a.eval s = v) (hx : a.eval x = vs)
    (h : ∀ v' w', w'.ownsRow base e size v' (n + m) (xs ++ news) → w.grownBy w' v.ownBlock → (v'.ownBlock = v.ownBlock ∨ v'.ownBlock = some w.heap.size) → Below base w w' → K (a.put o.dst v') w') : o.wp P a w K Q := by
  obtain ⟨A, c, rfl, hle, hm, hlen, hc⟩ := hsl
  obtain ⟨v', w', hrun, h2, h3, h4⟩ := run_append (P := P) w base t o.type e z size bytes ht hinfo hz hsz v n xs hown w.heap.size A m c news hlen hc h1 h63 hbytes hbase
  unfold Oper.wp execOp
  simp only [ho, resolve, invoke, builtin, Sem.run_bind, Sem.run_pure, Result.andThen_ok, List.map_toArray, List.map_cons, List.map_nil, hs, hx, hrun]
  exact h v' w' h2 h3 h4 ((Below.refl _ _).grown h3 hbase (own_ge hown))

/-- a row of the call's own, that stays as it is -/
def FRow (B : Nat) (e : TypeId) (sz n : Nat) (vs : List Value) : Fact (fun w w' => Below w.heap.size w w') := ⟨fun v w => w.ownsRow B e sz v n vs, fun _ _ _ h k => own_keeps h (keeps_below k) (fun _ _ => id)⟩

/-- the first k elements -/
theorem SlV.takeV {w : World} {sz n c : Nat} {A : Option Addr} {vs : List Value} (h : SlV w sz (.slice A n c) n vs) (k : Nat) (hk : k ≤ n) : SlV w sz (.slice A k c) k (vs.take (k * sz)) := by
  obtain ⟨A', c', he, h1, h2, h3, h4⟩ := h
  injection he with e1 e2 e3
  subst e1 e3
  have := Nat.mul_le_mul_right sz hk
  exact ⟨A, c, rfl, by omega, h2, by rw [List.length_take, h3]; omega, h4.take _⟩
end Go.Proofs.YtkjmddgnfgbioaaDoor


namespace Go.Proofs.YtkjmddgnfgbioaaDoor
set_option linter.unusedVariables false
set_option linter.unusedSimpArgs false
set_option maxRecDepth 100000
open Go.RowKit

def edc (e : Gr.Ed) : List Value := [.int .i64 (e.1 : Int), .int .i64 (e.2 : Int)]
def edcs (l : List Gr.Ed) : List Value := l.flatMap edc
theorem info_sint : (Tryd.prog.info? 29).map (fun i => (i.zero, i.size, i.bytes)) = some (some (.slice none 0 0), 1, 24) := by kernel_rfl
theorem ilist_length (l : List Nat) : (ilist l).length = l.length := by simp [ilist, ints_length]

def irw (v : Value) (l : List Nat) : Rw := ⟨3, 1, v, l.length, ilist l⟩
def wrw (v : Value) (ws : List Int) : Rw := ⟨3, 1, v, ws.length, ints .i64 ws⟩
/-- how many each one waits for; what each one leads to -/
def tkR (wv : Value) (ws : List Int) (vs : List Value) (L : List (List Nat)) : List Rw := wrw wv ws :: List.zipWith irw vs L
theorem zip_set {α β γ : Type} (f : α → β → γ) : ∀ (l : List α) (m : List β) (i : Nat) (a : α) (b : β), (List.zipWith f l m).set i (f a b) = List.zipWith f (l.set i a) (m.set i b)
  | [], _, _, _, _ => rfl
  | _ :: _, [], i, _, _ => by cases i <;> rfl
  | x :: l, y :: m, 0, _, _ => rfl
  | x :: l, y :: m, i + 1, a, b => by simp [zip_set f l m i a b]
theorem tkR_w (wv : Value) (ws ws' : List Int) (vs : List Value) (L : List (List Nat)) : (tkR wv ws vs L).set 0 (wrw wv ws') = tkR wv ws' vs L := rfl
theorem tkR_i (wv : Value) (ws : List Int) (vs : List Value) (L : List (List Nat)) (i : Nat) (v : Value) (l : List Nat) : (tkR wv ws vs L).set (i + 1) (irw v l) = tkR wv ws (vs.set i v) (L.set i l) := by
  unfold tkR
  rw [List.set_cons_succ, zip_set]
theorem tkR_get (wv : Value) (ws : List Int) (vs : List Value) (L : List (List Nat)) (i : Nat) (v : Value) (l : List Nat) (hv : vs[i]? = some v) (hl : L[i]? = some l) : (tkR wv ws vs L)[i + 1]? = some (irw v l) := by
  unfold tkR
  rw [List.getElem?_cons_succ, List.getElem?_zipWith, hv, hl]
/-- both are made -/
theorem tk_start {B q r : Nat} {w1 w2 : World} {N : Nat} (h1 : w1.ownsRow B 3 1 (.slice (some ⟨q, 0, none⟩) N N) N (List.replicate N (.int .i64 0))) (hb : Below w1.heap.size w1 w2) (hr : r = w1.heap.size) (h2 : Blk w2 r 29 (List.replicate N (.slice none 0 0))) (hB : B ≤ w1.heap.size) :
    Own B w2 r 29 (List.replicate N (.slice none 0 0)) (tkR (.slice (some ⟨q, 0, none⟩) N N) (Gr.wl N []) (List.replicate N (.slice none 0 0)) (Gr.nl N [])) := by
  have hw : Gr.wl N [] = List.replicate N 0 := by
    apply List.ext_getElem
    · simp [Gr.wl]
    · intro i h h'; simp [Gr.wl, Gr.wt]
  have hn : Gr.nl N [] = List.replicate N [] := by
    apply List.ext_getElem
    · simp [Gr.nl]
    · intro i h h'; simp [Gr.nl, Gr.next]
  have hz : List.zipWith irw (List.replicate N (.slice none 0 0)) (List.replicate N []) = List.replicate N (irw (.slice none 0 0) []) := by simp
  have hq := h1.lt q rfl
  unfold tkR
  rw [hw, hn, hz]
  refine ⟨h2, fun s hs => ?_, fun i j s t hi hj hij => ?_, fun s hs => ?_, Nat.le_trans hB hb.size, by omega⟩
  · rcases List.mem_cons.1 hs with rfl | hs
    · have := own_keeps h1 (Keeps.of_below hb (fun _ => False)) (fun _ _ => id)
      show w2.ownsRow _ _ _ _ _ _
      simpa [wrw, ints] using this
    · rw [(List.mem_replicate.1 hs).2]
      exact World.ownsRow_nil _ _ _ _
  · intro k hk hk'
    cases i with
    | zero =>
      cases j with
      | zero => exact hij rfl
      | succ j =>
        rw [List.getElem?_cons_succ, List.getElem?_replicate] at hj
        split at hj
        · injection hj with hj; subst hj; simp [irw, Value.ownBlock] at hk'
        · cases hj
    | succ i =>
      rw [List.getElem?_cons_succ, List.getElem?_replicate] at hi
      split at hi
      · injection hi with hi; subst hi; simp [irw, Value.ownBlock] at hk
      · cases hi
  · rcases List.mem_cons.1 hs with rfl | hs
    · intro e
      have : q = r := by simpa [wrw, Value.ownBlock] using e
      omega
    · rw [(List.mem_replicate.1 hs).2]
      simp [irw, Value.ownBlock]

theorem own_cell {w : World} {B g n c : Nat} {e : TypeId} {xs : List Value} (h : w.ownsRow B e 1 (.slice (some ⟨g, 0, none⟩) n c) n xs) {j : Nat} {u : Value} (hj : xs[j]? = some u) : w.cell? ⟨g, j, none⟩ = some u := by
  obtain ⟨cs, hB, -, ht, -⟩ := row_blk h
  rw [hB.cell]
  rw [← ht, List.getElem?_take] at hj
  split at hj
  · exact hj
  · cases hj
theorem row_set {w : World} {B g n c : Nat} {e : TypeId} {xs : List Value} (h : w.ownsRow B e 1 (.slice (some ⟨g, 0, none⟩) n c) n xs) (i : Nat) (u : Value) : (w.setCell ⟨g, i, none⟩ u).ownsRow B e 1 (.slice (some ⟨g, 0, none⟩) n c) n (xs.set i u) := by
  obtain ⟨cs, hB, hl, ht, hn, hm, hb⟩ := row_blk h
  have := row_of_blk (size := 1) (c := c) (n := n) (hB.set_ i u) (by simpa using hl) hb hn hm
  rw [List.take_set, ht] at this
  exact this
theorem row_frozen {w : World} {B g n c : Nat} {e : TypeId} {xs : List Value} (h : w.ownsRow B e 1 (.slice (some ⟨g, 0, none⟩) n c) n xs) (i : Nat) : w.frozen? ⟨g, i, none⟩ = false := by
  obtain ⟨cs, hB, -⟩ := row_blk h
  exact hB.frozen i
/-- a slice as long as it may be: its block is known whole -/
theorem row_whole {w : World} {B g n : Nat} {e : TypeId} {xs : List Value} (h : w.ownsRow B e 1 (.slice (some ⟨g, 0, none⟩) n n) n xs) : Blk w g e xs := by
  obtain ⟨cs, hB, hl, ht, -⟩ := row_blk h
  rw [← ht, List.take_of_length_le (by omega)]
  exact hB

theorem SlU.far {S : Nat → Prop} {w w' : World} {v : Value} {xs : List Nat} (h : SlU w v xs) (k : Keeps S w w') (hf : xs ≠ [] → ∀ p, ptr v = some p → ¬ S p.block) : SlU w' v xs := by
  obtain ⟨⟨A, c, rfl, h1, h2, h3, b, o, h4, h5⟩, h6⟩ := h
  refine ⟨⟨A, c, rfl, h1, h2, h3, b, o, fun hn => ⟨(h4 hn).1, Nat.lt_of_lt_of_le (h4 hn).2 k.size⟩, fun j u hu => ?_⟩, h6⟩
  have hn : nats xs ≠ [] := fun e => by rw [e] at hu; simp at hu
  obtain ⟨hA, hb⟩ := h4 hn
  exact (World.cell?_of_block (a := ⟨b, o + j, none⟩) (k.block b hb (hf (fun e => hn (by rw [e]; rfl)) _ (by rw [hA]; rfl)))).trans (h5 j u hu)
/-- a slice of words that lies in none of these blocks -/
def FarU (T : Nat → Prop) (v : Value) (xs : List Nat) : Prop := xs ≠ [] → ∀ p, ptr v = some p → ¬ T p.block
theorem FarU.new {T : Nat → Prop} {B : Nat} {v : Value} {xs : List Nat} (h : New B v) (hT : ∀ k, T k → k < B) : FarU T v xs := fun _ p hp hk => by
  have h1 := hT _ hk
  have h2 := h p hp
  omega
theorem FarU.step {T T' : Nat → Prop} {w : World} {v : Value} {xs : List Nat} (h : FarU T v xs) (hu : SlU w v xs) (hT : ∀ k, T' k → T k ∨ w.heap.size ≤ k) : FarU T' v xs := fun hn p hp hk => by
  obtain ⟨⟨A, c, rfl, h1, h2, h3, b, o, h4, h5⟩, h6⟩ := hu
  obtain ⟨hA, hb⟩ := h4 (fun e => hn (by simpa [nats] using e))
  have hp' : A = some p := hp
  rcases hT _ hk with hk | hk
  · exact h hn p hp hk
  · rw [hp'] at hA
    injection hA with hA
    rw [hA] at hk
    simp at hk
    omega
theorem OwnTo.cons_nil {B g : Nat} {w0 w : World} {T0 : Nat → Prop} {t : TypeId} {cs : List Value} {rs : List Rw} (h : OwnTo B w0 T0 w g t cs rs) : OwnTo B w0 T0 w g t cs (irw (.slice none 0 0) [] :: rs) := by
  refine ⟨⟨h.own.blk, fun r hr => ?_, fun i j r s hi hj hij => ?_, fun r hr => ?_, h.own.base, h.own.lo⟩, h.kp, fun k hk => h.nw k ?_⟩
  · rcases List.mem_cons.1 hr with rfl | hr
    · exact World.ownsRow_nil _ _ _ _
    · exact h.own.rows r hr
  · cases i with
    | zero =>
      injection hi with hi
      subst hi
      intro k hk
      simp [irw, Value.ownBlock] at hk
    | succ i =>
      cases j with
      | zero =>
        injection hj with hj
        subst hj
        intro k hk
        simp [irw, Value.ownBlock]
      | succ j => exact h.own.ap i j r s hi hj (fun e => hij (by rw [e]))
  · rcases List.mem_cons.1 hr with rfl | hr
    · simp [irw, Value.ownBlock]
    · exact h.own.ng r hr
  · rcases hk with rfl | ⟨r, hr, hk⟩
    · exact .inl rfl
    · rcases List.mem_cons.1 hr with rfl | hr
      · simp [irw, Value.ownBlock] at hk
      · exact .inr ⟨r, hr, hk⟩
/-- how many each one waits for, when these are out -/
def wo (N : Nat) (es : List Gr.Ed) (out : List Nat) : List Int := (List.range N).map fun m => ((Gr.wt es out m : Nat) : Int)

set_option maxHeartbeats 4000000 in
theorem take_any (N : Nat) (es : List Gr.Ed) (w : World) (A : Option Addr) (c : Nat) (hN : N ≤ 200) (hes : ∀ e ∈ es, e.1 < N ∧ e.2 < N) (hA : SlV w 2 (.slice A es.length c) es.length (edcs es)) (hle : es.length ≤ 1099511627776) (hT : Tab w) :
    Calls Tryd.prog 85 #[.agg #[.int .i64 (N : Int), .slice A es.length c]] w fun e w' => ∃ u, e = .returned u ∧ w'.ownsRow w.heap.size 3 1 u (Gr.take N es).length (ilist (Gr.take N es)) ∧ Below w.heap.size w w' := by
  have HES := Lib.hid hes
  have x0 := Blk.new w 72 [.int .i64 (N : Int), .slice A es.length c]
  have hb0 : Below w.heap.size w (w.alloc (.cells #[.int .i64 (N : Int), .slice A es.length c] 72)) := below_alloc (Below.refl _ _) _
  clear hes
  go_enter Tryd.func85, Tryd.ntmps85
  have n47 : 8 * N ≤ 281474976710656 := by omega
  have n47' : 24 * N ≤ 281474976710656 := by omega
  have n63 : N ≤ 9223372036854775807 := by omega
  have hz0 : (w.alloc (.cells #[.int .i64 (N : Int), .slice A es.length c] 72)).heap.size = w.heap.size + 1 := by simp
  have c00 : (w.alloc (.cells #[.int .i64 (N : Int), .slice A es.length c] 72)).cell? ⟨w.heap.size, 0, none⟩ = some (.int .i64 (N : Int)) := (x0.cell 0).trans rfl
  have HZ0 := Lib.hid hz0
  clear hz0
  go_wp2_with (first | (at_make; refine wp_make _ 29 3 (.int .i64 0) 8 N Tryd.underlying29 info_int rfl (by omega) (by omega) n47 n63 rfl rfl rfl rfl ?_; intro w1 hown1 hb1 hs1; have x1 := x0.below hb1; have c10 : w1.cell? ⟨w.heap.size, 0, none⟩ = some (.int .i64 (N : Int)) := (x1.cell 0).trans rfl; have c11 : w1.cell? ⟨w.heap.size, 1, none⟩ = some (.slice A es.length c) := (x1.cell 1).trans rfl) | (at_make; refine wp_make _ 146 29 (.slice none 0 0) 24 N Tryd.underlying146 info_sint rfl (by omega) (by omega) n47' n63 rfl rfl rfl rfl ?_; intro w2 hown2 hb2 hs2; have x2 := x1.below hb2; have c20 : w2.cell? ⟨w.heap.size, 0, none⟩ = some (.int .i64 (N : Int)) := (x2.cell 0).trans rfl; have c21 : w2.cell? ⟨w.heap.size, 1, none⟩ = some (.slice A es.length c) := (x2.cell 1).trans rfl) | fail)
  have hO : Own (w.heap.size + 1) w2 (w.heap.size + 1 + 1) 29 (List.replicate N (.slice none 0 0)) (tkR (.slice (some ⟨w.heap.size + 1, 0, none⟩) N N) (Gr.wl N []) (List.replicate N (.slice none 0 0)) (Gr.nl N [])) := by
    have hz := HZ0.out
    rw [hz] at hown1 hs1
    have hw := row_whole hown2
    rw [hs1] at hw
    exact tk_start hown1 hb2 hs1.symm hw (by omega)
  have hb02 : Below w.heap.size w w2 := below_next hb2 (below_next hb1 hb0)
  have hQ2 : w.heap.size + 1 + 1 < w2.heap.size := hO.blk.lt
  obtain ⟨Q, hQ⟩ : ∃ Q, Q = w.heap.size := ⟨_, rfl⟩
  rw [← hQ] at hO hQ2 ⊢
  have HQ := Lib.hid hQ
  clear hown1 hown2 hb1 hb2 hs1 hs2 x0 hb0 n47 n47' n63 c00 c10 c11 c20 c21 x1 HZ0 hQ
  have keepB : ∀ (vs : List Value) (rs : List Rw) (wr : World), OwnTo (Q + 1) w2 (Tw (Q + 1 + 1) (tkR (.slice (some ⟨Q + 1, 0, none⟩) N N) (Gr.wl N []) (List.replicate N (.slice none 0 0)) (Gr.nl N []))) wr (Q + 1 + 1) 29 vs rs → Below w.heap.size w wr := fun _ _ wr h => hb02.trans ((hO.below h.kp).mono (by rw [HQ.out]; omega))
  have HK := Lib.hid keepB
  clear keepB
  go_loopw [23] (fun i wr => ∃ (k : Nat) (vs : List Value), k ≤ es.length ∧ i = .int .i64 (k : Int) ∧ vs.length = N ∧ OwnTo (Q + 1) w2 (Tw (Q + 1 + 1) (tkR (.slice (some ⟨Q + 1, 0, none⟩) N N) (Gr.wl N []) (List.replicate N (.slice none 0 0)) (Gr.nl N []))) wr (Q + 1 + 1) 29 vs (tkR (.slice (some ⟨Q + 1, 0, none⟩) N N) (Gr.wl N (es.take k)) vs (Gr.nl N (es.take k)))) (fun i _ => es.length - (intOf i).toNat)
  case atStart => exact ⟨0, _, Nat.zero_le _, rfl, by simp, OwnTo.start hO⟩
  case round =>
    obtain ⟨k, vs, hk, rfl, hvl, hOk⟩ := hrel
    have hbw := HK.out _ _ wr hOk
    by_cases hlt : k < es.length
    · obtain ⟨⟨a, b⟩, hx⟩ : ∃ x, es[k]? = some x := ⟨_, List.getElem?_eq_getElem hlt⟩
      obtain ⟨ha, hb⟩ := HES.out _ (List.mem_of_getElem? hx)
      have gx := flat_get edc 2 (fun _ => rfl) es k
      have g1 := gx 0 _ hx (by omega)
      have g2 := gx 1 _ hx (by omega)
      obtain ⟨A', c', he, -, -, -, hcc⟩ := hA.below hbw
      injection he with e1 e2 e3
      subst e1 e3
      obtain ⟨g, o, rfl, hgl, hcell⟩ := hcc.at_ (fun e => by rw [show List.flatMap edc es = edcs es from rfl, e] at g1; simp [edc] at g1)
      have d0 : wr.cell? ⟨g, o + k * 2, none⟩ = some (.int .i64 (a : Int)) := (hcell _ _ g1).trans rfl
      have d1 : wr.cell? ⟨g, o + k * 2 + 1, none⟩ = some (.int .i64 (b : Int)) := by rw [Nat.add_assoc]; exact hcell _ _ g2
      have htk := Gr.take_snoc hx
      have hw1 := Gr.wl_one N (es.take k) a b
      have hn1 := Gr.nl_one N (es.take k) a b
      rw [← htk] at hw1 hn1
      obtain ⟨U, hU⟩ : ∃ U, U = Gr.wt (es.take k) [] b := ⟨_, rfl⟩
      rw [← hU] at hw1
      have hUb : U ≤ 1099511627776 := by rw [hU]; exact Nat.le_trans (Gr.wt_le _ _ _) (by rw [List.length_take]; omega)
      have hwl : (Gr.wl N (es.take k)).length = N := by simp [Gr.wl]
      have hTA := hOk.later (below_alloc (Below.refl _ _) (.cells #[.int .i64 (a : Int), .int .i64 (b : Int)] 75))
      have hE := Blk.new wr 75 [.int .i64 (a : Int), .int .i64 (b : Int)]
      have r0 := hTA.own.row 0 rfl
      unfold Rw.at_ wrw at r0
      rw [hwl] at r0
      have c0 := own_cell r0 (j := b) (u := .int .i64 (U : Int)) (by
        show (List.map _ _)[b]? = _
        rw [List.getElem?_map, show (Gr.wl N (es.take k))[b]? = some (U : Int) by rw [hU]; exact Gr.map_get _ _ _ hb]
        rfl)
      obtain ⟨v, hv⟩ : ∃ v, vs[a]? = some v := ⟨_, List.getElem?_eq_getElem (by omega)⟩
      have hnx : (Gr.nl N (es.take k))[a]? = some (Gr.next (es.take k) a) := Gr.map_get _ _ _ ha
      have hnl : (Gr.next (es.take k) a).length ≤ 1099511627776 := by
        have := List.length_filter_le (fun e : Gr.Ed => e.1 == a) (es.take k)
        rw [List.length_take] at this
        unfold Gr.next
        rw [List.length_map]
        omega
      obtain ⟨nx, hnxq⟩ : ∃ nx, nx = Gr.next (es.take k) a := ⟨_, rfl⟩
      rw [← hnxq] at hnx hn1 hnl
      clear hnxq
      have hvne : v.ownBlock ≠ some wr.heap.size := fun e => by
        have := ((hOk.own.row (a + 1) (tkR_get _ _ _ _ a v nx hv hnx)).lt _ e).2
        omega
      have HX := Lib.hid (And.intro hw1 (And.intro hn1 (And.intro hwl (And.intro hv hnx))))
      clear hv hnx
      have HO := Lib.hid hO
      have hlw : Q + 1 + 1 < wr.heap.size := Nat.lt_of_lt_of_le hQ2 hOk.kp.size
      clear hOk htk hw1 hn1 hx gx g1 g2 hcc hcell e2 hA hO hwl hU hbw
      go_upto_region 6 with (fail)
      have hb5 : Below wr.heap.size wr (wr.alloc (.cells #[.int .i64 (a : Int), .int .i64 (b : Int)] 75)) := below_alloc (Below.refl _ _) _
      generalize (wr.alloc (.cells #[.int .i64 (a : Int), .int .i64 (b : Int)] 75)) = W5 at hTA hE r0 c0 hb5 ⊢
      have e0 : W5.cell? ⟨wr.heap.size, 0, none⟩ = some (.int .i64 (a : Int)) := (hE.cell 0).trans rfl
      have e1 : W5.cell? ⟨wr.heap.size, 1, none⟩ = some (.int .i64 (b : Int)) := (hE.cell 1).trans rfl
      clear d0 d1
      have f0 := row_frozen r0 b
      have hr6 := row_set r0 b (.int .i64 ((U : Int) + 1))
      have hg6 := grown_setCell W5 (Q + 1) b (.int .i64 ((U : Int) + 1))
      go_wp2_with fail
      obtain ⟨w6, hw6⟩ : ∃ w6, w6 = W5.setCell ⟨Q + 1, b, none⟩ (.int .i64 ((U : Int) + 1)) := ⟨_, rfl⟩
      rw [← hw6] at hr6 hg6 ⊢
      clear hw6 c0 f0
      have hT6 : OwnTo (Q + 1) w2 (Tw (Q + 1 + 1) (tkR (.slice (some ⟨Q + 1, 0, none⟩) N N) (Gr.wl N []) (List.replicate N (.slice none 0 0)) (Gr.nl N []))) w6 (Q + 1 + 1) 29 vs (tkR (.slice (some ⟨Q + 1, 0, none⟩) N N) (Gr.wl N (es.take (k + 1))) vs (Gr.nl N (es.take k))) := by
        rw [← ints_set, ← HX.out.1] at hr6
        have hl1 : (Gr.wl N (es.take (k + 1))).length = N := by simp [Gr.wl]
        have h1 : W5.grownBy w6 (wrw (.slice (some ⟨Q + 1, 0, none⟩) N N) (Gr.wl N (es.take k))).v.ownBlock := hg6
        have hp := (hTA.own.put (i := 0) rfl (v' := .slice (some ⟨Q + 1, 0, none⟩) N N) (n' := N) hr6 h1 (.inl rfl)).1
        have := hTA.step (hTA.own.put_to (i := 0) rfl (v' := .slice (some ⟨Q + 1, 0, none⟩) N N) (n' := N) hr6 h1 (.inl rfl) hp (World.grownBy.refl w6 _))
        have e : (tkR (.slice (some ⟨Q + 1, 0, none⟩) N N) (Gr.wl N (es.take k)) vs (Gr.nl N (es.take k))).set 0 ⟨3, 1, .slice (some ⟨Q + 1, 0, none⟩) N N, N, ints .i64 (Gr.wl N (es.take (k + 1)))⟩ = tkR (.slice (some ⟨Q + 1, 0, none⟩) N N) (Gr.wl N (es.take (k + 1))) vs (Gr.nl N (es.take k)) := by
          show _ = wrw _ _ :: _
          unfold wrw
          rw [hl1]
          rfl
        exact e ▸ this
      have hE6 := hE.grown hg6 (by intro e; injection e with e; omega)
      clear hTA r0 hr6 hg6 hE e0 e1
      have hget := tkR_get (.slice (some ⟨Q + 1, 0, none⟩) N N) (Gr.wl N (es.take (k + 1))) vs (Gr.nl N (es.take k)) a v nx HX.out.2.2.2.1 HX.out.2.2.2.2
      have rv : w6.ownsRow (Q + 1) 3 1 v nx.length (ilist nx) := hT6.own.row (a + 1) hget
      have hng : v.ownBlock ≠ some (Q + 1 + 1) := hT6.own.ng _ (List.mem_of_getElem? hget)
      obtain ⟨VB, cb, rfl, -, -⟩ := own_slice rv
      have hR : ∀ w', Below w6.heap.size w6 w' → w'.ownsRow (Q + 1) 3 1 (.slice VB nx.length cb) nx.length (ilist nx) ∧ Q + 1 ≤ w'.heap.size := fun w' hb => ⟨(hT6.own.later hb).row (a + 1) hget, (hT6.own.later hb).base⟩
      have keepS : ∀ w', Keeps (fun k => (Value.slice VB nx.length cb).ownBlock = some k) w6 w' → Keeps (fun k => (Value.slice VB nx.length cb).ownBlock = some k) w6 w' ∧ w'.cell? ⟨Q + 1 + 1, a, none⟩ = some (.slice VB nx.length cb) ∧ w'.cell? ⟨wr.heap.size, 0, none⟩ = some (.int .i64 (a : Int)) ∧ w'.cell? ⟨wr.heap.size, 1, none⟩ = some (.int .i64 (b : Int)) := fun w' k =>
        ⟨k, ((hT6.own.blk.keeps k hng).cell a).trans HX.out.2.2.2.1, ((hE6.keeps k hvne).cell 0).trans rfl, ((hE6.keeps k hvne).cell 1).trans rfl⟩
      have hS1 := keepS _ ((Keeps.refl _ w6).drewN 1)
      have hn63 : nx.length + 1 ≤ maxLen := by unfold maxLen; omega
      have hn47 : (nx.length + 1) * 8 ≤ 140737488355328 := by omega
      have HT := Lib.hid (And.intro hT6 hget)
      clear hT6 rv hE6 hget hng hvne
      refine wp_walk_mt 13 (fun i => ([11] : List Nat).contains i) (fun i => ([0,1,2,12] : List Nat).contains i) [11] (by intro m h; simpa using h) (by kernel_rfl) (by kernel_rfl) (by kernel_rfl) (fun w w' => Below w.heap.size w w')  (fun w' => Keeps (fun k => (Value.slice VB nx.length cb).ownBlock = some k) w6 w' ∧ w'.cell? ⟨Q + 1 + 1, a, none⟩ = some (.slice VB nx.length cb) ∧ w'.cell? ⟨wr.heap.size, 0, none⟩ = some (.int .i64 (a : Int)) ∧ w'.cell? ⟨wr.heap.size, 1, none⟩ = some (.int .i64 (b : Int))) (fun w' => Below w6.heap.size w6 w') hS1 (below_drew (Below.refl _ _)) (fun _ _ h h' => below_next h' h) ?_
      simp only [List.length_cons, List.length_nil, Nat.reduceAdd, Nat.reduceSub, List.take_succ_cons, List.take_zero, List.drop_succ_cons, List.drop_zero]
      repeat (first | (refine nsettle_skip (by rfl) (fun _ => by rfl) ?_; (simp only [Act.put, List.setIfInBounds_toArray, List.set_cons_zero, List.set_cons_succ])) | (refine' nsettle_run (by rfl) (fun _ _ => Below.refl _ _) (fun _ => by rfl) ?_ ?_; rotate_left; (focus (intro ρ w hS hF hP; (try dsimp only at hS); go_split_ands; go_simp; try with_reducible rfl)); (simp only [Act.put, List.setIfInBounds_toArray, List.set_cons_zero, List.set_cons_succ])))
      (refine nsettle_known (FSl 1 1 [.int .i64 (b : Int)]) (by rfl) (by rfl) (by rfl) (fun _ => by rfl)  ?_ ?_; (focus (intro ρ w hS hF hP K hK; (simp only [Act.put, List.setIfInBounds_toArray, List.set_cons_zero, List.set_cons_succ] at hK); go_simp; exact hK _ _ (SlV.lit w [.int .i64 (b : Int)] 3 1 1 rfl (by decide)) (keepS _ (hS.1.alloc _)) (below_alloc (Below.refl _ _) _))); (simp only [Act.put, List.setIfInBounds_toArray, List.set_cons_zero, List.set_cons_succ]))
      (refine nsettle_mark (FPush w6 (Q + 1) 3 1 (.slice VB nx.length cb) (nx.length + 1) (ilist nx ++ [.int .i64 (b : Int)])) (by rfl) (by rfl) (by rfl) (fun _ => by rfl) ?_ ?_; (focus (intro ρ w hS hF hP K hK; refine oper_append (.tmp 41) (.tmp 44) (Q + 1) _ _ _ _ _ Tryd.underlying29 info_int rfl (by decide) (hR w (hP (by rfl))).1 (hF.1 (by rfl)) (by simp [Value.oneCell']) hn63 hn47 (hR w (hP (by rfl))).2 rfl rfl rfl ?_; intro v' w' hown hg hv _; exact hK v' w' ⟨w, hP (by rfl), hg, hown, hv.imp id fun e => ⟨_, Nat.le_refl _, e⟩⟩ (keepS _ (hS.1.trans ((Keeps.of_grown hg).mono fun i hi => hi.symm))))); (simp only [Act.put, List.setIfInBounds_toArray, List.set_cons_zero, List.set_cons_succ]))
      repeat (first | (refine nsettle_skip (by rfl) (fun _ => by rfl) ?_; (simp only [Act.put, List.setIfInBounds_toArray, List.set_cons_zero, List.set_cons_succ])) | (refine' nsettle_run (by rfl) (fun _ _ => Below.refl _ _) (fun _ => by rfl) ?_ ?_; rotate_left; (focus (intro ρ w hS hF hP; (try dsimp only at hS); go_split_ands; go_simp; try with_reducible rfl)); (simp only [Act.put, List.setIfInBounds_toArray, List.set_cons_zero, List.set_cons_succ])))
      refine nsettle_nil ?_
      intro ρ w7 hS hF
      obtain ⟨wa, ha1, ha2, ha3, ha4⟩ := hF 45 (FPush w6 (Q + 1) 3 1 (.slice VB nx.length cb) (nx.length + 1) (ilist nx ++ [.int .i64 (b : Int)])) (by repeat (first | exact List.mem_cons_self | apply List.mem_cons_of_mem))
      clear hF hS hS1 keepS hR
      dsimp only
      generalize ρ 44 = v44
      generalize ρ 45 = v4 at ha3 ha4 ⊢
      have hx4 : wa.grownBy w7 (irw (.slice VB nx.length cb) nx).v.ownBlock := ha2
      have ho4 : w7.ownsRow (Q + 1) 3 1 v4 (nx ++ [b]).length (ilist (nx ++ [b])) := by simpa [ilist, ints] using ha3
      have hB4 := ((HT.out.1.own.later ha1).put (i := a + 1) HT.out.2 ho4 hx4 ha4).1
      have hend : ∀ w8, Blk w8 (Q + 1 + 1) 29 (vs.set a v4) → w7.grownBy w8 (some (Q + 1 + 1)) → OwnTo (Q + 1) w2 (Tw (Q + 1 + 1) (tkR (.slice (some ⟨Q + 1, 0, none⟩) N N) (Gr.wl N []) (List.replicate N (.slice none 0 0)) (Gr.nl N []))) w8 (Q + 1 + 1) 29 (vs.set a v4) (tkR (.slice (some ⟨Q + 1, 0, none⟩) N N) (Gr.wl N (es.take (k + 1))) (vs.set a v4) (Gr.nl N (es.take (k + 1)))) := fun w8 b8 g8 => by
        have := (HT.out.1.later ha1).step ((HT.out.1.own.later ha1).put_to (i := a + 1) HT.out.2 ho4 hx4 ha4 b8 g8)
        have e := tkR_i (.slice (some ⟨Q + 1, 0, none⟩) N N) (Gr.wl N (es.take (k + 1))) vs (Gr.nl N (es.take k)) a v4 (nx ++ [b])
        rw [← HX.out.2.1] at e
        exact e ▸ this
      obtain ⟨V4, c4, rfl, -, -⟩ := own_slice ha3
      clear ha1 ha2 ha3 ha4 hx4 ho4
      have hva : a < vs.length := by omega
      refine wpl_set_blk hB4 a _ (by kernel_rfl) hva rfl rfl rfl rfl rfl rfl ?_
      intro w8 hB8 hg8
      have T8 := hend w8 hB8 hg8
      have HT8 := Lib.hid T8
      clear hB4 hB8 hg8 hend T8 HT
      go_wp2_with fail
      go_roundw
      case rel => exact ⟨k + 1, _, by omega, by go_num, by simpa using hvl, HT8.out⟩
      case measure => simp [intOf]; omega
    · obtain rfl : k = es.length := by omega
      rw [List.take_length] at hOk
      clear hA
      go_wp2_with fail
      obtain ⟨wz, rfl⟩ : ∃ wz : World, wz = wr := ⟨_, rfl⟩
      have hwl : (Gr.wl N es).length = N := by simp [Gr.wl]
      have r0 := hOk.own.row 0 rfl
      unfold Rw.at_ wrw at r0
      rw [hwl] at r0
      have hcz : ∀ m, m < N → ∀ w', Below wz.heap.size wz w' → w'.cell? ⟨Q + 1, m, none⟩ = some (.int .i64 ((Gr.wt es [] m : Nat) : Int)) := fun m hm w' hb => by
        have c0 := own_cell r0 (j := m) (u := .int .i64 ((Gr.wt es [] m : Nat) : Int)) (by
          show (List.map _ _)[m]? = _
          rw [List.getElem?_map, show (Gr.wl N es)[m]? = some ((Gr.wt es [] m : Nat) : Int) from Gr.map_get _ _ _ hm]
          rfl)
        exact (hb.cell (p := ⟨Q + 1, m, none⟩) (r0.lt _ rfl).2).trans c0
      have HR := Lib.hid (And.intro r0 hwl)
      clear r0 hwl
      go_loopw [8, 50] (fun u i wr => ∃ (k : Nat) (s : List Nat), k ≤ N ∧ i = .int .i64 (k : Int) ∧ SlU wr u s ∧ New wz.heap.size u ∧ Gr.R0 N es k s ∧ Below wz.heap.size wz wr) (fun _ i _ => N - (intOf i).toNat)
      case atStart => exact ⟨0, [], Nat.zero_le _, rfl, SlU.nil _, New.nil _ _ _, Gr.R0.zero _ _, Below.refl _ _⟩
      case round =>
        obtain ⟨k, s, hk, rfl, hu, hnw, hs, hbz⟩ := hrel
        by_cases hlt : k < N
        · have c0 := hcz k hlt _ hbz
          obtain ⟨U, hU⟩ : ∃ U, U = Gr.wt es [] k := ⟨_, rfl⟩
          rw [← hU] at c0
          have HU := Lib.hid hU
          obtain ⟨A8, c8, rfl⟩ := slU_form hu
          by_cases h0 : U = 0
          · subst h0
            have hadd := put_new wr _ s k hu (by omega) (Nat.le_trans hs.length (by omega))
            have HS := Lib.hid (And.intro (hs.add hlt HU.out.symm) hbz)
            clear hU hu hnw hs hcz hbz
            go_wp2_with fail
            refine hadd.mono ?_
            rintro e w5 ⟨u, rfl, ⟨hu5, hn5⟩, hb5⟩
            obtain ⟨A9, c9, rfl⟩ := slU_form hu5
            have H5 := Lib.hid (And.intro hu5 (And.intro (hn5.mono HS.out.2.size) (below_next hb5 HS.out.2)))
            clear hu5 hn5 hb5 hadd c0
            go_wp2_with fail
            go_roundw
            case rel => exact ⟨k + 1, _, by omega, by go_num, H5.out.1, H5.out.2.1, HS.out.1, H5.out.2.2⟩
            case measure => simp [intOf]; omega
          · have g0 : ((U : Int) == 0) = false := by simp; omega
            have HS := Lib.hid (And.intro (hs.stay (by rw [← HU.out]; exact h0)) (And.intro hu (And.intro hnw hbz)))
            clear hU hu hnw hs hcz hbz h0
            go_wp2_with fail
            go_roundw
            case rel => exact ⟨k + 1, _, by omega, by go_num, HS.out.2.1, HS.out.2.2.1, HS.out.1, HS.out.2.2.2⟩
            case measure => simp [intOf]; omega
        · obtain rfl : N = k := by omega
          have hrs := hs.rs
          have hO3 := hOk.later hbz
          obtain ⟨A8, c8, rfl⟩ := slU_form hu
          clear hcz
          go_wp2_with fail
          have hO4 := hO3.cons_nil
          have hfar : FarU (Tw (Q + 1 + 1) (irw (.slice none 0 0) [] :: tkR (.slice (some ⟨Q + 1, 0, none⟩) N N) (Gr.wl N es) vs (Gr.nl N es))) (.slice A8 s.length c8) s := by
            refine FarU.new hnw fun k hk => ?_
            rcases hk with rfl | ⟨r, hr, hk⟩
            · exact hOk.own.blk.lt
            · rcases List.mem_cons.1 hr with rfl | hr
              · simp [irw, Value.ownBlock] at hk
              · exact hOk.own.lt (.inr ⟨r, hr, hk⟩)
          obtain ⟨wy, rfl⟩ : ∃ wy : World, wy = wr := ⟨_, rfl⟩
          clear hnw hO3 hOk hs
          go_loopw [7, 8] (fun u7 u8 wr => ∃ (out s : List Nat), Gr.Good N es out ∧ Gr.Rs N es out s ∧ SlU wr u8 s ∧ FarU (Tw (Q + 1 + 1) (irw u7 out :: tkR (.slice (some ⟨Q + 1, 0, none⟩) N N) (wo N es out) vs (Gr.nl N es))) u8 s ∧ OwnTo (Q + 1) w2 (Tw (Q + 1 + 1) (tkR (.slice (some ⟨Q + 1, 0, none⟩) N N) (Gr.wl N []) (List.replicate N (.slice none 0 0)) (Gr.nl N []))) wr (Q + 1 + 1) 29 vs (irw u7 out :: tkR (.slice (some ⟨Q + 1, 0, none⟩) N N) (wo N es out) vs (Gr.nl N es)) ∧ Gr.run N es (N - out.length) out = Gr.take N es) (fun u7 _ _ => N - slLen u7)
          case atStart => exact ⟨[], s, Gr.Good.nil N es, hrs, hu, hfar, hO4, rfl⟩
          case round =>
            clear hu hfar hO4 hrs hbz
            obtain ⟨out, s, hgd, hrs, hu, hfar, hOo, hrun⟩ := hrel
            have hbo := HK.out _ _ _ hOo
            obtain ⟨A8, c8, rfl⟩ := slU_form hu
            by_cases h0 : s = []
            · have hnone := hrs.none h0
              rw [Gr.run_end hnone] at hrun
              have ro : wr.ownsRow (Q + 1) 3 1 u7 out.length (ilist out) := hOo.own.row 0 rfl
              subst h0
              obtain ⟨A7, c7, rfl, -, -⟩ := own_slice ro
              have HE := Lib.hid (And.intro ro (And.intro hbo hrun))
              clear ro hbo hrun hgd hrs hu hfar hOo hnone
              go_wp2_with fail
              all_goals go_ret
              all_goals exact ⟨_, rfl, by rw [← HE.out.2.2]; exact own_base HE.out.1 (by have := HQ.out; omega), HE.out.2.1⟩
            · obtain ⟨n, r, hls⟩ : ∃ n r, Bs.ls 0 s = n :: r := by
                cases hl : Bs.ls 0 s with
                | nil => exact absurd (Bs.ls_none hrs.toGs hl) h0
                | cons n r => exact ⟨n, r, rfl⟩
              have hnx := hrs.some hls
              have hlt := (Gr.nxt_some hnx).1
              have hno := (Gr.nxt_some hnx).2.1
              have hgd' := hgd.snoc hnx
              have hol : out.length < N := by have := hgd'.length; simp at this; omega
              have hrun' : Gr.run N es (N - (out ++ [n]).length) (out ++ [n]) = Gr.take N es := by
                rw [← hrun]
                obtain ⟨d, hd⟩ : ∃ d, N - out.length = d + 1 := ⟨N - out.length - 1, by omega⟩
                rw [hd, Gr.run_more hnx]
                congr 1
                simp
                omega
              have hj0 := hrs.without hN hnx
              have hsl : s.length ≤ 200 := Nat.le_trans hrs.length hN
              have hTw : Tab wr := fun j hj => (hbo.cell (p := ⟨0, j, none⟩) hT.lt).trans (hT j hj)
              have hfi := first_any wr _ s hu hTw (by omega)
              rw [hls] at hfi
              have hpos : 0 < s.length := List.length_pos_iff.2 h0
              have ro : wr.ownsRow (Q + 1) 3 1 u7 out.length (ilist out) := hOo.own.row 0 rfl
              obtain ⟨A7, c7, rfl, -, -⟩ := own_slice ro
              have HG := Lib.hid (And.intro hgd' (And.intro hrun' (And.intro hj0 (And.intro hnx (And.intro hno hgd)))))
              have HU := Lib.hid (And.intro hu hfar)
              clear hgd' hrun' hj0 hnx hno hgd hrun hrs hls hu hfar hbo hTw h0 ro
              go_wp2_with fail
              refine hfi.mono ?_
              rintro e w5 ⟨⟨r5, rfl, h5⟩, hb5⟩
              obtain rfl : r5 = (n : Int) := h5
              have hO5 := hOo.later hb5
              have hu5 := HU.out.1.below hb5
              clear hfi hOo
              have ro : w5.ownsRow (Q + 1) 3 1 (.slice A7 out.length c7) out.length (ilist out) := hO5.own.row 0 rfl
              have hn63 : out.length + 1 ≤ maxLen := by unfold maxLen; omega
              have hn47 : (out.length + 1) * 8 ≤ 140737488355328 := by omega
              have hbase := hO5.own.base
              have HO5 := Lib.hid (And.intro hO5 (And.intro hu5 hb5))
              clear hO5 hu5 hb5
              go_wp2_with (first | (at_builtin; refine wp_push w5 _ _ (Q + 1) _ _ _ _ _ Tryd.underlying29 info_int rfl (by decide) ro [.int .i64 (n : Int)] rfl (by simp [Value.oneCell']) hn63 hn47 hbase rfl rfl rfl rfl ?_; intro v6 w6 hown6 hg6 hv6 hb6; obtain ⟨V6, c6, rfl, _, _⟩ := own_slice hown6) | fail)
              have hT6 : OwnTo (Q + 1) w2 (Tw (Q + 1 + 1) (tkR (.slice (some ⟨Q + 1, 0, none⟩) N N) (Gr.wl N []) (List.replicate N (.slice none 0 0)) (Gr.nl N []))) w6 (Q + 1 + 1) 29 vs (irw (.slice V6 (out.length + 1) c6) (out ++ [n]) :: tkR (.slice (some ⟨Q + 1, 0, none⟩) N N) (wo N es out) vs (Gr.nl N es)) ∧ (∀ k, Tw (Q + 1 + 1) (irw (.slice V6 (out.length + 1) c6) (out ++ [n]) :: tkR (.slice (some ⟨Q + 1, 0, none⟩) N N) (wo N es out) vs (Gr.nl N es)) k → Tw (Q + 1 + 1) (irw (.slice A7 out.length c7) out :: tkR (.slice (some ⟨Q + 1, 0, none⟩) N N) (wo N es out) vs (Gr.nl N es)) k ∨ w5.heap.size ≤ k) ∧ SlU w6 (.slice A8 s.length c8) s := by
                have hx : w5.grownBy w6 (irw (.slice A7 out.length c7) out).v.ownBlock := hg6
                have ho : w6.ownsRow (Q + 1) 3 1 (.slice V6 (out.length + 1) c6) (out ++ [n]).length (ilist (out ++ [n])) := by simpa [ilist, ints] using hown6
                have hvv : (Value.slice V6 (out.length + 1) c6).ownBlock = (irw (.slice A7 out.length c7) out).v.ownBlock ∨ ∃ k, w5.heap.size ≤ k ∧ (Value.slice V6 (out.length + 1) c6).ownBlock = some k := hv6.imp id fun e => ⟨_, Nat.le_succ _, e⟩
                have hp := (HO5.out.1.own.put (i := 0) rfl ho hx hvv).1
                have ht := HO5.out.1.own.put_to (i := 0) rfl ho hx hvv hp (World.grownBy.refl w6 _)
                have hf : FarU (Tw (Q + 1 + 1) (irw (.slice A7 out.length c7) out :: tkR (.slice (some ⟨Q + 1, 0, none⟩) N N) (wo N es out) vs (Gr.nl N es))) (.slice A8 s.length c8) s := HU.out.2
                exact ⟨HO5.out.1.step ht, ht.nw, HO5.out.2.1.far ht.kp hf⟩
              have hofc := of_any (w6.alloc (.cells #[.int .i64 (n : Int)] 3)) (.slice (some ⟨w6.heap.size, 0, none⟩) 1 1) [(n : Int)] (SlV.lit w6 [.int .i64 (n : Int)] 3 1 1 rfl (by decide))
              refine hofc.mono ?_
              rintro e w7 ⟨u7, rfl, hu7, hb7⟩
              have hb67 := below_next hb7 (below_alloc (Below.refl w6.heap.size w6) (.cells #[.int .i64 (n : Int)] 3))
              have hle7 := less_new w7 _ _ s (Bs.of_ [(n : Int)]) (hT6.2.2.below hb67) hu7 (by omega) (Nat.le_trans (Bs.of_length _) (by decide))
              obtain ⟨A9, c9, rfl⟩ := slU_form hu7
              have H6 := Lib.hid (And.intro hT6 hb67)
              clear hofc hu7 hb7 hb67 hT6 hown6 hg6 hv6 hb6 hbase ro
              go_wp2_with fail
              refine hle7.mono ?_
              rintro e w8 ⟨u8, rfl, ⟨hu8, hn8⟩, hb8⟩
              have e0 : wo N es out = Gr.wj N es out n 0 := (Gr.wj_zero N es out n).symm
              have hO7 := H6.out.1.1.later H6.out.2
              have hfar8 : FarU (Tw (Q + 1 + 1) (irw (.slice V6 (out.length + 1) c6) (out ++ [n]) :: tkR (.slice (some ⟨Q + 1, 0, none⟩) N N) (wo N es out) vs (Gr.nl N es))) u8 (Bs.op Bs.fless s (Bs.of_ [(n : Int)])) := FarU.new hn8 fun k hk => hO7.own.lt hk
              have hO8 := hO7.later hb8
              rw [e0] at hfar8 hO8
              obtain ⟨nx, hnx⟩ : ∃ nx, nx = Gr.next es n := ⟨_, rfl⟩
              have hnl : (Gr.nl N es)[n]? = some nx := by rw [hnx]; exact Gr.map_get _ _ _ hlt
              obtain ⟨vn, hvn⟩ : ∃ v, vs[n]? = some v := ⟨_, List.getElem?_eq_getElem (by omega)⟩
              have hrw : ∀ (o : Value) (l : List Nat) (ws : List Int), (irw o l :: tkR (.slice (some ⟨Q + 1, 0, none⟩) N N) ws vs (Gr.nl N es))[n + 1 + 1]? = some (irw vn nx) := fun o l ws => tkR_get (.slice (some ⟨Q + 1, 0, none⟩) N N) ws vs (Gr.nl N es) n vn nx hvn hnl
              have rn : w8.ownsRow (Q + 1) 3 1 vn nx.length (ilist nx) := hO8.own.row (n + 1 + 1) (hrw _ _ _)
              have c21 : w8.cell? ⟨Q + 1 + 1, n, none⟩ = some vn := (hO8.own.blk.cell n).trans hvn
              obtain ⟨VB, cb, rfl, -, -⟩ := own_slice rn
              obtain ⟨A10, c10, rfl⟩ := slU_form hu8
              have HN := Lib.hid (And.intro hnx (And.intro hnl (And.intro hvn hrw)))
              have H8 := Lib.hid (And.intro hu8 (And.intro hfar8 hO8))
              have hnxl : nx.length ≤ 1099511627776 := by
                rw [hnx]
                unfold Gr.next
                rw [List.length_map]
                exact Nat.le_trans (List.length_filter_le _ _) hle
              clear hu8 hn8 hb8 hle7 e0 hO7 hfar8 hO8 hnx hnl hvn hrw rn
              go_wp2_with fail
              clear c21
              go_loopw [8, 80] (fun u i wr => ∃ (j : Nat) (s : List Nat), j ≤ nx.length ∧ i = .int .i64 (j : Int) ∧ SlU wr u s ∧ FarU (Tw (Q + 1 + 1) (irw (.slice V6 (out.length + 1) c6) (out ++ [n]) :: tkR (.slice (some ⟨Q + 1, 0, none⟩) N N) (Gr.wj N es out n j) vs (Gr.nl N es))) u s ∧ Gr.Rj N es out n j s ∧ OwnTo (Q + 1) w2 (Tw (Q + 1 + 1) (tkR (.slice (some ⟨Q + 1, 0, none⟩) N N) (Gr.wl N []) (List.replicate N (.slice none 0 0)) (Gr.nl N []))) wr (Q + 1 + 1) 29 vs (irw (.slice V6 (out.length + 1) c6) (out ++ [n]) :: tkR (.slice (some ⟨Q + 1, 0, none⟩) N N) (Gr.wj N es out n j) vs (Gr.nl N es))) (fun _ i _ => nx.length - (intOf i).toNat)
              case atStart => exact ⟨0, _, Nat.zero_le _, rfl, H8.out.1, H8.out.2.1, HG.out.2.2.1, H8.out.2.2⟩
              case round =>
                clear H8
                obtain ⟨j, s, hj, rfl, hu, hfar, hrj, hO9⟩ := hrel
                by_cases hjl : j < nx.length
                · obtain ⟨m, hm⟩ : ∃ m, nx[j]? = some m := ⟨_, List.getElem?_eq_getElem hjl⟩
                  have hm' : (Gr.next es n)[j]? = some m := by rw [← HN.out.1]; exact hm
                  have hmN : m < N := (HES.out _ (Gr.mem_next.1 (List.mem_of_getElem? hm'))).2
                  have rn : wr.ownsRow (Q + 1) 3 1 (.slice VB nx.length cb) nx.length (ilist nx) := hO9.own.row (n + 1 + 1) (HN.out.2.2.2 _ _ _)
                  have gm : (ilist nx)[j]? = some (.int .i64 (m : Int)) := by
                    show (List.map _ (List.map _ _))[j]? = _
                    rw [List.getElem?_map, List.getElem?_map, hm]
                    rfl
                  obtain ⟨gb, go, hVB, hgl, hgc⟩ := (Cells.of_own rn).at_ (fun e => by rw [e] at gm; simp at gm)
                  have c1 := hgc _ _ gm
                  subst hVB
                  have hwl : (Gr.wj N es out n j).length = N := by simp [Gr.wj]
                  have r0 := hO9.own.row 1 rfl
                  unfold Rw.at_ wrw at r0
                  rw [hwl] at r0
                  obtain ⟨X, hX⟩ : ∃ X : Int, X = ((Gr.wt es out m : Nat) : Int) - ((((Gr.next es n).take j).count m : Nat) : Int) := ⟨_, rfl⟩
                  have c0 := own_cell r0 (j := m) (u := .int .i64 X) (by
                    show (List.map _ _)[m]? = _
                    rw [List.getElem?_map, Gr.wj_get hmN, hX]
                    rfl)
                  have hX0 : 0 ≤ X := by
                    have h1 := Gr.count_le HG.out.2.2.2.2.1 es m
                    have h2 : ((Gr.next es n).take j).count m ≤ (Gr.next es n).count m := List.Sublist.count_le m (List.take_sublist _ _)
                    omega
                  have hX1 : X ≤ 1099511627776 := by
                    have := Gr.wt_le es out m
                    omega
                  have f0 := row_frozen r0 m
                  have hr9 := row_set r0 m (.int .i64 (X - 1))
                  have hg9 := grown_setCell wr (Q + 1) m (.int .i64 (X - 1))
                  have H9 := Lib.hid (And.intro hu (And.intro hfar (And.intro hrj (And.intro hO9 (And.intro hX hm')))))
                  have hsl9 : s.length ≤ 200 := Nat.le_trans hrj.length hN
                  obtain ⟨A11, c11, rfl⟩ := slU_form hu
                  clear hu hfar hrj hO9 hX hm hm' gm hgc rn r0 hwl
                  go_upto_region 25 with (fail)
                  obtain ⟨w9, hw9⟩ : ∃ w9, w9 = wr.setCell ⟨Q + 1, m, none⟩ (.int .i64 (X - 1)) := ⟨_, rfl⟩
                  rw [← hw9] at hr9 hg9 ⊢
                  have hws : Gr.wj N es out n (j + 1) = (Gr.wj N es out n j).set m (X - 1) := by rw [Gr.wj_step H9.out.2.2.2.2.2, H9.out.2.2.2.2.1]
                  have c2 := own_cell hr9 (j := m) (u := .int .i64 (X - 1)) (List.getElem?_set_self (by rw [ints_length]; simp [Gr.wj]; exact hmN))
                  have hT9 : OwnTo (Q + 1) w2 (Tw (Q + 1 + 1) (tkR (.slice (some ⟨Q + 1, 0, none⟩) N N) (Gr.wl N []) (List.replicate N (.slice none 0 0)) (Gr.nl N []))) w9 (Q + 1 + 1) 29 vs (irw (.slice V6 (out.length + 1) c6) (out ++ [n]) :: tkR (.slice (some ⟨Q + 1, 0, none⟩) N N) (Gr.wj N es out n (j + 1)) vs (Gr.nl N es)) ∧ SlU w9 (.slice A11 s.length c11) s ∧ FarU (Tw (Q + 1 + 1) (irw (.slice V6 (out.length + 1) c6) (out ++ [n]) :: tkR (.slice (some ⟨Q + 1, 0, none⟩) N N) (Gr.wj N es out n (j + 1)) vs (Gr.nl N es))) (.slice A11 s.length c11) s := by
                    rw [← ints_set, ← hws] at hr9
                    have hl1 : (Gr.wj N es out n (j + 1)).length = N := by simp [Gr.wj]
                    have h1 : wr.grownBy w9 (wrw (.slice (some ⟨Q + 1, 0, none⟩) N N) (Gr.wj N es out n j)).v.ownBlock := hg9
                    have hO := H9.out.2.2.2.1
                    have hp := (hO.own.put (i := 1) rfl (v' := .slice (some ⟨Q + 1, 0, none⟩) N N) (n' := N) hr9 h1 (.inl rfl)).1
                    have ht := hO.own.put_to (i := 1) rfl (v' := .slice (some ⟨Q + 1, 0, none⟩) N N) (n' := N) hr9 h1 (.inl rfl) hp (World.grownBy.refl w9 _)
                    have e : (irw (.slice V6 (out.length + 1) c6) (out ++ [n]) :: tkR (.slice (some ⟨Q + 1, 0, none⟩) N N) (Gr.wj N es out n j) vs (Gr.nl N es)).set 1 ⟨3, 1, .slice (some ⟨Q + 1, 0, none⟩) N N, N, ints .i64 (Gr.wj N es out n (j + 1))⟩ = (irw (.slice V6 (out.length + 1) c6) (out ++ [n]) :: tkR (.slice (some ⟨Q + 1, 0, none⟩) N N) (Gr.wj N es out n (j + 1)) vs (Gr.nl N es)) := by
                      show _ = irw _ _ :: wrw _ _ :: _
                      unfold wrw
                      rw [hl1]
                      rfl
                    have ht' : OwnTo (Q + 1) wr (Tw (Q + 1 + 1) (irw (.slice V6 (out.length + 1) c6) (out ++ [n]) :: tkR (.slice (some ⟨Q + 1, 0, none⟩) N N) (Gr.wj N es out n j) vs (Gr.nl N es))) w9 (Q + 1 + 1) 29 vs (irw (.slice V6 (out.length + 1) c6) (out ++ [n]) :: tkR (.slice (some ⟨Q + 1, 0, none⟩) N N) (Gr.wj N es out n (j + 1)) vs (Gr.nl N es)) := e ▸ ht
                    exact ⟨hO.step ht', H9.out.1.far ht'.kp H9.out.2.1, H9.out.2.1.step H9.out.1 ht'.nw⟩
                  clear hr9 hg9 hw9 c0 c1 f0 hws
                  generalize hY : X - 1 = Y at c2 ⊢
                  have HY := Lib.hid hY
                  have HT9 := Lib.hid hT9
                  clear hY hX0 hX1 hT9
                  by_cases hy : Y = 0
                  · subst hy
                    have hadd := put_new w9 _ s m HT9.out.2.1 (by omega) (by omega)
                    go_wp2_with fail
                    refine hadd.mono ?_
                    rintro e w10 ⟨u10, rfl, ⟨hu10, hn10⟩, hb10⟩
                    have hrj' := H9.out.2.2.1.add HG.out.2.2.2.2.2 (fun e he => (HES.out e he).2) HG.out.2.2.2.1 H9.out.2.2.2.2.2 (by have := H9.out.2.2.2.2.1; have := HY.out; omega)
                    have hO10 := HT9.out.1.later hb10
                    have hf10 : FarU (Tw (Q + 1 + 1) (irw (.slice V6 (out.length + 1) c6) (out ++ [n]) :: tkR (.slice (some ⟨Q + 1, 0, none⟩) N N) (Gr.wj N es out n (j + 1)) vs (Gr.nl N es))) u10 (Bs.put s m) := FarU.new hn10 fun k hk => HT9.out.1.own.lt hk
                    obtain ⟨A12, c12, rfl⟩ := slU_form hu10
                    have HF := Lib.hid (And.intro hu10 (And.intro hf10 (And.intro hrj' hO10)))
                    clear hu10 hn10 hb10 hadd hrj' hO10 hf10 c2
                    go_wp2_with fail
                    go_roundw
                    case rel => exact ⟨j + 1, _, by omega, by go_num, HF.out.1, HF.out.2.1, HF.out.2.2.1, HF.out.2.2.2⟩
                    case measure => simp [intOf]; omega
                  · have gy : (Y == 0) = false := by simpa using hy
                    have hrj' := H9.out.2.2.1.stay HG.out.2.2.2.2.2 (fun e he => (HES.out e he).2) HG.out.2.2.2.1 H9.out.2.2.2.2.2 (fun h => hy (by have := H9.out.2.2.2.2.1; have := HY.out; omega))
                    have HF := Lib.hid hrj'
                    clear hrj' hy
                    go_wp2_with fail
                    go_roundw
                    case rel => exact ⟨j + 1, _, by omega, by go_num, HT9.out.2.1, HT9.out.2.2, HF.out, HT9.out.1⟩
                    case measure => simp [intOf]; omega
                · obtain rfl : j = nx.length := by omega
                  have hnn : nx.length = (Gr.next es n).length := by rw [HN.out.1]
                  rw [hnn] at hrj hfar hO9
                  have e1 : Gr.wj N es out n (Gr.next es n).length = wo N es (out ++ [n]) := Gr.wj_full HG.out.2.2.2.2.1
                  rw [e1] at hfar hO9
                  obtain ⟨A12, c12, rfl⟩ := slU_form hu
                  have HF := Lib.hid (And.intro hu (And.intro hfar (And.intro (hrj.full HG.out.2.2.2.2.1) hO9)))
                  clear hu hfar hrj hO9 e1 hnn
                  go_wp2_with fail
                  go_roundw
                  case rel => exact ⟨out ++ [n], _, HG.out.1, HF.out.2.2.1, HF.out.1, HF.out.2.1, HF.out.2.2.2, HG.out.2.1⟩
                  case measure => simp [slLen]; omega
end Go.Proofs.YtkjmddgnfgbioaaDoor


namespace Go.Proofs.YtkjmddgnfgbioaaDoor
set_option linter.unusedVariables false
set_option linter.unusedSimpArgs false
set_option maxRecDepth 100000
open Go.RowKit

namespace Gr
abbrev Er := Int × Int
def okE (n : Int) (e : Er) : Bool := !(decide (e.1 < 0) || decide (e.2 < 0) || decide (n ≤ e.1) || decide (n ≤ e.2))
def okG (n : Int) (es : List Er) : Bool := !(decide (n < 0)) && !(decide (200 < n)) && es.all (okE n)
def nat (es : List Er) : List Ed := es.map fun e => (e.1.toNat, e.2.toNat)
/-- what is wrong with a graph -/
def wrong (n : Int) (es : List Er) : Int := if okG n es then (if (take n.toNat (nat es)).length < n.toNat then 3 else 0) else 2
theorem okG_iff {n : Int} {es : List Er} : okG n es = true ↔ 0 ≤ n ∧ n ≤ 200 ∧ ∀ e ∈ es, 0 ≤ e.1 ∧ 0 ≤ e.2 ∧ e.1 < n ∧ e.2 < n := by
  unfold okG
  rw [Bool.and_eq_true, Bool.and_eq_true, List.all_eq_true]
  simp only [okE, Bool.not_eq_true', Bool.or_eq_false_iff, decide_eq_false_iff_not]
  constructor
  · rintro ⟨⟨a, b⟩, c⟩
    exact ⟨by omega, by omega, fun e he => by have := c e he; omega⟩
  · rintro ⟨a, b, c⟩
    exact ⟨⟨by omega, by omega⟩, fun e he => by have := c e he; omega⟩
theorem nat_ok {n : Int} {es : List Er} (h : okG n es = true) : ∃ N : Nat, n = (N : Int) ∧ N ≤ 200 ∧ (∀ e ∈ nat es, e.1 < N ∧ e.2 < N) ∧ (nat es).length = es.length ∧ es.map (fun e => ((e.1 : Int), (e.2 : Int))) = (nat es).map fun e => ((e.1 : Int), (e.2 : Int)) := by
  obtain ⟨a, b, c⟩ := okG_iff.1 h
  obtain ⟨N, rfl⟩ := Int.eq_ofNat_of_zero_le a
  refine ⟨N, rfl, by omega, fun e he => ?_, by simp [nat], ?_⟩
  · obtain ⟨x, hx, rfl⟩ := List.mem_map.1 he
    have := c x hx
    exact ⟨by show x.1.toNat < N; omega, by show x.2.toNat < N; omega⟩
  · unfold nat
    rw [List.map_map]
    refine List.map_congr_left fun e he => ?_
    have := c e he
    show (e.1, e.2) = (((e.1.toNat : Nat) : Int), ((e.2.toNat : Nat) : Int))
    rw [Int.toNat_of_nonneg this.1, Int.toNat_of_nonneg this.2.1]
end Gr
def erc (e : Gr.Er) : List Value := [.int .i64 e.1, .int .i64 e.2]
def ercs (l : List Gr.Er) : List Value := l.flatMap erc
theorem ercs_nat {n : Int} {es : List Gr.Er} (h : Gr.okG n es = true) : ercs es = edcs (Gr.nat es) := by
  obtain ⟨_, _, c⟩ := Gr.okG_iff.1 h
  unfold ercs edcs Gr.nat
  rw [List.flatMap_map, List.flatMap_def, List.flatMap_def]
  congr 1
  refine List.map_congr_left fun e he => ?_
  have := c e he
  show [Value.int .i64 e.1, .int .i64 e.2] = [.int .i64 ((e.1.toNat : Nat) : Int), .int .i64 ((e.2.toNat : Nat) : Int)]
  rw [Int.toNat_of_nonneg this.1, Int.toNat_of_nonneg this.2.1]

def FTk (base : Nat) (l : List Nat) : Fact (fun w w' => Below w.heap.size w w') := ⟨fun v w => w.ownsRow base 3 1 v l.length (ilist l), fun _ _ _ h k => own_keeps h (Keeps.of_below k (fun _ => False)) (fun _ _ => id)⟩

set_option maxHeartbeats 4000000 in
theorem wrong_any (n : Int) (es : List Gr.Er) (w : World) (A : Option Addr) (c : Nat) (hA : SlV w 2 (.slice A es.length c) es.length (ercs es)) (hle : es.length ≤ 1099511627776) (hT : Tab w) :
    Calls Tryd.prog 48 #[.agg #[.int .i64 n, .slice A es.length c]] w fun e w' => e = .returned (.int .i64 (Gr.wrong n es)) ∧ Below w.heap.size w w' := by
  have x0 := Blk.new w 72 [.int .i64 n, .slice A es.length c]
  have hb0 : Below w.heap.size w (w.alloc (.cells #[.int .i64 n, .slice A es.length c] 72)) := below_alloc (Below.refl _ _) _
  obtain ⟨R, hR⟩ : ∃ R, R = Gr.wrong n es := ⟨_, rfl⟩
  rw [← hR]
  have HR := Lib.hid hR
  clear hR
  rcases h1 : decide (n < 0) with _ | _
  · rcases h2 : decide (200 < n) with _ | _
    · go_enter Tryd.func48, Tryd.ntmps48
      go_upto_region 3 with (fail)
      generalize (w.alloc (.cells #[.int .i64 n, .slice A es.length c] 72)) = W0 at x0 hb0 ⊢
      have d0 : W0.cell? ⟨w.heap.size, 0, none⟩ = some (.int .i64 n) := (x0.cell 0).trans rfl
      have d1 : W0.cell? ⟨w.heap.size, 1, none⟩ = some (.slice A es.length c) := (x0.cell 1).trans rfl
      go_wp2_with fail
      clear d0 d1
      go_loopw [16] (fun i wr => ∃ k : Nat, k ≤ es.length ∧ i = .int .i64 (k : Int) ∧ (∀ e ∈ es.take k, Gr.okE n e = true) ∧ Below W0.heap.size W0 wr) (fun i _ => es.length - (intOf i).toNat)
      case atStart => exact ⟨0, Nat.zero_le _, rfl, by simp, Below.refl _ _⟩
      case round =>
        obtain ⟨k, hk, rfl, hok, hb⟩ := hrel
        have hbw := below_next hb hb0
        have x1 := x0.below hb
        by_cases hlt : k < es.length
        · obtain ⟨⟨a, b⟩, hx⟩ : ∃ x, es[k]? = some x := ⟨_, List.getElem?_eq_getElem hlt⟩
          have gx := flat_get erc 2 (fun _ => rfl) es k
          have g1 := gx 0 _ hx (by omega)
          have g2 := gx 1 _ hx (by omega)
          obtain ⟨A', c', he, -, -, -, hcc⟩ := hA.below hbw
          injection he with e1 e2 e3
          subst e1 e3
          obtain ⟨g, o, rfl, hgl, hcell⟩ := hcc.at_ (fun e => by rw [show List.flatMap erc es = ercs es from rfl, e] at g1; simp [erc] at g1)
          have d0 : wr.cell? ⟨g, o + k * 2, none⟩ = some (.int .i64 a) := (hcell _ _ g1).trans rfl
          have d1 : wr.cell? ⟨g, o + k * 2 + 1, none⟩ = some (.int .i64 b) := by rw [Nat.add_assoc]; exact hcell _ _ g2
          have htk := Gr.take_snoc hx
          have hbad : Gr.okE n (a, b) = false → R = 2 := fun hf => by
            rw [HR.out]
            unfold Gr.wrong
            have : Gr.okG n es = false := by
              unfold Gr.okG
              rw [List.all_eq_false.2 ⟨_, List.mem_of_getElem? hx, by rw [hf]; simp⟩, Bool.and_false]
            rw [this]
            rfl
          have hgood : Gr.okE n (a, b) = true → ∀ e ∈ es.take (k + 1), Gr.okE n e = true := fun hf e he => by
            rw [htk] at he
            rcases List.mem_append.1 he with he | he
            · exact hok e he
            · rw [List.mem_singleton.1 he]; exact hf
          have hE := Blk.new wr 75 [.int .i64 a, .int .i64 b]
          have x5 := x1.alloc (.cells #[.int .i64 a, .int .i64 b] 75)
          have hb5 := below_alloc hb (.cells #[.int .i64 a, .int .i64 b] 75)
          have HH := Lib.hid (And.intro hbad hgood)
          clear hbad hgood htk hok hx gx g1 g2 hcc hcell e2 hA x0 x1 hb
          go_upto_region 6 with (fail)
          generalize (wr.alloc (.cells #[.int .i64 a, .int .i64 b] 75)) = W5 at hE x5 hb5 ⊢
          have c0 : W5.cell? ⟨wr.heap.size, 0, none⟩ = some (.int .i64 a) := (hE.cell 0).trans rfl
          have c1 : W5.cell? ⟨wr.heap.size, 1, none⟩ = some (.int .i64 b) := (hE.cell 1).trans rfl
          have c2 : W5.cell? ⟨w.heap.size, 0, none⟩ = some (.int .i64 n) := (x5.cell 0).trans rfl
          have hb50 := Lib.hid (And.intro hb5 (below_next hb5 hb0))
          clear d0 d1 hE x5 hbw hb5
          rcases k1 : decide (a < 0) with _ | _
          · rcases k2 : decide (b < 0) with _ | _
            · rcases k3 : decide (n ≤ a) with _ | _
              · rcases k4 : decide (n ≤ b) with _ | _
                · have hg := HH.out.2 (by unfold Gr.okE; simp only [k1, k2, k3, k4]; rfl)
                  have HG := Lib.hid hg
                  clear hg
                  go_wp2_with fail
                  go_roundw
                  case rel => exact ⟨k + 1, by omega, by go_num, HG.out, hb50.out.1⟩
                  case measure => simp [intOf]; omega
                · have h3 := HH.out.1 (by unfold Gr.okE; simp only [k1, k2, k3, k4]; rfl)
                  subst h3
                  go_wp2_with fail
                  go_ret
                  exact ⟨rfl, hb50.out.2⟩
              · have h3 := HH.out.1 (by unfold Gr.okE; simp only [k1, k2, k3]; simp)
                subst h3
                go_wp2_with fail
                go_ret
                exact ⟨rfl, hb50.out.2⟩
            · have h3 := HH.out.1 (by unfold Gr.okE; simp only [k1, k2]; simp)
              subst h3
              go_wp2_with fail
              go_ret
              exact ⟨rfl, hb50.out.2⟩
          · have h3 := HH.out.1 (by unfold Gr.okE; simp only [k1]; simp)
            subst h3
            go_wp2_with fail
            go_ret
            exact ⟨rfl, hb50.out.2⟩
        · obtain rfl : k = es.length := by omega
          rw [List.take_length] at hok
          have hokG : Gr.okG n es = true := by
            unfold Gr.okG
            rw [h1, h2, List.all_eq_true.2 hok]
            rfl
          obtain ⟨N, rfl, hN, hes, hln, -⟩ := Gr.nat_ok hokG
          have hAe := hA.below hbw
          rw [ercs_nat hokG] at hAe
          have htk : ∀ w', Below wr.heap.size wr w' → Calls Tryd.prog 85 #[.agg #[.int .i64 (N : Int), .slice A es.length c]] w' fun e w'' => ∃ u, e = .returned u ∧ w''.ownsRow w'.heap.size 3 1 u (Gr.take N (Gr.nat es)).length (ilist (Gr.take N (Gr.nat es))) ∧ Below w'.heap.size w' w'' := fun w' hb' => by
            have h4 := hAe.below hb'
            rw [← hln] at h4
            have := take_any N (Gr.nat es) w' A c hN hes h4 (by omega) (fun j hj => ((below_next hb' hbw).cell (p := ⟨0, j, none⟩) hT.lt).trans (hT j hj))
            rwa [hln] at this
          have hRv : R = if (Gr.take N (Gr.nat es)).length < N then 3 else 0 := by
            rw [HR.out]
            unfold Gr.wrong
            rw [hokG]
            rfl
          obtain ⟨L, hL⟩ : ∃ L, L = Gr.take N (Gr.nat es) := ⟨_, rfl⟩
          rw [← hL] at htk hRv
          have keepS : ∀ w', Below wr.heap.size wr w' → (Below wr.heap.size wr w' ∧ w'.cell? ⟨w.heap.size, 0, none⟩ = some (.int .i64 (N : Int)) ∧ w'.cell? ⟨w.heap.size, 1, none⟩ = some (.slice A es.length c)) := fun w' hb' => ⟨hb', ((x1.below hb').cell 0).trans rfl, ((x1.below hb').cell 1).trans rfl⟩
          have hS0 := keepS _ (below_drew (Below.refl _ _))
          have HRv := Lib.hid (And.intro hRv hbw)
          clear hA hAe hok hokG hL hRv x0 x1 hb HR hes hln
          go_wp2_with fail
          refine wp_walk (by kernel_rfl) (by kernel_rfl) (fun w w' => Below w.heap.size w w') (fun w' => (Below wr.heap.size wr w' ∧ w'.cell? ⟨w.heap.size, 0, none⟩ = some (.int .i64 (N : Int)) ∧ w'.cell? ⟨w.heap.size, 1, none⟩ = some (.slice A es.length c))) hS0 ?_
          repeat (first | (refine settle_skip (fun _ => by rfl) ?_; (simp only [Act.put, List.setIfInBounds_toArray, List.set_cons_zero, List.set_cons_succ])) | (refine' settle_run (fun _ _ => Below.refl _ _) (fun _ => by rfl) ?_ ?_; rotate_left; (focus (intro ρ w hS hF; (try dsimp only at hS); go_split_ands; go_simp; try with_reducible rfl)); (simp only [Act.put, List.setIfInBounds_toArray, List.set_cons_zero, List.set_cons_succ])))
          (refine settle_known (FTk wr.heap.size L) (by rfl) (fun _ => by rfl)  ?_ ?_; (focus (intro ρ w hS hF K hK; (simp only [Act.put, List.setIfInBounds_toArray, List.set_cons_zero, List.set_cons_succ] at hK); go_simp; (refine (htk _ hS.1).mono ?_; rintro e w' ⟨u, rfl, ho, hb'⟩; exact hK _ _ (own_base ho hS.1.size) (keepS _ (below_next hb' hS.1)) hb'))); (simp only [Act.put, List.setIfInBounds_toArray, List.set_cons_zero, List.set_cons_succ]))
          (refine' settle_step (fun _ => by rfl) ?_ ?_; rotate_left; (focus (intro ρ w hS hF K hK; (simp only [Act.put, List.setIfInBounds_toArray, List.set_cons_zero, List.set_cons_succ] at hK); go_simp; (obtain ⟨A', c', hv, -, -⟩ := own_slice (hF.1 (by rfl))); rw [hv] at hK ⊢; go_simp; have hS' := hS; have hE' := Below.refl w.heap.size w; exact hK _ hS' hE')); (simp only [Act.put, List.setIfInBounds_toArray, List.set_cons_zero, List.set_cons_succ]))
          repeat (first | (refine settle_skip (fun _ => by rfl) ?_; (simp only [Act.put, List.setIfInBounds_toArray, List.set_cons_zero, List.set_cons_succ])) | (refine' settle_run (fun _ _ => Below.refl _ _) (fun _ => by rfl) ?_ ?_; rotate_left; (focus (intro ρ w hS hF; (try dsimp only at hS); go_split_ands; go_simp; try with_reducible rfl)); (simp only [Act.put, List.setIfInBounds_toArray, List.set_cons_zero, List.set_cons_succ])))
          refine settle_nil ?_
          intro ρ w5 hS hF
          have hb5 := below_next hS.1 HRv.out.2
          clear hF hS hS0 keepS htk
          dsimp only
          generalize ρ 44 = v44
          by_cases hlt2 : L.length < N
          · have h3 : R = 3 := by rw [HRv.out.1, if_pos hlt2]
            subst h3
            go_wp2_with fail
            go_ret
            exact ⟨rfl, hb5⟩
          · have h3 : R = 0 := by rw [HRv.out.1, if_neg hlt2]
            subst h3
            go_wp2_with fail
            go_ret
            exact ⟨rfl, hb5⟩
    · have h3 : R = 2 := by rw [HR.out]; unfold Gr.wrong Gr.okG; rw [h1, h2]; rfl
      subst h3
      clear x0 HR hA
      have HB := Lib.hid hb0
      clear hb0
      go_enter Tryd.func48, Tryd.ntmps48
      go_wp2_with fail
      go_ret
      exact ⟨rfl, HB.out⟩
  · have h3 : R = 2 := by rw [HR.out]; unfold Gr.wrong Gr.okG; rw [h1]; rfl
    subst h3
    clear x0 HR hA
    have HB := Lib.hid hb0
    clear hb0
    go_enter Tryd.func48, Tryd.ntmps48
    go_wp2_with fail
    go_ret
    exact ⟨rfl, HB.out⟩
end Go.Proofs.YtkjmddgnfgbioaaDoor


namespace Go.Proofs.YtkjmddgnfgbioaaDoor
set_option linter.unusedVariables false
set_option linter.unusedSimpArgs false
set_option maxRecDepth 100000
open Go.RowKit

set_option maxHeartbeats 4000000 in
theorem sort_any (n : Int) (es : List Gr.Er) (w : World) (A : Option Addr) (c : Nat) (hA : SlV w 2 (.slice A es.length c) es.length (ercs es)) (hle : es.length ≤ 1099511627776) (hT : Tab w) :
    Calls Tryd.prog 44 #[.agg #[.int .i64 n, .slice A es.length c]] w fun e w' => ∃ v, e = .returned (.tuple #[v, .int .i64 (Gr.wrong n es)]) ∧ (Gr.wrong n es ≠ 0 → v = .slice none 0 0) ∧ (Gr.wrong n es = 0 → w'.ownsRow w.heap.size 3 1 v (Gr.take n.toNat (Gr.nat es)).length (ilist (Gr.take n.toNat (Gr.nat es)))) ∧ Below w.heap.size w w' := by
  have x0 := Blk.new w 72 [.int .i64 n, .slice A es.length c]
  have hb0 : Below w.heap.size w (w.alloc (.cells #[.int .i64 n, .slice A es.length c] 72)) := below_alloc (Below.refl _ _) _
  have hTb : ∀ w', Below w.heap.size w w' → Tab w' := fun w' hb j hj => (hb.cell (p := ⟨0, j, none⟩) hT.lt).trans (hT j hj)
  have hwr : ∀ w', Below w.heap.size w w' → Calls Tryd.prog 48 #[.agg #[.int .i64 n, .slice A es.length c]] w' fun e w'' => e = .returned (.int .i64 (Gr.wrong n es)) ∧ Below w'.heap.size w' w'' := fun w' hb => wrong_any n es w' A c (hA.below hb) hle (hTb w' hb)
  have htk : Gr.wrong n es = 0 → ∀ w', Below w.heap.size w w' → Calls Tryd.prog 85 #[.agg #[.int .i64 n, .slice A es.length c]] w' fun e w'' => ∃ u, e = .returned u ∧ w''.ownsRow w'.heap.size 3 1 u (Gr.take n.toNat (Gr.nat es)).length (ilist (Gr.take n.toNat (Gr.nat es))) ∧ Below w'.heap.size w' w'' := fun h0 w' hb => by
    have hok : Gr.okG n es = true := by
      cases h : Gr.okG n es with
      | true => rfl
      | false =>
        unfold Gr.wrong at h0
        rw [h] at h0
        cases h0
    obtain ⟨N, rfl, hN, hes, hln, -⟩ := Gr.nat_ok hok
    have h4 := hA.below hb
    rw [ercs_nat hok, ← hln] at h4
    have := take_any N (Gr.nat es) w' A c hN hes h4 (by omega) (hTb w' hb)
    rw [hln] at this
    exact this
  obtain ⟨R, hR⟩ : ∃ R, R = Gr.wrong n es := ⟨_, rfl⟩
  rw [← hR] at hwr htk ⊢
  generalize Gr.take n.toNat (Gr.nat es) = L at htk ⊢
  clear hR hA hTb hT
  go_enter Tryd.func44, Tryd.ntmps44
  go_upto_region 1 with (fail)
  generalize (w.alloc (.cells #[.int .i64 n, .slice A es.length c] 72)) = W0 at x0 hb0 ⊢
  have d0 : W0.cell? ⟨w.heap.size, 0, none⟩ = some (.int .i64 n) := (x0.cell 0).trans rfl
  have d1 : W0.cell? ⟨w.heap.size, 1, none⟩ = some (.slice A es.length c) := (x0.cell 1).trans rfl
  go_wp2_with fail
  refine (hwr W0 hb0).mono ?_
  rintro e w1 ⟨rfl, hb1⟩
  have x1 := x0.below hb1
  have c0 : w1.cell? ⟨w.heap.size, 0, none⟩ = some (.int .i64 n) := (x1.cell 0).trans rfl
  have c1 : w1.cell? ⟨w.heap.size, 1, none⟩ = some (.slice A es.length c) := (x1.cell 1).trans rfl
  have hb01 := below_next hb1 hb0
  clear d0 d1 x0 x1 hwr hb1 hb0
  by_cases h0 : R = 0
  · have hk := htk h0 w1 hb01
    subst h0
    clear htk
    have HB := Lib.hid hb01
    clear hb01
    go_wp2_with fail
    refine hk.mono ?_
    rintro e w2 ⟨u, rfl, ho, hb2⟩
    obtain ⟨A', c', rfl, -, -⟩ := own_slice ho
    have HE := Lib.hid (And.intro (own_base ho HB.out.size) (below_next hb2 HB.out))
    clear ho hb2 hk c0 c1
    go_wp2_with fail
    go_ret2
    exact ⟨_, rfl, HE.out.1, HE.out.2⟩
  · have g0 : (R != 0) = true := by simpa using h0
    have HE := Lib.hid (And.intro h0 hb01)
    clear htk h0 hb01 c0 c1
    go_wp2_with fail
    go_ret2
    exact ⟨_, rfl, fun _ => rfl, fun h => absurd h HE.out.1, HE.out.2⟩
end Go.Proofs.YtkjmddgnfgbioaaDoor


namespace Go.Proofs.YtkjmddgnfgbioaaDoor
set_option linter.unusedVariables false
set_option linter.unusedSimpArgs false
set_option maxRecDepth 100000

def rv (l : List Int) (k : Nat) : List Int := (List.range l.length).map fun i => if i < k ∨ l.length ≤ i + k then l.getD (l.length - 1 - i) 0 else l.getD i 0
theorem rv_length (l : List Int) (k : Nat) : (rv l k).length = l.length := by simp [rv]
theorem rv_get (l : List Int) (k i : Nat) (h : i < l.length) : (rv l k)[i]? = some (if i < k ∨ l.length ≤ i + k then l.getD (l.length - 1 - i) 0 else l.getD i 0) := by
  unfold rv
  rw [List.getElem?_map, List.getElem?_range h]
  rfl
theorem rv_zero (l : List Int) : rv l 0 = l := by
  apply List.ext_getElem?
  intro i
  by_cases h : i < l.length
  · rw [rv_get l 0 i h, if_neg (by omega), List.getD_eq_getElem?_getD, List.getElem?_eq_getElem h]
    rfl
  · rw [List.getElem?_eq_none (by rw [rv_length]; omega), List.getElem?_eq_none (by omega)]
theorem rv_step (l : List Int) (k : Nat) (h : 2 * k + 1 < l.length) : rv l (k + 1) = ((rv l k).set k (l.getD (l.length - 1 - k) 0)).set (l.length - 1 - k) (l.getD k 0) := by
  apply List.ext_getElem?
  intro i
  by_cases hi : i < l.length
  · rw [rv_get l (k + 1) i hi, List.getElem?_set, List.getElem?_set]
    by_cases e1 : l.length - 1 - k = i
    · subst e1
      rw [if_pos rfl, if_pos (by omega), if_pos (by rw [List.length_set, rv_length]; omega), show l.length - 1 - (l.length - 1 - k) = k by omega]
    · rw [if_neg e1]
      by_cases e2 : k = i
      · subst e2
        rw [if_pos rfl, if_pos (by omega), if_pos (by rw [rv_length]; omega)]
      · rw [if_neg e2, rv_get l k i hi]
        by_cases h1 : i < k ∨ l.length ≤ i + k
        · rw [if_pos h1, if_pos (by omega)]
        · rw [if_neg h1, if_neg (by omega)]
  · rw [List.getElem?_eq_none (by rw [rv_length]; omega), List.getElem?_eq_none (by rw [List.length_set, List.length_set, rv_length]; omega)]
theorem rv_end (l : List Int) (k : Nat) (h : l.length ≤ 2 * k + 1) : rv l k = l.reverse := by
  apply List.ext_getElem?
  intro i
  by_cases hi : i < l.length
  · rw [rv_get l k i hi, List.getElem?_reverse hi, List.getElem?_eq_getElem (by omega)]
    by_cases h1 : i < k ∨ l.length ≤ i + k
    · rw [if_pos h1, List.getD_eq_getElem?_getD, List.getElem?_eq_getElem (by omega)]
      rfl
    · have : i = l.length - 1 - i := by omega
      rw [if_neg h1, List.getD_eq_getElem?_getD, List.getElem?_eq_getElem hi]
      simp only [Option.getD_some]
      congr 1
      congr 1
  · rw [List.getElem?_eq_none (by rw [rv_length]; omega), List.getElem?_eq_none (by simp; omega)]
end Go.Proofs.YtkjmddgnfgbioaaDoor


namespace Go.Proofs.YtkjmddgnfgbioaaDoor
set_option linter.unusedVariables false
set_option linter.unusedSimpArgs false
set_option maxRecDepth 100000
open Go.RowKit

set_option maxHeartbeats 2000000 in
theorem reverse_any (w : World) (B g c : Nat) (l : List Int) (h : w.ownsRow B 3 1 (.slice (some ⟨g, 0, none⟩) l.length c) l.length (ints .i64 l)) (hl : l.length ≤ 1099511627776) :
    Calls Tryd.prog 119 #[.slice (some ⟨g, 0, none⟩) l.length c] w fun e w' => (∃ v, e = .returned v) ∧ w'.ownsRow B 3 1 (.slice (some ⟨g, 0, none⟩) l.length c) l.length (ints .i64 l.reverse) ∧ w.grownBy w' (some g) := by
  have H := Lib.hid h
  clear h
  go_enter Tryd.func119, Tryd.ntmps119
  go_wp2_with fail
  go_loopw [2, 3] (fun i j wr => ∃ k : Nat, 2 * k ≤ l.length + 1 ∧ i = .int .i64 (k : Int) ∧ j = .int .i64 ((l.length : Int) - 1 - k) ∧ wr.ownsRow B 3 1 (.slice (some ⟨g, 0, none⟩) l.length c) l.length (ints .i64 (rv l k)) ∧ w.grownBy wr (some g)) (fun i _ _ => l.length - (intOf i).toNat)
  case atStart => exact ⟨0, by omega, rfl, by simp, by rw [rv_zero]; exact H.out, World.grownBy.refl w _⟩
  case round =>
    obtain ⟨k, hk, rfl, rfl, hr, hg⟩ := hrel
    by_cases hlt : 2 * k + 1 < l.length
    · obtain ⟨m, hm⟩ : ∃ m : Nat, m = l.length - 1 - k := ⟨_, rfl⟩
      have hmi : (l.length : Int) - 1 - k = (m : Int) := by omega
      rw [hmi]
      have hkm : k < m := by omega
      have hml : m < l.length := by omega
      obtain ⟨a, ha⟩ : ∃ a, a = l.getD k 0 := ⟨_, rfl⟩
      obtain ⟨b, hb⟩ : ∃ b, b = l.getD m 0 := ⟨_, rfl⟩
      have c0 := own_cell hr (j := k) (u := .int .i64 a) (by
        show (List.map _ _)[k]? = _
        rw [List.getElem?_map, rv_get l k k (by omega), if_neg (by omega), ha]
        rfl)
      have c1 := own_cell hr (j := m) (u := .int .i64 b) (by
        show (List.map _ _)[m]? = _
        rw [List.getElem?_map, rv_get l k m hml, if_neg (by omega), hb]
        rfl)
      have f0 := row_frozen hr k
      have f1 := row_frozen hr m
      have hst := rv_step l k (by omega)
      rw [← hm, ← ha, ← hb] at hst
      have HH := Lib.hid (And.intro hr (And.intro hg (And.intro hst (And.intro hmi hm))))
      have hlen : l.length = m + k + 1 := by omega
      clear hr hg hst hmi hm ha hb
      go_wp2_with fail
      go_region
      have hrow : ((wr.setCell ⟨g, k, none⟩ (.int .i64 b)).setCell ⟨g, m, none⟩ (.int .i64 a)).drew.ownsRow B 3 1 (.slice (some ⟨g, 0, none⟩) l.length c) l.length (ints .i64 (rv l (k + 1))) := by
        rw [HH.out.2.2.1, ints_set, ints_set]
        exact row_set (row_set HH.out.1 k (.int .i64 b)) m (.int .i64 a)
      have hgr : w.grownBy ((wr.setCell ⟨g, k, none⟩ (.int .i64 b)).setCell ⟨g, m, none⟩ (.int .i64 a)).drew (some g) := grown_trans HH.out.2.1 (grown_trans (grown_setCell wr g k _) (grown_trans (grown_setCell _ g m _) (grown_drew _ _)))
      generalize ((wr.setCell ⟨g, k, none⟩ (.int .i64 b)).setCell ⟨g, m, none⟩ (.int .i64 a)).drew = wN at hrow hgr ⊢
      have HN := Lib.hid (And.intro hrow hgr)
      clear hrow hgr c0 c1 f0 f1
      go_wp2_with fail
      go_roundw
      case rel => exact ⟨k + 1, by omega, by go_num, by congr 1; have := HH.out.2.2.2.1; omega, HN.out.1, HN.out.2⟩
      case measure => simp [intOf]; omega
    · have e := rv_end l k (by omega)
      rw [e] at hr
      have HR := Lib.hid (And.intro hr hg)
      clear hr hg e
      have hlt' : decide ((k : Int) < (l.length : Int) - 1 - k) = false := by simp; omega
      go_wp2_with fail
      go_end0
      exact ⟨⟨_, rfl⟩, HR.out⟩
end Go.Proofs.YtkjmddgnfgbioaaDoor


namespace Go.Proofs.YtkjmddgnfgbioaaDoor.Gr
set_option linter.unusedVariables false
set_option linter.unusedSimpArgs false
set_option maxRecDepth 100000
open Bs
theorem behL_snoc {S : Type} (em : S) (un : S → Nat → S → S) (es : List Ed) : ∀ (l : List Nat) (n : Nat) (B : List S), behL em un es (l ++ [n]) B = (behL em un es l B).set n (beh1 em un es (behL em un es l B) n)
  | [], n, B => rfl
  | k :: l, n, B => by
    rw [List.cons_append]
    unfold behL
    exact behL_snoc em un es l n _
/-- when the first k from the end are done -/
def bk (N : Nat) (es : List Ed) (k : Nat) : List (List Nat) := behL [] un es ((take N es).reverse.take k) (List.replicate N [])
theorem bk_zero (N : Nat) (es : List Ed) : bk N es 0 = List.replicate N [] := by unfold bk; rw [List.take_zero]; rfl
theorem bk_all {N : Nat} {es : List Ed} (hl : (take N es).length = N) : bk N es N = behW N es := by
  unfold bk behW
  rw [List.take_of_length_le (by rw [List.length_reverse, hl]; exact Nat.le_refl _)]
theorem bk_length (N : Nat) (es : List Ed) (k : Nat) : (bk N es k).length = N := by unfold bk; rw [behL_length]; simp
theorem bk_gs {N : Nat} {es : List Ed} (hes : ∀ e ∈ es, e.2 < N) (k : Nat) : ∀ s ∈ bk N es k, Gs N s := behL_gs hes _ _ fun s hs => by
  rw [(List.mem_replicate.1 hs).2]
  exact Gs.nil N
/-- the set of one node, when j of those it leads to are in -/
def bs (N : Nat) (es : List Ed) (k n j : Nat) : List Nat := ((next es n).take j).foldl (fun s m => un s m ((bk N es k).getD m [])) []
theorem bs_zero (N : Nat) (es : List Ed) (k n : Nat) : bs N es k n 0 = [] := by unfold bs; rw [List.take_zero]; rfl
theorem bs_step {N : Nat} {es : List Ed} {k n j m : Nat} (hj : (next es n)[j]? = some m) : bs N es k n (j + 1) = op for_ (put (bs N es k n j) m) ((bk N es k).getD m []) := by
  unfold bs
  rw [take_snoc hj, List.foldl_append]
  rfl
theorem bk_step {N : Nat} {es : List Ed} {k n : Nat} (hk : (take N es).reverse[k]? = some n) : bk N es (k + 1) = (bk N es k).set n (bs N es k n (next es n).length) := by
  have h := take_snoc hk
  unfold bk at *
  rw [h, behL_snoc]
  unfold beh1 bs
  rw [List.take_length]
  rfl
theorem bs_gs {N : Nat} {es : List Ed} (hes : ∀ e ∈ es, e.2 < N) (k n : Nat) : ∀ j, Gs N (bs N es k n j)
  | 0 => by rw [bs_zero]; exact Gs.nil N
  | j + 1 => by
    by_cases hj : j < (next es n).length
    · rw [bs_step (List.getElem?_eq_getElem hj)]
      refine ((bs_gs hes k n j).put (hes _ (mem_next.1 (List.getElem_mem hj)))).or ?_
      by_cases hm : (next es n)[j] < (bk N es k).length
      · rw [List.getD_eq_getElem?_getD, List.getElem?_eq_getElem hm, Option.getD_some]
        exact bk_gs hes k _ (List.getElem_mem hm)
      · rw [List.getD_eq_getElem?_getD, List.getElem?_eq_none (by omega), Option.getD_none]
        exact Gs.nil N
    · have := bs_gs hes k n j
      unfold bs at *
      rw [List.take_of_length_le (by omega)] at this ⊢
      exact this
end Go.Proofs.YtkjmddgnfgbioaaDoor.Gr
namespace Go.Proofs.YtkjmddgnfgbioaaDoor
open Go.RowKit

theorem info_swords : (Tryd.prog.info? 22).map (fun i => (i.zero, i.size, i.bytes)) = some (some (.slice none 0 0), 1, 24) := by kernel_rfl
/-- a slice of sets, as words -/
def SlW (w : World) (v : Value) (L : List (List Nat)) : Prop := ∃ os, SlV w 1 v L.length os ∧ ∀ (i : Nat) (u : Value) (s : List Nat), os[i]? = some u → L[i]? = some s → SlU w u s
theorem SlW.below {w w' : World} {v : Value} {L : List (List Nat)} (h : SlW w v L) (hb : Below w.heap.size w w') : SlW w' v L := by
  obtain ⟨os, h1, h2⟩ := h
  exact ⟨os, h1.below hb, fun i u s hu hs => (h2 i u s hu hs).below hb⟩
def FSU (B : Nat) (s : List Nat) : Fact (fun w w' => Below w.heap.size w w') := ⟨fun v w => SlU w v s ∧ New B v, fun _ _ _ h k => ⟨h.1.below k, h.2⟩⟩
theorem own_slV {w : World} {B n : Nat} {e : TypeId} {v : Value} {xs : List Value} (h : w.ownsRow B e 1 v n xs) : SlV w 1 v n xs := by
  obtain ⟨A, c, rfl, h1, h2⟩ := own_slice h
  by_cases hn : n = 0
  · subst hn
    have : xs = [] := List.length_eq_zero_iff.1 (by have := h.1; omega)
    subst this
    exact ⟨A, c, rfl, h1, h2, rfl, 0, 0, fun e => absurd rfl e, fun j u hu => by simp at hu⟩
  · obtain ⟨g, c', e, -, -, -, h5⟩ := own_addr h (by omega)
    injection e with e1 e2 e3
    subst e1 e3
    exact ⟨_, c, rfl, h1, h2, by have := h.1; omega, g, 0, fun _ => ⟨rfl, h5⟩, fun j u hu => by rw [Nat.zero_add]; exact own_cell h hu⟩

theorem reverse_row (w : World) (B c : Nat) (A : Option Addr) (l : List Int) (h : w.ownsRow B 3 1 (.slice A l.length c) l.length (ints .i64 l)) (hl : l.length ≤ 1099511627776) :
    Calls Tryd.prog 119 #[.slice A l.length c] w fun e w' => (∃ v, e = .returned v) ∧ w'.ownsRow B 3 1 (.slice A l.length c) l.length (ints .i64 l.reverse) ∧ w.grownBy w' (Value.slice A l.length c).ownBlock := by
  rcases h.2 with ⟨h1, h2⟩ | ⟨g, cap, cur, h1, h2, h3, h4, h5, h6, h7⟩
  · injection h1 with e1 e2 e3
    subst e1 e3
    have hl0 : l = [] := List.length_eq_zero_iff.1 e2
    subst hl0
    clear e2
    go_enter Tryd.func119, Tryd.ntmps119
    go_wp2_with fail
    go_loopw [2, 3] (fun i j wr => i = .int .i64 0 ∧ j = .int .i64 (-1) ∧ w.grownBy wr none) (fun _ _ _ => 0)
    case atStart => exact ⟨rfl, rfl, World.grownBy.refl w _⟩
    case round =>
      obtain ⟨rfl, rfl, hg⟩ := hrel
      go_wp2_with fail
      go_end0
      exact ⟨⟨_, rfl⟩, World.ownsRow_nil _ _ _ _, hg⟩
  · injection h1 with e1 e2 e3
    subst e1
    exact reverse_any w B g c l h hl

theorem reverse_nat (w : World) (B c : Nat) (A : Option Addr) (l : List Nat) (h : w.ownsRow B 3 1 (.slice A l.length c) l.length (ilist l)) (hl : l.length ≤ 1099511627776) :
    Calls Tryd.prog 119 #[.slice A l.length c] w fun e w' => (∃ v, e = .returned v) ∧ w'.ownsRow B 3 1 (.slice A l.length c) l.length (ilist l.reverse) ∧ w.grownBy w' (Value.slice A l.length c).ownBlock := by
  have := reverse_row w B c A (l.map fun (x : Nat) => (x : Int)) (by rw [List.length_map]; exact h) (by rw [List.length_map]; exact hl)
  rw [List.length_map, ← List.map_reverse] at this
  exact this

/-- one row, and what each one leads to -/
def nxR (r : Rw) (vs : List Value) (L : List (List Nat)) : List Rw := r :: List.zipWith irw vs L
theorem nxR_i (r : Rw) (vs : List Value) (L : List (List Nat)) (i : Nat) (v : Value) (l : List Nat) : (nxR r vs L).set (i + 1) (irw v l) = nxR r (vs.set i v) (L.set i l) := by
  unfold nxR
  rw [List.set_cons_succ, zip_set]
theorem nxR_get (r : Rw) (vs : List Value) (L : List (List Nat)) (i : Nat) (v : Value) (l : List Nat) (hv : vs[i]? = some v) (hl : L[i]? = some l) : (nxR r vs L)[i + 1]? = some (irw v l) := by
  unfold nxR
  rw [List.getElem?_cons_succ, List.getElem?_zipWith, hv, hl]
theorem nl_nil (N : Nat) : Gr.nl N [] = List.replicate N [] := by
  apply List.ext_getElem
  · simp [Gr.nl]
  · intro i h h'; simp [Gr.nl, Gr.next]
theorem nx_start {B r : Nat} {w2 : World} {N : Nat} (r0 : Rw) (h1 : r0.at_ B w2) (hne : r0.v.ownBlock ≠ some r) (h2 : Blk w2 r 29 (List.replicate N (.slice none 0 0))) (hB : B ≤ w2.heap.size) (lo : B ≤ r) :
    Own B w2 r 29 (List.replicate N (.slice none 0 0)) (nxR r0 (List.replicate N (.slice none 0 0)) (Gr.nl N [])) := by
  have hz : List.zipWith irw (List.replicate N (.slice none 0 0)) (List.replicate N []) = List.replicate N (irw (.slice none 0 0) []) := by simp
  unfold nxR
  rw [nl_nil, hz]
  refine ⟨h2, fun s hs => ?_, fun i j s t hi hj hij => ?_, fun s hs => ?_, hB, lo⟩
  · rcases List.mem_cons.1 hs with rfl | hs
    · exact h1
    · rw [(List.mem_replicate.1 hs).2]
      exact World.ownsRow_nil _ _ _ _
  · intro k hk hk'
    cases i with
    | zero =>
      cases j with
      | zero => exact hij rfl
      | succ j =>
        rw [List.getElem?_cons_succ, List.getElem?_replicate] at hj
        split at hj
        · injection hj with hj; subst hj; simp [irw, Value.ownBlock] at hk'
        · cases hj
    | succ i =>
      rw [List.getElem?_cons_succ, List.getElem?_replicate] at hi
      split at hi
      · injection hi with hi; subst hi; simp [irw, Value.ownBlock] at hk
      · cases hi
  · rcases List.mem_cons.1 hs with rfl | hs
    · exact hne
    · rw [(List.mem_replicate.1 hs).2]
      simp [irw, Value.ownBlock]

set_option maxHeartbeats 4000000 in
theorem behind_yes (N : Nat) (es : List Gr.Ed) (w : World) (A : Option Addr) (c : Nat) (hN : N ≤ 200) (hes : ∀ e ∈ es, e.1 < N ∧ e.2 < N) (hl : (Gr.take N es).length = N) (hA : SlV w 2 (.slice A es.length c) es.length (edcs es)) (hle : es.length ≤ 1099511627776)
    (hs : ∀ w', Below w.heap.size w w' → Calls Tryd.prog 44 #[.agg #[.int .i64 (N : Int), .slice A es.length c]] w' fun e w'' => ∃ v, e = .returned (.tuple #[v, .int .i64 0]) ∧ w''.ownsRow w'.heap.size 3 1 v N (ilist (Gr.take N es)) ∧ Below w'.heap.size w' w'') :
    Calls Tryd.prog 84 #[.agg #[.int .i64 (N : Int), .slice A es.length c]] w fun e w' => ∃ v, e = .returned (.tuple #[v, .int .i64 0]) ∧ SlW w' v (Gr.behW N es) ∧ Below w.heap.size w w' := by
  have HES := Lib.hid hes
  have HL := Lib.hid hl
  have x0 := Blk.new w 72 [.int .i64 (N : Int), .slice A es.length c]
  have hb0 : Below w.heap.size w (w.alloc (.cells #[.int .i64 (N : Int), .slice A es.length c] 72)) := below_alloc (Below.refl _ _) _
  have hz0 : (w.alloc (.cells #[.int .i64 (N : Int), .slice A es.length c] 72)).heap.size = w.heap.size + 1 := by simp
  have HZ0 := Lib.hid hz0
  clear hes hl hz0
  have n47' : 24 * N ≤ 281474976710656 := by omega
  have n63 : N ≤ 9223372036854775807 := by omega
  go_enter Tryd.func84, Tryd.ntmps84
  go_upto_region 1 with (fail)
  have HZ := Lib.hid HZ0.out
  clear HZ0
  generalize (w.alloc (.cells #[.int .i64 (N : Int), .slice A es.length c] 72)) = W0 at x0 hb0 HZ ⊢
  have d0 : W0.cell? ⟨w.heap.size, 0, none⟩ = some (.int .i64 (N : Int)) := (x0.cell 0).trans rfl
  have d1 : W0.cell? ⟨w.heap.size, 1, none⟩ = some (.slice A es.length c) := (x0.cell 1).trans rfl
  go_wp2_with fail
  refine (hs W0 hb0).mono ?_
  rintro e w1 ⟨lv, rfl, ho1, hb1⟩
  obtain ⟨VB, cl, rfl, -, -⟩ := own_slice ho1
  have x1 := x0.below hb1
  have hb01 := below_next hb1 hb0
  have c0 : w1.cell? ⟨w.heap.size, 0, none⟩ = some (.int .i64 (N : Int)) := (x1.cell 0).trans rfl
  have c1 : w1.cell? ⟨w.heap.size, 1, none⟩ = some (.slice A es.length c) := (x1.cell 1).trans rfl
  clear d0 d1 x0 hs
  go_wp2_with (first | (at_make; refine wp_make _ 103 22 (.slice none 0 0) 24 N Tryd.underlying103 info_swords rfl (by omega) (by omega) n47' n63 rfl rfl rfl rfl ?_; intro w2 hown2 hb2 hs2; have x2 := x1.below hb2; have c20 : w2.cell? ⟨w.heap.size, 0, none⟩ = some (.int .i64 (N : Int)) := (x2.cell 0).trans rfl; have c21 : w2.cell? ⟨w.heap.size, 1, none⟩ = some (.slice A es.length c) := (x2.cell 1).trans rfl) | fail)
  have hrev : Calls Tryd.prog 119 #[.slice VB N cl] w2 fun e w' => (∃ v, e = .returned v) ∧ w'.ownsRow W0.heap.size 3 1 (.slice VB N cl) N (ilist (Gr.take N es).reverse) ∧ w2.grownBy w' (Value.slice VB N cl).ownBlock := by
    have h1 := own_keeps ho1 (Keeps.of_below hb2 (fun _ => False)) (fun _ _ => id)
    have hrl : (Gr.take N es).length = N := HL.out
    have h2 := reverse_nat w2 W0.heap.size cl VB (Gr.take N es) (by rw [hrl]; exact h1) (by rw [hrl]; omega)
    rw [hrl] at h2
    exact h2
  refine hrev.mono ?_
  rintro e w3 ⟨⟨rv, rfl⟩, ho3, hg3⟩
  have hlge : ∀ k, (Value.slice VB N cl).ownBlock = some k → w.heap.size + 1 ≤ k := fun k hk => by have := own_ge ho1 k hk; have := HZ.out; omega
  have hllt : ∀ k, (Value.slice VB N cl).ownBlock = some k → k < w1.heap.size := fun k hk => (ho1.lt k hk).2
  have x3 := x2.keeps (Keeps.of_grown hg3) (fun e => by have := hlge _ e.symm; omega)
  have c30 : w3.cell? ⟨w.heap.size, 0, none⟩ = some (.int .i64 (N : Int)) := (x3.cell 0).trans rfl
  have hown3 := own_keeps hown2 (Keeps.of_grown hg3) (fun k hk e => by have h1 := hllt k e.symm; have h2 : w1.heap.size = k := (by injection hk); omega)
  have hb03 : Below w.heap.size w w3 := (below_next hb2 hb01).trans ((Keeps.of_grown hg3).below (below_next hb2 hb01).size (fun k hk => by have := hlge k hk.symm; omega))
  have hsW0 := hb1.size
  have hs13 : w1.heap.size < w3.heap.size := by have := (Keeps.of_grown hg3).size; omega
  clear hown2 hg3 hrev ho1 hb01 hb2 hs2 x2 x1 c0 c1 c20 c21 hb1
  go_wp2_with (first | (at_make; refine wp_make _ 146 29 (.slice none 0 0) 24 N Tryd.underlying146 info_sint rfl (by omega) (by omega) n47' n63 rfl rfl rfl rfl ?_; intro w4 hown4 hb4 hs4; have x4 := x3.below hb4; have c40 : w4.cell? ⟨w.heap.size, 0, none⟩ = some (.int .i64 (N : Int)) := (x4.cell 0).trans rfl; have c41 : w4.cell? ⟨w.heap.size, 1, none⟩ = some (.slice A es.length c) := (x4.cell 1).trans rfl) | fail)
  have hlr : w4.ownsRow W0.heap.size 3 1 (.slice VB N cl) N (ilist (Gr.take N es).reverse) := own_keeps ho3 (Keeps.of_below hb4 (fun _ => False)) (fun _ _ => id)
  have hor := own_keeps hown3 (Keeps.of_below hb4 (fun _ => False)) (fun _ _ => id)
  have hnb := row_whole hown4
  have hb04 := below_next hb4 hb03
  have hsQ : W0.heap.size = w.heap.size + 1 := HZ.out
  have hne0 : (Value.slice (some ⟨w1.heap.size, 0, none⟩) N N).ownBlock ≠ some w3.heap.size := fun e => by
    have h2 : w1.heap.size = w3.heap.size := (by injection e)
    omega
  have hO : Own (w.heap.size + 1) w4 w3.heap.size 29 (List.replicate N (.slice none 0 0)) (nxR ⟨22, 1, .slice (some ⟨w1.heap.size, 0, none⟩) N N, N, List.replicate N (.slice none 0 0)⟩ (List.replicate N (.slice none 0 0)) (Gr.nl N [])) :=
    nx_start _ (own_base hor (by omega)) hne0 hnb (by have := hb04.size; omega) (by omega)
  have hlr' : w4.ownsRow (w.heap.size + 1) 3 1 (.slice VB N cl) N (ilist (Gr.take N es).reverse) := own_base hlr (by omega)
  have hsz : w.heap.size + 1 ≤ w1.heap.size ∧ w1.heap.size < w3.heap.size ∧ w3.heap.size < w4.heap.size := ⟨by omega, hs13, by omega⟩
  clear hlr hor hnb hne0 hown3 hown4 ho3 hb4 hs4 hb03 hsQ hsW0 hs13 x3 x4 c30 HZ hb0
  obtain ⟨gO, hgO⟩ : ∃ g, g = w1.heap.size := ⟨_, rfl⟩
  obtain ⟨gN, hgN⟩ : ∃ g, g = w3.heap.size := ⟨_, rfl⟩
  obtain ⟨Q, hQ⟩ : ∃ g, g = w.heap.size := ⟨_, rfl⟩
  have HQ := Lib.hid hQ
  simp only [← hgO, ← hgN, ← hQ] at hb04 hO hlr' hsz hlge hllt c40 c41 ⊢
  clear hgO hgN hQ
  obtain ⟨r0, hr0⟩ : ∃ r : Rw, r = ⟨22, 1, .slice (some ⟨gO, 0, none⟩) N N, N, List.replicate N (.slice none 0 0)⟩ := ⟨_, rfl⟩
  rw [← hr0] at hO
  have hOT := OwnTo.start hO
  have hkT : ∀ w', Keeps (Tw gN (nxR r0 (List.replicate N (.slice none 0 0)) (Gr.nl N []))) w4 w' → Below Q w w' := fun w' h => hb04.trans ((hO.below h).mono (by omega))
  have hTb : ∀ k, Tw gN (nxR r0 (List.replicate N (.slice none 0 0)) (Gr.nl N [])) k → gO ≤ k := fun k hk => by
    rcases hk with rfl | ⟨s, hs, hk⟩
    · exact Nat.le_of_lt hsz.2.1
    · unfold nxR at hs
      rw [nl_nil] at hs
      rcases List.mem_cons.1 hs with rfl | hs
      · rw [hr0] at hk
        have : gO = k := by injection hk
        omega
      · have hz : List.zipWith irw (List.replicate N (.slice none 0 0)) (List.replicate N []) = List.replicate N (irw (.slice none 0 0) []) := by simp
        rw [hz] at hs
        rw [(List.mem_replicate.1 hs).2] at hk
        simp [irw, Value.ownBlock] at hk
  obtain ⟨T0, hT0⟩ : ∃ T, T = Tw gN (nxR r0 (List.replicate N (.slice none 0 0)) (Gr.nl N [])) := ⟨_, rfl⟩
  rw [← hT0] at hOT hkT hTb
  have HR0 := Lib.hid hr0
  have HKT := Lib.hid hkT
  have HLR := Lib.hid (And.intro hlr' (And.intro hlge hllt))
  clear hO hT0 hr0 hkT hlr' hlge hllt hb04 c40
  go_loopw [34] (fun i wr => ∃ (k : Nat) (vs : List Value), k ≤ es.length ∧ i = .int .i64 (k : Int) ∧ vs.length = N ∧ OwnTo (Q + 1) w4 T0 wr gN 29 vs (nxR r0 vs (Gr.nl N (es.take k)))) (fun i _ => es.length - (intOf i).toNat)
  case atStart => exact ⟨0, _, Nat.zero_le _, rfl, by simp, hOT⟩
  case round =>
    obtain ⟨k, vs, hk, rfl, hvl, hOk⟩ := hrel
    have hbw := HKT.out _ hOk.kp
    by_cases hlt : k < es.length
    · obtain ⟨⟨a, b⟩, hx⟩ : ∃ x, es[k]? = some x := ⟨_, List.getElem?_eq_getElem hlt⟩
      obtain ⟨ha, hb⟩ := HES.out _ (List.mem_of_getElem? hx)
      have gx := flat_get edc 2 (fun _ => rfl) es k
      have g1 := gx 0 _ hx (by omega)
      have g2 := gx 1 _ hx (by omega)
      rw [HQ.out] at hbw
      obtain ⟨A', c', he, -, -, -, hcc⟩ := hA.below hbw
      injection he with e1 e2 e3
      subst e1 e3
      obtain ⟨g, o, rfl, hgl, hcell⟩ := hcc.at_ (fun e => by rw [show List.flatMap edc es = edcs es from rfl, e] at g1; simp [edc] at g1)
      have d0 : wr.cell? ⟨g, o + k * 2, none⟩ = some (.int .i64 (a : Int)) := (hcell _ _ g1).trans rfl
      have d1 : wr.cell? ⟨g, o + k * 2 + 1, none⟩ = some (.int .i64 (b : Int)) := by rw [Nat.add_assoc]; exact hcell _ _ g2
      have htk := Gr.take_snoc hx
      have hn1 := Gr.nl_one N (es.take k) a b
      rw [← htk] at hn1
      have hTA := hOk.later (below_alloc (Below.refl _ _) (.cells #[.int .i64 (a : Int), .int .i64 (b : Int)] 75))
      have hE := Blk.new wr 75 [.int .i64 (a : Int), .int .i64 (b : Int)]
      obtain ⟨v, hv⟩ : ∃ v, vs[a]? = some v := ⟨_, List.getElem?_eq_getElem (by omega)⟩
      have hnx : (Gr.nl N (es.take k))[a]? = some (Gr.next (es.take k) a) := Gr.map_get _ _ _ ha
      have hnl : (Gr.next (es.take k) a).length ≤ 1099511627776 := by
        have := List.length_filter_le (fun e : Gr.Ed => e.1 == a) (es.take k)
        rw [List.length_take] at this
        unfold Gr.next
        rw [List.length_map]
        omega
      obtain ⟨nx, hnxq⟩ : ∃ nx, nx = Gr.next (es.take k) a := ⟨_, rfl⟩
      rw [← hnxq] at hnx hn1 hnl
      clear hnxq
      have hvne : v.ownBlock ≠ some wr.heap.size := fun e => by
        have := ((hOk.own.row (a + 1) (nxR_get _ _ _ a v nx hv hnx)).lt _ e).2
        omega
      have HX := Lib.hid (And.intro hn1 (And.intro hv hnx))
      clear hv hnx
      have HA := Lib.hid hA
      clear hOk htk hn1 hx gx g1 g2 hcc hcell e2 hA hbw
      go_upto_region 10 with (fail)
      have hb5 : Below wr.heap.size wr (wr.alloc (.cells #[.int .i64 (a : Int), .int .i64 (b : Int)] 75)) := below_alloc (Below.refl _ _) _
      generalize (wr.alloc (.cells #[.int .i64 (a : Int), .int .i64 (b : Int)] 75)) = w6 at hTA hE hb5 ⊢
      clear d0 d1 hb5
      have hget := nxR_get r0 vs (Gr.nl N (es.take k)) a v nx HX.out.2.1 HX.out.2.2
      have rv : w6.ownsRow (Q + 1) 3 1 v nx.length (ilist nx) := hTA.own.row (a + 1) hget
      have hng : v.ownBlock ≠ some gN := hTA.own.ng _ (List.mem_of_getElem? hget)
      obtain ⟨VB2, cb, rfl, -, -⟩ := own_slice rv
      have hR : ∀ w', Below w6.heap.size w6 w' → w'.ownsRow (Q + 1) 3 1 (.slice VB2 nx.length cb) nx.length (ilist nx) ∧ Q + 1 ≤ w'.heap.size := fun w' hb => ⟨(hTA.own.later hb).row (a + 1) hget, (hTA.own.later hb).base⟩
      have keepS : ∀ w', Keeps (fun k => (Value.slice VB2 nx.length cb).ownBlock = some k) w6 w' → Keeps (fun k => (Value.slice VB2 nx.length cb).ownBlock = some k) w6 w' ∧ w'.cell? ⟨gN, a, none⟩ = some (.slice VB2 nx.length cb) ∧ w'.cell? ⟨wr.heap.size, 0, none⟩ = some (.int .i64 (a : Int)) ∧ w'.cell? ⟨wr.heap.size, 1, none⟩ = some (.int .i64 (b : Int)) := fun w' k =>
        ⟨k, ((hTA.own.blk.keeps k hng).cell a).trans HX.out.2.1, ((hE.keeps k hvne).cell 0).trans rfl, ((hE.keeps k hvne).cell 1).trans rfl⟩
      have hS1 := keepS _ ((Keeps.refl _ w6).drewN 1)
      have hn63 : nx.length + 1 ≤ maxLen := by unfold maxLen; omega
      have hn47 : (nx.length + 1) * 8 ≤ 140737488355328 := by omega
      have HT := Lib.hid (And.intro hTA hget)
      clear hTA rv hE hget hng hvne
      refine wp_walk_mt 13 (fun i => ([11] : List Nat).contains i) (fun i => ([0,1,2,12] : List Nat).contains i) [11] (by intro m h; simpa using h) (by kernel_rfl) (by kernel_rfl) (by kernel_rfl) (fun w w' => Below w.heap.size w w')  (fun w' => Keeps (fun k => (Value.slice VB2 nx.length cb).ownBlock = some k) w6 w' ∧ w'.cell? ⟨gN, a, none⟩ = some (.slice VB2 nx.length cb) ∧ w'.cell? ⟨wr.heap.size, 0, none⟩ = some (.int .i64 (a : Int)) ∧ w'.cell? ⟨wr.heap.size, 1, none⟩ = some (.int .i64 (b : Int))) (fun w' => Below w6.heap.size w6 w') hS1 (below_drew (Below.refl _ _)) (fun _ _ h h' => below_next h' h) ?_
      simp only [List.length_cons, List.length_nil, Nat.reduceAdd, Nat.reduceSub, List.take_succ_cons, List.take_zero, List.drop_succ_cons, List.drop_zero]
      repeat (first | (refine nsettle_skip (by rfl) (fun _ => by rfl) ?_; (simp only [Act.put, List.setIfInBounds_toArray, List.set_cons_zero, List.set_cons_succ])) | (refine' nsettle_run (by rfl) (fun _ _ => Below.refl _ _) (fun _ => by rfl) ?_ ?_; rotate_left; (focus (intro ρ w hS hF hP; (try dsimp only at hS); go_split_ands; go_simp; try with_reducible rfl)); (simp only [Act.put, List.setIfInBounds_toArray, List.set_cons_zero, List.set_cons_succ])))
      (refine nsettle_known (FSl 1 1 [.int .i64 (b : Int)]) (by rfl) (by rfl) (by rfl) (fun _ => by rfl)  ?_ ?_; (focus (intro ρ w hS hF hP K hK; (simp only [Act.put, List.setIfInBounds_toArray, List.set_cons_zero, List.set_cons_succ] at hK); go_simp; exact hK _ _ (SlV.lit w [.int .i64 (b : Int)] 3 1 1 rfl (by decide)) (keepS _ (hS.1.alloc _)) (below_alloc (Below.refl _ _) _))); (simp only [Act.put, List.setIfInBounds_toArray, List.set_cons_zero, List.set_cons_succ]))
      (refine nsettle_mark (FPush w6 (Q + 1) 3 1 (.slice VB2 nx.length cb) (nx.length + 1) (ilist nx ++ [.int .i64 (b : Int)])) (by rfl) (by rfl) (by rfl) (fun _ => by rfl) ?_ ?_; (focus (intro ρ w hS hF hP K hK; refine oper_append (.tmp 45) (.tmp 48) (Q + 1) _ _ _ _ _ Tryd.underlying29 info_int rfl (by decide) (hR w (hP (by rfl))).1 (hF.1 (by rfl)) (by simp [Value.oneCell']) hn63 hn47 (hR w (hP (by rfl))).2 rfl rfl rfl ?_; intro v' w' hown hg hv _; exact hK v' w' ⟨w, hP (by rfl), hg, hown, hv.imp id fun e => ⟨_, Nat.le_refl _, e⟩⟩ (keepS _ (hS.1.trans ((Keeps.of_grown hg).mono fun i hi => hi.symm))))); (simp only [Act.put, List.setIfInBounds_toArray, List.set_cons_zero, List.set_cons_succ]))
      repeat (first | (refine nsettle_skip (by rfl) (fun _ => by rfl) ?_; (simp only [Act.put, List.setIfInBounds_toArray, List.set_cons_zero, List.set_cons_succ])) | (refine' nsettle_run (by rfl) (fun _ _ => Below.refl _ _) (fun _ => by rfl) ?_ ?_; rotate_left; (focus (intro ρ w hS hF hP; (try dsimp only at hS); go_split_ands; go_simp; try with_reducible rfl)); (simp only [Act.put, List.setIfInBounds_toArray, List.set_cons_zero, List.set_cons_succ])))
      refine nsettle_nil ?_
      intro ρ w7 hS hF
      obtain ⟨wa, ha1, ha2, ha3, ha4⟩ := hF 49 (FPush w6 (Q + 1) 3 1 (.slice VB2 nx.length cb) (nx.length + 1) (ilist nx ++ [.int .i64 (b : Int)])) (by repeat (first | exact List.mem_cons_self | apply List.mem_cons_of_mem))
      clear hF hS hS1 keepS hR
      dsimp only
      generalize ρ 48 = v44
      generalize ρ 49 = v4 at ha3 ha4 ⊢
      have hx4 : wa.grownBy w7 (irw (.slice VB2 nx.length cb) nx).v.ownBlock := ha2
      have ho4 : w7.ownsRow (Q + 1) 3 1 v4 (nx ++ [b]).length (ilist (nx ++ [b])) := by simpa [ilist, ints] using ha3
      have hB4 := ((HT.out.1.own.later ha1).put (i := a + 1) HT.out.2 ho4 hx4 ha4).1
      have hend : ∀ w8, Blk w8 gN 29 (vs.set a v4) → w7.grownBy w8 (some gN) → OwnTo (Q + 1) w4 T0 w8 gN 29 (vs.set a v4) (nxR r0 (vs.set a v4) (Gr.nl N (es.take (k + 1)))) := fun w8 b8 g8 => by
        have := (HT.out.1.later ha1).step ((HT.out.1.own.later ha1).put_to (i := a + 1) HT.out.2 ho4 hx4 ha4 b8 g8)
        have e := nxR_i r0 vs (Gr.nl N (es.take k)) a v4 (nx ++ [b])
        rw [← HX.out.1] at e
        exact e ▸ this
      obtain ⟨V4, c4, rfl, -, -⟩ := own_slice ha3
      clear ha1 ha2 ha3 ha4 hx4 ho4
      have hva : a < vs.length := by omega
      refine wpl_set_blk hB4 a _ (by kernel_rfl) hva rfl rfl rfl rfl rfl rfl ?_
      intro w8 hB8 hg8
      have T8 := hend w8 hB8 hg8
      have HT8 := Lib.hid T8
      clear hB4 hB8 hg8 hend T8 HT
      go_wp2_with fail
      go_roundw
      case rel => exact ⟨k + 1, _, by omega, by go_num, by simpa using hvl, HT8.out⟩
      case measure => simp [intOf]; omega
    · obtain rfl : k = es.length := by omega
      rw [List.take_length] at hOk
      clear hA
      have hlr4 := HLR.out.1
      have hlrz : wr.ownsRow (Q + 1) 3 1 (.slice VB N cl) N (ilist (Gr.take N es).reverse) := own_keeps hlr4 hOk.kp (fun k hk e => by have := hTb k e; have := HLR.out.2.2 k hk; omega)
      have r0z : wr.ownsRow (Q + 1) 22 1 (.slice (some ⟨gO, 0, none⟩) N N) N (List.replicate N (.slice none 0 0)) := by
        have := hOk.own.row 0 rfl
        rw [HR0.out] at this
        exact this
      obtain ⟨wz, rfl⟩ : ∃ wz : World, wz = wr := ⟨_, rfl⟩
      have hgz : gO < wz.heap.size := (r0z.lt _ rfl).2
      have hk2 : ∀ w', Keeps (fun k => k = gO) wz w' → (∀ n, n < N → ∃ v, w'.cell? ⟨gN, n, none⟩ = some v ∧ w'.ownsRow (Q + 1) 3 1 v (Gr.next es n).length (ilist (Gr.next es n))) ∧ w'.ownsRow (Q + 1) 3 1 (.slice VB N cl) N (ilist (Gr.take N es).reverse) ∧ Below Q w w' := fun w' hk => by
        refine ⟨fun n hn => ?_, own_keeps hlrz hk (fun k hk e => by have := HLR.out.2.2 k hk; omega), hbw.trans ((hk.below (B := Q) (by have := hbw.size; have := HQ.out; omega) (fun k hk => by omega)).mono (by have := HQ.out; omega))⟩
        obtain ⟨v, hv⟩ : ∃ v, vs[n]? = some v := ⟨_, List.getElem?_eq_getElem (by omega)⟩
        have hget := nxR_get r0 vs (Gr.nl N es) n v _ hv (Gr.map_get _ _ _ hn)
        refine ⟨v, ((hOk.own.blk.keeps hk (by omega)).cell n).trans hv, own_keeps (hOk.own.row (n + 1) hget) hk (fun k hk e => ?_)⟩
        refine hOk.own.ap (n + 1) 0 _ _ hget rfl (by omega) k hk ?_
        rw [HR0.out, e]
        rfl
      have HK2 := Lib.hid hk2
      clear hk2 hlr4 hlrz hOk hbw hOT c41 HKT HLR HR0 hTb hlt
      go_wp2_with fail
      go_loopw [54] (fun i wr => ∃ (k : Nat) (os : List Value), k ≤ N ∧ i = .int .i64 (k : Int) ∧ os.length = N ∧ wr.ownsRow (Q + 1) 22 1 (.slice (some ⟨gO, 0, none⟩) N N) N os ∧ (∀ (i : Nat) (u : Value) (s : List Nat), os[i]? = some u → (Gr.bk N es k)[i]? = some s → SlU wr u s ∧ FarU (fun k => k = gO) u s) ∧ Keeps (fun k => k = gO) wz wr) (fun i _ => N - (intOf i).toNat)
      case atStart => exact ⟨0, _, Nat.zero_le _, rfl, by simp, r0z, fun i u s hu hs => by
        rw [Gr.bk_zero] at hs
        have h1 := List.eq_of_mem_replicate (List.mem_of_getElem? hu)
        have h2 := List.eq_of_mem_replicate (List.mem_of_getElem? hs)
        subst h1 h2
        exact ⟨SlU.nil _, fun h => absurd rfl h⟩, Keeps.refl _ _⟩
      case round =>
        obtain ⟨k, os, hk, rfl, hol, hro, hos, hkz⟩ := hrel
        by_cases hlt : k < N
        · obtain ⟨hnx, hlr, -⟩ := HK2.out _ hkz
          obtain ⟨n, hn⟩ : ∃ n, (Gr.take N es).reverse[k]? = some n := ⟨_, List.getElem?_eq_getElem (by rw [List.length_reverse, HL.out]; exact hlt)⟩
          have hnN : n < N := (Gr.good_take N es).lt n (List.mem_reverse.1 (List.mem_of_getElem? hn))
          obtain ⟨gl, cl', e, -, -, -, -⟩ := own_addr hlr (by omega)
          injection e with e1 e2 e3
          subst e1 e3
          have c0 := own_cell hlr (j := k) (u := .int .i64 (n : Int)) (by unfold ilist ints; rw [List.map_map, List.getElem?_map, hn]; rfl)
          obtain ⟨v, hv, hrv⟩ := hnx n hnN
          obtain ⟨V, cv, rfl, -, -⟩ := own_slice hrv
          have HN := Lib.hid (And.intro hn (And.intro hrv (And.intro hro (And.intro hos hkz))))
          have hln : (Gr.next es n).length ≤ es.length := by unfold Gr.next; rw [List.length_map]; exact List.length_filter_le _ _
          have hgr : gO < wr.heap.size := Nat.lt_of_lt_of_le hgz hkz.size
          clear hn hrv hro hos hkz hnx hlr e2
          go_wp2_with fail
          obtain ⟨wy, rfl⟩ : ∃ wy : World, wy = wr := ⟨_, rfl⟩
          clear c0 hv
          go_loopw [12, 63] (fun u i wr => ∃ j : Nat, j ≤ (Gr.next es n).length ∧ i = .int .i64 (j : Int) ∧ SlU wr u (Gr.bs N es k n j) ∧ New wy.heap.size u ∧ Below wy.heap.size wy wr) (fun _ i _ => (Gr.next es n).length - (intOf i).toNat)
          case atStart => exact ⟨0, Nat.zero_le _, rfl, by rw [Gr.bs_zero]; exact SlU.nil _, New.nil _ _ _, Below.refl _ _⟩
          case round =>
            obtain ⟨j, hj, rfl, hu, hnw, hby⟩ := hrel
            obtain ⟨A8, c8, rfl⟩ := slU_form hu
            by_cases hjl : j < (Gr.next es n).length
            · obtain ⟨m, hm⟩ : ∃ m, (Gr.next es n)[j]? = some m := ⟨_, List.getElem?_eq_getElem hjl⟩
              have hmN : m < N := (HES.out _ (Gr.mem_next.1 (List.mem_of_getElem? hm))).2
              have hrv := own_keeps HN.out.2.1 (Keeps.of_below hby (fun _ => False)) (fun _ _ => id)
              obtain ⟨gv, cv', e, -, -, -, -⟩ := own_addr hrv (by omega)
              injection e with e1 e2 e3
              subst e1 e3
              have c0 := own_cell hrv (j := j) (u := .int .i64 (m : Int)) (by unfold ilist ints; rw [List.map_map, List.getElem?_map, hm]; rfl)
              obtain ⟨um, hum⟩ : ∃ u, os[m]? = some u := ⟨_, List.getElem?_eq_getElem (by omega)⟩
              obtain ⟨sm, hsm⟩ : ∃ s, (Gr.bk N es k)[m]? = some s := ⟨_, List.getElem?_eq_getElem (by rw [Gr.bk_length]; exact hmN)⟩
              have hsu := (HN.out.2.2.2.1 m um sm hum hsm).1.below hby
              have hro := own_keeps HN.out.2.2.1 (Keeps.of_below hby (fun _ => False)) (fun _ _ => id)
              have c2 := own_cell hro hum
              obtain ⟨Am, cm, rfl⟩ := slU_form hsu
              have hst := Gr.bs_step hm (N := N) (k := k)
              rw [List.getD_eq_getElem?_getD, hsm, Option.getD_some] at hst
              have hg1 := Gr.bs_gs (fun e he => (HES.out e he).2) k n j (N := N)
              have hgm := Gr.bk_gs (fun e he => (HES.out e he).2) k _ (List.mem_of_getElem? hsm)
              have HST := Lib.hid hst
              have HJ := Lib.hid (And.intro hm hby)
              obtain ⟨sj, hsj⟩ : ∃ s, s = Gr.bs N es k n j := ⟨_, rfl⟩
              rw [← hsj] at hu hg1 HST ⊢
              have hadd := fun w' (hb : Below wr.heap.size wr w') => put_new w' _ sj m (hu.below hb) (by omega) (Nat.le_trans hg1.length (by omega))
              have hl1 : (Bs.put sj m).length ≤ 17592186044416 := Nat.le_trans (hg1.put hmN).length (by omega)
              have hl2 : sm.length ≤ 17592186044416 := Nat.le_trans hgm.length (by omega)
              have hor := fun w' (v : Value) (hb : Below wr.heap.size wr w') (hv : SlU w' v (Bs.put sj m)) => sor_new w' v _ (Bs.put sj m) sm hv (hsu.below hb) hl1 hl2
              have keepS : ∀ w', Below wr.heap.size wr w' → Below wr.heap.size wr w' ∧ w'.cell? ⟨gO, m, none⟩ = some (.slice Am sm.length cm) := fun w' hb => ⟨hb, (hb.cell (p := ⟨gO, m, none⟩) (Nat.lt_of_lt_of_le hgr hby.size)).trans c2⟩
              have hS0 := keepS _ (below_drew (Below.refl _ _))
              have hby' := Lib.hid hby.size
              clear hm hum hsm hsu hro hst hg1 hgm hby hrv e2 hnw hsj hu
              go_upto_region 19 with (fail)
              refine wp_walk (by kernel_rfl) (by kernel_rfl) (fun w w' => Below w.heap.size w w') (fun w' => Below wr.heap.size wr w' ∧ w'.cell? ⟨gO, m, none⟩ = some (.slice Am sm.length cm)) hS0 ?_
              repeat (first | (refine settle_skip (fun _ => by rfl) ?_; (simp only [Act.put, List.setIfInBounds_toArray, List.set_cons_zero, List.set_cons_succ])) | (refine' settle_run (fun _ _ => Below.refl _ _) (fun _ => by rfl) ?_ ?_; rotate_left; (focus (intro ρ w hS hF; (try dsimp only at hS); go_split_ands; go_simp; try with_reducible rfl)); (simp only [Act.put, List.setIfInBounds_toArray, List.set_cons_zero, List.set_cons_succ])))
              (refine settle_known (FSU wy.heap.size (Bs.put sj m)) (by rfl) (fun _ => by rfl)  ?_ ?_; (focus (intro ρ w hS hF K hK; (simp only [Act.put, List.setIfInBounds_toArray, List.set_cons_zero, List.set_cons_succ] at hK); go_simp; (refine (hadd _ hS.1).mono ?_; rintro e w' ⟨u, rfl, ⟨h1, h2⟩, hb'⟩; exact hK _ _ ⟨h1, h2.mono (Nat.le_trans hby'.out hS.1.size)⟩ (keepS _ (below_next hb' hS.1)) hb'))); (simp only [Act.put, List.setIfInBounds_toArray, List.set_cons_zero, List.set_cons_succ]))
              repeat (first | (refine settle_skip (fun _ => by rfl) ?_; (simp only [Act.put, List.setIfInBounds_toArray, List.set_cons_zero, List.set_cons_succ])) | (refine' settle_run (fun _ _ => Below.refl _ _) (fun _ => by rfl) ?_ ?_; rotate_left; (focus (intro ρ w hS hF; (try dsimp only at hS); go_split_ands; go_simp; try with_reducible rfl)); (simp only [Act.put, List.setIfInBounds_toArray, List.set_cons_zero, List.set_cons_succ])))
              (refine settle_known (FSU wy.heap.size (Bs.op Bs.for_ (Bs.put sj m) sm)) (by rfl) (fun _ => by rfl)  ?_ ?_; (focus (intro ρ w hS hF K hK; (simp only [Act.put, List.setIfInBounds_toArray, List.set_cons_zero, List.set_cons_succ] at hK); go_simp; (refine (hor _ _ hS.1 (hF.1 (by rfl)).1).mono ?_; rintro e w' ⟨u, rfl, ⟨h1, h2⟩, hb'⟩; exact hK _ _ ⟨h1, h2.mono (Nat.le_trans hby'.out hS.1.size)⟩ (keepS _ (below_next hb' hS.1)) hb'))); (simp only [Act.put, List.setIfInBounds_toArray, List.set_cons_zero, List.set_cons_succ]))
              (refine settle_known (FSU wy.heap.size (Bs.op Bs.for_ (Bs.put sj m) sm)) (by rfl) (fun _ => by rfl)  ?_ ?_; (focus (intro ρ w hS hF K hK; (simp only [Act.put, List.setIfInBounds_toArray, List.set_cons_zero, List.set_cons_succ] at hK); go_simp; exact hK _ _ (hF.1 (by rfl)) hS (Below.refl _ _))); (simp only [Act.put, List.setIfInBounds_toArray, List.set_cons_zero, List.set_cons_succ]))
              refine settle_nil ?_
              intro ρ wE hS hF
              obtain ⟨hE1, hE2⟩ := hF 12 (FSU wy.heap.size (Bs.op Bs.for_ (Bs.put sj m) sm)) (by repeat (first | exact List.mem_cons_self | apply List.mem_cons_of_mem))
              dsimp only
              generalize ρ 12 = v12 at hE1 hE2 ⊢
              rw [← HST.out] at hE1
              have HE := Lib.hid (And.intro hE1 (And.intro hE2 (below_next hS.1 HJ.out.2)))
              clear hF hS hS0 keepS hor hadd hE1 hE2 c2
              generalize ρ 69 = v69
              generalize ρ 74 = v74
              go_wp2_with fail
              go_roundw
              case rel => exact ⟨j + 1, by omega, by go_num, HE.out⟩
              case measure => simp [intOf]; omega
            · obtain rfl : j = (Gr.next es n).length := by omega
              have hro := own_keeps HN.out.2.2.1 (Keeps.of_below hby (fun _ => False)) (fun _ _ => id)
              have hst := Gr.bk_step HN.out.1
              have hos := fun i u s hi hs => (HN.out.2.2.2.1 i u s hi hs).1.below hby
              have hfo := fun i u s hi hs => (HN.out.2.2.2.1 i u s hi hs).2
              have hkz : Keeps (fun k => k = gO) wz wr := HN.out.2.2.2.2.trans (Keeps.of_below hby _)
              obtain ⟨sj, hsj⟩ : ∃ s, s = Gr.bs N es k n (Gr.next es n).length := ⟨_, rfl⟩
              rw [← hsj] at hu hst hnw ⊢
              have HST := Lib.hid (And.intro hst hsj)
              obtain ⟨uo, huo⟩ : ∃ u, os[n]? = some u := ⟨_, List.getElem?_eq_getElem (by omega)⟩
              have c9 := own_cell hro huo
              clear hst hsj hby
              have f0 := row_frozen hro n
              have hr6 := row_set hro n (.slice A8 sj.length c8)
              have hg6 := grown_setCell wr gO n (.slice A8 sj.length c8)
              go_wp2_with fail
              generalize (wr.setCell ⟨gO, n, none⟩ (.slice A8 sj.length c8)) = w6 at hr6 hg6 ⊢
              have kk : Keeps (fun k => k = gO) wr w6 := (Keeps.of_grown hg6).mono fun i hi => by injection hi
              have hfn : FarU (fun k => k = gO) (.slice A8 sj.length c8) sj := FarU.new hnw fun k hk => by omega
              have hend : ∀ (i : Nat) (u : Value) (s : List Nat), (os.set n (.slice A8 sj.length c8))[i]? = some u → (Gr.bk N es (k + 1))[i]? = some s → SlU w6 u s ∧ FarU (fun k => k = gO) u s := fun i u s hi hs => by
                rw [HST.out.1] at hs
                by_cases e : n = i
                · subst e
                  rw [List.getElem?_set_self (by omega)] at hi
                  rw [List.getElem?_set_self (by rw [Gr.bk_length]; omega)] at hs
                  injection hi with hi
                  injection hs with hs
                  subst hi hs
                  exact ⟨hu.far kk hfn, hfn⟩
                · rw [List.getElem?_set_ne e] at hi hs
                  exact ⟨(hos i u s hi hs).far kk (hfo i u s hi hs), hfo i u s hi hs⟩
              go_roundw
              case rel => exact ⟨k + 1, _, by omega, by go_num, by simpa using hol, hr6, hend, hkz.step kk fun _ _ h => h⟩
              case measure => simp [intOf]; omega
        · obtain rfl : k = N := by omega
          have hbw := (HK2.out _ hkz).2.2
          have hlk : (Gr.bk k es k).length = k := Gr.bk_length _ _ _
          have hSW : SlW wr (.slice (some ⟨gO, 0, none⟩) k k) (Gr.bk k es k) := by
            refine ⟨os, ?_, fun i u s hu hs => (hos i u s hu hs).1⟩
            rw [hlk]
            exact own_slV hro
          rw [Gr.bk_all HL.out] at hSW
          rw [HQ.out] at hbw
          have HE := Lib.hid (And.intro hSW hbw)
          clear hSW hbw hlk hos hro hkz hol
          go_wp2_with fail
          go_ret2
          exact ⟨_, rfl, HE.out.1, HE.out.2⟩
end Go.Proofs.YtkjmddgnfgbioaaDoor


namespace Go.Proofs.YtkjmddgnfgbioaaDoor
set_option linter.unusedVariables false
set_option linter.unusedSimpArgs false
set_option maxRecDepth 100000
open Go.RowKit

theorem Gr.wrong_zero {n : Int} {es : List Gr.Er} (h : Gr.wrong n es = 0) : Gr.okG n es = true ∧ ∃ N : Nat, n = (N : Int) ∧ N ≤ 200 ∧ (∀ e ∈ Gr.nat es, e.1 < N ∧ e.2 < N) ∧ (Gr.nat es).length = es.length ∧ (Gr.take N (Gr.nat es)).length = N := by
  have hok : Gr.okG n es = true := by
    cases h1 : Gr.okG n es with
    | true => rfl
    | false =>
      unfold Gr.wrong at h
      rw [h1] at h
      cases h
  obtain ⟨N, rfl, hN, hes, hln, -⟩ := Gr.nat_ok hok
  refine ⟨hok, N, rfl, hN, hes, hln, ?_⟩
  unfold Gr.wrong at h
  rw [hok] at h
  simp only [if_true, Int.toNat_natCast] at h
  by_cases hl : (Gr.take N (Gr.nat es)).length < N
  · rw [if_pos hl] at h
    cases h
  · have := (Gr.good_take N (Gr.nat es)).length
    omega

set_option maxHeartbeats 4000000 in
theorem behind_no (R : Int) (hR : R ≠ 0) (w : World) (x : Value) (A : Option Addr) (l c : Nat) (n : Int) (hx : x = .agg #[.int .i64 n, .slice A l c])
    (hs : ∀ w', Below w.heap.size w w' → Calls Tryd.prog 44 #[x] w' fun e w'' => ∃ v, e = .returned (.tuple #[v, .int .i64 R]) ∧ v = .slice none 0 0 ∧ Below w'.heap.size w' w'') :
    Calls Tryd.prog 84 #[x] w fun e w' => ∃ v, e = .returned (.tuple #[v, .int .i64 R]) ∧ v = .slice none 0 0 ∧ Below w.heap.size w w' := by
  subst hx
  have x0 := Blk.new w 72 [.int .i64 n, .slice A l c]
  have hb0 : Below w.heap.size w (w.alloc (.cells #[.int .i64 n, .slice A l c] 72)) := below_alloc (Below.refl _ _) _
  go_enter Tryd.func84, Tryd.ntmps84
  go_upto_region 1 with (fail)
  generalize (w.alloc (.cells #[.int .i64 n, .slice A l c] 72)) = W0 at x0 hb0 ⊢
  have d0 : W0.cell? ⟨w.heap.size, 0, none⟩ = some (.int .i64 n) := (x0.cell 0).trans rfl
  have d1 : W0.cell? ⟨w.heap.size, 1, none⟩ = some (.slice A l c) := (x0.cell 1).trans rfl
  have g0 : (R != 0) = true := by simpa using hR
  have HR := Lib.hid hR
  clear hR
  go_wp2_with fail
  refine (hs W0 hb0).mono ?_
  rintro e w1 ⟨v, rfl, rfl, hb1⟩
  have hb01 := Lib.hid (below_next hb1 hb0)
  clear d0 d1 x0 hs hb1 hb0
  go_wp2_with fail
  go_ret2
  exact ⟨_, rfl, rfl, hb01.out⟩

theorem behind_any (n : Int) (es : List Gr.Er) (w : World) (A : Option Addr) (c : Nat) (hA : SlV w 2 (.slice A es.length c) es.length (ercs es)) (hle : es.length ≤ 1099511627776) (hT : Tab w) :
    Calls Tryd.prog 84 #[.agg #[.int .i64 n, .slice A es.length c]] w fun e w' => ∃ v, e = .returned (.tuple #[v, .int .i64 (Gr.wrong n es)]) ∧ (Gr.wrong n es ≠ 0 → v = .slice none 0 0) ∧ (Gr.wrong n es = 0 → SlW w' v (Gr.behW n.toNat (Gr.nat es))) ∧ Below w.heap.size w w' := by
  have hTb : ∀ w', Below w.heap.size w w' → Tab w' := fun w' hb j hj => (hb.cell (p := ⟨0, j, none⟩) hT.lt).trans (hT j hj)
  have hs := fun w' (hb : Below w.heap.size w w') => sort_any n es w' A c (hA.below hb) hle (hTb w' hb)
  by_cases h0 : Gr.wrong n es = 0
  · obtain ⟨hok, N, rfl, hN, hes, hln, hl⟩ := Gr.wrong_zero h0
    rw [Int.toNat_natCast] at hs ⊢
    have h4 := hA
    rw [ercs_nat hok, ← hln] at h4
    have hb := behind_yes N (Gr.nat es) w A c hN hes hl h4 (by omega) (fun w' hb => by
      rw [hln]
      refine (hs w' hb).mono ?_
      rintro e w'' ⟨v, rfl, -, h2, h3⟩
      have := h2 h0
      rw [hl] at this
      exact ⟨v, by rw [h0], this, h3⟩)
    rw [hln] at hb
    refine hb.mono ?_
    rintro e w' ⟨v, rfl, h1, h2⟩
    exact ⟨v, by rw [h0], fun h => absurd h0 h, fun _ => h1, h2⟩
  · refine (behind_no (Gr.wrong n es) h0 w _ A es.length c n rfl fun w' hb => ?_).mono ?_
    · refine (hs w' hb).mono ?_
      rintro e w'' ⟨v, rfl, h1, -, h3⟩
      exact ⟨v, rfl, h1 h0, h3⟩
    · rintro e w' ⟨v, rfl, h1, h2⟩
      exact ⟨v, rfl, fun _ => h1, fun h => absurd h h0, h2⟩
end Go.Proofs.YtkjmddgnfgbioaaDoor
