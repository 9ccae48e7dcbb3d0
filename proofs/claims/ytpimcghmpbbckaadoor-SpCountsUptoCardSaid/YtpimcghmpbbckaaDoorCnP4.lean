/-
  order.Count, walked: a graph that is right, of fourteen nodes at most.
-/
import Derived.Test.YtpimcghmpbbckaaDoorCnP1
import Derived.Test.YtpimcghmpbbckaaDoorCnP2
import Derived.Test.YtpimcghmpbbckaaDoorChecked
import Derived.Test.YtpimcghmpbbckaaDoorCnP3
import Derived.Deep.DeepCutAuto

namespace Go.Proofs.YtpimcghmpbbckaaDoor
set_option linter.unusedVariables false
set_option linter.unusedSimpArgs false
set_option maxRecDepth 100000
open Go

section
variable {P : Program} {ops : Array Oper} {Q : Exit → Act → World → Prop} {S : World → Prop} {I : Nat → Env → World → Prop} {L : List Tmp} {E : World → World → Prop} {mk fl : Nat → Bool}

def markPB (ops : Array Oper) (n : Nat) (mk fl : Nat → Bool) (ms : List Nat) : Bool :=
  ms.all fun m => (decide (m < n) && (!fl m && match ops[m]? with | some o => o.guard.isNone | none => true)) && (List.range n).all fun i => i == m || (fl i || if i < m then reachB ops 6 m i else reachB ops 6 i m)
structure MarkedP (ops : Array Oper) (mk fl : Nat → Bool) (n : Nat) : Prop where
  lt : ∀ m, mk m = true → m < n
  fix : ∀ m, mk m = true → fl m = false
  gd : ∀ m o, mk m = true → ops[m]? = some o → o.guard = none
  before : ∀ m i, mk m = true → i < m → fl i = false → reachB ops 6 m i = true
  after : ∀ m i, mk m = true → m < i → i < n → fl i = false → reachB ops 6 i m = true
theorem markedP_of {n : Nat} {ms : List Nat} (hms : ∀ m, mk m = true → m ∈ ms) (h : markPB ops n mk fl ms = true) : MarkedP ops mk fl n := by
  have key := List.all_eq_true.1 h
  have k1 : ∀ m, mk m = true → m < n ∧ fl m = false ∧ (match ops[m]? with | some o => o.guard.isNone | none => true) = true := fun m hm => by
    have := key m (hms m hm)
    rw [Bool.and_eq_true, Bool.and_eq_true, Bool.and_eq_true, decide_eq_true_eq] at this
    exact ⟨this.1.1, by simpa using this.1.2.1, this.1.2.2⟩
  have k2 : ∀ m, mk m = true → (List.range n).all (fun i => i == m || (fl i || if i < m then reachB ops 6 m i else reachB ops 6 i m)) = true := fun m hm => by
    have := key m (hms m hm)
    rw [Bool.and_eq_true] at this
    exact this.2
  refine ⟨fun m hm => (k1 m hm).1, fun m hm => (k1 m hm).2.1, fun m o hm ho => ?_, fun m i hm hi hf => ?_, fun m i hm hi hlt hf => ?_⟩
  · have := (k1 m hm).2.2
    rw [ho] at this
    simpa using this
  · have h2 := List.all_eq_true.1 (k2 m hm) i (List.mem_range.2 (by have := (k1 m hm).1; omega))
    have hne : (i == m) = false := by simp; omega
    rw [hne, Bool.false_or, hf, Bool.false_or, if_pos hi] at h2
    exact h2
  · have h2 := List.all_eq_true.1 (k2 m hm) i (List.mem_range.2 hlt)
    have hne : (i == m) = false := by simp; omega
    rw [hne, Bool.false_or, hf, Bool.false_or, if_neg (by omega)] at h2
    exact h2

/-- the marks ahead of it -/
def cntM (mk : Nat → Bool) : Nat → Nat
  | 0 => 0
  | k + 1 => cntM mk k + cond (mk k) 1 0
theorem cntM_mono {a b : Nat} (h : a ≤ b) : cntM mk a ≤ cntM mk b := by
  induction b with
  | zero => rw [Nat.le_zero.1 h]; exact Nat.le_refl _
  | succ b ih =>
    rcases Nat.lt_or_ge a (b + 1) with h' | h'
    · exact Nat.le_trans (ih (by omega)) (Nat.le_add_right _ _)
    · rw [show a = b + 1 by omega]; exact Nat.le_refl _
theorem cntM_lt {a b : Nat} (h : a < b) (hm : mk a = true) : cntM mk a < cntM mk b := by
  have h1 : cntM mk (a + 1) = cntM mk a + 1 := by rw [cntM, hm]; rfl
  have h2 := cntM_mono (mk := mk) (show a + 1 ≤ b by omega)
  omega
/-- the next one -/
theorem cntM_next {a b : Nat} (h : cntM mk a < cntM mk b) : ∃ m, a ≤ m ∧ m < b ∧ mk m = true ∧ cntM mk m = cntM mk a := by
  induction b with
  | zero => exact absurd h (by simp [cntM])
  | succ b ih =>
    by_cases h' : cntM mk a < cntM mk b
    · obtain ⟨m, h1, h2, h3, h4⟩ := ih h'
      exact ⟨m, h1, by omega, h3, h4⟩
    · have hab : a ≤ b := by
        rcases Nat.lt_or_ge b a with h2 | h2
        · have := cntM_mono (mk := mk) (show b + 1 ≤ a by omega)
          omega
        · exact h2
      have := cntM_mono (mk := mk) hab
      rw [cntM] at h
      rcases hb : mk b with _ | _
      · rw [hb] at h; simp at h; omega
      · exact ⟨b, hab, by omega, hb, by omega⟩
/-- what is known in the phase -/
def PreP (mk fl : Nat → Bool) (I : Nat → Env → World → Prop) (k : Nat) (ρ : Env) (w : World) : Prop := fl k = false → I (cntM mk k) ρ w
/-- what a step gives -/
def EsP (mk : Nat → Bool) (E : World → World → Prop) (I : Nat → Env → World → Prop) (k : Nat) (ρ : Env) : World → World → Prop := cond (mk k) (fun _ w' => I (cntM mk k + 1) ρ w') E
def SettleP (P : Program) (ops : Array Oper) (S : World → Prop) (I : Nat → Env → World → Prop) (E : World → World → Prop) (mk fl : Nat → Bool) (Z : (Env → Act) → List (Tmp × Fact E) → Prop) : Nat → List Oper → (Env → Act) → List (Tmp × Fact E) → Prop
  | _, [], A, Fs => Z A Fs
  | k, o :: rest, A, Fs =>
    (∃ v, (∀ ρ w, S w → FactsOK (o.looksAt ops) ρ w (cond (fl k) [] Fs) → PreP mk fl I k ρ w → StepTo P ops S (EsP mk E I k ρ) o (A ρ) w (fun u _ => u = v)) ∧ SettleP P ops S I E mk fl Z (k + 1) rest (fun ρ => (A ρ).put o.dst v) (cond (mk k) [] Fs)) ∨
    (∃ d F, o.dst = some d ∧ fl k = false ∧ (∀ ρ w, S w → FactsOK (o.looksAt ops) ρ w (cond (fl k) [] Fs) → PreP mk fl I k ρ w → StepTo P ops S (EsP mk E I k ρ) o (A ρ) w F.holds) ∧ SettleP P ops S I E mk fl Z (k + 1) rest (fun ρ => (A ρ).put (some d) (ρ d)) ((d, F) :: cond (mk k) [] Fs))

structure PlanP (P : Program) (ops : Array Oper) (S : World → Prop) (I : Nat → Env → World → Prop) (mk fl : Nat → Bool) (a : Act) (l : List (Oper × Kind E)) : Prop where
  dst : ∀ p ∈ l, (∃ F, p.2 = .fresh F) → ∃ d, p.1.dst = some d
  flt : ∀ (j : Nat) p, l[j]? = some p → (∃ F, p.2 = .fresh F) → fl j = false
  step : ∀ pre p post, l = pre ++ p :: post → ∀ ρ w, S w → FactsOK (p.1.looksAt ops) ρ w (cond (fl pre.length) [] (factsM mk 0 pre [])) → PreP mk fl I pre.length ρ w → StepTo P ops S (EsP mk E I pre.length ρ) p.1 (actOf a ρ pre) w p.2.rel

theorem planP_snoc {a : Act} {l : List (Oper × Kind E)} (h : PlanP P ops S I mk fl a l) {p : Oper × Kind E} (h1 : (∃ F, p.2 = .fresh F) → ∃ d, p.1.dst = some d) (h3 : (∃ F, p.2 = .fresh F) → fl l.length = false)
    (h2 : ∀ ρ w, S w → FactsOK (p.1.looksAt ops) ρ w (cond (fl l.length) [] (factsM mk 0 l [])) → PreP mk fl I l.length ρ w → StepTo P ops S (EsP mk E I l.length ρ) p.1 (actOf a ρ l) w p.2.rel) : PlanP P ops S I mk fl a (l ++ [p]) := by
  refine ⟨fun q hq hf => ?_, fun j q hq hf => ?_, fun pre q post he => ?_⟩
  · rcases List.mem_append.1 hq with hq | hq
    · exact h.dst q hq hf
    · rw [List.mem_singleton.1 hq] at hf ⊢
      exact h1 hf
  · rcases Nat.lt_or_ge j l.length with hj | hj
    · rw [List.getElem?_append_left hj] at hq
      exact h.flt j q hq hf
    · rw [List.getElem?_append_right hj] at hq
      have hj' := (List.getElem?_eq_some_iff.1 hq).1
      simp only [List.length_singleton] at hj'
      have e : j = l.length := by omega
      subst e
      simp only [Nat.sub_self, List.getElem?_cons_zero, Option.some.injEq] at hq
      subst hq
      exact h3 hf
  · rcases List.eq_nil_or_concat post with rfl | ⟨post', q', rfl⟩
    · have := List.append_inj' he rfl
      obtain ⟨e1, e2⟩ := this
      injection e2 with e2
      subst e1 e2
      exact h2
    · have e : pre ++ q :: (post' ++ [q']) = (pre ++ q :: post') ++ [q'] := by simp
      rw [List.concat_eq_append, e] at he
      exact h.step pre q post' (List.append_inj' he rfl).1

theorem settleP_plan {Z : (Env → Act) → List (Tmp × Fact E) → Prop} {a : Act} : ∀ (l : List Oper) (pre : List (Oper × Kind E)), PlanP P ops S I mk fl a pre → SettleP P ops S I E mk fl Z pre.length l (fun ρ => actOf a ρ pre) (factsM mk 0 pre []) →
    ∃ full : List (Oper × Kind E), PlanP P ops S I mk fl a full ∧ full.map (·.1) = pre.map (·.1) ++ l ∧ Z (fun ρ => actOf a ρ full) (factsM mk 0 full []) := by
  intro l
  induction l with
  | nil => exact fun pre hp h => ⟨pre, hp, by simp, h⟩
  | cons o rest ih =>
    intro pre hp h
    rcases h with ⟨v, h1, h2⟩ | ⟨d, F, hd, h3, h1, h2⟩
    · obtain ⟨full, q1, q2, q3⟩ := ih (pre ++ [(o, .fixed v)]) (planP_snoc (p := (o, .fixed v)) hp (fun ⟨F, h⟩ => by cases h) (fun ⟨F, h⟩ => by cases h) h1) (by
        have e1 : (fun ρ => actOf a ρ (pre ++ [(o, (Kind.fixed v : Kind E))])) = fun ρ => (actOf a ρ pre).put o.dst v := by
          funext ρ; simp [actOf, Kind.val]
        have e2 : factsM mk 0 (pre ++ [(o, (Kind.fixed v : Kind E))]) [] = cond (mk pre.length) [] (factsM mk 0 pre []) := by rw [factsM_snoc, Nat.zero_add]; rfl
        rw [e1, e2, List.length_append]
        exact h2)
      exact ⟨full, q1, by rw [q2]; simp, q3⟩
    · obtain ⟨full, q1, q2, q3⟩ := ih (pre ++ [(o, .fresh F)]) (planP_snoc (p := (o, .fresh F)) hp (fun _ => ⟨d, hd⟩) (fun _ => h3) h1) (by
        have e1 : (fun ρ => actOf a ρ (pre ++ [(o, (Kind.fresh F : Kind E))])) = fun ρ => (actOf a ρ pre).put (some d) (ρ d) := by
          funext ρ; simp [actOf, Kind.val, hd]
        have e2 : factsM mk 0 (pre ++ [(o, (Kind.fresh F : Kind E))]) [] = (d, F) :: cond (mk pre.length) [] (factsM mk 0 pre []) := by rw [factsM_snoc, Nat.zero_add]; simp [addFact, hd]
        rw [e1, e2, List.length_append]
        exact h2)
      exact ⟨full, q1, by rw [q2]; simp, q3⟩

/-- the temporaries that a phase may speak of: made ahead of all marks -/
def labB (ops : Array Oper) (n : Nat) (ms : List Nat) (L : List Tmp) : Bool :=
  L.all fun t => (List.range n).any fun j => (match ops[j]? with | some o => o.dst == some t | none => false) && ms.all fun m => j != m && reachB ops 6 m j
theorem labB_spec {n : Nat} {ms : List Nat} (hms : ∀ m, mk m = true → m ∈ ms) (h : labB ops n ms L = true) : ∀ t ∈ L, ∃ j o, j < n ∧ ops[j]? = some o ∧ o.dst = some t ∧ ∀ m, mk m = true → j ≠ m ∧ reachB ops 6 m j = true := fun t ht => by
  have := List.all_eq_true.1 h t ht
  obtain ⟨j, hj, hb⟩ := List.any_eq_true.1 this
  rw [Bool.and_eq_true] at hb
  rcases ho : ops[j]? with _ | o
  · rw [ho] at hb; simp at hb
  · rw [ho] at hb
    refine ⟨j, o, List.mem_range.1 hj, ho, by simpa using hb.1, fun m hm => ?_⟩
    have := List.all_eq_true.1 hb.2 m (hms m hm)
    rw [Bool.and_eq_true] at this
    exact ⟨by simpa using this.1, this.2⟩

theorem any_order_ph {a0 : Act} {full : List (Oper × Kind E)} {n : Nat} (hn : n < ops.size) (hops : full.map (·.1) = ops.toList.take n) (hlin : LinearN ops n) (hsk : Region.sinkB .any ops n = true) (hch : Region.chainB .any ops n = true)
    (hsq : ∀ listed : Array Bool, listed.size = ops.size → (∀ i, i < n → listed.getD i false = true) → (∀ i, n ≤ i → listed.getD i false = false) → Region.seqB .any ops (ops.size - n) n listed = true) (hmk : MarkedP ops mk fl n) (hp : PlanP P ops S I mk fl a0 full) (hIE : ∀ c ρ w w', I c ρ w → E w w' → I c ρ w') (hI0 : ∀ ρ ρ' w, I 0 ρ w → I 0 ρ' w) (hIρ : ∀ c ρ ρ' w, (∀ t ∈ L, ρ t = ρ' t) → I c ρ w → I c ρ' w)
    (hL : ∀ t ∈ L, ∃ j o, j < n ∧ ops[j]? = some o ∧ o.dst = some t ∧ ∀ m, mk m = true → j ≠ m ∧ reachB ops 6 m j = true)
    (hZ : ∀ ρ w, S w → I (cntM mk n) ρ w → (∀ t F, (t, F) ∈ factsM mk 0 full [] → F.holds (ρ t) w) → wpList P ops Q (ops.toList.drop n) (actOf a0 ρ full) w) :
    ∀ (fuel : Nat) (listed : Array Bool) (a : Act) (w : World) (ρ : Env), HeadInv .any ops n listed →
      (∃ todo : List Nat, todo.length ≤ fuel ∧ ∀ i, i < n → listed.getD i false = false → i ∈ todo) →
      Holds a0 full (fun i => listed.getD i false = true) ρ a → S w → (∀ c, c ≤ cntM mk n → (∀ m, mk m = true → (listed.getD m false = true ↔ cntM mk m < c)) → I c ρ w) → (∀ (i : Nat) (p : Oper × Kind E) (F : Fact E) (d : Tmp), listed.getD i false = true → (∀ m, mk m = true → i < m → listed.getD m false = false) → full[i]? = some p → p.2 = .fresh F → p.1.dst = some d → F.holds (ρ d) w) →
      wpAny P .any ops Q (fuel + (ops.size - n)) listed a w := by
  have hget : ∀ (i : Nat) (p : Oper × Kind E), full[i]? = some p → ops[i]? = some p.1 := fun i p h => by
    have : (full.map (·.1))[i]? = some p.1 := by simp [h]
    rw [hops, List.getElem?_take] at this
    split at this
    · simpa using this
    · cases this
  have hlen : full.length = n := by
    have := congrArg List.length hops
    simp only [List.length_map, List.length_take, Array.length_toList] at this
    omega
  have hget' : ∀ (i : Nat) (o : Oper), i < n → ops[i]? = some o → ∃ p : Oper × Kind E, full[i]? = some p ∧ p.1 = o := fun i o hin h => by
    have hi : i < full.length := by rw [hlen]; exact hin
    have h1 := hget i _ (List.getElem?_eq_getElem hi)
    rw [h] at h1
    injection h1 with h1
    exact ⟨_, List.getElem?_eq_getElem hi, h1.symm⟩
  have hdist : ∀ (i j : Nat) (p q : Oper × Kind E) (d : Tmp), i < j → full[i]? = some p → full[j]? = some q → p.1.dst = some d → q.1.dst ≠ some d := fun i j p q d hij h1 h2 => hlin.dist i j _ _ d hij (by have := (List.getElem?_eq_some_iff.1 h2).1; omega) (hget i p h1) (hget j q h2)
  have hdist2 : ∀ (i j : Nat) (p q : Oper × Kind E) (d : Tmp), i ≠ j → full[i]? = some p → full[j]? = some q → p.1.dst = some d → q.1.dst ≠ some d := fun i j p q d hij h1 h2 hd hd' => by
    rcases Nat.lt_or_gt_of_ne hij with h | h
    · exact hdist i j p q d h h1 h2 hd hd'
    · exact hdist j i q p d h h2 h1 hd' hd
  -- all have come up
  have fin : ∀ (fuel : Nat) (listed : Array Bool) (a : Act) (w : World) (ρ : Env), HeadInv .any ops n listed → (∀ i, i < n → listed.getD i false = true) → Holds a0 full (fun i => listed.getD i false = true) ρ a → S w → I (cntM mk n) ρ w →
      (∀ (i : Nat) (p : Oper × Kind E) (F : Fact E) (d : Tmp), listed.getD i false = true → (∀ m, mk m = true → i < m → listed.getD m false = false) → full[i]? = some p → p.2 = .fresh F → p.1.dst = some d → F.holds (ρ d) w) → wpAny P .any ops Q (fuel + (ops.size - n)) listed a w := fun fuel listed a w ρ inv hall hH hS hIn hF => by
    have h1 : Holds a0 full (fun i => i < full.length) ρ (actOf a0 ρ full) := by
      have := holds_prefix a0 full ρ hdist full.length (Nat.le_refl _)
      rwa [List.take_length] at this
    have h2 : Holds a0 full (fun i => i < full.length) ρ a :=
      ⟨hH.defers, hH.size, fun t ht => hH.far t fun i p hi hp => ht i p (List.getElem?_eq_some_iff.1 hp).1 hp, fun i p t hi => hH.near i p t (hall i (by omega))⟩
    rw [h2.unique h1]
    have hz := hZ ρ w hS hIn fun t F hm => by
      rcases mem_factsM hm with ⟨h, -⟩ | ⟨i, p, h1, h2, h3, h4⟩
      · cases h
      · exact hF i p F t (hall i (by have := (List.getElem?_eq_some_iff.1 h1).1; omega)) (fun m hm him => absurd (hmk.lt m hm) (fun h => h4 m hm (by omega) (by omega))) h1 h2 h3
    have hdl : (ops.toList.drop n).length = ops.size - n := by simp
    have hs := hsq listed inv.size hall (fun i hi => by
      rcases Nat.lt_or_ge i ops.size with h | h
      · exact getD_both (inv.tail i hi h)
      · simp [Array.getD, inv.size, Nat.not_lt.2 h])
    have := wpAny_seq_more fuel (ops.toList.drop n) n listed (actOf a0 ρ full) w (fun j => by simp [List.getElem?_drop]) (by rw [hdl]; exact hs) hz
    rwa [hdl, Nat.add_comm] at this
  have none_left : ∀ listed : Array Bool, HeadInv .any ops n listed → Region.ready .any ops listed = [] → ∀ m i, i < m → i < n → listed.getD i false = true := by
    intro listed inv hr m
    induction m with
    | zero => intro i h; omega
    | succ m ih =>
      intro i hi hin
      cases hli : listed.getD i false with
      | true => rfl
      | false =>
        have hlt : i < ops.size := by omega
        have ho : ops[i]? = some ops[i] := Array.getElem?_eq_getElem hlt
        have hmem : i ∈ Region.ready .any ops listed := by
          rw [mem_ready]
          refine ⟨?_, _, ho, fun e he hb => ?_⟩
          · simp only [Array.getD, inv.size, hlt, dif_pos] at hli ⊢
            exact hli
          · have := hlin.back i _ hin ho e he hb
            exact ih e.on (by omega) (by omega)
        rw [hr] at hmem
        cases hmem
  have some_left : ∀ listed : Array Bool, (∀ i, i < n → listed.getD i false = true) ∨ ∃ i, i < n ∧ listed.getD i false = false := fun listed => by
    by_cases h : ∃ i, i < n ∧ listed.getD i false = false
    · exact .inr h
    · exact .inl fun i hi => by
        cases hl : listed.getD i false with
        | true => rfl
        | false => exact (h ⟨i, hi, hl⟩).elim
  intro fuel
  induction fuel with
  | zero =>
    intro listed a w ρ inv ⟨todo, htodo, hin⟩ hH hS hS0 hF
    have hall : ∀ i, i < n → listed.getD i false = true := fun i hi => by
      cases hli : listed.getD i false with
      | true => rfl
      | false =>
        have := hin i hi hli
        rw [List.eq_nil_of_length_eq_zero (Nat.le_zero.1 htodo)] at this
        cases this
    exact fin 0 listed a w ρ inv hall hH hS (hS0 _ (Nat.le_refl _) fun m hm => ⟨fun _ => cntM_lt (hmk.lt m hm) hm, fun _ => hall m (hmk.lt m hm)⟩) hF
  | succ fuel ih =>
    intro listed a w ρ inv ⟨todo, htodo, hin⟩ hH hS hS0 hF
    rcases some_left listed with hall | ⟨i0, hi0, hl0⟩
    · exact fin (fuel + 1) listed a w ρ inv hall hH hS (hS0 _ (Nat.le_refl _) fun m hm => ⟨fun _ => cntM_lt (hmk.lt m hm) hm, fun _ => hall m (hmk.lt m hm)⟩) hF
    have hsz := inv.size
    rw [show fuel + 1 + (ops.size - n) = (fuel + (ops.size - n)) + 1 by omega]
    refine ⟨fun hr => ?_, fun i hi => ?_⟩
    · have := none_left listed inv hr (i0 + 1) i0 (by omega) hi0
      rw [hl0] at this
      cases this
    have hilt : i < n := by
      rcases Nat.lt_or_ge i n with h | h
      · exact h
      · exact absurd hi (tail_waits hsk hch hn inv _ i0 rfl hi0 (getD_in (by omega) hl0) i h)
    obtain ⟨h0, o, ho, hall⟩ := mem_ready.1 hi
    have hlt := (Array.getElem?_eq_some_iff.1 ho).1
    have h0' : listed.getD i false = false := by
      simp only [Array.getD, hsz, hlt, dif_pos] at h0 ⊢
      exact h0
    obtain ⟨p, hpi, rfl⟩ := hget' i o hilt ho
    have hil : i < full.length := by omega
    have hpre : Holds a0 full (fun j => j < i) ρ (actOf a0 ρ (full.take i)) := holds_prefix a0 full ρ hdist i (by omega)
    have hsplit : full = full.take i ++ p :: full.drop (i + 1) := by
      have : full[i] = p := by have := List.getElem?_eq_getElem hil; rw [hpi] at this; injection this with this; exact this.symm
      rw [← this, List.getElem_cons_drop, List.take_append_drop]
    have hstep := hp.step _ p _ hsplit ρ w hS
    have conf : ∀ (j : Nat) (q : Oper × Kind E), full[j]? = some q → ∀ t, q.1.dst = some t → t ∈ p.1.looksAt ops → (listed.getD j false = true ↔ j < i) := by
      intro j q hq t hd hl
      have hoj := hget j q hq
      have hjn : j < n := by have := (List.getElem?_eq_some_iff.1 hq).1; omega
      rcases Nat.lt_trichotomy j i with h | h | h
      · refine ⟨fun _ => h, fun _ => ?_⟩
        rcases hlin.wait j i _ _ h hilt hoj ho with hap | ⟨e, he, hb, hon⟩
        · exact absurd hl ((Oper.apart_spec hap).1 t hd)
        · rw [← hon]; exact hall e he hb
      · subst h
        rw [hpi] at hq
        injection hq with hq
        subst hq
        exact absurd hl (hlin.self j _ t hilt ho hd)
      · refine ⟨fun hj => ?_, fun h' => by omega⟩
        exfalso
        rcases hlin.wait i j _ _ h hjn ho hoj with hap | ⟨e, he, hb, hon⟩
        · exact absurd hl ((Oper.apart_spec hap).2.2 t hd)
        · have := inv.closed j _ hoj hj e he hb
          rw [hon, h0'] at this
          cases this
    have hdown' : ∀ j o, listed.getD j false = true → ops[j]? = some o → ∀ e ∈ o.after, Region.binds .any e = true → listed.getD e.on false = true := fun j o hj ho e he hb => inv.closed j o ho hj e he hb
    have later : ∀ m, mk m = true → i < m → fl i = false → listed.getD m false = false := fun m hm him hfl => by
      cases hlm : listed.getD m false with
      | false => rfl
      | true =>
        have := reach_closed hdown' 6 m i (hmk.before m i hm him hfl) hlm
        rw [h0'] at this
        cases this
    have hfacts : FactsOK (p.1.looksAt ops) ρ w (cond (fl i) [] (factsM mk 0 (full.take i) [])) := factsOK_of _ fun t F hm hl => by
      rcases hfl : fl i with _ | _
      case true => rw [hfl] at hm; cases hm
      rw [hfl] at hm
      rcases mem_factsM hm with ⟨h, -⟩ | ⟨j, q, h1, h2, h3, h4⟩
      · cases h
      · have hji : j < i := by
          have := (List.getElem?_eq_some_iff.1 h1).1
          rw [List.length_take] at this
          omega
        have hq : full[j]? = some q := by
          rw [List.getElem?_take, if_pos hji] at h1
          exact h1
        refine hF j q F t ((conf j q hq t h3 (by simpa using hl)).2 hji) (fun m hm hjm => ?_) hq h2 h3
        rcases Nat.lt_trichotomy i m with h | h | h
        · exact later m hm h hfl
        · rw [← h]; exact h0'
        · exact absurd (h4 m hm (by omega) (by rw [List.length_take]; omega)) id
    have hli' : (full.take i).length = i := by rw [List.length_take]; omega
    have earlier : ∀ m, mk m = true → m < i → fl i = false → listed.getD m false = true := fun m hm him hfl => by
      have hr := hmk.after m i hm him hilt hfl
      unfold reachB at hr
      rw [Bool.or_eq_true] at hr
      rcases hr with hr | hr
      · have : i = m := by simpa using hr
        omega
      · rw [ho] at hr
        obtain ⟨k, hk, hb⟩ := Array.any_eq_true.1 hr
        rw [Bool.and_eq_true] at hb
        exact reach_closed hdown' 5 _ _ hb.2 (hall _ (Array.getElem_mem hk) hb.1)
    have hst := hstep (by rw [hli']; exact hfacts) (by
      rw [hli']
      intro hfl
      refine hS0 _ (cntM_mono (by omega)) fun m hm => ?_
      rcases Nat.lt_trichotomy i m with h | h | h
      · rw [later m hm h hfl]
        have := cntM_mono (mk := mk) (show i ≤ m by omega)
        simp; omega
      · rw [← h, h0']
        simp
      · rw [earlier m hm h hfl]
        simp [cntM_lt h hm])
    have hag : ∀ t, t ∈ p.1.looksAt ops → a.tmps[t]? = (actOf a0 ρ (full.take i)).tmps[t]? := fun t ht =>
      hH.agree hpre t fun j q hq hd => conf j q hq t hd ht
    have hexec : execOp a.eval p.1 = execOp (actOf a0 ρ (full.take i)).eval p.1 := execOp_congr p.1 (fun cs b => hlin.sel i _ cs b ho) fun x hx => by
      cases x with
      | tmp t =>
        have := hag t (List.mem_append_left _ (List.mem_filterMap.2 ⟨.tmp t, by simpa using hx, rfl⟩))
        simp only [Act.eval, Array.getD_eq_getD_getElem?]
        rw [this]
      | _ => rfl
    have hwant : Region.wanted p.1 (yielded ops a.tmps) = Region.wanted p.1 (yielded ops (actOf a0 ρ (full.take i)).tmps) := by
      unfold Region.wanted
      cases hg : p.1.guard with
      | none => rfl
      | some gw =>
        obtain ⟨g, want⟩ := gw
        have : yielded ops a.tmps g = yielded ops (actOf a0 ρ (full.take i)).tmps g := by
          unfold yielded
          cases ht : (ops[g]?).bind (·.dst) with
          | none => rfl
          | some t =>
            have := hag t (List.mem_append_right _ (by simp [hg, ht]))
            simp only [Option.bind_some, this]
        simp only [this]
    have size_eq : (actOf a0 ρ (full.take i)).tmps.size = a.tmps.size := hpre.size.trans hH.size.symm
    -- the way on
    have go : ∀ v w', p.2.rel v w' → S w' → (∀ c, c ≤ cntM mk n → (∀ m, mk m = true → ((listed.setIfInBounds i true).getD m false = true ↔ cntM mk m < c)) → I c ρ w') → (∀ (j : Nat) (q : Oper × Kind E) (F : Fact E) (d : Tmp), listed.getD j false = true → (∀ m, mk m = true → j < m → (listed.setIfInBounds i true).getD m false = false) → full[j]? = some q → q.2 = .fresh F → q.1.dst = some d → F.holds (ρ d) w') →
        wpAny P .any ops Q (fuel + (ops.size - n)) (listed.setIfInBounds i true) (a.put p.1.dst v) w' := by
      intro v w' hR hS' hS0' hF'
      have next : ∀ ρ' : Env, p.2.val ρ' p.1 = v → (∀ j q, j ≠ i → full[j]? = some q → q.2.val ρ' q.1 = q.2.val ρ q.1) → (∀ j q F d, j ≠ i → full[j]? = some q → q.2 = .fresh F → q.1.dst = some d → ρ' d = ρ d) → (∀ F d, p.2 = .fresh F → p.1.dst = some d → F.holds (ρ' d) w') → (∀ t, (∀ F, p.2 = .fresh F → p.1.dst ≠ some t) → ρ' t = ρ t) →
          wpAny P .any ops Q (fuel + (ops.size - n)) (listed.setIfInBounds i true) (a.put p.1.dst v) w' := by
        intro ρ' hv hothers hd' hself hρ
        have hset : ∀ j, (listed.setIfInBounds i true).getD j false = true ↔ j = i ∨ listed.getD j false = true := fun j => by
          by_cases hji : j = i
          · subst hji
            simp [Array.getD, hsz, hlt]
          · rw [getD_set_ne false (Ne.symm hji)]
            simp [hji]
        refine ih _ _ _ ρ' (inv.set hi hilt) ⟨todo.filter (· != i), ?_, fun j hj hjl => ?_⟩ ?_ hS' (fun c hc hcm => ?_) (fun j q F d hj hjm hq hf hd => ?_)
        · have : (todo.filter (· != i)).length < todo.length := by
            rw [List.length_filter_lt_length_iff_exists]
            exact ⟨i, hin i hilt h0', by simp⟩
          omega
        · have hne : j ≠ i := fun e => by
            have := (hset j).2 (.inl e)
            rw [this] at hjl
            cases hjl
          refine List.mem_filter.2 ⟨hin j hj ?_, by simpa using hne⟩
          rwa [getD_set_ne false (Ne.symm hne)] at hjl
        · have := hH.put (ρ' := ρ') hpi hset (fun j q hj hq d hd => hdist2 j i q p d (fun e => by rw [e, h0'] at hj; cases hj) hq hpi hd) (fun j q hj hq => hothers j q (fun e => by rw [e, h0'] at hj; cases hj) hq)
          rwa [hv] at this
        · have hold := hS0' c hc hcm
          rcases c with _ | c
          · exact hI0 ρ ρ' w' hold
          · refine hIρ _ ρ ρ' w' (fun t ht => ?_) hold
            obtain ⟨j0, o0, hj0, ho0, hd0, hbm⟩ := hL t ht
            refine (hρ t fun F hF hd => ?_).symm
            have hji : j0 = i := by
              rcases Nat.lt_trichotomy j0 i with h | h | h
              · exact absurd hd (hlin.dist j0 i o0 p.1 t h hilt ho0 ho hd0)
              · exact h
              · exact absurd hd0 (hlin.dist i j0 p.1 o0 t h hj0 ho ho0 hd)
            obtain ⟨m0, -, hm0, hmk0, hc0⟩ := cntM_next (mk := mk) (a := 0) (b := n) (by simp [cntM]; omega)
            have hml := (hcm m0 hmk0).2 (by rw [hc0]; simp [cntM])
            obtain ⟨hne, hre⟩ := hbm m0 hmk0
            have hml' : listed.getD m0 false = true := ((hset m0).1 hml).resolve_left (fun e => hne (by omega))
            have := reach_closed hdown' 6 m0 j0 hre hml'
            rw [hji, h0'] at this
            cases this
        · rcases (hset j).1 hj with rfl | hj
          · rw [hpi] at hq
            injection hq with hq
            subst hq
            exact hself F d hf hd
          · have hne : j ≠ i := fun e => by rw [e, h0'] at hj; cases hj
            rw [hd' j q F d hne hq hf hd]
            exact hF' j q F d hj hjm hq hf hd
      cases hk : p.2 with
      | fixed v0 =>
        have hv : v = v0 := by rw [hk] at hR; exact hR
        exact next ρ (by rw [hk]; exact hv.symm) (fun _ _ _ _ => rfl) (fun _ _ _ _ _ _ _ _ => rfl) (fun F d hf => by rw [hk] at hf; cases hf) (fun _ _ => rfl)
      | fresh F =>
        obtain ⟨d, hd⟩ := hp.dst p (by rw [hsplit]; simp) ⟨F, hk⟩
        have hR' : F.holds v w' := by rw [hk] at hR; exact hR
        have hne : ∀ j q d', j ≠ i → full[j]? = some q → q.1.dst = some d' → d' ≠ d := fun j q d' hji hq hd' e => hdist2 j i q p d' hji hq hpi hd' (by rw [hd, e])
        refine next (fun t => if t = d then v else ρ t) (by rw [hk]; simp [Kind.val, hd]) (fun j q hji hq => ?_) (fun j q F' d' hji hq _ hd' => if_neg (hne j q d' hji hq hd')) (fun F' d' hf hd' => ?_) (fun t ht => if_neg (fun e => ht F hk (by rw [hd, e])))
        · cases hkq : q.2 with
          | fixed v0 => rfl
          | fresh F' =>
            obtain ⟨d', hd'⟩ := hp.dst q (List.mem_of_getElem? hq) ⟨F', hkq⟩
            simp only [Kind.val, hd']
            exact if_neg (hne j q d' hji hq hd')
        · rw [hk] at hf
          injection hf with hf
          rw [hd] at hd'
          injection hd' with hd'
          subst hf hd'
          simpa using hR'
    have hset' : ∀ j, (listed.setIfInBounds i true).getD j false = false → listed.getD j false = false := fun j hj => by
      by_cases hji : j = i
      · rw [hji]; exact h0'
      · rwa [getD_set_ne false (Ne.symm hji)] at hj
    have hlen_i : (full.take i).length = i := by rw [List.length_take]; omega
    have hseti : (listed.setIfInBounds i true).getD i false = true := by simp [Array.getD, hsz, hlt]
    rw [hlen_i] at hst
    unfold wpOp
    simp only [ho]
    unfold StepTo at hst
    rw [← hwant] at hst
    split
    · rename_i hw
      rw [if_pos hw] at hst
      refine .inl (wp_carry (R := fun v w' => p.2.rel v w' ∧ S w' ∧ (EsP mk E I i ρ) w w') hexec size_eq (hst _ fun v w' h1 h2 h3 => ⟨v, rfl, h1, h2, h3⟩) fun v w' ⟨h1, h2, h3⟩ => go v w' h1 h2 (fun c hc hcm => ?_) fun j q F d hj hjm hq hf hd => ?_)
      · rcases hmi : mk i with _ | _
        · unfold EsP at h3
          rw [hmi] at h3
          refine hIE _ _ _ _ (hS0 c hc fun m hm => ?_) h3
          rw [← hcm m hm, getD_set_ne false (fun e => by rw [← e, hmi] at hm; cases hm)]
        · unfold EsP at h3
          rw [hmi] at h3
          have hci := (hcm i hmi).1 hseti
          have hceq : c = cntM mk i + 1 := by
            apply Classical.byContradiction
            intro hne
            have h1i : cntM mk (i + 1) = cntM mk i + 1 := by rw [cntM, hmi]; rfl
            obtain ⟨m', hm1, hm2, hm3, hm4⟩ := cntM_next (mk := mk) (a := i + 1) (b := n) (by omega)
            have hl := (hcm m' hm3).2 (by omega)
            rw [getD_set_ne false (by omega), later m' hm3 (by omega) (hmk.fix i hmi)] at hl
            cases hl
          rw [hceq]
          exact h3
      rcases hmi : mk i with _ | _
      · unfold EsP at h3
        rw [hmi] at h3
        exact F.keep _ _ _ (hF j q F d hj (fun m hm h => hset' m (hjm m hm h)) hq hf hd) h3
      · exfalso
        rcases Nat.lt_trichotomy j i with h | h | h
        · have := hjm i hmi h
          rw [hseti] at this
          cases this
        · rw [h, h0'] at hj; cases hj
        · have := reach_closed hdown' 6 j i (hmk.after i j hmi h (by have := (List.getElem?_eq_some_iff.1 hq).1; omega) (hp.flt j q hq ⟨F, hf⟩)) hj
          rw [h0'] at this
          cases this
    · rename_i hw
      rw [if_neg hw] at hst
      have hni : mk i = false := by
        rcases hmi : mk i with _ | _
        · rfl
        · exact absurd (by simp [Region.wanted, hmk.gd i _ hmi ho]) hw
      exact go undef w hst hS (fun c hc hcm => hS0 c hc fun m hm => by rw [← hcm m hm, getD_set_ne false (fun e => by rw [← e, hni] at hm; cases hm)]) fun j q F d hj hjm hq hf hd => hF j q F d hj (fun m hm h => hset' m (hjm m hm h)) hq hf hd

/-- the same, that nothing looks into -/
structure WalkP (P : Program) (ops : Array Oper) (S : World → Prop) (I : Nat → Env → World → Prop) (E : World → World → Prop) (mk fl : Nat → Bool) (Z : (Env → Act) → List (Tmp × Fact E) → Prop) (k : Nat) (l : List Oper) (A : Env → Act) (Fs : List (Tmp × Fact E)) : Prop where
  out : SettleP P ops S I E mk fl Z k l A Fs

/-- THE RULE, with marks and a tail of n operations ahead of it -/
theorem wp_walk_ph {id : Nat} {a : Act} {w : World} {l : List Oper} (n : Nat) (mk fl : Nat → Bool) (ms : List Nat) (hms : ∀ m, mk m = true → m ∈ ms) (hm : P.follows .mixedOrders = true) (hB : tailB l.toArray n = true) (hmk : markPB l.toArray n mk fl ms = true) (L : List Tmp) (hLB : labB l.toArray n ms L = true) (E : World → World → Prop) (S : World → Prop) (I : Nat → Env → World → Prop) (hS : S w.drew) (hS0 : ∀ ρ, I 0 ρ w.drew) (hIE : ∀ c ρ w w', I c ρ w → E w w' → I c ρ w') (hI0 : ∀ ρ ρ' w, I 0 ρ w → I 0 ρ' w) (hIρ : ∀ c ρ ρ' w, (∀ t ∈ L, ρ t = ρ' t) → I c ρ w → I c ρ' w)
    (h : WalkP P l.toArray S I E mk fl (fun A Fs => ∀ ρ w', S w' → I (cntM mk n) ρ w' → (∀ t F, (t, F) ∈ Fs → F.holds (ρ t) w') → wpList P l.toArray Q (l.drop n) (A ρ) w') 0 (l.take n) (fun _ => a) []) : (Code.region id l.toArray true).wp P Q a w := by
  simp only [tailB, Bool.and_eq_true, decide_eq_true_eq] at hB
  obtain ⟨⟨⟨⟨hn, hlin⟩, hs⟩, hc⟩, hq⟩ := hB
  obtain ⟨full, hp, he, hZ⟩ := settleP_plan (l.take n) [] ⟨(fun _ h => by cases h), (fun j p h => by simp at h), (fun pre p post he => by simp at he)⟩ h.out
  have inv0 : HeadInv .any l.toArray n (Array.replicate l.toArray.size false) :=
    ⟨by simp, fun j oj _ hl => (by rw [getD_replicate_false] at hl; cases hl), fun t _ ht => getD_in (by simpa using ht) (getD_replicate_false _ _)⟩
  have := any_order_ph (P := P) (Q := Q) hn (by simpa using he) (linearN_of hlin) hs hc (fun listed hsz h1 h2 => by
    have hn' := hn
    rw [show listed = (Array.replicate n true) ++ (Array.replicate (l.toArray.size - n) false) from getD_ext (by simp only [Array.size_append, Array.size_replicate]; omega) fun i => by
      rw [Array.getD_eq_getD_getElem? (xs := _ ++ _), Array.getElem?_append]
      rcases Nat.lt_or_ge i n with h | h
      · rw [h1 i h]
        simp [h]
      · rw [h2 i h]
        simp only [Array.size_replicate, Nat.not_lt.2 h, if_false, Array.getElem?_replicate]
        split <;> rfl]
    exact hq) (markedP_of hms hmk) hp hIE hI0 hIρ (labB_spec hms hLB) hZ n _ a w.drew (fun _ => undef) inv0 ⟨List.range n, by simp, fun i hi _ => List.mem_range.2 hi⟩ ⟨rfl, rfl, fun _ _ => rfl, fun i p t hi => ?_⟩ hS (fun c hc hcm => ?_) fun i p F d hi => ?_
  · refine wp_region_any hm ?_
    rwa [show n + (l.toArray.size - n) = l.toArray.size by omega] at this
  · exfalso; rw [getD_replicate_false] at hi; cases hi
  · rcases c with _ | c
    · exact hS0 _
    · obtain ⟨m0, -, hm0, hmk0, hc0⟩ := cntM_next (mk := mk) (a := 0) (b := n) (by simp [cntM]; omega)
      have := (hcm m0 hmk0).2 (by rw [hc0]; simp [cntM])
      rw [getD_replicate_false] at this
      cases this
  · exfalso; rw [getD_replicate_false] at hi; cases hi
variable {Z : (Env → Act) → List (Tmp × Fact E) → Prop} {o : Oper} {rest : List Oper} {A : Env → Act} {Fs : List (Tmp × Fact E)} {k : Nat}
theorem psettle_nil (h : Z A Fs) : WalkP P ops S I E mk fl Z k [] A Fs := ⟨h⟩
theorem psettle_skip (hmk : mk k = false) (hw : ∀ ρ, Region.wanted o (yielded ops (A ρ).tmps) = false) (h : WalkP P ops S I E mk fl Z (k + 1) rest (fun ρ => (A ρ).put o.dst undef) Fs) : WalkP P ops S I E mk fl Z k (o :: rest) A Fs :=
  ⟨.inl ⟨undef, fun ρ w _ _ _ => by unfold StepTo; rw [if_neg (by rw [hw]; simp)], by rw [hmk]; exact h.out⟩⟩
theorem psettle_run {v : Value} (hmk : mk k = false) (hE : ∀ w, S w → E w w) (hw : ∀ ρ, Region.wanted o (yielded ops (A ρ).tmps) = true)
    (hr : ∀ ρ w, S w → FactsOK (o.looksAt ops) ρ w (cond (fl k) [] Fs) → PreP mk fl I k ρ w → (execOp (A ρ).eval o).run P w = .ok (.value v) w) (h : WalkP P ops S I E mk fl Z (k + 1) rest (fun ρ => (A ρ).put o.dst v) Fs) : WalkP P ops S I E mk fl Z k (o :: rest) A Fs :=
  ⟨.inl ⟨v, fun ρ w hS hF hP => by
    unfold StepTo
    rw [if_pos (hw ρ)]
    unfold EsP
    rw [hmk]
    intro K hK
    unfold Oper.wp
    rw [hr ρ w hS hF hP]
    exact hK v w rfl hS (hE w hS), by rw [hmk]; exact h.out⟩⟩
theorem psettle_step {v : Value} (hmk : mk k = false) (hw : ∀ ρ, Region.wanted o (yielded ops (A ρ).tmps) = true)
    (hc : ∀ ρ w, S w → FactsOK (o.looksAt ops) ρ w (cond (fl k) [] Fs) → PreP mk fl I k ρ w → ∀ K : Act → World → Prop, (∀ w', S w' → E w w' → K ((A ρ).put o.dst v) w') → o.wp P (A ρ) w K (fun _ _ _ => False)) (h : WalkP P ops S I E mk fl Z (k + 1) rest (fun ρ => (A ρ).put o.dst v) Fs) : WalkP P ops S I E mk fl Z k (o :: rest) A Fs :=
  ⟨.inl ⟨v, fun ρ w hS hF hP => by
    unfold StepTo
    rw [if_pos (hw ρ)]
    unfold EsP
    rw [hmk]
    exact fun K hK => hc ρ w hS hF hP K fun w' h1 h2 => hK v w' rfl h1 h2, by rw [hmk]; exact h.out⟩⟩
theorem psettle_known {d : Tmp} (F : Fact E) (hmk : mk k = false) (hfl : fl k = false) (hd : o.dst = some d) (hw : ∀ ρ, Region.wanted o (yielded ops (A ρ).tmps) = true)
    (hc : ∀ ρ w, S w → FactsOK (o.looksAt ops) ρ w (cond (fl k) [] Fs) → PreP mk fl I k ρ w → ∀ K : Act → World → Prop, (∀ v w', F.holds v w' → S w' → E w w' → K ((A ρ).put o.dst v) w') → o.wp P (A ρ) w K (fun _ _ _ => False)) (h : WalkP P ops S I E mk fl Z (k + 1) rest (fun ρ => (A ρ).put (some d) (ρ d)) ((d, F) :: Fs)) : WalkP P ops S I E mk fl Z k (o :: rest) A Fs :=
  ⟨.inr ⟨d, F, hd, hfl, fun ρ w hS hF hP => by
    unfold StepTo
    rw [if_pos (hw ρ)]
    unfold EsP
    rw [hmk]
    exact fun K hK => hc ρ w hS hF hP K hK, by rw [hmk]; exact h.out⟩⟩
/-- a mark: what was known is forgotten -/
theorem psettle_mark {d : Tmp} (F : Fact E) (hmk : mk k = true) (hfl : fl k = false) (hd : o.dst = some d) (hw : ∀ ρ, Region.wanted o (yielded ops (A ρ).tmps) = true)
    (hc : ∀ ρ w, S w → FactsOK (o.looksAt ops) ρ w (cond (fl k) [] Fs) → PreP mk fl I k ρ w → ∀ K : Act → World → Prop, (∀ v w', F.holds v w' → S w' → I (cntM mk k + 1) ρ w' → K ((A ρ).put o.dst v) w') → o.wp P (A ρ) w K (fun _ _ _ => False)) (h : WalkP P ops S I E mk fl Z (k + 1) rest (fun ρ => (A ρ).put (some d) (ρ d)) [(d, F)]) : WalkP P ops S I E mk fl Z k (o :: rest) A Fs :=
  ⟨.inr ⟨d, F, hd, hfl, fun ρ w hS hF hP => by
    unfold StepTo
    rw [if_pos (hw ρ)]
    unfold EsP
    rw [hmk]
    exact fun K hK => hc ρ w hS hF hP K fun v w' h1 h2 h3 => hK v w' h1 h2 h3, by rw [hmk]; exact h.out⟩⟩
/-- a mark whose value is known, or that has none -/
theorem psettle_turn {v : Value} (hmk : mk k = true) (hw : ∀ ρ, Region.wanted o (yielded ops (A ρ).tmps) = true)
    (hc : ∀ ρ w, S w → FactsOK (o.looksAt ops) ρ w (cond (fl k) [] Fs) → PreP mk fl I k ρ w → ∀ K : Act → World → Prop, (∀ w', S w' → I (cntM mk k + 1) ρ w' → K ((A ρ).put o.dst v) w') → o.wp P (A ρ) w K (fun _ _ _ => False)) (h : WalkP P ops S I E mk fl Z (k + 1) rest (fun ρ => (A ρ).put o.dst v) []) : WalkP P ops S I E mk fl Z k (o :: rest) A Fs :=
  ⟨.inl ⟨v, fun ρ w hS hF hP => by
    unfold StepTo
    rw [if_pos (hw ρ)]
    unfold EsP
    rw [hmk]
    exact fun K hK => hc ρ w hS hF hP K fun w' h1 h2 => hK v w' rfl h1 h2, by rw [hmk]; exact h.out⟩⟩
end
end Go.Proofs.YtpimcghmpbbckaaDoor


namespace Go.Proofs.YtpimcghmpbbckaaDoor
set_option linter.unusedVariables false
set_option linter.unusedSimpArgs false
set_option maxRecDepth 100000
open Go.RowKit

theorem info_int' : (Tryd.prog.info? 3).map (fun i => (i.zero, i.size, i.bytes)) = some (some (.int .i64 0), 1, 8) := by kernel_rfl
def hnats (l : List Nat) : List Value := l.map fun (x : Nat) => Value.int .i64 (x : Int)
theorem hnats_length (l : List Nat) : (hnats l).length = l.length := by simp [hnats]
theorem hnats_at {l : List Nat} {i : Nat} (h : i < l.length) : (hnats l)[i]? = some (.int .i64 (Hp.at_ l i : Int)) := by
  unfold hnats
  rw [List.getElem?_map, Hp.at_get h]
  rfl
theorem hnats_set (l : List Nat) (i x : Nat) : (hnats l).set i (.int .i64 (x : Int)) = hnats (l.set i x) := by simp [hnats, List.map_set]
theorem hp_cell {w : World} {B g n c : Nat} {e : TypeId} {xs : List Value} (h : w.ownsRow B e 1 (.slice (some ⟨g, 0, none⟩) n c) n xs) {j : Nat} {u : Value} (hj : xs[j]? = some u) : w.cell? ⟨g, j, none⟩ = some u := by
  obtain ⟨cs, hB, -, ht, -⟩ := row_blk h
  rw [hB.cell]
  rw [← ht, List.getElem?_take] at hj
  split at hj
  · exact hj
  · cases hj

/-- a store into a row of the call's own, as one operation -/
theorem wp_set_row {P : Program} {w : World} {B g n c : Nat} {e : TypeId} {xs : List Value} {o : Oper} {a : Act} {K : Act → World → Prop} {Q : Exit → Act → World → Prop} (h : w.ownsRow B e 1 (.slice (some ⟨g, 0, none⟩) n c) n xs) (x y : Operand) (i : Nat) (u : Value) {ty : TypeId} (hi : (P.info? ty).map (·.size) = some 1) (hk : i < n) (hu : u.cells = #[u]) (h1 : u.oneCell' = true)
    (ho : o.op = .store ty x y) (hx : a.eval x = .pointer (some ⟨g, i, none⟩)) (hy : a.eval y = u)
    (hK : ∀ w', w'.ownsRow B e 1 (.slice (some ⟨g, 0, none⟩) n c) n (xs.set i u) → w.grownBy w' (some g) → K (a.put o.dst undef) w') : o.wp P a w K Q := by
  obtain ⟨cs, hB, hl, rfl, hn, hm, hb⟩ := row_blk h
  rw [Nat.mul_one] at hl
  have hk' : i < cs.length := by omega
  obtain ⟨inf, hii, his⟩ := Option.map_eq_some_iff.1 hi
  have := run_storeCells_at P g i e [u] 0 cs.toArray w hB (by simp; omega) (by simpa using h1)
  simp only [Nat.add_zero, List.length_singleton] at this
  have hrun : (storeVar ty ⟨g, i, none⟩ u).run P w = .ok () (w.setRow g (cs.take i ++ [u] ++ cs.drop (i + 1)).toArray) := by
    simp [storeVar, sizeOf, typeInfo, hii, his, hu, this]
  have e1 : cs.take i ++ [u] ++ cs.drop (i + 1) = cs.set i u := by
    rw [List.set_eq_take_append_cons_drop, if_pos hk']
    simp
  rw [e1] at hrun
  unfold Oper.wp execOp
  simp only [ho, hx, hy, Instr.storeAt, Instr.sureAddr, Sem.run_bind, Sem.run_pure, Result.andThen_ok, hrun]
  refine hK _ ?_ (grown_setRow _ _ _)
  have := row_of_blk (size := 1) (c := c) (n := n) (hB.row (cs.set i u)) (by simpa using hl) hb hn hm
  rw [List.take_set] at this
  exact this

/-- the heap at p has l in the row u -/
structure HpR (w : World) (B p : Nat) (u : Value) (l : List Nat) : Prop where
  blk : Blk w p 65 [u]
  row : w.ownsRow B 3 1 u l.length (hnats l)
  base : B ≤ w.heap.size
def HpT (p : Nat) (u : Value) (k : Nat) : Prop := k = p ∨ u.ownBlock = some k
theorem HpR.ne {w : World} {B p : Nat} {u : Value} {l : List Nat} (h : HpR w B p u l) : u.ownBlock ≠ some p := own_blk_ne h.row h.blk (by decide)

set_option maxHeartbeats 2000000 in
theorem push_any (w : World) (B p : Nat) (u : Value) (l : List Nat) (x : Nat) (hR : HpR w B p u l) (hOk : Hp.Ok l) (hn : l.length ≤ 1000000) :
    Calls Tryd.prog 35 #[.pointer (some ⟨p, 0, none⟩), .int .i64 (x : Int)] w fun e w' => e = .returned (.tuple #[]) ∧ ∃ u' l', HpR w' B p u' l' ∧ Hp.Ok l' ∧ l'.Perm (x :: l) ∧ Keeps (HpT p u) w w' ∧ (u'.ownBlock = u.ownBlock ∨ ∀ k, u'.ownBlock = some k → w.heap.size ≤ k) := by
  have hne := hR.ne
  obtain ⟨hB, hrow, hbase⟩ := hR
  have c0 : w.cell? ⟨p, 0, none⟩ = some u := by rw [hB.cell]; rfl
  have hpl := hB.lt
  obtain ⟨A, c, rfl, hle, hm⟩ := own_slice hrow
  unfold maxLen at hm
  have n63 : l.length + 1 ≤ maxLen := by unfold maxLen; omega
  have n47 : (l.length + 1) * 8 ≤ 140737488355328 := by omega
  obtain ⟨N, hN⟩ : ∃ N, N = l.length + 1 := ⟨_, rfl⟩
  have hN1 : 1 ≤ N := by omega
  have hN2 : N ≤ 1000001 := by omega
  have HN := Lib.hid hN
  clear hN
  go_enter Tryd.func35, Tryd.ntmps35
  go_wp2_with (first | (at_builtin; refine wp_push_at _ _ _ _ (by first | rfl | simp) _ _ _ _ _ _ Tryd.underlying32 info_int' rfl (by decide) hrow [.int .i64 (x : Int)] rfl (by simp [Value.oneCell']) n63 n47 hbase rfl rfl rfl rfl ?_; intro v7 w7 hr7 hg7 hv7 hb7; have hB7 := hB.grown hg7 (fun e => hne e.symm); rw [← HN.out] at hr7; obtain ⟨g7, c7, rfl, hle7, hm7, hgb7, hgl7⟩ := own_addr hr7 hN1; unfold maxLen at hm7) | (refine wpl_set_blk hB7 0 (.slice (some ⟨g7, 0, none⟩) N c7) (by kernel_rfl) (by simp) (by rfl) (by rfl) (by rfl) (by rfl) (by rfl) (by rfl) ?_; intro w8 hB8 hg8; have cc8 : w8.cell? ⟨p, 0, none⟩ = some (.slice (some ⟨g7, 0, none⟩) N c7) := (by rw [hB8.cell]; rfl); have hpl8 := hB8.lt) | fail)
  have hup0 : Hp.Up (l ++ [x]) l.length := Hp.push_up hOk x
  have hr8 : w8.ownsRow B 3 1 (.slice (some ⟨g7, 0, none⟩) N c7) N (hnats (l ++ [x])) := by
    have := own_keeps hr7 (Keeps.of_grown hg8) (fun j hj e => by
      have h1 := own_blk_ne hr7 hB7 (by decide)
      rw [hj] at h1
      exact h1 e)
    simpa [hnats] using this
  have hk8 : Keeps (HpT p (.slice A l.length c)) w w8 := ((Keeps.of_grown hg7).mono (fun i e => .inr e.symm)).trans ((Keeps.of_grown hg8).mono (fun i e => .inl (by injection e)))
  have hnew : (Value.slice (some ⟨g7, 0, none⟩) N c7).ownBlock = (Value.slice A l.length c).ownBlock ∨ ∀ k, (Value.slice (some ⟨g7, 0, none⟩) N c7).ownBlock = some k → w.heap.size ≤ k := hv7.imp id (fun e k hk => by rw [e] at hk; injection hk with hk; omega)
  have hgT : HpT p (.slice A l.length c) g7 ∨ w.heap.size ≤ g7 := by
    rcases hnew with e | e
    · exact .inl (.inr (by rw [← e]; rfl))
    · exact .inr (e g7 rfl)
  clear hr7 hB7 hg7 hv7 hg8 hB
  have hM := Lib.hid (And.intro hk8 (And.intro hnew hgT))
  go_loopw [4] (fun i wr => ∃ (k : Nat) (l' : List Nat), k < N ∧ i = .int .i64 (k : Int) ∧ Blk wr p 65 [.slice (some ⟨g7, 0, none⟩) N c7] ∧ wr.ownsRow B 3 1 (.slice (some ⟨g7, 0, none⟩) N c7) N (hnats l') ∧ Hp.Up l' k ∧ l'.Perm (x :: l) ∧ Keeps (HpT p (.slice A l.length c)) w wr) (fun i _ => (intOf i).toNat)
  case atStart => exact ⟨l.length, l ++ [x], by have := HN.out; omega, congrArg (Value.int .i64) (by have := HN.out; omega), hB8, hr8, hup0, List.perm_append_singleton x l, hk8⟩
  case round =>
    obtain ⟨k, l', hk, rfl, hBk, hrk, hUp, hPm, hKk⟩ := hrel
    have hl' : l'.length = N := by have := hPm.length_eq; rw [HN.out]; simpa using this
    have cp : wr.cell? ⟨p, 0, none⟩ = some (.slice (some ⟨g7, 0, none⟩) N c7) := by rw [hBk.cell]; rfl
    have hplk := hBk.lt
    have hglk : g7 < wr.heap.size := (hrk.lt g7 rfl).2
    have hbase' := Nat.le_trans hbase hKk.size
    by_cases h0 : k = 0
    · subst h0
      have hOk' := hUp.done (.inl rfl)
      have HE := Lib.hid (And.intro hBk (And.intro hrk (And.intro hOk' (And.intro hPm (And.intro hKk (And.intro hl' hbase'))))))
      clear hBk hrk hUp hOk' hPm hKk hl' hB8 hr8 hup0 hk8 hnew hgT hrow hbase hbase'
      go_wp2
      go_end0
      exact ⟨rfl, _, l', ⟨HE.out.1, by rw [HE.out.2.2.2.2.2.1]; exact HE.out.2.1, HE.out.2.2.2.2.2.2⟩, HE.out.2.2.1, HE.out.2.2.2.1, HE.out.2.2.2.2.1, hM.out.2.1⟩
    · have hk1 : 1 ≤ k := by omega
      have cu := hp_cell hrk (hnats_at (l := l') (i := (k - 1) / 2) (by omega))
      have ck := hp_cell hrk (hnats_at (l := l') (i := k) (by omega))
      generalize hxu : Hp.at_ l' ((k - 1) / 2) = xu at cu
      generalize hxk : Hp.at_ l' k = xk at ck
      have HX := Lib.hid (And.intro hxu hxk)
      clear h0 hxu hxk hB8 hr8 hup0 hk8 hnew hgT hrow
      go_wp2_with fail
      rw [show (((k : Int) - 1) / 2) = (((k - 1) / 2 : Nat) : Int) by omega]
      obtain ⟨q, hq⟩ : ∃ q, q = (k - 1) / 2 := ⟨_, rfl⟩
      rw [← hq] at cu HX ⊢
      have hqm : q < N := by omega
      have HQ := Lib.hid hq
      clear hq
      have keepS : ∀ w', Below wr.heap.size wr w' → (Below wr.heap.size wr w' ∧ w'.cell? ⟨p, 0, none⟩ = some (.slice (some ⟨g7, 0, none⟩) N c7) ∧ w'.cell? ⟨g7, q, none⟩ = some (.int .i64 (xu : Int)) ∧ w'.cell? ⟨g7, k, none⟩ = some (.int .i64 (xk : Int))) := fun w' hb =>
        ⟨hb, (hb.cell (p := ⟨p, 0, none⟩) hplk).trans cp, (hb.cell (p := ⟨g7, q, none⟩) hglk).trans cu, (hb.cell (p := ⟨g7, k, none⟩) hglk).trans ck⟩
      have hS0 := keepS _ (below_drew (Below.refl _ _))
      clear cp cu ck
      refine wp_walk (by kernel_rfl) (by kernel_rfl) (fun _ _ => True) (fun w' => (Below wr.heap.size wr w' ∧ w'.cell? ⟨p, 0, none⟩ = some (.slice (some ⟨g7, 0, none⟩) N c7) ∧ w'.cell? ⟨g7, q, none⟩ = some (.int .i64 (xu : Int)) ∧ w'.cell? ⟨g7, k, none⟩ = some (.int .i64 (xk : Int)))) hS0 ?_
      repeat (first | (refine settle_skip (fun _ => by rfl) ?_; (simp only [Act.put, List.setIfInBounds_toArray, List.set_cons_zero, List.set_cons_succ])) | (refine' settle_run (fun _ _ => trivial) (fun _ => by rfl) ?_ ?_; rotate_left; (focus (intro ρ w hS hF; (try dsimp only at hS); go_split_ands; go_simp; try with_reducible rfl)); (simp only [Act.put, List.setIfInBounds_toArray, List.set_cons_zero, List.set_cons_succ])))
      refine settle_nil ?_
      intro ρ w4 hS _
      have hb4 := hS.1
      have S4 := keepS _ (below_drew hb4)
      rcases hle4 : decide (xu ≤ xk) with _ | _
      · have hlt4 : xk < xu := by have := of_decide_eq_false hle4; omega
        clear hS S4
        have hS4 := keepS _ (below_drew hb4)
        dsimp only
        go_wp2_with fail
        have hne5 := own_blk_ne hrk hBk (by decide)
        have hne6 : p ≠ g7 := fun e => hne5 (by rw [e]; rfl)
        have hr4 := own_keeps hrk (Keeps.of_below hb4 (fun _ => False)) (fun _ _ => id)
        have keepP : ∀ w', Keeps (fun i => i = g7) w4 w' → (Keeps (fun i => i = g7) w4 w' ∧ w'.cell? ⟨p, 0, none⟩ = some (.slice (some ⟨g7, 0, none⟩) N c7)) := fun w' hk => ⟨hk, by rw [((hBk.below hb4).keeps hk (fun e => hne6 e)).cell]; rfl⟩
        have hP0 := keepP _ ((Keeps.refl _ w4).drewN 1)
        have hI0 : w4.drew.ownsRow B 3 1 (.slice (some ⟨g7, 0, none⟩) N c7) N (hnats l') ∧ w4.drew.cell? ⟨g7, q, none⟩ = some (.int .i64 (xu : Int)) ∧ w4.drew.cell? ⟨g7, k, none⟩ = some (.int .i64 (xk : Int)) := ⟨hr4.drew, hS4.2.2.1, hS4.2.2.2⟩
        refine wp_walk_ph 27 (fun i => ([25] : List Nat).contains i) (fun i => ([9] : List Nat).contains i) [25] (by intro m h; simpa using h) (by kernel_rfl) (by kernel_rfl) (by kernel_rfl) [] (by kernel_rfl) (fun w w' => Below w.heap.size w w') (fun w' => (Keeps (fun i => i = g7) w4 w' ∧ w'.cell? ⟨p, 0, none⟩ = some (.slice (some ⟨g7, 0, none⟩) N c7))) (fun c _ w' => match c with | 0 => (w'.ownsRow B 3 1 (.slice (some ⟨g7, 0, none⟩) N c7) N (hnats l') ∧ w'.cell? ⟨g7, q, none⟩ = some (.int .i64 (xu : Int)) ∧ w'.cell? ⟨g7, k, none⟩ = some (.int .i64 (xk : Int))) | _ + 1 => w'.ownsRow B 3 1 (.slice (some ⟨g7, 0, none⟩) N c7) N ((hnats l').set q (.int .i64 (xk : Int)))) hP0 (fun _ => hI0) (fun c ρ w w' h k => by cases c with | zero => exact ⟨own_keeps h.1 (Keeps.of_below k (fun _ => False)) (fun _ _ => id), (k.cell (p := ⟨g7, q, none⟩) (h.1.lt g7 rfl).2).trans h.2.1, (k.cell (p := ⟨g7, _, none⟩) (h.1.lt g7 rfl).2).trans h.2.2⟩ | succ c => exact own_keeps h (Keeps.of_below k (fun _ => False)) (fun _ _ => id)) (fun _ _ _ h => h) (fun c ρ ρ' w hL h => by cases c with | zero => exact h | succ c => exact h) ?_
        simp only [List.length_cons, List.length_nil, Nat.reduceAdd, Nat.reduceSub, List.take_succ_cons, List.take_zero, List.drop_succ_cons, List.drop_zero]
        repeat (first | (refine psettle_skip (by rfl) (fun _ => by rfl) ?_; (simp only [Act.put, List.setIfInBounds_toArray, List.set_cons_zero, List.set_cons_succ])) | (refine' psettle_run (by rfl) (fun _ _ => Below.refl _ _) (fun _ => by rfl) ?_ ?_; rotate_left; (focus (intro ρ w hS hF hP; (try dsimp only at hS); go_split_ands; go_simp; try with_reducible rfl)); (simp only [Act.put, List.setIfInBounds_toArray, List.set_cons_zero, List.set_cons_succ])))
        (refine' psettle_run (by rfl) (fun _ _ => Below.refl _ _) (fun _ => by rfl) ?_ ?_; rotate_left; (focus (intro ρ w hS hF hP; have hI : (w.ownsRow B 3 1 (.slice (some ⟨g7, 0, none⟩) N c7) N (hnats l') ∧ w.cell? ⟨g7, q, none⟩ = some (.int .i64 (xu : Int)) ∧ w.cell? ⟨g7, k, none⟩ = some (.int .i64 (xk : Int))) := hP (by rfl); go_split_ands; go_simp; try with_reducible rfl)); (simp only [Act.put, List.setIfInBounds_toArray, List.set_cons_zero, List.set_cons_succ]))
        repeat (first | (refine psettle_skip (by rfl) (fun _ => by rfl) ?_; (simp only [Act.put, List.setIfInBounds_toArray, List.set_cons_zero, List.set_cons_succ])) | (refine' psettle_run (by rfl) (fun _ _ => Below.refl _ _) (fun _ => by rfl) ?_ ?_; rotate_left; (focus (intro ρ w hS hF hP; (try dsimp only at hS); go_split_ands; go_simp; try with_reducible rfl)); (simp only [Act.put, List.setIfInBounds_toArray, List.set_cons_zero, List.set_cons_succ])))
        (refine' psettle_run (by rfl) (fun _ _ => Below.refl _ _) (fun _ => by rfl) ?_ ?_; rotate_left; (focus (intro ρ w hS hF hP; have hI : (w.ownsRow B 3 1 (.slice (some ⟨g7, 0, none⟩) N c7) N (hnats l') ∧ w.cell? ⟨g7, q, none⟩ = some (.int .i64 (xu : Int)) ∧ w.cell? ⟨g7, k, none⟩ = some (.int .i64 (xk : Int))) := hP (by rfl); go_split_ands; go_simp; try with_reducible rfl)); (simp only [Act.put, List.setIfInBounds_toArray, List.set_cons_zero, List.set_cons_succ]))
        repeat (first | (refine psettle_skip (by rfl) (fun _ => by rfl) ?_; (simp only [Act.put, List.setIfInBounds_toArray, List.set_cons_zero, List.set_cons_succ])) | (refine' psettle_run (by rfl) (fun _ _ => Below.refl _ _) (fun _ => by rfl) ?_ ?_; rotate_left; (focus (intro ρ w hS hF hP; (try dsimp only at hS); go_split_ands; go_simp; try with_reducible rfl)); (simp only [Act.put, List.setIfInBounds_toArray, List.set_cons_zero, List.set_cons_succ])))
        (refine psettle_turn (v := undef) (by rfl) (fun _ => by rfl) ?_ ?_; (focus (intro ρ w hS hF hP K hK; (simp only [Act.put, List.setIfInBounds_toArray, List.set_cons_zero, List.set_cons_succ] at hK); (have hI : (w.ownsRow B 3 1 (.slice (some ⟨g7, 0, none⟩) N c7) N (hnats l') ∧ w.cell? ⟨g7, q, none⟩ = some (.int .i64 (xu : Int)) ∧ w.cell? ⟨g7, k, none⟩ = some (.int .i64 (xk : Int))) := hP (by rfl); refine wp_set_row hI.1 (.tmp 66) (.tmp 58) q (.int .i64 (xk : Int)) (by kernel_rfl) hqm rfl rfl rfl rfl rfl ?_; intro w' hr' hg'; exact hK _ (keepP _ (hS.1.trans ((Keeps.of_grown hg').mono fun i hi => by injection hi))) hr'))); (simp only [Act.put, List.setIfInBounds_toArray, List.set_cons_zero, List.set_cons_succ]))
        repeat (first | (refine psettle_skip (by rfl) (fun _ => by rfl) ?_; (simp only [Act.put, List.setIfInBounds_toArray, List.set_cons_zero, List.set_cons_succ])) | (refine' psettle_run (by rfl) (fun _ _ => Below.refl _ _) (fun _ => by rfl) ?_ ?_; rotate_left; (focus (intro ρ w hS hF hP; (try dsimp only at hS); go_split_ands; go_simp; try with_reducible rfl)); (simp only [Act.put, List.setIfInBounds_toArray, List.set_cons_zero, List.set_cons_succ])))
        refine psettle_nil ?_
        intro ρ w5 hS hI _
        have hk5 := hS.1
        have hr5 : w5.ownsRow B 3 1 (.slice (some ⟨g7, 0, none⟩) N c7) N ((hnats l').set q (.int .i64 (xk : Int))) := hI
        have hB5 := (hBk.below hb4).keeps hk5 (fun e => hne6 e)
        clear hS hI hP0 hI0 keepP keepS hS4 hS0
        dsimp only
        go_wp2_with (first | (refine wpl_set_row hr5 k (.int .i64 (xu : Int)) (by kernel_rfl) (by omega) (by rfl) (by rfl) (by rfl) (by rfl) (by rfl) (by rfl) ?_; intro w7 hr7 hg7) | fail)
        have hB7 := hB5.grown hg7 (fun e => hne6 (by injection e))
        have hgT : ∀ i, i < w.heap.size → i = g7 → HpT p (.slice A l.length c) i := fun i hi e => by
          subst e
          exact hM.out.2.2.resolve_right (by omega)
        have hK7 := ((hKk.step (Keeps.of_below hb4 (fun _ => False)) (fun i _ h => h.elim)).step hk5 hgT).step (Keeps.of_grown hg7) (fun i hi e => hgT i hi (by injection e))
        have hU7 := hUp.step (by omega) (by rw [← HQ.out, HX.out.1, HX.out.2]; exact hlt4)
        have hP7 := (Hp.swap_perm (l := l') (i := (k - 1) / 2) (j := k) (by omega) (by omega)).trans hPm
        have hr7' : w7.ownsRow B 3 1 (.slice (some ⟨g7, 0, none⟩) N c7) N (hnats (Hp.swap l' ((k - 1) / 2) k)) := by
          unfold Hp.swap
          rw [← hnats_set, ← hnats_set, ← HQ.out, HX.out.1, HX.out.2]
          exact hr7
        have HE := Lib.hid (And.intro hB7 (And.intro hr7' (And.intro hU7 (And.intro hP7 hK7))))
        clear hB7 hr7' hU7 hP7 hK7 hr7 hr5 hg7 hB5 hgT hk5
        go_roundw
        case rel => exact ⟨q, _, hqm, by go_num, HE.out.1, HE.out.2.1, by rw [HQ.out]; exact HE.out.2.2.1, HE.out.2.2.2.1, HE.out.2.2.2.2⟩
        case measure => simp [intOf]; have := HQ.out; omega
      · have hOk' := hUp.done (.inr (by rw [← HQ.out, HX.out.1, HX.out.2]; exact of_decide_eq_true hle4))
        have hr5 := own_keeps hrk (Keeps.of_below hb4 (fun _ => False)) (fun _ _ => id)
        have hB5 := hBk.below hb4
        have hK5 := hKk.step (Keeps.of_below hb4 (fun _ => False)) (fun i _ h => h.elim)
        have hbase5 := Nat.le_trans hbase' hb4.size
        have HE := Lib.hid (And.intro hB5 (And.intro hr5 (And.intro hOk' (And.intro hPm (And.intro hK5 (And.intro hl' hbase5))))))
        clear hS S4 hS0 keepS hb4 hr5 hB5 hK5 hbase5 hOk'
        dsimp only
        go_wp2

        refine bodyPost_ret (results_none rfl _ _ _) rfl ?_
        exact ⟨rfl, _, l', ⟨HE.out.1, by rw [HE.out.2.2.2.2.2.1]; exact HE.out.2.1, HE.out.2.2.2.2.2.2⟩, HE.out.2.2.1, HE.out.2.2.2.1, HE.out.2.2.2.2.1, hM.out.2.1⟩
end Go.Proofs.YtpimcghmpbbckaaDoor


namespace Go.Proofs.YtpimcghmpbbckaaDoor
set_option linter.unusedVariables false
set_option linter.unusedSimpArgs false
set_option maxRecDepth 100000
open Go.RowKit

theorem own_short {w : World} {B g n c k : Nat} {e : TypeId} {xs : List Value} (h : w.ownsRow B e 1 (.slice (some ⟨g, 0, none⟩) n c) n xs) (hk : k ≤ n) : w.ownsRow B e 1 (.slice (some ⟨g, 0, none⟩) k c) k (xs.take k) := by
  obtain ⟨cs, hB, hl, rfl, hn, hm, hb⟩ := row_blk h
  have := row_of_blk (size := 1) (c := c) (n := k) hB hl hb (by omega) hm
  simpa [List.take_take, Nat.min_eq_left hk] using this

namespace Hp
/-- the least one of i and the first s below it -/
def lowS (l : L) (i : Nat) : Nat → Nat
  | 0 => i
  | 1 => if 2 * i + 1 < l.length ∧ at_ l (2 * i + 1) < at_ l i then 2 * i + 1 else i
  | _ => low l i
theorem lowS_step (l : L) (i s : Nat) (hs : s < 2) (h : 2 * i + 1 + s < l.length) : lowS l i (s + 1) = if at_ l (2 * i + 1 + s) < at_ l (lowS l i s) then 2 * i + 1 + s else lowS l i s := by
  match s, hs with
  | 0, _ =>
    simp only [lowS, Nat.add_zero] at h ⊢
    by_cases h2 : at_ l (2 * i + 1) < at_ l i
    · rw [if_pos ⟨h, h2⟩, if_pos h2]
    · rw [if_neg (fun x => h2 x.2), if_neg h2]
  | 1, _ =>
    have h' : 2 * i + 2 < l.length := by omega
    show (if 2 * i + 2 < l.length ∧ at_ l (2 * i + 2) < at_ l (lowS l i 1) then 2 * i + 2 else lowS l i 1) = if at_ l (2 * i + 2) < at_ l (lowS l i 1) then 2 * i + 2 else lowS l i 1
    generalize lowS l i 1 = a
    by_cases h2 : at_ l (2 * i + 2) < at_ l a
    · rw [if_pos ⟨h', h2⟩, if_pos h2]
    · rw [if_neg (fun x => h2 x.2), if_neg h2]
theorem lowS_end (l : L) (i s : Nat) (hs : s ≤ 2) (h : s = 2 ∨ l.length ≤ 2 * i + 1 + s) : low l i = lowS l i s := by
  match s, hs with
  | 0, _ =>
    have : l.length ≤ 2 * i + 1 := by omega
    simp only [lowS, low]
    rw [if_neg (fun x => by omega), if_neg (fun x => by omega)]
  | 1, _ =>
    have : l.length ≤ 2 * i + 2 := by omega
    simp only [lowS, low]
    rw [if_neg (fun x => by omega)]
  | 2, _ => rfl
theorem lowS_lt (l : L) (i s : Nat) (hs : s ≤ 2) (hi : i < l.length) : lowS l i s < l.length := by
  match s, hs with
  | 0, _ => exact hi
  | 1, _ => simp only [lowS]; split <;> omega
  | 2, _ =>
    have h0 := (low_cases l i).1
    simp only [lowS]
    omega
end Hp


set_option maxHeartbeats 4000000 in
theorem pop_any (w : World) (B p : Nat) (u : Value) (l : List Nat) (hR : HpR w B p u l) (hn : l.length ≤ 1000000) (h0 : 0 < l.length) :
    Calls Tryd.prog 62 #[.pointer (some ⟨p, 0, none⟩)] w fun e w' => e = .returned (.int .i64 (Hp.at_ l 0 : Int)) ∧ ∃ u', HpR w' B p u' (Hp.pop l) ∧ Keeps (HpT p u) w w' ∧ u'.ownBlock = u.ownBlock := by
  have hne := hR.ne
  obtain ⟨hB, hrow, hbase⟩ := hR
  have c0 : w.cell? ⟨p, 0, none⟩ = some u := by rw [hB.cell]; rfl
  have hpl := hB.lt
  obtain ⟨g, c, rfl, hle, hm, hgb, hgl⟩ := own_addr hrow h0
  unfold maxLen at hm
  have hpg : p ≠ g := fun e => hne (by rw [e]; rfl)
  obtain ⟨N, hN⟩ : ∃ N, N = l.length := ⟨_, rfl⟩
  have f0 := hp_cell hrow (hnats_at (l := l) (i := 0) h0)
  have f1 := hp_cell hrow (hnats_at (l := l) (i := l.length - 1) (by omega))
  rw [← hN] at hrow c0 hle hn h0 f1 hB
  have HN := Lib.hid hN
  obtain ⟨M, hM⟩ : ∃ M, M = N - 1 := ⟨_, rfl⟩
  rw [← hM] at f1
  have hMN : M < N := by omega
  have HM := Lib.hid hM
  generalize hx0 : Hp.at_ l 0 = x0 at f0
  generalize hx1 : Hp.at_ l M = x1 at f1
  have HX := Lib.hid (And.intro hx0 hx1)
  have keepS : ∀ w', Below w.heap.size w w' → (Below w.heap.size w w' ∧ w'.cell? ⟨p, 0, none⟩ = some (.slice (some ⟨g, 0, none⟩) N c) ∧ w'.cell? ⟨g, 0, none⟩ = some (.int .i64 (x0 : Int)) ∧ w'.cell? ⟨g, M, none⟩ = some (.int .i64 (x1 : Int))) := fun w' hb =>
    ⟨hb, (hb.cell (p := ⟨p, 0, none⟩) hpl).trans c0, (hb.cell (p := ⟨g, 0, none⟩) hgl).trans f0, (hb.cell (p := ⟨g, M, none⟩) hgl).trans f1⟩
  have hS0 := keepS _ (below_drew (Below.refl _ _))
  clear hN hM hx0 hx1 f0 f1 c0
  go_enter Tryd.func62, Tryd.ntmps62
  go_wp2_with fail
  refine wp_walk (by kernel_rfl) (by kernel_rfl) (fun _ _ => True) (fun w' => (Below w.heap.size w w' ∧ w'.cell? ⟨p, 0, none⟩ = some (.slice (some ⟨g, 0, none⟩) N c) ∧ w'.cell? ⟨g, 0, none⟩ = some (.int .i64 (x0 : Int)) ∧ w'.cell? ⟨g, M, none⟩ = some (.int .i64 (x1 : Int)))) hS0 ?_
  repeat (first | (refine settle_skip (fun _ => by rfl) ?_; (simp only [Act.put, List.setIfInBounds_toArray, List.set_cons_zero, List.set_cons_succ])) | (refine' settle_run (fun _ _ => trivial) (fun _ => by rfl) ?_ ?_; rotate_left; (focus (intro ρ w hS hF; (try dsimp only at hS); go_split_ands; go_simp; try with_reducible rfl)); (simp only [Act.put, List.setIfInBounds_toArray, List.set_cons_zero, List.set_cons_succ])))
  refine settle_nil ?_
  intro ρ w1 hS _
  have hb1 := hS.1
  have hS1 := keepS _ (below_drew hb1)
  clear hS hS0
  dsimp only
  go_wp2_with fail
  have hwr : IntKind.i64.wrap ((N : Int) - 1) = (M : Int) := by
    have := HM.out
    rw [IntKind.wrap_i64]
    omega
  rw [hwr]
  clear hwr
  refine wp_walk_last (by kernel_rfl) (by kernel_rfl) (fun _ _ => True) (fun w' => (Below w.heap.size w w' ∧ w'.cell? ⟨p, 0, none⟩ = some (.slice (some ⟨g, 0, none⟩) N c) ∧ w'.cell? ⟨g, 0, none⟩ = some (.int .i64 (x0 : Int)) ∧ w'.cell? ⟨g, M, none⟩ = some (.int .i64 (x1 : Int)))) hS1 ?_
  simp only [List.length_cons, List.length_nil, Nat.reduceAdd, Nat.reduceSub, List.take_succ_cons, List.take_zero, List.drop_succ_cons, List.drop_zero]
  repeat (first | (refine settle_skip (fun _ => by rfl) ?_; (simp only [Act.put, List.setIfInBounds_toArray, List.set_cons_zero, List.set_cons_succ])) | (refine' settle_run (fun _ _ => trivial) (fun _ => by rfl) ?_ ?_; rotate_left; (focus (intro ρ w hS hF; (try dsimp only at hS); go_split_ands; go_simp; try with_reducible rfl)); (simp only [Act.put, List.setIfInBounds_toArray, List.set_cons_zero, List.set_cons_succ])))
  refine settle_nil ?_
  intro ρ w2 hS _
  have hb2 := hS.1
  have hr2 := own_keeps hrow (Keeps.of_below hb2 (fun _ => False)) (fun _ _ => id)
  have hB2 := hB.below hb2
  clear hS hS1 keepS
  dsimp only
  have hpl2 := hB2.lt
  go_wp2_with (first | (refine wpl_set_row hr2 0 (.int .i64 (x1 : Int)) (by kernel_rfl) (by omega) (by rfl) (by rfl) (by rfl) (by rfl) (by rfl) (by rfl) ?_; intro w3 hr3 hg3; have hB3 := hB2.grown hg3 (fun e => hpg (by injection e)); have c3 : w3.cell? ⟨p, 0, none⟩ = some (.slice (some ⟨g, 0, none⟩) N c) := (by rw [hB3.cell]; rfl); have hpl3 := hB3.lt) | (refine wpl_set_blk hB3 0 (.slice (some ⟨g, 0, none⟩) M c) (by kernel_rfl) (by simp) (by rfl) (by rfl) (by rfl) (by rfl) (by rfl) (by rfl) ?_; intro w4 hB4 hg4) | fail)
  have hr4 : w4.ownsRow B 3 1 (.slice (some ⟨g, 0, none⟩) M c) M (hnats (Hp.cut l)) := by
    have h1 := own_keeps (own_short hr3 (Nat.le_of_lt hMN)) (Keeps.of_grown hg4) (fun j hj e => hpg (by
      have e1 : j = g := by simpa [Value.ownBlock] using hj.symm
      have e2 : j = p := by simpa using e
      rw [← e2, e1]))
    have e : ((hnats l).set 0 (.int .i64 (x1 : Int))).take M = hnats (Hp.cut l) := by
      unfold Hp.cut
      rw [hnats_set, ← HX.out.2, HM.out, HN.out]
      simp [hnats, List.map_take]
    rw [e] at h1
    exact h1
  have hk4 : Keeps (fun k => k = p ∨ k = g) w w4 := ((Keeps.of_below hb2 (fun k => k = p ∨ k = g)).step (Keeps.of_grown hg3) (fun i _ e => .inr (by injection e))).step (Keeps.of_grown hg4) (fun i _ e => .inl (by injection e))
  have hz4 := Nat.le_trans hbase hk4.size
  have hlc : (Hp.cut l).length = M := by rw [Hp.cut_length, HM.out, HN.out]
  have HS := Lib.hid (And.intro hB4 (And.intro hr4 (And.intro hk4 (And.intro hz4 hlc))))
  clear hr2 hB2 hr3 hB3 c3 hg3 hg4 hr4 hB4 hk4 hz4 hlc hrow hB hne hpl hpl2 hpl3
  go_loopw [5] (fun i wr => ∃ (i' : Nat) (l' : List Nat) (f : Nat), i = .int .i64 (i' : Int) ∧ l'.length = M ∧ (i' < M ∨ i' = 0) ∧ Hp.down f l' i' = Hp.pop l ∧ M < f + i' ∧ Blk wr p 65 [.slice (some ⟨g, 0, none⟩) M c] ∧ wr.ownsRow B 3 1 (.slice (some ⟨g, 0, none⟩) M c) M (hnats l') ∧ Keeps (fun k => k = p ∨ k = g) w wr ∧ B ≤ wr.heap.size) (fun i _ => M - (intOf i).toNat)
  case atStart => exact ⟨0, Hp.cut l, (Hp.cut l).length + 1, rfl, HS.out.2.2.2.2, .inr rfl, rfl, by have := HS.out.2.2.2.2; omega, HS.out.1, HS.out.2.1, HS.out.2.2.1, HS.out.2.2.2.1⟩
  case round =>
    obtain ⟨i, l', f, rfl, hll, hiM0, hd, hf, hBw, hrw, hkw, hzw⟩ := hrel
    obtain ⟨W5, hW5⟩ : ∃ W5, W5 = wr := ⟨_, rfl⟩
    subst hW5
    clear HS
    have hi1 : i ≤ 1000000 := by omega
    go_wp2_with fail
    go_loopw [6, 7] (fun a b wr => ∃ s : Nat, s ≤ 2 ∧ a = .int .i64 (Hp.lowS l' i s : Int) ∧ b = .int .i64 ((2 * i + 1 + s : Nat) : Int) ∧ Below W5.heap.size W5 wr) (fun _ b _ => 2 * i + 4 - (intOf b).toNat)
    case atStart => exact ⟨0, by omega, rfl, by go_num, Below.refl _ _⟩
    case round =>
      obtain ⟨s, hs2, rfl, rfl, hbs⟩ := hrel
      obtain ⟨k, hk⟩ : ∃ k, k = 2 * i + 1 + s := ⟨_, rfl⟩
      rw [← hk]
      by_cases hs : s = 2
      · have hk1 : 2 * i + 2 < k := by omega
        clear hk
        have hlow := Hp.lowS_end l' i s hs2 (.inl hs)
        obtain ⟨f, rfl⟩ : ∃ f', f = f' + 1 := ⟨f - 1, by omega⟩
        by_cases hlj : Hp.lowS l' i s = i
        · have hpop : l' = Hp.pop l := by rw [← hd]; unfold Hp.down; rw [if_pos (by rw [hlow]; exact hlj)]
          have hB6 := hBw.below hbs
          have hr6 := own_keeps hrw (Keeps.of_below hbs (fun _ => False)) (fun _ _ => id)
          have hk6 := hkw.step (Keeps.of_below hbs (fun _ => False)) (fun _ _ h => h.elim)
          have hz6 := Nat.le_trans hzw hbs.size
          have HE := Lib.hid (And.intro hB6 (And.intro hr6 (And.intro hk6 (And.intro hz6 (And.intro hpop hll)))))
          rw [hlj]
          clear hB6 hr6 hk6 hz6 hpop hlow hlj hd hll hBw hrw hkw hbs
          go_wp2_with fail
          go_ret
          exact ⟨rfl, .slice (some ⟨g, 0, none⟩) M c, ⟨HE.out.1, by rw [← HE.out.2.2.2.2.1, HE.out.2.2.2.2.2]; exact HE.out.2.1, HE.out.2.2.2.1⟩, HE.out.2.2.1.mono (fun i h => h.imp id (fun e => by rw [e]; rfl)), rfl⟩
        · obtain ⟨hc1, -, -⟩ := Hp.low_cases l' i
          rw [hlow] at hc1
          obtain ⟨hij, hjl, -⟩ := hc1.resolve_left hlj
          have hd2 : Hp.down f (Hp.swap l' i (Hp.lowS l' i s)) (Hp.lowS l' i s) = Hp.pop l := by
            rw [← hd]
            conv => rhs; unfold Hp.down
            rw [hlow, if_neg hlj]
          obtain ⟨j, hj⟩ : ∃ j, j = Hp.lowS l' i s := ⟨_, rfl⟩
          rw [← hj] at hij hjl hd2 hlj ⊢
          clear hlow hj
          rw [hll] at hjl
          have hij2 : i < j := by omega
          have hiM : i < M := by omega
          have hne4 : ((j : Int) == (i : Int)) = false := by simp; omega
          have ci := hp_cell hrw (hnats_at (l := l') (i := i) (by omega))
          have cj := hp_cell hrw (hnats_at (l := l') (i := j) (by omega))
          generalize hxi : Hp.at_ l' i = xi at ci
          generalize hxj : Hp.at_ l' j = xj at cj
          have hgw : g < W5.heap.size := (hrw.lt g rfl).2
          have hr4 := own_keeps hrw (Keeps.of_below hbs (fun _ => False)) (fun _ _ => id)
          have hB4 := hBw.below hbs
          have keepP : ∀ w', Keeps (fun i => i = g) wr w' → (Keeps (fun i => i = g) wr w' ∧ w'.cell? ⟨p, 0, none⟩ = some (.slice (some ⟨g, 0, none⟩) M c)) := fun w' hk => ⟨hk, by rw [(hB4.keeps hk (fun e => hpg e)).cell]; rfl⟩
          have hP0 := keepP _ ((Keeps.refl _ wr).drewN 1)
          have hI0 : wr.drew.ownsRow B 3 1 (.slice (some ⟨g, 0, none⟩) M c) M (hnats l') ∧ wr.drew.cell? ⟨g, i, none⟩ = some (.int .i64 (xi : Int)) ∧ wr.drew.cell? ⟨g, j, none⟩ = some (.int .i64 (xj : Int)) := ⟨hr4.drew, (hbs.cell (p := ⟨g, i, none⟩) hgw).trans ci, (hbs.cell (p := ⟨g, j, none⟩) hgw).trans cj⟩
          have HX2 := Lib.hid (And.intro hxi hxj)
          clear hxi hxj ci cj
          go_wp2_with fail
          refine wp_walk_ph 27 (fun i => ([25] : List Nat).contains i) (fun i => ([9] : List Nat).contains i) [25] (by intro m h; simpa using h) (by kernel_rfl) (by kernel_rfl) (by kernel_rfl) [] (by kernel_rfl) (fun w w' => Below w.heap.size w w') (fun w' => (Keeps (fun i => i = g) wr w' ∧ w'.cell? ⟨p, 0, none⟩ = some (.slice (some ⟨g, 0, none⟩) M c))) (fun c' _ w' => match c' with | 0 => (w'.ownsRow B 3 1 (.slice (some ⟨g, 0, none⟩) M c) M (hnats l') ∧ w'.cell? ⟨g, i, none⟩ = some (.int .i64 (xi : Int)) ∧ w'.cell? ⟨g, j, none⟩ = some (.int .i64 (xj : Int))) | _ + 1 => w'.ownsRow B 3 1 (.slice (some ⟨g, 0, none⟩) M c) M ((hnats l').set i (.int .i64 (xj : Int)))) hP0 (fun _ => hI0) (fun c ρ w w' h k => by cases c with | zero => exact ⟨own_keeps h.1 (Keeps.of_below k (fun _ => False)) (fun _ _ => id), (k.cell (p := ⟨g, i, none⟩) (h.1.lt g rfl).2).trans h.2.1, (k.cell (p := ⟨g, j, none⟩) (h.1.lt g rfl).2).trans h.2.2⟩ | succ c => exact own_keeps h (Keeps.of_below k (fun _ => False)) (fun _ _ => id)) (fun _ _ _ h => h) (fun c ρ ρ' w hL h => by cases c with | zero => exact h | succ c => exact h) ?_
          simp only [List.length_cons, List.length_nil, Nat.reduceAdd, Nat.reduceSub, List.take_succ_cons, List.take_zero, List.drop_succ_cons, List.drop_zero]
          repeat (first | (refine psettle_skip (by rfl) (fun _ => by rfl) ?_; (simp only [Act.put, List.setIfInBounds_toArray, List.set_cons_zero, List.set_cons_succ])) | (refine' psettle_run (by rfl) (fun _ _ => Below.refl _ _) (fun _ => by rfl) ?_ ?_; rotate_left; (focus (intro ρ w hS hF hP; (try dsimp only at hS); go_split_ands; go_simp; try with_reducible rfl)); (simp only [Act.put, List.setIfInBounds_toArray, List.set_cons_zero, List.set_cons_succ])))
          (refine' psettle_run (by rfl) (fun _ _ => Below.refl _ _) (fun _ => by rfl) ?_ ?_; rotate_left; (focus (intro ρ w hS hF hP; have hI : (w.ownsRow B 3 1 (.slice (some ⟨g, 0, none⟩) M c) M (hnats l') ∧ w.cell? ⟨g, i, none⟩ = some (.int .i64 (xi : Int)) ∧ w.cell? ⟨g, j, none⟩ = some (.int .i64 (xj : Int))) := hP (by rfl); go_split_ands; go_simp; try with_reducible rfl)); (simp only [Act.put, List.setIfInBounds_toArray, List.set_cons_zero, List.set_cons_succ]))
          repeat (first | (refine psettle_skip (by rfl) (fun _ => by rfl) ?_; (simp only [Act.put, List.setIfInBounds_toArray, List.set_cons_zero, List.set_cons_succ])) | (refine' psettle_run (by rfl) (fun _ _ => Below.refl _ _) (fun _ => by rfl) ?_ ?_; rotate_left; (focus (intro ρ w hS hF hP; (try dsimp only at hS); go_split_ands; go_simp; try with_reducible rfl)); (simp only [Act.put, List.setIfInBounds_toArray, List.set_cons_zero, List.set_cons_succ])))
          (refine' psettle_run (by rfl) (fun _ _ => Below.refl _ _) (fun _ => by rfl) ?_ ?_; rotate_left; (focus (intro ρ w hS hF hP; have hI : (w.ownsRow B 3 1 (.slice (some ⟨g, 0, none⟩) M c) M (hnats l') ∧ w.cell? ⟨g, i, none⟩ = some (.int .i64 (xi : Int)) ∧ w.cell? ⟨g, j, none⟩ = some (.int .i64 (xj : Int))) := hP (by rfl); go_split_ands; go_simp; try with_reducible rfl)); (simp only [Act.put, List.setIfInBounds_toArray, List.set_cons_zero, List.set_cons_succ]))
          repeat (first | (refine psettle_skip (by rfl) (fun _ => by rfl) ?_; (simp only [Act.put, List.setIfInBounds_toArray, List.set_cons_zero, List.set_cons_succ])) | (refine' psettle_run (by rfl) (fun _ _ => Below.refl _ _) (fun _ => by rfl) ?_ ?_; rotate_left; (focus (intro ρ w hS hF hP; (try dsimp only at hS); go_split_ands; go_simp; try with_reducible rfl)); (simp only [Act.put, List.setIfInBounds_toArray, List.set_cons_zero, List.set_cons_succ])))
          (refine psettle_turn (v := undef) (by rfl) (fun _ => by rfl) ?_ ?_; (focus (intro ρ w hS hF hP K hK; (simp only [Act.put, List.setIfInBounds_toArray, List.set_cons_zero, List.set_cons_succ] at hK); (have hI : (w.ownsRow B 3 1 (.slice (some ⟨g, 0, none⟩) M c) M (hnats l') ∧ w.cell? ⟨g, i, none⟩ = some (.int .i64 (xi : Int)) ∧ w.cell? ⟨g, j, none⟩ = some (.int .i64 (xj : Int))) := hP (by rfl); refine wp_set_row hI.1 (.tmp 101) (.tmp 93) i (.int .i64 (xj : Int)) (by kernel_rfl) hiM rfl rfl rfl rfl rfl ?_; intro w' hr' hg'; exact hK _ (keepP _ (hS.1.trans ((Keeps.of_grown hg').mono fun i hi => by injection hi))) hr'))); (simp only [Act.put, List.setIfInBounds_toArray, List.set_cons_zero, List.set_cons_succ]))
          repeat (first | (refine psettle_skip (by rfl) (fun _ => by rfl) ?_; (simp only [Act.put, List.setIfInBounds_toArray, List.set_cons_zero, List.set_cons_succ])) | (refine' psettle_run (by rfl) (fun _ _ => Below.refl _ _) (fun _ => by rfl) ?_ ?_; rotate_left; (focus (intro ρ w hS hF hP; (try dsimp only at hS); go_split_ands; go_simp; try with_reducible rfl)); (simp only [Act.put, List.setIfInBounds_toArray, List.set_cons_zero, List.set_cons_succ])))
          refine psettle_nil ?_
          intro ρ w5 hS hI _
          have hk5 := hS.1
          have hr5 : w5.ownsRow B 3 1 (.slice (some ⟨g, 0, none⟩) M c) M ((hnats l').set i (.int .i64 (xj : Int))) := hI
          have hB5 := hB4.keeps hk5 (fun e => hpg e)
          clear hS hI hP0 hI0 keepP hr4
          dsimp only
          go_wp2_with (first | (refine wpl_set_row hr5 j (.int .i64 (xi : Int)) (by kernel_rfl) (by omega) (by rfl) (by rfl) (by rfl) (by rfl) (by rfl) (by rfl) ?_; intro w7 hr7 hg7) | fail)
          have hB7 := hB5.grown hg7 (fun e => hpg (by injection e))
          have hK7 := ((hkw.step (Keeps.of_below hbs (fun _ => False)) (fun i _ h => h.elim)).step hk5 (fun i _ e => .inr e)).step (Keeps.of_grown hg7) (fun i _ e => .inr (by injection e))
          have hr7' : w7.ownsRow B 3 1 (.slice (some ⟨g, 0, none⟩) M c) M (hnats (Hp.swap l' i j)) := by
            unfold Hp.swap
            rw [← hnats_set, ← hnats_set, HX2.out.1, HX2.out.2]
            exact hr7
          have hz7 := Nat.le_trans (Nat.le_trans (Nat.le_trans hzw hbs.size) hk5.size) hg7.size
          have hl7 : (Hp.swap l' i j).length = M := by rw [Hp.swap_length]; exact hll
          have HE := Lib.hid (And.intro hB7 (And.intro hr7' (And.intro hd2 (And.intro hl7 (And.intro hK7 hz7)))))
          clear hB7 hr7' hd2 hl7 hK7 hr7 hr5 hg7 hB5 hk5 hz7 hB4 hBw hrw hkw hbs hd hll
          go_roundw
          case rel => exact ⟨j, _, f, by go_num, HE.out.2.2.2.1, .inl hjl, HE.out.2.2.1, by omega, HE.out.1, HE.out.2.1, HE.out.2.2.2.2.1, HE.out.2.2.2.2.2⟩
          case measure => simp [intOf]; omega
      · by_cases hkM : k < M
        · have hk2 : k ≤ 2 * i + 2 := by omega
          have hst := Hp.lowS_step l' i s (by omega) (by rw [hll]; omega)
          have hal := Hp.lowS_lt l' i s hs2 (by omega)
          rw [← hk] at hst
          obtain ⟨a, ha⟩ : ∃ a, a = Hp.lowS l' i s := ⟨_, rfl⟩
          rw [← ha] at hst hal ⊢
          rw [hll] at hal
          have ck := hp_cell hrw (hnats_at (l := l') (i := k) (by omega))
          have ca := hp_cell hrw (hnats_at (l := l') (i := a) (by omega))
          generalize Hp.at_ l' k = xk at ck hst
          generalize Hp.at_ l' a = xa at ca hst
          have cp : W5.cell? ⟨p, 0, none⟩ = some (.slice (some ⟨g, 0, none⟩) M c) := by rw [hBw.cell]; rfl
          have hgw : g < W5.heap.size := (hrw.lt g rfl).2
          have hpw := hBw.lt
          have keepS : ∀ w', Below W5.heap.size W5 w' → (Below W5.heap.size W5 w' ∧ w'.cell? ⟨p, 0, none⟩ = some (.slice (some ⟨g, 0, none⟩) M c) ∧ w'.cell? ⟨g, k, none⟩ = some (.int .i64 (xk : Int)) ∧ w'.cell? ⟨g, a, none⟩ = some (.int .i64 (xa : Int))) := fun w' hb =>
            ⟨hb, (hb.cell (p := ⟨p, 0, none⟩) hpw).trans cp, (hb.cell (p := ⟨g, k, none⟩) hgw).trans ck, (hb.cell (p := ⟨g, a, none⟩) hgw).trans ca⟩
          have hS0 := keepS _ (below_drew hbs)
          have HKk := Lib.hid (And.intro hk (And.intro hst hs))
          clear hk hst hs ha ck ca cp
          go_wp2_with fail
          refine wp_walk (by kernel_rfl) (by kernel_rfl) (fun _ _ => True) (fun w' => (Below W5.heap.size W5 w' ∧ w'.cell? ⟨p, 0, none⟩ = some (.slice (some ⟨g, 0, none⟩) M c) ∧ w'.cell? ⟨g, k, none⟩ = some (.int .i64 (xk : Int)) ∧ w'.cell? ⟨g, a, none⟩ = some (.int .i64 (xa : Int)))) hS0 ?_
          repeat (first | (refine settle_skip (fun _ => by rfl) ?_; (simp only [Act.put, List.setIfInBounds_toArray, List.set_cons_zero, List.set_cons_succ])) | (refine' settle_run (fun _ _ => trivial) (fun _ => by rfl) ?_ ?_; rotate_left; (focus (intro ρ w hS hF; (try dsimp only at hS); go_split_ands; go_simp; try with_reducible rfl)); (simp only [Act.put, List.setIfInBounds_toArray, List.set_cons_zero, List.set_cons_succ])))
          refine settle_nil ?_
          intro ρ w6 hS _
          have hb6 := hS.1
          clear hS hS0 keepS hbs
          dsimp only
          rcases hless : decide (xk < xa) with _ | _
          · have HQ := Lib.hid hless
            go_wp2_with fail
            go_roundw
            case rel => exact ⟨s + 1, by have := HKk.out.2.2; omega, congrArg (Value.int .i64) (by rw [HKk.out.2.1, if_neg (of_decide_eq_false HQ.out)]), congrArg (Value.int .i64) (by have := HKk.out.1; omega), hb6⟩
            case measure => simp [intOf]; omega
          · have HQ := Lib.hid hless
            go_wp2_with fail
            go_roundw
            case rel => exact ⟨s + 1, by have := HKk.out.2.2; omega, congrArg (Value.int .i64) (by rw [HKk.out.2.1, if_pos (of_decide_eq_true HQ.out)]), congrArg (Value.int .i64) (by have := HKk.out.1; omega), hb6⟩
            case measure => simp [intOf]; omega
        · have hk2 : k ≤ 2 * i + 2 := by omega
          have hkM2 : M ≤ k := by omega
          have hor : l'.length ≤ 2 * i + 1 + s := by rw [hll]; omega
          clear hk hkM
          have hlow := Hp.lowS_end l' i s hs2 (.inr hor)
          obtain ⟨f, rfl⟩ : ∃ f', f = f' + 1 := ⟨f - 1, by omega⟩
          by_cases hlj : Hp.lowS l' i s = i
          · have hpop : l' = Hp.pop l := by rw [← hd]; unfold Hp.down; rw [if_pos (by rw [hlow]; exact hlj)]
            have hB6 := hBw.below hbs
            have hr6 := own_keeps hrw (Keeps.of_below hbs (fun _ => False)) (fun _ _ => id)
            have hk6 := hkw.step (Keeps.of_below hbs (fun _ => False)) (fun _ _ h => h.elim)
            have hz6 := Nat.le_trans hzw hbs.size
            have HE := Lib.hid (And.intro hB6 (And.intro hr6 (And.intro hk6 (And.intro hz6 (And.intro hpop hll)))))
            rw [hlj]
            clear hB6 hr6 hk6 hz6 hpop hlow hlj hd hll hBw hrw hkw hbs
            go_wp2_with fail
            go_ret
            exact ⟨rfl, .slice (some ⟨g, 0, none⟩) M c, ⟨HE.out.1, by rw [← HE.out.2.2.2.2.1, HE.out.2.2.2.2.2]; exact HE.out.2.1, HE.out.2.2.2.1⟩, HE.out.2.2.1.mono (fun i h => h.imp id (fun e => by rw [e]; rfl)), rfl⟩
          · obtain ⟨hc1, -, -⟩ := Hp.low_cases l' i
            rw [hlow] at hc1
            obtain ⟨hij, hjl, -⟩ := hc1.resolve_left hlj
            have hd2 : Hp.down f (Hp.swap l' i (Hp.lowS l' i s)) (Hp.lowS l' i s) = Hp.pop l := by
              rw [← hd]
              conv => rhs; unfold Hp.down
              rw [hlow, if_neg hlj]
            obtain ⟨j, hj⟩ : ∃ j, j = Hp.lowS l' i s := ⟨_, rfl⟩
            rw [← hj] at hij hjl hd2 hlj ⊢
            clear hlow hj
            rw [hll] at hjl
            have hij2 : i < j := by omega
            have hiM : i < M := by omega
            have hne4 : ((j : Int) == (i : Int)) = false := by simp; omega
            have ci := hp_cell hrw (hnats_at (l := l') (i := i) (by omega))
            have cj := hp_cell hrw (hnats_at (l := l') (i := j) (by omega))
            generalize hxi : Hp.at_ l' i = xi at ci
            generalize hxj : Hp.at_ l' j = xj at cj
            have hgw : g < W5.heap.size := (hrw.lt g rfl).2
            have hr4 := own_keeps hrw (Keeps.of_below hbs (fun _ => False)) (fun _ _ => id)
            have hB4 := hBw.below hbs
            have keepP : ∀ w', Keeps (fun i => i = g) wr w' → (Keeps (fun i => i = g) wr w' ∧ w'.cell? ⟨p, 0, none⟩ = some (.slice (some ⟨g, 0, none⟩) M c)) := fun w' hk => ⟨hk, by rw [(hB4.keeps hk (fun e => hpg e)).cell]; rfl⟩
            have hP0 := keepP _ ((Keeps.refl _ wr).drewN 1)
            have hI0 : wr.drew.ownsRow B 3 1 (.slice (some ⟨g, 0, none⟩) M c) M (hnats l') ∧ wr.drew.cell? ⟨g, i, none⟩ = some (.int .i64 (xi : Int)) ∧ wr.drew.cell? ⟨g, j, none⟩ = some (.int .i64 (xj : Int)) := ⟨hr4.drew, (hbs.cell (p := ⟨g, i, none⟩) hgw).trans ci, (hbs.cell (p := ⟨g, j, none⟩) hgw).trans cj⟩
            have HX2 := Lib.hid (And.intro hxi hxj)
            clear hxi hxj ci cj
            go_wp2_with fail
            refine wp_walk_ph 27 (fun i => ([25] : List Nat).contains i) (fun i => ([9] : List Nat).contains i) [25] (by intro m h; simpa using h) (by kernel_rfl) (by kernel_rfl) (by kernel_rfl) [] (by kernel_rfl) (fun w w' => Below w.heap.size w w') (fun w' => (Keeps (fun i => i = g) wr w' ∧ w'.cell? ⟨p, 0, none⟩ = some (.slice (some ⟨g, 0, none⟩) M c))) (fun c' _ w' => match c' with | 0 => (w'.ownsRow B 3 1 (.slice (some ⟨g, 0, none⟩) M c) M (hnats l') ∧ w'.cell? ⟨g, i, none⟩ = some (.int .i64 (xi : Int)) ∧ w'.cell? ⟨g, j, none⟩ = some (.int .i64 (xj : Int))) | _ + 1 => w'.ownsRow B 3 1 (.slice (some ⟨g, 0, none⟩) M c) M ((hnats l').set i (.int .i64 (xj : Int)))) hP0 (fun _ => hI0) (fun c ρ w w' h k => by cases c with | zero => exact ⟨own_keeps h.1 (Keeps.of_below k (fun _ => False)) (fun _ _ => id), (k.cell (p := ⟨g, i, none⟩) (h.1.lt g rfl).2).trans h.2.1, (k.cell (p := ⟨g, j, none⟩) (h.1.lt g rfl).2).trans h.2.2⟩ | succ c => exact own_keeps h (Keeps.of_below k (fun _ => False)) (fun _ _ => id)) (fun _ _ _ h => h) (fun c ρ ρ' w hL h => by cases c with | zero => exact h | succ c => exact h) ?_
            simp only [List.length_cons, List.length_nil, Nat.reduceAdd, Nat.reduceSub, List.take_succ_cons, List.take_zero, List.drop_succ_cons, List.drop_zero]
            repeat (first | (refine psettle_skip (by rfl) (fun _ => by rfl) ?_; (simp only [Act.put, List.setIfInBounds_toArray, List.set_cons_zero, List.set_cons_succ])) | (refine' psettle_run (by rfl) (fun _ _ => Below.refl _ _) (fun _ => by rfl) ?_ ?_; rotate_left; (focus (intro ρ w hS hF hP; (try dsimp only at hS); go_split_ands; go_simp; try with_reducible rfl)); (simp only [Act.put, List.setIfInBounds_toArray, List.set_cons_zero, List.set_cons_succ])))
            (refine' psettle_run (by rfl) (fun _ _ => Below.refl _ _) (fun _ => by rfl) ?_ ?_; rotate_left; (focus (intro ρ w hS hF hP; have hI : (w.ownsRow B 3 1 (.slice (some ⟨g, 0, none⟩) M c) M (hnats l') ∧ w.cell? ⟨g, i, none⟩ = some (.int .i64 (xi : Int)) ∧ w.cell? ⟨g, j, none⟩ = some (.int .i64 (xj : Int))) := hP (by rfl); go_split_ands; go_simp; try with_reducible rfl)); (simp only [Act.put, List.setIfInBounds_toArray, List.set_cons_zero, List.set_cons_succ]))
            repeat (first | (refine psettle_skip (by rfl) (fun _ => by rfl) ?_; (simp only [Act.put, List.setIfInBounds_toArray, List.set_cons_zero, List.set_cons_succ])) | (refine' psettle_run (by rfl) (fun _ _ => Below.refl _ _) (fun _ => by rfl) ?_ ?_; rotate_left; (focus (intro ρ w hS hF hP; (try dsimp only at hS); go_split_ands; go_simp; try with_reducible rfl)); (simp only [Act.put, List.setIfInBounds_toArray, List.set_cons_zero, List.set_cons_succ])))
            (refine' psettle_run (by rfl) (fun _ _ => Below.refl _ _) (fun _ => by rfl) ?_ ?_; rotate_left; (focus (intro ρ w hS hF hP; have hI : (w.ownsRow B 3 1 (.slice (some ⟨g, 0, none⟩) M c) M (hnats l') ∧ w.cell? ⟨g, i, none⟩ = some (.int .i64 (xi : Int)) ∧ w.cell? ⟨g, j, none⟩ = some (.int .i64 (xj : Int))) := hP (by rfl); go_split_ands; go_simp; try with_reducible rfl)); (simp only [Act.put, List.setIfInBounds_toArray, List.set_cons_zero, List.set_cons_succ]))
            repeat (first | (refine psettle_skip (by rfl) (fun _ => by rfl) ?_; (simp only [Act.put, List.setIfInBounds_toArray, List.set_cons_zero, List.set_cons_succ])) | (refine' psettle_run (by rfl) (fun _ _ => Below.refl _ _) (fun _ => by rfl) ?_ ?_; rotate_left; (focus (intro ρ w hS hF hP; (try dsimp only at hS); go_split_ands; go_simp; try with_reducible rfl)); (simp only [Act.put, List.setIfInBounds_toArray, List.set_cons_zero, List.set_cons_succ])))
            (refine psettle_turn (v := undef) (by rfl) (fun _ => by rfl) ?_ ?_; (focus (intro ρ w hS hF hP K hK; (simp only [Act.put, List.setIfInBounds_toArray, List.set_cons_zero, List.set_cons_succ] at hK); (have hI : (w.ownsRow B 3 1 (.slice (some ⟨g, 0, none⟩) M c) M (hnats l') ∧ w.cell? ⟨g, i, none⟩ = some (.int .i64 (xi : Int)) ∧ w.cell? ⟨g, j, none⟩ = some (.int .i64 (xj : Int))) := hP (by rfl); refine wp_set_row hI.1 (.tmp 101) (.tmp 93) i (.int .i64 (xj : Int)) (by kernel_rfl) hiM rfl rfl rfl rfl rfl ?_; intro w' hr' hg'; exact hK _ (keepP _ (hS.1.trans ((Keeps.of_grown hg').mono fun i hi => by injection hi))) hr'))); (simp only [Act.put, List.setIfInBounds_toArray, List.set_cons_zero, List.set_cons_succ]))
            repeat (first | (refine psettle_skip (by rfl) (fun _ => by rfl) ?_; (simp only [Act.put, List.setIfInBounds_toArray, List.set_cons_zero, List.set_cons_succ])) | (refine' psettle_run (by rfl) (fun _ _ => Below.refl _ _) (fun _ => by rfl) ?_ ?_; rotate_left; (focus (intro ρ w hS hF hP; (try dsimp only at hS); go_split_ands; go_simp; try with_reducible rfl)); (simp only [Act.put, List.setIfInBounds_toArray, List.set_cons_zero, List.set_cons_succ])))
            refine psettle_nil ?_
            intro ρ w5 hS hI _
            have hk5 := hS.1
            have hr5 : w5.ownsRow B 3 1 (.slice (some ⟨g, 0, none⟩) M c) M ((hnats l').set i (.int .i64 (xj : Int))) := hI
            have hB5 := hB4.keeps hk5 (fun e => hpg e)
            clear hS hI hP0 hI0 keepP hr4
            dsimp only
            go_wp2_with (first | (refine wpl_set_row hr5 j (.int .i64 (xi : Int)) (by kernel_rfl) (by omega) (by rfl) (by rfl) (by rfl) (by rfl) (by rfl) (by rfl) ?_; intro w7 hr7 hg7) | fail)
            have hB7 := hB5.grown hg7 (fun e => hpg (by injection e))
            have hK7 := ((hkw.step (Keeps.of_below hbs (fun _ => False)) (fun i _ h => h.elim)).step hk5 (fun i _ e => .inr e)).step (Keeps.of_grown hg7) (fun i _ e => .inr (by injection e))
            have hr7' : w7.ownsRow B 3 1 (.slice (some ⟨g, 0, none⟩) M c) M (hnats (Hp.swap l' i j)) := by
              unfold Hp.swap
              rw [← hnats_set, ← hnats_set, HX2.out.1, HX2.out.2]
              exact hr7
            have hz7 := Nat.le_trans (Nat.le_trans (Nat.le_trans hzw hbs.size) hk5.size) hg7.size
            have hl7 : (Hp.swap l' i j).length = M := by rw [Hp.swap_length]; exact hll
            have HE := Lib.hid (And.intro hB7 (And.intro hr7' (And.intro hd2 (And.intro hl7 (And.intro hK7 hz7)))))
            clear hB7 hr7' hd2 hl7 hK7 hr7 hr5 hg7 hB5 hk5 hz7 hB4 hBw hrw hkw hbs hd hll
            go_roundw
            case rel => exact ⟨j, _, f, by go_num, HE.out.2.2.2.1, .inl hjl, HE.out.2.2.1, by omega, HE.out.1, HE.out.2.1, HE.out.2.2.2.2.1, HE.out.2.2.2.2.2⟩
            case measure => simp [intOf]; omega
end Go.Proofs.YtpimcghmpbbckaaDoor


namespace Go.Proofs.YtpimcghmpbbckaaDoor
set_option linter.unusedVariables false
set_option linter.unusedSimpArgs false
set_option maxRecDepth 100000
open Go.RowKit

theorem Hp.pop_length {l : List Nat} (h : l ≠ []) : (Hp.pop l).length + 1 = l.length := by
  have h1 := (Hp.cut_perm h).length_eq
  have h2 : (Hp.pop l).length = (Hp.cut l).length := by
    unfold Hp.pop
    have : ∀ (f : Nat) (l : Hp.L) (i : Nat), (Hp.down f l i).length = l.length := by
      intro f
      induction f with
      | zero => exact fun _ _ => rfl
      | succ f ih =>
        intro l i
        unfold Hp.down
        split
        · rfl
        · rw [ih, Hp.swap_length]
    exact this _ _ _
  simp only [List.length_cons] at h1
  omega

theorem Hp.take_more (m : Nat) (l : List Nat) (h : l ≠ []) : Hp.take (m + 1) l = (Hp.at_ l 0 :: (Hp.take m (Hp.pop l)).1, (Hp.take m (Hp.pop l)).2) := by
  rw [Hp.take, if_neg h]
/-- how far it is: a is taken, l' is left -/
structure Hp.Far (n : Nat) (l a l' : List Nat) : Prop where
  le : a.length ≤ n
  fst : (Hp.take n l).1 = a ++ (Hp.take (n - a.length) l').1
  snd : (Hp.take n l).2 = (Hp.take (n - a.length) l').2
  len : a.length + l'.length ≤ l.length
theorem Hp.Far.step {n : Nat} {l a l' : List Nat} (h : Hp.Far n l a l') (hn : a.length < n) (hl : l' ≠ []) : Hp.Far n l (a ++ [Hp.at_ l' 0]) (Hp.pop l') := by
  have e : n - a.length = (n - (a ++ [Hp.at_ l' 0]).length) + 1 := by simp; omega
  have h1 := h.fst
  have h2 := h.snd
  rw [e, Hp.take_more _ _ hl] at h1 h2
  refine ⟨by simp; omega, ?_, ?_, ?_⟩
  · rw [h1]; simp
  · rw [h2]
  · have := Hp.pop_length hl
    have := h.len
    simp
    omega
theorem Hp.Far.done {n : Nat} {l a l' : List Nat} (h : Hp.Far n l a l') (hn : a.length = n ∨ l' = []) : (Hp.take n l).1 = a ∧ (Hp.take n l).2 = l' := by
  rcases hn with hn | hn
  · have h1 := h.fst
    have h2 := h.snd
    rw [hn, Nat.sub_self] at h1 h2
    exact ⟨by rw [h1]; simp [Hp.take], by rw [h2]; simp [Hp.take]⟩
  · subst hn
    have e : ∀ m, Hp.take m ([] : List Nat) = ([], []) := fun m => by cases m <;> simp [Hp.take]
    exact ⟨by rw [h.fst, e]; simp, by rw [h.snd, e]⟩

set_option maxHeartbeats 2000000 in
theorem htake_any (w : World) (B p : Nat) (u : Value) (l : List Nat) (n : Nat) (hR : HpR w B p u l) (hn : l.length ≤ 1000000) (hn2 : n ≤ 1000000) :
    Calls Tryd.prog 36 #[.pointer (some ⟨p, 0, none⟩), .int .i64 (n : Int)] w fun e w' => ∃ v, e = .returned v ∧ w'.ownsRow w.heap.size 3 1 v (Hp.take n l).1.length (hnats (Hp.take n l).1) ∧ ∃ u', HpR w' B p u' (Hp.take n l).2 ∧ Keeps (HpT p u) w w' ∧ u'.ownBlock = u.ownBlock := by
  have hpl := hR.blk.lt
  have hul : ∀ k, u.ownBlock = some k → k < w.heap.size := fun k hk => (hR.row.lt k hk).2
  have H0 := Lib.hid hR
  clear hR
  go_enter Tryd.func36, Tryd.ntmps36
  go_wp2_with fail
  go_loopw [5] (fun o wr => ∃ (a l' : List Nat) (u' : Value), Hp.Far n l a l' ∧ wr.ownsRow w.heap.size 3 1 o a.length (hnats a) ∧ HpR wr B p u' l' ∧ Keeps (HpT p u) w wr ∧ u'.ownBlock = u.ownBlock) (fun o _ => n - slLen o)
  case atStart => exact ⟨[], l, u, ⟨Nat.zero_le _, rfl, rfl, by simp⟩, World.ownsRow_nil _ _ _ _, H0.out, Keeps.refl _ _, rfl⟩
  case round =>
    obtain ⟨a, l', u', hF, ho, hR, hk, hu⟩ := hrel
    have hsz := hk.size
    have hFl := hF.len
    have hFn := hF.le
    obtain ⟨Ao, co, rfl, -, -⟩ := own_slice ho
    obtain ⟨Au, cu, rfl, -, -⟩ := own_slice hR.row
    have c0 : wr.cell? ⟨p, 0, none⟩ = some (.slice Au l'.length cu) := by rw [hR.blk.cell]; rfl
    have hplr := hR.blk.lt
    by_cases han : a.length < n
    · by_cases hl0 : 0 < l'.length
      · have hne' : l' ≠ [] := by intro e; rw [e] at hl0; simp at hl0
        have hpop := pop_any wr B p _ l' hR (by omega) hl0
        have hF' := hF.step han hne'
        have HE := Lib.hid (And.intro hF' (And.intro ho (And.intro hk hu)))
        clear hF hF' ho hR hk hu hne'
        go_wp2_with fail
        refine hpop.mono ?_
        rintro _ w3 ⟨rfl, u3, hR3, hk3, hu3⟩
        have hT : ∀ i, HpT p (.slice Au l'.length cu) i → HpT p u i := fun i h => h.imp id (fun e => by rw [← HE.out.2.2.2]; exact e)
        have hK3 := HE.out.2.2.1.trans (hk3.mono hT)
        have ho3 := own_keeps HE.out.2.1 hk3 (fun i hi h => by
          have h1 := (HE.out.2.1.lt i hi).1
          rcases hT i h with e | e
          · omega
          · have := hul i e; omega)
        have hbase3 := Nat.le_trans hsz hk3.size
        have n63 : a.length + 1 ≤ maxLen := by unfold maxLen; omega
        have n47 : (a.length + 1) * 8 ≤ 140737488355328 := by omega
        obtain ⟨x, hx⟩ : ∃ x, x = Hp.at_ l' 0 := ⟨_, rfl⟩
        rw [← hx]
        have HX := Lib.hid (And.intro hx (And.intro hR3 (And.intro hK3 (hu3.trans HE.out.2.2.2))))
        clear hpop hx hR3 hk3 hK3 hu3 hT
        go_wp2_with (first | (at_builtin; refine wp_push_at _ _ _ _ (by first | rfl | simp) _ _ _ _ _ _ Tryd.underlying32 info_int' rfl (by decide) ho3 [.int .i64 (x : Int)] rfl (by simp [Value.oneCell']) n63 n47 hbase3 rfl rfl rfl rfl ?_; intro v7 w7 hr7 hg7 hv7 hb7) | fail)
        have hR7 : HpR w7 B p u3 (Hp.pop l') := by
          have hR3 := HX.out.2.1
          have hne1 : ∀ i, (Value.slice Ao a.length co).ownBlock = some i → w.heap.size ≤ i := own_ge ho3
          refine ⟨hR3.blk.grown hg7 (fun e => by have := hne1 p e.symm; omega), own_keeps hR3.row (Keeps.of_grown hg7) (fun i hi e => ?_), Nat.le_trans hR3.base hg7.size⟩
          have h1 := hne1 i e.symm
          have h2 := hul i (by rw [← HX.out.2.2.2]; exact hi)
          omega
        have hK7 := HX.out.2.2.1.step (Keeps.of_grown hg7) (fun i hi e => by have := own_ge ho3 i e.symm; omega)
        have HP := Lib.hid (And.intro hr7 (And.intro hR7 hK7))
        have hlen7 := own_len hr7
        clear hr7 hg7 hv7 hb7 hR7 hK7 ho3
        go_roundw
        case rel => exact ⟨a ++ [x], _, u3, by rw [HX.out.1]; exact HE.out.1, by have := HP.out.1; simpa [hnats] using this, HP.out.2.1, HP.out.2.2, HX.out.2.2.2⟩
        case measure => rw [hlen7]; simp only [slLen]; omega
      · have hnil : l' = [] := List.eq_nil_of_length_eq_zero (by omega)
        have hl00 : l'.length = 0 := by omega
        have hd := hF.done (.inr hnil)
        have HE := Lib.hid (And.intro hd (And.intro ho (And.intro hR (And.intro hk hu))))
        clear hd hF ho hR hk hu hnil hl0
        go_wp2_with fail
        go_ret
        exact ⟨_, rfl, by rw [HE.out.1.1]; exact HE.out.2.1, _, by rw [HE.out.1.2]; exact HE.out.2.2.1, HE.out.2.2.2.1, HE.out.2.2.2.2⟩
    · have hd := hF.done (.inl (by omega))
      have HE := Lib.hid (And.intro hd (And.intro ho (And.intro hR (And.intro hk hu))))
      clear hd hF ho hR hk hu
      go_wp2_with fail
      go_ret
      exact ⟨_, rfl, by rw [HE.out.1.1]; exact HE.out.2.1, _, by rw [HE.out.1.2]; exact HE.out.2.2.1, HE.out.2.2.2.1, HE.out.2.2.2.2⟩
end Go.Proofs.YtpimcghmpbbckaaDoor


namespace Go.Proofs.YtpimcghmpbbckaaDoor.Gr
set_option linter.unusedVariables false
set_option linter.unusedSimpArgs false
set_option maxRecDepth 100000

/-- who is done in the next round: the least ones that wait no longer, as many as there are workers -/
def now (N : Nat) (es : List Ed) (w : Nat) (D : List Nat) : List Nat := ((List.range N).filter (rdy es D)).take w
def rounds (N : Nat) (es : List Ed) (w : Nat) : Nat → List Nat → List (List Nat)
  | 0, _ => []
  | f + 1, D => if now N es w D = [] then [] else now N es w D :: rounds N es w f (D ++ now N es w D)

theorem now_mem {N : Nat} {es : List Ed} {w : Nat} {D : List Nat} {m : Nat} (h : m ∈ now N es w D) : m < N ∧ rdy es D m = true := by
  have := List.mem_of_mem_take h
  rw [List.mem_filter, List.mem_range] at this
  exact this
theorem now_nodup (N : Nat) (es : List Ed) (w : Nat) (D : List Nat) : (now N es w D).Nodup := (List.nodup_range.filter _).sublist (List.take_sublist _ _)
theorem now_length (N : Nat) (es : List Ed) (w : Nat) (D : List Nat) : (now N es w D).length ≤ w := by unfold now; rw [List.length_take]; omega
/-- one more, that waits no longer -/
theorem Good.add {N : Nat} {es : List Ed} {D : List Nat} {n : Nat} (h : Good N es D) (h1 : n < N) (h2 : n ∉ D) (h3 : ∀ e ∈ es, e.2 = n → e.1 ∈ D) : Good N es (D ++ [n]) := by
  refine ⟨List.nodup_append.2 ⟨h.nd, by simp, fun a ha b hb e => h2 (by rw [← List.mem_singleton.1 hb, ← e]; exact ha)⟩, fun m hm => ?_, fun i m hi e he em => ?_⟩
  · rcases List.mem_append.1 hm with hm | hm
    · exact h.lt m hm
    · rw [List.mem_singleton.1 hm]; exact h1
  · by_cases hil : i < D.length
    · rw [List.getElem?_append_left hil] at hi
      rw [List.take_append_of_le_length (by omega)]
      exact h.topo i m hi e he em
    · have hil' : i = D.length := by
        obtain ⟨h6, -⟩ := List.getElem?_eq_some_iff.1 hi
        simp at h6
        omega
      subst hil'
      rw [List.take_append_of_le_length (by omega), List.take_length]
      simp at hi
      subst hi
      exact h3 e he em
/-- some of a round are done -/
theorem Good.part {N : Nat} {es : List Ed} {w : Nat} {D : List Nat} (h : Good N es D) : ∀ i, i ≤ (now N es w D).length → Good N es (D ++ (now N es w D).take i)
  | 0, _ => by simpa using h
  | i + 1, hi => by
    have ih := h.part (w := w) i (by omega)
    have hn : (now N es w D)[i]? = some (now N es w D)[i] := List.getElem?_eq_getElem hi
    obtain ⟨h1, h2⟩ := now_mem (List.mem_of_getElem? hn)
    obtain ⟨h3, h4⟩ := rdy_iff.1 h2
    rw [take_snoc hn, ← List.append_assoc]
    refine ih.add h1 (fun hm => ?_) (fun e he em => List.mem_append_left _ (h4 e he em))
    rcases List.mem_append.1 hm with hm | hm
    · exact h3 hm
    · obtain ⟨j, hj⟩ := List.getElem?_of_mem hm
      rw [List.getElem?_take] at hj
      split at hj
      · have hnd := now_nodup N es w D
        have := (List.getElem?_inj (by omega) hnd).1 (hj.trans hn.symm)
        omega
      · cases hj
theorem Good.round {N : Nat} {es : List Ed} {w : Nat} {D : List Nat} (h : Good N es D) : Good N es (D ++ now N es w D) := by
  have := h.part (w := w) (now N es w D).length (Nat.le_refl _)
  rwa [List.take_length] at this
/-- none waits no longer: all are done, or those that are left wait for one another -/
theorem now_nil {N : Nat} {es : List Ed} {w : Nat} {D : List Nat} (hw : 0 < w) : now N es w D = [] ↔ nxt N es D = none := by
  unfold now nxt
  rw [List.find?_eq_none]
  constructor
  · intro h x hx hr
    have hm : x ∈ (List.range N).filter (rdy es D) := List.mem_filter.2 ⟨hx, hr⟩
    rcases e : (List.range N).filter (rdy es D) with _ | ⟨y, ys⟩
    · rw [e] at hm; cases hm
    · rw [e] at h
      obtain ⟨v, rfl⟩ : ∃ v, w = v + 1 := ⟨w - 1, by omega⟩
      simp at h
  · intro h
    rw [List.filter_eq_nil_iff.2 h]
    simp
/-- what has been told once more: it waits no longer, if that was the last -/
theorem rj_told {N : Nat} {es : List Ed} {out : List Nat} {n j m : Nat} (hg : Good N es out) (hes : ∀ e ∈ es, e.2 < N) (h2 : n ∉ out) (h3 : ∀ e ∈ es, e.2 = n → e.1 ∈ out) (hj : (next es n)[j]? = some m) (x : Nat) :
    rj N es out n (j + 1) x ↔ rj N es out n j x ∨ (x = m ∧ wt es out m = ((next es n).take j).count m + 1) := by
  have hmem : m ∈ next es n := List.mem_of_getElem? hj
  have hed := mem_next.1 hmem
  unfold rj
  rw [take_snoc hj, count_snoc]
  by_cases h : m = x
  · subst h
    rw [if_pos rfl]
    have hc : ((next es n).take (j + 1)).count m ≤ (next es n).count m := List.Sublist.count_le m (List.take_sublist _ _)
    rw [take_snoc hj, count_snoc, if_pos rfl] at hc
    have hw := count_le h2 es m
    have hmn : m ≠ n := fun e => h2 (h3 _ hed e)
    have hmo : m ∉ out := fun e => by
      obtain ⟨i, hi⟩ := List.getElem?_of_mem e
      exact h2 (List.mem_of_mem_take (hg.topo i m hi _ hed rfl))
    have hmN := hes _ hed
    constructor
    · rintro ⟨-, -, -, h⟩
      exact .inr ⟨rfl, h⟩
    · rintro (⟨-, -, -, h⟩ | ⟨-, h⟩)
      · omega
      · exact ⟨hmN, hmn, hmo, h⟩
  · rw [if_neg h, Nat.add_zero]
    constructor
    · exact fun h => .inl h
    · rintro (h' | ⟨e, -⟩)
      · exact h'
      · exact absurd e.symm h
end Go.Proofs.YtpimcghmpbbckaaDoor.Gr


namespace Go.Proofs.YtpimcghmpbbckaaDoor.Gr
set_option linter.unusedVariables false
set_option linter.unusedSimpArgs false
set_option maxRecDepth 100000

/-- where all can be taken one by one, nobody is left when none waits no longer -/
theorem all_out {N : Nat} {es : List Ed} {D : List Nat} (hT : (take N es).length = N) (h : nxt N es D = none) : ∀ m, m < N → m ∈ D := by
  have hG := good_take N es
  have key : ∀ (i m : Nat), (take N es)[i]? = some m → m ∈ D := by
    intro i
    induction i using Nat.strongRecOn with
    | ind i ih =>
      intro m hi
      refine Decidable.byContradiction fun hm => ?_
      have hr : rdy es D m = true := rdy_iff.2 ⟨hm, fun e he em => by
        obtain ⟨j, hj⟩ := List.getElem?_of_mem (hG.topo i m hi e he em)
        rw [List.getElem?_take] at hj
        split at hj
        · rename_i hji
          exact ih j hji _ hj
        · cases hj⟩
      have := nxt_none h m (hG.lt m (List.mem_of_getElem? hi))
      rw [hr] at this
      cases this
  intro m hm
  obtain ⟨i, hi⟩ := List.getElem?_of_mem (hG.full hT m hm)
  exact key i m hi
theorem rounds_at {N : Nat} {es : List Ed} {w : Nat} : ∀ (f : Nat) (D : List Nat) (k : Nat) (a : List Nat), (rounds N es w f D)[k]? = some a → a = now N es w (D ++ ((rounds N es w f D).take k).flatten) ∧ a ≠ []
  | 0, D, k, a, h => by rw [rounds] at h; cases k <;> simp at h
  | f + 1, D, k, a, h => by
    unfold rounds at h ⊢
    split at h
    · simp at h
    · rename_i hne
      rw [if_neg hne]
      rcases k with _ | k
      · simp only [List.getElem?_cons_zero, Option.some.injEq] at h
        subst h
        exact ⟨by simp, hne⟩
      · rw [List.getElem?_cons_succ] at h
        have := rounds_at f _ k a h
        rw [List.take_succ_cons, List.flatten_cons, ← List.append_assoc]
        exact this
theorem good_rounds {N : Nat} {es : List Ed} {w : Nat} : ∀ (f : Nat) (D : List Nat), Good N es D → ∀ k, Good N es (D ++ ((rounds N es w f D).take k).flatten)
  | 0, D, h, k => by simpa [rounds] using h
  | f + 1, D, h, k => by
    unfold rounds
    split
    · simpa using h
    · rcases k with _ | k
      · simpa using h
      · rw [List.take_succ_cons, List.flatten_cons, ← List.append_assoc]
        exact good_rounds f _ h.round k
theorem rounds_stop {N : Nat} {es : List Ed} {w : Nat} (hw : 0 < w) : ∀ (f : Nat) (D : List Nat), Good N es D → N ≤ f + D.length → nxt N es (D ++ (rounds N es w f D).flatten) = none
  | 0, D, h, hf => by
    rw [rounds]
    simp only [List.flatten_nil, List.append_nil]
    cases hn : nxt N es D with
    | none => rfl
    | some n =>
      have := (h.snoc hn).length
      simp at this
      omega
  | f + 1, D, h, hf => by
    unfold rounds
    split
    · rename_i h0
      simpa using (now_nil hw).1 h0
    · rename_i hne
      have hl : 0 < (now N es w D).length := List.length_pos_iff.2 hne
      rw [List.flatten_cons, ← List.append_assoc]
      exact rounds_stop hw f _ h.round (by rw [List.length_append]; omega)
/-- so many rounds more change nothing -/
theorem rounds_fuel {N : Nat} {es : List Ed} {w : Nat} (hw : 0 < w) : ∀ (f : Nat) (D : List Nat), Good N es D → N ≤ f + D.length → rounds N es w (f + 1) D = rounds N es w f D
  | 0, D, h, hf => by
    have h0 : now N es w D = [] := (now_nil hw).2 (by
      have := rounds_stop hw 0 D h hf
      simpa [rounds] using this)
    unfold rounds
    rw [if_pos h0]
  | f + 1, D, h, hf => by
    have e1 : rounds N es w (f + 1 + 1) D = if now N es w D = [] then [] else now N es w D :: rounds N es w (f + 1) (D ++ now N es w D) := by rw [rounds]
    have e2 : rounds N es w (f + 1) D = if now N es w D = [] then [] else now N es w D :: rounds N es w f (D ++ now N es w D) := by rw [rounds]
    rw [e1, e2]
    by_cases h0 : now N es w D = []
    · rw [if_pos h0, if_pos h0]
    · have hl : 0 < (now N es w D).length := List.length_pos_iff.2 h0
      rw [if_neg h0, if_neg h0, rounds_fuel hw f _ h.round (by rw [List.length_append]; omega)]

/-- the rounds of a graph -/
def all (N : Nat) (es : List Ed) (w : Nat) : List (List Nat) := rounds N es w N []
theorem all_full {N : Nat} {es : List Ed} {w : Nat} (hw : 0 < w) (hT : (take N es).length = N) : (∀ m, m < N → m ∈ (all N es w).flatten) ∧ (all N es w).flatten.length = N := by
  have hs : nxt N es (all N es w).flatten = none := by
    have := rounds_stop (es := es) hw N [] (Good.nil N es) (by simp)
    rwa [List.nil_append] at this
  have hg : Good N es (all N es w).flatten := by
    have := good_rounds (w := w) N [] (Good.nil N es) (all N es w).length
    rw [List.nil_append] at this
    unfold all at this ⊢
    rwa [List.take_length] at this
  have hin := all_out hT hs
  refine ⟨hin, Nat.le_antisymm hg.length ?_⟩
  have := (List.nodup_range (n := N)).length_le_of_subset (l₂ := (all N es w).flatten) (fun m hm => hin m (List.mem_range.1 hm))
  simpa using this
/-- none is done ahead of what it waits for -/
theorem all_order {N : Nat} {es : List Ed} {w k m : Nat} {a : List Nat} (h : (all N es w)[k]? = some a) (hm : m ∈ a) : ∀ e ∈ es, e.2 = m → ∃ j b, j < k ∧ (all N es w)[j]? = some b ∧ e.1 ∈ b := by
  obtain ⟨ha, -⟩ := rounds_at N [] k a h
  rw [ha] at hm
  intro e he em
  have hin := (rdy_iff.1 (now_mem hm).2).2 e he em
  rw [List.nil_append, List.mem_flatten] at hin
  obtain ⟨b, hb, hbm⟩ := hin
  obtain ⟨j, hj⟩ := List.getElem?_of_mem hb
  rw [List.getElem?_take] at hj
  split at hj
  · rename_i hjk
    exact ⟨j, b, hjk, hj, hbm⟩
  · cases hj
end Go.Proofs.YtpimcghmpbbckaaDoor.Gr


namespace Go.Proofs.YtpimcghmpbbckaaDoor.Gr
set_option linter.unusedVariables false
set_option linter.unusedSimpArgs false
set_option maxRecDepth 100000

/-- between two nodes of the round a, i of which have been told of -/
def HeapP (N : Nat) (es : List Ed) (D a : List Nat) (i : Nat) (hl : List Nat) : Prop := hl.Nodup ∧ ∀ x, x ∈ hl ↔ (x < N ∧ rdy es (D ++ a.take i) x = true) ∧ x ∉ a
/-- j of those that its i-th node leads to have been told -/
def HeapQ (N : Nat) (es : List Ed) (D a : List Nat) (i n j : Nat) (hl : List Nat) : Prop := hl.Nodup ∧ ∀ x, x ∈ hl ↔ rj N es (D ++ a.take i) n j x ∧ x ∉ a

section
variable {N : Nat} {es : List Ed} {D a hl : List Nat} {i n j m : Nat}
theorem HeapP.begin (h : HeapP N es D a i hl) (hn : a[i]? = some n) : HeapQ N es D a i n 0 hl := by
  refine ⟨h.1, fun x => ?_⟩
  rw [h.2, rj_zero]
  constructor
  · rintro ⟨h1, h2⟩
    exact ⟨⟨h1, fun e => h2 (by rw [e]; exact List.mem_of_getElem? hn)⟩, h2⟩
  · rintro ⟨⟨h1, -⟩, h2⟩
    exact ⟨h1, h2⟩
theorem HeapQ.finish (h : HeapQ N es D a i n (next es n).length hl) (hn : a[i]? = some n) (ho : n ∉ D ++ a.take i) : HeapP N es D a (i + 1) hl := by
  refine ⟨h.1, fun x => ?_⟩
  rw [h.2, rj_full ho, take_snoc hn, ← List.append_assoc]
theorem HeapP.last (h : HeapP N es D a a.length hl) : hl.Nodup ∧ ∀ x, x ∈ hl ↔ x < N ∧ rdy es (D ++ a) x = true := by
  refine ⟨h.1, fun x => ?_⟩
  rw [h.2, List.take_length]
  constructor
  · exact fun h => h.1
  · exact fun h => ⟨h, fun hx => (rdy_iff.1 h.2).1 (List.mem_append_right _ hx)⟩
theorem HeapP.first (h0 : hl.Nodup) (h : ∀ x, x ∈ hl ↔ (x < N ∧ rdy es D x = true) ∧ x ∉ a) : HeapP N es D a 0 hl := by
  refine ⟨h0, fun x => ?_⟩
  rw [h, List.take_zero, List.append_nil]
/-- it waits for nobody any longer: it is pushed -/
theorem HeapQ.push (h : HeapQ N es D a i n j hl) (hg : Good N es (D ++ a.take i)) (hes : ∀ e ∈ es, e.2 < N) (h2 : n ∉ D ++ a.take i) (h3 : ∀ e ∈ es, e.2 = n → e.1 ∈ D ++ a.take i) (hj : (next es n)[j]? = some m) (hma : m ∉ a) (hw : wt es (D ++ a.take i) m = ((next es n).take j).count m + 1) {hl' : List Nat} (hp : hl'.Perm (m :: hl)) : HeapQ N es D a i n (j + 1) hl' := by
  have hm : m ∉ hl := fun hm => by
    have := ((h.2 m).1 hm).1.2.2.2
    omega
  refine ⟨hp.nodup_iff.2 (List.nodup_cons.2 ⟨hm, h.1⟩), fun x => ?_⟩
  rw [hp.mem_iff, List.mem_cons, h.2, rj_told hg hes h2 h3 hj]
  constructor
  · rintro (rfl | ⟨q1, q2⟩)
    · exact ⟨.inr ⟨rfl, hw⟩, hma⟩
    · exact ⟨.inl q1, q2⟩
  · rintro ⟨q1 | ⟨rfl, -⟩, q2⟩
    · exact .inr ⟨q1, q2⟩
    · exact .inl rfl
theorem HeapQ.stay (h : HeapQ N es D a i n j hl) (hg : Good N es (D ++ a.take i)) (hes : ∀ e ∈ es, e.2 < N) (h2 : n ∉ D ++ a.take i) (h3 : ∀ e ∈ es, e.2 = n → e.1 ∈ D ++ a.take i) (hj : (next es n)[j]? = some m) (hw : wt es (D ++ a.take i) m ≠ ((next es n).take j).count m + 1) : HeapQ N es D a i n (j + 1) hl := by
  refine ⟨h.1, fun x => ?_⟩
  rw [h.2, rj_told hg hes h2 h3 hj]
  constructor
  · exact fun ⟨q1, q2⟩ => ⟨.inl q1, q2⟩
  · rintro ⟨q1 | ⟨rfl, q3⟩, q2⟩
    · exact ⟨q1, q2⟩
    · exact absurd q3 hw
end
/-- whom a node of the round leads to is not of the round -/
theorem next_out {N w : Nat} {es : List Ed} {D : List Nat} {n m : Nat} (hn : n ∈ now N es w D) (hm : m ∈ next es n) : m ∉ now N es w D := fun h => by
  have h1 := (rdy_iff.1 (now_mem h).2).2 _ (mem_next.1 hm) rfl
  exact (rdy_iff.1 (now_mem hn).2).1 h1
end Go.Proofs.YtpimcghmpbbckaaDoor.Gr


namespace Go.Proofs.YtpimcghmpbbckaaDoor.Gr
set_option linter.unusedVariables false
set_option linter.unusedSimpArgs false
set_option maxRecDepth 100000

theorem heap_round {N w : Nat} {es : List Ed} {D hl : List Nat} (hO : Hp.Ok hl) (hn : hl.Nodup) (hm : ∀ x, x ∈ hl ↔ x < N ∧ rdy es D x = true) : (Hp.take w hl).1 = now N es w D ∧ Hp.Ok (Hp.take w hl).2 ∧ HeapP N es D (now N es w D) 0 (Hp.take w hl).2 := by
  obtain ⟨h1, h2⟩ := Hp.take_sorted (n := w) hO hn hm
  obtain ⟨h3, h4, -⟩ := Hp.take_ok w hl hO
  have h5 : (Hp.take w hl).1 = now N es w D := h1
  refine ⟨h5, h3, HeapP.first ?_ ?_⟩
  · exact (List.nodup_append.1 (h4.nodup_iff.2 hn)).2.1
  · intro x
    rw [h2 x, h5]
/-- nobody is in the heap: the rounds are over -/
theorem heap_nil {N w : Nat} {es : List Ed} {D hl : List Nat} (hm : ∀ x, x ∈ hl ↔ x < N ∧ rdy es D x = true) (hw : 0 < w) : hl = [] ↔ now N es w D = [] := by
  unfold now
  rw [List.eq_nil_iff_forall_not_mem]
  constructor
  · intro h
    rw [List.filter_eq_nil_iff.2 (fun x hx hr => h x ((hm x).2 ⟨List.mem_range.1 hx, hr⟩))]
    simp
  · intro h x hx
    have hin : x ∈ (List.range N).filter (rdy es D) := List.mem_filter.2 ⟨List.mem_range.2 ((hm x).1 hx).1, ((hm x).1 hx).2⟩
    obtain ⟨v, rfl⟩ : ∃ v, w = v + 1 := ⟨w - 1, by omega⟩
    rcases e : (List.range N).filter (rdy es D) with _ | ⟨y, ys⟩
    · rw [e] at hin; cases hin
    · rw [e] at h; simp at h
end Go.Proofs.YtpimcghmpbbckaaDoor.Gr


namespace Go.Proofs.YtpimcghmpbbckaaDoor
set_option linter.unusedVariables false
set_option linter.unusedSimpArgs false
set_option maxRecDepth 100000
open Go.RowKit

theorem hnats_ilist (l : List Nat) : hnats l = ilist l := by simp [hnats, ilist, ints]
def SlN (w : World) (v : Value) (c : List Nat) : Prop := SlV w 1 v c.length (ilist c)
theorem SlN.below {w w' : World} {v : Value} {c : List Nat} (h : SlN w v c) (hb : Below w.heap.size w w') : SlN w' v c := SlV.below h hb
theorem SlN.far {S : Nat → Prop} {w w' : World} {v : Value} {xs : List Nat} (h : SlN w v xs) (k : Keeps S w w') (hf : FarU S v xs) : SlN w' v xs := by
  obtain ⟨A, c, rfl, h1, h2, h3, b, o, h4, h5⟩ := h
  refine ⟨A, c, rfl, h1, h2, h3, b, o, fun hn => ⟨(h4 hn).1, Nat.lt_of_lt_of_le (h4 hn).2 k.size⟩, fun j u hu => ?_⟩
  have hn : ilist xs ≠ [] := fun e => by rw [e] at hu; simp at hu
  obtain ⟨hA, hb⟩ := h4 hn
  exact (World.cell?_of_block (a := ⟨b, o + j, none⟩) (k.block b hb (hf (fun e => hn (by rw [e]; rfl)) _ (by rw [hA]; rfl)))).trans (h5 j u hu)
theorem FarU.stepN {T T' : Nat → Prop} {w : World} {v : Value} {xs : List Nat} (h : FarU T v xs) (hu : SlN w v xs) (hT : ∀ k, T' k → T k ∨ w.heap.size ≤ k) : FarU T' v xs := fun hn p hp hk => by
  obtain ⟨A, c, rfl, h1, h2, h3, b, o, h4, h5⟩ := hu
  obtain ⟨hA, hb⟩ := h4 (fun e => hn (by simpa [ilist, ints] using e))
  have hp' : A = some p := hp
  rcases hT _ hk with hk | hk
  · exact h hn p hp hk
  · rw [hp'] at hA
    injection hA with hA
    rw [hA] at hk
    simp at hk
    omega
theorem FarU.mono {T T' : Nat → Prop} {v : Value} {xs : List Nat} (h : FarU T v xs) (hT : ∀ k, T' k → T k) : FarU T' v xs := fun hn p hp hk => h hn p hp (hT _ hk)
theorem FarU.none (T : Nat → Prop) (v : Value) : FarU T v [] := fun h => absurd rfl h
theorem new_own {w : World} {B sz n : Nat} {e : TypeId} {v : Value} {xs : List Value} (h : w.ownsRow B e sz v n xs) : New B v := fun p hp => by
  rcases h.2 with ⟨rfl, -⟩ | ⟨g, cap, cur, rfl, hB, -⟩
  · cases hp
  · injection hp with hp
    rw [← hp]
    exact hB
theorem SlN.of_own {w : World} {B : Nat} {e : TypeId} {v : Value} {c : List Nat} (h : w.ownsRow B e 1 v c.length (ilist c)) : SlN w v c := SlV.of_own h

theorem SlN.form {w : World} {v : Value} {c : List Nat} (h : SlN w v c) : ∃ A k, v = .slice A c.length k ∧ c.length ≤ k ∧ k ≤ maxLen := by
  obtain ⟨A, k, rfl, h1, h2, -⟩ := h
  exact ⟨A, k, rfl, h1, h2⟩
theorem ilist_get {xs : List Nat} {j x : Nat} (h : xs[j]? = some x) : (ilist xs)[j]? = some (.int .i64 (x : Int)) := by
  show (List.map _ (List.map _ _))[j]? = _
  rw [List.getElem?_map, List.getElem?_map, h]
  rfl
theorem SlN.get {w : World} {A : Option Addr} {n k : Nat} {xs : List Nat} (h : SlN w (.slice A n k) xs) {j x : Nat} (hj : xs[j]? = some x) : ∃ g o, A = some ⟨g, o, none⟩ ∧ g < w.heap.size ∧ w.cell? ⟨g, o + j, none⟩ = some (.int .i64 (x : Int)) := by
  obtain ⟨A', c', he, -, -, -, hcc⟩ := h
  injection he with e1 e2 e3
  subst e1
  have gm := ilist_get hj
  obtain ⟨g, o, rfl, hgl, hgc⟩ := hcc.at_ (fun e => by rw [e] at gm; simp at gm)
  exact ⟨g, o, rfl, hgl, hgc _ _ gm⟩
theorem SlN.get0 {w : World} {g n k : Nat} {xs : List Nat} (h : SlN w (.slice (some ⟨g, 0, none⟩) n k) xs) {j x : Nat} (hj : xs[j]? = some x) : w.cell? ⟨g, j, none⟩ = some (.int .i64 (x : Int)) := by
  obtain ⟨g', o, he, -, hc⟩ := h.get hj
  injection he with he
  injection he with e1 e2
  subst e1 e2
  rwa [Nat.zero_add] at hc
/-- as long as it may be -/
theorem SlN.clip {w : World} {A : Option Addr} {k : Nat} {xs : List Nat} (h : SlN w (.slice A xs.length k) xs) : SlN w (.slice A xs.length xs.length) xs := by
  obtain ⟨A', c', he, h1, h2, h3, hcc⟩ := h
  injection he with e1 e2 e3
  subst e1
  exact ⟨A, xs.length, rfl, Nat.le_refl _, Nat.le_trans h1 h2, h3, hcc⟩
theorem clipn_any (w : World) (ad : Addr) (n c : Nat) (hnc : n ≤ c) (hc : c ≤ maxLen) : Calls Tryd.prog 37 #[.slice (some ad) n c] w fun e w' => e = .returned (.slice (some ad) n n) ∧ w = w' := by
  unfold maxLen at hc
  go_enter Tryd.func37, Tryd.ntmps37
  go_wp2
  go_ret
  exact ⟨rfl, rfl⟩

namespace Gy
/-- the blocks that are turned: those of the waits, of the heap, of its row, of the rounds' row -/
def T (q p : Nat) (u o : Value) (k : Nat) : Prop := k = q ∨ k = p ∨ u.ownBlock = some k ∨ o.ownBlock = some k
structure St (w0 : World) (B q r p N : Nat) (vs : List Value) (wr : World) (ws : List Int) (u : Value) (hl : List Nat) (o : Value) (os : List Value) (fs : List (Value × List Nat)) : Prop where
  wt : wr.ownsRow B 3 1 (.slice (some ⟨q, 0, none⟩) N N) N (ints .i64 ws)
  nb : Blk wr r 32 vs
  hp : HpR wr B p u hl
  ou : wr.ownsRow B 32 1 o os.length os
  far : ∀ x ∈ fs, SlN wr x.1 x.2 ∧ FarU (T q p u o) x.1 x.2
  below : Below B w0 wr
  plo : B ≤ p
  uq : u.ownBlock ≠ some q
  nor : o.ownBlock ≠ some r
section
variable {w0 wr w' : World} {B q r p N : Nat} {vs : List Value} {ws ws' : List Int} {u u' o o' : Value} {hl hl' : List Nat} {os os' : List Value} {fs fs' : List (Value × List Nat)}
theorem St.tlt (h : St w0 B q r p N vs wr ws u hl o os fs) : ∀ k, T q p u o k → k < wr.heap.size := fun k hk => by
  rcases hk with rfl | rfl | hk | hk
  · exact (h.wt.lt _ rfl).2
  · exact h.hp.blk.lt
  · exact (h.hp.row.lt k hk).2
  · exact (h.ou.lt k hk).2
theorem St.tge (h : St w0 B q r p N vs wr ws u hl o os fs) : ∀ k, T q p u o k → B ≤ k := fun k hk => by
  rcases hk with rfl | rfl | hk | hk
  · exact (h.wt.lt _ rfl).1
  · exact h.plo
  · exact (h.hp.row.lt k hk).1
  · exact (h.ou.lt k hk).1
theorem St.tr (h : St w0 B q r p N vs wr ws u hl o os fs) : ¬ T q p u o r := fun hk => by
  rcases hk with rfl | rfl | hk | hk
  · exact own_blk_ne h.wt h.nb (by decide) rfl
  · have h1 := h.nb
    have h2 := h.hp.blk
    have := h1.symm.trans h2
    injection this with this
    injection this with _ e
    exact absurd e (by decide)
  · exact own_blk_ne h.hp.row h.nb (by decide) hk
  · exact h.nor hk
/-- a turn: only what may be turned was turned -/
theorem St.turn {S : Nat → Prop} (h : St w0 B q r p N vs wr ws u hl o os fs) (hk : Keeps S wr w') (hS : ∀ k, S k → T q p u o k)
    (wt' : w'.ownsRow B 3 1 (.slice (some ⟨q, 0, none⟩) N N) N (ints .i64 ws')) (hp' : HpR w' B p u' hl') (ou' : w'.ownsRow B 32 1 o' os'.length os')
    (hT : ∀ k, T q p u' o' k → T q p u o k ∨ wr.heap.size ≤ k) (uq' : u'.ownBlock ≠ some q) (hf : ∀ x ∈ fs', x ∈ fs ∨ (SlN w' x.1 x.2 ∧ FarU (T q p u' o') x.1 x.2)) : St w0 B q r p N vs w' ws' u' hl' o' os' fs' := by
  refine ⟨wt', h.nb.keeps hk (fun hs => h.tr (hS _ hs)), hp', ou', fun x hx => ?_, h.below.trans (hk.below h.hp.base (fun k hs => h.tge k (hS k hs))), h.plo, uq', fun e => ?_⟩
  · rcases hf x hx with h1 | h1
    · obtain ⟨a, b⟩ := h.far x h1
      exact ⟨a.far hk (b.mono hS), b.stepN a hT⟩
    · exact h1
  · rcases hT r (.inr (.inr (.inr e))) with h1 | h1
    · exact h.tr h1
    · have := h.nb.lt
      omega
theorem St.step (h : St w0 B q r p N vs wr ws u hl o os fs) (hb : Below wr.heap.size wr w') : St w0 B q r p N vs w' ws u hl o os fs :=
  h.turn (Keeps.of_below hb (fun _ => False)) (fun _ hk => hk.elim) (own_keeps h.wt (Keeps.of_below hb (fun _ => False)) (fun _ _ => id))
    ⟨h.hp.blk.below hb, own_keeps h.hp.row (Keeps.of_below hb (fun _ => False)) (fun _ _ => id), Nat.le_trans h.hp.base hb.size⟩
    (own_keeps h.ou (Keeps.of_below hb (fun _ => False)) (fun _ _ => id)) (fun _ hk => .inl hk) h.uq (fun _ hx => .inl hx)
/-- the heap is turned -/
theorem St.heap (h : St w0 B q r p N vs wr ws u hl o os fs) (hp' : HpR w' B p u' hl') (hk : Keeps (HpT p u) wr w') (hu : u'.ownBlock = u.ownBlock ∨ ∀ k, u'.ownBlock = some k → wr.heap.size ≤ k) : St w0 B q r p N vs w' ws u' hl' o os fs := by
  have hqp : q ≠ p := fun e => own_blk_ne h.wt h.hp.blk (by decide) (by rw [e]; rfl)
  have hop : o.ownBlock ≠ some p := own_blk_ne h.ou h.hp.blk (by decide)
  have hou : ∀ k, o.ownBlock = some k → u.ownBlock ≠ some k := fun k h1 h2 => own_own_ne h.ou h.hp.row (by decide) h1 h2
  refine h.turn hk (fun k hs => hs.elim (fun e => .inr (.inl e)) (fun e => .inr (.inr (.inl e)))) (own_keeps h.wt hk (fun g hg hs => ?_)) hp' (own_keeps h.ou hk (fun g hg hs => ?_)) (fun k hk => ?_) ?_ (fun _ hx => .inl hx)
  · injection hg with hg
    subst hg
    exact hs.elim hqp h.uq
  · exact hs.elim (fun e => hop (by rw [hg, e])) (hou g hg)
  · rcases hk with e | e | e | e
    · exact .inl (.inl e)
    · exact .inl (.inr (.inl e))
    · rcases hu with h1 | h1
      · exact .inl (.inr (.inr (.inl (by rw [← h1]; exact e))))
      · exact .inr (h1 k e)
    · exact .inl (.inr (.inr (.inr e)))
  · rcases hu with h1 | h1
    · rw [h1]; exact h.uq
    · intro e
      have := h1 q e
      have := (h.wt.lt q rfl).2
      omega
/-- how many one waits for is turned -/
theorem St.wait (h : St w0 B q r p N vs wr ws u hl o os fs) (wt' : w'.ownsRow B 3 1 (.slice (some ⟨q, 0, none⟩) N N) N (ints .i64 ws')) (hg : wr.grownBy w' (some q)) : St w0 B q r p N vs w' ws' u hl o os fs := by
  have hqp : q ≠ p := fun e => own_blk_ne h.wt h.hp.blk (by decide) (by rw [e]; rfl)
  have hoq : o.ownBlock ≠ some q := fun e => own_own_ne h.ou h.wt (by decide) e rfl
  have hk := Keeps.of_grown hg
  refine h.turn hk (fun k hs => .inl (by injection hs)) wt' ⟨h.hp.blk.grown hg (fun e => hqp (by injection e with e; exact e.symm)), own_keeps h.hp.row hk (fun g hg e => h.uq (by rw [hg, e])), Nat.le_trans h.hp.base hg.size⟩ (own_keeps h.ou hk (fun g hg e => hoq (by rw [hg, e]))) (fun _ hk => .inl hk) h.uq (fun _ hx => .inl hx)
/-- one round more -/
theorem St.out {v : Value} (h : St w0 B q r p N vs wr ws u hl o os fs) (hr : w'.ownsRow B 32 1 o' (os.length + 1) (os ++ [v])) (hg : wr.grownBy w' o.ownBlock) (hv : o'.ownBlock = o.ownBlock ∨ ∃ k, wr.heap.size ≤ k ∧ o'.ownBlock = some k) (hf : ∀ x ∈ fs', x ∈ fs) : St w0 B q r p N vs w' ws u hl o' (os ++ [v]) fs' := by
  have hop : o.ownBlock ≠ some p := own_blk_ne h.ou h.hp.blk (by decide)
  have hou : ∀ k, o.ownBlock = some k → u.ownBlock ≠ some k := fun k h1 h2 => own_own_ne h.ou h.hp.row (by decide) h1 h2
  have hoq : o.ownBlock ≠ some q := fun e => own_own_ne h.ou h.wt (by decide) e rfl
  have hk := Keeps.of_grown hg
  refine h.turn hk (fun k hs => .inr (.inr (.inr hs.symm))) (own_keeps h.wt hk (fun g hg e => hoq (by rw [← e, ← hg]; rfl))) ⟨h.hp.blk.grown hg (fun e => hop e.symm), own_keeps h.hp.row hk (fun g hg e => hou g e.symm hg), Nat.le_trans h.hp.base hg.size⟩ (by simpa using hr) (fun k hk => ?_) h.uq (fun x hx => .inl (hf x hx))
  rcases hk with e | e | e | e
  · exact .inl (.inl e)
  · exact .inl (.inr (.inl e))
  · exact .inl (.inr (.inr (.inl e)))
  · rcases hv with h1 | ⟨j, hj, h1⟩
    · exact .inl (.inr (.inr (.inr (by rw [← h1]; exact e))))
    · rw [h1] at e; injection e with e; exact .inr (by omega)
/-- one more that is read -/
theorem St.more {v : Value} {a : List Nat} (h : St w0 B q r p N vs wr ws u hl o os fs) (hv : SlN wr v a) (hf : FarU (T q p u o) v a) : St w0 B q r p N vs wr ws u hl o os ((v, a) :: fs) :=
  ⟨h.wt, h.nb, h.hp, h.ou, fun x hx => (List.mem_cons.1 hx).elim (fun e => by subst e; exact ⟨hv, hf⟩) (h.far x), h.below, h.plo, h.uq, h.nor⟩
theorem St.only {fs' : List (Value × List Nat)} (h : St w0 B q r p N vs wr ws u hl o os fs) (hf : ∀ x ∈ fs', x ∈ fs) : St w0 B q r p N vs wr ws u hl o os fs' :=
  ⟨h.wt, h.nb, h.hp, h.ou, fun x hx => h.far x (hf x hx), h.below, h.plo, h.uq, h.nor⟩
end
/-- the nodes' rows are laid, the heap is made -/
theorem St.start {w2 wr : World} {B q r N : Nat} {T0 : Nat → Prop} {vs : List Value} {ws : List Int} {nx : List (List Nat)} (h : OwnTo B w2 T0 wr r 32 vs (tkR (.slice (some ⟨q, 0, none⟩) N N) ws vs nx)) (hb : Below B w2 wr) (hl : ws.length = N) :
    St w2 B q r wr.heap.size N vs (wr.alloc (.cells #[.slice none 0 0] 65)) ws (.slice none 0 0) [] (.slice none 0 0) [] (vs.zip nx) := by
  have ho := h.own
  have ha := ho.alloc (.cells #[.slice none 0 0] 65)
  have hwt : ∀ w', Own B w' r 32 vs (tkR (.slice (some ⟨q, 0, none⟩) N N) ws vs nx) → w'.ownsRow B 3 1 (.slice (some ⟨q, 0, none⟩) N N) N (ints .i64 ws) := fun w' h => by
    have := h.row 0 rfl
    unfold Rw.at_ wrw at this
    rw [hl] at this
    exact this
  refine ⟨hwt _ ha, ha.blk, ⟨Blk.new wr 65 [.slice none 0 0], World.ownsRow_nil _ _ _ _, ha.base⟩, World.ownsRow_nil _ _ _ _, fun x hx => ?_, hb.trans (below_alloc (Below.refl _ _) _ |>.mono ho.base), ho.base, by simp [Value.ownBlock], by simp [Value.ownBlock]⟩
  obtain ⟨i, hi⟩ := List.getElem?_of_mem hx
  obtain ⟨v, c⟩ := x
  rw [List.getElem?_zip_eq_some] at hi
  obtain ⟨h1, h2⟩ := hi
  have hg := tkR_get (.slice (some ⟨q, 0, none⟩) N N) ws vs nx i v c h1 h2
  have hr : wr.ownsRow B 3 1 v c.length (ilist c) := ho.row (i + 1) hg
  refine ⟨(SlN.of_own hr).below (below_alloc (Below.refl _ _) _), fun hn p hp hk => ?_⟩
  have hv : v.ownBlock = some p.block := by
    rcases hr.2 with ⟨rfl, -⟩ | ⟨g, cap, cur, rfl, -⟩
    · cases hp
    · injection hp with hp
      rw [← hp]
      rfl
  rcases hk with e | e | e | e
  · refine ho.ap (i + 1) 0 _ _ hg rfl (by omega) p.block hv ?_
    rw [e]; rfl
  · have := (hr.lt _ hv).2
    omega
  · cases e
  · cases e
/-- what is pushed is a node that was not there: the heap is short -/
theorem short {N : Nat} {hl : List Nat} (h : hl.Nodup) (hm : ∀ x ∈ hl, x < N) : hl.length ≤ N := by
  have := h.length_le_of_subset (l₂ := List.range N) (fun x hx => List.mem_range.2 (hm x hx))
  simpa using this
end Gy
end Go.Proofs.YtpimcghmpbbckaaDoor


namespace Go.Proofs.YtpimcghmpbbckaaDoor
set_option linter.unusedVariables false
set_option linter.unusedSimpArgs false
set_option maxRecDepth 100000
open Go.RowKit

theorem info_u64 : (Tryd.prog.info? 45).map (fun i => (i.zero, i.size, i.bytes)) = some (some (.int .u64 0), 1, 8) := by kernel_rfl
def aheads (N : Nat) (es : List Gr.Ed) : List Nat := (List.range N).map (Cn.ahead es)
theorem aheads_nil (N : Nat) : aheads N [] = List.replicate N 0 := by
  apply List.ext_getElem
  · simp [aheads]
  · intro i h h'; simp [aheads, Cn.ahead]
theorem aheads_snoc (N : Nat) (es : List Gr.Ed) (a b : Nat) : aheads N (es ++ [(a, b)]) = (aheads N es).set b (Cn.ahead es b ||| 2 ^ a) := by
  unfold aheads
  rw [Gr.map_set]
  refine List.map_congr_left fun m _ => ?_
  rw [Cn.ahead_snoc]
  by_cases h : b = m
  · subst h; simp
  · rw [if_neg h, if_neg (fun e => h e.symm)]
theorem ilist_set (L : List Nat) (i x : Nat) : ilist (L.set i x) = (ilist L).set i (.int .i64 (x : Int)) := by
  unfold ilist
  rw [List.map_set, ints_set]

/-- what the sets hold -/
def ways (N : Nat) (es : List Gr.Ed) (M s n : Nat) : List Nat := (List.range M).map (Cn.P N (Cn.okE es) s n)
theorem ways_get (N : Nat) (es : List Gr.Ed) {M s n t : Nat} (ht : t < M) : (ways N es M s n)[t]? = some (Cn.P N (Cn.okE es) s n t) := Gr.map_get _ _ _ ht
theorem ways_start (N : Nat) (es : List Gr.Ed) (M : Nat) : nats (ways N es M 0 0) = (List.replicate M (Value.int .u64 0)).set 0 (.int .u64 1) := by
  apply List.ext_getElem?
  intro i
  by_cases hi : i < M
  · rw [nats_get _ _ _ (ways_get N es hi), Cn.P_start]
    by_cases h0 : i = 0
    · subst h0
      rw [List.getElem?_set_self (by simpa using hi)]
      rfl
    · rw [List.getElem?_set_ne (fun e => h0 e.symm), List.getElem?_replicate, if_pos hi, if_neg h0]
      rfl
  · rw [List.getElem?_eq_none (by rw [nats_length]; unfold ways; simp; omega), List.getElem?_eq_none (by simp; omega)]
theorem ways_step {N : Nat} {es : List Gr.Ed} {M s n : Nat} (hn : n < N) (hb : Cn.bit s n = false) (hok : Cn.okE es n s = true) : ways N es M s (n + 1) = (ways N es M s n).set (s + 2 ^ n) (Cn.P N (Cn.okE es) s n (s + 2 ^ n) + Cn.ord N (Cn.okE es) s) := by
  unfold ways
  rw [Gr.map_set]
  refine List.map_congr_left fun t _ => ?_
  rw [Cn.P_step hn hb hok]
  by_cases e : t = s + 2 ^ n
  · rw [if_pos e, if_pos e, e]
  · rw [if_neg e, if_neg e, Nat.add_zero]
theorem ways_skip {N : Nat} {es : List Gr.Ed} {M s n : Nat} (h : Cn.bit s n = true ∨ Cn.okE es n s = false ∨ Cn.ord N (Cn.okE es) s = 0) : ways N es M s (n + 1) = ways N es M s n :=
  List.map_congr_left fun t _ => Cn.P_skip h t
theorem ways_next (N : Nat) (es : List Gr.Ed) (M s : Nat) : ways N es M s N = ways N es M (s + 1) 0 := List.map_congr_left fun t _ => Cn.P_next s t
theorem test_bit {s n : Nat} (hs : s < 9223372036854775808) : (bits .and .i64 ((s : Int) / 2 ^ n) 1 == 0) = !(Cn.bit s n) := by
  have h1 : (s : Int) / 2 ^ n = ((s / 2 ^ n : Nat) : Int) := by simp
  have h2 : s / 2 ^ n ≤ s := Nat.div_le_self _ _
  rw [h1, show (1 : Int) = ((1 : Nat) : Int) from rfl, Cn.bits_and_i64 _ 1 (by omega) (by omega), Nat.and_one_is_mod, Cn.bit_mod]
  cases Cn.bit s n <;> rfl
theorem test_ok {es : List Gr.Ed} {s n : Nat} (hs : s < 9223372036854775808) (ha : Cn.ahead es n < 9223372036854775808) : (bits .andNot .i64 ((Cn.ahead es n : Nat) : Int) (s : Int) == 0) = Cn.okE es n s := by
  rw [Cn.bits_andNot_i64 _ _ ha hs, Bool.eq_iff_iff, Cn.okE_ahead, ← Cn.lack_zero ha hs]
  simp only [beq_iff_eq]
  omega


set_option maxHeartbeats 4000000 in
theorem count_yes (N : Nat) (es : List Gr.Ed) (w : World) (A : Option Addr) (c : Nat) (hN : N ≤ 14) (hes : ∀ e ∈ es, e.1 < N ∧ e.2 < N) (hA : SlV w 2 (.slice A es.length c) es.length (edcs es)) (hle : es.length ≤ 1099511627776)
    (hwr : ∀ w', Below w.heap.size w w' → Calls Tryd.prog 14 #[.agg #[.int .i64 (N : Int), .slice A es.length c]] w' fun e w'' => e = .returned (.int .i64 0) ∧ Below w'.heap.size w' w'') :
    Calls Tryd.prog 18 #[.agg #[.int .i64 (N : Int), .slice A es.length c]] w fun e w' => e = .returned (.tuple #[.int .u64 ((Cn.ord N (Cn.okE es) (2 ^ N - 1) : Nat) : Int), .int .i64 0]) ∧ Below w.heap.size w w' := by
  have HES := Lib.hid hes
  obtain ⟨R, hR⟩ : ∃ R, R = Cn.ord N (Cn.okE es) (2 ^ N - 1) := ⟨_, rfl⟩
  rw [← hR]
  have HRR := Lib.hid hR
  clear hR
  have x0 := Blk.new w 24 [.int .i64 (N : Int), .slice A es.length c]
  have hb0 : Below w.heap.size w (w.alloc (.cells #[.int .i64 (N : Int), .slice A es.length c] 24)) := below_alloc (Below.refl _ _) _
  have hwr1 := hwr _ hb0
  clear hes hwr
  have n47 : 8 * N ≤ 281474976710656 := by omega
  have n63 : N ≤ 9223372036854775807 := by omega
  go_enter Tryd.func18, Tryd.ntmps18
  go_upto_region 1 with (fail)
  generalize (w.alloc (.cells #[.int .i64 (N : Int), .slice A es.length c] 24)) = V0 at x0 hb0 hwr1 ⊢
  have d0 : V0.cell? ⟨w.heap.size, 0, none⟩ = some (.int .i64 (N : Int)) := (x0.cell 0).trans rfl
  have d1 : V0.cell? ⟨w.heap.size, 1, none⟩ = some (.slice A es.length c) := (x0.cell 1).trans rfl
  go_wp2_with fail
  refine hwr1.mono ?_
  rintro _ w1 ⟨rfl, hb1⟩
  have x1 := x0.below hb1
  have hb01 := below_next hb1 hb0
  have c0 : w1.cell? ⟨w.heap.size, 0, none⟩ = some (.int .i64 (N : Int)) := (x1.cell 0).trans rfl
  have c1 : w1.cell? ⟨w.heap.size, 1, none⟩ = some (.slice A es.length c) := (x1.cell 1).trans rfl
  have hlt1 := x1.lt
  clear hwr1 x0 hb0 hb1 d0 d1
  have hg14 : decide (14 < N) = false := by simp; omega
  go_wp2_with (first | (at_make; refine wp_make _ 32 3 (.int .i64 0) 8 N Tryd.underlying32 info_int rfl (by omega) (by omega) n47 n63 rfl rfl rfl rfl ?_; intro w2 hown2 hb2 hs2; have x2 := x1.below hb2; have c20 : w2.cell? ⟨w.heap.size, 0, none⟩ = some (.int .i64 (N : Int)) := (x2.cell 0).trans rfl; have c21 : w2.cell? ⟨w.heap.size, 1, none⟩ = some (.slice A es.length c) := (x2.cell 1).trans rfl) | fail)
  obtain ⟨gA, hgA⟩ : ∃ g, g = w1.heap.size := ⟨_, rfl⟩
  rw [← hgA] at hown2 hlt1 ⊢
  have hown2' : w2.ownsRow gA 3 1 (.slice (some ⟨gA, 0, none⟩) N N) N (ilist (aheads N (es.take 0))) := by
    rw [List.take_zero, aheads_nil]
    have e : ilist (List.replicate N 0) = List.replicate N (.int .i64 0) := by simp [ilist, ints]
    rw [e]
    exact hown2
  have HG := Lib.hid (And.intro hgA (And.intro hb01 hlt1))
  have HX1 := Lib.hid x1
  have HO2 := Lib.hid (And.intro hown2' hb2)
  have hA1 := hA.below hb01
  clear hown2 hown2' c0 c1 x1 hb01 hlt1 hgA c20 x2 hA hb2 hs2
  go_loopw [26] (fun i wr => ∃ k : Nat, k ≤ es.length ∧ i = .int .i64 (k : Int) ∧ wr.ownsRow gA 3 1 (.slice (some ⟨gA, 0, none⟩) N N) N (ilist (aheads N (es.take k))) ∧ Below w1.heap.size w1 wr) (fun i _ => es.length - (intOf i).toNat)
  case atStart => exact ⟨0, Nat.zero_le _, rfl, HO2.out.1, HO2.out.2⟩
  case round =>
    clear HO2 c21
    obtain ⟨k, hk, rfl, hro, hb⟩ := hrel
    by_cases hlt : k < es.length
    · obtain ⟨⟨a, b⟩, hx⟩ : ∃ x, es[k]? = some x := ⟨_, List.getElem?_eq_getElem hlt⟩
      obtain ⟨haN, hbN⟩ := HES.out _ (List.mem_of_getElem? hx)
      have gx := flat_get edc 2 (fun _ => rfl) es k
      have g1 := gx 0 _ hx (by omega)
      have g2 := gx 1 _ hx (by omega)
      obtain ⟨A', c', he, -, -, -, hcc⟩ := hA1.below hb
      injection he with e1 e2 e3
      subst e1 e3
      obtain ⟨g, o, rfl, hgl, hcell⟩ := hcc.at_ (fun e => by rw [show List.flatMap edc es = edcs es from rfl, e] at g1; simp [edc] at g1)
      have d0 : wr.cell? ⟨g, o + k * 2, none⟩ = some (.int .i64 (a : Int)) := (hcell _ _ g1).trans rfl
      have d1 : wr.cell? ⟨g, o + k * 2 + 1, none⟩ = some (.int .i64 (b : Int)) := by rw [Nat.add_assoc]; exact hcell _ _ g2
      have hE := Blk.new wr 34 [.int .i64 (a : Int), .int .i64 (b : Int)]
      have hb5 := below_alloc (Below.refl wr.heap.size wr) (.cells #[.int .i64 (a : Int), .int .i64 (b : Int)] 34)
      have hro5 := own_keeps hro (Keeps.of_below hb5 (fun _ => False)) (fun _ _ => id)
      have hsn := aheads_snoc N (es.take k) a b
      rw [← Gr.take_snoc hx] at hsn
      have hlt2 := Cn.ahead_lt (N := N) (es := es.take k) (fun e he => (HES.out e (List.mem_of_mem_take he)).1) b
      obtain ⟨U, hU⟩ : ∃ U, U = Cn.ahead (es.take k) b := ⟨_, rfl⟩
      rw [← hU] at hsn hlt2
      have hget : (aheads N (es.take k))[b]? = some U := by rw [hU]; exact Gr.map_get _ _ _ hbN
      have c2 := own_cell hro5 (ilist_get hget)
      have HS := Lib.hid (And.intro hsn (And.intro (below_next hb5 hb) hget))
      obtain ⟨sE, hsE⟩ : ∃ s, s = wr.heap.size := ⟨_, rfl⟩
      have HSE := Lib.hid hsE
      clear hx gx g1 g2 hcc hcell e2 hA1 hb hro hb5 hsn hU hget hsE
      go_upto_region 10 with (fail)
      rw [← HSE.out] at hE ⊢
      generalize (wr.alloc (.cells #[.int .i64 (a : Int), .int .i64 (b : Int)] 34)) = W5 at hE hro5 c2 HS ⊢
      have b0 : W5.cell? ⟨sE, 0, none⟩ = some (.int .i64 (a : Int)) := (hE.cell 0).trans rfl
      have b1 : W5.cell? ⟨sE, 1, none⟩ = some (.int .i64 (b : Int)) := (hE.cell 1).trans rfl
      clear hE d0 d1
      have hp14 := Cn.two_pow_small (n := a) (by omega)
      have hUb := Nat.lt_of_lt_of_le hlt2 (Cn.two_pow_small hN)
      obtain ⟨pa, hpa⟩ : ∃ p, p = 2 ^ a := ⟨_, rfl⟩
      have hpi : ((2 : Int) ^ a) = (pa : Int) := by rw [hpa]; simp
      rw [← hpa] at hp14 HS
      have hpw : IntKind.i64.wrap (2 ^ a) = (pa : Int) := by rw [hpi]; exact IntWalk.i64_in _ (by omega)
      have hbo := Cn.bits_or_i64 U pa (by omega) (by omega)
      clear hpi hpa
      have HBO := Lib.hid (And.intro hpw hbo)
      clear hpw hbo hlt2
      (refine still_last (by kernel_rfl) (by kernel_rfl) ?_; simp only [List.length_cons, List.length_nil, Nat.reduceAdd, Nat.reduceSub, List.take_succ_cons, List.take_zero, List.drop_succ_cons, List.drop_zero]; repeat still_step; try refine wpStill_nil ?_)
      rw [HBO.out.1, HBO.out.2]
      refine wpl_set_row (show (W5.drewN 1).ownsRow gA 3 1 (.slice (some ⟨gA, 0, none⟩) N N) N (ilist (aheads N (es.take k))) from own_keeps hro5 ((Keeps.refl (fun _ => False) W5).drewN 1) (fun _ _ => id)) b (.int .i64 ((U ||| pa : Nat) : Int)) (by kernel_rfl) (by omega) (by rfl) (by rfl) (by rfl) (by rfl) (by rfl) (by rfl) ?_
      intro w6 hr6 hg6
      have hr6' : w6.ownsRow gA 3 1 (.slice (some ⟨gA, 0, none⟩) N N) N (ilist (aheads N (es.take (k + 1)))) := by
        rw [HS.out.1, ilist_set]
        exact hr6
      have hb6 := HS.out.2.1.trans (below_of_grown (show W5.grownBy w6 (some gA) from ⟨hg6.os, hg6.tape, hg6.output, hg6.size, hg6.block⟩) HS.out.2.1.size (by rw [HG.out.1]; exact Nat.le_refl _))
      have HF := Lib.hid (And.intro hr6' hb6)
      clear hr6 hg6 hr6' hb6 hro5 c2 b0 b1
      go_wp2_with fail
      go_roundw
      case rel => exact ⟨k + 1, by omega, by go_num, HF.out.1, HF.out.2⟩
      case measure => simp [intOf]; omega
    · obtain rfl : k = es.length := by omega
      rw [List.take_length] at hro
      have x3 := HX1.out.below hb
      have e0 : wr.cell? ⟨w.heap.size, 0, none⟩ = some (.int .i64 (N : Int)) := (x3.cell 0).trans rfl
      obtain ⟨M, hM⟩ : ∃ M, M = 2 ^ N := ⟨_, rfl⟩
      have hM14 : M ≤ 16384 := by rw [hM]; exact Cn.two_pow_small hN
      have hMw : IntKind.i64.wrap ((2 : Int) ^ N) = (M : Int) := by
        rw [show ((2 : Int) ^ N) = (M : Int) by rw [hM]; simp]
        exact IntWalk.i64_in _ (by omega)
      have hM0 : 0 < M := by rw [hM]; exact Nat.two_pow_pos N
      have HM := Lib.hid hM
      have m47 : 8 * M ≤ 281474976710656 := by omega
      have m63 : M ≤ 9223372036854775807 := by omega
      have hlz : gA < wr.heap.size := by
        by_cases h0 : 0 < N
        · exact (hro.lt gA rfl).2
        · exact (hro.lt gA rfl).2
      have HZ := Lib.hid (And.intro hro (And.intro hb hlz))
      clear hM hro hb hA1 hlt hk hlz
      obtain ⟨wz, rfl⟩ : ∃ wz : World, wz = wr := ⟨_, rfl⟩
      go_wp2_with (first | (at_make; refine wp_make _ 80 45 (.int .u64 0) 8 M Tryd.underlying80 info_u64 rfl (by omega) (by omega) m47 m63 rfl rfl rfl rfl ?_; intro w5 hown5 hb5 hs5; have hgl5 := (hown5.lt _ rfl).2) | (refine wpl_set_row hown5 0 (.int .u64 1) (by kernel_rfl) (by omega) (by rfl) (by rfl) (by rfl) (by rfl) (by rfl) (by rfl) ?_; intro w6 hr6 hg6) | fail)
      obtain ⟨gW, hgW⟩ : ∃ g, g = wz.heap.size := ⟨_, rfl⟩
      have hr6' : w6.ownsRow gW 45 1 (.slice (some ⟨gW, 0, none⟩) M M) M (nats (ways N es M 0 0)) := by
        rw [hgW]
        have e : nats (ways N es M 0 0) = (List.replicate M (.int .u64 0)).set 0 (.int .u64 1) := ways_start N es M
        rw [e]
        exact hr6
      have hk2 : ∀ w', Keeps (fun k => k = gW) w6 w' → (∀ n, n < N → w'.cell? ⟨gA, n, none⟩ = some (.int .i64 ((Cn.ahead es n : Nat) : Int))) ∧ w'.cell? ⟨w.heap.size, 0, none⟩ = some (.int .i64 (N : Int)) ∧ Below w.heap.size w w' := fun w' hk => by
        have h56 : Keeps (fun k => k = gW) w5 w6 := (Keeps.of_grown hg6).mono (fun i hi => by injection hi with hi; rw [hi, hgW])
        have hz6 := (Keeps.of_below hb5 (fun k => k = gW)).trans (h56.trans hk)
        have h1 := own_keeps HZ.out.1 hz6 (fun k hk e => by have h1 : gA = k := (by injection hk); have := HZ.out.2.2; omega)
        have h2 := x3.keeps hz6 (fun e => by have := x3.lt; omega)
        refine ⟨fun n hn => own_cell h1 (ilist_get (Gr.map_get _ _ _ hn)), (h2.cell 0).trans rfl, ?_⟩
        have h3 := (below_next HZ.out.2.1 HG.out.2.1)
        exact h3.trans ((hz6.below (B := w.heap.size) h3.size (fun i hi => by rw [hi, hgW]; exact h3.size)).mono (Nat.le_refl _))
      have HK2 := Lib.hid hk2
      have HR6 := Lib.hid hr6'
      rw [← hgW]
      clear hk2 hr6' hr6 hg6 hb5 hs5 hown5 hgl5 hgW x3 e0 m47 m63 hMw HZ HX1 HG
      go_loopw [49] (fun i wr => ∃ s : Nat, s ≤ M ∧ i = .int .i64 (s : Int) ∧ wr.ownsRow gW 45 1 (.slice (some ⟨gW, 0, none⟩) M M) M (nats (ways N es M s 0)) ∧ Keeps (fun k => k = gW) w6 wr) (fun i _ => M - (intOf i).toNat)
      case atStart => exact ⟨0, Nat.zero_le _, rfl, HR6.out, Keeps.refl _ _⟩
      case round =>
        clear HR6
        obtain ⟨s, hs, rfl, hro, hk⟩ := hrel
        by_cases hlt : s < M
        · obtain ⟨-, e0, -⟩ := HK2.out _ hk
          obtain ⟨K, hK⟩ : ∃ K, K = Cn.ord N (Cn.okE es) s := ⟨_, rfl⟩
          have hget : (ways N es M s 0)[s]? = some K := by rw [hK, ways_get N es hlt, Cn.P_all (by rw [← HM.out]; exact hlt) (Nat.le_refl _)]
          have c0 := own_cell hro (nats_get _ _ _ hget)
          have hKb : K ≤ 11112006825558016 := by rw [hK]; exact Cn.ord_bound hN
          have HK := Lib.hid (And.intro hK (And.intro hro hk))
          clear hK hget hro hk
          go_wp2_with fail
          clear c0 e0
          go_loopw [56] (fun i wr => ∃ n : Nat, n ≤ N ∧ i = .int .i64 (n : Int) ∧ wr.ownsRow gW 45 1 (.slice (some ⟨gW, 0, none⟩) M M) M (nats (ways N es M s n)) ∧ Keeps (fun k => k = gW) w6 wr) (fun i _ => N - (intOf i).toNat)
          case atStart => exact ⟨0, Nat.zero_le _, rfl, HK.out.2.1, HK.out.2.2⟩
          case round =>
            obtain ⟨n, hn, rfl, hro, hk⟩ := hrel
            by_cases hlt2 : n < N
            · obtain ⟨hca, -, -⟩ := HK2.out _ hk
              have c1 := hca n hlt2
              have hs63 : s < 9223372036854775808 := by omega
              have hU14 := Cn.ahead_lt (N := N) (es := es) (fun e he => (HES.out e he).1) n
              rw [← HM.out] at hU14
              have ht1 := test_bit (n := n) hs63
              have ht2 := test_ok (es := es) (n := n) hs63 (by omega)
              by_cases hK0 : K = 0
              · have hord : Cn.ord N (Cn.okE es) s = 0 := by rw [← HK.out.1]; exact hK0
                subst hK0
                clear ht1 ht2 c1
                have hwn := ways_skip (M := M) (s := s) (n := n) (N := N) (es := es) (.inr (.inr hord))
                rw [← hwn] at hro
                have HF := Lib.hid (And.intro hro hk)
                clear hro hk hwn hca
                go_wp2_with fail
                go_roundw
                case rel => exact ⟨n + 1, by omega, by go_num, HF.out.1, HF.out.2⟩
                case measure => simp [intOf]; omega
              · have hKp : decide (0 < K) = true := decide_eq_true (by omega)
                rcases hbt : Cn.bit s n with _ | _
                · rcases hok : Cn.okE es n s with _ | _
                  · rw [hbt, Bool.not_false] at ht1
                    rw [hok] at ht2
                    obtain ⟨U, hU⟩ : ∃ U, U = Cn.ahead es n := ⟨_, rfl⟩
                    rw [← hU] at c1 ht2
                    clear hU hU14
                    have hwn := ways_skip (M := M) (s := s) (n := n) (N := N) (es := es) (.inr (.inl hok))
                    rw [← hwn] at hro
                    have HF := Lib.hid (And.intro hro hk)
                    clear hro hk hwn hca
                    go_wp2_with fail
                    go_roundw
                    case rel => exact ⟨n + 1, by omega, by go_num, HF.out.1, HF.out.2⟩
                    case measure => simp [intOf]; omega
                  · rw [hbt, Bool.not_false] at ht1
                    rw [hok] at ht2
                    have hwn := ways_step (M := M) hlt2 hbt hok
                    have htM : s + 2 ^ n < M := by
                      rw [HM.out] at hlt ⊢
                      rw [← Cn.or_add hbt]
                      exact Nat.or_lt_two_pow hlt (Nat.pow_lt_pow_right (by decide) hlt2)
                    have hor := Cn.or_add hbt
                    have hget := ways_get N es (s := s) (n := n) htM
                    have hP := Cn.P_step (ok := Cn.okE es) hlt2 hbt hok (s + 2 ^ n)
                    rw [if_pos rfl] at hP
                    have hPle := Cn.P_le (N := N) (ok := Cn.okE es) (s := s) (n := n + 1) (t := s + 2 ^ n) (by rw [← HM.out]; exact htM)
                    have hob := Cn.ord_bound (ok := Cn.okE es) (s := s + 2 ^ n) hN
                    obtain ⟨V, hV⟩ : ∃ V, V = Cn.P N (Cn.okE es) s n (s + 2 ^ n) := ⟨_, rfl⟩
                    rw [← hV, ← HK.out.1] at hP hwn
                    rw [← hV] at hget
                    have hpn := Cn.two_pow_small (n := n) (by omega)
                    obtain ⟨pn, hpn'⟩ : ∃ p, p = 2 ^ n := ⟨_, rfl⟩
                    rw [← hpn'] at hwn htM hor hget hpn
                    have hVK : V + K ≤ 11112006825558016 := by omega
                    have hbo := Cn.bits_or_i64 s pn (by omega) (by omega)
                    rw [hor] at hbo
                    have hpw : IntKind.i64.wrap ((2 : Int) ^ n) = (pn : Int) := by
                      rw [show ((2 : Int) ^ n) = (pn : Int) by rw [hpn']; simp]
                      exact IntWalk.i64_in _ (by omega)
                    obtain ⟨U, hU⟩ : ∃ U, U = Cn.ahead es n := ⟨_, rfl⟩
                    rw [← hU] at c1 ht2
                    have c2 := own_cell hro (nats_get _ _ _ hget)
                    obtain ⟨t, ht⟩ : ∃ t, t = s + pn := ⟨_, rfl⟩
                    rw [← ht] at hbo c2 htM hwn
                    have HW := Lib.hid hwn
                    have f0 := row_frozen hro t
                    clear hU hU14 hV hP hPle hob hwn hget hpn' hor hpn hbt hok ht hca
                    go_wp2_with fail
                    have hr7 := row_set hro t (.int .u64 ((V : Int) + (K : Int)))
                    have hr7' : (wr.setCell ⟨gW, t, none⟩ (.int .u64 ((V : Int) + (K : Int)))).ownsRow gW 45 1 (.slice (some ⟨gW, 0, none⟩) M M) M (nats (ways N es M s (n + 1))) := by
                      rw [HW.out, show nats ((ways N es M s n).set t (V + K)) = (nats (ways N es M s n)).set t (.int .u64 ((V : Int) + (K : Int))) by simp [nats, List.map_set]]
                      exact hr7
                    have hk7 := hk.trans ((Keeps.of_grown (grown_setCell wr gW t (.int .u64 ((V : Int) + (K : Int))))).mono fun i hi => by injection hi)
                    have HF := Lib.hid (And.intro hr7' hk7)
                    clear hr7 hr7' hk7 hro hk c2
                    go_roundw
                    case rel => exact ⟨n + 1, by omega, by go_num, HF.out.1, HF.out.2⟩
                    case measure => simp [intOf]; omega
                · rw [hbt, Bool.not_true] at ht1
                  clear ht2 c1
                  have hwn := ways_skip (M := M) (s := s) (n := n) (N := N) (es := es) (.inl hbt)
                  rw [← hwn] at hro
                  have HF := Lib.hid (And.intro hro hk)
                  clear hro hk hwn hca
                  go_wp2_with fail
                  go_roundw
                  case rel => exact ⟨n + 1, by omega, by go_num, HF.out.1, HF.out.2⟩
                  case measure => simp [intOf]; omega
            · obtain rfl : N = n := by omega
              rw [ways_next] at hro
              have HF := Lib.hid (And.intro hro hk)
              clear hro hk
              obtain ⟨-, e0, -⟩ := HK2.out _ HF.out.2
              go_wp2_with fail
              go_roundw
              case rel => exact ⟨s + 1, by omega, by go_num, HF.out.1, HF.out.2⟩
              case measure => simp [intOf]; omega
        · obtain rfl : s = M := by omega
          have hget : (ways N es s s 0)[s - 1]? = some R := by
            rw [ways_get N es (by omega), Cn.P_all (by rw [← HM.out]; omega) (by omega), HRR.out, ← HM.out]
          have c0 := own_cell hro (nats_get _ _ _ hget)
          obtain ⟨M1, hM1⟩ : ∃ m, m = s - 1 := ⟨_, rfl⟩
          rw [← hM1] at c0
          have hM1' : (s : Int) - 1 = (M1 : Int) := by omega
          have hM1l : M1 < s := by omega
          have HF := Lib.hid (HK2.out _ hk).2.2
          clear hget hro hk hM1
          go_wp2_with fail
          go_ret2
          exact ⟨rfl, HF.out⟩
end Go.Proofs.YtpimcghmpbbckaaDoor
