/-
  serial's runner: block, walked.
-/
import Derived.Test.YtgaafgjhkkjalaaUtP2
import Derived.Test.YtgaafgjhkkjalaaUtP4

namespace Go.Proofs.Ytgaafgjhkkjalaa
set_option linter.unusedVariables false
set_option linter.unusedSimpArgs false
set_option maxRecDepth 100000
open Go

section
variable {P : Program} {ops : Array Oper} {Q : Exit → Act → World → Prop} {S : World → Prop} {E : World → World → Prop}

def PtrOld (w : World) (v : Value) : Prop := ∀ a, v = .pointer (some a) → a.block < w.heap.size
def PtrNew (w : World) (v : Value) : Prop := ∀ a, v = .pointer (some a) → w.heap.size ≤ a.block
def PtrApart (u v : Value) : Prop := ∀ a b, u = .pointer (some a) → v = .pointer (some b) → a.block ≠ b.block
theorem PtrApart.symm {u v : Value} (h : PtrApart u v) : PtrApart v u := fun a b h1 h2 e => h b a h2 h1 e.symm
theorem ptr_apart {w : World} {u v : Value} (h1 : PtrNew w u) (h2 : PtrOld w v) : PtrApart u v := fun a b ha hb e => by
  have := h1 a ha
  have := h2 b hb
  omega
def AllApart (ρ : Env) (Fs : List (Tmp × Fact E)) : Prop := ∀ t F u G, (t, F) ∈ Fs → (u, G) ∈ Fs → t ≠ u → PtrApart (ρ t) (ρ u)

def Kind.relA : Kind E → World → Value → World → Prop
  | .fixed v => fun _ u _ => u = v
  | .fresh F => fun w v w' => F.holds v w' ∧ PtrNew w v

def SettleA (P : Program) (ops : Array Oper) (S : World → Prop) (E : World → World → Prop) (Z : (Env → Act) → List (Tmp × Fact E) → Prop) : List Oper → (Env → Act) → List (Tmp × Fact E) → Prop
  | [], A, Fs => Z A Fs
  | o :: rest, A, Fs =>
    (∃ v, (∀ ρ w, S w → FactsOK (o.looksAt ops) ρ w Fs → StepTo P ops S E o (A ρ) w (fun u _ => u = v)) ∧ SettleA P ops S E Z rest (fun ρ => (A ρ).put o.dst v) Fs) ∨
    (∃ d F, o.dst = some d ∧ (∀ v w, F.holds v w → PtrOld w v) ∧ (∀ ρ w, S w → FactsOK (o.looksAt ops) ρ w Fs → StepTo P ops S E o (A ρ) w (fun v w' => F.holds v w' ∧ PtrNew w v)) ∧ SettleA P ops S E Z rest (fun ρ => (A ρ).put (some d) (ρ d)) ((d, F) :: Fs))

structure PlanA (P : Program) (ops : Array Oper) (S : World → Prop) (a : Act) (l : List (Oper × Kind E)) : Prop where
  dst : ∀ p ∈ l, (∃ F, p.2 = .fresh F) → ∃ d, p.1.dst = some d
  old : ∀ p ∈ l, ∀ F, p.2 = .fresh F → ∀ v w, F.holds v w → PtrOld w v
  step : ∀ pre p post, l = pre ++ p :: post → ∀ ρ w, S w → FactsOK (p.1.looksAt ops) ρ w (factsOf pre) → StepTo P ops S E p.1 (actOf a ρ pre) w (p.2.relA w)

theorem planA_snoc {a : Act} {l : List (Oper × Kind E)} (h : PlanA P ops S a l) {p : Oper × Kind E} (h1 : (∃ F, p.2 = .fresh F) → ∃ d, p.1.dst = some d) (h0 : ∀ F, p.2 = .fresh F → ∀ v w, F.holds v w → PtrOld w v)
    (h2 : ∀ ρ w, S w → FactsOK (p.1.looksAt ops) ρ w (factsOf l) → StepTo P ops S E p.1 (actOf a ρ l) w (p.2.relA w)) : PlanA P ops S a (l ++ [p]) := by
  refine ⟨fun q hq hf => ?_, fun q hq F hf => ?_, fun pre q post he => ?_⟩
  · rcases List.mem_append.1 hq with hq | hq
    · exact h.dst q hq hf
    · rw [List.mem_singleton.1 hq] at hf ⊢
      exact h1 hf
  · rcases List.mem_append.1 hq with hq | hq
    · exact h.old q hq F hf
    · rw [List.mem_singleton.1 hq] at hf
      exact h0 F hf
  · rcases List.eq_nil_or_concat post with rfl | ⟨post', q', rfl⟩
    · have := List.append_inj' he rfl
      obtain ⟨e1, e2⟩ := this
      injection e2 with e2
      subst e1 e2
      exact h2
    · have e : pre ++ q :: (post' ++ [q']) = (pre ++ q :: post') ++ [q'] := by simp
      rw [List.concat_eq_append, e] at he
      exact h.step pre q post' (List.append_inj' he rfl).1

theorem settleA_plan {Z : (Env → Act) → List (Tmp × Fact E) → Prop} {a : Act} : ∀ (l : List Oper) (pre : List (Oper × Kind E)), PlanA P ops S a pre → SettleA P ops S E Z l (fun ρ => actOf a ρ pre) (factsOf pre) →
    ∃ full : List (Oper × Kind E), PlanA P ops S a full ∧ full.map (·.1) = pre.map (·.1) ++ l ∧ Z (fun ρ => actOf a ρ full) (factsOf full) := by
  intro l
  induction l with
  | nil => exact fun pre hp h => ⟨pre, hp, by simp, h⟩
  | cons o rest ih =>
    intro pre hp h
    rcases h with ⟨v, h1, h2⟩ | ⟨d, F, hd, h0, h1, h2⟩
    · obtain ⟨full, q1, q2, q3⟩ := ih (pre ++ [(o, .fixed v)]) (planA_snoc (p := (o, .fixed v)) hp (fun ⟨F, h⟩ => by cases h) (fun F h => by cases h) h1) (by
        have e1 : (fun ρ => actOf a ρ (pre ++ [(o, (Kind.fixed v : Kind E))])) = fun ρ => (actOf a ρ pre).put o.dst v := by
          funext ρ; simp [actOf, Kind.val]
        have e2 : factsOf (pre ++ [(o, (Kind.fixed v : Kind E))]) = factsOf pre := by simp [factsOf, addFact]
        rw [e1, e2]
        exact h2)
      exact ⟨full, q1, by rw [q2]; simp, q3⟩
    · obtain ⟨full, q1, q2, q3⟩ := ih (pre ++ [(o, .fresh F)]) (planA_snoc (p := (o, .fresh F)) hp (fun _ => ⟨d, hd⟩) (fun G h => by injection h with h; subst h; exact h0) h1) (by
        have e1 : (fun ρ => actOf a ρ (pre ++ [(o, (Kind.fresh F : Kind E))])) = fun ρ => (actOf a ρ pre).put (some d) (ρ d) := by
          funext ρ; simp [actOf, Kind.val, hd]
        have e2 : factsOf (pre ++ [(o, (Kind.fresh F : Kind E))]) = (d, F) :: factsOf pre := by simp [factsOf, addFact, hd]
        rw [e1, e2]
        exact h2)
      exact ⟨full, q1, by rw [q2]; simp, q3⟩

theorem any_order_apart {a0 : Act} {full : List (Oper × Kind E)} {n : Nat} (hn : n < ops.size) (hops : full.map (·.1) = ops.toList.take n) (hlin : LinearN ops n) (hsk : Region.sinkB .any ops n = true) (hch : Region.chainB .any ops n = true)
    (hsq : ∀ listed : Array Bool, listed.size = ops.size → (∀ i, i < n → listed.getD i false = true) → (∀ i, n ≤ i → listed.getD i false = false) → Region.seqB .any ops (ops.size - n) n listed = true) (hp : PlanA P ops S a0 full)
    (hZ : ∀ ρ w, S w → (∀ t F, (t, F) ∈ factsOf full → F.holds (ρ t) w) → AllApart ρ (factsOf full) → wpList P ops Q (ops.toList.drop n) (actOf a0 ρ full) w) :
    ∀ (fuel : Nat) (listed : Array Bool) (a : Act) (w : World) (ρ : Env), HeadInv .any ops n listed →
      (∃ todo : List Nat, todo.length ≤ fuel ∧ ∀ i, i < n → listed.getD i false = false → i ∈ todo) →
      Holds a0 full (fun i => listed.getD i false = true) ρ a → S w → (∀ (i : Nat) (p : Oper × Kind E) (F : Fact E) (d : Tmp), listed.getD i false = true → full[i]? = some p → p.2 = .fresh F → p.1.dst = some d → F.holds (ρ d) w) → (∀ (i j : Nat) (p q : Oper × Kind E) (F G : Fact E) (d e : Tmp), i ≠ j → listed.getD i false = true → listed.getD j false = true → full[i]? = some p → full[j]? = some q → p.2 = .fresh F → q.2 = .fresh G → p.1.dst = some d → q.1.dst = some e → PtrApart (ρ d) (ρ e)) →
      wpAny P .any ops Q (fuel + (ops.size - n)) listed a w := by
  have hget : ∀ (i : Nat) (p : Oper × Kind E), full[i]? = some p → ops[i]? = some p.1 := fun i p h => by
    have : (full.map (·.1))[i]? = some p.1 := by simp [h]
    rw [hops, List.getElem?_take] at this
    split at this
    · simpa using this
    · cases this
  have hlen : full.length = n := by
    have := congrArg List.length hops
    simp only [List.length_map, List.length_take, Array.length_toList] at this
    omega
  have hget' : ∀ (i : Nat) (o : Oper), i < n → ops[i]? = some o → ∃ p : Oper × Kind E, full[i]? = some p ∧ p.1 = o := fun i o hin h => by
    have hi : i < full.length := by rw [hlen]; exact hin
    have h1 := hget i _ (List.getElem?_eq_getElem hi)
    rw [h] at h1
    injection h1 with h1
    exact ⟨_, List.getElem?_eq_getElem hi, h1.symm⟩
  have hdist : ∀ (i j : Nat) (p q : Oper × Kind E) (d : Tmp), i < j → full[i]? = some p → full[j]? = some q → p.1.dst = some d → q.1.dst ≠ some d := fun i j p q d hij h1 h2 => hlin.dist i j _ _ d hij (by have := (List.getElem?_eq_some_iff.1 h2).1; omega) (hget i p h1) (hget j q h2)
  have hdist2 : ∀ (i j : Nat) (p q : Oper × Kind E) (d : Tmp), i ≠ j → full[i]? = some p → full[j]? = some q → p.1.dst = some d → q.1.dst ≠ some d := fun i j p q d hij h1 h2 hd hd' => by
    rcases Nat.lt_or_gt_of_ne hij with h | h
    · exact hdist i j p q d h h1 h2 hd hd'
    · exact hdist j i q p d h h2 h1 hd' hd
  -- all have come up
  have fin : ∀ (fuel : Nat) (listed : Array Bool) (a : Act) (w : World) (ρ : Env), HeadInv .any ops n listed → (∀ i, i < n → listed.getD i false = true) → Holds a0 full (fun i => listed.getD i false = true) ρ a → S w →
      (∀ (i : Nat) (p : Oper × Kind E) (F : Fact E) (d : Tmp), listed.getD i false = true → full[i]? = some p → p.2 = .fresh F → p.1.dst = some d → F.holds (ρ d) w) → (∀ (i j : Nat) (p q : Oper × Kind E) (F G : Fact E) (d e : Tmp), i ≠ j → listed.getD i false = true → listed.getD j false = true → full[i]? = some p → full[j]? = some q → p.2 = .fresh F → q.2 = .fresh G → p.1.dst = some d → q.1.dst = some e → PtrApart (ρ d) (ρ e)) → wpAny P .any ops Q (fuel + (ops.size - n)) listed a w := fun fuel listed a w ρ inv hall hH hS hF hA => by
    have h1 : Holds a0 full (fun i => i < full.length) ρ (actOf a0 ρ full) := by
      have := holds_prefix a0 full ρ hdist full.length (Nat.le_refl _)
      rwa [List.take_length] at this
    have h2 : Holds a0 full (fun i => i < full.length) ρ a :=
      ⟨hH.defers, hH.size, fun t ht => hH.far t fun i p hi hp => ht i p (List.getElem?_eq_some_iff.1 hp).1 hp, fun i p t hi => hH.near i p t (hall i (by omega))⟩
    rw [h2.unique h1]
    have hz := hZ ρ w hS (fun t F hm => by
      rcases mem_facts hm with h | ⟨i, p, h1, h2, h3⟩
      · cases h
      · exact hF i p F t (hall i (by have := (List.getElem?_eq_some_iff.1 h1).1; omega)) h1 h2 h3) (fun t F u G hm hm' hne => by
      rcases mem_facts hm with h | ⟨i, p, h1, h2, h3⟩
      · cases h
      rcases mem_facts hm' with h | ⟨j, q, k1, k2, k3⟩
      · cases h
      refine hA i j p q F G t u (fun e => ?_) (hall i (by have := (List.getElem?_eq_some_iff.1 h1).1; omega)) (hall j (by have := (List.getElem?_eq_some_iff.1 k1).1; omega)) h1 k1 h2 k2 h3 k3
      subst e
      rw [h1] at k1
      injection k1 with k1
      subst k1
      rw [h3] at k3
      injection k3 with k3
      exact hne k3)
    have hdl : (ops.toList.drop n).length = ops.size - n := by simp
    have hs := hsq listed inv.size hall (fun i hi => by
      rcases Nat.lt_or_ge i ops.size with h | h
      · exact getD_both (inv.tail i hi h)
      · simp [Array.getD, inv.size, Nat.not_lt.2 h])
    have := wpAny_seq_more fuel (ops.toList.drop n) n listed (actOf a0 ρ full) w (fun j => by simp [List.getElem?_drop]) (by rw [hdl]; exact hs) hz
    rwa [hdl, Nat.add_comm] at this
  have none_left : ∀ listed : Array Bool, HeadInv .any ops n listed → Region.ready .any ops listed = [] → ∀ m i, i < m → i < n → listed.getD i false = true := by
    intro listed inv hr m
    induction m with
    | zero => intro i h; omega
    | succ m ih =>
      intro i hi hin
      cases hli : listed.getD i false with
      | true => rfl
      | false =>
        have hlt : i < ops.size := by omega
        have ho : ops[i]? = some ops[i] := Array.getElem?_eq_getElem hlt
        have hmem : i ∈ Region.ready .any ops listed := by
          rw [mem_ready]
          refine ⟨?_, _, ho, fun e he hb => ?_⟩
          · simp only [Array.getD, inv.size, hlt, dif_pos] at hli ⊢
            exact hli
          · have := hlin.back i _ hin ho e he hb
            exact ih e.on (by omega) (by omega)
        rw [hr] at hmem
        cases hmem
  have some_left : ∀ listed : Array Bool, (∀ i, i < n → listed.getD i false = true) ∨ ∃ i, i < n ∧ listed.getD i false = false := fun listed => by
    by_cases h : ∃ i, i < n ∧ listed.getD i false = false
    · exact .inr h
    · exact .inl fun i hi => by
        cases hl : listed.getD i false with
        | true => rfl
        | false => exact (h ⟨i, hi, hl⟩).elim
  intro fuel
  induction fuel with
  | zero =>
    intro listed a w ρ inv ⟨todo, htodo, hin⟩ hH hS hF hA
    have hall : ∀ i, i < n → listed.getD i false = true := fun i hi => by
      cases hli : listed.getD i false with
      | true => rfl
      | false =>
        have := hin i hi hli
        rw [List.eq_nil_of_length_eq_zero (Nat.le_zero.1 htodo)] at this
        cases this
    exact fin 0 listed a w ρ inv hall hH hS hF hA
  | succ fuel ih =>
    intro listed a w ρ inv ⟨todo, htodo, hin⟩ hH hS hF hA
    rcases some_left listed with hall | ⟨i0, hi0, hl0⟩
    · exact fin (fuel + 1) listed a w ρ inv hall hH hS hF hA
    have hsz := inv.size
    rw [show fuel + 1 + (ops.size - n) = (fuel + (ops.size - n)) + 1 by omega]
    refine ⟨fun hr => ?_, fun i hi => ?_⟩
    · have := none_left listed inv hr (i0 + 1) i0 (by omega) hi0
      rw [hl0] at this
      cases this
    have hilt : i < n := by
      rcases Nat.lt_or_ge i n with h | h
      · exact h
      · exact absurd hi (tail_waits hsk hch hn inv _ i0 rfl hi0 (getD_in (by omega) hl0) i h)
    obtain ⟨h0, o, ho, hall⟩ := mem_ready.1 hi
    have hlt := (Array.getElem?_eq_some_iff.1 ho).1
    have h0' : listed.getD i false = false := by
      simp only [Array.getD, hsz, hlt, dif_pos] at h0 ⊢
      exact h0
    obtain ⟨p, hpi, rfl⟩ := hget' i o hilt ho
    have hil : i < full.length := by omega
    have hpre : Holds a0 full (fun j => j < i) ρ (actOf a0 ρ (full.take i)) := holds_prefix a0 full ρ hdist i (by omega)
    have hsplit : full = full.take i ++ p :: full.drop (i + 1) := by
      have : full[i] = p := by have := List.getElem?_eq_getElem hil; rw [hpi] at this; injection this with this; exact this.symm
      rw [← this, List.getElem_cons_drop, List.take_append_drop]
    have hstep := hp.step _ p _ hsplit ρ w hS
    have conf : ∀ (j : Nat) (q : Oper × Kind E), full[j]? = some q → ∀ t, q.1.dst = some t → t ∈ p.1.looksAt ops → (listed.getD j false = true ↔ j < i) := by
      intro j q hq t hd hl
      have hoj := hget j q hq
      have hjn : j < n := by have := (List.getElem?_eq_some_iff.1 hq).1; omega
      rcases Nat.lt_trichotomy j i with h | h | h
      · refine ⟨fun _ => h, fun _ => ?_⟩
        rcases hlin.wait j i _ _ h hilt hoj ho with hap | ⟨e, he, hb, hon⟩
        · exact absurd hl ((Oper.apart_spec hap).1 t hd)
        · rw [← hon]; exact hall e he hb
      · subst h
        rw [hpi] at hq
        injection hq with hq
        subst hq
        exact absurd hl (hlin.self j _ t hilt ho hd)
      · refine ⟨fun hj => ?_, fun h' => by omega⟩
        exfalso
        rcases hlin.wait i j _ _ h hjn ho hoj with hap | ⟨e, he, hb, hon⟩
        · exact absurd hl ((Oper.apart_spec hap).2.2 t hd)
        · have := inv.closed j _ hoj hj e he hb
          rw [hon, h0'] at this
          cases this
    have hfacts : FactsOK (p.1.looksAt ops) ρ w (factsOf (full.take i)) := factsOK_of _ fun t F hm hl => by
      rcases mem_facts hm with h | ⟨j, q, h1, h2, h3⟩
      · cases h
      · have hji : j < i := by
          have := (List.getElem?_eq_some_iff.1 h1).1
          rw [List.length_take] at this
          omega
        have hq : full[j]? = some q := by
          rw [List.getElem?_take, if_pos hji] at h1
          exact h1
        exact hF j q F t ((conf j q hq t h3 (by simpa using hl)).2 hji) hq h2 h3
    have hst := hstep hfacts
    have hag : ∀ t, t ∈ p.1.looksAt ops → a.tmps[t]? = (actOf a0 ρ (full.take i)).tmps[t]? := fun t ht =>
      hH.agree hpre t fun j q hq hd => conf j q hq t hd ht
    have hexec : execOp a.eval p.1 = execOp (actOf a0 ρ (full.take i)).eval p.1 := execOp_congr p.1 (fun cs b => hlin.sel i _ cs b ho) fun x hx => by
      cases x with
      | tmp t =>
        have := hag t (List.mem_append_left _ (List.mem_filterMap.2 ⟨.tmp t, by simpa using hx, rfl⟩))
        simp only [Act.eval, Array.getD_eq_getD_getElem?]
        rw [this]
      | _ => rfl
    have hwant : Region.wanted p.1 (yielded ops a.tmps) = Region.wanted p.1 (yielded ops (actOf a0 ρ (full.take i)).tmps) := by
      unfold Region.wanted
      cases hg : p.1.guard with
      | none => rfl
      | some gw =>
        obtain ⟨g, want⟩ := gw
        have : yielded ops a.tmps g = yielded ops (actOf a0 ρ (full.take i)).tmps g := by
          unfold yielded
          cases ht : (ops[g]?).bind (·.dst) with
          | none => rfl
          | some t =>
            have := hag t (List.mem_append_right _ (by simp [hg, ht]))
            simp only [Option.bind_some, this]
        simp only [this]
    have size_eq : (actOf a0 ρ (full.take i)).tmps.size = a.tmps.size := hpre.size.trans hH.size.symm
    -- the way on
    have go : ∀ v w', p.2.relA w v w' → S w' → (∀ (j : Nat) (q : Oper × Kind E) (F : Fact E) (d : Tmp), listed.getD j false = true → full[j]? = some q → q.2 = .fresh F → q.1.dst = some d → F.holds (ρ d) w') →
        wpAny P .any ops Q (fuel + (ops.size - n)) (listed.setIfInBounds i true) (a.put p.1.dst v) w' := by
      intro v w' hR hS' hF'
      have next : ∀ ρ' : Env, p.2.val ρ' p.1 = v → (∀ j q, j ≠ i → full[j]? = some q → q.2.val ρ' q.1 = q.2.val ρ q.1) → (∀ j q F d, j ≠ i → full[j]? = some q → q.2 = .fresh F → q.1.dst = some d → ρ' d = ρ d) → (∀ F d, p.2 = .fresh F → p.1.dst = some d → F.holds (ρ' d) w' ∧ PtrNew w (ρ' d)) →
          wpAny P .any ops Q (fuel + (ops.size - n)) (listed.setIfInBounds i true) (a.put p.1.dst v) w' := by
        intro ρ' hv hothers hd' hself
        have hset : ∀ j, (listed.setIfInBounds i true).getD j false = true ↔ j = i ∨ listed.getD j false = true := fun j => by
          by_cases hji : j = i
          · subst hji
            simp [Array.getD, hsz, hlt]
          · rw [getD_set_ne false (Ne.symm hji)]
            simp [hji]
        refine ih _ _ _ ρ' (inv.set hi hilt) ⟨todo.filter (· != i), ?_, fun j hj hjl => ?_⟩ ?_ hS' (fun j q F d hj hq hf hd => ?_) (fun j j' q q' F G d d' hne hj hj' hq hq' hf hg hd hd2 => ?_)
        · have : (todo.filter (· != i)).length < todo.length := by
            rw [List.length_filter_lt_length_iff_exists]
            exact ⟨i, hin i hilt h0', by simp⟩
          omega
        · have hne : j ≠ i := fun e => by
            have := (hset j).2 (.inl e)
            rw [this] at hjl
            cases hjl
          refine List.mem_filter.2 ⟨hin j hj ?_, by simpa using hne⟩
          rwa [getD_set_ne false (Ne.symm hne)] at hjl
        · have := hH.put (ρ' := ρ') hpi hset (fun j q hj hq d hd => hdist2 j i q p d (fun e => by rw [e, h0'] at hj; cases hj) hq hpi hd) (fun j q hj hq => hothers j q (fun e => by rw [e, h0'] at hj; cases hj) hq)
          rwa [hv] at this
        · rcases (hset j).1 hj with rfl | hj
          · rw [hpi] at hq
            injection hq with hq
            subst hq
            exact (hself F d hf hd).1
          · have hne : j ≠ i := fun e => by rw [e, h0'] at hj; cases hj
            rw [hd' j q F d hne hq hf hd]
            exact hF' j q F d hj hq hf hd
        · have old : ∀ (j : Nat) (q : Oper × Kind E) (F : Fact E) (d : Tmp), listed.getD j false = true → full[j]? = some q → q.2 = .fresh F → q.1.dst = some d → PtrOld w (ρ' d) := fun j q F d hj hq hf hd => by
            have hne : j ≠ i := fun e => by rw [e, h0'] at hj; cases hj
            rw [hd' j q F d hne hq hf hd]
            exact hp.old q (List.mem_of_getElem? hq) F hf _ _ (hF j q F d hj hq hf hd)
          rcases (hset j).1 hj with hji | hk1
          · rcases (hset j').1 hj' with h | hk2
            · exact absurd (hji.trans h.symm) hne
            · rw [hji, hpi] at hq
              injection hq with hq
              subst hq
              exact ptr_apart (hself F d hf hd).2 (old j' q' G d' hk2 hq' hg hd2)
          · rcases (hset j').1 hj' with hji | hk2
            · rw [hji, hpi] at hq'
              injection hq' with hq'
              subst hq'
              exact (ptr_apart (hself G d' hg hd2).2 (old j q F d hk1 hq hf hd)).symm
            · have hn1 : j ≠ i := fun e => by rw [e, h0'] at hk1; cases hk1
              have hn2 : j' ≠ i := fun e => by rw [e, h0'] at hk2; cases hk2
              rw [hd' j q F d hn1 hq hf hd, hd' j' q' G d' hn2 hq' hg hd2]
              exact hA j j' q q' F G d d' hne hk1 hk2 hq hq' hf hg hd hd2
      cases hk : p.2 with
      | fixed v0 =>
        have hv : v = v0 := by rw [hk] at hR; exact hR
        exact next ρ (by rw [hk]; exact hv.symm) (fun _ _ _ _ => rfl) (fun _ _ _ _ _ _ _ _ => rfl) (fun F d hf => by rw [hk] at hf; cases hf)
      | fresh F =>
        obtain ⟨d, hd⟩ := hp.dst p (by rw [hsplit]; simp) ⟨F, hk⟩
        have hR' : F.holds v w' ∧ PtrNew w v := by rw [hk] at hR; exact hR
        have hne : ∀ j q d', j ≠ i → full[j]? = some q → q.1.dst = some d' → d' ≠ d := fun j q d' hji hq hd' e => hdist2 j i q p d' hji hq hpi hd' (by rw [hd, e])
        refine next (fun t => if t = d then v else ρ t) (by rw [hk]; simp [Kind.val, hd]) (fun j q hji hq => ?_) (fun j q F' d' hji hq _ hd' => if_neg (hne j q d' hji hq hd')) (fun F' d' hf hd' => ?_)
        · cases hkq : q.2 with
          | fixed v0 => rfl
          | fresh F' =>
            obtain ⟨d', hd'⟩ := hp.dst q (List.mem_of_getElem? hq) ⟨F', hkq⟩
            simp only [Kind.val, hd']
            exact if_neg (hne j q d' hji hq hd')
        · rw [hk] at hf
          injection hf with hf
          rw [hd] at hd'
          injection hd' with hd'
          subst hf hd'
          simpa using hR'
    unfold wpOp
    simp only [ho]
    unfold StepTo at hst
    rw [← hwant] at hst
    split
    · rename_i hw
      rw [if_pos hw] at hst
      refine .inl (wp_carry (R := fun v w' => p.2.relA w v w' ∧ S w' ∧ E w w') hexec size_eq (hst _ fun v w' h1 h2 h3 => ⟨v, rfl, h1, h2, h3⟩) fun v w' ⟨h1, h2, h3⟩ => go v w' h1 h2 fun j q F d hj hq hf hd => F.keep _ _ _ (hF j q F d hj hq hf hd) h3)
    · rename_i hw
      rw [if_neg hw] at hst
      exact go undef w hst hS hF


structure WalkA (P : Program) (ops : Array Oper) (S : World → Prop) (E : World → World → Prop) (Z : (Env → Act) → List (Tmp × Fact E) → Prop) (l : List Oper) (A : Env → Act) (Fs : List (Tmp × Fact E)) : Prop where
  out : SettleA P ops S E Z l A Fs

/-- THE RULE, with a tail -/
theorem wp_walk_apart {id : Nat} {a : Act} {w : World} {l : List Oper} (n : Nat) (hm : P.follows .mixedOrders = true) (hB : tailB l.toArray n = true) (E : World → World → Prop) (S : World → Prop) (hS : S w.drew)
    (h : WalkA P l.toArray S E (fun A Fs => ∀ ρ w', S w' → (∀ t F, (t, F) ∈ Fs → F.holds (ρ t) w') → AllApart ρ Fs → wpList P l.toArray Q (l.drop n) (A ρ) w') (l.take n) (fun _ => a) []) : (Code.region id l.toArray true).wp P Q a w := by
  simp only [tailB, Bool.and_eq_true, decide_eq_true_eq] at hB
  obtain ⟨⟨⟨⟨hn, hlin⟩, hs⟩, hc⟩, hq⟩ := hB
  obtain ⟨full, hp, he, hZ⟩ := settleA_plan (l.take n) [] ⟨(fun _ h => by cases h), (fun _ h => by cases h), (fun pre p post he => by simp at he)⟩ h.out
  have inv0 : HeadInv .any l.toArray n (Array.replicate l.toArray.size false) :=
    ⟨by simp, fun j oj _ hl => (by rw [getD_replicate_false] at hl; cases hl), fun t _ ht => getD_in (by simpa using ht) (getD_replicate_false _ _)⟩
  have := any_order_apart (P := P) (Q := Q) hn (by simpa using he) (linearN_of hlin) hs hc (fun listed hsz h1 h2 => by
    have hn' := hn
    rw [show listed = (Array.replicate n true) ++ (Array.replicate (l.toArray.size - n) false) from getD_ext (by simp only [Array.size_append, Array.size_replicate]; omega) fun i => by
      rw [Array.getD_eq_getD_getElem? (xs := _ ++ _), Array.getElem?_append]
      rcases Nat.lt_or_ge i n with h | h
      · rw [h1 i h]
        simp [h]
      · rw [h2 i h]
        simp only [Array.size_replicate, Nat.not_lt.2 h, if_false, Array.getElem?_replicate]
        split <;> rfl]
    exact hq) hp hZ n _ a w.drew (fun _ => undef) inv0 ⟨List.range n, by simp, fun i hi _ => List.mem_range.2 hi⟩ ⟨rfl, rfl, fun _ _ => rfl, fun i p t hi => ?_⟩ hS (fun i p F d hi => ?_) (fun i j p q F G d e hne hi => ?_)
  · refine wp_region_any hm ?_
    rwa [show n + (l.toArray.size - n) = l.toArray.size by omega] at this
  · exfalso; rw [getD_replicate_false] at hi; cases hi
  · exfalso; rw [getD_replicate_false] at hi; cases hi
  · exfalso; rw [getD_replicate_false] at hi; cases hi


variable {Z : (Env → Act) → List (Tmp × Fact E) → Prop} {o : Oper} {rest : List Oper} {A : Env → Act} {Fs : List (Tmp × Fact E)}
theorem asettle_nil (h : Z A Fs) : WalkA P ops S E Z [] A Fs := ⟨h⟩
theorem asettle_run {v : Value} (hE : ∀ w, S w → E w w) (hw : ∀ ρ, Region.wanted o (yielded ops (A ρ).tmps) = true)
    (hr : ∀ ρ w, S w → FactsOK (o.looksAt ops) ρ w Fs → (execOp (A ρ).eval o).run P w = .ok (.value v) w) (h : WalkA P ops S E Z rest (fun ρ => (A ρ).put o.dst v) Fs) : WalkA P ops S E Z (o :: rest) A Fs :=
  ⟨.inl ⟨v, fun ρ w hS hF => by
    unfold StepTo
    rw [if_pos (hw ρ)]
    intro K hK
    unfold Oper.wp
    rw [hr ρ w hS hF]
    exact hK v w rfl hS (hE w hS), h.out⟩⟩
theorem asettle_step {v : Value} (hw : ∀ ρ, Region.wanted o (yielded ops (A ρ).tmps) = true)
    (hc : ∀ ρ w, S w → FactsOK (o.looksAt ops) ρ w Fs → ∀ K : Act → World → Prop, (∀ w', S w' → E w w' → K ((A ρ).put o.dst v) w') → o.wp P (A ρ) w K (fun _ _ _ => False)) (h : WalkA P ops S E Z rest (fun ρ => (A ρ).put o.dst v) Fs) : WalkA P ops S E Z (o :: rest) A Fs :=
  ⟨.inl ⟨v, fun ρ w hS hF => by
    unfold StepTo
    rw [if_pos (hw ρ)]
    exact fun K hK => hc ρ w hS hF K fun w' h1 h2 => hK v w' rfl h1 h2, h.out⟩⟩
theorem asettle_known {d : Tmp} (F : Fact E) (hd : o.dst = some d) (hw : ∀ ρ, Region.wanted o (yielded ops (A ρ).tmps) = true) (hold : ∀ v w, F.holds v w → PtrOld w v)
    (hc : ∀ ρ w, S w → FactsOK (o.looksAt ops) ρ w Fs → ∀ K : Act → World → Prop, (∀ v w', F.holds v w' → PtrNew w v → S w' → E w w' → K ((A ρ).put o.dst v) w') → o.wp P (A ρ) w K (fun _ _ _ => False)) (h : WalkA P ops S E Z rest (fun ρ => (A ρ).put (some d) (ρ d)) ((d, F) :: Fs)) : WalkA P ops S E Z (o :: rest) A Fs :=
  ⟨.inr ⟨d, F, hd, hold, fun ρ w hS hF => by
    unfold StepTo
    rw [if_pos (hw ρ)]
    exact fun K hK => hc ρ w hS hF K fun v w' h1 h2 h3 => hK v w' ⟨h1, h2⟩ h3, h.out⟩⟩
end
end Go.Proofs.Ytgaafgjhkkjalaa


namespace Go.Proofs.Ytgaafgjhkkjalaa
set_option linter.unusedVariables false
set_option linter.unusedSimpArgs false
set_option maxRecDepth 100000
open Go.RowKit

set_option maxHeartbeats 2000000 in
theorem on_any (rest : St.P) (ih : BlockU rest) (w : World) (B n c g F gA o : Nat) (v : Value) (VE : Option Addr) (ce : Nat) (zs : List Ex.Bd) (l : Nat) (k : Sr.M → Sp.T × Sr.M) (pb pl ph pt : Nat)
    (hp : PR B w (some ⟨gA, o + 12, none⟩) n rest) (hnc : n + 1 ≤ c) (hc : c ≤ maxLen) (hB : B ≤ g) (hg : g < w.heap.size) (hF : F ≤ 2000) (hv : EnvAt w (fun i => i = g) (.slice VE zs.length ce) zs) (hz : zs.length + rest.size ≤ 549755813888) (hl : l + rest.size ≤ 576460752303423488) (hk : RestOK w g F k v)
    (c0 : w.cell? ⟨pb, 0, none⟩ = some (.pointer (some ⟨g, 0, none⟩))) (c1 : w.cell? ⟨pl, 0, none⟩ = some (.slice (some ⟨gA, o, none⟩) (n + 1) c)) (c3 : w.cell? ⟨ph, 0, none⟩ = some (.int .i64 (l : Int))) (c4 : w.cell? ⟨pt, 0, none⟩ = some v)
    (n0 : pb ≠ g) (n1 : pl ≠ g) (n3 : ph ≠ g) (n4 : pt ≠ g) :
    Calls Try.prog 34 #[.slice VE zs.length ce, .pointer (some ⟨pb, 0, none⟩), .pointer (some ⟨pl, 0, none⟩), .pointer (some ⟨ph, 0, none⟩), .pointer (some ⟨pt, 0, none⟩)] w fun e w' => ∃ id caps, e = .returned (.func (.func id) #[] caps) ∧ RestOK w' g F (fun m => Un.un rest (Ex.bs zs) l k m) (.func (.func id) #[] caps) ∧ Below w.heap.size w w' := by
  have hb : Below w.heap.size w (w.alloc (.cells #[.slice VE zs.length ce] 81)) := below_alloc (Below.refl _ _) _
  have hx := Blk.new w 81 [.slice VE zs.length ce]
  have hke : Keeps (fun i => i = g) w (w.alloc (.cells #[.slice VE zs.length ce] 81)) := Keeps.of_below hb _
  have hr := on_rest rest ih (w.alloc (.cells #[.slice VE zs.length ce] 81)) B n c g F gA o v (.slice VE zs.length ce) zs l k pb pl w.heap.size ph pt (hp.keepU hke hB hg) hnc hc hB (Nat.lt_of_lt_of_le hg hb.size) hF (hv.keep hke) hz hl (hk.keep hke) (hke.cell c0 n0) (hke.cell c1 n1) ((hx.cell 0).trans rfl) (hke.cell c3 n3) (hke.cell c4 n4) n0 n1 (by omega) n3 n4
  have HH := Lib.hid (And.intro hr hb)
  clear hr hb hx hke hv hk c0 c1 c3 c4 hp
  go_enter Try.func34, Try.ntmps34
  go_wp2_with fail
  go_ret
  exact ⟨_, _, rfl, HH.out.1, HH.out.2⟩

def FZu (B : Nat) (t : TypeId) (cs : List Value) : Fact (fun w w' => Below w.heap.size w w') := ⟨fun v w => ∃ g, v = .pointer (some ⟨g, 0, none⟩) ∧ B ≤ g ∧ Blk w g t cs, fun _ _ _ ⟨g, h1, h2, h3⟩ k => ⟨g, h1, h2, h3.below k⟩⟩
theorem FZu_old (B : Nat) (t : TypeId) (cs : List Value) : ∀ v w, (FZu B t cs).holds v w → PtrOld w v := by
  rintro _ _ ⟨_, rfl, _, hB⟩ _ h
  injection h with h
  injection h with h
  rw [← h]
  exact hB.lt
theorem new_ptru (w : World) (g : Nat) (hg : w.heap.size ≤ g) : PtrNew w (.pointer (some ⟨g, 0, none⟩)) := fun _ h => by
  injection h with h
  injection h with h
  rw [← h]
  exact hg
theorem stcells_oneU (k : Int) (nm : ByteArray) (ak an : Int) (sa : ByteArray) (aA : Option Addr) (al ac : Nat) (bk bn : Int) (sb : ByteArray) (bA : Option Addr) (bl bc : Nat) (D : Option Addr) (dl dc : Nat) (E : Option Addr) (el ec : Nat) : ∀ v ∈ stcells k nm (xcells ak an sa aA al ac) (xcells bk bn sb bA bl bc) D dl dc E el ec, v.oneCell' = true := by
  intro v hv
  simp [stcells, xcells] at hv
  rcases hv with rfl | rfl | rfl | rfl | rfl | rfl | rfl | rfl | rfl | rfl | rfl | rfl <;> rfl
theorem PR.one_U {B : Nat} {w : World} {gA o : Nat} {kd : Int} {nm : ByteArray} {ca cb : List Value} {D : Option Addr} {dl dc : Nat} {E : Option Addr} {el ec : Nat} {ea eb : Ex.X} {body els : St.P} (hg : gA < B) (hd : dl ≤ dc ∧ dc ≤ maxLen ∧ el ≤ ec ∧ ec ≤ maxLen) (hcs : ∀ j u, (stcells kd nm ca cb D dl dc E el ec)[j]? = some u → w.cell? ⟨gA, o + j, none⟩ = some u)
    (xa : XR B w ca ea) (xb : XR B w cb eb) (pb : PR B w D dl body) (pe : PR B w E el els) : PR B w (some ⟨gA, o, none⟩) 1 (.cons kd nm.data.toList ea eb body els .nil) :=
  .cons gA o 0 kd nm ca cb ea eb D dl dc E el ec body els .nil hg hd.1 hd.2.1 hd.2.2.1 hd.2.2.2 hcs xa xb pb pe (.nil _)

/-- where block stands, when the statement and what is behind it are known -/
structure AtU (w : World) (g F B : Nat) (W : World) (Q S H : Nat) (vt : Value) (behind : Nat) (rest : St.P) (k : Sr.M → Sp.T × Sr.M) (kd : Int) (nm : ByteArray) (ak an : Int) (sa : ByteArray) (aA : Option Addr) (al ac : Nat) (bk bn : Int) (sb : ByteArray) (bA : Option Addr) (bl bc : Nat) (D : Option Addr) (dl dc : Nat) (E : Option Addr) (el ec : Nat) (ea eb : Ex.X) (body els : St.P) : Prop where
  below : Below w.heap.size w W
  gw : g < w.heap.size
  hQ : Q = w.heap.size
  hS : w.heap.size ≤ S
  hH : w.heap.size ≤ H
  c0 : W.cell? ⟨Q, 0, none⟩ = some (.pointer (some ⟨g, 0, none⟩))
  c2 : W.cell? ⟨Q + 1 + 1, 0, none⟩ = some vt
  ch : W.cell? ⟨H, 0, none⟩ = some (.int .i64 (behind : Int))
  z : Blk W (Q + 1 + 1 + 1) 30 zterm
  st : Blk W S 38 [.int .i64 kd, .string nm, .int .i64 ak, .int .i64 an, .string sa, .slice aA al ac, .int .i64 bk, .int .i64 bn, .string sb, .slice bA bl bc, .slice D dl dc, .slice E el ec]
  on : ∀ w1, Keeps (fun i => i = g) W w1 → ∀ VE ce (zs : List Ex.Bd), EnvAt w1 (fun i => i = g) (.slice VE zs.length ce) zs → zs.length + rest.size ≤ 549755813888 → Calls Try.prog 34 #[.slice VE zs.length ce, .pointer (some ⟨Q, 0, none⟩), .pointer (some ⟨Q + 1, 0, none⟩), .pointer (some ⟨H, 0, none⟩), .pointer (some ⟨Q + 1 + 1, 0, none⟩)] w1 fun e w2 => ∃ id caps, e = .returned (.func (.func id) #[] caps) ∧ RestOK w2 g F (fun m => Un.un rest (Ex.bs zs) behind k m) (.func (.func id) #[] caps) ∧ Below w1.heap.size w1 w2
  xa : ∀ w1, Keeps (fun i => i = g) W w1 → XR B w1 (xcells ak an sa aA al ac) ea
  xb : ∀ w1, Keeps (fun i => i = g) W w1 → XR B w1 (xcells bk bn sb bA bl bc) eb
  pb : ∀ w1, Keeps (fun i => i = g) W w1 → PR B w1 D dl body
  pe : ∀ w1, Keeps (fun i => i = g) W w1 → PR B w1 E el els

set_option maxHeartbeats 4000000 in
theorem block_nil (w : World) (g F : Nat) (m : Sr.M) (A : Option Addr) (c : Nat) (v ve : Value) (l : Nat) (k : Sr.M → Sp.T × Sr.M) (hbl : Blk w g 60 (Un.bcells F m)) (hf : Sr.Fit F m) (VE : Option Addr) (nz ce : Nat) (hve : ve = .slice VE nz ce) (hk : RestOK w g F k v) :
    Calls Try.prog 23 #[.pointer (some ⟨g, 0, none⟩), .slice A 0 c, ve, .int .i64 (l : Int), v] w (UnEnd w g F (k m)) := by
  subst hve
  have hg := hbl.lt
  obtain ⟨id, caps, rfl, hcf, h3⟩ := hk.ex
  have hb0 : Below w.heap.size w ((((w.alloc (.cells #[.pointer (some ⟨g, 0, none⟩)] 58)).alloc (.cells #[.slice A 0 c] 22)).alloc (.cells #[.func (.func id) #[] caps] 82)).alloc (.cells #[.int .i64 0, .int .i64 0, .bool false, .int .i64 0, .slice none 0 0] 30)) := below_alloc (below_alloc (below_alloc (below_alloc (Below.refl _ _) _) _) _) _
  have x0 := ((((Blk.new w 58 [.pointer (some ⟨g, 0, none⟩)]).alloc (.cells #[.slice A 0 c] 22)).alloc (.cells #[.func (.func id) #[] caps] 82)).alloc (.cells #[.int .i64 0, .int .i64 0, .bool false, .int .i64 0, .slice none 0 0] 30))
  have x1 := (((Blk.new (w.alloc (.cells #[.pointer (some ⟨g, 0, none⟩)] 58)) 22 [.slice A 0 c]).alloc (.cells #[.func (.func id) #[] caps] 82)).alloc (.cells #[.int .i64 0, .int .i64 0, .bool false, .int .i64 0, .slice none 0 0] 30))
  have x2 := ((Blk.new ((w.alloc (.cells #[.pointer (some ⟨g, 0, none⟩)] 58)).alloc (.cells #[.slice A 0 c] 22)) 82 [.func (.func id) #[] caps]).alloc (.cells #[.int .i64 0, .int .i64 0, .bool false, .int .i64 0, .slice none 0 0] 30))
  have x3 := (Blk.new (((w.alloc (.cells #[.pointer (some ⟨g, 0, none⟩)] 58)).alloc (.cells #[.slice A 0 c] 22)).alloc (.cells #[.func (.func id) #[] caps] 82)) 30 [.int .i64 0, .int .i64 0, .bool false, .int .i64 0, .slice none 0 0])
  simp only [World.size_alloc] at x1 x2 x3
  obtain ⟨Q, hq⟩ : ∃ q, q = w.heap.size := ⟨_, rfl⟩
  have HO := Lib.hid (And.intro (fun w' (hb : Below w.heap.size w w') => h3 w' m (Keeps.of_below hb _) (hbl.below hb) hf) (And.intro hg hq))
  clear h3 hk hbl hf
  go_enter Try.func23, Try.ntmps23
  go_upto_region 1 with (fail)
  generalize ((((w.alloc (.cells #[.pointer (some ⟨g, 0, none⟩)] 58)).alloc (.cells #[.slice A 0 c] 22)).alloc (.cells #[.func (.func id) #[] caps] 82)).alloc (.cells #[.int .i64 0, .int .i64 0, .bool false, .int .i64 0, .slice none 0 0] 30)) = W at hb0 x0 x1 x2 x3 ⊢
  rw [← hq] at x0 x1 x2 x3 ⊢
  have HB := Lib.hid hb0
  clear hb0 hq
  have k1 : W.cell? ⟨Q + 1, 0, none⟩ = some (.slice A 0 c) := (x1.cell 0).trans rfl
  have k2 : W.cell? ⟨Q + 1 + 1, 0, none⟩ = some (.func (.func id) #[] caps) := (x2.cell 0).trans rfl
  go_wp2_with fail
  refine ((HO.out.1 W HB.out).mono (fun e w2 h => UnEnd.mid (q := Q + 1 + 1 + 1) (Keeps.of_below HB.out _) (by have := HO.out.2.2; omega) x3.lt HO.out.2.1 h)).mono ?_
  rintro e w5 (⟨cs, rfl, ⟨h5, h1⟩, hk5, hend⟩ | ⟨rfl, hend⟩)
  · have hqg : Q + 1 + 1 + 1 ≠ g := by have := HO.out.2; omega
    have hz5 := x3.keeps hk5 hqg
    have HE := Lib.hid (And.intro hend h5)
    clear hend
    go_wp2_with (first | (refine wpl_put_blk hz5 cs (by kernel_rfl) HE.out.2 h1 rfl rfl rfl rfl ?_; intro w6 hB6 hg6) | fail)
    exact ret_blk hB6 rfl rfl Try.underlying30 rfl (by rw [HE.out.2]; kernel_rfl) rfl (HE.out.1 w6 hg6)
  · go_wp2
    exact ⟨rfl, hend⟩
end Go.Proofs.Ytgaafgjhkkjalaa


namespace Go.Proofs.Ytgaafgjhkkjalaa
set_option linter.unusedVariables false
set_option linter.unusedSimpArgs false
set_option maxRecDepth 100000
open Go.RowKit

theorem one_pr {B : Nat} {w : World} {kd : Int} {nm : ByteArray} {ca cb : List Value} {D : Option Addr} {dl dc : Nat} {E : Option Addr} {el ec : Nat} {ea eb : Ex.X} {body els : St.P} (t : TypeId) (hB : B ≤ w.heap.size)
    (xa : XR B w ca ea) (xb : XR B w cb eb) (pb : PR B w D dl body) (pe : PR B w E el els) (h : dl ≤ dc ∧ dc ≤ maxLen ∧ el ≤ ec ∧ ec ≤ maxLen) :
    PR (w.alloc (.cells (stcells kd nm ca cb D dl dc E el ec).toArray t)).heap.size (w.alloc (.cells (stcells kd nm ca cb D dl dc E el ec).toArray t)) (some ⟨w.heap.size, 0, none⟩) 1 (.cons kd nm.data.toList ea eb body els .nil) := by
  have hb : Below B w (w.alloc (.cells (stcells kd nm ca cb D dl dc E el ec).toArray t)) := (Below.refl _ _).alloc hB _
  have hz : B ≤ (w.alloc (.cells (stcells kd nm ca cb D dl dc E el ec).toArray t)).heap.size := by simp; omega
  refine .cons _ 0 0 kd nm ca cb ea eb D dl dc E el ec body els .nil (by simp) h.1 h.2.1 h.2.2.1 h.2.2.2 (fun j u hu => ?_) ((xa.later hb).up hz) ((xb.later hb).up hz) ((pb.later hb).up hz) ((pe.later hb).up hz) (.nil _)
  rw [Nat.zero_add, (Blk.new w t (stcells kd nm ca cb D dl dc E el ec)).cell, hu]
theorem labels_one (kd : Int) (nm : List UInt8) (ea eb : Ex.X) (body els : St.P) : St.labels (.cons kd nm ea eb body els .nil) = St.lab1 kd (St.labels body) (St.labels els) := by
  simp [St.labels]
theorem size_one (kd : Int) (nm : List UInt8) (ea eb : Ex.X) (body els : St.P) : (St.P.cons kd nm ea eb body els .nil).size = 1 + ea.leaves + eb.leaves + body.size + els.size := by
  simp [St.P.size]

/-- an access is kept, and something is worth so much -/
def FAcc (B : Nat) (w1 : World) (T : Nat → Prop) (g F : Nat) (m : Sr.M) (z : Value) : Fact (fun w w' => Below w.heap.size w w') :=
  ⟨fun v w => v = z ∧ ∃ vt, RuTo B w1 T w g F m vt, fun v w w' ⟨h1, vt, h2⟩ k => ⟨h1, vt, h2.later k⟩⟩
theorem Sr.rcells_put {F : Nat} {m : Sr.M} {vt : Value} (hl : m.heap.length = 8) (c : Nat) (hc : c < 8) (x : Int) : (Sr.rcells F m vt).set c (.int .i64 x) = Sr.rcells F (m.put c x) vt := by
  unfold Sr.rcells Sr.M.put
  rw [List.set_append_left _ _ (by rw [ints_length]; omega), ints_set]






set_option maxHeartbeats 8000000 in
theorem block_step (p : St.P) (ih : ∀ q : St.P, q.size < p.size → BlockOK q) : BlockOK p := by
  intro w B n c g F A vt ve m zs l hp hnc hcm hO hfit hF hv hzs hls
  obtain ⟨g0, o, hA, hpl⟩ := hp.place
  have hn63 : n ≤ 9223372036854775807 := by unfold maxLen at hcm; omega
  have hP0 : ∀ w' (A' : Option Addr) (m' : Nat) (q : St.P), Keeps (RuT g m vt) w w' → PR B w A' m' q → PR B w' A' m' q := fun w' A' m' q k h => h.later (hO.below k)
  have HP0 := Lib.hid hP0
  obtain ⟨R, hR⟩ : ∃ R, R = Sr.run p (Ex.bs zs) l m := ⟨_, rfl⟩
  rw [← hR]
  have HR := Lib.hid (And.intro hR hp.ok)
  clear hP0 hp hR
  go_enter Try.func44, Try.ntmps44
  go_wp2
  go_loopw [2, 3, 13] (fun ve lb i wr => ∃ (k : Nat) (q : St.P) (zj : List Ex.Bd) (lj : Nat) (mj : Sr.M) (vtj : Value), k ≤ n ∧ i = .int .i64 (k : Int) ∧ lb = .int .i64 (lj : Int) ∧ PR B w (some ⟨g0, o + k * 12, none⟩) (n - k) q ∧ RuTo B w (RuT g m vt) wr g F mj vtj ∧ EnvAt wr (RuT g mj vtj) ve zj ∧ Sr.Fit F mj ∧ Sr.run q (Ex.bs zj) lj mj = R ∧ q.size ≤ p.size ∧ zj.length + q.size ≤ zs.length + p.size ∧ lj + q.size ≤ l + p.size) (fun _ _ i _ => n - (intOf i).toNat)
  case atStart => exact ⟨0, p, zs, l, m, vt, Nat.zero_le _, rfl, rfl, hpl, OwnTo.start hO, hv, hfit, HR.out.1.symm, Nat.le_refl _, Nat.le_refl _, Nat.le_refl _⟩
  case round =>
    clear hO hpl hv hfit
    obtain ⟨k, q, zj, lj, mj, vtj, hk, rfl, rfl, hq0, hW, hvj, hfj, hrun, hqs, hqz, hql⟩ := hrel
    have hq := HP0.out wr _ _ _ hW.kp hq0
    by_cases hlt : k < n
    · obtain ⟨kd, nm, ak, an, bk, bn, sa, sb, aA, bA, al, ac, bl, bc, ea, eb, D, dl, dc, E, el, ec, body, els, rest, rfl, hg, ⟨hd1, hd2, he1, he2⟩, hcell, xa, xb, pb, pe, pr⟩ := hq.next (by omega)
      have pr0 := hq0.tail (by omega)
      have hAA := hA (by omega)
      subst hAA
      have c0 : wr.cell? ⟨g0, o + k * 12, none⟩ = some (.int .i64 kd) := hcell 0 _ rfl
      have c1 := hcell 1 _ rfl
      have c2 := hcell 2 _ rfl
      have c3 := hcell 3 _ rfl
      have c4 := hcell 4 _ rfl
      have c5 := hcell 5 _ rfl
      have c6 := hcell 6 _ rfl
      have c7 := hcell 7 _ rfl
      have c8 := hcell 8 _ rfl
      have c9 := hcell 9 _ rfl
      have c10 := hcell 10 _ rfl
      have c11 := hcell 11 _ rfl
      have hd := And.intro hd1 (And.intro hd2 (And.intro he1 he2))
      have hoka := xa.ok
      have hokb := xb.ok
      have hokp := pb.ok
      have hoke := pe.ok
      have hs : body.size < p.size ∧ els.size < p.size ∧ rest.size ≤ p.size ∧ zj.length + (1 + ea.leaves + eb.leaves + body.size + els.size + rest.size) ≤ zs.length + p.size ∧ lj + (1 + ea.leaves + eb.leaves + body.size + els.size + rest.size) ≤ l + p.size := by rw [St.P.size] at hqs hqz hql; omega
      obtain ⟨VE, ce, rfl, -⟩ := hvj.sl
      have hce := hvj.addr.2
      have hrg := hvj.rng
      obtain ⟨Q, hQq⟩ : ∃ Q, Q = wr.heap.size := ⟨_, rfl⟩
      have hbA : Below wr.heap.size wr (wr.alloc (.cells (stcells kd nm (xcells ak an sa aA al ac) (xcells bk bn sb bA bl bc) D dl dc E el ec).toArray 38)) := below_alloc (Below.refl _ _) _
      have hX : StBox B Q (wr.alloc (.cells (stcells kd nm (xcells ak an sa aA al ac) (xcells bk bn sb bA bl bc) D dl dc E el ec).toArray 38)) (RuT g mj vtj) kd nm ak an sa aA al ac bk bn sb bA bl bc D dl dc E el ec ea eb body els := by
        refine StBox.of (t := 38) hbA hW.own.base (fun i hi => hW.own.ge hi) (fun h => by have := hW.own.lt h; omega) ?_ xa xb pb pe
        rw [hQq]
        exact Blk.new _ _ _
      have T0 : RuTo B (wr.alloc (.cells (stcells kd nm (xcells ak an sa aA al ac) (xcells bk bn sb bA bl bc) D dl dc E el ec).toArray 38)) (RuT g mj vtj) (wr.alloc (.cells (stcells kd nm (xcells ak an sa aA al ac) (xcells bk bn sb bA bl bc) D dl dc E el ec).toArray 38)) g F mj vtj := OwnTo.start (hW.own.later hbA)
      have v0 := hvj.later hbA
      have hQQ := Lib.hid hQq
      have HQ := Lib.hid (And.intro hs (And.intro hqs (And.intro hqz (And.intro hql (And.intro (And.intro hzs hls) pr0)))))
      have HRN := Lib.hid hrun
      have HW := Lib.hid hW
      have HC := Lib.hid hce
      clear hQq hcell hq hq0 hrun hs hqs hqz hql hW xa xb pb pe pr pr0 hvj hce
      unfold stcells xcells at hbA hX T0 v0
      simp only [List.cons_append, List.nil_append] at hbA hX T0 v0
      rcases fr_kinds kd with rfl | rfl | rfl | rfl | rfl | rfl | rfl | ⟨k1, k2, k3, k4, k5, k6, k7⟩
      · obtain ⟨y, hy⟩ : ∃ y, y = Ex.evl (Ex.bs zj) ea := ⟨_, rfl⟩
        have hry : Ex.rng y := by rw [hy]; exact Ex.evl_rng _ hrg _ hoka
        have hrun : Sr.run rest (Ex.bs (zj ++ [(nm, y)])) (lj + St.lab1 1 (St.labels body) (St.labels els)) mj.step = R := by rw [bs_snoc, hy]; exact HRN.out
        have hon1 := Sr.run_on rest (Ex.bs (zj ++ [(nm, y)])) (lj + St.lab1 1 (St.labels body) (St.labels els)) mj.step
        rw [hrun] at hon1
        have hmore : mj.steps + 1 ≤ R.steps := hon1.steps
        have HYY := Lib.hid hy
        clear hy
        go_wp2_with fail
        generalize (wr.alloc (.cells #[.int .i64 1, .string nm, .int .i64 ak, .int .i64 an, .string sa, .slice aA al ac, .int .i64 bk, .int .i64 bn, .string sb, .slice bA bl bc, .slice D dl dc, .slice E el ec] 38)) = W0 at hbA hX T0 v0 ⊢
        rw [← hQQ.out]
        clear c0 c1 c2 c3 c4 c5 c6 c7 c8 c9 c10 c11
        by_cases hst : mj.steps = F
        · have hg := step_out B W0 g F mj vtj T0.own hfj.len hst
          have hend : ∀ w1, Below W0.heap.size W0 w1 → F < R.steps ∧ Keeps (RuT g m vt) w w1 := fun w1 hb1 => ⟨by have := hmore; omega, (HW.out.kp.trans (Keeps.of_below hbA _)).trans (Keeps.of_below hb1 _)⟩
          have HH := Lib.hid hend
          clear hend hX T0 v0 hbA hst hmore
          refine hg.mono ?_
          rintro e w1 ⟨rfl, hb1⟩
          obtain ⟨h1, h2⟩ := HH.out w1 hb1
          clear hg hb1
          go_wp2
          exact ⟨rfl, .inr ⟨h1, rfl, h2⟩⟩
        have hfs : Sr.Fit F mj.step := ⟨hfj.len, hfj.rg, by have := hfj.st; show mj.steps + 1 ≤ F; omega, by have := hfj.tr; show mj.trace.length ≤ mj.steps + 1; omega⟩
        refine (step_ok B W0 g F mj vtj T0.own hfj.len (by have := hfj.st; omega) hF).mono ?_
        rintro e w1 ⟨rfl, h1⟩
        have T1 := T0.step h1
        have v1 := v0.step T1.kp T1.nw
        clear h1 T0 v0 hst hmore
        have gE : ∀ (w' : World), Below w1.heap.size w1 w' → Calls Try.prog 37 #[.agg #[.int .i64 ak, .int .i64 an, .string sa, .slice aA al ac], .slice VE zj.length ce] w' fun r w'' => r = .returned (.int .i64 y) ∧ Below w'.heap.size w' w'' := fun w' hb => by
          rw [HYY.out]
          exact eval_ok (.slice VE zj.length ce) zj (by have := HQ.out; omega) ea w' _ ((hX.read w' (T1.later hb).kp).1.up (T1.later hb).own.base) (v1.later hb).sl
        have keepS : ∀ w', Below w1.heap.size w1 w' → (Below w1.heap.size w1 w' ∧ w'.cell? ⟨Q, 1, none⟩ = some (.string nm) ∧ w'.cell? ⟨Q, 2, none⟩ = some (.int .i64 ak) ∧ w'.cell? ⟨Q, 3, none⟩ = some (.int .i64 an) ∧ w'.cell? ⟨Q, 4, none⟩ = some (.string sa) ∧ w'.cell? ⟨Q, 5, none⟩ = some (.slice aA al ac)) := fun w' hb => by
          obtain ⟨c0, c1, c2, c3, c4, c5, c6, c7, c8, c9, c10, c11⟩ := hX.cells w' (T1.later hb).kp
          exact ⟨hb, c1, c2, c3, c4, c5⟩
        have gS : ∀ w', Below w1.heap.size w1 w' → SlV w' 2 (.slice VE zj.length zj.length) zj.length (Ex.bindcs zj) := fun w' hb => by
          obtain ⟨A', c', e', q1, q2, q3, q4⟩ := (v1.later hb).sl
          injection e' with e1 e2 e3
          subst e1
          exact ⟨VE, zj.length, rfl, Nat.le_refl _, by have := HC.out; omega, q3, q4⟩
        have hS0 := keepS _ (below_drew (Below.refl _ _))
        have hn63 : zj.length + 1 ≤ maxLen := by have := HQ.out; unfold maxLen; omega
        have hn47 : (zj.length + 1) * 24 ≤ 140737488355328 := by have := HQ.out; omega
        have hcl : ∀ w', Calls Try.prog 49 #[.slice VE zj.length ce] w' fun e w'' => e = .returned (.slice VE zj.length zj.length) ∧ w' = w'' := fun w' => clip_any w' VE zj.length ce HC.out.1 HC.out.2.1 HC.out.2.2
        have HT := Lib.hid (And.intro T1 (And.intro v1 hX))
        clear T1 v1 hX
        go_wp2_with fail
        refine wp_walk (by kernel_rfl) (by kernel_rfl) (fun w w' => Below w.heap.size w w') (fun w' => (Below w1.heap.size w1 w' ∧ w'.cell? ⟨Q, 1, none⟩ = some (.string nm) ∧ w'.cell? ⟨Q, 2, none⟩ = some (.int .i64 ak) ∧ w'.cell? ⟨Q, 3, none⟩ = some (.int .i64 an) ∧ w'.cell? ⟨Q, 4, none⟩ = some (.string sa) ∧ w'.cell? ⟨Q, 5, none⟩ = some (.slice aA al ac))) hS0 ?_
        repeat (first | (refine settle_skip (fun _ => by rfl) ?_; (simp only [Act.put, List.setIfInBounds_toArray, List.set_cons_zero, List.set_cons_succ])) | (refine' settle_run (fun _ _ => Below.refl _ _) (fun _ => by rfl) ?_ ?_; rotate_left; (focus (intro ρ w hS hF; (try dsimp only at hS); go_split_ands; go_simp; try with_reducible rfl)); (simp only [Act.put, List.setIfInBounds_toArray, List.set_cons_zero, List.set_cons_succ])))
        (refine' settle_step (fun _ => by rfl) ?_ ?_; rotate_left; (focus (intro ρ w hS hF K hK; (simp only [Act.put, List.setIfInBounds_toArray, List.set_cons_zero, List.set_cons_succ] at hK); go_simp; (refine (hcl _).mono ?_; rintro e w' ⟨rfl, rfl⟩; have hS' := hS; have hE' := Below.refl w.heap.size w); exact hK _ hS' hE')); (simp only [Act.put, List.setIfInBounds_toArray, List.set_cons_zero, List.set_cons_succ]))
        repeat (first | (refine settle_skip (fun _ => by rfl) ?_; (simp only [Act.put, List.setIfInBounds_toArray, List.set_cons_zero, List.set_cons_succ])) | (refine' settle_run (fun _ _ => Below.refl _ _) (fun _ => by rfl) ?_ ?_; rotate_left; (focus (intro ρ w hS hF; (try dsimp only at hS); go_split_ands; go_simp; try with_reducible rfl)); (simp only [Act.put, List.setIfInBounds_toArray, List.set_cons_zero, List.set_cons_succ])))
        (refine' settle_step (fun _ => by rfl) ?_ ?_; rotate_left; (focus (intro ρ w hS hF K hK; (simp only [Act.put, List.setIfInBounds_toArray, List.set_cons_zero, List.set_cons_succ] at hK); go_simp; (refine (gE _ hS.1).mono ?_; rintro e w' ⟨rfl, hb'⟩; have hS' := keepS _ (below_next hb' hS.1); have hE' := hb'); exact hK _ hS' hE')); (simp only [Act.put, List.setIfInBounds_toArray, List.set_cons_zero, List.set_cons_succ]))
        repeat (first | (refine settle_skip (fun _ => by rfl) ?_; (simp only [Act.put, List.setIfInBounds_toArray, List.set_cons_zero, List.set_cons_succ])) | (refine' settle_run (fun _ _ => Below.refl _ _) (fun _ => by rfl) ?_ ?_; rotate_left; (focus (intro ρ w hS hF; (try dsimp only at hS); go_split_ands; go_simp; try with_reducible rfl)); (simp only [Act.put, List.setIfInBounds_toArray, List.set_cons_zero, List.set_cons_succ])))
        (refine settle_known (FSl 2 1 [.string nm, .int .i64 y]) (by rfl) (fun _ => by rfl)  ?_ ?_; (focus (intro ρ w hS hF K hK; (simp only [Act.put, List.setIfInBounds_toArray, List.set_cons_zero, List.set_cons_succ] at hK); go_simp; exact hK _ _ (SlV.lit w [.string nm, .int .i64 y] 111 2 1 rfl (by decide)) (keepS _ (below_alloc hS.1 _)) (below_alloc (Below.refl _ _) _))); (simp only [Act.put, List.setIfInBounds_toArray, List.set_cons_zero, List.set_cons_succ]))
        (refine settle_known (FRow w1.heap.size 111 2 (zj.length + 1) (Ex.bindcs zj ++ ([.string nm, .int .i64 y] : List Value))) (by rfl) (fun _ => by rfl) ?_ ?_; (focus (intro ρ w hS hF K hK; refine oper_full (.tmp 24) (.tmp 32) _ _ _ _ _ Try.underlying81 info_bnd rfl (by decide) (gS w hS.1) (hF.1 (by rfl)) (bindc_one (nm, y)) (by decide) hn63 hn47 rfl rfl rfl ?_; intro v' w' hown hb; exact hK v' w' (own_base hown hS.1.size) (keepS _ (below_next hb hS.1)) hb)); (simp only [Act.put, List.setIfInBounds_toArray, List.set_cons_zero, List.set_cons_succ]))
        (refine settle_known (FRow w1.heap.size 111 2 (zj.length + 1) (Ex.bindcs zj ++ ([.string nm, .int .i64 y] : List Value))) (by rfl) (fun _ => by rfl)  ?_ ?_; (focus (intro ρ w hS hF K hK; (simp only [Act.put, List.setIfInBounds_toArray, List.set_cons_zero, List.set_cons_succ] at hK); go_simp; exact hK _ _ (hF.1 (by rfl)) hS (Below.refl _ _))); (simp only [Act.put, List.setIfInBounds_toArray, List.set_cons_zero, List.set_cons_succ]))
        refine settle_nil ?_
        intro ρ w4 hS hF
        have hrow : w4.ownsRow w1.heap.size 111 2 (ρ 2) (zj.length + 1) (Ex.bindcs zj ++ Ex.bindc (nm, y)) := hF 2 (FRow w1.heap.size 111 2 (zj.length + 1) (Ex.bindcs zj ++ ([.string nm, .int .i64 y] : List Value))) (by repeat (first | exact List.mem_cons_self | apply List.mem_cons_of_mem))
        have hb4 := hS.1
        clear hF hS hS0 keepS gS hcl gE
        dsimp only
        generalize ρ 33 = v33
        generalize ρ 32 = v32
        generalize ρ 2 = v4 at hrow ⊢
        obtain ⟨T1, v1, hX⟩ := HT.out
        have T4 := T1.later hb4
        have v4e : EnvAt w4 (RuT g mj.step vtj) v4 (zj ++ [(nm, y)]) := v1.grown hry (fun k hk => T1.own.lt hk) hrow
        obtain ⟨V4, c4', rfl, -, -⟩ := own_slice hrow
        clear HT T1 v1 hb4 hrow
        have HZ := Lib.hid (And.intro T4 (And.intro v4e hfs))
        obtain ⟨c0, c1, c2, c3, c4, c5, c6, c7, c8, c9, c10, c11⟩ := hX.cells _ T4.kp
        obtain ⟨xa, xb, pb, pe⟩ := hX.read _ T4.kp
        have hlab := labels_any (.cons 1 nm.data.toList ea eb body els .nil) _ _ 1 1 _ (Nat.le_refl _) (one_pr 38 T4.own.base xa xb pb pe hd) (Nat.le_refl _) (by decide) (by rw [size_one]; have := HQ.out; omega)
        have hlo := T4.own.base
        unfold stcells xcells at hlab
        rw [labels_one] at hlab
        have hlb := St.lab1_le 1 (St.labels body) (St.labels els)
        have hlb1 := St.labels_le body
        have hlb2 := St.labels_le els
        have hlz : lj + (1 + St.labels body + St.labels els) ≤ 576460752303423488 := by have := HQ.out; omega
        have HL := Lib.hid (And.intro hlb (And.intro hlb1 (And.intro hlb2 hlz)))
        clear T4 v4e hfs xa xb pb pe hlb hlb1 hlb2 hlz hX
        try go_wp2_with fail
        refine hlab.mono ?_
        rintro e wl ⟨rfl, hbl⟩
        have hbl2 := below_next hbl (below_alloc (Below.refl _ _) _)
        have TE := ((HW.out.later hbA).step HZ.out.1).later hbl2
        have vE := HZ.out.2.1.later hbl2
        have HE := Lib.hid (And.intro TE vE)
        clear hlab hbl hbl2 TE vE hbA c0 c1 c2 c3 c4 c5 c6 c7 c8 c9 c10 c11
        go_wp2_with fail
        go_roundw
        case rel => exact ⟨k + 1, rest, _, lj + St.lab1 1 (St.labels body) (St.labels els), _, _, by omega, by go_num, by rw [i64_add _ _ (by have := HL.out; omega)], by rw [show n - (k + 1) = n - k - 1 by omega]; exact HQ.out.2.2.2.2.2, HE.out.1, HE.out.2, HZ.out.2.2, hrun, by have := HQ.out; omega, by have := HQ.out; first | omega | (simp only [List.length_append, List.length_singleton]; omega), by have := HQ.out; have := HL.out; omega⟩
        case measure => simp [intOf]; omega
      · obtain ⟨y, hy⟩ : ∃ y, y = Ex.evl (Ex.bs zj) ea := ⟨_, rfl⟩
        obtain ⟨c, hc⟩ : ∃ c, c = Sr.cell y := ⟨_, rfl⟩
        obtain ⟨x, hx⟩ : ∃ x, x = mj.heap.getD c 0 := ⟨_, rfl⟩
        have hc8 : c < 8 := by rw [hc]; exact Sr.cell_lt y
        have hrx : Ex.rng x := by rw [hx]; exact Sr.getD_rng hfj.rg c
        have hc8i : (c : Int) < 8 := by omega
        have hrun : Sr.run rest (Ex.bs (zj ++ [(nm, x)])) (lj + St.lab1 2 (St.labels body) (St.labels els)) (mj.step.acc c false lj) = R := by rw [bs_snoc, hx, hc, hy]; exact HRN.out
        have hon1 := Sr.run_on rest (Ex.bs (zj ++ [(nm, x)])) (lj + St.lab1 2 (St.labels body) (St.labels els)) (mj.step.acc c false lj)
        rw [hrun] at hon1
        have hmore : mj.steps + 1 ≤ R.steps := hon1.steps
        have f3 : mj.steps + 1 ≤ F → Sr.Fit F (mj.step.acc c false lj) := fun hs => ⟨hfj.len, hfj.rg, hs, by have := hfj.tr; show (mj.trace ++ [_]).length ≤ mj.steps + 1; simp; omega⟩
        have HYY := Lib.hid (And.intro hy (And.intro hc hx))
        clear hy hx
        go_wp2_with fail
        generalize (wr.alloc (.cells #[.int .i64 2, .string nm, .int .i64 ak, .int .i64 an, .string sa, .slice aA al ac, .int .i64 bk, .int .i64 bn, .string sb, .slice bA bl bc, .slice D dl dc, .slice E el ec] 38)) = W0 at hbA hX T0 v0 ⊢
        rw [← hQQ.out]
        clear c0 c1 c2 c3 c4 c5 c6 c7 c8 c9 c10 c11
        by_cases hst : mj.steps = F
        · have hg := step_out B W0 g F mj vtj T0.own hfj.len hst
          have hend : ∀ w1, Below W0.heap.size W0 w1 → F < R.steps ∧ Keeps (RuT g m vt) w w1 := fun w1 hb1 => ⟨by have := hmore; omega, (HW.out.kp.trans (Keeps.of_below hbA _)).trans (Keeps.of_below hb1 _)⟩
          have HH := Lib.hid hend
          clear hend hX T0 v0 hbA hst hmore
          refine hg.mono ?_
          rintro e w1 ⟨rfl, hb1⟩
          obtain ⟨h1, h2⟩ := HH.out w1 hb1
          clear hg hb1
          go_wp2
          exact ⟨rfl, .inr ⟨h1, rfl, h2⟩⟩
        have hfs : Sr.Fit F mj.step := ⟨hfj.len, hfj.rg, by have := hfj.st; show mj.steps + 1 ≤ F; omega, by have := hfj.tr; show mj.trace.length ≤ mj.steps + 1; omega⟩
        refine (step_ok B W0 g F mj vtj T0.own hfj.len (by have := hfj.st; omega) hF).mono ?_
        rintro e w1 ⟨rfl, h1⟩
        have T1 := T0.step h1
        have v1 := v0.step T1.kp T1.nw
        clear h1 T0 v0 hst hmore
        have f3 := f3 hfs.st
        obtain ⟨c0, c1, c2, c3, c4, c5, c6, c7, c8, c9, c10, c11⟩ := hX.cells _ T1.kp
        obtain ⟨xa, xb, pb, pe⟩ := hX.read _ T1.kp
        have gE : Calls Try.prog 37 #[.agg #[.int .i64 ak, .int .i64 an, .string sa, .slice aA al ac], .slice VE zj.length ce] w1 fun r w'' => r = .returned (.int .i64 y) ∧ Below w1.heap.size w1 w'' := by
          rw [HYY.out.1]
          exact eval_ok (.slice VE zj.length ce) zj (by have := HQ.out; omega) ea w1 _ (xa.up T1.own.base) v1.sl
        clear c0 c1 xa xb pb pe
        go_wp2_with fail
        refine gE.mono ?_
        rintro e w2 ⟨rfl, hb2⟩
        have T2 := T1.later hb2
        have v2 := v1.later hb2
        have hacc := access_any B w2 g F mj.step vtj y false lj T2.own hfs.len (by have := hfs.st; have := hfs.tr; omega)
        rw [← hc] at hacc
        clear gE T1 v1 c2 c3 c4 c5 c6 c7 c8 c9 c10 c11 hb2 hc
        go_wp2_with fail
        refine hacc.mono ?_
        rintro e w3 ⟨rfl, vt3, h3⟩
        have T3 := T2.step h3
        have v3 := v2.step h3.kp h3.nw
        have keepS : ∀ w', Below w3.heap.size w3 w' → (Below w3.heap.size w3 w' ∧ w'.cell? ⟨Q, 1, none⟩ = some (.string nm) ∧ w'.cell? ⟨g, c, none⟩ = some (.int .i64 x)) := fun w' hb => by
          obtain ⟨c0, c1, -⟩ := hX.cells w' (T3.later hb).kp
          exact ⟨hb, c1, by rw [HYY.out.2.2]; exact ((T3.later hb).own.blk.cell c).trans ((Sr.rcells_get f3.len).1 c hc8)⟩
        have gS : ∀ w', Below w3.heap.size w3 w' → SlV w' 2 (.slice VE zj.length zj.length) zj.length (Ex.bindcs zj) := fun w' hb => by
          obtain ⟨A', c', e', q1, q2, q3, q4⟩ := (v3.later hb).sl
          injection e' with e1 e2 e3
          subst e1
          exact ⟨VE, zj.length, rfl, Nat.le_refl _, by have := HC.out; omega, q3, q4⟩
        have hS0 := keepS _ (below_drew (Below.refl _ _))
        have hn63 : zj.length + 1 ≤ maxLen := by have := HQ.out; unfold maxLen; omega
        have hn47 : (zj.length + 1) * 24 ≤ 140737488355328 := by have := HQ.out; omega
        have hcl : ∀ w', Calls Try.prog 49 #[.slice VE zj.length ce] w' fun e w'' => e = .returned (.slice VE zj.length zj.length) ∧ w' = w'' := fun w' => clip_any w' VE zj.length ce HC.out.1 HC.out.2.1 HC.out.2.2
        have HT := Lib.hid (And.intro T3 (And.intro v3 hX))
        clear T3 v3 hX h3 hacc T2 v2
        go_wp2_with fail
        refine wp_walk (by kernel_rfl) (by kernel_rfl) (fun w w' => Below w.heap.size w w') (fun w' => (Below w3.heap.size w3 w' ∧ w'.cell? ⟨Q, 1, none⟩ = some (.string nm) ∧ w'.cell? ⟨g, c, none⟩ = some (.int .i64 x))) hS0 ?_
        repeat (first | (refine settle_skip (fun _ => by rfl) ?_; (simp only [Act.put, List.setIfInBounds_toArray, List.set_cons_zero, List.set_cons_succ])) | (refine' settle_run (fun _ _ => Below.refl _ _) (fun _ => by rfl) ?_ ?_; rotate_left; (focus (intro ρ w hS hF; (try dsimp only at hS); go_split_ands; go_simp; try with_reducible rfl)); (simp only [Act.put, List.setIfInBounds_toArray, List.set_cons_zero, List.set_cons_succ])))
        (refine' settle_step (fun _ => by rfl) ?_ ?_; rotate_left; (focus (intro ρ w hS hF K hK; (simp only [Act.put, List.setIfInBounds_toArray, List.set_cons_zero, List.set_cons_succ] at hK); go_simp; (refine (hcl _).mono ?_; rintro e w' ⟨rfl, rfl⟩; have hS' := hS; have hE' := Below.refl w.heap.size w); exact hK _ hS' hE')); (simp only [Act.put, List.setIfInBounds_toArray, List.set_cons_zero, List.set_cons_succ]))
        repeat (first | (refine settle_skip (fun _ => by rfl) ?_; (simp only [Act.put, List.setIfInBounds_toArray, List.set_cons_zero, List.set_cons_succ])) | (refine' settle_run (fun _ _ => Below.refl _ _) (fun _ => by rfl) ?_ ?_; rotate_left; (focus (intro ρ w hS hF; (try dsimp only at hS); go_split_ands; go_simp; try with_reducible rfl)); (simp only [Act.put, List.setIfInBounds_toArray, List.set_cons_zero, List.set_cons_succ])))
        (refine settle_known (FSl 2 1 [.string nm, .int .i64 x]) (by rfl) (fun _ => by rfl)  ?_ ?_; (focus (intro ρ w hS hF K hK; (simp only [Act.put, List.setIfInBounds_toArray, List.set_cons_zero, List.set_cons_succ] at hK); go_simp; exact hK _ _ (SlV.lit w [.string nm, .int .i64 x] 111 2 1 rfl (by decide)) (keepS _ (below_alloc hS.1 _)) (below_alloc (Below.refl _ _) _))); (simp only [Act.put, List.setIfInBounds_toArray, List.set_cons_zero, List.set_cons_succ]))
        (refine settle_known (FRow w3.heap.size 111 2 (zj.length + 1) (Ex.bindcs zj ++ ([.string nm, .int .i64 x] : List Value))) (by rfl) (fun _ => by rfl) ?_ ?_; (focus (intro ρ w hS hF K hK; refine oper_full (.tmp 46) (.tmp 56) _ _ _ _ _ Try.underlying81 info_bnd rfl (by decide) (gS w hS.1) (hF.1 (by rfl)) (bindc_one (nm, x)) (by decide) hn63 hn47 rfl rfl rfl ?_; intro v' w' hown hb; exact hK v' w' (own_base hown hS.1.size) (keepS _ (below_next hb hS.1)) hb)); (simp only [Act.put, List.setIfInBounds_toArray, List.set_cons_zero, List.set_cons_succ]))
        (refine settle_known (FRow w3.heap.size 111 2 (zj.length + 1) (Ex.bindcs zj ++ ([.string nm, .int .i64 x] : List Value))) (by rfl) (fun _ => by rfl)  ?_ ?_; (focus (intro ρ w hS hF K hK; (simp only [Act.put, List.setIfInBounds_toArray, List.set_cons_zero, List.set_cons_succ] at hK); go_simp; exact hK _ _ (hF.1 (by rfl)) hS (Below.refl _ _))); (simp only [Act.put, List.setIfInBounds_toArray, List.set_cons_zero, List.set_cons_succ]))
        refine settle_nil ?_
        intro ρ w4 hS hF
        have hrow : w4.ownsRow w3.heap.size 111 2 (ρ 2) (zj.length + 1) (Ex.bindcs zj ++ Ex.bindc (nm, x)) := hF 2 (FRow w3.heap.size 111 2 (zj.length + 1) (Ex.bindcs zj ++ ([.string nm, .int .i64 x] : List Value))) (by repeat (first | exact List.mem_cons_self | apply List.mem_cons_of_mem))
        have hb4 := hS.1
        clear hF hS hS0 keepS gS hcl
        dsimp only
        generalize ρ 57 = v57
        generalize ρ 56 = v56
        generalize ρ 2 = v4 at hrow ⊢
        obtain ⟨T3, v3, hX⟩ := HT.out
        have T4 := T3.later hb4
        have v4e : EnvAt w4 (RuT g (mj.step.acc c false lj) vt3) v4 (zj ++ [(nm, x)]) := v3.grown hrx (fun k hk => T3.own.lt hk) hrow
        obtain ⟨V4, c4', rfl, -, -⟩ := own_slice hrow
        clear HT T3 v3 hb4 hrow hc8
        have HZ := Lib.hid (And.intro T4 (And.intro v4e f3))
        obtain ⟨c0, c1, c2, c3, c4, c5, c6, c7, c8, c9, c10, c11⟩ := hX.cells _ T4.kp
        obtain ⟨xa, xb, pb, pe⟩ := hX.read _ T4.kp
        have hlab := labels_any (.cons 2 nm.data.toList ea eb body els .nil) _ _ 1 1 _ (Nat.le_refl _) (one_pr 38 T4.own.base xa xb pb pe hd) (Nat.le_refl _) (by decide) (by rw [size_one]; have := HQ.out; omega)
        have hlo := T4.own.base
        unfold stcells xcells at hlab
        rw [labels_one] at hlab
        have hlb := St.lab1_le 2 (St.labels body) (St.labels els)
        have hlb1 := St.labels_le body
        have hlb2 := St.labels_le els
        have hlz : lj + (1 + St.labels body + St.labels els) ≤ 576460752303423488 := by have := HQ.out; omega
        have HL := Lib.hid (And.intro hlb (And.intro hlb1 (And.intro hlb2 hlz)))
        clear T4 v4e f3 xa xb pb pe hlb hlb1 hlb2 hlz hX
        try go_wp2_with fail
        refine hlab.mono ?_
        rintro e wl ⟨rfl, hbl⟩
        have hbl2 := below_next hbl (below_alloc (Below.refl _ _) _)
        have TE := ((HW.out.later hbA).step HZ.out.1).later hbl2
        have vE := HZ.out.2.1.later hbl2
        have HE := Lib.hid (And.intro TE vE)
        clear hlab hbl hbl2 TE vE hbA c0 c1 c2 c3 c4 c5 c6 c7 c8 c9 c10 c11
        go_wp2_with fail
        go_roundw
        case rel => exact ⟨k + 1, rest, _, lj + St.lab1 2 (St.labels body) (St.labels els), _, _, by omega, by go_num, by rw [i64_add _ _ (by have := HL.out; omega)], by rw [show n - (k + 1) = n - k - 1 by omega]; exact HQ.out.2.2.2.2.2, HE.out.1, HE.out.2, HZ.out.2.2, hrun, by have := HQ.out; omega, by have := HQ.out; first | omega | (simp only [List.length_append, List.length_singleton]; omega), by have := HQ.out; have := HL.out; omega⟩
        case measure => simp [intOf]; omega
      · obtain ⟨y, hy⟩ : ∃ y, y = Ex.evl (Ex.bs zj) ea := ⟨_, rfl⟩
        obtain ⟨c, hc⟩ : ∃ c, c = Sr.cell y := ⟨_, rfl⟩
        obtain ⟨x, hx⟩ : ∃ x, x = Ex.evl (Ex.bs zj) eb := ⟨_, rfl⟩
        have hc8 : c < 8 := by rw [hc]; exact Sr.cell_lt y
        have hc8i : (c : Int) < 8 := by omega
        have hrx : Ex.rng x := by rw [hx]; exact Ex.evl_rng _ hrg _ hokb
        have hrun : Sr.run rest (Ex.bs zj) (lj + St.lab1 3 (St.labels body) (St.labels els)) ((mj.step.acc c true lj).put c x) = R := by rw [hx, hc, hy]; exact HRN.out
        have hon1 := Sr.run_on rest (Ex.bs zj) (lj + St.lab1 3 (St.labels body) (St.labels els)) ((mj.step.acc c true lj).put c x)
        rw [hrun] at hon1
        have hmore : mj.steps + 1 ≤ R.steps := hon1.steps
        have f3 : mj.steps + 1 ≤ F → Sr.Fit F (mj.step.acc c true lj) := fun hs => ⟨hfj.len, hfj.rg, hs, by have := hfj.tr; show (mj.trace ++ [_]).length ≤ mj.steps + 1; simp; omega⟩
        have f4 : mj.steps + 1 ≤ F → Sr.Fit F ((mj.step.acc c true lj).put c x) := fun hs => ⟨by show (mj.heap.set c x).length = 8; simp [hfj.len], fun z hz => by
          rcases List.mem_or_eq_of_mem_set (show z ∈ mj.heap.set c x from hz) with hz | rfl
          · exact hfj.rg z hz
          · exact hrx, hs, (f3 hs).tr⟩
        have HYY := Lib.hid (And.intro hy (And.intro hc hx))
        clear hy hx hc
        go_wp2_with fail
        generalize (wr.alloc (.cells #[.int .i64 3, .string nm, .int .i64 ak, .int .i64 an, .string sa, .slice aA al ac, .int .i64 bk, .int .i64 bn, .string sb, .slice bA bl bc, .slice D dl dc, .slice E el ec] 38)) = W0 at hbA hX T0 v0 ⊢
        rw [← hQQ.out]
        clear c0 c1 c2 c3 c4 c5 c6 c7 c8 c9 c10 c11
        by_cases hst : mj.steps = F
        · have hg := step_out B W0 g F mj vtj T0.own hfj.len hst
          have hend : ∀ w1, Below W0.heap.size W0 w1 → F < R.steps ∧ Keeps (RuT g m vt) w w1 := fun w1 hb1 => ⟨by have := hmore; omega, (HW.out.kp.trans (Keeps.of_below hbA _)).trans (Keeps.of_below hb1 _)⟩
          have HH := Lib.hid hend
          clear hend hX T0 v0 hbA hst hmore
          refine hg.mono ?_
          rintro e w1 ⟨rfl, hb1⟩
          obtain ⟨h1, h2⟩ := HH.out w1 hb1
          clear hg hb1
          go_wp2
          exact ⟨rfl, .inr ⟨h1, rfl, h2⟩⟩
        have hfs : Sr.Fit F mj.step := ⟨hfj.len, hfj.rg, by have := hfj.st; show mj.steps + 1 ≤ F; omega, by have := hfj.tr; show mj.trace.length ≤ mj.steps + 1; omega⟩
        refine (step_ok B W0 g F mj vtj T0.own hfj.len (by have := hfj.st; omega) hF).mono ?_
        rintro e w1 ⟨rfl, h1⟩
        have T1 := T0.step h1
        have v1 := v0.step T1.kp T1.nw
        clear h1 T0 v0 hst hmore
        have f3 := f3 hfs.st
        have f4 := f4 hfs.st
        have hkk : ∀ w', Keeps (RuT g mj.step vtj) w1 w' → Keeps (RuT g mj vtj) W0 w' := fun w' k => T1.kp.step k (fun i hi ht => (T1.nw i ht).resolve_right (by omega))
        have keepS : ∀ w', Keeps (RuT g mj.step vtj) w1 w' → (Keeps (RuT g mj.step vtj) w1 w' ∧ w'.cell? ⟨Q, 2, none⟩ = some (.int .i64 ak) ∧ w'.cell? ⟨Q, 3, none⟩ = some (.int .i64 an) ∧ w'.cell? ⟨Q, 4, none⟩ = some (.string sa) ∧ w'.cell? ⟨Q, 5, none⟩ = some (.slice aA al ac) ∧
          w'.cell? ⟨Q, 6, none⟩ = some (.int .i64 bk) ∧ w'.cell? ⟨Q, 7, none⟩ = some (.int .i64 bn) ∧ w'.cell? ⟨Q, 8, none⟩ = some (.string sb) ∧ w'.cell? ⟨Q, 9, none⟩ = some (.slice bA bl bc)) := fun w' hb => by
          obtain ⟨c0, c1, c2, c3, c4, c5, c6, c7, c8, c9, c10, c11⟩ := hX.cells w' (hkk w' hb)
          exact ⟨hb, c2, c3, c4, c5, c6, c7, c8, c9⟩
        have gE : ∀ (w' : World) (ck cn : Int) (sc : ByteArray) (cA : Option Addr) (cl cc : Nat) (e : Ex.X) (z : Int), z = Ex.evl (Ex.bs zj) e → Keeps (RuT g mj.step vtj) w1 w' → XR B w' (xcells ck cn sc cA cl cc) e → Calls Try.prog 37 #[.agg #[.int .i64 ck, .int .i64 cn, .string sc, .slice cA cl cc], .slice VE zj.length ce] w' fun r w'' => r = .returned (.int .i64 z) ∧ Below w'.heap.size w' w'' := fun w' ck cn sc cA cl cc e z hz hb hx => by
          rw [hz]
          exact eval_ok (.slice VE zj.length ce) zj (by have := HQ.out; omega) e w' _ (hx.up (Nat.le_trans T1.own.base hb.size)) (v1.step hb (fun i h => .inl h)).sl
        have gX : ∀ w', Keeps (RuT g mj.step vtj) w1 w' → XR B w' (xcells ak an sa aA al ac) ea ∧ XR B w' (xcells bk bn sb bA bl bc) eb := fun w' hb => ⟨(hX.read w' (hkk w' hb)).1, (hX.read w' (hkk w' hb)).2.1⟩
        have gA : ∀ w', Below w1.heap.size w1 w' → Calls Try.prog 52 #[.pointer (some ⟨g, 0, none⟩), .int .i64 y, .bool true, .int .i64 (lj : Int)] w' fun e w'' => e = .returned (.int .i64 (c : Int)) ∧ ∃ vt', RuTo B w1 (RuT g mj.step vtj) w'' g F (mj.step.acc c true lj) vt' := fun w' hb => by
          have h := access_any B w' g F mj.step vtj y true lj (T1.own.later hb) hfs.len (by have := hfs.st; have := hfs.tr; omega)
          rw [← HYY.out.2.1] at h
          exact h.mono fun e w'' ⟨h1, vt', h2⟩ => ⟨h1, vt', h2.since hb⟩
        have hS1 := keepS _ ((Keeps.refl _ w1).drewN 1)
        have HT := Lib.hid (And.intro T1 (And.intro v1 (And.intro hX (And.intro f3 f4))))
        clear T1 v1 hX hkk f3 f4
        go_wp2_with fail
        refine wp_walk_mt 15 (fun i => ([7] : List Nat).contains i) (fun i => ([0,8,9,10,12,13] : List Nat).contains i) [7] (by intro m h; simpa using h) (by kernel_rfl) (by kernel_rfl) (by kernel_rfl) (fun w w' => Below w.heap.size w w')  (fun w' => (Keeps (RuT g mj.step vtj) w1 w' ∧ w'.cell? ⟨Q, 2, none⟩ = some (.int .i64 ak) ∧ w'.cell? ⟨Q, 3, none⟩ = some (.int .i64 an) ∧ w'.cell? ⟨Q, 4, none⟩ = some (.string sa) ∧ w'.cell? ⟨Q, 5, none⟩ = some (.slice aA al ac) ∧ w'.cell? ⟨Q, 6, none⟩ = some (.int .i64 bk) ∧ w'.cell? ⟨Q, 7, none⟩ = some (.int .i64 bn) ∧ w'.cell? ⟨Q, 8, none⟩ = some (.string sb) ∧ w'.cell? ⟨Q, 9, none⟩ = some (.slice bA bl bc))) (fun w' => Below w1.heap.size w1 w') hS1 (below_drew (Below.refl _ _)) (fun _ _ h h' => below_next h' h) ?_
        simp only [List.length_cons, List.length_nil, Nat.reduceAdd, Nat.reduceSub, List.take_succ_cons, List.take_zero, List.drop_succ_cons, List.drop_zero]
        repeat (first | (refine nsettle_skip (by rfl) (fun _ => by rfl) ?_; (simp only [Act.put, List.setIfInBounds_toArray, List.set_cons_zero, List.set_cons_succ])) | (refine' nsettle_run (by rfl) (fun _ _ => Below.refl _ _) (fun _ => by rfl) ?_ ?_; rotate_left; (focus (intro ρ w hS hF hP; (try dsimp only at hS); go_split_ands; go_simp; try with_reducible rfl)); (simp only [Act.put, List.setIfInBounds_toArray, List.set_cons_zero, List.set_cons_succ])))
        (refine' nsettle_step (by rfl) (fun _ => by rfl) ?_ ?_; rotate_left; (focus (intro ρ w hS hF hP K hK; (simp only [Act.put, List.setIfInBounds_toArray, List.set_cons_zero, List.set_cons_succ] at hK); go_simp; (refine (gE _ _ _ _ _ _ _ _ y HYY.out.1 hS.1 (gX _ hS.1).1).mono ?_; rintro e w' ⟨rfl, hb'⟩; have hS' := keepS _ (hS.1.trans (Keeps.of_below hb' _)); have hE' := hb'); exact hK _ hS' hE')); (simp only [Act.put, List.setIfInBounds_toArray, List.set_cons_zero, List.set_cons_succ]))
        repeat (first | (refine nsettle_skip (by rfl) (fun _ => by rfl) ?_; (simp only [Act.put, List.setIfInBounds_toArray, List.set_cons_zero, List.set_cons_succ])) | (refine' nsettle_run (by rfl) (fun _ _ => Below.refl _ _) (fun _ => by rfl) ?_ ?_; rotate_left; (focus (intro ρ w hS hF hP; (try dsimp only at hS); go_split_ands; go_simp; try with_reducible rfl)); (simp only [Act.put, List.setIfInBounds_toArray, List.set_cons_zero, List.set_cons_succ])))
        (refine nsettle_mark (FAcc B w1 (RuT g mj.step vtj) g F (mj.step.acc c true lj) (.int .i64 (c : Int))) (by rfl) (by rfl) (by rfl) (fun _ => by rfl) ?_ ?_; (focus (intro ρ w hS hF hP K hK; (simp only [Act.put, List.setIfInBounds_toArray, List.set_cons_zero, List.set_cons_succ] at hK); go_simp; (refine (gA _ (hP (by rfl))).mono ?_; rintro e w' ⟨rfl, vt', h'⟩; exact hK _ _ ⟨rfl, vt', h'⟩ (keepS _ h'.kp)))); (simp only [Act.put, List.setIfInBounds_toArray, List.set_cons_zero, List.set_cons_succ]))
        repeat (first | (refine nsettle_skip (by rfl) (fun _ => by rfl) ?_; (simp only [Act.put, List.setIfInBounds_toArray, List.set_cons_zero, List.set_cons_succ])) | (refine' nsettle_run (by rfl) (fun _ _ => Below.refl _ _) (fun _ => by rfl) ?_ ?_; rotate_left; (focus (intro ρ w hS hF hP; (try dsimp only at hS); go_split_ands; go_simp; try with_reducible rfl)); (simp only [Act.put, List.setIfInBounds_toArray, List.set_cons_zero, List.set_cons_succ])))
        (refine' nsettle_step (by rfl) (fun _ => by rfl) ?_ ?_; rotate_left; (focus (intro ρ w hS hF hP K hK; (simp only [Act.put, List.setIfInBounds_toArray, List.set_cons_zero, List.set_cons_succ] at hK); go_simp; (refine (gE _ _ _ _ _ _ _ _ x HYY.out.2.2 hS.1 (gX _ hS.1).2).mono ?_; rintro e w' ⟨rfl, hb'⟩; have hS' := keepS _ (hS.1.trans (Keeps.of_below hb' _)); have hE' := hb'); exact hK _ hS' hE')); (simp only [Act.put, List.setIfInBounds_toArray, List.set_cons_zero, List.set_cons_succ]))
        repeat (first | (refine nsettle_skip (by rfl) (fun _ => by rfl) ?_; (simp only [Act.put, List.setIfInBounds_toArray, List.set_cons_zero, List.set_cons_succ])) | (refine' nsettle_run (by rfl) (fun _ _ => Below.refl _ _) (fun _ => by rfl) ?_ ?_; rotate_left; (focus (intro ρ w hS hF hP; (try dsimp only at hS); go_split_ands; go_simp; try with_reducible rfl)); (simp only [Act.put, List.setIfInBounds_toArray, List.set_cons_zero, List.set_cons_succ])))
        (refine nsettle_known (FAcc B w1 (RuT g mj.step vtj) g F (mj.step.acc c true lj) (.pointer (some ⟨g, c, none⟩))) (by rfl) (by rfl) (by rfl) (fun _ => by rfl)  ?_ ?_; (focus (intro ρ w hS hF hP K hK; (simp only [Act.put, List.setIfInBounds_toArray, List.set_cons_zero, List.set_cons_succ] at hK); go_simp; (obtain ⟨hv, vt', h'⟩ := hF.1 (by rfl); rw [hv] at hK ⊢; go_simp; exact hK _ _ ⟨rfl, vt', h'⟩ hS (Below.refl _ _)))); (simp only [Act.put, List.setIfInBounds_toArray, List.set_cons_zero, List.set_cons_succ]))
        refine nsettle_nil ?_
        intro ρ w4 hS hF
        obtain ⟨hv76, vt4, h4⟩ := hF 76 (FAcc B w1 (RuT g mj.step vtj) g F (mj.step.acc c true lj) (.pointer (some ⟨g, c, none⟩))) (by repeat (first | exact List.mem_cons_self | apply List.mem_cons_of_mem))
        obtain ⟨T1, v1, hX, f3, f4⟩ := HT.out
        have v4 := v1.step h4.kp h4.nw
        have T4 := T1.step h4
        have hB4 := h4.own.blk
        have hend : ∀ w5, Blk w5 g 77 ((Sr.rcells F (mj.step.acc c true lj) vt4).set c (.int .i64 x)) → w4.grownBy w5 (some g) → RuTo B W0 (RuT g mj vtj) w5 g F ((mj.step.acc c true lj).put c x) vt4 ∧ EnvAt w5 (RuT g ((mj.step.acc c true lj).put c x) vt4) (.slice VE zj.length ce) zj := fun w5 b5 g5 => by
          have h5 := h4.own.cells_to b5 g5
          rw [Sr.rcells_put f3.len c hc8] at h5
          exact ⟨T4.step h5, v4.step h5.kp h5.nw⟩
        have hcl8 : c < (Sr.rcells F (mj.step.acc c true lj) vt4).length := by unfold Sr.rcells; rw [List.length_append, ints_length, f3.len]; simp; omega
        have HE4 := Lib.hid hend
        clear hend hF hS hS1 keepS gE gX gA HT T1 v1 v4 T4 h4 f3
        dsimp only
        rw [hv76]
        generalize ρ 69 = v69
        clear hv76
        go_wp2_with (first | (refine wpl_set_blk hB4 c (.int .i64 x) (by kernel_rfl) hcl8 rfl rfl rfl rfl rfl rfl ?_; intro w5 hB5 hg5; obtain ⟨T5, v5⟩ := HE4.out w5 hB5 hg5; obtain ⟨c0, c1, c2, c3, c4, c5, c6, c7, c8, c9, c10, c11⟩ := hX.cells _ T5.kp; clear hB4 hB5 hg5 HE4 hcl8) | fail)
        clear c0 c1 c2 c3 c4 c5 c6 c7 c8 c9 c10 c11
        clear hc8 hc8i
        have HZ := Lib.hid (And.intro T5 (And.intro v5 f4))
        obtain ⟨c0, c1, c2, c3, c4, c5, c6, c7, c8, c9, c10, c11⟩ := hX.cells _ T5.kp
        obtain ⟨xa, xb, pb, pe⟩ := hX.read _ T5.kp
        have hlab := labels_any (.cons 3 nm.data.toList ea eb body els .nil) _ _ 1 1 _ (Nat.le_refl _) (one_pr 38 T5.own.base xa xb pb pe hd) (Nat.le_refl _) (by decide) (by rw [size_one]; have := HQ.out; omega)
        have hlo := T5.own.base
        unfold stcells xcells at hlab
        rw [labels_one] at hlab
        have hlb := St.lab1_le 3 (St.labels body) (St.labels els)
        have hlb1 := St.labels_le body
        have hlb2 := St.labels_le els
        have hlz : lj + (1 + St.labels body + St.labels els) ≤ 576460752303423488 := by have := HQ.out; omega
        have HL := Lib.hid (And.intro hlb (And.intro hlb1 (And.intro hlb2 hlz)))
        clear T5 v5 f4 xa xb pb pe hlb hlb1 hlb2 hlz hX
        try go_wp2_with fail
        refine hlab.mono ?_
        rintro e wl ⟨rfl, hbl⟩
        have hbl2 := below_next hbl (below_alloc (Below.refl _ _) _)
        have TE := ((HW.out.later hbA).step HZ.out.1).later hbl2
        have vE := HZ.out.2.1.later hbl2
        have HE := Lib.hid (And.intro TE vE)
        clear hlab hbl hbl2 TE vE hbA c0 c1 c2 c3 c4 c5 c6 c7 c8 c9 c10 c11
        go_wp2_with fail
        go_roundw
        case rel => exact ⟨k + 1, rest, _, lj + St.lab1 3 (St.labels body) (St.labels els), _, _, by omega, by go_num, by rw [i64_add _ _ (by have := HL.out; omega)], by rw [show n - (k + 1) = n - k - 1 by omega]; exact HQ.out.2.2.2.2.2, HE.out.1, HE.out.2, HZ.out.2.2, hrun, by have := HQ.out; omega, by have := HQ.out; first | omega | (simp only [List.length_append, List.length_singleton]; omega), by have := HQ.out; have := HL.out; omega⟩
        case measure => simp [intOf]; omega
      · have hrun : Sr.run rest (Ex.bs zj) (lj + St.labels body) (Sr.run body (Ex.bs zj) lj mj.step) = R := HRN.out
        have hon1 := Sr.run_on rest (Ex.bs zj) (lj + St.labels body) (Sr.run body (Ex.bs zj) lj mj.step)
        rw [hrun] at hon1
        have hon0 := Sr.run_on body (Ex.bs zj) lj mj.step
        have hmore : mj.steps + 1 ≤ R.steps := Nat.le_trans hon0.steps hon1.steps
        go_wp2_with fail
        generalize (wr.alloc (.cells #[.int .i64 4, .string nm, .int .i64 ak, .int .i64 an, .string sa, .slice aA al ac, .int .i64 bk, .int .i64 bn, .string sb, .slice bA bl bc, .slice D dl dc, .slice E el ec] 38)) = W0 at hbA hX T0 v0 ⊢
        rw [← hQQ.out]
        clear c0 c1 c2 c3 c4 c5 c6 c7 c8 c9 c10 c11
        by_cases hst : mj.steps = F
        · have hg := step_out B W0 g F mj vtj T0.own hfj.len hst
          have hend : ∀ w1, Below W0.heap.size W0 w1 → F < R.steps ∧ Keeps (RuT g m vt) w w1 := fun w1 hb1 => ⟨by have := hmore; omega, (HW.out.kp.trans (Keeps.of_below hbA _)).trans (Keeps.of_below hb1 _)⟩
          have HH := Lib.hid hend
          clear hend hX T0 v0 hbA hst hmore
          refine hg.mono ?_
          rintro e w1 ⟨rfl, hb1⟩
          obtain ⟨h1, h2⟩ := HH.out w1 hb1
          clear hg hb1
          go_wp2
          exact ⟨rfl, .inr ⟨h1, rfl, h2⟩⟩
        have hfs : Sr.Fit F mj.step := ⟨hfj.len, hfj.rg, by have := hfj.st; show mj.steps + 1 ≤ F; omega, by have := hfj.tr; show mj.trace.length ≤ mj.steps + 1; omega⟩
        refine (step_ok B W0 g F mj vtj T0.own hfj.len (by have := hfj.st; omega) hF).mono ?_
        rintro e w1 ⟨rfl, h1⟩
        have T1 := T0.step h1
        have v1 := v0.step T1.kp T1.nw
        clear h1 T0 v0 hst hmore
        obtain ⟨c0, c1, c2, c3, c4, c5, c6, c7, c8, c9, c10, c11⟩ := hX.cells _ T1.kp
        obtain ⟨xa, xb, pb, pe⟩ := hX.read _ T1.kp
        have hblk := ih body (by have := HQ.out; omega) w1 B dl dc g F D vtj _ mj.step zj lj pb hd1 hd2 T1.own hfs hF v1 (by have := HQ.out; omega) (by have := HQ.out; omega)
        have hrg1 := Sr.run_rng body (Ex.bs zj) lj mj.step hokp hrg hfj.rg
        clear xa xb pb pe
        go_wp2_with fail
        refine hblk.mono ?_
        rintro e w2 (⟨h1, rfl, vtw2, h2⟩ | ⟨h1, rfl, h2⟩)
        · have Tw2 := T1.step h2
          have vw2 := v1.step h2.kp h2.nw
          have f2 := hfs.on hon0 hrg1 h1
          clear hblk h2 T1 v1 hrg1
          try clear c0 c1 c2 c3 c4 c5 c6 c7 c8 c9 c10 c11
          have HZ := Lib.hid (And.intro Tw2 (And.intro vw2 f2))
          obtain ⟨c0, c1, c2, c3, c4, c5, c6, c7, c8, c9, c10, c11⟩ := hX.cells _ Tw2.kp
          obtain ⟨xa, xb, pb, pe⟩ := hX.read _ Tw2.kp
          have hlab := labels_any (.cons 4 nm.data.toList ea eb body els .nil) _ _ 1 1 _ (Nat.le_refl _) (one_pr 38 Tw2.own.base xa xb pb pe hd) (Nat.le_refl _) (by decide) (by rw [size_one]; have := HQ.out; omega)
          have hlo := Tw2.own.base
          unfold stcells xcells at hlab
          rw [labels_one] at hlab
          have hlb := St.lab1_le 4 (St.labels body) (St.labels els)
          have hlb1 := St.labels_le body
          have hlb2 := St.labels_le els
          have hlz : lj + (1 + St.labels body + St.labels els) ≤ 576460752303423488 := by have := HQ.out; omega
          have HL := Lib.hid (And.intro hlb (And.intro hlb1 (And.intro hlb2 hlz)))
          clear Tw2 vw2 f2 xa xb pb pe hlb hlb1 hlb2 hlz hX
          try go_wp2_with fail
          refine hlab.mono ?_
          rintro e wl ⟨rfl, hbl⟩
          have hbl2 := below_next hbl (below_alloc (Below.refl _ _) _)
          have TE := ((HW.out.later hbA).step HZ.out.1).later hbl2
          have vE := HZ.out.2.1.later hbl2
          have HE := Lib.hid (And.intro TE vE)
          clear hlab hbl hbl2 TE vE hbA c0 c1 c2 c3 c4 c5 c6 c7 c8 c9 c10 c11
          go_wp2_with fail
          go_roundw
          case rel => exact ⟨k + 1, rest, _, lj + St.lab1 4 (St.labels body) (St.labels els), _, _, by omega, by go_num, by rw [i64_add _ _ (by have := HL.out; omega)], by rw [show n - (k + 1) = n - k - 1 by omega]; exact HQ.out.2.2.2.2.2, HE.out.1, HE.out.2, HZ.out.2.2, hrun, by have := HQ.out; omega, by have := HQ.out; first | omega | (simp only [List.length_append, List.length_singleton]; omega), by have := HQ.out; have := HL.out; omega⟩
          case measure => simp [intOf]; omega
        · have hk2 : Keeps (RuT g m vt) w w2 := ((HW.out.later hbA).step T1).kp.step h2 (fun i hi ht => (((HW.out.later hbA).step T1).nw i ht).resolve_right (by omega))
          have hlt' : F < R.steps := by have := hon1.steps; omega
          clear hblk h2 T1 v1 hX hbA
          try clear c0 c1 c2 c3 c4 c5 c6 c7 c8 c9 c10 c11
          go_wp2
          exact ⟨rfl, .inr ⟨hlt', rfl, hk2⟩⟩
      · have hrun : Sr.run rest (Ex.bs zj) (lj + St.labels body) (Sr.run body (Ex.bs zj) lj mj.step) = R := HRN.out
        have hon1 := Sr.run_on rest (Ex.bs zj) (lj + St.labels body) (Sr.run body (Ex.bs zj) lj mj.step)
        rw [hrun] at hon1
        have hon0 := Sr.run_on body (Ex.bs zj) lj mj.step
        have hmore : mj.steps + 1 ≤ R.steps := Nat.le_trans hon0.steps hon1.steps
        go_wp2_with fail
        generalize (wr.alloc (.cells #[.int .i64 5, .string nm, .int .i64 ak, .int .i64 an, .string sa, .slice aA al ac, .int .i64 bk, .int .i64 bn, .string sb, .slice bA bl bc, .slice D dl dc, .slice E el ec] 38)) = W0 at hbA hX T0 v0 ⊢
        rw [← hQQ.out]
        clear c0 c1 c2 c3 c4 c5 c6 c7 c8 c9 c10 c11
        by_cases hst : mj.steps = F
        · have hg := step_out B W0 g F mj vtj T0.own hfj.len hst
          have hend : ∀ w1, Below W0.heap.size W0 w1 → F < R.steps ∧ Keeps (RuT g m vt) w w1 := fun w1 hb1 => ⟨by have := hmore; omega, (HW.out.kp.trans (Keeps.of_below hbA _)).trans (Keeps.of_below hb1 _)⟩
          have HH := Lib.hid hend
          clear hend hX T0 v0 hbA hst hmore
          refine hg.mono ?_
          rintro e w1 ⟨rfl, hb1⟩
          obtain ⟨h1, h2⟩ := HH.out w1 hb1
          clear hg hb1
          go_wp2
          exact ⟨rfl, .inr ⟨h1, rfl, h2⟩⟩
        have hfs : Sr.Fit F mj.step := ⟨hfj.len, hfj.rg, by have := hfj.st; show mj.steps + 1 ≤ F; omega, by have := hfj.tr; show mj.trace.length ≤ mj.steps + 1; omega⟩
        refine (step_ok B W0 g F mj vtj T0.own hfj.len (by have := hfj.st; omega) hF).mono ?_
        rintro e w1 ⟨rfl, h1⟩
        have T1 := T0.step h1
        have v1 := v0.step T1.kp T1.nw
        clear h1 T0 v0 hst hmore
        obtain ⟨c0, c1, c2, c3, c4, c5, c6, c7, c8, c9, c10, c11⟩ := hX.cells _ T1.kp
        obtain ⟨xa, xb, pb, pe⟩ := hX.read _ T1.kp
        have hblk := ih body (by have := HQ.out; omega) w1 B dl dc g F D vtj _ mj.step zj lj pb hd1 hd2 T1.own hfs hF v1 (by have := HQ.out; omega) (by have := HQ.out; omega)
        have hrg1 := Sr.run_rng body (Ex.bs zj) lj mj.step hokp hrg hfj.rg
        clear xa xb pb pe
        go_wp2_with fail
        refine hblk.mono ?_
        rintro e w2 (⟨h1, rfl, vtw2, h2⟩ | ⟨h1, rfl, h2⟩)
        · have Tw2 := T1.step h2
          have vw2 := v1.step h2.kp h2.nw
          have f2 := hfs.on hon0 hrg1 h1
          clear hblk h2 T1 v1 hrg1
          try clear c0 c1 c2 c3 c4 c5 c6 c7 c8 c9 c10 c11
          have HZ := Lib.hid (And.intro Tw2 (And.intro vw2 f2))
          obtain ⟨c0, c1, c2, c3, c4, c5, c6, c7, c8, c9, c10, c11⟩ := hX.cells _ Tw2.kp
          obtain ⟨xa, xb, pb, pe⟩ := hX.read _ Tw2.kp
          have hlab := labels_any (.cons 5 nm.data.toList ea eb body els .nil) _ _ 1 1 _ (Nat.le_refl _) (one_pr 38 Tw2.own.base xa xb pb pe hd) (Nat.le_refl _) (by decide) (by rw [size_one]; have := HQ.out; omega)
          have hlo := Tw2.own.base
          unfold stcells xcells at hlab
          rw [labels_one] at hlab
          have hlb := St.lab1_le 5 (St.labels body) (St.labels els)
          have hlb1 := St.labels_le body
          have hlb2 := St.labels_le els
          have hlz : lj + (1 + St.labels body + St.labels els) ≤ 576460752303423488 := by have := HQ.out; omega
          have HL := Lib.hid (And.intro hlb (And.intro hlb1 (And.intro hlb2 hlz)))
          clear Tw2 vw2 f2 xa xb pb pe hlb hlb1 hlb2 hlz hX
          try go_wp2_with fail
          refine hlab.mono ?_
          rintro e wl ⟨rfl, hbl⟩
          have hbl2 := below_next hbl (below_alloc (Below.refl _ _) _)
          have TE := ((HW.out.later hbA).step HZ.out.1).later hbl2
          have vE := HZ.out.2.1.later hbl2
          have HE := Lib.hid (And.intro TE vE)
          clear hlab hbl hbl2 TE vE hbA c0 c1 c2 c3 c4 c5 c6 c7 c8 c9 c10 c11
          go_wp2_with fail
          go_roundw
          case rel => exact ⟨k + 1, rest, _, lj + St.lab1 5 (St.labels body) (St.labels els), _, _, by omega, by go_num, by rw [i64_add _ _ (by have := HL.out; omega)], by rw [show n - (k + 1) = n - k - 1 by omega]; exact HQ.out.2.2.2.2.2, HE.out.1, HE.out.2, HZ.out.2.2, hrun, by have := HQ.out; omega, by have := HQ.out; first | omega | (simp only [List.length_append, List.length_singleton]; omega), by have := HQ.out; have := HL.out; omega⟩
          case measure => simp [intOf]; omega
        · have hk2 : Keeps (RuT g m vt) w w2 := ((HW.out.later hbA).step T1).kp.step h2 (fun i hi ht => (((HW.out.later hbA).step T1).nw i ht).resolve_right (by omega))
          have hlt' : F < R.steps := by have := hon1.steps; omega
          clear hblk h2 T1 v1 hX hbA
          try clear c0 c1 c2 c3 c4 c5 c6 c7 c8 c9 c10 c11
          go_wp2
          exact ⟨rfl, .inr ⟨hlt', rfl, hk2⟩⟩
      · obtain ⟨y, hy⟩ : ∃ y, y = Ex.evl (Ex.bs zj) ea := ⟨_, rfl⟩
        have hrun0 : Sr.run rest (Ex.bs zj) (lj + (St.labels body + St.labels els)) (if y ≠ 0 then Sr.run body (Ex.bs zj) lj mj.step else Sr.run els (Ex.bs zj) (lj + St.labels body) mj.step) = R := by rw [hy]; exact HRN.out
        have hbl1 := St.labels_le body
        have HYY := Lib.hid (And.intro hy hbl1)
        clear hy hbl1
        by_cases hz : y = 0
        · rw [if_neg (by simpa using hz)] at hrun0
          have hrun := hrun0
          clear hrun0
          have hon1 := Sr.run_on rest (Ex.bs zj) (lj + (St.labels body + St.labels els)) (Sr.run els (Ex.bs zj) (lj + St.labels body) mj.step)
          rw [hrun] at hon1
          have hon0 := Sr.run_on els (Ex.bs zj) (lj + St.labels body) mj.step
          have hmore : mj.steps + 1 ≤ R.steps := Nat.le_trans hon0.steps hon1.steps
          have hb0 : (y != 0) = false := by simpa using hz
          go_wp2_with fail
          generalize (wr.alloc (.cells #[.int .i64 6, .string nm, .int .i64 ak, .int .i64 an, .string sa, .slice aA al ac, .int .i64 bk, .int .i64 bn, .string sb, .slice bA bl bc, .slice D dl dc, .slice E el ec] 38)) = W0 at hbA hX T0 v0 ⊢
          rw [← hQQ.out]
          clear c0 c1 c2 c3 c4 c5 c6 c7 c8 c9 c10 c11
          by_cases hst : mj.steps = F
          · have hg := step_out B W0 g F mj vtj T0.own hfj.len hst
            have hend : ∀ w1, Below W0.heap.size W0 w1 → F < R.steps ∧ Keeps (RuT g m vt) w w1 := fun w1 hb1 => ⟨by have := hmore; omega, (HW.out.kp.trans (Keeps.of_below hbA _)).trans (Keeps.of_below hb1 _)⟩
            have HH := Lib.hid hend
            clear hend hX T0 v0 hbA hst hmore
            refine hg.mono ?_
            rintro e w1 ⟨rfl, hb1⟩
            obtain ⟨h1, h2⟩ := HH.out w1 hb1
            clear hg hb1
            go_wp2
            exact ⟨rfl, .inr ⟨h1, rfl, h2⟩⟩
          have hfs : Sr.Fit F mj.step := ⟨hfj.len, hfj.rg, by have := hfj.st; show mj.steps + 1 ≤ F; omega, by have := hfj.tr; show mj.trace.length ≤ mj.steps + 1; omega⟩
          refine (step_ok B W0 g F mj vtj T0.own hfj.len (by have := hfj.st; omega) hF).mono ?_
          rintro e w1 ⟨rfl, h1⟩
          have T1 := T0.step h1
          have v1 := v0.step T1.kp T1.nw
          clear h1 T0 v0 hst hmore
          obtain ⟨c0, c1, c2, c3, c4, c5, c6, c7, c8, c9, c10, c11⟩ := hX.cells _ T1.kp
          obtain ⟨xa, xb, pb, pe⟩ := hX.read _ T1.kp
          have gE : Calls Try.prog 37 #[.agg #[.int .i64 ak, .int .i64 an, .string sa, .slice aA al ac], .slice VE zj.length ce] w1 fun r w'' => r = .returned (.int .i64 y) ∧ Below w1.heap.size w1 w'' := by
            rw [HYY.out.1]
            exact eval_ok (.slice VE zj.length ce) zj (by have := HQ.out; omega) ea w1 _ (xa.up T1.own.base) v1.sl
          clear c0 c1 xa xb pb pe hz
          go_wp2_with fail
          refine gE.mono ?_
          rintro e w2 ⟨rfl, hb2⟩
          have T2 := T1.later hb2
          have v2 := v1.later hb2
          clear gE T1 v1 c2 c3 c4 c5 c6 c7 c8 c9 c10 c11 hb2
          have keepS : ∀ w', Below w2.heap.size w2 w' → (Below w2.heap.size w2 w' ∧ w'.cell? ⟨Q, 10, none⟩ = some (.slice D dl dc) ∧ w'.cell? ⟨Q, 11, none⟩ = some (.slice E el ec)) := fun w' hb => by
            obtain ⟨c0, c1, c2, c3, c4, c5, c6, c7, c8, c9, c10, c11⟩ := hX.cells w' (T2.later hb).kp
            exact ⟨hb, c10, c11⟩
          have gL : ∀ w', Below w2.heap.size w2 w' → Calls Try.prog 33 #[.slice D dl dc] w' fun e w'' => e = .returned (.int .i64 (St.labels body : Nat)) ∧ Below w'.heap.size w' w'' := fun w' hb =>
            labels_any body w' B dl dc D (T2.later hb).own.base (hX.read w' (T2.later hb).kp).2.2.1 hd1 hd2 (by have := HQ.out; omega)
          have hS0 := keepS _ (below_drew (Below.refl _ _))
          have HT := Lib.hid (And.intro T2 (And.intro v2 hX))
          clear T2 v2 hX
          go_wp2_with fail
          refine wp_walk_last (by kernel_rfl) (by kernel_rfl) (fun w w' => Below w.heap.size w w') (fun w' => (Below w2.heap.size w2 w' ∧ w'.cell? ⟨Q, 10, none⟩ = some (.slice D dl dc) ∧ w'.cell? ⟨Q, 11, none⟩ = some (.slice E el ec))) hS0 ?_
          simp only [List.length_cons, List.length_nil, Nat.reduceAdd, Nat.reduceSub, List.take_succ_cons, List.take_zero, List.drop_succ_cons, List.drop_zero]
          repeat (first | (refine settle_skip (fun _ => by rfl) ?_; (simp only [Act.put, List.setIfInBounds_toArray, List.set_cons_zero, List.set_cons_succ])) | (refine' settle_run (fun _ _ => Below.refl _ _) (fun _ => by rfl) ?_ ?_; rotate_left; (focus (intro ρ w hS hF; (try dsimp only at hS); go_split_ands; go_simp; try with_reducible rfl)); (simp only [Act.put, List.setIfInBounds_toArray, List.set_cons_zero, List.set_cons_succ])))
          (refine' settle_step (fun _ => by rfl) ?_ ?_; rotate_left; (focus (intro ρ w hS hF K hK; (simp only [Act.put, List.setIfInBounds_toArray, List.set_cons_zero, List.set_cons_succ] at hK); go_simp; (refine (gL _ hS.1).mono ?_; rintro e w' ⟨rfl, hb'⟩; have hS' := keepS _ (below_next hb' hS.1); have hE' := hb'); exact hK _ hS' hE')); (simp only [Act.put, List.setIfInBounds_toArray, List.set_cons_zero, List.set_cons_succ]))
          repeat (first | (refine settle_skip (fun _ => by rfl) ?_; (simp only [Act.put, List.setIfInBounds_toArray, List.set_cons_zero, List.set_cons_succ])) | (refine' settle_run (fun _ _ => Below.refl _ _) (fun _ => by rfl) ?_ ?_; rotate_left; (focus (intro ρ w hS hF; (try dsimp only at hS); go_split_ands; go_simp; try with_reducible rfl)); (simp only [Act.put, List.setIfInBounds_toArray, List.set_cons_zero, List.set_cons_succ])))
          refine settle_nil ?_
          intro ρ w4 hS hF2
          have hb4 := hS.1
          obtain ⟨T2, v2, hX⟩ := HT.out
          have T4 := T2.later hb4
          have v4 := v2.later hb4
          have pe := (hX.read w4 T4.kp).2.2.2
          have hblk := ih els (by have := HQ.out; omega) w4 B el ec g F E vtj _ mj.step zj (lj + St.labels body) pe he1 he2 T4.own hfs hF v4 (by have := HQ.out; omega) (by have := HQ.out; have := HYY.out; omega)
          have hrg1 := Sr.run_rng els (Ex.bs zj) (lj + St.labels body) mj.step hoke hrg hfj.rg
          have hwr := i64_add lj (St.labels body) (by have := HQ.out; have := HYY.out; omega)
          have hwk := i64_addk lj (St.labels body) (by have := HQ.out; have := HYY.out; omega)
          clear hF2 hS hS0 keepS gL HT T2 v2 hb4 pe
          dsimp only
          try rw [hwr]
          try rw [hwk]
          clear hwr hwk
          go_wp2_with fail
          refine hblk.mono ?_
          rintro e w5 (⟨h1, rfl, vtw5, h2⟩ | ⟨h1, rfl, h2⟩)
          · have Tw5 := T4.step h2
            have vw5 := v4.step h2.kp h2.nw
            have f2 := hfs.on hon0 hrg1 h1
            clear hblk h2 T4 v4 hrg1
            try clear c0 c1 c2 c3 c4 c5 c6 c7 c8 c9 c10 c11
            have HZ := Lib.hid (And.intro Tw5 (And.intro vw5 f2))
            obtain ⟨c0, c1, c2, c3, c4, c5, c6, c7, c8, c9, c10, c11⟩ := hX.cells _ Tw5.kp
            obtain ⟨xa, xb, pb, pe⟩ := hX.read _ Tw5.kp
            have hlab := labels_any (.cons 6 nm.data.toList ea eb body els .nil) _ _ 1 1 _ (Nat.le_refl _) (one_pr 38 Tw5.own.base xa xb pb pe hd) (Nat.le_refl _) (by decide) (by rw [size_one]; have := HQ.out; omega)
            have hlo := Tw5.own.base
            unfold stcells xcells at hlab
            rw [labels_one] at hlab
            have hlb := St.lab1_le 6 (St.labels body) (St.labels els)
            have hlb1 := St.labels_le body
            have hlb2 := St.labels_le els
            have hlz : lj + (1 + St.labels body + St.labels els) ≤ 576460752303423488 := by have := HQ.out; omega
            have HL := Lib.hid (And.intro hlb (And.intro hlb1 (And.intro hlb2 hlz)))
            clear Tw5 vw5 f2 xa xb pb pe hlb hlb1 hlb2 hlz hX
            try go_wp2_with fail
            refine hlab.mono ?_
            rintro e wl ⟨rfl, hbl⟩
            have hbl2 := below_next hbl (below_alloc (Below.refl _ _) _)
            have TE := ((HW.out.later hbA).step HZ.out.1).later hbl2
            have vE := HZ.out.2.1.later hbl2
            have HE := Lib.hid (And.intro TE vE)
            clear hlab hbl hbl2 TE vE hbA c0 c1 c2 c3 c4 c5 c6 c7 c8 c9 c10 c11
            go_wp2_with fail
            go_roundw
            case rel => exact ⟨k + 1, rest, _, lj + St.lab1 6 (St.labels body) (St.labels els), _, _, by omega, by go_num, by rw [i64_add _ _ (by have := HL.out; omega)], by rw [show n - (k + 1) = n - k - 1 by omega]; exact HQ.out.2.2.2.2.2, HE.out.1, HE.out.2, HZ.out.2.2, hrun, by have := HQ.out; omega, by have := HQ.out; first | omega | (simp only [List.length_append, List.length_singleton]; omega), by have := HQ.out; have := HL.out; omega⟩
            case measure => simp [intOf]; omega
          · have hk2 : Keeps (RuT g m vt) w w5 := ((HW.out.later hbA).step T4).kp.step h2 (fun i hi ht => (((HW.out.later hbA).step T4).nw i ht).resolve_right (by omega))
            have hlt' : F < R.steps := by have := hon1.steps; omega
            clear hblk h2 T4 v4 hX hbA
            try clear c0 c1 c2 c3 c4 c5 c6 c7 c8 c9 c10 c11
            go_wp2
            exact ⟨rfl, .inr ⟨hlt', rfl, hk2⟩⟩
        · rw [if_pos hz] at hrun0
          have hrun := hrun0
          clear hrun0
          have hon1 := Sr.run_on rest (Ex.bs zj) (lj + (St.labels body + St.labels els)) (Sr.run body (Ex.bs zj) lj mj.step)
          rw [hrun] at hon1
          have hon0 := Sr.run_on body (Ex.bs zj) lj mj.step
          have hmore : mj.steps + 1 ≤ R.steps := Nat.le_trans hon0.steps hon1.steps
          have hb0 : (y != 0) = true := by simpa using hz
          go_wp2_with fail
          generalize (wr.alloc (.cells #[.int .i64 6, .string nm, .int .i64 ak, .int .i64 an, .string sa, .slice aA al ac, .int .i64 bk, .int .i64 bn, .string sb, .slice bA bl bc, .slice D dl dc, .slice E el ec] 38)) = W0 at hbA hX T0 v0 ⊢
          rw [← hQQ.out]
          clear c0 c1 c2 c3 c4 c5 c6 c7 c8 c9 c10 c11
          by_cases hst : mj.steps = F
          · have hg := step_out B W0 g F mj vtj T0.own hfj.len hst
            have hend : ∀ w1, Below W0.heap.size W0 w1 → F < R.steps ∧ Keeps (RuT g m vt) w w1 := fun w1 hb1 => ⟨by have := hmore; omega, (HW.out.kp.trans (Keeps.of_below hbA _)).trans (Keeps.of_below hb1 _)⟩
            have HH := Lib.hid hend
            clear hend hX T0 v0 hbA hst hmore
            refine hg.mono ?_
            rintro e w1 ⟨rfl, hb1⟩
            obtain ⟨h1, h2⟩ := HH.out w1 hb1
            clear hg hb1
            go_wp2
            exact ⟨rfl, .inr ⟨h1, rfl, h2⟩⟩
          have hfs : Sr.Fit F mj.step := ⟨hfj.len, hfj.rg, by have := hfj.st; show mj.steps + 1 ≤ F; omega, by have := hfj.tr; show mj.trace.length ≤ mj.steps + 1; omega⟩
          refine (step_ok B W0 g F mj vtj T0.own hfj.len (by have := hfj.st; omega) hF).mono ?_
          rintro e w1 ⟨rfl, h1⟩
          have T1 := T0.step h1
          have v1 := v0.step T1.kp T1.nw
          clear h1 T0 v0 hst hmore
          obtain ⟨c0, c1, c2, c3, c4, c5, c6, c7, c8, c9, c10, c11⟩ := hX.cells _ T1.kp
          obtain ⟨xa, xb, pb, pe⟩ := hX.read _ T1.kp
          have gE : Calls Try.prog 37 #[.agg #[.int .i64 ak, .int .i64 an, .string sa, .slice aA al ac], .slice VE zj.length ce] w1 fun r w'' => r = .returned (.int .i64 y) ∧ Below w1.heap.size w1 w'' := by
            rw [HYY.out.1]
            exact eval_ok (.slice VE zj.length ce) zj (by have := HQ.out; omega) ea w1 _ (xa.up T1.own.base) v1.sl
          clear c0 c1 xa xb pb pe hz
          go_wp2_with fail
          refine gE.mono ?_
          rintro e w2 ⟨rfl, hb2⟩
          have T2 := T1.later hb2
          have v2 := v1.later hb2
          clear gE T1 v1 c2 c3 c4 c5 c6 c7 c8 c9 c10 c11 hb2
          obtain ⟨c0, c1, c2, c3, c4, c5, c6, c7, c8, c9, c10, c11⟩ := hX.cells _ T2.kp
          obtain ⟨xa, xb, pb, pe⟩ := hX.read _ T2.kp
          have hblk := ih body (by have := HQ.out; omega) w2 B dl dc g F D vtj _ mj.step zj lj pb hd1 hd2 T2.own hfs hF v2 (by have := HQ.out; omega) (by have := HQ.out; omega)
          have hrg1 := Sr.run_rng body (Ex.bs zj) lj mj.step hokp hrg hfj.rg
          clear xa xb pb pe
          go_wp2_with fail
          refine hblk.mono ?_
          rintro e w5 (⟨h1, rfl, vtw5, h2⟩ | ⟨h1, rfl, h2⟩)
          · have Tw5 := T2.step h2
            have vw5 := v2.step h2.kp h2.nw
            have f2 := hfs.on hon0 hrg1 h1
            clear hblk h2 T2 v2 hrg1
            try clear c0 c1 c2 c3 c4 c5 c6 c7 c8 c9 c10 c11
            have HZ := Lib.hid (And.intro Tw5 (And.intro vw5 f2))
            obtain ⟨c0, c1, c2, c3, c4, c5, c6, c7, c8, c9, c10, c11⟩ := hX.cells _ Tw5.kp
            obtain ⟨xa, xb, pb, pe⟩ := hX.read _ Tw5.kp
            have hlab := labels_any (.cons 6 nm.data.toList ea eb body els .nil) _ _ 1 1 _ (Nat.le_refl _) (one_pr 38 Tw5.own.base xa xb pb pe hd) (Nat.le_refl _) (by decide) (by rw [size_one]; have := HQ.out; omega)
            have hlo := Tw5.own.base
            unfold stcells xcells at hlab
            rw [labels_one] at hlab
            have hlb := St.lab1_le 6 (St.labels body) (St.labels els)
            have hlb1 := St.labels_le body
            have hlb2 := St.labels_le els
            have hlz : lj + (1 + St.labels body + St.labels els) ≤ 576460752303423488 := by have := HQ.out; omega
            have HL := Lib.hid (And.intro hlb (And.intro hlb1 (And.intro hlb2 hlz)))
            clear Tw5 vw5 f2 xa xb pb pe hlb hlb1 hlb2 hlz hX
            try go_wp2_with fail
            refine hlab.mono ?_
            rintro e wl ⟨rfl, hbl⟩
            have hbl2 := below_next hbl (below_alloc (Below.refl _ _) _)
            have TE := ((HW.out.later hbA).step HZ.out.1).later hbl2
            have vE := HZ.out.2.1.later hbl2
            have HE := Lib.hid (And.intro TE vE)
            clear hlab hbl hbl2 TE vE hbA c0 c1 c2 c3 c4 c5 c6 c7 c8 c9 c10 c11
            go_wp2_with fail
            go_roundw
            case rel => exact ⟨k + 1, rest, _, lj + St.lab1 6 (St.labels body) (St.labels els), _, _, by omega, by go_num, by rw [i64_add _ _ (by have := HL.out; omega)], by rw [show n - (k + 1) = n - k - 1 by omega]; exact HQ.out.2.2.2.2.2, HE.out.1, HE.out.2, HZ.out.2.2, hrun, by have := HQ.out; omega, by have := HQ.out; first | omega | (simp only [List.length_append, List.length_singleton]; omega), by have := HQ.out; have := HL.out; omega⟩
            case measure => simp [intOf]; omega
          · have hk2 : Keeps (RuT g m vt) w w5 := ((HW.out.later hbA).step T2).kp.step h2 (fun i hi ht => (((HW.out.later hbA).step T2).nw i ht).resolve_right (by omega))
            have hlt' : F < R.steps := by have := hon1.steps; omega
            clear hblk h2 T2 v2 hX hbA
            try clear c0 c1 c2 c3 c4 c5 c6 c7 c8 c9 c10 c11
            go_wp2
            exact ⟨rfl, .inr ⟨hlt', rfl, hk2⟩⟩
      · have hrun : Sr.run rest (Ex.bs zj) (lj + St.labels body) (Sr.iter (Ex.evl (Ex.bs zj) eb - Ex.evl (Ex.bs zj) ea).toNat (Ex.evl (Ex.bs zj) ea) (fun i m => Sr.run body (Ex.bs zj ++ [(nm.data.toList, i)]) lj m.step) mj.step) = R := HRN.out
        have hon0 : Sr.On mj.step (Sr.iter (Ex.evl (Ex.bs zj) eb - Ex.evl (Ex.bs zj) ea).toNat (Ex.evl (Ex.bs zj) ea) (fun i m => Sr.run body (Ex.bs zj ++ [(nm.data.toList, i)]) lj m.step) mj.step) := Sr.On.iter (fun i m => (Sr.On.step m).trans (Sr.run_on _ _ _ _)) _ _ _
        have hon1 := Sr.run_on rest (Ex.bs zj) (lj + St.labels body) (Sr.iter (Ex.evl (Ex.bs zj) eb - Ex.evl (Ex.bs zj) ea).toNat (Ex.evl (Ex.bs zj) ea) (fun i m => Sr.run body (Ex.bs zj ++ [(nm.data.toList, i)]) lj m.step) mj.step)
        rw [hrun] at hon1
        have hmore : mj.steps + 1 ≤ R.steps := Nat.le_trans hon0.steps hon1.steps
        go_wp2_with fail
        generalize (wr.alloc (.cells #[.int .i64 7, .string nm, .int .i64 ak, .int .i64 an, .string sa, .slice aA al ac, .int .i64 bk, .int .i64 bn, .string sb, .slice bA bl bc, .slice D dl dc, .slice E el ec] 38)) = W0 at hbA hX T0 v0 ⊢
        rw [← hQQ.out]
        clear c0 c1 c2 c3 c4 c5 c6 c7 c8 c9 c10 c11
        by_cases hst : mj.steps = F
        · have hg := step_out B W0 g F mj vtj T0.own hfj.len hst
          have hend : ∀ w1, Below W0.heap.size W0 w1 → F < R.steps ∧ Keeps (RuT g m vt) w w1 := fun w1 hb1 => ⟨by have := hmore; omega, (HW.out.kp.trans (Keeps.of_below hbA _)).trans (Keeps.of_below hb1 _)⟩
          have HH := Lib.hid hend
          clear hend hX T0 v0 hbA hst hmore
          refine hg.mono ?_
          rintro e w1 ⟨rfl, hb1⟩
          obtain ⟨h1, h2⟩ := HH.out w1 hb1
          clear hg hb1
          go_wp2
          exact ⟨rfl, .inr ⟨h1, rfl, h2⟩⟩
        have hfs : Sr.Fit F mj.step := ⟨hfj.len, hfj.rg, by have := hfj.st; show mj.steps + 1 ≤ F; omega, by have := hfj.tr; show mj.trace.length ≤ mj.steps + 1; omega⟩
        refine (step_ok B W0 g F mj vtj T0.own hfj.len (by have := hfj.st; omega) hF).mono ?_
        rintro e w1 ⟨rfl, h1⟩
        have T1 := T0.step h1
        have v1 := v0.step T1.kp T1.nw
        clear h1 T0 v0 hst hmore
        obtain ⟨c0, c1, c2, c3, c4, c5, c6, c7, c8, c9, c10, c11⟩ := hX.cells _ T1.kp
        obtain ⟨xa, xb, pb, pe⟩ := hX.read _ T1.kp
        have hblk := loop_any body (ih body (by have := HQ.out; omega)) w1 B g F vtj _ mj.step zj lj 7 nm ak an sa aA al ac bk bn sb bA bl bc D dl dc E el ec ea eb els xa xb pb pe hd1 hd2 T1.own hfs hF v1 (by have := HQ.out; omega) (by have := HQ.out; omega)
        unfold stcells xcells at hblk
        simp only [List.cons_append, List.nil_append] at hblk
        have hrg1 : ∀ x ∈ (Sr.iter (Ex.evl (Ex.bs zj) eb - Ex.evl (Ex.bs zj) ea).toNat (Ex.evl (Ex.bs zj) ea) (fun i m => Sr.run body (Ex.bs zj ++ [(nm.data.toList, i)]) lj m.step) mj.step).heap, Ex.rng x := by
          have hra := Ex.evl_rng _ hrg _ hoka
          have hrb := Ex.evl_rng _ hrg _ hokb
          by_cases hn : Ex.evl (Ex.bs zj) ea ≤ Ex.evl (Ex.bs zj) eb
          · exact Sr.iter_rng (fun i m hi h => Sr.run_rng body (Ex.bs zj ++ [(nm.data.toList, i)]) lj m.step hokp (Sr.env_snoc hrg _ hi) h) (Ex.evl (Ex.bs zj) eb - Ex.evl (Ex.bs zj) ea).toNat _ _ hra (by unfold Ex.rng at *; omega) hfj.rg
          · rw [show (Ex.evl (Ex.bs zj) eb - Ex.evl (Ex.bs zj) ea).toNat = 0 by omega]
            exact hfj.rg
        generalize Sr.iter (Ex.evl (Ex.bs zj) eb - Ex.evl (Ex.bs zj) ea).toNat (Ex.evl (Ex.bs zj) ea) (fun i m => Sr.run body (Ex.bs zj ++ [(nm.data.toList, i)]) lj m.step) mj.step = MI at hrun hon0 hon1 hblk hrg1
        clear xa xb pb pe
        go_wp2_with fail
        refine hblk.mono ?_
        rintro e w2 (⟨h1, rfl, vtw2, h2⟩ | ⟨h1, rfl, h2⟩)
        · have Tw2 := T1.step h2
          have vw2 := v1.step h2.kp h2.nw
          have f2 := hfs.on hon0 hrg1 h1
          clear hblk h2 T1 v1 hrg1
          try clear c0 c1 c2 c3 c4 c5 c6 c7 c8 c9 c10 c11
          have HZ := Lib.hid (And.intro Tw2 (And.intro vw2 f2))
          obtain ⟨c0, c1, c2, c3, c4, c5, c6, c7, c8, c9, c10, c11⟩ := hX.cells _ Tw2.kp
          obtain ⟨xa, xb, pb, pe⟩ := hX.read _ Tw2.kp
          have hlab := labels_any (.cons 7 nm.data.toList ea eb body els .nil) _ _ 1 1 _ (Nat.le_refl _) (one_pr 38 Tw2.own.base xa xb pb pe hd) (Nat.le_refl _) (by decide) (by rw [size_one]; have := HQ.out; omega)
          have hlo := Tw2.own.base
          unfold stcells xcells at hlab
          rw [labels_one] at hlab
          have hlb := St.lab1_le 7 (St.labels body) (St.labels els)
          have hlb1 := St.labels_le body
          have hlb2 := St.labels_le els
          have hlz : lj + (1 + St.labels body + St.labels els) ≤ 576460752303423488 := by have := HQ.out; omega
          have HL := Lib.hid (And.intro hlb (And.intro hlb1 (And.intro hlb2 hlz)))
          clear Tw2 vw2 f2 xa xb pb pe hlb hlb1 hlb2 hlz hX
          try go_wp2_with fail
          refine hlab.mono ?_
          rintro e wl ⟨rfl, hbl⟩
          have hbl2 := below_next hbl (below_alloc (Below.refl _ _) _)
          have TE := ((HW.out.later hbA).step HZ.out.1).later hbl2
          have vE := HZ.out.2.1.later hbl2
          have HE := Lib.hid (And.intro TE vE)
          clear hlab hbl hbl2 TE vE hbA c0 c1 c2 c3 c4 c5 c6 c7 c8 c9 c10 c11
          go_wp2_with fail
          go_roundw
          case rel => exact ⟨k + 1, rest, _, lj + St.lab1 7 (St.labels body) (St.labels els), _, _, by omega, by go_num, by rw [i64_add _ _ (by have := HL.out; omega)], by rw [show n - (k + 1) = n - k - 1 by omega]; exact HQ.out.2.2.2.2.2, HE.out.1, HE.out.2, HZ.out.2.2, hrun, by have := HQ.out; omega, by have := HQ.out; first | omega | (simp only [List.length_append, List.length_singleton]; omega), by have := HQ.out; have := HL.out; omega⟩
          case measure => simp [intOf]; omega
        · have hk2 : Keeps (RuT g m vt) w w2 := ((HW.out.later hbA).step T1).kp.step h2 (fun i hi ht => (((HW.out.later hbA).step T1).nw i ht).resolve_right (by omega))
          have hlt' : F < R.steps := by have := hon1.steps; omega
          clear hblk h2 T1 v1 hX hbA
          try clear c0 c1 c2 c3 c4 c5 c6 c7 c8 c9 c10 c11
          go_wp2
          exact ⟨rfl, .inr ⟨hlt', rfl, hk2⟩⟩
      · have K := And.intro k1 (And.intro k2 (And.intro k3 (And.intro k4 (And.intro k5 (And.intro k6 k7)))))
        have hK : kd ≠ 1 ∧ kd ≠ 2 ∧ kd ≠ 3 ∧ ¬ (kd = 4 ∨ kd = 5) ∧ kd ≠ 6 ∧ kd ≠ 7 := by simp at k1 k2 k3 k4 k5 k6 k7; omega
        have hl0 : St.lab1 kd (St.labels body) (St.labels els) = 0 := by unfold St.lab1; rw [if_neg (by omega), if_neg (by omega), if_neg hK.2.2.2.2.1]
        have hrun : Sr.run rest (Ex.bs zj) (lj + St.lab1 kd (St.labels body) (St.labels els)) mj = R := by
          have h := HRN.out
          rw [Sr.run, if_neg hK.1, if_neg hK.2.1, if_neg hK.2.2.1, if_neg hK.2.2.2.1, if_neg hK.2.2.2.2.1, if_neg hK.2.2.2.2.2] at h
          rw [hl0]
          exact h
        have HKK := Lib.hid (And.intro hK hl0)
        have hsz : (wr.alloc (.cells #[.int .i64 kd, .string nm, .int .i64 ak, .int .i64 an, .string sa, .slice aA al ac, .int .i64 bk, .int .i64 bn, .string sb, .slice bA bl bc, .slice D dl dc, .slice E el ec] 38)).heap.size = wr.heap.size + 1 := by simp
        clear K hK hl0
        go_wp2_with fail
        generalize (wr.alloc (.cells #[.int .i64 kd, .string nm, .int .i64 ak, .int .i64 an, .string sa, .slice aA al ac, .int .i64 bk, .int .i64 bn, .string sb, .slice bA bl bc, .slice D dl dc, .slice E el ec] 38)) = W0 at hbA hX T0 v0 hsz ⊢
        rw [← hsz, ← hQQ.out]
        clear hsz
        clear c0 c1 c2 c3 c4 c5 c6 c7 c8 c9 c10 c11 k1 k2 k3 k4 k5 k6 k7
        have HZ := Lib.hid (And.intro T0 (And.intro v0 hfj))
        obtain ⟨c0, c1, c2, c3, c4, c5, c6, c7, c8, c9, c10, c11⟩ := hX.cells _ T0.kp
        obtain ⟨xa, xb, pb, pe⟩ := hX.read _ T0.kp
        have hlab := labels_any (.cons kd nm.data.toList ea eb body els .nil) _ _ 1 1 _ (Nat.le_refl _) (one_pr 38 T0.own.base xa xb pb pe hd) (Nat.le_refl _) (by decide) (by rw [size_one]; have := HQ.out; omega)
        have hlo := T0.own.base
        unfold stcells xcells at hlab
        rw [labels_one] at hlab
        have hlb := St.lab1_le kd (St.labels body) (St.labels els)
        have hlb1 := St.labels_le body
        have hlb2 := St.labels_le els
        have hlz : lj + (1 + St.labels body + St.labels els) ≤ 576460752303423488 := by have := HQ.out; omega
        have HL := Lib.hid (And.intro hlb (And.intro hlb1 (And.intro hlb2 hlz)))
        clear T0 v0 hfj xa xb pb pe hlb hlb1 hlb2 hlz hX
        try go_wp2_with fail
        refine hlab.mono ?_
        rintro e wl ⟨rfl, hbl⟩
        have hbl2 := below_next hbl (below_alloc (Below.refl _ _) _)
        have TE := ((HW.out.later hbA).step HZ.out.1).later hbl2
        have vE := HZ.out.2.1.later hbl2
        have HE := Lib.hid (And.intro TE vE)
        clear hlab hbl hbl2 TE vE hbA c0 c1 c2 c3 c4 c5 c6 c7 c8 c9 c10 c11
        go_wp2_with fail
        go_roundw
        case rel => exact ⟨k + 1, rest, _, lj + St.lab1 kd (St.labels body) (St.labels els), _, _, by omega, by go_num, by rw [i64_add _ _ (by have := HL.out; omega)], by rw [show n - (k + 1) = n - k - 1 by omega]; exact HQ.out.2.2.2.2.2, HE.out.1, HE.out.2, HZ.out.2.2, hrun, by have := HQ.out; omega, by have := HQ.out; first | omega | (simp only [List.length_append, List.length_singleton]; omega), by have := HQ.out; have := HL.out; omega⟩
        case measure => simp [intOf]; omega
    · obtain rfl : k = n := by omega
      rw [Nat.sub_self] at hq
      have hq' := hq.zero
      subst hq'
      have HY := Lib.hid (And.intro hW (And.intro hfj hrun))
      clear hW hfj hrun hq hq0 hvj
      go_wp2_with fail
      go_end0
      have hm : mj = R := HY.out.2.2
      rw [← hm]
      exact .inl ⟨HY.out.2.1.st, rfl, vtj, HY.out.1⟩
theorem block_any (p : St.P) : BlockOK p := by
  suffices h : ∀ n, ∀ q : St.P, q.size ≤ n → BlockOK q from h _ p (Nat.le_refl _)
  intro n
  induction n with
  | zero => exact fun q hq => block_step q fun r hr => by omega
  | succ n ih => exact fun q hq => block_step q fun r hr => ih r (by omega)
end Go.Proofs.Ytgaafgjhkkjalaa
