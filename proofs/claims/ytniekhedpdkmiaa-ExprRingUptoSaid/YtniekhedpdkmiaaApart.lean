/-
  A region that draws its order, with a tail, in which memory is made: pointers made by different operations are apart. No program is named here.
-/
import Derived.Test.YtniekhedpdkmiaaSettle3
namespace Go.Proofs.Ytniekhedpdkmiaa
set_option linter.unusedVariables false
set_option linter.unusedSimpArgs false
open Go

section
variable {P : Program} {ops : Array Oper} {Q : Exit → Act → World → Prop} {S : World → Prop} {E : World → World → Prop}

def PtrOld (w : World) (v : Value) : Prop := ∀ a, v = .pointer (some a) → a.block < w.heap.size
def PtrNew (w : World) (v : Value) : Prop := ∀ a, v = .pointer (some a) → w.heap.size ≤ a.block
def PtrApart (u v : Value) : Prop := ∀ a b, u = .pointer (some a) → v = .pointer (some b) → a.block ≠ b.block
theorem PtrApart.symm {u v : Value} (h : PtrApart u v) : PtrApart v u := fun a b h1 h2 e => h b a h2 h1 e.symm
theorem ptr_apart {w : World} {u v : Value} (h1 : PtrNew w u) (h2 : PtrOld w v) : PtrApart u v := fun a b ha hb e => by
  have := h1 a ha
  have := h2 b hb
  omega
def AllApart (ρ : Env) (Fs : List (Tmp × Fact E)) : Prop := ∀ t F u G, (t, F) ∈ Fs → (u, G) ∈ Fs → t ≠ u → PtrApart (ρ t) (ρ u)

def Kind.relA : Kind E → World → Value → World → Prop
  | .fixed v => fun _ u _ => u = v
  | .fresh F => fun w v w' => F.holds v w' ∧ PtrNew w v

def SettleA (P : Program) (ops : Array Oper) (S : World → Prop) (E : World → World → Prop) (Z : (Env → Act) → List (Tmp × Fact E) → Prop) : List Oper → (Env → Act) → List (Tmp × Fact E) → Prop
  | [], A, Fs => Z A Fs
  | o :: rest, A, Fs =>
    (∃ v, (∀ ρ w, S w → FactsOK (o.looksAt ops) ρ w Fs → StepTo P ops S E o (A ρ) w (fun u _ => u = v)) ∧ SettleA P ops S E Z rest (fun ρ => (A ρ).put o.dst v) Fs) ∨
    (∃ d F, o.dst = some d ∧ (∀ v w, F.holds v w → PtrOld w v) ∧ (∀ ρ w, S w → FactsOK (o.looksAt ops) ρ w Fs → StepTo P ops S E o (A ρ) w (fun v w' => F.holds v w' ∧ PtrNew w v)) ∧ SettleA P ops S E Z rest (fun ρ => (A ρ).put (some d) (ρ d)) ((d, F) :: Fs))

structure PlanA (P : Program) (ops : Array Oper) (S : World → Prop) (a : Act) (l : List (Oper × Kind E)) : Prop where
  dst : ∀ p ∈ l, (∃ F, p.2 = .fresh F) → ∃ d, p.1.dst = some d
  old : ∀ p ∈ l, ∀ F, p.2 = .fresh F → ∀ v w, F.holds v w → PtrOld w v
  step : ∀ pre p post, l = pre ++ p :: post → ∀ ρ w, S w → FactsOK (p.1.looksAt ops) ρ w (factsOf pre) → StepTo P ops S E p.1 (actOf a ρ pre) w (p.2.relA w)

theorem planA_snoc {a : Act} {l : List (Oper × Kind E)} (h : PlanA P ops S a l) {p : Oper × Kind E} (h1 : (∃ F, p.2 = .fresh F) → ∃ d, p.1.dst = some d) (h0 : ∀ F, p.2 = .fresh F → ∀ v w, F.holds v w → PtrOld w v)
    (h2 : ∀ ρ w, S w → FactsOK (p.1.looksAt ops) ρ w (factsOf l) → StepTo P ops S E p.1 (actOf a ρ l) w (p.2.relA w)) : PlanA P ops S a (l ++ [p]) := by
  refine ⟨fun q hq hf => ?_, fun q hq F hf => ?_, fun pre q post he => ?_⟩
  · rcases List.mem_append.1 hq with hq | hq
    · exact h.dst q hq hf
    · rw [List.mem_singleton.1 hq] at hf ⊢
      exact h1 hf
  · rcases List.mem_append.1 hq with hq | hq
    · exact h.old q hq F hf
    · rw [List.mem_singleton.1 hq] at hf
      exact h0 F hf
  · rcases List.eq_nil_or_concat post with rfl | ⟨post', q', rfl⟩
    · have := List.append_inj' he rfl
      obtain ⟨e1, e2⟩ := this
      injection e2 with e2
      subst e1 e2
      exact h2
    · have e : pre ++ q :: (post' ++ [q']) = (pre ++ q :: post') ++ [q'] := by simp
      rw [List.concat_eq_append, e] at he
      exact h.step pre q post' (List.append_inj' he rfl).1

theorem settleA_plan {Z : (Env → Act) → List (Tmp × Fact E) → Prop} {a : Act} : ∀ (l : List Oper) (pre : List (Oper × Kind E)), PlanA P ops S a pre → SettleA P ops S E Z l (fun ρ => actOf a ρ pre) (factsOf pre) →
    ∃ full : List (Oper × Kind E), PlanA P ops S a full ∧ full.map (·.1) = pre.map (·.1) ++ l ∧ Z (fun ρ => actOf a ρ full) (factsOf full) := by
  intro l
  induction l with
  | nil => exact fun pre hp h => ⟨pre, hp, by simp, h⟩
  | cons o rest ih =>
    intro pre hp h
    rcases h with ⟨v, h1, h2⟩ | ⟨d, F, hd, h0, h1, h2⟩
    · obtain ⟨full, q1, q2, q3⟩ := ih (pre ++ [(o, .fixed v)]) (planA_snoc (p := (o, .fixed v)) hp (fun ⟨F, h⟩ => by cases h) (fun F h => by cases h) h1) (by
        have e1 : (fun ρ => actOf a ρ (pre ++ [(o, (Kind.fixed v : Kind E))])) = fun ρ => (actOf a ρ pre).put o.dst v := by
          funext ρ; simp [actOf, Kind.val]
        have e2 : factsOf (pre ++ [(o, (Kind.fixed v : Kind E))]) = factsOf pre := by simp [factsOf, addFact]
        rw [e1, e2]
        exact h2)
      exact ⟨full, q1, by rw [q2]; simp, q3⟩
    · obtain ⟨full, q1, q2, q3⟩ := ih (pre ++ [(o, .fresh F)]) (planA_snoc (p := (o, .fresh F)) hp (fun _ => ⟨d, hd⟩) (fun G h => by injection h with h; subst h; exact h0) h1) (by
        have e1 : (fun ρ => actOf a ρ (pre ++ [(o, (Kind.fresh F : Kind E))])) = fun ρ => (actOf a ρ pre).put (some d) (ρ d) := by
          funext ρ; simp [actOf, Kind.val, hd]
        have e2 : factsOf (pre ++ [(o, (Kind.fresh F : Kind E))]) = (d, F) :: factsOf pre := by simp [factsOf, addFact, hd]
        rw [e1, e2]
        exact h2)
      exact ⟨full, q1, by rw [q2]; simp, q3⟩

theorem any_order_apart {a0 : Act} {full : List (Oper × Kind E)} {n : Nat} (hn : n < ops.size) (hops : full.map (·.1) = ops.toList.take n) (hlin : LinearN ops n) (hsk : Region.sinkB .any ops n = true) (hch : Region.chainB .any ops n = true)
    (hsq : ∀ listed : Array Bool, listed.size = ops.size → (∀ i, i < n → listed.getD i false = true) → (∀ i, n ≤ i → listed.getD i false = false) → Region.seqB .any ops (ops.size - n) n listed = true) (hp : PlanA P ops S a0 full)
    (hZ : ∀ ρ w, S w → (∀ t F, (t, F) ∈ factsOf full → F.holds (ρ t) w) → AllApart ρ (factsOf full) → wpList P ops Q (ops.toList.drop n) (actOf a0 ρ full) w) :
    ∀ (fuel : Nat) (listed : Array Bool) (a : Act) (w : World) (ρ : Env), HeadInv .any ops n listed →
      (∃ todo : List Nat, todo.length ≤ fuel ∧ ∀ i, i < n → listed.getD i false = false → i ∈ todo) →
      Holds a0 full (fun i => listed.getD i false = true) ρ a → S w → (∀ (i : Nat) (p : Oper × Kind E) (F : Fact E) (d : Tmp), listed.getD i false = true → full[i]? = some p → p.2 = .fresh F → p.1.dst = some d → F.holds (ρ d) w) → (∀ (i j : Nat) (p q : Oper × Kind E) (F G : Fact E) (d e : Tmp), i ≠ j → listed.getD i false = true → listed.getD j false = true → full[i]? = some p → full[j]? = some q → p.2 = .fresh F → q.2 = .fresh G → p.1.dst = some d → q.1.dst = some e → PtrApart (ρ d) (ρ e)) →
      wpAny P .any ops Q (fuel + (ops.size - n)) listed a w := by
  have hget : ∀ (i : Nat) (p : Oper × Kind E), full[i]? = some p → ops[i]? = some p.1 := fun i p h => by
    have : (full.map (·.1))[i]? = some p.1 := by simp [h]
    rw [hops, List.getElem?_take] at this
    split at this
    · simpa using this
    · cases this
  have hlen : full.length = n := by
    have := congrArg List.length hops
    simp only [List.length_map, List.length_take, Array.length_toList] at this
    omega
  have hget' : ∀ (i : Nat) (o : Oper), i < n → ops[i]? = some o → ∃ p : Oper × Kind E, full[i]? = some p ∧ p.1 = o := fun i o hin h => by
    have hi : i < full.length := by rw [hlen]; exact hin
    have h1 := hget i _ (List.getElem?_eq_getElem hi)
    rw [h] at h1
    injection h1 with h1
    exact ⟨_, List.getElem?_eq_getElem hi, h1.symm⟩
  have hdist : ∀ (i j : Nat) (p q : Oper × Kind E) (d : Tmp), i < j → full[i]? = some p → full[j]? = some q → p.1.dst = some d → q.1.dst ≠ some d := fun i j p q d hij h1 h2 => hlin.dist i j _ _ d hij (by have := (List.getElem?_eq_some_iff.1 h2).1; omega) (hget i p h1) (hget j q h2)
  have hdist2 : ∀ (i j : Nat) (p q : Oper × Kind E) (d : Tmp), i ≠ j → full[i]? = some p → full[j]? = some q → p.1.dst = some d → q.1.dst ≠ some d := fun i j p q d hij h1 h2 hd hd' => by
    rcases Nat.lt_or_gt_of_ne hij with h | h
    · exact hdist i j p q d h h1 h2 hd hd'
    · exact hdist j i q p d h h2 h1 hd' hd
  -- all have come up
  have fin : ∀ (fuel : Nat) (listed : Array Bool) (a : Act) (w : World) (ρ : Env), HeadInv .any ops n listed → (∀ i, i < n → listed.getD i false = true) → Holds a0 full (fun i => listed.getD i false = true) ρ a → S w →
      (∀ (i : Nat) (p : Oper × Kind E) (F : Fact E) (d : Tmp), listed.getD i false = true → full[i]? = some p → p.2 = .fresh F → p.1.dst = some d → F.holds (ρ d) w) → (∀ (i j : Nat) (p q : Oper × Kind E) (F G : Fact E) (d e : Tmp), i ≠ j → listed.getD i false = true → listed.getD j false = true → full[i]? = some p → full[j]? = some q → p.2 = .fresh F → q.2 = .fresh G → p.1.dst = some d → q.1.dst = some e → PtrApart (ρ d) (ρ e)) → wpAny P .any ops Q (fuel + (ops.size - n)) listed a w := fun fuel listed a w ρ inv hall hH hS hF hA => by
    have h1 : Holds a0 full (fun i => i < full.length) ρ (actOf a0 ρ full) := by
      have := holds_prefix a0 full ρ hdist full.length (Nat.le_refl _)
      rwa [List.take_length] at this
    have h2 : Holds a0 full (fun i => i < full.length) ρ a :=
      ⟨hH.defers, hH.size, fun t ht => hH.far t fun i p hi hp => ht i p (List.getElem?_eq_some_iff.1 hp).1 hp, fun i p t hi => hH.near i p t (hall i (by omega))⟩
    rw [h2.unique h1]
    have hz := hZ ρ w hS (fun t F hm => by
      rcases mem_facts hm with h | ⟨i, p, h1, h2, h3⟩
      · cases h
      · exact hF i p F t (hall i (by have := (List.getElem?_eq_some_iff.1 h1).1; omega)) h1 h2 h3) (fun t F u G hm hm' hne => by
      rcases mem_facts hm with h | ⟨i, p, h1, h2, h3⟩
      · cases h
      rcases mem_facts hm' with h | ⟨j, q, k1, k2, k3⟩
      · cases h
      refine hA i j p q F G t u (fun e => ?_) (hall i (by have := (List.getElem?_eq_some_iff.1 h1).1; omega)) (hall j (by have := (List.getElem?_eq_some_iff.1 k1).1; omega)) h1 k1 h2 k2 h3 k3
      subst e
      rw [h1] at k1
      injection k1 with k1
      subst k1
      rw [h3] at k3
      injection k3 with k3
      exact hne k3)
    have hdl : (ops.toList.drop n).length = ops.size - n := by simp
    have hs := hsq listed inv.size hall (fun i hi => by
      rcases Nat.lt_or_ge i ops.size with h | h
      · exact getD_both (inv.tail i hi h)
      · simp [Array.getD, inv.size, Nat.not_lt.2 h])
    have := wpAny_seq_more fuel (ops.toList.drop n) n listed (actOf a0 ρ full) w (fun j => by simp [List.getElem?_drop]) (by rw [hdl]; exact hs) hz
    rwa [hdl, Nat.add_comm] at this
  have none_left : ∀ listed : Array Bool, HeadInv .any ops n listed → Region.ready .any ops listed = [] → ∀ m i, i < m → i < n → listed.getD i false = true := by
    intro listed inv hr m
    induction m with
    | zero => intro i h; omega
    | succ m ih =>
      intro i hi hin
      cases hli : listed.getD i false with
      | true => rfl
      | false =>
        have hlt : i < ops.size := by omega
        have ho : ops[i]? = some ops[i] := Array.getElem?_eq_getElem hlt
        have hmem : i ∈ Region.ready .any ops listed := by
          rw [mem_ready]
          refine ⟨?_, _, ho, fun e he hb => ?_⟩
          · simp only [Array.getD, inv.size, hlt, dif_pos] at hli ⊢
            exact hli
          · have := hlin.back i _ hin ho e he hb
            exact ih e.on (by omega) (by omega)
        rw [hr] at hmem
        cases hmem
  have some_left : ∀ listed : Array Bool, (∀ i, i < n → listed.getD i false = true) ∨ ∃ i, i < n ∧ listed.getD i false = false := fun listed => by
    by_cases h : ∃ i, i < n ∧ listed.getD i false = false
    · exact .inr h
    · exact .inl fun i hi => by
        cases hl : listed.getD i false with
        | true => rfl
        | false => exact (h ⟨i, hi, hl⟩).elim
  intro fuel
  induction fuel with
  | zero =>
    intro listed a w ρ inv ⟨todo, htodo, hin⟩ hH hS hF hA
    have hall : ∀ i, i < n → listed.getD i false = true := fun i hi => by
      cases hli : listed.getD i false with
      | true => rfl
      | false =>
        have := hin i hi hli
        rw [List.eq_nil_of_length_eq_zero (Nat.le_zero.1 htodo)] at this
        cases this
    exact fin 0 listed a w ρ inv hall hH hS hF hA
  | succ fuel ih =>
    intro listed a w ρ inv ⟨todo, htodo, hin⟩ hH hS hF hA
    rcases some_left listed with hall | ⟨i0, hi0, hl0⟩
    · exact fin (fuel + 1) listed a w ρ inv hall hH hS hF hA
    have hsz := inv.size
    rw [show fuel + 1 + (ops.size - n) = (fuel + (ops.size - n)) + 1 by omega]
    refine ⟨fun hr => ?_, fun i hi => ?_⟩
    · have := none_left listed inv hr (i0 + 1) i0 (by omega) hi0
      rw [hl0] at this
      cases this
    have hilt : i < n := by
      rcases Nat.lt_or_ge i n with h | h
      · exact h
      · exact absurd hi (tail_waits hsk hch hn inv _ i0 rfl hi0 (getD_in (by omega) hl0) i h)
    obtain ⟨h0, o, ho, hall⟩ := mem_ready.1 hi
    have hlt := (Array.getElem?_eq_some_iff.1 ho).1
    have h0' : listed.getD i false = false := by
      simp only [Array.getD, hsz, hlt, dif_pos] at h0 ⊢
      exact h0
    obtain ⟨p, hpi, rfl⟩ := hget' i o hilt ho
    have hil : i < full.length := by omega
    have hpre : Holds a0 full (fun j => j < i) ρ (actOf a0 ρ (full.take i)) := holds_prefix a0 full ρ hdist i (by omega)
    have hsplit : full = full.take i ++ p :: full.drop (i + 1) := by
      have : full[i] = p := by have := List.getElem?_eq_getElem hil; rw [hpi] at this; injection this with this; exact this.symm
      rw [← this, List.getElem_cons_drop, List.take_append_drop]
    have hstep := hp.step _ p _ hsplit ρ w hS
    have conf : ∀ (j : Nat) (q : Oper × Kind E), full[j]? = some q → ∀ t, q.1.dst = some t → t ∈ p.1.looksAt ops → (listed.getD j false = true ↔ j < i) := by
      intro j q hq t hd hl
      have hoj := hget j q hq
      have hjn : j < n := by have := (List.getElem?_eq_some_iff.1 hq).1; omega
      rcases Nat.lt_trichotomy j i with h | h | h
      · refine ⟨fun _ => h, fun _ => ?_⟩
        rcases hlin.wait j i _ _ h hilt hoj ho with hap | ⟨e, he, hb, hon⟩
        · exact absurd hl ((Oper.apart_spec hap).1 t hd)
        · rw [← hon]; exact hall e he hb
      · subst h
        rw [hpi] at hq
        injection hq with hq
        subst hq
        exact absurd hl (hlin.self j _ t hilt ho hd)
      · refine ⟨fun hj => ?_, fun h' => by omega⟩
        exfalso
        rcases hlin.wait i j _ _ h hjn ho hoj with hap | ⟨e, he, hb, hon⟩
        · exact absurd hl ((Oper.apart_spec hap).2.2 t hd)
        · have := inv.closed j _ hoj hj e he hb
          rw [hon, h0'] at this
          cases this
    have hfacts : FactsOK (p.1.looksAt ops) ρ w (factsOf (full.take i)) := factsOK_of _ fun t F hm hl => by
      rcases mem_facts hm with h | ⟨j, q, h1, h2, h3⟩
      · cases h
      · have hji : j < i := by
          have := (List.getElem?_eq_some_iff.1 h1).1
          rw [List.length_take] at this
          omega
        have hq : full[j]? = some q := by
          rw [List.getElem?_take, if_pos hji] at h1
          exact h1
        exact hF j q F t ((conf j q hq t h3 (by simpa using hl)).2 hji) hq h2 h3
    have hst := hstep hfacts
    have hag : ∀ t, t ∈ p.1.looksAt ops → a.tmps[t]? = (actOf a0 ρ (full.take i)).tmps[t]? := fun t ht =>
      hH.agree hpre t fun j q hq hd => conf j q hq t hd ht
    have hexec : execOp a.eval p.1 = execOp (actOf a0 ρ (full.take i)).eval p.1 := execOp_congr p.1 (fun cs b => hlin.sel i _ cs b ho) fun x hx => by
      cases x with
      | tmp t =>
        have := hag t (List.mem_append_left _ (List.mem_filterMap.2 ⟨.tmp t, by simpa using hx, rfl⟩))
        simp only [Act.eval, Array.getD_eq_getD_getElem?]
        rw [this]
      | _ => rfl
    have hwant : Region.wanted p.1 (yielded ops a.tmps) = Region.wanted p.1 (yielded ops (actOf a0 ρ (full.take i)).tmps) := by
      unfold Region.wanted
      cases hg : p.1.guard with
      | none => rfl
      | some gw =>
        obtain ⟨g, want⟩ := gw
        have : yielded ops a.tmps g = yielded ops (actOf a0 ρ (full.take i)).tmps g := by
          unfold yielded
          cases ht : (ops[g]?).bind (·.dst) with
          | none => rfl
          | some t =>
            have := hag t (List.mem_append_right _ (by simp [hg, ht]))
            simp only [Option.bind_some, this]
        simp only [this]
    have size_eq : (actOf a0 ρ (full.take i)).tmps.size = a.tmps.size := hpre.size.trans hH.size.symm
    -- the way on
    have go : ∀ v w', p.2.relA w v w' → S w' → (∀ (j : Nat) (q : Oper × Kind E) (F : Fact E) (d : Tmp), listed.getD j false = true → full[j]? = some q → q.2 = .fresh F → q.1.dst = some d → F.holds (ρ d) w') →
        wpAny P .any ops Q (fuel + (ops.size - n)) (listed.setIfInBounds i true) (a.put p.1.dst v) w' := by
      intro v w' hR hS' hF'
      have next : ∀ ρ' : Env, p.2.val ρ' p.1 = v → (∀ j q, j ≠ i → full[j]? = some q → q.2.val ρ' q.1 = q.2.val ρ q.1) → (∀ j q F d, j ≠ i → full[j]? = some q → q.2 = .fresh F → q.1.dst = some d → ρ' d = ρ d) → (∀ F d, p.2 = .fresh F → p.1.dst = some d → F.holds (ρ' d) w' ∧ PtrNew w (ρ' d)) →
          wpAny P .any ops Q (fuel + (ops.size - n)) (listed.setIfInBounds i true) (a.put p.1.dst v) w' := by
        intro ρ' hv hothers hd' hself
        have hset : ∀ j, (listed.setIfInBounds i true).getD j false = true ↔ j = i ∨ listed.getD j false = true := fun j => by
          by_cases hji : j = i
          · subst hji
            simp [Array.getD, hsz, hlt]
          · rw [getD_set_ne false (Ne.symm hji)]
            simp [hji]
        refine ih _ _ _ ρ' (inv.set hi hilt) ⟨todo.filter (· != i), ?_, fun j hj hjl => ?_⟩ ?_ hS' (fun j q F d hj hq hf hd => ?_) (fun j j' q q' F G d d' hne hj hj' hq hq' hf hg hd hd2 => ?_)
        · have : (todo.filter (· != i)).length < todo.length := by
            rw [List.length_filter_lt_length_iff_exists]
            exact ⟨i, hin i hilt h0', by simp⟩
          omega
        · have hne : j ≠ i := fun e => by
            have := (hset j).2 (.inl e)
            rw [this] at hjl
            cases hjl
          refine List.mem_filter.2 ⟨hin j hj ?_, by simpa using hne⟩
          rwa [getD_set_ne false (Ne.symm hne)] at hjl
        · have := hH.put (ρ' := ρ') hpi hset (fun j q hj hq d hd => hdist2 j i q p d (fun e => by rw [e, h0'] at hj; cases hj) hq hpi hd) (fun j q hj hq => hothers j q (fun e => by rw [e, h0'] at hj; cases hj) hq)
          rwa [hv] at this
        · rcases (hset j).1 hj with rfl | hj
          · rw [hpi] at hq
            injection hq with hq
            subst hq
            exact (hself F d hf hd).1
          · have hne : j ≠ i := fun e => by rw [e, h0'] at hj; cases hj
            rw [hd' j q F d hne hq hf hd]
            exact hF' j q F d hj hq hf hd
        · have old : ∀ (j : Nat) (q : Oper × Kind E) (F : Fact E) (d : Tmp), listed.getD j false = true → full[j]? = some q → q.2 = .fresh F → q.1.dst = some d → PtrOld w (ρ' d) := fun j q F d hj hq hf hd => by
            have hne : j ≠ i := fun e => by rw [e, h0'] at hj; cases hj
            rw [hd' j q F d hne hq hf hd]
            exact hp.old q (List.mem_of_getElem? hq) F hf _ _ (hF j q F d hj hq hf hd)
          rcases (hset j).1 hj with hji | hk1
          · rcases (hset j').1 hj' with h | hk2
            · exact absurd (hji.trans h.symm) hne
            · rw [hji, hpi] at hq
              injection hq with hq
              subst hq
              exact ptr_apart (hself F d hf hd).2 (old j' q' G d' hk2 hq' hg hd2)
          · rcases (hset j').1 hj' with hji | hk2
            · rw [hji, hpi] at hq'
              injection hq' with hq'
              subst hq'
              exact (ptr_apart (hself G d' hg hd2).2 (old j q F d hk1 hq hf hd)).symm
            · have hn1 : j ≠ i := fun e => by rw [e, h0'] at hk1; cases hk1
              have hn2 : j' ≠ i := fun e => by rw [e, h0'] at hk2; cases hk2
              rw [hd' j q F d hn1 hq hf hd, hd' j' q' G d' hn2 hq' hg hd2]
              exact hA j j' q q' F G d d' hne hk1 hk2 hq hq' hf hg hd hd2
      cases hk : p.2 with
      | fixed v0 =>
        have hv : v = v0 := by rw [hk] at hR; exact hR
        exact next ρ (by rw [hk]; exact hv.symm) (fun _ _ _ _ => rfl) (fun _ _ _ _ _ _ _ _ => rfl) (fun F d hf => by rw [hk] at hf; cases hf)
      | fresh F =>
        obtain ⟨d, hd⟩ := hp.dst p (by rw [hsplit]; simp) ⟨F, hk⟩
        have hR' : F.holds v w' ∧ PtrNew w v := by rw [hk] at hR; exact hR
        have hne : ∀ j q d', j ≠ i → full[j]? = some q → q.1.dst = some d' → d' ≠ d := fun j q d' hji hq hd' e => hdist2 j i q p d' hji hq hpi hd' (by rw [hd, e])
        refine next (fun t => if t = d then v else ρ t) (by rw [hk]; simp [Kind.val, hd]) (fun j q hji hq => ?_) (fun j q F' d' hji hq _ hd' => if_neg (hne j q d' hji hq hd')) (fun F' d' hf hd' => ?_)
        · cases hkq : q.2 with
          | fixed v0 => rfl
          | fresh F' =>
            obtain ⟨d', hd'⟩ := hp.dst q (List.mem_of_getElem? hq) ⟨F', hkq⟩
            simp only [Kind.val, hd']
            exact if_neg (hne j q d' hji hq hd')
        · rw [hk] at hf
          injection hf with hf
          rw [hd] at hd'
          injection hd' with hd'
          subst hf hd'
          simpa using hR'
    unfold wpOp
    simp only [ho]
    unfold StepTo at hst
    rw [← hwant] at hst
    split
    · rename_i hw
      rw [if_pos hw] at hst
      refine .inl (wp_carry (R := fun v w' => p.2.relA w v w' ∧ S w' ∧ E w w') hexec size_eq (hst _ fun v w' h1 h2 h3 => ⟨v, rfl, h1, h2, h3⟩) fun v w' ⟨h1, h2, h3⟩ => go v w' h1 h2 fun j q F d hj hq hf hd => F.keep _ _ _ (hF j q F d hj hq hf hd) h3)
    · rename_i hw
      rw [if_neg hw] at hst
      exact go undef w hst hS hF


structure WalkA (P : Program) (ops : Array Oper) (S : World → Prop) (E : World → World → Prop) (Z : (Env → Act) → List (Tmp × Fact E) → Prop) (l : List Oper) (A : Env → Act) (Fs : List (Tmp × Fact E)) : Prop where
  out : SettleA P ops S E Z l A Fs

/-- THE RULE, with a tail -/
theorem wp_walk_apart {id : Nat} {a : Act} {w : World} {l : List Oper} (n : Nat) (hm : P.follows .mixedOrders = true) (hB : tailB l.toArray n = true) (E : World → World → Prop) (S : World → Prop) (hS : S w.drew)
    (h : WalkA P l.toArray S E (fun A Fs => ∀ ρ w', S w' → (∀ t F, (t, F) ∈ Fs → F.holds (ρ t) w') → AllApart ρ Fs → wpList P l.toArray Q (l.drop n) (A ρ) w') (l.take n) (fun _ => a) []) : (Code.region id l.toArray true).wp P Q a w := by
  simp only [tailB, Bool.and_eq_true, decide_eq_true_eq] at hB
  obtain ⟨⟨⟨⟨hn, hlin⟩, hs⟩, hc⟩, hq⟩ := hB
  obtain ⟨full, hp, he, hZ⟩ := settleA_plan (l.take n) [] ⟨(fun _ h => by cases h), (fun _ h => by cases h), (fun pre p post he => by simp at he)⟩ h.out
  have inv0 : HeadInv .any l.toArray n (Array.replicate l.toArray.size false) :=
    ⟨by simp, fun j oj _ hl => (by rw [getD_replicate_false] at hl; cases hl), fun t _ ht => getD_in (by simpa using ht) (getD_replicate_false _ _)⟩
  have := any_order_apart (P := P) (Q := Q) hn (by simpa using he) (linearN_of hlin) hs hc (fun listed hsz h1 h2 => by
    have hn' := hn
    rw [show listed = (Array.replicate n true) ++ (Array.replicate (l.toArray.size - n) false) from getD_ext (by simp only [Array.size_append, Array.size_replicate]; omega) fun i => by
      rw [Array.getD_eq_getD_getElem? (xs := _ ++ _), Array.getElem?_append]
      rcases Nat.lt_or_ge i n with h | h
      · rw [h1 i h]
        simp [h]
      · rw [h2 i h]
        simp only [Array.size_replicate, Nat.not_lt.2 h, if_false, Array.getElem?_replicate]
        split <;> rfl]
    exact hq) hp hZ n _ a w.drew (fun _ => undef) inv0 ⟨List.range n, by simp, fun i hi _ => List.mem_range.2 hi⟩ ⟨rfl, rfl, fun _ _ => rfl, fun i p t hi => ?_⟩ hS (fun i p F d hi => ?_) (fun i j p q F G d e hne hi => ?_)
  · refine wp_region_any hm ?_
    rwa [show n + (l.toArray.size - n) = l.toArray.size by omega] at this
  · exfalso; rw [getD_replicate_false] at hi; cases hi
  · exfalso; rw [getD_replicate_false] at hi; cases hi
  · exfalso; rw [getD_replicate_false] at hi; cases hi


variable {Z : (Env → Act) → List (Tmp × Fact E) → Prop} {o : Oper} {rest : List Oper} {A : Env → Act} {Fs : List (Tmp × Fact E)}
theorem asettle_nil (h : Z A Fs) : WalkA P ops S E Z [] A Fs := ⟨h⟩
theorem asettle_run {v : Value} (hE : ∀ w, S w → E w w) (hw : ∀ ρ, Region.wanted o (yielded ops (A ρ).tmps) = true)
    (hr : ∀ ρ w, S w → FactsOK (o.looksAt ops) ρ w Fs → (execOp (A ρ).eval o).run P w = .ok (.value v) w) (h : WalkA P ops S E Z rest (fun ρ => (A ρ).put o.dst v) Fs) : WalkA P ops S E Z (o :: rest) A Fs :=
  ⟨.inl ⟨v, fun ρ w hS hF => by
    unfold StepTo
    rw [if_pos (hw ρ)]
    intro K hK
    unfold Oper.wp
    rw [hr ρ w hS hF]
    exact hK v w rfl hS (hE w hS), h.out⟩⟩
theorem asettle_step {v : Value} (hw : ∀ ρ, Region.wanted o (yielded ops (A ρ).tmps) = true)
    (hc : ∀ ρ w, S w → FactsOK (o.looksAt ops) ρ w Fs → ∀ K : Act → World → Prop, (∀ w', S w' → E w w' → K ((A ρ).put o.dst v) w') → o.wp P (A ρ) w K (fun _ _ _ => False)) (h : WalkA P ops S E Z rest (fun ρ => (A ρ).put o.dst v) Fs) : WalkA P ops S E Z (o :: rest) A Fs :=
  ⟨.inl ⟨v, fun ρ w hS hF => by
    unfold StepTo
    rw [if_pos (hw ρ)]
    exact fun K hK => hc ρ w hS hF K fun w' h1 h2 => hK v w' rfl h1 h2, h.out⟩⟩
theorem asettle_known {d : Tmp} (F : Fact E) (hd : o.dst = some d) (hw : ∀ ρ, Region.wanted o (yielded ops (A ρ).tmps) = true) (hold : ∀ v w, F.holds v w → PtrOld w v)
    (hc : ∀ ρ w, S w → FactsOK (o.looksAt ops) ρ w Fs → ∀ K : Act → World → Prop, (∀ v w', F.holds v w' → PtrNew w v → S w' → E w w' → K ((A ρ).put o.dst v) w') → o.wp P (A ρ) w K (fun _ _ _ => False)) (h : WalkA P ops S E Z rest (fun ρ => (A ρ).put (some d) (ρ d)) ((d, F) :: Fs)) : WalkA P ops S E Z (o :: rest) A Fs :=
  ⟨.inr ⟨d, F, hd, hold, fun ρ w hS hF => by
    unfold StepTo
    rw [if_pos (hw ρ)]
    exact fun K hK => hc ρ w hS hF K fun v w' h1 h2 h3 => hK v w' ⟨h1, h2⟩ h3, h.out⟩⟩
end
end Go.Proofs.Ytniekhedpdkmiaa
