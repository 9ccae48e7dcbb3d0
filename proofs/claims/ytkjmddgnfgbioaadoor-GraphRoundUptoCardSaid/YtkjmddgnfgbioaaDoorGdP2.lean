/-
  A region that draws its order and in which some operations (the marks) turn what was made in it: what is known of a value lasts till the next mark; every other operation is forced to one side of each mark, or (a float) looks at nothing that was made. No program is named here.
-/
import Derived.Test.YtkjmddgnfgbioaaDoorGdP1
import Derived.StillTail
import Derived.Laws.CopyOwn
import Derived.Lib.Hide

namespace Go.Proofs.YtkjmddgnfgbioaaDoor
set_option linter.unusedVariables false
set_option linter.unusedSimpArgs false
set_option maxRecDepth 100000
open Go Go.RowKit

section
variable {P : Program} {ops : Array Oper} {S : World → Prop} {E : World → World → Prop} {Z : (Env → Act) → List (Tmp × Fact E) → Prop} {o : Oper} {rest : List Oper} {A : Env → Act} {Fs : List (Tmp × Fact E)}

/-- the same, that nothing looks into -/
structure Walk (P : Program) (ops : Array Oper) (S : World → Prop) (E : World → World → Prop) (Z : (Env → Act) → List (Tmp × Fact E) → Prop) (l : List Oper) (A : Env → Act) (Fs : List (Tmp × Fact E)) : Prop where
  out : Settle P ops S E Z l A Fs

theorem settle_nil (h : Z A Fs) : Walk P ops S E Z [] A Fs := ⟨h⟩

theorem settle_skip (hw : ∀ ρ, Region.wanted o (yielded ops (A ρ).tmps) = false) (h : Walk P ops S E Z rest (fun ρ => (A ρ).put o.dst undef) Fs) : Walk P ops S E Z (o :: rest) A Fs :=
  ⟨.inl ⟨undef, fun ρ w _ _ => by unfold StepTo; rw [if_neg (by rw [hw]; simp)], h.out⟩⟩

theorem settle_run {v : Value} (hE : ∀ w, S w → E w w) (hw : ∀ ρ, Region.wanted o (yielded ops (A ρ).tmps) = true)
    (hr : ∀ ρ w, S w → FactsOK (o.looksAt ops) ρ w Fs → (execOp (A ρ).eval o).run P w = .ok (.value v) w) (h : Walk P ops S E Z rest (fun ρ => (A ρ).put o.dst v) Fs) : Walk P ops S E Z (o :: rest) A Fs :=
  ⟨.inl ⟨v, fun ρ w hS hF => by
    unfold StepTo
    rw [if_pos (hw ρ)]
    intro K hK
    unfold Oper.wp
    rw [hr ρ w hS hF]
    exact hK v w rfl hS (hE w hS), h.out⟩⟩

theorem settle_call {v : Value} {f : FuncId} {args : Env → Array Value} (hw : ∀ ρ, Region.wanted o (yielded ops (A ρ).tmps) = true)
    (hr : ∀ ρ w, (execOp (A ρ).eval o).run P w = .ok (.enter f (args ρ)) w)
    (hc : ∀ ρ w, S w → FactsOK (o.looksAt ops) ρ w Fs → Calls P f (args ρ) w fun e w' => e = .returned v ∧ S w' ∧ E w w') (h : Walk P ops S E Z rest (fun ρ => (A ρ).put o.dst v) Fs) : Walk P ops S E Z (o :: rest) A Fs :=
  ⟨.inl ⟨v, fun ρ w hS hF => by
    unfold StepTo
    rw [if_pos (hw ρ)]
    intro K hK
    unfold Oper.wp
    rw [hr ρ w]
    refine (hc ρ w hS hF).mono fun e w' ⟨h1, h2, h3⟩ => ?_
    subst h1
    exact hK v w' rfl h2 h3, h.out⟩⟩

/-- whatever gives the value -/
theorem settle_step {v : Value} (hw : ∀ ρ, Region.wanted o (yielded ops (A ρ).tmps) = true)
    (hc : ∀ ρ w, S w → FactsOK (o.looksAt ops) ρ w Fs → ∀ K : Act → World → Prop, (∀ w', S w' → E w w' → K ((A ρ).put o.dst v) w') → o.wp P (A ρ) w K (fun _ _ _ => False)) (h : Walk P ops S E Z rest (fun ρ => (A ρ).put o.dst v) Fs) : Walk P ops S E Z (o :: rest) A Fs :=
  ⟨.inl ⟨v, fun ρ w hS hF => by
    unfold StepTo
    rw [if_pos (hw ρ)]
    exact fun K hK => hc ρ w hS hF K fun w' h1 h2 => hK v w' rfl h1 h2, h.out⟩⟩
/-- whatever gives a value of which a fact is known -/
theorem settle_known {d : Tmp} (F : Fact E) (hd : o.dst = some d) (hw : ∀ ρ, Region.wanted o (yielded ops (A ρ).tmps) = true)
    (hc : ∀ ρ w, S w → FactsOK (o.looksAt ops) ρ w Fs → ∀ K : Act → World → Prop, (∀ v w', F.holds v w' → S w' → E w w' → K ((A ρ).put o.dst v) w') → o.wp P (A ρ) w K (fun _ _ _ => False)) (h : Walk P ops S E Z rest (fun ρ => (A ρ).put (some d) (ρ d)) ((d, F) :: Fs)) : Walk P ops S E Z (o :: rest) A Fs :=
  ⟨.inr ⟨d, F, hd, fun ρ w hS hF => by
    unfold StepTo
    rw [if_pos (hw ρ)]
    exact fun K hK => hc ρ w hS hF K hK, h.out⟩⟩

/-- a call of whose result a fact is known -/
theorem settle_fresh {f : FuncId} {args : Env → Array Value} {d : Tmp} (F : Fact E) (hd : o.dst = some d) (hw : ∀ ρ, Region.wanted o (yielded ops (A ρ).tmps) = true)
    (hr : ∀ ρ w, (execOp (A ρ).eval o).run P w = .ok (.enter f (args ρ)) w)
    (hc : ∀ ρ w, S w → FactsOK (o.looksAt ops) ρ w Fs → Calls P f (args ρ) w fun e w' => ∃ v, e = .returned v ∧ F.holds v w' ∧ S w' ∧ E w w') (h : Walk P ops S E Z rest (fun ρ => (A ρ).put (some d) (ρ d)) ((d, F) :: Fs)) : Walk P ops S E Z (o :: rest) A Fs :=
  ⟨.inr ⟨d, F, hd, fun ρ w hS hF => by
    unfold StepTo
    rw [if_pos (hw ρ)]
    intro K hK
    unfold Oper.wp
    rw [hr ρ w]
    refine (hc ρ w hS hF).mono fun e w' ⟨v, h0, h1, h2, h3⟩ => ?_
    subst h0
    exact hK v w' h1 h2 h3, h.out⟩⟩

/-- an operation that gives a value of which a fact is known, and leaves the world -/
theorem settle_value {d : Tmp} (F : Fact E) (hE : ∀ w, S w → E w w) (hd : o.dst = some d) (hw : ∀ ρ, Region.wanted o (yielded ops (A ρ).tmps) = true)
    (hr : ∀ ρ w, S w → FactsOK (o.looksAt ops) ρ w Fs → ∃ v, (execOp (A ρ).eval o).run P w = .ok (.value v) w ∧ F.holds v w) (h : Walk P ops S E Z rest (fun ρ => (A ρ).put (some d) (ρ d)) ((d, F) :: Fs)) : Walk P ops S E Z (o :: rest) A Fs :=
  ⟨.inr ⟨d, F, hd, fun ρ w hS hF => by
    unfold StepTo
    rw [if_pos (hw ρ)]
    intro K hK
    obtain ⟨v, h1, h2⟩ := hr ρ w hS hF
    unfold Oper.wp
    rw [h1]
    exact hK v w h2 hS (hE w hS), h.out⟩⟩

/-- a copy of such a value -/
theorem settle_copy {d t : Tmp} {F : Fact E} (hE : ∀ w, S w → E w w) (hd : o.dst = some d) (hg : o.guard = none) (ho : o.op = .move (.tmp t) ∨ o.op = .assign (.tmp t)) (ht : ∀ ρ, (A ρ).eval (.tmp t) = ρ t) (hF : (t, F) ∈ Fs)
    (h : Walk P ops S E Z rest (fun ρ => (A ρ).put (some d) (ρ d)) ((d, F) :: Fs)) : Walk P ops S E Z (o :: rest) A Fs := by
  refine settle_value F hE hd (fun ρ => by simp [Region.wanted, hg]) (fun ρ w hS hFs => ?_) h
  have key : ∀ (l : List (Tmp × Fact E)), FactsOK (o.looksAt ops) ρ w l → (t, F) ∈ l → F.holds (ρ t) w := by
    intro l
    induction l with
    | nil => exact fun _ h => by cases h
    | cons p r ih =>
      obtain ⟨t', F'⟩ := p
      intro ⟨h1, h2⟩ hm
      rcases List.mem_cons.1 hm with e | hm
      · injection e with e1 e2
        subst e1 e2
        refine h1 ?_
        rcases ho with ho | ho <;> simp [Oper.looksAt, ho, Op.operands]
      · exact ih h2 hm
  refine ⟨ρ t, ?_, key Fs hFs hF⟩
  rcases ho with ho | ho <;> simp [execOp, ho, ht]
/-- THE RULE, with that -/
theorem wp_walk {Q : Exit → Act → World → Prop} {id : Nat} {a : Act} {w : World} {l : List Oper} (hm : P.follows .mixedOrders = true) (hlin : linearB l.toArray = true) (E : World → World → Prop) (S : World → Prop) (hS : S w.drew)
    (h : Walk P l.toArray S E (fun A Fs => ∀ ρ w', S w' → (∀ t F, (t, F) ∈ Fs → F.holds (ρ t) w') → Q .normal (A ρ) w') l (fun _ => a) []) : (Code.region id l.toArray true).wp P Q a w :=
  wp_settle hm hlin E S hS h.out
end
end Go.Proofs.YtkjmddgnfgbioaaDoor


namespace Go.Proofs.YtkjmddgnfgbioaaDoor
set_option linter.unusedVariables false
set_option linter.unusedSimpArgs false
set_option maxRecDepth 100000
open Go

section
variable {P : Program} {ops : Array Oper} {Q : Exit → Act → World → Prop} {S : World → Prop} {E : World → World → Prop}

theorem wpAny_seq_more {md : Region.Mode} (x : Nat) : ∀ (l : List Oper) (k : Nat) (listed : Array Bool) (a : Act) (w : World), (∀ j, l[j]? = ops[k + j]?) →
    Region.seqB md ops l.length k listed = true → wpList P ops Q l a w → wpAny P md ops Q (l.length + x) listed a w
  | [], _, listed, _, _, _, hB, h => by
    have hr : Region.ready md ops listed = [] := by simpa [Region.seqB] using hB
    rcases x with _ | x
    · exact ⟨hr, h⟩
    · rw [show ([] : List Oper).length + (x + 1) = x + 1 by simp]
      exact ⟨fun _ => h, fun i hi => by rw [hr] at hi; cases hi⟩
  | o :: l, k, listed, a, w, hl, hB, h => by
    have h0 : ops[k]? = some o := by simpa using (hl 0).symm
    simp only [List.length_cons, Region.seqB, Bool.and_eq_true, decide_eq_true_eq] at hB
    rw [show (o :: l).length + x = (l.length + x) + 1 by simp only [List.length_cons]; omega]
    refine ⟨fun h1 => (by rw [hB.1] at h1; cases h1), fun i hi => ?_⟩
    rw [hB.1] at hi
    have hik : i = k := by simpa using hi
    subst hik
    have hw : wpOp P ops Q i (wpList P ops Q l) a w := by unfold wpOp; simp only [h0]; exact h
    exact wpOp_mono (fun a' w' h' => wpAny_seq_more x l (i + 1) _ a' w' (fun j => by have := hl (j + 1); simpa [Nat.add_assoc, Nat.add_comm 1 j] using this) hB.2 h') hw

/-- of the first n operations: the order of the text is one, and what is not apart waits -/
def linearNB (ops : Array Oper) (n : Nat) : Bool :=
  Region.noSelect ops && (List.range n).all fun j =>
    match ops[j]? with
    | none => true
    | some oj => oj.after.all (fun e => !Region.binds .any e || decide (e.on < j)) && !((oj.dst.map fun d => (oj.looksAt ops).contains d).getD false) && (List.range j).all fun i =>
      match ops[i]? with
      | none => true
      | some oi => (oi.apart ops oj || oj.after.any (fun e => Region.binds .any e && e.on == i)) && (match oi.dst with | some d => oj.dst != some d | none => true)

structure LinearN (ops : Array Oper) (n : Nat) : Prop where
  sel : ∀ (j : Nat) (o : Oper) cs b, ops[j]? = some o → o.op ≠ .select cs b
  back : ∀ (j : Nat) (o : Oper), j < n → ops[j]? = some o → ∀ e ∈ o.after, Region.binds .any e = true → e.on < j
  self : ∀ (j : Nat) (o : Oper) d, j < n → ops[j]? = some o → o.dst = some d → d ∉ o.looksAt ops
  wait : ∀ (i j : Nat) (oi oj : Oper), i < j → j < n → ops[i]? = some oi → ops[j]? = some oj → oi.apart ops oj = true ∨ ∃ e ∈ oj.after, Region.binds .any e = true ∧ e.on = i
  dist : ∀ (i j : Nat) (oi oj : Oper) d, i < j → j < n → ops[i]? = some oi → ops[j]? = some oj → oi.dst = some d → oj.dst ≠ some d

theorem linearN_of {n : Nat} (h : linearNB ops n = true) : LinearN ops n := by
  unfold linearNB at h
  rw [Bool.and_eq_true, List.all_eq_true] at h
  obtain ⟨h0, h⟩ := h
  have key : ∀ (j : Nat) (oj : Oper), j < n → ops[j]? = some oj → _ := fun j oj hjn hj => by
    have := h j (List.mem_range.2 hjn)
    rw [hj] at this
    simp only [Bool.and_eq_true] at this
    exact this
  refine ⟨Region.noSelect_spec h0, fun j o hjn ho e he hb => ?_, fun j o d hjn ho hd hmem => ?_, fun i j oi oj hij hjn hi hj => ?_, fun i j oi oj d hij hjn hi hj hd => ?_⟩
  · have := (key j o hjn ho).1.1
    rw [Array.all_eq_true_iff_forall_mem] at this
    have := this e he
    simpa [hb] using this
  · have := (key j o hjn ho).1.2
    rw [hd] at this
    simp [hmem] at this
  · have := (List.all_eq_true.1 (key j oj hjn hj).2) i (List.mem_range.2 hij)
    rw [hi] at this
    simp only [Bool.and_eq_true, Bool.or_eq_true] at this
    rcases this.1 with h | h
    · exact .inl h
    · obtain ⟨n, hn, hb⟩ := Array.any_eq_true.1 h
      simp only [Bool.and_eq_true, beq_iff_eq] at hb
      exact .inr ⟨_, Array.getElem_mem hn, hb.1, hb.2⟩
  · have := (List.all_eq_true.1 (key j oj hjn hj).2) i (List.mem_range.2 hij)
    rw [hi] at this
    simp only [Bool.and_eq_true] at this
    have h2 := this.2
    rw [hd] at h2
    simpa using h2

theorem getD_ext {x y : Array Bool} (hs : x.size = y.size) (h : ∀ i, x.getD i false = y.getD i false) : x = y := by
  apply Array.ext hs
  intro i h1 h2
  have := h i
  simpa [h1, h2] using this

theorem any_order_tail {a0 : Act} {full : List (Oper × Kind E)} {n : Nat} (hn : n < ops.size) (hops : full.map (·.1) = ops.toList.take n) (hlin : LinearN ops n) (hsk : Region.sinkB .any ops n = true) (hch : Region.chainB .any ops n = true)
    (hsq : ∀ listed : Array Bool, listed.size = ops.size → (∀ i, i < n → listed.getD i false = true) → (∀ i, n ≤ i → listed.getD i false = false) → Region.seqB .any ops (ops.size - n) n listed = true) (hp : Plan P ops S a0 full)
    (hZ : ∀ ρ w, S w → (∀ t F, (t, F) ∈ factsOf full → F.holds (ρ t) w) → wpList P ops Q (ops.toList.drop n) (actOf a0 ρ full) w) :
    ∀ (fuel : Nat) (listed : Array Bool) (a : Act) (w : World) (ρ : Env), HeadInv .any ops n listed →
      (∃ todo : List Nat, todo.length ≤ fuel ∧ ∀ i, i < n → listed.getD i false = false → i ∈ todo) →
      Holds a0 full (fun i => listed.getD i false = true) ρ a → S w → (∀ (i : Nat) (p : Oper × Kind E) (F : Fact E) (d : Tmp), listed.getD i false = true → full[i]? = some p → p.2 = .fresh F → p.1.dst = some d → F.holds (ρ d) w) →
      wpAny P .any ops Q (fuel + (ops.size - n)) listed a w := by
  have hget : ∀ (i : Nat) (p : Oper × Kind E), full[i]? = some p → ops[i]? = some p.1 := fun i p h => by
    have : (full.map (·.1))[i]? = some p.1 := by simp [h]
    rw [hops, List.getElem?_take] at this
    split at this
    · simpa using this
    · cases this
  have hlen : full.length = n := by
    have := congrArg List.length hops
    simp only [List.length_map, List.length_take, Array.length_toList] at this
    omega
  have hget' : ∀ (i : Nat) (o : Oper), i < n → ops[i]? = some o → ∃ p : Oper × Kind E, full[i]? = some p ∧ p.1 = o := fun i o hin h => by
    have hi : i < full.length := by rw [hlen]; exact hin
    have h1 := hget i _ (List.getElem?_eq_getElem hi)
    rw [h] at h1
    injection h1 with h1
    exact ⟨_, List.getElem?_eq_getElem hi, h1.symm⟩
  have hdist : ∀ (i j : Nat) (p q : Oper × Kind E) (d : Tmp), i < j → full[i]? = some p → full[j]? = some q → p.1.dst = some d → q.1.dst ≠ some d := fun i j p q d hij h1 h2 => hlin.dist i j _ _ d hij (by have := (List.getElem?_eq_some_iff.1 h2).1; omega) (hget i p h1) (hget j q h2)
  have hdist2 : ∀ (i j : Nat) (p q : Oper × Kind E) (d : Tmp), i ≠ j → full[i]? = some p → full[j]? = some q → p.1.dst = some d → q.1.dst ≠ some d := fun i j p q d hij h1 h2 hd hd' => by
    rcases Nat.lt_or_gt_of_ne hij with h | h
    · exact hdist i j p q d h h1 h2 hd hd'
    · exact hdist j i q p d h h2 h1 hd' hd
  -- all have come up
  have fin : ∀ (fuel : Nat) (listed : Array Bool) (a : Act) (w : World) (ρ : Env), HeadInv .any ops n listed → (∀ i, i < n → listed.getD i false = true) → Holds a0 full (fun i => listed.getD i false = true) ρ a → S w →
      (∀ (i : Nat) (p : Oper × Kind E) (F : Fact E) (d : Tmp), listed.getD i false = true → full[i]? = some p → p.2 = .fresh F → p.1.dst = some d → F.holds (ρ d) w) → wpAny P .any ops Q (fuel + (ops.size - n)) listed a w := fun fuel listed a w ρ inv hall hH hS hF => by
    have h1 : Holds a0 full (fun i => i < full.length) ρ (actOf a0 ρ full) := by
      have := holds_prefix a0 full ρ hdist full.length (Nat.le_refl _)
      rwa [List.take_length] at this
    have h2 : Holds a0 full (fun i => i < full.length) ρ a :=
      ⟨hH.defers, hH.size, fun t ht => hH.far t fun i p hi hp => ht i p (List.getElem?_eq_some_iff.1 hp).1 hp, fun i p t hi => hH.near i p t (hall i (by omega))⟩
    rw [h2.unique h1]
    have hz := hZ ρ w hS fun t F hm => by
      rcases mem_facts hm with h | ⟨i, p, h1, h2, h3⟩
      · cases h
      · exact hF i p F t (hall i (by have := (List.getElem?_eq_some_iff.1 h1).1; omega)) h1 h2 h3
    have hdl : (ops.toList.drop n).length = ops.size - n := by simp
    have hs := hsq listed inv.size hall (fun i hi => by
      rcases Nat.lt_or_ge i ops.size with h | h
      · exact getD_both (inv.tail i hi h)
      · simp [Array.getD, inv.size, Nat.not_lt.2 h])
    have := wpAny_seq_more fuel (ops.toList.drop n) n listed (actOf a0 ρ full) w (fun j => by simp [List.getElem?_drop]) (by rw [hdl]; exact hs) hz
    rwa [hdl, Nat.add_comm] at this
  have none_left : ∀ listed : Array Bool, HeadInv .any ops n listed → Region.ready .any ops listed = [] → ∀ m i, i < m → i < n → listed.getD i false = true := by
    intro listed inv hr m
    induction m with
    | zero => intro i h; omega
    | succ m ih =>
      intro i hi hin
      cases hli : listed.getD i false with
      | true => rfl
      | false =>
        have hlt : i < ops.size := by omega
        have ho : ops[i]? = some ops[i] := Array.getElem?_eq_getElem hlt
        have hmem : i ∈ Region.ready .any ops listed := by
          rw [mem_ready]
          refine ⟨?_, _, ho, fun e he hb => ?_⟩
          · simp only [Array.getD, inv.size, hlt, dif_pos] at hli ⊢
            exact hli
          · have := hlin.back i _ hin ho e he hb
            exact ih e.on (by omega) (by omega)
        rw [hr] at hmem
        cases hmem
  have some_left : ∀ listed : Array Bool, (∀ i, i < n → listed.getD i false = true) ∨ ∃ i, i < n ∧ listed.getD i false = false := fun listed => by
    by_cases h : ∃ i, i < n ∧ listed.getD i false = false
    · exact .inr h
    · exact .inl fun i hi => by
        cases hl : listed.getD i false with
        | true => rfl
        | false => exact (h ⟨i, hi, hl⟩).elim
  intro fuel
  induction fuel with
  | zero =>
    intro listed a w ρ inv ⟨todo, htodo, hin⟩ hH hS hF
    have hall : ∀ i, i < n → listed.getD i false = true := fun i hi => by
      cases hli : listed.getD i false with
      | true => rfl
      | false =>
        have := hin i hi hli
        rw [List.eq_nil_of_length_eq_zero (Nat.le_zero.1 htodo)] at this
        cases this
    exact fin 0 listed a w ρ inv hall hH hS hF
  | succ fuel ih =>
    intro listed a w ρ inv ⟨todo, htodo, hin⟩ hH hS hF
    rcases some_left listed with hall | ⟨i0, hi0, hl0⟩
    · exact fin (fuel + 1) listed a w ρ inv hall hH hS hF
    have hsz := inv.size
    rw [show fuel + 1 + (ops.size - n) = (fuel + (ops.size - n)) + 1 by omega]
    refine ⟨fun hr => ?_, fun i hi => ?_⟩
    · have := none_left listed inv hr (i0 + 1) i0 (by omega) hi0
      rw [hl0] at this
      cases this
    have hilt : i < n := by
      rcases Nat.lt_or_ge i n with h | h
      · exact h
      · exact absurd hi (tail_waits hsk hch hn inv _ i0 rfl hi0 (getD_in (by omega) hl0) i h)
    obtain ⟨h0, o, ho, hall⟩ := mem_ready.1 hi
    have hlt := (Array.getElem?_eq_some_iff.1 ho).1
    have h0' : listed.getD i false = false := by
      simp only [Array.getD, hsz, hlt, dif_pos] at h0 ⊢
      exact h0
    obtain ⟨p, hpi, rfl⟩ := hget' i o hilt ho
    have hil : i < full.length := by omega
    have hpre : Holds a0 full (fun j => j < i) ρ (actOf a0 ρ (full.take i)) := holds_prefix a0 full ρ hdist i (by omega)
    have hsplit : full = full.take i ++ p :: full.drop (i + 1) := by
      have : full[i] = p := by have := List.getElem?_eq_getElem hil; rw [hpi] at this; injection this with this; exact this.symm
      rw [← this, List.getElem_cons_drop, List.take_append_drop]
    have hstep := hp.step _ p _ hsplit ρ w hS
    have conf : ∀ (j : Nat) (q : Oper × Kind E), full[j]? = some q → ∀ t, q.1.dst = some t → t ∈ p.1.looksAt ops → (listed.getD j false = true ↔ j < i) := by
      intro j q hq t hd hl
      have hoj := hget j q hq
      have hjn : j < n := by have := (List.getElem?_eq_some_iff.1 hq).1; omega
      rcases Nat.lt_trichotomy j i with h | h | h
      · refine ⟨fun _ => h, fun _ => ?_⟩
        rcases hlin.wait j i _ _ h hilt hoj ho with hap | ⟨e, he, hb, hon⟩
        · exact absurd hl ((Oper.apart_spec hap).1 t hd)
        · rw [← hon]; exact hall e he hb
      · subst h
        rw [hpi] at hq
        injection hq with hq
        subst hq
        exact absurd hl (hlin.self j _ t hilt ho hd)
      · refine ⟨fun hj => ?_, fun h' => by omega⟩
        exfalso
        rcases hlin.wait i j _ _ h hjn ho hoj with hap | ⟨e, he, hb, hon⟩
        · exact absurd hl ((Oper.apart_spec hap).2.2 t hd)
        · have := inv.closed j _ hoj hj e he hb
          rw [hon, h0'] at this
          cases this
    have hfacts : FactsOK (p.1.looksAt ops) ρ w (factsOf (full.take i)) := factsOK_of _ fun t F hm hl => by
      rcases mem_facts hm with h | ⟨j, q, h1, h2, h3⟩
      · cases h
      · have hji : j < i := by
          have := (List.getElem?_eq_some_iff.1 h1).1
          rw [List.length_take] at this
          omega
        have hq : full[j]? = some q := by
          rw [List.getElem?_take, if_pos hji] at h1
          exact h1
        exact hF j q F t ((conf j q hq t h3 (by simpa using hl)).2 hji) hq h2 h3
    have hst := hstep hfacts
    have hag : ∀ t, t ∈ p.1.looksAt ops → a.tmps[t]? = (actOf a0 ρ (full.take i)).tmps[t]? := fun t ht =>
      hH.agree hpre t fun j q hq hd => conf j q hq t hd ht
    have hexec : execOp a.eval p.1 = execOp (actOf a0 ρ (full.take i)).eval p.1 := execOp_congr p.1 (fun cs b => hlin.sel i _ cs b ho) fun x hx => by
      cases x with
      | tmp t =>
        have := hag t (List.mem_append_left _ (List.mem_filterMap.2 ⟨.tmp t, by simpa using hx, rfl⟩))
        simp only [Act.eval, Array.getD_eq_getD_getElem?]
        rw [this]
      | _ => rfl
    have hwant : Region.wanted p.1 (yielded ops a.tmps) = Region.wanted p.1 (yielded ops (actOf a0 ρ (full.take i)).tmps) := by
      unfold Region.wanted
      cases hg : p.1.guard with
      | none => rfl
      | some gw =>
        obtain ⟨g, want⟩ := gw
        have : yielded ops a.tmps g = yielded ops (actOf a0 ρ (full.take i)).tmps g := by
          unfold yielded
          cases ht : (ops[g]?).bind (·.dst) with
          | none => rfl
          | some t =>
            have := hag t (List.mem_append_right _ (by simp [hg, ht]))
            simp only [Option.bind_some, this]
        simp only [this]
    have size_eq : (actOf a0 ρ (full.take i)).tmps.size = a.tmps.size := hpre.size.trans hH.size.symm
    -- the way on
    have go : ∀ v w', p.2.rel v w' → S w' → (∀ (j : Nat) (q : Oper × Kind E) (F : Fact E) (d : Tmp), listed.getD j false = true → full[j]? = some q → q.2 = .fresh F → q.1.dst = some d → F.holds (ρ d) w') →
        wpAny P .any ops Q (fuel + (ops.size - n)) (listed.setIfInBounds i true) (a.put p.1.dst v) w' := by
      intro v w' hR hS' hF'
      have next : ∀ ρ' : Env, p.2.val ρ' p.1 = v → (∀ j q, j ≠ i → full[j]? = some q → q.2.val ρ' q.1 = q.2.val ρ q.1) → (∀ j q F d, j ≠ i → full[j]? = some q → q.2 = .fresh F → q.1.dst = some d → ρ' d = ρ d) → (∀ F d, p.2 = .fresh F → p.1.dst = some d → F.holds (ρ' d) w') →
          wpAny P .any ops Q (fuel + (ops.size - n)) (listed.setIfInBounds i true) (a.put p.1.dst v) w' := by
        intro ρ' hv hothers hd' hself
        have hset : ∀ j, (listed.setIfInBounds i true).getD j false = true ↔ j = i ∨ listed.getD j false = true := fun j => by
          by_cases hji : j = i
          · subst hji
            simp [Array.getD, hsz, hlt]
          · rw [getD_set_ne false (Ne.symm hji)]
            simp [hji]
        refine ih _ _ _ ρ' (inv.set hi hilt) ⟨todo.filter (· != i), ?_, fun j hj hjl => ?_⟩ ?_ hS' (fun j q F d hj hq hf hd => ?_)
        · have : (todo.filter (· != i)).length < todo.length := by
            rw [List.length_filter_lt_length_iff_exists]
            exact ⟨i, hin i hilt h0', by simp⟩
          omega
        · have hne : j ≠ i := fun e => by
            have := (hset j).2 (.inl e)
            rw [this] at hjl
            cases hjl
          refine List.mem_filter.2 ⟨hin j hj ?_, by simpa using hne⟩
          rwa [getD_set_ne false (Ne.symm hne)] at hjl
        · have := hH.put (ρ' := ρ') hpi hset (fun j q hj hq d hd => hdist2 j i q p d (fun e => by rw [e, h0'] at hj; cases hj) hq hpi hd) (fun j q hj hq => hothers j q (fun e => by rw [e, h0'] at hj; cases hj) hq)
          rwa [hv] at this
        · rcases (hset j).1 hj with rfl | hj
          · rw [hpi] at hq
            injection hq with hq
            subst hq
            exact hself F d hf hd
          · have hne : j ≠ i := fun e => by rw [e, h0'] at hj; cases hj
            rw [hd' j q F d hne hq hf hd]
            exact hF' j q F d hj hq hf hd
      cases hk : p.2 with
      | fixed v0 =>
        have hv : v = v0 := by rw [hk] at hR; exact hR
        exact next ρ (by rw [hk]; exact hv.symm) (fun _ _ _ _ => rfl) (fun _ _ _ _ _ _ _ _ => rfl) (fun F d hf => by rw [hk] at hf; cases hf)
      | fresh F =>
        obtain ⟨d, hd⟩ := hp.dst p (by rw [hsplit]; simp) ⟨F, hk⟩
        have hR' : F.holds v w' := by rw [hk] at hR; exact hR
        have hne : ∀ j q d', j ≠ i → full[j]? = some q → q.1.dst = some d' → d' ≠ d := fun j q d' hji hq hd' e => hdist2 j i q p d' hji hq hpi hd' (by rw [hd, e])
        refine next (fun t => if t = d then v else ρ t) (by rw [hk]; simp [Kind.val, hd]) (fun j q hji hq => ?_) (fun j q F' d' hji hq _ hd' => if_neg (hne j q d' hji hq hd')) (fun F' d' hf hd' => ?_)
        · cases hkq : q.2 with
          | fixed v0 => rfl
          | fresh F' =>
            obtain ⟨d', hd'⟩ := hp.dst q (List.mem_of_getElem? hq) ⟨F', hkq⟩
            simp only [Kind.val, hd']
            exact if_neg (hne j q d' hji hq hd')
        · rw [hk] at hf
          injection hf with hf
          rw [hd] at hd'
          injection hd' with hd'
          subst hf hd'
          simpa using hR'
    unfold wpOp
    simp only [ho]
    unfold StepTo at hst
    rw [← hwant] at hst
    split
    · rename_i hw
      rw [if_pos hw] at hst
      refine .inl (wp_carry (R := fun v w' => p.2.rel v w' ∧ S w' ∧ E w w') hexec size_eq (hst _ fun v w' h1 h2 h3 => ⟨v, rfl, h1, h2, h3⟩) fun v w' ⟨h1, h2, h3⟩ => go v w' h1 h2 fun j q F d hj hq hf hd => F.keep _ _ _ (hF j q F d hj hq hf hd) h3)
    · rename_i hw
      rw [if_neg hw] at hst
      exact go undef w hst hS hF


/-- what is asked of the operations, n of them ahead of the tail -/
def tailB (ops : Array Oper) (n : Nat) : Bool :=
  decide (n < ops.size) && linearNB ops n && Region.sinkB .any ops n && Region.chainB .any ops n && Region.seqB .any ops (ops.size - n) n ((Array.replicate n true) ++ (Array.replicate (ops.size - n) false))

/-- THE RULE, with a tail -/
theorem wp_walk_tail {id : Nat} {a : Act} {w : World} {l : List Oper} (n : Nat) (hm : P.follows .mixedOrders = true) (hB : tailB l.toArray n = true) (E : World → World → Prop) (S : World → Prop) (hS : S w.drew)
    (h : Walk P l.toArray S E (fun A Fs => ∀ ρ w', S w' → (∀ t F, (t, F) ∈ Fs → F.holds (ρ t) w') → wpList P l.toArray Q (l.drop n) (A ρ) w') (l.take n) (fun _ => a) []) : (Code.region id l.toArray true).wp P Q a w := by
  simp only [tailB, Bool.and_eq_true, decide_eq_true_eq] at hB
  obtain ⟨⟨⟨⟨hn, hlin⟩, hs⟩, hc⟩, hq⟩ := hB
  obtain ⟨full, hp, he, hZ⟩ := settle_plan (l.take n) [] ⟨(fun _ h => by cases h), (fun pre p post he => by simp at he)⟩ h.out
  have inv0 : HeadInv .any l.toArray n (Array.replicate l.toArray.size false) :=
    ⟨by simp, fun j oj _ hl => (by rw [getD_replicate_false] at hl; cases hl), fun t _ ht => getD_in (by simpa using ht) (getD_replicate_false _ _)⟩
  have := any_order_tail (P := P) (Q := Q) hn (by simpa using he) (linearN_of hlin) hs hc (fun listed hsz h1 h2 => by
    have hn' := hn
    rw [show listed = (Array.replicate n true) ++ (Array.replicate (l.toArray.size - n) false) from getD_ext (by simp only [Array.size_append, Array.size_replicate]; omega) fun i => by
      rw [Array.getD_eq_getD_getElem? (xs := _ ++ _), Array.getElem?_append]
      rcases Nat.lt_or_ge i n with h | h
      · rw [h1 i h]
        simp [h]
      · rw [h2 i h]
        simp only [Array.size_replicate, Nat.not_lt.2 h, if_false, Array.getElem?_replicate]
        split <;> rfl]
    exact hq) hp hZ n _ a w.drew (fun _ => undef) inv0 ⟨List.range n, by simp, fun i hi _ => List.mem_range.2 hi⟩ ⟨rfl, rfl, fun _ _ => rfl, fun i p t hi => ?_⟩ hS fun i p F d hi => ?_
  · refine wp_region_any hm ?_
    rwa [show n + (l.toArray.size - n) = l.toArray.size by omega] at this
  · exfalso; rw [getD_replicate_false] at hi; cases hi
  · exfalso; rw [getD_replicate_false] at hi; cases hi

/-- all but the last one -/
theorem wp_walk_last {id : Nat} {a : Act} {w : World} {l : List Oper} (hm : P.follows .mixedOrders = true) (hB : tailB l.toArray (l.length - 1) = true) (E : World → World → Prop) (S : World → Prop) (hS : S w.drew)
    (h : Walk P l.toArray S E (fun A Fs => ∀ ρ w', S w' → (∀ t F, (t, F) ∈ Fs → F.holds (ρ t) w') → wpList P l.toArray Q (l.drop (l.length - 1)) (A ρ) w') (l.take (l.length - 1)) (fun _ => a) []) : (Code.region id l.toArray true).wp P Q a w :=
  wp_walk_tail (l.length - 1) hm hB E S hS h
end
end Go.Proofs.YtkjmddgnfgbioaaDoor


namespace Go.Proofs.YtkjmddgnfgbioaaDoor
set_option linter.unusedVariables false
set_option linter.unusedSimpArgs false
set_option maxRecDepth 100000
open Go.RowKit

namespace Bs
/-- with n -/
def put (s : List Nat) (n : Nat) : List Nat := (s ++ List.replicate (max s.length (n / 64 + 1) - s.length) 0).set (n / 64) (at_ s (n / 64) ||| 2 ^ (n % 64))
def add (s : List Nat) (n : Int) : List Nat := if n < 0 ∨ 65535 < n then s else put s n.toNat
theorem put_length (s : List Nat) (n : Nat) : (put s n).length = max s.length (n / 64 + 1) := by
  unfold put
  rw [List.length_set, List.length_append, List.length_replicate]
  omega
theorem at_pad (s : List Nat) (k i : Nat) : at_ (s ++ List.replicate k 0) i = at_ s i := by
  unfold at_
  rw [List.getD_eq_getElem?_getD, List.getD_eq_getElem?_getD, List.getElem?_append]
  split
  · rfl
  · rename_i h
    rw [List.getElem?_replicate, List.getElem?_eq_none (by omega)]
    split <;> rfl
theorem at_set (l : List Nat) (i x j : Nat) (hi : i < l.length) : at_ (l.set i x) j = if i = j then x else at_ l j := by
  unfold at_
  rw [List.getD_eq_getElem?_getD, List.getD_eq_getElem?_getD, List.getElem?_set]
  split
  · rename_i h; subst h; simp [hi]
  · rfl
theorem at_put (s : List Nat) (n j : Nat) : at_ (put s n) j = if n / 64 = j then at_ s j ||| 2 ^ (n % 64) else at_ s j := by
  unfold put
  rw [at_set _ _ _ _ (by rw [List.length_append, List.length_replicate]; omega), at_pad]
  split
  · rename_i h; rw [h]
  · rfl
end Bs

theorem add_no (w : World) (v : Value) (s : List Nat) (n : Int) (h : SlU w v s) (hn : n < 0 ∨ 65535 < n) :
    Calls Tryd.prog 64 #[v, .int .i64 n] w fun e w' => e = .returned v ∧ w' = w := by
  obtain ⟨A, c, rfl⟩ := slU_form h
  clear h
  by_cases h0 : n < 0
  · have h0' : decide (n < 0) = true := by simpa using h0
    clear hn h0
    go_enter Tryd.func64, Tryd.ntmps64
    go_wp2
    go_ret
    exact ⟨rfl, rfl⟩
  · have h0' : decide (n < 0) = false := by simpa using h0
    have h1' : decide (65535 < n) = true := by simp; omega
    clear hn h0
    go_enter Tryd.func64, Tryd.ntmps64
    go_wp2
    go_ret
    exact ⟨rfl, rfl⟩

theorem put_new (w : World) (v : Value) (s : List Nat) (n : Nat) (h : SlU w v s) (hn : n ≤ 65535) (hr : s.length ≤ 17592186044) :
    Calls Tryd.prog 64 #[v, .int .i64 (n : Int)] w fun e w' => ∃ u, e = .returned u ∧ (SlU w' u (Bs.put s n) ∧ New w.heap.size u) ∧ Below w.heap.size w w' := by
  obtain ⟨⟨A, c, rfl, hle, hm, hlen, hc⟩, hw⟩ := h
  clear hlen
  have h0' : decide ((n : Int) < 0) = false := by simp
  have h1' : decide ((65535 : Int) < (n : Int)) = false := by simp; omega
  obtain ⟨m, hm'⟩ : ∃ m, m = max s.length (n / 64 + 1) := ⟨_, rfl⟩
  have HM := Lib.hid hm'
  have hmb : m ≤ 17592187044 := by omega
  clear hm'
  obtain ⟨q, hq⟩ : ∃ q, q = w.heap.size := ⟨_, rfl⟩
  have HQ := Lib.hid hq
  have hpos : ∀ w1, Below w.heap.size w w1 → 0 < (nats s).length → (some (⟨q, 0, none⟩ : Addr)) = some ⟨q, 0, none⟩ ∧ ∃ ad, A = some ad ∧ ∀ j v, (nats s)[j]? = some v → w1.cell? (ad.add j) = some v := fun w1 hb h0 => by
    obtain ⟨b, o, hA, hb', hcc⟩ := hc.at_ (fun e => by rw [e] at h0; simp at h0)
    exact ⟨rfl, ⟨b, o, none⟩, hA, fun j u hu => by rw [Addr.add_lit]; exact (hb.cell (p := ⟨b, o + j, none⟩) hb').trans (hcc j u hu)⟩
  have hmin : (nats s).length = Nat.min s.length m := by rw [nats_length]; exact (Nat.min_eq_left (by have := HM.out; omega)).symm
  have hfit : 0 + (nats s).length ≤ (List.replicate (m * 1) (Value.int .u64 0)).length := by rw [nats_length, List.length_replicate]; have := HM.out; omega
  have hspl : splice (List.replicate (m * 1) (Value.int .u64 0)) 0 (nats s) = nats (s ++ List.replicate (m - s.length) 0) := by
    simp [splice, nats, HM.out]
  have HS := Lib.hid (And.intro hmin (And.intro hfit (And.intro hspl hpos)))
  clear hmin hfit hspl hpos hq
  go_enter Tryd.func64, Tryd.ntmps64
  go_wp2_with (first | (at_make; refine wp_make_blk _ _ _ _ (.int .u64 0) 1 8 m Tryd.underlying91 info_word rfl (by decide) (by have := HM.out; omega) (by have := HM.out; omega) (by omega) (by omega) rfl rfl rfl rfl ?_; intro w1 hB1 hb1 hz1; rw [← HQ.out] at hB1 hb1 ⊢) | (refine wpList_copy_splice rfl _ _ _ _ rfl 25 Tryd.underlying91 (by kernel_rfl) _ _ m m s.length c rfl rfl q 0 _ _ hB1 (nats s) HS.out.1 (HS.out.2.2.2 _ (by rw [← HQ.out]; exact hb1)) HS.out.2.1 (nats_one s) q w hb1 (Nat.le_refl _) ?_; intro w2 hg2 hb2))
  have hB2 : Blk w2 q 25 (nats (s ++ List.replicate (m - s.length) 0)) := by rw [← HS.out.2.2.1]; exact hg2.out
  clear hg2 hB1 hb1 hz1
  obtain ⟨i, hi⟩ : ∃ i, i = n / 64 := ⟨_, rfl⟩
  obtain ⟨r, hr'⟩ : ∃ r, r = n % 64 := ⟨_, rfl⟩
  have hml : i < m := by have := HM.out; omega
  have hx : (s ++ List.replicate (m - s.length) 0)[i]? = some (Bs.at_ s i) := by
    have hl : i < (s ++ List.replicate (m - s.length) 0).length := by rw [List.length_append, List.length_replicate]; omega
    have h2 := Bs.at_pad s (m - s.length) i
    unfold Bs.at_ at h2
    rw [List.getD_eq_getElem?_getD, List.getElem?_eq_getElem hl, Option.getD_some] at h2
    rw [List.getElem?_eq_getElem hl, h2]
    rfl
  have c0 := (hB2.cell i).trans (nats_get _ _ _ hx)
  have f0 := hB2.frozen i
  have hiN : IntKind.i64.wrap ((n : Int) / 64) = (i : Int) := by rw [wrap_is]; unfold wrap64; omega
  have hrN : (n : Int).tmod 64 = (r : Int) := by rw [Int.tmod_eq_emod_of_nonneg (by omega)]; omega
  have hr64 : r < 64 := by omega
  have hp64 : (2 : Nat) ^ r < 18446744073709551616 := Nat.pow_lt_pow_right (by decide) hr64
  obtain ⟨o, ho⟩ : ∃ o, o = Bs.at_ s i := ⟨_, rfl⟩
  have ho64 : o < 18446744073709551616 := by rw [ho]; exact hw.at_ i
  have hlen : (nats (s ++ List.replicate (m - s.length) 0)).length = m := by rw [nats_length, List.length_append, List.length_replicate]; have := HM.out; omega
  rw [← ho] at c0
  have HO := Lib.hid (And.intro ho (And.intro hi (And.intro hr' (And.intro hp64 (And.intro ho64 hlen)))))
  clear ho hx hi hr' hp64 ho64 hlen
  refine wp_walk_last (by kernel_rfl) (by kernel_rfl) (fun _ _ => True) (fun w' => (w'.cell? ⟨q, i, none⟩ = some (.int .u64 (o : Int)) ∧ ∃ k, w' = w2.drewN k)) ⟨c0, 1, rfl⟩ ?_
  simp only [List.length_cons, List.length_nil, Nat.reduceAdd, Nat.reduceSub, List.take_succ_cons, List.take_zero, List.drop_succ_cons, List.drop_zero]
  repeat (first | (refine settle_skip (fun _ => by rfl) ?_; (simp only [Act.put, List.setIfInBounds_toArray, List.set_cons_zero, List.set_cons_succ])) | (refine' settle_run (fun _ _ => trivial) (fun _ => by rfl) ?_ ?_; rotate_left; (focus (intro ρ w hS hF; (try dsimp only at hS); go_split_ands; go_simp; try with_reducible rfl)); (simp only [Act.put, List.setIfInBounds_toArray, List.set_cons_zero, List.set_cons_succ])))
  refine settle_nil ?_
  intro ρ w3 hS _
  obtain ⟨-, k, rfl⟩ := hS
  have hx : bits BinOp.or IntKind.u64 (o : Int) (IntKind.u64.wrap (2 ^ r)) = ((o ||| 2 ^ r : Nat) : Int) := by
    have h64 := HO.out.2.2.2.1
    rw [show IntKind.u64.wrap (2 ^ r) = ((2 ^ r : Nat) : Int) by
      rw [IntKind.wrap_u64, show ((2 : Int) ^ r) = ((2 ^ r : Nat) : Int) by simp]
      clear HO
      generalize (2 ^ r : Nat) = P at h64 ⊢
      omega]
    exact bits_or_u64_nat o (2 ^ r) HO.out.2.2.2.2.1 h64
  have hB3 := hB2.drewN k
  have hb3 := below_drewN hb2 k
  have hl := HO.out.2.2.2.2.2
  dsimp only
  rw [hx]
  clear hx c0 f0 hB2 hb2
  refine wpl_set_blk hB3 i (.int .u64 ((o ||| 2 ^ r : Nat) : Int)) (by kernel_rfl) (by rw [hl]; exact hml) rfl rfl rfl rfl rfl rfl ?_
  intro w4 hB4 hg4
  have hb4 : Below q w w4 := hb3.trans (below_of_grown hg4 (by have := hB3.lt; omega) (Nat.le_refl _))
  have hs : SlU w4 (.slice (some ⟨q, 0, none⟩) m m) (Bs.put s n) := by
    rw [nats_set] at hB4
    have e : (s ++ List.replicate (m - s.length) 0).set i (o ||| 2 ^ r) = Bs.put s n := by
      unfold Bs.put
      rw [← HM.out, ← HO.out.2.1, ← HO.out.2.2.1, ← HO.out.1]
    rw [e] at hB4
    have hlm : (Bs.put s n).length = m := by rw [Bs.put_length, HM.out]
    refine ⟨⟨some ⟨q, 0, none⟩, m, by rw [hlm], by omega, by unfold maxLen; omega, by rw [nats_length, Nat.mul_one], q, 0, fun _ => ⟨rfl, hB4.lt⟩, fun j u hu => by rw [Nat.zero_add, hB4.cell]; exact hu⟩, fun x hx => ?_⟩
    rw [← e] at hx
    rcases List.mem_or_eq_of_mem_set hx with hx | rfl
    · rcases List.mem_append.1 hx with hx | hx
      · exact hw x hx
      · rw [(List.mem_replicate.1 hx).2]
        decide
    · exact Nat.or_lt_two_pow (n := 64) HO.out.2.2.2.2.1 HO.out.2.2.2.1
  have HR := Lib.hid (And.intro hs hb4)
  clear hs hb4 hB4 hg4 hB3 hb3 hl
  go_wp2
  go_ret
  exact ⟨_, rfl, ⟨HR.out.1, fun p hp => by injection hp with hp; rw [← hp, HQ.out]; exact Nat.le_refl _⟩, by have := HR.out.2; rwa [HQ.out] at this⟩

theorem add_yes (w : World) (v : Value) (s : List Nat) (n : Nat) (h : SlU w v s) (hn : n ≤ 65535) (hr : s.length ≤ 17592186044) :
    Calls Tryd.prog 64 #[v, .int .i64 (n : Int)] w fun e w' => ∃ u, e = .returned u ∧ SlU w' u (Bs.put s n) ∧ Below w.heap.size w w' :=
  (put_new w v s n h hn hr).mono fun _ _ ⟨u, h1, h2, h3⟩ => ⟨u, h1, h2.1, h3⟩

theorem add_any (w : World) (v : Value) (s : List Nat) (n : Int) (h : SlU w v s) (hr : s.length ≤ 17592186044) :
    Calls Tryd.prog 64 #[v, .int .i64 n] w fun e w' => ∃ u, e = .returned u ∧ SlU w' u (Bs.add s n) ∧ Below w.heap.size w w' := by
  by_cases hn : n < 0 ∨ 65535 < n
  · refine (add_no w v s n h hn).mono ?_
    rintro e w' ⟨rfl, rfl⟩
    exact ⟨v, rfl, by unfold Bs.add; rw [if_pos hn]; exact h, Below.refl _ _⟩
  · obtain ⟨k, rfl⟩ := Int.eq_ofNat_of_zero_le (show 0 ≤ n by omega)
    unfold Bs.add
    rw [if_neg hn]
    exact add_yes w v s k h (by omega) hr
end Go.Proofs.YtkjmddgnfgbioaaDoor


namespace Go.Proofs.YtkjmddgnfgbioaaDoor
set_option linter.unusedVariables false
set_option linter.unusedSimpArgs false
set_option maxRecDepth 100000
open Go.RowKit

namespace Bs
def of_ (l : List Int) : List Nat := l.foldl add []
theorem of_snoc (l : List Int) (x : Int) : of_ (l ++ [x]) = add (of_ l) x := by unfold of_; rw [List.foldl_append]; rfl
theorem add_length (s : List Nat) (n : Int) : (add s n).length ≤ max s.length 1024 := by
  unfold add
  split
  · omega
  · rw [put_length]; omega
theorem of_length (l : List Int) : (of_ l).length ≤ 1024 := by
  have key : ∀ (l : List Int) (s : List Nat), s.length ≤ 1024 → (l.foldl add s).length ≤ 1024 := by
    intro l
    induction l with
    | nil => exact fun s h => h
    | cons x l ih => exact fun s h => ih _ (by have := add_length s x; omega)
  exact key l [] (by decide)
def size : List Nat → Nat
  | [] => 0
  | x :: r => Go.Lib.popAux 64 x + size r
theorem size_append (a b : List Nat) : size (a ++ b) = size a + size b := by
  induction a with
  | nil => simp [size]
  | cons x a ih => rw [List.cons_append, size, size, ih]; omega
theorem size_le (a : List Nat) : size a ≤ 64 * a.length := by
  induction a with
  | nil => simp [size]
  | cons x a ih =>
    have := pop_le 64 x
    rw [size, List.length_cons]; omega
end Bs
theorem SlU.nil (w : World) : SlU w (.slice none 0 0) [] := ⟨SlV.nil w 1, fun x h => by cases h⟩

theorem of_any (w : World) (v : Value) (l : List Int) (h : SlV w 1 v l.length (ints .i64 l)) :
    Calls Tryd.prog 21 #[v] w fun e w' => ∃ u, e = .returned u ∧ SlU w' u (Bs.of_ l) ∧ Below w.heap.size w w' := by
  obtain ⟨A, c, rfl, hle, hm, hlen, hc⟩ := h
  clear hlen
  unfold maxLen at hm
  go_enter Tryd.func21, Tryd.ntmps21
  go_wp2
  go_loopw [3, 8] (fun u i wr => ∃ k : Nat, k ≤ l.length ∧ i = .int .i64 k ∧ SlU wr u (Bs.of_ (l.take k)) ∧ Below w.heap.size w wr) (fun _ i _ => l.length - (intOf i).toNat)
  case atStart => exact ⟨0, Nat.zero_le _, rfl, SlU.nil _, Below.refl _ _⟩
  case round =>
    obtain ⟨k, hk, rfl, hu, hb⟩ := hrel
    by_cases hlt : k < l.length
    · obtain ⟨b, o, x, rfl, hbb, hx, hcc⟩ := hc.one hlt
      have hcw := (hb.cell (p := ⟨b, o + k, none⟩) hbb).trans hcc
      have HX := Lib.hid hx
      clear hc hcc hx
      go_wp2_with fail
      refine (add_any _ _ _ x hu (Nat.le_trans (Bs.of_length _) (by decide))).mono ?_
      rintro e w2 ⟨u2, rfl, hu2, hb2⟩
      obtain ⟨U, uc, rfl⟩ := slU_form hu2
      have HU := Lib.hid (And.intro hu2 (below_next hb2 hb))
      clear hu hu2 hb hb2 hcw
      go_wp2
      go_roundw
      case rel => exact ⟨k + 1, by omega, by go_num, by
        obtain ⟨h', hx'⟩ := List.getElem?_eq_some_iff.1 HX.out.out
        rw [List.take_succ_eq_append_getElem h', hx', Bs.of_snoc]
        exact HU.out.1, HU.out.2⟩
      case measure => simp [intOf]; omega
    · have HK := Lib.hid (show k = l.length by omega)
      obtain ⟨U, uc, rfl⟩ := slU_form hu
      have HU := Lib.hid (And.intro hu hb)
      clear hu hb hc
      go_wp2
      go_ret
      exact ⟨_, rfl, by have := HU.out.1; rw [HK.out, List.take_length] at this; rw [HK.out, List.take_length]; exact this, HU.out.2⟩
theorem equal_i64 (v v' : Value) (xs ys : List Int) (w : World) (h : SlV w 1 v xs.length (ints .i64 xs)) (h' : SlV w 1 v' ys.length (ints .i64 ys)) :
    Calls Tryd.prog 56 #[v, v'] w fun e w' => e = .returned (.bool (decide (xs = ys))) ∧ ∃ m, w' = w.drewN m := by
  obtain ⟨A, c, rfl, hle, hm, hlen, hc⟩ := h
  obtain ⟨A', c', rfl, hle', hm', hlen', hc'⟩ := h'
  clear hlen hlen'
  unfold maxLen at hm hm'
  by_cases hn : xs.length = ys.length
  · have hne : ((xs.length : Int) != ys.length) = false := by simp [hn]
    have HN := Lib.hid hn
    clear hn
    go_enter Tryd.func56, Tryd.ntmps56
    go_wp2
    go_loopw [13] (fun i wr => ∃ k : Nat, k ≤ xs.length ∧ i = .int .i64 k ∧ (∃ a, wr = w.drewN a) ∧ xs.take k = ys.take k) (fun i _ => xs.length - (intOf i).toNat)
    case atStart => exact ⟨0, Nat.zero_le _, rfl, ⟨0, rfl⟩, rfl⟩
    case round =>
      obtain ⟨k, hk, rfl, ⟨a, rfl⟩, ht⟩ := hrel
      have HT := Lib.hid ht
      clear ht
      by_cases hlt : k < xs.length
      · have hlt' : k < ys.length := by rw [← HN.out]; exact hlt
        obtain ⟨b, o, x, rfl, hb, hx, hcc⟩ := hc.one hlt
        obtain ⟨b', o', y, rfl, hb', hy, hcc'⟩ := hc'.one hlt'
        clear hc hc'
        have hsn : ∀ (z : Int) (l : List Int), l[k]? = some z → l.take (k + 1) = l.take k ++ [z] := fun z l h => by
          obtain ⟨h', rfl⟩ := List.getElem?_eq_some_iff.1 h
          exact List.take_succ_eq_append_getElem h'
        have HSN := Lib.hid hsn
        clear hsn
        rcases hg : x != y with _ | _
        · go_wp2
          go_quiet (fail)
          go_wp2
          go_roundw
          case rel => exact ⟨k + 1, by omega, by go_num, ⟨_, rfl⟩, by rw [HSN.out _ _ hx.out, HSN.out _ _ hy.out, HT.out, show x = y by simpa using hg]⟩
          case measure => simp [intOf]; omega
        · go_wp2
          go_quiet (fail)
          go_wp2
          go_ret
          refine ⟨ret_bool ?_, ⟨_, World.drewN_drewN _ _ _⟩⟩
          symm
          simp only [decide_eq_false_iff_not]
          rintro rfl
          rw [hx.out] at hy
          simp at hg
          exact hg (by simpa using hy.out)
      · have HK := Lib.hid (show k = xs.length by omega)
        clear hc hc'
        go_wp2
        go_ret
        refine ⟨ret_bool ?_, ⟨_, rfl⟩⟩
        symm
        simp only [decide_eq_true_eq]
        have := HT.out
        rw [HK.out, List.take_length, HN.out, List.take_length] at this
        exact this
  · have hne : ((xs.length : Int) != ys.length) = true := by simp; omega
    have hnl : xs ≠ ys := fun e => hn (by rw [e])
    have HNL := Lib.hid hnl
    clear hnl hc hc'
    go_enter Tryd.func56, Tryd.ntmps56
    go_wp2
    go_ret
    exact ⟨ret_bool (by simp [HNL.out]), ⟨0, rfl⟩⟩
end Go.Proofs.YtkjmddgnfgbioaaDoor


namespace Go.Proofs.YtkjmddgnfgbioaaDoor
set_option linter.unusedVariables false
set_option linter.unusedSimpArgs false
set_option maxRecDepth 100000
open Go.RowKit Go.Shelf

theorem ones_any (w : World) (x : Nat) (hx : x < 18446744073709551616) :
    Calls Tryd.prog 62 #[.int .u64 x] w fun e w' => e = .returned (.int .i64 (Go.Lib.popAux 64 x : Nat)) ∧ w = w' := by
  have H := Lib.hid hx
  clear hx
  go_enter Tryd.func62, Tryd.ntmps62
  go_wp2
  go_ret
  refine ⟨?_, rfl⟩
  have hx := H.out
  obtain ⟨m1, m2, m3⟩ := Bs.mask_is
  have hs := (Bs.side 8 x (by simpa using hx)).2
  rw [m1, m2, m3] at hs
  rw [Bs.k1 x hx, Bs.k2 _ (Bs.s1_lt _ x (by decide)), Bs.k3 _ (Bs.s2_lt _ _ (by decide)), hs]
  obtain ⟨hl, hb⟩ := Bs.last_sum x
  have e4 : IntKind.u64.wrap ((Bs.bytes 8 x : Nat) + ((Bs.bytes 8 x : Nat) : Int) / 256) = ((Bs.bytes 8 x + Bs.bytes 8 x / 256 : Nat) : Int) := by rw [IntKind.wrap_u64]; omega
  rw [e4]
  generalize Bs.bytes 8 x = b at hl hb ⊢
  obtain ⟨c, hc⟩ : ∃ c, c = b + b / 256 := ⟨_, rfl⟩
  have hcb : c ≤ 1157442765409226768 := by omega
  rw [← hc] at hl ⊢
  have e5 : IntKind.u64.wrap ((c : Int) + (c : Int) / 65536) = ((c + c / 65536 : Nat) : Int) := by rw [IntKind.wrap_u64]; omega
  rw [e5]
  obtain ⟨d, hd⟩ : ∃ d, d = c + c / 65536 := ⟨_, rfl⟩
  have hdb : d ≤ 1257442765409226768 := by omega
  rw [← hd] at hl ⊢
  have e6 : IntKind.u64.wrap ((d : Int) + (d : Int) / 4294967296) = ((d + d / 4294967296 : Nat) : Int) := by rw [IntKind.wrap_u64]; omega
  rw [e6, ← hl]
  refine ret_int ?_
  have h7 := Bs.k7 (d + d / 4294967296) (by clear hl hd e4 e5 e6 hc; omega)
  rw [wrap_is] at h7
  exact h7
end Go.Proofs.YtkjmddgnfgbioaaDoor


namespace Go.Proofs.YtkjmddgnfgbioaaDoor
set_option linter.unusedVariables false
set_option linter.unusedSimpArgs false
set_option maxRecDepth 100000
open Go.RowKit

theorem size_any (w : World) (v : Value) (xs : List Nat) (h : SlU w v xs) (hr : xs.length ≤ 17592186044) :
    Calls Tryd.prog 19 #[v] w fun e w' => e = .returned (.int .i64 (Bs.size xs : Nat)) ∧ w = w' := by
  obtain ⟨⟨A, c, rfl, hle, hm, hlen, hc⟩, hw⟩ := h
  clear hlen
  unfold maxLen at hm
  go_enter Tryd.func19, Tryd.ntmps19
  go_wp2
  go_loopw [3, 8] (fun u i wr => ∃ k : Nat, k ≤ xs.length ∧ i = .int .i64 k ∧ u = .int .i64 (Bs.size (xs.take k) : Nat) ∧ w = wr) (fun _ i _ => xs.length - (intOf i).toNat)
  case atStart => exact ⟨0, Nat.zero_le _, rfl, rfl, rfl⟩
  case round =>
    obtain ⟨k, hk, rfl, rfl, rfl⟩ := hrel
    have hsz := Bs.size_le (xs.take k)
    rw [List.length_take] at hsz
    by_cases hlt : k < xs.length
    · obtain ⟨x, hx⟩ : ∃ x, xs[k]? = some x := ⟨_, List.getElem?_eq_getElem hlt⟩
      obtain ⟨b, o, rfl, hbb, hcc⟩ := hc.nat hx
      have hxw := hw x (List.mem_of_getElem? hx)
      have hp := Bs.pop_le 64 x
      have HX := Lib.hid hx
      obtain ⟨z, hz⟩ : ∃ z, z = Bs.size (xs.take k) := ⟨_, rfl⟩
      rw [← hz] at hsz ⊢
      have HZ := Lib.hid hz
      clear hc hx hz
      go_wp2_with fail
      refine (ones_any _ x hxw).mono ?_
      rintro e w2 ⟨rfl, rfl⟩
      go_wp2
      go_roundw
      case rel => exact ⟨k + 1, by omega, by go_num, by
        obtain ⟨h', hx'⟩ := List.getElem?_eq_some_iff.1 HX.out
        rw [List.take_succ_eq_append_getElem h', hx', Bs.size_append, ← HZ.out]
        simp [Bs.size], by first | rfl | trivial⟩
      case measure => simp [intOf]; omega
    · have HK := Lib.hid (show k = xs.length by omega)
      clear hc
      go_wp2
      go_ret
      exact ⟨by rw [HK.out, List.take_length]; rfl, rfl⟩
end Go.Proofs.YtkjmddgnfgbioaaDoor


namespace Go.Proofs.YtkjmddgnfgbioaaDoor
set_option linter.unusedVariables false
set_option linter.unusedSimpArgs false
set_option maxRecDepth 100000
open Go.RowKit Go.Shelf

attribute [local go_sem] Oper.semAt_some

/-- the least of a set, or -1 -/
def Gr.least (l : List Nat) : Int := match l with | [] => -1 | n :: _ => (n : Int)
set_option maxHeartbeats 2000000 in
theorem first_any (w : World) (v : Value) (xs : List Nat) (h : SlU w v xs) (hT : Tab w) (hr : xs.length ≤ 17592186044) :
    Calls Tryd.prog 120 #[v] w fun e w' => (∃ r, e = .returned (.int .i64 r) ∧ r = Gr.least (Bs.ls 0 xs)) ∧ Below w.heap.size w w' := by
  obtain ⟨⟨A, c, rfl, hle, hm, hlen, hc⟩, hw⟩ := h
  clear hlen
  have hN := Bs.ls_length 0 xs hw
  have htl := hT.lt
  refine (callsIn_wide (n := 3)).1 ?_
  refine callsIn_of_wp_marks Tryd.func120 rfl trivial ?_ rfl
  simp only [Tryd.ntmps120, List.size_toArray, List.length_cons, List.length_nil, Nat.reduceAdd, Nat.reduceSub, Array.replicate_succ, Array.replicate_zero, List.push_toArray, List.append_toArray, List.nil_append, List.cons_append]
  gi_wp2_with fail
  refine ⟨trivial, (all_in _ _ _ _).mono ?_⟩
  rintro e w' ⟨rfl, rfl⟩
  have hbw : Below w.heap.size w ((w.alloc (.cells #[.int .i64 0] 3)).alloc (.cells #[.slice A xs.length c] 91)) := below_alloc (below_alloc (Below.refl _ _) _) _
  have p0 : Boxed ((w.alloc (.cells #[.int .i64 0] 3)).alloc (.cells #[.slice A xs.length c] 91)) w.heap.size 3 (.int .i64 0) := (Boxed.new w _ _).alloc _
  have p1 := Blk.new (w.alloc (.cells #[.int .i64 0] 3)) 91 [.slice A xs.length c]
  gi_wp2_with fail
  have hz : (w.alloc (.cells #[.int .i64 0] 3)).heap.size = w.heap.size + 1 := by simp
  rw [hz] at p1
  obtain ⟨p, hp⟩ : ∃ p, p = w.heap.size := ⟨_, rfl⟩
  rw [← hp] at p0 p1 ⊢
  have hsz : ((w.alloc (.cells #[.int .i64 0] 3)).alloc (.cells #[.slice A xs.length c] 91)).heap.size = p + 1 + 1 := by simp [hp]
  generalize ((w.alloc (.cells #[.int .i64 0] 3)).alloc (.cells #[.slice A xs.length c] 91)) = W0 at *
  have hcW : Cells W0 p A (nats xs) := by rw [hp]; exact hc.keep (Nat.le_refl _) (fun a ha => hbw.cell ha)
  have hTW : Tab W0 := fun j hj => (hbw.cell (p := ⟨0, j, none⟩) htl).trans (hT j hj)
  have hst := all_stops (p + 1) (p + 1 + 1) p c A xs hw (by omega) W0 (by omega) (by omega) ((p1.cell 0).trans rfl) hcW (by omega) hTW (by omega) (by omega)
  have y0 : W0.cell? ⟨p, 0, none⟩ = some (.int .i64 0) := p0.cell
  have yf : W0.frozen? ⟨p, 0, none⟩ = false := p0.frozen
  have HP := Lib.hid hp
  have hps : w.heap.size ≤ p := by omega
  clear hp hz hc hT p1 p0
  refine wpIn_rangeFunc_ownH rfl (by omega) (gf := 99) (lb := #[.pointer (some ⟨p + 1, 0, none⟩)]) rfl trivial (enters_of Tryd.func99 (by kernel_rfl) rfl)
    hst (fun h k => h.trans k) (kpP_b (by omega)) (Below.refl _ _) (fun _ => rfl)
    (fun pre W => (pre = [] ∧ W.cell? ⟨p, 0, none⟩ = some (.int .i64 0) ∧ W.frozen? ⟨p, 0, none⟩ = false) ∧ Below w.heap.size w W)
    (fun c pre W => (c = .ret ∧ ∃ x : Nat, pre = [x] ∧ W.cell? ⟨p, 0, none⟩ = some (.int .i64 (x : Int))) ∧ Below w.heap.size w W)
    (OwnFrom.and (Own.from (fun s A B row hs hg hr => ⟨hs.1, cell_kept hs.2.1 hg hr, (frozen_kept hs.2.1 hg hr).trans hs.2.2⟩) _) (ownFrom_below (Nat.le_refl _) (by have := hbw.size; omega)))
    (fun c => OwnFrom.and (Own.from (fun s A B row hs hg hr => by obtain ⟨hc, x, e1, e2⟩ := hs; exact ⟨hc, x, e1, cell_kept e2 hg hr⟩) _) (ownFrom_below (Nat.le_refl _) (by have := hbw.size; omega)))
    ⟨⟨rfl, y0, yf⟩, hbw⟩
    (fun x a' W => a' = { tmps := #[.slice A xs.length c, undef, .pointer (some ⟨p, 0, none⟩), .int .i64 (x : Int), .slice A xs.length c, .func (.func 99) #[] #[.pointer (some ⟨p + 1, 0, none⟩)], .int .i64 (x : Int), undef], defers := [] })
    (fun x a' _ X Y row hs hg hr => hs)
    ?assign ?body ?done ?stop
  case assign =>
    rintro l pre x W K hI hK
    gi_wp2
    exact hK _ _ (KeepsFrom.refl _ _) (KpP.refl _ _ _) hI rfl
  case body =>
    rintro l pre x a' W hl ⟨r, hr⟩ ⟨⟨rfl, i2, i3⟩, i5⟩ rfl hlt
    gi_wp2
    exact ⟨(KeepsOthers.setCell _ _ _).from _, ⟨rfl, x, rfl, World.cell?_setCell_same' _ _ _ (by rw [i2]; rfl)⟩, i5.setCell (p := ⟨p, 0, none⟩) hps _⟩
  case done =>
    rintro D ys W hD rfl ⟨⟨e0, i2, i3⟩, i5⟩ hK
    gi_wp2
    have hK' := (KeepsOthers.setCell W ⟨p, 0, none⟩ (.int .i64 (-1))).same D _ hK rfl
    refine ⟨by simp, .inl ⟨_, _, rfl, run_takeDeferred hK', ?_⟩⟩
    have hc5 := cell_kept (World.cell?_setCell_same' W ⟨p, 0, none⟩ (.int .i64 (-1)) (by rw [i2]; rfl)) (grownBy_putObj' _ D (.deferred none)) (fun r e => by cases e; exact ⟨_, hK', rfl⟩)
    refine ⟨.int .i64 (-1), by simp [results, Tryd.results120, go_sem, hc5], ⟨-1, rfl, by rw [e0]; rfl⟩, (i5.setCell (p := ⟨p, 0, none⟩) hps _).trans (belowK_b (w := w) (Nat.le_refl _) _ D _ _ (by omega) hK' rfl rfl)⟩
  case stop =>
    rintro D c pre W hD ⟨t, ht⟩ ⟨⟨rfl, x, e1, e4⟩, i5⟩ hK
    gi_wp2
    refine ⟨by simp, .inl ⟨_, _, rfl, run_takeDeferred hK, ?_⟩⟩
    have hc5 := cell_kept e4 (grownBy_putObj' _ D (.deferred none)) (fun r e => by cases e; exact ⟨_, hK, rfl⟩)
    refine ⟨.int .i64 x, by simp [results, Tryd.results120, go_sem, hc5], ⟨_, rfl, by rw [ht, e1]; rfl⟩, i5.trans (belowK_b (w := w) (Nat.le_refl _) W D _ _ (by omega) hK rfl rfl)⟩
end Go.Proofs.YtkjmddgnfgbioaaDoor


namespace Go.Proofs.YtkjmddgnfgbioaaDoor.Bs
set_option linter.unusedVariables false
set_option linter.unusedSimpArgs false
set_option maxRecDepth 100000
open Go.Lib (popAux)

/-! ### word by word -/
theorem fless_bit (a b j : Nat) (ha : a < 18446744073709551616) (hb : b < 18446744073709551616) : (fless a b).testBit j = (a.testBit j && !b.testBit j) := by
  unfold fless
  rw [Nat.testBit_and, show 18446744073709551615 - b = 2 ^ 64 - (b + 1) by omega, Nat.testBit_two_pow_sub_succ hb]
  by_cases hj : j < 64
  · simp [hj]
  · have : a.testBit j = false := Nat.testBit_lt_two_pow (Nat.lt_of_lt_of_le (show a < 2 ^ 64 from ha) (Nat.pow_le_pow_right (by decide) (by omega)))
    simp [this]
theorem word_ext {a b : Nat} (h : ∀ j, a.testBit j = b.testBit j) : a = b := Nat.eq_of_testBit_eq h
def sub (xs ys : List Nat) : Prop := ∀ i j, (at_ xs i).testBit j = true → (at_ ys i).testBit j = true
def win (xs ys : List Nat) : Bool := ((op fless xs ys).length : Int) == 0
theorem win_iff {xs ys : List Nat} (hx : Ws xs) (hy : Ws ys) : win xs ys = true ↔ sub xs ys := by
  have e : win xs ys = true ↔ op fless xs ys = [] := by
    unfold win
    simp
  rw [e]
  have f0 : fless 0 0 = 0 := by decide
  constructor
  · intro h i j hj
    have h0 := at_op fless f0 xs ys i
    rw [h] at h0
    have hb := fless_bit (at_ xs i) (at_ ys i) j (hx.at_ i) (hy.at_ i)
    rw [← h0] at hb
    rw [hj] at hb
    simpa [at_] using hb
  · intro h
    refine tr_all_zero (tr_op _ _ _) fun i => ?_
    rw [at_op fless f0]
    refine word_ext fun j => ?_
    rw [fless_bit _ _ _ (hx.at_ i) (hy.at_ i), Nat.zero_testBit]
    cases hj : (at_ xs i).testBit j with
    | false => rfl
    | true => rw [h i j hj]; rfl
theorem wand {xs ys : List Nat} (hx : Ws xs) (hy : Ws ys) : Ws (op fand xs ys) := Ws.op (fun _ _ ha _ => fand_lt ha) hx hy
theorem wor {xs ys : List Nat} (hx : Ws xs) (hy : Ws ys) : Ws (op for_ xs ys) := Ws.op (fun _ _ ha hb => for_lt ha hb) hx hy
theorem wless {xs ys : List Nat} (hx : Ws xs) (hy : Ws ys) : Ws (op fless xs ys) := Ws.op (fun _ _ ha _ => fless_lt ha) hx hy
theorem aand (xs ys : List Nat) (i : Nat) : at_ (op fand xs ys) i = at_ xs i &&& at_ ys i := at_op fand (by decide) xs ys i
theorem aor (xs ys : List Nat) (i : Nat) : at_ (op for_ xs ys) i = at_ xs i ||| at_ ys i := at_op for_ (by decide) xs ys i
theorem aless (xs ys : List Nat) (i : Nat) : at_ (op fless xs ys) i = fless (at_ xs i) (at_ ys i) := at_op fless (by decide) xs ys i
theorem at_nil (i : Nat) : at_ [] i = 0 := by simp [at_]
theorem ws_nil : Ws [] := fun x h => by cases h

/-! ### Boole -/
theorem alg1 (s t : List Nat) : op fand s t = op fand t s := tr_ext (tr_op _ _ _) (tr_op _ _ _) fun i => by rw [aand, aand, Nat.and_comm]
theorem alg2 (s t : List Nat) : op for_ s t = op for_ t s := tr_ext (tr_op _ _ _) (tr_op _ _ _) fun i => by rw [aor, aor, Nat.or_comm]
theorem alg3 (s t u : List Nat) : op fand s (op for_ t u) = op for_ (op fand s t) (op fand s u) := tr_ext (tr_op _ _ _) (tr_op _ _ _) fun i => by
  rw [aand, aor, aor, aand, aand]
  refine word_ext fun j => ?_
  simp only [Nat.testBit_and, Nat.testBit_or]
  cases (at_ s i).testBit j <;> simp
theorem alg4 (s t u : List Nat) : op for_ s (op fand t u) = op fand (op for_ s t) (op for_ s u) := tr_ext (tr_op _ _ _) (tr_op _ _ _) fun i => by
  rw [aor, aand, aand, aor, aor]
  refine word_ext fun j => ?_
  simp only [Nat.testBit_and, Nat.testBit_or]
  cases (at_ s i).testBit j <;> simp
theorem alg5 {s t : List Nat} (hs : Ws s) (ht : Ws t) : op for_ (op fand s t) (op fless s t) = op for_ s [] := tr_ext (tr_op _ _ _) (tr_op _ _ _) fun i => by
  rw [aor, aand, aless, aor, at_nil]
  refine word_ext fun j => ?_
  rw [Nat.testBit_or, Nat.testBit_and, fless_bit _ _ _ (hs.at_ i) (ht.at_ i), Nat.testBit_or, Nat.zero_testBit]
  cases (at_ s i).testBit j <;> cases (at_ t i).testBit j <;> rfl
theorem alg6 {s t : List Nat} (hs : Ws s) (ht : Ws t) : op fand (op fless s t) t = [] := tr_all_zero (tr_op _ _ _) fun i => by
  rw [aand, aless]
  refine word_ext fun j => ?_
  rw [Nat.testBit_and, fless_bit _ _ _ (hs.at_ i) (ht.at_ i), Nat.zero_testBit]
  cases (at_ s i).testBit j <;> cases (at_ t i).testBit j <;> rfl

/-! ### to be within -/
theorem win1 {s : List Nat} (hs : Ws s) : win s s = true := (win_iff hs hs).2 fun _ _ h => h
theorem win2 {s t u : List Nat} (hs : Ws s) (ht : Ws t) (hu : Ws u) : win u (op fand s t) = (win u s && win u t) := by
  rw [Bool.eq_iff_iff, Bool.and_eq_true, win_iff hu (wand hs ht), win_iff hu hs, win_iff hu ht]
  refine ⟨fun h => ⟨fun i j hj => ?_, fun i j hj => ?_⟩, fun ⟨h1, h2⟩ i j hj => ?_⟩
  · have := h i j hj; rw [aand, Nat.testBit_and, Bool.and_eq_true] at this; exact this.1
  · have := h i j hj; rw [aand, Nat.testBit_and, Bool.and_eq_true] at this; exact this.2
  · rw [aand, Nat.testBit_and, h1 i j hj, h2 i j hj]; rfl
theorem win3 {s t u : List Nat} (hs : Ws s) (ht : Ws t) (hu : Ws u) : win (op for_ s t) u = (win s u && win t u) := by
  rw [Bool.eq_iff_iff, Bool.and_eq_true, win_iff (wor hs ht) hu, win_iff hs hu, win_iff ht hu]
  refine ⟨fun h => ⟨fun i j hj => h i j ?_, fun i j hj => h i j ?_⟩, fun ⟨h1, h2⟩ i j hj => ?_⟩
  · rw [aor, Nat.testBit_or, hj]; rfl
  · rw [aor, Nat.testBit_or, hj, Bool.or_true]
  · rw [aor, Nat.testBit_or, Bool.or_eq_true] at hj
    exact hj.elim (h1 i j) (h2 i j)
theorem win4 {s t u : List Nat} (hs : Ws s) (ht : Ws t) (hu : Ws u) (h1 : win s t = true) (h2 : win t u = true) : win s u = true := by
  rw [win_iff hs ht] at h1
  rw [win_iff ht hu] at h2
  exact (win_iff hs hu).2 fun i j hj => h2 i j (h1 i j hj)
theorem win5 {s t : List Nat} (hs : Ws s) (ht : Ws t) : (win s t && win t s) = decide (op for_ s [] = op for_ t []) := by
  rw [Bool.eq_iff_iff, Bool.and_eq_true, decide_eq_true_eq, win_iff hs ht, win_iff ht hs]
  have k : ∀ (l : List Nat) i, at_ (op for_ l []) i = at_ l i := fun l i => by rw [aor, at_nil, Nat.or_zero]
  refine ⟨fun ⟨h1, h2⟩ => tr_ext (tr_op _ _ _) (tr_op _ _ _) fun i => ?_, fun h => ?_⟩
  · rw [k, k]
    exact word_ext fun j => Bool.eq_iff_iff.2 ⟨h1 i j, h2 i j⟩
  · have e : ∀ i, at_ s i = at_ t i := fun i => by rw [← k s, ← k t, h]
    exact ⟨fun i j hj => by rw [← e]; exact hj, fun i j hj => by rw [e]; exact hj⟩

/-! ### counting -/
def sizeN : Nat → (Nat → Nat) → Nat
  | 0, _ => 0
  | n + 1, f => popAux 64 (f n) + sizeN n f
theorem sizeN_zero (n : Nat) (f : Nat → Nat) (h : ∀ i, i < n → f i = 0) : sizeN n f = 0 := by
  induction n with
  | zero => rfl
  | succ n ih => rw [sizeN, h n (by omega), ih (fun i hi => h i (by omega))]; decide
theorem sizeN_congr {n : Nat} {f g : Nat → Nat} (h : ∀ i, i < n → f i = g i) : sizeN n f = sizeN n g := by
  induction n with
  | zero => rfl
  | succ n ih => rw [sizeN, sizeN, h n (by omega), ih (fun i hi => h i (by omega))]
theorem sizeN_shift (n : Nat) (f : Nat → Nat) : sizeN (n + 1) f = popAux 64 (f 0) + sizeN n (fun i => f (i + 1)) := by
  induction n with
  | zero => rw [sizeN]; rfl
  | succ n ih => rw [sizeN, ih, sizeN]; omega
theorem size_N : ∀ (l : List Nat) (n : Nat), l.length ≤ n → size l = sizeN n (at_ l)
  | [], n, _ => (sizeN_zero n _ (fun i _ => at_nil i)).symm
  | x :: r, 0, h => by simp at h
  | x :: r, n + 1, h => by
    rw [sizeN_shift, size, size_N r n (by simpa using h)]
    rfl
theorem count (s t : List Nat) : size s + size t = size (op for_ s t) + size (op fand s t) := by
  obtain ⟨n, hn⟩ : ∃ n, n = max s.length t.length := ⟨_, rfl⟩
  have l1 := op_length for_ s t
  have l2 := op_length fand s t
  rw [size_N s n (by omega), size_N t n (by omega), size_N _ n (by omega : (op for_ s t).length ≤ n), size_N _ n (by omega : (op fand s t).length ≤ n)]
  clear hn l1 l2
  induction n with
  | zero => rfl
  | succ n ih =>
    rw [sizeN, sizeN, sizeN, sizeN, aor, aand]
    have := pop_or_and 64 (at_ s n) (at_ t n)
    omega
theorem size_ls : ∀ (k : Nat) (l : List Nat), Ws l → (ls k l).length = size l
  | _, [], _ => rfl
  | k, x :: r, h => by
    rw [ls, List.length_append, List.length_map, bl_length x x (Nat.le_refl _) (h x List.mem_cons_self), size, size_ls (k + 1) r (fun y hy => h y (List.mem_cons_of_mem _ hy))]
end Go.Proofs.YtkjmddgnfgbioaaDoor.Bs


namespace Go.Proofs.YtkjmddgnfgbioaaDoor.Bs
set_option linter.unusedVariables false
set_option linter.unusedSimpArgs false
set_option maxRecDepth 100000

/-- has n -/
def bit (s : List Nat) (n : Nat) : Bool := (at_ s (n / 64)).testBit (n % 64)
theorem mem_ls : ∀ (s : List Nat) (k n : Nat), Ws s → (n ∈ ls k s ↔ 64 * k ≤ n ∧ (at_ s (n / 64 - k)).testBit (n % 64) = true)
  | [], k, n, _ => by simp [ls, at_nil]
  | x :: r, k, n, h => by
    have hx := h x List.mem_cons_self
    have hr : Ws r := fun y hy => h y (List.mem_cons_of_mem _ hy)
    rw [ls, List.mem_append, mem_ls r (k + 1) n hr, List.mem_map]
    constructor
    · rintro (⟨j, hj, rfl⟩ | ⟨h1, h2⟩)
      · have hj64 := bl_lt64 hx hj
        have hb := (mem_bl x x (Nat.le_refl _) hx j).1 hj
        refine ⟨by omega, ?_⟩
        rw [show (64 * k + j) / 64 - k = 0 by omega, show (64 * k + j) % 64 = j by omega]
        exact hb
      · refine ⟨by omega, ?_⟩
        obtain ⟨m, hm⟩ : ∃ m, n / 64 - k = m + 1 := ⟨n / 64 - k - 1, by omega⟩
        rw [hm]
        rw [show n / 64 - (k + 1) = m by omega] at h2
        exact h2
    · rintro ⟨h1, h2⟩
      by_cases hk : n / 64 - k = 0
      · left
        rw [hk] at h2
        refine ⟨n % 64, (mem_bl x x (Nat.le_refl _) hx _).2 h2, by omega⟩
      · right
        obtain ⟨m, hm⟩ : ∃ m, n / 64 - k = m + 1 := ⟨n / 64 - k - 1, by omega⟩
        rw [hm] at h2
        refine ⟨by omega, ?_⟩
        rw [show n / 64 - (k + 1) = m by omega]
        exact h2
theorem mem_list {s : List Nat} (h : Ws s) (n : Nat) : n ∈ ls 0 s ↔ bit s n = true := by
  rw [mem_ls s 0 n h]
  unfold bit
  simp
theorem ls_rise : ∀ (s : List Nat) (k : Nat), Ws s → (ls k s).Pairwise (· < ·)
  | [], k, _ => List.Pairwise.nil
  | x :: r, k, h => by
    have hx := h x List.mem_cons_self
    have hr : Ws r := fun y hy => h y (List.mem_cons_of_mem _ hy)
    rw [ls, List.pairwise_append]
    refine ⟨?_, ls_rise r (k + 1) hr, fun a ha b hb => ?_⟩
    · rw [List.pairwise_map]
      exact (bl_rise x x (Nat.le_refl _) hx).imp (fun h => by omega)
    · obtain ⟨j, hj, rfl⟩ := List.mem_map.1 ha
      have := bl_lt64 hx hj
      have := ((mem_ls r (k + 1) b hr).1 hb).1
      omega
theorem bit_put (s : List Nat) (n m : Nat) : bit (put s n) m = (bit s m || m == n) := by
  unfold bit
  rw [at_put]
  split
  · rename_i h
    rw [Nat.testBit_or, Nat.testBit_two_pow]
    congr 1
    rw [Bool.eq_iff_iff]
    simp
    omega
  · rename_i h
    have : (m == n) = false := by simp; intro e; rw [e] at h; exact h rfl
    rw [this, Bool.or_false]
theorem ws_put {s : List Nat} (h : Ws s) (n : Nat) : Ws (put s n) := fun x hx => by
  have h64 : 2 ^ (n % 64) < 18446744073709551616 := Nat.pow_lt_pow_right (by decide) (show n % 64 < 64 from Nat.mod_lt _ (by decide))
  unfold put at hx
  rcases List.mem_or_eq_of_mem_set hx with hx | rfl
  · rcases List.mem_append.1 hx with hx | hx
    · exact h x hx
    · rw [(List.mem_replicate.1 hx).2]; decide
  · exact Nat.or_lt_two_pow (n := 64) (h.at_ _) h64
theorem tr_iff (l : List Nat) : Tr l ↔ l = [] ∨ at_ l (l.length - 1) ≠ 0 := by
  rcases List.eq_nil_or_concat l with rfl | ⟨a, x, rfl⟩
  · exact ⟨fun _ => .inl rfl, fun _ => rfl⟩
  · rw [List.concat_eq_append]
    have e : at_ (a ++ [x]) ((a ++ [x]).length - 1) = x := by
      unfold at_
      rw [List.length_append, List.length_singleton, Nat.add_sub_cancel, List.getD_eq_getElem?_getD, List.getElem?_append_right (Nat.le_refl _), Nat.sub_self]
      rfl
    rw [e]
    constructor
    · intro h
      right
      rintro rfl
      unfold Tr at h
      rw [trim_snoc_zero] at h
      have := trim_length a
      rw [h, List.length_append] at this
      simp at this
      omega
    · rintro (h | h)
      · simp at h
      · exact trim_snoc a x h
theorem tr_put {s : List Nat} (h : Tr s) (n : Nat) : Tr (put s n) := by
  rw [tr_iff]
  right
  rw [put_length, at_put]
  have hp : at_ s (n / 64) ||| 2 ^ (n % 64) ≠ 0 := fun e => by
    have := congrArg (fun x => Nat.testBit x (n % 64)) e
    simp at this
  split
  · rename_i e
    rw [← e]
    exact hp
  · rename_i e
    rcases (tr_iff s).1 h with rfl | h
    · simp at e
    · rw [show max s.length (n / 64 + 1) = s.length by omega]
      exact h
theorem of_facts : ∀ l : List Int, Ws (of_ l) ∧ Tr (of_ l) ∧ ∀ n, bit (of_ l) n = true ↔ ∃ x ∈ l, 0 ≤ x ∧ x ≤ 65535 ∧ x.toNat = n := by
  have key : ∀ (l : List Int) (s : List Nat), Ws s → Tr s → Ws (l.foldl add s) ∧ Tr (l.foldl add s) ∧ ∀ n, bit (l.foldl add s) n = true ↔ (bit s n = true ∨ ∃ x ∈ l, 0 ≤ x ∧ x ≤ 65535 ∧ x.toNat = n) := by
    intro l
    induction l with
    | nil => exact fun s h1 h2 => ⟨h1, h2, fun n => by simp⟩
    | cons x l ih =>
      intro s h1 h2
      have g : Ws (add s x) ∧ Tr (add s x) ∧ ∀ n, bit (add s x) n = true ↔ (bit s n = true ∨ (0 ≤ x ∧ x ≤ 65535 ∧ x.toNat = n)) := by
        unfold add
        split
        · rename_i h
          exact ⟨h1, h2, fun n => ⟨.inl, fun h' => h'.elim id (fun h' => by omega)⟩⟩
        · rename_i h
          refine ⟨ws_put h1 _, tr_put h2 _, fun n => ?_⟩
          rw [bit_put, Bool.or_eq_true, beq_iff_eq]
          exact or_congr Iff.rfl ⟨fun e => ⟨by omega, by omega, e.symm⟩, fun e => e.2.2.symm⟩
      obtain ⟨g1, g2, g3⟩ := g
      obtain ⟨i1, i2, i3⟩ := ih (add s x) g1 g2
      refine ⟨i1, i2, fun n => ?_⟩
      show bit (l.foldl add (add s x)) n = true ↔ _
      rw [i3, g3, or_assoc]
      refine or_congr Iff.rfl ⟨?_, ?_⟩
      · rintro (h | ⟨y, hy, h⟩)
        · exact ⟨x, List.mem_cons_self, h⟩
        · exact ⟨y, List.mem_cons_of_mem _ hy, h⟩
      · rintro ⟨y, hy, h⟩
        rcases List.mem_cons.1 hy with rfl | hy
        · exact .inl h
        · exact .inr ⟨y, hy, h⟩
  intro l
  obtain ⟨h1, h2, h3⟩ := key l [] ws_nil rfl
  exact ⟨h1, h2, fun n => by
    show bit (l.foldl add []) n = true ↔ _
    rw [h3]
    have : bit [] n = false := by simp [bit, at_nil]
    rw [this]
    simp⟩
end Go.Proofs.YtkjmddgnfgbioaaDoor.Bs


namespace Go.Proofs.YtkjmddgnfgbioaaDoor.Gr
set_option linter.unusedVariables false
set_option linter.unusedSimpArgs false
set_option maxRecDepth 100000

abbrev Ed := Nat × Nat
/-- m waits no longer: it is not out, and all that lead to it are -/
def rdy (es : List Ed) (out : List Nat) (m : Nat) : Bool := !out.contains m && es.all fun e => e.2 != m || out.contains e.1
def nxt (N : Nat) (es : List Ed) (out : List Nat) : Option Nat := (List.range N).find? (rdy es out)
def run (N : Nat) (es : List Ed) : Nat → List Nat → List Nat
  | 0, out => out
  | k + 1, out => match nxt N es out with | none => out | some n => run N es k (out ++ [n])
def take (N : Nat) (es : List Ed) : List Nat := run N es N []

theorem rdy_iff {es : List Ed} {out : List Nat} {m : Nat} : rdy es out m = true ↔ m ∉ out ∧ ∀ e ∈ es, e.2 = m → e.1 ∈ out := by
  unfold rdy
  rw [Bool.and_eq_true, List.all_eq_true]
  constructor
  · rintro ⟨h1, h2⟩
    refine ⟨by simpa using h1, fun e he em => ?_⟩
    have := h2 e he
    rw [Bool.or_eq_true] at this
    rcases this with h | h
    · simp [em] at h
    · simpa using h
  · rintro ⟨h1, h2⟩
    refine ⟨by simpa using h1, fun e he => ?_⟩
    rw [Bool.or_eq_true]
    by_cases em : e.2 = m
    · exact .inr (by simpa using h2 e he em)
    · exact .inl (by simpa using em)
theorem nxt_some {N : Nat} {es : List Ed} {out : List Nat} {n : Nat} (h : nxt N es out = some n) : n < N ∧ n ∉ out ∧ (∀ e ∈ es, e.2 = n → e.1 ∈ out) ∧ ∀ m, m < n → rdy es out m = false := by
  unfold nxt at h
  have h1 := List.find?_some h
  have h2 := List.mem_of_find?_eq_some h
  obtain ⟨h3, h4⟩ := rdy_iff.1 h1
  refine ⟨List.mem_range.1 h2, h3, h4, fun m hm => ?_⟩
  obtain ⟨-, l1, bs, e, h5⟩ := List.find?_eq_some_iff_append.1 h
  have hl : l1.length = n := by
    have hh : (l1 ++ n :: bs)[l1.length]? = some n := by simp
    rw [← e] at hh
    obtain ⟨h6, h7⟩ := List.getElem?_eq_some_iff.1 hh
    simpa using h7
  have hm' : m ∈ l1 := by
    have hh : (List.range N)[m]? = some m := by have := List.mem_range.1 h2; exact List.getElem?_range (by omega)
    rw [e, List.getElem?_append_left (by omega)] at hh
    exact List.mem_of_getElem? hh
  simpa using h5 m hm'
theorem nxt_none {N : Nat} {es : List Ed} {out : List Nat} (h : nxt N es out = none) : ∀ m, m < N → rdy es out m = false := fun m hm => by
  have := List.find?_eq_none.1 h m (List.mem_range.2 hm)
  simpa using this

/-- nodes, each once, each behind those that lead to it -/
structure Good (N : Nat) (es : List Ed) (out : List Nat) : Prop where
  nd : out.Nodup
  lt : ∀ m ∈ out, m < N
  topo : ∀ i m, out[i]? = some m → ∀ e ∈ es, e.2 = m → e.1 ∈ out.take i
theorem Good.nil (N : Nat) (es : List Ed) : Good N es [] := ⟨List.nodup_nil, fun _ h => (by cases h), fun i m h => by rw [List.getElem?_nil] at h; cases h⟩
theorem Good.snoc {N : Nat} {es : List Ed} {out : List Nat} {n : Nat} (h : Good N es out) (hn : nxt N es out = some n) : Good N es (out ++ [n]) := by
  obtain ⟨h1, h2, h3, -⟩ := nxt_some hn
  refine ⟨List.nodup_append.2 ⟨h.nd, by simp, fun a ha b hb e => h2 (by rw [← List.mem_singleton.1 hb, ← e]; exact ha)⟩, fun m hm => ?_, fun i m hi e he em => ?_⟩
  · rcases List.mem_append.1 hm with hm | hm
    · exact h.lt m hm
    · rw [List.mem_singleton.1 hm]; exact h1
  · by_cases hil : i < out.length
    · rw [List.getElem?_append_left hil] at hi
      rw [List.take_append_of_le_length (by omega)]
      exact h.topo i m hi e he em
    · have hil' : i = out.length := by
        obtain ⟨h6, -⟩ := List.getElem?_eq_some_iff.1 hi
        simp at h6
        omega
      subst hil'
      rw [List.take_append_of_le_length (by omega), List.take_length]
      simp at hi
      subst hi
      exact h3 e he em
theorem good_run {N : Nat} {es : List Ed} : ∀ (k : Nat) (out : List Nat), Good N es out → Good N es (run N es k out)
  | 0, out, h => h
  | k + 1, out, h => by
    unfold run
    cases hn : nxt N es out with
    | none => exact h
    | some n => exact good_run k _ (h.snoc hn)
theorem good_take (N : Nat) (es : List Ed) : Good N es (take N es) := good_run N [] (Good.nil N es)
theorem Good.length {N : Nat} {es : List Ed} {out : List Nat} (h : Good N es out) : out.length ≤ N := by
  have := h.nd.length_le_of_subset (l₂ := List.range N) (fun m hm => List.mem_range.2 (h.lt m hm))
  simpa using this
/-- enough rounds: none is left behind -/
theorem run_stop {N : Nat} {es : List Ed} : ∀ (k : Nat) (out : List Nat), Good N es out → N ≤ k + out.length → nxt N es (run N es k out) = none
  | 0, out, h, hk => by
    cases hn : nxt N es out with
    | none => exact hn
    | some n =>
      have := (h.snoc hn).length
      simp at this
      omega
  | k + 1, out, h, hk => by
    unfold run
    cases hn : nxt N es out with
    | none => exact hn
    | some n => exact run_stop k _ (h.snoc hn) (by simp; omega)
theorem take_stop (N : Nat) (es : List Ed) : nxt N es (take N es) = none := run_stop N [] (Good.nil N es) (by simp)
/-- all nodes are taken -/
theorem Good.full {N : Nat} {es : List Ed} {out : List Nat} (h : Good N es out) (hl : out.length = N) : ∀ m, m < N → m ∈ out := fun m hm => by
  by_cases hc : m ∈ out
  · exact hc
  · have hnd : (m :: out).Nodup := List.nodup_cons.2 ⟨hc, h.nd⟩
    have := hnd.length_le_of_subset (l₂ := List.range N) (fun x hx => by
      rcases List.mem_cons.1 hx with rfl | hx
      · exact List.mem_range.2 hm
      · exact List.mem_range.2 (h.lt x hx))
    simp at this
    omega

/-! ### what is behind what -/
inductive Way (es : List Ed) : Nat → Nat → Prop
  | one {a b : Nat} : (a, b) ∈ es → Way es a b
  | on {a b c : Nat} : (a, b) ∈ es → Way es b c → Way es a c
theorem Way.trans {es : List Ed} {a b c : Nat} (h : Way es a b) (k : Way es b c) : Way es a c := by
  induction h with
  | one h => exact .on h k
  | on h _ ih => exact .on h (ih k)
theorem Way.head {es : List Ed} {a c : Nat} (h : Way es a c) : ∃ b, (a, b) ∈ es ∧ (b = c ∨ Way es b c) := by
  cases h with
  | one h => exact ⟨_, h, .inl rfl⟩
  | on h k => exact ⟨_, h, .inr k⟩
theorem Way.last {es : List Ed} {a c : Nat} (h : Way es a c) : ∃ b, (b, c) ∈ es := by
  induction h with
  | one h => exact ⟨_, h⟩
  | on _ _ ih => exact ih
/-- the place in the order goes up along a way -/
theorem Good.up {N : Nat} {es : List Ed} {out : List Nat} (h : Good N es out) {a b : Nat} (hw : Way es a b) : ∀ j : Nat, out[j]? = some b → ∃ i : Nat, i < j ∧ out[i]? = some a := by
  induction hw with
  | one he =>
    intro j hj
    have := h.topo j _ hj _ he rfl
    obtain ⟨i, hi⟩ := List.getElem?_of_mem this
    rw [List.getElem?_take] at hi
    split at hi
    · exact ⟨i, by assumption, hi⟩
    · cases hi
  | on he _ ih =>
    intro j hj
    obtain ⟨k, hk, hkb⟩ := ih j hj
    have := h.topo k _ hkb _ he rfl
    obtain ⟨i, hi⟩ := List.getElem?_of_mem this
    rw [List.getElem?_take] at hi
    split at hi
    · exact ⟨i, by omega, hi⟩
    · cases hi
theorem Good.inj {N : Nat} {es : List Ed} {out : List Nat} (h : Good N es out) {i j a : Nat} (hi : out[i]? = some a) (hj : out[j]? = some a) : i = j := by
  obtain ⟨h1, h2⟩ := List.getElem?_eq_some_iff.1 hi
  obtain ⟨h3, h4⟩ := List.getElem?_eq_some_iff.1 hj
  exact (List.getElem_inj h.nd).1 (by rw [h2, h4])
theorem Good.not_round {N : Nat} {es : List Ed} {out : List Nat} (h : Good N es out) (hl : out.length = N) (hes : ∀ e ∈ es, e.2 < N) (a : Nat) : ¬ Way es a a := fun hw => by
  obtain ⟨b, hb⟩ := hw.last
  have := h.full hl a (hes _ hb)
  obtain ⟨j, hj⟩ := List.getElem?_of_mem this
  obtain ⟨i, hi, hia⟩ := h.up hw j hj
  have := h.inj hia hj
  omega

/-! ### where a way leads, in sets; the nodes are taken from the last to the first -/
def next (es : List Ed) (n : Nat) : List Nat := (es.filter fun e => e.1 == n).map (·.2)
theorem mem_next {es : List Ed} {n m : Nat} : m ∈ next es n ↔ (n, m) ∈ es := by
  unfold next
  rw [List.mem_map]
  constructor
  · rintro ⟨⟨a, b⟩, h, rfl⟩
    rw [List.mem_filter] at h
    have : a = n := by simpa using h.2
    rw [← this]
    exact h.1
  · intro h
    exact ⟨(n, m), by rw [List.mem_filter]; exact ⟨h, by simp⟩, rfl⟩
section
variable {S : Type} (mem : S → Nat → Prop) (em : S) (un : S → Nat → S → S)
/-- one node: all that it leads to, and what is behind these -/
def beh1 (es : List Ed) (B : List S) (n : Nat) : S := (next es n).foldl (fun s m => un s m (B.getD m em)) em
def behL (es : List Ed) : List Nat → List S → List S
  | [], B => B
  | n :: l, B => behL es l (B.set n (beh1 em un es B n))
theorem mem_fold (he : ∀ x, ¬ mem em x) (hu : ∀ s m t x, mem (un s m t) x ↔ mem s x ∨ x = m ∨ mem t x) (B : List S) (x : Nat) :
    ∀ (l : List Nat) (s : S), mem (l.foldl (fun s m => un s m (B.getD m em)) s) x ↔ mem s x ∨ ∃ m ∈ l, x = m ∨ mem (B.getD m em) x
  | [], s => by simp
  | m :: l, s => by
    rw [List.foldl_cons, mem_fold he hu B x l, hu]
    constructor
    · rintro ((h | h) | ⟨m', h1, h2⟩)
      · exact .inl h
      · exact .inr ⟨m, List.mem_cons_self, h⟩
      · exact .inr ⟨m', List.mem_cons_of_mem _ h1, h2⟩
    · rintro (h | ⟨m', h1, h2⟩)
      · exact .inl (.inl h)
      · rcases List.mem_cons.1 h1 with rfl | h1
        · exact .inl (.inr h2)
        · exact .inr ⟨m', h1, h2⟩
theorem behL_length (es : List Ed) : ∀ (l : List Nat) (B : List S), (behL em un es l B).length = B.length
  | [], _ => rfl
  | n :: l, B => by unfold behL; rw [behL_length es l]; simp
/-- what is right stays right, and all become right -/
theorem behL_right (he : ∀ x, ¬ mem em x) (hu : ∀ s m t x, mem (un s m t) x ↔ mem s x ∨ x = m ∨ mem t x) (es : List Ed) : ∀ (l done : List Nat) (B : List S),
    (∀ n ∈ l, n < B.length) → (∀ n ∈ done, ∀ x, mem (B.getD n em) x ↔ Way es n x) → (∀ n ∈ l, n ∉ done) → l.Nodup → (∀ i n, l[i]? = some n → ∀ m, (n, m) ∈ es → m ∈ done ∨ m ∈ l.take i) →
    ∀ n, (n ∈ done ∨ n ∈ l) → ∀ x, mem ((behL em un es l B).getD n em) x ↔ Way es n x
  | [], done, B, _, hd, _, _, _, n, hn, x => by
    rcases hn with hn | hn
    · exact hd n hn x
    · cases hn
  | k :: l, done, B, hlt, hd, hnot, hnd, hnext, n, hn, x => by
    unfold behL
    have hk : k < B.length := hlt k List.mem_cons_self
    have hkd : k ∉ done := hnot k List.mem_cons_self
    have hkl : k ∉ l := (List.nodup_cons.1 hnd).1
    refine behL_right he hu es l (k :: done) (B.set k (beh1 em un es B k)) (fun n hn => by rw [List.length_set]; exact hlt n (List.mem_cons_of_mem _ hn)) (fun n hn x => ?_) (fun n' hn' hc => ?_) (List.nodup_cons.1 hnd).2 (fun i n hi m hm => ?_) n (by
      rcases hn with hn | hn
      · exact .inl (List.mem_cons_of_mem _ hn)
      · rcases List.mem_cons.1 hn with rfl | hn
        · exact .inl List.mem_cons_self
        · exact .inr hn) x
    · by_cases hnk : n = k
      · subst hnk
        rw [List.getD_eq_getElem?_getD, List.getElem?_set_self hk, Option.getD_some]
        unfold beh1
        rw [mem_fold mem em un he hu]
        constructor
        · rintro (h | ⟨m, h1, h2⟩)
          · exact absurd h (he x)
          · have hm := mem_next.1 h1
            have hmd : m ∈ done := by
              rcases hnext 0 n (by simp) m hm with h | h
              · exact h
              · simp at h
            rcases h2 with rfl | h2
            · exact .one hm
            · exact .on hm ((hd m hmd x).1 h2)
        · intro hw
          obtain ⟨m, hm, h⟩ := hw.head
          have hmd : m ∈ done := by
            rcases hnext 0 n (by simp) m hm with h | h
            · exact h
            · simp at h
          exact .inr ⟨m, mem_next.2 hm, h.imp (fun e => e.symm) (fun h => (hd m hmd x).2 h)⟩
      · have hn' : n ∈ done := (List.mem_cons.1 hn).resolve_left hnk
        rw [List.getD_eq_getElem?_getD, List.getElem?_set_ne (fun e => hnk e.symm), ← List.getD_eq_getElem?_getD]
        exact hd n hn' x
    · rcases List.mem_cons.1 hc with e | hc
      · exact hkl (e ▸ hn')
      · exact hnot n' (List.mem_cons_of_mem _ hn') hc
    · rcases hnext (i + 1) n (by simpa using hi) m hm with h | h
      · exact .inl (List.mem_cons_of_mem _ h)
      · rw [List.take_succ_cons] at h
        rcases List.mem_cons.1 h with rfl | h
        · exact .inl List.mem_cons_self
        · exact .inr h
/-- behind the whole order, from its end: what is behind each node -/
theorem beh_right (he : ∀ x, ¬ mem em x) (hu : ∀ s m t x, mem (un s m t) x ↔ mem s x ∨ x = m ∨ mem t x) {N : Nat} {es : List Ed} {out : List Nat} (h : Good N es out) (hl : out.length = N) (hes : ∀ e ∈ es, e.2 < N) (n : Nat) (hn : n < N) (x : Nat) :
    mem ((behL em un es out.reverse (List.replicate N em)).getD n em) x ↔ Way es n x := by
  refine behL_right mem em un he hu es out.reverse [] _ (fun n hn => ?_) (fun _ h => by cases h) (fun _ _ h => by cases h) (List.pairwise_reverse.2 (h.nd.imp fun h e => h e.symm)) (fun i n hi m hm => ?_) n (.inr (List.mem_reverse.2 (h.full hl n hn))) x
  · rw [List.length_replicate]; exact h.lt n (List.mem_reverse.1 hn)
  · right
    have hil : i < out.length := by
      obtain ⟨h6, -⟩ := List.getElem?_eq_some_iff.1 hi
      simpa using h6
    rw [List.getElem?_reverse hil] at hi
    have hm' := h.full hl m (hes _ hm)
    obtain ⟨j, hj⟩ := List.getElem?_of_mem hm'
    have := h.topo j m hj _ hm rfl
    obtain ⟨a, ha⟩ := List.getElem?_of_mem this
    rw [List.getElem?_take] at ha
    split at ha
    · have haj : a < j := by assumption
      have := h.inj ha hi
      obtain ⟨hjl, -⟩ := List.getElem?_eq_some_iff.1 hj
      refine List.mem_of_getElem? (i := out.length - 1 - j) ?_
      rw [List.getElem?_take, if_pos (by omega), List.getElem?_reverse (by omega), show out.length - 1 - (out.length - 1 - j) = j by omega]
      exact hj
    · cases ha
end
end Go.Proofs.YtkjmddgnfgbioaaDoor.Gr


namespace Go.Proofs.YtkjmddgnfgbioaaDoor.Gr
set_option linter.unusedVariables false
set_option linter.unusedSimpArgs false
set_option maxRecDepth 100000

/-- how many edges lead to m from what is not out -/
def wt (es : List Ed) (out : List Nat) (m : Nat) : Nat := (es.filter fun e => e.2 == m && !out.contains e.1).length
theorem wt_zero {es : List Ed} {out : List Nat} {m : Nat} : wt es out m = 0 ↔ ∀ e ∈ es, e.2 = m → e.1 ∈ out := by
  unfold wt
  rw [List.length_eq_zero_iff, List.filter_eq_nil_iff]
  constructor
  · intro h e he em
    have := h e he
    simpa [em] using this
  · intro h e he
    by_cases em : e.2 = m
    · simpa [em] using h e he em
    · simp [em]
theorem wt_le (es : List Ed) (out : List Nat) (m : Nat) : wt es out m ≤ es.length := List.length_filter_le _ _
theorem rdy_wt {es : List Ed} {out : List Nat} {m : Nat} : rdy es out m = true ↔ m ∉ out ∧ wt es out m = 0 := by rw [rdy_iff, wt_zero]
theorem wt_snoc {out : List Nat} {n : Nat} (hn : n ∉ out) (m : Nat) : ∀ es : List Ed, wt es (out ++ [n]) m + (next es n).count m = wt es out m
  | [] => rfl
  | (a, b) :: es => by
    have ih := wt_snoc hn m es
    unfold wt next at ih ⊢
    by_cases hb : b = m
    · subst hb
      by_cases ha : a = n
      · subst ha
        have h1 : (a ∈ out) = False := by simpa using hn
        simp [h1, List.filter_cons] at ih ⊢
        omega
      · have ha' : ¬ n = a := fun e => ha e.symm
        by_cases hc : a ∈ out
        · simp [ha, hc, List.filter_cons] at ih ⊢
          omega
        · simp [ha, hc, List.filter_cons] at ih ⊢
          omega
    · by_cases ha : a = n
      · subst ha
        simp [hb, List.filter_cons] at ih ⊢
        omega
      · simp [ha, hb, List.filter_cons] at ih ⊢
        omega
theorem count_le {out : List Nat} {n : Nat} (hn : n ∉ out) (es : List Ed) (m : Nat) : (next es n).count m ≤ wt es out m := by
  have := wt_snoc hn m es
  omega

/-! ### the edges are gone through, one by one -/
theorem wt_one (es : List Ed) (a b m : Nat) : wt (es ++ [(a, b)]) [] m = wt es [] m + (if b = m then 1 else 0) := by
  unfold wt
  rw [List.filter_append, List.length_append]
  by_cases h : b = m
  · simp [h]
  · simp [h]
theorem next_one (es : List Ed) (a b n : Nat) : next (es ++ [(a, b)]) n = next es n ++ (if a = n then [b] else []) := by
  unfold next
  rw [List.filter_append, List.map_append]
  by_cases h : a = n
  · simp [h]
  · simp [h]
/-- how many each node waits for -/
def wl (N : Nat) (es : List Ed) : List Int := (List.range N).map fun m => ((wt es [] m : Nat) : Int)
/-- what each node leads to -/
def nl (N : Nat) (es : List Ed) : List (List Nat) := (List.range N).map (next es)
theorem map_set {α : Type} (N : Nat) (f : Nat → α) (b : Nat) (x : α) : ((List.range N).map f).set b x = (List.range N).map fun m => if m = b then x else f m := by
  apply List.ext_getElem
  · simp
  · intro i h1 h2
    rw [List.getElem_set]
    simp only [List.getElem_map, List.getElem_range]
    by_cases h : b = i
    · rw [if_pos h, if_pos h.symm]
    · rw [if_neg h, if_neg (fun e => h e.symm)]
theorem map_get {α : Type} (N : Nat) (f : Nat → α) (b : Nat) (hb : b < N) : ((List.range N).map f)[b]? = some (f b) := by
  rw [List.getElem?_map, List.getElem?_range hb]
  rfl
theorem wl_one (N : Nat) (es : List Ed) (a b : Nat) : wl N (es ++ [(a, b)]) = (wl N es).set b ((wt es [] b : Nat) + 1 : Int) := by
  unfold wl
  rw [map_set]
  refine List.map_congr_left fun m _ => ?_
  rw [wt_one]
  by_cases h : b = m
  · subst h; simp
  · rw [if_neg h, if_neg (fun e => h e.symm)]; simp
theorem nl_one (N : Nat) (es : List Ed) (a b : Nat) : nl N (es ++ [(a, b)]) = (nl N es).set a (next es a ++ [b]) := by
  unfold nl
  rw [map_set]
  refine List.map_congr_left fun m _ => ?_
  rw [next_one]
  by_cases h : a = m
  · subst h; simp
  · rw [if_neg h, if_neg (fun e => h e.symm)]; simp

/-! ### one node is taken: those that it leads to wait for one less -/
/-- how many each node still waits for, when j of those that n leads to have been told -/
def wj (N : Nat) (es : List Ed) (out : List Nat) (n j : Nat) : List Int := (List.range N).map fun m => ((wt es out m : Nat) : Int) - ((((next es n).take j).count m : Nat) : Int)
/-- .. and which wait no longer -/
def rj (N : Nat) (es : List Ed) (out : List Nat) (n j m : Nat) : Prop := m < N ∧ m ≠ n ∧ m ∉ out ∧ wt es out m = ((next es n).take j).count m
theorem take_snoc {α : Type} {l : List α} {j : Nat} {x : α} (h : l[j]? = some x) : l.take (j + 1) = l.take j ++ [x] := by
  obtain ⟨h', rfl⟩ := List.getElem?_eq_some_iff.1 h
  exact List.take_succ_eq_append_getElem h'
theorem count_snoc (l : List Nat) (x m : Nat) : (l ++ [x]).count m = l.count m + (if x = m then 1 else 0) := by
  rw [List.count_append, List.count_singleton]
  by_cases h : x = m
  · simp [h]
  · simp [h]
theorem wj_get {N : Nat} {es : List Ed} {out : List Nat} {n j m : Nat} (hm : m < N) : (wj N es out n j)[m]? = some (((wt es out m : Nat) : Int) - ((((next es n).take j).count m : Nat) : Int)) := map_get _ _ _ hm
theorem wj_step {N : Nat} {es : List Ed} {out : List Nat} {n j m : Nat} (hj : (next es n)[j]? = some m) : wj N es out n (j + 1) = (wj N es out n j).set m (((wt es out m : Nat) : Int) - ((((next es n).take j).count m : Nat) : Int) - 1) := by
  unfold wj
  rw [map_set, take_snoc hj]
  refine List.map_congr_left fun x _ => ?_
  rw [count_snoc]
  by_cases h : m = x
  · subst h; simp; omega
  · rw [if_neg h, if_neg (fun e => h e.symm)]; simp
/-- it is told once more: that one waits no longer, if it was the last -/
theorem rj_step {N : Nat} {es : List Ed} {out : List Nat} {n j m : Nat} (hg : Good N es out) (hes : ∀ e ∈ es, e.2 < N) (hn : nxt N es out = some n) (hj : (next es n)[j]? = some m) (x : Nat) :
    rj N es out n (j + 1) x ↔ rj N es out n j x ∨ (x = m ∧ wt es out m = ((next es n).take j).count m + 1) := by
  obtain ⟨h1, h2, h3, -⟩ := nxt_some hn
  have hmem : m ∈ next es n := List.mem_of_getElem? hj
  have hed := mem_next.1 hmem
  unfold rj
  rw [take_snoc hj, count_snoc]
  by_cases h : m = x
  · subst h
    rw [if_pos rfl]
    have hc : ((next es n).take (j + 1)).count m ≤ (next es n).count m := List.Sublist.count_le m (List.take_sublist _ _)
    rw [take_snoc hj, count_snoc, if_pos rfl] at hc
    have hw := count_le h2 es m
    have hmn : m ≠ n := fun e => h2 (h3 _ hed e)
    have hmo : m ∉ out := fun e => by
      obtain ⟨i, hi⟩ := List.getElem?_of_mem e
      exact h2 (List.mem_of_mem_take (hg.topo i m hi _ hed rfl))
    have hmN := hes _ hed
    constructor
    · rintro ⟨-, -, -, h⟩
      exact .inr ⟨rfl, h⟩
    · rintro (⟨-, -, -, h⟩ | ⟨-, h⟩)
      · omega
      · exact ⟨hmN, hmn, hmo, h⟩
  · rw [if_neg h, Nat.add_zero]
    constructor
    · exact fun h => .inl h
    · rintro (h' | ⟨e, -⟩)
      · exact h'
      · exact absurd e.symm h
theorem wj_zero (N : Nat) (es : List Ed) (out : List Nat) (n : Nat) : wj N es out n 0 = (List.range N).map fun m => ((wt es out m : Nat) : Int) := by
  unfold wj
  refine List.map_congr_left fun m _ => ?_
  simp
theorem wj_full {N : Nat} {es : List Ed} {out : List Nat} {n : Nat} (hn : n ∉ out) : wj N es out n (next es n).length = (List.range N).map fun m => ((wt es (out ++ [n]) m : Nat) : Int) := by
  unfold wj
  refine List.map_congr_left fun m _ => ?_
  rw [List.take_length]
  have := wt_snoc hn m es
  omega
theorem rj_zero {N : Nat} {es : List Ed} {out : List Nat} {n : Nat} (m : Nat) : rj N es out n 0 m ↔ (m < N ∧ rdy es out m = true) ∧ m ≠ n := by
  unfold rj
  rw [rdy_wt]
  simp
  constructor
  · rintro ⟨a, b, c, d⟩; exact ⟨⟨a, c, d⟩, b⟩
  · rintro ⟨⟨a, c, d⟩, b⟩; exact ⟨a, b, c, d⟩
theorem rj_full {N : Nat} {es : List Ed} {out : List Nat} {n : Nat} (hn : n ∉ out) (m : Nat) : rj N es out n (next es n).length m ↔ m < N ∧ rdy es (out ++ [n]) m = true := by
  unfold rj
  rw [List.take_length, rdy_wt]
  have := wt_snoc hn m es
  constructor
  · rintro ⟨a, b, c, d⟩
    refine ⟨a, fun h => ?_, by omega⟩
    rcases List.mem_append.1 h with h | h
    · exact c h
    · exact b (List.mem_singleton.1 h)
  · rintro ⟨a, b, c⟩
    exact ⟨a, fun e => b (by rw [e]; simp), fun h => b (List.mem_append_left _ h), by omega⟩
/-- the least of those that wait no longer -/
theorem nxt_least {N : Nat} {es : List Ed} {out : List Nat} {n : Nat} (h1 : n < N ∧ rdy es out n = true) (h2 : ∀ m, m < n → ¬ (m < N ∧ rdy es out m = true)) : nxt N es out = some n := by
  cases hn : nxt N es out with
  | none => have := nxt_none hn n h1.1; rw [this] at h1; exact absurd h1.2 (by simp)
  | some k =>
    obtain ⟨a, b, c, d⟩ := nxt_some hn
    have hk : rdy es out k = true := rdy_iff.2 ⟨b, c⟩
    by_cases hlt : k < n
    · exact absurd ⟨a, hk⟩ (h2 k hlt)
    · by_cases hgt : n < k
      · have := d n hgt; rw [this] at h1; exact absurd h1.2 (by simp)
      · rw [show k = n by omega]
theorem run_more {N : Nat} {es : List Ed} {out : List Nat} {n k : Nat} (h : nxt N es out = some n) : run N es (k + 1) out = run N es k (out ++ [n]) := by
  conv => lhs; unfold run
  rw [h]
theorem run_end {N : Nat} {es : List Ed} {out : List Nat} (h : nxt N es out = none) : ∀ k, run N es k out = out
  | 0 => rfl
  | k + 1 => by unfold run; rw [h]
end Go.Proofs.YtkjmddgnfgbioaaDoor.Gr


namespace Go.Proofs.YtkjmddgnfgbioaaDoor.Bs
set_option linter.unusedVariables false
set_option linter.unusedSimpArgs false
set_option maxRecDepth 100000

theorem bit_or (s t : List Nat) (m : Nat) : bit (op for_ s t) m = (bit s m || bit t m) := by
  unfold bit
  rw [aor, Nat.testBit_or]
theorem bit_less {s t : List Nat} (hs : Ws s) (ht : Ws t) (m : Nat) : bit (op fless s t) m = (bit s m && !bit t m) := by
  unfold bit
  rw [aless, fless_bit _ _ _ (hs.at_ _) (ht.at_ _)]
theorem bit_nil (m : Nat) : bit [] m = false := by simp [bit, at_nil]
theorem bit_far {s : List Nat} {m : Nat} (h : 64 * s.length ≤ m) : bit s m = false := by
  unfold bit
  rw [at_far (by omega)]
  simp
/-- words without noughts at the end -/
structure Gs (N : Nat) (s : List Nat) : Prop where
  ws : Ws s
  tr : Tr s
  lt : ∀ m, bit s m = true → m < N
theorem Gs.nil (N : Nat) : Gs N [] := ⟨ws_nil, rfl, fun m h => by rw [bit_nil] at h; cases h⟩
theorem Gs.put {N : Nat} {s : List Nat} (h : Gs N s) {n : Nat} (hn : n < N) : Gs N (put s n) := ⟨ws_put h.ws n, tr_put h.tr n, fun m hm => by
  rw [bit_put, Bool.or_eq_true, beq_iff_eq] at hm
  rcases hm with hm | rfl
  · exact h.lt m hm
  · exact hn⟩
theorem Gs.or {N : Nat} {s t : List Nat} (h : Gs N s) (k : Gs N t) : Gs N (op for_ s t) := ⟨wor h.ws k.ws, tr_op _ _ _, fun m hm => by
  rw [bit_or, Bool.or_eq_true] at hm
  exact hm.elim (h.lt m) (k.lt m)⟩
theorem Gs.less {N : Nat} {s t : List Nat} (h : Gs N s) (k : Ws t) : Gs N (op fless s t) := ⟨wless h.ws k, tr_op _ _ _, fun m hm => by
  rw [bit_less h.ws k, Bool.and_eq_true] at hm
  exact h.lt m hm.1⟩
theorem Gs.empty {N : Nat} {s : List Nat} (h : Gs N s) : s = [] ↔ ∀ m, bit s m = false := by
  constructor
  · rintro rfl m
    exact bit_nil m
  · intro h0
    refine tr_all_zero h.tr fun i => word_ext fun j => ?_
    rw [Nat.zero_testBit]
    by_cases hj : j < 64
    · have := h0 (64 * i + j)
      unfold bit at this
      rw [show (64 * i + j) / 64 = i by omega, show (64 * i + j) % 64 = j by omega] at this
      exact this
    · exact Nat.testBit_lt_two_pow (Nat.lt_of_lt_of_le (show at_ s i < 2 ^ 64 from h.ws.at_ i) (Nat.pow_le_pow_right (by decide) (by omega)))
theorem Gs.ext {N : Nat} {s t : List Nat} (h : Gs N s) (k : Gs N t) (e : ∀ m, bit s m = bit t m) : s = t := by
  refine tr_ext h.tr k.tr fun i => word_ext fun j => ?_
  by_cases hj : j < 64
  · have := e (64 * i + j)
    unfold bit at this
    rw [show (64 * i + j) / 64 = i by omega, show (64 * i + j) % 64 = j by omega] at this
    exact this
  · rw [Nat.testBit_lt_two_pow (Nat.lt_of_lt_of_le (show at_ s i < 2 ^ 64 from h.ws.at_ i) (Nat.pow_le_pow_right (by decide) (by omega))), Nat.testBit_lt_two_pow (Nat.lt_of_lt_of_le (show at_ t i < 2 ^ 64 from k.ws.at_ i) (Nat.pow_le_pow_right (by decide) (by omega)))]
theorem Gs.length {N : Nat} {s : List Nat} (h : Gs N s) : s.length ≤ N := by
  rcases (tr_iff s).1 h.tr with rfl | h0
  · exact Nat.zero_le _
  · by_cases hl : s.length = 0
    · omega
    · by_cases hc : ∃ j, (at_ s (s.length - 1)).testBit j = true
      · obtain ⟨j, hj⟩ := hc
        have hj64 : j < 64 := by
          by_cases hj' : j < 64
          · exact hj'
          · rw [Nat.testBit_lt_two_pow (Nat.lt_of_lt_of_le (show at_ s _ < 2 ^ 64 from h.ws.at_ _) (Nat.pow_le_pow_right (by decide) (by omega)))] at hj
            cases hj
        have := h.lt (64 * (s.length - 1) + j) (by
          unfold bit
          rw [show (64 * (s.length - 1) + j) / 64 = s.length - 1 by omega, show (64 * (s.length - 1) + j) % 64 = j by omega]
          exact hj)
        omega
      · exfalso
        refine h0 (word_ext fun j => ?_)
        rw [Nat.zero_testBit]
        cases hb : (at_ s (s.length - 1)).testBit j with
        | false => rfl
        | true => exact absurd ⟨j, hb⟩ hc
theorem add_nat {s : List Nat} {n : Nat} (h : n ≤ 65535) : add s (n : Int) = put s n := by
  unfold add
  rw [if_neg (by omega)]
  simp
theorem of_one {n : Nat} (h : n ≤ 65535) : of_ [(n : Int)] = put [] n := by
  show add [] (n : Int) = _
  exact add_nat h
/-- the least -/
theorem least_bit {N : Nat} {s : List Nat} (h : Gs N s) {n : Nat} {r : List Nat} (e : ls 0 s = n :: r) : bit s n = true ∧ ∀ m, m < n → bit s m = false := by
  have hr := ls_rise s 0 h.ws
  rw [e] at hr
  refine ⟨(mem_list h.ws n).1 (by rw [e]; exact List.mem_cons_self), fun m hm => ?_⟩
  cases hb : bit s m with
  | false => rfl
  | true =>
    have := (mem_list h.ws m).2 hb
    rw [e] at this
    rcases List.mem_cons.1 this with rfl | hmr
    · omega
    · have := (List.pairwise_cons.1 hr).1 m hmr
      omega
theorem ls_none {N : Nat} {s : List Nat} (h : Gs N s) (e : ls 0 s = []) : s = [] := h.empty.2 fun m => by
  cases hb : bit s m with
  | false => rfl
  | true =>
    have := (mem_list h.ws m).2 hb
    rw [e] at this
    cases this
end Go.Proofs.YtkjmddgnfgbioaaDoor.Bs

namespace Go.Proofs.YtkjmddgnfgbioaaDoor.Gr
open Bs
/-- those that wait no longer, as a set -/
structure Rs (N : Nat) (es : List Ed) (out : List Nat) (s : List Nat) : Prop extends Gs N s where
  is : ∀ m, bit s m = true ↔ m < N ∧ rdy es out m = true
structure Rj (N : Nat) (es : List Ed) (out : List Nat) (n j : Nat) (s : List Nat) : Prop extends Gs N s where
  is : ∀ m, bit s m = true ↔ rj N es out n j m
theorem Rs.none {N : Nat} {es : List Ed} {out : List Nat} {s : List Nat} (h : Rs N es out s) (e : s = []) : nxt N es out = none := by
  subst e
  cases hn : nxt N es out with
  | none => rfl
  | some n =>
    obtain ⟨a, b, c, -⟩ := nxt_some hn
    have := (h.is n).2 ⟨a, rdy_iff.2 ⟨b, c⟩⟩
    rw [bit_nil] at this
    cases this
theorem Rs.some {N : Nat} {es : List Ed} {out : List Nat} {s : List Nat} (h : Rs N es out s) {n : Nat} {r : List Nat} (e : ls 0 s = n :: r) : nxt N es out = Option.some n := by
  obtain ⟨h1, h2⟩ := least_bit h.toGs e
  refine nxt_least ((h.is n).1 h1) fun m hm hc => ?_
  have := (h.is m).2 hc
  rw [h2 m hm] at this
  cases this
theorem Rs.without {N : Nat} {es : List Ed} {out : List Nat} {s : List Nat} (h : Rs N es out s) {n : Nat} (hN : N ≤ 200) (hn : nxt N es out = Option.some n) : Rj N es out n 0 (op fless s (of_ [(n : Int)])) := by
  have hlt := (nxt_some hn).1
  have ho := of_facts [(n : Int)]
  refine ⟨h.toGs.less ho.1, fun m => ?_⟩
  rw [bit_less h.ws ho.1, Bool.and_eq_true, rj_zero, h.is]
  refine and_congr Iff.rfl ?_
  rw [of_one (by omega), bit_put, bit_nil]
  simp
theorem Rj.full {N : Nat} {es : List Ed} {out : List Nat} {n : Nat} {s : List Nat} (h : Rj N es out n (next es n).length s) (hn : n ∉ out) : Rs N es (out ++ [n]) s := ⟨h.toGs, fun m => by rw [h.is, rj_full hn]⟩
theorem Rj.stay {N : Nat} {es : List Ed} {out : List Nat} {n j m : Nat} {s : List Nat} (h : Rj N es out n j s) (hg : Good N es out) (hes : ∀ e ∈ es, e.2 < N) (hn : nxt N es out = Option.some n) (hj : (next es n)[j]? = Option.some m) (h0 : wt es out m ≠ ((next es n).take j).count m + 1) : Rj N es out n (j + 1) s := ⟨h.toGs, fun x => by
  rw [h.is, rj_step hg hes hn hj]
  exact ⟨.inl, fun h => h.elim id fun h => absurd h.2 h0⟩⟩
theorem Rj.add {N : Nat} {es : List Ed} {out : List Nat} {n j m : Nat} {s : List Nat} (h : Rj N es out n j s) (hg : Good N es out) (hes : ∀ e ∈ es, e.2 < N) (hn : nxt N es out = Option.some n) (hj : (next es n)[j]? = Option.some m) (h0 : wt es out m = ((next es n).take j).count m + 1) : Rj N es out n (j + 1) (put s m) := ⟨h.toGs.put (hes _ (mem_next.1 (List.mem_of_getElem? hj))), fun x => by
  rw [bit_put, Bool.or_eq_true, beq_iff_eq, h.is, rj_step hg hes hn hj]
  exact or_congr Iff.rfl ⟨fun e => ⟨e, h0⟩, fun e => e.1⟩⟩

/-- the first k have been looked at -/
structure R0 (N : Nat) (es : List Ed) (k : Nat) (s : List Nat) : Prop extends Gs N s where
  is : ∀ m, bit s m = true ↔ m < k ∧ wt es [] m = 0
theorem R0.zero (N : Nat) (es : List Ed) : R0 N es 0 [] := ⟨Gs.nil N, fun m => by rw [bit_nil]; simp⟩
theorem R0.stay {N : Nat} {es : List Ed} {k : Nat} {s : List Nat} (h : R0 N es k s) (hk : wt es [] k ≠ 0) : R0 N es (k + 1) s := ⟨h.toGs, fun m => by
  rw [h.is]
  constructor
  · rintro ⟨a, b⟩; exact ⟨by omega, b⟩
  · rintro ⟨a, b⟩
    by_cases e : m = k
    · subst e; exact absurd b hk
    · exact ⟨by omega, b⟩⟩
theorem R0.add {N : Nat} {es : List Ed} {k : Nat} {s : List Nat} (h : R0 N es k s) (hN : k < N) (hk : wt es [] k = 0) : R0 N es (k + 1) (put s k) := ⟨h.toGs.put hN, fun m => by
  rw [bit_put, Bool.or_eq_true, beq_iff_eq, h.is]
  constructor
  · rintro (⟨a, b⟩ | rfl)
    · exact ⟨by omega, b⟩
    · exact ⟨by omega, hk⟩
  · rintro ⟨a, b⟩
    by_cases e : m = k
    · exact .inr e
    · exact .inl ⟨by omega, b⟩⟩
theorem R0.rs {N : Nat} {es : List Ed} {s : List Nat} (h : R0 N es N s) : Rs N es [] s := ⟨h.toGs, fun m => by
  rw [h.is, rdy_wt]
  simp⟩

/-! ### what is behind each node -/
def un (s : List Nat) (m : Nat) (t : List Nat) : List Nat := op for_ (put s m) t
def behW (N : Nat) (es : List Ed) : List (List Nat) := behL [] un es (take N es).reverse (List.replicate N [])
theorem behW_is {N : Nat} {es : List Ed} (hl : (take N es).length = N) (hes : ∀ e ∈ es, e.2 < N) (n : Nat) (hn : n < N) (x : Nat) : bit ((behW N es).getD n []) x = true ↔ Way es n x :=
  beh_right (fun s x => bit s x = true) [] un (fun x => by rw [bit_nil]; simp) (fun s m t x => by
    unfold un
    rw [bit_or, bit_put, Bool.or_eq_true, Bool.or_eq_true, beq_iff_eq, or_assoc]) (good_take N es) hl hes n hn x
theorem behL_gs {N : Nat} {es : List Ed} (hes : ∀ e ∈ es, e.2 < N) : ∀ (l : List Nat) (B : List (List Nat)), (∀ s ∈ B, Gs N s) → ∀ s ∈ behL [] un es l B, Gs N s
  | [], B, h => h
  | n :: l, B, h => by
    unfold behL
    refine behL_gs hes l _ fun s hs => ?_
    rcases List.mem_or_eq_of_mem_set hs with hs | rfl
    · exact h s hs
    · have key : ∀ (k : List Nat) (s : List Nat), (∀ m ∈ k, m < N) → Gs N s → Gs N (k.foldl (fun s m => un s m (B.getD m [])) s) := by
        intro k
        induction k with
        | nil => exact fun s _ h => h
        | cons m k ih =>
          intro s hk hs
          refine ih _ (fun m hm => hk m (List.mem_cons_of_mem _ hm)) ((hs.put (hk m List.mem_cons_self)).or ?_)
          by_cases hm : m < B.length
          · rw [List.getD_eq_getElem?_getD, List.getElem?_eq_getElem hm, Option.getD_some]
            exact h _ (List.getElem_mem hm)
          · rw [List.getD_eq_getElem?_getD, List.getElem?_eq_none (by omega), Option.getD_none]
            exact Gs.nil N
      exact key _ _ (fun m hm => hes _ (mem_next.1 hm)) (Gs.nil N)
theorem behW_gs {N : Nat} {es : List Ed} (hes : ∀ e ∈ es, e.2 < N) : ∀ s ∈ behW N es, Gs N s := behL_gs hes _ _ fun s hs => by
  rw [(List.mem_replicate.1 hs).2]
  exact Gs.nil N
theorem behW_length (N : Nat) (es : List Ed) : (behW N es).length = N := by unfold behW; rw [behL_length]; simp
end Go.Proofs.YtkjmddgnfgbioaaDoor.Gr


namespace Go.Proofs.YtkjmddgnfgbioaaDoor
set_option linter.unusedVariables false
set_option linter.unusedSimpArgs false
set_option maxRecDepth 100000
open Go Go.RowKit

theorem part_get {α : Type} (l vs : List α) (off k : Nat) (h : off + k ≤ l.length) (hv : vs.length = k) (i : Nat) : (l.take off ++ vs ++ l.drop (off + k))[i]? = if i < off then l[i]? else if i < off + k then vs[i - off]? else l[i]? := by
  have l1 : (l.take off).length = off := by simp; omega
  have l2 : (l.take off ++ vs).length = off + k := by simp [hv]; omega
  by_cases h1 : i < off
  · rw [if_pos h1, List.getElem?_append_left (by omega), List.getElem?_append_left (by omega), List.getElem?_take_of_lt h1]
  · rw [if_neg h1]
    by_cases h2 : i < off + k
    · rw [if_pos h2, List.getElem?_append_left (by omega), List.getElem?_append_right (by omega), l1]
    · rw [if_neg h2, List.getElem?_append_right (by omega), l2, List.getElem?_drop]
      congr 1; omega

section
variable {P : Go.Program} {w w' : World} {base : Nat} {e : TypeId} {size g n c : Nat} {xs : List Value} {ops : Array Oper} {rest : List Oper} {o : Oper} {a : Act} {Q : Exit → Act → World → Prop}
theorem row_blk (h : w.ownsRow base e size (.slice (some ⟨g, 0, none⟩) n c) n xs) : ∃ cs, Blk w g e cs ∧ cs.length = c * size ∧ cs.take (n * size) = xs ∧ n ≤ c ∧ c ≤ maxLen ∧ base ≤ g := by
  rcases h.2 with ⟨h', _⟩ | ⟨g1, cap, cur, he, hb, hh, hle, hm, hs, ht⟩
  · cases h'
  · cases he
    exact ⟨cur.toList, hh, by simpa using hs, ht, hle, hm, hb⟩
theorem row_of_blk {cs : List Value} (h : Blk w g e cs) (hl : cs.length = c * size) (hb : base ≤ g) (hn : n ≤ c) (hm : c ≤ maxLen) : w.ownsRow base e size (.slice (some ⟨g, 0, none⟩) n c) n (cs.take (n * size)) :=
  ⟨by rw [List.length_take, hl]; exact Nat.min_eq_left (Nat.mul_le_mul_right _ hn), .inr ⟨g, c, cs.toArray, rfl, hb, h, hn, hm, by simpa using hl, by simp⟩⟩

theorem wpl_set_row (h : w.ownsRow base e size (.slice (some ⟨g, 0, none⟩) n c) n xs) (i : Nat) (u : Value) {ty : TypeId} (hi : (P.info? ty).map (·.size) = some 1) (hk : i < n * size) (hu : u.cells = #[u]) (h1 : u.oneCell' = true)
    (hgd : Region.wanted o (yielded ops a.tmps) = true) {x y : Operand} (ho : o.op = .store ty x y) (hx : a.eval x = .pointer (some ⟨g, i, none⟩)) (hy : a.eval y = u)
    (hK : ∀ w', w'.ownsRow base e size (.slice (some ⟨g, 0, none⟩) n c) n (xs.set i u) → w.grownBy w' (some g) → wpList P ops Q rest (a.put o.dst undef) w') : wpList P ops Q (o :: rest) a w := by
  obtain ⟨cs, hB, hl, rfl, hn, hm, hb⟩ := row_blk h
  have hcn := Nat.mul_le_mul_right size hn
  refine wpl_set_blk hB i u hi (by omega) hu h1 hgd ho hx hy fun w' hB' hg => hK w' ?_ hg
  have := row_of_blk (size := size) (c := c) (n := n) hB' (by simpa using hl) hb hn hm
  rw [List.take_set] at this
  exact this
/-- a store of some of its cells -/
theorem wpl_put_row (h : w.ownsRow base e size (.slice (some ⟨g, 0, none⟩) n c) n xs) (off k : Nat) (vs : List Value) {ty : TypeId} (hi : (P.info? ty).map (·.size) = some k) (hv : vs.length = k) (hk : off + k ≤ n * size) (h1 : ∀ v ∈ vs, v.oneCell' = true)
    (hgd : Region.wanted o (yielded ops a.tmps) = true) {x y : Operand} (ho : o.op = .store ty x y) (hx : a.eval x = .pointer (some ⟨g, off, none⟩)) (hy : a.eval y = .agg vs.toArray)
    (hK : ∀ w', w'.ownsRow base e size (.slice (some ⟨g, 0, none⟩) n c) n (xs.take off ++ vs ++ xs.drop (off + k)) → w.grownBy w' (some g) → wpList P ops Q rest (a.put o.dst undef) w') : wpList P ops Q (o :: rest) a w := by
  obtain ⟨cs, hB, hl, rfl, hn, hm, hb⟩ := row_blk h
  have hcn := Nat.mul_le_mul_right size hn
  refine wpl_store_blk hB ty off k vs hi hv (by omega) h1 hgd ho hx hy fun w' hB' hg => hK w' ?_ hg
  have := row_of_blk (size := size) (c := c) (n := n) hB' (by simp [hl, hv]; omega) hb hn hm
  have e : (cs.take off ++ vs ++ cs.drop (off + k)).take (n * size) = (cs.take (n * size)).take off ++ vs ++ (cs.take (n * size)).drop (off + k) := by
    apply List.ext_getElem?
    intro i
    have hl2 : (cs.take (n * size)).length = n * size := by rw [List.length_take]; omega
    rw [List.getElem?_take, part_get _ _ _ _ (by omega) hv, part_get _ _ _ _ (by omega) hv, List.getElem?_take]
    by_cases hi : i < n * size
    · rw [if_pos hi, if_pos hi]
    · rw [if_neg hi, if_neg hi, if_neg (by omega), if_neg (by omega)]
  rw [← e]
  exact this
end
end Go.Proofs.YtkjmddgnfgbioaaDoor


namespace Go.Proofs.YtkjmddgnfgbioaaDoor
set_option linter.unusedVariables false
set_option linter.unusedSimpArgs false
set_option maxRecDepth 100000
open Go Go.RowKit

structure Rw where
  e : TypeId
  sz : Nat
  v : Value
  n : Nat
  xs : List Value

def Rw.at_ (r : Rw) (B : Nat) (w : World) : Prop := w.ownsRow B r.e r.sz r.v r.n r.xs
def Rw.far (r s : Rw) : Prop := ∀ i, r.v.ownBlock = some i → s.v.ownBlock ≠ some i
theorem Rw.far.symm {r s : Rw} (h : r.far s) : s.far r := fun i h1 h2 => h i h2 h1

structure Own (B : Nat) (w : World) (g : Nat) (t : TypeId) (cs : List Value) (rs : List Rw) : Prop where
  blk : Blk w g t cs
  rows : ∀ r ∈ rs, r.at_ B w
  ap : ∀ (i j : Nat) (r s : Rw), rs[i]? = some r → rs[j]? = some s → i ≠ j → r.far s
  ng : ∀ r ∈ rs, r.v.ownBlock ≠ some g
  base : B ≤ w.heap.size
  lo : B ≤ g

/-- the blocks that it may turn -/
def Tw (g : Nat) (rs : List Rw) (k : Nat) : Prop := k = g ∨ ∃ r ∈ rs, r.v.ownBlock = some k

section
variable {B g : Nat} {t : TypeId} {cs : List Value} {rs : List Rw} {w w' : World} {S : Nat → Prop}
theorem Own.lt (h : Own B w g t cs rs) {k : Nat} (hk : Tw g rs k) : k < w.heap.size := by
  rcases hk with rfl | ⟨r, hr, hk⟩
  · exact h.blk.lt
  · exact ((h.rows r hr).lt k hk).2
theorem Own.ge (h : Own B w g t cs rs) {k : Nat} (hk : Tw g rs k) : B ≤ k := by
  rcases hk with rfl | ⟨r, hr, hk⟩
  · exact h.lo
  · exact own_ge (h.rows r hr) k hk
theorem Own.keeps (h : Own B w g t cs rs) (k : Keeps S w w') (hS : ∀ i, Tw g rs i → ¬ S i) : Own B w' g t cs rs :=
  ⟨h.blk.keeps k (hS g (.inl rfl)), fun r hr => own_keeps (h.rows r hr) k (fun i hi => hS i (.inr ⟨r, hr, hi⟩)), h.ap, h.ng, Nat.le_trans h.base k.size, h.lo⟩
theorem Own.later (h : Own B w g t cs rs) (hb : Below w.heap.size w w') : Own B w' g t cs rs := h.keeps (Keeps.of_below hb (fun _ => False)) (fun _ _ => id)
theorem Own.alloc (h : Own B w g t cs rs) (o : Obj) : Own B (w.alloc o) g t cs rs := h.later (below_alloc (Below.refl _ _) o)
theorem Own.drewN (h : Own B w g t cs rs) (n : Nat) : Own B (w.drewN n) g t cs rs := h.keeps ((Keeps.refl (fun _ => False) w).drewN n) (fun _ _ => id)
theorem Own.row (h : Own B w g t cs rs) (i : Nat) {r : Rw} (hi : rs[i]? = some r) : r.at_ B w := h.rows r (List.mem_of_getElem? hi)
/-- only its blocks are turned: what lies below stays -/
theorem Own.below (h : Own B w g t cs rs) (k : Keeps (Tw g rs) w w') : Below B w w' := k.below h.base (fun _ hi => h.ge hi)

/-- one of its rows, and its own cells, are turned -/
theorem Own.put (h : Own B w g t cs rs) {i : Nat} {r : Rw} (hi : rs[i]? = some r) {w1 : World} {v' : Value} {n' : Nat} {xs' : List Value} (hown : w1.ownsRow B r.e r.sz v' n' xs') (hg : w.grownBy w1 r.v.ownBlock)
    (hv : v'.ownBlock = r.v.ownBlock ∨ ∃ k, w.heap.size ≤ k ∧ v'.ownBlock = some k) :
    Blk w1 g t cs ∧ ∀ w2 cs', Blk w2 g t cs' → w1.grownBy w2 (some g) → Own B w2 g t cs' (rs.set i ⟨r.e, r.sz, v', n', xs'⟩) ∧ Keeps (Tw g rs) w w2 ∧ (∀ k, Tw g (rs.set i ⟨r.e, r.sz, v', n', xs'⟩) k → Tw g rs k ∨ w.heap.size ≤ k) := by
  have hm := List.mem_of_getElem? hi
  have kk : Keeps (fun k => r.v.ownBlock = some k) w w1 := (Keeps.of_grown hg).mono (fun i hi => hi.symm)
  have hlt : ∀ k, Tw g rs k → k < w.heap.size := fun k hk => h.lt hk
  have far : ∀ k, k < w.heap.size → r.v.ownBlock ≠ some k → v'.ownBlock ≠ some k := fun k hk hne e => by
    rcases hv with h | ⟨j, hj, h⟩
    · exact hne (h ▸ e)
    · rw [h] at e
      injection e with e
      omega
  refine ⟨h.blk.keeps kk (h.ng r hm), fun w2 cs' hb2 hg2 => ?_⟩
  have ks : Keeps (fun k => k = g) w1 w2 := (Keeps.of_grown hg2).mono (fun i hi => by injection hi)
  have hset : ∀ j s, (rs.set i ⟨r.e, r.sz, v', n', xs'⟩)[j]? = some s → (j = i ∧ s = ⟨r.e, r.sz, v', n', xs'⟩) ∨ (j ≠ i ∧ rs[j]? = some s) := fun j s hs => by
    by_cases e : j = i
    · subst e
      rw [List.getElem?_set_self (List.getElem?_eq_some_iff.1 hi).1] at hs
      injection hs with hs
      exact .inl ⟨rfl, hs.symm⟩
    · rw [List.getElem?_set_ne (fun e' => e e'.symm)] at hs
      exact .inr ⟨e, hs⟩
  have hng := far g h.blk.lt (h.ng r hm)
  have hold : ∀ s ∈ rs, s.far r → s.at_ B w2 := fun s hs hsr => own_keeps (own_keeps (h.rows s hs) kk (fun k hk e => hsr k hk e)) ks (fun k hk e => h.ng s hs (e ▸ hk))
  refine ⟨⟨hb2, fun s hs => ?_, fun j l s u hs hu hjl => ?_, fun s hs => ?_, by have := h.base; have := kk.size; have := ks.size; omega, h.lo⟩, ?_, fun k hk => ?_⟩
  · obtain ⟨j, hj⟩ := List.getElem?_of_mem hs
    rcases hset j s hj with ⟨-, rfl⟩ | ⟨hne, hj⟩
    · exact own_keeps hown ks (fun k hk e => hng (e ▸ hk))
    · exact hold s (List.mem_of_getElem? hj) (h.ap j i s r hj hi hne)
  · rcases hset j s hs with ⟨e1, rfl⟩ | ⟨hj, hs2⟩
    · rcases hset l u hu with ⟨e2, rfl⟩ | ⟨hl, hu2⟩
      · exact absurd (e1.trans e2.symm) hjl
      · exact fun k hk e => far k (hlt k (.inr ⟨u, List.mem_of_getElem? hu2, e⟩)) (fun e' => h.ap i l r u hi hu2 (fun e3 => hl e3.symm) k e' e) hk
    · rcases hset l u hu with ⟨e2, rfl⟩ | ⟨hl, hu2⟩
      · exact fun k hk e => far k (hlt k (.inr ⟨s, List.mem_of_getElem? hs2, hk⟩)) (fun e' => h.ap j i s r hs2 hi hj k hk e') e
      · exact h.ap j l s u hs2 hu2 hjl
  · obtain ⟨j, hj⟩ := List.getElem?_of_mem hs
    rcases hset j s hj with ⟨-, rfl⟩ | ⟨hne, hj⟩
    · exact hng
    · exact h.ng s (List.mem_of_getElem? hj)
  · exact (kk.mono (fun k hk => .inr ⟨r, hm, hk⟩)).trans (ks.mono (fun k hk => .inl hk))
  · rcases hk with rfl | ⟨s, hs, hk⟩
    · exact .inl (.inl rfl)
    · obtain ⟨j, hj⟩ := List.getElem?_of_mem hs
      rcases hset j s hj with ⟨-, rfl⟩ | ⟨hne, hj⟩
      · rcases hv with h | ⟨k', hk', h⟩
        · exact .inl (.inr ⟨r, hm, h ▸ hk⟩)
        · rw [show v'.ownBlock = some k from hk] at h
          injection h with h
          exact .inr (by omega)
      · exact .inl (.inr ⟨s, List.mem_of_getElem? hj, hk⟩)
/-- its own cells alone are turned -/
theorem Own.cells (h : Own B w g t cs rs) {w2 : World} {cs' : List Value} (hb2 : Blk w2 g t cs') (hg2 : w.grownBy w2 (some g)) : Own B w2 g t cs' rs ∧ Keeps (Tw g rs) w w2 := by
  have ks : Keeps (fun k => k = g) w w2 := (Keeps.of_grown hg2).mono (fun i hi => by injection hi)
  exact ⟨⟨hb2, fun s hs => own_keeps (h.rows s hs) ks (fun k hk e => h.ng s hs (e ▸ hk)), h.ap, h.ng, Nat.le_trans h.base ks.size, h.lo⟩, ks.mono (fun k hk => .inl hk)⟩

/-- it has been turned since the world w0, in which it had the blocks T0 -/
structure OwnTo (B : Nat) (w0 : World) (T0 : Nat → Prop) (w : World) (g : Nat) (t : TypeId) (cs : List Value) (rs : List Rw) : Prop where
  own : Own B w g t cs rs
  kp : Keeps T0 w0 w
  nw : ∀ k, Tw g rs k → T0 k ∨ w0.heap.size ≤ k
theorem OwnTo.start (h : Own B w g t cs rs) : OwnTo B w (Tw g rs) w g t cs rs := ⟨h, Keeps.refl _ _, fun _ hk => .inl hk⟩
theorem OwnTo.step {w0 : World} {T0 : Nat → Prop} {cs' : List Value} {rs' : List Rw} (h : OwnTo B w0 T0 w g t cs rs) (h' : OwnTo B w (Tw g rs) w' g t cs' rs') : OwnTo B w0 T0 w' g t cs' rs' :=
  ⟨h'.own, h.kp.step h'.kp (fun i hi hT => (h.nw i hT).resolve_right (by omega)), fun k hk => (h'.nw k hk).elim (fun h1 => h.nw k h1) (fun h1 => .inr (by have := h.kp.size; omega))⟩
theorem OwnTo.later {w0 : World} {T0 : Nat → Prop} (h : OwnTo B w0 T0 w g t cs rs) (hb : Below w.heap.size w w') : OwnTo B w0 T0 w' g t cs rs :=
  ⟨h.own.later hb, h.kp.trans (Keeps.of_below hb _), h.nw⟩
theorem OwnTo.since {w0 w1 : World} {T0 : Nat → Prop} (h : OwnTo B w1 T0 w g t cs rs) (hb : Below w0.heap.size w0 w1) : OwnTo B w0 T0 w g t cs rs :=
  ⟨h.own, (Keeps.of_below hb _).trans h.kp, fun k hk => (h.nw k hk).imp id fun h1 => by have := hb.size; omega⟩
theorem Own.put_to (h : Own B w g t cs rs) {i : Nat} {r : Rw} (hi : rs[i]? = some r) {w1 : World} {v' : Value} {n' : Nat} {xs' : List Value} (hown : w1.ownsRow B r.e r.sz v' n' xs') (hg : w.grownBy w1 r.v.ownBlock)
    (hv : v'.ownBlock = r.v.ownBlock ∨ ∃ k, w.heap.size ≤ k ∧ v'.ownBlock = some k) {w2 : World} {cs' : List Value} (hb2 : Blk w2 g t cs') (hg2 : w1.grownBy w2 (some g)) : OwnTo B w (Tw g rs) w2 g t cs' (rs.set i ⟨r.e, r.sz, v', n', xs'⟩) := by
  obtain ⟨h1, h2, h3⟩ := (h.put hi hown hg hv).2 w2 cs' hb2 hg2
  exact ⟨h1, h2, h3⟩
theorem Own.cells_to (h : Own B w g t cs rs) {w2 : World} {cs' : List Value} (hb2 : Blk w2 g t cs') (hg2 : w.grownBy w2 (some g)) : OwnTo B w (Tw g rs) w2 g t cs' rs :=
  ⟨(h.cells hb2 hg2).1, (h.cells hb2 hg2).2, fun _ hk => .inl hk⟩
end

/-- what 'append' of a row v0 of one's own has made, since the world w1 -/
def FPush (w1 : World) (B : Nat) (e : TypeId) (sz : Nat) (v0 : Value) (n : Nat) (xs : List Value) : Fact (fun w w' => Below w.heap.size w w') :=
  ⟨fun v w => ∃ wa, Below w1.heap.size w1 wa ∧ wa.grownBy w v0.ownBlock ∧ w.ownsRow B e sz v n xs ∧ (v.ownBlock = v0.ownBlock ∨ ∃ k, wa.heap.size ≤ k ∧ v.ownBlock = some k),
    fun v w w' ⟨wa, h1, h2, h3, h4⟩ k => ⟨wa, h1, grown_trans h2 (grown_of_below k _), own_keeps h3 (Keeps.of_below k (fun _ => False)) (fun _ _ => id), h4⟩⟩

/-- the first k of a row of one's own -/
theorem own_prefix {w : World} {B sz n k : Nat} {e : TypeId} {A : Option Addr} {c : Nat} {xs : List Value} (h : w.ownsRow B e sz (.slice A n c) n xs) (hk : k ≤ n) : w.ownsRow B e sz (.slice A k c) k (xs.take (k * sz)) := by
  have hm := Nat.mul_le_mul_right sz hk
  rcases h.2 with ⟨h1, h2⟩ | ⟨g, cap, cur, h1, h2, h3, h4, h5, h6, h7⟩
  · injection h1 with e1 e2 e3
    subst e1 e2 e3
    have : k = 0 := by omega
    subst this
    rw [Nat.zero_mul, List.take_zero]
    exact World.ownsRow_nil _ _ _ _
  · injection h1 with e1 e2 e3
    subst e1 e3
    refine ⟨by rw [List.length_take, h.1]; omega, .inr ⟨g, c, cur, rfl, h2, h3, by omega, h5, h6, ?_⟩⟩
    rw [← h7, List.take_take, Nat.min_eq_left hm]
end Go.Proofs.YtkjmddgnfgbioaaDoor


namespace Go.Proofs.YtkjmddgnfgbioaaDoor
set_option linter.unusedVariables false
set_option linter.unusedSimpArgs false
set_option maxRecDepth 100000
open Go

section
variable {P : Program} {ops : Array Oper} {Q : Exit → Act → World → Prop} {S : World → Prop} {E : World → World → Prop} {mk fl : Nat → Bool}

/-- by its edges j comes behind i -/
def reachB (ops : Array Oper) : Nat → Nat → Nat → Bool
  | 0, j, i => j == i
  | f + 1, j, i => j == i || (match ops[j]? with
    | some o => o.after.any fun e => Region.binds .any e && reachB ops f e.on i
    | none => false)

theorem reach_closed {listed : Array Bool} (hdown : ∀ j o, listed.getD j false = true → ops[j]? = some o → ∀ e ∈ o.after, Region.binds .any e = true → listed.getD e.on false = true) :
    ∀ (f j i : Nat), reachB ops f j i = true → listed.getD j false = true → listed.getD i false = true := by
  intro f
  induction f with
  | zero =>
    intro j i h hj
    have : j = i := by simpa [reachB] using h
    rw [← this]; exact hj
  | succ f ih =>
    intro j i h hj
    unfold reachB at h
    rw [Bool.or_eq_true] at h
    rcases h with h | h
    · have : j = i := by simpa using h
      rw [← this]; exact hj
    · split at h
      · rename_i o ho
        obtain ⟨n, hn, hb⟩ := Array.any_eq_true.1 h
        rw [Bool.and_eq_true] at hb
        exact ih _ _ hb.2 (hdown j o hj ho _ (Array.getElem_mem hn) hb.1)
      · cases h

def markB (ops : Array Oper) (mk fl : Nat → Bool) (ms : List Nat) : Bool :=
  ms.all fun m => decide (m < ops.size) && (List.range ops.size).all fun i => i == m || (if i < m then fl i || reachB ops 6 m i else reachB ops 6 i m)

structure Marked (ops : Array Oper) (mk fl : Nat → Bool) : Prop where
  lt : ∀ m, mk m = true → m < ops.size
  before : ∀ m i, mk m = true → i < m → fl i = false → reachB ops 6 m i = true
  after : ∀ m i, mk m = true → m < i → i < ops.size → reachB ops 6 i m = true

theorem marked_of {ms : List Nat} (hms : ∀ m, mk m = true → m ∈ ms) (h : markB ops mk fl ms = true) : Marked ops mk fl := by
  have key := List.all_eq_true.1 h
  refine ⟨fun m hm => ?_, fun m i hm hi hf => ?_, fun m i hm hi hlt => ?_⟩
  · have := key m (hms m hm)
    rw [Bool.and_eq_true, decide_eq_true_eq] at this
    exact this.1
  · have := key m (hms m hm)
    rw [Bool.and_eq_true, decide_eq_true_eq] at this
    have h2 := List.all_eq_true.1 this.2 i (List.mem_range.2 (by omega))
    have hne : (i == m) = false := by simp; omega
    rw [hne, Bool.false_or, if_pos hi, hf, Bool.false_or] at h2
    exact h2
  · have := key m (hms m hm)
    rw [Bool.and_eq_true, decide_eq_true_eq] at this
    have h2 := List.all_eq_true.1 this.2 i (List.mem_range.2 hlt)
    have hne : (i == m) = false := by simp; omega
    rw [hne, Bool.false_or, if_neg (by omega)] at h2
    exact h2

/-- what is known since the last mark -/
def factsM (mk : Nat → Bool) : Nat → List (Oper × Kind E) → List (Tmp × Fact E) → List (Tmp × Fact E)
  | _, [], Fs => Fs
  | k, p :: l, Fs => factsM mk (k + 1) l (addFact (cond (mk k) [] Fs) p)

theorem factsM_snoc : ∀ (l : List (Oper × Kind E)) (k : Nat) (Fs : List (Tmp × Fact E)) (p : Oper × Kind E), factsM mk k (l ++ [p]) Fs = addFact (cond (mk (k + l.length)) [] (factsM mk k l Fs)) p
  | [], k, Fs, p => rfl
  | q :: l, k, Fs, p => by
    show factsM mk (k + 1) (l ++ [p]) _ = _
    rw [factsM_snoc l (k + 1), List.length_cons, show k + 1 + l.length = k + (l.length + 1) by omega]
    rfl

theorem mem_addFact {Fs : List (Tmp × Fact E)} {p : Oper × Kind E} {t : Tmp} {F : Fact E} (h : (t, F) ∈ addFact Fs p) : (t, F) ∈ Fs ∨ (p.2 = .fresh F ∧ p.1.dst = some t) := by
  obtain ⟨o, k⟩ := p
  rcases k with v | G
  · exact .inl (by simpa [addFact] using h)
  · rcases hd : o.dst with _ | d
    · exact .inl (by simpa [addFact, hd] using h)
    · simp only [addFact, hd, List.mem_cons, Prod.mk.injEq] at h
      rcases h with ⟨rfl, rfl⟩ | h
      · exact .inr ⟨rfl, rfl⟩
      · exact .inl h

theorem mem_factsM {t : Tmp} {F : Fact E} : ∀ {l : List (Oper × Kind E)} {k : Nat} {Fs : List (Tmp × Fact E)}, (t, F) ∈ factsM mk k l Fs →
    ((t, F) ∈ Fs ∧ ∀ m, mk m = true → k ≤ m → m < k + l.length → False) ∨ ∃ (i : Nat) (p : Oper × Kind E), l[i]? = some p ∧ p.2 = .fresh F ∧ p.1.dst = some t ∧ ∀ m, mk m = true → k + i < m → m < k + l.length → False := by
  intro l
  induction l with
  | nil => exact fun h => .inl ⟨h, fun m _ h1 h2 => by simp at h2; omega⟩
  | cons q l ih =>
    intro k Fs h
    rcases ih (show (t, F) ∈ factsM mk (k + 1) l _ from h) with ⟨h, h'⟩ | ⟨i, p, h1, h2, h3, h4⟩
    · rcases mem_addFact h with h | ⟨h1, h2⟩
      · rcases hk : mk k with _ | _
        · rw [hk] at h
          refine .inl ⟨h, fun m hm h1 h2 => ?_⟩
          rcases Nat.lt_or_ge k m with h3 | h3
          · exact h' m hm (by omega) (by rw [List.length_cons] at h2; omega)
          · have : m = k := by omega
            rw [this, hk] at hm
            cases hm
        · rw [hk] at h; cases h
      · exact .inr ⟨0, q, rfl, h1, h2, fun m hm h1 h2 => h' m hm (by omega) (by rw [List.length_cons] at h2; omega)⟩
    · exact .inr ⟨i + 1, p, by simpa using h1, h2, h3, fun m hm h1 h2 => h4 m hm (by omega) (by rw [List.length_cons] at h2; omega)⟩

def SettleM (P : Program) (ops : Array Oper) (S : World → Prop) (E : World → World → Prop) (mk fl : Nat → Bool) (Z : (Env → Act) → List (Tmp × Fact E) → Prop) : Nat → List Oper → (Env → Act) → List (Tmp × Fact E) → Prop
  | _, [], A, Fs => Z A Fs
  | k, o :: rest, A, Fs =>
    (∃ v, (∀ ρ w, S w → FactsOK (o.looksAt ops) ρ w (cond (fl k) [] Fs) → StepTo P ops S (cond (mk k) (fun _ _ => True) E) o (A ρ) w (fun u _ => u = v)) ∧ SettleM P ops S E mk fl Z (k + 1) rest (fun ρ => (A ρ).put o.dst v) (cond (mk k) [] Fs)) ∨
    (∃ d F, o.dst = some d ∧ (∀ ρ w, S w → FactsOK (o.looksAt ops) ρ w (cond (fl k) [] Fs) → StepTo P ops S (cond (mk k) (fun _ _ => True) E) o (A ρ) w F.holds) ∧ SettleM P ops S E mk fl Z (k + 1) rest (fun ρ => (A ρ).put (some d) (ρ d)) ((d, F) :: cond (mk k) [] Fs))

structure PlanM (P : Program) (ops : Array Oper) (S : World → Prop) (mk fl : Nat → Bool) (a : Act) (l : List (Oper × Kind E)) : Prop where
  dst : ∀ p ∈ l, (∃ F, p.2 = .fresh F) → ∃ d, p.1.dst = some d
  step : ∀ pre p post, l = pre ++ p :: post → ∀ ρ w, S w → FactsOK (p.1.looksAt ops) ρ w (cond (fl pre.length) [] (factsM mk 0 pre [])) → StepTo P ops S (cond (mk pre.length) (fun _ _ => True) E) p.1 (actOf a ρ pre) w p.2.rel

theorem planM_snoc {a : Act} {l : List (Oper × Kind E)} (h : PlanM P ops S mk fl a l) {p : Oper × Kind E} (h1 : (∃ F, p.2 = .fresh F) → ∃ d, p.1.dst = some d)
    (h2 : ∀ ρ w, S w → FactsOK (p.1.looksAt ops) ρ w (cond (fl l.length) [] (factsM mk 0 l [])) → StepTo P ops S (cond (mk l.length) (fun _ _ => True) E) p.1 (actOf a ρ l) w p.2.rel) : PlanM P ops S mk fl a (l ++ [p]) := by
  refine ⟨fun q hq hf => ?_, fun pre q post he => ?_⟩
  · rcases List.mem_append.1 hq with hq | hq
    · exact h.dst q hq hf
    · rw [List.mem_singleton.1 hq] at hf ⊢
      exact h1 hf
  · rcases List.eq_nil_or_concat post with rfl | ⟨post', q', rfl⟩
    · have := List.append_inj' he rfl
      obtain ⟨e1, e2⟩ := this
      injection e2 with e2
      subst e1 e2
      exact h2
    · have e : pre ++ q :: (post' ++ [q']) = (pre ++ q :: post') ++ [q'] := by simp
      rw [List.concat_eq_append, e] at he
      exact h.step pre q post' (List.append_inj' he rfl).1

theorem settleM_plan {Z : (Env → Act) → List (Tmp × Fact E) → Prop} {a : Act} : ∀ (l : List Oper) (pre : List (Oper × Kind E)), PlanM P ops S mk fl a pre → SettleM P ops S E mk fl Z pre.length l (fun ρ => actOf a ρ pre) (factsM mk 0 pre []) →
    ∃ full : List (Oper × Kind E), PlanM P ops S mk fl a full ∧ full.map (·.1) = pre.map (·.1) ++ l ∧ Z (fun ρ => actOf a ρ full) (factsM mk 0 full []) := by
  intro l
  induction l with
  | nil => exact fun pre hp h => ⟨pre, hp, by simp, h⟩
  | cons o rest ih =>
    intro pre hp h
    rcases h with ⟨v, h1, h2⟩ | ⟨d, F, hd, h1, h2⟩
    · obtain ⟨full, q1, q2, q3⟩ := ih (pre ++ [(o, .fixed v)]) (planM_snoc (p := (o, .fixed v)) hp (fun ⟨F, h⟩ => by cases h) h1) (by
        have e1 : (fun ρ => actOf a ρ (pre ++ [(o, (Kind.fixed v : Kind E))])) = fun ρ => (actOf a ρ pre).put o.dst v := by
          funext ρ; simp [actOf, Kind.val]
        have e2 : factsM mk 0 (pre ++ [(o, (Kind.fixed v : Kind E))]) [] = cond (mk pre.length) [] (factsM mk 0 pre []) := by rw [factsM_snoc, Nat.zero_add]; rfl
        rw [e1, e2, List.length_append]
        exact h2)
      exact ⟨full, q1, by rw [q2]; simp, q3⟩
    · obtain ⟨full, q1, q2, q3⟩ := ih (pre ++ [(o, .fresh F)]) (planM_snoc (p := (o, .fresh F)) hp (fun _ => ⟨d, hd⟩) h1) (by
        have e1 : (fun ρ => actOf a ρ (pre ++ [(o, (Kind.fresh F : Kind E))])) = fun ρ => (actOf a ρ pre).put (some d) (ρ d) := by
          funext ρ; simp [actOf, Kind.val, hd]
        have e2 : factsM mk 0 (pre ++ [(o, (Kind.fresh F : Kind E))]) [] = (d, F) :: cond (mk pre.length) [] (factsM mk 0 pre []) := by rw [factsM_snoc, Nat.zero_add]; simp [addFact, hd]
        rw [e1, e2, List.length_append]
        exact h2)
      exact ⟨full, q1, by rw [q2]; simp, q3⟩

theorem any_order_m {a0 : Act} {full : List (Oper × Kind E)} (hops : full.map (·.1) = ops.toList) (hlin : Linear ops) (hmk : Marked ops mk fl) (hp : PlanM P ops S mk fl a0 full)
    (hZ : ∀ ρ w, S w → (∀ t F, (t, F) ∈ factsM mk 0 full [] → F.holds (ρ t) w) → Q .normal (actOf a0 ρ full) w) :
    ∀ (fuel : Nat) (listed : Array Bool) (a : Act) (w : World) (ρ : Env), listed.size = ops.size → (∀ i j o, listed.getD j false = true → ops[j]? = some o → (∃ e ∈ o.after, Region.binds .any e = true ∧ e.on = i) → listed.getD i false = true) →
      (∃ todo : List Nat, todo.length ≤ fuel ∧ ∀ i, i < ops.size → listed.getD i false = false → i ∈ todo) →
      Holds a0 full (fun i => listed.getD i false = true) ρ a → S w → (∀ (i : Nat) (p : Oper × Kind E) (F : Fact E) (d : Tmp), listed.getD i false = true → (∀ m, mk m = true → i < m → listed.getD m false = false) → full[i]? = some p → p.2 = .fresh F → p.1.dst = some d → F.holds (ρ d) w) →
      wpAny P .any ops Q fuel listed a w := by
  have hget : ∀ (i : Nat) (p : Oper × Kind E), full[i]? = some p → ops[i]? = some p.1 := fun i p h => by
    have : (full.map (·.1))[i]? = some p.1 := by simp [h]
    rw [hops] at this
    simpa using this
  have hlen : full.length = ops.size := by
    have := congrArg List.length hops
    simpa using this
  have hget' : ∀ (i : Nat) (o : Oper), ops[i]? = some o → ∃ p : Oper × Kind E, full[i]? = some p ∧ p.1 = o := fun i o h => by
    have hi : i < full.length := by rw [hlen]; exact (Array.getElem?_eq_some_iff.1 h).1
    have h1 := hget i _ (List.getElem?_eq_getElem hi)
    rw [h] at h1
    injection h1 with h1
    exact ⟨_, List.getElem?_eq_getElem hi, h1.symm⟩
  have hdist : ∀ (i j : Nat) (p q : Oper × Kind E) (d : Tmp), i < j → full[i]? = some p → full[j]? = some q → p.1.dst = some d → q.1.dst ≠ some d := fun i j p q d hij h1 h2 => hlin.dist i j _ _ d hij (hget i p h1) (hget j q h2)
  have hdist2 : ∀ (i j : Nat) (p q : Oper × Kind E) (d : Tmp), i ≠ j → full[i]? = some p → full[j]? = some q → p.1.dst = some d → q.1.dst ≠ some d := fun i j p q d hij h1 h2 hd hd' => by
    rcases Nat.lt_or_gt_of_ne hij with h | h
    · exact hdist i j p q d h h1 h2 hd hd'
    · exact hdist j i q p d h h2 h1 hd' hd
  -- all have come up
  have fin : ∀ (listed : Array Bool) (a : Act) (w : World) (ρ : Env), listed.size = ops.size → (∀ i, i < ops.size → listed.getD i false = true) → Holds a0 full (fun i => listed.getD i false = true) ρ a → S w →
      (∀ (i : Nat) (p : Oper × Kind E) (F : Fact E) (d : Tmp), listed.getD i false = true → (∀ m, mk m = true → i < m → listed.getD m false = false) → full[i]? = some p → p.2 = .fresh F → p.1.dst = some d → F.holds (ρ d) w) → Q .normal a w := fun listed a w ρ hsz hall hH hS hF => by
    have h1 : Holds a0 full (fun i => i < full.length) ρ (actOf a0 ρ full) := by
      have := holds_prefix a0 full ρ hdist full.length (Nat.le_refl _)
      rwa [List.take_length] at this
    have h2 : Holds a0 full (fun i => i < full.length) ρ a :=
      ⟨hH.defers, hH.size, fun t ht => hH.far t fun i p hi hp => ht i p (List.getElem?_eq_some_iff.1 hp).1 hp, fun i p t hi => hH.near i p t (hall i (by omega))⟩
    rw [h2.unique h1]
    refine hZ ρ w hS fun t F hm => ?_
    rcases mem_factsM hm with ⟨h, -⟩ | ⟨i, p, h1, h2, h3, h4⟩
    · cases h
    · refine hF i p F t (hall i (by have := (List.getElem?_eq_some_iff.1 h1).1; omega)) (fun m hm him => ?_) h1 h2 h3
      exact absurd (hmk.lt m hm) (fun h => h4 m hm (by omega) (by omega))
  have none_left : ∀ listed : Array Bool, listed.size = ops.size → Region.ready .any ops listed = [] → ∀ n i, i < n → i < ops.size → listed.getD i false = true := by
    intro listed hsz hr n
    induction n with
    | zero => intro i h; omega
    | succ n ih =>
      intro i hi hlt
      cases hli : listed.getD i false with
      | true => rfl
      | false =>
        have ho : ops[i]? = some ops[i] := Array.getElem?_eq_getElem hlt
        have hmem : i ∈ Region.ready .any ops listed := by
          rw [mem_ready]
          refine ⟨?_, _, ho, fun e he hb => ?_⟩
          · simp only [Array.getD, hsz, hlt, dif_pos] at hli ⊢
            exact hli
          · have := hlin.back i _ ho e he hb
            exact ih e.on (by omega) (by omega)
        rw [hr] at hmem
        cases hmem
  intro fuel
  induction fuel with
  | zero =>
    intro listed a w ρ hsz hdown ⟨todo, htodo, hin⟩ hH hS hF
    have hall : ∀ i, i < ops.size → listed.getD i false = true := fun i hi => by
      cases hli : listed.getD i false with
      | true => rfl
      | false =>
        have := hin i hi hli
        rw [List.eq_nil_of_length_eq_zero (Nat.le_zero.1 htodo)] at this
        cases this
    refine ⟨?_, fin listed a w ρ hsz hall hH hS hF⟩
    rw [List.eq_nil_iff_forall_not_mem]
    intro i hi
    obtain ⟨h0, o, ho, _⟩ := mem_ready.1 hi
    have hlt := (Array.getElem?_eq_some_iff.1 ho).1
    have := hall i hlt
    simp only [Array.getD, hsz, hlt, dif_pos] at this h0
    rw [this] at h0
    cases h0
  | succ fuel ih =>
    intro listed a w ρ hsz hdown ⟨todo, htodo, hin⟩ hH hS hF
    refine ⟨fun hr => fin listed a w ρ hsz (fun i hi => none_left listed hsz hr (i + 1) i (by omega) hi) hH hS hF, fun i hi => ?_⟩
    obtain ⟨h0, o, ho, hall⟩ := mem_ready.1 hi
    have hlt := (Array.getElem?_eq_some_iff.1 ho).1
    have h0' : listed.getD i false = false := by
      simp only [Array.getD, hsz, hlt, dif_pos] at h0 ⊢
      exact h0
    obtain ⟨p, hpi, rfl⟩ := hget' i o ho
    have hil : i < full.length := by omega
    have hpre : Holds a0 full (fun j => j < i) ρ (actOf a0 ρ (full.take i)) := holds_prefix a0 full ρ hdist i (by omega)
    have hsplit : full = full.take i ++ p :: full.drop (i + 1) := by
      have : full[i] = p := by have := List.getElem?_eq_getElem hil; rw [hpi] at this; injection this with this; exact this.symm
      rw [← this, List.getElem_cons_drop, List.take_append_drop]
    have hstep := hp.step _ p _ hsplit ρ w hS
    have conf : ∀ (j : Nat) (q : Oper × Kind E), full[j]? = some q → ∀ t, q.1.dst = some t → t ∈ p.1.looksAt ops → (listed.getD j false = true ↔ j < i) := by
      intro j q hq t hd hl
      have hoj := hget j q hq
      rcases Nat.lt_trichotomy j i with h | h | h
      · refine ⟨fun _ => h, fun _ => ?_⟩
        rcases hlin.wait j i _ _ h hoj ho with hap | ⟨e, he, hb, hon⟩
        · exact absurd hl ((Oper.apart_spec hap).1 t hd)
        · rw [← hon]; exact hall e he hb
      · subst h
        rw [hpi] at hq
        injection hq with hq
        subst hq
        exact absurd hl (hlin.self j _ t ho hd)
      · refine ⟨fun hj => ?_, fun h' => by omega⟩
        exfalso
        rcases hlin.wait i j _ _ h ho hoj with hap | ⟨e, he, hb, hon⟩
        · exact absurd hl ((Oper.apart_spec hap).2.2 t hd)
        · have := hdown i j _ hj hoj ⟨e, he, hb, hon⟩
          rw [h0'] at this
          cases this
    have hdown' : ∀ j o, listed.getD j false = true → ops[j]? = some o → ∀ e ∈ o.after, Region.binds .any e = true → listed.getD e.on false = true := fun j o hj ho e he hb => hdown e.on j o hj ho ⟨e, he, hb, rfl⟩
    have later : ∀ m, mk m = true → i < m → fl i = false → listed.getD m false = false := fun m hm him hfl => by
      cases hlm : listed.getD m false with
      | false => rfl
      | true =>
        have := reach_closed hdown' 6 m i (hmk.before m i hm him hfl) hlm
        rw [h0'] at this
        cases this
    have hfacts : FactsOK (p.1.looksAt ops) ρ w (cond (fl i) [] (factsM mk 0 (full.take i) [])) := factsOK_of _ fun t F hm hl => by
      rcases hfl : fl i with _ | _
      case true => rw [hfl] at hm; cases hm
      rw [hfl] at hm
      rcases mem_factsM hm with ⟨h, -⟩ | ⟨j, q, h1, h2, h3, h4⟩
      · cases h
      · have hji : j < i := by
          have := (List.getElem?_eq_some_iff.1 h1).1
          rw [List.length_take] at this
          omega
        have hq : full[j]? = some q := by
          rw [List.getElem?_take, if_pos hji] at h1
          exact h1
        refine hF j q F t ((conf j q hq t h3 (by simpa using hl)).2 hji) (fun m hm hjm => ?_) hq h2 h3
        rcases Nat.lt_trichotomy i m with h | h | h
        · exact later m hm h hfl
        · rw [← h]; exact h0'
        · exact absurd (h4 m hm (by omega) (by rw [List.length_take]; omega)) id
    have hst := hstep (by rw [show (full.take i).length = i by rw [List.length_take]; omega]; exact hfacts)
    have hag : ∀ t, t ∈ p.1.looksAt ops → a.tmps[t]? = (actOf a0 ρ (full.take i)).tmps[t]? := fun t ht =>
      hH.agree hpre t fun j q hq hd => conf j q hq t hd ht
    have hexec : execOp a.eval p.1 = execOp (actOf a0 ρ (full.take i)).eval p.1 := execOp_congr p.1 (fun cs b => hlin.sel i _ cs b ho) fun x hx => by
      cases x with
      | tmp t =>
        have := hag t (List.mem_append_left _ (List.mem_filterMap.2 ⟨.tmp t, by simpa using hx, rfl⟩))
        simp only [Act.eval, Array.getD_eq_getD_getElem?]
        rw [this]
      | _ => rfl
    have hwant : Region.wanted p.1 (yielded ops a.tmps) = Region.wanted p.1 (yielded ops (actOf a0 ρ (full.take i)).tmps) := by
      unfold Region.wanted
      cases hg : p.1.guard with
      | none => rfl
      | some gw =>
        obtain ⟨g, want⟩ := gw
        have : yielded ops a.tmps g = yielded ops (actOf a0 ρ (full.take i)).tmps g := by
          unfold yielded
          cases ht : (ops[g]?).bind (·.dst) with
          | none => rfl
          | some t =>
            have := hag t (List.mem_append_right _ (by simp [hg, ht]))
            simp only [Option.bind_some, this]
        simp only [this]
    have size_eq : (actOf a0 ρ (full.take i)).tmps.size = a.tmps.size := hpre.size.trans hH.size.symm
    -- the way on
    have go : ∀ v w', p.2.rel v w' → S w' → (∀ (j : Nat) (q : Oper × Kind E) (F : Fact E) (d : Tmp), listed.getD j false = true → (∀ m, mk m = true → j < m → (listed.setIfInBounds i true).getD m false = false) → full[j]? = some q → q.2 = .fresh F → q.1.dst = some d → F.holds (ρ d) w') →
        wpAny P .any ops Q fuel (listed.setIfInBounds i true) (a.put p.1.dst v) w' := by
      intro v w' hR hS' hF'
      have next : ∀ ρ' : Env, p.2.val ρ' p.1 = v → (∀ j q, j ≠ i → full[j]? = some q → q.2.val ρ' q.1 = q.2.val ρ q.1) → (∀ j q F d, j ≠ i → full[j]? = some q → q.2 = .fresh F → q.1.dst = some d → ρ' d = ρ d) → (∀ F d, p.2 = .fresh F → p.1.dst = some d → F.holds (ρ' d) w') →
          wpAny P .any ops Q fuel (listed.setIfInBounds i true) (a.put p.1.dst v) w' := by
        intro ρ' hv hothers hd' hself
        have hset : ∀ j, (listed.setIfInBounds i true).getD j false = true ↔ j = i ∨ listed.getD j false = true := fun j => by
          by_cases hji : j = i
          · subst hji
            simp [Array.getD, hsz, hlt]
          · rw [getD_set_ne false (Ne.symm hji)]
            simp [hji]
        refine ih _ _ _ ρ' (by simpa using hsz) (fun i' j o' hj ho' he => ?_) ⟨todo.filter (· != i), ?_, fun j hj hjl => ?_⟩ ?_ hS' (fun j q F d hj hjm hq hf hd => ?_)
        · rcases (hset j).1 hj with rfl | hj
          · obtain ⟨e, he, hb, hon⟩ := he
            rw [ho] at ho'
            injection ho' with ho'
            subst ho'
            rw [hset, ← hon]
            exact .inr (hall e he hb)
          · exact (hset i').2 (.inr (hdown i' j o' hj ho' he))
        · have : (todo.filter (· != i)).length < todo.length := by
            rw [List.length_filter_lt_length_iff_exists]
            exact ⟨i, hin i hlt h0', by simp⟩
          omega
        · have hne : j ≠ i := fun e => by
            have := (hset j).2 (.inl e)
            rw [this] at hjl
            cases hjl
          refine List.mem_filter.2 ⟨hin j hj ?_, by simpa using hne⟩
          rwa [getD_set_ne false (Ne.symm hne)] at hjl
        · have := hH.put (ρ' := ρ') hpi hset (fun j q hj hq d hd => hdist2 j i q p d (fun e => by rw [e, h0'] at hj; cases hj) hq hpi hd) (fun j q hj hq => hothers j q (fun e => by rw [e, h0'] at hj; cases hj) hq)
          rwa [hv] at this
        · rcases (hset j).1 hj with rfl | hj
          · rw [hpi] at hq
            injection hq with hq
            subst hq
            exact hself F d hf hd
          · have hne : j ≠ i := fun e => by rw [e, h0'] at hj; cases hj
            rw [hd' j q F d hne hq hf hd]
            exact hF' j q F d hj hjm hq hf hd
      cases hk : p.2 with
      | fixed v0 =>
        have hv : v = v0 := by rw [hk] at hR; exact hR
        exact next ρ (by rw [hk]; exact hv.symm) (fun _ _ _ _ => rfl) (fun _ _ _ _ _ _ _ _ => rfl) (fun F d hf => by rw [hk] at hf; cases hf)
      | fresh F =>
        obtain ⟨d, hd⟩ := hp.dst p (by rw [hsplit]; simp) ⟨F, hk⟩
        have hR' : F.holds v w' := by rw [hk] at hR; exact hR
        have hne : ∀ j q d', j ≠ i → full[j]? = some q → q.1.dst = some d' → d' ≠ d := fun j q d' hji hq hd' e => hdist2 j i q p d' hji hq hpi hd' (by rw [hd, e])
        refine next (fun t => if t = d then v else ρ t) (by rw [hk]; simp [Kind.val, hd]) (fun j q hji hq => ?_) (fun j q F' d' hji hq _ hd' => if_neg (hne j q d' hji hq hd')) (fun F' d' hf hd' => ?_)
        · cases hkq : q.2 with
          | fixed v0 => rfl
          | fresh F' =>
            obtain ⟨d', hd'⟩ := hp.dst q (List.mem_of_getElem? hq) ⟨F', hkq⟩
            simp only [Kind.val, hd']
            exact if_neg (hne j q d' hji hq hd')
        · rw [hk] at hf
          injection hf with hf
          rw [hd] at hd'
          injection hd' with hd'
          subst hf hd'
          simpa using hR'
    have hset' : ∀ j, (listed.setIfInBounds i true).getD j false = false → listed.getD j false = false := fun j hj => by
      by_cases hji : j = i
      · rw [hji]; exact h0'
      · rwa [getD_set_ne false (Ne.symm hji)] at hj
    have hlen_i : (full.take i).length = i := by rw [List.length_take]; omega
    have hseti : (listed.setIfInBounds i true).getD i false = true := by simp [Array.getD, hsz, hlt]
    rw [hlen_i] at hst
    unfold wpOp
    simp only [ho]
    unfold StepTo at hst
    rw [← hwant] at hst
    split
    · rename_i hw
      rw [if_pos hw] at hst
      refine .inl (wp_carry (R := fun v w' => p.2.rel v w' ∧ S w' ∧ (cond (mk i) (fun _ _ => True) E) w w') hexec size_eq (hst _ fun v w' h1 h2 h3 => ⟨v, rfl, h1, h2, h3⟩) fun v w' ⟨h1, h2, h3⟩ => go v w' h1 h2 fun j q F d hj hjm hq hf hd => ?_)
      rcases hmi : mk i with _ | _
      · rw [hmi] at h3
        exact F.keep _ _ _ (hF j q F d hj (fun m hm h => hset' m (hjm m hm h)) hq hf hd) h3
      · exfalso
        rcases Nat.lt_trichotomy j i with h | h | h
        · have := hjm i hmi h
          rw [hseti] at this
          cases this
        · rw [h, h0'] at hj; cases hj
        · have := reach_closed hdown' 6 j i (hmk.after i j hmi h (by have := (List.getElem?_eq_some_iff.1 hq).1; omega)) hj
          rw [h0'] at this
          cases this
    · rename_i hw
      rw [if_neg hw] at hst
      exact go undef w hst hS fun j q F d hj hjm hq hf hd => hF j q F d hj (fun m hm h => hset' m (hjm m hm h)) hq hf hd

/-- the same, that nothing looks into -/
structure WalkM (P : Program) (ops : Array Oper) (S : World → Prop) (E : World → World → Prop) (mk fl : Nat → Bool) (Z : (Env → Act) → List (Tmp × Fact E) → Prop) (k : Nat) (l : List Oper) (A : Env → Act) (Fs : List (Tmp × Fact E)) : Prop where
  out : SettleM P ops S E mk fl Z k l A Fs

/-- THE RULE, with marks -/
theorem wp_walk_marks {id : Nat} {a : Act} {w : World} {l : List Oper} (mk fl : Nat → Bool) (ms : List Nat) (hms : ∀ m, mk m = true → m ∈ ms) (hm : P.follows .mixedOrders = true) (hlin : linearB l.toArray = true) (hmk : markB l.toArray mk fl ms = true) (E : World → World → Prop) (S : World → Prop) (hS : S w.drew)
    (h : WalkM P l.toArray S E mk fl (fun A Fs => ∀ ρ w', S w' → (∀ t F, (t, F) ∈ Fs → F.holds (ρ t) w') → Q .normal (A ρ) w') 0 l (fun _ => a) []) : (Code.region id l.toArray true).wp P Q a w := by
  obtain ⟨full, hp, he, hZ⟩ := settleM_plan l [] ⟨(fun _ h => by cases h), (fun pre p post he => by simp at he)⟩ h.out
  refine wp_region_any hm (any_order_m (by simpa using he) (linear_of hlin) (marked_of hms hmk) hp hZ _ _ a _ (fun _ => undef) (by simp) (fun i j o hj => ?_) ⟨List.range l.toArray.size, by simp, fun i hi _ => List.mem_range.2 hi⟩ ⟨rfl, rfl, fun _ _ => rfl, fun i p t hi => ?_⟩ hS fun i p F d hi => ?_)
  · exfalso; revert hj; simp [Array.getD]
  · exfalso; revert hi; simp [Array.getD]
  · exfalso; revert hi; simp [Array.getD]

variable {Z : (Env → Act) → List (Tmp × Fact E) → Prop} {o : Oper} {rest : List Oper} {A : Env → Act} {Fs : List (Tmp × Fact E)} {k : Nat}
theorem msettle_nil (h : Z A Fs) : WalkM P ops S E mk fl Z k [] A Fs := ⟨h⟩
theorem msettle_skip (hmk : mk k = false) (hw : ∀ ρ, Region.wanted o (yielded ops (A ρ).tmps) = false) (h : WalkM P ops S E mk fl Z (k + 1) rest (fun ρ => (A ρ).put o.dst undef) Fs) : WalkM P ops S E mk fl Z k (o :: rest) A Fs :=
  ⟨.inl ⟨undef, fun ρ w _ _ => by unfold StepTo; rw [if_neg (by rw [hw]; simp)], by rw [hmk]; exact h.out⟩⟩
theorem msettle_run {v : Value} (hmk : mk k = false) (hE : ∀ w, S w → E w w) (hw : ∀ ρ, Region.wanted o (yielded ops (A ρ).tmps) = true)
    (hr : ∀ ρ w, S w → FactsOK (o.looksAt ops) ρ w (cond (fl k) [] Fs) → (execOp (A ρ).eval o).run P w = .ok (.value v) w) (h : WalkM P ops S E mk fl Z (k + 1) rest (fun ρ => (A ρ).put o.dst v) Fs) : WalkM P ops S E mk fl Z k (o :: rest) A Fs :=
  ⟨.inl ⟨v, fun ρ w hS hF => by
    unfold StepTo
    rw [if_pos (hw ρ), hmk]
    intro K hK
    unfold Oper.wp
    rw [hr ρ w hS hF]
    exact hK v w rfl hS (hE w hS), by rw [hmk]; exact h.out⟩⟩
theorem msettle_step {v : Value} (hmk : mk k = false) (hw : ∀ ρ, Region.wanted o (yielded ops (A ρ).tmps) = true)
    (hc : ∀ ρ w, S w → FactsOK (o.looksAt ops) ρ w (cond (fl k) [] Fs) → ∀ K : Act → World → Prop, (∀ w', S w' → E w w' → K ((A ρ).put o.dst v) w') → o.wp P (A ρ) w K (fun _ _ _ => False)) (h : WalkM P ops S E mk fl Z (k + 1) rest (fun ρ => (A ρ).put o.dst v) Fs) : WalkM P ops S E mk fl Z k (o :: rest) A Fs :=
  ⟨.inl ⟨v, fun ρ w hS hF => by
    unfold StepTo
    rw [if_pos (hw ρ), hmk]
    exact fun K hK => hc ρ w hS hF K fun w' h1 h2 => hK v w' rfl h1 h2, by rw [hmk]; exact h.out⟩⟩
theorem msettle_known {d : Tmp} (F : Fact E) (hmk : mk k = false) (hd : o.dst = some d) (hw : ∀ ρ, Region.wanted o (yielded ops (A ρ).tmps) = true)
    (hc : ∀ ρ w, S w → FactsOK (o.looksAt ops) ρ w (cond (fl k) [] Fs) → ∀ K : Act → World → Prop, (∀ v w', F.holds v w' → S w' → E w w' → K ((A ρ).put o.dst v) w') → o.wp P (A ρ) w K (fun _ _ _ => False)) (h : WalkM P ops S E mk fl Z (k + 1) rest (fun ρ => (A ρ).put (some d) (ρ d)) ((d, F) :: Fs)) : WalkM P ops S E mk fl Z k (o :: rest) A Fs :=
  ⟨.inr ⟨d, F, hd, fun ρ w hS hF => by
    unfold StepTo
    rw [if_pos (hw ρ), hmk]
    exact fun K hK => hc ρ w hS hF K hK, by rw [hmk]; exact h.out⟩⟩
/-- a mark: what was known is forgotten -/
theorem msettle_mark {d : Tmp} (F : Fact E) (hmk : mk k = true) (hd : o.dst = some d) (hw : ∀ ρ, Region.wanted o (yielded ops (A ρ).tmps) = true)
    (hc : ∀ ρ w, S w → FactsOK (o.looksAt ops) ρ w (cond (fl k) [] Fs) → ∀ K : Act → World → Prop, (∀ v w', F.holds v w' → S w' → K ((A ρ).put o.dst v) w') → o.wp P (A ρ) w K (fun _ _ _ => False)) (h : WalkM P ops S E mk fl Z (k + 1) rest (fun ρ => (A ρ).put (some d) (ρ d)) [(d, F)]) : WalkM P ops S E mk fl Z k (o :: rest) A Fs :=
  ⟨.inr ⟨d, F, hd, fun ρ w hS hF => by
    unfold StepTo
    rw [if_pos (hw ρ), hmk]
    exact fun K hK => hc ρ w hS hF K fun v w' h1 h2 => hK v w' h1 h2 trivial, by rw [hmk]; exact h.out⟩⟩
end
end Go.Proofs.YtkjmddgnfgbioaaDoor
