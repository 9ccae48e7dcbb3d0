/-
  The table of powers of ten.
-/
import Derived.Test.YtkjmddgnfgbioaaDoorUsP5
import Derived.Test.YtkjmddgnfgbioaaDoorUsP8
import Derived.Test.YtkjmddgnfgbioaaDoorUsP2
import Derived.Lib.ItoaNum
import Derived.Test.YtkjmddgnfgbioaaDoorUsP3
import Derived.Test.YtkjmddgnfgbioaaDoorUsP1
import Derived.Laws.StructEq
import Derived.Deep.DeepCutAuto
import Derived.Test.YtkjmddgnfgbioaaDoorShelf
import Derived.Lib.AppendIntMem
import Derived.Lib.ItoaLen

namespace Go.Proofs.YtkjmddgnfgbioaaDoor
set_option linter.unusedVariables false
set_option linter.unusedSimpArgs false
set_option maxRecDepth 100000
open Go

section
variable {P : Program} {ops : Array Oper} {Q : Exit → Act → World → Prop} {S : World → Prop} {I : Nat → Env → World → Prop} {L : List Tmp} {E Em : World → World → Prop} {mk fl : Nat → Bool}

def SettleG (P : Program) (ops : Array Oper) (S : World → Prop) (I : Nat → Env → World → Prop) (E Em : World → World → Prop) (mk fl : Nat → Bool) (Z : (Env → Act) → List (Tmp × Fact E) → List (Tmp × Fact E) → Prop) : Nat → List Oper → (Env → Act) → List (Tmp × Fact E) → List (Tmp × Fact E) → List (Tmp × Fact E) → Prop
  | _, [], A, Fs, Gs, _ => Z A Fs Gs
  | k, o :: rest, A, Fs, Gs, Hs =>
    (∃ v, (∀ ρ w, S w → FactsOK (o.looksAt ops) ρ w (cond (fl k) [] Fs) → PreP mk fl I k ρ w → ((∀ t F, (t, F) ∈ Hs → t ∈ o.looksAt ops → ∃ w, F.holds (ρ t) w) ∧ (∀ t F, (t, F) ∈ Gs → t ∈ o.looksAt ops → F.holds (ρ t) w)) → StepTo P ops S (EsF mk E Em I k ρ) o (A ρ) w (fun u _ => u = v)) ∧ SettleG P ops S I E Em mk fl Z (k + 1) rest (fun ρ => (A ρ).put o.dst v) (cond (mk k) [] Fs) Gs Hs) ∨
    (∃ d F, o.dst = some d ∧ (fl k = false ∨ Stays Em F) ∧ (∀ ρ w, S w → FactsOK (o.looksAt ops) ρ w (cond (fl k) [] Fs) → PreP mk fl I k ρ w → ((∀ t F, (t, F) ∈ Hs → t ∈ o.looksAt ops → ∃ w, F.holds (ρ t) w) ∧ (∀ t F, (t, F) ∈ Gs → t ∈ o.looksAt ops → F.holds (ρ t) w)) → StepTo P ops S (EsF mk E Em I k ρ) o (A ρ) w F.holds) ∧ SettleG P ops S I E Em mk fl Z (k + 1) rest (fun ρ => (A ρ).put (some d) (ρ d)) ((d, F) :: cond (mk k) [] Fs) (cond (fl k) ((d, F) :: Gs) Gs) ((d, F) :: Hs))

/-- all that is known of values, whatever the world -/
def factsH (l : List (Oper × Kind E)) : List (Tmp × Fact E) := l.foldl addFact []
theorem factsH_snoc (l : List (Oper × Kind E)) (p : Oper × Kind E) : factsH (l ++ [p]) = addFact (factsH l) p := by simp [factsH]
theorem mem_foldH {t : Tmp} {F : Fact E} : ∀ {l : List (Oper × Kind E)} {Hs : List (Tmp × Fact E)}, (t, F) ∈ l.foldl addFact Hs → (t, F) ∈ Hs ∨ ∃ (i : Nat) (p : Oper × Kind E), l[i]? = some p ∧ p.2 = .fresh F ∧ p.1.dst = some t := by
  intro l
  induction l with
  | nil => exact fun h => .inl h
  | cons q l ih =>
    intro Hs h
    rcases ih (show (t, F) ∈ l.foldl addFact (addFact Hs q) from h) with h | ⟨i, p, h1, h2, h3⟩
    · rcases mem_addFact h with h | ⟨h1, h2⟩
      · exact .inl h
      · exact .inr ⟨0, q, rfl, h1, h2⟩
    · exact .inr ⟨i + 1, p, by simpa using h1, h2, h3⟩
theorem mem_factsH {t : Tmp} {F : Fact E} {l : List (Oper × Kind E)} (h : (t, F) ∈ factsH l) : ∃ (i : Nat) (p : Oper × Kind E), l[i]? = some p ∧ p.2 = .fresh F ∧ p.1.dst = some t := by
  rcases mem_foldH h with h | h
  · cases h
  · exact h

structure PlanG (P : Program) (ops : Array Oper) (S : World → Prop) (I : Nat → Env → World → Prop) (Em : World → World → Prop) (mk fl : Nat → Bool) (a : Act) (l : List (Oper × Kind E)) : Prop where
  dst : ∀ p ∈ l, (∃ F, p.2 = .fresh F) → ∃ d, p.1.dst = some d
  flt : ∀ (j : Nat) p (F : Fact E), l[j]? = some p → p.2 = .fresh F → fl j = false ∨ Stays Em F
  step : ∀ pre p post, l = pre ++ p :: post → ∀ ρ w, S w → FactsOK (p.1.looksAt ops) ρ w (cond (fl pre.length) [] (factsM mk 0 pre [])) → PreP mk fl I pre.length ρ w → ((∀ t F, (t, F) ∈ factsH pre → t ∈ p.1.looksAt ops → ∃ w, F.holds (ρ t) w) ∧ (∀ t F, (t, F) ∈ factsG fl 0 pre [] → t ∈ p.1.looksAt ops → F.holds (ρ t) w)) → StepTo P ops S (EsF mk E Em I pre.length ρ) p.1 (actOf a ρ pre) w p.2.rel

theorem planG_snoc {a : Act} {l : List (Oper × Kind E)} (h : PlanG P ops S I Em mk fl a l) {p : Oper × Kind E} (h1 : (∃ F, p.2 = .fresh F) → ∃ d, p.1.dst = some d) (h3 : ∀ F, p.2 = .fresh F → fl l.length = false ∨ Stays Em F)
    (h2 : ∀ ρ w, S w → FactsOK (p.1.looksAt ops) ρ w (cond (fl l.length) [] (factsM mk 0 l [])) → PreP mk fl I l.length ρ w → ((∀ t F, (t, F) ∈ factsH l → t ∈ p.1.looksAt ops → ∃ w, F.holds (ρ t) w) ∧ (∀ t F, (t, F) ∈ factsG fl 0 l [] → t ∈ p.1.looksAt ops → F.holds (ρ t) w)) → StepTo P ops S (EsF mk E Em I l.length ρ) p.1 (actOf a ρ l) w p.2.rel) : PlanG P ops S I Em mk fl a (l ++ [p]) := by
  refine ⟨fun q hq hf => ?_, fun j q F hq hf => ?_, fun pre q post he => ?_⟩
  · rcases List.mem_append.1 hq with hq | hq
    · exact h.dst q hq hf
    · rw [List.mem_singleton.1 hq] at hf ⊢
      exact h1 hf
  · rcases Nat.lt_or_ge j l.length with hj | hj
    · rw [List.getElem?_append_left hj] at hq
      exact h.flt j q F hq hf
    · rw [List.getElem?_append_right hj] at hq
      have hj' := (List.getElem?_eq_some_iff.1 hq).1
      simp only [List.length_singleton] at hj'
      have e : j = l.length := by omega
      subst e
      simp only [Nat.sub_self, List.getElem?_cons_zero, Option.some.injEq] at hq
      subst hq
      exact h3 F hf
  · rcases List.eq_nil_or_concat post with rfl | ⟨post', q', rfl⟩
    · have := List.append_inj' he rfl
      obtain ⟨e1, e2⟩ := this
      injection e2 with e2
      subst e1 e2
      exact h2
    · have e : pre ++ q :: (post' ++ [q']) = (pre ++ q :: post') ++ [q'] := by simp
      rw [List.concat_eq_append, e] at he
      exact h.step pre q post' (List.append_inj' he rfl).1

theorem settleG_plan {Z : (Env → Act) → List (Tmp × Fact E) → List (Tmp × Fact E) → Prop} {a : Act} : ∀ (l : List Oper) (pre : List (Oper × Kind E)), PlanG P ops S I Em mk fl a pre → SettleG P ops S I E Em mk fl Z pre.length l (fun ρ => actOf a ρ pre) (factsM mk 0 pre []) (factsG fl 0 pre []) (factsH pre) →
    ∃ full : List (Oper × Kind E), PlanG P ops S I Em mk fl a full ∧ full.map (·.1) = pre.map (·.1) ++ l ∧ Z (fun ρ => actOf a ρ full) (factsM mk 0 full []) (factsG fl 0 full []) := by
  intro l
  induction l with
  | nil => exact fun pre hp h => ⟨pre, hp, by simp, h⟩
  | cons o rest ih =>
    intro pre hp h
    rcases h with ⟨v, h1, h2⟩ | ⟨d, F, hd, h3, h1, h2⟩
    · obtain ⟨full, q1, q2, q3⟩ := ih (pre ++ [(o, .fixed v)]) (planG_snoc (p := (o, .fixed v)) hp (fun ⟨F, h⟩ => by cases h) (fun F h => by cases h) h1) (by
        have e1 : (fun ρ => actOf a ρ (pre ++ [(o, (Kind.fixed v : Kind E))])) = fun ρ => (actOf a ρ pre).put o.dst v := by
          funext ρ; simp [actOf, Kind.val]
        have e2 : factsM mk 0 (pre ++ [(o, (Kind.fixed v : Kind E))]) [] = cond (mk pre.length) [] (factsM mk 0 pre []) := by rw [factsM_snoc, Nat.zero_add]; rfl
        have e4 : factsH (pre ++ [(o, (Kind.fixed v : Kind E))]) = factsH pre := by rw [factsH_snoc]; rfl
        have e3 : factsG fl 0 (pre ++ [(o, (Kind.fixed v : Kind E))]) [] = factsG fl 0 pre [] := by rw [factsG_snoc, Nat.zero_add]; cases fl pre.length <;> rfl
        rw [e1, e2, e3, e4, List.length_append]
        exact h2)
      exact ⟨full, q1, by rw [q2]; simp, q3⟩
    · obtain ⟨full, q1, q2, q3⟩ := ih (pre ++ [(o, .fresh F)]) (planG_snoc (p := (o, .fresh F)) hp (fun _ => ⟨d, hd⟩) (fun F' h => by injection h with h; subst h; exact h3) h1) (by
        have e1 : (fun ρ => actOf a ρ (pre ++ [(o, (Kind.fresh F : Kind E))])) = fun ρ => (actOf a ρ pre).put (some d) (ρ d) := by
          funext ρ; simp [actOf, Kind.val, hd]
        have e2 : factsM mk 0 (pre ++ [(o, (Kind.fresh F : Kind E))]) [] = (d, F) :: cond (mk pre.length) [] (factsM mk 0 pre []) := by rw [factsM_snoc, Nat.zero_add]; simp [addFact, hd]
        have e4 : factsH (pre ++ [(o, (Kind.fresh F : Kind E))]) = (d, F) :: factsH pre := by rw [factsH_snoc]; simp [addFact, hd]
        have e3 : factsG fl 0 (pre ++ [(o, (Kind.fresh F : Kind E))]) [] = cond (fl pre.length) ((d, F) :: factsG fl 0 pre []) (factsG fl 0 pre []) := by rw [factsG_snoc, Nat.zero_add]; simp [addFact, hd]
        rw [e1, e2, e3, e4, List.length_append]
        exact h2)
      exact ⟨full, q1, by rw [q2]; simp, q3⟩

theorem any_order_pg {a0 : Act} {full : List (Oper × Kind E)} {n : Nat} (hn : n < ops.size) (hops : full.map (·.1) = ops.toList.take n) (hlin : LinearN ops n) (hsk : Region.sinkB .any ops n = true) (hch : Region.chainB .any ops n = true)
    (hsq : ∀ listed : Array Bool, listed.size = ops.size → (∀ i, i < n → listed.getD i false = true) → (∀ i, n ≤ i → listed.getD i false = false) → Region.seqB .any ops (ops.size - n) n listed = true) (hmk : MarkedP ops mk fl n) (hp : PlanG P ops S I Em mk fl a0 full) (hIE : ∀ c ρ w w', I c ρ w → E w w' → I c ρ w') (hI0 : ∀ ρ ρ' w, I 0 ρ w → I 0 ρ' w) (hIρ : ∀ c ρ ρ' w, (∀ t ∈ L, ρ t = ρ' t) → I c ρ w → I c ρ' w)
    (hL : ∀ t ∈ L, ∃ j o, j < n ∧ ops[j]? = some o ∧ o.dst = some t ∧ ∀ m, mk m = true → j ≠ m ∧ reachB ops 6 m j = true)
    (hZ : ∀ ρ w, S w → I (cntM mk n) ρ w → (∀ t F, (t, F) ∈ factsM mk 0 full [] → F.holds (ρ t) w) → (∀ t F, (t, F) ∈ factsG fl 0 full [] → F.holds (ρ t) w) → wpList P ops Q (ops.toList.drop n) (actOf a0 ρ full) w) :
    ∀ (fuel : Nat) (listed : Array Bool) (a : Act) (w : World) (ρ : Env), HeadInv .any ops n listed →
      (∃ todo : List Nat, todo.length ≤ fuel ∧ ∀ i, i < n → listed.getD i false = false → i ∈ todo) →
      Holds a0 full (fun i => listed.getD i false = true) ρ a → S w → (∀ c, c ≤ cntM mk n → (∀ m, mk m = true → (listed.getD m false = true ↔ cntM mk m < c)) → I c ρ w) → (∀ (i : Nat) (p : Oper × Kind E) (F : Fact E) (d : Tmp), listed.getD i false = true → (fl i = true ∨ ∀ m, mk m = true → i < m → listed.getD m false = false) → full[i]? = some p → p.2 = .fresh F → p.1.dst = some d → F.holds (ρ d) w) →
      (∀ (i : Nat) (p : Oper × Kind E) (F : Fact E) (d : Tmp), listed.getD i false = true → full[i]? = some p → p.2 = .fresh F → p.1.dst = some d → ∃ w, F.holds (ρ d) w) →
      wpAny P .any ops Q (fuel + (ops.size - n)) listed a w := by
  have hget : ∀ (i : Nat) (p : Oper × Kind E), full[i]? = some p → ops[i]? = some p.1 := fun i p h => by
    have : (full.map (·.1))[i]? = some p.1 := by simp [h]
    rw [hops, List.getElem?_take] at this
    split at this
    · simpa using this
    · cases this
  have hlen : full.length = n := by
    have := congrArg List.length hops
    simp only [List.length_map, List.length_take, Array.length_toList] at this
    omega
  have hget' : ∀ (i : Nat) (o : Oper), i < n → ops[i]? = some o → ∃ p : Oper × Kind E, full[i]? = some p ∧ p.1 = o := fun i o hin h => by
    have hi : i < full.length := by rw [hlen]; exact hin
    have h1 := hget i _ (List.getElem?_eq_getElem hi)
    rw [h] at h1
    injection h1 with h1
    exact ⟨_, List.getElem?_eq_getElem hi, h1.symm⟩
  have hdist : ∀ (i j : Nat) (p q : Oper × Kind E) (d : Tmp), i < j → full[i]? = some p → full[j]? = some q → p.1.dst = some d → q.1.dst ≠ some d := fun i j p q d hij h1 h2 => hlin.dist i j _ _ d hij (by have := (List.getElem?_eq_some_iff.1 h2).1; omega) (hget i p h1) (hget j q h2)
  have hdist2 : ∀ (i j : Nat) (p q : Oper × Kind E) (d : Tmp), i ≠ j → full[i]? = some p → full[j]? = some q → p.1.dst = some d → q.1.dst ≠ some d := fun i j p q d hij h1 h2 hd hd' => by
    rcases Nat.lt_or_gt_of_ne hij with h | h
    · exact hdist i j p q d h h1 h2 hd hd'
    · exact hdist j i q p d h h2 h1 hd' hd
  -- all have come up
  have fin : ∀ (fuel : Nat) (listed : Array Bool) (a : Act) (w : World) (ρ : Env), HeadInv .any ops n listed → (∀ i, i < n → listed.getD i false = true) → Holds a0 full (fun i => listed.getD i false = true) ρ a → S w → I (cntM mk n) ρ w →
      (∀ (i : Nat) (p : Oper × Kind E) (F : Fact E) (d : Tmp), listed.getD i false = true → (fl i = true ∨ ∀ m, mk m = true → i < m → listed.getD m false = false) → full[i]? = some p → p.2 = .fresh F → p.1.dst = some d → F.holds (ρ d) w) → wpAny P .any ops Q (fuel + (ops.size - n)) listed a w := fun fuel listed a w ρ inv hall hH hS hIn hF => by
    have h1 : Holds a0 full (fun i => i < full.length) ρ (actOf a0 ρ full) := by
      have := holds_prefix a0 full ρ hdist full.length (Nat.le_refl _)
      rwa [List.take_length] at this
    have h2 : Holds a0 full (fun i => i < full.length) ρ a :=
      ⟨hH.defers, hH.size, fun t ht => hH.far t fun i p hi hp => ht i p (List.getElem?_eq_some_iff.1 hp).1 hp, fun i p t hi => hH.near i p t (hall i (by omega))⟩
    rw [h2.unique h1]
    have hz := hZ ρ w hS hIn (fun t F hm => by
      rcases mem_factsM hm with ⟨h, -⟩ | ⟨i, p, h1, h2, h3, h4⟩
      · cases h
      · exact hF i p F t (hall i (by have := (List.getElem?_eq_some_iff.1 h1).1; omega)) (.inr fun m hm him => absurd (hmk.lt m hm) (fun h => h4 m hm (by omega) (by omega))) h1 h2 h3) (fun t F hm => by
      rcases mem_factsG hm with h | ⟨i, p, h1, h0, h2, h3⟩
      · cases h
      · exact hF i p F t (hall i (by have := (List.getElem?_eq_some_iff.1 h1).1; omega)) (.inl (by rwa [Nat.zero_add] at h0)) h1 h2 h3)
    have hdl : (ops.toList.drop n).length = ops.size - n := by simp
    have hs := hsq listed inv.size hall (fun i hi => by
      rcases Nat.lt_or_ge i ops.size with h | h
      · exact getD_both (inv.tail i hi h)
      · simp [Array.getD, inv.size, Nat.not_lt.2 h])
    have := wpAny_seq_more fuel (ops.toList.drop n) n listed (actOf a0 ρ full) w (fun j => by simp [List.getElem?_drop]) (by rw [hdl]; exact hs) hz
    rwa [hdl, Nat.add_comm] at this
  have none_left : ∀ listed : Array Bool, HeadInv .any ops n listed → Region.ready .any ops listed = [] → ∀ m i, i < m → i < n → listed.getD i false = true := by
    intro listed inv hr m
    induction m with
    | zero => intro i h; omega
    | succ m ih =>
      intro i hi hin
      cases hli : listed.getD i false with
      | true => rfl
      | false =>
        have hlt : i < ops.size := by omega
        have ho : ops[i]? = some ops[i] := Array.getElem?_eq_getElem hlt
        have hmem : i ∈ Region.ready .any ops listed := by
          rw [mem_ready]
          refine ⟨?_, _, ho, fun e he hb => ?_⟩
          · simp only [Array.getD, inv.size, hlt, dif_pos] at hli ⊢
            exact hli
          · have := hlin.back i _ hin ho e he hb
            exact ih e.on (by omega) (by omega)
        rw [hr] at hmem
        cases hmem
  have some_left : ∀ listed : Array Bool, (∀ i, i < n → listed.getD i false = true) ∨ ∃ i, i < n ∧ listed.getD i false = false := fun listed => by
    by_cases h : ∃ i, i < n ∧ listed.getD i false = false
    · exact .inr h
    · exact .inl fun i hi => by
        cases hl : listed.getD i false with
        | true => rfl
        | false => exact (h ⟨i, hi, hl⟩).elim
  intro fuel
  induction fuel with
  | zero =>
    intro listed a w ρ inv ⟨todo, htodo, hin⟩ hH hS hS0 hF hPu
    have hall : ∀ i, i < n → listed.getD i false = true := fun i hi => by
      cases hli : listed.getD i false with
      | true => rfl
      | false =>
        have := hin i hi hli
        rw [List.eq_nil_of_length_eq_zero (Nat.le_zero.1 htodo)] at this
        cases this
    exact fin 0 listed a w ρ inv hall hH hS (hS0 _ (Nat.le_refl _) fun m hm => ⟨fun _ => cntM_lt (hmk.lt m hm) hm, fun _ => hall m (hmk.lt m hm)⟩) hF
  | succ fuel ih =>
    intro listed a w ρ inv ⟨todo, htodo, hin⟩ hH hS hS0 hF hPu
    rcases some_left listed with hall | ⟨i0, hi0, hl0⟩
    · exact fin (fuel + 1) listed a w ρ inv hall hH hS (hS0 _ (Nat.le_refl _) fun m hm => ⟨fun _ => cntM_lt (hmk.lt m hm) hm, fun _ => hall m (hmk.lt m hm)⟩) hF
    have hsz := inv.size
    rw [show fuel + 1 + (ops.size - n) = (fuel + (ops.size - n)) + 1 by omega]
    refine ⟨fun hr => ?_, fun i hi => ?_⟩
    · have := none_left listed inv hr (i0 + 1) i0 (by omega) hi0
      rw [hl0] at this
      cases this
    have hilt : i < n := by
      rcases Nat.lt_or_ge i n with h | h
      · exact h
      · exact absurd hi (tail_waits hsk hch hn inv _ i0 rfl hi0 (getD_in (by omega) hl0) i h)
    obtain ⟨h0, o, ho, hall⟩ := mem_ready.1 hi
    have hlt := (Array.getElem?_eq_some_iff.1 ho).1
    have h0' : listed.getD i false = false := by
      simp only [Array.getD, hsz, hlt, dif_pos] at h0 ⊢
      exact h0
    obtain ⟨p, hpi, rfl⟩ := hget' i o hilt ho
    have hil : i < full.length := by omega
    have hpre : Holds a0 full (fun j => j < i) ρ (actOf a0 ρ (full.take i)) := holds_prefix a0 full ρ hdist i (by omega)
    have hsplit : full = full.take i ++ p :: full.drop (i + 1) := by
      have : full[i] = p := by have := List.getElem?_eq_getElem hil; rw [hpi] at this; injection this with this; exact this.symm
      rw [← this, List.getElem_cons_drop, List.take_append_drop]
    have hstep := hp.step _ p _ hsplit ρ w hS
    have conf : ∀ (j : Nat) (q : Oper × Kind E), full[j]? = some q → ∀ t, q.1.dst = some t → t ∈ p.1.looksAt ops → (listed.getD j false = true ↔ j < i) := by
      intro j q hq t hd hl
      have hoj := hget j q hq
      have hjn : j < n := by have := (List.getElem?_eq_some_iff.1 hq).1; omega
      rcases Nat.lt_trichotomy j i with h | h | h
      · refine ⟨fun _ => h, fun _ => ?_⟩
        rcases hlin.wait j i _ _ h hilt hoj ho with hap | ⟨e, he, hb, hon⟩
        · exact absurd hl ((Oper.apart_spec hap).1 t hd)
        · rw [← hon]; exact hall e he hb
      · subst h
        rw [hpi] at hq
        injection hq with hq
        subst hq
        exact absurd hl (hlin.self j _ t hilt ho hd)
      · refine ⟨fun hj => ?_, fun h' => by omega⟩
        exfalso
        rcases hlin.wait i j _ _ h hjn ho hoj with hap | ⟨e, he, hb, hon⟩
        · exact absurd hl ((Oper.apart_spec hap).2.2 t hd)
        · have := inv.closed j _ hoj hj e he hb
          rw [hon, h0'] at this
          cases this
    have hdown' : ∀ j o, listed.getD j false = true → ops[j]? = some o → ∀ e ∈ o.after, Region.binds .any e = true → listed.getD e.on false = true := fun j o hj ho e he hb => inv.closed j o ho hj e he hb
    have later : ∀ m, mk m = true → i < m → fl i = false → listed.getD m false = false := fun m hm him hfl => by
      cases hlm : listed.getD m false with
      | false => rfl
      | true =>
        have := reach_closed hdown' 6 m i (hmk.before m i hm him hfl) hlm
        rw [h0'] at this
        cases this
    have hfacts : FactsOK (p.1.looksAt ops) ρ w (cond (fl i) [] (factsM mk 0 (full.take i) [])) := factsOK_of _ fun t F hm hl => by
      rcases hfl : fl i with _ | _
      case true => rw [hfl] at hm; cases hm
      rw [hfl] at hm
      rcases mem_factsM hm with ⟨h, -⟩ | ⟨j, q, h1, h2, h3, h4⟩
      · cases h
      · have hji : j < i := by
          have := (List.getElem?_eq_some_iff.1 h1).1
          rw [List.length_take] at this
          omega
        have hq : full[j]? = some q := by
          rw [List.getElem?_take, if_pos hji] at h1
          exact h1
        refine hF j q F t ((conf j q hq t h3 (by simpa using hl)).2 hji) (.inr fun m hm hjm => ?_) hq h2 h3
        rcases Nat.lt_trichotomy i m with h | h | h
        · exact later m hm h hfl
        · rw [← h]; exact h0'
        · exact absurd (h4 m hm (by omega) (by rw [List.length_take]; omega)) id
    have hli' : (full.take i).length = i := by rw [List.length_take]; omega
    have earlier : ∀ m, mk m = true → m < i → fl i = false → listed.getD m false = true := fun m hm him hfl => by
      have hr := hmk.after m i hm him hilt hfl
      unfold reachB at hr
      rw [Bool.or_eq_true] at hr
      rcases hr with hr | hr
      · have : i = m := by simpa using hr
        omega
      · rw [ho] at hr
        obtain ⟨k, hk, hb⟩ := Array.any_eq_true.1 hr
        rw [Bool.and_eq_true] at hb
        exact reach_closed hdown' 5 _ _ hb.2 (hall _ (Array.getElem_mem hk) hb.1)
    have hst := hstep (by rw [hli']; exact hfacts) (by
      rw [hli']
      intro hfl
      refine hS0 _ (cntM_mono (by omega)) fun m hm => ?_
      rcases Nat.lt_trichotomy i m with h | h | h
      · rw [later m hm h hfl]
        have := cntM_mono (mk := mk) (show i ≤ m by omega)
        simp; omega
      · rw [← h, h0']
        simp
      · rw [earlier m hm h hfl]
        simp [cntM_lt h hm]) ⟨fun t F hm hl => by
      obtain ⟨j, q, h1, h2, h3⟩ := mem_factsH hm
      have hji : j < i := by
        have := (List.getElem?_eq_some_iff.1 h1).1
        rw [List.length_take] at this
        omega
      have hq : full[j]? = some q := by
        rw [List.getElem?_take, if_pos hji] at h1
        exact h1
      exact hPu j q F t ((conf j q hq t h3 hl).2 hji) hq h2 h3, fun t F hm hl => by
      rcases mem_factsG hm with h | ⟨j, q, h1, h0, h2, h3⟩
      · cases h
      have hji : j < i := by
        have := (List.getElem?_eq_some_iff.1 h1).1
        rw [List.length_take] at this
        omega
      have hq : full[j]? = some q := by
        rw [List.getElem?_take, if_pos hji] at h1
        exact h1
      exact hF j q F t ((conf j q hq t h3 hl).2 hji) (.inl (by rwa [Nat.zero_add] at h0)) hq h2 h3⟩
    have hag : ∀ t, t ∈ p.1.looksAt ops → a.tmps[t]? = (actOf a0 ρ (full.take i)).tmps[t]? := fun t ht =>
      hH.agree hpre t fun j q hq hd => conf j q hq t hd ht
    have hexec : execOp a.eval p.1 = execOp (actOf a0 ρ (full.take i)).eval p.1 := execOp_congr p.1 (fun cs b => hlin.sel i _ cs b ho) fun x hx => by
      cases x with
      | tmp t =>
        have := hag t (List.mem_append_left _ (List.mem_filterMap.2 ⟨.tmp t, by simpa using hx, rfl⟩))
        simp only [Act.eval, Array.getD_eq_getD_getElem?]
        rw [this]
      | _ => rfl
    have hwant : Region.wanted p.1 (yielded ops a.tmps) = Region.wanted p.1 (yielded ops (actOf a0 ρ (full.take i)).tmps) := by
      unfold Region.wanted
      cases hg : p.1.guard with
      | none => rfl
      | some gw =>
        obtain ⟨g, want⟩ := gw
        have : yielded ops a.tmps g = yielded ops (actOf a0 ρ (full.take i)).tmps g := by
          unfold yielded
          cases ht : (ops[g]?).bind (·.dst) with
          | none => rfl
          | some t =>
            have := hag t (List.mem_append_right _ (by simp [hg, ht]))
            simp only [Option.bind_some, this]
        simp only [this]
    have size_eq : (actOf a0 ρ (full.take i)).tmps.size = a.tmps.size := hpre.size.trans hH.size.symm
    -- the way on
    have go : ∀ v w', p.2.rel v w' → S w' → (∀ c, c ≤ cntM mk n → (∀ m, mk m = true → ((listed.setIfInBounds i true).getD m false = true ↔ cntM mk m < c)) → I c ρ w') → (∀ (j : Nat) (q : Oper × Kind E) (F : Fact E) (d : Tmp), listed.getD j false = true → (fl j = true ∨ ∀ m, mk m = true → j < m → (listed.setIfInBounds i true).getD m false = false) → full[j]? = some q → q.2 = .fresh F → q.1.dst = some d → F.holds (ρ d) w') →
        wpAny P .any ops Q (fuel + (ops.size - n)) (listed.setIfInBounds i true) (a.put p.1.dst v) w' := by
      intro v w' hR hS' hS0' hF'
      have next : ∀ ρ' : Env, p.2.val ρ' p.1 = v → (∀ j q, j ≠ i → full[j]? = some q → q.2.val ρ' q.1 = q.2.val ρ q.1) → (∀ j q F d, j ≠ i → full[j]? = some q → q.2 = .fresh F → q.1.dst = some d → ρ' d = ρ d) → (∀ F d, p.2 = .fresh F → p.1.dst = some d → F.holds (ρ' d) w') → (∀ t, (∀ F, p.2 = .fresh F → p.1.dst ≠ some t) → ρ' t = ρ t) →
          wpAny P .any ops Q (fuel + (ops.size - n)) (listed.setIfInBounds i true) (a.put p.1.dst v) w' := by
        intro ρ' hv hothers hd' hself hρ
        have hset : ∀ j, (listed.setIfInBounds i true).getD j false = true ↔ j = i ∨ listed.getD j false = true := fun j => by
          by_cases hji : j = i
          · subst hji
            simp [Array.getD, hsz, hlt]
          · rw [getD_set_ne false (Ne.symm hji)]
            simp [hji]
        refine ih _ _ _ ρ' (inv.set hi hilt) ⟨todo.filter (· != i), ?_, fun j hj hjl => ?_⟩ ?_ hS' (fun c hc hcm => ?_) (fun j q F d hj hjm hq hf hd => ?_) (fun j q F d hj hq hf hd => ?_)
        · have : (todo.filter (· != i)).length < todo.length := by
            rw [List.length_filter_lt_length_iff_exists]
            exact ⟨i, hin i hilt h0', by simp⟩
          omega
        · have hne : j ≠ i := fun e => by
            have := (hset j).2 (.inl e)
            rw [this] at hjl
            cases hjl
          refine List.mem_filter.2 ⟨hin j hj ?_, by simpa using hne⟩
          rwa [getD_set_ne false (Ne.symm hne)] at hjl
        · have := hH.put (ρ' := ρ') hpi hset (fun j q hj hq d hd => hdist2 j i q p d (fun e => by rw [e, h0'] at hj; cases hj) hq hpi hd) (fun j q hj hq => hothers j q (fun e => by rw [e, h0'] at hj; cases hj) hq)
          rwa [hv] at this
        · have hold := hS0' c hc hcm
          rcases c with _ | c
          · exact hI0 ρ ρ' w' hold
          · refine hIρ _ ρ ρ' w' (fun t ht => ?_) hold
            obtain ⟨j0, o0, hj0, ho0, hd0, hbm⟩ := hL t ht
            refine (hρ t fun F hF hd => ?_).symm
            have hji : j0 = i := by
              rcases Nat.lt_trichotomy j0 i with h | h | h
              · exact absurd hd (hlin.dist j0 i o0 p.1 t h hilt ho0 ho hd0)
              · exact h
              · exact absurd hd0 (hlin.dist i j0 p.1 o0 t h hj0 ho ho0 hd)
            obtain ⟨m0, -, hm0, hmk0, hc0⟩ := cntM_next (mk := mk) (a := 0) (b := n) (by simp [cntM]; omega)
            have hml := (hcm m0 hmk0).2 (by rw [hc0]; simp [cntM])
            obtain ⟨hne, hre⟩ := hbm m0 hmk0
            have hml' : listed.getD m0 false = true := ((hset m0).1 hml).resolve_left (fun e => hne (by omega))
            have := reach_closed hdown' 6 m0 j0 hre hml'
            rw [hji, h0'] at this
            cases this
        · rcases (hset j).1 hj with rfl | hj
          · rw [hpi] at hq
            injection hq with hq
            subst hq
            exact hself F d hf hd
          · have hne : j ≠ i := fun e => by rw [e, h0'] at hj; cases hj
            rw [hd' j q F d hne hq hf hd]
            exact hF' j q F d hj hjm hq hf hd
        · rcases (hset j).1 hj with rfl | hj
          · rw [hpi] at hq
            injection hq with hq
            subst hq
            exact ⟨w', hself F d hf hd⟩
          · have hne : j ≠ i := fun e => by rw [e, h0'] at hj; cases hj
            rw [hd' j q F d hne hq hf hd]
            exact hPu j q F d hj hq hf hd
      cases hk : p.2 with
      | fixed v0 =>
        have hv : v = v0 := by rw [hk] at hR; exact hR
        exact next ρ (by rw [hk]; exact hv.symm) (fun _ _ _ _ => rfl) (fun _ _ _ _ _ _ _ _ => rfl) (fun F d hf => by rw [hk] at hf; cases hf) (fun _ _ => rfl)
      | fresh F =>
        obtain ⟨d, hd⟩ := hp.dst p (by rw [hsplit]; simp) ⟨F, hk⟩
        have hR' : F.holds v w' := by rw [hk] at hR; exact hR
        have hne : ∀ j q d', j ≠ i → full[j]? = some q → q.1.dst = some d' → d' ≠ d := fun j q d' hji hq hd' e => hdist2 j i q p d' hji hq hpi hd' (by rw [hd, e])
        refine next (fun t => if t = d then v else ρ t) (by rw [hk]; simp [Kind.val, hd]) (fun j q hji hq => ?_) (fun j q F' d' hji hq _ hd' => if_neg (hne j q d' hji hq hd')) (fun F' d' hf hd' => ?_) (fun t ht => if_neg (fun e => ht F hk (by rw [hd, e])))
        · cases hkq : q.2 with
          | fixed v0 => rfl
          | fresh F' =>
            obtain ⟨d', hd'⟩ := hp.dst q (List.mem_of_getElem? hq) ⟨F', hkq⟩
            simp only [Kind.val, hd']
            exact if_neg (hne j q d' hji hq hd')
        · rw [hk] at hf
          injection hf with hf
          rw [hd] at hd'
          injection hd' with hd'
          subst hf hd'
          simpa using hR'
    have hset' : ∀ j, (listed.setIfInBounds i true).getD j false = false → listed.getD j false = false := fun j hj => by
      by_cases hji : j = i
      · rw [hji]; exact h0'
      · rwa [getD_set_ne false (Ne.symm hji)] at hj
    have hlen_i : (full.take i).length = i := by rw [List.length_take]; omega
    have hseti : (listed.setIfInBounds i true).getD i false = true := by simp [Array.getD, hsz, hlt]
    rw [hlen_i] at hst
    unfold wpOp
    simp only [ho]
    unfold StepTo at hst
    rw [← hwant] at hst
    split
    · rename_i hw
      rw [if_pos hw] at hst
      refine .inl (wp_carry (R := fun v w' => p.2.rel v w' ∧ S w' ∧ (EsF mk E Em I i ρ) w w') hexec size_eq (hst _ fun v w' h1 h2 h3 => ⟨v, rfl, h1, h2, h3⟩) fun v w' ⟨h1, h2, h3⟩ => go v w' h1 h2 (fun c hc hcm => ?_) fun j q F d hj hjm hq hf hd => ?_)
      · rcases hmi : mk i with _ | _
        · unfold EsF at h3
          rw [hmi] at h3
          refine hIE _ _ _ _ (hS0 c hc fun m hm => ?_) h3
          rw [← hcm m hm, getD_set_ne false (fun e => by rw [← e, hmi] at hm; cases hm)]
        · unfold EsF at h3
          rw [hmi] at h3
          have hci := (hcm i hmi).1 hseti
          have hceq : c = cntM mk i + 1 := by
            apply Classical.byContradiction
            intro hne
            have h1i : cntM mk (i + 1) = cntM mk i + 1 := by rw [cntM, hmi]; rfl
            obtain ⟨m', hm1, hm2, hm3, hm4⟩ := cntM_next (mk := mk) (a := i + 1) (b := n) (by omega)
            have hl := (hcm m' hm3).2 (by omega)
            rw [getD_set_ne false (by omega), later m' hm3 (by omega) (hmk.fix i hmi)] at hl
            cases hl
          rw [hceq]
          exact h3.1
      have hjm' : fl j = true ∨ ∀ m, mk m = true → j < m → listed.getD m false = false := hjm.imp id fun hjm m hm h => hset' m (hjm m hm h)
      rcases hmi : mk i with _ | _
      · unfold EsF at h3
        rw [hmi] at h3
        exact F.keep _ _ _ (hF j q F d hj hjm' hq hf hd) h3
      · unfold EsF at h3
        rw [hmi] at h3
        rcases hp.flt j q F hq hf with hfl | hst'
        · exfalso
          rcases Nat.lt_trichotomy j i with h | h | h
          · rcases hjm with h9 | hjm
            · rw [hfl] at h9; cases h9
            · have := hjm i hmi h
              rw [hseti] at this
              cases this
          · rw [h, h0'] at hj; cases hj
          · have := reach_closed hdown' 6 j i (hmk.after i j hmi h (by have := (List.getElem?_eq_some_iff.1 hq).1; omega) hfl) hj
            rw [h0'] at this
            cases this
        · exact hst' _ _ _ (hF j q F d hj hjm' hq hf hd) h3.2
    · rename_i hw
      rw [if_neg hw] at hst
      have hni : mk i = false := by
        rcases hmi : mk i with _ | _
        · rfl
        · exact absurd (by simp [Region.wanted, hmk.gd i _ hmi ho]) hw
      exact go undef w hst hS (fun c hc hcm => hS0 c hc fun m hm => by rw [← hcm m hm, getD_set_ne false (fun e => by rw [← e, hni] at hm; cases hm)]) fun j q F d hj hjm hq hf hd => hF j q F d hj (hjm.imp id fun hjm m hm h => hset' m (hjm m hm h)) hq hf hd

/-- the same, that nothing looks into -/
structure WalkG (P : Program) (ops : Array Oper) (S : World → Prop) (I : Nat → Env → World → Prop) (E Em : World → World → Prop) (mk fl : Nat → Bool) (Z : (Env → Act) → List (Tmp × Fact E) → List (Tmp × Fact E) → Prop) (k : Nat) (l : List Oper) (A : Env → Act) (Fs Gs Hs : List (Tmp × Fact E)) : Prop where
  out : SettleG P ops S I E Em mk fl Z k l A Fs Gs Hs

/-- THE RULE, with marks and a tail of n operations ahead of it -/
theorem wp_walk_pg {id : Nat} {a : Act} {w : World} {l : List Oper} (n : Nat) (mk fl : Nat → Bool) (ms : List Nat) (hms : ∀ m, mk m = true → m ∈ ms) (hm : P.follows .mixedOrders = true) (hB : tailB l.toArray n = true) (hmk : markPB l.toArray n mk fl ms = true) (L : List Tmp) (hLB : labB l.toArray n ms L = true) (E Em : World → World → Prop) (S : World → Prop) (I : Nat → Env → World → Prop) (hS : S w.drew) (hS0 : ∀ ρ, I 0 ρ w.drew) (hIE : ∀ c ρ w w', I c ρ w → E w w' → I c ρ w') (hI0 : ∀ ρ ρ' w, I 0 ρ w → I 0 ρ' w) (hIρ : ∀ c ρ ρ' w, (∀ t ∈ L, ρ t = ρ' t) → I c ρ w → I c ρ' w)
    (h : WalkG P l.toArray S I E Em mk fl (fun A Fs Gs => ∀ ρ w', S w' → I (cntM mk n) ρ w' → (∀ t F, (t, F) ∈ Fs → F.holds (ρ t) w') → (∀ t F, (t, F) ∈ Gs → F.holds (ρ t) w') → wpList P l.toArray Q (l.drop n) (A ρ) w') 0 (l.take n) (fun _ => a) [] [] []) : (Code.region id l.toArray true).wp P Q a w := by
  simp only [tailB, Bool.and_eq_true, decide_eq_true_eq] at hB
  obtain ⟨⟨⟨⟨hn, hlin⟩, hs⟩, hc⟩, hq⟩ := hB
  obtain ⟨full, hp, he, hZ⟩ := settleG_plan (l.take n) [] ⟨(fun _ h => by cases h), (fun j p F h => by simp at h), (fun pre p post he => by simp at he)⟩ h.out
  have inv0 : HeadInv .any l.toArray n (Array.replicate l.toArray.size false) :=
    ⟨by simp, fun j oj _ hl => (by rw [getD_replicate_false] at hl; cases hl), fun t _ ht => getD_in (by simpa using ht) (getD_replicate_false _ _)⟩
  have := any_order_pg (P := P) (Q := Q) hn (by simpa using he) (linearN_of hlin) hs hc (fun listed hsz h1 h2 => by
    have hn' := hn
    rw [show listed = (Array.replicate n true) ++ (Array.replicate (l.toArray.size - n) false) from getD_ext (by simp only [Array.size_append, Array.size_replicate]; omega) fun i => by
      rw [Array.getD_eq_getD_getElem? (xs := _ ++ _), Array.getElem?_append]
      rcases Nat.lt_or_ge i n with h | h
      · rw [h1 i h]
        simp [h]
      · rw [h2 i h]
        simp only [Array.size_replicate, Nat.not_lt.2 h, if_false, Array.getElem?_replicate]
        split <;> rfl]
    exact hq) (markedP_of hms hmk) hp hIE hI0 hIρ (labB_spec hms hLB) hZ n _ a w.drew (fun _ => undef) inv0 ⟨List.range n, by simp, fun i hi _ => List.mem_range.2 hi⟩ ⟨rfl, rfl, fun _ _ => rfl, fun i p t hi => ?_⟩ hS (fun c hc hcm => ?_) (fun i p F d hi => ?_) fun i p F d hi => ?_
  · refine wp_region_any hm ?_
    rwa [show n + (l.toArray.size - n) = l.toArray.size by omega] at this
  · exfalso; rw [getD_replicate_false] at hi; cases hi
  · rcases c with _ | c
    · exact hS0 _
    · obtain ⟨m0, -, hm0, hmk0, hc0⟩ := cntM_next (mk := mk) (a := 0) (b := n) (by simp [cntM]; omega)
      have := (hcm m0 hmk0).2 (by rw [hc0]; simp [cntM])
      rw [getD_replicate_false] at this
      cases this
  · exfalso; rw [getD_replicate_false] at hi; cases hi
  · exfalso; rw [getD_replicate_false] at hi; cases hi
variable {Z : (Env → Act) → List (Tmp × Fact E) → List (Tmp × Fact E) → Prop} {o : Oper} {rest : List Oper} {A : Env → Act} {Fs Gs Hs : List (Tmp × Fact E)} {k : Nat}
theorem gsettle_nil (h : Z A Fs Gs) : WalkG P ops S I E Em mk fl Z k [] A Fs Gs Hs := ⟨h⟩
theorem gsettle_skip (hmk : mk k = false) (hw : ∀ ρ, Region.wanted o (yielded ops (A ρ).tmps) = false) (h : WalkG P ops S I E Em mk fl Z (k + 1) rest (fun ρ => (A ρ).put o.dst undef) Fs Gs Hs) : WalkG P ops S I E Em mk fl Z k (o :: rest) A Fs Gs Hs :=
  ⟨.inl ⟨undef, fun ρ w _ _ _ _ => by unfold StepTo; rw [if_neg (by rw [hw]; simp)], by rw [hmk]; exact h.out⟩⟩
theorem gsettle_run {v : Value} (hmk : mk k = false) (hE : ∀ w, S w → E w w) (hw : ∀ ρ, Region.wanted o (yielded ops (A ρ).tmps) = true)
    (hr : ∀ ρ w, S w → FactsOK (o.looksAt ops) ρ w (cond (fl k) [] Fs) → PreP mk fl I k ρ w → ((∀ t F, (t, F) ∈ Hs → t ∈ o.looksAt ops → ∃ w, F.holds (ρ t) w) ∧ (∀ t F, (t, F) ∈ Gs → t ∈ o.looksAt ops → F.holds (ρ t) w)) → (execOp (A ρ).eval o).run P w = .ok (.value v) w) (h : WalkG P ops S I E Em mk fl Z (k + 1) rest (fun ρ => (A ρ).put o.dst v) Fs Gs Hs) : WalkG P ops S I E Em mk fl Z k (o :: rest) A Fs Gs Hs :=
  ⟨.inl ⟨v, fun ρ w hS hF hP hU => by
    unfold StepTo
    rw [if_pos (hw ρ)]
    unfold EsF
    rw [hmk]
    intro K hK
    unfold Oper.wp
    rw [hr ρ w hS hF hP hU]
    exact hK v w rfl hS (hE w hS), by rw [hmk]; exact h.out⟩⟩
theorem gsettle_step {v : Value} (hmk : mk k = false) (hw : ∀ ρ, Region.wanted o (yielded ops (A ρ).tmps) = true)
    (hc : ∀ ρ w, S w → FactsOK (o.looksAt ops) ρ w (cond (fl k) [] Fs) → PreP mk fl I k ρ w → ((∀ t F, (t, F) ∈ Hs → t ∈ o.looksAt ops → ∃ w, F.holds (ρ t) w) ∧ (∀ t F, (t, F) ∈ Gs → t ∈ o.looksAt ops → F.holds (ρ t) w)) → ∀ K : Act → World → Prop, (∀ w', S w' → E w w' → K ((A ρ).put o.dst v) w') → o.wp P (A ρ) w K (fun _ _ _ => False)) (h : WalkG P ops S I E Em mk fl Z (k + 1) rest (fun ρ => (A ρ).put o.dst v) Fs Gs Hs) : WalkG P ops S I E Em mk fl Z k (o :: rest) A Fs Gs Hs :=
  ⟨.inl ⟨v, fun ρ w hS hF hP hU => by
    unfold StepTo
    rw [if_pos (hw ρ)]
    unfold EsF
    rw [hmk]
    exact fun K hK => hc ρ w hS hF hP hU K fun w' h1 h2 => hK v w' rfl h1 h2, by rw [hmk]; exact h.out⟩⟩
theorem gsettle_known {d : Tmp} (F : Fact E) (hmk : mk k = false) (hfl : fl k = false) (hd : o.dst = some d) (hw : ∀ ρ, Region.wanted o (yielded ops (A ρ).tmps) = true)
    (hc : ∀ ρ w, S w → FactsOK (o.looksAt ops) ρ w (cond (fl k) [] Fs) → PreP mk fl I k ρ w → ((∀ t F, (t, F) ∈ Hs → t ∈ o.looksAt ops → ∃ w, F.holds (ρ t) w) ∧ (∀ t F, (t, F) ∈ Gs → t ∈ o.looksAt ops → F.holds (ρ t) w)) → ∀ K : Act → World → Prop, (∀ v w', F.holds v w' → S w' → E w w' → K ((A ρ).put o.dst v) w') → o.wp P (A ρ) w K (fun _ _ _ => False)) (h : WalkG P ops S I E Em mk fl Z (k + 1) rest (fun ρ => (A ρ).put (some d) (ρ d)) ((d, F) :: Fs) Gs ((d, F) :: Hs)) : WalkG P ops S I E Em mk fl Z k (o :: rest) A Fs Gs Hs :=
  ⟨.inr ⟨d, F, hd, .inl hfl, fun ρ w hS hF hP hU => by
    unfold StepTo
    rw [if_pos (hw ρ)]
    unfold EsF
    rw [hmk]
    exact fun K hK => hc ρ w hS hF hP hU K hK, by rw [hmk, hfl]; exact h.out⟩⟩
/-- a mark: what was known is forgotten -/
theorem gsettle_mark {d : Tmp} (F : Fact E) (hmk : mk k = true) (hfl : fl k = false) (hd : o.dst = some d) (hw : ∀ ρ, Region.wanted o (yielded ops (A ρ).tmps) = true)
    (hc : ∀ ρ w, S w → FactsOK (o.looksAt ops) ρ w (cond (fl k) [] Fs) → PreP mk fl I k ρ w → ((∀ t F, (t, F) ∈ Hs → t ∈ o.looksAt ops → ∃ w, F.holds (ρ t) w) ∧ (∀ t F, (t, F) ∈ Gs → t ∈ o.looksAt ops → F.holds (ρ t) w)) → ∀ K : Act → World → Prop, (∀ v w', F.holds v w' → S w' → I (cntM mk k + 1) ρ w' → Em w w' → K ((A ρ).put o.dst v) w') → o.wp P (A ρ) w K (fun _ _ _ => False)) (h : WalkG P ops S I E Em mk fl Z (k + 1) rest (fun ρ => (A ρ).put (some d) (ρ d)) [(d, F)] Gs ((d, F) :: Hs)) : WalkG P ops S I E Em mk fl Z k (o :: rest) A Fs Gs Hs :=
  ⟨.inr ⟨d, F, hd, .inl hfl, fun ρ w hS hF hP hU => by
    unfold StepTo
    rw [if_pos (hw ρ)]
    unfold EsF
    rw [hmk]
    exact fun K hK => hc ρ w hS hF hP hU K fun v w' h1 h2 h3 h4 => hK v w' h1 h2 ⟨h3, h4⟩, by rw [hmk, hfl]; exact h.out⟩⟩
/-- a mark whose value is known, or that has none -/
theorem gsettle_turn {v : Value} (hmk : mk k = true) (hw : ∀ ρ, Region.wanted o (yielded ops (A ρ).tmps) = true)
    (hc : ∀ ρ w, S w → FactsOK (o.looksAt ops) ρ w (cond (fl k) [] Fs) → PreP mk fl I k ρ w → ((∀ t F, (t, F) ∈ Hs → t ∈ o.looksAt ops → ∃ w, F.holds (ρ t) w) ∧ (∀ t F, (t, F) ∈ Gs → t ∈ o.looksAt ops → F.holds (ρ t) w)) → ∀ K : Act → World → Prop, (∀ w', S w' → I (cntM mk k + 1) ρ w' → Em w w' → K ((A ρ).put o.dst v) w') → o.wp P (A ρ) w K (fun _ _ _ => False)) (h : WalkG P ops S I E Em mk fl Z (k + 1) rest (fun ρ => (A ρ).put o.dst v) [] Gs Hs) : WalkG P ops S I E Em mk fl Z k (o :: rest) A Fs Gs Hs :=
  ⟨.inl ⟨v, fun ρ w hS hF hP hU => by
    unfold StepTo
    rw [if_pos (hw ρ)]
    unfold EsF
    rw [hmk]
    exact fun K hK => hc ρ w hS hF hP hU K fun w' h1 h2 h3 => hK v w' rfl h1 ⟨h2, h3⟩, by rw [hmk]; exact h.out⟩⟩
theorem gsettle_float {d : Tmp} (F : Fact E) (hst : Stays Em F) (hmk : mk k = false) (hfl : fl k = true) (hd : o.dst = some d) (hw : ∀ ρ, Region.wanted o (yielded ops (A ρ).tmps) = true)
    (hc : ∀ ρ w, S w → FactsOK (o.looksAt ops) ρ w (cond (fl k) [] Fs) → PreP mk fl I k ρ w → ((∀ t F, (t, F) ∈ Hs → t ∈ o.looksAt ops → ∃ w, F.holds (ρ t) w) ∧ (∀ t F, (t, F) ∈ Gs → t ∈ o.looksAt ops → F.holds (ρ t) w)) → ∀ K : Act → World → Prop, (∀ v w', F.holds v w' → S w' → E w w' → K ((A ρ).put o.dst v) w') → o.wp P (A ρ) w K (fun _ _ _ => False)) (h : WalkG P ops S I E Em mk fl Z (k + 1) rest (fun ρ => (A ρ).put (some d) (ρ d)) ((d, F) :: Fs) ((d, F) :: Gs) ((d, F) :: Hs)) : WalkG P ops S I E Em mk fl Z k (o :: rest) A Fs Gs Hs :=
  ⟨.inr ⟨d, F, hd, .inr hst, fun ρ w hS hF hP hU => by
    unfold StepTo
    rw [if_pos (hw ρ)]
    unfold EsF
    rw [hmk]
    exact fun K hK => hc ρ w hS hF hP hU K hK, by rw [hmk, hfl]; exact h.out⟩⟩
end
end Go.Proofs.YtkjmddgnfgbioaaDoor


namespace Go.Proofs.YtkjmddgnfgbioaaDoor
set_option linter.unusedVariables false
set_option linter.unusedSimpArgs false
set_option maxRecDepth 100000
open Go.RowKit

/-- a slice of statements; what Unfold has; a term -/
def FPu (p : St.P) : Fact (fun w w' => Below w.heap.size w w') := ⟨fun v w => ∃ A n c, v = .slice A n c ∧ IsP w (.slice A n c) p, fun v w w' ⟨A, n, c, h1, h2⟩ k => ⟨A, n, c, h1, h2.step k⟩⟩
theorem KsR.step_ {w w' : World} {cs : List Value} {s : Ks} (h : KsR w.heap.size w cs s) (hb : Below w.heap.size w w') : KsR w'.heap.size w' cs s := (h.later hb).up hb.size
def FUn (H : Array Value) (E : Int) (t : Sp.T) : Fact (fun w w' => Below w.heap.size w w') := ⟨fun v w => ∃ k c b l A n cap, v = .tuple #[.agg #[.int .i64 k, .int .i64 c, .bool b, .int .i64 l, .slice A n cap], .agg H, .int .i64 E] ∧ KsR w.heap.size w (tcells k c b l A n cap) (Ks.of t), fun v w w' ⟨k, c, b, l, A, n, cap, h1, h2⟩ hb => ⟨k, c, b, l, A, n, cap, h1, h2.step_ hb⟩⟩
def FTu (t : Sp.T) : Fact (fun w w' => Below w.heap.size w w') := ⟨fun v w => ∃ k c b l A n cap, v = .agg #[.int .i64 k, .int .i64 c, .bool b, .int .i64 l, .slice A n cap] ∧ KsR w.heap.size w (tcells k c b l A n cap) (Ks.of t), fun v w w' ⟨k, c, b, l, A, n, cap, h1, h2⟩ hb => ⟨k, c, b, l, A, n, cap, h1, h2.step_ hb⟩⟩
theorem KsR.tm {w : World} {cs : List Value} {t : Sp.T} (h : KsR w.heap.size w cs (Ks.of t)) : TmR w.heap.size w cs t := by
  have h5 := h.terms 0 t (by rw [Ks.of_tt]; rfl)
  have h6 : cs.length = 5 := by rw [h.length, Ks.of_len]
  rwa [Nat.zero_mul, List.drop_zero, List.take_of_length_le (by omega)] at h5
/-- kids lie two in a row: no store into a short block meets them -/
theorem KsR.app_inv {B : Nat} {w : World} : ∀ {a b : Ks} {cs : List Value}, KsR B w cs (a.app b) → ∃ c1 c2, cs = c1 ++ c2 ∧ KsR B w c1 a ∧ KsR B w c2 b
  | .nil, _, cs, h => ⟨[], cs, rfl, .nil, h⟩
  | .cons k c b l kids rest, b', cs, h => by
    cases h with
    | cons _ _ _ _ A cap ds cs' _ _ h1 h2 h3 h4 h5 =>
      obtain ⟨c1, c2, rfl, h6, h7⟩ := KsR.app_inv h5
      exact ⟨tcells k c b l A kids.len cap ++ c1, c2, by rw [List.append_assoc], .cons k c b l A cap ds c1 kids rest h1 h2 h3 h4 h6, h7⟩
theorem KsR.put_short {B S : Nat} {w w' : World} {ty : TypeId} {zs : List Value} (hS : Blk w S ty zs) (hz : zs.length ≤ 9) (hg : w.grownBy w' (some S)) (hB : B ≤ w.heap.size) : ∀ {t : Sp.T} {cs : List Value}, KsR B w cs (Ks.of t) → KsR B w' cs (Ks.of t)
  | .nil, cs, h => by
    cases h with
    | cons _ _ _ _ A cap ds cs' _ _ h1 h2 h3 h4 h5 =>
      cases h4
      cases h5
      exact .cons 0 0 false 0 A cap [] [] .nil .nil h1 h2 (by obtain ⟨g, o, h6, h7⟩ := h3; exact ⟨g, o, h6, fun j u hu => by simp at hu⟩) .nil .nil
  | .one c b l, cs, h => by
    cases h with
    | cons _ _ _ _ A cap ds cs' _ _ h1 h2 h3 h4 h5 =>
      cases h4
      cases h5
      exact .cons 1 c b l A cap [] [] .nil .nil h1 h2 (by obtain ⟨g, o, h6, h7⟩ := h3; exact ⟨g, o, h6, fun j u hu => by simp at hu⟩) .nil .nil
  | .two par a b, cs, h => by
    cases h with
    | cons _ _ _ _ A cap ds cs' _ _ h1 h2 h3 h4 h5 =>
      cases h5
      have hlen := h4.length
      rw [Ks.app_len, Ks.of_len, Ks.of_len] at hlen
      obtain ⟨c1, c2, rfl, h6, h7⟩ := KsR.app_inv h4
      refine .cons _ 0 false 0 A cap _ [] _ .nil h1 h2 ?_ (KsR.app (KsR.put_short hS hz hg hB h6) (KsR.put_short hS hz hg hB h7)) .nil
      obtain ⟨g, o, h8, h9⟩ := h3
      have hne : c1 ++ c2 ≠ [] := fun e => by rw [e] at hlen; simp at hlen
      have hgS : g ≠ S := fun e => by
        subst e
        have h10 := h9 9 _ (List.getElem?_eq_getElem (by omega))
        rw [hS.cell] at h10
        rw [List.getElem?_eq_none (by omega)] at h10
        cases h10
      exact ⟨g, o, h8, fun j u hu => (World.cell?_of_block (a := ⟨g, o + j, none⟩) (hg.block g (by have := (h8 hne).2; omega) (fun e => hgS (by injection e)))).trans (h9 j u hu)⟩

/-- a term, put into a variable of its own; a heap's variable -/
def IT (B0 : Nat) (t : Sp.T) (v7 : Value) (w : World) : Prop := ∃ S k c b l A n cap, v7 = .pointer (some ⟨S, 0, none⟩) ∧ B0 ≤ S ∧ Blk w S 59 [.int .i64 k, .int .i64 c, .bool b, .int .i64 l, .slice A n cap] ∧ KsR w.heap.size w (tcells k c b l A n cap) (Ks.of t)
theorem IT.step {B0 : Nat} {t : Sp.T} {v7 : Value} {w w' : World} (h : IT B0 t v7 w) (hb : Below w.heap.size w w') : IT B0 t v7 w' := by
  obtain ⟨S, k, c, b, l, A, n, cap, h1, h3, h5, h7⟩ := h
  exact ⟨S, k, c, b, l, A, n, cap, h1, h3, h5.below hb, h7.step_ hb⟩
theorem IT.cong {B0 : Nat} {t : Sp.T} {v7 u7 : Value} {w : World} (h : IT B0 t v7 w) (h7 : v7 = u7) : IT B0 t u7 w := h7 ▸ h
def Blk8 (w : World) (q : Nat) : Prop := ∃ cs : List Value, cs.length = 8 ∧ Blk w q 50 cs
theorem blk8_put {w w5 : World} {H : Nat} {cs : List Value} (hl : cs.length = 8) (hB : Blk w5 H 50 cs) (hg : w.grownBy w5 (some H)) : ∀ q, Blk8 w q → Blk8 w5 q := fun q ⟨cs', hl', hq⟩ => by
  by_cases e : q = H
  · subst e
    exact ⟨cs, hl, hB⟩
  · exact ⟨cs', hl', hq.grown hg (fun h => e (by injection h))⟩
def FH8 (B0 : Nat) : Fact (fun w w' => Below w.heap.size w w') := ⟨fun v w => ∃ g, v = .pointer (some ⟨g, 0, none⟩) ∧ B0 ≤ g ∧ Blk8 w g, fun _ _ _ ⟨g, h1, h2, cs, h3, h4⟩ k => ⟨g, h1, h2, cs, h3, h4.below k⟩⟩
end Go.Proofs.YtkjmddgnfgbioaaDoor


namespace Go.Proofs.YtkjmddgnfgbioaaDoor.Sr
set_option linter.unusedVariables false
set_option linter.unusedSimpArgs false
set_option maxRecDepth 100000
open Ex St

/-! ### new names for old ones -/
/-- the last one that is bound so -/
def find (s : Bs) : List (Bs × Bs) → Option Bs
  | [] => none
  | b :: l => match find s l with | some t => some t | none => if b.1 == s then some b.2 else none
theorem find_snoc (s : Bs) (l : List (Bs × Bs)) (b : Bs × Bs) : find s (l ++ [b]) = if b.1 == s then some b.2 else find s l := by
  induction l with
  | nil => simp [find]
  | cons c l ih =>
    rw [List.cons_append, find, ih]
    by_cases h : (b.1 == s) = true
    · simp [h]
    · have h' : (b.1 == s) = false := by simpa using h
      simp only [h', Bool.false_eq_true, if_false]
      rw [find]
theorem find_mem {s t : Bs} : ∀ {l : List (Bs × Bs)}, find s l = some t → (s, t) ∈ l
  | [], h => by cases h
  | b :: l, h => by
    rw [find] at h
    rcases hf : find s l with _ | u
    · rw [hf] at h
      by_cases hb : (b.1 == s) = true
      · rw [if_pos hb] at h
        injection h with h
        have := eq_of_beq hb
        rw [← this, ← h]
        exact List.mem_cons_self
      · rw [if_neg hb] at h; cases h
    · rw [hf] at h
      injection h with h
      subst h
      exact List.mem_cons_of_mem _ (find_mem hf)
theorem find_none {s : Bs} : ∀ {l : List (Bs × Bs)}, find s l = none ↔ s ∉ l.map (·.1)
  | [] => by simp [find]
  | b :: l => by
    rw [find]
    rcases hf : find s l with _ | u
    · have := find_none.1 hf
      by_cases hb : (b.1 == s) = true
      · rw [if_pos hb]
        have := eq_of_beq hb
        simp [this]
      · rw [if_neg hb]
        have hb' : b.1 ≠ s := by simpa using hb
        simp only [List.map_cons, List.mem_cons, not_or, true_iff]
        exact ⟨fun e => hb' e.symm, this⟩
    · refine ⟨fun h => (by cases h), fun h => ?_⟩
      exfalso
      have := find_mem hf
      exact h (List.mem_cons_of_mem _ (List.mem_map.2 ⟨_, this, rfl⟩))
/-- an expression, with new names -/
def rnx (en : List (Bs × Bs)) : X → X
  | .num n => .num n
  | .name s => .name ((find s en).getD s)
  | .two k a b => .two k (rnx en a) (rnx en b)
  | .bad => .num 0

section
variable (vn : Nat → Bs)
/-- statements, with new names; how many names there are behind -/
def rn : P → List (Bs × Bs) → Nat → P × Nat
  | .nil, _, m => (.nil, m)
  | .cons k nm a b body els rest, en, m =>
    if k = 1 ∨ k = 2 then ((.cons k (vn m) (rnx en a) .bad .nil .nil (rn rest (en ++ [(nm, vn m)]) (m + 1)).1), (rn rest (en ++ [(nm, vn m)]) (m + 1)).2)
    else if k = 3 then (.cons k [] (rnx en a) (rnx en b) .nil .nil (rn rest en m).1, (rn rest en m).2)
    else if k = 4 ∨ k = 5 then (.cons k [] .bad .bad (rn body en m).1 .nil (rn rest en (rn body en m).2).1, (rn rest en (rn body en m).2).2)
    else if k = 6 then (.cons k [] (rnx en a) .bad (rn body en m).1 (rn els en (rn body en m).2).1 (rn rest en (rn els en (rn body en m).2).2).1, (rn rest en (rn els en (rn body en m).2).2).2)
    else if k = 7 then (.cons k (vn m) (rnx en a) (rnx en b) (rn body (en ++ [(nm, vn m)]) (m + 1)).1 .nil (rn rest en (rn body (en ++ [(nm, vn m)]) (m + 1)).2).1, (rn rest en (rn body (en ++ [(nm, vn m)]) (m + 1)).2).2)
    else (.cons k [] .bad .bad .nil .nil (rn rest en m).1, (rn rest en m).2)
def rename (p : P) : P := (rn vn p [] 0).1

end

/-! ### what is free behind what is bound -/
/-- all that is free lies in a list: bound by it, nothing is -/
theorem use_sub {bd acc bd' : List ByteArray} {e : X} (h : ∀ s ∈ use bd acc e, s ∈ bd') (hb : ∀ s ∈ bd, s ∈ bd') : okx (bss bd') e ∧ ∀ s ∈ acc, s ∈ bd' := by
  unfold use at h
  have key : ∀ (l acc : List ByteArray), (∀ s ∈ l.foldl (use1 bd) acc, s ∈ bd') → (∀ s ∈ acc, s ∈ bd') ∧ ∀ s ∈ l, s ∈ bd' := by
    intro l
    induction l with
    | nil => exact fun acc h => ⟨h, fun s hs => by cases hs⟩
    | cons x l ih =>
      intro acc h
      obtain ⟨h1, h2⟩ := ih _ h
      have hx : x ∈ bd' ∧ ∀ s ∈ acc, s ∈ bd' := by
        unfold use1 at h1
        split at h1
        · exact ⟨h1 x (by simp), fun s hs => h1 s (by simp [hs])⟩
        · rename_i hn
          refine ⟨?_, h1⟩
          rcases hxb : has x bd with _ | _
          · rcases hxa : has x acc with _ | _
            · exact absurd ⟨hxb, hxa⟩ hn
            · exact h1 x ((has_mem _ _).1 hxa)
          · exact hb x ((has_mem _ _).1 hxb)
      exact ⟨hx.2, fun s hs => (List.mem_cons.1 hs).elim (fun e => e ▸ hx.1) (h2 s)⟩
  obtain ⟨h1, h2⟩ := key _ _ h
  refine ⟨(okx_occ _ _).2 fun s hs => ?_, h1⟩
  have := h2 (ba s) ((mem_names _ _).2 (by simpa [ba] using hs))
  rw [← mem_bss] at this
  simpa [ba] using this
theorem sub_snoc {bd bd' : List ByteArray} {x : ByteArray} (hb : ∀ s ∈ bd, s ∈ bd') : ∀ s ∈ bd ++ [x], s ∈ bd' ++ [x] := fun s hs => by
  rcases List.mem_append.1 hs with h | h
  · exact List.mem_append_left _ (hb s h)
  · exact List.mem_append_right _ h
theorem fr_sub.use_grow (bd acc : List ByteArray) (e : X) (s : ByteArray) (h : s ∈ acc) : s ∈ use bd acc e := by
  unfold use
  generalize names [] e = l
  induction l generalizing acc with
  | nil => exact h
  | cons x l ih =>
    refine ih _ ?_
    unfold use1
    split
    · exact List.mem_append_left _ h
    · exact h
theorem fr_sub.fr_grow : ∀ (q : P) (bd ac : List ByteArray) (s : ByteArray), s ∈ ac → s ∈ fr q bd ac
| .nil, _, _, _, h => h
| .cons k nm a b body els rest, bd, ac, s, h => by
  unfold fr
  split
  · exact fr_sub.fr_grow rest _ _ s (fr_sub.use_grow _ _ _ s h)
  split
  · exact fr_sub.fr_grow rest _ _ s (fr_sub.use_grow _ _ _ s (fr_sub.use_grow _ _ _ s h))
  split
  · exact fr_sub.fr_grow rest _ _ s (fr_sub.fr_grow body _ _ s h)
  split
  · exact fr_sub.fr_grow rest _ _ s (fr_sub.fr_grow els _ _ s (fr_sub.fr_grow body _ _ s (fr_sub.use_grow _ _ _ s h)))
  split
  · exact fr_sub.fr_grow rest _ _ s (fr_sub.fr_grow body _ _ s (fr_sub.use_grow _ _ _ s (fr_sub.use_grow _ _ _ s h)))
  · exact fr_sub.fr_grow rest _ _ s h
theorem fr_sub : ∀ (p : P) (bd acc bd' : List ByteArray), (∀ s ∈ fr p bd acc, s ∈ bd') → (∀ s ∈ bd, s ∈ bd') → cl p (bss bd') ∧ ∀ s ∈ acc, s ∈ bd'
  | .nil, bd, acc, bd', h, hb => ⟨trivial, h⟩
  | .cons k nm a b body els rest, bd, acc, bd', h, hb => by
    unfold fr at h
    unfold cl
    have grow : ∀ {q : P} {bd2 ac : List ByteArray} {s : ByteArray}, s ∈ ac → s ∈ fr q bd2 ac := fun {q bd2 ac s} => fr_sub.fr_grow q bd2 ac s
    split at h
    · rename_i hk
      rw [if_pos hk]
      obtain ⟨h1, -⟩ := fr_sub rest (bd ++ [ba nm]) _ (bd' ++ [ba nm]) (fun s hs => List.mem_append_left _ (h s hs)) (sub_snoc hb)
      rw [bss_snoc] at h1
      obtain ⟨h2, h3⟩ := use_sub (fun s hs => h s (grow hs)) hb
      exact ⟨⟨h2, h1⟩, h3⟩
    rename_i hk; rw [if_neg hk]
    split at h
    · rename_i hk
      rw [if_pos hk]
      obtain ⟨h1, h2⟩ := fr_sub rest _ _ bd' h hb
      obtain ⟨h3, h4⟩ := use_sub h2 hb
      obtain ⟨h5, h6⟩ := use_sub h4 hb
      exact ⟨⟨⟨h5, h3⟩, h1⟩, h6⟩
    rename_i hk; rw [if_neg hk]
    split at h
    · rename_i hk
      rw [if_pos hk]
      obtain ⟨h1, h2⟩ := fr_sub rest _ _ bd' h hb
      obtain ⟨h3, h4⟩ := fr_sub body _ _ bd' h2 hb
      exact ⟨⟨h3, h1⟩, h4⟩
    rename_i hk; rw [if_neg hk]
    split at h
    · rename_i hk
      rw [if_pos hk]
      obtain ⟨h1, h2⟩ := fr_sub rest _ _ bd' h hb
      obtain ⟨h3, h4⟩ := fr_sub els _ _ bd' h2 hb
      obtain ⟨h5, h6⟩ := fr_sub body _ _ bd' h4 hb
      obtain ⟨h7, h8⟩ := use_sub h6 hb
      exact ⟨⟨⟨h7, h5, h3⟩, h1⟩, h8⟩
    rename_i hk; rw [if_neg hk]
    split at h
    · rename_i hk
      rw [if_pos hk]
      obtain ⟨h1, h2⟩ := fr_sub rest _ _ bd' h hb
      obtain ⟨h3, -⟩ := fr_sub body (bd ++ [ba nm]) _ (bd' ++ [ba nm]) (fun s hs => List.mem_append_left _ (h2 s hs)) (sub_snoc hb)
      rw [bss_snoc] at h3
      have h4 : ∀ s ∈ use bd (use bd acc a) b, s ∈ bd' := fun s hs => h2 s (grow hs)
      obtain ⟨h5, h6⟩ := use_sub h4 hb
      obtain ⟨h7, h8⟩ := use_sub h6 hb
      exact ⟨⟨⟨⟨h7, h5⟩, h3⟩, h1⟩, h8⟩
    rename_i hk; rw [if_neg hk]
    exact fr_sub rest bd acc bd' h hb
/-- a let of each name -/
def lets : List ByteArray → P
  | [] => .nil
  | s :: l => .cons 1 s.data.toList (.num 0) .bad .nil .nil (lets l)
theorem fr_lets : ∀ (l : List ByteArray) (p : P) (bd : List ByteArray), fr (lets l ++ p) bd [] = fr p (bd ++ l) []
  | [], p, bd => by rw [List.append_nil]; rfl
  | s :: l, p, bd => by
    unfold lets
    rw [P.cons_append, fr, if_pos (.inl rfl)]
    have e : use bd [] (.num 0) = [] := rfl
    rw [e, fr_lets l p, ba_data, List.append_assoc]
    simp
theorem closed_law (p : P) : free (lets (free p) ++ p) = [] := by
  unfold free
  rw [fr_lets, List.nil_append, fr_nil]
  exact ⟨rfl, (fr_sub p [] [] _ (fun s hs => hs) (fun s hs => by cases hs)).1⟩

/-! ### a block, and what is behind it -/
/-- those of both, each once -/
def merge (a b : List ByteArray) : List ByteArray := b.foldl (fun out s => if has s out then out else out ++ [s]) a
theorem merge_snoc (a b : List ByteArray) (s : ByteArray) : merge a (b ++ [s]) = if has s (merge a b) then merge a b else merge a b ++ [s] := by
  unfold merge
  rw [List.foldl_append]
  rfl
theorem mem_merge (a b : List ByteArray) (s : ByteArray) : s ∈ merge a b ↔ s ∈ a ∨ s ∈ b := by
  unfold merge
  induction b generalizing a with
  | nil => simp
  | cons x b ih =>
    rw [List.foldl_cons, ih]
    by_cases h : has x a = true
    · rw [if_pos h]
      have := (has_mem _ _).1 h
      constructor
      · rintro (h | h)
        · exact .inl h
        · exact .inr (List.mem_cons_of_mem _ h)
      · rintro (h | h)
        · exact .inl h
        · rcases List.mem_cons.1 h with rfl | h
          · exact .inl this
          · exact .inr h
    · rw [if_neg h, List.mem_append, List.mem_singleton, List.mem_cons, or_assoc]
/-- what had come is ahead of what is used anew -/
theorem use1_merge (bd acc x : List ByteArray) (s : ByteArray) : use1 bd (merge acc x) s = merge acc (use1 bd x s) := by
  unfold use1
  rcases h1 : has s bd with _ | _
  · rcases h2 : has s x with _ | _
    · rw [if_pos (show false = false ∧ false = false from ⟨rfl, rfl⟩), merge_snoc]
      rcases h3 : has s (merge acc x) with _ | _
      · simp
      · simp
    · have h3 : has s (merge acc x) = true := (has_mem _ _).2 ((mem_merge _ _ _).2 (.inr ((has_mem _ _).1 h2)))
      rw [h3]
      simp
  · simp
theorem use_merge (bd acc x : List ByteArray) (e : X) : use bd (merge acc x) e = merge acc (use bd x e) := by
  unfold use
  generalize names [] e = l
  induction l generalizing x with
  | nil => rfl
  | cons s l ih => rw [List.foldl_cons, List.foldl_cons, use1_merge, ih]
theorem fr_merge : ∀ (p : P) (bd acc x : List ByteArray), fr p bd (merge acc x) = merge acc (fr p bd x)
  | .nil, _, _, _ => rfl
  | .cons k nm a b body els rest, bd, acc, x => by
    unfold fr
    split
    · rw [use_merge, fr_merge rest]
    split
    · rw [use_merge, use_merge, fr_merge rest]
    split
    · rw [fr_merge body, fr_merge rest]
    split
    · rw [use_merge, fr_merge body, fr_merge els, fr_merge rest]
    split
    · rw [use_merge, use_merge, fr_merge body, fr_merge rest]
    · rw [fr_merge rest]
theorem block_law (k : Int) (hk : k = 4 ∨ k = 5) (nm : Bs) (e f : X) (els a b : P) : free (.cons k nm e f a els b) = merge (free a) (free b) := by
  unfold free
  rw [fr, if_neg (by omega), if_neg (by omega), if_pos hk]
  exact fr_merge b [] (fr a [] []) []
end Go.Proofs.YtkjmddgnfgbioaaDoor.Sr


namespace Go.Proofs.YtkjmddgnfgbioaaDoor.Sr
set_option linter.unusedVariables false
set_option linter.unusedSimpArgs false
set_option maxRecDepth 100000
open Ex St

/-! ### the new names -/
def vn (i : Nat) : Bs := 118 :: Lib.decDigits i
theorem digits_pos (u : Nat) : Lib.decDigits u ≠ [] := by
  rw [Lib.decDigits]
  split <;> simp
theorem digit_inj {a b : Nat} (ha : a < 10) (hb : b < 10) (h : UInt8.ofNat (48 + a) = UInt8.ofNat (48 + b)) : a = b := by
  have := congrArg UInt8.toNat h
  simp only [UInt8.toNat_ofNat'] at this
  omega
theorem digits_inj : ∀ (u v : Nat), Lib.decDigits u = Lib.decDigits v → u = v := by
  intro u
  induction u using Nat.strongRecOn with
  | _ u ih =>
    intro v h
    rw [Lib.decDigits.eq_def u, Lib.decDigits.eq_def v] at h
    by_cases hu : u < 10
    · rw [dif_pos hu] at h
      by_cases hv : v < 10
      · rw [dif_pos hv] at h
        exact digit_inj hu hv (by simpa using h)
      · rw [dif_neg hv] at h
        have := congrArg List.length h
        have hp := List.length_pos_iff.2 (digits_pos (v / 10))
        simp only [List.length_append, List.length_singleton] at this
        omega
    · rw [dif_neg hu] at h
      by_cases hv : v < 10
      · rw [dif_pos hv] at h
        have := congrArg List.length h
        have hp := List.length_pos_iff.2 (digits_pos (u / 10))
        simp only [List.length_append, List.length_singleton] at this
        omega
      · rw [dif_neg hv] at h
        obtain ⟨h1, h2⟩ := List.append_inj' h rfl
        have := ih (u / 10) (by omega) _ h1
        have := digit_inj (a := u % 10) (b := v % 10) (by omega) (by omega) (by simpa using h2)
        omega
theorem vn_inj {i j : Nat} (h : vn i = vn j) : i = j := digits_inj i j (by unfold vn at h; injection h)

/-! ### renamed twice -/
/-- each name for itself -/
def idn (en : List (Bs × Bs)) : Prop := ∀ b ∈ en, b.1 = b.2
theorem idn.snoc {en : List (Bs × Bs)} (h : idn en) (s : Bs) : idn (en ++ [(s, s)]) := fun b hb => by
  rcases List.mem_append.1 hb with hb | hb
  · exact h b hb
  · rw [List.mem_singleton.1 hb]
theorem find_idn {en : List (Bs × Bs)} (h : idn en) (s : Bs) : (find s en).getD s = s := by
  rcases hf : find s en with _ | t
  · rfl
  · exact (h _ (find_mem hf)).symm
theorem rnx_twice {en en2 : List (Bs × Bs)} (h : idn en2) : ∀ e : X, rnx en2 (rnx en e) = rnx en e
  | .num _ => rfl
  | .bad => rfl
  | .name s => by rw [rnx, rnx, find_idn h]
  | .two _ a b => by rw [rnx, rnx, rnx_twice h a, rnx_twice h b]
theorem rn_twice : ∀ (p : P) (en en2 : List (Bs × Bs)) (m : Nat), idn en2 → rn vn (rn vn p en m).1 en2 m = rn vn p en m
  | .nil, _, _, _, _ => rfl
  | .cons k nm a b body els rest, en, en2, m, h => by
    by_cases h1 : k = 1 ∨ k = 2
    · have e := rn_twice rest (en ++ [(nm, vn m)]) (en2 ++ [(vn m, vn m)]) (m + 1) (h.snoc _)
      simp only [rn, if_pos h1, rnx_twice h, e]
    by_cases h3 : k = 3
    · simp only [rn, if_pos h3, if_neg h1, rnx_twice h, rn_twice rest _ _ _ h]
    by_cases h4 : k = 4 ∨ k = 5
    · simp only [rn, if_pos h4, if_neg h1, if_neg h3, rn_twice body _ _ _ h, rn_twice rest _ _ _ h]
    by_cases h6 : k = 6
    · simp only [rn, if_pos h6, if_neg h1, if_neg h3, if_neg h4, rnx_twice h, rn_twice body _ _ _ h, rn_twice els _ _ _ h, rn_twice rest _ _ _ h]
    by_cases h7 : k = 7
    · have e := rn_twice body (en ++ [(nm, vn m)]) (en2 ++ [(vn m, vn m)]) (m + 1) (h.snoc _)
      simp only [rn, if_pos h7, if_neg h1, if_neg h3, if_neg h4, if_neg h6, rnx_twice h, e, rn_twice rest _ _ _ h]
    · simp only [rn, if_neg h7, if_neg h1, if_neg h3, if_neg h4, if_neg h6, rn_twice rest _ _ _ h]
theorem twice_law (p : P) : rename vn (rename vn p) = rename vn p := by
  unfold rename
  rw [rn_twice p [] [] 0 (fun _ hb => by cases hb)]

/-! ### how many accesses -/
theorem labels_rn : ∀ (p : P) (en : List (Bs × Bs)) (m : Nat), labels (rn vn p en m).1 = labels p
  | .nil, _, _ => rfl
  | .cons k nm a b body els rest, en, m => by
    obtain ⟨l1, l2, l3, l4, l6, l7, l8⟩ := lab_cases k (labels body) (labels els)
    obtain ⟨z1, z2, z3, z4, z6, z7, z8⟩ := lab_cases k 0 0
    obtain ⟨y1, y2, y3, y4, y6, y7, y8⟩ := lab_cases k (labels body) 0
    by_cases h1 : k = 1 ∨ k = 2
    · simp only [rn, if_pos h1, labels, labels_rn rest]
      rcases h1 with h1 | h1
      · rw [l1 h1, z1 h1]
      · rw [l2 h1, z2 h1]
    by_cases h3 : k = 3
    · simp only [rn, if_pos h3, if_neg h1, labels, labels_rn rest, l3 h3, z3 h3]
    by_cases h4 : k = 4 ∨ k = 5
    · simp only [rn, if_pos h4, if_neg h1, if_neg h3, labels, labels_rn rest, labels_rn body, l4 h4, y4 h4]
    by_cases h6 : k = 6
    · simp only [rn, if_pos h6, if_neg h1, if_neg h3, if_neg h4, labels, labels_rn rest, labels_rn body, labels_rn els]
    by_cases h7 : k = 7
    · simp only [rn, if_pos h7, if_neg h1, if_neg h3, if_neg h4, if_neg h6, labels, labels_rn rest, labels_rn body, l7 h7, y7 h7]
    · simp only [rn, if_neg h7, if_neg h1, if_neg h3, if_neg h4, if_neg h6, labels, labels_rn rest]
      rw [l8 (by omega) h3 h4 h6 h7, z8 (by omega) h3 h4 h6 h7]
theorem labels_law (p : P) : labels (rename vn p) = labels p := labels_rn p [] 0

/-! ### what is free in what is renamed -/
/-- all the uses in their order -/
def ux (bd acc : List ByteArray) : X → List ByteArray
  | .name s => use1 bd acc (ba s)
  | .two _ a b => ux bd (ux bd acc a) b
  | _ => acc
theorem use1_twice (bd acc : List ByteArray) (s : ByteArray) : has s bd = true ∨ has s acc = true → use1 bd acc s = acc := fun h => by
  unfold use1
  rcases h with h | h <;> simp [h]
theorem use1_has (bd acc : List ByteArray) (s : ByteArray) : has s bd = true ∨ has s (use1 bd acc s) = true := by
  rcases h : has s bd with _ | _
  · refine .inr ?_
    unfold use1
    rcases h' : has s acc with _ | _
    · rw [if_pos ⟨h, rfl⟩]; simp [has]
    · rw [if_neg (by simp)]; exact h'
  · exact .inl rfl
theorem use1_keeps (bd acc : List ByteArray) (s t : ByteArray) (h : has s acc = true) : has s (use1 bd acc t) = true := by
  unfold use1
  split
  · rw [has_mem] at h ⊢
    exact List.mem_append_left _ h
  · exact h
theorem fold_has (bd : List ByteArray) (s : ByteArray) : ∀ (l acc : List ByteArray), has s l = true ∨ has s acc = true → has s bd = true ∨ has s (l.foldl (use1 bd) acc) = true
  | [], acc, h => .inr (h.elim (fun h => by simp [has] at h) id)
  | x :: l, acc, h => by
    rw [List.foldl_cons]
    by_cases hx : s = x
    · subst hx
      rcases use1_has bd acc s with h1 | h1
      · exact .inl h1
      · exact fold_has bd s l _ (.inr h1)
    · refine fold_has bd s l _ (h.imp (fun h => ?_) (use1_keeps bd acc s x))
      rw [has_mem] at h ⊢
      exact (List.mem_cons.1 h).resolve_left hx
theorem names_ux (bd : List ByteArray) : ∀ (e : X) (ns acc : List ByteArray), (names ns e).foldl (use1 bd) acc = ux bd (ns.foldl (use1 bd) acc) e
  | .num _, _, _ => rfl
  | .bad, _, _ => rfl
  | .name s, ns, acc => by
    unfold names ux
    rcases h : has (ba s) ns with _ | _
    · simp [List.foldl_append]
    · rw [use1_twice _ _ _ (fold_has bd _ ns acc (.inl h))]
      simp
  | .two _ a b, ns, acc => by
    unfold names ux
    rw [names_ux bd b, names_ux bd a]
theorem use_ux (bd acc : List ByteArray) (e : X) : use bd acc e = ux bd acc e := by
  unfold use
  rw [names_ux]
  rfl

/-- it looks like a new one -/
def vlike (s : ByteArray) : Bool := s.data.toList.head? == some 118
theorem vlike_vn (i : Nat) : vlike (ba (vn i)) = true := by simp [vlike, ba, vn]
def olds (en : List (Bs × Bs)) : List ByteArray := en.map fun b => ba b.1
def nows (en : List (Bs × Bs)) : List ByteArray := en.map fun b => ba b.2
theorem olds_snoc (en : List (Bs × Bs)) (s t : Bs) : olds (en ++ [(s, t)]) = olds en ++ [ba s] := by simp [olds]
theorem nows_snoc (en : List (Bs × Bs)) (s t : Bs) : nows (en ++ [(s, t)]) = nows en ++ [ba t] := by simp [nows]
theorem ba_inj {s t : Bs} (h : ba s = ba t) : s = t := by simpa [ba] using h
theorem has_olds (s : Bs) (en : List (Bs × Bs)) : has (ba s) (olds en) = true ↔ find s en ≠ none := by
  rw [has_mem, Ne, find_none, Decidable.not_not]
  unfold olds
  simp only [List.mem_map]
  exact ⟨fun ⟨b, hb, e⟩ => ⟨b, hb, ba_inj e⟩, fun ⟨b, hb, e⟩ => ⟨b, hb, by rw [e]⟩⟩
theorem has_nows {s t : Bs} {en : List (Bs × Bs)} (h : find s en = some t) : has (ba t) (nows en) = true := by
  rw [has_mem]
  exact List.mem_map.2 ⟨_, find_mem h, rfl⟩
/-- the new ones all look so -/
def vens (en : List (Bs × Bs)) : Prop := ∀ b ∈ en, vlike (ba b.2) = true
theorem vens.snoc {en : List (Bs × Bs)} (h : vens en) (s : Bs) (i : Nat) : vens (en ++ [(s, vn i)]) := fun b hb => by
  rcases List.mem_append.1 hb with hb | hb
  · exact h b hb
  · rw [List.mem_singleton.1 hb]; exact vlike_vn i
theorem not_nows {en : List (Bs × Bs)} (h : vens en) {s : ByteArray} (hs : vlike s = false) : has s (nows en) = false := by
  rcases hh : has s (nows en) with _ | _
  · rfl
  · rw [has_mem] at hh
    obtain ⟨b, hb, rfl⟩ := List.mem_map.1 hh
    rw [h b hb] at hs
    cases hs
/-- nothing in it looks so -/
def novs (l : List ByteArray) : Prop := ∀ s ∈ l, vlike s = false
theorem ux_grow (bd : List ByteArray) : ∀ (e : X) (acc : List ByteArray) (s : ByteArray), s ∈ acc → s ∈ ux bd acc e
  | .num _, _, _, h => h
  | .bad, _, _, h => h
  | .name x, acc, s, h => by rw [← has_mem] at h ⊢; exact use1_keeps bd acc s _ h
  | .two _ a b, acc, s, h => ux_grow bd b _ s (ux_grow bd a _ s h)
theorem ux_rn {en : List (Bs × Bs)} (h : vens en) : ∀ (e : X) (acc : List ByteArray), novs (ux (olds en) acc e) → ux (nows en) acc (rnx en e) = ux (olds en) acc e
  | .num _, _, _ => rfl
  | .bad, _, _ => rfl
  | .name s, acc, hv => by
    unfold ux at hv ⊢
    unfold rnx
    rcases hf : find s en with _ | t
    · have h1 : has (ba s) (olds en) = false := by
        rcases hh : has (ba s) (olds en) with _ | _
        · rfl
        · exact absurd hf ((has_olds _ _).1 hh)
      have hb : vlike (ba s) = false := by
        rcases use1_has (olds en) acc (ba s) with h2 | h2
        · rw [h1] at h2; cases h2
        · exact hv _ ((has_mem _ _).1 h2)
      show use1 (nows en) acc (ba s) = _
      unfold use1
      rw [h1, not_nows h hb]
    · show use1 (nows en) acc (ba t) = _
      rw [use1_twice _ _ _ (.inl (has_nows hf)), use1_twice _ _ _ (.inl ((has_olds _ _).2 (by rw [hf]; simp)))]
  | .two _ a b, acc, hv => by
    rw [ux] at hv ⊢
    rw [rnx, ux, ux_rn h a acc (fun s hs => hv s (ux_grow _ _ _ _ hs)), ux_rn h b _ hv]
theorem use_rn {en : List (Bs × Bs)} (h : vens en) (e : X) (acc : List ByteArray) (hv : novs (use (olds en) acc e)) : use (nows en) acc (rnx en e) = use (olds en) acc e := by
  rw [use_ux] at hv ⊢
  rw [use_ux]
  exact ux_rn h e acc hv
theorem use_bad (bd acc : List ByteArray) : use bd acc .bad = acc := rfl
theorem fr_rn : ∀ (p : P) (en : List (Bs × Bs)) (m : Nat) (acc : List ByteArray), vens en → novs (fr p (olds en) acc) → fr (rn vn p en m).1 (nows en) acc = fr p (olds en) acc
  | .nil, _, _, _, _, _ => rfl
  | .cons k nm a b body els rest, en, m, acc, h, hv => by
    have grow : ∀ {q : P} {bd ac : List ByteArray}, novs (fr q bd ac) → novs ac := fun {q bd ac} h s hs => h s (fr_sub.fr_grow q bd ac s hs)
    have gru : ∀ {e : X} {bd ac : List ByteArray}, novs (use bd ac e) → novs ac := fun {e bd ac} h s hs => h s (fr_sub.use_grow bd ac e s hs)
    unfold rn
    rw [fr] at hv ⊢
    by_cases h1 : k = 1 ∨ k = 2
    · simp only [if_pos h1] at hv ⊢
      rw [fr, if_pos h1, use_rn h a acc (grow hv), ← nows_snoc (s := nm), ← olds_snoc (t := vn m)]
      rw [← olds_snoc (t := vn m)] at hv
      exact fr_rn rest _ _ _ (h.snoc _ _) hv
    simp only [if_neg h1] at hv ⊢
    by_cases h3 : k = 3
    · simp only [if_pos h3] at hv ⊢
      rw [fr, if_neg h1, if_pos h3, use_rn h a acc (gru (grow hv)), use_rn h b _ (grow hv)]
      exact fr_rn rest _ _ _ h hv
    simp only [if_neg h3] at hv ⊢
    by_cases h4 : k = 4 ∨ k = 5
    · simp only [if_pos h4] at hv ⊢
      rw [fr, if_neg h1, if_neg h3, if_pos h4, fr_rn body _ _ _ h (grow hv)]
      exact fr_rn rest _ _ _ h hv
    simp only [if_neg h4] at hv ⊢
    by_cases h6 : k = 6
    · simp only [if_pos h6] at hv ⊢
      rw [fr, if_neg h1, if_neg h3, if_neg h4, if_pos h6, use_rn h a acc (grow (grow (grow hv))), fr_rn body _ _ _ h (grow (grow hv)), fr_rn els _ _ _ h (grow hv)]
      exact fr_rn rest _ _ _ h hv
    simp only [if_neg h6] at hv ⊢
    by_cases h7 : k = 7
    · simp only [if_pos h7] at hv ⊢
      rw [fr, if_neg h1, if_neg h3, if_neg h4, if_neg h6, if_pos h7]
      have hv1 := grow hv
      rw [use_rn h a acc (gru (grow hv1)), use_rn h b _ (grow hv1), ← nows_snoc (s := nm), ← olds_snoc (t := vn m)]
      rw [← olds_snoc (t := vn m)] at hv hv1
      rw [fr_rn body _ _ _ (h.snoc _ _) hv1]
      exact fr_rn rest _ _ _ h hv
    simp only [if_neg h7] at hv ⊢
    rw [fr, if_neg h1, if_neg h3, if_neg h4, if_neg h6, if_neg h7]
    exact fr_rn rest _ _ _ h hv
theorem free_law (p : P) (h : novs (free p)) : free (rename vn p) = free p := fr_rn p [] 0 [] (fun _ hb => by cases hb) h

/-! ### one name for another one -/
/-- another one in its place, and what means something alone -/
def eput (t : Bs) (by_ : X) : X → X
  | .num n => .num n
  | .name s => if s == t then by_ else .name s
  | .two k a b => .two k (eput t by_ a) (eput t by_ b)
  | .bad => .num 0
theorem eput_turn (t u : Bs) : ∀ e : X, (occ u e = true → u = t) → rnx [(t, vn 0)] (eput t (.name t) e) = rnx [(u, vn 0)] (eput t (.name u) e)
  | .num _, _ => rfl
  | .bad, _ => rfl
  | .name s, h => by
    unfold eput
    unfold occ at h
    by_cases hs : (s == t) = true
    · rw [if_pos hs, if_pos hs]
      simp [rnx, find]
    · rw [if_neg hs, if_neg hs]
      have h1 : (t == s) = false := by simpa using fun e => hs (by simp [e])
      have h2 : (u == s) = false := by
        rcases hu : (u == s) with _ | _
        · rfl
        · have e1 := eq_of_beq hu
          have e2 := h (by simp [e1])
          exact absurd (by rw [← e1, e2]; simp) hs
      simp [rnx, find, h1, h2]
  | .two _ a b, h => by
    unfold occ at h
    unfold eput
    rw [rnx, rnx, eput_turn t u a (fun h' => h (by simp [h'])), eput_turn t u b (fun h' => h (by simp [h']))]
def turnP (a : X) (n name : Bs) (b : X) : P := .cons 1 n a .bad .nil .nil (.cons 3 [] (.name n) (eput name (.name n) b) .nil .nil .nil)
theorem turn_law (a : X) (name other : Bs) (b : X) (h : occ other b = true → other = name) : rename vn (turnP a name name b) = rename vn (turnP a other name b) := by
  have e : ∀ n, rename vn (turnP a n name b) = .cons 1 (vn 0) (rnx [] a) .bad .nil .nil (.cons 3 [] (.name (vn 0)) (rnx [(n, vn 0)] (eput name (.name n) b)) .nil .nil .nil) := fun n => by
    simp [rename, turnP, rn, rnx, find]
  rw [e, e, eput_turn name other b h]

/-! ### what a renamed program does -/
/-- the new names are those of these numbers, each once -/
def nums (en : List (Bs × Bs)) (m : Nat) : Prop := ∀ b ∈ en, ∃ i, i < m ∧ b.2 = vn i
theorem nums.snoc {en : List (Bs × Bs)} {m : Nat} (h : nums en m) (s : Bs) : nums (en ++ [(s, vn m)]) (m + 1) := fun b hb => by
  rcases List.mem_append.1 hb with hb | hb
  · obtain ⟨i, hi, e⟩ := h b hb
    exact ⟨i, by omega, e⟩
  · exact ⟨m, by omega, by rw [List.mem_singleton.1 hb]⟩
theorem nums.mono {en : List (Bs × Bs)} {m m' : Nat} (h : nums en m) (hm : m ≤ m') : nums en m' := fun b hb => by
  obtain ⟨i, hi, e⟩ := h b hb
  exact ⟨i, by omega, e⟩
theorem rn_grow : ∀ (p : P) (en : List (Bs × Bs)) (m : Nat), m ≤ (rn vn p en m).2
  | .nil, _, _ => Nat.le_refl _
  | .cons k nm a b body els rest, en, m => by
    unfold rn
    split
    · exact Nat.le_trans (Nat.le_succ _) (rn_grow rest _ (m + 1))
    split
    · exact rn_grow rest _ m
    split
    · exact Nat.le_trans (rn_grow body _ m) (rn_grow rest _ _)
    split
    · exact Nat.le_trans (rn_grow body _ m) (Nat.le_trans (rn_grow els _ _) (rn_grow rest _ _))
    split
    · exact Nat.le_trans (Nat.le_succ _) (Nat.le_trans (rn_grow body _ (m + 1)) (rn_grow rest _ _))
    · exact rn_grow rest _ m
theorem rn_le : ∀ (p : P) (en : List (Bs × Bs)) (m : Nat), (rn vn p en m).2 ≤ m + p.size
  | .nil, _, _ => Nat.le_refl _
  | .cons k nm a b body els rest, en, m => by
    unfold rn P.size
    split
    · have := rn_le rest (en ++ [(nm, vn m)]) (m + 1); omega
    split
    · have := rn_le rest en m; omega
    split
    · have h1 := rn_le body en m; have h2 := rn_le rest en (rn vn body en m).2; omega
    split
    · have h1 := rn_le body en m; have h2 := rn_le els en (rn vn body en m).2; have h3 := rn_le rest en (rn vn els en (rn vn body en m).2).2; omega
    split
    · have h1 := rn_le body (en ++ [(nm, vn m)]) (m + 1); have h2 := rn_le rest en (rn vn body (en ++ [(nm, vn m)]) (m + 1)).2; omega
    · have := rn_le rest en m; omega
/-- the same values under the new names -/
def par (en : List (Bs × Bs)) (e e' : Env) : Prop := ∀ s t, find s en = some t → Ex.look s e = Ex.look t e'
theorem par.snoc {en : List (Bs × Bs)} {e e' : Env} {m : Nat} (h : par en e e') (hn : nums en m) (nm : Bs) (v : Int) : par (en ++ [(nm, vn m)]) (e ++ [(nm, v)]) (e' ++ [(vn m, v)]) := fun s t ht => by
  rw [look_snoc, look_snoc]
  rw [find_snoc] at ht
  by_cases hs : (nm == s) = true
  · rw [if_pos hs] at ht ⊢
    injection ht with ht
    rw [← ht]
    simp
  · rw [if_neg hs] at ht ⊢
    obtain ⟨i, hi, e1⟩ := hn _ (find_mem ht)
    have : (vn m == t) = false := by
      rcases hh : (vn m == t) with _ | _
      · rfl
      · have e2 := (eq_of_beq hh).trans e1
        have := vn_inj e2
        omega
    rw [this]
    exact h s t ht
theorem evl_rn {en : List (Bs × Bs)} {e e' : Env} (h : par en e e') : ∀ x : X, okx (en.map (·.1)) x → evl e x = evl e' (rnx en x)
  | .num _, _ => rfl
  | .bad, _ => rfl
  | .name s, hs => by
    rcases hf : find s en with _ | t
    · exact absurd hs (find_none.1 hf)
    · rw [rnx, hf]
      exact h s t hf
  | .two _ a b, hs => by rw [rnx, evl, evl, evl_rn h a hs.1, evl_rn h b hs.2]
theorem okx_rn {en : List (Bs × Bs)} : ∀ x : X, okx (en.map (·.1)) x → okx (en.map (·.2)) (rnx en x)
  | .num _, _ => trivial
  | .bad, _ => trivial
  | .name s, hs => by
    rcases hf : find s en with _ | t
    · exact absurd hs (find_none.1 hf)
    · rw [rnx, hf]
      exact List.mem_map.2 ⟨_, find_mem hf, rfl⟩
  | .two _ a b, hs => ⟨okx_rn a hs.1, okx_rn b hs.2⟩
theorem map_snoc1 (en : List (Bs × Bs)) (b : Bs × Bs) : (en ++ [b]).map (·.1) = en.map (·.1) ++ [b.1] := by simp
theorem map_snoc2 (en : List (Bs × Bs)) (b : Bs × Bs) : (en ++ [b]).map (·.2) = en.map (·.2) ++ [b.2] := by simp
theorem cl_rn : ∀ (p : P) (en : List (Bs × Bs)) (m : Nat), cl p (en.map (·.1)) → cl (rn vn p en m).1 (en.map (·.2))
  | .nil, _, _, _ => trivial
  | .cons k nm a b body els rest, en, m, hc => by
    unfold rn
    unfold cl at hc
    by_cases h1 : k = 1 ∨ k = 2
    · simp only [if_pos h1] at hc ⊢
      rw [cl, if_pos h1]
      refine ⟨okx_rn a hc.1, ?_⟩
      have := cl_rn rest (en ++ [(nm, vn m)]) (m + 1) (by rw [map_snoc1]; exact hc.2)
      rwa [map_snoc2] at this
    simp only [if_neg h1] at hc ⊢
    by_cases h3 : k = 3
    · simp only [if_pos h3] at hc ⊢
      rw [cl, if_neg h1, if_pos h3]
      exact ⟨⟨okx_rn a hc.1.1, okx_rn b hc.1.2⟩, cl_rn rest _ _ hc.2⟩
    simp only [if_neg h3] at hc ⊢
    by_cases h4 : k = 4 ∨ k = 5
    · simp only [if_pos h4] at hc ⊢
      rw [cl, if_neg h1, if_neg h3, if_pos h4]
      exact ⟨cl_rn body _ _ hc.1, cl_rn rest _ _ hc.2⟩
    simp only [if_neg h4] at hc ⊢
    by_cases h6 : k = 6
    · simp only [if_pos h6] at hc ⊢
      rw [cl, if_neg h1, if_neg h3, if_neg h4, if_pos h6]
      exact ⟨⟨okx_rn a hc.1.1, cl_rn body _ _ hc.1.2.1, cl_rn els _ _ hc.1.2.2⟩, cl_rn rest _ _ hc.2⟩
    simp only [if_neg h6] at hc ⊢
    by_cases h7 : k = 7
    · simp only [if_pos h7] at hc ⊢
      rw [cl, if_neg h1, if_neg h3, if_neg h4, if_neg h6, if_pos h7]
      refine ⟨⟨⟨okx_rn a hc.1.1.1, okx_rn b hc.1.1.2⟩, ?_⟩, cl_rn rest _ _ hc.2⟩
      have := cl_rn body (en ++ [(nm, vn m)]) (m + 1) (by rw [map_snoc1]; exact hc.1.2)
      rwa [map_snoc2] at this
    simp only [if_neg h7] at hc ⊢
    rw [cl, if_neg h1, if_neg h3, if_neg h4, if_neg h6, if_neg h7]
    exact cl_rn rest _ _ hc
theorem run_rn : ∀ (p : P) (en : List (Bs × Bs)) (m : Nat) (e e' : Env) (l : Nat) (M0 : M), cl p (en.map (·.1)) → par en e e' → nums en m → run (rn vn p en m).1 e' l M0 = run p e l M0
  | .nil, _, _, _, _, _, _, _, _, _ => rfl
  | .cons k nm a b body els rest, en, m, e, e', l, M0, hc, h, hn => by
    unfold rn
    unfold cl at hc
    rw [run]
    by_cases h1 : k = 1
    · simp only [if_pos (Or.inl h1 : k = 1 ∨ k = 2)] at hc ⊢
      rw [run, if_pos h1, if_pos h1, ← evl_rn h a hc.1]
      exact run_rn rest _ _ _ _ _ _ (by rw [map_snoc1]; exact hc.2) (h.snoc hn nm _) (hn.snoc nm)
    by_cases h2 : k = 2
    · simp only [if_pos (Or.inr h2 : k = 1 ∨ k = 2)] at hc ⊢
      rw [run, if_neg h1, if_pos h2, if_neg h1, if_pos h2, ← evl_rn h a hc.1]
      exact run_rn rest _ _ _ _ _ _ (by rw [map_snoc1]; exact hc.2) (h.snoc hn nm _) (hn.snoc nm)
    have h12 : ¬ (k = 1 ∨ k = 2) := by omega
    simp only [if_neg h12] at hc ⊢
    by_cases h3 : k = 3
    · simp only [if_pos h3] at hc ⊢
      rw [run, if_neg h1, if_neg h2, if_pos h3, if_neg h1, if_neg h2, ← evl_rn h a hc.1.1, ← evl_rn h b hc.1.2]
      exact run_rn rest _ _ _ _ _ _ hc.2 h hn
    simp only [if_neg h3] at hc ⊢
    by_cases h4 : k = 4 ∨ k = 5
    · simp only [if_pos h4] at hc ⊢
      rw [run, if_neg h1, if_neg h2, if_neg h3, if_pos h4, if_neg h1, if_neg h2, labels_rn, run_rn body _ _ _ _ _ _ hc.1 h hn]
      exact run_rn rest _ _ _ _ _ _ hc.2 h (hn.mono (rn_grow body _ _))
    simp only [if_neg h4] at hc ⊢
    by_cases h6 : k = 6
    · simp only [if_pos h6] at hc ⊢
      have hn1 := hn.mono (rn_grow body en m)
      have hn2 := hn1.mono (rn_grow els en _)
      rw [run, if_neg h1, if_neg h2, if_neg h3, if_neg h4, if_pos h6, if_neg h1, if_neg h2, labels_rn, labels_rn, run_rn body _ _ _ _ _ _ hc.1.2.1 h hn, run_rn els _ _ _ _ _ _ hc.1.2.2 h hn1, ← evl_rn h a hc.1.1]
      exact run_rn rest _ _ _ _ _ _ hc.2 h hn2
    simp only [if_neg h6] at hc ⊢
    by_cases h7 : k = 7
    · simp only [if_pos h7] at hc ⊢
      rw [run, if_neg h1, if_neg h2, if_neg h3, if_neg h4, if_neg h6, if_pos h7, if_neg h1, if_neg h2, labels_rn, ← evl_rn h a hc.1.1.1, ← evl_rn h b hc.1.1.2]
      rw [iter_congr (fun i M1 => run_rn body _ _ _ _ _ _ (by rw [map_snoc1]; exact hc.1.2) (h.snoc hn nm i) (hn.snoc nm))]
      exact run_rn rest _ _ _ _ _ _ hc.2 h (hn.mono (Nat.le_trans (Nat.le_succ _) (rn_grow body _ _)))
    simp only [if_neg h7] at hc ⊢
    rw [run, if_neg h1, if_neg h2, if_neg h3, if_neg h4, if_neg h6, if_neg h7, if_neg h1, if_neg h2]
    exact run_rn rest _ _ _ _ _ _ hc h hn
theorem same_law (p : P) (h : free p = []) : free (rename vn p) = [] ∧ ∀ M0, run (rename vn p) [] 0 M0 = run p [] 0 M0 := by
  rw [free_nil] at h
  exact ⟨(free_nil _).2 (cl_rn p [] 0 h), fun M0 => run_rn p [] 0 [] [] 0 M0 h (fun s t ht => by cases ht) (fun b hb => by cases hb)⟩
end Go.Proofs.YtkjmddgnfgbioaaDoor.Sr


namespace Go.Proofs.YtkjmddgnfgbioaaDoor.Un
set_option linter.unusedVariables false
set_option linter.unusedSimpArgs false
set_option maxRecDepth 100000
open Ex St Sr

theorem un_rn : ∀ (p : P) (en : List (Bs × Bs)) (m : Nat) (e e' : Sr.Env) (l : Nat) (k : M → Sp.T × M) (M0 : M), cl p (en.map (·.1)) → par en e e' → nums en m → un (rn vn p en m).1 e' l k M0 = un p e l k M0
  | .nil, _, _, _, _, _, _, _, _, _, _ => rfl
  | .cons kd nm a b body els rest, en, m, e, e', l, k, M0, hc, h, hn => by
    unfold rn
    unfold cl at hc
    rw [un]
    by_cases h1 : kd = 1
    · simp only [if_pos (Or.inl h1 : kd = 1 ∨ kd = 2)] at hc ⊢
      rw [un, if_pos h1, if_pos h1, ← evl_rn h a hc.1]
      exact un_rn rest _ _ _ _ _ _ _ (by rw [map_snoc1]; exact hc.2) (h.snoc hn nm _) (hn.snoc nm)
    by_cases h2 : kd = 2
    · simp only [if_pos (Or.inr h2 : kd = 1 ∨ kd = 2)] at hc ⊢
      rw [un, if_neg h1, if_pos h2, if_neg h1, if_pos h2, ← evl_rn h a hc.1]
      rw [un_rn rest _ _ _ _ _ _ _ (by rw [map_snoc1]; exact hc.2) (h.snoc hn nm _) (hn.snoc nm)]
    have h12 : ¬ (kd = 1 ∨ kd = 2) := by omega
    simp only [if_neg h12] at hc ⊢
    by_cases h3 : kd = 3
    · simp only [if_pos h3] at hc ⊢
      rw [un, if_neg h1, if_neg h2, if_pos h3, if_neg h1, if_neg h2, ← evl_rn h a hc.1.1, ← evl_rn h b hc.1.2]
      rw [un_rn rest _ _ _ _ _ _ _ hc.2 h hn]
    simp only [if_neg h3] at hc ⊢
    by_cases h4 : kd = 4 ∨ kd = 5
    · simp only [if_pos h4] at hc ⊢
      rw [un, if_neg h1, if_neg h2, if_neg h3, if_pos h4, if_neg h1, if_neg h2, labels_rn, un_rn body _ _ _ _ _ _ _ hc.1 h hn]
      rw [un_rn rest _ _ _ _ _ _ _ hc.2 h (hn.mono (rn_grow body _ _))]
    simp only [if_neg h4] at hc ⊢
    by_cases h6 : kd = 6
    · simp only [if_pos h6] at hc ⊢
      have hn1 := hn.mono (rn_grow body en m)
      have hn2 := hn1.mono (rn_grow els en _)
      rw [un, if_neg h1, if_neg h2, if_neg h3, if_neg h4, if_pos h6, if_neg h1, if_neg h2, labels_rn, labels_rn]
      have hr : (fun m1 => un (rn vn rest en (rn vn els en (rn vn body en m).2).2).1 e' (l + (labels body + labels els)) k m1) = fun m1 => un rest e (l + (labels body + labels els)) k m1 := funext fun m1 => un_rn rest _ _ _ _ _ _ _ hc.2 h hn2
      rw [hr, un_rn body _ _ _ _ _ _ _ hc.1.2.1 h hn, un_rn els _ _ _ _ _ _ _ hc.1.2.2 h hn1, ← evl_rn h a hc.1.1]
    simp only [if_neg h6] at hc ⊢
    by_cases h7 : kd = 7
    · simp only [if_pos h7] at hc ⊢
      rw [un, if_neg h1, if_neg h2, if_neg h3, if_neg h4, if_neg h6, if_pos h7, if_neg h1, if_neg h2, labels_rn, ← evl_rn h a hc.1.1.1, ← evl_rn h b hc.1.1.2]
      have hr : (fun m1 => un (rn vn rest en (rn vn body (en ++ [(nm, vn m)]) (m + 1)).2).1 e' (l + labels body) k m1) = fun m1 => un rest e (l + labels body) k m1 := funext fun m1 => un_rn rest _ _ _ _ _ _ _ hc.2 h (hn.mono (Nat.le_trans (Nat.le_succ _) (rn_grow body _ _)))
      rw [hr]
      exact iter_congr (fun i k m1 => un_rn body _ _ _ _ _ _ _ (by rw [map_snoc1]; exact hc.1.2) (h.snoc hn nm i) (hn.snoc nm)) _ _ _ _
    simp only [if_neg h7] at hc ⊢
    rw [un, if_neg h1, if_neg h2, if_neg h3, if_neg h4, if_neg h6, if_neg h7, if_neg h1, if_neg h2]
    exact un_rn rest _ _ _ _ _ _ _ hc h hn
/-- THE LAW -/
theorem same_un (p : P) (h : List Int) (fuel : Int) (hf : free p = []) : Sr.err (rename vn p) h fuel = Sr.err p h fuel ∧ term (rename vn p) h fuel = term p h fuel := by
  obtain ⟨h1, h2⟩ := same_law p hf
  have hg : Sr.go (rename vn p) h = Sr.go p h := h2 _
  have he : Sr.err (rename vn p) h fuel = Sr.err p h fuel := by
    unfold Sr.err
    rw [hg]
    simp only [hf, h1]
  refine ⟨he, ?_⟩
  unfold term
  rw [he]
  split
  · rw [free_nil] at hf
    have := un_rn p [] 0 [] [] 0 k0 (M0 h) hf (fun s t ht => by cases ht) (fun b hb => by cases hb)
    unfold go rename
    rw [this]
  · rfl
end Go.Proofs.YtkjmddgnfgbioaaDoor.Un


namespace Go.Proofs.YtkjmddgnfgbioaaDoor
set_option linter.unusedVariables false
set_option linter.unusedSimpArgs false
set_option maxRecDepth 100000
open Go.RowKit

def Ks.cnt : Ks → Nat
  | .nil => 0
  | .cons _ _ _ _ kids rest => kids.cnt + rest.cnt + 1
/-- a kid, in two places -/
theorem KsR.two_at {B : Nat} {w : World} : ∀ {s : Ks} {i : Nat} {cs cs' : List Value}, KsR B w cs s → KsR B w cs' s → i < s.len → ∃ (k c : Int) (b : Bool) (l : Int) (kids : Ks) (A : Option Addr) (cap : Nat) (ds : List Value) (A' : Option Addr) (cap' : Nat) (ds' : List Value),
    (∀ j u, (tcells k c b l A kids.len cap)[j]? = some u → cs[i * 5 + j]? = some u) ∧ (∀ j u, (tcells k c b l A' kids.len cap')[j]? = some u → cs'[i * 5 + j]? = some u) ∧ (kids.len ≤ cap ∧ cap ≤ maxLen ∧ Cells w B A ds ∧ KsR B w ds kids) ∧ (kids.len ≤ cap' ∧ cap' ≤ maxLen ∧ Cells w B A' ds' ∧ KsR B w ds' kids) ∧ kids.cnt < s.cnt
  | .nil, i, _, _, _, _, hi => by simp [Ks.len] at hi
  | .cons k c b l kids rest, i, cs, cs', h, h', hi => by
    cases h with
    | cons k c b l A cap ds cs kids rest h1 h2 h3 h4 h5 =>
    cases h' with
    | cons k c b l A' cap' ds' cs' kids rest g1 g2 g3 g4 g5 =>
    have hl : ∀ (A : Option Addr) (cap : Nat), (tcells k c b l A kids.len cap).length = 5 := fun _ _ => by simp [tcells]
    cases i with
    | zero =>
      refine ⟨k, c, b, l, kids, A, cap, ds, A', cap', ds', fun j u hu => ?_, fun j u hu => ?_, ⟨h1, h2, h3, h4⟩, ⟨g1, g2, g3, g4⟩, by rw [Ks.cnt]; omega⟩
      · rw [show 0 * 5 + j = j by omega, List.getElem?_append_left (List.getElem?_eq_some_iff.1 hu).1]
        exact hu
      · rw [show 0 * 5 + j = j by omega, List.getElem?_append_left (List.getElem?_eq_some_iff.1 hu).1]
        exact hu
    | succ i =>
      rw [Ks.len] at hi
      obtain ⟨k1, c1, b1, l1, kids1, A1, cap1, ds1, A1', cap1', ds1', e1, e2, e3, e4, e5⟩ := KsR.two_at h5 g5 (show i < rest.len by omega)
      refine ⟨k1, c1, b1, l1, kids1, A1, cap1, ds1, A1', cap1', ds1', fun j u hu => ?_, fun j u hu => ?_, e3, e4, by rw [Ks.cnt]; omega⟩
      · rw [List.getElem?_append_right (by rw [hl]; omega), hl, show (i + 1) * 5 + j - 5 = i * 5 + j by omega]
        exact e1 j u hu
      · rw [List.getElem?_append_right (by rw [hl]; omega), hl, show (i + 1) * 5 + j - 5 = i * 5 + j by omega]
        exact e2 j u hu
theorem Cells.on {w w' : World} {B : Nat} {A : Option Addr} {vs : List Value} (h : Cells w B A vs) (hb : Below B w w') : Cells w' B A vs := h.keep (Nat.le_refl _) fun _ hp => hb.cell hp

def SmOK (s : Ks) : Prop := ∀ (w : World) (k c : Int) (b : Bool) (l : Int) (A A' : Option Addr) (cap cap' : Nat) (ds ds' : List Value), s.len ≤ cap → cap ≤ maxLen → s.len ≤ cap' → cap' ≤ maxLen → Cells w w.heap.size A ds → KsR w.heap.size w ds s → Cells w w.heap.size A' ds' → KsR w.heap.size w ds' s →
  Calls Tryd.prog 36 #[.agg (tcells k c b l A s.len cap).toArray, .agg (tcells k c b l A' s.len cap').toArray] w fun e w' => e = .returned (.bool true) ∧ Below w.heap.size w w'

set_option maxHeartbeats 8000000 in
theorem sm_step (s : Ks) (ih : ∀ q : Ks, q.cnt < s.cnt → SmOK q) : SmOK s := by
  intro w k c b l A A' cap cap' ds ds' hl1 hm1 hl2 hm2 hc hk hc' hk'
  have hbA : Below w.heap.size w ((w.alloc (.cells (tcells k c b l A s.len cap).toArray 59)).alloc (.cells (tcells k c b l A' s.len cap').toArray 59)) := below_alloc (below_alloc (Below.refl _ _) _) _
  have q0 := (Blk.new w 59 (tcells k c b l A s.len cap)).alloc (.cells (tcells k c b l A' s.len cap').toArray 59)
  have q1 := Blk.new (w.alloc (.cells (tcells k c b l A s.len cap).toArray 59)) 59 (tcells k c b l A' s.len cap')
  simp only [World.size_alloc] at q1
  obtain ⟨Q, hQ⟩ : ∃ Q, Q = w.heap.size := ⟨_, rfl⟩
  rw [← hQ] at q0 q1
  unfold tcells at hbA q0 q1 ⊢
  obtain ⟨N, hN⟩ : ∃ N, N = s.len := ⟨_, rfl⟩
  rw [← hN] at hbA q0 q1 hl1 hl2 ⊢
  have HN := Lib.hid hN
  have HQ := Lib.hid hQ
  have HK := Lib.hid (And.intro hc (And.intro hk (And.intro hc' hk')))
  unfold maxLen at hm1 hm2
  clear hc hk hc' hk' hN
  go_enter Tryd.func36, Tryd.ntmps36
  go_upto_region 1 with (fail)
  rw [← HQ.out]
  clear hQ
  generalize ((w.alloc (.cells #[.int .i64 k, .int .i64 c, .bool b, .int .i64 l, .slice A N cap] 59)).alloc (.cells #[.int .i64 k, .int .i64 c, .bool b, .int .i64 l, .slice A' N cap'] 59)) = W at hbA q0 q1 ⊢
  have c0 := (q0.cell 0).trans rfl
  have c1 := (q0.cell 1).trans rfl
  have c2 := (q0.cell 2).trans rfl
  have c3 := (q0.cell 3).trans rfl
  have c4 := (q0.cell 4).trans rfl
  have d0 := (q1.cell 0).trans rfl
  have d1 := (q1.cell 1).trans rfl
  have d2 := (q1.cell 2).trans rfl
  have d3 := (q1.cell 3).trans rfl
  have d4 := (q1.cell 4).trans rfl
  simp only [List.getElem?_cons_zero, List.getElem?_cons_succ] at c0 c1 c2 c3 c4 d0 d1 d2 d3 d4
  have g0 : ((N : Int) != (N : Int)) = false := by simp
  have g1 : (k != k) = false := by simp
  have HW := Lib.hid hbA
  have Hq := Lib.hid (And.intro q0 q1)
  clear hbA q0 q1
  go_wp2_with fail
  clear c0 c1 c2 c3 d0 d1 d2 d3 g0 g1
  go_loopw [30] (fun i wr => ∃ j : Nat, j ≤ N ∧ i = .int .i64 (j : Int) ∧ Below W.heap.size W wr) (fun i _ => N - (intOf i).toNat)
  case atStart => exact ⟨0, Nat.zero_le _, rfl, (by repeat (first | exact Below.refl _ _ | apply below_drew))⟩
  case round =>
    clear c4 d4
    obtain ⟨j, hj, rfl, hb⟩ := hrel
    by_cases hlt : j < N
    · obtain ⟨hc, hk, hc', hk'⟩ := HK.out
      obtain ⟨k1, c1, b1, l1, kids, A1, cap1, ds1, A1', cap1', ds1', e1, e2, ⟨e3, e4, e5, e6⟩, ⟨f3, f4, f5, f6⟩, e7⟩ := hk.two_at hk' (show j < s.len by rw [← HN.out]; exact hlt)
      have hne : ds ≠ [] := fun e => by have := e1 0 _ rfl; rw [e] at this; simp at this
      have hne' : ds' ≠ [] := fun e => by have := e2 0 _ rfl; rw [e] at this; simp at this
      obtain ⟨gb, go, rfl, hgl, hcc⟩ := hc.at_ hne
      obtain ⟨gb', go', rfl, hgl', hcc'⟩ := hc'.at_ hne'
      have hbw := below_next hb HW.out
      have cell : ∀ (g o x : Nat) (v : Value), g < w.heap.size → w.cell? ⟨g, o + (j * 5 + x), none⟩ = some v → wr.cell? ⟨g, o + j * 5 + x, none⟩ = some v := fun g o x v hg h => by rw [Nat.add_assoc]; exact (hbw.cell (p := ⟨g, o + (j * 5 + x), none⟩) hg).trans h
      have x0 := cell gb go 0 _ hgl (hcc _ _ (e1 0 _ rfl))
      have x1 := cell gb go 1 _ hgl (hcc _ _ (e1 1 _ rfl))
      have x2 := cell gb go 2 _ hgl (hcc _ _ (e1 2 _ rfl))
      have x3 := cell gb go 3 _ hgl (hcc _ _ (e1 3 _ rfl))
      have x4 := cell gb go 4 _ hgl (hcc _ _ (e1 4 _ rfl))
      have y0 := cell gb' go' 0 _ hgl' (hcc' _ _ (e2 0 _ rfl))
      have y1 := cell gb' go' 1 _ hgl' (hcc' _ _ (e2 1 _ rfl))
      have y2 := cell gb' go' 2 _ hgl' (hcc' _ _ (e2 2 _ rfl))
      have y3 := cell gb' go' 3 _ hgl' (hcc' _ _ (e2 3 _ rfl))
      have y4 := cell gb' go' 4 _ hgl' (hcc' _ _ (e2 4 _ rfl))
      rw [Nat.add_zero] at x0 y0
      have z4 : wr.cell? ⟨Q, 4, none⟩ = some (.slice (some ⟨gb, go, none⟩) N cap) := ((Hq.out.1.below hb).cell 4).trans rfl
      have u4 : wr.cell? ⟨Q + 1, 4, none⟩ = some (.slice (some ⟨gb', go', none⟩) N cap') := ((Hq.out.2.below hb).cell 4).trans rfl
      have gS : ∀ w', Below wr.heap.size wr w' → Calls Tryd.prog 36 #[.agg (tcells k1 c1 b1 l1 A1 kids.len cap1).toArray, .agg (tcells k1 c1 b1 l1 A1' kids.len cap1').toArray] w' fun e w'' => e = .returned (.bool true) ∧ Below w'.heap.size w' w'' := fun w' hb' => by
        have h0 := below_next hb' hbw
        have hs := h0.size
        exact ih kids e7 w' k1 c1 b1 l1 A1 A1' cap1 cap1' ds1 ds1' e3 e4 f3 f4 ((e5.on h0).keep hs fun _ _ => rfl) ((e6.later h0).up hs) ((f5.on h0).keep hs fun _ _ => rfl) ((f6.later h0).up hs)
      obtain ⟨M, hM⟩ : ∃ M, M = kids.len := ⟨_, rfl⟩
      unfold tcells at gS
      rw [← hM] at gS x4 y4
      have HJ := Lib.hid (And.intro hb hM)
      clear hc hk hc' hk' e1 e2 e3 e4 e5 e6 f3 f4 f5 f6 e7 hne hne' hcc hcc' cell hbw hM hb
      have keepS : ∀ w', Below wr.heap.size wr w' → (Below wr.heap.size wr w' ∧ w'.cell? ⟨gb, go + j * 5, none⟩ = some (.int .i64 k1) ∧ w'.cell? ⟨gb, go + j * 5 + 1, none⟩ = some (.int .i64 c1) ∧ w'.cell? ⟨gb, go + j * 5 + 2, none⟩ = some (.bool b1) ∧ w'.cell? ⟨gb, go + j * 5 + 3, none⟩ = some (.int .i64 l1) ∧ w'.cell? ⟨gb, go + j * 5 + 4, none⟩ = some (.slice A1 M cap1) ∧ w'.cell? ⟨gb', go' + j * 5, none⟩ = some (.int .i64 k1) ∧ w'.cell? ⟨gb', go' + j * 5 + 1, none⟩ = some (.int .i64 c1) ∧ w'.cell? ⟨gb', go' + j * 5 + 2, none⟩ = some (.bool b1) ∧ w'.cell? ⟨gb', go' + j * 5 + 3, none⟩ = some (.int .i64 l1) ∧ w'.cell? ⟨gb', go' + j * 5 + 4, none⟩ = some (.slice A1' M cap1') ∧ w'.cell? ⟨Q, 4, none⟩ = some (.slice (some ⟨gb, go, none⟩) N cap) ∧ w'.cell? ⟨Q + 1, 4, none⟩ = some (.slice (some ⟨gb', go', none⟩) N cap')) := fun w' hb => by
        have hc : ∀ {p : Addr} {v : Value}, wr.cell? p = some v → w'.cell? p = some v := fun h => (hb.cell (World.block_lt_of_cell? wr _ h)).trans h
        exact ⟨hb, hc x0, hc x1, hc x2, hc x3, hc x4, hc y0, hc y1, hc y2, hc y3, hc y4, hc z4, hc u4⟩
      have hS0 := keepS _ (below_drew (Below.refl _ _))
      clear x0 x1 x2 x3 x4 y0 y1 y2 y3 y4 z4 u4
      go_wp2_with fail
      refine wp_walk (by kernel_rfl) (by kernel_rfl) (fun w w' => Below w.heap.size w w') (fun w' => (Below wr.heap.size wr w' ∧ w'.cell? ⟨gb, go + j * 5, none⟩ = some (.int .i64 k1) ∧ w'.cell? ⟨gb, go + j * 5 + 1, none⟩ = some (.int .i64 c1) ∧ w'.cell? ⟨gb, go + j * 5 + 2, none⟩ = some (.bool b1) ∧ w'.cell? ⟨gb, go + j * 5 + 3, none⟩ = some (.int .i64 l1) ∧ w'.cell? ⟨gb, go + j * 5 + 4, none⟩ = some (.slice A1 M cap1) ∧ w'.cell? ⟨gb', go' + j * 5, none⟩ = some (.int .i64 k1) ∧ w'.cell? ⟨gb', go' + j * 5 + 1, none⟩ = some (.int .i64 c1) ∧ w'.cell? ⟨gb', go' + j * 5 + 2, none⟩ = some (.bool b1) ∧ w'.cell? ⟨gb', go' + j * 5 + 3, none⟩ = some (.int .i64 l1) ∧ w'.cell? ⟨gb', go' + j * 5 + 4, none⟩ = some (.slice A1' M cap1') ∧ w'.cell? ⟨Q, 4, none⟩ = some (.slice (some ⟨gb, go, none⟩) N cap) ∧ w'.cell? ⟨Q + 1, 4, none⟩ = some (.slice (some ⟨gb', go', none⟩) N cap'))) hS0 ?_
      repeat (first | (refine settle_skip (fun _ => by rfl) ?_; (simp only [Act.put, List.setIfInBounds_toArray, List.set_cons_zero, List.set_cons_succ])) | (refine' settle_run (fun _ _ => Below.refl _ _) (fun _ => by rfl) ?_ ?_; rotate_left; (focus (intro ρ w hS hF; (try dsimp only at hS); go_split_ands; go_simp; try with_reducible rfl)); (simp only [Act.put, List.setIfInBounds_toArray, List.set_cons_zero, List.set_cons_succ])))
      (refine' settle_step (fun _ => by rfl) ?_ ?_; rotate_left; (focus (intro ρ w hS hF K hK; (simp only [Act.put, List.setIfInBounds_toArray, List.set_cons_zero, List.set_cons_succ] at hK); go_simp; (refine (gS _ hS.1).mono ?_; rintro e w6 ⟨rfl, hb6⟩; have hS' := keepS _ (below_next hb6 hS.1); have hE' := hb6); exact hK _ hS' hE')); (simp only [Act.put, List.setIfInBounds_toArray, List.set_cons_zero, List.set_cons_succ]))
      repeat (first | (refine settle_skip (fun _ => by rfl) ?_; (simp only [Act.put, List.setIfInBounds_toArray, List.set_cons_zero, List.set_cons_succ])) | (refine' settle_run (fun _ _ => Below.refl _ _) (fun _ => by rfl) ?_ ?_; rotate_left; (focus (intro ρ w hS hF; (try dsimp only at hS); go_split_ands; go_simp; try with_reducible rfl)); (simp only [Act.put, List.setIfInBounds_toArray, List.set_cons_zero, List.set_cons_succ])))
      refine settle_nil ?_
      intro ρ w3 hS hF
      have hb3 := below_next hS.1 HJ.out.1
      clear hS hS0 keepS gS hF
      go_wp2
      go_roundw
      case rel => exact ⟨j + 1, by omega, by go_num, hb3⟩
      case measure => simp [intOf]; omega
    · have hjn : j = N := by omega
      subst hjn
      have hf := below_next hb HW.out
      go_wp2
      go_ret
      exact ⟨rfl, hf⟩
theorem same_term_any (s : Ks) : SmOK s := by
  suffices h : ∀ n, ∀ q : Ks, q.cnt ≤ n → SmOK q from h _ s (Nat.le_refl _)
  intro n
  induction n with
  | zero => exact fun q hq => sm_step q fun r hr => by omega
  | succ n ih => exact fun q hq => sm_step q fun r hr => ih r (by omega)
end Go.Proofs.YtkjmddgnfgbioaaDoor


namespace Go.Proofs.YtkjmddgnfgbioaaDoor
set_option linter.unusedVariables false
set_option linter.unusedSimpArgs false
set_option maxRecDepth 100000
open Go.RowKit

/-- a store into a block that is too short to hold two expressions -/
theorem XRN.spare {N : Bool} {B B' : Nat} {w w' : World} {cs : List Value} {e : Ex.X} {S : Nat → Prop} (h : XRN N B w cs e) (hS : ∀ g, S g → ∀ o, 4 ≤ o → w.cell? ⟨g, o, none⟩ = none) (hB : B ≤ B') (hk : ∀ p : Addr, p.block < B → ¬ S p.block → w'.cell? p = w.cell? p) : XRN N B' w' cs e := by
  induction h with
  | num n s A len cap h1 h2 h3 hN => exact .num n s A len cap h1 h2 h3 hN
  | name n s A len cap h1 h2 hN => exact .name n s A len cap h1 h2 hN
  | bad k n s A len cap h1 h2 h3 h4 h5 hN => exact .bad k n s A len cap h1 h2 h3 h4 h5 hN
  | two k n s g o len cap cs0 cs1 e0 e1 h1 h2 h3 h4 h5 h6 h7 h8 r0 r1 hN i0 i1 =>
    have hg : ¬ S g := fun hg => by
      obtain ⟨b0, b1, b2, B3, b4, b5, rfl, -, -⟩ := r1.form
      have := hS g hg (o + 4 + 0) (by omega)
      rw [h8 0 _ rfl] at this
      cases this
    exact .two k n s g o len cap cs0 cs1 e0 e1 h1 h2 h3 h4 h5 (Nat.lt_of_lt_of_le h6 hB) (fun j u hu => (hk ⟨g, o + j, none⟩ h6 hg).trans (h7 j u hu)) (fun j u hu => (hk ⟨g, o + 4 + j, none⟩ h6 hg).trans (h8 j u hu)) i0 i1 hN
theorem XRN.put {N : Bool} {w w' : World} {g : Nat} {t : TypeId} {a b c d : Value} {cs : List Value} {e : Ex.X} (h : XRN N w.heap.size w cs e) (hb : Blk w g t [a, b, c, d]) (hg : w.grownBy w' (some g)) : XRN N w'.heap.size w' cs e :=
  h.spare (S := fun k => some k = some g) (fun k hk o ho => by cases hk; rw [hb.cell]; exact List.getElem?_eq_none ho) hg.size (fun p hp hn => World.cell?_of_block (w := w) (hg.block p.block hp hn))

/-- a value that is an expression -/
def IsX (x : Ex.X) (v : Value) (w : World) : Prop := ∃ cs, v = .agg cs.toArray ∧ XN w.heap.size w cs x
theorem IsX.later {x : Ex.X} {v : Value} {w w' : World} (h : IsX x v w) (hb : Below w.heap.size w w') : IsX x v w' := by
  obtain ⟨cs, h1, h2⟩ := h
  exact ⟨cs, h1, (h2.later hb).up hb.size⟩
def FX (x : Ex.X) : Fact (fun w w' => Below w.heap.size w w') := ⟨IsX x, fun _ _ _ h k => h.later k⟩

end Go.Proofs.YtkjmddgnfgbioaaDoor


namespace Go.Proofs.YtkjmddgnfgbioaaDoor
set_option linter.unusedVariables false
set_option linter.unusedSimpArgs false
set_option maxRecDepth 100000
open Go.RowKit

theorem etwo_any (w : World) (k n : Int) (s : ByteArray) (A : Option Addr) (len cap : Nat) (hle : len ≤ cap) (hm : cap ≤ maxLen) (b : Bool) (hb : b = true ↔ ((3 ≤ k ∧ k ≤ 9) ∧ 2 ≤ len)) :
    Calls Tryd.prog 147 #[.agg (xcells k n s A len cap).toArray] w fun e w' => e = .returned (.bool b) ∧ Below w.heap.size w w' := by
  have hbw : Below w.heap.size w (w.alloc (.cells (xcells k n s A len cap).toArray 38)) := below_alloc (Below.refl _ _) _
  unfold xcells at hbw ⊢
  unfold maxLen at hm
  by_cases h3 : 3 ≤ k
  · have g1 : decide (3 ≤ k) = true := by simpa using h3
    by_cases h9 : k ≤ 9
    · have g2 : decide (k ≤ 9) = true := by simpa using h9
      by_cases h2 : 2 ≤ len
      · have g3 : decide ((2 : Int) ≤ (len : Int)) = true := by simp; omega
        obtain rfl : b = true := hb.2 ⟨⟨h3, h9⟩, h2⟩
        clear hb h3 h9 h2
        go_enter Tryd.func147, Tryd.ntmps147
        go_wp2_with fail
        go_ret
        exact ⟨rfl, hbw⟩
      · have g3 : decide ((2 : Int) ≤ (len : Int)) = false := by simp; omega
        obtain rfl : b = false := by rw [Bool.eq_false_iff]; intro h; exact h2 (hb.1 h).2
        clear hb h3 h9 h2
        go_enter Tryd.func147, Tryd.ntmps147
        go_wp2_with fail
        go_ret
        exact ⟨rfl, hbw⟩
    · have g2 : decide (k ≤ 9) = false := by simpa using h9
      obtain rfl : b = false := by rw [Bool.eq_false_iff]; intro h; exact h9 (hb.1 h).1.2
      clear hb h3 h9
      go_enter Tryd.func147, Tryd.ntmps147
      go_wp2_with fail
      go_ret
      exact ⟨rfl, hbw⟩
  · have g1 : decide (3 ≤ k) = false := by simpa using h3
    obtain rfl : b = false := by rw [Bool.eq_false_iff]; intro h; exact h3 (hb.1 h).1.1
    clear hb h3
    go_enter Tryd.func147, Tryd.ntmps147
    go_wp2_with fail
    go_ret
    exact ⟨rfl, hbw⟩

namespace Sr
open Ex
/-- with what means something alone -/
def cln : X → X
  | .bad => .num 0
  | e => e
theorem two_iff {B : Nat} {w : World} {k n : Int} {s : ByteArray} {A : Option Addr} {len cap : Nat} {e : X} (h : XR B w (xcells k n s A len cap) e) (hn : ∀ k a b, e ≠ .two k a b) : (false = true ↔ ((3 ≤ k ∧ k ≤ 9) ∧ 2 ≤ len)) := by
  simp only [Bool.false_eq_true, false_iff]
  generalize hc : xcells k n s A len cap = cs at h
  cases h with
  | num => simp only [xcells, List.cons.injEq, Value.int.injEq, true_and] at hc; omega
  | name => simp only [xcells, List.cons.injEq, Value.int.injEq, true_and] at hc; omega
  | bad k' n' s' A' len' cap' h1 h2 h3 h4 h5 =>
    simp only [xcells, List.cons.injEq, Value.int.injEq, Value.slice.injEq, true_and, and_true] at hc
    obtain ⟨rfl, -, -, -, rfl, -⟩ := hc
    exact h5
  | two k' => exact absurd rfl (hn _ _ _)
end Sr

set_option maxHeartbeats 2000000 in
/-- EClean of what has no arguments -/
theorem eclean_leaf (e : Ex.X) (hn : ∀ k a b, e ≠ .two k a b) (w : World) (cs : List Value) (hx : XR w.heap.size w cs e) :
    Calls Tryd.prog 148 #[.agg cs.toArray] w fun r w' => ∃ v, r = .returned v ∧ IsX (Sr.cln e) v w' ∧ Below w.heap.size w w' := by
  obtain ⟨k, n, s, A, len, cap, rfl, hle, hm⟩ := hx.form
  have h2 := fun w' => etwo_any w' k n s A len cap hle hm false (Sr.two_iff hx hn)
  obtain ⟨p0, p1, hz, hbw⟩ := allocs2 w (xcells k n s A len cap) Ex.zeros 38 38
  have HX := Lib.hid hx
  unfold xcells Ex.zeros at p0 p1 hz hbw
  unfold xcells at h2 ⊢
  obtain ⟨q, hq⟩ : ∃ q, q = w.heap.size := ⟨_, rfl⟩
  have HQ := Lib.hid hq
  clear hx
  go_enter Tryd.func148, Tryd.ntmps148
  go_wp2_with fail
  rw [← hq] at p0 p1 ⊢
  clear hq
  generalize ((w.alloc (.cells #[.int .i64 k, .int .i64 n, .string s, .slice A len cap] 38)).alloc (.cells #[.int .i64 0, .int .i64 0, .string ⟨#[]⟩, .slice none 0 0] 38)) = W at p0 p1 hz hbw ⊢
  refine (h2 W).mono ?_
  rintro r w1 ⟨rfl, hb1⟩
  have r0 := p0.below hb1
  have r1 := p1.below hb1
  have hb2 := below_next hb1 hbw
  have s0 := (r0.cell 0).trans rfl
  have s1 := (r0.cell 1).trans rfl
  have s2 := (r0.cell 2).trans rfl
  simp only [List.getElem?_cons_zero, List.getElem?_cons_succ] at s0 s1 s2
  have HB := Lib.hid hb2
  clear p0 p1 hz hbw h2 hb1 r0 hb2
  have hfin : ∀ (x : Ex.X) (w3 : World) (cs3 : List Value), XN w3.heap.size w3 cs3 x → Blk w3 (q + 1) 38 cs3 → w1.grownBy w3 (some (q + 1)) → IsX x (.agg cs3.toArray) w3 ∧ Below w.heap.size w w3 := fun x w3 cs3 h1 h2 h3 => ⟨⟨_, rfl, h1⟩, HB.out.trans (below_of_grown h3 HB.out.size (by rw [HQ.out]; omega))⟩
  by_cases hk2 : k = 2
  · subst hk2
    go_wp2_with (refine wpl_put_blk r1 [.int .i64 2, .int .i64 0, .string s, .slice none 0 0] (by kernel_rfl) rfl (xcells_one 2 0 s none 0 0) rfl rfl rfl rfl ?_; intro w3 hB3 hg3)
    refine ret_blk hB3 rfl rfl Tryd.underlying38 rfl (by kernel_rfl) rfl ⟨_, rfl, ?_⟩
    have he : Sr.cln e = .name s.data.toList := by
      have hx := HX.out
      generalize hc : xcells 2 n s A len cap = cs at hx
      cases hx with
      | num => simp [xcells] at hc
      | name => simp [xcells] at hc; obtain ⟨-, rfl, -⟩ := hc; rfl
      | bad k' n' s' A' len' cap' h1 h2 h3 h4 h5 => simp [xcells] at hc; exact absurd hc.1.symm h4
      | two k' => exact absurd rfl (hn _ _ _)
    rw [he]
    exact hfin _ w3 _ (.name 0 s none 0 0 (Nat.le_refl _) (Nat.zero_le _)) hB3 hg3
  · have g1 : (k == 2) = false := by simpa using hk2
    by_cases hk1 : k = 1
    · subst hk1
      go_wp2_with (refine wpl_put_blk r1 [.int .i64 1, .int .i64 n, .string ⟨#[]⟩, .slice none 0 0] (by kernel_rfl) rfl (xcells_one 1 n ⟨#[]⟩ none 0 0) rfl rfl rfl rfl ?_; intro w3 hB3 hg3)
      refine ret_blk hB3 rfl rfl Tryd.underlying38 rfl (by kernel_rfl) rfl ⟨_, rfl, ?_⟩
      obtain ⟨he, hr⟩ : Sr.cln e = .num n ∧ Ex.rng n := by
        have hx := HX.out
        generalize hc : xcells 1 n s A len cap = cs at hx
        cases hx with
        | num n' s' A' len' cap' h1 h2 h3 => simp [xcells] at hc; obtain ⟨rfl, -⟩ := hc; exact ⟨rfl, h3⟩
        | name => simp [xcells] at hc
        | bad k' n' s' A' len' cap' h1 h2 h3 h4 h5 => simp [xcells] at hc; exact absurd hc.1.symm h3
        | two k' => exact absurd rfl (hn _ _ _)
      rw [he]
      exact hfin _ w3 _ (.num n ⟨#[]⟩ none 0 0 (Nat.le_refl _) (Nat.zero_le _) hr) hB3 hg3
    · have g2 : (k == 1) = false := by simpa using hk1
      go_wp2_with (refine wpl_put_blk r1 [.int .i64 1, .int .i64 0, .string ⟨#[]⟩, .slice none 0 0] (by kernel_rfl) rfl (xcells_one 1 0 ⟨#[]⟩ none 0 0) rfl rfl rfl rfl ?_; intro w3 hB3 hg3)
      refine ret_blk hB3 rfl rfl Tryd.underlying38 rfl (by kernel_rfl) rfl ⟨_, rfl, ?_⟩
      have he : Sr.cln e = .num 0 := by
        have hx := HX.out
        generalize hc : xcells k n s A len cap = cs at hx
        cases hx with
        | num => simp [xcells] at hc; exact absurd hc.1 hk1
        | name => simp [xcells] at hc; exact absurd hc.1 hk2
        | bad k' n' s' A' len' cap' h1 h2 h3 h4 h5 => rfl
        | two k' => exact absurd rfl (hn _ _ _)
      rw [he]
      exact hfin _ w3 _ (.num 0 ⟨#[]⟩ none 0 0 (Nat.le_refl _) (Nat.zero_le _) (by unfold Ex.rng; omega)) hB3 hg3
end Go.Proofs.YtkjmddgnfgbioaaDoor


namespace Go.Proofs.YtkjmddgnfgbioaaDoor
set_option linter.unusedVariables false
set_option linter.unusedSimpArgs false
set_option maxRecDepth 100000
open Go.RowKit

section
variable {S S' : Nat → Prop} {B B' n : Nat} {w w' : World} {cs : List Value} {A : Option Addr} {p : St.P}
theorem XRN.mono {N : Bool} {e : Ex.X} (h : XRN N B w cs e) (hB : B ≤ B') (hk : ∀ (p : Addr) (v : Value), p.block < B → w.cell? p = some v → w'.cell? p = some v) : XRN N B' w' cs e := by
  induction h with
  | num n s A len cap h1 h2 h3 hN => exact .num n s A len cap h1 h2 h3 hN
  | name n s A len cap h1 h2 hN => exact .name n s A len cap h1 h2 hN
  | bad k n s A len cap h1 h2 h3 h4 h5 hN => exact .bad k n s A len cap h1 h2 h3 h4 h5 hN
  | two k n s g o len cap cs0 cs1 e0 e1 h1 h2 h3 h4 h5 h6 h7 h8 _ _ hN i0 i1 =>
    exact .two k n s g o len cap cs0 cs1 e0 e1 h1 h2 h3 h4 h5 (Nat.lt_of_lt_of_le h6 hB) (fun j u hu => hk ⟨g, o + j, none⟩ u h6 (h7 j u hu)) (fun j u hu => hk ⟨g, o + 4 + j, none⟩ u h6 (h8 j u hu)) i0 i1 hN
theorem PR.mono (h : PR B w A n p) (hB : B ≤ B') (hk : ∀ (p : Addr) (v : Value), p.block < B → w.cell? p = some v → w'.cell? p = some v) : PR B' w' A n p := by
  induction h with
  | nil A => exact .nil A
  | cons g o n k nm ca cb ea eb D dl dc E el ec body els rest h1 h2 h3 h4 h5 h6 h7 h8 _ _ _ i1 i2 i3 =>
    exact .cons g o n k nm ca cb ea eb D dl dc E el ec body els rest (Nat.lt_of_lt_of_le h1 hB) h2 h3 h4 h5 (fun j u hu => hk ⟨g, o + j, none⟩ u h1 (h6 j u hu)) (h7.mono hB hk) (h8.mono hB hk) i1 i2 i3
theorem PC.mono (h : PC B w cs n p) (hB : B ≤ B') (hk : ∀ (p : Addr) (v : Value), p.block < B → w.cell? p = some v → w'.cell? p = some v) : PC B' w' cs n p := by
  induction h with
  | nil => exact .nil
  | cons n k nm ca cb ea eb D dl dc E el ec body els rest cs h1 h2 h3 h4 h5 h6 h7 h8 _ ih => exact .cons n k nm ca cb ea eb D dl dc E el ec body els rest cs h1 h2 h3 h4 (h5.mono hB hk) (h6.mono hB hk) (h7.mono hB hk) (h8.mono hB hk) ih

/-- read, in those blocks alone -/
def XS (S : Nat → Prop) (w : World) (cs : List Value) (e : Ex.X) : Prop := XR w.heap.size (only w S) cs e
def PS (S : Nat → Prop) (w : World) (A : Option Addr) (n : Nat) (p : St.P) : Prop := PR w.heap.size (only w S) A n p
def CS (S : Nat → Prop) (w : World) (cs : List Value) (n : Nat) (p : St.P) : Prop := PC w.heap.size (only w S) cs n p

theorem XS.go {e : Ex.X} {r : Option Nat} (h : XS S w cs e) (hg : w.grownBy w' r) (hS : ∀ g, g < w.heap.size → S g → S' g ∧ some g ≠ r) : XS S' w' cs e := h.mono hg.size (only_up hg hS)
theorem PS.go {r : Option Nat} (h : PS S w A n p) (hg : w.grownBy w' r) (hS : ∀ g, g < w.heap.size → S g → S' g ∧ some g ≠ r) : PS S' w' A n p := h.mono hg.size (only_up hg hS)
theorem CS.go {r : Option Nat} (h : CS S w cs n p) (hg : w.grownBy w' r) (hS : ∀ g, g < w.heap.size → S g → S' g ∧ some g ≠ r) : CS S' w' cs n p := h.mono hg.size (only_up hg hS)
theorem XS.of {e : Ex.X} (h : XR B w cs e) (hB : B ≤ w.heap.size) (hS : ∀ g, g < B → S g) : XS S w cs e := h.mono hB fun p v hp hv => only_some.2 ⟨hS _ hp, hv⟩
theorem PS.of (h : PR B w A n p) (hB : B ≤ w.heap.size) (hS : ∀ g, g < B → S g) : PS S w A n p := PR.mono h hB fun p v hp hv => only_some.2 ⟨hS _ hp, hv⟩
theorem CS.of (h : PC B w cs n p) (hB : B ≤ w.heap.size) (hS : ∀ g, g < B → S g) : CS S w cs n p := PC.mono h hB fun p v hp hv => only_some.2 ⟨hS _ hp, hv⟩
theorem XS.xr {e : Ex.X} (h : XS S w cs e) : XR w.heap.size w cs e := h.mono (Nat.le_refl _) fun p v hp hv => (only_some.1 hv).2
theorem PS.pr (h : PS S w A n p) : PR w.heap.size w A n p := PR.mono h (Nat.le_refl _) fun p v hp hv => (only_some.1 hv).2
theorem CS.pc (h : CS S w cs n p) : PC w.heap.size w cs n p := PC.mono h (Nat.le_refl _) fun p v hp hv => (only_some.1 hv).2
theorem PS.imp (h : PS S w A n p) (hS : ∀ g, g < w.heap.size → S g → S' g) : PS S' w A n p := h.go (World.grownBy.refl w none) fun g hg hs => ⟨hS g hg hs, by simp⟩
theorem CS.imp (h : CS S w cs n p) (hS : ∀ g, g < w.heap.size → S g → S' g) : CS S' w cs n p := h.go (World.grownBy.refl w none) fun g hg hs => ⟨hS g hg hs, by simp⟩
theorem XS.imp {e : Ex.X} (h : XS S w cs e) (hS : ∀ g, g < w.heap.size → S g → S' g) : XS S' w cs e := h.go (World.grownBy.refl w none) fun g hg hs => ⟨hS g hg hs, by simp⟩
theorem CS.nil : CS S w [] 0 .nil := PC.nil
theorem CS.append {cs' : List Value} {n' : Nat} {p' : St.P} (h : CS S w cs n p) (h' : CS S w cs' n' p') : CS S w (cs ++ cs') (n + n') (p ++ p') := PC.append h h'
theorem CS.one {k : Int} {nm : ByteArray} {ca cb : List Value} {ea eb : Ex.X} {D : Option Addr} {dl dc : Nat} {E : Option Addr} {el ec : Nat} {body els : St.P} (h : dl ≤ dc ∧ dc ≤ maxLen ∧ el ≤ ec ∧ ec ≤ maxLen) (h5 : XS S w ca ea) (h6 : XS S w cb eb) (h7 : PS S w D dl body) (h8 : PS S w E el els) : CS S w (stcells k nm ca cb D dl dc E el ec) 1 (.cons k nm.data.toList ea eb body els .nil) := PC.one h h5 h6 h7 h8
/-- where the cells lie, too -/
theorem CS.read (h : CS S w cs n p) (g o : Nat) (hg : n ≠ 0 → g < w.heap.size) (hc : ∀ j u, cs[j]? = some u → w.cell? ⟨g, o + j, none⟩ = some u) : PS (fun b => S b ∨ b = g) w (some ⟨g, o, none⟩) n p :=
  PC.read (w := only w fun b => S b ∨ b = g) (CS.imp h fun _ _ => .inl) (Nat.le_refl _) g o hg fun j u hu => only_some.2 ⟨.inr rfl, hc j u hu⟩
theorem CS.one_cells (h : CS S w cs n p) : ∀ u ∈ cs, u.oneCell' = true := PC.one_cells h
theorem CS.length (h : CS S w cs n p) : cs.length = n * 12 := PC.length h

/-- a slice of statements, in those blocks alone -/
def SP (S : Nat → Prop) (w : World) (v : Value) (p : St.P) : Prop := ∃ A n c, v = .slice A n c ∧ n ≤ c ∧ c ≤ maxLen ∧ PS S w A n p
theorem SP.nil : SP S w (.slice none 0 0) .nil := ⟨none, 0, 0, rfl, Nat.le_refl _, Nat.zero_le _, PR.nil _⟩
theorem SP.go {v : Value} {r : Option Nat} (h : SP S w v p) (hg : w.grownBy w' r) (hS : ∀ g, g < w.heap.size → S g → S' g ∧ some g ≠ r) : SP S' w' v p := by
  obtain ⟨A, n, c, rfl, h1, h2, h3⟩ := h
  exact ⟨A, n, c, rfl, h1, h2, h3.go hg hS⟩
theorem SP.is {v : Value} (h : SP S w v p) : IsP w v p := by
  obtain ⟨A, n, c, rfl, h1, h2, h3⟩ := h
  exact ⟨A, n, c, rfl, h1, h2, h3.pr⟩
theorem SP.of_own {base : Nat} {v : Value} {e : TypeId} (h : CS S w cs n p) (hown : w.ownsRow base e 12 v n cs) : SP (fun g => S g ∨ some g = v.ownBlock) w v p := by
  rcases hown.2 with ⟨rfl, rfl⟩ | ⟨g, cap, cur, rfl, _, hg, hle, hm, _, _⟩
  · have : cs = [] := List.eq_nil_of_length_eq_zero (by rw [hown.1])
    subst this
    cases (show PC _ _ [] 0 p from h)
    exact SP.nil
  · refine ⟨_, n, cap, rfl, hle, hm, (CS.read h g 0 (fun _ => (Array.getElem?_eq_some_iff.1 hg).1) fun j u hu => ?_).imp fun b _ hb => hb.imp id fun e => by subst e; rfl⟩
    have := hown.cells (g := g) rfl j u hu
    rw [Nat.zero_add]
    rwa [show ((⟨g, 0, none⟩ : Addr).add j) = ⟨g, j, none⟩ from by unfold Addr.add; split <;> simp_all] at this
theorem CS.row {base : Nat} {v v' : Value} {e : TypeId} {size m : Nat} {xs : List Value} (h : CS S w cs n p) (hown : w.ownsRow base e size v m xs) (hg : w.grownBy w' v.ownBlock) (hv : v'.ownBlock = v.ownBlock ∨ ∃ g, w.heap.size ≤ g ∧ v'.ownBlock = some g) (hS : ∀ g, g < w.heap.size → S g → S' g ∧ some g ≠ v.ownBlock) : CS (fun g => S' g ∧ some g ≠ v'.ownBlock) w' cs n p :=
  h.go hg fun g hl hs => ⟨⟨(hS g hl hs).1, by
    rcases hv with e | ⟨g', hge, e⟩
    · rw [e]; exact (hS g hl hs).2
    · rw [e]; intro e'; injection e' with e'; omega⟩, (hS g hl hs).2⟩
end
end Go.Proofs.YtkjmddgnfgbioaaDoor


namespace Go.Proofs.YtkjmddgnfgbioaaDoor
set_option linter.unusedVariables false
set_option linter.unusedSimpArgs false
set_option maxRecDepth 100000
open Go.RowKit

/-! ### what is seen through some blocks stays where only others are turned -/
section
variable {S S' T : Nat → Prop} {w w' : World} {cs : List Value}
theorem only_kept (k : Keeps T w w') (hS : ∀ g, g < w.heap.size → S g → S' g ∧ ¬ T g) : ∀ (p : Addr) (v : Value), p.block < w.heap.size → (only w S).cell? p = some v → (only w' S').cell? p = some v := fun p v hp hv => by
  obtain ⟨h1, h2⟩ := only_some.1 hv
  obtain ⟨h3, h4⟩ := hS _ hp h1
  exact only_some.2 ⟨h3, (World.cell?_of_block (k.block _ hp h4)).trans h2⟩
/-- an expression as the program makes it, in those blocks alone -/
def NS (S : Nat → Prop) (w : World) (cs : List Value) (e : Ex.X) : Prop := XN w.heap.size (only w S) cs e
theorem NS.kept {e : Ex.X} (h : NS S w cs e) (k : Keeps T w w') (hS : ∀ g, g < w.heap.size → S g → S' g ∧ ¬ T g) : NS S' w' cs e := XRN.mono h k.size (only_kept k hS)
theorem NS.later {e : Ex.X} (h : NS S w cs e) (hb : Below w.heap.size w w') : NS S w' cs e := h.kept (Keeps.of_below hb (fun _ => False)) fun _ _ hs => ⟨hs, id⟩
theorem NS.imp {e : Ex.X} (h : NS S w cs e) (hS : ∀ g, g < w.heap.size → S g → S' g) : NS S' w cs e := h.kept (Keeps.refl (fun _ => False) w) fun g hg hs => ⟨hS g hg hs, id⟩
theorem NS.xn {e : Ex.X} (h : NS S w cs e) : XN w.heap.size w cs e := XRN.mono h (Nat.le_refl _) fun p v hp hv => (only_some.1 hv).2
theorem NS.num (n : Int) (hr : Ex.rng n) : NS S w (xcells 1 n ⟨#[]⟩ none 0 0) (.num n) := XRN.num n ⟨#[]⟩ none 0 0 (Nat.le_refl _) (Nat.zero_le _) hr
theorem NS.name (s : ByteArray) : NS S w (xcells 2 0 s none 0 0) (.name s.data.toList) := XRN.name 0 s none 0 0 (Nat.le_refl _) (Nat.zero_le _)
/-- two of them side by side in a block -/
theorem NS.two {t : TypeId} {q : Nat} {c0 c1 : List Value} {e0 e1 : Ex.X} {k : Int} (h0 : NS S w c0 e0) (h1 : NS S w c1 e1) (hB : Blk w q t (c0 ++ c1)) (hq : S q) (hk3 : 3 ≤ k) (hk9 : k ≤ 9) : NS S w (xcells k 0 ⟨#[]⟩ (some ⟨q, 0, none⟩) 2 2) (.two k e0 e1) := by
  have hl : c0.length = 4 := by
    obtain ⟨_, _, _, _, _, _, rfl, -, -⟩ := h0.form
    rfl
  refine XRN.two k 0 ⟨#[]⟩ q 0 2 2 c0 c1 e0 e1 (Nat.le_refl _) (by decide) hk3 hk9 (Nat.le_refl _) hB.lt (fun j u hu => only_some.2 ⟨hq, ?_⟩) (fun j u hu => only_some.2 ⟨hq, ?_⟩) h0 h1 (fun _ => ⟨rfl, rfl, rfl⟩)
  · rw [Nat.zero_add, hB.cell, List.getElem?_append_left (List.getElem?_eq_some_iff.1 hu).1]
    exact hu
  · rw [hB.cell, List.getElem?_append_right (by omega), hl, show 0 + 4 + j - 4 = j by omega]
    exact hu
end
/-- a value that is so -/
def FNS (S : Nat → Prop) (x : Ex.X) : Fact (fun w w' => Below w.heap.size w w') := ⟨fun v w => ∃ cs, v = .agg cs.toArray ∧ NS S w cs x, fun _ _ _ h k => by obtain ⟨cs, h1, h2⟩ := h; exact ⟨cs, h1, h2.later k⟩⟩
/-- two of them in a new block -/
def FTwo (S : Nat → Prop) (a b : Ex.X) : Fact (fun w w' => Below w.heap.size w w') := ⟨fun v w => ∃ q c0 c1, v = .slice (some ⟨q, 0, none⟩) 2 2 ∧ S q ∧ Blk w q 38 (c0 ++ c1) ∧ NS S w c0 a ∧ NS S w c1 b, fun _ _ _ h k => by obtain ⟨q, c0, c1, h1, h2, h3, h4, h5⟩ := h; exact ⟨q, c0, c1, h1, h2, h3.below k, h4.later k, h5.later k⟩⟩
end Go.Proofs.YtkjmddgnfgbioaaDoor


namespace Go.Proofs.YtkjmddgnfgbioaaDoor
set_option linter.unusedVariables false
set_option linter.unusedSimpArgs false
set_option maxRecDepth 100000
open Go.RowKit

/-- pairs of an old name and a new one, the last ones first -/
abbrev Lnm := List (ByteArray × ByteArray)
def lnc (p : ByteArray × ByteArray) : List Value := [.string p.1, .string p.2]
def lncs (L : Lnm) : List Value := L.flatMap lnc
def Lnm.en (L : Lnm) : List (Ex.Bs × Ex.Bs) := (L.map fun p => (p.1.data.toList, p.2.data.toList)).reverse
theorem lncs_get (L : Lnm) (i : Nat) (p : ByteArray × ByteArray) (h : L[i]? = some p) : (lncs L)[i * 2]? = some (.string p.1) ∧ (lncs L)[i * 2 + 1]? = some (.string p.2) :=
  ⟨flat_get lnc 2 (fun _ => rfl) L i 0 p h (by omega), flat_get lnc 2 (fun _ => rfl) L i 1 p h (by omega)⟩
theorem Lnm.en_cons (p : ByteArray × ByteArray) (L : Lnm) : Lnm.en (p :: L) = Lnm.en L ++ [(p.1.data.toList, p.2.data.toList)] := by
  unfold Lnm.en
  rw [List.map_cons, List.reverse_cons]
/-- the first that is so is the last one bound -/
theorem Lnm.find_at {L : Lnm} {s : Ex.Bs} : ∀ {k : Nat} {p : ByteArray × ByteArray}, L[k]? = some p → (∀ q ∈ L.take k, (q.1.data.toList == s) = false) → (p.1.data.toList == s) = true → Sr.find s (Lnm.en L) = some p.2.data.toList := by
  induction L with
  | nil => intro k p h; simp at h
  | cons x L ih =>
    intro k p h hn hp
    rw [Lnm.en_cons, Sr.find_snoc]
    cases k with
    | zero =>
      simp at h
      subst h
      rw [if_pos hp]
    | succ k =>
      have hx := hn x (by rw [List.take_succ_cons]; exact List.mem_cons_self)
      rw [if_neg (by simpa using hx)]
      exact ih (by simpa using h) (fun q hq => hn q (by rw [List.take_succ_cons]; exact List.mem_cons_of_mem _ hq)) hp
theorem Lnm.find_not {L : Lnm} {s : Ex.Bs} (h : ∀ q ∈ L, (q.1.data.toList == s) = false) : Sr.find s (Lnm.en L) = none := by
  induction L with
  | nil => rfl
  | cons x L ih =>
    rw [Lnm.en_cons, Sr.find_snoc, if_neg (by simpa using h x List.mem_cons_self)]
    exact ih fun q hq => h q (List.mem_cons_of_mem _ hq)
def LxOK (e : Ex.X) : Prop := ∀ (w : World) (cs : List Value) (v : Value) (L : Lnm), XR w.heap.size w cs e → SlV w 2 v L.length (lncs L) → L.length ≤ 1099511627776 →
  Calls Tryd.prog 118 #[.agg cs.toArray, v] w fun r w' => ∃ cs', r = .returned (.agg cs'.toArray) ∧ NS (fun b => w.heap.size ≤ b) w' cs' (Sr.rnx (Lnm.en L) e) ∧ Below w.heap.size w w'

/-- what has no arguments, cleaned: nothing of it lies in memory -/
theorem ns_leaf {S : Nat → Prop} {B : Nat} {w w' : World} {cs : List Value} {e : Ex.X} (hn : ∀ k a b, e ≠ .two k a b) (h : XN B w cs e) : NS S w' cs e := by
  cases h with
  | num n s A len cap h1 h2 h3 hN => exact XRN.num n s A len cap h1 h2 h3 hN
  | name n s A len cap h1 h2 hN => exact XRN.name n s A len cap h1 h2 hN
  | bad k n s A len cap h1 h2 h3 h4 h5 hN => cases hN
  | two k => exact absurd rfl (hn _ _ _)

set_option maxHeartbeats 4000000 in
/-- what is no name, and has no arguments -/
theorem lx_leaf (e : Ex.X) (hn : ∀ k a b, e ≠ .two k a b) (hs : ∀ s, e ≠ .name s) : LxOK e := by
  intro w cs v L hx hL hLl
  obtain ⟨k, n, s, A, len, cap, rfl, hle, hm⟩ := hx.form
  have h2 := fun w' => etwo_any w' k n s A len cap hle hm false (Sr.two_iff hx hn)
  have hkk : (k == 2) = false := by
    rw [beq_eq_false_iff_ne]
    intro hk
    subst hk
    generalize hc : xcells 2 n s A len cap = cs at hx
    cases hx with
    | num => simp [xcells] at hc
    | name => exact hs _ rfl
    | bad k' n' s' A' len' cap' h1 h2 h3 h4 h5 => simp [xcells] at hc; exact h4 hc.1.symm
    | two k' => exact absurd rfl (hn _ _ _)
  obtain ⟨p0, p1, hz, hbw⟩ := allocs2 w (xcells k n s A len cap) Ex.zeros 38 38
  have hcl := fun w' (hb : Below w.heap.size w w') => eclean_leaf e hn w' (xcells k n s A len cap) ((hx.later hb).up hb.size)
  have hrn : Sr.cln e = Sr.rnx (Lnm.en L) e := by
    cases e with
    | num n => rfl
    | name s => exact absurd rfl (hs s)
    | two k a b => exact absurd rfl (hn k a b)
    | bad => rfl
  have hcn : ∀ k a b, Sr.cln e ≠ .two k a b := by
    intro k a b
    cases e with
    | num n => intro h; cases h
    | name s => intro h; cases h
    | two k a b => exact absurd rfl (hn k a b)
    | bad => intro h; cases h
  unfold xcells Ex.zeros at p0 p1 hz hbw
  unfold xcells at h2 hcl ⊢
  obtain ⟨q, hq⟩ : ∃ q, q = w.heap.size := ⟨_, rfl⟩
  have HQ := Lib.hid (And.intro hq hrn)
  clear hx hrn hs hn
  go_enter Tryd.func118, Tryd.ntmps118
  go_wp2_with fail
  rw [← hq] at p0 p1 ⊢
  clear hq
  generalize ((w.alloc (.cells #[.int .i64 k, .int .i64 n, .string s, .slice A len cap] 38)).alloc (.cells #[.int .i64 0, .int .i64 0, .string ⟨#[]⟩, .slice none 0 0] 38)) = W at p0 p1 hz hbw ⊢
  refine (h2 W).mono ?_
  rintro r w1 ⟨rfl, hb1⟩
  have r0 := p0.below hb1
  have r1 := p1.below hb1
  have hb2 := below_next hb1 hbw
  have s0 := (r0.cell 0).trans rfl
  have s1 := (r0.cell 1).trans rfl
  have s2 := (r0.cell 2).trans rfl
  have s3 := (r0.cell 3).trans rfl
  simp only [List.getElem?_cons_zero, List.getElem?_cons_succ] at s0 s1 s2 s3
  have g1 := hcl w1 hb2
  have HB := Lib.hid hb2
  clear p0 p1 hz hbw h2 hb1 hb2 hcl r0
  go_wp2_with fail
  refine g1.mono ?_
  rintro r w3 ⟨u, rfl, ⟨cs3, rfl, hcs⟩, hb3⟩
  obtain ⟨x0, x1, x2, X3, x4, x5, rfl, -, -⟩ := hcs.form
  have r3 := r1.below hb3
  clear s0 s1 s2 s3 g1 r1
  have HN := Lib.hid (And.intro (fun w' => ns_leaf (S := fun b => w.heap.size ≤ b) (w' := w') hcn hcs) (below_next hb3 HB.out))
  clear hcs hb3 hcn
  unfold xcells
  go_wp2_with (refine wpl_put_blk r3 [.int .i64 x0, .int .i64 x1, .string x2, .slice X3 x4 x5] (by kernel_rfl) rfl (xcells_one x0 x1 x2 X3 x4 x5) rfl rfl rfl rfl ?_; intro w5 hB5 hg5)
  refine ret_blk hB5 rfl rfl Tryd.underlying38 rfl (by kernel_rfl) rfl ⟨_, rfl, ?_⟩
  rw [← HQ.out.2]
  exact ⟨HN.out.1 w5, HN.out.2.trans (below_of_grown hg5 HN.out.2.size (by rw [HQ.out.1]; omega))⟩

set_option maxHeartbeats 4000000 in
/-- a name -/
theorem lx_name (t : Ex.Bs) : LxOK (.name t) := by
  intro w cs v L hx hL hLl
  cases hx with
  | name n s A len cap hle hm hN =>
  clear hN
  have h2 := fun w' => etwo_any w' 2 n s A len cap hle hm false (by simp)
  obtain ⟨p0, p1, hz, hbw⟩ := allocs2 w (xcells 2 n s A len cap) Ex.zeros 38 38
  have hcl := fun w' (hb : Below w.heap.size w w') => eclean_leaf (.name s.data.toList) (by intro k a b h; cases h) w' (xcells 2 n s A len cap) (.name n s A len cap hle hm)
  unfold xcells Ex.zeros at p0 p1 hz hbw
  unfold xcells at h2 hcl ⊢
  obtain ⟨Av, cv, rfl, hle', hm', hlen', hcv⟩ := id hL
  obtain ⟨q, hq⟩ : ∃ q, q = w.heap.size := ⟨_, rfl⟩
  have HQ := Lib.hid hq
  clear hcv hlen'
  go_enter Tryd.func118, Tryd.ntmps118
  go_wp2_with fail
  rw [← hq] at p0 p1 ⊢
  clear hq
  generalize ((w.alloc (.cells #[.int .i64 2, .int .i64 n, .string s, .slice A len cap] 38)).alloc (.cells #[.int .i64 0, .int .i64 0, .string ⟨#[]⟩, .slice none 0 0] 38)) = W at p0 p1 hz hbw ⊢
  refine (h2 W).mono ?_
  rintro r w1 ⟨rfl, hb1⟩
  have r0 := p0.below hb1
  have r1 := p1.below hb1
  have hb2 := below_next hb1 hbw
  have hL1 := hL.below hb2
  have s0 := (r0.cell 0).trans rfl
  simp only [List.getElem?_cons_zero, List.getElem?_cons_succ] at s0
  have HB := Lib.hid (And.intro hb2 (And.intro r0 (And.intro r1 hL1)))
  clear p0 p1 hz hbw h2 hb1 hb2 r0 r1 hL hL1
  go_wp2_with fail
  clear s0
  go_loopw [30] (fun i wr => ∃ k : Nat, k ≤ L.length ∧ i = .int .i64 (k : Int) ∧ (∀ q ∈ L.take k, (q.1.data.toList == s.data.toList) = false) ∧ Below w1.heap.size w1 wr) (fun i _ => L.length - (intOf i).toNat)
  case atStart => exact ⟨0, Nat.zero_le _, rfl, (by intro q hq; rw [List.take_zero] at hq; cases hq), Below.refl _ _⟩
  case round =>
    obtain ⟨k, hk, rfl, hno, hb⟩ := hrel
    by_cases hlt : k < L.length
    · obtain ⟨x, hx⟩ : ∃ x, L[k]? = some x := ⟨_, List.getElem?_eq_getElem hlt⟩
      obtain ⟨gx1, gx2⟩ := lncs_get _ _ _ hx
      obtain ⟨_, _, e5, -, -, -, hcc⟩ := HB.out.2.2.2.below hb
      injection e5 with e5 e6 e7
      subst e5 e7
      obtain ⟨b, o, rfl, hbl, hcell⟩ := hcc.at_ (fun e => by rw [e] at gx1; simp at gx1)
      have d1 := hcell _ _ gx1
      have d2 := hcell _ _ gx2
      rw [← Nat.add_assoc] at d2
      have hfm : (x.1.data.toList == s.data.toList) = true → Sr.find s.data.toList (Lnm.en L) = some x.2.data.toList := fun h => Lnm.find_at hx hno h
      have hs : L.take (k + 1) = L.take k ++ [x] := by rw [List.take_add_one, hx]; rfl
      have hns : (x.1.data.toList == s.data.toList) = false → ∀ q ∈ L.take (k + 1), (q.1.data.toList == s.data.toList) = false := fun h q hq => by
        rw [hs] at hq
        rcases List.mem_append.1 hq with hq | hq
        · exact hno q hq
        · rw [List.mem_singleton.1 hq]; exact h
      obtain ⟨x1, x2⟩ := x
      dsimp only at d1 d2 hfm hns
      have hb1 : Below wr.heap.size wr (wr.alloc (.cells #[.string x1, .string x2] 173)) := below_alloc (Below.refl _ _) _
      have hbn := below_next hb1 hb
      have r0 := HB.out.2.1.below hbn
      have r1 := HB.out.2.2.1.below hbn
      have pe := Blk.new wr 173 [.string x1, .string x2]
      have HF := Lib.hid (And.intro hfm (And.intro hns hbn))
      clear hcell hcc hx hs gx1 gx2 e6 hno hfm hns hb1 hb
      go_upto_region 7 with (fail)
      obtain ⟨gk, hgk⟩ : ∃ x, x = wr.heap.size := ⟨_, rfl⟩
      rw [← hgk] at pe ⊢
      have HGk := Lib.hid hgk
      clear hgk
      generalize (wr.alloc (.cells #[.string x1, .string x2] 173)) = W1 at pe hbn r0 r1 HF ⊢
      have f0 : W1.cell? ⟨gk, 0, none⟩ = some (.string x1) := (pe.cell 0).trans rfl
      have f1 : W1.cell? ⟨gk, 1, none⟩ = some (.string x2) := (pe.cell 1).trans rfl
      have s0 := (r0.cell 0).trans rfl
      have s2 := (r0.cell 2).trans rfl
      simp only [List.getElem?_cons_zero, List.getElem?_cons_succ] at s0 s2
      clear d1 d2 pe r0 hbn
      rcases hq : (x1.toList == s.toList) with _ | _
      · have hq' : (x1.data.toList == s.data.toList) = false := by rw [← ByteArray.toList_eq, ← ByteArray.toList_eq]; exact hq
        have HG := Lib.hid (And.intro (HF.out.2.1 hq') HF.out.2.2)
        clear hq'
        go_wp2_with fail
        clear f0 f1 s0 s2 r1 hq
        go_wp2_with fail
        go_roundw
        case rel => exact ⟨k + 1, by omega, by go_num, HG.out.1, (by have := HG.out.2; repeat (first | assumption | apply below_drew))⟩
        case measure => simp [intOf]; omega
      · have hq' : (x1.data.toList == s.data.toList) = true := by rw [← ByteArray.toList_eq, ← ByteArray.toList_eq]; exact hq
        have HG := Lib.hid (And.intro (HF.out.1 hq') (below_next HF.out.2.2 HB.out.1))
        clear hq'
        have hfin : ∀ w3, W1.grownBy w3 (some (q + 1)) → (NS (fun b => w.heap.size ≤ b) w3 (xcells 2 0 x2 none 0 0) (Sr.rnx (Lnm.en L) (.name s.data.toList)) ∧ Below w.heap.size w w3) := fun w3 hg3 => ⟨by
          rw [Sr.rnx, HG.out.1]
          exact NS.name x2, HG.out.2.trans (below_of_grown hg3 HG.out.2.size (by rw [HQ.out]; omega))⟩
        go_wp2_with (refine wpl_put_blk r1 [.int .i64 2, .int .i64 0, .string x2, .slice none 0 0] (by kernel_rfl) rfl (xcells_one 2 0 x2 none 0 0) rfl rfl rfl rfl ?_; intro w3 hB3 hg3)
        exact ret_blk hB3 rfl rfl Tryd.underlying38 rfl (by kernel_rfl) rfl ⟨_, rfl, hfin _ hg3⟩
    · obtain rfl : k = L.length := by omega
      rw [List.take_length] at hno
      have hrn : Sr.cln (.name s.data.toList) = Sr.rnx (Lnm.en L) (.name s.data.toList) := by
        rw [Sr.rnx, Lnm.find_not hno]
        rfl
      have r0 := HB.out.2.1.below hb
      have r1 := HB.out.2.2.1.below hb
      have hb2 := below_next hb HB.out.1
      have s0 := (r0.cell 0).trans rfl
      have s1 := (r0.cell 1).trans rfl
      have s2 := (r0.cell 2).trans rfl
      have s3 := (r0.cell 3).trans rfl
      simp only [List.getElem?_cons_zero, List.getElem?_cons_succ] at s0 s1 s2 s3
      have g1 := hcl wr hb2
      have HR := Lib.hid (And.intro hrn hb2)
      clear hrn hb2 hb hcl r0 hno
      go_wp2_with fail
      refine g1.mono ?_
      rintro r w3 ⟨u, rfl, ⟨cs3, rfl, hcs⟩, hb3⟩
      obtain ⟨x0, x1, x2, X3, x4, x5, rfl, -, -⟩ := hcs.form
      have r3 := r1.below hb3
      clear s0 s1 s2 s3 g1 r1
      have HN := Lib.hid (And.intro (fun w' => ns_leaf (S := fun b => w.heap.size ≤ b) (w' := w') (by intro k a b h; cases h) hcs) (below_next hb3 HR.out.2))
      clear hcs hb3
      unfold xcells
      go_wp2_with (refine wpl_put_blk r3 [.int .i64 x0, .int .i64 x1, .string x2, .slice X3 x4 x5] (by kernel_rfl) rfl (xcells_one x0 x1 x2 X3 x4 x5) rfl rfl rfl rfl ?_; intro w5 hB5 hg5)
      refine ret_blk hB5 rfl rfl Tryd.underlying38 rfl (by kernel_rfl) rfl ⟨_, rfl, ?_⟩
      rw [← HR.out.1]
      exact ⟨HN.out.1 w5, HN.out.2.trans (below_of_grown hg5 HN.out.2.size (by rw [HQ.out]; omega))⟩

set_option maxHeartbeats 4000000 in
theorem lx_two (k : Int) (e0 e1 : Ex.X) (ih0 : LxOK e0) (ih1 : LxOK e1) : LxOK (.two k e0 e1) := by
  intro w cs v L h hL hLl
  cases h with
  | two k n s gg o len cap d0 d1 e0 e1 hle hm hk3 hk9 hl2 hg h5 h6 r0 r1 =>
  obtain ⟨a0, a1, a2, A3, a4, a5, rfl, -, -⟩ := r0.form
  obtain ⟨b0, b1, b2, B3, b4, b5, rfl, -, -⟩ := r1.form
  have h2 := fun w' => etwo_any w' k n s (some ⟨gg, o, none⟩) len cap hle hm true (by simp; omega)
  obtain ⟨q0, q1, hz, hbw⟩ := allocs2 w (xcells k n s (some ⟨gg, o, none⟩) len cap) Ex.zeros 38 38
  unfold xcells Ex.zeros at q0 q1 hz hbw
  have l0 : 0 < len := by omega
  have l1 : 1 < len := by omega
  have l1' : (1 : Int) < (len : Int) := by omega
  have hH := hbw.size
  have a0' := h5 0 _ rfl
  have a1' := h5 1 _ rfl
  have a2' := h5 2 _ rfl
  have a3' := h5 3 _ rfl
  have b0' := h6 0 _ rfl
  have b1' := h6 1 _ rfl
  have b2' := h6 2 _ rfl
  have b3' := h6 3 _ rfl
  unfold maxLen at hm
  have HK := Lib.hid (And.intro hk3 hk9)
  clear h5 h6 hk3 hk9
  unfold xcells at h2 ⊢
  simp only [Nat.add_zero] at a0' b0'
  have hlt : ∀ {p : Addr} {v : Value}, w.cell? p = some v → ∀ W', Below w.heap.size w W' → W'.cell? p = some v := fun h W' hb => (hb.cell (World.block_lt_of_cell? w _ h)).trans h
  obtain ⟨p, hp⟩ : ∃ p, p = w.heap.size := ⟨_, rfl⟩
  have HPp := Lib.hid hp
  go_enter Tryd.func118, Tryd.ntmps118
  go_wp2_with fail
  rw [← hp] at q0 q1 hz ⊢
  clear hp
  generalize ((w.alloc (.cells #[.int .i64 k, .int .i64 n, .string s, .slice (some ⟨gg, o, none⟩) len cap] 38)).alloc (.cells #[.int .i64 0, .int .i64 0, .string ⟨#[]⟩, .slice none 0 0] 38)) = W0 at q0 q1 hz hbw hH ⊢
  refine (h2 W0).mono ?_
  rintro r W ⟨rfl, hb1⟩
  replace q0 := q0.below hb1
  replace q1 := q1.below hb1
  replace hH := Nat.le_trans hH hb1.size
  have hzz : p + 1 < W.heap.size := by have := hb1.size; omega
  replace hbw := below_next hb1 hbw
  clear hb1 hz h2
  have hp : p = w.heap.size := HPp.out
  have keepS : ∀ w', Below W.heap.size W w' → (Below W.heap.size W w' ∧ w'.cell? ⟨p, 0, none⟩ = some (.int .i64 k) ∧ w'.cell? ⟨p, 3, none⟩ = some (.slice (some ⟨gg, o, none⟩) len cap) ∧ w'.cell? ⟨gg, o, none⟩ = some (.int .i64 a0) ∧ w'.cell? ⟨gg, o + 1, none⟩ = some (.int .i64 a1) ∧ w'.cell? ⟨gg, o + 2, none⟩ = some (.string a2) ∧ w'.cell? ⟨gg, o + 3, none⟩ = some (.slice A3 a4 a5) ∧ w'.cell? ⟨gg, o + 4, none⟩ = some (.int .i64 b0) ∧ w'.cell? ⟨gg, o + 4 + 1, none⟩ = some (.int .i64 b1) ∧ w'.cell? ⟨gg, o + 4 + 2, none⟩ = some (.string b2) ∧ w'.cell? ⟨gg, o + 4 + 3, none⟩ = some (.slice B3 b4 b5)) := fun w' hb => by
    have hb' := below_next hb hbw
    exact ⟨hb, ((q0.below hb).cell 0).trans rfl, ((q0.below hb).cell 3).trans rfl, hlt a0' _ hb', hlt a1' _ hb', hlt a2' _ hb', hlt a3' _ hb', hlt b0' _ hb', hlt b1' _ hb', hlt b2' _ hb', hlt b3' _ hb'⟩
  have gE : ∀ (w' : World) (cs : List Value) (e : Ex.X), Below W.heap.size W w' → LxOK e → XR w.heap.size w cs e → Calls Tryd.prog 118 #[.agg cs.toArray, v] w' fun r w'' => ∃ v, r = .returned v ∧ (FNS (fun b => p + 1 < b) (Sr.rnx (Lnm.en L) e)).holds v w'' ∧ Below w'.heap.size w' w'' := fun w' cs e hb ih hx => by
    have hb' := below_next hb hbw
    refine (ih w' cs v L ((hx.later hb').up hb'.size) (hL.below hb') hLl).mono ?_
    rintro r w'' ⟨cs', rfl, h1, h2⟩
    exact ⟨_, rfl, ⟨cs', rfl, h1.imp fun b _ hb2 => by have := hb.size; show p + 1 < b; have : w'.heap.size ≤ b := hb2; omega⟩, h2⟩
  have g0 := fun w' hb => gE w' _ e0 hb ih0 r0
  have g1' := fun w' hb => gE w' _ e1 hb ih1 r1
  have hS0 := keepS _ (below_drew (Below.refl _ _))
  have HB := Lib.hid (And.intro hbw (And.intro hp (And.intro hzz hH)))
  clear a0' a1' a2' a3' b0' b1' b2' b3' q0 hlt hL r0 r1 ih0 ih1 gE hbw hp hzz hH
  unfold xcells at g0 g1'
  go_wp2_with fail
  refine wp_walk_last (by kernel_rfl) (by kernel_rfl) (fun w w' => Below w.heap.size w w') (fun w' => (Below W.heap.size W w' ∧ w'.cell? ⟨p, 0, none⟩ = some (.int .i64 k) ∧ w'.cell? ⟨p, 3, none⟩ = some (.slice (some ⟨gg, o, none⟩) len cap) ∧ w'.cell? ⟨gg, o, none⟩ = some (.int .i64 a0) ∧ w'.cell? ⟨gg, o + 1, none⟩ = some (.int .i64 a1) ∧ w'.cell? ⟨gg, o + 2, none⟩ = some (.string a2) ∧ w'.cell? ⟨gg, o + 3, none⟩ = some (.slice A3 a4 a5) ∧ w'.cell? ⟨gg, o + 4, none⟩ = some (.int .i64 b0) ∧ w'.cell? ⟨gg, o + 4 + 1, none⟩ = some (.int .i64 b1) ∧ w'.cell? ⟨gg, o + 4 + 2, none⟩ = some (.string b2) ∧ w'.cell? ⟨gg, o + 4 + 3, none⟩ = some (.slice B3 b4 b5))) hS0 ?_
  simp only [List.length_cons, List.length_nil, Nat.reduceAdd, Nat.reduceSub, List.take_succ_cons, List.take_zero, List.drop_succ_cons, List.drop_zero]
  repeat (first | (refine settle_skip (fun _ => by rfl) ?_; (simp only [Act.put, List.setIfInBounds_toArray, List.set_cons_zero, List.set_cons_succ])) | (refine' settle_run (fun _ _ => Below.refl _ _) (fun _ => by rfl) ?_ ?_; rotate_left; (focus (intro ρ w hS hF; (try dsimp only at hS); go_split_ands; go_simp; try with_reducible rfl)); (simp only [Act.put, List.setIfInBounds_toArray, List.set_cons_zero, List.set_cons_succ])))
  (refine settle_known (FNS (fun b ↦ p + 1 < b) (Sr.rnx (Lnm.en L) e0)) (by rfl) (fun _ => by rfl)  ?_ ?_; (focus (intro ρ w hS hF K hK; (simp only [Act.put, List.setIfInBounds_toArray, List.set_cons_zero, List.set_cons_succ] at hK); go_simp; (refine (g0 _ hS.1).mono ?_; rintro e w' ⟨v, rfl, hF', hb'⟩; exact hK _ _ hF' (keepS _ (below_next hb' hS.1)) hb'))); (simp only [Act.put, List.setIfInBounds_toArray, List.set_cons_zero, List.set_cons_succ]))
  repeat (first | (refine settle_skip (fun _ => by rfl) ?_; (simp only [Act.put, List.setIfInBounds_toArray, List.set_cons_zero, List.set_cons_succ])) | (refine' settle_run (fun _ _ => Below.refl _ _) (fun _ => by rfl) ?_ ?_; rotate_left; (focus (intro ρ w hS hF; (try dsimp only at hS); go_split_ands; go_simp; try with_reducible rfl)); (simp only [Act.put, List.setIfInBounds_toArray, List.set_cons_zero, List.set_cons_succ])))
  (refine settle_known (FNS (fun b ↦ p + 1 < b) (Sr.rnx (Lnm.en L) e1)) (by rfl) (fun _ => by rfl)  ?_ ?_; (focus (intro ρ w hS hF K hK; (simp only [Act.put, List.setIfInBounds_toArray, List.set_cons_zero, List.set_cons_succ] at hK); go_simp; (refine (g1' _ hS.1).mono ?_; rintro e w' ⟨v, rfl, hF', hb'⟩; exact hK _ _ hF' (keepS _ (below_next hb' hS.1)) hb'))); (simp only [Act.put, List.setIfInBounds_toArray, List.set_cons_zero, List.set_cons_succ]))
  repeat (first | (refine settle_skip (fun _ => by rfl) ?_; (simp only [Act.put, List.setIfInBounds_toArray, List.set_cons_zero, List.set_cons_succ])) | (refine' settle_run (fun _ _ => Below.refl _ _) (fun _ => by rfl) ?_ ?_; rotate_left; (focus (intro ρ w hS hF; (try dsimp only at hS); go_split_ands; go_simp; try with_reducible rfl)); (simp only [Act.put, List.setIfInBounds_toArray, List.set_cons_zero, List.set_cons_succ])))
  (refine settle_known (FTwo (fun b ↦ p + 1 < b) (Sr.rnx (Lnm.en L) e0) (Sr.rnx (Lnm.en L) e1)) (by rfl) (fun _ => by rfl)  ?_ ?_; (focus (intro ρ w hS hF K hK; (simp only [Act.put, List.setIfInBounds_toArray, List.set_cons_zero, List.set_cons_succ] at hK); go_simp; (obtain ⟨c1, e34, r34⟩ := hF.1 (by rfl); obtain ⟨c0, e28, r28⟩ := hF.2.1 (by rfl); obtain ⟨x0, x1, x2, X3, x4, x5, rfl, -, -⟩ := XRN.form r28; obtain ⟨y0, y1, y2, Y3, y4, y5, rfl, -, -⟩ := XRN.form r34; unfold xcells at e28 e34; simp only [e28, e34]; go_simp; have hbl : Below w.heap.size w (w.alloc (.cells (xcells x0 x1 x2 X3 x4 x5 ++ xcells y0 y1 y2 Y3 y4 y5).toArray 38)) := below_alloc (Below.refl _ _) _; have hK2 := hK _ _ ⟨w.heap.size, _, _, rfl, by have := hS.1.size; have := HB.out; show p + 1 < w.heap.size; omega, Blk.new w 38 _, r28.later hbl, r34.later hbl⟩ (keepS _ (hS.1.alloc hS.1.size _)) hbl; simp only [e28, e34] at hK2; exact hK2))); (simp only [Act.put, List.setIfInBounds_toArray, List.set_cons_zero, List.set_cons_succ]))
  repeat (first | (refine settle_skip (fun _ => by rfl) ?_; (simp only [Act.put, List.setIfInBounds_toArray, List.set_cons_zero, List.set_cons_succ])) | (refine' settle_run (fun _ _ => Below.refl _ _) (fun _ => by rfl) ?_ ?_; rotate_left; (focus (intro ρ w hS hF; (try dsimp only at hS); go_split_ands; go_simp; try with_reducible rfl)); (simp only [Act.put, List.setIfInBounds_toArray, List.set_cons_zero, List.set_cons_succ])))
  (refine settle_known (FNS (fun b ↦ p + 1 < b) (Sr.rnx (Lnm.en L) (.two k e0 e1))) (by rfl) (fun _ => by rfl)  ?_ ?_; (focus (intro ρ w hS hF K hK; (simp only [Act.put, List.setIfInBounds_toArray, List.set_cons_zero, List.set_cons_succ] at hK); go_simp; (obtain ⟨q, c0, c1, e35, hq, hB, r28, r34⟩ := hF.1 (by rfl); simp only [e35]; go_simp; have hK2 := hK _ _ ⟨xcells k 0 ⟨#[]⟩ (some ⟨q, 0, none⟩) 2 2, rfl, NS.two r28 r34 hB hq HK.out.1 HK.out.2⟩ hS (Below.refl _ _); simp only [e35] at hK2; exact hK2))); (simp only [Act.put, List.setIfInBounds_toArray, List.set_cons_zero, List.set_cons_succ]))
  refine settle_nil ?_
  intro ρ w4 hS hF
  obtain ⟨cs, e36, h36⟩ := hF 24 (FNS (fun b => p + 1 < b) (Sr.rnx (Lnm.en L) (.two k e0 e1))) (by repeat (first | exact List.mem_cons_self | apply List.mem_cons_of_mem))
  have hb4 := hS.1
  clear hF hS hS0 keepS g0 g1'
  dsimp only
  rw [e36]
  obtain ⟨x0, x1, x2, X3, x4, x5, rfl, -, -⟩ := XRN.form h36
  obtain ⟨hbw, hp, hz, hH⟩ := HB.out
  have hB4 := q1.below hb4
  have hl4 := hb4.size
  have hend : ∀ w5, w4.grownBy w5 (some (p + 1)) → NS (fun b => w.heap.size ≤ b) w5 (xcells x0 x1 x2 X3 x4 x5) (Sr.rnx (Lnm.en L) (.two k e0 e1)) ∧ Below w.heap.size w w5 := fun w5 hg5 => by
    refine ⟨?_, (below_next hb4 hbw).trans (below_of_grown hg5 (by omega) (by omega))⟩
    exact h36.kept (Keeps.of_grown hg5) fun b _ hb => ⟨by have : p + 1 < b := hb; show w.heap.size ≤ b; omega, fun e => by have : p + 1 < b := hb; injection e with e; omega⟩
  refine wpl_put_blk hB4 [.int .i64 x0, .int .i64 x1, .string x2, .slice X3 x4 x5] (by kernel_rfl) rfl (xcells_one x0 x1 x2 X3 x4 x5) rfl rfl rfl rfl ?_
  intro w5 hB5 hg5
  have he5 := hend w5 hg5
  clear hend hg5 hB4 h36 e36 hbw hp hz hH
  go_wp2
  exact ret_blk hB5 rfl rfl Tryd.underlying38 rfl (by kernel_rfl) rfl ⟨_, rfl, he5⟩

theorem lexpr_any (e : Ex.X) : LxOK e := by
  induction e with
  | num n => exact lx_leaf _ (by intro k a b h; cases h) (by intro s h; cases h)
  | name s => exact lx_name s
  | two k e0 e1 i0 i1 => exact lx_two k e0 e1 i0 i1
  | bad => exact lx_leaf _ (by intro k a b h; cases h) (by intro s h; cases h)
end Go.Proofs.YtkjmddgnfgbioaaDoor


namespace Go.Proofs.YtkjmddgnfgbioaaDoor
set_option linter.unusedVariables false
set_option linter.unusedSimpArgs false
set_option maxRecDepth 100000
open Go.RowKit

/-- the table of powers of ten -/
def Pow (B : Nat) (w : World) : Prop := Lib.TabBelow Tryd.prog B w "internal/strconv.uint64pow10" .u64 Lib.pow10Tab
theorem Pow.later {B : Nat} {w w' : World} (h : Pow B w) (hb : Below B w w') : Pow B w' := fun w2 h2 => h w2 (hb.trans h2)
end Go.Proofs.YtkjmddgnfgbioaaDoor
