/-
  The four laws of the phaser, over plain lists.
-/
import Derived.Test.YtphbegadddamgaaPhaLaw
namespace Go.Proofs.Ytphbegadddamgaa.Pha
set_option linter.unusedVariables false
set_option linter.unusedSimpArgs false

/-! ### who leaves holds nobody up -/
def joins (k : Nat) : List Op := (List.range k).map fun (i : Nat) => ⟨1, i + 1, 0⟩
def nexts (k : Nat) : List Op := (List.range k).map fun (i : Nat) => ⟨2, i + 1, 0⟩
def dropOps (k : Nat) : List Op := joins k ++ nexts k ++ [⟨4, 0, 0⟩, ⟨3, 0, 0⟩, ⟨4, k, 0⟩]

theorem drop_fin : ∀ k : Fin 15, (play (dropOps (k.val + 1))).drop (2 * (k.val + 1)) = [(0, 0), (0, 1), (0, 1)] := by decide +kernel

theorem drop_law (k : Nat) (h1 : 1 ≤ k) (h2 : k < 16) : (play (dropOps k)).drop (2 * k) = [(0, 0), (0, 1), (0, 1)] := by
  have := drop_fin ⟨k - 1, by omega⟩
  rwa [show (⟨k - 1, by omega⟩ : Fin 15).val + 1 = k from by simp; omega] at this

/-! ### who all arrive go on -/
def rest (k : Nat) : List Op := (List.range k).map fun (i : Nat) => ⟨2, i, 0⟩

theorem rest_succ (k : Nat) : rest (k + 1) = rest k ++ [⟨2, k, 0⟩] := by simp [rest, List.range_succ]

theorem after_one (p : St) (o : Op) : after p [o] = next p o := rfl

theorem turn_inn (p : St) : (turn p).inn = p.inn := by unfold turn; split <;> rfl

theorem next_two_inn (p : St) (k : Int) : (next p ⟨2, k, 0⟩).inn = p.inn := by
  unfold next
  split
  · simp [act, turn_inn]
  · rfl

theorem rest_inn (p : St) (k : Nat) : (after p (rest k)).inn = p.inn := by
  induction k with
  | zero => rfl
  | succ k ih => rw [rest_succ, after_append]; show (next _ _).inn = _; rw [next_two_inn, ih]

theorem turn_cases (p : St) : (turn p = p ∧ full p = false) ∨ ((turn p).phase = p.phase + 1) := by
  unfold turn
  cases h : full p
  · left; simp
  · right; simp

/-- behind the first k of the sixteen a phase has begun, or all of these that are registered wait -/
theorem rest_inv {p : St} (hp : Ok p) (k : Nat) (hk : k ≤ 16) : p.phase < (after p (rest k)).phase ∨ ((after p (rest k)).phase = p.phase ∧ ∀ i, i < k → p.inn.getD i false = true → (after p (rest k)).here.getD i false = true) := by
  induction k with
  | zero => right; exact ⟨rfl, fun i hi => by omega⟩
  | succ k ih =>
    rw [rest_succ, after_append, after_one]
    have hq := after_ok hp (rest k)
    have hqi := rest_inn p k
    revert ih hq hqi
    generalize after p (rest k) = q
    intro ih hq hqi
    have hn := next_phase q ⟨2, k, 0⟩
    rcases ih (by omega) with h | ⟨h1, h2⟩
    · left; omega
    · by_cases hg : good q ⟨2, k, 0⟩ = true
      · have e : next q ⟨2, k, 0⟩ = turn { q with here := q.here.set k true } := by simp [next, hg, act]
        rw [e]
        rcases turn_cases { q with here := q.here.set k true } with ⟨ht, _⟩ | ht
        · right
          rw [ht]
          refine ⟨h1, fun i hi hin => ?_⟩
          by_cases hik : i = k
          · subst hik; exact getD_set_eq _ _ _ (by rw [hq.l2]; omega)
          · rw [getD_set_ne _ _ _ _ hik]; exact h2 i (by omega) hin
        · left; rw [ht]; simp only; omega
      · have e : next q ⟨2, k, 0⟩ = q := by simp [next, hg]
        rw [e]
        right
        refine ⟨h1, fun i hi hin => ?_⟩
        by_cases hik : i = k
        · subst hik
          rw [← hqi] at hin
          have hge := mt (good_iff q ⟨2, i, 0⟩).2 hg
          have : err q ⟨2, i, 0⟩ ≠ 0 := fun he => hge ⟨by simp, by simp, he⟩
          have hk' : known (i : Int) = true := known_iff.2 ⟨by omega, by omega⟩
          cases hh : q.here.getD i false
          · exfalso
            apply this
            have : free q i = 0 := by
              unfold free at_
              rw [Int.toNat_natCast, hin, hh, hk']
              simp
            simp [err, who, this]
          · rfl
        · exact h2 i (by omega) hin

theorem live_law (ops : List Op) (hleft : ∃ a ∈ answers (after start ops) (rest 16), a.1 = 0 ∨ a.1 = 8) : top (play ops) < top (play (ops ++ rest 16)) := by
  obtain ⟨p, hp⟩ : ∃ p, p = after start ops := ⟨_, rfl⟩
  have hok : Ok p := by rw [hp]; exact after_ok ok_start ops
  rw [← hp] at hleft
  have h1 := top_le ops
  rw [← hp] at h1
  have hph : 0 ≤ p.phase := by rw [hp]; exact (after_phase start ops).1
  -- somebody is registered
  have hne : p.inn ≠ no16 := by
    intro h0
    obtain ⟨a, ha, hae⟩ := hleft
    have key : ∀ (n : Nat), n ≤ 16 → ∀ a ∈ answers p (rest n), a.1 = 7 := by
      intro n
      induction n with
      | zero => intro _ a ha; cases ha
      | succ n ih =>
        intro hn a ha
        rw [rest_succ, answers_append] at ha
        rcases List.mem_append.1 ha with ha | ha
        · exact ih (by omega) a ha
        · have hi := rest_inn p n
          rw [h0] at hi
          simp only [answers, List.mem_singleton] at ha
          subst ha
          have hf : free (after p (rest n)) n = 7 := by
            unfold free at_
            rw [hi, getD_no16]
            simp
          have he : err (after p (rest n)) ⟨2, n, 0⟩ = 7 := by simp [err, who, hf]
          simp [ans, he]
    have := key 16 (Nat.le_refl _) a ha
    omega
  have h2 : p.phase < (after p (rest 16)).phase := by
    rcases rest_inv hok 16 (Nat.le_refl _) with h | ⟨_, h⟩
    · exact h
    · exfalso
      have hq := after_ok hok (rest 16)
      have hqi := rest_inn p 16
      have hnf := hq.nf
      rw [Bool.eq_false_iff] at hnf
      apply hnf
      rw [full_iff, hqi]
      refine ⟨ext16 (by rw [hok.l1, hq.l2]) fun i => ?_, hne⟩
      by_cases hi : i < 16
      · cases hb : p.inn.getD i false
        · cases hb' : (after p (rest 16)).here.getD i false
          · rfl
          · have := hq.sub i hb'
            rw [hqi, hb] at this
            cases this
        · exact (h i hi hb).symm
      · have e1 : p.inn.getD i false = false := by simp [List.getD, show p.inn.length ≤ i by rw [hok.l1]; omega]
        have e2 : (after p (rest 16)).here.getD i false = false := by simp [List.getD, show (after p (rest 16)).here.length ≤ i by rw [hq.l2]; omega]
        rw [e1, e2]
  -- the step at which it begins tells it
  have h3 : ∃ a ∈ answers p (rest 16), p.phase < a.2 := by
    have key : ∀ (l : List Op) (q : St), 0 ≤ q.phase → q.phase < (after q l).phase → ∃ a ∈ answers q l, q.phase < a.2 := by
      intro l
      induction l with
      | nil => intro q _ h; simp [after] at h
      | cons o l ih =>
        intro q h0 h
        have hn := next_phase q o
        by_cases hq : q.phase < (next q o).phase
        · have hg : good q o = true := by
            cases hg : good q o
            · simp [next, hg] at hq
            · rfl
          exact ⟨ans q o, by simp [answers], by rw [ans_of_good hg]; exact hq⟩
        · have e : (next q o).phase = q.phase := by omega
          obtain ⟨a, ha, hlt⟩ := ih (next q o) (by omega) (by rw [e]; exact h)
          exact ⟨a, by simp [answers, ha], by omega⟩
    exact key _ p hph h2
  obtain ⟨a, ha, hlt⟩ := h3
  have h4 : a.2 ≤ top (play (ops ++ rest 16)) := mem_le_top _ _ _ (by
    rw [play, answers_append, ← hp]
    exact List.mem_append_right _ ha)
  omega

/-! ### phases go on one by one; what is refused changes nothing -/
def goods : St → List Op → List Op
  | _, [] => []
  | p, o :: ops => if good p o then o :: goods (next p o) ops else goods p ops

theorem next_bad {p : St} {o : Op} (h : good p o = false) : next p o = p := by simp [next, h]

theorem goods_answers (p : St) (ops : List Op) : answers p (goods p ops) = (answers p ops).filter (fun a => a.1 == 0) := by
  induction ops generalizing p with
  | nil => rfl
  | cons o ops ih =>
    cases h : good p o
    · simp only [goods, h, answers, next_bad h]
      rw [List.filter_cons_of_neg]
      · exact ih p
      · have := mt (ans_good (p := p) (o := o)).1 (by rw [h]; simp)
        simpa using this
    · simp only [goods, h, answers, if_true]
      rw [List.filter_cons_of_pos (by simpa using ans_good.2 h), ih]

theorem goods_append (p : St) (a b : List Op) : goods p (a ++ b) = goods p a ++ goods (after p a) b := by
  induction a generalizing p with
  | nil => rfl
  | cons o a ih =>
    have e : after p (o :: a) = after (next p o) a := rfl
    cases h : good p o
    · simp only [List.cons_append, goods, h, e, next_bad h]; exact ih p
    · simp only [List.cons_append, goods, h, e, if_true, ih]

theorem act_what (p : St) (o : Op) (h : p.phase < (act p o).phase) : o.kind = 2 ∨ o.kind = 3 := by
  have := (act_phase p o).2.2
  omega

/-! ### nobody goes on alone -/
def upd (k : Nat) (m : List Int) (o : Op) (a : Ans) : List Int :=
  if o.kind = 2 ∧ a.1 = 0 ∧ 0 ≤ o.who ∧ o.who ≤ k then m.set o.who.toNat (m.getD o.who.toNat 0 + 1) else m

def many (k : Nat) : St → List Int → List Op → List Int
  | _, m, [] => m
  | p, m, o :: ops => many k (next p o) (upd k m o (ans p o)) ops

theorem many_append (k : Nat) (p : St) (m : List Int) (a b : List Op) : many k p m (a ++ b) = many k (after p a) (many k p m a) b := by
  induction a generalizing p m with
  | nil => rfl
  | cons o a ih => simp only [List.cons_append, many, ih]; rfl

theorem many_take (k : Nat) (p : St) (m : List Int) (ops : List Op) (i : Nat) (h : i < ops.length) :
    many k p m (ops.take (i + 1)) = upd k (many k p m (ops.take i)) ops[i] (ans (after p (ops.take i)) ops[i]) := by
  rw [List.take_succ_eq_append_getElem h, many_append]
  rfl

structure Inv (k : Nat) (p : St) (m : List Int) : Prop where
  len : m.length = k + 1
  all : ∀ q, q ≤ k → p.inn.getD q false = true ∧ m.getD q 0 = p.phase + if p.here.getD q false then 1 else 0

theorem intD_set_eq (l : List Int) (i : Nat) (x : Int) (h : i < l.length) : (l.set i x).getD i 0 = x := by simp [List.getD, h]
theorem intD_set_ne (l : List Int) (i j : Nat) (x : Int) (h : j ≠ i) : (l.set i x).getD j 0 = l.getD j 0 := by
  simp only [List.getD]
  rw [List.getElem?_set_ne (fun e => h e.symm)]

theorem inv_step {k : Nat} {p : St} {m : List Int} (hk : k < 16) (hp : Ok p) (h : Inv k p m) (o : Op) (ho : o.kind ≠ 3) : Inv k (next p o) (upd k m o (ans p o)) := by
  cases hg : good p o
  · rw [next_bad hg]
    have : upd k m o (ans p o) = m := by
      unfold upd
      rw [if_neg]
      intro hc
      have := ans_good.1 hc.2.1
      rw [hg] at this
      cases this
    rw [this]
    exact h
  · have hg' := (good_iff p o).1 hg
    obtain ⟨hf, hj⟩ := err_zero hg'.2.2
    obtain ⟨hw1, hw2, hw3⟩ := free_zero hf
    have hne : next p o = act p o := by simp [next, hg]
    have ha : (ans p o).1 = 0 := ans_good.2 hg
    by_cases h2 : o.kind = 2
    · have hwho : who o = o.who := by simp [who, h2]
      rw [hwho] at hw1 hw2 hw3
      have hkn := known_iff.1 hw1
      unfold at_ at hw2 hw3
      have hact : act p o = turn { p with here := p.here.set o.who.toNat true } := by simp [act, h2]
      rw [hne, hact]
      -- the counts behind it, against the phase ahead of the turn
      have hm : (upd k m o (ans p o)).length = k + 1 ∧ ∀ q, q ≤ k → (upd k m o (ans p o)).getD q 0 = p.phase + if (p.here.set o.who.toNat true).getD q false then 1 else 0 := by
        unfold upd
        by_cases hwk : o.who ≤ k
        · rw [if_pos ⟨h2, ha, hkn.1, hwk⟩]
          refine ⟨by simpa using h.len, fun q hq => ?_⟩
          by_cases hqw : q = o.who.toNat
          · subst hqw
            rw [intD_set_eq _ _ _ (by rw [h.len]; omega), (h.all _ hq).2, hw3, getD_set_eq _ _ _ (by rw [hp.l2]; omega)]
            simp
          · rw [intD_set_ne _ _ _ _ hqw, getD_set_ne _ _ _ _ hqw]
            exact (h.all q hq).2
        · rw [if_neg (fun hc => hwk hc.2.2.2)]
          refine ⟨h.len, fun q hq => ?_⟩
          rw [getD_set_ne _ _ _ _ (by omega)]
          exact (h.all q hq).2
      refine ⟨hm.1, fun q hq => ?_⟩
      rw [hm.2 q hq]
      unfold turn
      by_cases hfull : full { p with here := p.here.set o.who.toNat true } = true
      · rw [if_pos hfull]
        have e := ((full_iff _).1 hfull).1
        simp only at e
        refine ⟨(h.all q hq).1, ?_⟩
        rw [← e, (h.all q hq).1]
        simp only [getD_no16]
        simp
      · rw [if_neg hfull]
        exact ⟨(h.all q hq).1, rfl⟩
    · have hu : upd k m o (ans p o) = m := by unfold upd; rw [if_neg (fun hc => h2 hc.1)]
      rw [hu, hne]
      unfold act
      by_cases h1 : o.kind = 1
      · rw [if_pos h1]
        refine ⟨h.len, fun q hq => ⟨?_, (h.all q hq).2⟩⟩
        by_cases hqw : q = o.who.toNat
        · subst hqw
          have := known_iff.1 (hj h1).1
          exact getD_set_eq _ _ _ (by rw [hp.l1]; omega)
        · simp only
          rw [getD_set_ne _ _ _ _ hqw]
          exact (h.all q hq).1
      · rw [if_neg h1, if_neg h2, if_neg ho]
        exact h

theorem ite_01 (c : Prop) [Decidable c] : 0 ≤ (if c then (1 : Int) else 0) ∧ (if c then (1 : Int) else 0) ≤ 1 := by split <;> simp

theorem inv_bound {k : Nat} {p : St} {m : List Int} (h : Inv k p m) : ∀ x ∈ m, p.phase ≤ x ∧ x ≤ p.phase + 1 := by
  intro x hx
  obtain ⟨q, hq, rfl⟩ := List.getElem_of_mem hx
  have := (h.all q (by have := h.len; omega)).2
  simp only [List.getD, List.getElem?_eq_getElem hq, Option.getD_some] at this
  rw [this]
  have := ite_01 (p.here[q]?.getD false = true)
  omega

theorem joins_succ (k : Nat) : joins (k + 1) = joins k ++ [⟨1, k + 1, 0⟩] := by simp [joins, List.range_succ]

theorem nexts_succ (k : Nat) : nexts (k + 1) = nexts k ++ [⟨2, k + 1, 0⟩] := by simp [nexts, List.range_succ]

/-- behind the first i joins: those up to i are registered, nobody waits, nothing has begun -/
theorem joins_inv (i : Nat) (hi : i < 16) : (after start (joins i)).here = no16 ∧ (after start (joins i)).phase = 0 ∧ (after start (joins i)).inn.length = 16 ∧ ∀ q, q < 16 → (after start (joins i)).inn.getD q false = decide (q ≤ i) := by
  induction i with
  | zero =>
    refine ⟨rfl, rfl, rfl, ?_⟩
    have : ∀ q : Fin 16, start.inn.getD q.val false = decide (q.val ≤ 0) := by decide
    intro q hq
    exact this ⟨q, hq⟩
  | succ i ih =>
    obtain ⟨h1, h2, h3, h4⟩ := ih (by omega)
    rw [joins_succ, after_append, after_one]
    revert h1 h2 h3 h4
    generalize after start (joins i) = p
    intro h1 h2 h3 h4
    have hk0 : known 0 = true := by decide
    have hk1 : known ((i : Int) + 1) = true := known_iff.2 ⟨by omega, by omega⟩
    have hf : free p 0 = 0 := by
      unfold free at_
      rw [h1, getD_no16, hk0, show (0 : Int).toNat = 0 from rfl, h4 0 (by omega)]
      simp
    have hnot : at_ p.inn ((i : Int) + 1) = false := by
      unfold at_
      rw [show ((i : Int) + 1).toNat = i + 1 by omega, h4 (i + 1) hi]
      simp
    have he : err p ⟨1, (i : Int) + 1, 0⟩ = 0 := by simp [err, who, hf, hnot, hk1]
    have hg : good p ⟨1, (i : Int) + 1, 0⟩ = true := (good_iff _ _).2 ⟨by simp, by simp, he⟩
    have hn : next p ⟨1, (i : Int) + 1, 0⟩ = { p with inn := p.inn.set (i + 1) true } := by
      simp [next, hg, act, show ((i : Int) + 1).toNat = i + 1 by omega]
    rw [hn]
    refine ⟨h1, h2, by simpa using h3, fun q hq => ?_⟩
    by_cases hqi : q = i + 1
    · subst hqi
      rw [getD_set_eq _ _ _ (by rw [h3]; omega)]
      simp
    · simp only
      rw [getD_set_ne _ _ _ _ hqi, h4 q hq]
      have e : (q ≤ i + 1) = (q ≤ i) := by rw [eq_iff_iff]; omega
      simp only [e]

theorem many_joins (k : Nat) (p : St) (m : List Int) (j : Nat) : many k p m (joins j) = m := by
  induction j with
  | zero => rfl
  | succ j ih =>
    rw [joins_succ, many_append, ih]
    simp [many, upd]

theorem joins_take (k i : Nat) (h : i ≤ k) : (joins k).take i = joins i := by
  unfold joins
  rw [← List.map_take, List.take_range, Nat.min_eq_left h]

def zeros (k : Nat) : List Int := List.replicate (k + 1) 0

theorem arrive_inv (k : Nat) (hk : k < 16) (ops : List Op) (ho : ∀ o ∈ ops, o.kind ≠ 3) : Inv k (after start (joins k ++ ops)) (many k start (zeros k) (joins k ++ ops)) := by
  have key : ∀ (l : List Op) (p : St) (m : List Int), (∀ o ∈ l, o.kind ≠ 3) → Ok p → Inv k p m → Inv k (after p l) (many k p m l) := by
    intro l
    induction l with
    | nil => intro p m _ _ h; exact h
    | cons o l ih => intro p m hl hp h; exact ih _ _ (fun x hx => hl x (by simp [hx])) (next_ok hp o) (inv_step hk hp h o (hl o (by simp)))
  rw [after_append, many_append, many_joins]
  refine key ops _ _ ho (after_ok ok_start _) ?_
  obtain ⟨h1, h2, _, h4⟩ := joins_inv k hk
  refine ⟨by simp [zeros], fun q hq => ⟨by rw [h4 q (by omega)]; simpa using hq, ?_⟩⟩
  rw [h1, h2, getD_no16]
  simp [zeros, List.getD, show q < k + 1 by omega]

/-- behind each step: no count is more than one beyond another, and no phase that is told beyond any -/
theorem arrive_law (k : Nat) (hk : k < 16) (ops : List Op) (ho : ∀ o ∈ ops, o.kind ≠ 3) (i : Nat) (hi : i < (joins k ++ ops).length) :
    ∃ f : Int, (ans (after start ((joins k ++ ops).take i)) (joins k ++ ops)[i]).2 ≤ f ∧ ∀ x ∈ many k start (zeros k) ((joins k ++ ops).take (i + 1)), f ≤ x ∧ x ≤ f + 1 := by
  refine ⟨(after start ((joins k ++ ops).take (i + 1))).phase, ?_, ?_⟩
  · rw [after_take _ _ hi]
    exact (ans_phase _ _ (after_phase start _).1).2
  · by_cases h : i + 1 ≤ k
    · have e : (joins k ++ ops).take (i + 1) = joins (i + 1) := by
        rw [List.take_append_of_le_length (by simp [joins]; omega), joins_take _ _ h]
      rw [e, many_joins, (joins_inv (i + 1) (by omega)).2.1]
      intro x hx
      rw [(List.mem_replicate.1 hx).2]
      omega
    · have hl : (joins k).length = k := by simp [joins]
      have e : (joins k ++ ops).take (i + 1) = joins k ++ ops.take (i + 1 - k) := by
        rw [List.take_append, hl, List.take_of_length_le (by omega)]
      rw [e]
      exact inv_bound (arrive_inv k hk _ (fun o h' => ho o (List.mem_of_mem_take h')))

theorem many_length (k : Nat) (p : St) (m : List Int) (ops : List Op) : (many k p m ops).length = m.length := by
  induction ops generalizing p m with
  | nil => rfl
  | cons o ops ih =>
    rw [many, ih]
    unfold upd
    split <;> simp
end Go.Proofs.Ytphbegadddamgaa.Pha
