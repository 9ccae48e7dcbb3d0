/-
  Expressions: the laws, in plain Lean.
-/
import Derived.Test.YtniekhedpdkmiaaEx24
namespace Go.Proofs.Ytniekhedpdkmiaa.Ex
set_option linter.unusedVariables false
set_option linter.unusedSimpArgs false
open Go Go.RowKit

/-! ### folding -/
theorem fcb_cases (k : Int) (a b : X) : (∃ x y, a = .num x ∧ b = .num y ∧ fcb k a b = .num (doo k x y)) ∨ (((∀ n, a ≠ .num n) ∨ (∀ n, b ≠ .num n)) ∧ fcb k a b = .two k a b) := by
  cases a <;> cases b <;> simp [fcb]
theorem fold_two (k : Int) (a b : X) : fold (.two k a b) = fcb k (fold a) (fold b) := rfl
theorem evl_fold (env : List (Bs × Int)) : ∀ e : X, evl env (fold e) = evl env e
  | .num n => rfl
  | .name s => rfl
  | .bad => rfl
  | .two k a b => by
    have ha := evl_fold env a
    have hb := evl_fold env b
    rw [fold_two]
    rcases fcb_cases k (fold a) (fold b) with ⟨x, y, h1, h2, h⟩ | ⟨-, h⟩
    · rw [h]
      rw [h1] at ha
      rw [h2] at hb
      simp only [evl] at ha hb ⊢
      rw [ha, hb]
    · rw [h]
      simp only [evl]
      rw [ha, hb]
theorem fold_fold : ∀ e : X, fold (fold e) = fold e
  | .num n => rfl
  | .name s => rfl
  | .bad => rfl
  | .two k a b => by
    have ha := fold_fold a
    have hb := fold_fold b
    rw [fold_two]
    rcases fcb_cases k (fold a) (fold b) with ⟨x, y, h1, h2, h⟩ | ⟨hn, h⟩
    · rw [h]; rfl
    · rw [h, fold_two, ha, hb, h]
theorem names_fold : ∀ (e : X) (acc : List ByteArray), names acc (fold e) = names acc e
  | .num n, _ => rfl
  | .name s, _ => rfl
  | .bad, _ => rfl
  | .two k a b, acc => by
    have ha := names_fold a
    have hb := names_fold b
    rw [fold_two]
    rcases fcb_cases k (fold a) (fold b) with ⟨x, y, h1, h2, h⟩ | ⟨hn, h⟩
    · rw [h]
      simp only [names]
      rw [← hb, ← ha, h1, h2]
      rfl
    · rw [h]
      simp only [names]
      rw [ha, hb]
theorem names_grow : ∀ (e : X) (acc : List ByteArray), acc ≠ [] → names acc e ≠ []
  | .num n, _, h => h
  | .bad, _, h => h
  | .name s, acc, h => by
    unfold names
    split
    · exact h
    · simp
  | .two k a b, acc, h => names_grow b _ (names_grow a _ h)
theorem fold_named : ∀ e : X, (∃ n, fold e = .num n) ∨ ((∀ n, fold e ≠ .num n) ∧ ∀ acc, names acc (fold e) ≠ [])
  | .num n => .inl ⟨n, rfl⟩
  | .bad => .inl ⟨0, rfl⟩
  | .name s => by
    refine .inr ⟨fun n h => (by cases h), fun acc => ?_⟩
    show names acc (.name s) ≠ []
    unfold names
    split
    · rename_i h
      intro h0
      rw [h0] at h
      simp [has] at h
    · simp
  | .two k a b => by
    rw [fold_two]
    rcases fcb_cases k (fold a) (fold b) with ⟨x, y, h1, h2, h⟩ | ⟨hn, h⟩
    · exact .inl ⟨_, h⟩
    · rw [h]
      refine .inr ⟨fun n h => (by cases h), fun acc => ?_⟩
      rcases hn with hn | hn
      · rcases fold_named a with ⟨n, h1⟩ | ⟨-, h1⟩
        · exact absurd h1 (hn n)
        · exact names_grow (fold b) (names acc (fold a)) (h1 acc)
      · rcases fold_named b with ⟨n, h1⟩ | ⟨-, h1⟩
        · exact absurd h1 (hn n)
        · exact h1 _
theorem fold_leaves : ∀ e : X, (fold e).leaves ≤ e.leaves
  | .num n => Nat.le_refl _
  | .name s => Nat.le_refl _
  | .bad => Nat.le_refl _
  | .two k a b => by
    have ha := fold_leaves a
    have hb := fold_leaves b
    rw [fold_two]
    rcases fcb_cases k (fold a) (fold b) with ⟨x, y, h1, h2, h⟩ | ⟨hn, h⟩
    · rw [h]
      have := a.leaves_pos
      have := b.leaves_pos
      simp only [X.leaves]; omega
    · rw [h]
      simp only [X.leaves]; omega

/-! ### putting -/
theorem evl_copy (env : List (Bs × Int)) : ∀ e : X, evl env (copy e) = evl env e
  | .num n => rfl
  | .name s => rfl
  | .bad => rfl
  | .two k a b => by
    show doo k (evl env (copy a)) (evl env (copy b)) = _
    rw [evl_copy env a, evl_copy env b]
    rfl
theorem putl_name (t : Bs) (y : X) (s : Bs) : putl t y (.name s) = if (s == t) = true then copy y else .name s := rfl
theorem put_two (t : Bs) (y : X) (k : Int) (a b : X) : put t y (.two k a b) = .two k (put t y a) (put t y b) := rfl
theorem evl_put (env : List (Bs × Int)) (t : Bs) (y : X) : ∀ e : X, evl env (put t y e) = evl (env ++ [(t, evl env y)]) e
  | .num n => rfl
  | .bad => rfl
  | .name s => by
    show evl env (putl t y (.name s)) = look s (env ++ [(t, evl env y)])
    rw [look_snoc]
    rw [putl_name]
    by_cases h : (s == t) = true
    · have h' : ((t, evl env y).1 == s) = true := by simp at h ⊢; exact h.symm
      rw [if_pos h, if_pos h', evl_copy]
    · have h' : ¬ ((t, evl env y).1 == s) = true := by simp at h ⊢; exact fun e => h e.symm
      rw [if_neg h, if_neg h']
      rfl
  | .two k a b => by
    rw [put_two]
    simp only [evl]
    rw [evl_put env t y a, evl_put env t y b]

/-! ### what does not occur -/
theorem has_names (s : ByteArray) : ∀ (e : X) (acc : List ByteArray), has s acc = true → has s (names acc e) = true
  | .num n, _, h => h
  | .bad, _, h => h
  | .name x, acc, h => by
    unfold names
    split
    · exact h
    · unfold has at *
      rw [List.any_append, h]
      rfl
  | .two k a b, acc, h => has_names s b _ (has_names s a _ h)
def occ (s : Bs) : X → Bool
  | .name x => x == s
  | .two _ a b => occ s a || occ s b
  | _ => false
theorem ba_beq (s : ByteArray) (x : Bs) : (s.toList == (ba x).toList) = (x == s.data.toList) := by
  rw [ByteArray.toList_eq, ByteArray.toList_eq, Bool.eq_iff_iff]
  simp only [beq_iff_eq, ba]
  exact eq_comm
theorem has_occ (s : ByteArray) : ∀ (e : X) (acc : List ByteArray), has s (names acc e) = (has s acc || occ s.data.toList e)
  | .num n, _ => by simp [names, occ]
  | .bad, _ => by simp [names, occ]
  | .name x, acc => by
    unfold names occ
    by_cases h : has (ba x) acc = true
    · rw [if_pos h]
      by_cases hx : (x == s.data.toList) = true
      · have : ba x = s := by
          have : x = s.data.toList := by simpa using hx
          rw [this, ba_data]
        rw [← this, h]
        rfl
      · rw [show (x == s.data.toList) = false by simpa using hx, Bool.or_false]
    · rw [if_neg h]
      unfold has
      rw [List.any_append, List.any_cons, List.any_nil, Bool.or_false, ba_beq]
  | .two k a b, acc => by
    show has s (names (names acc a) b) = _
    rw [has_occ s b, has_occ s a, occ, Bool.or_assoc]
theorem occ_put (t : Bs) (n : Int) : ∀ e : X, occ t (put t (.num n) e) = false
  | .num _ => rfl
  | .bad => rfl
  | .name s => by
    show occ t (putl t (.num n) (.name s)) = false
    rw [putl_name]
    split
    · rfl
    · rename_i h
      simp [occ] at h ⊢
      exact h
  | .two k a b => by
    rw [put_two, occ, occ_put t n a, occ_put t n b]
    rfl
theorem evl_none (env : List (Bs × Int)) (t : Bs) (v : Int) : ∀ e : X, occ t e = false → evl (env ++ [(t, v)]) e = evl env e
  | .num _, _ => rfl
  | .bad, _ => rfl
  | .name s, h => by
    show look s (env ++ [(t, v)]) = look s env
    rw [look_snoc, if_neg]
    simp [occ] at h ⊢
    exact fun e => h e.symm
  | .two k a b, h => by
    rw [occ, Bool.or_eq_false_iff] at h
    simp only [evl]
    rw [evl_none env t v a h.1, evl_none env t v b h.2]
theorem put_none (t : Bs) (y : X) : ∀ e : X, occ t e = false → put t y e = copy e
  | .num _, _ => rfl
  | .bad, _ => rfl
  | .name s, h => by
    show putl t y (.name s) = .name s
    rw [putl_name]
    rw [if_neg]
    simpa [occ] using h
  | .two k a b, h => by
    rw [occ, Bool.or_eq_false_iff] at h
    rw [put_two, put_none t y a h.1, put_none t y b h.2]
    rfl
theorem put_same (t : Bs) : ∀ e : X, put t (.name t) e = copy e
  | .num _ => rfl
  | .bad => rfl
  | .name s => by
    show putl t (.name t) (.name s) = .name s
    rw [putl_name]
    split
    · rename_i h
      have : s = t := by simpa using h
      rw [this]
      rfl
    · rfl
  | .two k a b => by
    rw [put_two, put_same t a, put_same t b]
    rfl
theorem put_leaves (t : Bs) (n : Int) : ∀ e : X, (put t (.num n) e).leaves = e.leaves
  | .num _ => rfl
  | .bad => rfl
  | .name s => by
    show (putl t (.num n) (.name s)).leaves = 1
    rw [putl_name]
    split <;> rfl
  | .two k a b => by
    rw [put_two, X.leaves, put_leaves t n a, put_leaves t n b, X.leaves]

/-! ### numbers that go round -/
theorem wrap_rng (x : Int) : rng (wrap64 x) := by unfold rng wrap64; omega
theorem wrap_of {x : Int} (h : rng x) : wrap64 x = x := by unfold rng at h; unfold wrap64; omega
theorem wrap_eq {x y : Int} (h : ∃ k : Int, x - y = k * 18446744073709551616) : wrap64 x = wrap64 y := by
  obtain ⟨k, hk⟩ := h
  unfold wrap64
  omega
theorem wrap_dif (x : Int) : ∃ k : Int, wrap64 x = x + k * 18446744073709551616 := by
  refine ⟨-((x + 9223372036854775808) / 18446744073709551616), ?_⟩
  unfold wrap64
  omega
theorem doo3 (a b : Int) : doo 3 a b = wrap64 (a + b) := by simp [doo]
theorem doo4 (a b : Int) : doo 4 a b = wrap64 (a - b) := by simp [doo]
theorem doo5 (a b : Int) : doo 5 a b = wrap64 (a * b) := by simp [doo]
theorem add_comm (a b : Int) : doo 3 a b = doo 3 b a := by rw [doo3, doo3, Int.add_comm]
theorem mul_add (a b c : Int) : doo 5 a (doo 3 b c) = doo 3 (doo 5 a b) (doo 5 a c) := by
  rw [doo5, doo3, doo3, doo5, doo5]
  obtain ⟨k, hk⟩ := wrap_dif (b + c)
  obtain ⟨l, hl⟩ := wrap_dif (a * b)
  obtain ⟨m, hm⟩ := wrap_dif (a * c)
  rw [hk, hl, hm]
  refine wrap_eq ⟨a * k - l - m, ?_⟩
  have e1 : a * (b + c + k * 18446744073709551616) = a * b + a * c + a * k * 18446744073709551616 := by rw [Int.mul_add, Int.mul_add, Int.mul_assoc]
  rw [e1]
  omega
theorem sub_add (a b : Int) (ha : rng a) : doo 4 (doo 3 a b) b = a := by
  rw [doo4, doo3]
  obtain ⟨k, hk⟩ := wrap_dif (a + b)
  rw [hk]
  have : wrap64 (a + b + k * 18446744073709551616 - b) = wrap64 a := wrap_eq ⟨k, by omega⟩
  rw [this, wrap_of ha]
theorem div_mod (a b : Int) (ha : rng a) (hb : (b == 0) = false) : doo 3 (doo 5 (doo 6 a b) b) (doo 7 a b) = a := by
  have h0 : b ≠ 0 := by simpa using hb
  have d6 : doo 6 a b = wrap64 (a.tdiv b) := by simp [doo, h0]
  have d7 : doo 7 a b = a.tmod b := by simp [doo, h0]
  rw [doo3, doo5, d6, d7]
  obtain ⟨k, hk⟩ := wrap_dif (a.tdiv b)
  obtain ⟨l, hl⟩ := wrap_dif ((a.tdiv b + k * 18446744073709551616) * b)
  rw [hk, hl]
  have e : (a.tdiv b + k * 18446744073709551616) * b = a.tdiv b * b + k * b * 18446744073709551616 := by
    rw [Int.add_mul, Int.mul_assoc, Int.mul_comm 18446744073709551616 b, Int.mul_assoc]
  have h := Int.tmod_add_mul_tdiv a b
  rw [Int.mul_comm] at h
  have : wrap64 ((a.tdiv b + k * 18446744073709551616) * b + l * 18446744073709551616 + a.tmod b) = wrap64 a := by
    refine wrap_eq ⟨k * b + l, ?_⟩
    rw [e]
    omega
  rw [this, wrap_of ha]
theorem less_same (a b : Int) : wrap64 (wrap64 (doo 8 a b + doo 8 b a) + doo 9 a b) = 1 := by
  have h8 : ∀ a b : Int, doo 8 a b = if a < b then 1 else 0 := fun a b => by simp [doo]
  have h9 : doo 9 a b = if a = b then 1 else 0 := by simp [doo]
  rw [h8, h8, h9]
  by_cases h1 : a < b
  · rw [if_pos h1, if_neg (by omega), if_neg (by omega)]; decide +kernel
  · by_cases h2 : b < a
    · rw [if_neg h1, if_pos h2, if_neg (by omega)]; decide +kernel
    · rw [if_neg h1, if_neg h2, if_pos (by omega)]; decide +kernel

/-- every number is one of the machine's -/
def ok : X → Prop
  | .num n => rng n
  | .two _ a b => ok a ∧ ok b
  | _ => True
theorem doo_rng' (k a b : Int) (ha : rng a) (hb : rng b) : rng (doo k a b) := doo_rng k a b ha hb
theorem look_rng (s : Bs) : ∀ l : List (Bs × Int), (∀ b ∈ l, rng b.2) → rng (look s l)
  | [], _ => by unfold look rng; omega
  | b :: l, h => by
    unfold look
    split
    · exact look_rng s l fun x hx => h x (List.mem_cons_of_mem _ hx)
    · split
      · exact h b List.mem_cons_self
      · unfold rng; omega
theorem evl_rng (env : List (Bs × Int)) (h : ∀ b ∈ env, rng b.2) : ∀ e : X, ok e → rng (evl env e)
  | .num n, he => he
  | .name s, _ => look_rng s env h
  | .bad, _ => by unfold evl rng; omega
  | .two k a b, he => doo_rng _ _ _ (evl_rng env h a he.1) (evl_rng env h b he.2)
end Go.Proofs.Ytniekhedpdkmiaa.Ex
namespace Go.Proofs.Ytniekhedpdkmiaa
theorem XRN.ok {N : Bool} {B : Nat} {w : World} {cs : List Value} {e : Ex.X} (h : XRN N B w cs e) : Ex.ok e := by
  induction h with
  | num n s A len cap h1 h2 h3 hN => exact h3
  | name n s A len cap h1 h2 hN => trivial
  | bad k n s A len cap h1 h2 h3 h4 h5 hN => trivial
  | two k n s g o len cap cs0 cs1 e0 e1 h1 h2 h3 h4 h5 h6 h7 h8 _ _ hN i0 i1 => exact ⟨i0, i1⟩
end Go.Proofs.Ytniekhedpdkmiaa
