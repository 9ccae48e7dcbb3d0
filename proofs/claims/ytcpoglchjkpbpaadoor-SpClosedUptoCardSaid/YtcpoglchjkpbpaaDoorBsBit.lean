/-
  The numbers of a set, as a predicate: in plain Lean.
-/
import Derived.Test.YtcpoglchjkpbpaaDoorBs9
import Derived.Test.YtcpoglchjkpbpaaDoorBsPl
import Derived.Test.YtcpoglchjkpbpaaDoorBsLs
namespace Go.Proofs.YtcpoglchjkpbpaaDoor.Bs
set_option linter.unusedVariables false
set_option linter.unusedSimpArgs false
set_option maxRecDepth 100000

/-- has n -/
def bit (s : List Nat) (n : Nat) : Bool := (at_ s (n / 64)).testBit (n % 64)
theorem mem_ls : ∀ (s : List Nat) (k n : Nat), Ws s → (n ∈ ls k s ↔ 64 * k ≤ n ∧ (at_ s (n / 64 - k)).testBit (n % 64) = true)
  | [], k, n, _ => by simp [ls, at_nil]
  | x :: r, k, n, h => by
    have hx := h x List.mem_cons_self
    have hr : Ws r := fun y hy => h y (List.mem_cons_of_mem _ hy)
    rw [ls, List.mem_append, mem_ls r (k + 1) n hr, List.mem_map]
    constructor
    · rintro (⟨j, hj, rfl⟩ | ⟨h1, h2⟩)
      · have hj64 := bl_lt64 hx hj
        have hb := (mem_bl x x (Nat.le_refl _) hx j).1 hj
        refine ⟨by omega, ?_⟩
        rw [show (64 * k + j) / 64 - k = 0 by omega, show (64 * k + j) % 64 = j by omega]
        exact hb
      · refine ⟨by omega, ?_⟩
        obtain ⟨m, hm⟩ : ∃ m, n / 64 - k = m + 1 := ⟨n / 64 - k - 1, by omega⟩
        rw [hm]
        rw [show n / 64 - (k + 1) = m by omega] at h2
        exact h2
    · rintro ⟨h1, h2⟩
      by_cases hk : n / 64 - k = 0
      · left
        rw [hk] at h2
        refine ⟨n % 64, (mem_bl x x (Nat.le_refl _) hx _).2 h2, by omega⟩
      · right
        obtain ⟨m, hm⟩ : ∃ m, n / 64 - k = m + 1 := ⟨n / 64 - k - 1, by omega⟩
        rw [hm] at h2
        refine ⟨by omega, ?_⟩
        rw [show n / 64 - (k + 1) = m by omega]
        exact h2
theorem mem_list {s : List Nat} (h : Ws s) (n : Nat) : n ∈ ls 0 s ↔ bit s n = true := by
  rw [mem_ls s 0 n h]
  unfold bit
  simp
theorem ls_rise : ∀ (s : List Nat) (k : Nat), Ws s → (ls k s).Pairwise (· < ·)
  | [], k, _ => List.Pairwise.nil
  | x :: r, k, h => by
    have hx := h x List.mem_cons_self
    have hr : Ws r := fun y hy => h y (List.mem_cons_of_mem _ hy)
    rw [ls, List.pairwise_append]
    refine ⟨?_, ls_rise r (k + 1) hr, fun a ha b hb => ?_⟩
    · rw [List.pairwise_map]
      exact (bl_rise x x (Nat.le_refl _) hx).imp (fun h => by omega)
    · obtain ⟨j, hj, rfl⟩ := List.mem_map.1 ha
      have := bl_lt64 hx hj
      have := ((mem_ls r (k + 1) b hr).1 hb).1
      omega
theorem bit_put (s : List Nat) (n m : Nat) : bit (put s n) m = (bit s m || m == n) := by
  unfold bit
  rw [at_put]
  split
  · rename_i h
    rw [Nat.testBit_or, Nat.testBit_two_pow]
    congr 1
    rw [Bool.eq_iff_iff]
    simp
    omega
  · rename_i h
    have : (m == n) = false := by simp; intro e; rw [e] at h; exact h rfl
    rw [this, Bool.or_false]
theorem ws_put {s : List Nat} (h : Ws s) (n : Nat) : Ws (put s n) := fun x hx => by
  have h64 : 2 ^ (n % 64) < 18446744073709551616 := Nat.pow_lt_pow_right (by decide) (show n % 64 < 64 from Nat.mod_lt _ (by decide))
  unfold put at hx
  rcases List.mem_or_eq_of_mem_set hx with hx | rfl
  · rcases List.mem_append.1 hx with hx | hx
    · exact h x hx
    · rw [(List.mem_replicate.1 hx).2]; decide
  · exact Nat.or_lt_two_pow (n := 64) (h.at_ _) h64
theorem tr_iff (l : List Nat) : Tr l ↔ l = [] ∨ at_ l (l.length - 1) ≠ 0 := by
  rcases List.eq_nil_or_concat l with rfl | ⟨a, x, rfl⟩
  · exact ⟨fun _ => .inl rfl, fun _ => rfl⟩
  · rw [List.concat_eq_append]
    have e : at_ (a ++ [x]) ((a ++ [x]).length - 1) = x := by
      unfold at_
      rw [List.length_append, List.length_singleton, Nat.add_sub_cancel, List.getD_eq_getElem?_getD, List.getElem?_append_right (Nat.le_refl _), Nat.sub_self]
      rfl
    rw [e]
    constructor
    · intro h
      right
      rintro rfl
      unfold Tr at h
      rw [trim_snoc_zero] at h
      have := trim_length a
      rw [h, List.length_append] at this
      simp at this
      omega
    · rintro (h | h)
      · simp at h
      · exact trim_snoc a x h
theorem tr_put {s : List Nat} (h : Tr s) (n : Nat) : Tr (put s n) := by
  rw [tr_iff]
  right
  rw [put_length, at_put]
  have hp : at_ s (n / 64) ||| 2 ^ (n % 64) ≠ 0 := fun e => by
    have := congrArg (fun x => Nat.testBit x (n % 64)) e
    simp at this
  split
  · rename_i e
    rw [← e]
    exact hp
  · rename_i e
    rcases (tr_iff s).1 h with rfl | h
    · simp at e
    · rw [show max s.length (n / 64 + 1) = s.length by omega]
      exact h
theorem of_facts : ∀ l : List Int, Ws (of_ l) ∧ Tr (of_ l) ∧ ∀ n, bit (of_ l) n = true ↔ ∃ x ∈ l, 0 ≤ x ∧ x ≤ 65535 ∧ x.toNat = n := by
  have key : ∀ (l : List Int) (s : List Nat), Ws s → Tr s → Ws (l.foldl add s) ∧ Tr (l.foldl add s) ∧ ∀ n, bit (l.foldl add s) n = true ↔ (bit s n = true ∨ ∃ x ∈ l, 0 ≤ x ∧ x ≤ 65535 ∧ x.toNat = n) := by
    intro l
    induction l with
    | nil => exact fun s h1 h2 => ⟨h1, h2, fun n => by simp⟩
    | cons x l ih =>
      intro s h1 h2
      have g : Ws (add s x) ∧ Tr (add s x) ∧ ∀ n, bit (add s x) n = true ↔ (bit s n = true ∨ (0 ≤ x ∧ x ≤ 65535 ∧ x.toNat = n)) := by
        unfold add
        split
        · rename_i h
          exact ⟨h1, h2, fun n => ⟨.inl, fun h' => h'.elim id (fun h' => by omega)⟩⟩
        · rename_i h
          refine ⟨ws_put h1 _, tr_put h2 _, fun n => ?_⟩
          rw [bit_put, Bool.or_eq_true, beq_iff_eq]
          exact or_congr Iff.rfl ⟨fun e => ⟨by omega, by omega, e.symm⟩, fun e => e.2.2.symm⟩
      obtain ⟨g1, g2, g3⟩ := g
      obtain ⟨i1, i2, i3⟩ := ih (add s x) g1 g2
      refine ⟨i1, i2, fun n => ?_⟩
      show bit (l.foldl add (add s x)) n = true ↔ _
      rw [i3, g3, or_assoc]
      refine or_congr Iff.rfl ⟨?_, ?_⟩
      · rintro (h | ⟨y, hy, h⟩)
        · exact ⟨x, List.mem_cons_self, h⟩
        · exact ⟨y, List.mem_cons_of_mem _ hy, h⟩
      · rintro ⟨y, hy, h⟩
        rcases List.mem_cons.1 hy with rfl | hy
        · exact .inl h
        · exact .inr ⟨y, hy, h⟩
  intro l
  obtain ⟨h1, h2, h3⟩ := key l [] ws_nil rfl
  exact ⟨h1, h2, fun n => by
    show bit (l.foldl add []) n = true ↔ _
    rw [h3]
    have : bit [] n = false := by simp [bit, at_nil]
    rw [this]
    simp⟩
end Go.Proofs.YtcpoglchjkpbpaaDoor.Bs
