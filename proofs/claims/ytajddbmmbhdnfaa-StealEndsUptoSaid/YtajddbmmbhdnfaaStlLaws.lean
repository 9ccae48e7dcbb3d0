/-
  Workers who steal from each other: the laws. Each leaf is done once, behind those ahead of it; who is alone goes from left to right; all is done at last.
-/
import Derived.Test.YtajddbmmbhdnfaaStlRep
import Derived.Test.YtajddbmmbhdnfaaSpMark
namespace Go.Proofs.Ytajddbmmbhdnfaa.Stl
set_option linter.unusedVariables false
set_option linter.unusedSimpArgs false
set_option maxRecDepth 100000
open Sp

/-! ### which leaves are done -/
def LD : T → S → Nat → Nat → Prop
  | .nil, _, _, _ => False
  | .one _ _ _, s, m, j => s = .done ∧ j = m
  | .two _ l r, s, m, j => LD l s.sl m j ∨ LD r s.sr (m + l.size) j
def dn : T → S → Nat
  | .nil, _ => 0
  | .one _ _ _, s => if s = .done then 1 else 0
  | .two _ l r, s => dn l s.sl + dn r s.sr

theorem LD_done : ∀ (t : T) (m j : Nat), LD t .done m j ↔ m ≤ j ∧ j < m + t.size
  | .nil, m, j => by simp [LD, T.size, T.leaves]
  | .one _ _ _, m, j => by simp [LD, T.size, T.leaves]; omega
  | .two p l r, m, j => by
    show (LD l .done m j ∨ LD r .done (m + l.size) j) ↔ _
    rw [LD_done l, LD_done r, T.size_two]
    omega
theorem LD_fresh : ∀ (t : T) (m j : Nat), ¬ LD t .fresh m j
  | .nil, _, _, h => h
  | .one _ _ _, _, _, h => by cases h.1
  | .two p l r, m, j, h => h.elim (LD_fresh l _ _) (LD_fresh r _ _)
theorem dn_done : ∀ t : T, dn t .done = t.size
  | .nil => rfl
  | .one _ _ _ => rfl
  | .two p l r => by show dn l .done + dn r .done = _; rw [dn_done l, dn_done r, T.size_two]
theorem dn_fresh : ∀ t : T, dn t .fresh = 0
  | .nil => rfl
  | .one _ _ _ => rfl
  | .two p l r => by show dn l .fresh + dn r .fresh = _; rw [dn_fresh l, dn_fresh r]
theorem start_size (w : Nat) : ∀ t : T, start w t = .done → t.size = 0
  | .nil, _ => rfl
  | .one _ _ _, h => by cases h
  | .two false l r, h => by
    rw [start_seq] at h
    split at h
    · rename_i h1
      split at h
      · rename_i h2
        rw [T.size_two, start_size w l h1, start_size w r h2]
      · cases h
    · cases h
  | .two true l r, h => by
    rw [start_par] at h
    split at h
    · rename_i h1
      split at h
      · rename_i h2
        rw [T.size_two, start_size w l h1, start_size w r h2]
      · cases h
    · cases h
theorem start_no (w : Nat) : ∀ (t : T), (∀ m j, ¬ LD t (start w t) m j) ∧ dn t (start w t) = 0
  | .nil => ⟨fun _ _ h => h, rfl⟩
  | .one _ _ _ => ⟨fun _ _ h => absurd (And.left h) (by simp [start]), by simp [start, dn]⟩
  | .two false l r => by
    obtain ⟨l1, l2⟩ := start_no w l
    obtain ⟨r1, r2⟩ := start_no w r
    have hl : start w l = .done → (∀ m j, ¬ LD l .done m j) ∧ dn l .done = 0 := fun e => by
      have := start_size w l e
      exact ⟨fun m j h => by rw [LD_done] at h; omega, by rw [dn_done]; exact this⟩
    have hr : start w r = .done → (∀ m j, ¬ LD r .done m j) ∧ dn r .done = 0 := fun e => by
      have := start_size w r e
      exact ⟨fun m j h => by rw [LD_done] at h; omega, by rw [dn_done]; exact this⟩
    rw [start_seq]
    split
    · rename_i e
      obtain ⟨a1, a2⟩ := hl e
      split
      · rename_i e'
        obtain ⟨b1, b2⟩ := hr e'
        exact ⟨fun m j h => h.elim (a1 _ _) (b1 _ _), by show dn l .done + dn r .done = 0; omega⟩
      · exact ⟨fun m j h => h.elim (a1 _ _) (r1 _ _), by show dn l .done + dn r (start w r) = 0; omega⟩
    · exact ⟨fun m j h => h.elim (l1 _ _) (LD_fresh r _ _), by show dn l (start w l) + dn r .fresh = 0; rw [dn_fresh]; omega⟩
  | .two true l r => by
    obtain ⟨l1, l2⟩ := start_no w l
    obtain ⟨r1, r2⟩ := start_no w r
    have hl : start w l = .done → (∀ m j, ¬ LD l .done m j) ∧ dn l .done = 0 := fun e => by
      have := start_size w l e
      exact ⟨fun m j h => by rw [LD_done] at h; omega, by rw [dn_done]; exact this⟩
    have hr : start w r = .done → (∀ m j, ¬ LD r .done m j) ∧ dn r .done = 0 := fun e => by
      have := start_size w r e
      exact ⟨fun m j h => by rw [LD_done] at h; omega, by rw [dn_done]; exact this⟩
    rw [start_par]
    split
    · rename_i e
      obtain ⟨a1, a2⟩ := hl e
      split
      · rename_i e'
        obtain ⟨b1, b2⟩ := hr e'
        exact ⟨fun m j h => h.elim (a1 _ _) (b1 _ _), by show dn l .done + dn r .done = 0; omega⟩
      · exact ⟨fun m j h => h.elim (a1 _ _) (r1 _ _), by show dn l .done + dn r (start w r) = 0; omega⟩
    · exact ⟨fun m j h => h.elim (l1 _ _) (LD_fresh r _ _), by show dn l (start w l) + dn r .fresh = 0; rw [dn_fresh]; omega⟩

theorem LD_lt : ∀ (t : T) (s : S) (m j : Nat), LD t s m j → m ≤ j ∧ j < m + t.size
  | .nil, _, _, _, h => h.elim
  | .one _ _ _, s, m, j, h => by obtain ⟨_, rfl⟩ := h; simp [T.size, T.leaves]
  | .two p l r, s, m, j, h => by
    rw [T.size_two]
    rcases h with h | h
    · have := LD_lt l _ _ _ h; omega
    · have := LD_lt r _ _ _ h; omega
theorem dn_le : ∀ (t : T) (s : S), dn t s ≤ t.size
  | .nil, _ => Nat.le_refl _
  | .one _ _ _, s => by unfold dn; split <;> simp [T.size, T.leaves]
  | .two p l r, s => by
    rw [T.size_two]
    have := dn_le l s.sl
    have := dn_le r s.sr
    unfold dn; omega

/-- what a worker's doing his leaf does -/
structure Does (w : Nat) (t : T) (s : S) : Prop where
  ld : ∀ m j, LD t (fin w t s) m j ↔ LD t s m j ∨ j = leafOf t s m w
  new : ∀ m, ¬ LD t s m (leafOf t s m w)
  lt : ∀ m, m ≤ leafOf t s m w ∧ leafOf t s m w < m + t.size
  dn : dn t (fin w t s) = dn t s + 1
  main : s.main = some w → ∀ m, leafOf t s m w = m + Stl.dn t s
  ahead : ∀ m j, (LD t s m j ∨ j = leafOf t s m w) → ∀ i, m ≤ i → t.bf (i - m) (j - m) → LD t s m i

theorem rk_l {p : Bool} {l r : T} {i : Nat} (hi : i < l.size) : (T.two p l r).rk i = l.rk i + (if p then r.size else 0) := by rw [T.rk, if_pos hi]
theorem rk_r {p : Bool} {l r : T} {i : Nat} (hi : l.size ≤ i) : (T.two p l r).rk i = r.rk (i - l.size) + (if p then 0 else l.size) := by rw [T.rk, if_neg (by omega)]
theorem bf_ll {p : Bool} {l r : T} {i j : Nat} (hi : i < l.size) (hj : j < l.size) (h : (T.two p l r).bf i j) : l.bf i j := by
  obtain ⟨h1, h2⟩ := h
  rw [rk_l hi, rk_l hj] at h2
  exact ⟨h1, by omega⟩
theorem bf_rr {p : Bool} {l r : T} {i j : Nat} (hi : l.size ≤ i) (hj : l.size ≤ j) (h : (T.two p l r).bf i j) : r.bf (i - l.size) (j - l.size) := by
  obtain ⟨h1, h2⟩ := h
  rw [rk_r hi, rk_r hj] at h2
  exact ⟨by omega, by omega⟩
theorem bf_lr {l r : T} {i j : Nat} (hi : i < l.size) (hj : l.size ≤ j) (hj2 : j - l.size < r.size) : ¬ (T.two true l r).bf i j := by
  rintro ⟨h1, h2⟩
  rw [rk_l hi, rk_r hj] at h2
  have := r.rk_lt _ hj2
  simp at h2
  omega
theorem bf_lt {t : T} {i j : Nat} (h : t.bf i j) : i < j := h.1

theorem does (w : Nat) : ∀ (t : T) (s : S), Act t s → w ∈ s.ws → s.ws.Nodup → Does w t s
  | .nil, s, h, _, _ => h.elim
  | .one c b lb, s, h, hw, _ => by
    cases s with
    | «at» u =>
      refine ⟨fun m j => ?_, fun m h => ?_, fun m => ?_, rfl, fun _ m => rfl, fun m j hj i hi hb => ?_⟩
      · show (S.done = S.done ∧ j = m) ↔ (S.at u = S.done ∧ j = m) ∨ j = m
        simp
      · exact absurd (And.left h) (by simp)
      · show m ≤ m ∧ m < m + 1
        omega
      · have : j = m := by
          rcases hj with h | h
          · exact absurd (And.left h) (by simp)
          · exact h
        have := bf_lt hb
        omega
    | _ => exact h.elim
  | .two false l r, s, h, hw, hd => by
    cases s with
    | seqL s =>
      obtain ⟨f1, f2, f3, f4, f5, f6⟩ := does w l s h hw hd
      have e0 : ∀ m, leafOf (.two false l r) (.seqL s) m w = leafOf l s m w := fun _ => rfl
      have e1 : ∀ m j, LD (.two false l r) (.seqL s) m j ↔ LD l s m j := fun m j => by
        show (LD l s m j ∨ LD r .fresh (m + l.size) j) ↔ _
        simp [LD_fresh]
      have e2 : dn (.two false l r) (.seqL s) = dn l s := by show dn l s + dn r .fresh = _; rw [dn_fresh, Nat.add_zero]
      have hfin : ∀ m j, LD (.two false l r) (fin w (.two false l r) (.seqL s)) m j ↔ LD l (fin w l s) m j := fun m j => by
        by_cases e : fin w l s = .done
        · by_cases er : start w r = .done
          · have hz := start_size w r er
            rw [show fin w (.two false l r) (.seqL s) = .done by simp [fin, e, er], e]
            show (LD l .done m j ∨ LD r .done (m + l.size) j) ↔ _
            rw [LD_done r]
            constructor
            · rintro (h | h)
              · exact h
              · omega
            · exact .inl
          · rw [show fin w (.two false l r) (.seqL s) = .seqR (start w r) by simp [fin, e, er], e]
            show (LD l .done m j ∨ LD r (start w r) (m + l.size) j) ↔ _
            simp [(start_no w r).1]
        · rw [show fin w (.two false l r) (.seqL s) = .seqL (fin w l s) by simp [fin, e]]
          show (LD l (fin w l s) m j ∨ LD r .fresh (m + l.size) j) ↔ _
          simp [LD_fresh]
      have hdn : dn (.two false l r) (fin w (.two false l r) (.seqL s)) = dn l (fin w l s) := by
        by_cases e : fin w l s = .done
        · by_cases er : start w r = .done
          · have hz := start_size w r er
            rw [show fin w (.two false l r) (.seqL s) = .done by simp [fin, e, er], e]
            show dn l .done + dn r .done = _
            rw [dn_done r, hz, Nat.add_zero]
          · rw [show fin w (.two false l r) (.seqL s) = .seqR (start w r) by simp [fin, e, er], e]
            show dn l .done + dn r (start w r) = _
            rw [(start_no w r).2, Nat.add_zero]
        · rw [show fin w (.two false l r) (.seqL s) = .seqL (fin w l s) by simp [fin, e]]
          show dn l (fin w l s) + dn r .fresh = _
          rw [dn_fresh, Nat.add_zero]
      refine ⟨fun m j => by rw [hfin, e0, e1]; exact f1 m j, fun m => by rw [e0, e1]; exact f2 m, fun m => by rw [e0, T.size_two]; have := f3 m; omega, by rw [hdn, e2]; exact f4, fun hm m => by rw [e0, e2]; exact f5 hm m, fun m j hj i hi hb => ?_⟩
      rw [e0, e1] at hj
      rw [e1]
      have hjl : j < m + l.size ∧ m ≤ j := by
        rcases hj with hj | hj
        · have := LD_lt l s m j hj; omega
        · have := f3 m; omega
      have := bf_lt hb
      exact f6 m j hj i hi (bf_ll (by omega) (by omega) hb)
    | seqR s =>
      obtain ⟨f1, f2, f3, f4, f5, f6⟩ := does w r s h hw hd
      have e0 : ∀ m, leafOf (.two false l r) (.seqR s) m w = leafOf r s (m + l.size) w := fun _ => rfl
      have e1 : ∀ m j, LD (.two false l r) (.seqR s) m j ↔ (m ≤ j ∧ j < m + l.size) ∨ LD r s (m + l.size) j := fun m j => by
        show (LD l .done m j ∨ LD r s (m + l.size) j) ↔ _
        rw [LD_done]
      have e2 : dn (.two false l r) (.seqR s) = l.size + dn r s := by show dn l .done + dn r s = _; rw [dn_done]
      have hfin : ∀ m j, LD (.two false l r) (fin w (.two false l r) (.seqR s)) m j ↔ (m ≤ j ∧ j < m + l.size) ∨ LD r (fin w r s) (m + l.size) j := fun m j => by
        by_cases e : fin w r s = .done
        · rw [show fin w (.two false l r) (.seqR s) = .done by simp [fin, e], e]
          show (LD l .done m j ∨ LD r .done (m + l.size) j) ↔ _
          rw [LD_done l]
        · rw [show fin w (.two false l r) (.seqR s) = .seqR (fin w r s) by simp [fin, e]]
          show (LD l .done m j ∨ LD r (fin w r s) (m + l.size) j) ↔ _
          rw [LD_done l]
      have hdn : dn (.two false l r) (fin w (.two false l r) (.seqR s)) = l.size + dn r (fin w r s) := by
        by_cases e : fin w r s = .done
        · rw [show fin w (.two false l r) (.seqR s) = .done by simp [fin, e], e]
          show dn l .done + dn r .done = _
          rw [dn_done l]
        · rw [show fin w (.two false l r) (.seqR s) = .seqR (fin w r s) by simp [fin, e]]
          show dn l .done + dn r (fin w r s) = _
          rw [dn_done l]
      refine ⟨fun m j => by rw [hfin, e0, e1, f1 (m + l.size) j, or_assoc], fun m h => ?_, fun m => by rw [e0, T.size_two]; have := f3 (m + l.size); omega, by rw [hdn, e2, f4]; omega, fun hm m => by rw [e0, e2, f5 hm (m + l.size)]; omega, fun m j hj i hi hb => ?_⟩
      · rw [e0, e1] at h
        rcases h with h | h
        · have := f3 (m + l.size); omega
        · exact f2 _ h
      · rw [e0, e1, or_assoc] at hj
        rw [e1]
        by_cases hil : i < m + l.size
        · exact .inl ⟨hi, hil⟩
        · refine .inr ?_
          have hlt := bf_lt hb
          have hj' := hj.resolve_left (by omega)
          exact f6 (m + l.size) j hj' i (by omega) (by
            have := bf_rr (by omega) (by omega) hb
            rwa [show i - m - l.size = i - (m + l.size) by omega, show j - m - l.size = j - (m + l.size) by omega] at this)
    | _ => exact h.elim
  | .two true l r, s, h, hw, hd => by
    have sep : ∀ (m i j : Nat), m ≤ i → i < m + l.size → m + l.size ≤ j → j < m + l.size + r.size → ¬ (T.two true l r).bf (i - m) (j - m) := fun m i j h1 h2 h3 h4 => bf_lr (by omega) (by omega) (by omega)
    cases s with
    | parQ s =>
      obtain ⟨f1, f2, f3, f4, f5, f6⟩ := does w l s h.1 hw hd
      have e0 : ∀ m, leafOf (.two true l r) (.parQ s) m w = leafOf l s m w := fun _ => rfl
      have e1 : ∀ m j, LD (.two true l r) (.parQ s) m j ↔ LD l s m j := fun m j => by
        show (LD l s m j ∨ LD r .fresh (m + l.size) j) ↔ _
        simp [LD_fresh]
      have e2 : dn (.two true l r) (.parQ s) = dn l s := by show dn l s + dn r .fresh = _; rw [dn_fresh, Nat.add_zero]
      have hfin : ∀ m j, LD (.two true l r) (fin w (.two true l r) (.parQ s)) m j ↔ LD l (fin w l s) m j := fun m j => by
        by_cases e : fin w l s = .done
        · by_cases er : start w r = .done
          · have hz := start_size w r er
            rw [show fin w (.two true l r) (.parQ s) = .done by simp [fin, e, er], e]
            show (LD l .done m j ∨ LD r .done (m + l.size) j) ↔ _
            rw [LD_done r]
            constructor
            · rintro (h | h)
              · exact h
              · omega
            · exact .inl
          · rw [show fin w (.two true l r) (.parQ s) = .parB .done (start w r) by simp [fin, e, er], e]
            show (LD l .done m j ∨ LD r (start w r) (m + l.size) j) ↔ _
            simp [(start_no w r).1]
        · rw [show fin w (.two true l r) (.parQ s) = .parQ (fin w l s) by simp [fin, e]]
          show (LD l (fin w l s) m j ∨ LD r .fresh (m + l.size) j) ↔ _
          simp [LD_fresh]
      have hdn : dn (.two true l r) (fin w (.two true l r) (.parQ s)) = dn l (fin w l s) := by
        by_cases e : fin w l s = .done
        · by_cases er : start w r = .done
          · have hz := start_size w r er
            rw [show fin w (.two true l r) (.parQ s) = .done by simp [fin, e, er], e]
            show dn l .done + dn r .done = _
            rw [dn_done r, hz, Nat.add_zero]
          · rw [show fin w (.two true l r) (.parQ s) = .parB .done (start w r) by simp [fin, e, er], e]
            show dn l .done + dn r (start w r) = _
            rw [(start_no w r).2, Nat.add_zero]
        · rw [show fin w (.two true l r) (.parQ s) = .parQ (fin w l s) by simp [fin, e]]
          show dn l (fin w l s) + dn r .fresh = _
          rw [dn_fresh, Nat.add_zero]
      refine ⟨fun m j => by rw [hfin, e0, e1]; exact f1 m j, fun m => by rw [e0, e1]; exact f2 m, fun m => by rw [e0, T.size_two]; have := f3 m; omega, by rw [hdn, e2]; exact f4, fun hm m => by rw [e0, e2]; exact f5 hm m, fun m j hj i hi hb => ?_⟩
      rw [e0, e1] at hj
      rw [e1]
      have hjl : j < m + l.size ∧ m ≤ j := by
        rcases hj with hj | hj
        · have := LD_lt l s m j hj; omega
        · have := f3 m; omega
      have := bf_lt hb
      exact f6 m j hj i hi (bf_ll (by omega) (by omega) hb)
    | parB a b =>
      obtain ⟨h1, h2, h3⟩ := h
      obtain ⟨da, db, dab⟩ := nodup_two hd
      have e1 : ∀ (a b : S) (m j : Nat), LD (.two true l r) (.parB a b) m j ↔ LD l a m j ∨ LD r b (m + l.size) j := fun _ _ _ _ => Iff.rfl
      have e1d : ∀ (m j : Nat), LD (.two true l r) .done m j ↔ LD l .done m j ∨ LD r .done (m + l.size) j := fun _ _ => Iff.rfl
      have e2 : ∀ (a b : S), dn (.two true l r) (.parB a b) = dn l a + dn r b := fun _ _ => rfl
      have e2d : dn (.two true l r) .done = dn l .done + dn r .done := rfl
      have hcf : ∀ m, leafOf (.two true l r) (.parB a b) m w = if w ∈ a.ws then leafOf l a m w else leafOf r b (m + l.size) w := fun _ => rfl
      -- what is done of either part, is done as it must
      have cl : ∀ (t : T) (c : S), (c = .done ∨ Act t c) → c.ws.Nodup → (∀ w ∈ c.ws, Does w t c) → ∀ m j, LD t c m j → ∀ i, m ≤ i → t.bf (i - m) (j - m) → LD t c m i := fun t c hc hn hdo m j hj i hi hb => by
        rcases hc with rfl | hc
        · rw [LD_done] at hj ⊢
          have := bf_lt hb
          omega
        · obtain ⟨v, hv⟩ := List.exists_mem_of_ne_nil _ (act_ws t c hc)
          exact (hdo v hv).ahead m j (.inl hj) i hi hb
      have cla := cl l a h1 da (fun v hv => does v l a (h1.resolve_left (fun e => by rw [e] at hv; cases hv)) hv da)
      have clb := cl r b h2 db (fun v hv => does v r b (h2.resolve_left (fun e => by rw [e] at hv; cases hv)) hv db)
      by_cases hwa : w ∈ a.ws
      · have ha : Act l a := h1.resolve_left (fun e => by rw [e] at hwa; cases hwa)
        obtain ⟨f1, f2, f3, f4, f5, f6⟩ := does w l a ha hwa da
        have e0 : ∀ m, leafOf (.two true l r) (.parB a b) m w = leafOf l a m w := fun m => by rw [hcf, if_pos hwa]
        have hfin : ∀ m j, LD (.two true l r) (fin w (.two true l r) (.parB a b)) m j ↔ LD l (fin w l a) m j ∨ LD r b (m + l.size) j := fun m j => by
          by_cases e : fin w l a = .done
          · by_cases eb : b = .done
            · rw [show fin w (.two true l r) (.parB a b) = .done by simp [fin, hwa, e, eb], e, eb]; exact Iff.rfl
            · rw [show fin w (.two true l r) (.parB a b) = .parB .done b by simp [fin, hwa, e, eb], e]; exact Iff.rfl
          · rw [show fin w (.two true l r) (.parB a b) = .parB (fin w l a) b by simp [fin, hwa, e]]; exact Iff.rfl
        have hdn : dn (.two true l r) (fin w (.two true l r) (.parB a b)) = dn l (fin w l a) + dn r b := by
          by_cases e : fin w l a = .done
          · by_cases eb : b = .done
            · rw [show fin w (.two true l r) (.parB a b) = .done by simp [fin, hwa, e, eb], e, eb]; rfl
            · rw [show fin w (.two true l r) (.parB a b) = .parB .done b by simp [fin, hwa, e, eb], e]; rfl
          · rw [show fin w (.two true l r) (.parB a b) = .parB (fin w l a) b by simp [fin, hwa, e]]; rfl
        refine ⟨fun m j => ?_, fun m h => ?_, fun m => by rw [e0, T.size_two]; have := f3 m; omega, by rw [hdn, e2, f4]; omega, fun hm => by simp [S.main, ha.not_done] at hm, fun m j hj i hi hb => ?_⟩
        · rw [hfin, e0, e1, f1 m j]
          exact or_right_comm
        · rw [e0, e1] at h
          rcases h with h | h
          · exact f2 m h
          · have := LD_lt r b _ _ h
            have := f3 m
            omega
        · rw [e0, e1] at hj
          rw [e1]
          have hlt := bf_lt hb
          by_cases hjl : j < m + l.size
          · refine .inl (f6 m j ?_ i hi (bf_ll (by omega) (by omega) hb))
            rcases hj with (hj | hj) | hj
            · exact .inl hj
            · have := LD_lt r b _ _ hj; omega
            · exact .inr hj
          · have hjr : LD r b (m + l.size) j := by
              rcases hj with (hj | hj) | hj
              · have := LD_lt l a _ _ hj; omega
              · exact hj
              · have := f3 m; omega
            have hjb := LD_lt r b _ _ hjr
            by_cases hil : i < m + l.size
            · exact absurd hb (sep m i j hi hil (by omega) (by omega))
            · refine .inr (clb (m + l.size) j hjr i (by omega) ?_)
              have := bf_rr (by omega) (by omega) hb
              rwa [show i - m - l.size = i - (m + l.size) by omega, show j - m - l.size = j - (m + l.size) by omega] at this
      · have hwb : w ∈ b.ws := (List.mem_append.1 hw).resolve_left hwa
        have hb_ : Act r b := h2.resolve_left (fun e => by rw [e] at hwb; cases hwb)
        obtain ⟨f1, f2, f3, f4, f5, f6⟩ := does w r b hb_ hwb db
        have e0 : ∀ m, leafOf (.two true l r) (.parB a b) m w = leafOf r b (m + l.size) w := fun m => by rw [hcf, if_neg hwa]
        have hfin : ∀ m j, LD (.two true l r) (fin w (.two true l r) (.parB a b)) m j ↔ LD l a m j ∨ LD r (fin w r b) (m + l.size) j := fun m j => by
          by_cases e : fin w r b = .done
          · by_cases ea : a = .done
            · rw [show fin w (.two true l r) (.parB a b) = .done by simp [fin, e, ea, S.ws], e, ea]; exact Iff.rfl
            · rw [show fin w (.two true l r) (.parB a b) = .parB a .done by simp [fin, hwa, e, ea], e]; exact Iff.rfl
          · rw [show fin w (.two true l r) (.parB a b) = .parB a (fin w r b) by simp [fin, hwa, e]]; exact Iff.rfl
        have hdn : dn (.two true l r) (fin w (.two true l r) (.parB a b)) = dn l a + dn r (fin w r b) := by
          by_cases e : fin w r b = .done
          · by_cases ea : a = .done
            · rw [show fin w (.two true l r) (.parB a b) = .done by simp [fin, e, ea, S.ws], e, ea]; rfl
            · rw [show fin w (.two true l r) (.parB a b) = .parB a .done by simp [fin, hwa, e, ea], e]; rfl
          · rw [show fin w (.two true l r) (.parB a b) = .parB a (fin w r b) by simp [fin, hwa, e]]; rfl
        refine ⟨fun m j => by rw [hfin, e0, e1, f1 (m + l.size) j, or_assoc], fun m h => ?_, fun m => by rw [e0, T.size_two]; have := f3 (m + l.size); omega, by rw [hdn, e2, f4]; omega, fun hm m => ?_, fun m j hj i hi hb => ?_⟩
        · rw [e0, e1] at h
          rcases h with h | h
          · have := LD_lt l a _ _ h
            have := f3 (m + l.size)
            omega
          · exact f2 _ h
        · by_cases ea : a = .done
          · subst ea
            rw [e0, e2, dn_done, f5 (by simpa [S.main] using hm) (m + l.size)]
            omega
          · simp [S.main, ea] at hm
        · rw [e0, e1] at hj
          rw [e1]
          have hlt := bf_lt hb
          by_cases hjl : j < m + l.size
          · have hja : LD l a m j := by
              rcases hj with (hj | hj) | hj
              · exact hj
              · have := LD_lt r b _ _ hj; omega
              · have := f3 (m + l.size); omega
            exact .inl (cla m j hja i hi (bf_ll (by omega) (by omega) hb))
          · have hjr : LD r b (m + l.size) j ∨ j = leafOf r b (m + l.size) w := by
              rcases hj with (hj | hj) | hj
              · have := LD_lt l a _ _ hj; omega
              · exact .inl hj
              · exact .inr hj
            have hjb : j < m + l.size + r.size := by
              rcases hjr with hj | hj
              · have := LD_lt r b _ _ hj; omega
              · have := f3 (m + l.size); omega
            by_cases hil : i < m + l.size
            · exact absurd hb (sep m i j hi hil (by omega) hjb)
            · refine .inr (f6 (m + l.size) j hjr i (by omega) ?_)
              have := bf_rr (by omega) (by omega) hb
              rwa [show i - m - l.size = i - (m + l.size) by omega, show j - m - l.size = j - (m + l.size) by omega] at this
    | _ => exact h.elim

theorem steal_LD (v w : Nat) : ∀ (t : T) (s : S), Act t s → (∀ m j, LD t (steal v w t s) m j ↔ LD t s m j) ∧ dn t (steal v w t s) = dn t s
  | .nil, s, h => h.elim
  | .one _ _ _, s, h => by
    cases s with
    | «at» u => exact ⟨fun _ _ => Iff.rfl, rfl⟩
    | _ => exact h.elim
  | .two false l r, s, h => by
    cases s with
    | seqL s =>
      obtain ⟨h1, h2⟩ := steal_LD v w l s h
      exact ⟨fun m j => by show (LD l (steal v w l s) m j ∨ LD r .fresh _ j) ↔ (LD l s m j ∨ LD r .fresh _ j); rw [h1], by show dn l (steal v w l s) + dn r .fresh = dn l s + dn r .fresh; rw [h2]⟩
    | seqR s =>
      obtain ⟨h1, h2⟩ := steal_LD v w r s h
      exact ⟨fun m j => by show (LD l .done m j ∨ LD r (steal v w r s) _ j) ↔ (LD l .done m j ∨ LD r s _ j); rw [h1], by show dn l .done + dn r (steal v w r s) = dn l .done + dn r s; rw [h2]⟩
    | _ => exact h.elim
  | .two true l r, s, h => by
    cases s with
    | parQ s =>
      obtain ⟨h1, h2⟩ := start_no v r
      exact ⟨fun m j => by show (LD l s m j ∨ LD r (start v r) _ j) ↔ (LD l s m j ∨ LD r .fresh _ j); simp [h1, LD_fresh], by show dn l s + dn r (start v r) = dn l s + dn r .fresh; rw [h2, dn_fresh]⟩
    | parB a b =>
      obtain ⟨h1, h2, h3⟩ := h
      by_cases hwa : w ∈ a.ws
      · obtain ⟨k1, k2⟩ := steal_LD v w l a (h1.resolve_left (fun e => by rw [e] at hwa; cases hwa))
        rw [show steal v w (.two true l r) (.parB a b) = .parB (steal v w l a) b by simp [steal, hwa]]
        exact ⟨fun m j => by show (LD l (steal v w l a) m j ∨ LD r b _ j) ↔ (LD l a m j ∨ LD r b _ j); rw [k1], by show dn l (steal v w l a) + dn r b = dn l a + dn r b; rw [k2]⟩
      · rw [show steal v w (.two true l r) (.parB a b) = .parB a (steal v w r b) by simp [steal, hwa]]
        rcases h2 with rfl | h2
        · have e : steal v w r .done = .done := by cases r <;> rfl
          rw [e]
          exact ⟨fun _ _ => Iff.rfl, rfl⟩
        · obtain ⟨k1, k2⟩ := steal_LD v w r b h2
          exact ⟨fun m j => by show (LD l a m j ∨ LD r (steal v w r b) _ j) ↔ (LD l a m j ∨ LD r b _ j); rw [k1], by show dn l a + dn r (steal v w r b) = dn l a + dn r b; rw [k2]⟩
    | _ => exact h.elim
end Go.Proofs.Ytajddbmmbhdnfaa.Stl
