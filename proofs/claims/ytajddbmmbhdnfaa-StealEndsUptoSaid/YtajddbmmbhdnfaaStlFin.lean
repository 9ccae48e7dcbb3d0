/-
  Workers who steal from each other: a leaf is done, and the tree goes on; Go's parts go on as it does.
-/
import Derived.Test.YtajddbmmbhdnfaaStlTree
namespace Go.Proofs.Ytajddbmmbhdnfaa.Stl
set_option linter.unusedVariables false
set_option linter.unusedSimpArgs false
set_option maxRecDepth 100000
open Sp

def fin (w : Nat) : T → S → S
  | .one _ _ _, .at _ => .done
  | .two _ l r, .seqL s => if fin w l s = .done then (if start w r = .done then .done else .seqR (start w r)) else .seqL (fin w l s)
  | .two _ _ r, .seqR s => if fin w r s = .done then .done else .seqR (fin w r s)
  | .two _ l r, .parQ s => if fin w l s = .done then (if start w r = .done then .done else .parB .done (start w r)) else .parQ (fin w l s)
  | .two _ l r, .parB a b => if w ∈ a.ws then (if fin w l a = .done then (if b = .done then .done else .parB .done b) else .parB (fin w l a) b)
      else (if fin w r b = .done then (if a = .done then .done else .parB a .done) else .parB a (fin w r b))
  | _, s => s

theorem Act.seqL {l r : T} {s : S} (h : Act (.two false l r) (.seqL s)) : Act l s := h
theorem Act.seqR {l r : T} {s : S} (h : Act (.two false l r) (.seqR s)) : Act r s := h

/-- who has it all is alone in it -/
theorem main_only : ∀ (t : T) (s : S) (v : Nat), Act t s → s.main = some v → s.ws = [v]
  | .nil, s, v, h, _ => h.elim
  | .one _ _ _, s, v, h, hm => by
    cases s with
    | «at» w => simp only [S.main, Option.some.injEq] at hm; rw [hm]; rfl
    | _ => exact h.elim
  | .two false l r, s, v, h, hm => by
    cases s with
    | seqL s => exact main_only l s v h hm
    | seqR s => exact main_only r s v h hm
    | _ => exact h.elim
  | .two true l r, s, v, h, hm => by
    cases s with
    | parQ s => exact main_only l s v h.1 hm
    | parB a b =>
      obtain ⟨h1, h2, h3⟩ := h
      by_cases ha : a = .done
      · subst ha
        simp only [S.main, if_true] at hm
        rcases h2 with rfl | h2
        · exact absurd ⟨rfl, rfl⟩ h3
        · exact main_only r b v h2 hm
      · simp [S.main, ha] at hm
    | _ => exact h.elim

theorem act_ws : ∀ (t : T) (s : S), Act t s → s.ws ≠ []
  | .nil, s, h => h.elim
  | .one _ _ _, s, h => by
    cases s with
    | «at» w => simp [S.ws]
    | _ => exact h.elim
  | .two false l r, s, h => by
    cases s with
    | seqL s => exact act_ws l s h
    | seqR s => exact act_ws r s h
    | _ => exact h.elim
  | .two true l r, s, h => by
    cases s with
    | parQ s => exact act_ws l s h.1
    | parB a b =>
      obtain ⟨h1, h2, h3⟩ := h
      rcases h1 with rfl | h1
      · rcases h2 with rfl | h2
        · exact absurd ⟨rfl, rfl⟩ h3
        · have := act_ws r b h2; simpa [S.ws] using this
      · have := act_ws l a h1
        simp only [S.ws, ne_eq, List.append_eq_nil_iff]
        exact fun h => this h.1
    | _ => exact h.elim

structure FinOK (w : Nat) (t : T) (s : S) : Prop where
  act : fin w t s ≠ .done → Act t (fin w t s)
  sub : ∀ v ∈ (fin w t s).ws, v ∈ s.ws
  nodup : (fin w t s).ws.Nodup
  others : ∀ v ∈ s.ws, v ≠ w → v ∈ (fin w t s).ws
  same : ∀ n, ∀ v ∈ s.ws, v ≠ w → loc t (fin w t s) n v = loc t s n v ∧ seg t (fin w t s) n v = seg t s n v
  main : s.main = some w → fin w t s ≠ .done → (fin w t s).main = some w

theorem nodup_two {a b : List Nat} (h : (a ++ b).Nodup) : a.Nodup ∧ b.Nodup ∧ ∀ x ∈ a, x ∉ b := by
  rw [List.nodup_append] at h
  exact ⟨h.1, h.2.1, fun x hx hy => h.2.2 x hx x hy rfl⟩

theorem fin_ok (w : Nat) : ∀ (t : T) (s : S), Act t s → w ∈ s.ws → s.ws.Nodup → FinOK w t s
  | .nil, s, h, _, _ => h.elim
  | .one c b lb, s, h, hw, hd => by
    cases s with
    | «at» v =>
      have e : fin w (.one c b lb) (.at v) = .done := rfl
      have hv : w = v := by simpa [S.ws] using hw
      exact ⟨fun h => absurd e h, by rw [e]; simp [S.ws], by rw [e]; simp [S.ws], fun u hu hne => by simp [S.ws] at hu; omega, fun n u hu hne => by simp [S.ws] at hu; omega, fun _ h => absurd e h⟩
    | _ => exact h.elim
  | .two false l r, s, h, hw, hd => by
    cases s with
    | seqL s =>
      obtain ⟨f1, f2, f3, f4, f5, f6⟩ := fin_ok w l s h hw hd
      by_cases e : fin w l s = .done
      · have honly : ∀ v ∈ s.ws, v = w := fun v hv => Classical.byContradiction fun hne => by
          have := f4 v hv hne
          rw [e] at this
          cases this
        by_cases er : start w r = .done
        · have E : fin w (.two false l r) (.seqL s) = .done := by simp [fin, e, er]
          exact ⟨fun h => absurd E h, by rw [E]; simp [S.ws], by rw [E]; simp [S.ws], fun u hu hne => absurd (honly u hu) hne, fun n u hu hne => absurd (honly u hu) hne, fun _ h => absurd E h⟩
        · have E : fin w (.two false l r) (.seqL s) = .seqR (start w r) := by simp [fin, e, er]
          obtain ⟨g1, g2, g3⟩ := (start_ok w r).resolve_left er
          refine ⟨fun _ => by rw [E]; exact g1, ?_, ?_, fun u hu hne => absurd (honly u hu) hne, fun n u hu hne => absurd (honly u hu) hne, fun _ _ => by rw [E]; exact g2⟩
          · rw [E]; show ∀ v ∈ (start w r).ws, _; rw [g3]; intro v hv; simp at hv; rw [hv]; exact hw
          · rw [E]; show (start w r).ws.Nodup; rw [g3]; simp
      · have E : fin w (.two false l r) (.seqL s) = .seqL (fin w l s) := by simp [fin, e]
        refine ⟨fun _ => by rw [E]; exact f1 e, by rw [E]; exact f2, by rw [E]; exact f3, by rw [E]; exact f4, by rw [E]; exact fun n => f5 (n + 1), fun hm _ => by rw [E]; exact f6 hm e⟩
    | seqR s =>
      obtain ⟨f1, f2, f3, f4, f5, f6⟩ := fin_ok w r s h hw hd
      by_cases e : fin w r s = .done
      · have honly : ∀ v ∈ s.ws, v = w := fun v hv => Classical.byContradiction fun hne => by
          have := f4 v hv hne
          rw [e] at this
          cases this
        have E : fin w (.two false l r) (.seqR s) = .done := by simp [fin, e]
        exact ⟨fun h => absurd E h, by rw [E]; simp [S.ws], by rw [E]; simp [S.ws], fun u hu hne => absurd (honly u hu) hne, fun n u hu hne => absurd (honly u hu) hne, fun _ h => absurd E h⟩
      · have E : fin w (.two false l r) (.seqR s) = .seqR (fin w r s) := by simp [fin, e]
        refine ⟨fun _ => by rw [E]; exact f1 e, by rw [E]; exact f2, by rw [E]; exact f3, by rw [E]; exact f4, by rw [E]; exact fun n => f5 _, fun hm _ => by rw [E]; exact f6 hm e⟩
    | _ => exact h.elim
  | .two true l r, s, h, hw, hd => by
    cases s with
    | parQ s =>
      obtain ⟨f1, f2, f3, f4, f5, f6⟩ := fin_ok w l s h.1 hw hd
      have hmain : s.main = some w := by
        rcases hm : s.main with _ | v
        · exact absurd hm h.2
        · have := main_only l s v h.1 hm
          rw [S.ws, this] at hw
          rw [List.mem_singleton.1 hw]
      by_cases e : fin w l s = .done
      · have honly : ∀ v ∈ s.ws, v = w := fun v hv => Classical.byContradiction fun hne => by
          have := f4 v hv hne
          rw [e] at this
          cases this
        by_cases er : start w r = .done
        · have E : fin w (.two true l r) (.parQ s) = .done := by simp [fin, e, er]
          exact ⟨fun h => absurd E h, by rw [E]; simp [S.ws], by rw [E]; simp [S.ws], fun u hu hne => absurd (honly u hu) hne, fun n u hu hne => absurd (honly u hu) hne, fun _ h => absurd E h⟩
        · have E : fin w (.two true l r) (.parQ s) = .parB .done (start w r) := by simp [fin, e, er]
          obtain ⟨g1, g2, g3⟩ := (start_ok w r).resolve_left er
          refine ⟨fun _ => by rw [E]; exact ⟨.inl rfl, .inr g1, fun h => er h.2⟩, ?_, ?_, fun u hu hne => absurd (honly u hu) hne, fun n u hu hne => absurd (honly u hu) hne, fun _ _ => by rw [E]; exact g2⟩
          · rw [E]; show ∀ v ∈ [] ++ (start w r).ws, _; rw [g3]; intro v hv; simp at hv; rw [hv]; exact hw
          · rw [E]; show ([] ++ (start w r).ws).Nodup; rw [g3]; simp
      · have E : fin w (.two true l r) (.parQ s) = .parQ (fin w l s) := by simp [fin, e]
        refine ⟨fun _ => by rw [E]; exact ⟨f1 e, by rw [f6 hmain e]; simp⟩, by rw [E]; exact f2, by rw [E]; exact f3, by rw [E]; exact f4, by rw [E]; exact fun n u hu hne => ⟨(f5 (n + 1) u hu hne).1, by show (_ :: _) = _ :: _; rw [(f5 (n + 1) u hu hne).2]⟩, fun hm _ => by rw [E]; exact f6 hm e⟩
    | parB a b =>
      obtain ⟨h1, h2, h3⟩ := h
      obtain ⟨da, db, dab⟩ := nodup_two hd
      have hcl : ∀ (a' b' : S) (n v : Nat), loc (.two true l r) (.parB a' b') n v = if v ∈ a'.ws then loc l a' (n + 1) v else loc r b' (n + 1 + sz l) v := fun _ _ _ _ => rfl
      have hcs : ∀ (a' b' : S) (n v : Nat), seg (.two true l r) (.parB a' b') n v = if v ∈ a'.ws then seg l a' (n + 1) v else seg r b' (n + 1 + sz l) v := fun _ _ _ _ => rfl
      by_cases hwa : w ∈ a.ws
      · have ha : Act l a := h1.resolve_left (fun e => by rw [e] at hwa; cases hwa)
        obtain ⟨f1, f2, f3, f4, f5, f6⟩ := fin_ok w l a ha hwa da
        have hmn : (S.parB a b).main = none := by simp [S.main, ha.not_done]
        by_cases e : fin w l a = .done
        · have honly : ∀ v ∈ a.ws, v = w := fun v hv => Classical.byContradiction fun hne => by
            have := f4 v hv hne
            rw [e] at this
            cases this
          by_cases eb : b = .done
          · have E : fin w (.two true l r) (.parB a b) = .done := by simp [fin, hwa, e, eb]
            have hall : ∀ v ∈ (S.parB a b).ws, v = w := fun v hv => by
              rcases List.mem_append.1 hv with hv | hv
              · exact honly v hv
              · rw [eb] at hv; cases hv
            exact ⟨fun h => absurd E h, by rw [E]; simp [S.ws], by rw [E]; simp [S.ws], fun u hu hne => absurd (hall u hu) hne, fun n u hu hne => absurd (hall u hu) hne, fun _ h => absurd E h⟩
          · have E : fin w (.two true l r) (.parB a b) = .parB .done b := by simp [fin, hwa, e, eb]
            refine ⟨fun _ => by rw [E]; exact ⟨.inl rfl, h2, fun h => eb h.2⟩, ?_, ?_, ?_, ?_, fun h => by rw [hmn] at h; cases h⟩
            · rw [E]; intro v hv; exact List.mem_append_right _ (by simpa [S.ws] using hv)
            · rw [E]; simpa [S.ws] using db
            · rw [E]; intro v hv hne
              rcases List.mem_append.1 hv with hv | hv
              · exact absurd (honly v hv) hne
              · simpa [S.ws] using hv
            · rw [E]; intro n v hv hne
              have hva : v ∉ a.ws := fun h => hne (honly v h)
              rw [hcl, hcl, hcs, hcs, if_neg hva, if_neg hva]
              simp [S.ws]
        · have E : fin w (.two true l r) (.parB a b) = .parB (fin w l a) b := by simp [fin, hwa, e]
          refine ⟨fun _ => by rw [E]; exact ⟨.inr (f1 e), h2, fun h => e h.1⟩, ?_, ?_, ?_, ?_, fun h => by rw [hmn] at h; cases h⟩
          · rw [E]; intro v hv
            rcases List.mem_append.1 hv with hv | hv
            · exact List.mem_append_left _ (f2 v hv)
            · exact List.mem_append_right _ hv
          · rw [E]; exact List.nodup_append.2 ⟨f3, db, fun x hx y hy exy => dab x (f2 x hx) (by rw [exy]; exact hy)⟩
          · rw [E]; intro v hv hne
            rcases List.mem_append.1 hv with hv | hv
            · exact List.mem_append_left _ (f4 v hv hne)
            · exact List.mem_append_right _ hv
          · rw [E]; intro n v hv hne
            rw [hcl, hcl, hcs, hcs]
            by_cases hva : v ∈ a.ws
            · rw [if_pos hva, if_pos (f4 v hva hne), if_pos hva, if_pos (f4 v hva hne)]
              exact f5 (n + 1) v hva hne
            · rw [if_neg hva, if_neg (fun h => hva (f2 v h)), if_neg hva, if_neg (fun h => hva (f2 v h))]
              exact ⟨rfl, rfl⟩
      · have hwb : w ∈ b.ws := (List.mem_append.1 hw).resolve_left hwa
        have hb : Act r b := h2.resolve_left (fun e => by rw [e] at hwb; cases hwb)
        obtain ⟨f1, f2, f3, f4, f5, f6⟩ := fin_ok w r b hb hwb db
        by_cases e : fin w r b = .done
        · have honly : ∀ v ∈ b.ws, v = w := fun v hv => Classical.byContradiction fun hne => by
            have := f4 v hv hne
            rw [e] at this
            cases this
          by_cases ea : a = .done
          · have E : fin w (.two true l r) (.parB a b) = .done := by simp [fin, e, ea, S.ws]
            have hall : ∀ v ∈ (S.parB a b).ws, v = w := fun v hv => by
              rcases List.mem_append.1 hv with hv | hv
              · rw [ea] at hv; cases hv
              · exact honly v hv
            exact ⟨fun h => absurd E h, by rw [E]; simp [S.ws], by rw [E]; simp [S.ws], fun u hu hne => absurd (hall u hu) hne, fun n u hu hne => absurd (hall u hu) hne, fun _ h => absurd E h⟩
          · have E : fin w (.two true l r) (.parB a b) = .parB a .done := by simp [fin, hwa, e, ea]
            refine ⟨fun _ => by rw [E]; exact ⟨h1, .inl rfl, fun h => ea h.1⟩, ?_, ?_, ?_, ?_, fun h => by simp [S.main, ea] at h⟩
            · rw [E]; intro v hv; exact List.mem_append_left _ (by simpa [S.ws] using hv)
            · rw [E]; simpa [S.ws] using da
            · rw [E]; intro v hv hne
              rcases List.mem_append.1 hv with hv | hv
              · simpa [S.ws] using hv
              · exact absurd (honly v hv) hne
            · rw [E]; intro n v hv hne
              have hva : v ∈ a.ws := (List.mem_append.1 hv).resolve_right fun h => hne (honly v h)
              rw [hcl, hcl, hcs, hcs, if_pos hva, if_pos hva, if_pos hva, if_pos hva]
              exact ⟨rfl, rfl⟩
        · have E : fin w (.two true l r) (.parB a b) = .parB a (fin w r b) := by simp [fin, hwa, e]
          refine ⟨fun _ => by rw [E]; exact ⟨h1, .inr (f1 e), fun h => e h.2⟩, ?_, ?_, ?_, ?_, ?_⟩
          · rw [E]; intro v hv
            rcases List.mem_append.1 hv with hv | hv
            · exact List.mem_append_left _ hv
            · exact List.mem_append_right _ (f2 v hv)
          · rw [E]; exact List.nodup_append.2 ⟨da, f3, fun x hx y hy exy => dab x hx (f2 x (by rw [exy]; exact hy))⟩
          · rw [E]; intro v hv hne
            rcases List.mem_append.1 hv with hv | hv
            · exact List.mem_append_left _ hv
            · exact List.mem_append_right _ (f4 v hv hne)
          · rw [E]; intro n v hv hne
            rw [hcl, hcl, hcs, hcs]
            by_cases hva : v ∈ a.ws
            · rw [if_pos hva, if_pos hva, if_pos hva, if_pos hva]; exact ⟨rfl, rfl⟩
            · rw [if_neg hva, if_neg hva, if_neg hva, if_neg hva]
              exact f5 _ v ((List.mem_append.1 hv).resolve_left hva) hne
          · intro hm _
            rw [E]
            by_cases ea : a = .done
            · subst ea
              simp only [S.main, if_true] at hm ⊢
              exact f6 hm e
            · simp [S.main, ea] at hm
    | _ => exact h.elim
end Go.Proofs.Ytajddbmmbhdnfaa.Stl
