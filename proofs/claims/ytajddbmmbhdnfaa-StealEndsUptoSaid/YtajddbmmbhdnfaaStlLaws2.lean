/-
  Workers who steal from each other: the laws over a whole script. Each leaf is done once, behind those ahead of it; who is alone goes from left to right; all is done at last.
-/
import Derived.Test.YtajddbmmbhdnfaaStlLaws
namespace Go.Proofs.Ytajddbmmbhdnfaa.Stl
set_option linter.unusedVariables false
set_option linter.unusedSimpArgs false
set_option maxRecDepth 100000
open Sp

theorem step_cases {t : T} {W : Nat} {s : S} (h : Good t W s) (who whom : Int) :
    (∃ w : Nat, who = w ∧ w < W ∧ w ∈ s.ws ∧ nextS t W s who whom = fin w t s ∧ nextL t W s who = [(w, (leafOf t s 0 w : Int))]) ∨
    ((∀ m j, LD t (nextS t W s who whom) m j ↔ LD t s m j) ∧ dn t (nextS t W s who whom) = dn t s ∧ nextL t W s who = [] ∧ (∀ v ∈ s.ws, v ∈ (nextS t W s who whom).ws)) := by
  unfold nextS nextL
  by_cases hr : 0 ≤ who ∧ who < W
  · rw [if_pos hr]
    by_cases hw : who.toNat ∈ s.ws
    · rw [if_pos hw, if_pos ⟨hr.1, hr.2, hw⟩]
      exact .inl ⟨who.toNat, by omega, by omega, hw, rfl, rfl⟩
    · rw [if_neg hw, if_neg (show ¬ (0 ≤ who ∧ who < W ∧ who.toNat ∈ s.ws) from fun e => hw e.2.2)]
      split
      · rename_i hc
        obtain ⟨h1, h2⟩ := steal_LD who.toNat whom.toNat t s (good_act h hc.2.2.2.1)
        have := steal_ok who.toNat whom.toNat t s 0 (good_act h hc.2.2.2.1) hc.2.2.2.1 h.nodup hc.2.2.2.2 hw
        exact .inr ⟨h1, h2, rfl, this.keep⟩
      · exact .inr ⟨fun _ _ => Iff.rfl, rfl, rfl, fun _ hv => hv⟩
  · rw [if_neg hr, if_neg (show ¬ (0 ≤ who ∧ who < W ∧ who.toNat ∈ s.ws) from fun e => hr ⟨e.1, e.2.1⟩)]
    exact .inr ⟨fun _ _ => Iff.rfl, rfl, rfl, fun _ hv => hv⟩

theorem log_dn {t : T} {W : Nat} : ∀ (ps : List Pk) {s : S}, Good t W s → (logS t W s ps).length + dn t s = dn t (afterS t W s ps)
  | [], s, _ => by simp [logS, afterS]
  | p :: ps, s, h => by
    have ih := log_dn ps (nextS_good h p.who p.whom)
    show (nextL t W s p.who ++ logS t W (nextS t W s p.who p.whom) ps).length + dn t s = dn t (afterS t W (nextS t W s p.who p.whom) ps)
    rw [List.length_append]
    rcases step_cases h p.who p.whom with ⟨w, -, -, hw, e1, e2⟩ | ⟨-, e1, e2, -⟩
    · have hd := (does w t s (good_act h hw) hw h.nodup).dn
      rw [← e1] at hd
      rw [e2, List.length_singleton]
      omega
    · rw [e2, List.length_nil]
      omega

structure Once (t : T) (W : Nat) (s : S) (L : List (Nat × Int)) : Prop where
  who : ∀ x ∈ L, x.1 < W
  leaf : ∀ x ∈ L, ∃ j : Nat, x.2 = j ∧ j < t.size ∧ ¬ LD t s 0 j
  nodup : (L.map (·.2)).Nodup
  ahead : ∀ (p : Nat) (x : Nat × Int), L[p]? = some x → ∀ i : Nat, t.bf i x.2.toNat → LD t s 0 i ∨ ∃ q y, q < p ∧ L[q]? = some y ∧ y.2 = (i : Int)
theorem once {t : T} {W : Nat} : ∀ (ps : List Pk) {s : S}, Good t W s → Once t W s (logS t W s ps)
  | [], s, _ => ⟨fun _ h => by simp [logS] at h, fun _ h => by simp [logS] at h, by simp [logS], fun _ _ h => by simp [logS] at h⟩
  | p :: ps, s, h => by
    obtain ⟨i1, i2, i3, i4⟩ := once ps (nextS_good h p.who p.whom)
    show Once t W s (nextL t W s p.who ++ logS t W (nextS t W s p.who p.whom) ps)
    rcases step_cases h p.who p.whom with ⟨w, -, hlt, hw, e1, e2⟩ | ⟨e1, -, e2, -⟩
    · have hd := does w t s (good_act h hw) hw h.nodup
      rw [e2]
      rw [e1] at i1 i2 i3 i4 ⊢
      generalize logS t W (fin w t s) ps = L at i1 i2 i3 i4 ⊢
      have l1 := hd.lt 0
      refine ⟨fun x hx => ?_, fun x hx => ?_, ?_, fun q x hq i hi => ?_⟩
      · rcases List.mem_cons.1 hx with rfl | hx
        · exact hlt
        · exact i1 x hx
      · rcases List.mem_cons.1 hx with rfl | hx
        · exact ⟨_, rfl, by omega, hd.new 0⟩
        · obtain ⟨j, h1, h2, h3⟩ := i2 x hx
          exact ⟨j, h1, h2, fun hn => h3 ((hd.ld 0 j).2 (.inl hn))⟩
      · show (((leafOf t s 0 w : Int)) :: L.map (·.2)).Nodup
        rw [List.nodup_cons]
        refine ⟨fun hm => ?_, i3⟩
        obtain ⟨x, hx, hxe⟩ := List.mem_map.1 hm
        obtain ⟨j, h1, -, h3⟩ := i2 x hx
        exact h3 ((hd.ld 0 j).2 (.inr (by omega)))
      · rcases q with _ | q
        · simp only [List.singleton_append, List.getElem?_cons_zero, Option.some.injEq] at hq
          subst hq
          refine .inl (hd.ahead 0 (leafOf t s 0 w) (.inr rfl) i (Nat.zero_le _) (by simpa using hi))
        · simp only [List.singleton_append, List.getElem?_cons_succ] at hq
          rcases i4 q x hq i hi with hl | ⟨q', y, h1, h2, h3⟩
          · rcases (hd.ld 0 i).1 hl with hl | hl
            · exact .inl hl
            · exact .inr ⟨0, _, by omega, rfl, by rw [hl]⟩
          · exact .inr ⟨q' + 1, y, by omega, by simpa using h2, h3⟩
    · rw [e2, List.nil_append]
      exact ⟨i1, fun x hx => by obtain ⟨j, h1, h2, h3⟩ := i2 x hx; exact ⟨j, h1, h2, fun hn => h3 ((e1 0 j).2 hn)⟩, i3, fun q x hq i hi => (i4 q x hq i hi).imp (fun hl => (e1 0 i).1 hl) id⟩
theorem once_start (t : T) (W : Nat) (hW : 0 < W) (ps : List Pk) : Once t W (start 0 t) (logS t W (start 0 t) ps) := once ps (first_good t W hW)

/-! ### alone -/
theorem alone {t : T} : ∀ (k : Nat) (s : S), (s = .done ∨ (Act t s ∧ s.main = some 0)) → logS t 1 s (List.replicate k ⟨0, 0⟩) = (List.range' (dn t s) (min k (t.size - dn t s))).map fun i : Nat => (0, (i : Int))
  | 0, s, _ => by simp [logS]
  | k + 1, s, h => by
    rw [List.replicate_succ]
    show nextL t 1 s 0 ++ logS t 1 (nextS t 1 s 0 0) (List.replicate k ⟨0, 0⟩) = _
    rcases h with rfl | ⟨ha, hm⟩
    · have e1 : nextL t 1 .done 0 = [] := by simp [nextL, S.ws]
      have e2 : nextS t 1 .done 0 0 = .done := by simp [nextS, S.ws]
      rw [e1, e2, alone k .done (.inl rfl), dn_done]
      simp
    · have hws := main_only t s 0 ha hm
      have hw : 0 ∈ s.ws := by rw [hws]; simp
      have hn : s.ws.Nodup := by rw [hws]; simp
      have hd := does 0 t s ha hw hn
      have hf := fin_ok 0 t s ha hw hn
      have e1 : nextL t 1 s 0 = [(0, (leafOf t s 0 0 : Int))] := by simp [nextL, hw]
      have e2 : nextS t 1 s 0 0 = fin 0 t s := by simp [nextS, hw]
      have hl := hd.main hm 0
      have hlt := (hd.lt 0).2
      rw [e1, e2, alone k (fin 0 t s) (by
        by_cases e : fin 0 t s = .done
        · exact .inl e
        · exact .inr ⟨hf.act e, hf.main hm e⟩), hd.dn, hl]
      have : min (k + 1) (t.size - dn t s) = min k (t.size - (dn t s + 1)) + 1 := by omega
      rw [this, List.range'_succ]
      simp
theorem alone_start (t : T) (k : Nat) : logS t 1 (start 0 t) (List.replicate k ⟨0, 0⟩) = (List.range (min k t.size)).map fun i : Nat => (0, (i : Int)) := by
  rw [alone k _ ((start_ok 0 t).imp id (fun h => ⟨h.1, h.2.1⟩)), (start_no 0 t).2, List.range_eq_range']
  rfl

/-! ### all is done at last -/
def pairs (W : Nat) : List Pk := (List.range W).flatMap fun a : Nat => (List.range W).map fun b : Nat => ⟨(a : Int), (b : Int)⟩
def fairs (W : Nat) : Nat → List Pk
  | 0 => []
  | r + 1 => fairs W r ++ pairs W
theorem dn_mono {t : T} {W : Nat} {s : S} (h : Good t W s) (ps : List Pk) : dn t s ≤ dn t (afterS t W s ps) := by
  have := log_dn ps h
  omega
/-- a worker who is at work does a leaf when he is picked -/
theorem busy {t : T} {W : Nat} (w b : Nat) (hw : w < W) : ∀ (ps : List Pk) {s : S}, Good t W s → w ∈ s.ws → ⟨(w : Int), (b : Int)⟩ ∈ ps → dn t s < dn t (afterS t W s ps)
  | p :: ps, s, h, hs, hm => by
    show dn t s < dn t (afterS t W (nextS t W s p.who p.whom) ps)
    have hg := nextS_good h p.who p.whom
    have hmo := dn_mono hg ps
    rcases step_cases h p.who p.whom with ⟨v, -, hlt, hv, e1, -⟩ | ⟨-, e1, e2, hk⟩
    · have hd := (does v t s (good_act h hv) hv h.nodup).dn
      rw [← e1] at hd
      omega
    · rcases List.mem_cons.1 hm with rfl | hm
      · have : nextL t W s w = [(w, (leafOf t s 0 w : Int))] := by simp [nextL, hs, hw]
        rw [this] at e2
        cases e2
      · have := busy w b hw ps hg (hk w hs) hm
        omega
theorem good_lt {t : T} {W : Nat} {s : S} (h : Good t W s) (hs : s ≠ .done) : dn t s < t.size := by
  have ha := h.act.resolve_left hs
  obtain ⟨w, hw⟩ := List.exists_mem_of_ne_nil _ (act_ws t s ha)
  have := (does w t s ha hw h.nodup).dn
  have := dn_le t (fin w t s)
  omega
theorem round_done {t : T} {W : Nat} {s : S} (h : Good t W s) : afterS t W s (pairs W) = .done ∨ dn t s < dn t (afterS t W s (pairs W)) := by
  by_cases hs : s = .done
  · have hdone : ∀ ps : List Pk, afterS t W .done ps = .done := fun ps => by
      induction ps with
      | nil => rfl
      | cons p ps ih =>
        show afterS t W (nextS t W .done p.who p.whom) ps = .done
        rw [show nextS t W .done p.who p.whom = .done by simp [nextS, S.ws]]
        exact ih
    subst hs
    exact .inl (hdone _)
  · have ha := h.act.resolve_left hs
    obtain ⟨w, hw⟩ := List.exists_mem_of_ne_nil _ (act_ws t s ha)
    have hlt := h.lt w hw
    exact .inr (busy w 0 hlt _ h hw (List.mem_flatMap.2 ⟨w, by simpa using hlt, List.mem_map.2 ⟨0, List.mem_range.2 (Nat.lt_of_le_of_lt (Nat.zero_le _) hlt), rfl⟩⟩))
theorem fair_dn {t : T} {W : Nat} : ∀ (r : Nat) {s : S}, Good t W s → afterS t W s (fairs W r) = .done ∨ r ≤ dn t (afterS t W s (fairs W r))
  | 0, s, h => .inr (Nat.zero_le _)
  | r + 1, s, h => by
    have hg := after_good h (fairs W r)
    show afterS t W s (fairs W r ++ pairs W) = .done ∨ _ ≤ dn t (afterS t W s (fairs W r ++ pairs W))
    rw [afterS_append]
    rcases fair_dn r h with e | e
    · rcases round_done hg with e' | e'
      · exact .inl e'
      · have h1 := dn_le t (afterS t W (afterS t W s (fairs W r)) (pairs W))
        rw [e, dn_done] at e'
        rw [e] at h1
        omega
    · rcases round_done hg with e' | e'
      · exact .inl e'
      · exact .inr (by omega)
/-- fair picks, as many rounds as there are leaves and one more -/
theorem ends (t : T) (W : Nat) (hW : 0 < W) (ps : List Pk) (r : Nat) (hr : t.size < r) : (logS t W (start 0 t) (ps ++ fairs W r)).length = t.size := by
  have hg := first_good t W hW
  have h1 := log_dn (ps ++ fairs W r) hg
  rw [(start_no 0 t).2] at h1
  have h2 : afterS t W (start 0 t) (ps ++ fairs W r) = .done := by
    rw [afterS_append]
    have hg' := after_good hg ps
    rcases fair_dn r hg' with e | e
    · exact e
    · have := dn_le t (afterS t W (afterS t W (start 0 t) ps) (fairs W r))
      omega
  rw [h2, dn_done] at h1
  omega
end Go.Proofs.Ytajddbmmbhdnfaa.Stl
