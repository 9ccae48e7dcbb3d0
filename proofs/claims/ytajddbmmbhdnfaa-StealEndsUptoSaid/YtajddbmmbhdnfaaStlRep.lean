/-
  Workers who steal from each other: what Go's yard stands for; what a pick does to it.
-/
import Derived.Test.YtajddbmmbhdnfaaStlPick
namespace Go.Proofs.Ytajddbmmbhdnfaa.Stl
set_option linter.unusedVariables false
set_option linter.unusedSimpArgs false
set_option maxRecDepth 100000
open Sp

structure Y where
  ps : List Part
  at_ : List Int
  qs : List (List Nat)
  log : List (Nat × Int)

/-- one pick: whoever is picked does a leaf, or steals; none: it goes wrong, or takes too long -/
def pickF (f : Nat) (y : Y) (who whom : Int) : Option Y :=
  if who < 0 ∨ y.at_.length ≤ who then some y else
  match y.at_[who.toNat]?, y.qs[who.toNat]? with
  | some a, some q =>
    if 0 ≤ a then
      match y.ps[a.toNat]?, ended f y.ps q a.toNat with
      | some p, some (ps1, q1, a1) => match settle f ps1 q1 a1 with
        | some (ps2, q2, a2) => some ⟨ps2, y.at_.set who.toNat a2, y.qs.set who.toNat q2, y.log ++ [(who.toNat, p.leaf)]⟩
        | none => none
      | _, _ => none
    else if 0 ≤ whom ∧ whom < y.at_.length ∧ whom ≠ who then
      match y.qs[whom.toNat]? with
      | some (k :: rest) => match settle f y.ps q (k : Int) with
        | some (ps2, q2, a2) => some ⟨ps2, y.at_.set who.toNat a2, (y.qs.set whom.toNat rest).set who.toNat q2, y.log⟩
        | none => none
      | some [] => some y
      | none => none
    else some y
  | _, _ => none

def leafOf : T → S → Nat → Nat → Nat
  | .two _ l _, .seqL s, m, w => leafOf l s m w
  | .two _ l r, .seqR s, m, w => leafOf r s (m + l.size) w
  | .two _ l _, .parQ s, m, w => leafOf l s m w
  | .two _ l r, .parB a b, m, w => if w ∈ a.ws then leafOf l a m w else leafOf r b (m + l.size) w
  | _, _, m, _ => m

/-- whose leaf it is -/
theorem loc_leaf (w : Nat) : ∀ (t : T) (s : S) (n m : Nat) (up : Int) (onR : Bool) (pre post : List Part), pre.length = n → Act t s → w ∈ s.ws →
    ∃ p, (pre ++ img t s n m up onR ++ post)[loc t s n w]? = some p ∧ p.leaf = (leafOf t s m w : Nat) ∧ p.kind = 1
  | .nil, s, _, _, _, _, _, _, _, h, _ => h.elim
  | .one c b lb, s, n, m, up, onR, pre, post, hn, h, hw => by
    cases s with
    | «at» u => exact ⟨_, img_head hn, rfl, rfl⟩
    | _ => exact h.elim
  | .two false l r, s, n, m, up, onR, pre, post, hn, h, hw => by
    obtain ⟨x, hx⟩ : ∃ x, x = hd (.two false l r) .fresh n m up onR := ⟨_, rfl⟩
    cases s with
    | seqL s =>
      rw [img_duo _ _ _ _ _ _ _ _ _ _ rfl, ← hx, duo_l]
      exact loc_leaf w l s (n + 1) m n false _ _ (len_l hn) h hw
    | seqR s =>
      rw [img_duo _ _ _ _ _ _ _ _ _ _ rfl, ← hx]
      exact loc_leaf w r s (n + 1 + sz l) (m + l.size) n true _ _ (len_r hn .done) h hw
    | _ => exact h.elim
  | .two true l r, s, n, m, up, onR, pre, post, hn, h, hw => by
    obtain ⟨x, hx⟩ : ∃ x, x = hd (.two true l r) .fresh n m up onR := ⟨_, rfl⟩
    cases s with
    | parQ s =>
      rw [img_duo _ _ _ _ _ _ _ _ _ _ rfl, ← hx, duo_l]
      exact loc_leaf w l s (n + 1) m n false _ _ (len_l hn) h.1 hw
    | parB a b =>
      obtain ⟨h1, h2, h3⟩ := h
      rw [img_duo _ _ _ _ _ _ _ _ _ _ rfl, ← hx]
      have hcl : loc (.two true l r) (.parB a b) n w = if w ∈ a.ws then loc l a (n + 1) w else loc r b (n + 1 + sz l) w := rfl
      have hcf : leafOf (.two true l r) (.parB a b) m w = if w ∈ a.ws then leafOf l a m w else leafOf r b (m + l.size) w := rfl
      by_cases hwa : w ∈ a.ws
      · rw [hcl, hcf, if_pos hwa, if_pos hwa, duo_l]
        exact loc_leaf w l a (n + 1) m n false _ _ (len_l hn) (h1.resolve_left (fun e => by rw [e] at hwa; cases hwa)) hwa
      · have hwb : w ∈ b.ws := (List.mem_append.1 hw).resolve_left hwa
        rw [hcl, hcf, if_neg hwa, if_neg hwa]
        exact loc_leaf w r b (n + 1 + sz l) (m + l.size) n true _ _ (len_r hn a) (h2.resolve_left (fun e => by rw [e] at hwb; cases hwb)) hwb
    | _ => exact h.elim

structure Good (t : T) (W : Nat) (s : S) : Prop where
  act : s = .done ∨ Act t s
  nodup : s.ws.Nodup
  lt : ∀ w ∈ s.ws, w < W
/-- the yard of a tree -/
def yard (t : T) (W : Nat) (s : S) (log : List (Nat × Int)) : Y :=
  ⟨img t s 0 0 (-1) false, (List.range W).map fun w => if w ∈ s.ws then (loc t s 0 w : Int) else -1, (List.range W).map fun w => if w ∈ s.ws then seg t s 0 w else [], log⟩

def nextS (t : T) (W : Nat) (s : S) (who whom : Int) : S :=
  if 0 ≤ who ∧ who < W then
    if who.toNat ∈ s.ws then fin who.toNat t s
    else if 0 ≤ whom ∧ whom < W ∧ whom ≠ who ∧ whom.toNat ∈ s.ws ∧ seg t s 0 whom.toNat ≠ [] then steal who.toNat whom.toNat t s else s
  else s
def nextL (t : T) (W : Nat) (s : S) (who : Int) : List (Nat × Int) :=
  if 0 ≤ who ∧ who < W ∧ who.toNat ∈ s.ws then [(who.toNat, (leafOf t s 0 who.toNat : Int))] else []

theorem good_act {t : T} {W : Nat} {s : S} (h : Good t W s) {w : Nat} (hw : w ∈ s.ws) : Act t s := h.act.resolve_left (fun e => by rw [e] at hw; cases hw)

theorem set_range {α : Type} (W w : Nat) (f g : Nat → α) (h : ∀ v, v < W → v ≠ w → g v = f v) : ((List.range W).map f).set w (g w) = (List.range W).map g := by
  apply List.ext_getElem?
  intro i
  rw [List.getElem?_set]
  by_cases hi : i < W
  · by_cases e : w = i
    · subst e; simp [hi]
    · rw [if_neg e]; simp [hi, h i hi (fun e' => e e'.symm)]
  · rw [List.getElem?_eq_none (by simp; omega), List.getElem?_eq_none (by simp; omega)]
    simp only [List.length_map, List.length_range]
    split <;> (try split) <;> first | rfl | omega

theorem nextS_good {t : T} {W : Nat} {s : S} (h : Good t W s) (who whom : Int) : Good t W (nextS t W s who whom) := by
  unfold nextS
  split
  · rename_i hr
    split
    · rename_i hw
      have := fin_ok who.toNat t s (good_act h hw) hw h.nodup
      exact ⟨(Classical.em _).imp id this.act, this.nodup, fun v hv => h.lt v (this.sub v hv)⟩
    · rename_i hv
      split
      · rename_i hc
        have := steal_ok who.toNat whom.toNat t s 0 (good_act h hc.2.2.2.1) hc.2.2.2.1 h.nodup hc.2.2.2.2 hv
        exact ⟨.inr this.act, this.nodup, fun v hv => by
          rcases this.sub v hv with e | e
          · subst e; omega
          · exact h.lt v e⟩
      · exact h
  · exact h

theorem pick_yard {t : T} {W : Nat} {s : S} (hL : sz t ≤ 1099511627776) (h : Good t W s) (log : List (Nat × Int)) (who whom : Int) : ∃ f, pickF f (yard t W s log) who whom = some (yard t W (nextS t W s who whom) (log ++ nextL t W s who)) := by
  by_cases hr : 0 ≤ who ∧ who < W
  rotate_left
  · refine ⟨0, ?_⟩
    have e1 : nextS t W s who whom = s := by unfold nextS; rw [if_neg hr]
    have e2 : nextL t W s who = [] := by unfold nextL; rw [if_neg (fun h => hr ⟨h.1, h.2.1⟩)]
    rw [e1, e2, List.append_nil]
    unfold pickF
    rw [if_pos (by simp [yard]; omega)]
  obtain ⟨w, rfl⟩ : ∃ w : Nat, who = w := ⟨who.toNat, by omega⟩
  have hwW : w < W := by omega
  have hlen : (yard t W s log).at_.length = W := by simp [yard]
  have hnr : ¬ ((w : Int) < 0 ∨ ((yard t W s log).at_.length : Int) ≤ w) := by rw [hlen]; omega
  have hat : (yard t W s log).at_[w]? = some (if w ∈ s.ws then (loc t s 0 w : Int) else -1) := by simp [yard, hwW]
  have hq : (yard t W s log).qs[w]? = some (if w ∈ s.ws then seg t s 0 w else []) := by simp [yard, hwW]
  by_cases hw : w ∈ s.ws
  · have ha := good_act h hw
    have FO := fin_ok w t s ha hw h.nodup
    rw [if_pos hw] at hat hq
    obtain ⟨p, hp, hpl, hpk⟩ := loc_leaf w t s 0 0 (-1) false [] [] rfl ha hw
    rw [List.nil_append, List.append_nil] at hp
    have hfr := fin_runs w t s 0 0 (-1) false [] [] [] rfl ha hw h.nodup (.inr rfl) (by simpa using hL)
    simp only [List.nil_append, List.append_nil] at hfr
    have hend : EndRuns (img t s 0 0 (-1) false) (seg t s 0 w) (loc t s 0 w) (img t (fin w t s) 0 0 (-1) false, (if w ∈ (fin w t s).ws then seg t (fin w t s) 0 w else []), (if w ∈ (fin w t s).ws then (loc t (fin w t s) 0 w : Int) else -1)) := by
      by_cases e : fin w t s = .done
      · rw [e]
        refine hfr.2 e _ ?_
        obtain ⟨e1, e2⟩ := end_at (pre := []) (post := []) (t := t) (n := 0) (m := 0) (up := -1) (onR := false) rfl
        simp only [List.nil_append, List.append_nil] at e1 e2
        have := EndRuns.root (q := []) e1 (by rw [hd_up]; decide)
        rw [e2] at this
        simpa [S.ws] using this
      · exact hfr.1 e
    obtain ⟨f1, ps1, q1, a1, he, f2, hf⟩ := hend
    have he' := ended_more _ _ _ _ _ he (f1 + f2) (by omega)
    have hf' := settle_more _ _ _ _ _ hf (f1 + f2) (by omega)
    have e1 : nextS t W s w whom = fin w t s := by unfold nextS; rw [if_pos hr, Int.toNat_natCast, if_pos hw]
    have e2 : nextL t W s w = [(w, (leafOf t s 0 w : Int))] := by unfold nextL; rw [if_pos (by rw [Int.toNat_natCast]; exact ⟨hr.1, hr.2, hw⟩), Int.toNat_natCast]
    refine ⟨f1 + f2, ?_⟩
    unfold pickF
    rw [if_neg hnr, Int.toNat_natCast, hat, hq]
    dsimp only
    rw [if_pos (by omega), Int.toNat_natCast]
    have hps : (yard t W s log).ps = img t s 0 0 (-1) false := rfl
    rw [hps, hp, he']
    dsimp only
    rw [hf', e1, e2]
    dsimp only
    rw [hpl]
    have k1 : (yard t W s log).at_.set w (if w ∈ (fin w t s).ws then (loc t (fin w t s) 0 w : Int) else -1) = (yard t W (fin w t s) (log ++ [(w, (leafOf t s 0 w : Int))])).at_ := by
      refine set_range W w (fun v => if v ∈ s.ws then (loc t s 0 v : Int) else -1) (fun v => if v ∈ (fin w t s).ws then (loc t (fin w t s) 0 v : Int) else -1) fun v hv hne => ?_
      by_cases hvs : v ∈ s.ws
      · simp only [if_pos hvs, if_pos (FO.others v hvs hne), (FO.same 0 v hvs hne).1]
      · simp only [if_neg hvs, if_neg (fun h => hvs (FO.sub v h))]
    have k2 : (yard t W s log).qs.set w (if w ∈ (fin w t s).ws then seg t (fin w t s) 0 w else []) = (yard t W (fin w t s) (log ++ [(w, (leafOf t s 0 w : Int))])).qs := by
      refine set_range W w (fun v => if v ∈ s.ws then seg t s 0 v else []) (fun v => if v ∈ (fin w t s).ws then seg t (fin w t s) 0 v else []) fun v hv hne => ?_
      by_cases hvs : v ∈ s.ws
      · simp only [if_pos hvs, if_pos (FO.others v hvs hne), (FO.same 0 v hvs hne).2]
      · simp only [if_neg hvs, if_neg (fun h => hvs (FO.sub v h))]
    rw [k1, k2]
    rfl
  · rw [if_neg hw] at hat hq
    have e2 : nextL t W s w = [] := by unfold nextL; rw [if_neg (by rw [Int.toNat_natCast]; exact fun h => hw h.2.2)]
    rw [e2, List.append_nil]
    by_cases hc : 0 ≤ whom ∧ whom < W ∧ whom ≠ (w : Int)
    · obtain ⟨u, rfl⟩ : ∃ u : Nat, whom = u := ⟨whom.toNat, by omega⟩
      have huW : u < W := by omega
      have huw : u ≠ w := fun e => hc.2.2 (by rw [e])
      have hqu : (yard t W s log).qs[u]? = some (if u ∈ s.ws then seg t s 0 u else []) := by simp [yard, huW]
      by_cases hu : u ∈ s.ws ∧ seg t s 0 u ≠ []
      · obtain ⟨hus, hne⟩ := hu
        obtain ⟨k, rest, hseg⟩ : ∃ k rest, seg t s 0 u = k :: rest := by
          rcases hsg : seg t s 0 u with _ | ⟨k, rest⟩
          · exact absurd hsg hne
          · exact ⟨k, rest, rfl⟩
        rw [if_pos hus, hseg] at hqu
        have ha := good_act h hus
        have SO := steal_ok w u t s 0 ha hus h.nodup hne hw
        have hsr := steal_runs w u t s 0 0 (-1) false [] [] k rest rfl ha hus h.nodup hseg hw hL
        simp only [List.nil_append, List.append_nil] at hsr
        obtain ⟨f, hf⟩ := hsr
        have e1 : nextS t W s w u = steal w u t s := by
          unfold nextS
          rw [if_pos hr, Int.toNat_natCast, if_neg hw, Int.toNat_natCast, if_pos ⟨hc.1, hc.2.1, hc.2.2, hus, hne⟩]
        refine ⟨f, ?_⟩
        unfold pickF
        rw [if_neg hnr, Int.toNat_natCast, hat, hq]
        dsimp only
        rw [if_neg (by omega), if_pos (by rw [hlen]; exact hc), Int.toNat_natCast, hqu]
        dsimp only
        have hps : (yard t W s log).ps = img t s 0 0 (-1) false := rfl
        rw [hps, hf, e1]
        dsimp only
        have k1 : (yard t W s log).at_.set w (if w ∈ (steal w u t s).ws then (loc t (steal w u t s) 0 w : Int) else -1) = (yard t W (steal w u t s) log).at_ := by
          refine set_range W w (fun v => if v ∈ s.ws then (loc t s 0 v : Int) else -1) (fun v => if v ∈ (steal w u t s).ws then (loc t (steal w u t s) 0 v : Int) else -1) fun v hv hne => ?_
          by_cases hvs : v ∈ s.ws
          · simp only [if_pos hvs, if_pos (SO.keep v hvs), SO.loc 0 v hvs]
          · simp only [if_neg hvs, if_neg (fun h => (SO.sub v h).elim hne hvs)]
        have k2 : ((yard t W s log).qs.set u rest).set w (if w ∈ (steal w u t s).ws then seg t (steal w u t s) 0 w else []) = (yard t W (steal w u t s) log).qs := by
          have j1 : (yard t W s log).qs.set u rest = (List.range W).map fun v => if v = u then rest else if v ∈ s.ws then seg t s 0 v else [] := by
            have := set_range W u (fun v => if v ∈ s.ws then seg t s 0 v else []) (fun v => if v = u then rest else if v ∈ s.ws then seg t s 0 v else []) (fun v _ hne => by simp only [if_neg hne])
            simp only [if_true] at this
            exact this
          rw [j1]
          refine set_range W w (fun v => if v = u then rest else if v ∈ s.ws then seg t s 0 v else []) (fun v => if v ∈ (steal w u t s).ws then seg t (steal w u t s) 0 v else []) fun v hv hne => ?_
          by_cases hvs : v ∈ s.ws
          · simp only [if_pos hvs, if_pos (SO.keep v hvs), SO.seg 0 v hvs]
            by_cases e : v = u
            · subst e; simp [hseg]
            · simp [e]
          · have hvu : v ≠ u := fun e => hvs (by rw [e]; exact hus)
            simp only [if_neg hvs, if_neg hvu, if_neg (fun h => (SO.sub v h).elim hne hvs)]
        rw [k1, k2]
        rfl
      · have hqe : (yard t W s log).qs[u]? = some [] := by
          rw [hqu]
          by_cases hus : u ∈ s.ws
          · rw [if_pos hus]
            congr 1
            exact Classical.byContradiction fun h => hu ⟨hus, h⟩
          · rw [if_neg hus]
        have e1 : nextS t W s w u = s := by
          unfold nextS
          rw [if_pos hr, Int.toNat_natCast, if_neg hw, Int.toNat_natCast, if_neg (fun h => hu h.2.2.2)]
        refine ⟨0, ?_⟩
        unfold pickF
        rw [if_neg hnr, Int.toNat_natCast, hat, hq]
        dsimp only
        rw [if_neg (by omega), if_pos (by rw [hlen]; exact hc), Int.toNat_natCast, hqe, e1]
    · have e1 : nextS t W s w whom = s := by
        unfold nextS
        rw [if_pos hr, Int.toNat_natCast, if_neg hw, if_neg (fun h => hc ⟨h.1, h.2.1, h.2.2.1⟩)]
      refine ⟨0, ?_⟩
      unfold pickF
      rw [if_neg hnr, Int.toNat_natCast, hat, hq]
      dsimp only
      rw [if_neg (by omega), if_neg (by rw [hlen]; exact hc), e1]

/-! ### all picks -/
structure Pk where
  who : Int
  whom : Int
def afterS (t : T) (W : Nat) (s : S) (ps : List Pk) : S := ps.foldl (fun s p => nextS t W s p.who p.whom) s
def logS (t : T) (W : Nat) : S → List Pk → List (Nat × Int)
  | _, [] => []
  | s, p :: ps => nextL t W s p.who ++ logS t W (nextS t W s p.who p.whom) ps
theorem afterS_append (t : T) (W : Nat) (s : S) (a b : List Pk) : afterS t W s (a ++ b) = afterS t W (afterS t W s a) b := by simp [afterS]
theorem logS_append (t : T) (W : Nat) (s : S) (a b : List Pk) : logS t W s (a ++ b) = logS t W s a ++ logS t W (afterS t W s a) b := by
  induction a generalizing s with
  | nil => rfl
  | cons p a ih => simp [logS, afterS, ih]
theorem after_good {t : T} {W : Nat} {s : S} (h : Good t W s) (ps : List Pk) : Good t W (afterS t W s ps) := by
  induction ps generalizing s with
  | nil => exact h
  | cons p ps ih => exact ih (nextS_good h _ _)
/-- the first state -/
theorem first_good (t : T) (W : Nat) (h : 0 < W) : Good t W (start 0 t) := by
  rcases start_ok 0 t with e | ⟨e1, -, e3⟩
  · exact ⟨.inl e, by rw [e]; simp [S.ws], by rw [e]; simp [S.ws]⟩
  · exact ⟨.inr e1, by rw [e3]; simp, by rw [e3]; simpa using h⟩
theorem first_runs (t : T) (hL : sz t ≤ 1099511627776) : Runs (partsOf t 0 0 (-1) false) [] 0 (img t (start 0 t) 0 0 (-1) false, (if 0 ∈ (start 0 t).ws then seg t (start 0 t) 0 0 else []), (if 0 ∈ (start 0 t).ws then (loc t (start 0 t) 0 0 : Int) else -1)) := by
  have hs := start_runs 0 t 0 0 (-1) false [] [] [] rfl (by simpa using hL)
  simp only [List.nil_append, List.append_nil] at hs
  rw [← img_fresh]
  by_cases e : start 0 t = .done
  · rw [e]
    refine hs.2 e _ ?_
    obtain ⟨e1, e2⟩ := end_at (pre := []) (post := []) (t := t) (n := 0) (m := 0) (up := -1) (onR := false) rfl
    simp only [List.nil_append, List.append_nil] at e1 e2
    have := EndRuns.root (q := []) e1 (by rw [hd_up]; decide)
    rw [e2] at this
    simpa [S.ws] using this
  · obtain ⟨-, -, h3⟩ := (start_ok 0 t).resolve_left e
    have := hs.1 e
    rw [if_pos (by rw [h3]; simp), if_pos (by rw [h3]; simp)]
    exact this
end Go.Proofs.Ytajddbmmbhdnfaa.Stl
