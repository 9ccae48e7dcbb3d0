/-
  Workers who steal from each other: Go's parts go on as the tree does, when a leaf is done.
-/
import Derived.Test.YtajddbmmbhdnfaaStlFin
namespace Go.Proofs.Ytajddbmmbhdnfaa.Stl
set_option linter.unusedVariables false
set_option linter.unusedSimpArgs false
set_option maxRecDepth 100000
open Sp

section
variable {pre post : List Part} {n m : Nat} {l r : T} {x : Part}
/-- both kids' parts -/
abbrev duo (pre post : List Part) (x : Part) (l r : T) (a b : S) (n m : Nat) : List Part := pre ++ x :: img l a (n + 1) m n false ++ img r b (n + 1 + sz l) (m + l.size) n true ++ post
theorem duo_l (a b : S) : duo pre post x l r a b n m = (pre ++ [x]) ++ img l a (n + 1) m n false ++ (img r b (n + 1 + sz l) (m + l.size) n true ++ post) := by simp [duo]
theorem len_l (h : pre.length = n) : (pre ++ [x]).length = n + 1 := by simp [h]
theorem len_r (h : pre.length = n) (a : S) : (pre ++ x :: img l a (n + 1) m n false).length = n + 1 + sz l := by simp [h, img_length]; omega
theorem duo_at (h : pre.length = n) (a b : S) : (duo pre post x l r a b n m)[n]? = some x ∧ (duo pre post x l r a b n m)[n + 1]? = some (hd l a (n + 1) m n false) ∧ (duo pre post x l r a b n m)[n + 1 + sz l]? = some (hd r b (n + 1 + sz l) (m + l.size) n true) := by
  refine ⟨?_, ?_, img_head (len_r h a)⟩
  · simp [duo, ← h]
  · rw [duo_l]; exact img_head (len_l h)
theorem endL (h : pre.length = n) (b : S) : ((pre ++ [x]) ++ imgU l (n + 1) m n false ++ (img r b (n + 1 + sz l) (m + l.size) n true ++ post))[n + 1]? = some (hd l .fresh (n + 1) m n false) ∧
    mark ((pre ++ [x]) ++ imgU l (n + 1) m n false ++ (img r b (n + 1 + sz l) (m + l.size) n true ++ post)) (n + 1) = duo pre post x l r .done b n m := by
  obtain ⟨e1, e2⟩ := end_at (post := img r b (n + 1 + sz l) (m + l.size) n true ++ post) (t := l) (m := m) (up := (n : Int)) (onR := false) (len_l (x := x) h)
  exact ⟨e1, by rw [e2, duo_l]⟩
theorem endR (h : pre.length = n) (a : S) : ((pre ++ x :: img l a (n + 1) m n false) ++ imgU r (n + 1 + sz l) (m + l.size) n true ++ post)[n + 1 + sz l]? = some (hd r .fresh (n + 1 + sz l) (m + l.size) n true) ∧
    mark ((pre ++ x :: img l a (n + 1) m n false) ++ imgU r (n + 1 + sz l) (m + l.size) n true ++ post) (n + 1 + sz l) = duo pre post x l r a .done n m :=
  end_at (post := post) (t := r) (m := m + l.size) (up := (n : Int)) (onR := true) (len_r (x := x) h a)

variable {q : List Nat} {o : Out}
theorem stepSeqL (h : pre.length = n) (h2 : x.kind = 2) (hr : x.right = n + 1 + sz l) {b : S} (ho : Runs (duo pre post x l r .done b n m) q (n + 1 + sz l : Nat) o) :
    EndRuns ((pre ++ [x]) ++ imgU l (n + 1) m n false ++ (img r b (n + 1 + sz l) (m + l.size) n true ++ post)) q (n + 1) o := by
  obtain ⟨e1, e2⟩ := endL (x := x) (l := l) (r := r) (m := m) (post := post) h b
  exact EndRuns.seqL (k := n) (u := x) e1 (hd_up _ _ _ _ _ _) (by rw [e2]; exact (duo_at h _ _).1) h2 (hd_onR _ _ _ _ _ _) (by rw [e2, hr]; exact ho)
theorem stepSeqR (h : pre.length = n) (h2 : x.kind = 2) {a : S} (ho : EndRuns (duo pre post x l r a .done n m) q n o) :
    EndRuns ((pre ++ x :: img l a (n + 1) m n false) ++ imgU r (n + 1 + sz l) (m + l.size) n true ++ post) q (n + 1 + sz l) o := by
  obtain ⟨e1, e2⟩ := endR (x := x) (l := l) (r := r) (m := m) (post := post) h a
  exact EndRuns.seqR (k := n) (u := x) e1 (hd_up _ _ _ _ _ _) (by rw [e2]; exact (duo_at h _ _).1) h2 (hd_onR _ _ _ _ _ _) (by rw [e2]; exact ho)
theorem stepPop (h : pre.length = n) (h3 : x.kind = 3) (hl : x.left = n + 1) (hr : x.right = n + 1 + sz l) {b : S} (hb : b.isD = false) (ho : Runs (duo pre post x l r .done b n m) q (n + 1 + sz l : Nat) o) :
    EndRuns ((pre ++ [x]) ++ imgU l (n + 1) m n false ++ (img r b (n + 1 + sz l) (m + l.size) n true ++ post)) (q ++ [n + 1 + sz l]) (n + 1) o := by
  obtain ⟨e1, e2⟩ := endL (x := x) (l := l) (r := r) (m := m) (post := post) h b
  obtain ⟨a1, a2, a3⟩ := duo_at (x := x) (l := l) (r := r) (m := m) (post := post) h .done b
  exact EndRuns.pop (k := n) (u := x) e1 (hd_up _ _ _ _ _ _) (by rw [e2]; exact a1) h3 (by rw [e2, hl]; exact a2) (by rw [e2, hr]; exact a3) ((hd_done _ _ _ _ _ _).trans hb) (hd_onR _ _ _ _ _ _) (by rw [e2]; exact ho)
theorem stepDry (h : pre.length = n) (h3 : x.kind = 3) (hl : x.left = n + 1) (hr : x.right = n + 1 + sz l) {b : S} (hb : b.isD = false) :
    EndRuns ((pre ++ [x]) ++ imgU l (n + 1) m n false ++ (img r b (n + 1 + sz l) (m + l.size) n true ++ post)) [] (n + 1) (duo pre post x l r .done b n m, [], -1) := by
  obtain ⟨e1, e2⟩ := endL (x := x) (l := l) (r := r) (m := m) (post := post) h b
  obtain ⟨a1, a2, a3⟩ := duo_at (x := x) (l := l) (r := r) (m := m) (post := post) h .done b
  have := EndRuns.dry (k := n) (u := x) e1 (hd_up _ _ _ _ _ _) (by rw [e2]; exact a1) h3 (by rw [e2, hl]; exact a2) (by rw [e2, hr]; exact a3) ((hd_done _ _ _ _ _ _).trans hb) (hd_onR _ _ _ _ _ _)
  rwa [e2] at this
theorem stepBothL (h : pre.length = n) (h3 : x.kind = 3) (hl : x.left = n + 1) (hr : x.right = n + 1 + sz l) (ho : EndRuns (duo pre post x l r .done .done n m) q n o) :
    EndRuns ((pre ++ [x]) ++ imgU l (n + 1) m n false ++ (img r .done (n + 1 + sz l) (m + l.size) n true ++ post)) q (n + 1) o := by
  obtain ⟨e1, e2⟩ := endL (x := x) (l := l) (r := r) (m := m) (post := post) h .done
  obtain ⟨a1, a2, a3⟩ := duo_at (x := x) (l := l) (r := r) (m := m) (post := post) h .done .done
  exact EndRuns.both (k := n) (u := x) e1 (hd_up _ _ _ _ _ _) (by rw [e2]; exact a1) h3 (by rw [e2, hl]; exact a2) (by rw [e2, hr]; exact a3) (hd_done _ _ _ _ _ _) (hd_done _ _ _ _ _ _) (by rw [e2]; exact ho)
theorem stepBothR (h : pre.length = n) (h3 : x.kind = 3) (hl : x.left = n + 1) (hr : x.right = n + 1 + sz l) (ho : EndRuns (duo pre post x l r .done .done n m) q n o) :
    EndRuns ((pre ++ x :: img l .done (n + 1) m n false) ++ imgU r (n + 1 + sz l) (m + l.size) n true ++ post) q (n + 1 + sz l) o := by
  obtain ⟨e1, e2⟩ := endR (x := x) (l := l) (r := r) (m := m) (post := post) h .done
  obtain ⟨a1, a2, a3⟩ := duo_at (x := x) (l := l) (r := r) (m := m) (post := post) h .done .done
  exact EndRuns.both (k := n) (u := x) e1 (hd_up _ _ _ _ _ _) (by rw [e2]; exact a1) h3 (by rw [e2, hl]; exact a2) (by rw [e2, hr]; exact a3) (hd_done _ _ _ _ _ _) (hd_done _ _ _ _ _ _) (by rw [e2]; exact ho)
theorem stepWait (h : pre.length = n) (h3 : x.kind = 3) (hl : x.left = n + 1) (hr : x.right = n + 1 + sz l) {a : S} (ha : a.isD = false) :
    EndRuns ((pre ++ x :: img l a (n + 1) m n false) ++ imgU r (n + 1 + sz l) (m + l.size) n true ++ post) q (n + 1 + sz l) (duo pre post x l r a .done n m, q, -1) := by
  obtain ⟨e1, e2⟩ := endR (x := x) (l := l) (r := r) (m := m) (post := post) h a
  obtain ⟨a1, a2, a3⟩ := duo_at (x := x) (l := l) (r := r) (m := m) (post := post) h a .done
  have := EndRuns.onR (q := q) (k := n) (u := x) e1 (hd_up _ _ _ _ _ _) (by rw [e2]; exact a1) h3 (by rw [e2, hl]; exact a2) (by rw [e2, hr]; exact a3) ((hd_done _ _ _ _ _ _).trans ha) (hd_onR _ _ _ _ _ _)
  rwa [e2] at this
end

/-- what lies there of two, not all done -/
theorem img_duo (pre post : List Part) (par : Bool) (l r : T) (s : S) (n m : Nat) (up : Int) (onR : Bool) (hs : s.isD = false) : pre ++ img (.two par l r) s n m up onR ++ post = duo pre post (hd (.two par l r) .fresh n m up onR) l r s.sl s.sr n m := by
  rw [img, hd_two par l r s .fresh hs]; simp [duo]
theorem imgU_duo (pre post : List Part) (par : Bool) (l r : T) (n m : Nat) (up : Int) (onR : Bool) : pre ++ imgU (.two par l r) n m up onR ++ post = duo pre post (hd (.two par l r) .fresh n m up onR) l r .done .done n m := by
  rw [imgU_two]; simp [duo]

theorem fin_runs (w : Nat) : ∀ (t : T) (s : S) (n m : Nat) (up : Int) (onR : Bool) (pre post : List Part) (q0 : List Nat), pre.length = n → Act t s → w ∈ s.ws → s.ws.Nodup → (s.main = some w ∨ q0 = []) → q0.length + sz t ≤ 1099511627776 →
    (fin w t s ≠ .done → EndRuns (pre ++ img t s n m up onR ++ post) (q0 ++ seg t s n w) (loc t s n w) (pre ++ img t (fin w t s) n m up onR ++ post, (if w ∈ (fin w t s).ws then q0 ++ seg t (fin w t s) n w else []), (if w ∈ (fin w t s).ws then (loc t (fin w t s) n w : Int) else -1))) ∧
    (fin w t s = .done → ∀ o, EndRuns (pre ++ imgU t n m up onR ++ post) q0 n o → EndRuns (pre ++ img t s n m up onR ++ post) (q0 ++ seg t s n w) (loc t s n w) o)
  | .nil, s, _, _, _, _, _, _, _, _, h, _, _, _, _ => h.elim
  | .one c b lb, s, n, m, up, onR, pre, post, q0, hn, h, hw, hd_, hm, hL => by
    cases s with
    | «at» v => exact ⟨fun h => absurd rfl h, fun _ o ho => by simpa [seg, loc, img, imgU, tl, hd, S.isD] using ho⟩
    | _ => exact h.elim
  | .two false l r, s, n, m, up, onR, pre, post, q0, hn, h, hw, hd_, hm, hL => by
    rw [sz] at hL
    obtain ⟨x, hx⟩ : ∃ x, x = hd (.two false l r) .fresh n m up onR := ⟨_, rfl⟩
    have x2 : x.kind = 2 := by rw [hx]; rfl
    have xr : x.right = n + 1 + sz l := by rw [hx]; rfl
    have IR := start_runs w r (n + 1 + sz l) (m + l.size) n true (pre ++ x :: img l .done (n + 1) m n false) post q0 (len_r hn .done) (by omega)
    cases s with
    | seqL s =>
      have IL := fin_runs w l s (n + 1) m n false (pre ++ [x]) (img r .fresh (n + 1 + sz l) (m + l.size) n true ++ post) q0 (len_l hn) h hw hd_ hm (by omega)
      have hs : ∀ s' : S, pre ++ img (.two false l r) (.seqL s') n m up onR ++ post = (pre ++ [x]) ++ img l s' (n + 1) m n false ++ (img r .fresh (n + 1 + sz l) (m + l.size) n true ++ post) := fun s' => by
        rw [img_duo _ _ _ _ _ _ _ _ _ _ rfl, ← hx, duo_l]; rfl
      by_cases e : fin w l s = .done
      · by_cases er : start w r = .done
        · have E : fin w (.two false l r) (.seqL s) = .done := by simp [fin, e, er]
          rw [E]
          refine ⟨fun h => absurd rfl h, fun _ o ho => ?_⟩
          rw [hs]
          refine IL.2 e o (stepSeqL hn x2 xr (IR.2 er o (stepSeqR hn x2 ?_)))
          rw [imgU_duo, ← hx] at ho
          exact ho
        · have E : fin w (.two false l r) (.seqL s) = .seqR (start w r) := by simp [fin, e, er]
          obtain ⟨g1, g2, g3⟩ := (start_ok w r).resolve_left er
          rw [E]
          refine ⟨fun _ => ?_, fun h => by cases h⟩
          rw [hs]
          refine IL.2 e _ (stepSeqL hn x2 xr ?_)
          have := IR.1 er
          rw [img_duo _ _ _ _ _ _ _ _ _ _ rfl, ← hx]
          have hin : w ∈ (S.seqR (start w r)).ws := by show w ∈ (start w r).ws; rw [g3]; simp
          rw [if_pos hin, if_pos hin]
          exact this
      · have E : fin w (.two false l r) (.seqL s) = .seqL (fin w l s) := by simp [fin, e]
        rw [E]
        refine ⟨fun _ => ?_, fun h => by cases h⟩
        rw [hs, hs]
        exact IL.1 e
    | seqR s =>
      have IL := fin_runs w r s (n + 1 + sz l) (m + l.size) n true (pre ++ x :: img l .done (n + 1) m n false) post q0 (len_r hn .done) h hw hd_ hm (by omega)
      have hs : ∀ s' : S, pre ++ img (.two false l r) (.seqR s') n m up onR ++ post = (pre ++ x :: img l .done (n + 1) m n false) ++ img r s' (n + 1 + sz l) (m + l.size) n true ++ post := fun s' => by
        rw [img_duo _ _ _ _ _ _ _ _ _ _ rfl, ← hx]; rfl
      by_cases e : fin w r s = .done
      · have E : fin w (.two false l r) (.seqR s) = .done := by simp [fin, e]
        rw [E]
        refine ⟨fun h => absurd rfl h, fun _ o ho => ?_⟩
        rw [hs]
        refine IL.2 e o (stepSeqR hn x2 ?_)
        rw [imgU_duo, ← hx] at ho
        exact ho
      · have E : fin w (.two false l r) (.seqR s) = .seqR (fin w r s) := by simp [fin, e]
        rw [E]
        refine ⟨fun _ => ?_, fun h => by cases h⟩
        rw [hs, hs]
        exact IL.1 e
    | _ => exact h.elim
  | .two true l r, s, n, m, up, onR, pre, post, q0, hn, h, hw, hd_, hm, hL => by
    rw [sz] at hL
    obtain ⟨x, hx⟩ : ∃ x, x = hd (.two true l r) .fresh n m up onR := ⟨_, rfl⟩
    have x3 : x.kind = 3 := by rw [hx]; rfl
    have xl : x.left = n + 1 := by rw [hx]; rfl
    have xr : x.right = n + 1 + sz l := by rw [hx]; rfl
    have IR := start_runs w r (n + 1 + sz l) (m + l.size) n true (pre ++ x :: img l .done (n + 1) m n false) post q0 (len_r hn .done) (by omega)
    cases s with
    | parQ s =>
      have hmain : s.main = some w := by
        rcases hm' : s.main with _ | v
        · exact absurd hm' h.2
        · have := main_only l s v h.1 hm'
          rw [S.ws, this] at hw
          rw [List.mem_singleton.1 hw]
      have FO := fin_ok w l s h.1 hw hd_
      have IL := fin_runs w l s (n + 1) m n false (pre ++ [x]) (img r .fresh (n + 1 + sz l) (m + l.size) n true ++ post) (q0 ++ [n + 1 + sz l]) (len_l hn) h.1 hw hd_ (.inl hmain) (by rw [List.length_append, List.length_singleton]; omega)
      have hs : ∀ s' : S, pre ++ img (.two true l r) (.parQ s') n m up onR ++ post = (pre ++ [x]) ++ img l s' (n + 1) m n false ++ (img r .fresh (n + 1 + sz l) (m + l.size) n true ++ post) := fun s' => by
        rw [img_duo _ _ _ _ _ _ _ _ _ _ rfl, ← hx, duo_l]; rfl
      have hq : q0 ++ seg (.two true l r) (.parQ s) n w = (q0 ++ [n + 1 + sz l]) ++ seg l s (n + 1) w := by
        show q0 ++ (_ :: _) = _; simp
      rw [hq]
      by_cases e : fin w l s = .done
      · by_cases er : start w r = .done
        · have E : fin w (.two true l r) (.parQ s) = .done := by simp [fin, e, er]
          rw [E]
          refine ⟨fun h => absurd rfl h, fun _ o ho => ?_⟩
          rw [hs]
          refine IL.2 e o (stepPop hn x3 xl xr rfl (IR.2 er o (stepBothR hn x3 xl xr ?_)))
          rw [imgU_duo, ← hx] at ho
          exact ho
        · have E : fin w (.two true l r) (.parQ s) = .parB .done (start w r) := by simp [fin, e, er]
          obtain ⟨g1, g2, g3⟩ := (start_ok w r).resolve_left er
          rw [E]
          refine ⟨fun _ => ?_, fun h => by cases h⟩
          rw [hs]
          refine IL.2 e _ (stepPop hn x3 xl xr rfl ?_)
          have := IR.1 er
          rw [img_duo _ _ _ _ _ _ _ _ _ _ rfl, ← hx]
          have hin : w ∈ (S.parB .done (start w r)).ws := by show w ∈ [] ++ (start w r).ws; rw [g3]; simp
          rw [if_pos hin, if_pos hin]
          exact this
      · have E : fin w (.two true l r) (.parQ s) = .parQ (fin w l s) := by simp [fin, e]
        rw [E]
        refine ⟨fun _ => ?_, fun h => by cases h⟩
        have := IL.1 e
        have hin : w ∈ (fin w l s).ws := by
          rw [main_only l _ w (FO.act e) (FO.main hmain e)]; simp
        rw [if_pos hin, if_pos hin] at this
        rw [hs, hs, if_pos (show w ∈ (S.parQ (fin w l s)).ws from hin), if_pos (show w ∈ (S.parQ (fin w l s)).ws from hin)]
        have hq' : q0 ++ seg (.two true l r) (.parQ (fin w l s)) n w = (q0 ++ [n + 1 + sz l]) ++ seg l (fin w l s) (n + 1) w := by
          show q0 ++ (_ :: _) = _; simp
        rw [hq']
        exact this
    | parB a b =>
      obtain ⟨h1, h2, h3⟩ := h
      obtain ⟨da, db, dab⟩ := nodup_two hd_
      have hs : ∀ a' b' : S, pre ++ img (.two true l r) (.parB a' b') n m up onR ++ post = duo pre post x l r a' b' n m := fun a' b' => by
        rw [img_duo _ _ _ _ _ _ _ _ _ _ rfl, ← hx]; rfl
      have hcl : ∀ (a' b' : S), loc (.two true l r) (.parB a' b') n w = if w ∈ a'.ws then loc l a' (n + 1) w else loc r b' (n + 1 + sz l) w := fun _ _ => rfl
      have hcs : ∀ (a' b' : S), seg (.two true l r) (.parB a' b') n w = if w ∈ a'.ws then seg l a' (n + 1) w else seg r b' (n + 1 + sz l) w := fun _ _ => rfl
      by_cases hwa : w ∈ a.ws
      · have ha : Act l a := h1.resolve_left (fun e => by rw [e] at hwa; cases hwa)
        have hwb : w ∉ b.ws := dab w hwa
        have hq0 : q0 = [] := hm.resolve_left fun e => by simp [S.main, ha.not_done] at e
        subst hq0
        have IL := fin_runs w l a (n + 1) m n false (pre ++ [x]) (img r b (n + 1 + sz l) (m + l.size) n true ++ post) [] (len_l hn) ha hwa da (.inr rfl) (by simp at hL ⊢; omega)
        rw [hcl, hcs, if_pos hwa, if_pos hwa, hs]
        by_cases e : fin w l a = .done
        · by_cases eb : b = .done
          · have E : fin w (.two true l r) (.parB a b) = .done := by simp [fin, hwa, e, eb]
            rw [E]
            refine ⟨fun h => absurd rfl h, fun _ o ho => ?_⟩
            rw [duo_l]
            refine IL.2 e o ?_
            subst eb
            rw [imgU_duo, ← hx] at ho
            exact stepBothL hn x3 xl xr ho
          · have E : fin w (.two true l r) (.parB a b) = .parB .done b := by simp [fin, hwa, e, eb]
            rw [E]
            refine ⟨fun _ => ?_, fun h => by cases h⟩
            have hin : w ∉ (S.parB .done b).ws := by simpa [S.ws] using hwb
            rw [if_neg hin, if_neg hin, hs, duo_l]
            exact IL.2 e _ (stepDry hn x3 xl xr ((h2.resolve_left eb).isD))
        · have E : fin w (.two true l r) (.parB a b) = .parB (fin w l a) b := by simp [fin, hwa, e]
          rw [E]
          refine ⟨fun _ => ?_, fun h => by cases h⟩
          have := IL.1 e
          rw [hs, duo_l, duo_l]
          by_cases hin : w ∈ (fin w l a).ws
          · have hin' : w ∈ (S.parB (fin w l a) b).ws := List.mem_append_left _ hin
            rw [if_pos hin, if_pos hin] at this
            rw [if_pos hin', if_pos hin', hcl, hcs, if_pos hin, if_pos hin]
            exact this
          · have hin' : w ∉ (S.parB (fin w l a) b).ws := fun h => (List.mem_append.1 h).elim hin hwb
            rw [if_neg hin, if_neg hin] at this
            rw [if_neg hin', if_neg hin']
            exact this
      · have hwb : w ∈ b.ws := (List.mem_append.1 hw).resolve_left hwa
        have hb : Act r b := h2.resolve_left (fun e => by rw [e] at hwb; cases hwb)
        have hmb : b.main = some w ∨ q0 = [] := by
          rcases hm with hm | hm
          · left
            by_cases ea : a = .done
            · subst ea; simpa [S.main] using hm
            · simp [S.main, ea] at hm
          · exact .inr hm
        have IL := fin_runs w r b (n + 1 + sz l) (m + l.size) n true (pre ++ x :: img l a (n + 1) m n false) post q0 (len_r hn a) hb hwb db hmb (by omega)
        rw [hcl, hcs, if_neg hwa, if_neg hwa, hs]
        by_cases e : fin w r b = .done
        · by_cases ea : a = .done
          · have E : fin w (.two true l r) (.parB a b) = .done := by simp [fin, e, ea, S.ws]
            rw [E]
            refine ⟨fun h => absurd rfl h, fun _ o ho => IL.2 e o ?_⟩
            subst ea
            rw [imgU_duo, ← hx] at ho
            exact stepBothR hn x3 xl xr ho
          · have E : fin w (.two true l r) (.parB a b) = .parB a .done := by simp [fin, hwa, e, ea]
            have hq0 : q0 = [] := hm.resolve_left fun e => by simp [S.main, ea] at e
            rw [E]
            refine ⟨fun _ => ?_, fun h => by cases h⟩
            have hin : w ∉ (S.parB a .done).ws := by simpa [S.ws] using hwa
            rw [if_neg hin, if_neg hin, hs]
            have := IL.2 e _ (stepWait (q := q0) hn x3 xl xr ((h1.resolve_left ea).isD))
            rw [hq0] at this ⊢
            exact this
        · have E : fin w (.two true l r) (.parB a b) = .parB a (fin w r b) := by simp [fin, hwa, e]
          rw [E]
          refine ⟨fun _ => ?_, fun h => by cases h⟩
          have := IL.1 e
          rw [hs]
          by_cases hin : w ∈ (fin w r b).ws
          · have hin' : w ∈ (S.parB a (fin w r b)).ws := List.mem_append_right _ hin
            rw [if_pos hin, if_pos hin] at this
            rw [if_pos hin', if_pos hin', hcl, hcs, if_neg hwa, if_neg hwa]
            exact this
          · have hin' : w ∉ (S.parB a (fin w r b)).ws := fun h => (List.mem_append.1 h).elim hwa hin
            rw [if_neg hin, if_neg hin] at this
            rw [if_neg hin', if_neg hin']
            exact this
    | _ => exact h.elim
end Go.Proofs.Ytajddbmmbhdnfaa.Stl
