/-
  Workers who steal from each other: a part is stolen; what a pick does; all picks.
-/
import Derived.Test.YtajddbmmbhdnfaaStlRun
namespace Go.Proofs.Ytajddbmmbhdnfaa.Stl
set_option linter.unusedVariables false
set_option linter.unusedSimpArgs false
set_option maxRecDepth 100000
open Sp

def steal (v w : Nat) : T → S → S
  | .two _ l _, .seqL s => .seqL (steal v w l s)
  | .two _ _ r, .seqR s => .seqR (steal v w r s)
  | .two _ _ r, .parQ s => .parB s (start v r)
  | .two _ l r, .parB a b => if w ∈ a.ws then .parB (steal v w l a) b else .parB a (steal v w r b)
  | _, s => s

structure StealOK (v w : Nat) (t : T) (s : S) : Prop where
  act : Act t (steal v w t s)
  sub : ∀ u ∈ (steal v w t s).ws, u = v ∨ u ∈ s.ws
  nodup : (steal v w t s).ws.Nodup
  keep : ∀ u ∈ s.ws, u ∈ (steal v w t s).ws
  loc : ∀ n, ∀ u ∈ s.ws, loc t (steal v w t s) n u = loc t s n u
  seg : ∀ n, ∀ u ∈ s.ws, seg t (steal v w t s) n u = if u = w then (seg t s n u).tail else seg t s n u

theorem steal_ok (v w : Nat) : ∀ (t : T) (s : S) (n0 : Nat), Act t s → w ∈ s.ws → s.ws.Nodup → seg t s n0 w ≠ [] → v ∉ s.ws → StealOK v w t s
  | .nil, s, _, h, _, _, _, _ => h.elim
  | .one _ _ _, s, _, h, _, _, hs, _ => by
    cases s with
    | «at» u => exact absurd rfl hs
    | _ => exact h.elim
  | .two false l r, s, n0, h, hw, hd, hs, hv => by
    cases s with
    | seqL s =>
      obtain ⟨f1, f2, f3, f4, f5, f6⟩ := steal_ok v w l s (n0 + 1) h hw hd hs hv
      exact ⟨f1, f2, f3, f4, fun n => f5 _, fun n => f6 _⟩
    | seqR s =>
      obtain ⟨f1, f2, f3, f4, f5, f6⟩ := steal_ok v w r s (n0 + 1 + sz l) h hw hd hs hv
      exact ⟨f1, f2, f3, f4, fun n => f5 _, fun n => f6 _⟩
    | _ => exact h.elim
  | .two true l r, s, n0, h, hw, hd, hs, hv => by
    cases s with
    | parQ s =>
      have E : steal v w (.two true l r) (.parQ s) = .parB s (start v r) := rfl
      have hone : s.ws = [w] := by
        rcases hm : s.main with _ | u
        · exact absurd hm h.2
        · have := main_only l s u h.1 hm
          have hw' : w ∈ s.ws := hw
          rw [this] at hw' ⊢
          rw [List.mem_singleton.1 hw']
      have hst : ∀ u ∈ (start v r).ws, u = v := fun u hu => by
        rcases start_ok v r with e | ⟨-, -, e⟩
        · rw [e] at hu; cases hu
        · rw [e] at hu; simpa using hu
      have hsn : (start v r).ws.Nodup := by
        rcases start_ok v r with e | ⟨-, -, e⟩
        · rw [e]; simp [S.ws]
        · rw [e]; simp
      refine ⟨?_, ?_, ?_, ?_, ?_, ?_⟩
      · rw [E]
        refine ⟨.inr h.1, ?_, fun e => h.1.not_done e.1⟩
        rcases start_ok v r with e | ⟨e, -, -⟩
        · exact .inl e
        · exact .inr e
      · rw [E]; intro u hu
        rcases List.mem_append.1 hu with hu | hu
        · exact .inr hu
        · exact .inl (hst u hu)
      · rw [E]
        exact List.nodup_append.2 ⟨hd, hsn, fun x hx y hy e => by rw [e, hst y hy] at hx; exact hv hx⟩
      · rw [E]; exact fun u hu => List.mem_append_left _ hu
      · rw [E]; intro n u hu
        show (if u ∈ s.ws then _ else _) = _
        rw [if_pos (show u ∈ s.ws from hu)]; rfl
      · rw [E]; intro n u hu
        have hu' : u ∈ s.ws := hu
        have : u = w := by rw [hone] at hu'; simpa using hu'
        show (if u ∈ s.ws then seg l s (n + 1) u else _) = _
        rw [if_pos hu', if_pos this]
        rfl
    | parB a b =>
      obtain ⟨h1, h2, h3⟩ := h
      obtain ⟨da, db, dab⟩ := nodup_two hd
      have hva : v ∉ a.ws := fun h => hv (List.mem_append_left _ h)
      have hvb : v ∉ b.ws := fun h => hv (List.mem_append_right _ h)
      have hcl : ∀ (a' b' : S) (n u : Nat), Stl.loc (.two true l r) (.parB a' b') n u = if u ∈ a'.ws then Stl.loc l a' (n + 1) u else Stl.loc r b' (n + 1 + sz l) u := fun _ _ _ _ => rfl
      have hcs : ∀ (a' b' : S) (n u : Nat), Stl.seg (.two true l r) (.parB a' b') n u = if u ∈ a'.ws then Stl.seg l a' (n + 1) u else Stl.seg r b' (n + 1 + sz l) u := fun _ _ _ _ => rfl
      rw [hcs] at hs
      by_cases hwa : w ∈ a.ws
      · have ha : Act l a := h1.resolve_left (fun e => by rw [e] at hwa; cases hwa)
        rw [if_pos hwa] at hs
        obtain ⟨f1, f2, f3, f4, f5, f6⟩ := steal_ok v w l a (n0 + 1) ha hwa da hs hva
        have E : steal v w (.two true l r) (.parB a b) = .parB (steal v w l a) b := by simp [steal, hwa]
        refine ⟨?_, ?_, ?_, ?_, ?_, ?_⟩
        · rw [E]; exact ⟨.inr f1, h2, fun e => f1.not_done e.1⟩
        · rw [E]; intro u hu
          rcases List.mem_append.1 hu with hu | hu
          · exact (f2 u hu).imp id (List.mem_append_left _)
          · exact .inr (List.mem_append_right _ hu)
        · rw [E]; exact List.nodup_append.2 ⟨f3, db, fun x hx y hy e => by
            rcases f2 x hx with h | h
            · rw [← e, h] at hy; exact hvb hy
            · exact dab x h (by rw [e]; exact hy)⟩
        · rw [E]; intro u hu
          rcases List.mem_append.1 hu with hu | hu
          · exact List.mem_append_left _ (f4 u hu)
          · exact List.mem_append_right _ hu
        · rw [E]; intro n u hu
          rw [hcl, hcl]
          by_cases hua : u ∈ a.ws
          · rw [if_pos hua, if_pos (f4 u hua)]; exact f5 _ u hua
          · have hub : u ∈ b.ws := (List.mem_append.1 hu).resolve_left hua
            rw [if_neg hua, if_neg (fun h => (f2 u h).elim (fun e => hvb (e ▸ hub)) hua)]
        · rw [E]; intro n u hu
          rw [hcs, hcs]
          by_cases hua : u ∈ a.ws
          · rw [if_pos hua, if_pos (f4 u hua)]; exact f6 _ u hua
          · have hub : u ∈ b.ws := (List.mem_append.1 hu).resolve_left hua
            rw [if_neg hua, if_neg (fun h => (f2 u h).elim (fun e => hvb (e ▸ hub)) hua), if_neg (fun e => hua (by rw [e]; exact hwa))]
      · have hwb : w ∈ b.ws := (List.mem_append.1 hw).resolve_left hwa
        have hb : Act r b := h2.resolve_left (fun e => by rw [e] at hwb; cases hwb)
        rw [if_neg hwa] at hs
        obtain ⟨f1, f2, f3, f4, f5, f6⟩ := steal_ok v w r b (n0 + 1 + sz l) hb hwb db hs hvb
        have E : steal v w (.two true l r) (.parB a b) = .parB a (steal v w r b) := by simp [steal, hwa]
        refine ⟨?_, ?_, ?_, ?_, ?_, ?_⟩
        · rw [E]; exact ⟨h1, .inr f1, fun e => f1.not_done e.2⟩
        · rw [E]; intro u hu
          rcases List.mem_append.1 hu with hu | hu
          · exact .inr (List.mem_append_left _ hu)
          · exact (f2 u hu).imp id (List.mem_append_right _)
        · rw [E]; exact List.nodup_append.2 ⟨da, f3, fun x hx y hy e => by
            rcases f2 y hy with h | h
            · rw [e, h] at hx; exact hva hx
            · exact dab x hx (by rw [e]; exact h)⟩
        · rw [E]; intro u hu
          rcases List.mem_append.1 hu with hu | hu
          · exact List.mem_append_left _ hu
          · exact List.mem_append_right _ (f4 u hu)
        · rw [E]; intro n u hu
          rw [hcl, hcl]
          by_cases hua : u ∈ a.ws
          · rw [if_pos hua, if_pos hua]
          · rw [if_neg hua, if_neg hua]
            exact f5 _ u ((List.mem_append.1 hu).resolve_left hua)
        · rw [E]; intro n u hu
          rw [hcs, hcs]
          by_cases hua : u ∈ a.ws
          · rw [if_pos hua, if_pos hua, if_neg (fun e => hwa (by rw [← e]; exact hua))]
          · rw [if_neg hua, if_neg hua]
            exact f6 _ u ((List.mem_append.1 hu).resolve_left hua)
    | _ => exact h.elim

theorem steal_runs (v w : Nat) : ∀ (t : T) (s : S) (n m : Nat) (up : Int) (onR : Bool) (pre post : List Part) (k : Nat) (rest : List Nat), pre.length = n → Act t s → w ∈ s.ws → s.ws.Nodup → seg t s n w = k :: rest → v ∉ s.ws → sz t ≤ 1099511627776 →
    Runs (pre ++ img t s n m up onR ++ post) [] k (pre ++ img t (steal v w t s) n m up onR ++ post, (if v ∈ (steal v w t s).ws then seg t (steal v w t s) n v else []), (if v ∈ (steal v w t s).ws then (loc t (steal v w t s) n v : Int) else -1))
  | .nil, s, _, _, _, _, _, _, _, _, _, h, _, _, _, _, _ => h.elim
  | .one _ _ _, s, n, m, up, onR, pre, post, k, rest, hn, h, hw, hd, hs, hv, hL => by
    cases s with
    | «at» u => simp [seg] at hs
    | _ => exact h.elim
  | .two false l r, s, n, m, up, onR, pre, post, k, rest, hn, h, hw, hd_, hs, hv, hL => by
    rw [sz] at hL
    obtain ⟨x, hx⟩ : ∃ x, x = hd (.two false l r) .fresh n m up onR := ⟨_, rfl⟩
    cases s with
    | seqL s =>
      have hs' : ∀ s' : S, pre ++ img (.two false l r) (.seqL s') n m up onR ++ post = (pre ++ [x]) ++ img l s' (n + 1) m n false ++ (img r .fresh (n + 1 + sz l) (m + l.size) n true ++ post) := fun s' => by
        rw [img_duo _ _ _ _ _ _ _ _ _ _ rfl, ← hx, duo_l]; rfl
      have := steal_runs v w l s (n + 1) m n false (pre ++ [x]) (img r .fresh (n + 1 + sz l) (m + l.size) n true ++ post) k rest (len_l hn) h hw hd_ hs hv (by omega)
      show Runs _ _ _ (pre ++ img (.two false l r) (.seqL (steal v w l s)) n m up onR ++ post, _)
      rw [hs', hs']
      exact this
    | seqR s =>
      have hs' : ∀ s' : S, pre ++ img (.two false l r) (.seqR s') n m up onR ++ post = (pre ++ x :: img l .done (n + 1) m n false) ++ img r s' (n + 1 + sz l) (m + l.size) n true ++ post := fun s' => by
        rw [img_duo _ _ _ _ _ _ _ _ _ _ rfl, ← hx]; rfl
      have := steal_runs v w r s (n + 1 + sz l) (m + l.size) n true (pre ++ x :: img l .done (n + 1) m n false) post k rest (len_r hn .done) h hw hd_ hs hv (by omega)
      show Runs _ _ _ (pre ++ img (.two false l r) (.seqR (steal v w r s)) n m up onR ++ post, _)
      rw [hs', hs']
      exact this
    | _ => exact h.elim
  | .two true l r, s, n, m, up, onR, pre, post, k, rest, hn, h, hw, hd_, hs, hv, hL => by
    rw [sz] at hL
    obtain ⟨x, hx⟩ : ∃ x, x = hd (.two true l r) .fresh n m up onR := ⟨_, rfl⟩
    have x3 : x.kind = 3 := by rw [hx]; rfl
    have xl : x.left = n + 1 := by rw [hx]; rfl
    have xr : x.right = n + 1 + sz l := by rw [hx]; rfl
    have hcl : ∀ (a' b' : S), loc (.two true l r) (.parB a' b') n v = if v ∈ a'.ws then loc l a' (n + 1) v else loc r b' (n + 1 + sz l) v := fun _ _ => rfl
    have hcs : ∀ (a' b' : S) (u : Nat), seg (.two true l r) (.parB a' b') n u = if u ∈ a'.ws then seg l a' (n + 1) u else seg r b' (n + 1 + sz l) u := fun _ _ _ => rfl
    have hs' : ∀ a' b' : S, pre ++ img (.two true l r) (.parB a' b') n m up onR ++ post = duo pre post x l r a' b' n m := fun a' b' => by
      rw [img_duo _ _ _ _ _ _ _ _ _ _ rfl, ← hx]; rfl
    cases s with
    | parQ s =>
      have hk : k = n + 1 + sz l := by
        have : (n + 1 + sz l) :: seg l s (n + 1) w = k :: rest := hs
        injection this with e _
        exact e.symm
      have hvs : v ∉ s.ws := hv
      have IR := start_runs v r (n + 1 + sz l) (m + l.size) n true (pre ++ x :: img l s (n + 1) m n false) post [] (len_r hn s) (by simp; omega)
      have e0 : pre ++ img (.two true l r) (.parQ s) n m up onR ++ post = duo pre post x l r s .fresh n m := by
        rw [img_duo _ _ _ _ _ _ _ _ _ _ rfl, ← hx]; rfl
      show Runs _ _ _ (pre ++ img (.two true l r) (.parB s (start v r)) n m up onR ++ post, (if v ∈ (S.parB s (start v r)).ws then seg (.two true l r) (.parB s (start v r)) n v else []), (if v ∈ (S.parB s (start v r)).ws then (loc (.two true l r) (.parB s (start v r)) n v : Int) else -1))
      rw [e0, hs', hk]
      by_cases er : start v r = .done
      · have hin : v ∉ (S.parB s (start v r)).ws := fun h => by
          rcases List.mem_append.1 h with h | h
          · exact hvs h
          · rw [er] at h; cases h
        rw [if_neg hin, if_neg hin, er]
        exact IR.2 er _ (stepWait (q := []) hn x3 xl xr h.1.isD)
      · obtain ⟨g1, g2, g3⟩ := (start_ok v r).resolve_left er
        have hin : v ∈ (S.parB s (start v r)).ws := List.mem_append_right _ (by rw [g3]; simp)
        rw [if_pos hin, if_pos hin, hcl, hcs, if_neg hvs, if_neg hvs]
        exact IR.1 er
    | parB a b =>
      obtain ⟨h1, h2, h3⟩ := h
      obtain ⟨da, db, dab⟩ := nodup_two hd_
      have hva : v ∉ a.ws := fun h => hv (List.mem_append_left _ h)
      have hvb : v ∉ b.ws := fun h => hv (List.mem_append_right _ h)
      rw [hcs] at hs
      by_cases hwa : w ∈ a.ws
      · have ha : Act l a := h1.resolve_left (fun e => by rw [e] at hwa; cases hwa)
        rw [if_pos hwa] at hs
        have E : steal v w (.two true l r) (.parB a b) = .parB (steal v w l a) b := by simp [steal, hwa]
        have := steal_runs v w l a (n + 1) m n false (pre ++ [x]) (img r b (n + 1 + sz l) (m + l.size) n true ++ post) k rest (len_l hn) ha hwa da hs hva (by omega)
        rw [E, hs', hs', duo_l, duo_l]
        by_cases hin : v ∈ (steal v w l a).ws
        · have hin' : v ∈ (S.parB (steal v w l a) b).ws := List.mem_append_left _ hin
          rw [if_pos hin, if_pos hin] at this
          rw [if_pos hin', if_pos hin', hcl, hcs, if_pos hin, if_pos hin]
          exact this
        · have hin' : v ∉ (S.parB (steal v w l a) b).ws := fun h => (List.mem_append.1 h).elim hin hvb
          rw [if_neg hin, if_neg hin] at this
          rw [if_neg hin', if_neg hin']
          exact this
      · have hwb : w ∈ b.ws := (List.mem_append.1 hw).resolve_left hwa
        have hb : Act r b := h2.resolve_left (fun e => by rw [e] at hwb; cases hwb)
        rw [if_neg hwa] at hs
        have E : steal v w (.two true l r) (.parB a b) = .parB a (steal v w r b) := by simp [steal, hwa]
        have := steal_runs v w r b (n + 1 + sz l) (m + l.size) n true (pre ++ x :: img l a (n + 1) m n false) post k rest (len_r hn a) hb hwb db hs hvb (by omega)
        rw [E, hs', hs']
        by_cases hin : v ∈ (steal v w r b).ws
        · have hin' : v ∈ (S.parB a (steal v w r b)).ws := List.mem_append_right _ hin
          rw [if_pos hin, if_pos hin] at this
          rw [if_pos hin', if_pos hin', hcl, hcs, if_neg hva, if_neg hva]
          exact this
        · have hin' : v ∉ (S.parB a (steal v w r b)).ws := fun h => (List.mem_append.1 h).elim hva hin
          rw [if_neg hin, if_neg hin] at this
          rw [if_neg hin', if_neg hin']
          exact this
    | _ => exact h.elim
end Go.Proofs.Ytajddbmmbhdnfaa.Stl
