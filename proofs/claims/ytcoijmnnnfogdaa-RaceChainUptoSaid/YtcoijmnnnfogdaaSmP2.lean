/-
  A region that draws its order but for its last operations, which wait for all of it: the first ones are walked once under what stays, the last ones as they stand. No program is named here.
-/
import Derived.Test.YtcoijmnnnfogdaaSmP1
import Derived.BigQuiet
import Derived.Orders
import Derived.WalkKit
import Derived.StillTail

namespace Go.Proofs.Ytcoijmnnnfogdaa.Stl
set_option linter.unusedVariables false
set_option linter.unusedSimpArgs false
set_option maxRecDepth 100000
open Sp

def steal (v w : Nat) : T → S → S
  | .two _ l _, .seqL s => .seqL (steal v w l s)
  | .two _ _ r, .seqR s => .seqR (steal v w r s)
  | .two _ _ r, .parQ s => .parB s (start v r)
  | .two _ l r, .parB a b => if w ∈ a.ws then .parB (steal v w l a) b else .parB a (steal v w r b)
  | _, s => s

structure StealOK (v w : Nat) (t : T) (s : S) : Prop where
  act : Act t (steal v w t s)
  sub : ∀ u ∈ (steal v w t s).ws, u = v ∨ u ∈ s.ws
  nodup : (steal v w t s).ws.Nodup
  keep : ∀ u ∈ s.ws, u ∈ (steal v w t s).ws
  loc : ∀ n, ∀ u ∈ s.ws, loc t (steal v w t s) n u = loc t s n u
  seg : ∀ n, ∀ u ∈ s.ws, seg t (steal v w t s) n u = if u = w then (seg t s n u).tail else seg t s n u

theorem steal_ok (v w : Nat) : ∀ (t : T) (s : S) (n0 : Nat), Act t s → w ∈ s.ws → s.ws.Nodup → seg t s n0 w ≠ [] → v ∉ s.ws → StealOK v w t s
  | .nil, s, _, h, _, _, _, _ => h.elim
  | .one _ _ _, s, _, h, _, _, hs, _ => by
    cases s with
    | «at» u => exact absurd rfl hs
    | _ => exact h.elim
  | .two false l r, s, n0, h, hw, hd, hs, hv => by
    cases s with
    | seqL s =>
      obtain ⟨f1, f2, f3, f4, f5, f6⟩ := steal_ok v w l s (n0 + 1) h hw hd hs hv
      exact ⟨f1, f2, f3, f4, fun n => f5 _, fun n => f6 _⟩
    | seqR s =>
      obtain ⟨f1, f2, f3, f4, f5, f6⟩ := steal_ok v w r s (n0 + 1 + sz l) h hw hd hs hv
      exact ⟨f1, f2, f3, f4, fun n => f5 _, fun n => f6 _⟩
    | _ => exact h.elim
  | .two true l r, s, n0, h, hw, hd, hs, hv => by
    cases s with
    | parQ s =>
      have E : steal v w (.two true l r) (.parQ s) = .parB s (start v r) := rfl
      have hone : s.ws = [w] := by
        rcases hm : s.main with _ | u
        · exact absurd hm h.2
        · have := main_only l s u h.1 hm
          have hw' : w ∈ s.ws := hw
          rw [this] at hw' ⊢
          rw [List.mem_singleton.1 hw']
      have hst : ∀ u ∈ (start v r).ws, u = v := fun u hu => by
        rcases start_ok v r with e | ⟨-, -, e⟩
        · rw [e] at hu; cases hu
        · rw [e] at hu; simpa using hu
      have hsn : (start v r).ws.Nodup := by
        rcases start_ok v r with e | ⟨-, -, e⟩
        · rw [e]; simp [S.ws]
        · rw [e]; simp
      refine ⟨?_, ?_, ?_, ?_, ?_, ?_⟩
      · rw [E]
        refine ⟨.inr h.1, ?_, fun e => h.1.not_done e.1⟩
        rcases start_ok v r with e | ⟨e, -, -⟩
        · exact .inl e
        · exact .inr e
      · rw [E]; intro u hu
        rcases List.mem_append.1 hu with hu | hu
        · exact .inr hu
        · exact .inl (hst u hu)
      · rw [E]
        exact List.nodup_append.2 ⟨hd, hsn, fun x hx y hy e => by rw [e, hst y hy] at hx; exact hv hx⟩
      · rw [E]; exact fun u hu => List.mem_append_left _ hu
      · rw [E]; intro n u hu
        show (if u ∈ s.ws then _ else _) = _
        rw [if_pos (show u ∈ s.ws from hu)]; rfl
      · rw [E]; intro n u hu
        have hu' : u ∈ s.ws := hu
        have : u = w := by rw [hone] at hu'; simpa using hu'
        show (if u ∈ s.ws then seg l s (n + 1) u else _) = _
        rw [if_pos hu', if_pos this]
        rfl
    | parB a b =>
      obtain ⟨h1, h2, h3⟩ := h
      obtain ⟨da, db, dab⟩ := nodup_two hd
      have hva : v ∉ a.ws := fun h => hv (List.mem_append_left _ h)
      have hvb : v ∉ b.ws := fun h => hv (List.mem_append_right _ h)
      have hcl : ∀ (a' b' : S) (n u : Nat), Stl.loc (.two true l r) (.parB a' b') n u = if u ∈ a'.ws then Stl.loc l a' (n + 1) u else Stl.loc r b' (n + 1 + sz l) u := fun _ _ _ _ => rfl
      have hcs : ∀ (a' b' : S) (n u : Nat), Stl.seg (.two true l r) (.parB a' b') n u = if u ∈ a'.ws then Stl.seg l a' (n + 1) u else Stl.seg r b' (n + 1 + sz l) u := fun _ _ _ _ => rfl
      rw [hcs] at hs
      by_cases hwa : w ∈ a.ws
      · have ha : Act l a := h1.resolve_left (fun e => by rw [e] at hwa; cases hwa)
        rw [if_pos hwa] at hs
        obtain ⟨f1, f2, f3, f4, f5, f6⟩ := steal_ok v w l a (n0 + 1) ha hwa da hs hva
        have E : steal v w (.two true l r) (.parB a b) = .parB (steal v w l a) b := by simp [steal, hwa]
        refine ⟨?_, ?_, ?_, ?_, ?_, ?_⟩
        · rw [E]; exact ⟨.inr f1, h2, fun e => f1.not_done e.1⟩
        · rw [E]; intro u hu
          rcases List.mem_append.1 hu with hu | hu
          · exact (f2 u hu).imp id (List.mem_append_left _)
          · exact .inr (List.mem_append_right _ hu)
        · rw [E]; exact List.nodup_append.2 ⟨f3, db, fun x hx y hy e => by
            rcases f2 x hx with h | h
            · rw [← e, h] at hy; exact hvb hy
            · exact dab x h (by rw [e]; exact hy)⟩
        · rw [E]; intro u hu
          rcases List.mem_append.1 hu with hu | hu
          · exact List.mem_append_left _ (f4 u hu)
          · exact List.mem_append_right _ hu
        · rw [E]; intro n u hu
          rw [hcl, hcl]
          by_cases hua : u ∈ a.ws
          · rw [if_pos hua, if_pos (f4 u hua)]; exact f5 _ u hua
          · have hub : u ∈ b.ws := (List.mem_append.1 hu).resolve_left hua
            rw [if_neg hua, if_neg (fun h => (f2 u h).elim (fun e => hvb (e ▸ hub)) hua)]
        · rw [E]; intro n u hu
          rw [hcs, hcs]
          by_cases hua : u ∈ a.ws
          · rw [if_pos hua, if_pos (f4 u hua)]; exact f6 _ u hua
          · have hub : u ∈ b.ws := (List.mem_append.1 hu).resolve_left hua
            rw [if_neg hua, if_neg (fun h => (f2 u h).elim (fun e => hvb (e ▸ hub)) hua), if_neg (fun e => hua (by rw [e]; exact hwa))]
      · have hwb : w ∈ b.ws := (List.mem_append.1 hw).resolve_left hwa
        have hb : Act r b := h2.resolve_left (fun e => by rw [e] at hwb; cases hwb)
        rw [if_neg hwa] at hs
        obtain ⟨f1, f2, f3, f4, f5, f6⟩ := steal_ok v w r b (n0 + 1 + sz l) hb hwb db hs hvb
        have E : steal v w (.two true l r) (.parB a b) = .parB a (steal v w r b) := by simp [steal, hwa]
        refine ⟨?_, ?_, ?_, ?_, ?_, ?_⟩
        · rw [E]; exact ⟨h1, .inr f1, fun e => f1.not_done e.2⟩
        · rw [E]; intro u hu
          rcases List.mem_append.1 hu with hu | hu
          · exact .inr (List.mem_append_left _ hu)
          · exact (f2 u hu).imp id (List.mem_append_right _)
        · rw [E]; exact List.nodup_append.2 ⟨da, f3, fun x hx y hy e => by
            rcases f2 y hy with h | h
            · rw [e, h] at hx; exact hva hx
            · exact dab x hx (by rw [e]; exact h)⟩
        · rw [E]; intro u hu
          rcases List.mem_append.1 hu with hu | hu
          · exact List.mem_append_left _ hu
          · exact List.mem_append_right _ (f4 u hu)
        · rw [E]; intro n u hu
          rw [hcl, hcl]
          by_cases hua : u ∈ a.ws
          · rw [if_pos hua, if_pos hua]
          · rw [if_neg hua, if_neg hua]
            exact f5 _ u ((List.mem_append.1 hu).resolve_left hua)
        · rw [E]; intro n u hu
          rw [hcs, hcs]
          by_cases hua : u ∈ a.ws
          · rw [if_pos hua, if_pos hua, if_neg (fun e => hwa (by rw [← e]; exact hua))]
          · rw [if_neg hua, if_neg hua]
            exact f6 _ u ((List.mem_append.1 hu).resolve_left hua)
    | _ => exact h.elim

theorem steal_runs (v w : Nat) : ∀ (t : T) (s : S) (n m : Nat) (up : Int) (onR : Bool) (pre post : List Part) (k : Nat) (rest : List Nat), pre.length = n → Act t s → w ∈ s.ws → s.ws.Nodup → seg t s n w = k :: rest → v ∉ s.ws → sz t ≤ 1099511627776 →
    Runs (pre ++ img t s n m up onR ++ post) [] k (pre ++ img t (steal v w t s) n m up onR ++ post, (if v ∈ (steal v w t s).ws then seg t (steal v w t s) n v else []), (if v ∈ (steal v w t s).ws then (loc t (steal v w t s) n v : Int) else -1))
  | .nil, s, _, _, _, _, _, _, _, _, _, h, _, _, _, _, _ => h.elim
  | .one _ _ _, s, n, m, up, onR, pre, post, k, rest, hn, h, hw, hd, hs, hv, hL => by
    cases s with
    | «at» u => simp [seg] at hs
    | _ => exact h.elim
  | .two false l r, s, n, m, up, onR, pre, post, k, rest, hn, h, hw, hd_, hs, hv, hL => by
    rw [sz] at hL
    obtain ⟨x, hx⟩ : ∃ x, x = hd (.two false l r) .fresh n m up onR := ⟨_, rfl⟩
    cases s with
    | seqL s =>
      have hs' : ∀ s' : S, pre ++ img (.two false l r) (.seqL s') n m up onR ++ post = (pre ++ [x]) ++ img l s' (n + 1) m n false ++ (img r .fresh (n + 1 + sz l) (m + l.size) n true ++ post) := fun s' => by
        rw [img_duo _ _ _ _ _ _ _ _ _ _ rfl, ← hx, duo_l]; rfl
      have := steal_runs v w l s (n + 1) m n false (pre ++ [x]) (img r .fresh (n + 1 + sz l) (m + l.size) n true ++ post) k rest (len_l hn) h hw hd_ hs hv (by omega)
      show Runs _ _ _ (pre ++ img (.two false l r) (.seqL (steal v w l s)) n m up onR ++ post, _)
      rw [hs', hs']
      exact this
    | seqR s =>
      have hs' : ∀ s' : S, pre ++ img (.two false l r) (.seqR s') n m up onR ++ post = (pre ++ x :: img l .done (n + 1) m n false) ++ img r s' (n + 1 + sz l) (m + l.size) n true ++ post := fun s' => by
        rw [img_duo _ _ _ _ _ _ _ _ _ _ rfl, ← hx]; rfl
      have := steal_runs v w r s (n + 1 + sz l) (m + l.size) n true (pre ++ x :: img l .done (n + 1) m n false) post k rest (len_r hn .done) h hw hd_ hs hv (by omega)
      show Runs _ _ _ (pre ++ img (.two false l r) (.seqR (steal v w r s)) n m up onR ++ post, _)
      rw [hs', hs']
      exact this
    | _ => exact h.elim
  | .two true l r, s, n, m, up, onR, pre, post, k, rest, hn, h, hw, hd_, hs, hv, hL => by
    rw [sz] at hL
    obtain ⟨x, hx⟩ : ∃ x, x = hd (.two true l r) .fresh n m up onR := ⟨_, rfl⟩
    have x3 : x.kind = 3 := by rw [hx]; rfl
    have xl : x.left = n + 1 := by rw [hx]; rfl
    have xr : x.right = n + 1 + sz l := by rw [hx]; rfl
    have hcl : ∀ (a' b' : S), loc (.two true l r) (.parB a' b') n v = if v ∈ a'.ws then loc l a' (n + 1) v else loc r b' (n + 1 + sz l) v := fun _ _ => rfl
    have hcs : ∀ (a' b' : S) (u : Nat), seg (.two true l r) (.parB a' b') n u = if u ∈ a'.ws then seg l a' (n + 1) u else seg r b' (n + 1 + sz l) u := fun _ _ _ => rfl
    have hs' : ∀ a' b' : S, pre ++ img (.two true l r) (.parB a' b') n m up onR ++ post = duo pre post x l r a' b' n m := fun a' b' => by
      rw [img_duo _ _ _ _ _ _ _ _ _ _ rfl, ← hx]; rfl
    cases s with
    | parQ s =>
      have hk : k = n + 1 + sz l := by
        have : (n + 1 + sz l) :: seg l s (n + 1) w = k :: rest := hs
        injection this with e _
        exact e.symm
      have hvs : v ∉ s.ws := hv
      have IR := start_runs v r (n + 1 + sz l) (m + l.size) n true (pre ++ x :: img l s (n + 1) m n false) post [] (len_r hn s) (by simp; omega)
      have e0 : pre ++ img (.two true l r) (.parQ s) n m up onR ++ post = duo pre post x l r s .fresh n m := by
        rw [img_duo _ _ _ _ _ _ _ _ _ _ rfl, ← hx]; rfl
      show Runs _ _ _ (pre ++ img (.two true l r) (.parB s (start v r)) n m up onR ++ post, (if v ∈ (S.parB s (start v r)).ws then seg (.two true l r) (.parB s (start v r)) n v else []), (if v ∈ (S.parB s (start v r)).ws then (loc (.two true l r) (.parB s (start v r)) n v : Int) else -1))
      rw [e0, hs', hk]
      by_cases er : start v r = .done
      · have hin : v ∉ (S.parB s (start v r)).ws := fun h => by
          rcases List.mem_append.1 h with h | h
          · exact hvs h
          · rw [er] at h; cases h
        rw [if_neg hin, if_neg hin, er]
        exact IR.2 er _ (stepWait (q := []) hn x3 xl xr h.1.isD)
      · obtain ⟨g1, g2, g3⟩ := (start_ok v r).resolve_left er
        have hin : v ∈ (S.parB s (start v r)).ws := List.mem_append_right _ (by rw [g3]; simp)
        rw [if_pos hin, if_pos hin, hcl, hcs, if_neg hvs, if_neg hvs]
        exact IR.1 er
    | parB a b =>
      obtain ⟨h1, h2, h3⟩ := h
      obtain ⟨da, db, dab⟩ := nodup_two hd_
      have hva : v ∉ a.ws := fun h => hv (List.mem_append_left _ h)
      have hvb : v ∉ b.ws := fun h => hv (List.mem_append_right _ h)
      rw [hcs] at hs
      by_cases hwa : w ∈ a.ws
      · have ha : Act l a := h1.resolve_left (fun e => by rw [e] at hwa; cases hwa)
        rw [if_pos hwa] at hs
        have E : steal v w (.two true l r) (.parB a b) = .parB (steal v w l a) b := by simp [steal, hwa]
        have := steal_runs v w l a (n + 1) m n false (pre ++ [x]) (img r b (n + 1 + sz l) (m + l.size) n true ++ post) k rest (len_l hn) ha hwa da hs hva (by omega)
        rw [E, hs', hs', duo_l, duo_l]
        by_cases hin : v ∈ (steal v w l a).ws
        · have hin' : v ∈ (S.parB (steal v w l a) b).ws := List.mem_append_left _ hin
          rw [if_pos hin, if_pos hin] at this
          rw [if_pos hin', if_pos hin', hcl, hcs, if_pos hin, if_pos hin]
          exact this
        · have hin' : v ∉ (S.parB (steal v w l a) b).ws := fun h => (List.mem_append.1 h).elim hin hvb
          rw [if_neg hin, if_neg hin] at this
          rw [if_neg hin', if_neg hin']
          exact this
      · have hwb : w ∈ b.ws := (List.mem_append.1 hw).resolve_left hwa
        have hb : Act r b := h2.resolve_left (fun e => by rw [e] at hwb; cases hwb)
        rw [if_neg hwa] at hs
        have E : steal v w (.two true l r) (.parB a b) = .parB a (steal v w r b) := by simp [steal, hwa]
        have := steal_runs v w r b (n + 1 + sz l) (m + l.size) n true (pre ++ x :: img l a (n + 1) m n false) post k rest (len_r hn a) hb hwb db hs hvb (by omega)
        rw [E, hs', hs']
        by_cases hin : v ∈ (steal v w r b).ws
        · have hin' : v ∈ (S.parB a (steal v w r b)).ws := List.mem_append_right _ hin
          rw [if_pos hin, if_pos hin] at this
          rw [if_pos hin', if_pos hin', hcl, hcs, if_neg hva, if_neg hva]
          exact this
        · have hin' : v ∉ (S.parB a (steal v w r b)).ws := fun h => (List.mem_append.1 h).elim hva hin
          rw [if_neg hin, if_neg hin] at this
          rw [if_neg hin', if_neg hin']
          exact this
    | _ => exact h.elim
end Go.Proofs.Ytcoijmnnnfogdaa.Stl


namespace Go.Proofs.Ytcoijmnnnfogdaa.Stl
set_option linter.unusedVariables false
set_option linter.unusedSimpArgs false
set_option maxRecDepth 100000
open Sp

structure Y where
  ps : List Part
  at_ : List Int
  qs : List (List Nat)
  log : List (Nat × Int)

/-- one pick: whoever is picked does a leaf, or steals; none: it goes wrong, or takes too long -/
def pickF (f : Nat) (y : Y) (who whom : Int) : Option Y :=
  if who < 0 ∨ y.at_.length ≤ who then some y else
  match y.at_[who.toNat]?, y.qs[who.toNat]? with
  | some a, some q =>
    if 0 ≤ a then
      match y.ps[a.toNat]?, ended f y.ps q a.toNat with
      | some p, some (ps1, q1, a1) => match settle f ps1 q1 a1 with
        | some (ps2, q2, a2) => some ⟨ps2, y.at_.set who.toNat a2, y.qs.set who.toNat q2, y.log ++ [(who.toNat, p.leaf)]⟩
        | none => none
      | _, _ => none
    else if 0 ≤ whom ∧ whom < y.at_.length ∧ whom ≠ who then
      match y.qs[whom.toNat]? with
      | some (k :: rest) => match settle f y.ps q (k : Int) with
        | some (ps2, q2, a2) => some ⟨ps2, y.at_.set who.toNat a2, (y.qs.set whom.toNat rest).set who.toNat q2, y.log⟩
        | none => none
      | some [] => some y
      | none => none
    else some y
  | _, _ => none

def leafOf : T → S → Nat → Nat → Nat
  | .two _ l _, .seqL s, m, w => leafOf l s m w
  | .two _ l r, .seqR s, m, w => leafOf r s (m + l.size) w
  | .two _ l _, .parQ s, m, w => leafOf l s m w
  | .two _ l r, .parB a b, m, w => if w ∈ a.ws then leafOf l a m w else leafOf r b (m + l.size) w
  | _, _, m, _ => m

/-- whose leaf it is -/
theorem loc_leaf (w : Nat) : ∀ (t : T) (s : S) (n m : Nat) (up : Int) (onR : Bool) (pre post : List Part), pre.length = n → Act t s → w ∈ s.ws →
    ∃ p, (pre ++ img t s n m up onR ++ post)[loc t s n w]? = some p ∧ p.leaf = (leafOf t s m w : Nat) ∧ p.kind = 1
  | .nil, s, _, _, _, _, _, _, _, h, _ => h.elim
  | .one c b lb, s, n, m, up, onR, pre, post, hn, h, hw => by
    cases s with
    | «at» u => exact ⟨_, img_head hn, rfl, rfl⟩
    | _ => exact h.elim
  | .two false l r, s, n, m, up, onR, pre, post, hn, h, hw => by
    obtain ⟨x, hx⟩ : ∃ x, x = hd (.two false l r) .fresh n m up onR := ⟨_, rfl⟩
    cases s with
    | seqL s =>
      rw [img_duo _ _ _ _ _ _ _ _ _ _ rfl, ← hx, duo_l]
      exact loc_leaf w l s (n + 1) m n false _ _ (len_l hn) h hw
    | seqR s =>
      rw [img_duo _ _ _ _ _ _ _ _ _ _ rfl, ← hx]
      exact loc_leaf w r s (n + 1 + sz l) (m + l.size) n true _ _ (len_r hn .done) h hw
    | _ => exact h.elim
  | .two true l r, s, n, m, up, onR, pre, post, hn, h, hw => by
    obtain ⟨x, hx⟩ : ∃ x, x = hd (.two true l r) .fresh n m up onR := ⟨_, rfl⟩
    cases s with
    | parQ s =>
      rw [img_duo _ _ _ _ _ _ _ _ _ _ rfl, ← hx, duo_l]
      exact loc_leaf w l s (n + 1) m n false _ _ (len_l hn) h.1 hw
    | parB a b =>
      obtain ⟨h1, h2, h3⟩ := h
      rw [img_duo _ _ _ _ _ _ _ _ _ _ rfl, ← hx]
      have hcl : loc (.two true l r) (.parB a b) n w = if w ∈ a.ws then loc l a (n + 1) w else loc r b (n + 1 + sz l) w := rfl
      have hcf : leafOf (.two true l r) (.parB a b) m w = if w ∈ a.ws then leafOf l a m w else leafOf r b (m + l.size) w := rfl
      by_cases hwa : w ∈ a.ws
      · rw [hcl, hcf, if_pos hwa, if_pos hwa, duo_l]
        exact loc_leaf w l a (n + 1) m n false _ _ (len_l hn) (h1.resolve_left (fun e => by rw [e] at hwa; cases hwa)) hwa
      · have hwb : w ∈ b.ws := (List.mem_append.1 hw).resolve_left hwa
        rw [hcl, hcf, if_neg hwa, if_neg hwa]
        exact loc_leaf w r b (n + 1 + sz l) (m + l.size) n true _ _ (len_r hn a) (h2.resolve_left (fun e => by rw [e] at hwb; cases hwb)) hwb
    | _ => exact h.elim

structure Good (t : T) (W : Nat) (s : S) : Prop where
  act : s = .done ∨ Act t s
  nodup : s.ws.Nodup
  lt : ∀ w ∈ s.ws, w < W
/-- the yard of a tree -/
def yard (t : T) (W : Nat) (s : S) (log : List (Nat × Int)) : Y :=
  ⟨img t s 0 0 (-1) false, (List.range W).map fun w => if w ∈ s.ws then (loc t s 0 w : Int) else -1, (List.range W).map fun w => if w ∈ s.ws then seg t s 0 w else [], log⟩

def nextS (t : T) (W : Nat) (s : S) (who whom : Int) : S :=
  if 0 ≤ who ∧ who < W then
    if who.toNat ∈ s.ws then fin who.toNat t s
    else if 0 ≤ whom ∧ whom < W ∧ whom ≠ who ∧ whom.toNat ∈ s.ws ∧ seg t s 0 whom.toNat ≠ [] then steal who.toNat whom.toNat t s else s
  else s
def nextL (t : T) (W : Nat) (s : S) (who : Int) : List (Nat × Int) :=
  if 0 ≤ who ∧ who < W ∧ who.toNat ∈ s.ws then [(who.toNat, (leafOf t s 0 who.toNat : Int))] else []

theorem good_act {t : T} {W : Nat} {s : S} (h : Good t W s) {w : Nat} (hw : w ∈ s.ws) : Act t s := h.act.resolve_left (fun e => by rw [e] at hw; cases hw)

theorem set_range {α : Type} (W w : Nat) (f g : Nat → α) (h : ∀ v, v < W → v ≠ w → g v = f v) : ((List.range W).map f).set w (g w) = (List.range W).map g := by
  apply List.ext_getElem?
  intro i
  rw [List.getElem?_set]
  by_cases hi : i < W
  · by_cases e : w = i
    · subst e; simp [hi]
    · rw [if_neg e]; simp [hi, h i hi (fun e' => e e'.symm)]
  · rw [List.getElem?_eq_none (by simp; omega), List.getElem?_eq_none (by simp; omega)]
    simp only [List.length_map, List.length_range]
    split <;> (try split) <;> first | rfl | omega

theorem nextS_good {t : T} {W : Nat} {s : S} (h : Good t W s) (who whom : Int) : Good t W (nextS t W s who whom) := by
  unfold nextS
  split
  · rename_i hr
    split
    · rename_i hw
      have := fin_ok who.toNat t s (good_act h hw) hw h.nodup
      exact ⟨(Classical.em _).imp id this.act, this.nodup, fun v hv => h.lt v (this.sub v hv)⟩
    · rename_i hv
      split
      · rename_i hc
        have := steal_ok who.toNat whom.toNat t s 0 (good_act h hc.2.2.2.1) hc.2.2.2.1 h.nodup hc.2.2.2.2 hv
        exact ⟨.inr this.act, this.nodup, fun v hv => by
          rcases this.sub v hv with e | e
          · subst e; omega
          · exact h.lt v e⟩
      · exact h
  · exact h

theorem pick_yard {t : T} {W : Nat} {s : S} (hL : sz t ≤ 1099511627776) (h : Good t W s) (log : List (Nat × Int)) (who whom : Int) : ∃ f, pickF f (yard t W s log) who whom = some (yard t W (nextS t W s who whom) (log ++ nextL t W s who)) := by
  by_cases hr : 0 ≤ who ∧ who < W
  rotate_left
  · refine ⟨0, ?_⟩
    have e1 : nextS t W s who whom = s := by unfold nextS; rw [if_neg hr]
    have e2 : nextL t W s who = [] := by unfold nextL; rw [if_neg (fun h => hr ⟨h.1, h.2.1⟩)]
    rw [e1, e2, List.append_nil]
    unfold pickF
    rw [if_pos (by simp [yard]; omega)]
  obtain ⟨w, rfl⟩ : ∃ w : Nat, who = w := ⟨who.toNat, by omega⟩
  have hwW : w < W := by omega
  have hlen : (yard t W s log).at_.length = W := by simp [yard]
  have hnr : ¬ ((w : Int) < 0 ∨ ((yard t W s log).at_.length : Int) ≤ w) := by rw [hlen]; omega
  have hat : (yard t W s log).at_[w]? = some (if w ∈ s.ws then (loc t s 0 w : Int) else -1) := by simp [yard, hwW]
  have hq : (yard t W s log).qs[w]? = some (if w ∈ s.ws then seg t s 0 w else []) := by simp [yard, hwW]
  by_cases hw : w ∈ s.ws
  · have ha := good_act h hw
    have FO := fin_ok w t s ha hw h.nodup
    rw [if_pos hw] at hat hq
    obtain ⟨p, hp, hpl, hpk⟩ := loc_leaf w t s 0 0 (-1) false [] [] rfl ha hw
    rw [List.nil_append, List.append_nil] at hp
    have hfr := fin_runs w t s 0 0 (-1) false [] [] [] rfl ha hw h.nodup (.inr rfl) (by simpa using hL)
    simp only [List.nil_append, List.append_nil] at hfr
    have hend : EndRuns (img t s 0 0 (-1) false) (seg t s 0 w) (loc t s 0 w) (img t (fin w t s) 0 0 (-1) false, (if w ∈ (fin w t s).ws then seg t (fin w t s) 0 w else []), (if w ∈ (fin w t s).ws then (loc t (fin w t s) 0 w : Int) else -1)) := by
      by_cases e : fin w t s = .done
      · rw [e]
        refine hfr.2 e _ ?_
        obtain ⟨e1, e2⟩ := end_at (pre := []) (post := []) (t := t) (n := 0) (m := 0) (up := -1) (onR := false) rfl
        simp only [List.nil_append, List.append_nil] at e1 e2
        have := EndRuns.root (q := []) e1 (by rw [hd_up]; decide)
        rw [e2] at this
        simpa [S.ws] using this
      · exact hfr.1 e
    obtain ⟨f1, ps1, q1, a1, he, f2, hf⟩ := hend
    have he' := ended_more _ _ _ _ _ he (f1 + f2) (by omega)
    have hf' := settle_more _ _ _ _ _ hf (f1 + f2) (by omega)
    have e1 : nextS t W s w whom = fin w t s := by unfold nextS; rw [if_pos hr, Int.toNat_natCast, if_pos hw]
    have e2 : nextL t W s w = [(w, (leafOf t s 0 w : Int))] := by unfold nextL; rw [if_pos (by rw [Int.toNat_natCast]; exact ⟨hr.1, hr.2, hw⟩), Int.toNat_natCast]
    refine ⟨f1 + f2, ?_⟩
    unfold pickF
    rw [if_neg hnr, Int.toNat_natCast, hat, hq]
    dsimp only
    rw [if_pos (by omega), Int.toNat_natCast]
    have hps : (yard t W s log).ps = img t s 0 0 (-1) false := rfl
    rw [hps, hp, he']
    dsimp only
    rw [hf', e1, e2]
    dsimp only
    rw [hpl]
    have k1 : (yard t W s log).at_.set w (if w ∈ (fin w t s).ws then (loc t (fin w t s) 0 w : Int) else -1) = (yard t W (fin w t s) (log ++ [(w, (leafOf t s 0 w : Int))])).at_ := by
      refine set_range W w (fun v => if v ∈ s.ws then (loc t s 0 v : Int) else -1) (fun v => if v ∈ (fin w t s).ws then (loc t (fin w t s) 0 v : Int) else -1) fun v hv hne => ?_
      by_cases hvs : v ∈ s.ws
      · simp only [if_pos hvs, if_pos (FO.others v hvs hne), (FO.same 0 v hvs hne).1]
      · simp only [if_neg hvs, if_neg (fun h => hvs (FO.sub v h))]
    have k2 : (yard t W s log).qs.set w (if w ∈ (fin w t s).ws then seg t (fin w t s) 0 w else []) = (yard t W (fin w t s) (log ++ [(w, (leafOf t s 0 w : Int))])).qs := by
      refine set_range W w (fun v => if v ∈ s.ws then seg t s 0 v else []) (fun v => if v ∈ (fin w t s).ws then seg t (fin w t s) 0 v else []) fun v hv hne => ?_
      by_cases hvs : v ∈ s.ws
      · simp only [if_pos hvs, if_pos (FO.others v hvs hne), (FO.same 0 v hvs hne).2]
      · simp only [if_neg hvs, if_neg (fun h => hvs (FO.sub v h))]
    rw [k1, k2]
    rfl
  · rw [if_neg hw] at hat hq
    have e2 : nextL t W s w = [] := by unfold nextL; rw [if_neg (by rw [Int.toNat_natCast]; exact fun h => hw h.2.2)]
    rw [e2, List.append_nil]
    by_cases hc : 0 ≤ whom ∧ whom < W ∧ whom ≠ (w : Int)
    · obtain ⟨u, rfl⟩ : ∃ u : Nat, whom = u := ⟨whom.toNat, by omega⟩
      have huW : u < W := by omega
      have huw : u ≠ w := fun e => hc.2.2 (by rw [e])
      have hqu : (yard t W s log).qs[u]? = some (if u ∈ s.ws then seg t s 0 u else []) := by simp [yard, huW]
      by_cases hu : u ∈ s.ws ∧ seg t s 0 u ≠ []
      · obtain ⟨hus, hne⟩ := hu
        obtain ⟨k, rest, hseg⟩ : ∃ k rest, seg t s 0 u = k :: rest := by
          rcases hsg : seg t s 0 u with _ | ⟨k, rest⟩
          · exact absurd hsg hne
          · exact ⟨k, rest, rfl⟩
        rw [if_pos hus, hseg] at hqu
        have ha := good_act h hus
        have SO := steal_ok w u t s 0 ha hus h.nodup hne hw
        have hsr := steal_runs w u t s 0 0 (-1) false [] [] k rest rfl ha hus h.nodup hseg hw hL
        simp only [List.nil_append, List.append_nil] at hsr
        obtain ⟨f, hf⟩ := hsr
        have e1 : nextS t W s w u = steal w u t s := by
          unfold nextS
          rw [if_pos hr, Int.toNat_natCast, if_neg hw, Int.toNat_natCast, if_pos ⟨hc.1, hc.2.1, hc.2.2, hus, hne⟩]
        refine ⟨f, ?_⟩
        unfold pickF
        rw [if_neg hnr, Int.toNat_natCast, hat, hq]
        dsimp only
        rw [if_neg (by omega), if_pos (by rw [hlen]; exact hc), Int.toNat_natCast, hqu]
        dsimp only
        have hps : (yard t W s log).ps = img t s 0 0 (-1) false := rfl
        rw [hps, hf, e1]
        dsimp only
        have k1 : (yard t W s log).at_.set w (if w ∈ (steal w u t s).ws then (loc t (steal w u t s) 0 w : Int) else -1) = (yard t W (steal w u t s) log).at_ := by
          refine set_range W w (fun v => if v ∈ s.ws then (loc t s 0 v : Int) else -1) (fun v => if v ∈ (steal w u t s).ws then (loc t (steal w u t s) 0 v : Int) else -1) fun v hv hne => ?_
          by_cases hvs : v ∈ s.ws
          · simp only [if_pos hvs, if_pos (SO.keep v hvs), SO.loc 0 v hvs]
          · simp only [if_neg hvs, if_neg (fun h => (SO.sub v h).elim hne hvs)]
        have k2 : ((yard t W s log).qs.set u rest).set w (if w ∈ (steal w u t s).ws then seg t (steal w u t s) 0 w else []) = (yard t W (steal w u t s) log).qs := by
          have j1 : (yard t W s log).qs.set u rest = (List.range W).map fun v => if v = u then rest else if v ∈ s.ws then seg t s 0 v else [] := by
            have := set_range W u (fun v => if v ∈ s.ws then seg t s 0 v else []) (fun v => if v = u then rest else if v ∈ s.ws then seg t s 0 v else []) (fun v _ hne => by simp only [if_neg hne])
            simp only [if_true] at this
            exact this
          rw [j1]
          refine set_range W w (fun v => if v = u then rest else if v ∈ s.ws then seg t s 0 v else []) (fun v => if v ∈ (steal w u t s).ws then seg t (steal w u t s) 0 v else []) fun v hv hne => ?_
          by_cases hvs : v ∈ s.ws
          · simp only [if_pos hvs, if_pos (SO.keep v hvs), SO.seg 0 v hvs]
            by_cases e : v = u
            · subst e; simp [hseg]
            · simp [e]
          · have hvu : v ≠ u := fun e => hvs (by rw [e]; exact hus)
            simp only [if_neg hvs, if_neg hvu, if_neg (fun h => (SO.sub v h).elim hne hvs)]
        rw [k1, k2]
        rfl
      · have hqe : (yard t W s log).qs[u]? = some [] := by
          rw [hqu]
          by_cases hus : u ∈ s.ws
          · rw [if_pos hus]
            congr 1
            exact Classical.byContradiction fun h => hu ⟨hus, h⟩
          · rw [if_neg hus]
        have e1 : nextS t W s w u = s := by
          unfold nextS
          rw [if_pos hr, Int.toNat_natCast, if_neg hw, Int.toNat_natCast, if_neg (fun h => hu h.2.2.2)]
        refine ⟨0, ?_⟩
        unfold pickF
        rw [if_neg hnr, Int.toNat_natCast, hat, hq]
        dsimp only
        rw [if_neg (by omega), if_pos (by rw [hlen]; exact hc), Int.toNat_natCast, hqe, e1]
    · have e1 : nextS t W s w whom = s := by
        unfold nextS
        rw [if_pos hr, Int.toNat_natCast, if_neg hw, if_neg (fun h => hc ⟨h.1, h.2.1, h.2.2.1⟩)]
      refine ⟨0, ?_⟩
      unfold pickF
      rw [if_neg hnr, Int.toNat_natCast, hat, hq]
      dsimp only
      rw [if_neg (by omega), if_neg (by rw [hlen]; exact hc), e1]

/-! ### all picks -/
structure Pk where
  who : Int
  whom : Int
def afterS (t : T) (W : Nat) (s : S) (ps : List Pk) : S := ps.foldl (fun s p => nextS t W s p.who p.whom) s
def logS (t : T) (W : Nat) : S → List Pk → List (Nat × Int)
  | _, [] => []
  | s, p :: ps => nextL t W s p.who ++ logS t W (nextS t W s p.who p.whom) ps
theorem afterS_append (t : T) (W : Nat) (s : S) (a b : List Pk) : afterS t W s (a ++ b) = afterS t W (afterS t W s a) b := by simp [afterS]
theorem logS_append (t : T) (W : Nat) (s : S) (a b : List Pk) : logS t W s (a ++ b) = logS t W s a ++ logS t W (afterS t W s a) b := by
  induction a generalizing s with
  | nil => rfl
  | cons p a ih => simp [logS, afterS, ih]
theorem after_good {t : T} {W : Nat} {s : S} (h : Good t W s) (ps : List Pk) : Good t W (afterS t W s ps) := by
  induction ps generalizing s with
  | nil => exact h
  | cons p ps ih => exact ih (nextS_good h _ _)
/-- the first state -/
theorem first_good (t : T) (W : Nat) (h : 0 < W) : Good t W (start 0 t) := by
  rcases start_ok 0 t with e | ⟨e1, -, e3⟩
  · exact ⟨.inl e, by rw [e]; simp [S.ws], by rw [e]; simp [S.ws]⟩
  · exact ⟨.inr e1, by rw [e3]; simp, by rw [e3]; simpa using h⟩
theorem first_runs (t : T) (hL : sz t ≤ 1099511627776) : Runs (partsOf t 0 0 (-1) false) [] 0 (img t (start 0 t) 0 0 (-1) false, (if 0 ∈ (start 0 t).ws then seg t (start 0 t) 0 0 else []), (if 0 ∈ (start 0 t).ws then (loc t (start 0 t) 0 0 : Int) else -1)) := by
  have hs := start_runs 0 t 0 0 (-1) false [] [] [] rfl (by simpa using hL)
  simp only [List.nil_append, List.append_nil] at hs
  rw [← img_fresh]
  by_cases e : start 0 t = .done
  · rw [e]
    refine hs.2 e _ ?_
    obtain ⟨e1, e2⟩ := end_at (pre := []) (post := []) (t := t) (n := 0) (m := 0) (up := -1) (onR := false) rfl
    simp only [List.nil_append, List.append_nil] at e1 e2
    have := EndRuns.root (q := []) e1 (by rw [hd_up]; decide)
    rw [e2] at this
    simpa [S.ws] using this
  · obtain ⟨-, -, h3⟩ := (start_ok 0 t).resolve_left e
    have := hs.1 e
    rw [if_pos (by rw [h3]; simp), if_pos (by rw [h3]; simp)]
    exact this
end Go.Proofs.Ytcoijmnnnfogdaa.Stl


namespace Go.Proofs.Ytcoijmnnnfogdaa.Sp
set_option linter.unusedVariables false
set_option linter.unusedSimpArgs false
set_option maxRecDepth 100000

def put {α : Type} (ps : List α) (a : Nat) (ms : List α) : List α := ps.take a ++ ms ++ ps.drop (a + ms.length)

theorem put_get {α : Type} (ps ms : List α) (a i : Nat) (h : a + ms.length ≤ ps.length) : (put ps a ms)[i]? = if i < a then ps[i]? else if i < a + ms.length then ms[i - a]? else ps[i]? := by
  unfold put
  have h1 : (ps.take a).length = a := by simp; omega
  by_cases h2 : i < a
  · rw [if_pos h2, List.append_assoc, List.getElem?_append_left (by omega), List.getElem?_take_of_lt h2]
  · rw [if_neg h2]
    by_cases h3 : i < a + ms.length
    · rw [if_pos h3, List.append_assoc, List.getElem?_append_right (by omega), h1, List.getElem?_append_left (by omega)]
    · rw [if_neg h3, List.getElem?_append_right (by simp; omega), List.getElem?_drop]
      congr 1; simp; omega
theorem put_length {α : Type} (ps ms : List α) (a : Nat) (h : a + ms.length ≤ ps.length) : (put ps a ms).length = ps.length := by
  unfold put; simp; omega
theorem put_nil {α : Type} (ps : List α) (a : Nat) : put ps a [] = ps := by simp [put]
theorem put_put {α : Type} (ps m1 m2 : List α) (a : Nat) (h : a + m1.length + m2.length ≤ ps.length) : put (put ps a m1) (a + m1.length) m2 = put ps a (m1 ++ m2) := by
  apply List.ext_getElem?
  intro i
  rw [put_get _ _ _ _ (by rw [put_length _ _ _ (by omega)]; omega), put_get _ _ _ _ (by omega), put_get _ _ _ _ (by simp; omega)]
  simp only [List.length_append]
  by_cases h1 : i < a
  · rw [if_pos h1, if_pos h1, if_pos (by omega)]
  · rw [if_neg h1, if_neg h1]
    by_cases h2 : i < a + m1.length
    · rw [if_pos h2, if_pos h2, if_pos (by omega), List.getElem?_append_left (by omega)]
    · rw [if_neg h2, if_neg h2]
      by_cases h3 : i < a + m1.length + m2.length
      · rw [if_pos h3, if_pos (by omega), List.getElem?_append_right (by omega)]
        congr 1; omega
      · rw [if_neg h3, if_neg (by omega)]
theorem put_back {α : Type} (ps m1 m2 : List α) (a : Nat) (h : a + m1.length + m2.length ≤ ps.length) : put (put ps (a + m1.length) m2) a m1 = put ps a (m1 ++ m2) := by
  apply List.ext_getElem?
  intro i
  rw [put_get _ _ _ _ (by rw [put_length _ _ _ (by omega)]; omega), put_get _ _ _ _ (by omega), put_get _ _ _ _ (by simp; omega)]
  simp only [List.length_append]
  by_cases h1 : i < a
  · rw [if_pos h1, if_pos h1, if_pos (by omega)]
  · rw [if_neg h1, if_neg h1]
    by_cases h2 : i < a + m1.length
    · rw [if_pos h2, if_pos (by omega), List.getElem?_append_left (by omega)]
    · rw [if_neg h2, if_neg h2]
      by_cases h3 : i < a + m1.length + m2.length
      · rw [if_pos h3, if_pos (by omega), List.getElem?_append_right (by omega)]
        congr 1; omega
      · rw [if_neg h3, if_neg (by omega)]
theorem put_all {α : Type} (ps ms : List α) (h : ms.length = ps.length) : put ps 0 ms = ms := by
  unfold put
  rw [List.take_zero, List.nil_append, List.drop_of_length_le (by omega), List.append_nil]
theorem put_one {α : Type} (ps : List α) (a : Nat) (x : α) (h : a < ps.length) : put ps a [x] = ps.set a x := by
  unfold put
  rw [List.set_eq_take_append_cons_drop, if_pos h]
  simp

def T.marks : T → Nat → Nat → List (Nat × Nat)
  | .nil, _, _ => []
  | .one _ _ _, a, j => [(a, j)]
  | .two par l r, a, j => l.marks a (if par then j + r.size else j) ++ r.marks (a + l.size) (if par then j else j + l.size)
theorem T.marks_length (t : T) : ∀ a j, (t.marks a j).length = t.size := by
  induction t with
  | nil => intro a j; rfl
  | one _ _ _ => intro a j; rfl
  | two p l r ihl ihr => intro a j; rw [T.size_two, T.marks, List.length_append, ihl, ihr]

/-- the place of leaf i in the second numbering -/
def T.rk : T → Nat → Nat
  | .nil, _ => 0
  | .one _ _ _, _ => 0
  | .two par l r, i => if i < l.size then l.rk i + (if par then r.size else 0) else r.rk (i - l.size) + (if par then 0 else l.size)
theorem T.rk_lt (t : T) : ∀ i, i < t.size → t.rk i < t.size := by
  induction t with
  | nil => intro i h; exact absurd h (Nat.not_lt_zero _)
  | one _ _ _ => intro i h; exact Nat.zero_lt_one
  | two p l r ihl ihr =>
    intro i h
    rw [T.size_two] at h ⊢
    unfold T.rk
    split
    · have := ihl i ‹_›; cases p <;> simp <;> omega
    · have := ihr (i - l.size) (by omega); cases p <;> simp <;> omega
theorem T.marks_get (t : T) : ∀ a j i, i < t.size → (t.marks a j)[i]? = some (a + i, j + t.rk i) := by
  induction t with
  | nil => intro a j i h; exact absurd h (Nat.not_lt_zero _)
  | one _ _ _ =>
    intro a j i h
    have : i = 0 := by have : i < 1 := h; omega
    subst this; rfl
  | two p l r ihl ihr =>
    intro a j i h
    rw [T.size_two] at h
    rw [T.marks, T.rk]
    by_cases h1 : i < l.size
    · rw [List.getElem?_append_left (by rw [T.marks_length]; exact h1), ihl _ _ _ h1, if_pos h1]
      cases p <;> simp <;> omega
    · rw [List.getElem?_append_right (by rw [T.marks_length]; omega), T.marks_length, ihr _ _ _ (by omega), if_neg h1]
      cases p <;> simp <;> omega
theorem T.rk_side (p : Bool) (l r : T) (i : Nat) (h : i < (T.two p l r).size) :
    (i < l.size ∧ (T.two p l r).rk i = l.rk i + (if p then r.size else 0) ∧ l.rk i < l.size) ∨ (l.size ≤ i ∧ i - l.size < r.size ∧ (T.two p l r).rk i = r.rk (i - l.size) + (if p then 0 else l.size) ∧ r.rk (i - l.size) < r.size) := by
  rw [T.size_two] at h
  by_cases h1 : i < l.size
  · exact .inl ⟨h1, by rw [T.rk, if_pos h1], l.rk_lt _ h1⟩
  · exact .inr ⟨by omega, by omega, by rw [T.rk, if_neg h1], r.rk_lt _ (by omega)⟩
theorem T.rk_inj (t : T) : ∀ i k, i < t.size → k < t.size → t.rk i = t.rk k → i = k := by
  induction t with
  | nil => intro i k h; exact absurd h (Nat.not_lt_zero _)
  | one _ _ _ => intro i k h h' _; have : i < 1 := h; have : k < 1 := h'; omega
  | two p l r ihl ihr =>
    intro i k h h' e
    rcases T.rk_side p l r i h with ⟨h1, h2, h3⟩ | ⟨h1, h0, h2, h3⟩ <;> rcases T.rk_side p l r k h' with ⟨k1, k2, k3⟩ | ⟨k1, k0, k2, k3⟩
    · exact ihl i k h1 k1 (by cases p <;> simp at h2 k2 <;> omega)
    · cases p <;> simp at h2 k2 <;> omega
    · cases p <;> simp at h2 k2 <;> omega
    · have := ihr _ _ h0 k0 (by cases p <;> simp at h2 k2 <;> omega)
      omega

/-- leaf i is ahead of leaf k -/
def T.bf (t : T) (i k : Nat) : Prop := i < k ∧ t.rk i < t.rk k
instance (t : T) (i k : Nat) : Decidable (t.bf i k) := inferInstanceAs (Decidable (_ ∧ _))
def T.apart (t : T) (i k : Nat) : Prop := i ≠ k ∧ ¬ t.bf i k ∧ ¬ t.bf k i
theorem T.no_n (t : T) : ∀ a b c d, a < t.size → b < t.size → c < t.size → d < t.size → t.bf a c → t.bf a d → t.bf b d → t.apart a b → t.apart c d → ¬ t.apart b c := by
  induction t with
  | nil => intro a b c d h; exact absurd h (Nat.not_lt_zero _)
  | one _ _ _ => intro a b c d h h1 h2 h3 h4; have : a < 1 := h; have : c < 1 := h2; have := h4.1; omega
  | two p l r ihl ihr =>
    intro a b c d ha hb hc hd h1 h2 h3 h4 h5 h6
    unfold T.apart T.bf at h4 h5 h6
    unfold T.bf at h1 h2 h3
    rcases T.rk_side p l r a ha with ⟨a1, a2, a3⟩ | ⟨a1, a0, a2, a3⟩ <;> rcases T.rk_side p l r b hb with ⟨b1, b2, b3⟩ | ⟨b1, b0, b2, b3⟩ <;>
    rcases T.rk_side p l r c hc with ⟨c1, c2, c3⟩ | ⟨c1, c0, c2, c3⟩ <;> rcases T.rk_side p l r d hd with ⟨d1, d2, d3⟩ | ⟨d1, d0, d2, d3⟩
    · exact ihl a b c d a1 b1 c1 d1 (by unfold T.bf; omega) (by unfold T.bf; omega) (by unfold T.bf; omega) (by unfold T.apart T.bf; omega) (by unfold T.apart T.bf; omega) (by unfold T.apart T.bf; omega)
    all_goals first
      | (exfalso; cases p <;> simp at a2 b2 c2 d2 <;> omega)
      | exact ihr (a - l.size) (b - l.size) (c - l.size) (d - l.size) a0 b0 c0 d0 (by unfold T.bf; omega) (by unfold T.bf; omega) (by unfold T.bf; omega) (by unfold T.apart T.bf; omega) (by unfold T.apart T.bf; omega) (by unfold T.apart T.bf; omega)

def T.before (t : T) (i j : Int) : Bool := decide ((0 ≤ i ∧ 0 ≤ j ∧ i < t.size ∧ j < t.size) ∧ t.bf i.toNat j.toNat)
theorem T.before_irr (t : T) (i : Int) : t.before i i = false := by
  unfold T.before T.bf; simp
theorem T.before_lt (t : T) (i j : Int) (h : t.before i j = true) : i < j := by
  unfold T.before T.bf at h; have := of_decide_eq_true h; omega
theorem T.before_trans (t : T) (i j k : Int) (h : t.before i j = true) (h' : t.before j k = true) : t.before i k = true := by
  unfold T.before T.bf at *
  have h1 := of_decide_eq_true h
  have h2 := of_decide_eq_true h'
  exact decide_eq_true (by omega)

/-! ### brackets -/
def T.same (s t : T) : Prop := s.leaves = t.leaves ∧ ∀ a j, s.marks a j = t.marks a j
theorem T.same_size {s t : T} (h : s.same t) : s.size = t.size := by unfold T.size; rw [h.1]
theorem T.same_rk {s t : T} (h : s.same t) (i : Nat) (hi : i < s.size) : s.rk i = t.rk i := by
  have h1 := s.marks_get 0 0 i hi
  rw [h.2, t.marks_get 0 0 i (by rw [← T.same_size h]; exact hi)] at h1
  injection h1 with h1
  injection h1 with _ h1
  omega
theorem T.same_before {s t : T} (h : s.same t) (i j : Int) : s.before i j = t.before i j := by
  have e := T.same_size h
  rw [Bool.eq_iff_iff]
  unfold T.before T.bf
  rw [decide_eq_true_iff, decide_eq_true_iff]
  constructor
  · rintro ⟨hb, h1, h2⟩
    rw [T.same_rk h _ (by omega), T.same_rk h _ (by omega)] at h2
    exact ⟨by omega, h1, h2⟩
  · rintro ⟨hb, h1, h2⟩
    rw [← T.same_rk h _ (by omega), ← T.same_rk h _ (by omega)] at h2
    exact ⟨by omega, h1, h2⟩
theorem T.same_joins (p : Bool) (a b c : T) : (T.two p (.two p a b) c).same (.two p a (.two p b c)) := by
  refine ⟨by simp [T.leaves], fun x j => ?_⟩
  simp only [T.marks, T.size_two]
  cases p <;> simp [Nat.add_assoc]
  rw [Nat.add_comm b.size]
theorem T.same_none (p : Bool) (a : T) : (T.two p (.two p .nil a) .nil).same a := by
  refine ⟨by simp [T.leaves], fun x j => ?_⟩
  simp only [T.marks, T.size_two]
  cases p <;> simp [T.size, T.leaves]

/-! ### orders -/
/-- in how many ways a things and b others are mixed -/
def ch : Nat → Nat → Nat
  | 0, _ => 1
  | _ + 1, 0 => 1
  | a + 1, b + 1 => ch a (b + 1) + ch (a + 1) b
def fac : Nat → Nat
  | 0 => 1
  | n + 1 => (n + 1) * fac n
theorem fac_pos : ∀ n, 0 < fac n
  | 0 => Nat.zero_lt_one
  | n + 1 => Nat.mul_pos (Nat.succ_pos _) (fac_pos n)
theorem ch_zero (a : Nat) : ch a 0 = 1 := by cases a <;> simp [ch]
theorem ch_fac : ∀ a b, ch a b * (fac a * fac b) = fac (a + b)
  | 0, b => by simp [ch, fac]
  | a + 1, 0 => by simp [ch, fac]
  | a + 1, b + 1 => by
    have h1 := ch_fac a (b + 1)
    have h2 := ch_fac (a + 1) b
    have e1 : a + (b + 1) = a + b + 1 := by omega
    have e2 : a + 1 + b = a + b + 1 := by omega
    have e3 : a + 1 + (b + 1) = a + b + 1 + 1 := by omega
    rw [e1] at h1
    rw [e2] at h2
    rw [ch, e3, Nat.add_mul]
    have i1 : ch a (b + 1) * (fac (a + 1) * fac (b + 1)) = (a + 1) * fac (a + b + 1) := by
      rw [← h1]; show _ * ((a + 1) * fac a * _) = _; simp only [Nat.mul_assoc, Nat.mul_left_comm, Nat.mul_comm]
    have i2 : ch (a + 1) b * (fac (a + 1) * fac (b + 1)) = (b + 1) * fac (a + b + 1) := by
      rw [← h2]; show _ * (_ * ((b + 1) * fac b)) = _; ac_rfl
    rw [i1, i2, ← Nat.add_mul]
    show _ = (a + b + 1 + 1) * fac (a + b + 1)
    congr 1 <;> omega
theorem ch_three (a b c : Nat) : ch (a + b) c * ch a b = ch a (b + c) * ch b c := by
  have h1 := ch_fac (a + b) c
  have h2 := ch_fac a b
  have h3 := ch_fac a (b + c)
  have h4 := ch_fac b c
  apply Nat.eq_of_mul_eq_mul_right (Nat.mul_pos (Nat.mul_pos (fac_pos a) (fac_pos b)) (fac_pos c))
  have i1 : ch (a + b) c * ch a b * (fac a * fac b * fac c) = fac (a + b + c) := by
    rw [← h1, ← h2]; ac_rfl
  have i2 : ch a (b + c) * ch b c * (fac a * fac b * fac c) = fac (a + b + c) := by
    rw [Nat.add_assoc, ← h3, ← h4]; ac_rfl
  rw [i1, i2]

def T.ways : T → Nat
  | .nil => 1
  | .one _ _ _ => 1
  | .two p l r => l.ways * r.ways * (if p then ch l.size r.size else 1)
theorem T.ways_joins (p : Bool) (a b c : T) : (T.two p (.two p a b) c).ways = (T.two p a (.two p b c)).ways := by
  simp only [T.ways, T.size_two]
  cases p
  · simp; ac_rfl
  · have := ch_three a.size b.size c.size
    simp only [if_true]
    calc _ = a.ways * b.ways * c.ways * (ch (a.size + b.size) c.size * ch a.size b.size) := by ac_rfl
      _ = _ := by rw [this]; ac_rfl
theorem T.ways_none (p : Bool) (a : T) : (T.two p (.two p .nil a) .nil).ways = a.ways := by
  have h0 : T.nil.size = 0 := rfl
  simp only [T.ways, T.size_two, h0]
  cases p <;> simp [ch_zero, ch]
end Go.Proofs.Ytcoijmnnnfogdaa.Sp


namespace Go.Proofs.Ytcoijmnnnfogdaa.Stl
set_option linter.unusedVariables false
set_option linter.unusedSimpArgs false
set_option maxRecDepth 100000
open Sp

/-! ### which leaves are done -/
def LD : T → S → Nat → Nat → Prop
  | .nil, _, _, _ => False
  | .one _ _ _, s, m, j => s = .done ∧ j = m
  | .two _ l r, s, m, j => LD l s.sl m j ∨ LD r s.sr (m + l.size) j
def dn : T → S → Nat
  | .nil, _ => 0
  | .one _ _ _, s => if s = .done then 1 else 0
  | .two _ l r, s => dn l s.sl + dn r s.sr

theorem LD_done : ∀ (t : T) (m j : Nat), LD t .done m j ↔ m ≤ j ∧ j < m + t.size
  | .nil, m, j => by simp [LD, T.size, T.leaves]
  | .one _ _ _, m, j => by simp [LD, T.size, T.leaves]; omega
  | .two p l r, m, j => by
    show (LD l .done m j ∨ LD r .done (m + l.size) j) ↔ _
    rw [LD_done l, LD_done r, T.size_two]
    omega
theorem LD_fresh : ∀ (t : T) (m j : Nat), ¬ LD t .fresh m j
  | .nil, _, _, h => h
  | .one _ _ _, _, _, h => by cases h.1
  | .two p l r, m, j, h => h.elim (LD_fresh l _ _) (LD_fresh r _ _)
theorem dn_done : ∀ t : T, dn t .done = t.size
  | .nil => rfl
  | .one _ _ _ => rfl
  | .two p l r => by show dn l .done + dn r .done = _; rw [dn_done l, dn_done r, T.size_two]
theorem dn_fresh : ∀ t : T, dn t .fresh = 0
  | .nil => rfl
  | .one _ _ _ => rfl
  | .two p l r => by show dn l .fresh + dn r .fresh = _; rw [dn_fresh l, dn_fresh r]
theorem start_size (w : Nat) : ∀ t : T, start w t = .done → t.size = 0
  | .nil, _ => rfl
  | .one _ _ _, h => by cases h
  | .two false l r, h => by
    rw [start_seq] at h
    split at h
    · rename_i h1
      split at h
      · rename_i h2
        rw [T.size_two, start_size w l h1, start_size w r h2]
      · cases h
    · cases h
  | .two true l r, h => by
    rw [start_par] at h
    split at h
    · rename_i h1
      split at h
      · rename_i h2
        rw [T.size_two, start_size w l h1, start_size w r h2]
      · cases h
    · cases h
theorem start_no (w : Nat) : ∀ (t : T), (∀ m j, ¬ LD t (start w t) m j) ∧ dn t (start w t) = 0
  | .nil => ⟨fun _ _ h => h, rfl⟩
  | .one _ _ _ => ⟨fun _ _ h => absurd (And.left h) (by simp [start]), by simp [start, dn]⟩
  | .two false l r => by
    obtain ⟨l1, l2⟩ := start_no w l
    obtain ⟨r1, r2⟩ := start_no w r
    have hl : start w l = .done → (∀ m j, ¬ LD l .done m j) ∧ dn l .done = 0 := fun e => by
      have := start_size w l e
      exact ⟨fun m j h => by rw [LD_done] at h; omega, by rw [dn_done]; exact this⟩
    have hr : start w r = .done → (∀ m j, ¬ LD r .done m j) ∧ dn r .done = 0 := fun e => by
      have := start_size w r e
      exact ⟨fun m j h => by rw [LD_done] at h; omega, by rw [dn_done]; exact this⟩
    rw [start_seq]
    split
    · rename_i e
      obtain ⟨a1, a2⟩ := hl e
      split
      · rename_i e'
        obtain ⟨b1, b2⟩ := hr e'
        exact ⟨fun m j h => h.elim (a1 _ _) (b1 _ _), by show dn l .done + dn r .done = 0; omega⟩
      · exact ⟨fun m j h => h.elim (a1 _ _) (r1 _ _), by show dn l .done + dn r (start w r) = 0; omega⟩
    · exact ⟨fun m j h => h.elim (l1 _ _) (LD_fresh r _ _), by show dn l (start w l) + dn r .fresh = 0; rw [dn_fresh]; omega⟩
  | .two true l r => by
    obtain ⟨l1, l2⟩ := start_no w l
    obtain ⟨r1, r2⟩ := start_no w r
    have hl : start w l = .done → (∀ m j, ¬ LD l .done m j) ∧ dn l .done = 0 := fun e => by
      have := start_size w l e
      exact ⟨fun m j h => by rw [LD_done] at h; omega, by rw [dn_done]; exact this⟩
    have hr : start w r = .done → (∀ m j, ¬ LD r .done m j) ∧ dn r .done = 0 := fun e => by
      have := start_size w r e
      exact ⟨fun m j h => by rw [LD_done] at h; omega, by rw [dn_done]; exact this⟩
    rw [start_par]
    split
    · rename_i e
      obtain ⟨a1, a2⟩ := hl e
      split
      · rename_i e'
        obtain ⟨b1, b2⟩ := hr e'
        exact ⟨fun m j h => h.elim (a1 _ _) (b1 _ _), by show dn l .done + dn r .done = 0; omega⟩
      · exact ⟨fun m j h => h.elim (a1 _ _) (r1 _ _), by show dn l .done + dn r (start w r) = 0; omega⟩
    · exact ⟨fun m j h => h.elim (l1 _ _) (LD_fresh r _ _), by show dn l (start w l) + dn r .fresh = 0; rw [dn_fresh]; omega⟩

theorem LD_lt : ∀ (t : T) (s : S) (m j : Nat), LD t s m j → m ≤ j ∧ j < m + t.size
  | .nil, _, _, _, h => h.elim
  | .one _ _ _, s, m, j, h => by obtain ⟨_, rfl⟩ := h; simp [T.size, T.leaves]
  | .two p l r, s, m, j, h => by
    rw [T.size_two]
    rcases h with h | h
    · have := LD_lt l _ _ _ h; omega
    · have := LD_lt r _ _ _ h; omega
theorem dn_le : ∀ (t : T) (s : S), dn t s ≤ t.size
  | .nil, _ => Nat.le_refl _
  | .one _ _ _, s => by unfold dn; split <;> simp [T.size, T.leaves]
  | .two p l r, s => by
    rw [T.size_two]
    have := dn_le l s.sl
    have := dn_le r s.sr
    unfold dn; omega

/-- what a worker's doing his leaf does -/
structure Does (w : Nat) (t : T) (s : S) : Prop where
  ld : ∀ m j, LD t (fin w t s) m j ↔ LD t s m j ∨ j = leafOf t s m w
  new : ∀ m, ¬ LD t s m (leafOf t s m w)
  lt : ∀ m, m ≤ leafOf t s m w ∧ leafOf t s m w < m + t.size
  dn : dn t (fin w t s) = dn t s + 1
  main : s.main = some w → ∀ m, leafOf t s m w = m + Stl.dn t s
  ahead : ∀ m j, (LD t s m j ∨ j = leafOf t s m w) → ∀ i, m ≤ i → t.bf (i - m) (j - m) → LD t s m i

theorem rk_l {p : Bool} {l r : T} {i : Nat} (hi : i < l.size) : (T.two p l r).rk i = l.rk i + (if p then r.size else 0) := by rw [T.rk, if_pos hi]
theorem rk_r {p : Bool} {l r : T} {i : Nat} (hi : l.size ≤ i) : (T.two p l r).rk i = r.rk (i - l.size) + (if p then 0 else l.size) := by rw [T.rk, if_neg (by omega)]
theorem bf_ll {p : Bool} {l r : T} {i j : Nat} (hi : i < l.size) (hj : j < l.size) (h : (T.two p l r).bf i j) : l.bf i j := by
  obtain ⟨h1, h2⟩ := h
  rw [rk_l hi, rk_l hj] at h2
  exact ⟨h1, by omega⟩
theorem bf_rr {p : Bool} {l r : T} {i j : Nat} (hi : l.size ≤ i) (hj : l.size ≤ j) (h : (T.two p l r).bf i j) : r.bf (i - l.size) (j - l.size) := by
  obtain ⟨h1, h2⟩ := h
  rw [rk_r hi, rk_r hj] at h2
  exact ⟨by omega, by omega⟩
theorem bf_lr {l r : T} {i j : Nat} (hi : i < l.size) (hj : l.size ≤ j) (hj2 : j - l.size < r.size) : ¬ (T.two true l r).bf i j := by
  rintro ⟨h1, h2⟩
  rw [rk_l hi, rk_r hj] at h2
  have := r.rk_lt _ hj2
  simp at h2
  omega
theorem bf_lt {t : T} {i j : Nat} (h : t.bf i j) : i < j := h.1

theorem does (w : Nat) : ∀ (t : T) (s : S), Act t s → w ∈ s.ws → s.ws.Nodup → Does w t s
  | .nil, s, h, _, _ => h.elim
  | .one c b lb, s, h, hw, _ => by
    cases s with
    | «at» u =>
      refine ⟨fun m j => ?_, fun m h => ?_, fun m => ?_, rfl, fun _ m => rfl, fun m j hj i hi hb => ?_⟩
      · show (S.done = S.done ∧ j = m) ↔ (S.at u = S.done ∧ j = m) ∨ j = m
        simp
      · exact absurd (And.left h) (by simp)
      · show m ≤ m ∧ m < m + 1
        omega
      · have : j = m := by
          rcases hj with h | h
          · exact absurd (And.left h) (by simp)
          · exact h
        have := bf_lt hb
        omega
    | _ => exact h.elim
  | .two false l r, s, h, hw, hd => by
    cases s with
    | seqL s =>
      obtain ⟨f1, f2, f3, f4, f5, f6⟩ := does w l s h hw hd
      have e0 : ∀ m, leafOf (.two false l r) (.seqL s) m w = leafOf l s m w := fun _ => rfl
      have e1 : ∀ m j, LD (.two false l r) (.seqL s) m j ↔ LD l s m j := fun m j => by
        show (LD l s m j ∨ LD r .fresh (m + l.size) j) ↔ _
        simp [LD_fresh]
      have e2 : dn (.two false l r) (.seqL s) = dn l s := by show dn l s + dn r .fresh = _; rw [dn_fresh, Nat.add_zero]
      have hfin : ∀ m j, LD (.two false l r) (fin w (.two false l r) (.seqL s)) m j ↔ LD l (fin w l s) m j := fun m j => by
        by_cases e : fin w l s = .done
        · by_cases er : start w r = .done
          · have hz := start_size w r er
            rw [show fin w (.two false l r) (.seqL s) = .done by simp [fin, e, er], e]
            show (LD l .done m j ∨ LD r .done (m + l.size) j) ↔ _
            rw [LD_done r]
            constructor
            · rintro (h | h)
              · exact h
              · omega
            · exact .inl
          · rw [show fin w (.two false l r) (.seqL s) = .seqR (start w r) by simp [fin, e, er], e]
            show (LD l .done m j ∨ LD r (start w r) (m + l.size) j) ↔ _
            simp [(start_no w r).1]
        · rw [show fin w (.two false l r) (.seqL s) = .seqL (fin w l s) by simp [fin, e]]
          show (LD l (fin w l s) m j ∨ LD r .fresh (m + l.size) j) ↔ _
          simp [LD_fresh]
      have hdn : dn (.two false l r) (fin w (.two false l r) (.seqL s)) = dn l (fin w l s) := by
        by_cases e : fin w l s = .done
        · by_cases er : start w r = .done
          · have hz := start_size w r er
            rw [show fin w (.two false l r) (.seqL s) = .done by simp [fin, e, er], e]
            show dn l .done + dn r .done = _
            rw [dn_done r, hz, Nat.add_zero]
          · rw [show fin w (.two false l r) (.seqL s) = .seqR (start w r) by simp [fin, e, er], e]
            show dn l .done + dn r (start w r) = _
            rw [(start_no w r).2, Nat.add_zero]
        · rw [show fin w (.two false l r) (.seqL s) = .seqL (fin w l s) by simp [fin, e]]
          show dn l (fin w l s) + dn r .fresh = _
          rw [dn_fresh, Nat.add_zero]
      refine ⟨fun m j => by rw [hfin, e0, e1]; exact f1 m j, fun m => by rw [e0, e1]; exact f2 m, fun m => by rw [e0, T.size_two]; have := f3 m; omega, by rw [hdn, e2]; exact f4, fun hm m => by rw [e0, e2]; exact f5 hm m, fun m j hj i hi hb => ?_⟩
      rw [e0, e1] at hj
      rw [e1]
      have hjl : j < m + l.size ∧ m ≤ j := by
        rcases hj with hj | hj
        · have := LD_lt l s m j hj; omega
        · have := f3 m; omega
      have := bf_lt hb
      exact f6 m j hj i hi (bf_ll (by omega) (by omega) hb)
    | seqR s =>
      obtain ⟨f1, f2, f3, f4, f5, f6⟩ := does w r s h hw hd
      have e0 : ∀ m, leafOf (.two false l r) (.seqR s) m w = leafOf r s (m + l.size) w := fun _ => rfl
      have e1 : ∀ m j, LD (.two false l r) (.seqR s) m j ↔ (m ≤ j ∧ j < m + l.size) ∨ LD r s (m + l.size) j := fun m j => by
        show (LD l .done m j ∨ LD r s (m + l.size) j) ↔ _
        rw [LD_done]
      have e2 : dn (.two false l r) (.seqR s) = l.size + dn r s := by show dn l .done + dn r s = _; rw [dn_done]
      have hfin : ∀ m j, LD (.two false l r) (fin w (.two false l r) (.seqR s)) m j ↔ (m ≤ j ∧ j < m + l.size) ∨ LD r (fin w r s) (m + l.size) j := fun m j => by
        by_cases e : fin w r s = .done
        · rw [show fin w (.two false l r) (.seqR s) = .done by simp [fin, e], e]
          show (LD l .done m j ∨ LD r .done (m + l.size) j) ↔ _
          rw [LD_done l]
        · rw [show fin w (.two false l r) (.seqR s) = .seqR (fin w r s) by simp [fin, e]]
          show (LD l .done m j ∨ LD r (fin w r s) (m + l.size) j) ↔ _
          rw [LD_done l]
      have hdn : dn (.two false l r) (fin w (.two false l r) (.seqR s)) = l.size + dn r (fin w r s) := by
        by_cases e : fin w r s = .done
        · rw [show fin w (.two false l r) (.seqR s) = .done by simp [fin, e], e]
          show dn l .done + dn r .done = _
          rw [dn_done l]
        · rw [show fin w (.two false l r) (.seqR s) = .seqR (fin w r s) by simp [fin, e]]
          show dn l .done + dn r (fin w r s) = _
          rw [dn_done l]
      refine ⟨fun m j => by rw [hfin, e0, e1, f1 (m + l.size) j, or_assoc], fun m h => ?_, fun m => by rw [e0, T.size_two]; have := f3 (m + l.size); omega, by rw [hdn, e2, f4]; omega, fun hm m => by rw [e0, e2, f5 hm (m + l.size)]; omega, fun m j hj i hi hb => ?_⟩
      · rw [e0, e1] at h
        rcases h with h | h
        · have := f3 (m + l.size); omega
        · exact f2 _ h
      · rw [e0, e1, or_assoc] at hj
        rw [e1]
        by_cases hil : i < m + l.size
        · exact .inl ⟨hi, hil⟩
        · refine .inr ?_
          have hlt := bf_lt hb
          have hj' := hj.resolve_left (by omega)
          exact f6 (m + l.size) j hj' i (by omega) (by
            have := bf_rr (by omega) (by omega) hb
            rwa [show i - m - l.size = i - (m + l.size) by omega, show j - m - l.size = j - (m + l.size) by omega] at this)
    | _ => exact h.elim
  | .two true l r, s, h, hw, hd => by
    have sep : ∀ (m i j : Nat), m ≤ i → i < m + l.size → m + l.size ≤ j → j < m + l.size + r.size → ¬ (T.two true l r).bf (i - m) (j - m) := fun m i j h1 h2 h3 h4 => bf_lr (by omega) (by omega) (by omega)
    cases s with
    | parQ s =>
      obtain ⟨f1, f2, f3, f4, f5, f6⟩ := does w l s h.1 hw hd
      have e0 : ∀ m, leafOf (.two true l r) (.parQ s) m w = leafOf l s m w := fun _ => rfl
      have e1 : ∀ m j, LD (.two true l r) (.parQ s) m j ↔ LD l s m j := fun m j => by
        show (LD l s m j ∨ LD r .fresh (m + l.size) j) ↔ _
        simp [LD_fresh]
      have e2 : dn (.two true l r) (.parQ s) = dn l s := by show dn l s + dn r .fresh = _; rw [dn_fresh, Nat.add_zero]
      have hfin : ∀ m j, LD (.two true l r) (fin w (.two true l r) (.parQ s)) m j ↔ LD l (fin w l s) m j := fun m j => by
        by_cases e : fin w l s = .done
        · by_cases er : start w r = .done
          · have hz := start_size w r er
            rw [show fin w (.two true l r) (.parQ s) = .done by simp [fin, e, er], e]
            show (LD l .done m j ∨ LD r .done (m + l.size) j) ↔ _
            rw [LD_done r]
            constructor
            · rintro (h | h)
              · exact h
              · omega
            · exact .inl
          · rw [show fin w (.two true l r) (.parQ s) = .parB .done (start w r) by simp [fin, e, er], e]
            show (LD l .done m j ∨ LD r (start w r) (m + l.size) j) ↔ _
            simp [(start_no w r).1]
        · rw [show fin w (.two true l r) (.parQ s) = .parQ (fin w l s) by simp [fin, e]]
          show (LD l (fin w l s) m j ∨ LD r .fresh (m + l.size) j) ↔ _
          simp [LD_fresh]
      have hdn : dn (.two true l r) (fin w (.two true l r) (.parQ s)) = dn l (fin w l s) := by
        by_cases e : fin w l s = .done
        · by_cases er : start w r = .done
          · have hz := start_size w r er
            rw [show fin w (.two true l r) (.parQ s) = .done by simp [fin, e, er], e]
            show dn l .done + dn r .done = _
            rw [dn_done r, hz, Nat.add_zero]
          · rw [show fin w (.two true l r) (.parQ s) = .parB .done (start w r) by simp [fin, e, er], e]
            show dn l .done + dn r (start w r) = _
            rw [(start_no w r).2, Nat.add_zero]
        · rw [show fin w (.two true l r) (.parQ s) = .parQ (fin w l s) by simp [fin, e]]
          show dn l (fin w l s) + dn r .fresh = _
          rw [dn_fresh, Nat.add_zero]
      refine ⟨fun m j => by rw [hfin, e0, e1]; exact f1 m j, fun m => by rw [e0, e1]; exact f2 m, fun m => by rw [e0, T.size_two]; have := f3 m; omega, by rw [hdn, e2]; exact f4, fun hm m => by rw [e0, e2]; exact f5 hm m, fun m j hj i hi hb => ?_⟩
      rw [e0, e1] at hj
      rw [e1]
      have hjl : j < m + l.size ∧ m ≤ j := by
        rcases hj with hj | hj
        · have := LD_lt l s m j hj; omega
        · have := f3 m; omega
      have := bf_lt hb
      exact f6 m j hj i hi (bf_ll (by omega) (by omega) hb)
    | parB a b =>
      obtain ⟨h1, h2, h3⟩ := h
      obtain ⟨da, db, dab⟩ := nodup_two hd
      have e1 : ∀ (a b : S) (m j : Nat), LD (.two true l r) (.parB a b) m j ↔ LD l a m j ∨ LD r b (m + l.size) j := fun _ _ _ _ => Iff.rfl
      have e1d : ∀ (m j : Nat), LD (.two true l r) .done m j ↔ LD l .done m j ∨ LD r .done (m + l.size) j := fun _ _ => Iff.rfl
      have e2 : ∀ (a b : S), dn (.two true l r) (.parB a b) = dn l a + dn r b := fun _ _ => rfl
      have e2d : dn (.two true l r) .done = dn l .done + dn r .done := rfl
      have hcf : ∀ m, leafOf (.two true l r) (.parB a b) m w = if w ∈ a.ws then leafOf l a m w else leafOf r b (m + l.size) w := fun _ => rfl
      -- what is done of either part, is done as it must
      have cl : ∀ (t : T) (c : S), (c = .done ∨ Act t c) → c.ws.Nodup → (∀ w ∈ c.ws, Does w t c) → ∀ m j, LD t c m j → ∀ i, m ≤ i → t.bf (i - m) (j - m) → LD t c m i := fun t c hc hn hdo m j hj i hi hb => by
        rcases hc with rfl | hc
        · rw [LD_done] at hj ⊢
          have := bf_lt hb
          omega
        · obtain ⟨v, hv⟩ := List.exists_mem_of_ne_nil _ (act_ws t c hc)
          exact (hdo v hv).ahead m j (.inl hj) i hi hb
      have cla := cl l a h1 da (fun v hv => does v l a (h1.resolve_left (fun e => by rw [e] at hv; cases hv)) hv da)
      have clb := cl r b h2 db (fun v hv => does v r b (h2.resolve_left (fun e => by rw [e] at hv; cases hv)) hv db)
      by_cases hwa : w ∈ a.ws
      · have ha : Act l a := h1.resolve_left (fun e => by rw [e] at hwa; cases hwa)
        obtain ⟨f1, f2, f3, f4, f5, f6⟩ := does w l a ha hwa da
        have e0 : ∀ m, leafOf (.two true l r) (.parB a b) m w = leafOf l a m w := fun m => by rw [hcf, if_pos hwa]
        have hfin : ∀ m j, LD (.two true l r) (fin w (.two true l r) (.parB a b)) m j ↔ LD l (fin w l a) m j ∨ LD r b (m + l.size) j := fun m j => by
          by_cases e : fin w l a = .done
          · by_cases eb : b = .done
            · rw [show fin w (.two true l r) (.parB a b) = .done by simp [fin, hwa, e, eb], e, eb]; exact Iff.rfl
            · rw [show fin w (.two true l r) (.parB a b) = .parB .done b by simp [fin, hwa, e, eb], e]; exact Iff.rfl
          · rw [show fin w (.two true l r) (.parB a b) = .parB (fin w l a) b by simp [fin, hwa, e]]; exact Iff.rfl
        have hdn : dn (.two true l r) (fin w (.two true l r) (.parB a b)) = dn l (fin w l a) + dn r b := by
          by_cases e : fin w l a = .done
          · by_cases eb : b = .done
            · rw [show fin w (.two true l r) (.parB a b) = .done by simp [fin, hwa, e, eb], e, eb]; rfl
            · rw [show fin w (.two true l r) (.parB a b) = .parB .done b by simp [fin, hwa, e, eb], e]; rfl
          · rw [show fin w (.two true l r) (.parB a b) = .parB (fin w l a) b by simp [fin, hwa, e]]; rfl
        refine ⟨fun m j => ?_, fun m h => ?_, fun m => by rw [e0, T.size_two]; have := f3 m; omega, by rw [hdn, e2, f4]; omega, fun hm => by simp [S.main, ha.not_done] at hm, fun m j hj i hi hb => ?_⟩
        · rw [hfin, e0, e1, f1 m j]
          exact or_right_comm
        · rw [e0, e1] at h
          rcases h with h | h
          · exact f2 m h
          · have := LD_lt r b _ _ h
            have := f3 m
            omega
        · rw [e0, e1] at hj
          rw [e1]
          have hlt := bf_lt hb
          by_cases hjl : j < m + l.size
          · refine .inl (f6 m j ?_ i hi (bf_ll (by omega) (by omega) hb))
            rcases hj with (hj | hj) | hj
            · exact .inl hj
            · have := LD_lt r b _ _ hj; omega
            · exact .inr hj
          · have hjr : LD r b (m + l.size) j := by
              rcases hj with (hj | hj) | hj
              · have := LD_lt l a _ _ hj; omega
              · exact hj
              · have := f3 m; omega
            have hjb := LD_lt r b _ _ hjr
            by_cases hil : i < m + l.size
            · exact absurd hb (sep m i j hi hil (by omega) (by omega))
            · refine .inr (clb (m + l.size) j hjr i (by omega) ?_)
              have := bf_rr (by omega) (by omega) hb
              rwa [show i - m - l.size = i - (m + l.size) by omega, show j - m - l.size = j - (m + l.size) by omega] at this
      · have hwb : w ∈ b.ws := (List.mem_append.1 hw).resolve_left hwa
        have hb_ : Act r b := h2.resolve_left (fun e => by rw [e] at hwb; cases hwb)
        obtain ⟨f1, f2, f3, f4, f5, f6⟩ := does w r b hb_ hwb db
        have e0 : ∀ m, leafOf (.two true l r) (.parB a b) m w = leafOf r b (m + l.size) w := fun m => by rw [hcf, if_neg hwa]
        have hfin : ∀ m j, LD (.two true l r) (fin w (.two true l r) (.parB a b)) m j ↔ LD l a m j ∨ LD r (fin w r b) (m + l.size) j := fun m j => by
          by_cases e : fin w r b = .done
          · by_cases ea : a = .done
            · rw [show fin w (.two true l r) (.parB a b) = .done by simp [fin, e, ea, S.ws], e, ea]; exact Iff.rfl
            · rw [show fin w (.two true l r) (.parB a b) = .parB a .done by simp [fin, hwa, e, ea], e]; exact Iff.rfl
          · rw [show fin w (.two true l r) (.parB a b) = .parB a (fin w r b) by simp [fin, hwa, e]]; exact Iff.rfl
        have hdn : dn (.two true l r) (fin w (.two true l r) (.parB a b)) = dn l a + dn r (fin w r b) := by
          by_cases e : fin w r b = .done
          · by_cases ea : a = .done
            · rw [show fin w (.two true l r) (.parB a b) = .done by simp [fin, e, ea, S.ws], e, ea]; rfl
            · rw [show fin w (.two true l r) (.parB a b) = .parB a .done by simp [fin, hwa, e, ea], e]; rfl
          · rw [show fin w (.two true l r) (.parB a b) = .parB a (fin w r b) by simp [fin, hwa, e]]; rfl
        refine ⟨fun m j => by rw [hfin, e0, e1, f1 (m + l.size) j, or_assoc], fun m h => ?_, fun m => by rw [e0, T.size_two]; have := f3 (m + l.size); omega, by rw [hdn, e2, f4]; omega, fun hm m => ?_, fun m j hj i hi hb => ?_⟩
        · rw [e0, e1] at h
          rcases h with h | h
          · have := LD_lt l a _ _ h
            have := f3 (m + l.size)
            omega
          · exact f2 _ h
        · by_cases ea : a = .done
          · subst ea
            rw [e0, e2, dn_done, f5 (by simpa [S.main] using hm) (m + l.size)]
            omega
          · simp [S.main, ea] at hm
        · rw [e0, e1] at hj
          rw [e1]
          have hlt := bf_lt hb
          by_cases hjl : j < m + l.size
          · have hja : LD l a m j := by
              rcases hj with (hj | hj) | hj
              · exact hj
              · have := LD_lt r b _ _ hj; omega
              · have := f3 (m + l.size); omega
            exact .inl (cla m j hja i hi (bf_ll (by omega) (by omega) hb))
          · have hjr : LD r b (m + l.size) j ∨ j = leafOf r b (m + l.size) w := by
              rcases hj with (hj | hj) | hj
              · have := LD_lt l a _ _ hj; omega
              · exact .inl hj
              · exact .inr hj
            have hjb : j < m + l.size + r.size := by
              rcases hjr with hj | hj
              · have := LD_lt r b _ _ hj; omega
              · have := f3 (m + l.size); omega
            by_cases hil : i < m + l.size
            · exact absurd hb (sep m i j hi hil (by omega) hjb)
            · refine .inr (f6 (m + l.size) j hjr i (by omega) ?_)
              have := bf_rr (by omega) (by omega) hb
              rwa [show i - m - l.size = i - (m + l.size) by omega, show j - m - l.size = j - (m + l.size) by omega] at this
    | _ => exact h.elim

theorem steal_LD (v w : Nat) : ∀ (t : T) (s : S), Act t s → (∀ m j, LD t (steal v w t s) m j ↔ LD t s m j) ∧ dn t (steal v w t s) = dn t s
  | .nil, s, h => h.elim
  | .one _ _ _, s, h => by
    cases s with
    | «at» u => exact ⟨fun _ _ => Iff.rfl, rfl⟩
    | _ => exact h.elim
  | .two false l r, s, h => by
    cases s with
    | seqL s =>
      obtain ⟨h1, h2⟩ := steal_LD v w l s h
      exact ⟨fun m j => by show (LD l (steal v w l s) m j ∨ LD r .fresh _ j) ↔ (LD l s m j ∨ LD r .fresh _ j); rw [h1], by show dn l (steal v w l s) + dn r .fresh = dn l s + dn r .fresh; rw [h2]⟩
    | seqR s =>
      obtain ⟨h1, h2⟩ := steal_LD v w r s h
      exact ⟨fun m j => by show (LD l .done m j ∨ LD r (steal v w r s) _ j) ↔ (LD l .done m j ∨ LD r s _ j); rw [h1], by show dn l .done + dn r (steal v w r s) = dn l .done + dn r s; rw [h2]⟩
    | _ => exact h.elim
  | .two true l r, s, h => by
    cases s with
    | parQ s =>
      obtain ⟨h1, h2⟩ := start_no v r
      exact ⟨fun m j => by show (LD l s m j ∨ LD r (start v r) _ j) ↔ (LD l s m j ∨ LD r .fresh _ j); simp [h1, LD_fresh], by show dn l s + dn r (start v r) = dn l s + dn r .fresh; rw [h2, dn_fresh]⟩
    | parB a b =>
      obtain ⟨h1, h2, h3⟩ := h
      by_cases hwa : w ∈ a.ws
      · obtain ⟨k1, k2⟩ := steal_LD v w l a (h1.resolve_left (fun e => by rw [e] at hwa; cases hwa))
        rw [show steal v w (.two true l r) (.parB a b) = .parB (steal v w l a) b by simp [steal, hwa]]
        exact ⟨fun m j => by show (LD l (steal v w l a) m j ∨ LD r b _ j) ↔ (LD l a m j ∨ LD r b _ j); rw [k1], by show dn l (steal v w l a) + dn r b = dn l a + dn r b; rw [k2]⟩
      · rw [show steal v w (.two true l r) (.parB a b) = .parB a (steal v w r b) by simp [steal, hwa]]
        rcases h2 with rfl | h2
        · have e : steal v w r .done = .done := by cases r <;> rfl
          rw [e]
          exact ⟨fun _ _ => Iff.rfl, rfl⟩
        · obtain ⟨k1, k2⟩ := steal_LD v w r b h2
          exact ⟨fun m j => by show (LD l a m j ∨ LD r (steal v w r b) _ j) ↔ (LD l a m j ∨ LD r b _ j); rw [k1], by show dn l a + dn r (steal v w r b) = dn l a + dn r b; rw [k2]⟩
    | _ => exact h.elim
end Go.Proofs.Ytcoijmnnnfogdaa.Stl


namespace Go.Proofs.Ytcoijmnnnfogdaa
set_option linter.unusedVariables false
set_option linter.unusedSimpArgs false
set_option maxRecDepth 100000
open Go.ChangeShapes Go.WideShapes Go.ChangeAt Go.RowKit

/-- 'append(v, src...)' as one operation, whatever comes behind -/
theorem step_append {P : Program} {w : World} {ops : Array Oper} {o : Oper} {a : Act} {K : Act → World → Prop} {Q : Exit → Act → World → Prop} {E : Prop} (s x : Operand)
    (base t e : TypeId) (z : Value) (size bytes : Nat) (ht : P.underlying t = some (.slice e)) (hinfo : (P.info? e).map (fun i => (i.zero, i.size, i.bytes)) = some (some z, size, bytes)) (hz : z.cells.size = size) (hsz : 0 < size)
    {v : Value} {n : Nat} {xs : List Value} (hown : w.ownsRow base e size v n xs) {B : Nat} {A : Option Addr} {m c : Nat} {news : List Value} (hcs : Cells w B A news) (hlen : news.length = m * size) (h1 : ∀ u ∈ news, u.oneCell' = true)
    (h63 : n + m ≤ maxLen) (hbytes : (n + m) * bytes ≤ 140737488355328) (hbase : base ≤ w.heap.size)
    (hgd : Region.wanted o (yielded ops a.tmps) = true) (ho : o.op = .call { callee := .builtin .append, args := #[s, x], argTypes := #[t, t] }) (hs : a.eval s = v) (hx : a.eval x = .slice A m c)
    (h : ∀ v' w', w'.ownsRow base e size v' (n + m) (xs ++ news) → w.grownBy w' v.ownBlock → (v'.ownBlock = v.ownBlock ∨ v'.ownBlock = some w.heap.size) → Below base w w' → K (a.put o.dst v') w') :
    if Region.wanted o (yielded ops a.tmps) = true then Oper.wp P o a w K Q else E := by
  rw [if_pos hgd]
  obtain ⟨v', w', hrun, h2, h3, h4⟩ := run_append (P := P) w base t o.type e z size bytes ht hinfo hz hsz v n xs hown B A m c news hlen hcs h1 h63 hbytes hbase
  unfold Oper.wp execOp
  simp only [ho, resolve, invoke, builtin, Sem.run_bind, Sem.run_pure, Result.andThen_ok, List.map_toArray, List.map_cons, List.map_nil, hs, hx, hrun]
  exact h v' w' h2 h3 h4 ((Below.refl _ _).grown h3 hbase (own_ge hown))

theorem Keeps.cell {S : Nat → Prop} {w w' : World} (k : Keeps S w w') {p : Addr} {v : Value} (h : w.cell? p = some v) (hn : ¬ S p.block) : w'.cell? p = some v := by
  have hlt : p.block < w.heap.size := by
    rcases Nat.lt_or_ge p.block w.heap.size with h' | h'
    · exact h'
    · simp [World.cell?, Array.getElem?_eq_none h'] at h
  rw [World.cell?_of_block (w := w) (k.block p.block hlt hn)]
  exact h
theorem SlV.lit (w : World) (vs : List Value) (e : TypeId) (sz n : Nat) (hv : vs.length = n * sz) (hn : n ≤ 1000) : SlV (w.alloc (.cells vs.toArray e)) sz (.slice (some ⟨w.heap.size, 0, none⟩) n n) n vs := by
  have := World.ownsRow_lit (e := e) (size := sz) (base := w.heap.size) w vs.toArray n (Nat.le_refl _) (by unfold maxLen; omega) (by simpa using hv)
  exact SlV.of_own (by simpa using this)
theorem SlV.drewN {w : World} {sz n : Nat} {v : Value} {vs : List Value} (h : SlV w sz v n vs) (k : Nat) : SlV (w.drewN k) sz v n vs := h
theorem ints_one1 (k : IntKind) (xs : List Int) : ∀ u ∈ ints k xs, u.oneCell' = true := by
  intro u hu
  obtain ⟨x, _, rfl⟩ := List.mem_map.1 hu
  rfl
/-- what was laid into a block of its own, behind a call that made memory -/
theorem cells_new_below {w w2 : World} {vs : List Value} {e : TypeId} (hb : Below (w.alloc (.cells vs.toArray e)).heap.size (w.alloc (.cells vs.toArray e)) w2) : Cells w2 (w.heap.size + 1) (some ⟨w.heap.size, 0, none⟩) vs :=
  (Cells.new w vs e).keep (Nat.le_refl _) (fun p hp => hb.cell (by simpa using hp))
theorem cells_new_drew {w w2 : World} {vs : List Value} {e : TypeId} (hb : Below (w.alloc (.cells vs.toArray e)).drew.heap.size (w.alloc (.cells vs.toArray e)).drew w2) : Cells w2 (w.heap.size + 1) (some ⟨w.heap.size, 0, none⟩) vs :=
  (Cells.new w vs e).keep (Nat.le_refl _) (fun p hp => hb.cell (by simpa using hp))
theorem below_self {w w1 w2 : World} (h : Below w.heap.size w w1) (hb : Below w1.heap.size w1 w2) : Below w.heap.size w w2 := below_next hb h
end Go.Proofs.Ytcoijmnnnfogdaa


namespace Go.Proofs.Ytcoijmnnnfogdaa
set_option linter.unusedVariables false
set_option linter.unusedSimpArgs false
set_option maxRecDepth 100000
open Go.RowKit

def partc (p : Stl.Part) : List Value := [.int .i64 (p.kind : Int), .int .i64 p.leaf, .int .i64 (p.left : Int), .int .i64 (p.right : Int), .int .i64 p.up, .bool p.onR, .bool p.done]
def partcs (l : List Stl.Part) : List Value := l.flatMap partc
theorem partcs_length (l : List Stl.Part) : (partcs l).length = l.length * 7 := flat_length partc 7 (fun _ => rfl) l
theorem partcs_append (a b : List Stl.Part) : partcs (a ++ b) = partcs a ++ partcs b := by simp [partcs]
theorem partcs_get (l : List Stl.Part) (i j : Nat) (p : Stl.Part) (h : l[i]? = some p) (hj : j < 7) : (partcs l)[i * 7 + j]? = (partc p)[j]? := flat_get partc 7 (fun _ => rfl) l i j p h hj
theorem partc_one (p : Stl.Part) : ∀ u ∈ partc p, u.oneCell' = true := by
  intro u hu
  simp only [partc, List.mem_cons, List.not_mem_nil, or_false] at hu
  rcases hu with rfl | rfl | rfl | rfl | rfl | rfl | rfl <;> rfl
theorem partcs_ext {l l' : List Stl.Part} {cs : List Value} (hl : l'.length = l.length) (hc : cs.length = l.length * 7) (h : ∀ i p j, l'[i]? = some p → j < 7 → cs[i * 7 + j]? = (partc p)[j]?) : cs = partcs l' := by
  apply List.ext_getElem?
  intro k
  by_cases hk : k < l.length * 7
  · have h1 : k / 7 < l'.length := by omega
    obtain ⟨p, hp⟩ : ∃ p, l'[k / 7]? = some p := ⟨_, List.getElem?_eq_getElem h1⟩
    have e := h (k / 7) p (k % 7) hp (by omega)
    have e' := partcs_get l' (k / 7) (k % 7) p hp (by omega)
    rw [show k / 7 * 7 + k % 7 = k by omega] at e e'
    rw [e, e']
  · rw [List.getElem?_eq_none (by omega), List.getElem?_eq_none (by rw [partcs_length]; omega)]
/-- a part's mark is set -/
theorem partcs_mark (l : List Stl.Part) (n : Nat) (p : Stl.Part) (hp : l[n]? = some p) : (partcs l).set (n * 7 + 6) (.bool true) = partcs (Stl.mark l n) := by
  have hm : Stl.mark l n = l.set n { p with done := true } := by unfold Stl.mark; rw [hp]
  have hn := (List.getElem?_eq_some_iff.1 hp).1
  refine partcs_ext (l := l) (by rw [hm, List.length_set]) (by rw [List.length_set, partcs_length]) fun i q j hq hj => ?_
  rw [hm, List.getElem?_set] at hq
  rw [List.getElem?_set]
  by_cases e : n = i
  · subst e
    rw [if_pos rfl, if_pos hn] at hq
    cases hq
    by_cases ej : j = 6
    · subst ej
      rw [if_pos rfl, if_pos (by rw [partcs_length]; omega)]
      rfl
    · rw [if_neg (by omega), partcs_get _ _ _ _ hp hj]
      match j, hj, ej with
      | 0, _, _ => rfl
      | 1, _, _ => rfl
      | 2, _, _ => rfl
      | 3, _, _ => rfl
      | 4, _, _ => rfl
      | 5, _, _ => rfl
      | 6, _, e => exact absurd rfl e
      | j + 7, hj, _ => omega
  · rw [if_neg e] at hq
    rw [if_neg (by omega), partcs_get _ _ _ _ hq hj]
/-- a part is laid in another one's place -/
theorem partcs_put (l : List Stl.Part) (n : Nat) (p : Stl.Part) (hn : n < l.length) : (partcs l).take (n * 7) ++ partc p ++ (partcs l).drop (n * 7 + 7) = partcs (l.set n p) := by
  have hl := partcs_length l
  refine partcs_ext (l := l) (by rw [List.length_set]) (by simp [hl, partc]; omega) fun i q j hq hj => ?_
  rw [part_get _ _ _ 7 (by omega) rfl]
  rw [List.getElem?_set] at hq
  by_cases e : n = i
  · subst e
    rw [if_pos rfl, if_pos hn] at hq
    cases hq
    rw [if_neg (by omega), if_pos (by omega), show n * 7 + j - n * 7 = j by omega]
  · rw [if_neg e] at hq
    by_cases h1 : i < n
    · rw [if_pos (by omega), partcs_get _ _ _ _ hq hj]
    · rw [if_neg (by omega), if_neg (by omega), partcs_get _ _ _ _ hq hj]

def donec (x : Nat × Int) : List Value := [.int .i64 (x.1 : Int), .int .i64 x.2]
def donecs (l : List (Nat × Int)) : List Value := l.flatMap donec
theorem donecs_length (l : List (Nat × Int)) : (donecs l).length = l.length * 2 := flat_length donec 2 (fun _ => rfl) l
theorem donecs_append (a b : List (Nat × Int)) : donecs (a ++ b) = donecs a ++ donecs b := by simp [donecs]
theorem donecs_get (l : List (Nat × Int)) (i : Nat) (p : Nat × Int) (h : l[i]? = some p) : (donecs l)[i * 2]? = some (.int .i64 (p.1 : Int)) ∧ (donecs l)[i * 2 + 1]? = some (.int .i64 p.2) :=
  ⟨flat_get donec 2 (fun _ => rfl) l i 0 p h (by omega), flat_get donec 2 (fun _ => rfl) l i 1 p h (by omega)⟩
theorem donec_one (x : Nat × Int) : ∀ u ∈ donec x, u.oneCell' = true := by
  intro u hu
  simp only [donec, List.mem_cons, List.not_mem_nil, or_false] at hu
  rcases hu with rfl | rfl <;> rfl

theorem info_part : (Try.prog.info? 85).map (fun i => (i.zero, i.size, i.bytes)) = some (some (.agg #[.int .i64 0, .int .i64 0, .int .i64 0, .int .i64 0, .int .i64 0, .bool false, .bool false]), 7, 48) := by kernel_rfl
theorem info_done : (Try.prog.info? 35).map (fun i => (i.zero, i.size, i.bytes)) = some (some (.agg #[.int .i64 0, .int .i64 0]), 2, 16) := by kernel_rfl
theorem info_pdq : (Try.prog.info? 66).map (fun i => (i.zero, i.size, i.bytes)) = some (some (.pointer none), 1, 8) := by kernel_rfl

def ptrs (gs : List Nat) : List Value := gs.map fun g => .pointer (some ⟨g, 0, none⟩)
theorem ptrs_get (gs : List Nat) (i g : Nat) (h : gs[i]? = some g) : (ptrs gs)[i]? = some (.pointer (some ⟨g, 0, none⟩)) := by simp [ptrs, h]

/-- a yard in block yb -/
structure YA (w : World) (yb base : Nat) (y : Stl.Y) (lv : Nat) (P A Q D : Value) (gs : List Nat) (rs : List (Option Nat)) : Prop where
  blk : Blk w yb 65 [P, .int .i64 (lv : Int), A, Q, D]
  above : base ≤ yb
  parts : w.ownsRow base 85 7 P y.ps.length (partcs y.ps)
  ats : w.ownsRow base 3 1 A y.at_.length (ints .i64 y.at_)
  qus : w.ownsRow base 66 1 Q gs.length (ptrs gs)
  log : w.ownsRow base 35 2 D y.log.length (donecs y.log)
  len1 : gs.length = y.qs.length
  len2 : rs.length = y.qs.length
  len3 : y.at_.length = y.qs.length
  dq : ∀ (i g : Nat) (r : Option Nat) (l : List Nat), gs[i]? = some g → rs[i]? = some r → y.qs[i]? = some l → DqRep w g (l.map fun (k : Nat) => (k : Int)) r ∧ base ≤ g
  gnd : gs.Nodup
  apart : ∀ (i j b : Nat), i ≠ j → rs[i]? = some (some b) → rs[j]? ≠ some (some b)
  off : ∀ (i b : Nat), rs[i]? = some (some b) → A.ownBlock ≠ some b

/-- blocks of unlike types are unlike -/
theorem Blk.type_ne {w : World} {g h : Nat} {t u : TypeId} {cs ds : List Value} (hg : Blk w g t cs) (hh : Blk w h u ds) (hne : t ≠ u) : g ≠ h := by
  rintro rfl
  unfold Blk at hg hh
  rw [hg] at hh
  injection hh with hh
  injection hh with _ ht
  exact hne ht
theorem DqRep.keeps {w w' : World} {g : Nat} {l : List Int} {r : Option Nat} {S : Nat → Prop} (h : DqRep w g l r) (k : Keeps S w w') (hg : ¬ S g) (hr : ∀ b, r = some b → ¬ S b) : DqRep w' g l r := by
  obtain ⟨ring, top, A, c, h, rfl⟩ := h
  exact ⟨ring, top, A, c, ⟨h.blk.keeps k hg, own_keeps h.own k (fun b hb => hr b hb), h.rng, h.small, h.small'⟩, rfl⟩
theorem DqRep.blk {w : World} {g : Nat} {l : List Int} {r : Option Nat} (h : DqRep w g l r) : ∃ cs, Blk w g 68 cs := by
  obtain ⟨ring, top, A, c, h, rfl⟩ := h
  exact ⟨_, h.blk⟩
theorem DqRep.row {w : World} {g : Nat} {l : List Int} {r : Option Nat} (h : DqRep w g l r) : ∃ v n xs, w.ownsRow (g + 1) 3 1 v n xs ∧ v.ownBlock = r := by
  obtain ⟨ring, top, A, c, h, rfl⟩ := h
  exact ⟨_, _, _, h.own, rfl⟩
theorem DqRep.lt {w : World} {g : Nat} {l : List Int} {r : Option Nat} (h : DqRep w g l r) : g < w.heap.size ∧ ∀ b, r = some b → g < b ∧ b < w.heap.size := by
  obtain ⟨ring, top, A, c, h, rfl⟩ := h
  exact ⟨h.blk.lt, fun b hb => h.own.lt b hb⟩

section
variable {w w' : World} {yb base lv : Nat} {y : Stl.Y} {P A Q D : Value} {gs : List Nat} {rs : List (Option Nat)}
theorem YA.at_dq (h : YA w yb base y lv P A Q D gs rs) {i : Nat} {l : List Nat} (hl : y.qs[i]? = some l) : ∃ g r, gs[i]? = some g ∧ rs[i]? = some r ∧ DqRep w g (l.map fun (k : Nat) => (k : Int)) r ∧ base ≤ g := by
  have hi := (List.getElem?_eq_some_iff.1 hl).1
  have h1 := h.len1
  have h2 := h.len2
  exact ⟨gs[i], rs[i], List.getElem?_eq_getElem (by omega), List.getElem?_eq_getElem (by omega), h.dq i _ _ l (List.getElem?_eq_getElem (by omega)) (List.getElem?_eq_getElem (by omega)) hl⟩
theorem YA.of_g (h : YA w yb base y lv P A Q D gs rs) {i g : Nat} (hg : gs[i]? = some g) : ∃ r l, rs[i]? = some r ∧ y.qs[i]? = some l ∧ DqRep w g (l.map fun (k : Nat) => (k : Int)) r ∧ base ≤ g := by
  have hi := (List.getElem?_eq_some_iff.1 hg).1
  have h1 := h.len1
  have h2 := h.len2
  exact ⟨rs[i], y.qs[i], List.getElem?_eq_getElem (by omega), List.getElem?_eq_getElem (by omega), h.dq i g _ _ hg (List.getElem?_eq_getElem (by omega)) (List.getElem?_eq_getElem (by omega))⟩
theorem YA.of_r (h : YA w yb base y lv P A Q D gs rs) {i b : Nat} (hb : rs[i]? = some (some b)) : ∃ g l, gs[i]? = some g ∧ y.qs[i]? = some l ∧ DqRep w g (l.map fun (k : Nat) => (k : Int)) (some b) := by
  have hi := (List.getElem?_eq_some_iff.1 hb).1
  have h1 := h.len1
  have h2 := h.len2
  exact ⟨gs[i], y.qs[i], List.getElem?_eq_getElem (by omega), List.getElem?_eq_getElem (by omega), (h.dq i _ _ _ (List.getElem?_eq_getElem (by omega)) hb (List.getElem?_eq_getElem (by omega))).1⟩
/-- what a ring's block is not -/
theorem YA.ring_ne (h : YA w yb base y lv P A Q D gs rs) {i b : Nat} (hb : rs[i]? = some (some b)) : yb ≠ b ∧ P.ownBlock ≠ some b ∧ Q.ownBlock ≠ some b ∧ D.ownBlock ≠ some b ∧ b ∉ gs := by
  obtain ⟨g, l, -, -, hd⟩ := h.of_r hb
  obtain ⟨v, n, xs, hr, hv⟩ := hd.row
  refine ⟨fun e => own_blk_ne hr h.blk (by decide) (e ▸ hv), fun e => own_own_ne h.parts hr (by decide) e hv, fun e => own_own_ne h.qus hr (by decide) e hv, fun e => own_own_ne h.log hr (by decide) e hv, fun hm => ?_⟩
  obtain ⟨j, hj⟩ := List.getElem?_of_mem hm
  obtain ⟨_, _, -, -, hd', -⟩ := h.of_g hj
  obtain ⟨cs, hc⟩ := hd'.blk
  exact own_blk_ne hr hc (by decide) hv
/-- what a deque's block is not -/
theorem YA.dq_ne (h : YA w yb base y lv P A Q D gs rs) {i g : Nat} (hg : gs[i]? = some g) : yb ≠ g ∧ P.ownBlock ≠ some g ∧ A.ownBlock ≠ some g ∧ Q.ownBlock ≠ some g ∧ D.ownBlock ≠ some g := by
  obtain ⟨_, _, -, -, hd, -⟩ := h.of_g hg
  obtain ⟨cs, hc⟩ := hd.blk
  exact ⟨fun e => Blk.type_ne h.blk hc (by decide) e, own_blk_ne h.parts hc (by decide), own_blk_ne h.ats hc (by decide), own_blk_ne h.qus hc (by decide), own_blk_ne h.log hc (by decide)⟩
theorem YA.keeps {S : Nat → Prop} (h : YA w yb base y lv P A Q D gs rs) (k : Keeps S w w') (h1 : ¬ S yb) (h2 : ∀ b, P.ownBlock = some b → ¬ S b) (h3 : ∀ b, A.ownBlock = some b → ¬ S b) (h4 : ∀ b, Q.ownBlock = some b → ¬ S b) (h5 : ∀ b, D.ownBlock = some b → ¬ S b) (h6 : ∀ (i g : Nat), gs[i]? = some g → ¬ S g) (h7 : ∀ (i b : Nat), rs[i]? = some (some b) → ¬ S b) : YA w' yb base y lv P A Q D gs rs :=
  ⟨h.blk.keeps k h1, h.above, own_keeps h.parts k h2, own_keeps h.ats k h3, own_keeps h.qus k h4, own_keeps h.log k h5, h.len1, h.len2, h.len3, fun i g r l a b c => ⟨(h.dq i g r l a b c).1.keeps k (h6 i g a) (fun b' e => h7 i b' (by rw [b, e])), (h.dq i g r l a b c).2⟩, h.gnd, h.apart, h.off⟩
theorem YA.below (h : YA w yb base y lv P A Q D gs rs) (k : Below w.heap.size w w') : YA w' yb base y lv P A Q D gs rs :=
  h.keeps (S := fun _ => False) (Keeps.of_below k _) (fun h => h) (fun _ _ h => h) (fun _ _ h => h) (fun _ _ h => h) (fun _ _ h => h) (fun _ _ _ h => h) (fun _ _ _ h => h)
theorem YA.lt (h : YA w yb base y lv P A Q D gs rs) : yb < w.heap.size := h.blk.lt
theorem YA.base_le (h : YA w yb base y lv P A Q D gs rs) : base ≤ w.heap.size := Nat.le_trans h.above (Nat.le_of_lt h.lt)

/-- something is done to a deque -/
theorem YA.deque (h : YA w yb base y lv P A Q D gs rs) {i g : Nat} {r r' : Option Nat} {l : List Nat} (hg : gs[i]? = some g) (hr : rs[i]? = some r) (k : Keeps (fun k => k = g ∨ some k = r) w w') (hd : DqRep w' g (l.map fun (k : Nat) => (k : Int)) r') (hr' : r' = r ∨ r' = some w.heap.size) : YA w' yb base { y with qs := y.qs.set i l } lv P A Q D gs (rs.set i r') := by
  have hi : i < rs.length := (List.getElem?_eq_some_iff.1 hr).1
  obtain ⟨n1, n2, n3, n4, n5⟩ := h.dq_ne hg
  have hrn : ∀ b, r = some b → yb ≠ b ∧ P.ownBlock ≠ some b ∧ Q.ownBlock ≠ some b ∧ D.ownBlock ≠ some b ∧ b ∉ gs := fun b e => h.ring_ne (by rw [hr, e])
  have hS : ∀ b : Nat, (b = g ∨ some b = r) → b ≠ yb ∧ P.ownBlock ≠ some b ∧ A.ownBlock ≠ some b ∧ Q.ownBlock ≠ some b ∧ D.ownBlock ≠ some b := fun b hb => by
    rcases hb with rfl | hb
    · exact ⟨fun e => n1 e.symm, n2, n3, n4, n5⟩
    · obtain ⟨a1, a2, a3, a4, a5⟩ := hrn b hb.symm
      exact ⟨fun e => a1 e.symm, a2, h.off i b (by rw [hr, hb]), a3, a4⟩
  have hold : ∀ b : Nat, r' = some b → r = some b ∨ b = w.heap.size := fun b e => by
    rcases hr' with e' | e'
    · exact .inl (by rw [← e', e])
    · rw [e'] at e; injection e with e; exact .inr e.symm
  have hset : ∀ j x, (rs.set i r')[j]? = some x → (j = i ∧ x = r') ∨ (j ≠ i ∧ rs[j]? = some x) := fun j x hx => by
    rw [List.getElem?_set] at hx
    by_cases e : i = j
    · subst e; rw [if_pos rfl, if_pos hi] at hx; cases hx; exact .inl ⟨rfl, rfl⟩
    · rw [if_neg e] at hx; exact .inr ⟨fun e' => e e'.symm, hx⟩
  have hrlt : ∀ (j b : Nat), rs[j]? = some (some b) → b < w.heap.size := fun j b hb => by
    obtain ⟨_, _, -, -, hd⟩ := h.of_r hb
    exact (hd.lt.2 b rfl).2
  refine ⟨h.blk.keeps k (fun e => (hS _ e).1 rfl), h.above, own_keeps h.parts k (fun b e hb => (hS b hb).2.1 e), own_keeps h.ats k (fun b e hb => (hS b hb).2.2.1 e), own_keeps h.qus k (fun b e hb => (hS b hb).2.2.2.1 e), own_keeps h.log k (fun b e hb => (hS b hb).2.2.2.2 e), by simpa using h.len1, by simpa using h.len2, by simpa using h.len3, ?_, h.gnd, ?_, ?_⟩
  · intro j g' x l' hg' hx hl'
    rcases hset j x hx with ⟨rfl, rfl⟩ | ⟨hne, hx⟩
    · rw [hg] at hg'; cases hg'
      have hiq : j < y.qs.length := by have := h.len2; omega
      rw [List.getElem?_set, if_pos rfl, if_pos hiq] at hl'
      cases hl'
      obtain ⟨_, _, -, -, -, hb⟩ := h.of_g hg
      exact ⟨hd, hb⟩
    · rw [List.getElem?_set, if_neg (fun e => hne e.symm)] at hl'
      obtain ⟨d1, d2⟩ := h.dq j g' x l' hg' hx hl'
      refine ⟨d1.keeps k (fun hs => ?_) (fun b e hs => ?_), d2⟩
      · rcases hs with e | e
        · subst e
          exact hne ((List.getElem?_inj (List.getElem?_eq_some_iff.1 hg').1 h.gnd).1 (hg'.trans hg.symm))
        · exact (hrn g' e.symm).2.2.2.2 (List.mem_of_getElem? hg')
      · subst e
        rcases hs with e | e
        · subst e
          exact (h.ring_ne hx).2.2.2.2 (List.mem_of_getElem? hg)
        · exact h.apart i j b (fun e' => hne e'.symm) (by rw [hr, e]) hx
  · intro j j' b hne hb hb'
    rcases hset j _ hb with ⟨rfl, e⟩ | ⟨hn, hx⟩ <;> rcases hset j' _ hb' with ⟨rfl, e'⟩ | ⟨hn', hx'⟩
    · exact hne rfl
    · rcases hold b e.symm with h1 | h1
      · exact h.apart j j' b hne (by rw [hr, h1]) hx'
      · have := hrlt j' b hx'; omega
    · rcases hold b e'.symm with h1 | h1
      · exact h.apart j' j b hn.symm (by rw [hr, h1]) hx
      · have := hrlt j b hx; omega
    · exact h.apart j j' b hne hx hx'
  · intro j b hb
    rcases hset j _ hb with ⟨rfl, e⟩ | ⟨hn, hx⟩
    · rcases hold b e.symm with h1 | h1
      · exact h.off j b (by rw [hr, h1])
      · intro e'
        have := (h.ats.lt b e').2
        omega
    · exact h.off j b hx

/-- parts are turned in their place -/
theorem YA.turned (h : YA w yb base y lv P A Q D gs rs) {pg : Nat} (hP : P.ownBlock = some pg) {ps : List Stl.Part} (hl : ps.length = y.ps.length) (ho : w'.ownsRow base 85 7 P y.ps.length (partcs ps)) (hg : w.grownBy w' (some pg)) : YA w' yb base { y with ps := ps } lv P A Q D gs rs := by
  have k : Keeps (fun k => some k = some pg) w w' := Keeps.of_grown hg
  refine ⟨h.blk.keeps k (fun e => own_blk_ne h.parts h.blk (by decide) (by rw [hP]; exact e.symm)), h.above, by rw [hl]; exact ho, own_keeps h.ats k (fun b e hb => own_own_ne h.parts h.ats (by decide) hP (by rw [e]; exact hb)), own_keeps h.qus k (fun b e hb => own_own_ne h.parts h.qus (by decide) hP (by rw [e]; exact hb)), own_keeps h.log k (fun b e hb => own_own_ne h.parts h.log (by decide) hP (by rw [e]; exact hb)), h.len1, h.len2, h.len3, fun i g r l a b c => ⟨(h.dq i g r l a b c).1.keeps k (fun e => (h.dq_ne a).2.1 (by rw [hP]; exact e.symm)) (fun b' e hb' => ?_), (h.dq i g r l a b c).2⟩, h.gnd, h.apart, h.off⟩
  exact (h.ring_ne (i := i) (b := b') (by rw [b, e])).2.1 (by rw [hP]; exact hb'.symm)
/-- a worker goes on -/
theorem YA.moved (h : YA w yb base y lv P A Q D gs rs) {ag : Nat} (hA : A.ownBlock = some ag) {xs : List Int} (hl : xs.length = y.at_.length) (ho : w'.ownsRow base 3 1 A y.at_.length (ints .i64 xs)) (hg : w.grownBy w' (some ag)) : YA w' yb base { y with at_ := xs } lv P A Q D gs rs := by
  have k : Keeps (fun k => some k = some ag) w w' := Keeps.of_grown hg
  refine ⟨h.blk.keeps k (fun e => own_blk_ne h.ats h.blk (by decide) (by rw [hA]; exact e.symm)), h.above, own_keeps h.parts k (fun b e hb => own_own_ne h.ats h.parts (by decide) hA (by rw [e]; exact hb)), by rw [hl]; exact ho, own_keeps h.qus k (fun b e hb => own_own_ne h.ats h.qus (by decide) hA (by rw [e]; exact hb)), own_keeps h.log k (fun b e hb => own_own_ne h.ats h.log (by decide) hA (by rw [e]; exact hb)), h.len1, h.len2, by rw [← h.len3]; exact hl, fun i g r l a b c => ⟨(h.dq i g r l a b c).1.keeps k (fun e => (h.dq_ne a).2.2.1 (by rw [hA]; exact e.symm)) (fun b' e hb' => ?_), (h.dq i g r l a b c).2⟩, h.gnd, h.apart, h.off⟩
  exact h.off i b' (by rw [b, e]) (by rw [hA]; exact hb'.symm)
/-- something more is done -/
theorem YA.logged {w'' : World} {D' : Value} {x : Nat × Int} (h : YA w yb base y lv P A Q D gs rs) (ho : w'.ownsRow base 35 2 D' (y.log.length + 1) (donecs y.log ++ donec x)) (hg : w.grownBy w' D.ownBlock) (hB : Blk w'' yb 65 [P, .int .i64 (lv : Int), A, Q, D']) (hg2 : w'.grownBy w'' (some yb)) : YA w'' yb base { y with log := y.log ++ [x] } lv P A Q D' gs rs := by
  have hyD : D.ownBlock ≠ some yb := own_blk_ne h.log h.blk (by decide)
  have hB' : Blk w' yb 65 [P, .int .i64 (lv : Int), A, Q, D] := h.blk.grown hg (fun e => hyD e.symm)
  have k : Keeps (fun k => D.ownBlock = some k ∨ k = yb) w w'' := ((Keeps.of_grown hg).mono fun i e => .inl e.symm).trans ((Keeps.of_grown hg2).mono fun i e => .inr (by injection e))
  have hne : ∀ {e : TypeId} {size n : Nat} {v : Value} {xs : List Value}, w.ownsRow base e size v n xs → e ≠ 35 → e ≠ 65 → ∀ b, v.ownBlock = some b → ¬ (D.ownBlock = some b ∨ b = yb) := fun hr h1 h2 b e hs => by
    rcases hs with hs | hs
    · exact own_own_ne hr h.log h1 e hs
    · exact own_blk_ne hr h.blk h2 (by rw [e, hs])
  refine ⟨hB, h.above, own_keeps h.parts k (hne h.parts (by decide) (by decide)), own_keeps h.ats k (hne h.ats (by decide) (by decide)), own_keeps h.qus k (hne h.qus (by decide) (by decide)), ?_, h.len1, h.len2, h.len3, fun i g r l a b c => ⟨(h.dq i g r l a b c).1.keeps k (fun e => ?_) (fun b' e hb' => ?_), (h.dq i g r l a b c).2⟩, h.gnd, h.apart, h.off⟩
  · have := own_keeps ho (Keeps.of_grown hg2) (fun b e e' => own_blk_ne ho hB' (by decide) (by rw [e, e']))
    simpa [donecs] using this
  · rcases e with e | e
    · exact (h.dq_ne a).2.2.2.2 e
    · exact (h.dq_ne a).1 e.symm
  · have hn := h.ring_ne (i := i) (b := b') (by rw [b, e])
    rcases hb' with e' | e'
    · exact hn.2.2.2.1 e'
    · exact hn.1 e'.symm
end
end Go.Proofs.Ytcoijmnnnfogdaa


namespace Go.Proofs.Ytcoijmnnnfogdaa
set_option linter.unusedVariables false
set_option linter.unusedSimpArgs false
set_option maxRecDepth 100000
open Go.RowKit

/-- the parts' cells, and the yard's -/
theorem YA.cells {w : World} {yb base lv : Nat} {y : Stl.Y} {P A Q D : Value} {gs : List Nat} {rs : List (Option Nat)} (h : YA w yb base y lv P A Q D gs rs) {pg N cap : Nat} (hP : P = .slice (some ⟨pg, 0, none⟩) N cap) {i : Nat} {p : Stl.Part} (hp : y.ps[i]? = some p) :
    w.cell? ⟨pg, i * 7, none⟩ = some (.int .i64 (p.kind : Int)) ∧ w.cell? ⟨pg, i * 7 + 1, none⟩ = some (.int .i64 p.leaf) ∧ w.cell? ⟨pg, i * 7 + 2, none⟩ = some (.int .i64 (p.left : Int)) ∧ w.cell? ⟨pg, i * 7 + 3, none⟩ = some (.int .i64 (p.right : Int)) ∧ w.cell? ⟨pg, i * 7 + 4, none⟩ = some (.int .i64 p.up) ∧ w.cell? ⟨pg, i * 7 + 5, none⟩ = some (.bool p.onR) ∧ w.cell? ⟨pg, i * 7 + 6, none⟩ = some (.bool p.done) := by
  have hi := (List.getElem?_eq_some_iff.1 hp).1
  have hr := h.parts
  rw [hP] at hr
  have hNe : N = y.ps.length := own_len hr
  rw [hNe] at hr
  have go : ∀ j, j < 7 → w.cell? ⟨pg, i * 7 + j, none⟩ = (partc p)[j]? := fun j hj => (hr.cellAt (i * 7 + j) (by omega)).trans (partcs_get _ _ _ _ hp hj)
  exact ⟨go 0 (by omega), go 1 (by omega), go 2 (by omega), go 3 (by omega), go 4 (by omega), go 5 (by omega), go 6 (by omega)⟩

theorem YA.heads {w : World} {yb base lv : Nat} {y : Stl.Y} {P A Q D : Value} {gs : List Nat} {rs : List (Option Nat)} (h : YA w yb base y lv P A Q D gs rs) : w.cell? ⟨yb, 0, none⟩ = some P ∧ w.cell? ⟨yb, 1, none⟩ = some (.int .i64 (lv : Int)) ∧ w.cell? ⟨yb, 2, none⟩ = some A ∧ w.cell? ⟨yb, 3, none⟩ = some Q ∧ w.cell? ⟨yb, 4, none⟩ = some D :=
  ⟨(h.blk.cell 0).trans rfl, (h.blk.cell 1).trans rfl, (h.blk.cell 2).trans rfl, (h.blk.cell 3).trans rfl, (h.blk.cell 4).trans rfl⟩
/-- what a call may have turned: nothing below base, and no pick -/
structure Fr (B : Nat) (w w' : World) : Prop where
  b : Below B w w'
  pk : ∀ g cs, Blk w g 59 cs → Blk w' g 59 cs
section
variable {B : Nat} {w w' w'' : World}
theorem Fr.refl (B : Nat) (w : World) : Fr B w w := ⟨Below.refl _ _, fun _ _ h => h⟩
theorem Fr.size (h : Fr B w w') : w.heap.size ≤ w'.heap.size := h.b.size
theorem Fr.trans (h : Fr B w w') (k : Fr B w' w'') : Fr B w w'' := ⟨h.b.trans k.b, fun g cs hb => k.pk g cs (h.pk g cs hb)⟩
theorem Fr.alloc (h : Fr B w w') (hB : B ≤ w'.heap.size) (o : Obj) : Fr B w (w'.alloc o) := ⟨h.b.alloc hB o, fun g cs hb => (h.pk g cs hb).alloc o⟩
theorem Fr.drewN (h : Fr B w w') (n : Nat) : Fr B w (w'.drewN n) := ⟨below_drewN h.b n, fun g cs hb => (h.pk g cs hb).drewN n⟩
theorem Fr.drew (h : Fr B w w') : Fr B w w'.drew := ⟨h.b.drew, fun g cs hb => (h.pk g cs hb).drew⟩
theorem Fr.below (h : Fr B w w') (k : Below w'.heap.size w' w'') (hB : B ≤ w.heap.size) : Fr B w w'' := h.trans ⟨k.mono (Nat.le_trans hB h.size), fun _ _ hb => hb.below k⟩
theorem Fr.row {e : TypeId} {size n g : Nat} {v : Value} {xs : List Value} (h : w.ownsRow B e size v n xs) (he : e ≠ 59) (hv : v.ownBlock = some g) (hg : w.grownBy w' (some g)) (hB : B ≤ w.heap.size) : Fr B w w' :=
  ⟨below_of_grown hg hB (h.lt g hv).1, fun g' cs hb => hb.grown hg (fun e' => own_blk_ne h hb he (by rw [hv, e']))⟩
theorem Fr.dq {g : Nat} {r : Option Nat} {l : List Int} (hd : DqRep w g l r) (hk : Keeps (fun k => k = g ∨ some k = r) w w') (hB : B ≤ w.heap.size) (hg : B ≤ g) : Fr B w w' := by
  obtain ⟨v, n, xs, hr, hv⟩ := hd.row
  obtain ⟨cs, hc⟩ := hd.blk
  refine ⟨hk.below hB fun i hi => ?_, fun g' ds hb => hb.keeps hk fun hi => ?_⟩
  · rcases hi with hi | hi
    · omega
    · have := (hr.lt i (by rw [hv, hi])).1; omega
  · rcases hi with hi | hi
    · exact Blk.type_ne hb hc (by decide) hi
    · exact own_blk_ne hr hb (by decide) (by rw [hv, hi])
end
def EndPost (w : World) (yb base lv : Nat) (y : Stl.Y) (P A Q D : Value) (gs : List Nat) (who : Nat) (ps' : List Stl.Part) (q' : List Nat) (a' : Int) : Ending → World → Prop := fun e w' =>
  e = .returned (.int .i64 a') ∧ (∃ rs', YA w' yb base { y with ps := ps', qs := y.qs.set who q' } lv P A Q D gs rs') ∧ Fr base w w'




set_option maxHeartbeats 4000000 in
theorem ended_step (f : Nat) (ih : ∀ (y : Stl.Y) (n who : Nat) (q : List Nat) (ps' : List Stl.Part) (q' : List Nat) (a' : Int) (w : World) (yb base lv : Nat) (P A Q D : Value) (gs : List Nat) (rs : List (Option Nat)), YA w yb base y lv P A Q D gs rs → y.qs[who]? = some q → y.ps.length ≤ 1152921504606846976 → Stl.ended f y.ps q n = some (ps', q', a') →
      Calls Try.prog 39 #[.pointer (some ⟨yb, 0, none⟩), .int .i64 (who : Int), .int .i64 (n : Int)] w (EndPost w yb base lv y P A Q D gs who ps' q' a'))
    (y : Stl.Y) (n who : Nat) (q : List Nat) (ps' : List Stl.Part) (q' : List Nat) (a' : Int) (w : World) (yb base lv : Nat) (P A Q D : Value) (gs : List Nat) (rs : List (Option Nat)) (h : YA w yb base y lv P A Q D gs rs) (hq : y.qs[who]? = some q) (hN : y.ps.length ≤ 1152921504606846976) (hF : Stl.ended (f + 1) y.ps q n = some (ps', q', a')) :
      Calls Try.prog 39 #[.pointer (some ⟨yb, 0, none⟩), .int .i64 (who : Int), .int .i64 (n : Int)] w (EndPost w yb base lv y P A Q D gs who ps' q' a') := by
  unfold Stl.ended at hF
  rcases hp : y.ps[n]? with _ | p
  · rw [hp] at hF; simp at hF
  rw [hp] at hF
  dsimp only at hF
  have hn := (List.getElem?_eq_some_iff.1 hp).1
  obtain ⟨pg, cap, rfl, hle, hm, hpb, hpl⟩ := own_addr h.parts (by omega)
  have hrow := h.parts
  obtain ⟨c0, -, -, -, -⟩ := h.heads
  unfold maxLen at hm
  have hbw := h.base_le
  have hT : ∀ w', w'.ownsRow base 85 7 (.slice (some ⟨pg, 0, none⟩) y.ps.length cap) y.ps.length ((partcs y.ps).set (n * 7 + 6) (.bool true)) → w.grownBy w' (some pg) → YA w' yb base { y with ps := Stl.mark y.ps n } lv (.slice (some ⟨pg, 0, none⟩) y.ps.length cap) A Q D gs rs := fun w' ho hg => by
    rw [partcs_mark _ _ _ hp] at ho
    exact h.turned rfl (by unfold Stl.mark; rw [hp]; simp) ho hg
  have hmk : (Stl.mark y.ps n)[n]? = some { p with done := true } := by unfold Stl.mark; rw [hp]; simp [hn]
  have hml : (Stl.mark y.ps n).length = y.ps.length := by unfold Stl.mark; rw [hp]; simp
  have hbel : ∀ w', w.grownBy w' (some pg) → Fr base w w' := fun w' hg => Fr.row h.parts (by decide) rfl hg h.base_le
  have hset : y.qs.set who q = y.qs := by
    obtain ⟨h1, h2⟩ := List.getElem?_eq_some_iff.1 hq
    rw [← h2]; exact List.set_getElem_self ..
  have HT := Lib.hid hT
  have HM := Lib.hid hmk
  have HB := Lib.hid hbel
  have HS := Lib.hid (And.intro hset (And.intro hq hml))
  have h0 := Lib.hid h
  clear hT hmk hbel hset hq hml hp h
  by_cases hup0 : p.up < 0
  · rw [if_pos hup0] at hF
    cases hF
    obtain ⟨up, hup⟩ : ∃ up, p.up = up := ⟨_, rfl⟩
    rw [hup] at hup0
    go_enter Try.func39, Try.ntmps39
    go_wp2_with (refine wpl_set_row hrow (n * 7 + 6) (.bool true) (by kernel_rfl) (by omega) rfl rfl rfl rfl rfl rfl ?_; intro w1 hown1 hg1; have h1 := HT.out w1 hown1 hg1; obtain ⟨b0, -, -, b3, -⟩ := h1.heads; have l2 : pg < w1.heap.size := Nat.lt_of_lt_of_le hpl hg1.size; have b0' := World.new_ne w1 _ b0; have b3' := World.new_ne w1 _ b3; obtain ⟨-, -, -, -, d4, d5, -⟩ := h1.cells (i := n) rfl HM.out; have l1 := h1.lt; have d4' := World.new_ne w1 _ d4; rw [hup] at d4)
    go_ret
    exact ⟨rfl, ⟨rs, by rw [HS.out.1]; exact h1⟩, HB.out _ hg1⟩
  rw [if_neg hup0] at hF
  obtain ⟨k, hup⟩ : ∃ k : Nat, p.up = (k : Int) := ⟨p.up.toNat, by omega⟩
  rw [hup, Int.toNat_natCast] at hF
  rcases hu : (Stl.mark y.ps n)[k]? with _ | u
  · rw [hu] at hF; simp at hF
  rw [hu] at hF
  dsimp only at hF
  have hk := (List.getElem?_eq_some_iff.1 hu).1
  rw [HS.out.2.2] at hk
  obtain ⟨onR, hor⟩ : ∃ onR, onR = p.onR := ⟨_, rfl⟩
  rw [← hor] at hF
  have HU := Lib.hid hu
  have HOR := Lib.hid hor
  clear hu hor
  by_cases hk2 : u.kind = 2
  · have hk2' : (u.kind : Int) = 2 := by omega
    rw [if_pos hk2] at hF
    have HK2 := Lib.hid hk2
    clear hk2
    rcases onR with _ | _
    · rw [if_neg (by simp)] at hF
      cases hF
      go_enter Try.func39, Try.ntmps39
      go_wp2_with (refine wpl_set_row hrow (n * 7 + 6) (.bool true) (by kernel_rfl) (by omega) rfl rfl rfl rfl rfl rfl ?_; intro w1 hown1 hg1; have h1 := HT.out w1 hown1 hg1; obtain ⟨b0, -, -, b3, -⟩ := h1.heads; have l2 : pg < w1.heap.size := Nat.lt_of_lt_of_le hpl hg1.size; have b0' := World.new_ne w1 _ b0; have b3' := World.new_ne w1 _ b3; obtain ⟨-, -, -, -, d4, d5, -⟩ := h1.cells (i := n) rfl HM.out; have l1 := h1.lt; have d4' := World.new_ne w1 _ d4; rw [hup] at d4; rw [← HOR.out] at d5; obtain ⟨e0, e1, e2, e3, e4, e5, e6⟩ := h1.cells (i := k) rfl HU.out; rw [hk2'] at e0)
      go_ret
      exact ⟨rfl, ⟨rs, by rw [HS.out.1]; exact h1.below (below_alloc (Below.refl _ _) _)⟩, (HB.out _ hg1).alloc h1.base_le _⟩
    · rw [if_pos rfl] at hF
      have HF := Lib.hid hF
      clear hF
      go_enter Try.func39, Try.ntmps39
      go_wp2_with (refine wpl_set_row hrow (n * 7 + 6) (.bool true) (by kernel_rfl) (by omega) rfl rfl rfl rfl rfl rfl ?_; intro w1 hown1 hg1; have h1 := HT.out w1 hown1 hg1; obtain ⟨b0, -, -, b3, -⟩ := h1.heads; have l2 : pg < w1.heap.size := Nat.lt_of_lt_of_le hpl hg1.size; have b0' := World.new_ne w1 _ b0; have b3' := World.new_ne w1 _ b3; obtain ⟨-, -, -, -, d4, d5, -⟩ := h1.cells (i := n) rfl HM.out; have l1 := h1.lt; have d4' := World.new_ne w1 _ d4; rw [hup] at d4; rw [← HOR.out] at d5; obtain ⟨e0, e1, e2, e3, e4, e5, e6⟩ := h1.cells (i := k) rfl HU.out; rw [hk2'] at e0)
      refine (ih _ k who q ps' q' a' _ yb base lv _ A Q D gs rs (h1.below (below_alloc (Below.refl _ _) _)) HS.out.2.1 (by rw [HS.out.2.2]; exact hN) HF.out).mono ?_
      rintro e w2 ⟨rfl, hY, hb2⟩
      have hbB := HB.out _ hg1
      clear d4 d5 b0 b3 e0 e1 e2 e3 e4 e5 e6 hown1 hg1 h1
      go_wp2
      go_ret
      exact ⟨rfl, hY, (hbB.alloc (Nat.le_trans (by omega) hbB.size) _).trans hb2⟩
  · rw [if_neg hk2] at hF
    have hk2' : ((u.kind : Int) == 2) = false := by rw [beq_eq_false_iff_ne]; omega
    rcases ha : (Stl.mark y.ps n)[u.left]? with _ | a
    · rw [ha] at hF; simp at hF
    rcases hb : (Stl.mark y.ps n)[u.right]? with _ | b
    · rw [ha, hb] at hF; simp at hF
    rw [ha, hb] at hF
    dsimp only at hF
    have hla := (List.getElem?_eq_some_iff.1 ha).1
    have hlb := (List.getElem?_eq_some_iff.1 hb).1
    rw [HS.out.2.2] at hla hlb
    have HA := Lib.hid ha
    have HB2 := Lib.hid hb
    have HK2 := Lib.hid hk2
    clear ha hb hk2
    obtain ⟨da, hda⟩ : ∃ da, da = a.done := ⟨_, rfl⟩
    obtain ⟨db, hdb⟩ : ∃ db, db = b.done := ⟨_, rfl⟩
    rw [← hda, ← hdb] at hF
    have HD := Lib.hid (And.intro hda hdb)
    clear hda hdb
    rcases da with _ | _
    · rw [if_neg (by simp)] at hF
      rcases onR with _ | _
      · rw [if_neg (by simp)] at hF
        have hwho := (List.getElem?_eq_some_iff.1 HS.out.2.1).1
        have hgl := h0.out.len1
        obtain ⟨qg, qc, rfl, hqle, hqm, hqb, hql⟩ := own_addr h0.out.qus (by omega)
        obtain ⟨g, r, hgw, hrw, hdq, hgb⟩ := h0.out.at_dq HS.out.2.1
        unfold maxLen at hqm
        have hwg : who < gs.length := by omega
        have HG := Lib.hid (And.intro hgw (And.intro hrw hgb))
        clear hgw hrw hgb hdq hgl hwho
        rcases hlast : q.getLast? with _ | j
        · rw [hlast] at hF
          cases hF
          have HQ := Lib.hid (show q = [] by simpa using hlast)
          clear hlast
          go_enter Try.func39, Try.ntmps39
          go_wp2_with (refine wpl_set_row hrow (n * 7 + 6) (.bool true) (by kernel_rfl) (by omega) rfl rfl rfl rfl rfl rfl ?_; intro w1 hown1 hg1; have h1 := HT.out w1 hown1 hg1; obtain ⟨b0, -, -, b3, -⟩ := h1.heads; have l2 : pg < w1.heap.size := Nat.lt_of_lt_of_le hpl hg1.size; have b0' := World.new_ne w1 _ b0; have b3' := World.new_ne w1 _ b3; obtain ⟨-, -, -, -, d4, d5, -⟩ := h1.cells (i := n) rfl HM.out; have l1 := h1.lt; have d4' := World.new_ne w1 _ d4; rw [hup] at d4; rw [← HOR.out] at d5; obtain ⟨e0, e1, e2, e3, e4, e5, e6⟩ := h1.cells (i := k) rfl HU.out; have la := (h1.cells (i := u.left) rfl HA.out).2.2.2.2.2.2; have lb := (h1.cells (i := u.right) rfl HB2.out).2.2.2.2.2.2; rw [← HD.out.1] at la; rw [← HD.out.2] at lb; have qcell := (h1.qus.cellAt who (by omega)).trans (ptrs_get _ _ _ HG.out.1); have qcell' : qg < w1.heap.size := World.block_lt_of_cell? w1 _ qcell)
          go_quiet (fail)
          go_wp2_with fail
          have h2 := h1.below (below_drewN (below_alloc (Below.refl w1.heap.size w1) (.cells #[Value.int .i64 u.kind, .int .i64 u.leaf, .int .i64 u.left, .int .i64 u.right, .int .i64 u.up, .bool u.onR, .bool u.done] 85)) nq)
          have hd := (h2.dq who g r q HG.out.1 HG.out.2.1 HS.out.2.1).1
          rw [HQ.out] at hd
          refine (pop_none g r _ hd).mono ?_
          rintro e w3 ⟨rfl, rfl⟩
          have hbB := HB.out _ hg1
          clear d4 d5 b0 b3 e0 e1 e2 e3 e4 e5 e6 hown1 hg1 h1 la lb hd qcell
          go_wp2
          go_ret
          exact ⟨rfl, ⟨rs, by rw [HS.out.1]; exact h2⟩, (hbB.alloc (Nat.le_trans (by omega) hbB.size) _).drewN _⟩
        · rw [hlast] at hF
          cases hF
          have HQ := Lib.hid (show q = q.dropLast ++ [j] by
            obtain ⟨l', hl'⟩ := List.getLast?_eq_some_iff.1 hlast
            rw [hl']; simp)
          clear hlast
          go_enter Try.func39, Try.ntmps39
          go_wp2_with (refine wpl_set_row hrow (n * 7 + 6) (.bool true) (by kernel_rfl) (by omega) rfl rfl rfl rfl rfl rfl ?_; intro w1 hown1 hg1; have h1 := HT.out w1 hown1 hg1; obtain ⟨b0, -, -, b3, -⟩ := h1.heads; have l2 : pg < w1.heap.size := Nat.lt_of_lt_of_le hpl hg1.size; have b0' := World.new_ne w1 _ b0; have b3' := World.new_ne w1 _ b3; obtain ⟨-, -, -, -, d4, d5, -⟩ := h1.cells (i := n) rfl HM.out; have l1 := h1.lt; have d4' := World.new_ne w1 _ d4; rw [hup] at d4; rw [← HOR.out] at d5; obtain ⟨e0, e1, e2, e3, e4, e5, e6⟩ := h1.cells (i := k) rfl HU.out; have la := (h1.cells (i := u.left) rfl HA.out).2.2.2.2.2.2; have lb := (h1.cells (i := u.right) rfl HB2.out).2.2.2.2.2.2; rw [← HD.out.1] at la; rw [← HD.out.2] at lb; have qcell := (h1.qus.cellAt who (by omega)).trans (ptrs_get _ _ _ HG.out.1); have qcell' : qg < w1.heap.size := World.block_lt_of_cell? w1 _ qcell)
          go_quiet (fail)
          go_wp2_with fail
          have h2 := h1.below (below_drewN (below_alloc (Below.refl w1.heap.size w1) (.cells #[Value.int .i64 u.kind, .int .i64 u.leaf, .int .i64 u.left, .int .i64 u.right, .int .i64 u.up, .bool u.onR, .bool u.done] 85)) nq)
          have hd := (h2.dq who g r q HG.out.1 HG.out.2.1 HS.out.2.1).1
          rw [HQ.out, List.map_append, List.map_cons, List.map_nil] at hd
          refine (pop_some g j _ r _ hd).mono ?_
          rintro e w3 ⟨rfl, hd3, hk3⟩
          have hbB := HB.out _ hg1
          have hb2 : Fr base w ((w1.alloc (.cells #[Value.int .i64 u.kind, .int .i64 u.leaf, .int .i64 u.left, .int .i64 u.right, .int .i64 u.up, .bool u.onR, .bool u.done] 85)).drewN nq) := (hbB.alloc (Nat.le_trans (by omega) hbB.size) _).drewN _
          have h3 := h2.deque HG.out.1 HG.out.2.1 (hk3.mono fun _ => .inl) hd3 (.inl rfl)
          have hb3 := hb2.trans (Fr.dq hd (hk3.mono fun _ => .inl) (Nat.le_trans hbw hb2.size) HG.out.2.2)
          have HE := Lib.hid (And.intro h3 hb3)
          clear d4 d5 b0 b3 e0 e1 e2 e3 e4 e5 e6 hown1 hg1 h1 la lb hd qcell h2 hd3 hk3 h3 hb3 hb2 hbB
          go_wp2
          go_ret
          exact ⟨rfl, ⟨_, HE.out.1⟩, HE.out.2⟩
      · rw [if_pos rfl] at hF
        cases hF
        go_enter Try.func39, Try.ntmps39
        go_wp2_with (refine wpl_set_row hrow (n * 7 + 6) (.bool true) (by kernel_rfl) (by omega) rfl rfl rfl rfl rfl rfl ?_; intro w1 hown1 hg1; have h1 := HT.out w1 hown1 hg1; obtain ⟨b0, -, -, b3, -⟩ := h1.heads; have l2 : pg < w1.heap.size := Nat.lt_of_lt_of_le hpl hg1.size; have b0' := World.new_ne w1 _ b0; have b3' := World.new_ne w1 _ b3; obtain ⟨-, -, -, -, d4, d5, -⟩ := h1.cells (i := n) rfl HM.out; have l1 := h1.lt; have d4' := World.new_ne w1 _ d4; rw [hup] at d4; rw [← HOR.out] at d5; obtain ⟨e0, e1, e2, e3, e4, e5, e6⟩ := h1.cells (i := k) rfl HU.out; have la := (h1.cells (i := u.left) rfl HA.out).2.2.2.2.2.2; have lb := (h1.cells (i := u.right) rfl HB2.out).2.2.2.2.2.2; rw [← HD.out.1] at la; rw [← HD.out.2] at lb)
        go_quiet (fail)
        go_wp2_with fail
        go_ret
        have hbB := HB.out _ hg1
        exact ⟨rfl, ⟨rs, by rw [HS.out.1]; exact h1.below (below_drewN (below_alloc (Below.refl _ _) _) _)⟩, (hbB.alloc (Nat.le_trans (by omega) hbB.size) _).drewN _⟩
    · rcases db with _ | _
      · rw [if_neg (by simp)] at hF
        rcases onR with _ | _
        · rw [if_neg (by simp)] at hF
          have hwho := (List.getElem?_eq_some_iff.1 HS.out.2.1).1
          have hgl := h0.out.len1
          obtain ⟨qg, qc, rfl, hqle, hqm, hqb, hql⟩ := own_addr h0.out.qus (by omega)
          obtain ⟨g, r, hgw, hrw, hdq, hgb⟩ := h0.out.at_dq HS.out.2.1
          unfold maxLen at hqm
          have hwg : who < gs.length := by omega
          have HG := Lib.hid (And.intro hgw (And.intro hrw hgb))
          clear hgw hrw hgb hdq hgl hwho
          rcases hlast : q.getLast? with _ | j
          · rw [hlast] at hF
            cases hF
            have HQ := Lib.hid (show q = [] by simpa using hlast)
            clear hlast
            go_enter Try.func39, Try.ntmps39
            go_wp2_with (refine wpl_set_row hrow (n * 7 + 6) (.bool true) (by kernel_rfl) (by omega) rfl rfl rfl rfl rfl rfl ?_; intro w1 hown1 hg1; have h1 := HT.out w1 hown1 hg1; obtain ⟨b0, -, -, b3, -⟩ := h1.heads; have l2 : pg < w1.heap.size := Nat.lt_of_lt_of_le hpl hg1.size; have b0' := World.new_ne w1 _ b0; have b3' := World.new_ne w1 _ b3; obtain ⟨-, -, -, -, d4, d5, -⟩ := h1.cells (i := n) rfl HM.out; have l1 := h1.lt; have d4' := World.new_ne w1 _ d4; rw [hup] at d4; rw [← HOR.out] at d5; obtain ⟨e0, e1, e2, e3, e4, e5, e6⟩ := h1.cells (i := k) rfl HU.out; have la := (h1.cells (i := u.left) rfl HA.out).2.2.2.2.2.2; have lb := (h1.cells (i := u.right) rfl HB2.out).2.2.2.2.2.2; rw [← HD.out.1] at la; rw [← HD.out.2] at lb; have qcell := (h1.qus.cellAt who (by omega)).trans (ptrs_get _ _ _ HG.out.1); have qcell' : qg < w1.heap.size := World.block_lt_of_cell? w1 _ qcell)
            go_quiet (fail)
            go_wp2_with fail
            have h2 := h1.below (below_drewN (below_alloc (Below.refl w1.heap.size w1) (.cells #[Value.int .i64 u.kind, .int .i64 u.leaf, .int .i64 u.left, .int .i64 u.right, .int .i64 u.up, .bool u.onR, .bool u.done] 85)) nq)
            have hd := (h2.dq who g r q HG.out.1 HG.out.2.1 HS.out.2.1).1
            rw [HQ.out] at hd
            refine (pop_none g r _ hd).mono ?_
            rintro e w3 ⟨rfl, rfl⟩
            have hbB := HB.out _ hg1
            clear d4 d5 b0 b3 e0 e1 e2 e3 e4 e5 e6 hown1 hg1 h1 la lb hd qcell
            go_wp2
            go_ret
            exact ⟨rfl, ⟨rs, by rw [HS.out.1]; exact h2⟩, (hbB.alloc (Nat.le_trans (by omega) hbB.size) _).drewN _⟩
          · rw [hlast] at hF
            cases hF
            have HQ := Lib.hid (show q = q.dropLast ++ [j] by
              obtain ⟨l', hl'⟩ := List.getLast?_eq_some_iff.1 hlast
              rw [hl']; simp)
            clear hlast
            go_enter Try.func39, Try.ntmps39
            go_wp2_with (refine wpl_set_row hrow (n * 7 + 6) (.bool true) (by kernel_rfl) (by omega) rfl rfl rfl rfl rfl rfl ?_; intro w1 hown1 hg1; have h1 := HT.out w1 hown1 hg1; obtain ⟨b0, -, -, b3, -⟩ := h1.heads; have l2 : pg < w1.heap.size := Nat.lt_of_lt_of_le hpl hg1.size; have b0' := World.new_ne w1 _ b0; have b3' := World.new_ne w1 _ b3; obtain ⟨-, -, -, -, d4, d5, -⟩ := h1.cells (i := n) rfl HM.out; have l1 := h1.lt; have d4' := World.new_ne w1 _ d4; rw [hup] at d4; rw [← HOR.out] at d5; obtain ⟨e0, e1, e2, e3, e4, e5, e6⟩ := h1.cells (i := k) rfl HU.out; have la := (h1.cells (i := u.left) rfl HA.out).2.2.2.2.2.2; have lb := (h1.cells (i := u.right) rfl HB2.out).2.2.2.2.2.2; rw [← HD.out.1] at la; rw [← HD.out.2] at lb; have qcell := (h1.qus.cellAt who (by omega)).trans (ptrs_get _ _ _ HG.out.1); have qcell' : qg < w1.heap.size := World.block_lt_of_cell? w1 _ qcell)
            go_quiet (fail)
            go_wp2_with fail
            have h2 := h1.below (below_drewN (below_alloc (Below.refl w1.heap.size w1) (.cells #[Value.int .i64 u.kind, .int .i64 u.leaf, .int .i64 u.left, .int .i64 u.right, .int .i64 u.up, .bool u.onR, .bool u.done] 85)) nq)
            have hd := (h2.dq who g r q HG.out.1 HG.out.2.1 HS.out.2.1).1
            rw [HQ.out, List.map_append, List.map_cons, List.map_nil] at hd
            refine (pop_some g j _ r _ hd).mono ?_
            rintro e w3 ⟨rfl, hd3, hk3⟩
            have hbB := HB.out _ hg1
            have hb2 : Fr base w ((w1.alloc (.cells #[Value.int .i64 u.kind, .int .i64 u.leaf, .int .i64 u.left, .int .i64 u.right, .int .i64 u.up, .bool u.onR, .bool u.done] 85)).drewN nq) := (hbB.alloc (Nat.le_trans (by omega) hbB.size) _).drewN _
            have h3 := h2.deque HG.out.1 HG.out.2.1 (hk3.mono fun _ => .inl) hd3 (.inl rfl)
            have hb3 := hb2.trans (Fr.dq hd (hk3.mono fun _ => .inl) (Nat.le_trans hbw hb2.size) HG.out.2.2)
            have HE := Lib.hid (And.intro h3 hb3)
            clear d4 d5 b0 b3 e0 e1 e2 e3 e4 e5 e6 hown1 hg1 h1 la lb hd qcell h2 hd3 hk3 h3 hb3 hb2 hbB
            go_wp2
            go_ret
            exact ⟨rfl, ⟨_, HE.out.1⟩, HE.out.2⟩
        · rw [if_pos rfl] at hF
          cases hF
          go_enter Try.func39, Try.ntmps39
          go_wp2_with (refine wpl_set_row hrow (n * 7 + 6) (.bool true) (by kernel_rfl) (by omega) rfl rfl rfl rfl rfl rfl ?_; intro w1 hown1 hg1; have h1 := HT.out w1 hown1 hg1; obtain ⟨b0, -, -, b3, -⟩ := h1.heads; have l2 : pg < w1.heap.size := Nat.lt_of_lt_of_le hpl hg1.size; have b0' := World.new_ne w1 _ b0; have b3' := World.new_ne w1 _ b3; obtain ⟨-, -, -, -, d4, d5, -⟩ := h1.cells (i := n) rfl HM.out; have l1 := h1.lt; have d4' := World.new_ne w1 _ d4; rw [hup] at d4; rw [← HOR.out] at d5; obtain ⟨e0, e1, e2, e3, e4, e5, e6⟩ := h1.cells (i := k) rfl HU.out; have la := (h1.cells (i := u.left) rfl HA.out).2.2.2.2.2.2; have lb := (h1.cells (i := u.right) rfl HB2.out).2.2.2.2.2.2; rw [← HD.out.1] at la; rw [← HD.out.2] at lb)
          go_quiet (fail)
          go_wp2_with fail
          go_ret
          have hbB := HB.out _ hg1
          exact ⟨rfl, ⟨rs, by rw [HS.out.1]; exact h1.below (below_drewN (below_alloc (Below.refl _ _) _) _)⟩, (hbB.alloc (Nat.le_trans (by omega) hbB.size) _).drewN _⟩
      · rw [if_pos (show (true && true) = true from rfl)] at hF
        have HF := Lib.hid hF
        clear hF
        go_enter Try.func39, Try.ntmps39
        go_wp2_with (refine wpl_set_row hrow (n * 7 + 6) (.bool true) (by kernel_rfl) (by omega) rfl rfl rfl rfl rfl rfl ?_; intro w1 hown1 hg1; have h1 := HT.out w1 hown1 hg1; obtain ⟨b0, -, -, b3, -⟩ := h1.heads; have l2 : pg < w1.heap.size := Nat.lt_of_lt_of_le hpl hg1.size; have b0' := World.new_ne w1 _ b0; have b3' := World.new_ne w1 _ b3; obtain ⟨-, -, -, -, d4, d5, -⟩ := h1.cells (i := n) rfl HM.out; have l1 := h1.lt; have d4' := World.new_ne w1 _ d4; rw [hup] at d4; rw [← HOR.out] at d5; obtain ⟨e0, e1, e2, e3, e4, e5, e6⟩ := h1.cells (i := k) rfl HU.out; have la := (h1.cells (i := u.left) rfl HA.out).2.2.2.2.2.2; have lb := (h1.cells (i := u.right) rfl HB2.out).2.2.2.2.2.2; rw [← HD.out.1] at la; rw [← HD.out.2] at lb)
        go_quiet (fail)
        go_wp2_with fail
        refine (ih _ k who q ps' q' a' _ yb base lv _ A Q D gs rs (h1.below (below_drewN (below_alloc (Below.refl _ _) _) _)) HS.out.2.1 (by rw [HS.out.2.2]; exact hN) HF.out).mono ?_
        rintro e w2 ⟨rfl, hY, hb2⟩
        have hbB := HB.out _ hg1
        clear d4 d5 b0 b3 e0 e1 e2 e3 e4 e5 e6 hown1 hg1 h1
        go_wp2
        go_ret
        exact ⟨rfl, hY, ((hbB.alloc (Nat.le_trans (by omega) hbB.size) _).drewN _).trans hb2⟩
theorem ended_any : ∀ (f : Nat) (y : Stl.Y) (n who : Nat) (q : List Nat) (ps' : List Stl.Part) (q' : List Nat) (a' : Int) (w : World) (yb base lv : Nat) (P A Q D : Value) (gs : List Nat) (rs : List (Option Nat)), YA w yb base y lv P A Q D gs rs → y.qs[who]? = some q → y.ps.length ≤ 1152921504606846976 → Stl.ended f y.ps q n = some (ps', q', a') →
      Calls Try.prog 39 #[.pointer (some ⟨yb, 0, none⟩), .int .i64 (who : Int), .int .i64 (n : Int)] w (EndPost w yb base lv y P A Q D gs who ps' q' a') := by
  intro f
  induction f with
  | zero => intro y n who q ps' q' a' w yb base lv P A Q D gs rs h hq hN hF; simp [Stl.ended] at hF
  | succ f ih => exact ended_step f ih
end Go.Proofs.Ytcoijmnnnfogdaa


namespace Go.Proofs.Ytcoijmnnnfogdaa
set_option linter.unusedVariables false
set_option linter.unusedSimpArgs false
set_option maxRecDepth 100000
open Go

abbrev Env := Tmp → Value

/-- what is known of a value, and stays known while the world goes on -/
structure Fact (E : World → World → Prop) where
  holds : Value → World → Prop
  keep : ∀ v w w', holds v w → E w w' → holds v w'

inductive Kind (E : World → World → Prop) where
  | fixed (v : Value)
  | fresh (F : Fact E)

section
variable {P : Program} {ops : Array Oper} {Q : Exit → Act → World → Prop} {S : World → Prop} {E : World → World → Prop}

def Kind.val (ρ : Env) (o : Oper) : Kind E → Value
  | .fixed v => v
  | .fresh _ => match o.dst with | some d => ρ d | none => undef
def Kind.rel : Kind E → Value → World → Prop
  | .fixed v => fun u _ => u = v
  | .fresh F => F.holds

def FactsOK (looks : List Tmp) (ρ : Env) (w : World) : List (Tmp × Fact E) → Prop
  | [] => True
  | (t, F) :: r => (looks.contains t = true → F.holds (ρ t) w) ∧ FactsOK looks ρ w r

def StepTo (P : Program) (ops : Array Oper) (S : World → Prop) (E : World → World → Prop) (o : Oper) (a : Act) (w : World) (R : Value → World → Prop) : Prop :=
  if Region.wanted o (yielded ops a.tmps) = true then
    ∀ K : Act → World → Prop, (∀ v w', R v w' → S w' → E w w' → K (a.put o.dst v) w') → o.wp P a w K (fun _ _ _ => False)
  else R undef w

def Settle (P : Program) (ops : Array Oper) (S : World → Prop) (E : World → World → Prop) (Z : (Env → Act) → List (Tmp × Fact E) → Prop) : List Oper → (Env → Act) → List (Tmp × Fact E) → Prop
  | [], A, Fs => Z A Fs
  | o :: rest, A, Fs =>
    (∃ v, (∀ ρ w, S w → FactsOK (o.looksAt ops) ρ w Fs → StepTo P ops S E o (A ρ) w (fun u _ => u = v)) ∧ Settle P ops S E Z rest (fun ρ => (A ρ).put o.dst v) Fs) ∨
    (∃ d F, o.dst = some d ∧ (∀ ρ w, S w → FactsOK (o.looksAt ops) ρ w Fs → StepTo P ops S E o (A ρ) w F.holds) ∧ Settle P ops S E Z rest (fun ρ => (A ρ).put (some d) (ρ d)) ((d, F) :: Fs))

def actOf (a : Act) (ρ : Env) (l : List (Oper × Kind E)) : Act := l.foldl (fun a p => a.put p.1.dst (p.2.val ρ p.1)) a
def addFact (Fs : List (Tmp × Fact E)) (p : Oper × Kind E) : List (Tmp × Fact E) :=
  match p.2, p.1.dst with
  | .fresh F, some d => (d, F) :: Fs
  | _, _ => Fs
def factsOf (l : List (Oper × Kind E)) : List (Tmp × Fact E) := l.foldl addFact []

structure Plan (P : Program) (ops : Array Oper) (S : World → Prop) (a : Act) (l : List (Oper × Kind E)) : Prop where
  dst : ∀ p ∈ l, (∃ F, p.2 = .fresh F) → ∃ d, p.1.dst = some d
  step : ∀ pre p post, l = pre ++ p :: post → ∀ ρ w, S w → FactsOK (p.1.looksAt ops) ρ w (factsOf pre) → StepTo P ops S E p.1 (actOf a ρ pre) w p.2.rel

theorem plan_snoc {a : Act} {l : List (Oper × Kind E)} (h : Plan P ops S a l) {p : Oper × Kind E} (h1 : (∃ F, p.2 = .fresh F) → ∃ d, p.1.dst = some d)
    (h2 : ∀ ρ w, S w → FactsOK (p.1.looksAt ops) ρ w (factsOf l) → StepTo P ops S E p.1 (actOf a ρ l) w p.2.rel) : Plan P ops S a (l ++ [p]) := by
  refine ⟨fun q hq hf => ?_, fun pre q post he => ?_⟩
  · rcases List.mem_append.1 hq with hq | hq
    · exact h.dst q hq hf
    · rw [List.mem_singleton.1 hq] at hf ⊢
      exact h1 hf
  · rcases List.eq_nil_or_concat post with rfl | ⟨post', q', rfl⟩
    · have := List.append_inj' he rfl
      obtain ⟨e1, e2⟩ := this
      injection e2 with e2
      subst e1 e2
      exact h2
    · have e : pre ++ q :: (post' ++ [q']) = (pre ++ q :: post') ++ [q'] := by simp
      rw [List.concat_eq_append, e] at he
      exact h.step pre q post' (List.append_inj' he rfl).1

theorem settle_plan {Z : (Env → Act) → List (Tmp × Fact E) → Prop} {a : Act} : ∀ (l : List Oper) (pre : List (Oper × Kind E)), Plan P ops S a pre → Settle P ops S E Z l (fun ρ => actOf a ρ pre) (factsOf pre) →
    ∃ full : List (Oper × Kind E), Plan P ops S a full ∧ full.map (·.1) = pre.map (·.1) ++ l ∧ Z (fun ρ => actOf a ρ full) (factsOf full) := by
  intro l
  induction l with
  | nil => exact fun pre hp h => ⟨pre, hp, by simp, h⟩
  | cons o rest ih =>
    intro pre hp h
    rcases h with ⟨v, h1, h2⟩ | ⟨d, F, hd, h1, h2⟩
    · obtain ⟨full, q1, q2, q3⟩ := ih (pre ++ [(o, .fixed v)]) (plan_snoc (p := (o, .fixed v)) hp (fun ⟨F, h⟩ => by cases h) h1) (by
        have e1 : (fun ρ => actOf a ρ (pre ++ [(o, (Kind.fixed v : Kind E))])) = fun ρ => (actOf a ρ pre).put o.dst v := by
          funext ρ; simp [actOf, Kind.val]
        have e2 : factsOf (pre ++ [(o, (Kind.fixed v : Kind E))]) = factsOf pre := by simp [factsOf, addFact]
        rw [e1, e2]
        exact h2)
      exact ⟨full, q1, by rw [q2]; simp, q3⟩
    · obtain ⟨full, q1, q2, q3⟩ := ih (pre ++ [(o, .fresh F)]) (plan_snoc (p := (o, .fresh F)) hp (fun _ => ⟨d, hd⟩) h1) (by
        have e1 : (fun ρ => actOf a ρ (pre ++ [(o, (Kind.fresh F : Kind E))])) = fun ρ => (actOf a ρ pre).put (some d) (ρ d) := by
          funext ρ; simp [actOf, Kind.val, hd]
        have e2 : factsOf (pre ++ [(o, (Kind.fresh F : Kind E))]) = (d, F) :: factsOf pre := by simp [factsOf, addFact, hd]
        rw [e1, e2]
        exact h2)
      exact ⟨full, q1, by rw [q2]; simp, q3⟩

/-! ### what an act holds when some of the operations have come up -/
structure Holds (a0 : Act) (full : List (Oper × Kind E)) (L : Nat → Prop) (ρ : Env) (a : Act) : Prop where
  defers : a.defers = a0.defers
  size : a.tmps.size = a0.tmps.size
  far : ∀ t, (∀ i p, L i → full[i]? = some p → p.1.dst ≠ some t) → a.tmps[t]? = a0.tmps[t]?
  near : ∀ i p t, L i → full[i]? = some p → p.1.dst = some t → t < a0.tmps.size → a.tmps[t]? = some (p.2.val ρ p.1)

theorem put_size (a : Act) (d : Option Tmp) (v : Value) : (a.put d v).tmps.size = a.tmps.size := by cases d <;> simp [Act.put]
theorem put_defers' (a : Act) (d : Option Tmp) (v : Value) : (a.put d v).defers = a.defers := by cases d <;> simp [Act.put]
theorem put_get_ne (a : Act) (d : Option Tmp) (v : Value) (t : Tmp) (h : d ≠ some t) : (a.put d v).tmps[t]? = a.tmps[t]? := by
  cases d with
  | none => rfl
  | some d => simp [Act.put, Array.getElem?_setIfInBounds_ne (show d ≠ t from fun e => h (by rw [e]))]
theorem put_get_eq (a : Act) (v : Value) (t : Tmp) (h : t < a.tmps.size) : (a.put (some t) v).tmps[t]? = some v := by
  simp [Act.put, h]

theorem Holds.put {a0 a : Act} {full : List (Oper × Kind E)} {L L' : Nat → Prop} {ρ ρ' : Env} (h : Holds a0 full L ρ a) {i : Nat} {p : Oper × Kind E} (hp : full[i]? = some p) (hL : ∀ j, L' j ↔ j = i ∨ L j)
    (hdist : ∀ j q, L j → full[j]? = some q → ∀ d, q.1.dst = some d → p.1.dst ≠ some d) (hρ : ∀ j q, L j → full[j]? = some q → q.2.val ρ' q.1 = q.2.val ρ q.1) :
    Holds a0 full L' ρ' (a.put p.1.dst (p.2.val ρ' p.1)) := by
  refine ⟨(put_defers' _ _ _).trans h.defers, (put_size _ _ _).trans h.size, fun t ht => ?_, fun j q t hj hq hd hlt => ?_⟩
  · rw [put_get_ne _ _ _ _ (ht i p ((hL i).2 (.inl rfl)) hp)]
    exact h.far t fun j q hj hq => ht j q ((hL j).2 (.inr hj)) hq
  · rcases (hL j).1 hj with rfl | hj'
    · rw [hp] at hq
      injection hq with hq
      subst hq
      rw [hd]
      exact put_get_eq _ _ _ (by rw [h.size]; exact hlt)
    · rw [put_get_ne _ _ _ _ (hdist j q hj' hq t hd), h.near j q t hj' hq hd hlt, hρ j q hj' hq]

theorem Holds.agree {a0 a a' : Act} {full : List (Oper × Kind E)} {L L' : Nat → Prop} {ρ : Env} (h : Holds a0 full L ρ a) (h' : Holds a0 full L' ρ a') (t : Tmp)
    (ht : ∀ j q, full[j]? = some q → q.1.dst = some t → (L j ↔ L' j)) : a.tmps[t]? = a'.tmps[t]? := by
  by_cases hex : ∃ j q, L j ∧ full[j]? = some q ∧ q.1.dst = some t
  · obtain ⟨j, q, hj, hq, hd⟩ := hex
    rcases Nat.lt_or_ge t a0.tmps.size with hlt | hge
    · rw [h.near j q t hj hq hd hlt, h'.near j q t ((ht j q hq hd).1 hj) hq hd hlt]
    · rw [Array.getElem?_eq_none (by rw [h.size]; exact hge), Array.getElem?_eq_none (by rw [h'.size]; exact hge)]
  · rw [h.far t (fun j q hj hq hd => hex ⟨j, q, hj, hq, hd⟩), h'.far t (fun j q hj hq hd => hex ⟨j, q, (ht j q hq hd).2 hj, hq, hd⟩)]

theorem Holds.unique {a0 a a' : Act} {full : List (Oper × Kind E)} {L : Nat → Prop} {ρ : Env} (h : Holds a0 full L ρ a) (h' : Holds a0 full L ρ a') : a = a' := by
  have e : a.tmps = a'.tmps := Array.ext_getElem? fun t => h.agree h' t fun _ _ _ _ => Iff.rfl
  have d := h.defers.trans h'.defers.symm
  cases a; cases a'; simp_all

/-- the order of the text is one, and what is not apart waits -/
def linearB (ops : Array Oper) : Bool :=
  Region.noSelect ops && (List.range ops.size).all fun j =>
    match ops[j]? with
    | none => true
    | some oj => oj.after.all (fun e => !Region.binds .any e || decide (e.on < j)) && !((oj.dst.map fun d => (oj.looksAt ops).contains d).getD false) && (List.range j).all fun i =>
      match ops[i]? with
      | none => true
      | some oi => (oi.apart ops oj || oj.after.any (fun e => Region.binds .any e && e.on == i)) && (match oi.dst with | some d => oj.dst != some d | none => true)

structure Linear (ops : Array Oper) : Prop where
  sel : ∀ (j : Nat) (o : Oper) cs b, ops[j]? = some o → o.op ≠ .select cs b
  back : ∀ (j : Nat) (o : Oper), ops[j]? = some o → ∀ e ∈ o.after, Region.binds .any e = true → e.on < j
  self : ∀ (j : Nat) (o : Oper) d, ops[j]? = some o → o.dst = some d → d ∉ o.looksAt ops
  wait : ∀ (i j : Nat) (oi oj : Oper), i < j → ops[i]? = some oi → ops[j]? = some oj → oi.apart ops oj = true ∨ ∃ e ∈ oj.after, Region.binds .any e = true ∧ e.on = i
  dist : ∀ (i j : Nat) (oi oj : Oper) d, i < j → ops[i]? = some oi → ops[j]? = some oj → oi.dst = some d → oj.dst ≠ some d

theorem linear_of (h : linearB ops = true) : Linear ops := by
  unfold linearB at h
  rw [Bool.and_eq_true, List.all_eq_true] at h
  obtain ⟨h0, h⟩ := h
  have key : ∀ (j : Nat) (oj : Oper), ops[j]? = some oj → _ := fun j oj hj => by
    have := h j (List.mem_range.2 (Array.getElem?_eq_some_iff.1 hj).1)
    rw [hj] at this
    simp only [Bool.and_eq_true] at this
    exact this
  refine ⟨Region.noSelect_spec h0, fun j o ho e he hb => ?_, fun j o d ho hd hmem => ?_, fun i j oi oj hij hi hj => ?_, fun i j oi oj d hij hi hj hd => ?_⟩
  · have := (key j o ho).1.1
    rw [Array.all_eq_true_iff_forall_mem] at this
    have := this e he
    simpa [hb] using this
  · have := (key j o ho).1.2
    rw [hd] at this
    simp [hmem] at this
  · have := (List.all_eq_true.1 (key j oj hj).2) i (List.mem_range.2 hij)
    rw [hi] at this
    simp only [Bool.and_eq_true, Bool.or_eq_true] at this
    rcases this.1 with h | h
    · exact .inl h
    · obtain ⟨n, hn, hb⟩ := Array.any_eq_true.1 h
      simp only [Bool.and_eq_true, beq_iff_eq] at hb
      exact .inr ⟨_, Array.getElem_mem hn, hb.1, hb.2⟩
  · have := (List.all_eq_true.1 (key j oj hj).2) i (List.mem_range.2 hij)
    rw [hi] at this
    simp only [Bool.and_eq_true] at this
    have h2 := this.2
    rw [hd] at h2
    simpa using h2

/-! ### whatever order comes up -/
theorem factsOK_of {looks : List Tmp} {ρ : Env} {w : World} : ∀ (Fs : List (Tmp × Fact E)), (∀ t F, (t, F) ∈ Fs → looks.contains t = true → F.holds (ρ t) w) → FactsOK looks ρ w Fs
  | [], _ => trivial
  | (t, F) :: r, h => ⟨h t F (by simp), factsOK_of r fun t' F' hm => h t' F' (by simp [hm])⟩

theorem mem_facts {l : List (Oper × Kind E)} {t : Tmp} {F : Fact E} : ∀ {Fs : List (Tmp × Fact E)}, (t, F) ∈ l.foldl addFact Fs → (t, F) ∈ Fs ∨ ∃ (i : Nat) (p : Oper × Kind E), l[i]? = some p ∧ p.2 = .fresh F ∧ p.1.dst = some t := by
  induction l with
  | nil => exact fun h => .inl h
  | cons q l ih =>
    intro Fs h
    rw [List.foldl_cons] at h
    rcases ih h with h | ⟨i, p, h1, h2⟩
    · obtain ⟨o, k⟩ := q
      rcases k with v | G
      · exact .inl (by simpa [addFact] using h)
      · rcases hd : o.dst with _ | d
        · exact .inl (by simpa [addFact, hd] using h)
        · simp only [addFact, hd, List.mem_cons, Prod.mk.injEq] at h
          rcases h with ⟨rfl, rfl⟩ | h
          · exact .inr ⟨0, _, rfl, rfl, hd⟩
          · exact .inl h
    · exact .inr ⟨i + 1, p, by simpa using h1, h2⟩

theorem wp_carry {o : Oper} {a1 a2 : Act} {w : World} {R : Value → World → Prop} {K : Act → World → Prop} (he : execOp a2.eval o = execOp a1.eval o) (hsz : a1.tmps.size = a2.tmps.size)
    (h : o.wp P a1 w (fun a' w' => ∃ v, a' = a1.put o.dst v ∧ R v w') (fun _ _ _ => False)) (hK : ∀ v w', R v w' → K (a2.put o.dst v) w') : o.wp P a2 w K Q := by
  have key : ∀ u v, a1.put o.dst u = a1.put o.dst v → a2.put o.dst u = a2.put o.dst v := by
    intro u v huv
    cases hd : o.dst with
    | none => rfl
    | some d =>
      rw [hd] at huv
      rcases Nat.lt_or_ge d a1.tmps.size with hlt | hge
      · have h1 := put_get_eq a1 u d hlt
        rw [huv, put_get_eq a1 v d hlt] at h1
        injection h1 with h1
        rw [h1]
      · have : ¬ d < a2.tmps.size := by rw [← hsz]; exact Nat.not_lt.2 hge
        simp [Act.put, Array.setIfInBounds, this]
  have kd : ∀ (d : Deferred) u v, ({ a1 with defers := d :: a1.defers } : Act).put o.dst u = a1.put o.dst v → False := by
    intro d u v h
    have := congrArg Act.defers h
    rw [put_defers', put_defers'] at this
    simp at this
  unfold Oper.wp at *
  rw [he]
  generalize (execOp a1.eval o).run P w = r at *
  cases r with
  | ok n w' =>
    cases n <;> simp only [Oper.upon] at h ⊢
    case value u => obtain ⟨v, e, hR⟩ := h; rw [key u v e]; exact hK v _ hR
    case skip => obtain ⟨v, e, hR⟩ := h; rw [key _ v e]; exact hK v _ hR
    case defer d => obtain ⟨v, e, hR⟩ := h; exact (kd d _ v e).elim
    case enter f args =>
      refine Calls.mono h fun e w'' hh => ?_
      cases e with
      | returned u => obtain ⟨v, e, hR⟩ := hh; simp only; rw [key u v e]; exact hK v _ hR
      | panicked c => exact hh.elim
      | outgrown => obtain ⟨_, _, hf⟩ := hh; exact hf.elim
    case row row args => exact Rows.mono h fun u w'' hh => by obtain ⟨v, e, hR⟩ := hh; rw [key u v e]; exact hK v _ hR
  | halt x w' => cases x <;> simp only [Oper.upon] at h ⊢

theorem holds_prefix (a0 : Act) (full : List (Oper × Kind E)) (ρ : Env) (hdist : ∀ (i j : Nat) (p q : Oper × Kind E) (d : Tmp), i < j → full[i]? = some p → full[j]? = some q → p.1.dst = some d → q.1.dst ≠ some d) :
    ∀ n, n ≤ full.length → Holds a0 full (fun i => i < n) ρ (actOf a0 ρ (full.take n)) := by
  intro n
  induction n with
  | zero => exact fun _ => ⟨rfl, rfl, fun _ _ => rfl, fun i p t hi => absurd hi (Nat.not_lt_zero _)⟩
  | succ n ih =>
    intro hn
    have hp : full[n]? = some full[n] := List.getElem?_eq_getElem (by omega)
    have e : actOf a0 ρ (full.take (n + 1)) = (actOf a0 ρ (full.take n)).put full[n].1.dst (full[n].2.val ρ full[n].1) := by
      unfold actOf
      rw [List.take_succ_eq_append_getElem (by omega), List.foldl_append]
      rfl
    rw [e]
    exact (ih (by omega)).put hp (fun j => by omega) (fun j q hj hq d hd => hdist j n q _ d hj hq hp hd) (fun _ _ _ _ => rfl)

theorem any_order {a0 : Act} {full : List (Oper × Kind E)} (hops : full.map (·.1) = ops.toList) (hlin : Linear ops) (hp : Plan P ops S a0 full)
    (hZ : ∀ ρ w, S w → (∀ t F, (t, F) ∈ factsOf full → F.holds (ρ t) w) → Q .normal (actOf a0 ρ full) w) :
    ∀ (fuel : Nat) (listed : Array Bool) (a : Act) (w : World) (ρ : Env), listed.size = ops.size → (∀ i j o, listed.getD j false = true → ops[j]? = some o → (∃ e ∈ o.after, Region.binds .any e = true ∧ e.on = i) → listed.getD i false = true) →
      (∃ todo : List Nat, todo.length ≤ fuel ∧ ∀ i, i < ops.size → listed.getD i false = false → i ∈ todo) →
      Holds a0 full (fun i => listed.getD i false = true) ρ a → S w → (∀ (i : Nat) (p : Oper × Kind E) (F : Fact E) (d : Tmp), listed.getD i false = true → full[i]? = some p → p.2 = .fresh F → p.1.dst = some d → F.holds (ρ d) w) →
      wpAny P .any ops Q fuel listed a w := by
  have hget : ∀ (i : Nat) (p : Oper × Kind E), full[i]? = some p → ops[i]? = some p.1 := fun i p h => by
    have : (full.map (·.1))[i]? = some p.1 := by simp [h]
    rw [hops] at this
    simpa using this
  have hlen : full.length = ops.size := by
    have := congrArg List.length hops
    simpa using this
  have hget' : ∀ (i : Nat) (o : Oper), ops[i]? = some o → ∃ p : Oper × Kind E, full[i]? = some p ∧ p.1 = o := fun i o h => by
    have hi : i < full.length := by rw [hlen]; exact (Array.getElem?_eq_some_iff.1 h).1
    have h1 := hget i _ (List.getElem?_eq_getElem hi)
    rw [h] at h1
    injection h1 with h1
    exact ⟨_, List.getElem?_eq_getElem hi, h1.symm⟩
  have hdist : ∀ (i j : Nat) (p q : Oper × Kind E) (d : Tmp), i < j → full[i]? = some p → full[j]? = some q → p.1.dst = some d → q.1.dst ≠ some d := fun i j p q d hij h1 h2 => hlin.dist i j _ _ d hij (hget i p h1) (hget j q h2)
  have hdist2 : ∀ (i j : Nat) (p q : Oper × Kind E) (d : Tmp), i ≠ j → full[i]? = some p → full[j]? = some q → p.1.dst = some d → q.1.dst ≠ some d := fun i j p q d hij h1 h2 hd hd' => by
    rcases Nat.lt_or_gt_of_ne hij with h | h
    · exact hdist i j p q d h h1 h2 hd hd'
    · exact hdist j i q p d h h2 h1 hd' hd
  -- all have come up
  have fin : ∀ (listed : Array Bool) (a : Act) (w : World) (ρ : Env), listed.size = ops.size → (∀ i, i < ops.size → listed.getD i false = true) → Holds a0 full (fun i => listed.getD i false = true) ρ a → S w →
      (∀ (i : Nat) (p : Oper × Kind E) (F : Fact E) (d : Tmp), listed.getD i false = true → full[i]? = some p → p.2 = .fresh F → p.1.dst = some d → F.holds (ρ d) w) → Q .normal a w := fun listed a w ρ hsz hall hH hS hF => by
    have h1 : Holds a0 full (fun i => i < full.length) ρ (actOf a0 ρ full) := by
      have := holds_prefix a0 full ρ hdist full.length (Nat.le_refl _)
      rwa [List.take_length] at this
    have h2 : Holds a0 full (fun i => i < full.length) ρ a :=
      ⟨hH.defers, hH.size, fun t ht => hH.far t fun i p hi hp => ht i p (List.getElem?_eq_some_iff.1 hp).1 hp, fun i p t hi => hH.near i p t (hall i (by omega))⟩
    rw [h2.unique h1]
    refine hZ ρ w hS fun t F hm => ?_
    rcases mem_facts hm with h | ⟨i, p, h1, h2, h3⟩
    · cases h
    · exact hF i p F t (hall i (by have := (List.getElem?_eq_some_iff.1 h1).1; omega)) h1 h2 h3
  have none_left : ∀ listed : Array Bool, listed.size = ops.size → Region.ready .any ops listed = [] → ∀ n i, i < n → i < ops.size → listed.getD i false = true := by
    intro listed hsz hr n
    induction n with
    | zero => intro i h; omega
    | succ n ih =>
      intro i hi hlt
      cases hli : listed.getD i false with
      | true => rfl
      | false =>
        have ho : ops[i]? = some ops[i] := Array.getElem?_eq_getElem hlt
        have hmem : i ∈ Region.ready .any ops listed := by
          rw [mem_ready]
          refine ⟨?_, _, ho, fun e he hb => ?_⟩
          · simp only [Array.getD, hsz, hlt, dif_pos] at hli ⊢
            exact hli
          · have := hlin.back i _ ho e he hb
            exact ih e.on (by omega) (by omega)
        rw [hr] at hmem
        cases hmem
  intro fuel
  induction fuel with
  | zero =>
    intro listed a w ρ hsz hdown ⟨todo, htodo, hin⟩ hH hS hF
    have hall : ∀ i, i < ops.size → listed.getD i false = true := fun i hi => by
      cases hli : listed.getD i false with
      | true => rfl
      | false =>
        have := hin i hi hli
        rw [List.eq_nil_of_length_eq_zero (Nat.le_zero.1 htodo)] at this
        cases this
    refine ⟨?_, fin listed a w ρ hsz hall hH hS hF⟩
    rw [List.eq_nil_iff_forall_not_mem]
    intro i hi
    obtain ⟨h0, o, ho, _⟩ := mem_ready.1 hi
    have hlt := (Array.getElem?_eq_some_iff.1 ho).1
    have := hall i hlt
    simp only [Array.getD, hsz, hlt, dif_pos] at this h0
    rw [this] at h0
    cases h0
  | succ fuel ih =>
    intro listed a w ρ hsz hdown ⟨todo, htodo, hin⟩ hH hS hF
    refine ⟨fun hr => fin listed a w ρ hsz (fun i hi => none_left listed hsz hr (i + 1) i (by omega) hi) hH hS hF, fun i hi => ?_⟩
    obtain ⟨h0, o, ho, hall⟩ := mem_ready.1 hi
    have hlt := (Array.getElem?_eq_some_iff.1 ho).1
    have h0' : listed.getD i false = false := by
      simp only [Array.getD, hsz, hlt, dif_pos] at h0 ⊢
      exact h0
    obtain ⟨p, hpi, rfl⟩ := hget' i o ho
    have hil : i < full.length := by omega
    have hpre : Holds a0 full (fun j => j < i) ρ (actOf a0 ρ (full.take i)) := holds_prefix a0 full ρ hdist i (by omega)
    have hsplit : full = full.take i ++ p :: full.drop (i + 1) := by
      have : full[i] = p := by have := List.getElem?_eq_getElem hil; rw [hpi] at this; injection this with this; exact this.symm
      rw [← this, List.getElem_cons_drop, List.take_append_drop]
    have hstep := hp.step _ p _ hsplit ρ w hS
    have conf : ∀ (j : Nat) (q : Oper × Kind E), full[j]? = some q → ∀ t, q.1.dst = some t → t ∈ p.1.looksAt ops → (listed.getD j false = true ↔ j < i) := by
      intro j q hq t hd hl
      have hoj := hget j q hq
      rcases Nat.lt_trichotomy j i with h | h | h
      · refine ⟨fun _ => h, fun _ => ?_⟩
        rcases hlin.wait j i _ _ h hoj ho with hap | ⟨e, he, hb, hon⟩
        · exact absurd hl ((Oper.apart_spec hap).1 t hd)
        · rw [← hon]; exact hall e he hb
      · subst h
        rw [hpi] at hq
        injection hq with hq
        subst hq
        exact absurd hl (hlin.self j _ t ho hd)
      · refine ⟨fun hj => ?_, fun h' => by omega⟩
        exfalso
        rcases hlin.wait i j _ _ h ho hoj with hap | ⟨e, he, hb, hon⟩
        · exact absurd hl ((Oper.apart_spec hap).2.2 t hd)
        · have := hdown i j _ hj hoj ⟨e, he, hb, hon⟩
          rw [h0'] at this
          cases this
    have hfacts : FactsOK (p.1.looksAt ops) ρ w (factsOf (full.take i)) := factsOK_of _ fun t F hm hl => by
      rcases mem_facts hm with h | ⟨j, q, h1, h2, h3⟩
      · cases h
      · have hji : j < i := by
          have := (List.getElem?_eq_some_iff.1 h1).1
          rw [List.length_take] at this
          omega
        have hq : full[j]? = some q := by
          rw [List.getElem?_take, if_pos hji] at h1
          exact h1
        exact hF j q F t ((conf j q hq t h3 (by simpa using hl)).2 hji) hq h2 h3
    have hst := hstep hfacts
    have hag : ∀ t, t ∈ p.1.looksAt ops → a.tmps[t]? = (actOf a0 ρ (full.take i)).tmps[t]? := fun t ht =>
      hH.agree hpre t fun j q hq hd => conf j q hq t hd ht
    have hexec : execOp a.eval p.1 = execOp (actOf a0 ρ (full.take i)).eval p.1 := execOp_congr p.1 (fun cs b => hlin.sel i _ cs b ho) fun x hx => by
      cases x with
      | tmp t =>
        have := hag t (List.mem_append_left _ (List.mem_filterMap.2 ⟨.tmp t, by simpa using hx, rfl⟩))
        simp only [Act.eval, Array.getD_eq_getD_getElem?]
        rw [this]
      | _ => rfl
    have hwant : Region.wanted p.1 (yielded ops a.tmps) = Region.wanted p.1 (yielded ops (actOf a0 ρ (full.take i)).tmps) := by
      unfold Region.wanted
      cases hg : p.1.guard with
      | none => rfl
      | some gw =>
        obtain ⟨g, want⟩ := gw
        have : yielded ops a.tmps g = yielded ops (actOf a0 ρ (full.take i)).tmps g := by
          unfold yielded
          cases ht : (ops[g]?).bind (·.dst) with
          | none => rfl
          | some t =>
            have := hag t (List.mem_append_right _ (by simp [hg, ht]))
            simp only [Option.bind_some, this]
        simp only [this]
    have size_eq : (actOf a0 ρ (full.take i)).tmps.size = a.tmps.size := hpre.size.trans hH.size.symm
    -- the way on
    have go : ∀ v w', p.2.rel v w' → S w' → (∀ (j : Nat) (q : Oper × Kind E) (F : Fact E) (d : Tmp), listed.getD j false = true → full[j]? = some q → q.2 = .fresh F → q.1.dst = some d → F.holds (ρ d) w') →
        wpAny P .any ops Q fuel (listed.setIfInBounds i true) (a.put p.1.dst v) w' := by
      intro v w' hR hS' hF'
      have next : ∀ ρ' : Env, p.2.val ρ' p.1 = v → (∀ j q, j ≠ i → full[j]? = some q → q.2.val ρ' q.1 = q.2.val ρ q.1) → (∀ j q F d, j ≠ i → full[j]? = some q → q.2 = .fresh F → q.1.dst = some d → ρ' d = ρ d) → (∀ F d, p.2 = .fresh F → p.1.dst = some d → F.holds (ρ' d) w') →
          wpAny P .any ops Q fuel (listed.setIfInBounds i true) (a.put p.1.dst v) w' := by
        intro ρ' hv hothers hd' hself
        have hset : ∀ j, (listed.setIfInBounds i true).getD j false = true ↔ j = i ∨ listed.getD j false = true := fun j => by
          by_cases hji : j = i
          · subst hji
            simp [Array.getD, hsz, hlt]
          · rw [getD_set_ne false (Ne.symm hji)]
            simp [hji]
        refine ih _ _ _ ρ' (by simpa using hsz) (fun i' j o' hj ho' he => ?_) ⟨todo.filter (· != i), ?_, fun j hj hjl => ?_⟩ ?_ hS' (fun j q F d hj hq hf hd => ?_)
        · rcases (hset j).1 hj with rfl | hj
          · obtain ⟨e, he, hb, hon⟩ := he
            rw [ho] at ho'
            injection ho' with ho'
            subst ho'
            rw [hset, ← hon]
            exact .inr (hall e he hb)
          · exact (hset i').2 (.inr (hdown i' j o' hj ho' he))
        · have : (todo.filter (· != i)).length < todo.length := by
            rw [List.length_filter_lt_length_iff_exists]
            exact ⟨i, hin i hlt h0', by simp⟩
          omega
        · have hne : j ≠ i := fun e => by
            have := (hset j).2 (.inl e)
            rw [this] at hjl
            cases hjl
          refine List.mem_filter.2 ⟨hin j hj ?_, by simpa using hne⟩
          rwa [getD_set_ne false (Ne.symm hne)] at hjl
        · have := hH.put (ρ' := ρ') hpi hset (fun j q hj hq d hd => hdist2 j i q p d (fun e => by rw [e, h0'] at hj; cases hj) hq hpi hd) (fun j q hj hq => hothers j q (fun e => by rw [e, h0'] at hj; cases hj) hq)
          rwa [hv] at this
        · rcases (hset j).1 hj with rfl | hj
          · rw [hpi] at hq
            injection hq with hq
            subst hq
            exact hself F d hf hd
          · have hne : j ≠ i := fun e => by rw [e, h0'] at hj; cases hj
            rw [hd' j q F d hne hq hf hd]
            exact hF' j q F d hj hq hf hd
      cases hk : p.2 with
      | fixed v0 =>
        have hv : v = v0 := by rw [hk] at hR; exact hR
        exact next ρ (by rw [hk]; exact hv.symm) (fun _ _ _ _ => rfl) (fun _ _ _ _ _ _ _ _ => rfl) (fun F d hf => by rw [hk] at hf; cases hf)
      | fresh F =>
        obtain ⟨d, hd⟩ := hp.dst p (by rw [hsplit]; simp) ⟨F, hk⟩
        have hR' : F.holds v w' := by rw [hk] at hR; exact hR
        have hne : ∀ j q d', j ≠ i → full[j]? = some q → q.1.dst = some d' → d' ≠ d := fun j q d' hji hq hd' e => hdist2 j i q p d' hji hq hpi hd' (by rw [hd, e])
        refine next (fun t => if t = d then v else ρ t) (by rw [hk]; simp [Kind.val, hd]) (fun j q hji hq => ?_) (fun j q F' d' hji hq _ hd' => if_neg (hne j q d' hji hq hd')) (fun F' d' hf hd' => ?_)
        · cases hkq : q.2 with
          | fixed v0 => rfl
          | fresh F' =>
            obtain ⟨d', hd'⟩ := hp.dst q (List.mem_of_getElem? hq) ⟨F', hkq⟩
            simp only [Kind.val, hd']
            exact if_neg (hne j q d' hji hq hd')
        · rw [hk] at hf
          injection hf with hf
          rw [hd] at hd'
          injection hd' with hd'
          subst hf hd'
          simpa using hR'
    unfold wpOp
    simp only [ho]
    unfold StepTo at hst
    rw [← hwant] at hst
    split
    · rename_i hw
      rw [if_pos hw] at hst
      refine .inl (wp_carry (R := fun v w' => p.2.rel v w' ∧ S w' ∧ E w w') hexec size_eq (hst _ fun v w' h1 h2 h3 => ⟨v, rfl, h1, h2, h3⟩) fun v w' ⟨h1, h2, h3⟩ => go v w' h1 h2 fun j q F d hj hq hf hd => F.keep _ _ _ (hF j q F d hj hq hf hd) h3)
    · rename_i hw
      rw [if_neg hw] at hst
      exact go undef w hst hS hF

/-- THE RULE -/
theorem wp_settle {id : Nat} {a : Act} {w : World} {l : List Oper} (hm : P.follows .mixedOrders = true) (hlin : linearB l.toArray = true) (E : World → World → Prop) (S : World → Prop) (hS : S w.drew)
    (h : Settle P l.toArray S E (fun A Fs => ∀ ρ w', S w' → (∀ t F, (t, F) ∈ Fs → F.holds (ρ t) w') → Q .normal (A ρ) w') l (fun _ => a) []) : (Code.region id l.toArray true).wp P Q a w := by
  obtain ⟨full, hp, he, hZ⟩ := settle_plan l [] ⟨(fun _ h => by cases h), (fun pre p post he => by simp at he)⟩ h
  refine wp_region_any hm (any_order (by simpa using he) (linear_of hlin) hp hZ _ _ a _ (fun _ => undef) (by simp) (fun i j o hj => ?_) ⟨List.range l.toArray.size, by simp, fun i hi _ => List.mem_range.2 hi⟩ ⟨rfl, rfl, fun _ _ => rfl, fun i p t hi => ?_⟩ hS fun i p F d hi => ?_)
  · exfalso; revert hj; simp [Array.getD]
  · exfalso; revert hi; simp [Array.getD]
  · exfalso; revert hi; simp [Array.getD]
end
end Go.Proofs.Ytcoijmnnnfogdaa


namespace Go.Proofs.Ytcoijmnnnfogdaa
set_option linter.unusedVariables false
set_option linter.unusedSimpArgs false
set_option maxRecDepth 100000
open Go Go.RowKit

section
variable {P : Program} {ops : Array Oper} {S : World → Prop} {E : World → World → Prop} {Z : (Env → Act) → List (Tmp × Fact E) → Prop} {o : Oper} {rest : List Oper} {A : Env → Act} {Fs : List (Tmp × Fact E)}

/-- the same, that nothing looks into -/
structure Walk (P : Program) (ops : Array Oper) (S : World → Prop) (E : World → World → Prop) (Z : (Env → Act) → List (Tmp × Fact E) → Prop) (l : List Oper) (A : Env → Act) (Fs : List (Tmp × Fact E)) : Prop where
  out : Settle P ops S E Z l A Fs

theorem settle_nil (h : Z A Fs) : Walk P ops S E Z [] A Fs := ⟨h⟩

theorem settle_skip (hw : ∀ ρ, Region.wanted o (yielded ops (A ρ).tmps) = false) (h : Walk P ops S E Z rest (fun ρ => (A ρ).put o.dst undef) Fs) : Walk P ops S E Z (o :: rest) A Fs :=
  ⟨.inl ⟨undef, fun ρ w _ _ => by unfold StepTo; rw [if_neg (by rw [hw]; simp)], h.out⟩⟩

theorem settle_run {v : Value} (hE : ∀ w, S w → E w w) (hw : ∀ ρ, Region.wanted o (yielded ops (A ρ).tmps) = true)
    (hr : ∀ ρ w, S w → FactsOK (o.looksAt ops) ρ w Fs → (execOp (A ρ).eval o).run P w = .ok (.value v) w) (h : Walk P ops S E Z rest (fun ρ => (A ρ).put o.dst v) Fs) : Walk P ops S E Z (o :: rest) A Fs :=
  ⟨.inl ⟨v, fun ρ w hS hF => by
    unfold StepTo
    rw [if_pos (hw ρ)]
    intro K hK
    unfold Oper.wp
    rw [hr ρ w hS hF]
    exact hK v w rfl hS (hE w hS), h.out⟩⟩

theorem settle_call {v : Value} {f : FuncId} {args : Env → Array Value} (hw : ∀ ρ, Region.wanted o (yielded ops (A ρ).tmps) = true)
    (hr : ∀ ρ w, (execOp (A ρ).eval o).run P w = .ok (.enter f (args ρ)) w)
    (hc : ∀ ρ w, S w → FactsOK (o.looksAt ops) ρ w Fs → Calls P f (args ρ) w fun e w' => e = .returned v ∧ S w' ∧ E w w') (h : Walk P ops S E Z rest (fun ρ => (A ρ).put o.dst v) Fs) : Walk P ops S E Z (o :: rest) A Fs :=
  ⟨.inl ⟨v, fun ρ w hS hF => by
    unfold StepTo
    rw [if_pos (hw ρ)]
    intro K hK
    unfold Oper.wp
    rw [hr ρ w]
    refine (hc ρ w hS hF).mono fun e w' ⟨h1, h2, h3⟩ => ?_
    subst h1
    exact hK v w' rfl h2 h3, h.out⟩⟩

/-- whatever gives the value -/
theorem settle_step {v : Value} (hw : ∀ ρ, Region.wanted o (yielded ops (A ρ).tmps) = true)
    (hc : ∀ ρ w, S w → FactsOK (o.looksAt ops) ρ w Fs → ∀ K : Act → World → Prop, (∀ w', S w' → E w w' → K ((A ρ).put o.dst v) w') → o.wp P (A ρ) w K (fun _ _ _ => False)) (h : Walk P ops S E Z rest (fun ρ => (A ρ).put o.dst v) Fs) : Walk P ops S E Z (o :: rest) A Fs :=
  ⟨.inl ⟨v, fun ρ w hS hF => by
    unfold StepTo
    rw [if_pos (hw ρ)]
    exact fun K hK => hc ρ w hS hF K fun w' h1 h2 => hK v w' rfl h1 h2, h.out⟩⟩
/-- whatever gives a value of which a fact is known -/
theorem settle_known {d : Tmp} (F : Fact E) (hd : o.dst = some d) (hw : ∀ ρ, Region.wanted o (yielded ops (A ρ).tmps) = true)
    (hc : ∀ ρ w, S w → FactsOK (o.looksAt ops) ρ w Fs → ∀ K : Act → World → Prop, (∀ v w', F.holds v w' → S w' → E w w' → K ((A ρ).put o.dst v) w') → o.wp P (A ρ) w K (fun _ _ _ => False)) (h : Walk P ops S E Z rest (fun ρ => (A ρ).put (some d) (ρ d)) ((d, F) :: Fs)) : Walk P ops S E Z (o :: rest) A Fs :=
  ⟨.inr ⟨d, F, hd, fun ρ w hS hF => by
    unfold StepTo
    rw [if_pos (hw ρ)]
    exact fun K hK => hc ρ w hS hF K hK, h.out⟩⟩

/-- a call of whose result a fact is known -/
theorem settle_fresh {f : FuncId} {args : Env → Array Value} {d : Tmp} (F : Fact E) (hd : o.dst = some d) (hw : ∀ ρ, Region.wanted o (yielded ops (A ρ).tmps) = true)
    (hr : ∀ ρ w, (execOp (A ρ).eval o).run P w = .ok (.enter f (args ρ)) w)
    (hc : ∀ ρ w, S w → FactsOK (o.looksAt ops) ρ w Fs → Calls P f (args ρ) w fun e w' => ∃ v, e = .returned v ∧ F.holds v w' ∧ S w' ∧ E w w') (h : Walk P ops S E Z rest (fun ρ => (A ρ).put (some d) (ρ d)) ((d, F) :: Fs)) : Walk P ops S E Z (o :: rest) A Fs :=
  ⟨.inr ⟨d, F, hd, fun ρ w hS hF => by
    unfold StepTo
    rw [if_pos (hw ρ)]
    intro K hK
    unfold Oper.wp
    rw [hr ρ w]
    refine (hc ρ w hS hF).mono fun e w' ⟨v, h0, h1, h2, h3⟩ => ?_
    subst h0
    exact hK v w' h1 h2 h3, h.out⟩⟩

/-- an operation that gives a value of which a fact is known, and leaves the world -/
theorem settle_value {d : Tmp} (F : Fact E) (hE : ∀ w, S w → E w w) (hd : o.dst = some d) (hw : ∀ ρ, Region.wanted o (yielded ops (A ρ).tmps) = true)
    (hr : ∀ ρ w, S w → FactsOK (o.looksAt ops) ρ w Fs → ∃ v, (execOp (A ρ).eval o).run P w = .ok (.value v) w ∧ F.holds v w) (h : Walk P ops S E Z rest (fun ρ => (A ρ).put (some d) (ρ d)) ((d, F) :: Fs)) : Walk P ops S E Z (o :: rest) A Fs :=
  ⟨.inr ⟨d, F, hd, fun ρ w hS hF => by
    unfold StepTo
    rw [if_pos (hw ρ)]
    intro K hK
    obtain ⟨v, h1, h2⟩ := hr ρ w hS hF
    unfold Oper.wp
    rw [h1]
    exact hK v w h2 hS (hE w hS), h.out⟩⟩

/-- a copy of such a value -/
theorem settle_copy {d t : Tmp} {F : Fact E} (hE : ∀ w, S w → E w w) (hd : o.dst = some d) (hg : o.guard = none) (ho : o.op = .move (.tmp t) ∨ o.op = .assign (.tmp t)) (ht : ∀ ρ, (A ρ).eval (.tmp t) = ρ t) (hF : (t, F) ∈ Fs)
    (h : Walk P ops S E Z rest (fun ρ => (A ρ).put (some d) (ρ d)) ((d, F) :: Fs)) : Walk P ops S E Z (o :: rest) A Fs := by
  refine settle_value F hE hd (fun ρ => by simp [Region.wanted, hg]) (fun ρ w hS hFs => ?_) h
  have key : ∀ (l : List (Tmp × Fact E)), FactsOK (o.looksAt ops) ρ w l → (t, F) ∈ l → F.holds (ρ t) w := by
    intro l
    induction l with
    | nil => exact fun _ h => by cases h
    | cons p r ih =>
      obtain ⟨t', F'⟩ := p
      intro ⟨h1, h2⟩ hm
      rcases List.mem_cons.1 hm with e | hm
      · injection e with e1 e2
        subst e1 e2
        refine h1 ?_
        rcases ho with ho | ho <;> simp [Oper.looksAt, ho, Op.operands]
      · exact ih h2 hm
  refine ⟨ρ t, ?_, key Fs hFs hF⟩
  rcases ho with ho | ho <;> simp [execOp, ho, ht]
/-- THE RULE, with that -/
theorem wp_walk {Q : Exit → Act → World → Prop} {id : Nat} {a : Act} {w : World} {l : List Oper} (hm : P.follows .mixedOrders = true) (hlin : linearB l.toArray = true) (E : World → World → Prop) (S : World → Prop) (hS : S w.drew)
    (h : Walk P l.toArray S E (fun A Fs => ∀ ρ w', S w' → (∀ t F, (t, F) ∈ Fs → F.holds (ρ t) w') → Q .normal (A ρ) w') l (fun _ => a) []) : (Code.region id l.toArray true).wp P Q a w :=
  wp_settle hm hlin E S hS h.out
end
end Go.Proofs.Ytcoijmnnnfogdaa


namespace Go.Proofs.Ytcoijmnnnfogdaa
set_option linter.unusedVariables false
set_option linter.unusedSimpArgs false
set_option maxRecDepth 100000
open Go

section
variable {P : Program} {ops : Array Oper} {Q : Exit → Act → World → Prop} {S : World → Prop} {E : World → World → Prop}

theorem wpAny_seq_more {md : Region.Mode} (x : Nat) : ∀ (l : List Oper) (k : Nat) (listed : Array Bool) (a : Act) (w : World), (∀ j, l[j]? = ops[k + j]?) →
    Region.seqB md ops l.length k listed = true → wpList P ops Q l a w → wpAny P md ops Q (l.length + x) listed a w
  | [], _, listed, _, _, _, hB, h => by
    have hr : Region.ready md ops listed = [] := by simpa [Region.seqB] using hB
    rcases x with _ | x
    · exact ⟨hr, h⟩
    · rw [show ([] : List Oper).length + (x + 1) = x + 1 by simp]
      exact ⟨fun _ => h, fun i hi => by rw [hr] at hi; cases hi⟩
  | o :: l, k, listed, a, w, hl, hB, h => by
    have h0 : ops[k]? = some o := by simpa using (hl 0).symm
    simp only [List.length_cons, Region.seqB, Bool.and_eq_true, decide_eq_true_eq] at hB
    rw [show (o :: l).length + x = (l.length + x) + 1 by simp only [List.length_cons]; omega]
    refine ⟨fun h1 => (by rw [hB.1] at h1; cases h1), fun i hi => ?_⟩
    rw [hB.1] at hi
    have hik : i = k := by simpa using hi
    subst hik
    have hw : wpOp P ops Q i (wpList P ops Q l) a w := by unfold wpOp; simp only [h0]; exact h
    exact wpOp_mono (fun a' w' h' => wpAny_seq_more x l (i + 1) _ a' w' (fun j => by have := hl (j + 1); simpa [Nat.add_assoc, Nat.add_comm 1 j] using this) hB.2 h') hw

/-- of the first n operations: the order of the text is one, and what is not apart waits -/
def linearNB (ops : Array Oper) (n : Nat) : Bool :=
  Region.noSelect ops && (List.range n).all fun j =>
    match ops[j]? with
    | none => true
    | some oj => oj.after.all (fun e => !Region.binds .any e || decide (e.on < j)) && !((oj.dst.map fun d => (oj.looksAt ops).contains d).getD false) && (List.range j).all fun i =>
      match ops[i]? with
      | none => true
      | some oi => (oi.apart ops oj || oj.after.any (fun e => Region.binds .any e && e.on == i)) && (match oi.dst with | some d => oj.dst != some d | none => true)

structure LinearN (ops : Array Oper) (n : Nat) : Prop where
  sel : ∀ (j : Nat) (o : Oper) cs b, ops[j]? = some o → o.op ≠ .select cs b
  back : ∀ (j : Nat) (o : Oper), j < n → ops[j]? = some o → ∀ e ∈ o.after, Region.binds .any e = true → e.on < j
  self : ∀ (j : Nat) (o : Oper) d, j < n → ops[j]? = some o → o.dst = some d → d ∉ o.looksAt ops
  wait : ∀ (i j : Nat) (oi oj : Oper), i < j → j < n → ops[i]? = some oi → ops[j]? = some oj → oi.apart ops oj = true ∨ ∃ e ∈ oj.after, Region.binds .any e = true ∧ e.on = i
  dist : ∀ (i j : Nat) (oi oj : Oper) d, i < j → j < n → ops[i]? = some oi → ops[j]? = some oj → oi.dst = some d → oj.dst ≠ some d

theorem linearN_of {n : Nat} (h : linearNB ops n = true) : LinearN ops n := by
  unfold linearNB at h
  rw [Bool.and_eq_true, List.all_eq_true] at h
  obtain ⟨h0, h⟩ := h
  have key : ∀ (j : Nat) (oj : Oper), j < n → ops[j]? = some oj → _ := fun j oj hjn hj => by
    have := h j (List.mem_range.2 hjn)
    rw [hj] at this
    simp only [Bool.and_eq_true] at this
    exact this
  refine ⟨Region.noSelect_spec h0, fun j o hjn ho e he hb => ?_, fun j o d hjn ho hd hmem => ?_, fun i j oi oj hij hjn hi hj => ?_, fun i j oi oj d hij hjn hi hj hd => ?_⟩
  · have := (key j o hjn ho).1.1
    rw [Array.all_eq_true_iff_forall_mem] at this
    have := this e he
    simpa [hb] using this
  · have := (key j o hjn ho).1.2
    rw [hd] at this
    simp [hmem] at this
  · have := (List.all_eq_true.1 (key j oj hjn hj).2) i (List.mem_range.2 hij)
    rw [hi] at this
    simp only [Bool.and_eq_true, Bool.or_eq_true] at this
    rcases this.1 with h | h
    · exact .inl h
    · obtain ⟨n, hn, hb⟩ := Array.any_eq_true.1 h
      simp only [Bool.and_eq_true, beq_iff_eq] at hb
      exact .inr ⟨_, Array.getElem_mem hn, hb.1, hb.2⟩
  · have := (List.all_eq_true.1 (key j oj hjn hj).2) i (List.mem_range.2 hij)
    rw [hi] at this
    simp only [Bool.and_eq_true] at this
    have h2 := this.2
    rw [hd] at h2
    simpa using h2

theorem getD_ext {x y : Array Bool} (hs : x.size = y.size) (h : ∀ i, x.getD i false = y.getD i false) : x = y := by
  apply Array.ext hs
  intro i h1 h2
  have := h i
  simpa [h1, h2] using this

theorem any_order_tail {a0 : Act} {full : List (Oper × Kind E)} {n : Nat} (hn : n < ops.size) (hops : full.map (·.1) = ops.toList.take n) (hlin : LinearN ops n) (hsk : Region.sinkB .any ops n = true) (hch : Region.chainB .any ops n = true)
    (hsq : ∀ listed : Array Bool, listed.size = ops.size → (∀ i, i < n → listed.getD i false = true) → (∀ i, n ≤ i → listed.getD i false = false) → Region.seqB .any ops (ops.size - n) n listed = true) (hp : Plan P ops S a0 full)
    (hZ : ∀ ρ w, S w → (∀ t F, (t, F) ∈ factsOf full → F.holds (ρ t) w) → wpList P ops Q (ops.toList.drop n) (actOf a0 ρ full) w) :
    ∀ (fuel : Nat) (listed : Array Bool) (a : Act) (w : World) (ρ : Env), HeadInv .any ops n listed →
      (∃ todo : List Nat, todo.length ≤ fuel ∧ ∀ i, i < n → listed.getD i false = false → i ∈ todo) →
      Holds a0 full (fun i => listed.getD i false = true) ρ a → S w → (∀ (i : Nat) (p : Oper × Kind E) (F : Fact E) (d : Tmp), listed.getD i false = true → full[i]? = some p → p.2 = .fresh F → p.1.dst = some d → F.holds (ρ d) w) →
      wpAny P .any ops Q (fuel + (ops.size - n)) listed a w := by
  have hget : ∀ (i : Nat) (p : Oper × Kind E), full[i]? = some p → ops[i]? = some p.1 := fun i p h => by
    have : (full.map (·.1))[i]? = some p.1 := by simp [h]
    rw [hops, List.getElem?_take] at this
    split at this
    · simpa using this
    · cases this
  have hlen : full.length = n := by
    have := congrArg List.length hops
    simp only [List.length_map, List.length_take, Array.length_toList] at this
    omega
  have hget' : ∀ (i : Nat) (o : Oper), i < n → ops[i]? = some o → ∃ p : Oper × Kind E, full[i]? = some p ∧ p.1 = o := fun i o hin h => by
    have hi : i < full.length := by rw [hlen]; exact hin
    have h1 := hget i _ (List.getElem?_eq_getElem hi)
    rw [h] at h1
    injection h1 with h1
    exact ⟨_, List.getElem?_eq_getElem hi, h1.symm⟩
  have hdist : ∀ (i j : Nat) (p q : Oper × Kind E) (d : Tmp), i < j → full[i]? = some p → full[j]? = some q → p.1.dst = some d → q.1.dst ≠ some d := fun i j p q d hij h1 h2 => hlin.dist i j _ _ d hij (by have := (List.getElem?_eq_some_iff.1 h2).1; omega) (hget i p h1) (hget j q h2)
  have hdist2 : ∀ (i j : Nat) (p q : Oper × Kind E) (d : Tmp), i ≠ j → full[i]? = some p → full[j]? = some q → p.1.dst = some d → q.1.dst ≠ some d := fun i j p q d hij h1 h2 hd hd' => by
    rcases Nat.lt_or_gt_of_ne hij with h | h
    · exact hdist i j p q d h h1 h2 hd hd'
    · exact hdist j i q p d h h2 h1 hd' hd
  -- all have come up
  have fin : ∀ (fuel : Nat) (listed : Array Bool) (a : Act) (w : World) (ρ : Env), HeadInv .any ops n listed → (∀ i, i < n → listed.getD i false = true) → Holds a0 full (fun i => listed.getD i false = true) ρ a → S w →
      (∀ (i : Nat) (p : Oper × Kind E) (F : Fact E) (d : Tmp), listed.getD i false = true → full[i]? = some p → p.2 = .fresh F → p.1.dst = some d → F.holds (ρ d) w) → wpAny P .any ops Q (fuel + (ops.size - n)) listed a w := fun fuel listed a w ρ inv hall hH hS hF => by
    have h1 : Holds a0 full (fun i => i < full.length) ρ (actOf a0 ρ full) := by
      have := holds_prefix a0 full ρ hdist full.length (Nat.le_refl _)
      rwa [List.take_length] at this
    have h2 : Holds a0 full (fun i => i < full.length) ρ a :=
      ⟨hH.defers, hH.size, fun t ht => hH.far t fun i p hi hp => ht i p (List.getElem?_eq_some_iff.1 hp).1 hp, fun i p t hi => hH.near i p t (hall i (by omega))⟩
    rw [h2.unique h1]
    have hz := hZ ρ w hS fun t F hm => by
      rcases mem_facts hm with h | ⟨i, p, h1, h2, h3⟩
      · cases h
      · exact hF i p F t (hall i (by have := (List.getElem?_eq_some_iff.1 h1).1; omega)) h1 h2 h3
    have hdl : (ops.toList.drop n).length = ops.size - n := by simp
    have hs := hsq listed inv.size hall (fun i hi => by
      rcases Nat.lt_or_ge i ops.size with h | h
      · exact getD_both (inv.tail i hi h)
      · simp [Array.getD, inv.size, Nat.not_lt.2 h])
    have := wpAny_seq_more fuel (ops.toList.drop n) n listed (actOf a0 ρ full) w (fun j => by simp [List.getElem?_drop]) (by rw [hdl]; exact hs) hz
    rwa [hdl, Nat.add_comm] at this
  have none_left : ∀ listed : Array Bool, HeadInv .any ops n listed → Region.ready .any ops listed = [] → ∀ m i, i < m → i < n → listed.getD i false = true := by
    intro listed inv hr m
    induction m with
    | zero => intro i h; omega
    | succ m ih =>
      intro i hi hin
      cases hli : listed.getD i false with
      | true => rfl
      | false =>
        have hlt : i < ops.size := by omega
        have ho : ops[i]? = some ops[i] := Array.getElem?_eq_getElem hlt
        have hmem : i ∈ Region.ready .any ops listed := by
          rw [mem_ready]
          refine ⟨?_, _, ho, fun e he hb => ?_⟩
          · simp only [Array.getD, inv.size, hlt, dif_pos] at hli ⊢
            exact hli
          · have := hlin.back i _ hin ho e he hb
            exact ih e.on (by omega) (by omega)
        rw [hr] at hmem
        cases hmem
  have some_left : ∀ listed : Array Bool, (∀ i, i < n → listed.getD i false = true) ∨ ∃ i, i < n ∧ listed.getD i false = false := fun listed => by
    by_cases h : ∃ i, i < n ∧ listed.getD i false = false
    · exact .inr h
    · exact .inl fun i hi => by
        cases hl : listed.getD i false with
        | true => rfl
        | false => exact (h ⟨i, hi, hl⟩).elim
  intro fuel
  induction fuel with
  | zero =>
    intro listed a w ρ inv ⟨todo, htodo, hin⟩ hH hS hF
    have hall : ∀ i, i < n → listed.getD i false = true := fun i hi => by
      cases hli : listed.getD i false with
      | true => rfl
      | false =>
        have := hin i hi hli
        rw [List.eq_nil_of_length_eq_zero (Nat.le_zero.1 htodo)] at this
        cases this
    exact fin 0 listed a w ρ inv hall hH hS hF
  | succ fuel ih =>
    intro listed a w ρ inv ⟨todo, htodo, hin⟩ hH hS hF
    rcases some_left listed with hall | ⟨i0, hi0, hl0⟩
    · exact fin (fuel + 1) listed a w ρ inv hall hH hS hF
    have hsz := inv.size
    rw [show fuel + 1 + (ops.size - n) = (fuel + (ops.size - n)) + 1 by omega]
    refine ⟨fun hr => ?_, fun i hi => ?_⟩
    · have := none_left listed inv hr (i0 + 1) i0 (by omega) hi0
      rw [hl0] at this
      cases this
    have hilt : i < n := by
      rcases Nat.lt_or_ge i n with h | h
      · exact h
      · exact absurd hi (tail_waits hsk hch hn inv _ i0 rfl hi0 (getD_in (by omega) hl0) i h)
    obtain ⟨h0, o, ho, hall⟩ := mem_ready.1 hi
    have hlt := (Array.getElem?_eq_some_iff.1 ho).1
    have h0' : listed.getD i false = false := by
      simp only [Array.getD, hsz, hlt, dif_pos] at h0 ⊢
      exact h0
    obtain ⟨p, hpi, rfl⟩ := hget' i o hilt ho
    have hil : i < full.length := by omega
    have hpre : Holds a0 full (fun j => j < i) ρ (actOf a0 ρ (full.take i)) := holds_prefix a0 full ρ hdist i (by omega)
    have hsplit : full = full.take i ++ p :: full.drop (i + 1) := by
      have : full[i] = p := by have := List.getElem?_eq_getElem hil; rw [hpi] at this; injection this with this; exact this.symm
      rw [← this, List.getElem_cons_drop, List.take_append_drop]
    have hstep := hp.step _ p _ hsplit ρ w hS
    have conf : ∀ (j : Nat) (q : Oper × Kind E), full[j]? = some q → ∀ t, q.1.dst = some t → t ∈ p.1.looksAt ops → (listed.getD j false = true ↔ j < i) := by
      intro j q hq t hd hl
      have hoj := hget j q hq
      have hjn : j < n := by have := (List.getElem?_eq_some_iff.1 hq).1; omega
      rcases Nat.lt_trichotomy j i with h | h | h
      · refine ⟨fun _ => h, fun _ => ?_⟩
        rcases hlin.wait j i _ _ h hilt hoj ho with hap | ⟨e, he, hb, hon⟩
        · exact absurd hl ((Oper.apart_spec hap).1 t hd)
        · rw [← hon]; exact hall e he hb
      · subst h
        rw [hpi] at hq
        injection hq with hq
        subst hq
        exact absurd hl (hlin.self j _ t hilt ho hd)
      · refine ⟨fun hj => ?_, fun h' => by omega⟩
        exfalso
        rcases hlin.wait i j _ _ h hjn ho hoj with hap | ⟨e, he, hb, hon⟩
        · exact absurd hl ((Oper.apart_spec hap).2.2 t hd)
        · have := inv.closed j _ hoj hj e he hb
          rw [hon, h0'] at this
          cases this
    have hfacts : FactsOK (p.1.looksAt ops) ρ w (factsOf (full.take i)) := factsOK_of _ fun t F hm hl => by
      rcases mem_facts hm with h | ⟨j, q, h1, h2, h3⟩
      · cases h
      · have hji : j < i := by
          have := (List.getElem?_eq_some_iff.1 h1).1
          rw [List.length_take] at this
          omega
        have hq : full[j]? = some q := by
          rw [List.getElem?_take, if_pos hji] at h1
          exact h1
        exact hF j q F t ((conf j q hq t h3 (by simpa using hl)).2 hji) hq h2 h3
    have hst := hstep hfacts
    have hag : ∀ t, t ∈ p.1.looksAt ops → a.tmps[t]? = (actOf a0 ρ (full.take i)).tmps[t]? := fun t ht =>
      hH.agree hpre t fun j q hq hd => conf j q hq t hd ht
    have hexec : execOp a.eval p.1 = execOp (actOf a0 ρ (full.take i)).eval p.1 := execOp_congr p.1 (fun cs b => hlin.sel i _ cs b ho) fun x hx => by
      cases x with
      | tmp t =>
        have := hag t (List.mem_append_left _ (List.mem_filterMap.2 ⟨.tmp t, by simpa using hx, rfl⟩))
        simp only [Act.eval, Array.getD_eq_getD_getElem?]
        rw [this]
      | _ => rfl
    have hwant : Region.wanted p.1 (yielded ops a.tmps) = Region.wanted p.1 (yielded ops (actOf a0 ρ (full.take i)).tmps) := by
      unfold Region.wanted
      cases hg : p.1.guard with
      | none => rfl
      | some gw =>
        obtain ⟨g, want⟩ := gw
        have : yielded ops a.tmps g = yielded ops (actOf a0 ρ (full.take i)).tmps g := by
          unfold yielded
          cases ht : (ops[g]?).bind (·.dst) with
          | none => rfl
          | some t =>
            have := hag t (List.mem_append_right _ (by simp [hg, ht]))
            simp only [Option.bind_some, this]
        simp only [this]
    have size_eq : (actOf a0 ρ (full.take i)).tmps.size = a.tmps.size := hpre.size.trans hH.size.symm
    -- the way on
    have go : ∀ v w', p.2.rel v w' → S w' → (∀ (j : Nat) (q : Oper × Kind E) (F : Fact E) (d : Tmp), listed.getD j false = true → full[j]? = some q → q.2 = .fresh F → q.1.dst = some d → F.holds (ρ d) w') →
        wpAny P .any ops Q (fuel + (ops.size - n)) (listed.setIfInBounds i true) (a.put p.1.dst v) w' := by
      intro v w' hR hS' hF'
      have next : ∀ ρ' : Env, p.2.val ρ' p.1 = v → (∀ j q, j ≠ i → full[j]? = some q → q.2.val ρ' q.1 = q.2.val ρ q.1) → (∀ j q F d, j ≠ i → full[j]? = some q → q.2 = .fresh F → q.1.dst = some d → ρ' d = ρ d) → (∀ F d, p.2 = .fresh F → p.1.dst = some d → F.holds (ρ' d) w') →
          wpAny P .any ops Q (fuel + (ops.size - n)) (listed.setIfInBounds i true) (a.put p.1.dst v) w' := by
        intro ρ' hv hothers hd' hself
        have hset : ∀ j, (listed.setIfInBounds i true).getD j false = true ↔ j = i ∨ listed.getD j false = true := fun j => by
          by_cases hji : j = i
          · subst hji
            simp [Array.getD, hsz, hlt]
          · rw [getD_set_ne false (Ne.symm hji)]
            simp [hji]
        refine ih _ _ _ ρ' (inv.set hi hilt) ⟨todo.filter (· != i), ?_, fun j hj hjl => ?_⟩ ?_ hS' (fun j q F d hj hq hf hd => ?_)
        · have : (todo.filter (· != i)).length < todo.length := by
            rw [List.length_filter_lt_length_iff_exists]
            exact ⟨i, hin i hilt h0', by simp⟩
          omega
        · have hne : j ≠ i := fun e => by
            have := (hset j).2 (.inl e)
            rw [this] at hjl
            cases hjl
          refine List.mem_filter.2 ⟨hin j hj ?_, by simpa using hne⟩
          rwa [getD_set_ne false (Ne.symm hne)] at hjl
        · have := hH.put (ρ' := ρ') hpi hset (fun j q hj hq d hd => hdist2 j i q p d (fun e => by rw [e, h0'] at hj; cases hj) hq hpi hd) (fun j q hj hq => hothers j q (fun e => by rw [e, h0'] at hj; cases hj) hq)
          rwa [hv] at this
        · rcases (hset j).1 hj with rfl | hj
          · rw [hpi] at hq
            injection hq with hq
            subst hq
            exact hself F d hf hd
          · have hne : j ≠ i := fun e => by rw [e, h0'] at hj; cases hj
            rw [hd' j q F d hne hq hf hd]
            exact hF' j q F d hj hq hf hd
      cases hk : p.2 with
      | fixed v0 =>
        have hv : v = v0 := by rw [hk] at hR; exact hR
        exact next ρ (by rw [hk]; exact hv.symm) (fun _ _ _ _ => rfl) (fun _ _ _ _ _ _ _ _ => rfl) (fun F d hf => by rw [hk] at hf; cases hf)
      | fresh F =>
        obtain ⟨d, hd⟩ := hp.dst p (by rw [hsplit]; simp) ⟨F, hk⟩
        have hR' : F.holds v w' := by rw [hk] at hR; exact hR
        have hne : ∀ j q d', j ≠ i → full[j]? = some q → q.1.dst = some d' → d' ≠ d := fun j q d' hji hq hd' e => hdist2 j i q p d' hji hq hpi hd' (by rw [hd, e])
        refine next (fun t => if t = d then v else ρ t) (by rw [hk]; simp [Kind.val, hd]) (fun j q hji hq => ?_) (fun j q F' d' hji hq _ hd' => if_neg (hne j q d' hji hq hd')) (fun F' d' hf hd' => ?_)
        · cases hkq : q.2 with
          | fixed v0 => rfl
          | fresh F' =>
            obtain ⟨d', hd'⟩ := hp.dst q (List.mem_of_getElem? hq) ⟨F', hkq⟩
            simp only [Kind.val, hd']
            exact if_neg (hne j q d' hji hq hd')
        · rw [hk] at hf
          injection hf with hf
          rw [hd] at hd'
          injection hd' with hd'
          subst hf hd'
          simpa using hR'
    unfold wpOp
    simp only [ho]
    unfold StepTo at hst
    rw [← hwant] at hst
    split
    · rename_i hw
      rw [if_pos hw] at hst
      refine .inl (wp_carry (R := fun v w' => p.2.rel v w' ∧ S w' ∧ E w w') hexec size_eq (hst _ fun v w' h1 h2 h3 => ⟨v, rfl, h1, h2, h3⟩) fun v w' ⟨h1, h2, h3⟩ => go v w' h1 h2 fun j q F d hj hq hf hd => F.keep _ _ _ (hF j q F d hj hq hf hd) h3)
    · rename_i hw
      rw [if_neg hw] at hst
      exact go undef w hst hS hF


/-- what is asked of the operations, n of them ahead of the tail -/
def tailB (ops : Array Oper) (n : Nat) : Bool :=
  decide (n < ops.size) && linearNB ops n && Region.sinkB .any ops n && Region.chainB .any ops n && Region.seqB .any ops (ops.size - n) n ((Array.replicate n true) ++ (Array.replicate (ops.size - n) false))

/-- THE RULE, with a tail -/
theorem wp_walk_tail {id : Nat} {a : Act} {w : World} {l : List Oper} (n : Nat) (hm : P.follows .mixedOrders = true) (hB : tailB l.toArray n = true) (E : World → World → Prop) (S : World → Prop) (hS : S w.drew)
    (h : Walk P l.toArray S E (fun A Fs => ∀ ρ w', S w' → (∀ t F, (t, F) ∈ Fs → F.holds (ρ t) w') → wpList P l.toArray Q (l.drop n) (A ρ) w') (l.take n) (fun _ => a) []) : (Code.region id l.toArray true).wp P Q a w := by
  simp only [tailB, Bool.and_eq_true, decide_eq_true_eq] at hB
  obtain ⟨⟨⟨⟨hn, hlin⟩, hs⟩, hc⟩, hq⟩ := hB
  obtain ⟨full, hp, he, hZ⟩ := settle_plan (l.take n) [] ⟨(fun _ h => by cases h), (fun pre p post he => by simp at he)⟩ h.out
  have inv0 : HeadInv .any l.toArray n (Array.replicate l.toArray.size false) :=
    ⟨by simp, fun j oj _ hl => (by rw [getD_replicate_false] at hl; cases hl), fun t _ ht => getD_in (by simpa using ht) (getD_replicate_false _ _)⟩
  have := any_order_tail (P := P) (Q := Q) hn (by simpa using he) (linearN_of hlin) hs hc (fun listed hsz h1 h2 => by
    have hn' := hn
    rw [show listed = (Array.replicate n true) ++ (Array.replicate (l.toArray.size - n) false) from getD_ext (by simp only [Array.size_append, Array.size_replicate]; omega) fun i => by
      rw [Array.getD_eq_getD_getElem? (xs := _ ++ _), Array.getElem?_append]
      rcases Nat.lt_or_ge i n with h | h
      · rw [h1 i h]
        simp [h]
      · rw [h2 i h]
        simp only [Array.size_replicate, Nat.not_lt.2 h, if_false, Array.getElem?_replicate]
        split <;> rfl]
    exact hq) hp hZ n _ a w.drew (fun _ => undef) inv0 ⟨List.range n, by simp, fun i hi _ => List.mem_range.2 hi⟩ ⟨rfl, rfl, fun _ _ => rfl, fun i p t hi => ?_⟩ hS fun i p F d hi => ?_
  · refine wp_region_any hm ?_
    rwa [show n + (l.toArray.size - n) = l.toArray.size by omega] at this
  · exfalso; rw [getD_replicate_false] at hi; cases hi
  · exfalso; rw [getD_replicate_false] at hi; cases hi

/-- all but the last one -/
theorem wp_walk_last {id : Nat} {a : Act} {w : World} {l : List Oper} (hm : P.follows .mixedOrders = true) (hB : tailB l.toArray (l.length - 1) = true) (E : World → World → Prop) (S : World → Prop) (hS : S w.drew)
    (h : Walk P l.toArray S E (fun A Fs => ∀ ρ w', S w' → (∀ t F, (t, F) ∈ Fs → F.holds (ρ t) w') → wpList P l.toArray Q (l.drop (l.length - 1)) (A ρ) w') (l.take (l.length - 1)) (fun _ => a) []) : (Code.region id l.toArray true).wp P Q a w :=
  wp_walk_tail (l.length - 1) hm hB E S hS h
end
end Go.Proofs.Ytcoijmnnnfogdaa
