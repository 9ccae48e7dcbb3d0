/-
  Programs run, one statement behind the other, in plain Lean: the heap, the steps, the accesses.
-/
import Derived.Test.YtajddbmmbhdnfaaEx6
import Derived.Test.YtajddbmmbhdnfaaMhLaw
import Derived.Test.YtajddbmmbhdnfaaSpLaw
namespace Go.Proofs.Ytajddbmmbhdnfaa.Sr
set_option linter.unusedVariables false
set_option linter.unusedSimpArgs false
set_option maxRecDepth 100000
open Ex St

/-- what a run has come to -/
structure M where
  heap : List Int
  steps : Nat
  trace : List Sp.Acc

abbrev Env := List (Bs × Int)
def cell (n : Int) : Nat := (n % 8).toNat
theorem cell_lt (n : Int) : cell n < 8 := by unfold cell; omega

def M.step (m : M) : M := ⟨m.heap, m.steps + 1, m.trace⟩
def M.acc (m : M) (c : Nat) (wr : Bool) (l : Nat) : M := ⟨m.heap, m.steps, m.trace ++ [((c : Int), wr, (l : Int))]⟩
def M.put (m : M) (c : Nat) (v : Int) : M := ⟨m.heap.set c v, m.steps, m.trace⟩
/-- so many rounds -/
def iter : Nat → Int → (Int → M → M) → M → M
  | 0, _, _, m => m
  | n + 1, i, f, m => iter n (i + 1) f (f i m)
def run : P → Env → Nat → M → M
  | .nil, _, _, m => m
  | .cons k nm a b body els rest, env, l, m =>
    if k = 1 then run rest (env ++ [(nm, evl env a)]) l m.step
    else if k = 2 then run rest (env ++ [(nm, m.heap.getD (cell (evl env a)) 0)]) (l + 1) (m.step.acc (cell (evl env a)) false l)
    else if k = 3 then run rest env (l + 1) ((m.step.acc (cell (evl env a)) true l).put (cell (evl env a)) (evl env b))
    else if k = 4 ∨ k = 5 then run rest env (l + labels body) (run body env l m.step)
    else if k = 6 then run rest env (l + (labels body + labels els)) (if evl env a ≠ 0 then run body env l m.step else run els env (l + labels body) m.step)
    else if k = 7 then run rest env (l + labels body) (iter (evl env b - evl env a).toNat (evl env a) (fun i m => run body (env ++ [(nm, i)]) l m.step) m.step)
    else run rest env l m

/-! ### what is behind a part is behind the whole -/
/-- a way on: some steps, some accesses more; the cells that nobody names stay -/
structure On (m m' : M) : Prop where
  steps : m.steps ≤ m'.steps
  heap : m'.heap.length = m.heap.length
  trace : ∃ t, m'.trace = m.trace ++ t ∧ t.length ≤ m'.steps - m.steps ∧ ∀ c : Nat, (∀ x ∈ t, x.2.1 = true → x.1 ≠ (c : Int)) → m'.heap.getD c 0 = m.heap.getD c 0
theorem On.refl (m : M) : On m m := ⟨Nat.le_refl _, rfl, [], by simp, by simp, fun _ _ => rfl⟩
theorem On.trans {a b c : M} (h : On a b) (h' : On b c) : On a c := by
  obtain ⟨h1, h2, t, h3, h4, h5⟩ := h
  obtain ⟨g1, g2, u, g3, g4, g5⟩ := h'
  refine ⟨by omega, by omega, t ++ u, by rw [g3, h3, List.append_assoc], by rw [List.length_append]; omega, fun x hx => ?_⟩
  rw [g5 x (fun y hy => hx y (List.mem_append_right _ hy)), h5 x (fun y hy => hx y (List.mem_append_left _ hy))]
theorem On.step (m : M) : On m m.step := ⟨Nat.le_succ _, rfl, [], by simp [M.step], by simp, fun _ _ => rfl⟩
theorem On.read (m : M) (c : Nat) (l : Nat) : On m (m.step.acc c false l) := ⟨Nat.le_succ _, rfl, [_], rfl, by simp [M.step, M.acc], fun _ _ => rfl⟩
theorem On.write (m : M) (c : Nat) (l : Nat) (v : Int) : On m ((m.step.acc c true l).put c v) := by
  refine ⟨Nat.le_succ _, by simp [M.step, M.acc, M.put], [((c : Int), true, (l : Int))], rfl, by simp [M.step, M.acc, M.put], fun x hx => ?_⟩
  have := hx _ (List.mem_singleton.2 rfl) rfl
  simp only [M.step, M.acc, M.put, List.getD_eq_getElem?_getD]
  rw [List.getElem?_set_ne (by intro e; exact this (by simp [e]))]
theorem On.iter {f : Int → M → M} (hf : ∀ i m, On m (f i m)) : ∀ n i m, On m (iter n i f m)
  | 0, _, m => On.refl m
  | n + 1, i, m => (hf i m).trans (On.iter hf n (i + 1) (f i m))
theorem run_on : ∀ (p : P) (env : Env) (l : Nat) (m : M), On m (run p env l m)
  | .nil, _, _, m => On.refl m
  | .cons k nm a b body els rest, env, l, m => by
    unfold run
    split
    · exact (On.step m).trans (run_on rest _ _ _)
    · split
      · exact (On.read m _ _).trans (run_on rest _ _ _)
      · split
        · exact (On.write m _ _ _).trans (run_on rest _ _ _)
        · split
          · exact ((On.step m).trans (run_on body _ _ _)).trans (run_on rest _ _ _)
          · split
            · split
              · exact ((On.step m).trans (run_on body _ _ _)).trans (run_on rest _ _ _)
              · exact ((On.step m).trans (run_on els _ _ _)).trans (run_on rest _ _ _)
            · split
              · exact ((On.step m).trans (On.iter (fun i m => (On.step m).trans (run_on body _ _ _)) _ _ _)).trans (run_on rest _ _ _)
              · exact run_on rest _ _ _

/-! ### which names are free -/
/-- all its names are bound -/
def okx (bd : List Bs) : X → Prop
  | .name s => s ∈ bd
  | .two _ a b => okx bd a ∧ okx bd b
  | _ => True
def cl : P → List Bs → Prop
  | .nil, _ => True
  | .cons k nm a b body els rest, bd =>
    if k = 1 ∨ k = 2 then okx bd a ∧ cl rest (bd ++ [nm])
    else if k = 3 then (okx bd a ∧ okx bd b) ∧ cl rest bd
    else if k = 4 ∨ k = 5 then cl body bd ∧ cl rest bd
    else if k = 6 then (okx bd a ∧ cl body bd ∧ cl els bd) ∧ cl rest bd
    else if k = 7 then ((okx bd a ∧ okx bd b) ∧ cl body (bd ++ [nm])) ∧ cl rest bd
    else cl rest bd

/-- two environments that say the same of some names -/
def agree (bd : List Bs) (e e' : Env) : Prop := ∀ s ∈ bd, Ex.look s e = Ex.look s e'
theorem agree.snoc {bd : List Bs} {e e' : Env} (h : agree bd e e') (nm : Bs) (v : Int) : agree (bd ++ [nm]) (e ++ [(nm, v)]) (e' ++ [(nm, v)]) := fun s hs => by
  rw [look_snoc, look_snoc]
  by_cases h1 : (nm == s) = true
  · simp [h1]
  · rw [if_neg h1, if_neg h1]
    rcases List.mem_append.1 hs with hs | hs
    · exact h s hs
    · simp only [List.mem_singleton] at hs
      exact absurd (by simp [hs]) h1
theorem evl_agree {bd : List Bs} {e e' : Env} (h : agree bd e e') : ∀ x : X, okx bd x → evl e x = evl e' x
  | .num _, _ => rfl
  | .bad, _ => rfl
  | .name s, hs => h s hs
  | .two _ a b, hs => by rw [evl, evl, evl_agree h a hs.1, evl_agree h b hs.2]
theorem iter_congr {f g : Int → M → M} (h : ∀ i m, f i m = g i m) : ∀ n i m, iter n i f m = iter n i g m
  | 0, _, _ => rfl
  | n + 1, i, m => by rw [iter, iter, h, iter_congr h]
theorem run_agree : ∀ (p : P) (bd : List Bs) (e e' : Env) (l : Nat) (m : M), cl p bd → agree bd e e' → run p e l m = run p e' l m
  | .nil, _, _, _, _, _, _, _ => rfl
  | .cons k nm a b body els rest, bd, e, e', l, m, hc, h => by
    unfold cl at hc
    unfold run
    by_cases h1 : k = 1
    · rw [if_pos (.inl h1)] at hc
      rw [if_pos h1, if_pos h1, evl_agree h a hc.1]
      exact run_agree rest _ _ _ _ _ hc.2 (h.snoc _ _)
    by_cases h2 : k = 2
    · rw [if_pos (.inr h2)] at hc
      rw [if_neg h1, if_neg h1, if_pos h2, if_pos h2, evl_agree h a hc.1]
      exact run_agree rest _ _ _ _ _ hc.2 (h.snoc _ _)
    rw [if_neg (by omega)] at hc
    rw [if_neg h1, if_neg h1, if_neg h2, if_neg h2]
    by_cases h3 : k = 3
    · rw [if_pos h3] at hc
      rw [if_pos h3, if_pos h3, evl_agree h a hc.1.1, evl_agree h b hc.1.2]
      exact run_agree rest _ _ _ _ _ hc.2 h
    rw [if_neg h3] at hc
    rw [if_neg h3, if_neg h3]
    by_cases h4 : k = 4 ∨ k = 5
    · rw [if_pos h4] at hc
      rw [if_pos h4, if_pos h4, run_agree body _ _ _ _ _ hc.1 h]
      exact run_agree rest _ _ _ _ _ hc.2 h
    rw [if_neg h4] at hc
    rw [if_neg h4, if_neg h4]
    by_cases h6 : k = 6
    · rw [if_pos h6] at hc
      rw [if_pos h6, if_pos h6, evl_agree h a hc.1.1, run_agree body _ _ _ _ _ hc.1.2.1 h, run_agree els _ _ _ _ _ hc.1.2.2 h]
      exact run_agree rest _ _ _ _ _ hc.2 h
    rw [if_neg h6] at hc
    rw [if_neg h6, if_neg h6]
    by_cases h7 : k = 7
    · rw [if_pos h7] at hc
      rw [if_pos h7, if_pos h7, evl_agree h a hc.1.1.1, evl_agree h b hc.1.1.2]
      rw [iter_congr (fun i m => run_agree body _ _ _ _ _ hc.1.2 (h.snoc nm i))]
      exact run_agree rest _ _ _ _ _ hc.2 h
    rw [if_neg h7] at hc
    rw [if_neg h7, if_neg h7]
    exact run_agree rest _ _ _ _ _ hc h

theorem okx_mono {bd bd' : List Bs} (h : ∀ s ∈ bd, s ∈ bd') : ∀ x : X, okx bd x → okx bd' x
  | .num _, _ => trivial
  | .bad, _ => trivial
  | .name s, hs => h s hs
  | .two _ a b, hs => ⟨okx_mono h a hs.1, okx_mono h b hs.2⟩
theorem snoc_mono {bd bd' : List Bs} (h : ∀ s ∈ bd, s ∈ bd') (nm : Bs) : ∀ s ∈ bd ++ [nm], s ∈ bd' ++ [nm] := fun s hs => by
  rcases List.mem_append.1 hs with hs | hs
  · exact List.mem_append_left _ (h s hs)
  · exact List.mem_append_right _ hs
theorem cl_mono : ∀ (p : P) {bd bd' : List Bs}, (∀ s ∈ bd, s ∈ bd') → cl p bd → cl p bd'
  | .nil, _, _, _, _ => trivial
  | .cons k nm a b body els rest, bd, bd', h, hc => by
    unfold cl at hc ⊢
    split at hc
    · rename_i hk; rw [if_pos hk]; exact ⟨okx_mono h a hc.1, cl_mono rest (snoc_mono h nm) hc.2⟩
    rename_i hk; rw [if_neg hk]
    split at hc
    · rename_i hk; rw [if_pos hk]; exact ⟨⟨okx_mono h a hc.1.1, okx_mono h b hc.1.2⟩, cl_mono rest h hc.2⟩
    rename_i hk; rw [if_neg hk]
    split at hc
    · rename_i hk; rw [if_pos hk]; exact ⟨cl_mono body h hc.1, cl_mono rest h hc.2⟩
    rename_i hk; rw [if_neg hk]
    split at hc
    · rename_i hk; rw [if_pos hk]; exact ⟨⟨okx_mono h a hc.1.1, cl_mono body h hc.1.2.1, cl_mono els h hc.1.2.2⟩, cl_mono rest h hc.2⟩
    rename_i hk; rw [if_neg hk]
    split at hc
    · rename_i hk; rw [if_pos hk]; exact ⟨⟨⟨okx_mono h a hc.1.1.1, okx_mono h b hc.1.1.2⟩, cl_mono body (snoc_mono h nm) hc.1.2⟩, cl_mono rest h hc.2⟩
    rename_i hk; rw [if_neg hk]
    exact cl_mono rest h hc
end Go.Proofs.Ytajddbmmbhdnfaa.Sr
