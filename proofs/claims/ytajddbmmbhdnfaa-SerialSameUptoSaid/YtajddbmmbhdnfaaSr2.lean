/-
  Programs run: what stays in range, in plain Lean; a slice that is full, appended to.
-/
import Derived.Test.YtajddbmmbhdnfaaSrPl
import Derived.Test.YtajddbmmbhdnfaaExRg
import Derived.Test.YtajddbmmbhdnfaaStR
import Derived.Test.YtajddbmmbhdnfaaSr1
import Derived.ArgAppend
namespace Go.Proofs.Ytajddbmmbhdnfaa
set_option linter.unusedVariables false
set_option linter.unusedSimpArgs false
set_option maxRecDepth 100000
open Go Go.RowKit

namespace Sr
open Ex St
/-- all its numbers are 64-bit numbers -/
def okp : P → Prop
  | .nil => True
  | .cons _ _ a b body els rest => ok a ∧ ok b ∧ okp body ∧ okp els ∧ okp rest
structure Fit (F : Nat) (m : M) : Prop where
  len : m.heap.length = 8
  rg : ∀ x ∈ m.heap, rng x
  st : m.steps ≤ F
  tr : m.trace.length ≤ m.steps
theorem getD_rng {h : List Int} (hr : ∀ x ∈ h, rng x) (c : Nat) : rng (h.getD c 0) := by
  rw [List.getD_eq_getElem?_getD]
  rcases hc : h[c]? with _ | x
  · unfold rng; simp
  · exact hr x (List.mem_of_getElem? hc)
theorem iter_rng {f : Int → M → M} (hf : ∀ i m, rng i → (∀ x ∈ m.heap, rng x) → ∀ x ∈ (f i m).heap, rng x) : ∀ (n : Nat) (i : Int) (m : M), rng i → rng (i + (n : Int)) → (∀ x ∈ m.heap, rng x) → ∀ x ∈ (iter n i f m).heap, rng x
  | 0, _, _, _, _, h => h
  | n + 1, i, m, hi, hn, h => iter_rng hf n (i + 1) (f i m) (by unfold rng at *; omega) (by unfold rng at *; omega) (hf i m hi h)
theorem env_snoc {env : Env} (h : ∀ b ∈ env, rng b.2) (nm : Bs) {v : Int} (hv : rng v) : ∀ b ∈ env ++ [(nm, v)], rng b.2 := fun b hb => by
  rcases List.mem_append.1 hb with hb | hb
  · exact h b hb
  · rw [List.mem_singleton.1 hb]; exact hv
theorem run_rng : ∀ (p : P) (env : Env) (l : Nat) (m : M), okp p → (∀ b ∈ env, rng b.2) → (∀ x ∈ m.heap, rng x) → ∀ x ∈ (run p env l m).heap, rng x
  | .nil, _, _, _, _, _, h => h
  | .cons k nm a b body els rest, env, l, m, ⟨ha, hb, hbo, hel, hre⟩, he, h => by
    unfold run
    split
    · exact run_rng rest _ _ _ hre (env_snoc he _ (evl_rng env he a ha)) h
    split
    · exact run_rng rest _ _ _ hre (env_snoc he _ (getD_rng h _)) h
    split
    · refine run_rng rest _ _ _ hre he fun x hx => ?_
      rcases List.mem_or_eq_of_mem_set (show x ∈ m.heap.set _ _ from hx) with hx | rfl
      · exact h x hx
      · exact evl_rng env he b hb
    split
    · exact run_rng rest _ _ _ hre he (run_rng body _ _ _ hbo he h)
    split
    · refine run_rng rest _ _ _ hre he ?_
      split
      · exact run_rng body _ _ _ hbo he h
      · exact run_rng els _ _ _ hel he h
    split
    · have hra := evl_rng env he a ha
      have hrb := evl_rng env he b hb
      refine run_rng rest _ _ _ hre he ?_
      by_cases hn : evl env a ≤ evl env b
      · exact iter_rng (fun i m hi h => run_rng body (env ++ [(nm, i)]) l m.step hbo (env_snoc he _ hi) h) (evl env b - evl env a).toNat _ _ hra (by unfold rng at *; omega) h
      · rw [show (evl env b - evl env a).toNat = 0 by omega]
        exact h
    exact run_rng rest _ _ _ hre he h
theorem Fit.on {F : Nat} {m m' : M} (h : Fit F m) (ho : On m m') (hr : ∀ x ∈ m'.heap, rng x) (hs : m'.steps ≤ F) : Fit F m' := by
  obtain ⟨h1, h2, t, h3, h4, -⟩ := ho
  exact ⟨h2.trans h.len, hr, hs, by rw [h3, List.length_append]; have := h.tr; omega⟩
end Sr

theorem PR.ok {B : Nat} {w : World} {A : Option Addr} {n : Nat} {p : St.P} (h : PR B w A n p) : Sr.okp p := by
  induction h with
  | nil A => trivial
  | cons g o n k nm ca cb ea eb D dl dc E el ec body els rest h1 h2 h3 h4 h5 h6 h7 h8 _ _ _ i1 i2 i3 => exact ⟨h7.ok, h8.ok, i1, i2, i3⟩

/-! ### a slice that is full, appended to: always a new block -/
theorem run_append_full {P : Program} (w : World) (t ty e : TypeId) (z : Value) (size bytes : Nat) (ht : P.underlying t = some (.slice e)) (hinfo : (P.info? e).map (fun i => (i.zero, i.size, i.bytes)) = some (some z, size, bytes)) (hz : z.cells.size = size) (hsz : 0 < size)
    {A : Option Addr} {n : Nat} {xs : List Value} (h : SlV w size (.slice A n n) n xs) {vs : Value} {m : Nat} {news : List Value} (hs : SlV w size vs m news) (h1 : ∀ u ∈ news, u.oneCell' = true) (hm : 0 < m)
    (h63 : n + m ≤ maxLen) (hbytes : (n + m) * bytes ≤ 140737488355328) :
    ∃ v' w', (Builtin.append_ #[t, t] ty #[.slice A n n, vs]).run P w = .ok v' w' ∧ w'.ownsRow w.heap.size e size v' (n + m) (xs ++ news) ∧ Below w.heap.size w w' := by
  obtain ⟨A', c', he, _, _, hl, hc⟩ := h
  injection he with e1 e2 e3
  subst e1 e3
  obtain ⟨D, c, rfl, hc1, hc2, hln, hcn⟩ := hs
  obtain ⟨i, hi, hz0, hz1, hz2⟩ := info_parts hinfo
  have hne : news ≠ [] := by
    intro h0
    rw [h0] at hln
    have : 0 < m * size := Nat.mul_pos hm hsz
    simp at hln
    omega
  obtain ⟨b, o, rfl, hb, hcell⟩ := hcn.at_ hne
  rcases A with _ | a
  · have h0 : xs = [] := by
      apply Classical.byContradiction
      intro hx
      obtain ⟨_, _, h, _⟩ := hc.at_ hx
      cases h
    subst h0
    have hn0 : n = 0 := by
      have : n * size = 0 := by simpa using hl.symm
      rcases Nat.mul_eq_zero.1 this with h | h <;> omega
    subst hn0
    obtain ⟨v', w', hrun, h2, h3, h4⟩ := run_append (P := P) w w.heap.size t ty e z size bytes ht hinfo hz hsz (.slice none 0 0) 0 [] (World.ownsRow_nil w _ e size) w.heap.size (some ⟨b, o, none⟩) m c news hln hcn h1 h63 hbytes (Nat.le_refl _)
    exact ⟨v', w', hrun, h2, (Below.refl _ _).grown h3 (Nat.le_refl _) (by intro k hk; cases hk)⟩
  · obtain ⟨v', w', hrun, h2, h3⟩ := run_append_arg_grows (P := P) w t ty e i z size bytes ht hi hz0 hz1 hz2 hz hsz a n n xs hl (fun j u hu => by
      obtain ⟨b', o', e', _, h'⟩ := hc.at_ (fun e => by rw [e] at hu; simp at hu)
      injection e' with e'
      subst e'
      rw [Addr.add_lit]
      exact h' j u hu) ⟨b, o, none⟩ m c news hln (fun j u hu => by rw [Addr.add_lit]; exact hcell j u hu) (by omega) h63 hbytes
    exact ⟨v', w', hrun, h2, (Below.refl _ _).grown h3 (Nat.le_refl _) (by intro k hk; cases hk)⟩
/-- the same, as an operation -/
theorem oper_full {P : Program} {w : World} {o : Oper} {a : Act} {K : Act → World → Prop} {Q : Exit → Act → World → Prop} (s x : Operand)
    (t e : TypeId) (z : Value) (size bytes : Nat) (ht : P.underlying t = some (.slice e)) (hinfo : (P.info? e).map (fun i => (i.zero, i.size, i.bytes)) = some (some z, size, bytes)) (hz : z.cells.size = size) (hsz : 0 < size)
    {A : Option Addr} {n : Nat} {xs : List Value} (h : SlV w size (.slice A n n) n xs) {vs : Value} {m : Nat} {news : List Value} (hsl : SlV w size vs m news) (h1 : ∀ u ∈ news, u.oneCell' = true) (hm : 0 < m)
    (h63 : n + m ≤ maxLen) (hbytes : (n + m) * bytes ≤ 140737488355328) (ho : o.op = .call { callee := .builtin .append, args := #[s, x], argTypes := #[t, t] }) (hs : a.eval s = .slice A n n) (hx : a.eval x = vs)
    (hK : ∀ v' w', w'.ownsRow w.heap.size e size v' (n + m) (xs ++ news) → Below w.heap.size w w' → K (a.put o.dst v') w') : o.wp P a w K Q := by
  obtain ⟨v', w', hrun, h2, h3⟩ := run_append_full (P := P) w t o.type e z size bytes ht hinfo hz hsz h hsl h1 hm h63 hbytes
  unfold Oper.wp execOp
  simp only [ho, resolve, invoke, builtin, Sem.run_bind, Sem.run_pure, Result.andThen_ok, List.map_toArray, List.map_cons, List.map_nil, hs, hx, hrun]
  exact hK v' w' h2 h3

theorem clip_any (w : World) (A : Option Addr) (n c : Nat) (hnc : n ≤ c) (hc : c ≤ maxLen) (hA : A = none → n = 0) : Calls Try.prog 46 #[.slice A n c] w fun e w' => e = .returned (.slice A n n) ∧ w = w' := by
  unfold maxLen at hc
  go_enter Try.func46, Try.ntmps46
  rcases A with _ | a
  · obtain rfl := hA rfl
    go_wp2
    go_ret
    exact ⟨rfl, rfl⟩
  · go_wp2
    go_ret
    exact ⟨rfl, rfl⟩
end Go.Proofs.Ytajddbmmbhdnfaa
