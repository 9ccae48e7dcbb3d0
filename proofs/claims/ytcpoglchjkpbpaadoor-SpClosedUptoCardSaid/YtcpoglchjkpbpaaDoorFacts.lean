/-
  Facts of values that a region draws; an append as one operation. No program is named here.
-/
import Derived.Test.YtcpoglchjkpbpaaDoorBase2
import Derived.Test.YtcpoglchjkpbpaaDoorSettle2
namespace Go.Proofs.YtcpoglchjkpbpaaDoor
set_option linter.unusedVariables false
set_option linter.unusedSimpArgs false
set_option maxRecDepth 100000
open Go Go.RowKit

theorem keeps_below {w w' : World} (h : Below w.heap.size w w') : Keeps (fun _ => False) w w' := Keeps.of_below h _
def FSl (sz n : Nat) (vs : List Value) : Fact (fun w w' => Below w.heap.size w w') := ⟨fun v w => SlV w sz v n vs, fun _ _ _ h k => h.below k⟩
/-- 'append(v, vs...)' as one operation -/
theorem oper_append {P : Program} {w : World} {o : Oper} {a : Act} {K : Act → World → Prop} {Q : Exit → Act → World → Prop} (s x : Operand)
    (base t e : TypeId) (z : Value) (size bytes : Nat) (ht : P.underlying t = some (.slice e)) (hinfo : (P.info? e).map (fun i => (i.zero, i.size, i.bytes)) = some (some z, size, bytes)) (hz : z.cells.size = size) (hsz : 0 < size)
    {v : Value} {n : Nat} {xs : List Value} (hown : w.ownsRow base e size v n xs) {vs : Value} {m : Nat} {news : List Value} (hsl : SlV w size vs m news) (h1 : ∀ u ∈ news, u.oneCell' = true)
    (h63 : n + m ≤ maxLen) (hbytes : (n + m) * bytes ≤ 140737488355328) (hbase : base ≤ w.heap.size) (ho : o.op = .call { callee := .builtin .append, args := #[s, x], argTypes := #[t, t] }) (hs : a.eval s = v) (hx : a.eval x = vs)
    (h : ∀ v' w', w'.ownsRow base e size v' (n + m) (xs ++ news) → w.grownBy w' v.ownBlock → (v'.ownBlock = v.ownBlock ∨ v'.ownBlock = some w.heap.size) → Below base w w' → K (a.put o.dst v') w') : o.wp P a w K Q := by
  obtain ⟨A, c, rfl, hle, hm, hlen, hc⟩ := hsl
  obtain ⟨v', w', hrun, h2, h3, h4⟩ := run_append (P := P) w base t o.type e z size bytes ht hinfo hz hsz v n xs hown w.heap.size A m c news hlen hc h1 h63 hbytes hbase
  unfold Oper.wp execOp
  simp only [ho, resolve, invoke, builtin, Sem.run_bind, Sem.run_pure, Result.andThen_ok, List.map_toArray, List.map_cons, List.map_nil, hs, hx, hrun]
  exact h v' w' h2 h3 h4 ((Below.refl _ _).grown h3 hbase (own_ge hown))

/-- a row of the call's own, that stays as it is -/
def FRow (B : Nat) (e : TypeId) (sz n : Nat) (vs : List Value) : Fact (fun w w' => Below w.heap.size w w') := ⟨fun v w => w.ownsRow B e sz v n vs, fun _ _ _ h k => own_keeps h (keeps_below k) (fun _ _ => id)⟩

/-- the first k elements -/
theorem SlV.takeV {w : World} {sz n c : Nat} {A : Option Addr} {vs : List Value} (h : SlV w sz (.slice A n c) n vs) (k : Nat) (hk : k ≤ n) : SlV w sz (.slice A k c) k (vs.take (k * sz)) := by
  obtain ⟨A', c', he, h1, h2, h3, h4⟩ := h
  injection he with e1 e2 e3
  subst e1 e3
  have := Nat.mul_le_mul_right sz hk
  exact ⟨A, c, rfl, by omega, h2, by rw [List.length_take, h3]; omega, h4.take _⟩
end Go.Proofs.YtcpoglchjkpbpaaDoor
