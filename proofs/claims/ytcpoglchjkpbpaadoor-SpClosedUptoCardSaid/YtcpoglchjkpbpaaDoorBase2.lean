/-
  More of what a slice holds; the append as one operation of a region. No program is named here.
-/
import Derived.Test.YtcpoglchjkpbpaaDoorKeep
namespace Go.Proofs.YtcpoglchjkpbpaaDoor
set_option linter.unusedVariables false
set_option linter.unusedSimpArgs false
set_option maxRecDepth 100000
open Go.ChangeShapes Go.WideShapes Go.ChangeAt Go.RowKit

/-- 'append(v, src...)' as one operation, whatever comes behind -/
theorem step_append {P : Program} {w : World} {ops : Array Oper} {o : Oper} {a : Act} {K : Act → World → Prop} {Q : Exit → Act → World → Prop} {E : Prop} (s x : Operand)
    (base t e : TypeId) (z : Value) (size bytes : Nat) (ht : P.underlying t = some (.slice e)) (hinfo : (P.info? e).map (fun i => (i.zero, i.size, i.bytes)) = some (some z, size, bytes)) (hz : z.cells.size = size) (hsz : 0 < size)
    {v : Value} {n : Nat} {xs : List Value} (hown : w.ownsRow base e size v n xs) {B : Nat} {A : Option Addr} {m c : Nat} {news : List Value} (hcs : Cells w B A news) (hlen : news.length = m * size) (h1 : ∀ u ∈ news, u.oneCell' = true)
    (h63 : n + m ≤ maxLen) (hbytes : (n + m) * bytes ≤ 140737488355328) (hbase : base ≤ w.heap.size)
    (hgd : Region.wanted o (yielded ops a.tmps) = true) (ho : o.op = .call { callee := .builtin .append, args := #[s, x], argTypes := #[t, t] }) (hs : a.eval s = v) (hx : a.eval x = .slice A m c)
    (h : ∀ v' w', w'.ownsRow base e size v' (n + m) (xs ++ news) → w.grownBy w' v.ownBlock → (v'.ownBlock = v.ownBlock ∨ v'.ownBlock = some w.heap.size) → Below base w w' → K (a.put o.dst v') w') :
    if Region.wanted o (yielded ops a.tmps) = true then Oper.wp P o a w K Q else E := by
  rw [if_pos hgd]
  obtain ⟨v', w', hrun, h2, h3, h4⟩ := run_append (P := P) w base t o.type e z size bytes ht hinfo hz hsz v n xs hown B A m c news hlen hcs h1 h63 hbytes hbase
  unfold Oper.wp execOp
  simp only [ho, resolve, invoke, builtin, Sem.run_bind, Sem.run_pure, Result.andThen_ok, List.map_toArray, List.map_cons, List.map_nil, hs, hx, hrun]
  exact h v' w' h2 h3 h4 ((Below.refl _ _).grown h3 hbase (own_ge hown))

theorem Keeps.cell {S : Nat → Prop} {w w' : World} (k : Keeps S w w') {p : Addr} {v : Value} (h : w.cell? p = some v) (hn : ¬ S p.block) : w'.cell? p = some v := by
  have hlt : p.block < w.heap.size := by
    rcases Nat.lt_or_ge p.block w.heap.size with h' | h'
    · exact h'
    · simp [World.cell?, Array.getElem?_eq_none h'] at h
  rw [World.cell?_of_block (w := w) (k.block p.block hlt hn)]
  exact h
theorem SlV.lit (w : World) (vs : List Value) (e : TypeId) (sz n : Nat) (hv : vs.length = n * sz) (hn : n ≤ 1000) : SlV (w.alloc (.cells vs.toArray e)) sz (.slice (some ⟨w.heap.size, 0, none⟩) n n) n vs := by
  have := World.ownsRow_lit (e := e) (size := sz) (base := w.heap.size) w vs.toArray n (Nat.le_refl _) (by unfold maxLen; omega) (by simpa using hv)
  exact SlV.of_own (by simpa using this)
theorem SlV.drewN {w : World} {sz n : Nat} {v : Value} {vs : List Value} (h : SlV w sz v n vs) (k : Nat) : SlV (w.drewN k) sz v n vs := h
theorem ints_one1 (k : IntKind) (xs : List Int) : ∀ u ∈ ints k xs, u.oneCell' = true := by
  intro u hu
  obtain ⟨x, _, rfl⟩ := List.mem_map.1 hu
  rfl
/-- what was laid into a block of its own, behind a call that made memory -/
theorem cells_new_below {w w2 : World} {vs : List Value} {e : TypeId} (hb : Below (w.alloc (.cells vs.toArray e)).heap.size (w.alloc (.cells vs.toArray e)) w2) : Cells w2 (w.heap.size + 1) (some ⟨w.heap.size, 0, none⟩) vs :=
  (Cells.new w vs e).keep (Nat.le_refl _) (fun p hp => hb.cell (by simpa using hp))
theorem cells_new_drew {w w2 : World} {vs : List Value} {e : TypeId} (hb : Below (w.alloc (.cells vs.toArray e)).drew.heap.size (w.alloc (.cells vs.toArray e)).drew w2) : Cells w2 (w.heap.size + 1) (some ⟨w.heap.size, 0, none⟩) vs :=
  (Cells.new w vs e).keep (Nat.le_refl _) (fun p hp => hb.cell (by simpa using hp))
theorem below_self {w w1 w2 : World} (h : Below w.heap.size w w1) (hb : Below w1.heap.size w1 w2) : Below w.heap.size w w2 := below_next hb h
end Go.Proofs.YtcpoglchjkpbpaaDoor
