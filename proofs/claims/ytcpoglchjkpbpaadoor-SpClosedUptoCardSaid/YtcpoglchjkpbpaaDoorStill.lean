/-
  A region that draws, reads and stores at its end; a store into a row of the call's own.
-/
import Derived.StillTailTactics
import Derived.Test.YtcpoglchjkpbpaaDoorKeep
namespace Go.Proofs.YtcpoglchjkpbpaaDoor
set_option linter.unusedVariables false
set_option linter.unusedSimpArgs false
set_option maxRecDepth 100000
open Go Go.RowKit

theorem still_tail {P : Go.Program} {id : Nat} {Q : Exit → Act → World → Prop} {a : Act} {w : World} {l : List Oper} (n : Nat) (hm : P.follows .mixedOrders = true) (hB : Region.lexTailB .any l.toArray n = true)
    (h : wpStill P l.toArray (w.drewN 1) (fun a' => wpList P l.toArray Q (l.drop n) a' (w.drewN 1)) (l.take n) a) : (Code.region id l.toArray true).wp P Q a w :=
  wp_region_still_tail n hm hB h

/-- its last operation is the store -/
theorem still_last {P : Go.Program} {id : Nat} {Q : Exit → Act → World → Prop} {a : Act} {w : World} {l : List Oper} (hm : P.follows .mixedOrders = true) (hB : Region.lexTailB .any l.toArray (l.length - 1) = true)
    (h : wpStill P l.toArray (w.drewN 1) (fun a' => wpList P l.toArray Q (l.drop (l.length - 1)) a' (w.drewN 1)) (l.take (l.length - 1)) a) : (Code.region id l.toArray true).wp P Q a w :=
  still_tail (l.length - 1) hm hB h

/-- an own row and its block: the block as a whole -/
theorem own_blk {w : World} {base : Nat} {e : TypeId} {g n c : Nat} {xs : List Value} (h : w.ownsRow base e 1 (.slice (some ⟨g, 0, none⟩) n c) n xs) :
    ∃ cs, Blk w g e cs ∧ cs.length = c ∧ cs.take n = xs ∧ n ≤ c ∧ c ≤ maxLen ∧ base ≤ g := by
  rcases h.2 with ⟨h', _⟩ | ⟨g1, cap, cur, he, hb, hh, hle, hm, hs, ht⟩
  · cases h'
  · cases he
    exact ⟨cur.toList, hh, by simpa using hs, by simpa using ht, hle, hm, hb⟩
theorem own_of_blk {w : World} {base : Nat} {e : TypeId} {g n : Nat} {cs : List Value} (h : Blk w g e cs) (hb : base ≤ g) (hn : n ≤ cs.length) (hm : cs.length ≤ maxLen) : w.ownsRow base e 1 (.slice (some ⟨g, 0, none⟩) n cs.length) n (cs.take n) :=
  ⟨by simp; omega, .inr ⟨g, cs.length, cs.toArray, rfl, hb, h, hn, hm, by simp, by simp⟩⟩

theorem wpl_set_own {P : Go.Program} {w : World} {base : Nat} {e : TypeId} {g n c : Nat} {xs : List Value} {ops : Array Oper} {rest : List Oper} {o : Oper} {a : Act} {Q : Exit → Act → World → Prop} (h : w.ownsRow base e 1 (.slice (some ⟨g, 0, none⟩) n c) n xs) (i : Nat) (u : Value) {ty : TypeId} (hi : (P.info? ty).map (·.size) = some 1) (hk : i < n) (hu : u.cells = #[u]) (h1 : u.oneCell' = true)
    (hgd : Region.wanted o (yielded ops a.tmps) = true) {x y : Operand} (ho : o.op = .store ty x y) (hx : a.eval x = .pointer (some ⟨g, i, none⟩)) (hy : a.eval y = u)
    (hK : ∀ w', w'.ownsRow base e 1 (.slice (some ⟨g, 0, none⟩) n c) n (xs.set i u) → w.grownBy w' (some g) → wpList P ops Q rest (a.put o.dst undef) w') : wpList P ops Q (o :: rest) a w := by
  obtain ⟨cs, hB, rfl, rfl, hn, hm, hb⟩ := own_blk h
  refine wpl_set_blk hB i u hi (by omega) hu h1 hgd ho hx hy fun w' hB' hg => hK w' ?_ hg
  have := own_of_blk (n := n) hB' hb (by simpa using hn) (by simpa using hm)
  rw [List.length_set, List.take_set] at this
  exact this
end Go.Proofs.YtcpoglchjkpbpaaDoor
