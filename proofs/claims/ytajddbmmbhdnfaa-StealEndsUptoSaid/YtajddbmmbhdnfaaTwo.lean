/-
  Two rows of the call's own that are appended to in one statement, in whatever order. No program is named here.
-/
import Derived.Test.YtajddbmmbhdnfaaBase2
namespace Go.Proofs.Ytajddbmmbhdnfaa
set_option linter.unusedVariables false
set_option linter.unusedSimpArgs false
set_option maxRecDepth 100000
open Go Go.RowKit

/-- 'append(v, x)', the block's number told apart -/
theorem wp_push_at {P : Program} (w : World) {ops : Array Oper} {rest : List Oper} {o : Oper} {a : Act} {Q : Exit → Act → World → Prop} (s x : Operand) (q : Nat) (hq : w.heap.size = q)
    (base t e : TypeId) (z : Value) (size bytes : Nat) (ht : P.underlying t = some (.slice e)) (hinfo : (P.info? e).map (fun i => (i.zero, i.size, i.bytes)) = some (some z, size, bytes)) (hz : z.cells.size = size) (hsz : 0 < size)
    {v : Value} {n : Nat} {xs : List Value} (hown : w.ownsRow base e size v n xs) {c : Nat} (news : List Value) (hlen : news.length = 1 * size) (h1 : ∀ u ∈ news, u.oneCell' = true)
    (h63 : n + 1 ≤ maxLen) (hbytes : (n + 1) * bytes ≤ 140737488355328) (hbase : base ≤ w.heap.size)
    (hgd : o.guard = none) (ho : o.op = .call { callee := .builtin .append, args := #[s, x], argTypes := #[t, t] }) (hs : a.eval s = v) (hx : a.eval x = .slice (some ⟨q, 0, none⟩) 1 c)
    (h : ∀ v' w', w'.ownsRow base e size v' (n + 1) (xs ++ news) → w.grownBy w' v.ownBlock → (v'.ownBlock = v.ownBlock ∨ v'.ownBlock = some (w.heap.size + 1)) → Below base w w' → wpList P ops Q rest (a.put o.dst v') w') : wpList P ops Q (o :: rest) a (w.alloc (.cells news.toArray e)) := by
  subst hq
  exact wp_push w s x base t e z size bytes ht hinfo hz hsz hown news hlen h1 h63 hbytes hbase hgd ho hs hx h

/-- two rows of the call's own, and what was laid beside them since w0 -/
structure Two (w0 : World) (T : Nat → Prop) (B : Nat) (e1 : TypeId) (s1 : Nat) (e2 : TypeId) (s2 : Nat) (L : List (Nat × TypeId × List Value)) (w : World) (v1 : Value) (n1 : Nat) (xs1 : List Value) (v2 : Value) (n2 : Nat) (xs2 : List Value) : Prop where
  r1 : w.ownsRow B e1 s1 v1 n1 xs1
  r2 : w.ownsRow B e2 s2 v2 n2 xs2
  k : Keeps T w0 w
  base : B ≤ w.heap.size
  t1 : ∀ i, v1.ownBlock = some i → i < w0.heap.size → T i
  t2 : ∀ i, v2.ownBlock = some i → i < w0.heap.size → T i
  ap : ∀ i, v1.ownBlock = some i → v2.ownBlock ≠ some i
  src : ∀ p ∈ L, Blk w p.1 p.2.1 p.2.2 ∧ v1.ownBlock ≠ some p.1 ∧ v2.ownBlock ≠ some p.1

section
variable {w0 w : World} {T : Nat → Prop} {B s1 s2 n1 n2 : Nat} {e1 e2 : TypeId} {L : List (Nat × TypeId × List Value)} {v1 v2 : Value} {xs1 xs2 : List Value}

theorem Two.start (h1 : w0.ownsRow B e1 s1 v1 n1 xs1) (h2 : w0.ownsRow B e2 s2 v2 n2 xs2) (hb : B ≤ w0.heap.size) (hap : ∀ i, v1.ownBlock = some i → v2.ownBlock ≠ some i) :
    Two w0 (fun k => v1.ownBlock = some k ∨ v2.ownBlock = some k) B e1 s1 e2 s2 [] w0 v1 n1 xs1 v2 n2 xs2 :=
  ⟨h1, h2, Keeps.refl _ _, hb, fun i h _ => .inl h, fun i h _ => .inr h, hap, fun p h => by cases h⟩
theorem Two.drew (h : Two w0 T B e1 s1 e2 s2 L w v1 n1 xs1 v2 n2 xs2) : Two w0 T B e1 s1 e2 s2 L w.drew v1 n1 xs1 v2 n2 xs2 :=
  ⟨h.r1.drew, h.r2.drew, h.k.drewN 1, h.base, h.t1, h.t2, h.ap, fun p hp => ⟨(h.src p hp).1, (h.src p hp).2⟩⟩
theorem Two.alloc (h : Two w0 T B e1 s1 e2 s2 L w v1 n1 xs1 v2 n2 xs2) (cs : List Value) (t : TypeId) : Two w0 T B e1 s1 e2 s2 ((w.heap.size, t, cs) :: L) (w.alloc (.cells cs.toArray t)) v1 n1 xs1 v2 n2 xs2 := by
  refine ⟨h.r1.alloc _, h.r2.alloc _, h.k.alloc _, by have := h.base; simp; omega, h.t1, h.t2, h.ap, fun p hp => ?_⟩
  rcases List.mem_cons.1 hp with rfl | hp
  · exact ⟨Blk.new w t cs, fun e => by have := (h.r1.lt _ e).2; simp at this, fun e => by have := (h.r2.lt _ e).2; simp at this⟩
  · exact ⟨(h.src p hp).1.alloc _, (h.src p hp).2⟩
theorem Two.swap (h : Two w0 T B e1 s1 e2 s2 L w v1 n1 xs1 v2 n2 xs2) : Two w0 T B e2 s2 e1 s1 L w v2 n2 xs2 v1 n1 xs1 :=
  ⟨h.r2, h.r1, h.k, h.base, h.t2, h.t1, fun i h2 h1 => h.ap i h1 h2, fun p hp => ⟨(h.src p hp).1, (h.src p hp).2.2, (h.src p hp).2.1⟩⟩
theorem Two.cells (h : Two w0 T B e1 s1 e2 s2 L w v1 n1 xs1 v2 n2 xs2) {g : Nat} {t : TypeId} {cs : List Value} (hm : (g, t, cs) ∈ L) : Cells w (g + 1) (some ⟨g, 0, none⟩) cs :=
  ⟨g, 0, fun _ => ⟨rfl, Nat.lt_succ_self g⟩, fun j u hu => by rw [Nat.zero_add, (h.src _ hm).1.cell]; exact hu⟩

/-- an append to the first of them -/
theorem Two.grow (h : Two w0 T B e1 s1 e2 s2 L w v1 n1 xs1 v2 n2 xs2) {w' : World} {v' : Value} {n' : Nat} {xs' : List Value} (h1 : w'.ownsRow B e1 s1 v' n' xs') (hg : w.grownBy w' v1.ownBlock) (hv : v'.ownBlock = v1.ownBlock ∨ v'.ownBlock = some w.heap.size) :
    Two w0 T B e1 s1 e2 s2 L w' v' n' xs' v2 n2 xs2 := by
  have kk := Keeps.of_grown hg
  refine ⟨h1, own_keeps h.r2 kk (fun g e1 e2 => h.ap g e2.symm e1), h.k.step kk (fun i hi e => h.t1 i e.symm hi), Nat.le_trans h.base hg.size, fun i hi hl => ?_, h.t2, fun i hi => ?_, fun p hp => ⟨?_, ?_, (h.src p hp).2.2⟩⟩
  · rcases hv with e | e
    · exact h.t1 i (e ▸ hi) hl
    · rw [e] at hi
      injection hi with hi
      have := h.k.size
      omega
  · rcases hv with e | e
    · exact h.ap i (e ▸ hi)
    · rw [e] at hi
      injection hi with hi
      intro e2
      have := (h.r2.lt i e2).2
      omega
  · exact (h.src p hp).1.keeps kk (fun e => (h.src p hp).2.1 e.symm)
  · rcases hv with e | e
    · rw [e]; exact (h.src p hp).2.1
    · rw [e]
      intro e3
      injection e3 with e3
      have := (h.src p hp).1.lt
      omega

theorem two_append1 {P : Program} {ops : Array Oper} {o : Oper} {a : Act} {K : Act → World → Prop} {Q : Exit → Act → World → Prop} {E : Prop} {s x : Operand} {t : TypeId} (h : Two w0 T B e1 s1 e2 s2 L w v1 n1 xs1 v2 n2 xs2)
    {z : Value} {bytes : Nat} (ht : P.underlying t = some (.slice e1)) (hinfo : (P.info? e1).map (fun i => (i.zero, i.size, i.bytes)) = some (some z, s1, bytes)) (hz : z.cells.size = s1) (hsz : 0 < s1)
    {g : Nat} {news : List Value} {c : Nat} {tt : TypeId} (hm : (g, tt, news) ∈ L) (hlen : news.length = 1 * s1) (h1 : ∀ u ∈ news, u.oneCell' = true)
    (h63 : n1 + 1 ≤ maxLen) (hbytes : (n1 + 1) * bytes ≤ 140737488355328)
    (hgd : Region.wanted o (yielded ops a.tmps) = true) (ho : o.op = .call { callee := .builtin .append, args := #[s, x], argTypes := #[t, t] }) (hs : a.eval s = v1) (hx : a.eval x = .slice (some ⟨g, 0, none⟩) 1 c)
    (hK : ∀ v' w', Two w0 T B e1 s1 e2 s2 L w' v' (n1 + 1) (xs1 ++ news) v2 n2 xs2 → K (a.put o.dst v') w') :
    if Region.wanted o (yielded ops a.tmps) = true then Oper.wp P o a w K Q else E :=
  step_append s x B t e1 z s1 bytes ht hinfo hz hsz h.r1 (h.cells hm) hlen h1 h63 hbytes h.base hgd ho hs hx fun v' w' q1 q2 q3 _ => hK v' w' (h.grow q1 q2 q3)

theorem two_append2 {P : Program} {ops : Array Oper} {o : Oper} {a : Act} {K : Act → World → Prop} {Q : Exit → Act → World → Prop} {E : Prop} {s x : Operand} {t : TypeId} (h : Two w0 T B e1 s1 e2 s2 L w v1 n1 xs1 v2 n2 xs2)
    {z : Value} {bytes : Nat} (ht : P.underlying t = some (.slice e2)) (hinfo : (P.info? e2).map (fun i => (i.zero, i.size, i.bytes)) = some (some z, s2, bytes)) (hz : z.cells.size = s2) (hsz : 0 < s2)
    {g : Nat} {news : List Value} {c : Nat} {tt : TypeId} (hm : (g, tt, news) ∈ L) (hlen : news.length = 1 * s2) (h1 : ∀ u ∈ news, u.oneCell' = true)
    (h63 : n2 + 1 ≤ maxLen) (hbytes : (n2 + 1) * bytes ≤ 140737488355328)
    (hgd : Region.wanted o (yielded ops a.tmps) = true) (ho : o.op = .call { callee := .builtin .append, args := #[s, x], argTypes := #[t, t] }) (hs : a.eval s = v2) (hx : a.eval x = .slice (some ⟨g, 0, none⟩) 1 c)
    (hK : ∀ v' w', Two w0 T B e1 s1 e2 s2 L w' v1 n1 xs1 v' (n2 + 1) (xs2 ++ news) → K (a.put o.dst v') w') :
    if Region.wanted o (yielded ops a.tmps) = true then Oper.wp P o a w K Q else E :=
  two_append1 h.swap ht hinfo hz hsz hm hlen h1 h63 hbytes hgd ho hs hx fun v' w' q => hK v' w' q.swap

theorem twl_append1 {P : Program} {ops : Array Oper} {rest : List Oper} {o : Oper} {a : Act} {Q : Exit → Act → World → Prop} {s x : Operand} {t : TypeId} (h : Two w0 T B e1 s1 e2 s2 L w v1 n1 xs1 v2 n2 xs2)
    {z : Value} {bytes : Nat} (ht : P.underlying t = some (.slice e1)) (hinfo : (P.info? e1).map (fun i => (i.zero, i.size, i.bytes)) = some (some z, s1, bytes)) (hz : z.cells.size = s1) (hsz : 0 < s1)
    {g : Nat} {news : List Value} {c : Nat} {tt : TypeId} (hm : (g, tt, news) ∈ L) (hlen : news.length = 1 * s1) (h1 : ∀ u ∈ news, u.oneCell' = true)
    (h63 : n1 + 1 ≤ maxLen) (hbytes : (n1 + 1) * bytes ≤ 140737488355328)
    (hgd : o.guard = none) (ho : o.op = .call { callee := .builtin .append, args := #[s, x], argTypes := #[t, t] }) (hs : a.eval s = v1) (hx : a.eval x = .slice (some ⟨g, 0, none⟩) 1 c)
    (hK : ∀ v' w', Two w0 T B e1 s1 e2 s2 L w' v' (n1 + 1) (xs1 ++ news) v2 n2 xs2 → wpList P ops Q rest (a.put o.dst v') w') : wpList P ops Q (o :: rest) a w :=
  wp_append w s x B t e1 z s1 bytes ht hinfo hz hsz h.r1 (h.cells hm) hlen h1 h63 hbytes h.base hgd ho hs hx fun v' w' q1 q2 q3 _ => hK v' w' (h.grow q1 q2 q3)

theorem twl_append2 {P : Program} {ops : Array Oper} {rest : List Oper} {o : Oper} {a : Act} {Q : Exit → Act → World → Prop} {s x : Operand} {t : TypeId} (h : Two w0 T B e1 s1 e2 s2 L w v1 n1 xs1 v2 n2 xs2)
    {z : Value} {bytes : Nat} (ht : P.underlying t = some (.slice e2)) (hinfo : (P.info? e2).map (fun i => (i.zero, i.size, i.bytes)) = some (some z, s2, bytes)) (hz : z.cells.size = s2) (hsz : 0 < s2)
    {g : Nat} {news : List Value} {c : Nat} {tt : TypeId} (hm : (g, tt, news) ∈ L) (hlen : news.length = 1 * s2) (h1 : ∀ u ∈ news, u.oneCell' = true)
    (h63 : n2 + 1 ≤ maxLen) (hbytes : (n2 + 1) * bytes ≤ 140737488355328)
    (hgd : o.guard = none) (ho : o.op = .call { callee := .builtin .append, args := #[s, x], argTypes := #[t, t] }) (hs : a.eval s = v2) (hx : a.eval x = .slice (some ⟨g, 0, none⟩) 1 c)
    (hK : ∀ v' w', Two w0 T B e1 s1 e2 s2 L w' v1 n1 xs1 v' (n2 + 1) (xs2 ++ news) → wpList P ops Q rest (a.put o.dst v') w') : wpList P ops Q (o :: rest) a w :=
  twl_append1 h.swap ht hinfo hz hsz hm hlen h1 h63 hbytes hgd ho hs hx fun v' w' q => hK v' w' q.swap
end
end Go.Proofs.Ytajddbmmbhdnfaa
