/-
  A struct of the call's own with rows of its own in it: what turns, what stays. No program is named here.
-/
import Derived.Test.YtcpoglchjkpbpaaDoorBase2
import Derived.Test.YtcpoglchjkpbpaaDoorKeep
import Derived.Test.YtcpoglchjkpbpaaDoorRow
import Derived.Test.YtcpoglchjkpbpaaDoorSettle2
namespace Go.Proofs.YtcpoglchjkpbpaaDoor
set_option linter.unusedVariables false
set_option linter.unusedSimpArgs false
set_option maxRecDepth 100000
open Go Go.RowKit

structure Rw where
  e : TypeId
  sz : Nat
  v : Value
  n : Nat
  xs : List Value

def Rw.at_ (r : Rw) (B : Nat) (w : World) : Prop := w.ownsRow B r.e r.sz r.v r.n r.xs
def Rw.far (r s : Rw) : Prop := ∀ i, r.v.ownBlock = some i → s.v.ownBlock ≠ some i
theorem Rw.far.symm {r s : Rw} (h : r.far s) : s.far r := fun i h1 h2 => h i h2 h1

structure Own (B : Nat) (w : World) (g : Nat) (t : TypeId) (cs : List Value) (rs : List Rw) : Prop where
  blk : Blk w g t cs
  rows : ∀ r ∈ rs, r.at_ B w
  ap : ∀ (i j : Nat) (r s : Rw), rs[i]? = some r → rs[j]? = some s → i ≠ j → r.far s
  ng : ∀ r ∈ rs, r.v.ownBlock ≠ some g
  base : B ≤ w.heap.size
  lo : B ≤ g

/-- the blocks that it may turn -/
def Tw (g : Nat) (rs : List Rw) (k : Nat) : Prop := k = g ∨ ∃ r ∈ rs, r.v.ownBlock = some k

section
variable {B g : Nat} {t : TypeId} {cs : List Value} {rs : List Rw} {w w' : World} {S : Nat → Prop}
theorem Own.lt (h : Own B w g t cs rs) {k : Nat} (hk : Tw g rs k) : k < w.heap.size := by
  rcases hk with rfl | ⟨r, hr, hk⟩
  · exact h.blk.lt
  · exact ((h.rows r hr).lt k hk).2
theorem Own.ge (h : Own B w g t cs rs) {k : Nat} (hk : Tw g rs k) : B ≤ k := by
  rcases hk with rfl | ⟨r, hr, hk⟩
  · exact h.lo
  · exact own_ge (h.rows r hr) k hk
theorem Own.keeps (h : Own B w g t cs rs) (k : Keeps S w w') (hS : ∀ i, Tw g rs i → ¬ S i) : Own B w' g t cs rs :=
  ⟨h.blk.keeps k (hS g (.inl rfl)), fun r hr => own_keeps (h.rows r hr) k (fun i hi => hS i (.inr ⟨r, hr, hi⟩)), h.ap, h.ng, Nat.le_trans h.base k.size, h.lo⟩
theorem Own.later (h : Own B w g t cs rs) (hb : Below w.heap.size w w') : Own B w' g t cs rs := h.keeps (Keeps.of_below hb (fun _ => False)) (fun _ _ => id)
theorem Own.alloc (h : Own B w g t cs rs) (o : Obj) : Own B (w.alloc o) g t cs rs := h.later (below_alloc (Below.refl _ _) o)
theorem Own.drewN (h : Own B w g t cs rs) (n : Nat) : Own B (w.drewN n) g t cs rs := h.keeps ((Keeps.refl (fun _ => False) w).drewN n) (fun _ _ => id)
theorem Own.row (h : Own B w g t cs rs) (i : Nat) {r : Rw} (hi : rs[i]? = some r) : r.at_ B w := h.rows r (List.mem_of_getElem? hi)
/-- only its blocks are turned: what lies below stays -/
theorem Own.below (h : Own B w g t cs rs) (k : Keeps (Tw g rs) w w') : Below B w w' := k.below h.base (fun _ hi => h.ge hi)

/-- one of its rows, and its own cells, are turned -/
theorem Own.put (h : Own B w g t cs rs) {i : Nat} {r : Rw} (hi : rs[i]? = some r) {w1 : World} {v' : Value} {n' : Nat} {xs' : List Value} (hown : w1.ownsRow B r.e r.sz v' n' xs') (hg : w.grownBy w1 r.v.ownBlock)
    (hv : v'.ownBlock = r.v.ownBlock ∨ ∃ k, w.heap.size ≤ k ∧ v'.ownBlock = some k) :
    Blk w1 g t cs ∧ ∀ w2 cs', Blk w2 g t cs' → w1.grownBy w2 (some g) → Own B w2 g t cs' (rs.set i ⟨r.e, r.sz, v', n', xs'⟩) ∧ Keeps (Tw g rs) w w2 ∧ (∀ k, Tw g (rs.set i ⟨r.e, r.sz, v', n', xs'⟩) k → Tw g rs k ∨ w.heap.size ≤ k) := by
  have hm := List.mem_of_getElem? hi
  have kk : Keeps (fun k => r.v.ownBlock = some k) w w1 := (Keeps.of_grown hg).mono (fun i hi => hi.symm)
  have hlt : ∀ k, Tw g rs k → k < w.heap.size := fun k hk => h.lt hk
  have far : ∀ k, k < w.heap.size → r.v.ownBlock ≠ some k → v'.ownBlock ≠ some k := fun k hk hne e => by
    rcases hv with h | ⟨j, hj, h⟩
    · exact hne (h ▸ e)
    · rw [h] at e
      injection e with e
      omega
  refine ⟨h.blk.keeps kk (h.ng r hm), fun w2 cs' hb2 hg2 => ?_⟩
  have ks : Keeps (fun k => k = g) w1 w2 := (Keeps.of_grown hg2).mono (fun i hi => by injection hi)
  have hset : ∀ j s, (rs.set i ⟨r.e, r.sz, v', n', xs'⟩)[j]? = some s → (j = i ∧ s = ⟨r.e, r.sz, v', n', xs'⟩) ∨ (j ≠ i ∧ rs[j]? = some s) := fun j s hs => by
    by_cases e : j = i
    · subst e
      rw [List.getElem?_set_self (List.getElem?_eq_some_iff.1 hi).1] at hs
      injection hs with hs
      exact .inl ⟨rfl, hs.symm⟩
    · rw [List.getElem?_set_ne (fun e' => e e'.symm)] at hs
      exact .inr ⟨e, hs⟩
  have hng := far g h.blk.lt (h.ng r hm)
  have hold : ∀ s ∈ rs, s.far r → s.at_ B w2 := fun s hs hsr => own_keeps (own_keeps (h.rows s hs) kk (fun k hk e => hsr k hk e)) ks (fun k hk e => h.ng s hs (e ▸ hk))
  refine ⟨⟨hb2, fun s hs => ?_, fun j l s u hs hu hjl => ?_, fun s hs => ?_, by have := h.base; have := kk.size; have := ks.size; omega, h.lo⟩, ?_, fun k hk => ?_⟩
  · obtain ⟨j, hj⟩ := List.getElem?_of_mem hs
    rcases hset j s hj with ⟨-, rfl⟩ | ⟨hne, hj⟩
    · exact own_keeps hown ks (fun k hk e => hng (e ▸ hk))
    · exact hold s (List.mem_of_getElem? hj) (h.ap j i s r hj hi hne)
  · rcases hset j s hs with ⟨e1, rfl⟩ | ⟨hj, hs2⟩
    · rcases hset l u hu with ⟨e2, rfl⟩ | ⟨hl, hu2⟩
      · exact absurd (e1.trans e2.symm) hjl
      · exact fun k hk e => far k (hlt k (.inr ⟨u, List.mem_of_getElem? hu2, e⟩)) (fun e' => h.ap i l r u hi hu2 (fun e3 => hl e3.symm) k e' e) hk
    · rcases hset l u hu with ⟨e2, rfl⟩ | ⟨hl, hu2⟩
      · exact fun k hk e => far k (hlt k (.inr ⟨s, List.mem_of_getElem? hs2, hk⟩)) (fun e' => h.ap j i s r hs2 hi hj k hk e') e
      · exact h.ap j l s u hs2 hu2 hjl
  · obtain ⟨j, hj⟩ := List.getElem?_of_mem hs
    rcases hset j s hj with ⟨-, rfl⟩ | ⟨hne, hj⟩
    · exact hng
    · exact h.ng s (List.mem_of_getElem? hj)
  · exact (kk.mono (fun k hk => .inr ⟨r, hm, hk⟩)).trans (ks.mono (fun k hk => .inl hk))
  · rcases hk with rfl | ⟨s, hs, hk⟩
    · exact .inl (.inl rfl)
    · obtain ⟨j, hj⟩ := List.getElem?_of_mem hs
      rcases hset j s hj with ⟨-, rfl⟩ | ⟨hne, hj⟩
      · rcases hv with h | ⟨k', hk', h⟩
        · exact .inl (.inr ⟨r, hm, h ▸ hk⟩)
        · rw [show v'.ownBlock = some k from hk] at h
          injection h with h
          exact .inr (by omega)
      · exact .inl (.inr ⟨s, List.mem_of_getElem? hj, hk⟩)
/-- its own cells alone are turned -/
theorem Own.cells (h : Own B w g t cs rs) {w2 : World} {cs' : List Value} (hb2 : Blk w2 g t cs') (hg2 : w.grownBy w2 (some g)) : Own B w2 g t cs' rs ∧ Keeps (Tw g rs) w w2 := by
  have ks : Keeps (fun k => k = g) w w2 := (Keeps.of_grown hg2).mono (fun i hi => by injection hi)
  exact ⟨⟨hb2, fun s hs => own_keeps (h.rows s hs) ks (fun k hk e => h.ng s hs (e ▸ hk)), h.ap, h.ng, Nat.le_trans h.base ks.size, h.lo⟩, ks.mono (fun k hk => .inl hk)⟩

/-- it has been turned since the world w0, in which it had the blocks T0 -/
structure OwnTo (B : Nat) (w0 : World) (T0 : Nat → Prop) (w : World) (g : Nat) (t : TypeId) (cs : List Value) (rs : List Rw) : Prop where
  own : Own B w g t cs rs
  kp : Keeps T0 w0 w
  nw : ∀ k, Tw g rs k → T0 k ∨ w0.heap.size ≤ k
theorem OwnTo.start (h : Own B w g t cs rs) : OwnTo B w (Tw g rs) w g t cs rs := ⟨h, Keeps.refl _ _, fun _ hk => .inl hk⟩
theorem OwnTo.step {w0 : World} {T0 : Nat → Prop} {cs' : List Value} {rs' : List Rw} (h : OwnTo B w0 T0 w g t cs rs) (h' : OwnTo B w (Tw g rs) w' g t cs' rs') : OwnTo B w0 T0 w' g t cs' rs' :=
  ⟨h'.own, h.kp.step h'.kp (fun i hi hT => (h.nw i hT).resolve_right (by omega)), fun k hk => (h'.nw k hk).elim (fun h1 => h.nw k h1) (fun h1 => .inr (by have := h.kp.size; omega))⟩
theorem OwnTo.later {w0 : World} {T0 : Nat → Prop} (h : OwnTo B w0 T0 w g t cs rs) (hb : Below w.heap.size w w') : OwnTo B w0 T0 w' g t cs rs :=
  ⟨h.own.later hb, h.kp.trans (Keeps.of_below hb _), h.nw⟩
theorem OwnTo.since {w0 w1 : World} {T0 : Nat → Prop} (h : OwnTo B w1 T0 w g t cs rs) (hb : Below w0.heap.size w0 w1) : OwnTo B w0 T0 w g t cs rs :=
  ⟨h.own, (Keeps.of_below hb _).trans h.kp, fun k hk => (h.nw k hk).imp id fun h1 => by have := hb.size; omega⟩
theorem Own.put_to (h : Own B w g t cs rs) {i : Nat} {r : Rw} (hi : rs[i]? = some r) {w1 : World} {v' : Value} {n' : Nat} {xs' : List Value} (hown : w1.ownsRow B r.e r.sz v' n' xs') (hg : w.grownBy w1 r.v.ownBlock)
    (hv : v'.ownBlock = r.v.ownBlock ∨ ∃ k, w.heap.size ≤ k ∧ v'.ownBlock = some k) {w2 : World} {cs' : List Value} (hb2 : Blk w2 g t cs') (hg2 : w1.grownBy w2 (some g)) : OwnTo B w (Tw g rs) w2 g t cs' (rs.set i ⟨r.e, r.sz, v', n', xs'⟩) := by
  obtain ⟨h1, h2, h3⟩ := (h.put hi hown hg hv).2 w2 cs' hb2 hg2
  exact ⟨h1, h2, h3⟩
theorem Own.cells_to (h : Own B w g t cs rs) {w2 : World} {cs' : List Value} (hb2 : Blk w2 g t cs') (hg2 : w.grownBy w2 (some g)) : OwnTo B w (Tw g rs) w2 g t cs' rs :=
  ⟨(h.cells hb2 hg2).1, (h.cells hb2 hg2).2, fun _ hk => .inl hk⟩
end

/-- what 'append' of a row v0 of one's own has made, since the world w1 -/
def FPush (w1 : World) (B : Nat) (e : TypeId) (sz : Nat) (v0 : Value) (n : Nat) (xs : List Value) : Fact (fun w w' => Below w.heap.size w w') :=
  ⟨fun v w => ∃ wa, Below w1.heap.size w1 wa ∧ wa.grownBy w v0.ownBlock ∧ w.ownsRow B e sz v n xs ∧ (v.ownBlock = v0.ownBlock ∨ ∃ k, wa.heap.size ≤ k ∧ v.ownBlock = some k),
    fun v w w' ⟨wa, h1, h2, h3, h4⟩ k => ⟨wa, h1, grown_trans h2 (grown_of_below k _), own_keeps h3 (Keeps.of_below k (fun _ => False)) (fun _ _ => id), h4⟩⟩

/-- the first k of a row of one's own -/
theorem own_prefix {w : World} {B sz n k : Nat} {e : TypeId} {A : Option Addr} {c : Nat} {xs : List Value} (h : w.ownsRow B e sz (.slice A n c) n xs) (hk : k ≤ n) : w.ownsRow B e sz (.slice A k c) k (xs.take (k * sz)) := by
  have hm := Nat.mul_le_mul_right sz hk
  rcases h.2 with ⟨h1, h2⟩ | ⟨g, cap, cur, h1, h2, h3, h4, h5, h6, h7⟩
  · injection h1 with e1 e2 e3
    subst e1 e2 e3
    have : k = 0 := by omega
    subst this
    rw [Nat.zero_mul, List.take_zero]
    exact World.ownsRow_nil _ _ _ _
  · injection h1 with e1 e2 e3
    subst e1 e3
    refine ⟨by rw [List.length_take, h.1]; omega, .inr ⟨g, c, cur, rfl, h2, h3, by omega, h5, h6, ?_⟩⟩
    rw [← h7, List.take_take, Nat.min_eq_left hm]
end Go.Proofs.YtcpoglchjkpbpaaDoor
