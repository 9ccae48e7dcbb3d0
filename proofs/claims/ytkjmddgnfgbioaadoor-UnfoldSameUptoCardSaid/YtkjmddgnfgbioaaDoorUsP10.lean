/-
  The tables of strconv and math/bits, as their initialisers lay them.
-/
import Derived.Test.YtkjmddgnfgbioaaDoorUsP9
import Derived.Test.YtkjmddgnfgbioaaDoorUsP8
import Derived.Test.YtkjmddgnfgbioaaDoorUsP4
import Derived.Test.YtkjmddgnfgbioaaDoorUsP3
import Derived.Test.YtkjmddgnfgbioaaDoorCards
import Derived.Test.YtkjmddgnfgbioaaDoorTie
import Derived.WalkKit
import Derived.ProofKit
import Derived.OpenShut
import Derived.LaidSub
import Derived.Deep.DeepHandedRow
import Derived.Lib.LaidTab

namespace Go.Proofs.YtkjmddgnfgbioaaDoor
set_option linter.unusedVariables false
set_option linter.unusedSimpArgs false
set_option maxRecDepth 100000
open Go.RowKit

theorem pow_up {B B' : Nat} {w : World} (h : Pow B w) (hB : B ≤ B') : Pow B' w := fun w2 h2 => h w2 (h2.mono hB)
/-- a slice stays where only other blocks are turned -/
theorem slv_off {T : Nat → Prop} {w w' : World} {sz n : Nat} {v : Value} {cs : List Value} (h : SlV w sz v n cs) (k : Keeps T w w') (off : ∀ b, v.ownBlock = some b → ¬ T b) : SlV w' sz v n cs := by
  obtain ⟨A, c, rfl, h1, h2, h3, h4⟩ := h
  refine ⟨A, c, rfl, h1, h2, h3, ?_⟩
  by_cases hne : cs = []
  · rw [hne]; exact Cells.nil _ _ _
  · obtain ⟨b, o, rfl, hb, hc⟩ := h4.at_ hne
    exact ⟨b, o, fun _ => ⟨rfl, Nat.lt_of_lt_of_le hb k.size⟩, fun j u hu => k.cell (hc j u hu) (off b rfl)⟩

/-- names that lie off some blocks -/
structure NmAt (T : Nat → Prop) (w : World) (v : Value) (L : Lnm) : Prop where
  sl : SlV w 2 v L.length (lncs L)
  lt : ∀ b, v.ownBlock = some b → b < w.heap.size
  off : ∀ b, v.ownBlock = some b → ¬ T b
theorem NmAt.step {T T' : Nat → Prop} {w w' : World} {v : Value} {L : Lnm} (h : NmAt T w v L) (k : Keeps T w w') (nw : ∀ i, T' i → T i ∨ w.heap.size ≤ i) : NmAt T' w' v L :=
  ⟨slv_off h.sl k h.off, fun b hb => Nat.lt_of_lt_of_le (h.lt b hb) k.size, fun b hb ht => by
    rcases nw b ht with h1 | h1
    · exact h.off b hb h1
    · have := h.lt b hb
      omega⟩
theorem NmAt.later {T : Nat → Prop} {w w' : World} {v : Value} {L : Lnm} (h : NmAt T w v L) (hb : Below w.heap.size w w') : NmAt T w' v L := h.step (Keeps.of_below hb T) fun _ h => .inl h

/-- the blocks that what was made may lie in -/
def Sl (H Q : Nat) (out : Value) (b : Nat) : Prop := H ≤ b ∧ out.ownBlock ≠ some b ∧ b ≠ Q + 1
/-- the blocks that a round turns -/
def Ot (out : Value) (Q b : Nat) : Prop := out.ownBlock = some b ∨ b = Q + 1
structure Rl (w0 : World) (Q : Nat) (out : Value) (k : Nat) (cs : List Value) (dn : St.P) (sc tc : List Value) (w : World) : Prop where
  row : w.ownsRow w0.heap.size 40 12 out k cs
  done : CS (Sl w0.heap.size Q out) w cs k dn
  src : Blk w Q 40 sc
  cur : Blk w (Q + 1) 40 tc
  hi : w0.heap.size ≤ Q
  o0 : out.ownBlock ≠ some Q
  o1 : out.ownBlock ≠ some (Q + 1)
  low : Below w0.heap.size w0 w
section
variable {w0 : World} {Q : Nat} {out : Value} {k : Nat} {cs : List Value} {dn : St.P} {sc tc : List Value} {w w' : World}
theorem Rl.below (h : Rl w0 Q out k cs dn sc tc w) (hb : Below w.heap.size w w') : Rl w0 Q out k cs dn sc tc w' :=
  ⟨own_keeps h.row (Keeps.of_below hb (fun _ => False)) (fun _ _ => id), h.done.go (grown_of_below hb none) (fun b _ hb => ⟨hb, by simp⟩), h.src.below hb, h.cur.below hb, h.hi, h.o0, h.o1, h.low.trans (hb.mono h.low.size)⟩
theorem Rl.put {tc' : List Value} (h : Rl w0 Q out k cs dn sc tc w) (hB : Blk w' (Q + 1) 40 tc') (hg : w.grownBy w' (some (Q + 1))) : Rl w0 Q out k cs dn sc tc' w' := by
  have k5 : Keeps (fun k => k = Q + 1) w w' := (Keeps.of_grown hg).mono (fun i hi => by injection hi)
  have hw0 : w0.heap.size ≤ Q + 1 := Nat.le_succ_of_le h.hi
  exact ⟨own_keeps h.row k5 (fun j hj e => h.o1 (e ▸ hj)), h.done.go hg (fun b _ hb => ⟨hb, fun e => by injection e with e; exact hb.2.2 e⟩), h.src.keeps k5 (fun e => by omega), hB, h.hi, h.o0, h.o1, h.low.trans (below_of_grown hg h.low.size hw0)⟩
theorem Rl.fresh_x {ca : List Value} {e : Ex.X} (h : Rl w0 Q out k cs dn sc tc w) (hx : NS (fun b => w.heap.size ≤ b) w' ca e) : XS (Sl w0.heap.size Q out) w' ca e := by
  have hx : XS (fun b => w.heap.size ≤ b) w' ca e := XRN.read hx
  refine hx.imp fun b _ hge => ?_
  have hge : w.heap.size ≤ b := hge
  have h1 := h.cur.lt
  have h2 := h.hi
  refine ⟨by omega, fun e => ?_, by omega⟩
  have := (h.row.lt b e).2
  omega
theorem Rl.fresh_p {u : Value} {q : St.P} (h : Rl w0 Q out k cs dn sc tc w) (hx : SP (fun b => w.heap.size ≤ b) w' u q) : SP (Sl w0.heap.size Q out) w' u q :=
  hx.go (World.grownBy.refl w' none) fun b _ hge => by
    have hge : w.heap.size ≤ b := hge
    have h1 := h.cur.lt
    have h2 := h.hi
    refine ⟨⟨by omega, fun e => ?_, by omega⟩, by simp⟩
    have := (h.row.lt b e).2
    omega
theorem XS.put {ca : List Value} {e : Ex.X} {H : Nat} (h : XS (Sl H Q out) w ca e) (hg : w.grownBy w' (some (Q + 1))) : XS (Sl H Q out) w' ca e := h.go hg (fun b _ hb => ⟨hb, fun e => by injection e with e; exact hb.2.2 e⟩)
theorem SP.put {u : Value} {q : St.P} {H : Nat} (h : SP (Sl H Q out) w u q) (hg : w.grownBy w' (some (Q + 1))) : SP (Sl H Q out) w' u q := h.go hg (fun b _ hb => ⟨hb, fun e => by injection e with e; exact hb.2.2 e⟩)
theorem XS.on {ca : List Value} {e : Ex.X} {S : Nat → Prop} (h : XS S w ca e) (hb : Below w.heap.size w w') : XS S w' ca e := h.go (grown_of_below hb none) (fun b _ hb => ⟨hb, by simp⟩)
theorem SP.on {u : Value} {q : St.P} {S : Nat → Prop} (h : SP S w u q) (hb : Below w.heap.size w w') : SP S w' u q := h.go (grown_of_below hb none) (fun b _ hb => ⟨hb, by simp⟩)
theorem XS.zero {S : Nat → Prop} : XS S w (xcells 0 0 ⟨#[]⟩ none 0 0) .bad := XRN.bad 0 0 ⟨#[]⟩ none 0 0 (Nat.le_refl _) (Nat.zero_le _) (by decide) (by decide) (by omega)
theorem NmAt.put {v : Value} {L : Lnm} (h : NmAt (Ot out Q) w v L) (hg : w.grownBy w' (some (Q + 1))) : NmAt (Ot out Q) w' v L :=
  h.step ((Keeps.of_grown hg).mono (fun i hi => by injection hi with hi; exact .inr hi)) fun _ h => .inl h
/-- the statement that was made is put to the others -/
theorem Rl.finish {kd : Int} {nm : ByteArray} {ca cb : List Value} {ea eb : Ex.X} {D1 D2 : Option Addr} {l1 k1 l2 k2 : Nat} {body els : St.P} {v7 : Value} {w7 : World} {vn : Value} {L : Lnm} (h : Rl w0 Q out k cs dn sc tc w) (hN : NmAt (Ot out Q) w vn L) (htc : tc = stcells kd nm ca cb D1 l1 k1 D2 l2 k2)
    (za : XS (Sl w0.heap.size Q out) w ca ea) (zb : XS (Sl w0.heap.size Q out) w cb eb) (pb : SP (Sl w0.heap.size Q out) w (.slice D1 l1 k1) body) (pe : SP (Sl w0.heap.size Q out) w (.slice D2 l2 k2) els)
    (hg : w.grownBy w7 out.ownBlock) (hv : v7.ownBlock = out.ownBlock ∨ v7.ownBlock = some (w.heap.size + 1)) (hb : Below w0.heap.size w w7) :
    CS (fun b => w0.heap.size ≤ b ∧ v7.ownBlock ≠ some b) w7 (cs ++ tc) (k + 1) (dn ++ .cons kd nm.data.toList ea eb body els .nil) ∧ Below w0.heap.size w0 w7 ∧ NmAt (fun b => v7.ownBlock = some b) w7 vn L := by
  refine ⟨?_, h.low.trans hb, ?_⟩
  · have one : CS (Sl w0.heap.size Q out) w tc 1 (.cons kd nm.data.toList ea eb body els .nil) := by
      obtain ⟨_, _, _, e1, a1, a2, s1⟩ := pb
      obtain ⟨_, _, _, e2, b1, b2, s2⟩ := pe
      injection e1 with e1 e3 e4
      injection e2 with e2 e5 e6
      subst e1 e3 e4 e2 e5 e6
      rw [htc]
      exact CS.one ⟨a1, a2, b1, b2⟩ za zb s1 s2
    have all := h.done.append one
    have := all.row (S' := fun b => w0.heap.size ≤ b) h.row hg (hv.imp id fun e => ⟨_, Nat.le_succ _, e⟩) (fun b hb ⟨h1, h2, h3⟩ => ⟨h1, fun e => h2 e.symm⟩)
    exact this.imp fun b _ ⟨h1, h2⟩ => ⟨h1, fun e => h2 e.symm⟩
  · have hN' : NmAt (fun b => out.ownBlock = some b) w vn L := ⟨hN.sl, hN.lt, fun b hb e => hN.off b hb (.inl e)⟩
    exact hN'.step ((Keeps.of_grown hg).mono fun i hi => hi.symm) fun i hi => by
      rcases hv with e | e
      · exact .inl (e ▸ hi)
      · rw [e] at hi
        injection hi with hi
        exact .inr (by omega)
theorem CS.turned {T S S' : Nat → Prop} {n : Nat} {p : St.P} (h : CS S w cs n p) (k : Keeps T w w') (hS : ∀ g, g < w.heap.size → S g → S' g ∧ ¬ T g) : CS S' w' cs n p := PC.mono h k.size (only_kept k hS)
theorem Rl.turned {tc' : List Value} (h : Rl w0 Q out k cs dn sc tc w) (kp : Keeps (fun b => b = Q + 1) w w') (hB : Blk w' (Q + 1) 40 tc') : Rl w0 Q out k cs dn sc tc' w' :=
  ⟨own_keeps h.row kp (fun j hj e => h.o1 (e ▸ hj)), h.done.turned kp (fun b _ hb => ⟨hb, hb.2.2⟩), h.src.keeps kp (fun e => by omega), hB, h.hi, h.o0, h.o1, h.low.trans (kp.below h.low.size fun i hi => by have := h.hi; omega)⟩
theorem NmAt.turned {v : Value} {L : Lnm} (h : NmAt (Ot out Q) w v L) (kp : Keeps (fun b => b = Q + 1) w w') : NmAt (Ot out Q) w' v L := h.step (kp.mono fun i hi => .inr hi) fun _ h => .inl h
/-- the statement under way: its first expression and its name are laid -/
def LI (H Q : Nat) (out : Value) (tc : List Value → List Value) (e : Ex.X) (v : Value) (w : World) : Prop := ∃ k n s A l c, v = .agg (xcells k n s A l c).toArray ∧ XS (Sl H Q out) w (xcells k n s A l c) e ∧ Blk w (Q + 1) 40 (tc (xcells k n s A l c))
theorem LI.step {H : Nat} {tc : List Value → List Value} {e : Ex.X} {v : Value} (h : LI H Q out tc e v w) (hb : Below w.heap.size w w') : LI H Q out tc e v w' := by
  obtain ⟨k, n, s, A, l, c, h1, h2, h3⟩ := h
  exact ⟨k, n, s, A, l, c, h1, h2.on hb, h3.below hb⟩
theorem LI.cong {H : Nat} {tc : List Value → List Value} {e : Ex.X} {v v' : Value} (h : LI H Q out tc e v w) (hv : v = v') : LI H Q out tc e v' w := hv ▸ h
theorem XS.turn {ca : List Value} {e : Ex.X} {H : Nat} (h : XS (Sl H Q out) w ca e) (kp : Keeps (fun b => b = Q + 1) w w') : XS (Sl H Q out) w' ca e := XRN.mono h kp.size (only_kept kp fun b _ hb => ⟨hb, hb.2.2⟩)
end
section
variable {P : Program} {w : World} {g : Nat} {t : TypeId} {cs : List Value} {o : Oper} {a : Act} {K : Act → World → Prop} {Q : Exit → Act → World → Prop}
theorem wp_store_at (h : Blk w g t cs) (off k : Nat) (vs : List Value) {ty : TypeId} (hi : (P.info? ty).map (·.size) = some k) (hv : vs.length = k) (hk : off + k ≤ cs.length) (h1 : ∀ v ∈ vs, v.oneCell' = true) {x y : Operand}
    (ho : o.op = .store ty x y) (hx : a.eval x = .pointer (some ⟨g, off, none⟩)) (hy : a.eval y = .agg vs.toArray) (hK : ∀ w', Blk w' g t (cs.take off ++ vs ++ cs.drop (off + k)) → w.grownBy w' (some g) → K (a.put o.dst undef) w') : o.wp P a w K Q :=
  wp_store_blk h ty x y off k vs hi hv hk h1 ho hx hy (hK _ (h.row _) (grown_setRow _ _ _))
theorem wp_set_at (h : Blk w g t cs) (i : Nat) (u : Value) {ty : TypeId} (hi : (P.info? ty).map (·.size) = some 1) (hk : i < cs.length) (hu : u.cells = #[u]) (h1 : u.oneCell' = true)
    {x y : Operand} (ho : o.op = .store ty x y) (hx : a.eval x = .pointer (some ⟨g, i, none⟩)) (hy : a.eval y = u) (hK : ∀ w', Blk w' g t (cs.set i u) → w.grownBy w' (some g) → K (a.put o.dst undef) w') : o.wp P a w K Q := by
  obtain ⟨inf, hii, his⟩ := Option.map_eq_some_iff.1 hi
  have := run_storeCells_at P g i t [u] 0 cs.toArray w h (by simp; omega) (by simpa using h1)
  simp only [Nat.add_zero, List.length_singleton] at this
  have hrun : (storeVar ty ⟨g, i, none⟩ u).run P w = .ok () (w.setRow g (cs.take i ++ [u] ++ cs.drop (i + 1)).toArray) := by
    simp [storeVar, sizeOf, typeInfo, hii, his, hu, this]
  have e : cs.take i ++ [u] ++ cs.drop (i + 1) = cs.set i u := by
    rw [List.set_eq_take_append_cons_drop, if_pos hk]
    simp
  rw [e] at hrun
  unfold Oper.wp execOp
  simp only [ho, hx, hy, Instr.storeAt, Instr.sureAddr, Sem.run_bind, Sem.run_pure, Result.andThen_ok, hrun]
  exact hK _ (h.row _) (grown_setRow _ _ _)
end
end Go.Proofs.YtkjmddgnfgbioaaDoor


namespace Go.Proofs.YtkjmddgnfgbioaaDoor
set_option linter.unusedVariables false
set_option linter.unusedSimpArgs false
set_option maxRecDepth 100000
open Go.RowKit

theorem info_lname : (Tryd.prog.info? 173).map (fun i => (i.zero, i.size, i.bytes)) = some (some (.agg #[.string ⟨#[]⟩, .string ⟨#[]⟩]), 2, 32) := by kernel_rfl
theorem lncs_one (L : Lnm) : ∀ u ∈ lncs L, u.oneCell' = true := by
  intro u hu
  obtain ⟨p, -, hp⟩ := List.mem_flatMap.1 hu
  simp only [lnc, List.mem_cons, List.not_mem_nil, or_false] at hp
  rcases hp with rfl | rfl <;> rfl
theorem lst_one (k : Int) (nm : ByteArray) (ak an : Int) (sa : ByteArray) (aA : Option Addr) (al ac : Nat) (bk bn : Int) (sb : ByteArray) (bA : Option Addr) (bl bc : Nat) (D : Option Addr) (dl dc : Nat) (E : Option Addr) (el ec : Nat) : ∀ v ∈ stcells k nm (xcells ak an sa aA al ac) (xcells bk bn sb bA bl bc) D dl dc E el ec, v.oneCell' = true := by
  intro v hv
  simp [stcells, xcells] at hv
  rcases hv with rfl | rfl | rfl | rfl | rfl | rfl | rfl | rfl | rfl | rfl | rfl | rfl <;> rfl
theorem own_lit (w : World) (B : Nat) (e : TypeId) (sz n : Nat) (xs : List Value) (hB : B ≤ w.heap.size) (hn : n ≤ maxLen) (hl : xs.length = n * sz) : (w.alloc (.cells xs.toArray e)).ownsRow B e sz (.slice (some ⟨w.heap.size, 0, none⟩) n n) n xs := by
  have hb := Blk.new w e xs
  unfold Blk at hb
  exact ⟨hl, .inr ⟨w.heap.size, n, xs.toArray, rfl, hB, hb, Nat.le_refl _, hn, by simp [hl], by simp [← hl]⟩⟩
/-- a value that is known; a row of one pair -/
def FIs (x : Value) : Fact (fun w w' => Below w.heap.size w w') := ⟨fun v _ => v = x, fun _ _ _ h _ => h⟩
def FIt (z : ByteArray) : Fact (fun w w' => Below w.heap.size w w') := ⟨fun v _ => ∃ t : ByteArray, v = .string t ∧ (⟨#[118]⟩ : ByteArray) ++ t = z ∧ ¬ 9223372036854775807 < 1 + t.size, fun _ _ _ h _ => h⟩
def FPair (B : Nat) (xs : List Value) : Fact (fun w w' => Below w.heap.size w w') := ⟨fun v w => ∃ g, v = .slice (some ⟨g, 0, none⟩) 1 1 ∧ w.ownsRow B 173 2 v 1 xs, fun _ _ _ h k => by obtain ⟨g, h1, h2⟩ := h; exact ⟨g, h1, own_keeps h2 (Keeps.of_below k (fun _ => False)) (fun _ _ => id)⟩⟩
def FSPn (H : Nat) (p : St.P) : Fact (fun w w' => Below w.heap.size w w') := ⟨fun v w => SP (fun b => H ≤ b) w v p, fun _ _ _ h k => h.on k⟩

/-- both expressions are laid -/
def LI2 (H Q : Nat) (out : Value) (tc : List Value → List Value → List Value) (e e' : Ex.X) (v v' : Value) (w : World) : Prop := ∃ k n s A l c k' n' s' A' l' c', v = .agg (xcells k n s A l c).toArray ∧ v' = .agg (xcells k' n' s' A' l' c').toArray ∧ XS (Sl H Q out) w (xcells k n s A l c) e ∧ XS (Sl H Q out) w (xcells k' n' s' A' l' c') e' ∧ Blk w (Q + 1) 40 (tc (xcells k n s A l c) (xcells k' n' s' A' l' c'))
theorem LI2.step {H Q : Nat} {out : Value} {w w' : World} {tc : List Value → List Value → List Value} {e e' : Ex.X} {v v' : Value} (h : LI2 H Q out tc e e' v v' w) (hb : Below w.heap.size w w') : LI2 H Q out tc e e' v v' w' := by
  obtain ⟨k, n, s, A, l, c, k', n', s', A', l', c', h1, h2, h3, h4, h5⟩ := h
  exact ⟨k, n, s, A, l, c, k', n', s', A', l', c', h1, h2, h3.on hb, h4.on hb, h5.below hb⟩
theorem LI2.cong {H Q : Nat} {out : Value} {w : World} {tc : List Value → List Value → List Value} {e e' : Ex.X} {v v' u u' : Value} (h : LI2 H Q out tc e e' v v' w) (hv : v = u) (hv' : v' = u') : LI2 H Q out tc e e' u u' w := hv ▸ hv' ▸ h
theorem fns_stays {H Q : Nat} {e : Ex.X} (hq : Q + 1 < H) : ∀ v w w', (FNS (fun b => H ≤ b) e).holds v w → Keeps (fun b => b = Q + 1) w w' → (FNS (fun b => H ≤ b) e).holds v w' := fun v w w' ⟨cs, h1, h2⟩ k => ⟨cs, h1, h2.kept k fun b _ hb => ⟨hb, fun e => by have : H ≤ b := hb; omega⟩⟩

def LrOK (p : St.P) : Prop := ∀ (w : World) (B n c : Nat) (A : Option Addr) (v : Value) (L : Lnm) (m : Nat), B ≤ w.heap.size → PR B w A n p → n ≤ c → c ≤ maxLen → SlV w 2 v L.length (lncs L) → (∀ b, v.ownBlock = some b → b < w.heap.size) → Pow B w → p.size ≤ 274877906944 → L.length + p.size ≤ 274877906944 → m + p.size ≤ 549755813888 →
  Calls Tryd.prog 80 #[.slice A n c, v, .int .i64 (m : Int)] w fun e w' => ∃ u, e = .returned (.tuple #[u, .int .i64 (((Sr.rn Sr.vn p (Lnm.en L) m).2 : Nat) : Int)]) ∧ SP (fun b => w.heap.size ≤ b) w' u (Sr.rn Sr.vn p (Lnm.en L) m).1 ∧ Below w.heap.size w w'

set_option maxHeartbeats 16000000 in
theorem lr_step (p : St.P) (ih : ∀ q : St.P, q.size < p.size → LrOK q) : LrOK p := by
  intro w B n c A v L m hB hp hnc hcm hv hvl hP hsb hsl hsm
  obtain ⟨g0, o, hA, hpl⟩ := hp.place
  have hn63 : n ≤ 9223372036854775807 := by unfold maxLen at hcm; omega
  have hnp : n ≤ 274877906944 := by have := hp.length; have := p.length_le; omega
  have HO0 := Lib.hid (And.intro hB (And.intro hP (And.intro hsb hsl)))
  have N0 : NmAt (fun b => (Value.slice none 0 0).ownBlock = some b) w v L := ⟨hv, hvl, fun b _ h => by simp [Value.ownBlock] at h⟩
  clear hv hvl hP
  go_enter Tryd.func80, Tryd.ntmps80
  go_wp2
  go_loopw [1, 2, 8, 15] (fun vv mm out i wr => ∃ (k : Nat) (q dn : St.P) (cs : List Value) (L1 : Lnm) (m1 : Nat), k ≤ n ∧ i = .int .i64 (k : Int) ∧ mm = .int .i64 (m1 : Int) ∧ PR B w (some ⟨g0, o + k * 12, none⟩) (n - k) q ∧ NmAt (fun b => out.ownBlock = some b) wr vv L1 ∧ wr.ownsRow w.heap.size 40 12 out k cs ∧ CS (fun b => w.heap.size ≤ b ∧ out.ownBlock ≠ some b) wr cs k dn ∧ Below w.heap.size w wr ∧
      (dn ++ (Sr.rn Sr.vn q (Lnm.en L1) m1).1 = (Sr.rn Sr.vn p (Lnm.en L) m).1 ∧ (Sr.rn Sr.vn q (Lnm.en L1) m1).2 = (Sr.rn Sr.vn p (Lnm.en L) m).2 ∧ q.size ≤ p.size ∧ L1.length + q.size ≤ L.length + p.size ∧ m1 + q.size ≤ m + p.size)) (fun _ _ _ i _ => n - (intOf i).toNat)
  case atStart => exact ⟨0, p, .nil, [], L, m, Nat.zero_le _, rfl, rfl, hpl, N0, World.ownsRow_nil _ _ _ _, CS.nil, Below.refl _ _, rfl, rfl, Nat.le_refl _, Nat.le_refl _, Nat.le_refl _⟩
  case round =>
    clear N0 hpl
    obtain ⟨k, q, dn, cs, L1, m1, hk, rfl, rfl, hq0, hN, hrow, hdone, hlow, hres, hm2, hqs, hqm, hqn⟩ := hrel
    by_cases hlt : k < n
    · have hq := hq0.later (hlow.mono hB)
      obtain ⟨kd, nm, ak, an, bk, bn, sa, sb, aA, bA, al, ac, bl, bc, ea, eb, D, dl, dc, E, el, ec, body, els, rest, rfl, hg, ⟨hd1, hd2, he1, he2⟩, hcell, xa, xb, pb, pe, pr⟩ := hq.next (by omega)
      have pr0 : PR B w (some ⟨g0, o + (k + 1) * 12, none⟩) (n - k - 1) rest := by
        obtain ⟨_, _, _, _, _, _, _, _, _, _, _, _, _, _, _, _, _, _, _, _, _, _, body', els', rest', e1, -, -, -, -, -, -, -, h⟩ := hq0.next (by omega)
        injection e1 with _ _ _ _ _ _ e1
        subst e1
        exact h
      have hAA := hA (by omega)
      subst hAA
      have c0 : wr.cell? ⟨g0, o + k * 12, none⟩ = some (.int .i64 kd) := hcell 0 _ rfl
      have c1 := hcell 1 _ rfl
      have c2 := hcell 2 _ rfl
      have c3 := hcell 3 _ rfl
      have c4 := hcell 4 _ rfl
      have c5 := hcell 5 _ rfl
      have c6 := hcell 6 _ rfl
      have c7 := hcell 7 _ rfl
      have c8 := hcell 8 _ rfl
      have c9 := hcell 9 _ rfl
      have c10 := hcell 10 _ rfl
      have c11 := hcell 11 _ rfl
      have hs : body.size < p.size ∧ els.size < p.size ∧ rest.size ≤ p.size := by rw [St.P.size] at hqs; omega
      have hz : L1.length + (1 + ea.leaves + eb.leaves + body.size + els.size + rest.size) ≤ 274877906944 ∧ m1 + (1 + ea.leaves + eb.leaves + body.size + els.size + rest.size) ≤ 549755813888 ∧ (1 + ea.leaves + eb.leaves + body.size + els.size + rest.size) ≤ 274877906944 ∧ 1 ≤ ea.leaves ∧ 1 ≤ eb.leaves := by
        have h1 := ea.leaves_pos
        have h2 := eb.leaves_pos
        rw [St.P.size] at hqm hqn hqs
        omega
      obtain ⟨Q, hQ⟩ : ∃ Q, Q = wr.heap.size := ⟨_, rfl⟩
      have hbA : Below wr.heap.size wr ((wr.alloc (.cells (stcells kd nm (xcells ak an sa aA al ac) (xcells bk bn sb bA bl bc) D dl dc E el ec).toArray 40)).alloc (.cells (stcells kd ⟨#[]⟩ (xcells 0 0 ⟨#[]⟩ none 0 0) (xcells 0 0 ⟨#[]⟩ none 0 0) none 0 0 none 0 0).toArray 40)) := below_alloc (below_alloc (Below.refl _ _) _) _
      have R0 : Rl w Q u8 k cs dn (stcells kd nm (xcells ak an sa aA al ac) (xcells bk bn sb bA bl bc) D dl dc E el ec) (stcells kd ⟨#[]⟩ (xcells 0 0 ⟨#[]⟩ none 0 0) (xcells 0 0 ⟨#[]⟩ none 0 0) none 0 0 none 0 0) ((wr.alloc (.cells (stcells kd nm (xcells ak an sa aA al ac) (xcells bk bn sb bA bl bc) D dl dc E el ec).toArray 40)).alloc (.cells (stcells kd ⟨#[]⟩ (xcells 0 0 ⟨#[]⟩ none 0 0) (xcells 0 0 ⟨#[]⟩ none 0 0) none 0 0 none 0 0).toArray 40)) := by
        have q0 := Blk.new wr 40 (stcells kd nm (xcells ak an sa aA al ac) (xcells bk bn sb bA bl bc) D dl dc E el ec)
        have q1 := Blk.new (wr.alloc (.cells (stcells kd nm (xcells ak an sa aA al ac) (xcells bk bn sb bA bl bc) D dl dc E el ec).toArray 40)) 40 (stcells kd ⟨#[]⟩ (xcells 0 0 ⟨#[]⟩ none 0 0) (xcells 0 0 ⟨#[]⟩ none 0 0) none 0 0 none 0 0)
        simp only [World.size_alloc] at q1
        have hl := hlow.size
        refine ⟨own_keeps hrow (Keeps.of_below hbA (fun _ => False)) (fun _ _ => id), hdone.go (grown_of_below hbA none) (fun b hb ⟨h1, h2⟩ => ⟨⟨h1, h2, by omega⟩, by simp⟩), ?_, ?_, by omega, fun h => ?_, fun h => ?_, hlow.trans (hbA.mono hl)⟩
        · rw [hQ]; exact q0.alloc _
        · rw [hQ]; exact q1
        · have := (hrow.lt Q h).2; omega
        · have := (hrow.lt _ h).2; omega
      have N0 : NmAt (Ot u8 Q) ((wr.alloc (.cells (stcells kd nm (xcells ak an sa aA al ac) (xcells bk bn sb bA bl bc) D dl dc E el ec).toArray 40)).alloc (.cells (stcells kd ⟨#[]⟩ (xcells 0 0 ⟨#[]⟩ none 0 0) (xcells 0 0 ⟨#[]⟩ none 0 0) none 0 0 none 0 0).toArray 40)) u1 L1 :=
        hN.step (Keeps.of_below hbA _) fun i hi => by
          rcases hi with hi | hi
          · exact .inl hi
          · exact .inr (by omega)
      have HQ := Lib.hid (And.intro hres (And.intro hm2 (And.intro hqs (And.intro hqm (And.intro hqn (And.intro hs hz))))))
      have hIN : ∀ w', Below w.heap.size w w' → XR B w' (xcells ak an sa aA al ac) ea ∧ XR B w' (xcells bk bn sb bA bl bc) eb ∧ PR B w' D dl body ∧ PR B w' E el els := fun w' hb => by
        have hk : ∀ p : Addr, p.block < B → w'.cell? p = wr.cell? p := fun p hp => (hb.cell (Nat.lt_of_lt_of_le hp hB)).trans (hlow.cell (Nat.lt_of_lt_of_le hp hB)).symm
        exact ⟨xa.keep (Nat.le_refl _) hk, xb.keep (Nat.le_refl _) hk, pb.keep (Nat.le_refl _) hk, pe.keep (Nat.le_refl _) hk⟩
      have hQQ := Lib.hid hQ
      have HPR := Lib.hid pr0
      have n63 : k + 1 ≤ maxLen := by unfold maxLen; omega
      have n47 : (k + 1) * 184 ≤ 140737488355328 := by omega
      have hm1 : m1 ≤ 549755813888 := by omega
      have hL1 : L1.length ≤ 274877906944 := by omega
      obtain ⟨zn, hzn⟩ : ∃ zn : ByteArray, zn = Ex.ba (Sr.vn m1) := ⟨_, rfl⟩
      have HZN := Lib.hid hzn
      have hIt : ∀ w', Pow w'.heap.size w' → Calls Tryd.prog 117 #[.int .i64 (m1 : Int)] w' fun e w'' => ∃ t : ByteArray, (e = .returned (.string t) ∧ (⟨#[118]⟩ : ByteArray) ++ t = zn ∧ ¬ 9223372036854775807 < 1 + t.size) ∧ Below w'.heap.size w' w'' := fun w' hP => by
        refine (Tryd.strconv_Itoa (m1 : Int) (by omega) (by omega) w' hP.here).mono ?_
        rintro r w1 ⟨rfl, k, os, hw1⟩
        refine ⟨⟨(Lib.itoa (m1 : Int)).toArray⟩, ⟨rfl, by rw [hzn, Lib.itoa_nonneg]; rfl, ?_⟩, by rw [hw1]; exact Lib.below_grow _ _ (Nat.le_refl _) _ _⟩
        have h1 := Lib.itoa_length_le (m1 : Int) (by omega) (by omega)
        have h2 : (⟨(Lib.itoa (m1 : Int)).toArray⟩ : ByteArray).size = (Lib.itoa (m1 : Int)).length := by simp [ByteArray.size]
        omega
      clear hres hm2 hqs hqm hqn hs hz hN hrow hdone hlow hq hq0 hcell pr pr0 hQ xa xb pb pe hzn
      unfold stcells xcells at R0 hbA N0
      simp only [List.cons_append, List.nil_append] at R0 hbA N0
      go_upto_region 6 with (fail)
      rw [← hQQ.out]
      generalize ((wr.alloc (.cells #[.int .i64 kd, .string nm, .int .i64 ak, .int .i64 an, .string sa, .slice aA al ac, .int .i64 bk, .int .i64 bn, .string sb, .slice bA bl bc, .slice D dl dc, .slice E el ec] 40)).alloc (.cells #[.int .i64 kd, .string ⟨#[]⟩, .int .i64 0, .int .i64 0, .string ⟨#[]⟩, .slice none 0 0, .int .i64 0, .int .i64 0, .string ⟨#[]⟩, .slice none 0 0, .slice none 0 0, .slice none 0 0] 40)) = W0 at R0 hbA N0 ⊢
      clear c0 c1 c2 c3 c4 c5 c6 c7 c8 c9 c10 c11 hbA
      have keepS : ∀ w', Below W0.heap.size W0 w' → (Below W0.heap.size W0 w' ∧ w'.cell? ⟨Q, 1, none⟩ = some (.string nm)) := fun w' hb => ⟨hb, ((R0.src.below hb).cell 1).trans rfl⟩
      have gI : ∀ w', Below W0.heap.size W0 w' → Calls Tryd.prog 117 #[.int .i64 (m1 : Int)] w' fun e w'' => ∃ v, e = .returned v ∧ (FIt zn).holds v w'' ∧ Below w'.heap.size w' w'' := fun w' hb => by
        refine (hIt w' ?_).mono ?_
        · have h1 := R0.low.trans (hb.mono R0.low.size)
          exact pow_up (HO0.out.2.1.later (h1.mono HO0.out.1)) (Nat.le_trans HO0.out.1 h1.size)
        · rintro r w'' ⟨t, ⟨rfl, h1, h2⟩, hb2⟩
          exact ⟨_, rfl, ⟨t, rfl, h1, h2⟩, hb2⟩
      have hS0 := keepS _ (below_drew (Below.refl _ _))
      go_wp2_with fail
      refine wp_walk_tail 8 (by kernel_rfl) (by kernel_rfl) (fun w w' => Below w.heap.size w w') (fun w' => (Below W0.heap.size W0 w' ∧ w'.cell? ⟨Q, 1, none⟩ = some (.string nm))) hS0 ?_
      simp only [List.length_cons, List.length_nil, Nat.reduceAdd, Nat.reduceSub, List.take_succ_cons, List.take_zero, List.drop_succ_cons, List.drop_zero]
      repeat (first | (refine settle_skip (fun _ => by rfl) ?_; (simp only [Act.put, List.setIfInBounds_toArray, List.set_cons_zero, List.set_cons_succ])) | (refine' settle_run (fun _ _ => Below.refl _ _) (fun _ => by rfl) ?_ ?_; rotate_left; (focus (intro ρ w hS hF; (try dsimp only at hS); go_split_ands; go_simp; try with_reducible rfl)); (simp only [Act.put, List.setIfInBounds_toArray, List.set_cons_zero, List.set_cons_succ])))
      (refine settle_known (FIt zn) (by rfl) (fun _ => by rfl)  ?_ ?_; (focus (intro ρ w hS hF K hK; (simp only [Act.put, List.setIfInBounds_toArray, List.set_cons_zero, List.set_cons_succ] at hK); go_simp; (refine (gI _ hS.1).mono ?_; rintro e w' ⟨v, rfl, hF', hb'⟩; exact hK _ _ hF' (keepS _ (below_next hb' hS.1)) hb'))); (simp only [Act.put, List.setIfInBounds_toArray, List.set_cons_zero, List.set_cons_succ]))
      repeat (first | (refine settle_skip (fun _ => by rfl) ?_; (simp only [Act.put, List.setIfInBounds_toArray, List.set_cons_zero, List.set_cons_succ])) | (refine' settle_run (fun _ _ => Below.refl _ _) (fun _ => by rfl) ?_ ?_; rotate_left; (focus (intro ρ w hS hF; (try dsimp only at hS); go_split_ands; go_simp; try with_reducible rfl)); (simp only [Act.put, List.setIfInBounds_toArray, List.set_cons_zero, List.set_cons_succ])))
      (refine settle_known (FIs (.string zn)) (by rfl) (fun _ => by rfl)  ?_ ?_; (focus (intro ρ w hS hF K hK; (simp only [Act.put, List.setIfInBounds_toArray, List.set_cons_zero, List.set_cons_succ] at hK); go_simp; (obtain ⟨t, e, h1, h2⟩ := hF.1 (by rfl); simp only [e]; have hK2 := hK (.string zn) w rfl hS (Below.refl _ _); simp only [e] at hK2; go_simp; exact hK2))); (simp only [Act.put, List.setIfInBounds_toArray, List.set_cons_zero, List.set_cons_succ]))
      repeat (first | (refine settle_skip (fun _ => by rfl) ?_; (simp only [Act.put, List.setIfInBounds_toArray, List.set_cons_zero, List.set_cons_succ])) | (refine' settle_run (fun _ _ => Below.refl _ _) (fun _ => by rfl) ?_ ?_; rotate_left; (focus (intro ρ w hS hF; (try dsimp only at hS); go_split_ands; go_simp; try with_reducible rfl)); (simp only [Act.put, List.setIfInBounds_toArray, List.set_cons_zero, List.set_cons_succ])))
      (refine settle_known (FIs (.agg #[.string nm, .string zn])) (by rfl) (fun _ => by rfl)  ?_ ?_; (focus (intro ρ w hS hF K hK; (simp only [Act.put, List.setIfInBounds_toArray, List.set_cons_zero, List.set_cons_succ] at hK); go_simp; (have e : _ = Value.string zn := hF.1 (by rfl); simp only [e]; have hK2 := hK (.agg #[.string nm, .string zn]) w rfl hS (Below.refl _ _); simp only [e] at hK2; go_simp; exact hK2))); (simp only [Act.put, List.setIfInBounds_toArray, List.set_cons_zero, List.set_cons_succ]))
      repeat (first | (refine settle_skip (fun _ => by rfl) ?_; (simp only [Act.put, List.setIfInBounds_toArray, List.set_cons_zero, List.set_cons_succ])) | (refine' settle_run (fun _ _ => Below.refl _ _) (fun _ => by rfl) ?_ ?_; rotate_left; (focus (intro ρ w hS hF; (try dsimp only at hS); go_split_ands; go_simp; try with_reducible rfl)); (simp only [Act.put, List.setIfInBounds_toArray, List.set_cons_zero, List.set_cons_succ])))
      (refine settle_known (FPair W0.heap.size [.string nm, .string zn]) (by rfl) (fun _ => by rfl)  ?_ ?_; (focus (intro ρ w hS hF K hK; (simp only [Act.put, List.setIfInBounds_toArray, List.set_cons_zero, List.set_cons_succ] at hK); go_simp; (have e : _ = Value.agg #[.string nm, .string zn] := hF.1 (by rfl); simp only [e]; go_simp; have hbl : Below w.heap.size w (w.alloc (.cells #[.string nm, .string zn] 173)) := below_alloc (Below.refl _ _) _; have hK2 := hK _ _ ⟨w.heap.size, rfl, own_lit w W0.heap.size 173 2 1 [.string nm, .string zn] hS.1.size (by decide) rfl⟩ (keepS _ (hS.1.alloc hS.1.size _)) hbl; simp only [e] at hK2; exact hK2))); (simp only [Act.put, List.setIfInBounds_toArray, List.set_cons_zero, List.set_cons_succ]))
      repeat (first | (refine settle_skip (fun _ => by rfl) ?_; (simp only [Act.put, List.setIfInBounds_toArray, List.set_cons_zero, List.set_cons_succ])) | (refine' settle_run (fun _ _ => Below.refl _ _) (fun _ => by rfl) ?_ ?_; rotate_left; (focus (intro ρ w hS hF; (try dsimp only at hS); go_split_ands; go_simp; try with_reducible rfl)); (simp only [Act.put, List.setIfInBounds_toArray, List.set_cons_zero, List.set_cons_succ])))
      refine settle_nil ?_
      intro ρ w1 hS hF
      obtain ⟨g1, e28, hrow1⟩ := hF 28 (FPair W0.heap.size [.string nm, .string zn]) (by repeat (first | exact List.mem_cons_self | apply List.mem_cons_of_mem))
      have hb1 := hS.1
      have R1 := R0.below hb1
      have N1 := N0.later hb1
      clear hF hS hS0 keepS gI hIt
      dsimp only
      rw [e28] at hrow1 ⊢
      clear e28
      obtain ⟨A1, c1', rfl, hle1, hmx1, hlen1, hcc1⟩ := id N1.sl
      have h63 : 1 + L1.length ≤ maxLen := by unfold maxLen; omega
      have h47 : (1 + L1.length) * 32 ≤ 140737488355328 := by omega
      have hlb := hb1.size
      have HB1 := Lib.hid hb1
      have HR0 := Lib.hid (And.intro R0 N0)
      clear hb1 R0 N0 R1 N1
      go_upto_region 7 with (first | (at_builtin; refine wp_append _ _ _ W0.heap.size _ _ _ _ _ Tryd.underlying170 info_lname rfl (by decide) hrow1 hcc1 hlen1 (lncs_one _) h63 h47 hlb rfl rfl rfl rfl ?_; intro v2 w2 hown2 hg2 hv2 hb2) | fail)
      obtain ⟨R0, N0⟩ := HR0.out
      have hb02 := HB1.out.trans hb2
      have R2 := R0.below hb02
      have N2 := N0.later hb02
      have V2 : NmAt (Ot u8 Q) w2 v2 ((nm, zn) :: L1) := by
        refine ⟨?_, fun b hb => (hown2.lt b hb).2, fun b hb hO => ?_⟩
        · have := SlV.of_own hown2
          rw [Nat.add_comm] at this
          exact this
        · have h1 := (hown2.lt b hb).1
          rcases hO with h2 | h2
          · have := (R0.row.lt b h2).2
            omega
          · have := R0.cur.lt
            omega
      obtain ⟨A2, c2', e2, hle2, hmx2, hlen2, hcc2⟩ := id V2.sl
      obtain ⟨b2, o2, rfl, hbl2, hcell2⟩ := hcc2.at_ (by simp [lncs, lnc])
      have cz : w2.cell? ⟨b2, o2 + 1, none⟩ = some (.string zn) := hcell2 1 _ rfl
      have hP2 : Pow w2.heap.size w2 := pow_up (HO0.out.2.1.later (R2.low.mono HO0.out.1)) (Nat.le_trans HO0.out.1 R2.low.size)
      obtain ⟨N12, hN12⟩ : ∃ N12, N12 = ((nm, zn) :: L1).length := ⟨_, rfl⟩
      have hN0 : 0 < N12 := by rw [hN12]; simp
      rw [← hN12] at e2
      subst e2
      have HN12 := Lib.hid hN12
      clear hown2 hg2 hv2 hb2 hb02 hcell2 hcc2 hlen2 hrow1 hcc1 hlen1 h63 h47 hlb HR0 R0 N0 hN12 hle1 hmx1

      have gX : ∀ (w' : World) (cs : List Value) (e : Ex.X), Below w2.heap.size w2 w' → XR B w' cs e → Calls Tryd.prog 118 #[.agg cs.toArray, .slice A1 L1.length c1'] w' fun r w'' => ∃ v, r = .returned v ∧ (FNS (fun b => w2.heap.size ≤ b) (Sr.rnx (Lnm.en L1) e)).holds v w'' ∧ Below w'.heap.size w' w'' := fun w' cs e hb hx => by
        have h1 := R2.low.size
        have h2 := hb.size
        refine (lexpr_any e w' cs _ L1 (hx.up (Nat.le_trans HO0.out.1 (by omega))) (N2.later hb).sl (by omega)).mono ?_
        rintro r w'' ⟨cs', rfl, h3, h4⟩
        exact ⟨_, rfl, ⟨cs', rfl, h3.imp fun b _ hb2 => Nat.le_trans hb.size hb2⟩, h4⟩
      have gA := fun w' hb => gX w' _ ea hb (hIN w' (R2.below hb).low).1
      have gB := fun w' hb => gX w' _ eb hb (hIN w' (R2.below hb).low).2.1
      have gL : ∀ (q : St.P) (D : Option Addr) (dl dc : Nat) (vv : Value) (L2 : Lnm) (m2 : Nat) (w' : World), q.size < p.size → PR B w' D dl q → dl ≤ dc → dc ≤ maxLen → NmAt (Ot u8 Q) w' vv L2 → Below w.heap.size w w' → L2.length + q.size ≤ 274877906944 → m2 + q.size ≤ 549755813888 → q.size ≤ 274877906944 →
          Calls Tryd.prog 80 #[.slice D dl dc, vv, .int .i64 (m2 : Int)] w' fun e w'' => ∃ D1 l1 k1, e = .returned (.tuple #[.slice D1 l1 k1, .int .i64 (((Sr.rn Sr.vn q (Lnm.en L2) m2).2 : Nat) : Int)]) ∧ SP (fun b => w'.heap.size ≤ b) w'' (.slice D1 l1 k1) (Sr.rn Sr.vn q (Lnm.en L2) m2).1 ∧ Below w'.heap.size w' w'' := fun q D dl dc vv L2 m2 w' hq hp hd1 hd2 hN hl h1 h2 h3 => by
        refine (ih q hq w' B dl dc D vv L2 m2 (Nat.le_trans HO0.out.1 hl.size) hp hd1 hd2 hN.sl hN.lt (HO0.out.2.1.later (hl.mono HO0.out.1)) h3 h1 h2).mono ?_
        rintro r w'' ⟨u, rfl, h4, h5⟩
        obtain ⟨D1, l1, k1, rfl, -⟩ := id h4
        exact ⟨D1, l1, k1, rfl, h4, h5⟩
      clear gX
      unfold xcells at gA gB
      rcases fr_kinds kd with rfl | rfl | rfl | rfl | rfl | rfl | rfl | ⟨k1, k2, k3, k4, k5, k6, k7⟩
      · have keepS : ∀ w' w'', (Keeps (fun b => b = Q + 1) w2 w' ∧ w'.cell? ⟨Q, 2, none⟩ = some (.int .i64 ak) ∧ w'.cell? ⟨Q, 3, none⟩ = some (.int .i64 an) ∧ w'.cell? ⟨Q, 4, none⟩ = some (.string sa) ∧ w'.cell? ⟨Q, 5, none⟩ = some (.slice aA al ac) ∧ w'.cell? ⟨b2, o2 + 1, none⟩ = some (.string zn)) → Below w'.heap.size w' w'' → (Keeps (fun b => b = Q + 1) w2 w'' ∧ w''.cell? ⟨Q, 2, none⟩ = some (.int .i64 ak) ∧ w''.cell? ⟨Q, 3, none⟩ = some (.int .i64 an) ∧ w''.cell? ⟨Q, 4, none⟩ = some (.string sa) ∧ w''.cell? ⟨Q, 5, none⟩ = some (.slice aA al ac) ∧ w''.cell? ⟨b2, o2 + 1, none⟩ = some (.string zn)) := fun w' w'' h hb => by
          have hc : ∀ {p : Addr} {v : Value}, w'.cell? p = some v → w''.cell? p = some v := fun h => (hb.cell (World.block_lt_of_cell? w' _ h)).trans h
          exact ⟨h.1.trans (Keeps.of_below hb _), hc h.2.1, hc h.2.2.1, hc h.2.2.2.1, hc h.2.2.2.2.1, hc h.2.2.2.2.2⟩
        have putS : ∀ w' w'', (Keeps (fun b => b = Q + 1) w2 w' ∧ w'.cell? ⟨Q, 2, none⟩ = some (.int .i64 ak) ∧ w'.cell? ⟨Q, 3, none⟩ = some (.int .i64 an) ∧ w'.cell? ⟨Q, 4, none⟩ = some (.string sa) ∧ w'.cell? ⟨Q, 5, none⟩ = some (.slice aA al ac) ∧ w'.cell? ⟨b2, o2 + 1, none⟩ = some (.string zn)) → w'.grownBy w'' (some (Q + 1)) → (Keeps (fun b => b = Q + 1) w2 w'' ∧ w''.cell? ⟨Q, 2, none⟩ = some (.int .i64 ak) ∧ w''.cell? ⟨Q, 3, none⟩ = some (.int .i64 an) ∧ w''.cell? ⟨Q, 4, none⟩ = some (.string sa) ∧ w''.cell? ⟨Q, 5, none⟩ = some (.slice aA al ac) ∧ w''.cell? ⟨b2, o2 + 1, none⟩ = some (.string zn)) := fun w' w'' h hg => by
          have hk : Keeps (fun b => b = Q + 1) w' w'' := (Keeps.of_grown hg).mono (fun i hi => by injection hi)
          have hb2o : b2 ≠ Q + 1 := fun e => V2.off b2 rfl (.inr e)
          have hc : ∀ {p : Addr} {v : Value}, w'.cell? p = some v → p.block ≠ Q + 1 → w''.cell? p = some v := fun h hp => hk.cell h hp
          exact ⟨h.1.trans hk, hc h.2.1 (by simp), hc h.2.2.1 (by simp), hc h.2.2.2.1 (by simp), hc h.2.2.2.2.1 (by simp), hc h.2.2.2.2.2 hb2o⟩
        have gA' : ∀ w', (Keeps (fun b => b = Q + 1) w2 w' ∧ w'.cell? ⟨Q, 2, none⟩ = some (.int .i64 ak) ∧ w'.cell? ⟨Q, 3, none⟩ = some (.int .i64 an) ∧ w'.cell? ⟨Q, 4, none⟩ = some (.string sa) ∧ w'.cell? ⟨Q, 5, none⟩ = some (.slice aA al ac) ∧ w'.cell? ⟨b2, o2 + 1, none⟩ = some (.string zn)) → Calls Tryd.prog 118 #[.agg #[.int .i64 ak, .int .i64 an, .string sa, .slice aA al ac], .slice A1 L1.length c1'] w' fun r w'' => ∃ v, r = .returned v ∧ (FNS (fun b => w2.heap.size ≤ b) (Sr.rnx (Lnm.en L1) ea)).holds v w'' ∧ Below w'.heap.size w' w'' := fun w' h => by
          have hl : Below w.heap.size w w' := R2.low.trans (h.1.below R2.low.size fun i hi => by have := R2.hi; omega)
          have hsz := h.1.size
          refine (lexpr_any ea w' (xcells ak an sa aA al ac) _ L1 ((hIN w' hl).1.up (Nat.le_trans HO0.out.1 hl.size)) (N2.turned h.1).sl (by omega)).mono ?_
          rintro r w'' ⟨cs', rfl, h3, h4⟩
          exact ⟨_, rfl, ⟨cs', rfl, h3.imp fun b _ hb2 => Nat.le_trans hsz hb2⟩, h4⟩
        have hS0 : (Keeps (fun b => b = Q + 1) w2 w2.drew ∧ w2.drew.cell? ⟨Q, 2, none⟩ = some (.int .i64 ak) ∧ w2.drew.cell? ⟨Q, 3, none⟩ = some (.int .i64 an) ∧ w2.drew.cell? ⟨Q, 4, none⟩ = some (.string sa) ∧ w2.drew.cell? ⟨Q, 5, none⟩ = some (.slice aA al ac) ∧ w2.drew.cell? ⟨b2, o2 + 1, none⟩ = some (.string zn)) := by
          have hq := R2.src
          exact ⟨(Keeps.refl _ _).drewN 1, (hq.cell 2).trans rfl, (hq.cell 3).trans rfl, (hq.cell 4).trans rfl, (hq.cell 5).trans rfl, cz⟩
        have hI0 : Blk w2.drew (Q + 1) 40 [.int .i64 1, .string ⟨#[]⟩, .int .i64 0, .int .i64 0, .string ⟨#[]⟩, .slice none 0 0, .int .i64 0, .int .i64 0, .string ⟨#[]⟩, .slice none 0 0, .slice none 0 0, .slice none 0 0] := R2.cur
        have fresh : ∀ w' ca, w2.heap.size ≤ w'.heap.size → NS (fun b => w2.heap.size ≤ b) w' ca (Sr.rnx (Lnm.en L1) ea) → XS (Sl w.heap.size Q u8) w' ca (Sr.rnx (Lnm.en L1) ea) := fun w' ca _ hx => R2.fresh_x hx
        have s0 := (R2.src.cell 0).trans rfl
        simp only [List.getElem?_cons_zero] at s0
        have HR2 := Lib.hid (And.intro R2 (And.intro N2 V2))
        clear R2 N2 V2 cz
        go_wp2_with fail
        clear s0
        refine wp_walk_pg 16 (fun i => ([12,14] : List Nat).contains i) (fun i => ([4,5,6,7,8,9,10] : List Nat).contains i) [12,14] (by intro m h; simpa using h) (by kernel_rfl) (by kernel_rfl) (by kernel_rfl) [39] (by kernel_rfl) (fun w w' => Below w.heap.size w w') (fun _ _ => True) (fun w' => (Keeps (fun b => b = Q + 1) w2 w' ∧ w'.cell? ⟨Q, 2, none⟩ = some (.int .i64 ak) ∧ w'.cell? ⟨Q, 3, none⟩ = some (.int .i64 an) ∧ w'.cell? ⟨Q, 4, none⟩ = some (.string sa) ∧ w'.cell? ⟨Q, 5, none⟩ = some (.slice aA al ac) ∧ w'.cell? ⟨b2, o2 + 1, none⟩ = some (.string zn))) (fun c ρ w' => match c with | 0 => Blk w' (Q + 1) 40 [.int .i64 1, .string ⟨#[]⟩, .int .i64 0, .int .i64 0, .string ⟨#[]⟩, .slice none 0 0, .int .i64 0, .int .i64 0, .string ⟨#[]⟩, .slice none 0 0, .slice none 0 0, .slice none 0 0] | 1 => LI w.heap.size Q u8 (fun ca => stcells 1 ⟨#[]⟩ ca (xcells 0 0 ⟨#[]⟩ none 0 0) none 0 0 none 0 0) (Sr.rnx (Lnm.en L1) ea) (ρ 39) w' | _ + 2 => LI w.heap.size Q u8 (fun ca => stcells 1 zn ca (xcells 0 0 ⟨#[]⟩ none 0 0) none 0 0 none 0 0) (Sr.rnx (Lnm.en L1) ea) (ρ 39) w') hS0 (fun _ => hI0) (fun c ρ w w' h k => match c, h with | 0, h => h.below k | 1, h => LI.step h k | _ + 2, h => LI.step h k) (fun _ _ _ h => h) (fun c ρ ρ' w h k => match c, k with | 0, k => k | 1, k => LI.cong k (h 39 (by simp)) | _ + 2, k => LI.cong k (h 39 (by simp))) ?_
        simp only [List.length_cons, List.length_nil, Nat.reduceAdd, Nat.reduceSub, List.take_succ_cons, List.take_zero, List.drop_succ_cons, List.drop_zero]
        repeat (first | (refine gsettle_skip (by rfl) (fun _ => by rfl) ?_; (simp only [Act.put, List.setIfInBounds_toArray, List.set_cons_zero, List.set_cons_succ])) | (refine' gsettle_run (by rfl) (fun _ _ => Below.refl _ _) (fun _ => by rfl) ?_ ?_; rotate_left; (focus (intro ρ w hS hF hP hU; (try dsimp only at hS); go_split_ands; go_simp; try with_reducible rfl)); (simp only [Act.put, List.setIfInBounds_toArray, List.set_cons_zero, List.set_cons_succ])))
        (refine gsettle_known (FNS (fun b ↦ w2.heap.size ≤ b) (Sr.rnx (Lnm.en L1) ea)) (by rfl) (by rfl) (by rfl) (fun _ => by rfl)  ?_ ?_; (focus (intro ρ w hS hF hP hU K hK; (simp only [Act.put, List.setIfInBounds_toArray, List.set_cons_zero, List.set_cons_succ] at hK); go_simp; (refine (gA' _ hS).mono ?_; rintro e w' ⟨v, rfl, hF', hb'⟩; exact hK _ _ hF' (keepS _ _ hS hb') hb'))); (simp only [Act.put, List.setIfInBounds_toArray, List.set_cons_zero, List.set_cons_succ]))
        repeat (first | (refine gsettle_skip (by rfl) (fun _ => by rfl) ?_; (simp only [Act.put, List.setIfInBounds_toArray, List.set_cons_zero, List.set_cons_succ])) | (refine' gsettle_run (by rfl) (fun _ _ => Below.refl _ _) (fun _ => by rfl) ?_ ?_; rotate_left; (focus (intro ρ w hS hF hP hU; (try dsimp only at hS); go_split_ands; go_simp; try with_reducible rfl)); (simp only [Act.put, List.setIfInBounds_toArray, List.set_cons_zero, List.set_cons_succ])))
        (refine gsettle_turn (v := undef) (by rfl) (fun _ => by rfl) ?_ ?_; (focus (intro ρ w hS hF hP hU K hK; (simp only [Act.put, List.setIfInBounds_toArray, List.set_cons_zero, List.set_cons_succ] at hK); (obtain ⟨ca, e39, hxa⟩ := hF.1 (by rfl); have hB := hP (by rfl); obtain ⟨y0, y1, y2, Y3, y4, y5, rfl, -, -⟩ := XRN.form hxa; refine wp_store_at hB 2 4 [.int .i64 y0, .int .i64 y1, .string y2, .slice Y3 y4 y5] (by kernel_rfl) rfl (by simp) (xcells_one _ _ _ _ _ _) rfl rfl e39 ?_; intro w5 hB5 hg5; exact hK _ (putS _ _ hS hg5) ⟨y0, y1, y2, Y3, y4, y5, e39, (fresh _ _ hS.1.size hxa).put hg5, hB5⟩ trivial))); (simp only [Act.put, List.setIfInBounds_toArray, List.set_cons_zero, List.set_cons_succ]))
        repeat (first | (refine gsettle_skip (by rfl) (fun _ => by rfl) ?_; (simp only [Act.put, List.setIfInBounds_toArray, List.set_cons_zero, List.set_cons_succ])) | (refine' gsettle_run (by rfl) (fun _ _ => Below.refl _ _) (fun _ => by rfl) ?_ ?_; rotate_left; (focus (intro ρ w hS hF hP hU; (try dsimp only at hS); go_split_ands; go_simp; try with_reducible rfl)); (simp only [Act.put, List.setIfInBounds_toArray, List.set_cons_zero, List.set_cons_succ])))
        (refine gsettle_turn (v := undef) (by rfl) (fun _ => by rfl) ?_ ?_; (focus (intro ρ w hS hF hP hU K hK; (simp only [Act.put, List.setIfInBounds_toArray, List.set_cons_zero, List.set_cons_succ] at hK); (obtain ⟨y0, y1, y2, Y3, y4, y5, e39, hxa, hB⟩ := hP (by rfl); refine wp_set_at hB 1 (.string zn) (by kernel_rfl) (by simp [stcells, xcells]) rfl rfl rfl rfl rfl ?_; intro w5 hB5 hg5; exact hK _ (putS _ _ hS hg5) ⟨y0, y1, y2, Y3, y4, y5, e39, hxa.put hg5, hB5⟩ trivial))); (simp only [Act.put, List.setIfInBounds_toArray, List.set_cons_zero, List.set_cons_succ]))
        repeat (first | (refine gsettle_skip (by rfl) (fun _ => by rfl) ?_; (simp only [Act.put, List.setIfInBounds_toArray, List.set_cons_zero, List.set_cons_succ])) | (refine' gsettle_run (by rfl) (fun _ _ => Below.refl _ _) (fun _ => by rfl) ?_ ?_; rotate_left; (focus (intro ρ w hS hF hP hU; (try dsimp only at hS); go_split_ands; go_simp; try with_reducible rfl)); (simp only [Act.put, List.setIfInBounds_toArray, List.set_cons_zero, List.set_cons_succ])))
        refine gsettle_nil ?_
        intro ρ w3 hS hI hF hG
        obtain ⟨R2, N2, V2⟩ := HR2.out
        obtain ⟨y0, y1, y2, Y3, y4, y5, -, za3, hB3⟩ := hI
        have R3 := R2.turned hS.1 hB3
        have V3 := V2.turned hS.1
        clear hF hS hS0 hI0 hG keepS putS gA gA' gB gL fresh hB3 HR2 R2 N2 V2
        dsimp only
        unfold stcells xcells at R3
        unfold xcells at za3
        simp only [List.cons_append, List.nil_append] at R3
        go_wp2_with (first | (refine wpl_get_blk (ty := 40) R3.cur (by kernel_rfl) (by kernel_rfl) rfl rfl rfl ?_) | (at_builtin; refine wp_push w3 _ _ w.heap.size _ _ _ _ _ Tryd.underlying34 info_stmt rfl (by decide) R3.row [.int .i64 1, .string zn, .int .i64 y0, .int .i64 y1, .string y2, .slice Y3 y4 y5, .int .i64 0, .int .i64 0, .string ⟨#[]⟩, .slice none 0 0, .slice none 0 0, .slice none 0 0] rfl (lst_one _ _ _ _ _ _ _ _ _ _ _ _ _ _ _ _ _ _ _ _) n63 n47 R3.low.size rfl rfl rfl rfl ?_; intro v7 w7 hown7 hg7 hv7 hb7) | fail)
        obtain ⟨f2, f3, f4⟩ := R3.finish V3 rfl za3 XS.zero SP.nil SP.nil hg7 hv7 hb7
        have HE := Lib.hid (And.intro hown7 (And.intro f2 (And.intro f3 f4)))
        clear f2 f3 f4 hown7 hg7 hv7 hb7
        try go_wp2_with fail
        go_roundw
        case rel =>
          obtain ⟨f1, f2, f3, f4⟩ := HE.out
          have hzd : zn.data.toList = Sr.vn m1 := by rw [HZN.out]; simp [Ex.ba]
          refine ⟨k + 1, rest, _, _, ((nm, zn) :: L1), (m1 + 1), by omega, by go_num, by first | rfl | go_num, by rw [show n - (k + 1) = n - k - 1 by omega]; exact HPR.out, f4, f1, f2, f3, ?_, ?_, ?_, ?_, ?_⟩
          · rw [← HQ.out.1, St.P.append_assoc, St.P.cons_append, St.P.nil_append]
            simp [Sr.rn, Lnm.en_cons, hzd]
          · rw [← HQ.out.2.1]
            simp [Sr.rn, Lnm.en_cons, hzd]
          · exact HQ.out.2.2.2.2.2.1.2.2
          · have := HQ.out.2.2.2.1
            rw [St.P.size] at this
            first | omega | (simp only [List.length_cons]; omega)
          · have := HQ.out.2.2.2.2.1
            rw [St.P.size] at this
            have hr1 := Sr.rn_le body
            have hr2 := Sr.rn_le els
            first | omega | (have h1 := hr1 (Lnm.en L1) m1; first | omega | (have h2 := hr2 (Lnm.en L1) (Sr.rn Sr.vn body (Lnm.en L1) m1).2; omega) | (have h2 := hr2 (Lnm.en L1) m2; omega) | (have h2 := hr1 (Lnm.en ((nm, zn) :: L1)) (m1 + 1); omega))
        case measure => simp [intOf]; omega
      · have keepS : ∀ w' w'', (Keeps (fun b => b = Q + 1) w2 w' ∧ w'.cell? ⟨Q, 2, none⟩ = some (.int .i64 ak) ∧ w'.cell? ⟨Q, 3, none⟩ = some (.int .i64 an) ∧ w'.cell? ⟨Q, 4, none⟩ = some (.string sa) ∧ w'.cell? ⟨Q, 5, none⟩ = some (.slice aA al ac) ∧ w'.cell? ⟨b2, o2 + 1, none⟩ = some (.string zn)) → Below w'.heap.size w' w'' → (Keeps (fun b => b = Q + 1) w2 w'' ∧ w''.cell? ⟨Q, 2, none⟩ = some (.int .i64 ak) ∧ w''.cell? ⟨Q, 3, none⟩ = some (.int .i64 an) ∧ w''.cell? ⟨Q, 4, none⟩ = some (.string sa) ∧ w''.cell? ⟨Q, 5, none⟩ = some (.slice aA al ac) ∧ w''.cell? ⟨b2, o2 + 1, none⟩ = some (.string zn)) := fun w' w'' h hb => by
          have hc : ∀ {p : Addr} {v : Value}, w'.cell? p = some v → w''.cell? p = some v := fun h => (hb.cell (World.block_lt_of_cell? w' _ h)).trans h
          exact ⟨h.1.trans (Keeps.of_below hb _), hc h.2.1, hc h.2.2.1, hc h.2.2.2.1, hc h.2.2.2.2.1, hc h.2.2.2.2.2⟩
        have putS : ∀ w' w'', (Keeps (fun b => b = Q + 1) w2 w' ∧ w'.cell? ⟨Q, 2, none⟩ = some (.int .i64 ak) ∧ w'.cell? ⟨Q, 3, none⟩ = some (.int .i64 an) ∧ w'.cell? ⟨Q, 4, none⟩ = some (.string sa) ∧ w'.cell? ⟨Q, 5, none⟩ = some (.slice aA al ac) ∧ w'.cell? ⟨b2, o2 + 1, none⟩ = some (.string zn)) → w'.grownBy w'' (some (Q + 1)) → (Keeps (fun b => b = Q + 1) w2 w'' ∧ w''.cell? ⟨Q, 2, none⟩ = some (.int .i64 ak) ∧ w''.cell? ⟨Q, 3, none⟩ = some (.int .i64 an) ∧ w''.cell? ⟨Q, 4, none⟩ = some (.string sa) ∧ w''.cell? ⟨Q, 5, none⟩ = some (.slice aA al ac) ∧ w''.cell? ⟨b2, o2 + 1, none⟩ = some (.string zn)) := fun w' w'' h hg => by
          have hk : Keeps (fun b => b = Q + 1) w' w'' := (Keeps.of_grown hg).mono (fun i hi => by injection hi)
          have hb2o : b2 ≠ Q + 1 := fun e => V2.off b2 rfl (.inr e)
          have hc : ∀ {p : Addr} {v : Value}, w'.cell? p = some v → p.block ≠ Q + 1 → w''.cell? p = some v := fun h hp => hk.cell h hp
          exact ⟨h.1.trans hk, hc h.2.1 (by simp), hc h.2.2.1 (by simp), hc h.2.2.2.1 (by simp), hc h.2.2.2.2.1 (by simp), hc h.2.2.2.2.2 hb2o⟩
        have gA' : ∀ w', (Keeps (fun b => b = Q + 1) w2 w' ∧ w'.cell? ⟨Q, 2, none⟩ = some (.int .i64 ak) ∧ w'.cell? ⟨Q, 3, none⟩ = some (.int .i64 an) ∧ w'.cell? ⟨Q, 4, none⟩ = some (.string sa) ∧ w'.cell? ⟨Q, 5, none⟩ = some (.slice aA al ac) ∧ w'.cell? ⟨b2, o2 + 1, none⟩ = some (.string zn)) → Calls Tryd.prog 118 #[.agg #[.int .i64 ak, .int .i64 an, .string sa, .slice aA al ac], .slice A1 L1.length c1'] w' fun r w'' => ∃ v, r = .returned v ∧ (FNS (fun b => w2.heap.size ≤ b) (Sr.rnx (Lnm.en L1) ea)).holds v w'' ∧ Below w'.heap.size w' w'' := fun w' h => by
          have hl : Below w.heap.size w w' := R2.low.trans (h.1.below R2.low.size fun i hi => by have := R2.hi; omega)
          have hsz := h.1.size
          refine (lexpr_any ea w' (xcells ak an sa aA al ac) _ L1 ((hIN w' hl).1.up (Nat.le_trans HO0.out.1 hl.size)) (N2.turned h.1).sl (by omega)).mono ?_
          rintro r w'' ⟨cs', rfl, h3, h4⟩
          exact ⟨_, rfl, ⟨cs', rfl, h3.imp fun b _ hb2 => Nat.le_trans hsz hb2⟩, h4⟩
        have hS0 : (Keeps (fun b => b = Q + 1) w2 w2.drew ∧ w2.drew.cell? ⟨Q, 2, none⟩ = some (.int .i64 ak) ∧ w2.drew.cell? ⟨Q, 3, none⟩ = some (.int .i64 an) ∧ w2.drew.cell? ⟨Q, 4, none⟩ = some (.string sa) ∧ w2.drew.cell? ⟨Q, 5, none⟩ = some (.slice aA al ac) ∧ w2.drew.cell? ⟨b2, o2 + 1, none⟩ = some (.string zn)) := by
          have hq := R2.src
          exact ⟨(Keeps.refl _ _).drewN 1, (hq.cell 2).trans rfl, (hq.cell 3).trans rfl, (hq.cell 4).trans rfl, (hq.cell 5).trans rfl, cz⟩
        have hI0 : Blk w2.drew (Q + 1) 40 [.int .i64 2, .string ⟨#[]⟩, .int .i64 0, .int .i64 0, .string ⟨#[]⟩, .slice none 0 0, .int .i64 0, .int .i64 0, .string ⟨#[]⟩, .slice none 0 0, .slice none 0 0, .slice none 0 0] := R2.cur
        have fresh : ∀ w' ca, w2.heap.size ≤ w'.heap.size → NS (fun b => w2.heap.size ≤ b) w' ca (Sr.rnx (Lnm.en L1) ea) → XS (Sl w.heap.size Q u8) w' ca (Sr.rnx (Lnm.en L1) ea) := fun w' ca _ hx => R2.fresh_x hx
        have s0 := (R2.src.cell 0).trans rfl
        simp only [List.getElem?_cons_zero] at s0
        have HR2 := Lib.hid (And.intro R2 (And.intro N2 V2))
        clear R2 N2 V2 cz
        go_wp2_with fail
        clear s0
        refine wp_walk_pg 16 (fun i => ([12,14] : List Nat).contains i) (fun i => ([4,5,6,7,8,9,10] : List Nat).contains i) [12,14] (by intro m h; simpa using h) (by kernel_rfl) (by kernel_rfl) (by kernel_rfl) [39] (by kernel_rfl) (fun w w' => Below w.heap.size w w') (fun _ _ => True) (fun w' => (Keeps (fun b => b = Q + 1) w2 w' ∧ w'.cell? ⟨Q, 2, none⟩ = some (.int .i64 ak) ∧ w'.cell? ⟨Q, 3, none⟩ = some (.int .i64 an) ∧ w'.cell? ⟨Q, 4, none⟩ = some (.string sa) ∧ w'.cell? ⟨Q, 5, none⟩ = some (.slice aA al ac) ∧ w'.cell? ⟨b2, o2 + 1, none⟩ = some (.string zn))) (fun c ρ w' => match c with | 0 => Blk w' (Q + 1) 40 [.int .i64 2, .string ⟨#[]⟩, .int .i64 0, .int .i64 0, .string ⟨#[]⟩, .slice none 0 0, .int .i64 0, .int .i64 0, .string ⟨#[]⟩, .slice none 0 0, .slice none 0 0, .slice none 0 0] | 1 => LI w.heap.size Q u8 (fun ca => stcells 2 ⟨#[]⟩ ca (xcells 0 0 ⟨#[]⟩ none 0 0) none 0 0 none 0 0) (Sr.rnx (Lnm.en L1) ea) (ρ 39) w' | _ + 2 => LI w.heap.size Q u8 (fun ca => stcells 2 zn ca (xcells 0 0 ⟨#[]⟩ none 0 0) none 0 0 none 0 0) (Sr.rnx (Lnm.en L1) ea) (ρ 39) w') hS0 (fun _ => hI0) (fun c ρ w w' h k => match c, h with | 0, h => h.below k | 1, h => LI.step h k | _ + 2, h => LI.step h k) (fun _ _ _ h => h) (fun c ρ ρ' w h k => match c, k with | 0, k => k | 1, k => LI.cong k (h 39 (by simp)) | _ + 2, k => LI.cong k (h 39 (by simp))) ?_
        simp only [List.length_cons, List.length_nil, Nat.reduceAdd, Nat.reduceSub, List.take_succ_cons, List.take_zero, List.drop_succ_cons, List.drop_zero]
        repeat (first | (refine gsettle_skip (by rfl) (fun _ => by rfl) ?_; (simp only [Act.put, List.setIfInBounds_toArray, List.set_cons_zero, List.set_cons_succ])) | (refine' gsettle_run (by rfl) (fun _ _ => Below.refl _ _) (fun _ => by rfl) ?_ ?_; rotate_left; (focus (intro ρ w hS hF hP hU; (try dsimp only at hS); go_split_ands; go_simp; try with_reducible rfl)); (simp only [Act.put, List.setIfInBounds_toArray, List.set_cons_zero, List.set_cons_succ])))
        (refine gsettle_known (FNS (fun b ↦ w2.heap.size ≤ b) (Sr.rnx (Lnm.en L1) ea)) (by rfl) (by rfl) (by rfl) (fun _ => by rfl)  ?_ ?_; (focus (intro ρ w hS hF hP hU K hK; (simp only [Act.put, List.setIfInBounds_toArray, List.set_cons_zero, List.set_cons_succ] at hK); go_simp; (refine (gA' _ hS).mono ?_; rintro e w' ⟨v, rfl, hF', hb'⟩; exact hK _ _ hF' (keepS _ _ hS hb') hb'))); (simp only [Act.put, List.setIfInBounds_toArray, List.set_cons_zero, List.set_cons_succ]))
        repeat (first | (refine gsettle_skip (by rfl) (fun _ => by rfl) ?_; (simp only [Act.put, List.setIfInBounds_toArray, List.set_cons_zero, List.set_cons_succ])) | (refine' gsettle_run (by rfl) (fun _ _ => Below.refl _ _) (fun _ => by rfl) ?_ ?_; rotate_left; (focus (intro ρ w hS hF hP hU; (try dsimp only at hS); go_split_ands; go_simp; try with_reducible rfl)); (simp only [Act.put, List.setIfInBounds_toArray, List.set_cons_zero, List.set_cons_succ])))
        (refine gsettle_turn (v := undef) (by rfl) (fun _ => by rfl) ?_ ?_; (focus (intro ρ w hS hF hP hU K hK; (simp only [Act.put, List.setIfInBounds_toArray, List.set_cons_zero, List.set_cons_succ] at hK); (obtain ⟨ca, e39, hxa⟩ := hF.1 (by rfl); have hB := hP (by rfl); obtain ⟨y0, y1, y2, Y3, y4, y5, rfl, -, -⟩ := XRN.form hxa; refine wp_store_at hB 2 4 [.int .i64 y0, .int .i64 y1, .string y2, .slice Y3 y4 y5] (by kernel_rfl) rfl (by simp) (xcells_one _ _ _ _ _ _) rfl rfl e39 ?_; intro w5 hB5 hg5; exact hK _ (putS _ _ hS hg5) ⟨y0, y1, y2, Y3, y4, y5, e39, (fresh _ _ hS.1.size hxa).put hg5, hB5⟩ trivial))); (simp only [Act.put, List.setIfInBounds_toArray, List.set_cons_zero, List.set_cons_succ]))
        repeat (first | (refine gsettle_skip (by rfl) (fun _ => by rfl) ?_; (simp only [Act.put, List.setIfInBounds_toArray, List.set_cons_zero, List.set_cons_succ])) | (refine' gsettle_run (by rfl) (fun _ _ => Below.refl _ _) (fun _ => by rfl) ?_ ?_; rotate_left; (focus (intro ρ w hS hF hP hU; (try dsimp only at hS); go_split_ands; go_simp; try with_reducible rfl)); (simp only [Act.put, List.setIfInBounds_toArray, List.set_cons_zero, List.set_cons_succ])))
        (refine gsettle_turn (v := undef) (by rfl) (fun _ => by rfl) ?_ ?_; (focus (intro ρ w hS hF hP hU K hK; (simp only [Act.put, List.setIfInBounds_toArray, List.set_cons_zero, List.set_cons_succ] at hK); (obtain ⟨y0, y1, y2, Y3, y4, y5, e39, hxa, hB⟩ := hP (by rfl); refine wp_set_at hB 1 (.string zn) (by kernel_rfl) (by simp [stcells, xcells]) rfl rfl rfl rfl rfl ?_; intro w5 hB5 hg5; exact hK _ (putS _ _ hS hg5) ⟨y0, y1, y2, Y3, y4, y5, e39, hxa.put hg5, hB5⟩ trivial))); (simp only [Act.put, List.setIfInBounds_toArray, List.set_cons_zero, List.set_cons_succ]))
        repeat (first | (refine gsettle_skip (by rfl) (fun _ => by rfl) ?_; (simp only [Act.put, List.setIfInBounds_toArray, List.set_cons_zero, List.set_cons_succ])) | (refine' gsettle_run (by rfl) (fun _ _ => Below.refl _ _) (fun _ => by rfl) ?_ ?_; rotate_left; (focus (intro ρ w hS hF hP hU; (try dsimp only at hS); go_split_ands; go_simp; try with_reducible rfl)); (simp only [Act.put, List.setIfInBounds_toArray, List.set_cons_zero, List.set_cons_succ])))
        refine gsettle_nil ?_
        intro ρ w3 hS hI hF hG
        obtain ⟨R2, N2, V2⟩ := HR2.out
        obtain ⟨y0, y1, y2, Y3, y4, y5, -, za3, hB3⟩ := hI
        have R3 := R2.turned hS.1 hB3
        have V3 := V2.turned hS.1
        clear hF hS hS0 hI0 hG keepS putS gA gA' gB gL fresh hB3 HR2 R2 N2 V2
        dsimp only
        unfold stcells xcells at R3
        unfold xcells at za3
        simp only [List.cons_append, List.nil_append] at R3
        go_wp2_with (first | (refine wpl_get_blk (ty := 40) R3.cur (by kernel_rfl) (by kernel_rfl) rfl rfl rfl ?_) | (at_builtin; refine wp_push w3 _ _ w.heap.size _ _ _ _ _ Tryd.underlying34 info_stmt rfl (by decide) R3.row [.int .i64 2, .string zn, .int .i64 y0, .int .i64 y1, .string y2, .slice Y3 y4 y5, .int .i64 0, .int .i64 0, .string ⟨#[]⟩, .slice none 0 0, .slice none 0 0, .slice none 0 0] rfl (lst_one _ _ _ _ _ _ _ _ _ _ _ _ _ _ _ _ _ _ _ _) n63 n47 R3.low.size rfl rfl rfl rfl ?_; intro v7 w7 hown7 hg7 hv7 hb7) | fail)
        obtain ⟨f2, f3, f4⟩ := R3.finish V3 rfl za3 XS.zero SP.nil SP.nil hg7 hv7 hb7
        have HE := Lib.hid (And.intro hown7 (And.intro f2 (And.intro f3 f4)))
        clear f2 f3 f4 hown7 hg7 hv7 hb7
        try go_wp2_with fail
        go_roundw
        case rel =>
          obtain ⟨f1, f2, f3, f4⟩ := HE.out
          have hzd : zn.data.toList = Sr.vn m1 := by rw [HZN.out]; simp [Ex.ba]
          refine ⟨k + 1, rest, _, _, ((nm, zn) :: L1), (m1 + 1), by omega, by go_num, by first | rfl | go_num, by rw [show n - (k + 1) = n - k - 1 by omega]; exact HPR.out, f4, f1, f2, f3, ?_, ?_, ?_, ?_, ?_⟩
          · rw [← HQ.out.1, St.P.append_assoc, St.P.cons_append, St.P.nil_append]
            simp [Sr.rn, Lnm.en_cons, hzd]
          · rw [← HQ.out.2.1]
            simp [Sr.rn, Lnm.en_cons, hzd]
          · exact HQ.out.2.2.2.2.2.1.2.2
          · have := HQ.out.2.2.2.1
            rw [St.P.size] at this
            first | omega | (simp only [List.length_cons]; omega)
          · have := HQ.out.2.2.2.2.1
            rw [St.P.size] at this
            have hr1 := Sr.rn_le body
            have hr2 := Sr.rn_le els
            first | omega | (have h1 := hr1 (Lnm.en L1) m1; first | omega | (have h2 := hr2 (Lnm.en L1) (Sr.rn Sr.vn body (Lnm.en L1) m1).2; omega) | (have h2 := hr2 (Lnm.en L1) m2; omega) | (have h2 := hr1 (Lnm.en ((nm, zn) :: L1)) (m1 + 1); omega))
        case measure => simp [intOf]; omega
      · have keepS : ∀ w', Below w2.heap.size w2 w' → (Below w2.heap.size w2 w' ∧ w'.cell? ⟨Q, 2, none⟩ = some (.int .i64 ak) ∧ w'.cell? ⟨Q, 3, none⟩ = some (.int .i64 an) ∧ w'.cell? ⟨Q, 4, none⟩ = some (.string sa) ∧ w'.cell? ⟨Q, 5, none⟩ = some (.slice aA al ac) ∧ w'.cell? ⟨Q, 6, none⟩ = some (.int .i64 bk) ∧ w'.cell? ⟨Q, 7, none⟩ = some (.int .i64 bn) ∧ w'.cell? ⟨Q, 8, none⟩ = some (.string sb) ∧ w'.cell? ⟨Q, 9, none⟩ = some (.slice bA bl bc)) := fun w' hb => by
          have hq := R2.src.below hb
          exact ⟨hb, (hq.cell 2).trans rfl, (hq.cell 3).trans rfl, (hq.cell 4).trans rfl, (hq.cell 5).trans rfl, (hq.cell 6).trans rfl, (hq.cell 7).trans rfl, (hq.cell 8).trans rfl, (hq.cell 9).trans rfl⟩
        have hS0 := keepS _ (below_drew (Below.refl _ _))
        have s0 := (R2.src.cell 0).trans rfl
        simp only [List.getElem?_cons_zero] at s0
        have HR2 := Lib.hid (And.intro R2 (And.intro N2 V2))
        clear R2 N2 V2 cz
        go_wp2_with fail
        clear s0
        refine wp_walk_tail 9 (by kernel_rfl) (by kernel_rfl) (fun w w' => Below w.heap.size w w') (fun w' => (Below w2.heap.size w2 w' ∧ w'.cell? ⟨Q, 2, none⟩ = some (.int .i64 ak) ∧ w'.cell? ⟨Q, 3, none⟩ = some (.int .i64 an) ∧ w'.cell? ⟨Q, 4, none⟩ = some (.string sa) ∧ w'.cell? ⟨Q, 5, none⟩ = some (.slice aA al ac) ∧ w'.cell? ⟨Q, 6, none⟩ = some (.int .i64 bk) ∧ w'.cell? ⟨Q, 7, none⟩ = some (.int .i64 bn) ∧ w'.cell? ⟨Q, 8, none⟩ = some (.string sb) ∧ w'.cell? ⟨Q, 9, none⟩ = some (.slice bA bl bc))) hS0 ?_
        simp only [List.length_cons, List.length_nil, Nat.reduceAdd, Nat.reduceSub, List.take_succ_cons, List.take_zero, List.drop_succ_cons, List.drop_zero]
        repeat (first | (refine settle_skip (fun _ => by rfl) ?_; (simp only [Act.put, List.setIfInBounds_toArray, List.set_cons_zero, List.set_cons_succ])) | (refine' settle_run (fun _ _ => Below.refl _ _) (fun _ => by rfl) ?_ ?_; rotate_left; (focus (intro ρ w hS hF; (try dsimp only at hS); go_split_ands; go_simp; try with_reducible rfl)); (simp only [Act.put, List.setIfInBounds_toArray, List.set_cons_zero, List.set_cons_succ])))
        (refine settle_known (FNS (fun b ↦ w2.heap.size ≤ b) (Sr.rnx (Lnm.en L1) ea)) (by rfl) (fun _ => by rfl)  ?_ ?_; (focus (intro ρ w hS hF K hK; (simp only [Act.put, List.setIfInBounds_toArray, List.set_cons_zero, List.set_cons_succ] at hK); go_simp; (refine (gA _ hS.1).mono ?_; rintro e w' ⟨v, rfl, hF', hb'⟩; exact hK _ _ hF' (keepS _ (below_next hb' hS.1)) hb'))); (simp only [Act.put, List.setIfInBounds_toArray, List.set_cons_zero, List.set_cons_succ]))
        repeat (first | (refine settle_skip (fun _ => by rfl) ?_; (simp only [Act.put, List.setIfInBounds_toArray, List.set_cons_zero, List.set_cons_succ])) | (refine' settle_run (fun _ _ => Below.refl _ _) (fun _ => by rfl) ?_ ?_; rotate_left; (focus (intro ρ w hS hF; (try dsimp only at hS); go_split_ands; go_simp; try with_reducible rfl)); (simp only [Act.put, List.setIfInBounds_toArray, List.set_cons_zero, List.set_cons_succ])))
        (refine settle_known (FNS (fun b ↦ w2.heap.size ≤ b) (Sr.rnx (Lnm.en L1) eb)) (by rfl) (fun _ => by rfl)  ?_ ?_; (focus (intro ρ w hS hF K hK; (simp only [Act.put, List.setIfInBounds_toArray, List.set_cons_zero, List.set_cons_succ] at hK); go_simp; (refine (gB _ hS.1).mono ?_; rintro e w' ⟨v, rfl, hF', hb'⟩; exact hK _ _ hF' (keepS _ (below_next hb' hS.1)) hb'))); (simp only [Act.put, List.setIfInBounds_toArray, List.set_cons_zero, List.set_cons_succ]))
        repeat (first | (refine settle_skip (fun _ => by rfl) ?_; (simp only [Act.put, List.setIfInBounds_toArray, List.set_cons_zero, List.set_cons_succ])) | (refine' settle_run (fun _ _ => Below.refl _ _) (fun _ => by rfl) ?_ ?_; rotate_left; (focus (intro ρ w hS hF; (try dsimp only at hS); go_split_ands; go_simp; try with_reducible rfl)); (simp only [Act.put, List.setIfInBounds_toArray, List.set_cons_zero, List.set_cons_succ])))
        refine settle_nil ?_
        intro ρ w3 hS hF
        obtain ⟨ca, e39, hxa⟩ := hF 54 (FNS (fun b => w2.heap.size ≤ b) (Sr.rnx (Lnm.en L1) ea)) (by repeat (first | exact List.mem_cons_self | apply List.mem_cons_of_mem))
        obtain ⟨cb, e43, hxb⟩ := hF 58 (FNS (fun b => w2.heap.size ≤ b) (Sr.rnx (Lnm.en L1) eb)) (by repeat (first | exact List.mem_cons_self | apply List.mem_cons_of_mem))
        have hb3 := hS.1
        obtain ⟨R2, N2, V2⟩ := HR2.out
        have R3 := R2.below hb3
        have N3 := N2.later hb3
        have V3 := V2.later hb3
        have za3 := R2.fresh_x hxa
        have zb3 := R2.fresh_x hxb
        obtain ⟨y0, y1, y2, Y3, y4, y5, rfl, -, -⟩ := XRN.form hxa
        obtain ⟨z0, z1, z2, Z3, z4, z5, rfl, -, -⟩ := XRN.form hxb
        clear hF hS hS0 keepS gA gB hxa hxb hb3 HR2 R2 N2 V2
        unfold xcells at za3 zb3 e39 e43
        dsimp only
        rw [e39, e43]
        clear e39 e43
        have hB3 := R3.cur
        go_wp2_with (first | (refine wpl_store_blk hB3 38 2 4 [.int .i64 y0, .int .i64 y1, .string y2, .slice Y3 y4 y5] (by kernel_rfl) rfl (by simp) (xcells_one _ _ _ _ _ _) rfl rfl rfl rfl ?_; intro w4 hB4 hg4; have R4 := R3.put hB4 hg4; have za4 := za3.put hg4; have zb4 := zb3.put hg4; have N4 := N3.put hg4; simp only [List.take_succ_cons, List.take_zero, List.drop_succ_cons, List.drop_zero, List.cons_append, List.nil_append, List.set_cons_zero, List.set_cons_succ, Nat.reduceAdd] at R4; clear hB4; have hB4 := R4.cur) | (refine wpl_store_blk hB4 38 6 4 [.int .i64 z0, .int .i64 z1, .string z2, .slice Z3 z4 z5] (by kernel_rfl) rfl (by simp) (xcells_one _ _ _ _ _ _) rfl rfl rfl rfl ?_; intro w5 hB5 hg5; have R5 := R4.put hB5 hg5; have za5 := za4.put hg5; have zb5 := zb4.put hg5; have N5 := N4.put hg5; simp only [List.take_succ_cons, List.take_zero, List.drop_succ_cons, List.drop_zero, List.cons_append, List.nil_append, List.set_cons_zero, List.set_cons_succ, Nat.reduceAdd] at R5; clear hB5; have hB5 := R5.cur) | (refine wpl_get_blk (ty := 40) R5.cur (by kernel_rfl) (by kernel_rfl) rfl rfl rfl ?_) | (at_builtin; refine wp_push w5 _ _ w.heap.size _ _ _ _ _ Tryd.underlying34 info_stmt rfl (by decide) R5.row [.int .i64 3, .string ⟨#[]⟩, .int .i64 y0, .int .i64 y1, .string y2, .slice Y3 y4 y5, .int .i64 z0, .int .i64 z1, .string z2, .slice Z3 z4 z5, .slice none 0 0, .slice none 0 0] rfl (lst_one _ _ _ _ _ _ _ _ _ _ _ _ _ _ _ _ _ _ _ _) n63 n47 R5.low.size rfl rfl rfl rfl ?_; intro v7 w7 hown7 hg7 hv7 hb7) | fail)
        obtain ⟨f2, f3, f4⟩ := R5.finish N5 rfl za5 zb5 SP.nil SP.nil hg7 hv7 hb7
        have HE := Lib.hid (And.intro hown7 (And.intro f2 (And.intro f3 f4)))
        clear f2 f3 f4 hown7 hg7 hv7 hb7
        try go_wp2_with fail
        go_roundw
        case rel =>
          obtain ⟨f1, f2, f3, f4⟩ := HE.out
          have hzd : zn.data.toList = Sr.vn m1 := by rw [HZN.out]; simp [Ex.ba]
          refine ⟨k + 1, rest, _, _, L1, m1, by omega, by go_num, by first | rfl | go_num, by rw [show n - (k + 1) = n - k - 1 by omega]; exact HPR.out, f4, f1, f2, f3, ?_, ?_, ?_, ?_, ?_⟩
          · rw [← HQ.out.1, St.P.append_assoc, St.P.cons_append, St.P.nil_append]
            simp [Sr.rn, Lnm.en_cons, hzd, Ex.ba]
          · rw [← HQ.out.2.1]
            simp [Sr.rn, Lnm.en_cons, hzd, Ex.ba]
          · exact HQ.out.2.2.2.2.2.1.2.2
          · have := HQ.out.2.2.2.1
            rw [St.P.size] at this
            first | omega | (simp only [List.length_cons]; omega)
          · have := HQ.out.2.2.2.2.1
            rw [St.P.size] at this
            have hr1 := Sr.rn_le body
            have hr2 := Sr.rn_le els
            first | omega | (have h1 := hr1 (Lnm.en L1) m1; first | omega | (have h2 := hr2 (Lnm.en L1) (Sr.rn Sr.vn body (Lnm.en L1) m1).2; omega) | (have h2 := hr2 (Lnm.en L1) m2; omega) | (have h2 := hr1 (Lnm.en ((nm, zn) :: L1)) (m1 + 1); omega))
        case measure => simp [intOf]; omega
      · have s0 := (R2.src.cell 0).trans rfl
        have s10 := (R2.src.cell 10).trans rfl
        simp only [List.getElem?_cons_zero, List.getElem?_cons_succ] at s0 s10
        go_wp2_with fail
        refine (gL body D dl dc _ L1 m1 w2 HQ.out.2.2.2.2.2.1.1 (hIN w2 R2.low).2.2.1 hd1 hd2 N2 R2.low (by have := HQ.out; omega) (by have := HQ.out; omega) (by have := HQ.out; omega)).mono ?_
        rintro r w3 ⟨D1, l1, k1, rfl, hsp, hb3⟩
        have R3 := R2.below hb3
        have N3 := N2.later hb3
        have p3 := R2.fresh_p hsp
        clear hsp hb3 R2 N2 V2 cz s0 s10 gA gB gL
        have hB3 := R3.cur
        go_wp2_with (first | (refine wpl_set_blk hB3 10 (.slice D1 l1 k1) (by kernel_rfl) (by simp) rfl rfl rfl rfl rfl rfl ?_; intro w4 hB4 hg4; have R4 := R3.put hB4 hg4; have p4 := p3.put hg4; have N4 := N3.put hg4; simp only [List.take_succ_cons, List.take_zero, List.drop_succ_cons, List.drop_zero, List.cons_append, List.nil_append, List.set_cons_zero, List.set_cons_succ, Nat.reduceAdd] at R4; clear hB4; have hB4 := R4.cur) | (refine wpl_get_blk (ty := 40) R4.cur (by kernel_rfl) (by kernel_rfl) rfl rfl rfl ?_) | (at_builtin; refine wp_push w4 _ _ w.heap.size _ _ _ _ _ Tryd.underlying34 info_stmt rfl (by decide) R4.row [.int .i64 4, .string ⟨#[]⟩, .int .i64 0, .int .i64 0, .string ⟨#[]⟩, .slice none 0 0, .int .i64 0, .int .i64 0, .string ⟨#[]⟩, .slice none 0 0, .slice D1 l1 k1, .slice none 0 0] rfl (lst_one _ _ _ _ _ _ _ _ _ _ _ _ _ _ _ _ _ _ _ _) n63 n47 R4.low.size rfl rfl rfl rfl ?_; intro v7 w7 hown7 hg7 hv7 hb7) | fail)
        obtain ⟨f2, f3, f4⟩ := R4.finish N4 rfl XS.zero XS.zero p4 SP.nil hg7 hv7 hb7
        have HE := Lib.hid (And.intro hown7 (And.intro f2 (And.intro f3 f4)))
        clear f2 f3 f4 hown7 hg7 hv7 hb7
        try go_wp2_with fail
        go_roundw
        case rel =>
          obtain ⟨f1, f2, f3, f4⟩ := HE.out
          have hzd : zn.data.toList = Sr.vn m1 := by rw [HZN.out]; simp [Ex.ba]
          refine ⟨k + 1, rest, _, _, L1, (Sr.rn Sr.vn body (Lnm.en L1) m1).2, by omega, by go_num, by first | rfl | go_num, by rw [show n - (k + 1) = n - k - 1 by omega]; exact HPR.out, f4, f1, f2, f3, ?_, ?_, ?_, ?_, ?_⟩
          · rw [← HQ.out.1, St.P.append_assoc, St.P.cons_append, St.P.nil_append]
            simp [Sr.rn, Lnm.en_cons, hzd, Ex.ba]
          · rw [← HQ.out.2.1]
            simp [Sr.rn, Lnm.en_cons, hzd, Ex.ba]
          · exact HQ.out.2.2.2.2.2.1.2.2
          · have := HQ.out.2.2.2.1
            rw [St.P.size] at this
            first | omega | (simp only [List.length_cons]; omega)
          · have := HQ.out.2.2.2.2.1
            rw [St.P.size] at this
            have hr1 := Sr.rn_le body
            have hr2 := Sr.rn_le els
            first | omega | (have h1 := hr1 (Lnm.en L1) m1; first | omega | (have h2 := hr2 (Lnm.en L1) (Sr.rn Sr.vn body (Lnm.en L1) m1).2; omega) | (have h2 := hr2 (Lnm.en L1) m2; omega) | (have h2 := hr1 (Lnm.en ((nm, zn) :: L1)) (m1 + 1); omega))
        case measure => simp [intOf]; omega
      · have s0 := (R2.src.cell 0).trans rfl
        have s10 := (R2.src.cell 10).trans rfl
        simp only [List.getElem?_cons_zero, List.getElem?_cons_succ] at s0 s10
        go_wp2_with fail
        refine (gL body D dl dc _ L1 m1 w2 HQ.out.2.2.2.2.2.1.1 (hIN w2 R2.low).2.2.1 hd1 hd2 N2 R2.low (by have := HQ.out; omega) (by have := HQ.out; omega) (by have := HQ.out; omega)).mono ?_
        rintro r w3 ⟨D1, l1, k1, rfl, hsp, hb3⟩
        have R3 := R2.below hb3
        have N3 := N2.later hb3
        have p3 := R2.fresh_p hsp
        clear hsp hb3 R2 N2 V2 cz s0 s10 gA gB gL
        have hB3 := R3.cur
        go_wp2_with (first | (refine wpl_set_blk hB3 10 (.slice D1 l1 k1) (by kernel_rfl) (by simp) rfl rfl rfl rfl rfl rfl ?_; intro w4 hB4 hg4; have R4 := R3.put hB4 hg4; have p4 := p3.put hg4; have N4 := N3.put hg4; simp only [List.take_succ_cons, List.take_zero, List.drop_succ_cons, List.drop_zero, List.cons_append, List.nil_append, List.set_cons_zero, List.set_cons_succ, Nat.reduceAdd] at R4; clear hB4; have hB4 := R4.cur) | (refine wpl_get_blk (ty := 40) R4.cur (by kernel_rfl) (by kernel_rfl) rfl rfl rfl ?_) | (at_builtin; refine wp_push w4 _ _ w.heap.size _ _ _ _ _ Tryd.underlying34 info_stmt rfl (by decide) R4.row [.int .i64 5, .string ⟨#[]⟩, .int .i64 0, .int .i64 0, .string ⟨#[]⟩, .slice none 0 0, .int .i64 0, .int .i64 0, .string ⟨#[]⟩, .slice none 0 0, .slice D1 l1 k1, .slice none 0 0] rfl (lst_one _ _ _ _ _ _ _ _ _ _ _ _ _ _ _ _ _ _ _ _) n63 n47 R4.low.size rfl rfl rfl rfl ?_; intro v7 w7 hown7 hg7 hv7 hb7) | fail)
        obtain ⟨f2, f3, f4⟩ := R4.finish N4 rfl XS.zero XS.zero p4 SP.nil hg7 hv7 hb7
        have HE := Lib.hid (And.intro hown7 (And.intro f2 (And.intro f3 f4)))
        clear f2 f3 f4 hown7 hg7 hv7 hb7
        try go_wp2_with fail
        go_roundw
        case rel =>
          obtain ⟨f1, f2, f3, f4⟩ := HE.out
          have hzd : zn.data.toList = Sr.vn m1 := by rw [HZN.out]; simp [Ex.ba]
          refine ⟨k + 1, rest, _, _, L1, (Sr.rn Sr.vn body (Lnm.en L1) m1).2, by omega, by go_num, by first | rfl | go_num, by rw [show n - (k + 1) = n - k - 1 by omega]; exact HPR.out, f4, f1, f2, f3, ?_, ?_, ?_, ?_, ?_⟩
          · rw [← HQ.out.1, St.P.append_assoc, St.P.cons_append, St.P.nil_append]
            simp [Sr.rn, Lnm.en_cons, hzd, Ex.ba]
          · rw [← HQ.out.2.1]
            simp [Sr.rn, Lnm.en_cons, hzd, Ex.ba]
          · exact HQ.out.2.2.2.2.2.1.2.2
          · have := HQ.out.2.2.2.1
            rw [St.P.size] at this
            first | omega | (simp only [List.length_cons]; omega)
          · have := HQ.out.2.2.2.2.1
            rw [St.P.size] at this
            have hr1 := Sr.rn_le body
            have hr2 := Sr.rn_le els
            first | omega | (have h1 := hr1 (Lnm.en L1) m1; first | omega | (have h2 := hr2 (Lnm.en L1) (Sr.rn Sr.vn body (Lnm.en L1) m1).2; omega) | (have h2 := hr2 (Lnm.en L1) m2; omega) | (have h2 := hr1 (Lnm.en ((nm, zn) :: L1)) (m1 + 1); omega))
        case measure => simp [intOf]; omega
      · have s0 := (R2.src.cell 0).trans rfl
        have s2 := (R2.src.cell 2).trans rfl
        have s3 := (R2.src.cell 3).trans rfl
        have s4 := (R2.src.cell 4).trans rfl
        have s5 := (R2.src.cell 5).trans rfl
        have s10 := (R2.src.cell 10).trans rfl
        have s11 := (R2.src.cell 11).trans rfl
        simp only [List.getElem?_cons_zero, List.getElem?_cons_succ] at s0 s2 s3 s4 s5 s10 s11
        go_wp2_with fail
        refine (gA w2 (Below.refl _ _)).mono ?_
        rintro r w3 ⟨v, rfl, ⟨ca, rfl, hxa⟩, hb3⟩
        have R3 := R2.below hb3
        have N3 := N2.later hb3
        have za3 := R2.fresh_x hxa
        obtain ⟨y0, y1, y2, Y3, y4, y5, rfl, -, -⟩ := XRN.form hxa
        clear hxa hb3 R2 N2 V2 cz s0 s2 s3 s4 s5 s10 s11 gA gB
        unfold xcells at za3 ⊢
        have s10 := (R3.src.cell 10).trans rfl
        have s11 := (R3.src.cell 11).trans rfl
        simp only [List.getElem?_cons_zero, List.getElem?_cons_succ] at s10 s11
        have hB3 := R3.cur
        go_wp2_with (first | (refine wpl_store_blk hB3 38 2 4 [.int .i64 y0, .int .i64 y1, .string y2, .slice Y3 y4 y5] (by kernel_rfl) rfl (by simp) (xcells_one _ _ _ _ _ _) rfl rfl rfl rfl ?_; intro w4 hB4 hg4; have R4 := R3.put hB4 hg4; have za4 := za3.put hg4; have N4 := N3.put hg4; simp only [List.take_succ_cons, List.take_zero, List.drop_succ_cons, List.drop_zero, List.cons_append, List.nil_append, List.set_cons_zero, List.set_cons_succ, Nat.reduceAdd] at R4; clear hB4; have hB4 := R4.cur; have s10 := (R4.src.cell 10).trans rfl; have s11 := (R4.src.cell 11).trans rfl; simp only [List.getElem?_cons_zero, List.getElem?_cons_succ] at s10 s11) | fail)
        refine (gL body D dl dc _ L1 m1 w4 HQ.out.2.2.2.2.2.1.1 (hIN w4 R4.low).2.2.1 hd1 hd2 N4 R4.low (by have := HQ.out; omega) (by have := HQ.out; omega) (by have := HQ.out; omega)).mono ?_
        rintro r w5 ⟨D1, l1, k1, rfl, hsp, hb5⟩
        have R5 := R4.below hb5
        have N5 := N4.later hb5
        have za5 := za4.on hb5
        have p5 := R4.fresh_p hsp
        clear hsp hb5 s10 s11
        have s11 := (R5.src.cell 11).trans rfl
        simp only [List.getElem?_cons_zero, List.getElem?_cons_succ] at s11
        obtain ⟨m2, hm2⟩ : ∃ m2, m2 = (Sr.rn Sr.vn body (Lnm.en L1) m1).2 := ⟨_, rfl⟩
        have hm2b : m2 ≤ m1 + body.size := by rw [hm2]; exact Sr.rn_le body _ _
        rw [← hm2]
        have HM2 := Lib.hid hm2
        clear hm2
        have hB5 := R5.cur
        go_wp2_with (first | (refine wpl_set_blk hB5 10 (.slice D1 l1 k1) (by kernel_rfl) (by simp) rfl rfl rfl rfl rfl rfl ?_; intro w6 hB6 hg6; have R6 := R5.put hB6 hg6; have za6 := za5.put hg6; have p6 := p5.put hg6; have N6 := N5.put hg6; simp only [List.take_succ_cons, List.take_zero, List.drop_succ_cons, List.drop_zero, List.cons_append, List.nil_append, List.set_cons_zero, List.set_cons_succ, Nat.reduceAdd] at R6; clear hB6; have hB6 := R6.cur; have s11 := (R6.src.cell 11).trans rfl; simp only [List.getElem?_cons_zero, List.getElem?_cons_succ] at s11) | fail)
        refine (gL els E el ec _ L1 m2 w6 HQ.out.2.2.2.2.2.1.2.1 (hIN w6 R6.low).2.2.2 he1 he2 N6 R6.low (by have := HQ.out; omega) (by have := HQ.out; omega) (by have := HQ.out; omega)).mono ?_
        rintro r w7' ⟨D2, l2, k2, rfl, hsp, hb7'⟩
        have R7 := R6.below hb7'
        have N7 := N6.later hb7'
        have za7 := za6.on hb7'
        have p7 := p6.on hb7'
        have e7 := R6.fresh_p hsp
        clear hsp hb7' s11 gL
        have hB7 := R7.cur
        go_wp2_with (first | (refine wpl_set_blk hB7 11 (.slice D2 l2 k2) (by kernel_rfl) (by simp) rfl rfl rfl rfl rfl rfl ?_; intro w8 hB8 hg8; have R8 := R7.put hB8 hg8; have za8 := za7.put hg8; have p8 := p7.put hg8; have e8 := e7.put hg8; have N8 := N7.put hg8; simp only [List.take_succ_cons, List.take_zero, List.drop_succ_cons, List.drop_zero, List.cons_append, List.nil_append, List.set_cons_zero, List.set_cons_succ, Nat.reduceAdd] at R8; clear hB8; have hB8 := R8.cur) | (refine wpl_get_blk (ty := 40) R8.cur (by kernel_rfl) (by kernel_rfl) rfl rfl rfl ?_) | (at_builtin; refine wp_push w8 _ _ w.heap.size _ _ _ _ _ Tryd.underlying34 info_stmt rfl (by decide) R8.row [.int .i64 6, .string ⟨#[]⟩, .int .i64 y0, .int .i64 y1, .string y2, .slice Y3 y4 y5, .int .i64 0, .int .i64 0, .string ⟨#[]⟩, .slice none 0 0, .slice D1 l1 k1, .slice D2 l2 k2] rfl (lst_one _ _ _ _ _ _ _ _ _ _ _ _ _ _ _ _ _ _ _ _) n63 n47 R8.low.size rfl rfl rfl rfl ?_; intro v7 w7 hown7 hg7 hv7 hb7) | fail)
        obtain ⟨f2, f3, f4⟩ := R8.finish N8 rfl za8 XS.zero p8 e8 hg7 hv7 hb7
        have HE := Lib.hid (And.intro hown7 (And.intro f2 (And.intro f3 f4)))
        clear f2 f3 f4 hown7 hg7 hv7 hb7
        try go_wp2_with fail
        go_roundw
        case rel =>
          obtain ⟨f1, f2, f3, f4⟩ := HE.out
          have hzd : zn.data.toList = Sr.vn m1 := by rw [HZN.out]; simp [Ex.ba]
          refine ⟨k + 1, rest, _, _, L1, (Sr.rn Sr.vn els (Lnm.en L1) m2).2, by omega, by go_num, by first | rfl | go_num, by rw [show n - (k + 1) = n - k - 1 by omega]; exact HPR.out, f4, f1, f2, f3, ?_, ?_, ?_, ?_, ?_⟩
          · rw [← HQ.out.1, St.P.append_assoc, St.P.cons_append, St.P.nil_append]
            simp [Sr.rn, Lnm.en_cons, hzd, Ex.ba, HM2.out]
          · rw [← HQ.out.2.1]
            simp [Sr.rn, Lnm.en_cons, hzd, Ex.ba, HM2.out]
          · exact HQ.out.2.2.2.2.2.1.2.2
          · have := HQ.out.2.2.2.1
            rw [St.P.size] at this
            first | omega | (simp only [List.length_cons]; omega)
          · have := HQ.out.2.2.2.2.1
            rw [St.P.size] at this
            have hr1 := Sr.rn_le body
            have hr2 := Sr.rn_le els
            first | omega | (have h1 := hr1 (Lnm.en L1) m1; first | omega | (have h2 := hr2 (Lnm.en L1) (Sr.rn Sr.vn body (Lnm.en L1) m1).2; omega) | (have h2 := hr2 (Lnm.en L1) m2; omega) | (have h2 := hr1 (Lnm.en ((nm, zn) :: L1)) (m1 + 1); omega))
        case measure => simp [intOf]; omega
      · have keepS : ∀ w' w'', (Keeps (fun b => b = Q + 1) w2 w' ∧ w'.cell? ⟨Q, 2, none⟩ = some (.int .i64 ak) ∧ w'.cell? ⟨Q, 3, none⟩ = some (.int .i64 an) ∧ w'.cell? ⟨Q, 4, none⟩ = some (.string sa) ∧ w'.cell? ⟨Q, 5, none⟩ = some (.slice aA al ac) ∧ w'.cell? ⟨Q, 6, none⟩ = some (.int .i64 bk) ∧ w'.cell? ⟨Q, 7, none⟩ = some (.int .i64 bn) ∧ w'.cell? ⟨Q, 8, none⟩ = some (.string sb) ∧ w'.cell? ⟨Q, 9, none⟩ = some (.slice bA bl bc) ∧ w'.cell? ⟨b2, o2 + 1, none⟩ = some (.string zn)) → Below w'.heap.size w' w'' → (Keeps (fun b => b = Q + 1) w2 w'' ∧ w''.cell? ⟨Q, 2, none⟩ = some (.int .i64 ak) ∧ w''.cell? ⟨Q, 3, none⟩ = some (.int .i64 an) ∧ w''.cell? ⟨Q, 4, none⟩ = some (.string sa) ∧ w''.cell? ⟨Q, 5, none⟩ = some (.slice aA al ac) ∧ w''.cell? ⟨Q, 6, none⟩ = some (.int .i64 bk) ∧ w''.cell? ⟨Q, 7, none⟩ = some (.int .i64 bn) ∧ w''.cell? ⟨Q, 8, none⟩ = some (.string sb) ∧ w''.cell? ⟨Q, 9, none⟩ = some (.slice bA bl bc) ∧ w''.cell? ⟨b2, o2 + 1, none⟩ = some (.string zn)) := fun w' w'' h hb => by
          have hc : ∀ {p : Addr} {v : Value}, w'.cell? p = some v → w''.cell? p = some v := fun h => (hb.cell (World.block_lt_of_cell? w' _ h)).trans h
          obtain ⟨h1, h2, h3, h4, h5, h6, h7, h8, h9, h10⟩ := h
          exact ⟨h1.trans (Keeps.of_below hb _), hc h2, hc h3, hc h4, hc h5, hc h6, hc h7, hc h8, hc h9, hc h10⟩
        have putS : ∀ w' w'', (Keeps (fun b => b = Q + 1) w2 w' ∧ w'.cell? ⟨Q, 2, none⟩ = some (.int .i64 ak) ∧ w'.cell? ⟨Q, 3, none⟩ = some (.int .i64 an) ∧ w'.cell? ⟨Q, 4, none⟩ = some (.string sa) ∧ w'.cell? ⟨Q, 5, none⟩ = some (.slice aA al ac) ∧ w'.cell? ⟨Q, 6, none⟩ = some (.int .i64 bk) ∧ w'.cell? ⟨Q, 7, none⟩ = some (.int .i64 bn) ∧ w'.cell? ⟨Q, 8, none⟩ = some (.string sb) ∧ w'.cell? ⟨Q, 9, none⟩ = some (.slice bA bl bc) ∧ w'.cell? ⟨b2, o2 + 1, none⟩ = some (.string zn)) → w'.grownBy w'' (some (Q + 1)) → (Keeps (fun b => b = Q + 1) w2 w'' ∧ w''.cell? ⟨Q, 2, none⟩ = some (.int .i64 ak) ∧ w''.cell? ⟨Q, 3, none⟩ = some (.int .i64 an) ∧ w''.cell? ⟨Q, 4, none⟩ = some (.string sa) ∧ w''.cell? ⟨Q, 5, none⟩ = some (.slice aA al ac) ∧ w''.cell? ⟨Q, 6, none⟩ = some (.int .i64 bk) ∧ w''.cell? ⟨Q, 7, none⟩ = some (.int .i64 bn) ∧ w''.cell? ⟨Q, 8, none⟩ = some (.string sb) ∧ w''.cell? ⟨Q, 9, none⟩ = some (.slice bA bl bc) ∧ w''.cell? ⟨b2, o2 + 1, none⟩ = some (.string zn)) ∧ Keeps (fun b => b = Q + 1) w' w'' := fun w' w'' h hg => by
          have hk : Keeps (fun b => b = Q + 1) w' w'' := (Keeps.of_grown hg).mono (fun i hi => by injection hi)
          have hb2o : b2 ≠ Q + 1 := fun e => V2.off b2 rfl (.inr e)
          have hc : ∀ {p : Addr} {v : Value}, w'.cell? p = some v → p.block ≠ Q + 1 → w''.cell? p = some v := fun h hp => hk.cell h hp
          obtain ⟨h1, h2, h3, h4, h5, h6, h7, h8, h9, h10⟩ := h
          exact ⟨⟨h1.trans hk, hc h2 (by simp), hc h3 (by simp), hc h4 (by simp), hc h5 (by simp), hc h6 (by simp), hc h7 (by simp), hc h8 (by simp), hc h9 (by simp), hc h10 hb2o⟩, hk⟩
        have gX' : ∀ (w' : World) (cs : List Value) (e : Ex.X), Keeps (fun b => b = Q + 1) w2 w' → (Below w.heap.size w w' → XR B w' cs e) → Calls Tryd.prog 118 #[.agg cs.toArray, .slice A1 L1.length c1'] w' fun r w'' => ∃ v, r = .returned v ∧ (FNS (fun b => w2.heap.size ≤ b) (Sr.rnx (Lnm.en L1) e)).holds v w'' ∧ Below w'.heap.size w' w'' := fun w' cs e h hx => by
          have hl : Below w.heap.size w w' := R2.low.trans (h.below R2.low.size fun i hi => by have := R2.hi; omega)
          have hsz := h.size
          refine (lexpr_any e w' cs _ L1 ((hx hl).up (Nat.le_trans HO0.out.1 hl.size)) (N2.turned h).sl (by omega)).mono ?_
          rintro r w'' ⟨cs', rfl, h3, h4⟩
          exact ⟨_, rfl, ⟨cs', rfl, h3.imp fun b _ hb2 => Nat.le_trans hsz hb2⟩, h4⟩
        have gA' := fun w' (h : (Keeps (fun b => b = Q + 1) w2 w' ∧ w'.cell? ⟨Q, 2, none⟩ = some (.int .i64 ak) ∧ w'.cell? ⟨Q, 3, none⟩ = some (.int .i64 an) ∧ w'.cell? ⟨Q, 4, none⟩ = some (.string sa) ∧ w'.cell? ⟨Q, 5, none⟩ = some (.slice aA al ac) ∧ w'.cell? ⟨Q, 6, none⟩ = some (.int .i64 bk) ∧ w'.cell? ⟨Q, 7, none⟩ = some (.int .i64 bn) ∧ w'.cell? ⟨Q, 8, none⟩ = some (.string sb) ∧ w'.cell? ⟨Q, 9, none⟩ = some (.slice bA bl bc) ∧ w'.cell? ⟨b2, o2 + 1, none⟩ = some (.string zn))) => gX' w' (xcells ak an sa aA al ac) ea h.1 (fun hl => (hIN w' hl).1)
        have gB' := fun w' (h : (Keeps (fun b => b = Q + 1) w2 w' ∧ w'.cell? ⟨Q, 2, none⟩ = some (.int .i64 ak) ∧ w'.cell? ⟨Q, 3, none⟩ = some (.int .i64 an) ∧ w'.cell? ⟨Q, 4, none⟩ = some (.string sa) ∧ w'.cell? ⟨Q, 5, none⟩ = some (.slice aA al ac) ∧ w'.cell? ⟨Q, 6, none⟩ = some (.int .i64 bk) ∧ w'.cell? ⟨Q, 7, none⟩ = some (.int .i64 bn) ∧ w'.cell? ⟨Q, 8, none⟩ = some (.string sb) ∧ w'.cell? ⟨Q, 9, none⟩ = some (.slice bA bl bc) ∧ w'.cell? ⟨b2, o2 + 1, none⟩ = some (.string zn))) => gX' w' (xcells bk bn sb bA bl bc) eb h.1 (fun hl => (hIN w' hl).2.1)
        unfold xcells at gA' gB'
        have hS0 : (Keeps (fun b => b = Q + 1) w2 w2.drew ∧ w2.drew.cell? ⟨Q, 2, none⟩ = some (.int .i64 ak) ∧ w2.drew.cell? ⟨Q, 3, none⟩ = some (.int .i64 an) ∧ w2.drew.cell? ⟨Q, 4, none⟩ = some (.string sa) ∧ w2.drew.cell? ⟨Q, 5, none⟩ = some (.slice aA al ac) ∧ w2.drew.cell? ⟨Q, 6, none⟩ = some (.int .i64 bk) ∧ w2.drew.cell? ⟨Q, 7, none⟩ = some (.int .i64 bn) ∧ w2.drew.cell? ⟨Q, 8, none⟩ = some (.string sb) ∧ w2.drew.cell? ⟨Q, 9, none⟩ = some (.slice bA bl bc) ∧ w2.drew.cell? ⟨b2, o2 + 1, none⟩ = some (.string zn)) := by
          have hq := R2.src
          exact ⟨(Keeps.refl _ _).drewN 1, (hq.cell 2).trans rfl, (hq.cell 3).trans rfl, (hq.cell 4).trans rfl, (hq.cell 5).trans rfl, (hq.cell 6).trans rfl, (hq.cell 7).trans rfl, (hq.cell 8).trans rfl, (hq.cell 9).trans rfl, cz⟩
        have hI0 : Blk w2.drew (Q + 1) 40 [.int .i64 7, .string ⟨#[]⟩, .int .i64 0, .int .i64 0, .string ⟨#[]⟩, .slice none 0 0, .int .i64 0, .int .i64 0, .string ⟨#[]⟩, .slice none 0 0, .slice none 0 0, .slice none 0 0] := R2.cur
        have fresh : ∀ w' ca e, NS (fun b => w2.heap.size ≤ b) w' ca (Sr.rnx (Lnm.en L1) e) → XS (Sl w.heap.size Q u8) w' ca (Sr.rnx (Lnm.en L1) e) := fun w' ca e hx => R2.fresh_x hx
        have hq1 := R2.cur.lt
        have s0 := (R2.src.cell 0).trans rfl
        simp only [List.getElem?_cons_zero] at s0
        have HR2 := Lib.hid (And.intro R2 (And.intro N2 V2))
        clear R2 N2 V2 cz gX'
        go_wp2_with fail
        clear s0
        refine wp_walk_pg 17 (fun i => ([13,15] : List Nat).contains i) (fun i => ([3,7,8,9,10,11] : List Nat).contains i) [13,15] (by intro m h; simpa using h) (by kernel_rfl) (by kernel_rfl) (by kernel_rfl) [103,107] (by kernel_rfl) (fun w w' => Below w.heap.size w w') (fun w w' => Keeps (fun b => b = Q + 1) w w') (fun w' => (Keeps (fun b => b = Q + 1) w2 w' ∧ w'.cell? ⟨Q, 2, none⟩ = some (.int .i64 ak) ∧ w'.cell? ⟨Q, 3, none⟩ = some (.int .i64 an) ∧ w'.cell? ⟨Q, 4, none⟩ = some (.string sa) ∧ w'.cell? ⟨Q, 5, none⟩ = some (.slice aA al ac) ∧ w'.cell? ⟨Q, 6, none⟩ = some (.int .i64 bk) ∧ w'.cell? ⟨Q, 7, none⟩ = some (.int .i64 bn) ∧ w'.cell? ⟨Q, 8, none⟩ = some (.string sb) ∧ w'.cell? ⟨Q, 9, none⟩ = some (.slice bA bl bc) ∧ w'.cell? ⟨b2, o2 + 1, none⟩ = some (.string zn))) (fun c ρ w' => match c with | 0 => Blk w' (Q + 1) 40 [.int .i64 7, .string ⟨#[]⟩, .int .i64 0, .int .i64 0, .string ⟨#[]⟩, .slice none 0 0, .int .i64 0, .int .i64 0, .string ⟨#[]⟩, .slice none 0 0, .slice none 0 0, .slice none 0 0] | 1 => LI w.heap.size Q u8 (fun ca => stcells 7 ⟨#[]⟩ ca (xcells 0 0 ⟨#[]⟩ none 0 0) none 0 0 none 0 0) (Sr.rnx (Lnm.en L1) ea) (ρ 103) w' | _ + 2 => LI2 w.heap.size Q u8 (fun ca cb => stcells 7 ⟨#[]⟩ ca cb none 0 0 none 0 0) (Sr.rnx (Lnm.en L1) ea) (Sr.rnx (Lnm.en L1) eb) (ρ 103) (ρ 107) w') hS0 (fun _ => hI0) (fun c ρ w w' h k => match c, h with | 0, h => h.below k | 1, h => LI.step h k | _ + 2, h => LI2.step h k) (fun _ _ _ h => h) (fun c ρ ρ' w h k => match c, k with | 0, k => k | 1, k => LI.cong k (h 103 (by simp)) | _ + 2, k => LI2.cong k (h 103 (by simp)) (h 107 (by simp))) ?_
        simp only [List.length_cons, List.length_nil, Nat.reduceAdd, Nat.reduceSub, List.take_succ_cons, List.take_zero, List.drop_succ_cons, List.drop_zero]
        repeat (first | (refine gsettle_skip (by rfl) (fun _ => by rfl) ?_; (simp only [Act.put, List.setIfInBounds_toArray, List.set_cons_zero, List.set_cons_succ])) | (refine' gsettle_run (by rfl) (fun _ _ => Below.refl _ _) (fun _ => by rfl) ?_ ?_; rotate_left; (focus (intro ρ w hS hF hP hU; (try dsimp only at hS); go_split_ands; go_simp; try with_reducible rfl)); (simp only [Act.put, List.setIfInBounds_toArray, List.set_cons_zero, List.set_cons_succ])))
        (refine gsettle_float (FNS (fun b ↦ w2.heap.size ≤ b) (Sr.rnx (Lnm.en L1) ea)) (fns_stays hq1) (by rfl) (by rfl) (by rfl) (fun _ => by rfl) ?_ ?_; (focus (intro ρ w hS hF hP hU K hK; (simp only [Act.put, List.setIfInBounds_toArray, List.set_cons_zero, List.set_cons_succ] at hK); go_simp; (refine (gA' _ hS).mono ?_; rintro e w' ⟨v, rfl, hF', hb'⟩; exact hK _ _ hF' (keepS _ _ hS hb') hb'))); (simp only [Act.put, List.setIfInBounds_toArray, List.set_cons_zero, List.set_cons_succ]))
        repeat (first | (refine gsettle_skip (by rfl) (fun _ => by rfl) ?_; (simp only [Act.put, List.setIfInBounds_toArray, List.set_cons_zero, List.set_cons_succ])) | (refine' gsettle_run (by rfl) (fun _ _ => Below.refl _ _) (fun _ => by rfl) ?_ ?_; rotate_left; (focus (intro ρ w hS hF hP hU; (try dsimp only at hS); go_split_ands; go_simp; try with_reducible rfl)); (simp only [Act.put, List.setIfInBounds_toArray, List.set_cons_zero, List.set_cons_succ])))
        (refine gsettle_float (FNS (fun b ↦ w2.heap.size ≤ b) (Sr.rnx (Lnm.en L1) eb)) (fns_stays hq1) (by rfl) (by rfl) (by rfl) (fun _ => by rfl) ?_ ?_; (focus (intro ρ w hS hF hP hU K hK; (simp only [Act.put, List.setIfInBounds_toArray, List.set_cons_zero, List.set_cons_succ] at hK); go_simp; (refine (gB' _ hS).mono ?_; rintro e w' ⟨v, rfl, hF', hb'⟩; exact hK _ _ hF' (keepS _ _ hS hb') hb'))); (simp only [Act.put, List.setIfInBounds_toArray, List.set_cons_zero, List.set_cons_succ]))
        repeat (first | (refine gsettle_skip (by rfl) (fun _ => by rfl) ?_; (simp only [Act.put, List.setIfInBounds_toArray, List.set_cons_zero, List.set_cons_succ])) | (refine' gsettle_run (by rfl) (fun _ _ => Below.refl _ _) (fun _ => by rfl) ?_ ?_; rotate_left; (focus (intro ρ w hS hF hP hU; (try dsimp only at hS); go_split_ands; go_simp; try with_reducible rfl)); (simp only [Act.put, List.setIfInBounds_toArray, List.set_cons_zero, List.set_cons_succ])))
        (refine gsettle_turn (v := undef) (by rfl) (fun _ => by rfl) ?_ ?_; (focus (intro ρ w hS hF hP hU K hK; (simp only [Act.put, List.setIfInBounds_toArray, List.set_cons_zero, List.set_cons_succ] at hK); (obtain ⟨ca, e39, hxa⟩ := hU.2 103 (FNS (fun b ↦ w2.heap.size ≤ b) (Sr.rnx (Lnm.en L1) ea)) (by repeat (first | exact List.mem_cons_self | apply List.mem_cons_of_mem)) (by decide); have hB := hP (by rfl); obtain ⟨y0, y1, y2, Y3, y4, y5, rfl, -, -⟩ := XRN.form hxa; refine wp_store_at hB 2 4 [.int .i64 y0, .int .i64 y1, .string y2, .slice Y3 y4 y5] (by kernel_rfl) rfl (by simp) (xcells_one _ _ _ _ _ _) rfl rfl e39 ?_; intro w5 hB5 hg5; exact hK _ (putS _ _ hS hg5).1 ⟨y0, y1, y2, Y3, y4, y5, e39, (fresh _ _ _ hxa).put hg5, hB5⟩ (putS _ _ hS hg5).2))); (simp only [Act.put, List.setIfInBounds_toArray, List.set_cons_zero, List.set_cons_succ]))
        repeat (first | (refine gsettle_skip (by rfl) (fun _ => by rfl) ?_; (simp only [Act.put, List.setIfInBounds_toArray, List.set_cons_zero, List.set_cons_succ])) | (refine' gsettle_run (by rfl) (fun _ _ => Below.refl _ _) (fun _ => by rfl) ?_ ?_; rotate_left; (focus (intro ρ w hS hF hP hU; (try dsimp only at hS); go_split_ands; go_simp; try with_reducible rfl)); (simp only [Act.put, List.setIfInBounds_toArray, List.set_cons_zero, List.set_cons_succ])))
        (refine gsettle_turn (v := undef) (by rfl) (fun _ => by rfl) ?_ ?_; (focus (intro ρ w hS hF hP hU K hK; (simp only [Act.put, List.setIfInBounds_toArray, List.set_cons_zero, List.set_cons_succ] at hK); (obtain ⟨y0, y1, y2, Y3, y4, y5, e39, hxa, hB⟩ := hP (by rfl); obtain ⟨cb, e43, hxb⟩ := hU.2 107 (FNS (fun b ↦ w2.heap.size ≤ b) (Sr.rnx (Lnm.en L1) eb)) (by repeat (first | exact List.mem_cons_self | apply List.mem_cons_of_mem)) (by decide); obtain ⟨z0, z1, z2, Z3, z4, z5, rfl, -, -⟩ := XRN.form hxb; refine wp_store_at hB 6 4 [.int .i64 z0, .int .i64 z1, .string z2, .slice Z3 z4 z5] (by kernel_rfl) rfl (by simp [stcells, xcells]) (xcells_one _ _ _ _ _ _) rfl rfl e43 ?_; intro w5 hB5 hg5; exact hK _ (putS _ _ hS hg5).1 ⟨y0, y1, y2, Y3, y4, y5, z0, z1, z2, Z3, z4, z5, e39, e43, hxa.put hg5, (fresh _ _ _ hxb).put hg5, hB5⟩ (putS _ _ hS hg5).2))); (simp only [Act.put, List.setIfInBounds_toArray, List.set_cons_zero, List.set_cons_succ]))
        repeat (first | (refine gsettle_skip (by rfl) (fun _ => by rfl) ?_; (simp only [Act.put, List.setIfInBounds_toArray, List.set_cons_zero, List.set_cons_succ])) | (refine' gsettle_run (by rfl) (fun _ _ => Below.refl _ _) (fun _ => by rfl) ?_ ?_; rotate_left; (focus (intro ρ w hS hF hP hU; (try dsimp only at hS); go_split_ands; go_simp; try with_reducible rfl)); (simp only [Act.put, List.setIfInBounds_toArray, List.set_cons_zero, List.set_cons_succ])))
        refine gsettle_nil ?_
        intro ρ w3 hS hI hF hG
        obtain ⟨R2, N2, V2⟩ := HR2.out
        obtain ⟨y0, y1, y2, Y3, y4, y5, z0, z1, z2, Z3, z4, z5, -, -, za5, zb5, hB3⟩ := hI
        have R5 := R2.turned hS.1 hB3
        have V5 := V2.turned hS.1
        have N5 := N2.turned hS.1
        clear hF hS hS0 hI0 hG keepS putS gA gA' gB gB' fresh hB3 HR2 R2 N2 V2 hq1
        dsimp only
        unfold stcells xcells at R5
        unfold xcells at za5 zb5
        simp only [List.cons_append, List.nil_append] at R5
        have hB5 := R5.cur
        go_wp2_with (first | (refine wpl_set_blk hB5 1 (.string zn) (by kernel_rfl) (by simp) rfl rfl rfl rfl rfl rfl ?_; intro w6 hB6 hg6; have R6 := R5.put hB6 hg6; have za6 := za5.put hg6; have zb6 := zb5.put hg6; have V6 := V5.put hg6; simp only [List.take_succ_cons, List.take_zero, List.drop_succ_cons, List.drop_zero, List.cons_append, List.nil_append, List.set_cons_zero, List.set_cons_succ, Nat.reduceAdd] at R6; clear hB6; have hB6 := R6.cur; have s10 := (R6.src.cell 10).trans rfl; simp only [List.getElem?_cons_zero, List.getElem?_cons_succ] at s10) | fail)
        refine (gL body D dl dc _ ((nm, zn) :: L1) (m1 + 1) w6 HQ.out.2.2.2.2.2.1.1 (hIN w6 R6.low).2.2.1 hd1 hd2 (by rw [← HN12.out] at *; exact V6) R6.low (by have := HQ.out; simp only [List.length_cons]; omega) (by have := HQ.out; omega) (by have := HQ.out; omega)).mono ?_
        rintro r w7' ⟨D1, l1, k1, rfl, hsp, hb7'⟩
        have R7 := R6.below hb7'
        have N7 := (N5.put hg6).later hb7'
        have za7 := za6.on hb7'
        have zb7 := zb6.on hb7'
        have p7 := R6.fresh_p hsp
        clear hsp hb7' s10 gL
        have hB7 := R7.cur
        go_wp2_with (first | (refine wpl_set_blk hB7 10 (.slice D1 l1 k1) (by kernel_rfl) (by simp) rfl rfl rfl rfl rfl rfl ?_; intro w8 hB8 hg8; have R8 := R7.put hB8 hg8; have za8 := za7.put hg8; have zb8 := zb7.put hg8; have p8 := p7.put hg8; have N8 := N7.put hg8; simp only [List.take_succ_cons, List.take_zero, List.drop_succ_cons, List.drop_zero, List.cons_append, List.nil_append, List.set_cons_zero, List.set_cons_succ, Nat.reduceAdd] at R8; clear hB8; have hB8 := R8.cur) | (refine wpl_get_blk (ty := 40) R8.cur (by kernel_rfl) (by kernel_rfl) rfl rfl rfl ?_) | (at_builtin; refine wp_push w8 _ _ w.heap.size _ _ _ _ _ Tryd.underlying34 info_stmt rfl (by decide) R8.row [.int .i64 7, .string zn, .int .i64 y0, .int .i64 y1, .string y2, .slice Y3 y4 y5, .int .i64 z0, .int .i64 z1, .string z2, .slice Z3 z4 z5, .slice D1 l1 k1, .slice none 0 0] rfl (lst_one _ _ _ _ _ _ _ _ _ _ _ _ _ _ _ _ _ _ _ _) n63 n47 R8.low.size rfl rfl rfl rfl ?_; intro v7 w7 hown7 hg7 hv7 hb7) | fail)
        obtain ⟨f2, f3, f4⟩ := R8.finish N8 rfl za8 zb8 p8 SP.nil hg7 hv7 hb7
        have HE := Lib.hid (And.intro hown7 (And.intro f2 (And.intro f3 f4)))
        clear f2 f3 f4 hown7 hg7 hv7 hb7
        try go_wp2_with fail
        go_roundw
        case rel =>
          obtain ⟨f1, f2, f3, f4⟩ := HE.out
          have hzd : zn.data.toList = Sr.vn m1 := by rw [HZN.out]; simp [Ex.ba]
          refine ⟨k + 1, rest, _, _, L1, (Sr.rn Sr.vn body (Lnm.en ((nm, zn) :: L1)) (m1 + 1)).2, by omega, by go_num, by first | rfl | go_num, by rw [show n - (k + 1) = n - k - 1 by omega]; exact HPR.out, f4, f1, f2, f3, ?_, ?_, ?_, ?_, ?_⟩
          · rw [← HQ.out.1, St.P.append_assoc, St.P.cons_append, St.P.nil_append]
            simp [Sr.rn, Lnm.en_cons, hzd]
          · rw [← HQ.out.2.1]
            simp [Sr.rn, Lnm.en_cons, hzd]
          · exact HQ.out.2.2.2.2.2.1.2.2
          · have := HQ.out.2.2.2.1
            rw [St.P.size] at this
            first | omega | (simp only [List.length_cons]; omega)
          · have := HQ.out.2.2.2.2.1
            rw [St.P.size] at this
            have hr1 := Sr.rn_le body
            have hr2 := Sr.rn_le els
            first | omega | (have h1 := hr1 (Lnm.en L1) m1; first | omega | (have h2 := hr2 (Lnm.en L1) (Sr.rn Sr.vn body (Lnm.en L1) m1).2; omega) | (have h2 := hr2 (Lnm.en L1) m2; omega) | (have h2 := hr1 (Lnm.en ((nm, zn) :: L1)) (m1 + 1); omega))
        case measure => simp [intOf]; omega
      · have HKK := Lib.hid (show ¬ (kd = 1 ∨ kd = 2) ∧ ¬ kd = 3 ∧ ¬ (kd = 4 ∨ kd = 5) ∧ ¬ kd = 6 ∧ ¬ kd = 7 by simp at k1 k2 k3 k4 k5 k6 k7; omega)
        have s0 := (R2.src.cell 0).trans rfl
        simp only [List.getElem?_cons_zero, List.getElem?_cons_succ] at s0
        have hB2 := R2.cur
        clear gA gB gL
        go_wp2_with (first | (refine wpl_get_blk (ty := 40) R2.cur (by kernel_rfl) (by kernel_rfl) rfl rfl rfl ?_) | (at_builtin; refine wp_push w2 _ _ w.heap.size _ _ _ _ _ Tryd.underlying34 info_stmt rfl (by decide) R2.row [.int .i64 kd, .string ⟨#[]⟩, .int .i64 0, .int .i64 0, .string ⟨#[]⟩, .slice none 0 0, .int .i64 0, .int .i64 0, .string ⟨#[]⟩, .slice none 0 0, .slice none 0 0, .slice none 0 0] rfl (lst_one _ _ _ _ _ _ _ _ _ _ _ _ _ _ _ _ _ _ _ _) n63 n47 R2.low.size rfl rfl rfl rfl ?_; intro v7 w7 hown7 hg7 hv7 hb7) | fail)
        obtain ⟨f2, f3, f4⟩ := R2.finish N2 rfl XS.zero XS.zero SP.nil SP.nil hg7 hv7 hb7
        have HE := Lib.hid (And.intro hown7 (And.intro f2 (And.intro f3 f4)))
        clear f2 f3 f4 hown7 hg7 hv7 hb7
        try go_wp2_with fail
        go_roundw
        case rel =>
          obtain ⟨f1, f2, f3, f4⟩ := HE.out
          have hzd : zn.data.toList = Sr.vn m1 := by rw [HZN.out]; simp [Ex.ba]
          refine ⟨k + 1, rest, _, _, L1, m1, by omega, by go_num, by first | rfl | go_num, by rw [show n - (k + 1) = n - k - 1 by omega]; exact HPR.out, f4, f1, f2, f3, ?_, ?_, ?_, ?_, ?_⟩
          · rw [← HQ.out.1, St.P.append_assoc, St.P.cons_append, St.P.nil_append]
            obtain ⟨h1, h2, h3, h4, h5⟩ := HKK.out
            rw [Sr.rn, if_neg h1, if_neg h2, if_neg h3, if_neg h4, if_neg h5]
            try rfl
          · rw [← HQ.out.2.1]
            obtain ⟨h1, h2, h3, h4, h5⟩ := HKK.out
            rw [Sr.rn, if_neg h1, if_neg h2, if_neg h3, if_neg h4, if_neg h5]
            try rfl
          · exact HQ.out.2.2.2.2.2.1.2.2
          · have := HQ.out.2.2.2.1
            rw [St.P.size] at this
            first | omega | (simp only [List.length_cons]; omega)
          · have := HQ.out.2.2.2.2.1
            rw [St.P.size] at this
            have hr1 := Sr.rn_le body
            have hr2 := Sr.rn_le els
            first | omega | (have h1 := hr1 (Lnm.en L1) m1; first | omega | (have h2 := hr2 (Lnm.en L1) (Sr.rn Sr.vn body (Lnm.en L1) m1).2; omega) | (have h2 := hr2 (Lnm.en L1) m2; omega) | (have h2 := hr1 (Lnm.en ((nm, zn) :: L1)) (m1 + 1); omega))
        case measure => simp [intOf]; omega
    · have hkn : k = n := by omega
      rw [hkn, Nat.sub_self] at hq0
      have hqz := hq0.zero
      subst hqz
      rw [Sr.rn, St.P.append_nil] at hres
      rw [Sr.rn] at hm2
      have HE := Lib.hid (And.intro hres (And.intro hm2 (And.intro hrow (And.intro hdone hlow))))
      clear hres hm2 hrow hdone hlow hN hq0 hqs hqm hqn
      go_wp2
      go_ret2
      obtain ⟨h1, h2, h3, h4, h5⟩ := HE.out
      refine ⟨u8, by rw [← h2]; rfl, ?_, h5⟩
      rw [← h1]
      refine (SP.of_own h4 h3).go (World.grownBy.refl wr none) fun b _ hb => ⟨?_, by simp⟩
      rcases hb with hb | hb
      · exact hb.1
      · exact (h3.lt b hb.symm).1
theorem lrename_any (p : St.P) : LrOK p := by
  suffices h : ∀ n, ∀ q : St.P, q.size ≤ n → LrOK q from h _ p (Nat.le_refl _)
  intro n
  induction n with
  | zero => exact fun q hq => lr_step q fun r hr => by omega
  | succ n ih => exact fun q hq => lr_step q fun r hr => ih r (by omega)
end Go.Proofs.YtkjmddgnfgbioaaDoor


namespace Go.Proofs.YtkjmddgnfgbioaaDoor
set_option linter.unusedVariables false
set_option linter.unusedSimpArgs false
set_option maxRecDepth 100000
open Go.RowKit

theorem rename_size (vn : Nat → Ex.Bs) : ∀ (p : St.P) (en : List (Ex.Bs × Ex.Bs)) (m : Nat), (Sr.rn vn p en m).1.size ≤ p.size
  | .nil, _, _ => Nat.le_refl _
  | .cons k nm a b body els rest, en, m => by
    have hx : ∀ (en : List (Ex.Bs × Ex.Bs)) (e : Ex.X), (Sr.rnx en e).leaves = e.leaves := by
      intro en e
      induction e with
      | num n => rfl
      | name s => rfl
      | bad => rfl
      | two k a b ia ib => simp only [Sr.rnx, Ex.X.leaves, ia, ib]
    have ha := a.leaves_pos
    have hb := b.leaves_pos
    have z : (Ex.X.bad).leaves = 1 := rfl
    unfold Sr.rn
    split
    · have h1 := rename_size vn rest (en ++ [(nm, vn m)]) (m + 1)
      simp only [St.P.size, hx, z]
      omega
    split
    · have h1 := rename_size vn rest en m
      simp only [St.P.size, hx, z]
      omega
    split
    · have h1 := rename_size vn body en m
      have h2 := rename_size vn rest en (Sr.rn vn body en m).2
      simp only [St.P.size, hx, z]
      omega
    split
    · have h1 := rename_size vn body en m
      have h2 := rename_size vn els en (Sr.rn vn body en m).2
      have h3 := rename_size vn rest en (Sr.rn vn els en (Sr.rn vn body en m).2).2
      simp only [St.P.size, hx, z]
      omega
    split
    · have h1 := rename_size vn body (en ++ [(nm, vn m)]) (m + 1)
      have h2 := rename_size vn rest en (Sr.rn vn body (en ++ [(nm, vn m)]) (m + 1)).2
      simp only [St.P.size, hx, z]
      omega
    · have h1 := rename_size vn rest en m
      simp only [St.P.size, hx, z]
      omega
theorem lrename_top (p : St.P) (w : World) (D : Option Addr) (dl dc : Nat) (hp : IsP w (.slice D dl dc) p) (B : Nat) (hB : B ≤ w.heap.size) (hP : Pow B w) (hs : p.size ≤ 274877906944) :
    Calls Tryd.prog 35 #[.slice D dl dc] w fun e w' => ∃ A n c, e = .returned (.slice A n c) ∧ IsP w' (.slice A n c) (Sr.rename Sr.vn p) ∧ Below w.heap.size w w' := by
  obtain ⟨A, n, c, e, h1, h2, h3⟩ := hp
  injection e with e1 e2 e3
  subst e1 e2 e3
  have hL := lrename_any p w w.heap.size dl dc D (.slice none 0 0) [] 0 (Nat.le_refl _) h3 h1 h2 (SlV.nil _ _) (by intro b hb; simp [Value.ownBlock] at hb) (pow_up hP hB) hs (by simpa using hs) (by omega)
  go_enter Tryd.func35, Tryd.ntmps35
  go_wp2_with fail
  refine hL.mono ?_
  rintro e w' ⟨u, rfl, hsp, hb⟩
  have hi := hsp.is
  obtain ⟨A, n, c, rfl, -⟩ := id hi
  have HI := Lib.hid (And.intro hi hb)
  clear hL hsp hi hb h3
  go_wp2_with fail
  go_ret
  exact ⟨A, n, c, rfl, HI.out.1, HI.out.2⟩

theorem us_fin_len (p : St.P) (h : List Int) (fuel : Int) (hh : h.length = 8) : (Sr.fin p h fuel).heap.length = 8 := by
  unfold Sr.fin
  split
  · show (Sr.run p [] 0 (Sr.M0 h)).heap.length = 8
    rw [(Sr.run_on p [] 0 (Sr.M0 h)).heap]
    exact hh
  · rfl
set_option maxHeartbeats 8000000 in
theorem unfoldSame_any (p : St.P) (h : List Int) (fuel : Int) (w : World) (D : Option Addr) (dl dc : Nat) (hp : IsP w (.slice D dl dc) p) (hs : p.size ≤ 274877906944) (hh : h.length = 8) (hr : ∀ x ∈ h, Ex.rng x) (hPw : Pow w.heap.size w) :
    Calls Tryd.prog 8 #[.slice D dl dc, hcells h, .int .i64 fuel] w fun e w' => e = .returned (.bool true) ∧ Below w.heap.size w w' := by
  obtain ⟨b0, b1, b2, b3, b4, b5, b6, b7, rfl⟩ := Sr.heap8 hh
  have hsp := Nat.le_trans (rename_size Sr.vn p [] 0) hs
  have gU0 := fun w' (hp' : IsP w' (.slice D dl dc) p) => isP_unfold hp' [b0, b1, b2, b3, b4, b5, b6, b7] fuel hs rfl hr
  have gUf : ∀ (w' : World) (A : Option Addr) (n c : Nat), IsP w' (.slice A n c) (Sr.rename Sr.vn p) → _ := fun w' A n c hp' => isP_unfold hp' [b0, b1, b2, b3, b4, b5, b6, b7] fuel hsp rfl hr
  have hlaw : Sr.free p = [] → _ := fun hf => Un.same_un p [b0, b1, b2, b3, b4, b5, b6, b7] fuel hf
  have hE4 : Sr.err p [b0, b1, b2, b3, b4, b5, b6, b7] fuel ≠ 4 → Sr.free p = [] := fun hne => by
    apply Classical.byContradiction
    intro hf
    exact hne (by unfold Sr.err; rw [if_pos hf])
  obtain ⟨a0, a1, a2, a3, a4, a5, a6, a7, hfin0⟩ := Sr.heap8 (us_fin_len p [b0, b1, b2, b3, b4, b5, b6, b7] fuel rfl)
  obtain ⟨d0, d1, d2, d3, d4, d5, d6, d7, hfin⟩ := Sr.heap8 (us_fin_len (Sr.rename Sr.vn p) [b0, b1, b2, b3, b4, b5, b6, b7] fuel rfl)
  obtain ⟨E, hE⟩ : ∃ E, E = Sr.err p [b0, b1, b2, b3, b4, b5, b6, b7] fuel := ⟨_, rfl⟩
  obtain ⟨t, ht⟩ : ∃ t, t = Un.term p [b0, b1, b2, b3, b4, b5, b6, b7] fuel := ⟨_, rfl⟩
  obtain ⟨E', hE'⟩ : ∃ E, E = Sr.err (Sr.rename Sr.vn p) [b0, b1, b2, b3, b4, b5, b6, b7] fuel := ⟨_, rfl⟩
  obtain ⟨t', ht'⟩ : ∃ t, t = Un.term (Sr.rename Sr.vn p) [b0, b1, b2, b3, b4, b5, b6, b7] fuel := ⟨_, rfl⟩
  rw [← hE] at hE4
  rw [← hE', ← hE, ← ht', ← ht] at hlaw
  simp only [hcells, ← hE, ← ht, hfin0] at gU0
  simp only [hcells, ← hE', ← ht', hfin] at gUf
  simp only [hcells, ints, List.map_cons, List.map_nil] at gU0 gUf ⊢
  have hb0 : Below w.heap.size w (w.alloc (.cells #[.int .i64 b0, .int .i64 b1, .int .i64 b2, .int .i64 b3, .int .i64 b4, .int .i64 b5, .int .i64 b6, .int .i64 b7] 50)) := below_alloc (Below.refl _ _) _
  have x0 := Blk.new w 50 [.int .i64 b0, .int .i64 b1, .int .i64 b2, .int .i64 b3, .int .i64 b4, .int .i64 b5, .int .i64 b6, .int .i64 b7]
  have ip0 := hp.step hb0
  have HH := Lib.hid (And.intro hlaw hE4)
  clear hE ht hE' ht' hfin0 hfin hlaw hE4 hp hh hr hsp
  go_enter Tryd.func8, Tryd.ntmps8
  go_upto_region 1 with (fail)
  obtain ⟨Q, hQ⟩ : ∃ Q, Q = w.heap.size := ⟨_, rfl⟩
  generalize (w.alloc (.cells #[.int .i64 b0, .int .i64 b1, .int .i64 b2, .int .i64 b3, .int .i64 b4, .int .i64 b5, .int .i64 b6, .int .i64 b7] 50)) = W0 at hb0 x0 ip0 ⊢
  rw [← hQ] at x0 ⊢
  clear hQ
  go_wp2_with fail
  refine (alive14_any W0).mono ?_
  rintro e w1 ⟨rfl, hb1⟩
  replace x0 := x0.below hb1
  replace ip0 := ip0.step hb1
  replace hb0 := below_next hb1 hb0
  clear hb1
  have u0 := (x0.cell 0).trans rfl
  have u1 := (x0.cell 1).trans rfl
  have u2 := (x0.cell 2).trans rfl
  have u3 := (x0.cell 3).trans rfl
  have u4 := (x0.cell 4).trans rfl
  have u5 := (x0.cell 5).trans rfl
  have u6 := (x0.cell 6).trans rfl
  have u7 := (x0.cell 7).trans rfl
  simp only [List.getElem?_cons_zero, List.getElem?_cons_succ] at u0 u1 u2 u3 u4 u5 u6 u7
  have gC := gU0 w1 ip0
  have H0 := Lib.hid (And.intro x0 (And.intro ip0 (And.intro hb0 hPw)))
  clear gU0 x0 ip0 hb0 hPw
  go_wp2_with fail
  refine gC.mono ?_
  rintro e w2 ⟨k, c, b, l, A, n, cap, rfl, -, hks, hb2⟩
  clear u0 u1 u2 u3 u4 u5 u6 u7 gC
  have hB1 : Below w2.heap.size w2 ((w2.alloc (.cells zterm.toArray 59)).alloc (.cells zheap.toArray 50)) := below_alloc (below_alloc (Below.refl _ _) _) _
  have y1 := (Blk.new w2 59 zterm).alloc (.cells zheap.toArray 50)
  have y2 := Blk.new (w2.alloc (.cells zterm.toArray 59)) 50 zheap
  have hz : ((w2.alloc (.cells zterm.toArray 59)).alloc (.cells zheap.toArray 50)).heap.size = w2.heap.size + 1 + 1 := by simp
  simp only [World.size_alloc] at y2
  have hend : ∀ w7 w8, ((w2.alloc (.cells zterm.toArray 59)).alloc (.cells zheap.toArray 50)).grownBy w7 (some w2.heap.size) → w7.grownBy w8 (some (w2.heap.size + 1)) → Below w2.heap.size w2 w8 := fun w7 w8 g7 g8 => (hB1.trans (below_of_grown g7 (by omega) (by omega))).trans (below_of_grown g8 (by have := g7.size; omega) (by omega))
  have hx2 : ∀ w7, ((w2.alloc (.cells zterm.toArray 59)).alloc (.cells zheap.toArray 50)).grownBy w7 (some w2.heap.size) → Blk w7 (w2.heap.size + 1) 50 zheap := fun w7 g7 => y2.grown g7 (by intro e; injection e with e; omega)
  have HE := Lib.hid (And.intro hend (And.intro hx2 (And.intro hks hb2)))
  clear hend hB1 hz hx2 y2 hks hb2
  unfold zterm zheap at *
  go_upto_region 4 with (first | (refine wpl_put_blk y1 [.int .i64 k, .int .i64 c, .bool b, .int .i64 l, .slice A n cap] (by kernel_rfl) rfl (by intro v hv; simp at hv; rcases hv with rfl | rfl | rfl | rfl | rfl <;> rfl) rfl rfl rfl rfl ?_; intro w7 hB7 hg7; have hB72 := HE.out.2.1 w7 hg7) | (refine wpl_put_blk hB72 [.int .i64 a0, .int .i64 a1, .int .i64 a2, .int .i64 a3, .int .i64 a4, .int .i64 a5, .int .i64 a6, .int .i64 a7] (by kernel_rfl) rfl (by intro v hv; simp at hv; rcases hv with rfl | rfl | rfl | rfl | rfl | rfl | rfl | rfl <;> rfl) rfl rfl rfl rfl ?_; intro w3 hB8 hg8) | fail)
  obtain ⟨hend, -, hks, hb2⟩ := HE.out
  have hb23 := hend w7 w3 hg7 hg8
  have y3 := hB7.grown hg8 (by intro e; injection e with e; omega)
  obtain ⟨Q7, hQ7⟩ : ∃ Q7, Q7 = w2.heap.size := ⟨_, rfl⟩
  rw [← hQ7] at y3 ⊢
  have hks3 := hks.step_ hb23
  obtain ⟨x0, ip0, hb0, hPw⟩ := H0.out
  have hb13 := below_next hb23 hb2
  replace x0 := x0.below hb13
  replace ip0 := ip0.step hb13
  replace hb0 := below_next hb13 hb0
  clear hend hb23 hB7 hg7 hg8 hB72 y1 hQ7 HE hB8 hks hb2 hb13 H0
  have keepS : ∀ w', Below w3.heap.size w3 w' → (Below w3.heap.size w3 w' ∧ w'.cell? ⟨Q, 0, none⟩ = some (.int .i64 b0) ∧ w'.cell? ⟨Q, 1, none⟩ = some (.int .i64 b1) ∧ w'.cell? ⟨Q, 2, none⟩ = some (.int .i64 b2) ∧ w'.cell? ⟨Q, 3, none⟩ = some (.int .i64 b3) ∧ w'.cell? ⟨Q, 4, none⟩ = some (.int .i64 b4) ∧ w'.cell? ⟨Q, 5, none⟩ = some (.int .i64 b5) ∧ w'.cell? ⟨Q, 6, none⟩ = some (.int .i64 b6) ∧ w'.cell? ⟨Q, 7, none⟩ = some (.int .i64 b7)) := fun w' hb => by
    have hx := x0.below hb
    exact ⟨hb, (hx.cell 0).trans rfl, (hx.cell 1).trans rfl, (hx.cell 2).trans rfl, (hx.cell 3).trans rfl, (hx.cell 4).trans rfl, (hx.cell 5).trans rfl, (hx.cell 6).trans rfl, (hx.cell 7).trans rfl⟩
  have hS0 := keepS _ (below_drew (Below.refl _ _))
  have gP : ∀ w', Below w3.heap.size w3 w' → _ := fun w' (hb : Below w3.heap.size w3 w') => lrename_top p w' D dl dc (ip0.step hb) w.heap.size (below_next hb hb0).size (hPw.later (below_next hb hb0)) hs
  have HZ := Lib.hid (And.intro y3 (And.intro hks3 hb0))
  clear ip0 x0 y3 hks3 hb0 hPw
  go_wp2_with fail
  refine wp_walk_pg 13 (fun i => ([11,12] : List Nat).contains i) (fun i => ([7,8,10] : List Nat).contains i) [11,12] (by intro m h; simpa using h) (by kernel_rfl) (by kernel_rfl) (by kernel_rfl) [10] (by kernel_rfl) (fun w w' => Below w.heap.size w w') (fun w w' => ∀ q, Blk8 w q → Blk8 w' q) (fun w' => (Below w3.heap.size w3 w' ∧ w'.cell? ⟨Q, 0, none⟩ = some (.int .i64 b0) ∧ w'.cell? ⟨Q, 1, none⟩ = some (.int .i64 b1) ∧ w'.cell? ⟨Q, 2, none⟩ = some (.int .i64 b2) ∧ w'.cell? ⟨Q, 3, none⟩ = some (.int .i64 b3) ∧ w'.cell? ⟨Q, 4, none⟩ = some (.int .i64 b4) ∧ w'.cell? ⟨Q, 5, none⟩ = some (.int .i64 b5) ∧ w'.cell? ⟨Q, 6, none⟩ = some (.int .i64 b6) ∧ w'.cell? ⟨Q, 7, none⟩ = some (.int .i64 b7))) (fun c ρ w' => match c with | 0 => True | 1 => IT w3.heap.size t' (ρ 10) w' | _ + 2 => IT w3.heap.size t' (ρ 10) w') hS0 (fun _ => trivial) (fun c ρ w w' h k => match c, h with | 0, _ => trivial | 1, h => IT.step h k | _ + 2, h => IT.step h k) (fun _ _ _ _ => trivial) (fun c ρ ρ' w h k => match c, k with | 0, _ => trivial | 1, k => IT.cong k (h 10 (by simp)) | _ + 2, k => IT.cong k (h 10 (by simp))) ?_
  simp only [List.length_cons, List.length_nil, Nat.reduceAdd, Nat.reduceSub, List.take_succ_cons, List.take_zero, List.drop_succ_cons, List.drop_zero]
  repeat (first | (refine gsettle_skip (by rfl) (fun _ => by rfl) ?_; (simp only [Act.put, List.setIfInBounds_toArray, List.set_cons_zero, List.set_cons_succ])) | (refine' gsettle_run (by rfl) (fun _ _ => Below.refl _ _) (fun _ => by rfl) ?_ ?_; rotate_left; (focus (intro ρ w hS hF hP hU; (try dsimp only at hS); go_split_ands; go_simp; try with_reducible rfl)); (simp only [Act.put, List.setIfInBounds_toArray, List.set_cons_zero, List.set_cons_succ])))
  (refine gsettle_known (FPu (Sr.rename Sr.vn p)) (by rfl) (by rfl) (by rfl) (fun _ => by rfl)  ?_ ?_; (focus (intro ρ w hS hF hP hU K hK; (simp only [Act.put, List.setIfInBounds_toArray, List.set_cons_zero, List.set_cons_succ] at hK); go_simp; (go_at_call 35; refine (gP _ hS.1).mono ?_; rintro e w' ⟨A, n, c, rfl, h1, hb'⟩; exact hK _ _ ⟨A, n, c, rfl, h1⟩ (keepS _ (below_next hb' hS.1)) hb'))); (simp only [Act.put, List.setIfInBounds_toArray, List.set_cons_zero, List.set_cons_succ]))
  repeat (first | (refine gsettle_skip (by rfl) (fun _ => by rfl) ?_; (simp only [Act.put, List.setIfInBounds_toArray, List.set_cons_zero, List.set_cons_succ])) | (refine' gsettle_run (by rfl) (fun _ _ => Below.refl _ _) (fun _ => by rfl) ?_ ?_; rotate_left; (focus (intro ρ w hS hF hP hU; (try dsimp only at hS); go_split_ands; go_simp; try with_reducible rfl)); (simp only [Act.put, List.setIfInBounds_toArray, List.set_cons_zero, List.set_cons_succ])))
  (refine gsettle_known (FUn #[.int .i64 d0, .int .i64 d1, .int .i64 d2, .int .i64 d3, .int .i64 d4, .int .i64 d5, .int .i64 d6, .int .i64 d7] E' t') (by rfl) (by rfl) (by rfl) (fun _ => by rfl)  ?_ ?_; (focus (intro ρ w hS hF hP hU K hK; (simp only [Act.put, List.setIfInBounds_toArray, List.set_cons_zero, List.set_cons_succ] at hK); go_simp; (obtain ⟨A0, n0, c0, e14, h14⟩ := hF.1 (by rfl); rw [e14] at hK ⊢; go_at_call 34; refine (gUf _ _ _ _ h14).mono ?_; rintro e w' ⟨k, c, b, l, A, n, cap, rfl, -, h2, hb'⟩; exact hK _ _ ⟨k, c, b, l, A, n, cap, rfl, h2⟩ (keepS _ (below_next hb' hS.1)) hb'))); (simp only [Act.put, List.setIfInBounds_toArray, List.set_cons_zero, List.set_cons_succ]))
  (refine gsettle_known (FUn #[.int .i64 d0, .int .i64 d1, .int .i64 d2, .int .i64 d3, .int .i64 d4, .int .i64 d5, .int .i64 d6, .int .i64 d7] E' t') (by rfl) (by rfl) (by rfl) (fun _ => by rfl)  ?_ ?_; (focus (intro ρ w hS hF hP hU K hK; (simp only [Act.put, List.setIfInBounds_toArray, List.set_cons_zero, List.set_cons_succ] at hK); go_simp; exact hK _ _ (hF.1 (by rfl)) hS (Below.refl _ _))); (simp only [Act.put, List.setIfInBounds_toArray, List.set_cons_zero, List.set_cons_succ]))
  (refine gsettle_known (FTu t') (by rfl) (by rfl) (by rfl) (fun _ => by rfl)  ?_ ?_; (focus (intro ρ w hS hF hP hU K hK; (simp only [Act.put, List.setIfInBounds_toArray, List.set_cons_zero, List.set_cons_succ] at hK); go_simp; (obtain ⟨k, c, b, l, A, n, cap, e12, h12⟩ := hF.1 (by rfl); generalize ρ 23 = v12 at e12 hK ⊢; subst e12; go_simp; exact hK _ _ ⟨k, c, b, l, A, n, cap, rfl, h12⟩ hS (Below.refl _ _)))); (simp only [Act.put, List.setIfInBounds_toArray, List.set_cons_zero, List.set_cons_succ]))
  (refine gsettle_run (v := .agg #[.int .i64 d0, .int .i64 d1, .int .i64 d2, .int .i64 d3, .int .i64 d4, .int .i64 d5, .int .i64 d6, .int .i64 d7]) (by rfl) (fun _ _ => Below.refl _ _) (fun _ => by rfl) ?_ ?_; (focus (intro ρ w hS hF hP hU2; obtain ⟨w9, k, c, b, l, A, n, cap, e12, -⟩ := hU2.1 23 (FUn #[.int .i64 d0, .int .i64 d1, .int .i64 d2, .int .i64 d3, .int .i64 d4, .int .i64 d5, .int .i64 d6, .int .i64 d7] E' t') (by repeat (first | exact List.mem_cons_self | apply List.mem_cons_of_mem)) (by decide); generalize ρ 23 = v12 at e12 ⊢; subst e12; go_simp)); (simp only [Act.put, List.setIfInBounds_toArray, List.set_cons_zero, List.set_cons_succ]))
  (refine gsettle_run (v := .int .i64 E') (by rfl) (fun _ _ => Below.refl _ _) (fun _ => by rfl) ?_ ?_; (focus (intro ρ w hS hF hP hU2; obtain ⟨w9, k, c, b, l, A, n, cap, e12, -⟩ := hU2.1 23 (FUn #[.int .i64 d0, .int .i64 d1, .int .i64 d2, .int .i64 d3, .int .i64 d4, .int .i64 d5, .int .i64 d6, .int .i64 d7] E' t') (by repeat (first | exact List.mem_cons_self | apply List.mem_cons_of_mem)) (by decide); generalize ρ 23 = v12 at e12 ⊢; subst e12; go_simp)); (simp only [Act.put, List.setIfInBounds_toArray, List.set_cons_zero, List.set_cons_succ]))
  (refine gsettle_known (FZu w3.heap.size 59 zterm) (by rfl) (by rfl) (by rfl) (fun _ => by rfl)  ?_ ?_; (focus (intro ρ w hS hF hP hU K hK; (simp only [Act.put, List.setIfInBounds_toArray, List.set_cons_zero, List.set_cons_succ] at hK); go_simp; exact hK _ _ ⟨_, rfl, hS.1.size, Blk.new _ _ zterm⟩ (keepS _ (below_alloc hS.1 _)) (below_alloc (Below.refl _ _) _))); (simp only [Act.put, List.setIfInBounds_toArray, List.set_cons_zero, List.set_cons_succ]))
  (refine gsettle_float (FH8 w3.heap.size) (fun v w w' ⟨g, h1, h2, h3⟩ k ↦ ⟨g, h1, h2, k _ h3⟩) (by rfl) (by rfl) (by rfl) (fun _ => by rfl) ?_ ?_; (focus (intro ρ w hS hF hP hU K hK; (simp only [Act.put, List.setIfInBounds_toArray, List.set_cons_zero, List.set_cons_succ] at hK); go_simp; exact hK _ _ ⟨_, rfl, hS.1.size, zheap, rfl, Blk.new _ _ zheap⟩ (keepS _ (below_alloc hS.1 _)) (below_alloc (Below.refl _ _) _))); (simp only [Act.put, List.setIfInBounds_toArray, List.set_cons_zero, List.set_cons_succ]))
  (refine gsettle_turn (v := undef) (by rfl) (fun _ => by rfl) ?_ ?_; (focus (intro ρ w hS hF hP hU K hK; (simp only [Act.put, List.setIfInBounds_toArray, List.set_cons_zero, List.set_cons_succ] at hK); (obtain ⟨S, hv, hg1, hB⟩ := hF.2.1 (by rfl); obtain ⟨k, c, b, l, A, n, cap, e18, h18⟩ := hF.2.2.1 (by rfl); refine wp_put_blk hB [.int .i64 k, .int .i64 c, .bool b, .int .i64 l, .slice A n cap] (by kernel_rfl) rfl (by intro v hv; simp at hv; rcases hv with rfl | rfl | rfl | rfl | rfl <;> rfl) rfl hv e18 ?_; intro w5 hB5 hg5; exact hK _ (keepS _ (hS.1.trans (below_of_grown hg5 hS.1.size hg1))) ⟨S, k, c, b, l, A, n, cap, hv, hg1, hB5, (h18.put_short hB (by decide) hg5 (Nat.le_refl _)).up hg5.size⟩ (fun q ⟨cs, hl, hq⟩ => ⟨cs, hl, hq.grown hg5 (fun e => by injection e with e; subst e; exact absurd (blk_type hq hB) (by decide))⟩)))); (simp only [Act.put, List.setIfInBounds_toArray, List.set_cons_zero, List.set_cons_succ]))
  (refine gsettle_turn (v := undef) (by rfl) (fun _ => by rfl) ?_ ?_; (focus (intro ρ w hS hF hP hU K hK; (simp only [Act.put, List.setIfInBounds_toArray, List.set_cons_zero, List.set_cons_succ] at hK); (obtain ⟨S, k, c, b, l, A, n, cap, hv, hg1, hB, h18⟩ := hP (by rfl); obtain ⟨H, hv8, hg8, cs8, hl8, hB8⟩ := hU.2 11 (FH8 w3.heap.size) (by repeat (first | exact List.mem_cons_self | apply List.mem_cons_of_mem)) (by decide); refine wp_put_blk hB8 [.int .i64 d0, .int .i64 d1, .int .i64 d2, .int .i64 d3, .int .i64 d4, .int .i64 d5, .int .i64 d6, .int .i64 d7] (by rw [hl8]; kernel_rfl) (by rw [hl8]; rfl) (by intro v hv; simp at hv; rcases hv with rfl | rfl | rfl | rfl | rfl | rfl | rfl | rfl <;> rfl) rfl hv8 rfl ?_; intro w5 hB5 hg5; exact hK _ (keepS _ (hS.1.trans (below_of_grown hg5 hS.1.size hg8))) ⟨S, k, c, b, l, A, n, cap, hv, hg1, hB.grown hg5 (fun e => by injection e with e; subst e; exact absurd (blk_type hB hB8) (by decide)), (h18.put_short hB8 (by omega) hg5 (Nat.le_refl _)).up hg5.size⟩ (blk8_put rfl hB5 hg5)))); (simp only [Act.put, List.setIfInBounds_toArray, List.set_cons_zero, List.set_cons_succ]))
  refine gsettle_nil ?_
  intro ρ w6 hS hI hF hG
  obtain ⟨S, k', c', b', l', A', n', cap', e7, hSg, q06, ks6⟩ := hI
  have hb36 := hS.1
  obtain ⟨y3, hks3, hb0⟩ := HZ.out
  have y6 := y3.below hb36
  have hks6 := hks3.step_ hb36
  have hb06 := below_next hb36 hb0
  clear hF hG keepS hS0 hS gP gUf HZ y3 hks3 hb0
  dsimp only
  rw [e7]
  clear e7
  by_cases h4 : E = 4
  · subst h4
    have HF := Lib.hid hb06
    clear y6 hks6 hb06 q06 ks6 hSg hb36
    go_wp2_with fail
    go_ret
    exact ⟨rfl, HF.out⟩
  · obtain ⟨e1, e2⟩ := HH.out.1 (HH.out.2 h4)
    subst e1 e2
    have hf4 : (E' == 4) = false := by simpa using h4
    have hfe : (E' == E') = true := by simp
    obtain ⟨k1, c1, b1', l1, kids, A1, cap1, ds1, A1', cap1', ds1', f1, f2, ⟨g1, g2, g3, g4⟩, ⟨i1, i2, i3, i4⟩, -⟩ := hks6.two_at ks6 (i := 0) (by rw [Ks.of_len]; omega)
    have j0 := f1 0 _ rfl
    have j1 := f1 1 _ rfl
    have j2 := f1 2 _ rfl
    have j3 := f1 3 _ rfl
    have j4 := f1 4 _ rfl
    have l0 := f2 0 _ rfl
    have l1' := f2 1 _ rfl
    have l2 := f2 2 _ rfl
    have l3 := f2 3 _ rfl
    have l4 := f2 4 _ rfl
    simp only [tcells, Nat.zero_mul, Nat.zero_add, List.getElem?_cons_zero, List.getElem?_cons_succ, Option.some.injEq, Value.int.injEq, Value.bool.injEq, Value.slice.injEq, true_and] at j0 j1 j2 j3 j4 l0 l1' l2 l3 l4
    obtain ⟨rfl, rfl, rfl⟩ := j4
    obtain ⟨rfl, rfl, rfl⟩ := l4
    subst j0 j1 j2 j3 l0 l1' l2 l3
    have gS := fun (k c : Int) (b : Bool) (l : Int) => same_term_any kids w6 k c b l _ _ _ _ _ _ g1 g2 i1 i2 g3 g4 i3 i4
    clear g1 g2 i1 i2 g3 g4 i3 i4 f1 f2 hks6 ks6
    unfold tcells at gS
    have v0 := (y6.cell 0).trans rfl
    have v1 := (y6.cell 1).trans rfl
    have v2 := (y6.cell 2).trans rfl
    have v3 := (y6.cell 3).trans rfl
    have v4 := (y6.cell 4).trans rfl
    have s0 := (q06.cell 0).trans rfl
    have s1 := (q06.cell 1).trans rfl
    have s2 := (q06.cell 2).trans rfl
    have s3 := (q06.cell 3).trans rfl
    have s4 := (q06.cell 4).trans rfl
    simp only [List.getElem?_cons_zero, List.getElem?_cons_succ] at v0 v1 v2 v3 v4 s0 s1 s2 s3 s4
    have HF := Lib.hid hb06
    clear y6 q06 hb06 hb36 hSg
    go_wp2_with fail
    refine (gS _ _ _ _).mono ?_
    rintro _ w7 ⟨rfl, hb7⟩
    have HG := Lib.hid (below_next hb7 HF.out)
    clear gS hb7 v0 v1 v2 v3 v4 s0 s1 s2 s3 s4
    go_wp2_with fail
    go_ret
    exact ⟨rfl, HG.out⟩
end Go.Proofs.YtkjmddgnfgbioaaDoor


namespace Go.Proofs.YtkjmddgnfgbioaaDoor
set_option linter.unusedVariables false
set_option linter.unusedSimpArgs false
set_option maxRecDepth 100000
open Go.ChangeShapes Go.WideShapes Go.ChangeAt Go.RowKit

theorem open_arg_stmts {H : Type} {enc : TypeId × Value → H} {W : World} {base : Nat} {v : Value} {d : DataW H} {p : List MemPlace} (hv : Value.okWide Tryd.prog W .any base 34 v) (h : DataW.Trod enc Tryd.prog W 0 (fun _ => true) true 34 v d p) (hlt : ∀ x ∈ p, x.block < W.heap.size) :
    ∃ (A : Option Addr) (n c : Nat) (t : St.P), v = .slice A n c ∧ IsP W (.slice A n c) t ∧ t.size ≤ Rows.uptoBulk d := by
  obtain ⟨a, len, cap, rfl⟩ := okWide_slice Tryd.underlying34 hv
  obtain ⟨fuel, hf⟩ := h
  obtain ⟨A, n, c, t, e, h1, h2, h3, h4⟩ := open_stmts fuel (.slice a len cap) (d, p) (by simpa [Value.cells] using hf) hlt
  exact ⟨a, len, cap, t, rfl, ⟨A, n, c, e, h1, h2, h3⟩, h4⟩

end Go.Proofs.YtkjmddgnfgbioaaDoor


namespace Go.Proofs.YtkjmddgnfgbioaaDoor
set_option linter.unusedVariables false
set_option linter.unusedSimpArgs false
set_option maxRecDepth 100000
open Go.ChangeShapes Go.WideShapes Go.ChangeAt Go.RowKit
set_option linter.unusedVariables false

theorem gPow : Tryd.prog.globalNamed "internal/strconv.uint64pow10" = some 1 := by kernel_rfl
theorem gPowType : (Tryd.prog.globals[1]?).map (·.type) = some 252 := by kernel_rfl
theorem cellsPow : Tryd.prog.cellsOf 252 = 20 := by kernel_rfl
theorem cellsWord : Tryd.prog.cellsOf 25 = 1 := by kernel_rfl
abbrev laidAll : List (String × DataW Unit) := [("math/bits.deBruijn32tab", Rows.laid_math_bits_deBruijn32tab), ("math/bits.deBruijn64tab", Rows.laid_math_bits_deBruijn64tab), ("internal/strconv.uint64pow10", Rows.laid_internal_strconv_uint64pow10)]
theorem pow_of {W : World} (h : laidMetH Tryd.prog laidAll W) : Pow W.heap.size W := by
  have h1 := laidMetH.filter (fun x => x.1 == "internal/strconv.uint64pow10") h
  have e : (laidAll.filter fun x => x.1 == "internal/strconv.uint64pow10") = [("internal/strconv.uint64pow10", Lib.tabData .u64 Lib.pow10Tab)] := by kernel_rfl
  rw [e] at h1
  exact Lib.tabBelow_of_tabIs (Lib.tabIs_of_head (rest := []) gPow gPowType Tryd.underlying252 Tryd.underlying25 cellsWord cellsPow h1)
def datVals : DataW Unit → Array Value
  | .agg l => (l.map fun d => match d with | .lit (.int k z) => Value.int k z | _ => .int .i64 0).toArray
  | _ => #[]
def layIn (d : DataW Unit) : Obj → Obj
  | .cells _ t frozen => .cells (datVals d) t frozen
  | o => o
noncomputable def laidWorld (os : Os) : World :=
  { World.holding Tryd.prog os ⟨#[], #[], []⟩ with heap := (((World.holding Tryd.prog os ⟨#[], #[], []⟩).heap.modify 2 (layIn Rows.laid_math_bits_deBruijn32tab)).modify 0 (layIn Rows.laid_math_bits_deBruijn64tab)).modify 1 (layIn Rows.laid_internal_strconv_uint64pow10) }
end Go.Proofs.YtkjmddgnfgbioaaDoor
