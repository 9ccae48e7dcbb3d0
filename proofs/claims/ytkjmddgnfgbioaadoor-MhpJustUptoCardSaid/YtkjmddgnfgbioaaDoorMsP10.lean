/-
  An argument that is a list of statements, at a law's end.
-/
import Derived.Test.YtkjmddgnfgbioaaDoorMsP8
import Derived.Test.YtkjmddgnfgbioaaDoorMsP9
import Derived.Test.YtkjmddgnfgbioaaDoorChecked
import Derived.Test.YtkjmddgnfgbioaaDoorMsP2
import Derived.Test.YtkjmddgnfgbioaaDoorMsP5
import Derived.Test.YtkjmddgnfgbioaaDoorMsP1
import Derived.Test.YtkjmddgnfgbioaaDoorMsP3
import Derived.Deep.RegionLaw
import Derived.Test.YtkjmddgnfgbioaaDoorMsP4
import Derived.Test.YtkjmddgnfgbioaaDoorRows
import Derived.Laws.StructEq
import Derived.OpenShut
import Derived.Test.YtkjmddgnfgbioaaDoorCards
import Derived.Test.YtkjmddgnfgbioaaDoorTie
import Derived.WalkKit
import Derived.ProofKit
import Derived.Deep.DeepHandedRow
import Derived.Lib.LaidTab

namespace Go.Proofs.YtkjmddgnfgbioaaDoor
set_option linter.unusedVariables false
set_option linter.unusedSimpArgs false
set_option maxRecDepth 100000
open Go.RowKit
def hcells (h : List Int) : Value := .agg (ints .i64 h).toArray
end Go.Proofs.YtkjmddgnfgbioaaDoor


namespace Go.Proofs.YtkjmddgnfgbioaaDoor
set_option linter.unusedVariables false
set_option linter.unusedSimpArgs false
set_option maxRecDepth 100000
open Go.RowKit

theorem ublock_any : ∀ p : St.P, BlockU p := by
  suffices h : ∀ (n : Nat) (p : St.P), p.size ≤ n → BlockU p from fun p => h _ p (Nat.le_refl _)
  intro n
  induction n with
  | zero =>
    intro p hs w B n c g F A v ve m zs l k hp hnc hc hB hbl hf hF hv hz hl hk
    obtain ⟨VE, ce, rfl, -⟩ := hv.sl
    cases hp with
    | nil => exact block_nil w g F m A c v _ l k hbl hf VE zs.length ce rfl hk
    | cons => simp [St.P.size] at hs
  | succ n ih =>
    intro p hs w B n' c g F A v ve m zs l k hp hnc hc hB hbl hf hF hv hz hl hk
    obtain ⟨VE, ce, rfl, -⟩ := hv.sl
    cases hp with
    | nil => exact block_nil w g F m A c v _ l k hbl hf VE zs.length ce rfl hk
    | cons gA o n2 kd nm ca cb ea eb D dl dc E el ec body els rest h1 h2 h3 h4 h5 h6 h7 h8 h9 h10 h11 =>
      obtain ⟨ak, an, sa, aA, al, ac, rfl, -, -⟩ := h7.form
      obtain ⟨bk, bn, sb, bA, bl, bc, rfl, -, -⟩ := h8.form
      exact block_cons _ (fun q hq => ih q (by omega)) w B n2 c g F v m VE ce zs l k gA o kd nm ak an sa aA al ac bk bn sb bA bl bc D dl dc E el ec ea eb body els rest rfl h1 ⟨h2, h3, h4, h5⟩ h6 h7 h8 h9 h10 h11 hnc hc hB hbl hf hF hv hz hl hk

/-- Unfold: the term as sp sees it, too -/
theorem unfold_any (p : St.P) (h : List Int) (fuel : Int) (w : World) (B n c : Nat) (A : Option Addr) (hB : B ≤ w.heap.size) (hp : PR B w A n p) (hnc : n ≤ c) (hc : c ≤ maxLen) (hsz : p.size ≤ 274877906944) (hh : h.length = 8) (hr : ∀ x ∈ h, Ex.rng x) :
    Calls Tryd.prog 34 #[.slice A n c, .agg (ints .i64 h).toArray, .int .i64 fuel] w fun e w' =>
      ∃ cs : List Value, e = .returned (.tuple #[.agg cs.toArray, .agg (ints .i64 (Sr.fin p h fuel).heap).toArray, .int .i64 (Sr.err p h fuel)]) ∧ TmR w'.heap.size w' cs (Un.term p h fuel) ∧ KsR w'.heap.size w' cs (Ks.of (Un.term p h fuel)) ∧ Below w.heap.size w w' := by
  refine (unf_any ublock_any p h fuel w B n c A hB hp hnc hc hsz hh hr).mono ?_
  rintro e w' ⟨cs, h1, h2, h3⟩
  have h4 := h2.read
  have h5 := h4.terms 0 (Un.term p h fuel) (by rw [Ks.of_tt]; rfl)
  have h6 : cs.length = 5 := by rw [h4.length, Ks.of_len]
  rw [Nat.zero_mul, List.drop_zero, List.take_of_length_le (by omega)] at h5
  exact ⟨cs, h1, h5, h4, h3⟩
end Go.Proofs.YtkjmddgnfgbioaaDoor


namespace Go.Proofs.YtkjmddgnfgbioaaDoor
set_option linter.unusedVariables false
set_option linter.unusedSimpArgs false
set_option maxRecDepth 100000
open Go.RowKit

/-- what gathers leaves, in block g: the row that it has so far -/
structure Lv (B : Nat) (w : World) (g : Nat) (v : Value) (n : Nat) (xs : List Value) : Prop where
  blk : Blk w g 132 [v]
  row : w.ownsRow B 56 3 v n xs
  base : B ≤ w.heap.size
  at_ : B ≤ g
  ne : v.ownBlock ≠ some g

def LvEnd (B : Nat) (w : World) (g : Nat) (v : Value) (n : Nat) (xs : List Value) : Ending → World → Prop := fun e w' =>
  e = .returned (.tuple #[]) ∧ ∃ v', Lv B w' g v' n xs ∧ Keeps (fun k => k = g ∨ v.ownBlock = some k) w w' ∧ (∀ i, v'.ownBlock = some i → v.ownBlock = some i ∨ w.heap.size ≤ i)

theorem lv_put {B : Nat} {w w0 w4 : World} {g n n' : Nat} {v v' : Value} {xs xs' : List Value} {o : Obj} (hL : Lv B w0 g v n xs) (hk0 : Keeps (fun k => k = g ∨ v.ownBlock = some k) w w0) (hg4 : (w0.alloc o).drew.grownBy w4 v.ownBlock) (hown : w4.ownsRow B 56 3 v' n' xs')
    (hv4 : v'.ownBlock = v.ownBlock ∨ v'.ownBlock = some (w0.alloc o).drew.heap.size) : ∃ v'', Lv B (w4.setCell ⟨g, 0, none⟩ v') g v'' n' xs' ∧ Keeps (fun k => k = g ∨ v.ownBlock = some k) w (w4.setCell ⟨g, 0, none⟩ v') ∧ (∀ i, v''.ownBlock = some i → v.ownBlock = some i ∨ w.heap.size ≤ i) := by
  have kk : Keeps (fun k => v.ownBlock = some k) w0 w4 := (((Keeps.refl _ w0).alloc o).drewN 1).trans ((Keeps.of_grown hg4).mono (fun i hi => hi.symm))
  have hne : v'.ownBlock ≠ some g := fun e => by
    rcases hv4 with h | h
    · exact hL.ne (h ▸ e)
    · rw [h] at e
      injection e with e
      have := hL.blk.lt
      simp at e; omega
  have hb4 := hL.blk.keeps kk hL.ne
  have ks : Keeps (fun k => k = g) w4 (w4.setCell ⟨g, 0, none⟩ v') := (Keeps.of_grown (grown_setCell w4 g 0 v')).mono (fun i hi => by injection hi)
  refine ⟨v', ⟨?_, own_keeps hown ks (fun i hi e => hne (e ▸ hi)), by have := hL.base; have := kk.size; have := ks.size; omega, hL.at_, hne⟩, (hk0.trans (kk.mono (fun i hi => .inr hi))).trans (ks.mono (fun i hi => .inl hi)), fun i hi => ?_⟩
  · have := hb4.set_ 0 v'
    simpa using this
  · rcases hv4 with h | h
    · exact .inl (h ▸ hi)
    · rw [h] at hi
      injection hi with hi
      have := hk0.size
      simp at hi
      exact .inr (by omega)

theorem lv_nothing (B : Nat) (w : World) (g : Nat) (v : Value) (n : Nat) (xs : List Value) (h : Lv B w g v n xs) :
    Calls Tryd.prog 195 #[.pointer (some ⟨g, 0, none⟩)] w (LvEnd B w g v n xs) := by
  go_enter Tryd.func195, Tryd.ntmps195
  go_wp2
  go_end0
  exact ⟨rfl, v, h, Keeps.refl _ _, fun i hi => .inl hi⟩

theorem lv_one (B : Nat) (w : World) (g : Nat) (v : Value) (n : Nat) (xs : List Value) (h : Lv B w g v n xs) (a : Sp.Acc) (hn : n ≤ 4194304) :
    Calls Tryd.prog 196 #[.pointer (some ⟨g, 0, none⟩), .agg #[.int .i64 a.1, .bool a.2.1, .int .i64 a.2.2]] w (LvEnd B w g v (n + 1) (xs ++ Sp.accc a)) := by
  obtain ⟨a1, a2, a3⟩ := a
  simp only
  go_enter Tryd.func196, Tryd.ntmps196
  go_wp2_with fail
  have hB := Blk.new w 56 (Sp.accc (a1, a2, a3))
  have hL : Lv B (w.alloc (.cells (Sp.accc (a1, a2, a3)).toArray 56)) g v n xs := ⟨h.blk.alloc _, h.row.alloc _, by have := h.base; simp; omega, h.at_, h.ne⟩
  have hk0 : Keeps (fun k => k = g ∨ v.ownBlock = some k) w (w.alloc (.cells (Sp.accc (a1, a2, a3)).toArray 56)) := (Keeps.refl _ w).alloc _
  have hvw : ∀ i, v.ownBlock = some i → i < w.heap.size := fun i hi => (h.row.lt i hi).2
  have hgw := h.blk.lt
  obtain ⟨q, hq⟩ : ∃ q, q = w.heap.size := ⟨_, rfl⟩
  have hB' : Blk (w.alloc (.cells (Sp.accc (a1, a2, a3)).toArray 56)) q 56 (Sp.accc (a1, a2, a3)) := by rw [hq]; exact hB
  have hqs : q < (w.alloc (.cells (Sp.accc (a1, a2, a3)).toArray 56)).heap.size := by rw [hq]; simp
  show Code.wp _ _ _ _ (w.alloc (.cells (Sp.accc (a1, a2, a3)).toArray 56))
  rw [← hq]
  generalize (w.alloc (.cells (Sp.accc (a1, a2, a3)).toArray 56)) = w0 at hB' hL hk0 hqs ⊢
  clear hB h hq
  have c0 := hL.blk.cell 0
  simp only [List.getElem?_cons_zero] at c0
  have d0 := hB'.cell 0
  have d1 := hB'.cell 1
  have d2 := hB'.cell 2
  simp only [Sp.accc, List.getElem?_cons_zero, List.getElem?_cons_succ] at d0 d1 d2
  have n63 : n + 1 ≤ maxLen := by unfold maxLen; omega
  have n47 : (n + 1) * 24 ≤ 140737488355328 := by omega
  have fz : ∀ w', Keeps (fun k => v.ownBlock = some k) w0 w' → w'.frozen? ⟨g, 0, none⟩ = false ∧ w'.cell? ⟨g, 0, none⟩ = some v := fun w' hk => by
    have hb := hL.blk.keeps hk hL.ne
    exact ⟨hb.frozen 0, by rw [hb.cell]; rfl⟩
  have hrow : ∀ o : Obj, (w0.alloc o).drew.ownsRow B 56 3 v n xs := fun o => (hL.row.alloc o).drew
  have hba : ∀ o : Obj, B ≤ (w0.alloc o).drew.heap.size := fun o => by have := hL.base; simp; omega
  have hgl := hL.blk.lt
  go_region_law (refine step_append _ _ _ _ _ _ _ _ Tryd.underlying63 Sp.info_acc rfl (by decide) (hrow _) (show Cells _ _ _ (Sp.accc (a1, a2, a3)) from Cells.new w0 _ 56) rfl (Sp.acc_one _) n63 n47 (hba _) rfl rfl rfl rfl ?_; intro v4 w4 hown4 hg4 hv4 hb4; obtain ⟨A4, k4, rfl, hle4, hm4⟩ := own_slice hown4; obtain ⟨f4, c4⟩ := fz w4 (((Keeps.refl _ w0).alloc _).drewN 1 |>.trans ((Keeps.of_grown hg4).mono (fun i hi => hi.symm))))
  all_goals
    have hend := lv_put hL hk0 hg4 hown4 hv4
    clear hb4 hg4 hown4 hv4 hrow hba fz f4 c4 c0 d0 d1 d2 hB' hL hk0
    go_end0
    exact ⟨rfl, hend⟩

/-- what tell does, whoever is told -/
theorem tell_nil {B : Nat} {w : World} {cs : List Value} (hT : TmR B w cs .nil) {ty : TypeId} {p : Value} {f : FuncId} {R : World → Prop} (hme : ∀ (k : Nat) (w : World), (method (k + 1) ty p "forkwright/sp.nothing").run Tryd.prog w = .ok (f, p) w) (hcf : ∀ (args : Array Value) (w : World), (callFunc f args).run Tryd.prog w = .ok (.enter f args) w)
    (hc : Calls Tryd.prog f #[p] (w.alloc (.cells cs.toArray 59)) fun e w' => e = .returned (.tuple #[]) ∧ R w') :
    Calls Tryd.prog 81 #[.agg cs.toArray, .iface ty p] w fun e w' => e = .returned (.tuple #[]) ∧ R w' := by
  cases hT with
  | nil k c b l A m cap hm hcap hk1 hk2 =>
  unfold tcells at hc ⊢
  unfold maxLen at hcap
  have e1 : (k == 1) = false := by simpa using hk1
  by_cases k2 : k = 2
  · subst k2
    have hm2 : ¬ 2 ≤ m := fun h => hk2 ⟨.inl rfl, h⟩
    clear hk2 hk1
    go_enter Tryd.func81, Tryd.ntmps81
    go_wp2_with fail
    refine hc.mono ?_
    rintro e w1 ⟨rfl, hR⟩
    go_wp2
    go_end0
    exact ⟨rfl, hR⟩
  · have e2 : (k == 2) = false := by simpa using k2
    by_cases k3 : k = 3
    · subst k3
      have hm2 : ¬ 2 ≤ m := fun h => hk2 ⟨.inr rfl, h⟩
      clear hk2 hk1
      go_enter Tryd.func81, Tryd.ntmps81
      go_wp2_with fail
      refine hc.mono ?_
      rintro e w1 ⟨rfl, hR⟩
      go_wp2
      go_end0
      exact ⟨rfl, hR⟩
    · have e3 : (k == 3) = false := by simpa using k3
      clear hk2 hk1
      go_enter Tryd.func81, Tryd.ntmps81
      go_wp2_with fail
      refine hc.mono ?_
      rintro e w1 ⟨rfl, hR⟩
      go_wp2
      go_end0
      exact ⟨rfl, hR⟩

theorem tell_one {B : Nat} {w : World} {cs : List Value} {c : Int} {b : Bool} {l : Int} (hT : TmR B w cs (.one c b l)) {ty : TypeId} {p : Value} {f : FuncId} {R : World → Prop} (hme : ∀ (k : Nat) (w : World), (method (k + 1) ty p "forkwright/sp.one").run Tryd.prog w = .ok (f, p) w) (hcf : ∀ (args : Array Value) (w : World), (callFunc f args).run Tryd.prog w = .ok (.enter f args) w)
    (hc : Calls Tryd.prog f #[p, .agg #[.int .i64 c, .bool b, .int .i64 l]] (w.alloc (.cells cs.toArray 59)) fun e w' => e = .returned (.tuple #[]) ∧ R w') :
    Calls Tryd.prog 81 #[.agg cs.toArray, .iface ty p] w fun e w' => e = .returned (.tuple #[]) ∧ R w' := by
  cases hT with
  | one c b l A m cap hm hcap =>
  unfold tcells at hc ⊢
  unfold maxLen at hcap
  go_enter Tryd.func81, Tryd.ntmps81
  go_wp2_with fail
  refine hc.mono ?_
  rintro e w1 ⟨rfl, hR⟩
  go_wp2
  go_end0
  exact ⟨rfl, hR⟩

set_option maxHeartbeats 2000000 in
theorem tell_two {B : Nat} {w : World} {cs : List Value} {par : Bool} {t0 t1 : Sp.T} (hT : TmR B w cs (.two par t0 t1)) {ty : TypeId} {p : Value} {f : FuncId} {R : World → Prop} (hme : ∀ (k : Nat) (w : World), (method (k + 1) ty p "forkwright/sp.two").run Tryd.prog w = .ok (f, p) w) (hna : ∀ (k : Nat) (w : World), (nilAhead (k + 1) ty p "forkwright/sp.two").run Tryd.prog w = .ok (some false) w) (hcf : ∀ (args : Array Value) (w : World), (callFunc f args).run Tryd.prog w = .ok (.enter f args) w)
    (hB : B ≤ w.heap.size) (hc : ∀ cs0 cs1, TmR B w cs0 t0 → TmR B w cs1 t1 → Calls Tryd.prog f #[p, .bool par, .agg cs0.toArray, .agg cs1.toArray] ((w.alloc (.cells cs.toArray 59)).drewN 1) fun e w' => e = .returned (.tuple #[]) ∧ R w') :
    Calls Tryd.prog 81 #[.agg cs.toArray, .iface ty p] w fun e w' => e = .returned (.tuple #[]) ∧ R w' := by
  cases hT with
  | two par c b l g o m cap cs0 cs1 t0 t1 hm hcap h2 hg h5 h6 r0 r1 =>
  have hcc := hc cs0 cs1 r0 r1
  have hgw : g < w.heap.size := by omega
  clear hc
  obtain ⟨a0, a1, a2, a3, A4, a5, a6, rfl, -, -⟩ := r0.form
  obtain ⟨b0, b1, b2, b3, B4, b5, b6, rfl, -, -⟩ := r1.form
  have x0 := h5 0 _ rfl
  have x1 := h5 1 _ rfl
  have x2 := h5 2 _ rfl
  have x3 := h5 3 _ rfl
  have x4 := h5 4 _ rfl
  have y0 := h6 0 _ rfl
  have y1 := h6 1 _ rfl
  have y2 := h6 2 _ rfl
  have y3 := h6 3 _ rfl
  have y4 := h6 4 _ rfl
  rw [Nat.add_zero] at x0 y0
  clear h5 h6 r0 r1
  unfold tcells at hcc ⊢
  unfold maxLen at hcap
  have m0 : (0 : Int) < (m : Int) := by omega
  have m1 : (1 : Int) < (m : Int) := by omega
  have m2 : 0 < m := by omega
  have m3 : 1 < m := by omega
  rcases par with _ | _
  · simp only [Bool.false_eq_true, if_false] at hcc
    go_enter Tryd.func81, Tryd.ntmps81
    go_wp2_with fail
    (refine still_last (by kernel_rfl) (by kernel_rfl) ?_; simp only [List.length_cons, List.length_nil, Nat.reduceAdd, Nat.reduceSub, List.take_succ_cons, List.take_zero, List.drop_succ_cons, List.drop_zero]; repeat still_step; try refine wpStill_nil ?_)
    go_wp2_with fail
    refine hcc.mono ?_
    rintro e w1 ⟨rfl, hR⟩
    go_wp2
    go_end0
    exact ⟨rfl, hR⟩
  · simp only [if_true] at hcc
    go_enter Tryd.func81, Tryd.ntmps81
    go_wp2_with fail
    (refine still_last (by kernel_rfl) (by kernel_rfl) ?_; simp only [List.length_cons, List.length_nil, Nat.reduceAdd, Nat.reduceSub, List.take_succ_cons, List.take_zero, List.drop_succ_cons, List.drop_zero]; repeat still_step; try refine wpStill_nil ?_)
    go_wp2_with fail
    refine hcc.mono ?_
    rintro e w1 ⟨rfl, hR⟩
    go_wp2
    go_end0
    exact ⟨rfl, hR⟩

end Go.Proofs.YtkjmddgnfgbioaaDoor


namespace Go.Proofs.YtkjmddgnfgbioaaDoor
set_option linter.unusedVariables false
set_option linter.unusedSimpArgs false
set_option maxRecDepth 100000
open Go.RowKit

theorem meth_lv (g fuel : Nat) (w : World) : (method (fuel + 1) 134 (.pointer (some ⟨g, 0, none⟩)) "forkwright/sp.nothing").run Tryd.prog w = .ok (195, .pointer (some ⟨g, 0, none⟩)) w ∧
    (method (fuel + 1) 134 (.pointer (some ⟨g, 0, none⟩)) "forkwright/sp.one").run Tryd.prog w = .ok (196, .pointer (some ⟨g, 0, none⟩)) w ∧
    (method (fuel + 1) 134 (.pointer (some ⟨g, 0, none⟩)) "forkwright/sp.two").run Tryd.prog w = .ok (197, .pointer (some ⟨g, 0, none⟩)) w ∧
    (nilAhead (fuel + 1) 134 (.pointer (some ⟨g, 0, none⟩)) "forkwright/sp.two").run Tryd.prog w = .ok (some false) w :=
  ⟨by kernel_rfl, by kernel_rfl, by kernel_rfl, by kernel_rfl⟩

theorem LvEnd.and {B : Nat} {w : World} {g : Nat} {v : Value} {n : Nat} {xs : List Value} (e : Ending) (w' : World) : LvEnd B w g v n xs e w' ↔ (e = .returned (.tuple #[]) ∧ ∃ v', Lv B w' g v' n xs ∧ Keeps (fun k => k = g ∨ v.ownBlock = some k) w w' ∧ (∀ i, v'.ownBlock = some i → v.ownBlock = some i ∨ w.heap.size ≤ i)) := Iff.rfl

theorem Lv.alloc {B : Nat} {w : World} {g : Nat} {v : Value} {n : Nat} {xs : List Value} (h : Lv B w g v n xs) (o : Obj) : Lv B (w.alloc o) g v n xs := ⟨h.blk.alloc _, h.row.alloc _, by have := h.base; simp; omega, h.at_, h.ne⟩
theorem Lv.drewN {B : Nat} {w : World} {g : Nat} {v : Value} {n : Nat} {xs : List Value} (h : Lv B w g v n xs) (k : Nat) : Lv B (w.drewN k) g v n xs := ⟨h.blk, ⟨h.row.1, h.row.2⟩, h.base, h.at_, h.ne⟩

theorem lv_back {B : Nat} {w w0 : World} {g : Nat} {v : Value} {n : Nat} {xs : List Value} (hk : Keeps (fun _ => False) w w0) {e : Ending} {w' : World} (h : LvEnd B w0 g v n xs e w') : LvEnd B w g v n xs e w' := by
  obtain ⟨h1, v', h2, h3, h4⟩ := h
  have := hk.size
  exact ⟨h1, v', h2, (hk.mono (fun _ h => h.elim)).trans h3, fun i hi => (h4 i hi).imp id (fun h => by omega)⟩

theorem keeps_alloc (w : World) (o : Obj) : Keeps (fun _ => False) w (w.alloc o) := (Keeps.refl _ w).alloc o

theorem tell_leaves : ∀ (t : Sp.T) (B : Nat) (w : World) (g : Nat) (v : Value) (n : Nat) (xs cs : List Value), TmR B w cs t → Lv B w g v n xs → n + t.size ≤ 4194304 →
    Calls Tryd.prog 81 #[.agg cs.toArray, .iface 134 (.pointer (some ⟨g, 0, none⟩))] w (LvEnd B w g v (n + t.size) (xs ++ Sp.acccs t.leaves)) := by
  intro t
  induction t with
  | nil =>
    intro B w g v n xs cs hT hL hn
    have e : xs ++ Sp.acccs Sp.T.nil.leaves = xs := by simp [Sp.T.leaves, Sp.acccs]
    rw [e]
    refine tell_nil hT (f := 195) (fun k w => (meth_lv g k w).1) (fun _ _ => by rfl) ?_
    exact (lv_nothing B _ g v n xs (hL.alloc _)).mono fun e w' h => lv_back (keeps_alloc _ _) h
  | one c b l =>
    intro B w g v n xs cs hT hL hn
    have e : xs ++ Sp.acccs (Sp.T.one c b l).leaves = xs ++ Sp.accc (c, b, l) := by simp [Sp.T.leaves, Sp.acccs]
    rw [e]
    refine tell_one hT (f := 196) (fun k w => (meth_lv g k w).2.1) (fun _ _ => by rfl) ?_
    exact (lv_one B _ g v n xs (hL.alloc _) (c, b, l) (by omega)).mono fun e w' h => lv_back (keeps_alloc _ _) h
  | two par t0 t1 ih0 ih1 =>
    intro B w g v n xs cs hT hL hn
    rw [Sp.T.size_two] at hn ⊢
    refine tell_two hT (f := 197) (fun k w => (meth_lv g k w).2.2.1) (fun k w => (meth_lv g k w).2.2.2) (fun _ _ => by rfl) hL.base ?_
    intro cs0 cs1 r0 r1
    have hk0 : Keeps (fun _ => False) w ((w.alloc (.cells cs.toArray 59)).drewN 1) := (keeps_alloc _ _).drewN 1
    have hL0 : Lv B ((w.alloc (.cells cs.toArray 59)).drewN 1) g v n xs := (hL.alloc _).drewN 1
    have q0 : TmR B ((w.alloc (.cells cs.toArray 59)).drewN 1) cs0 t0 := r0.keep (Nat.le_refl _) (fun p hp => World.cell?_alloc_lt w _ p (by have := hL.base; omega))
    have q1 : TmR B ((w.alloc (.cells cs.toArray 59)).drewN 1) cs1 t1 := r1.keep (Nat.le_refl _) (fun p hp => World.cell?_alloc_lt w _ p (by have := hL.base; omega))
    refine Calls.mono (R := LvEnd B ((w.alloc (.cells cs.toArray 59)).drewN 1) g v (n + (t0.size + t1.size)) (xs ++ Sp.acccs (Sp.T.two par t0 t1).leaves)) ?_ (fun e w' h => lv_back hk0 h)
    generalize ((w.alloc (.cells cs.toArray 59)).drewN 1) = w0 at hL0 q0 q1 ⊢
    clear hk0 hT hL r0 r1
    obtain ⟨a0, a1, a2, a3, A4, a5, a6, rfl, -, -⟩ := q0.form
    obtain ⟨b0, b1, b2, b3, B4, b5, b6, rfl, -, -⟩ := q1.form
    unfold tcells at q0 q1 ⊢
    have hbox0 := Blk.new w0 59 [.int .i64 a0, .int .i64 a1, .bool a2, .int .i64 a3, .slice A4 a5 a6]
    have hbox1 := Blk.new (w0.alloc (.cells #[.int .i64 a0, .int .i64 a1, .bool a2, .int .i64 a3, .slice A4 a5 a6] 59)) 59 [.int .i64 b0, .int .i64 b1, .bool b2, .int .i64 b3, .slice B4 b5 b6]
    have hL2 := (hL0.alloc (.cells #[.int .i64 a0, .int .i64 a1, .bool a2, .int .i64 a3, .slice A4 a5 a6] 59)).alloc (.cells #[.int .i64 b0, .int .i64 b1, .bool b2, .int .i64 b3, .slice B4 b5 b6] 59)
    have hB1 : B ≤ (w0.alloc (.cells #[.int .i64 a0, .int .i64 a1, .bool a2, .int .i64 a3, .slice A4 a5 a6] 59)).heap.size := by have := hL0.base; simp; omega
    have s0 := (q0.alloc hL0.base (.cells #[.int .i64 a0, .int .i64 a1, .bool a2, .int .i64 a3, .slice A4 a5 a6] 59)).alloc hB1 (.cells #[.int .i64 b0, .int .i64 b1, .bool b2, .int .i64 b3, .slice B4 b5 b6] 59)
    have s1 := (q1.alloc hL0.base (.cells #[.int .i64 a0, .int .i64 a1, .bool a2, .int .i64 a3, .slice A4 a5 a6] 59)).alloc hB1 (.cells #[.int .i64 b0, .int .i64 b1, .bool b2, .int .i64 b3, .slice B4 b5 b6] 59)
    have hg1 := hL0.blk.lt
    have hv1 : ∀ i, v.ownBlock = some i → i < w0.heap.size := fun i hi => (hL0.row.lt i hi).2
    have hv2 : ∀ i, v.ownBlock = some i → B ≤ i := own_ge hL0.row
    have hk2 : Keeps (fun _ => False) w0 ((w0.alloc (.cells #[.int .i64 a0, .int .i64 a1, .bool a2, .int .i64 a3, .slice A4 a5 a6] 59)).alloc (.cells #[.int .i64 b0, .int .i64 b1, .bool b2, .int .i64 b3, .slice B4 b5 b6] 59)) := (keeps_alloc _ _).alloc _
    have hsz : ((w0.alloc (.cells #[.int .i64 a0, .int .i64 a1, .bool a2, .int .i64 a3, .slice A4 a5 a6] 59)).alloc (.cells #[.int .i64 b0, .int .i64 b1, .bool b2, .int .i64 b3, .slice B4 b5 b6] 59)).heap.size = w0.heap.size + 1 + 1 := by simp
    have hq1 : (w0.alloc (.cells #[.int .i64 a0, .int .i64 a1, .bool a2, .int .i64 a3, .slice A4 a5 a6] 59)).heap.size = w0.heap.size + 1 := by simp
    rw [hq1] at hbox1
    clear hbox0 hq1 hL0 q0 q1 hB1
    go_enter Tryd.func197, Tryd.ntmps197
    go_wp2_with fail
    refine (ih0 B _ g v n xs _ s0 hL2 (by omega)).mono ?_
    rintro e w1 ⟨rfl, v1, L1, k1, o1⟩
    rw [hsz] at o1
    have hbox := hbox1.keeps k1 (fun h => h.elim (fun e => by omega) (fun e => by have := hv1 _ e; omega))
    have hbel := k1.below (B := B) hL2.base (fun i hi => hi.elim (fun e => by rw [e]; exact hL2.at_) (hv2 i))
    have s1' := s1.later hbel
    have d0 := hbox.cell 0
    have d1 := hbox.cell 1
    have d2 := hbox.cell 2
    have d3 := hbox.cell 3
    have d4 := hbox.cell 4
    simp only [List.getElem?_cons_zero, List.getElem?_cons_succ] at d0 d1 d2 d3 d4
    have kk := hk2.mono (S' := fun k => k = g ∨ v.ownBlock = some k) (fun _ h => h.elim) |>.trans k1
    clear hbox hbox1 s0 s1 hL2 k1 hk2 hbel hsz
    go_wp2_with fail
    refine (ih1 B _ g v1 (n + t0.size) _ _ s1' L1 (by omega)).mono ?_
    rintro e w2 ⟨rfl, v2, L2, k2, o2⟩
    have hw01 := kk.size
    have kf := kk.step k2 (fun i hi h => h.elim .inl (fun e => (o1 i e).elim .inr (fun h => by omega)))
    have e1 : n + (t0.size + t1.size) = n + t0.size + t1.size := by omega
    have e2 : xs ++ Sp.acccs (Sp.T.two par t0 t1).leaves = xs ++ Sp.acccs t0.leaves ++ Sp.acccs t1.leaves := by simp [Sp.T.leaves, Sp.acccs]
    have E1 := Lib.hid e1
    have E2 := Lib.hid e2
    clear e1 e2 d0 d1 d2 d3 d4 s1' L1
    go_wp2
    go_end0
    exact ⟨rfl, v2, by rw [E1.out, E2.out]; exact L2, kf, fun i hi => (o2 i hi).elim (fun h => (o1 i h).imp id (fun h => by omega)) (fun h => .inr (by omega))⟩

theorem leaves_any (w : World) (cs : List Value) (t : Sp.T) (hT : TmR w.heap.size w cs t) (hn : t.size ≤ 4194304) :
    Calls Tryd.prog 37 #[.agg cs.toArray] w fun e w' => ∃ v, e = .returned v ∧ SlV w' 3 v t.size (Sp.acccs t.leaves) ∧ Below w.heap.size w w' := by
  obtain ⟨a0, a1, a2, a3, A4, a5, a6, rfl, -, -⟩ := hT.form
  unfold tcells at hT ⊢
  have s1 := (hT.alloc (Nat.le_refl _) (.cells #[.int .i64 a0, .int .i64 a1, .bool a2, .int .i64 a3, .slice A4 a5 a6] 59)).alloc (by simp) (.cells #[.slice none 0 0] 132)
  have hb2 : Below w.heap.size w ((w.alloc (.cells #[.int .i64 a0, .int .i64 a1, .bool a2, .int .i64 a3, .slice A4 a5 a6] 59)).alloc (.cells #[.slice none 0 0] 132)) := below_alloc (below_alloc (Below.refl _ _) _) _
  have hL : Lv w.heap.size ((w.alloc (.cells #[.int .i64 a0, .int .i64 a1, .bool a2, .int .i64 a3, .slice A4 a5 a6] 59)).alloc (.cells #[.slice none 0 0] 132)) (w.heap.size + 1) (.slice none 0 0) 0 [] := by
    refine ⟨?_, World.ownsRow_nil _ _ _ _, by simp; omega, by omega, by simp [Value.ownBlock]⟩
    have := Blk.new (w.alloc (.cells #[.int .i64 a0, .int .i64 a1, .bool a2, .int .i64 a3, .slice A4 a5 a6] 59)) 132 [.slice none 0 0]
    simpa using this
  clear hT
  go_enter Tryd.func37, Tryd.ntmps37
  go_wp2_with fail
  refine (tell_leaves t w.heap.size _ _ _ 0 [] _ s1 hL (by omega)).mono ?_
  rintro e w1 ⟨rfl, v1, L1, k1, -⟩
  have c0 := L1.blk.cell 0
  simp only [List.getElem?_cons_zero] at c0
  have hb : Below w.heap.size w w1 := hb2.trans (k1.below hL.base (fun i hi => hi.elim (fun e => by omega) (fun e => by simp [Value.ownBlock] at e)))
  have hs := SlV.of_own L1.row
  rw [Nat.zero_add, List.nil_append] at hs
  obtain ⟨A9, c9, rfl, h1, h2, h3, h4⟩ := hs
  have H3 := Lib.hid h3
  clear h3 s1 hL L1 k1 hb2
  go_wp2
  go_ret
  exact ⟨_, rfl, ⟨A9, c9, rfl, h1, h2, H3.out, h4⟩, hb⟩
end Go.Proofs.YtkjmddgnfgbioaaDoor


namespace Go.Proofs.YtkjmddgnfgbioaaDoor
set_option linter.unusedVariables false
set_option linter.unusedSimpArgs false
set_option maxRecDepth 100000
open Go.RowKit

namespace Sp
def prc (p : Nat × Nat) : List Value := [.int .i64 p.1, .int .i64 p.2]
def prcs (l : List (Nat × Nat)) : List Value := l.flatMap prc
theorem prcs_length (l : List (Nat × Nat)) : (prcs l).length = l.length * 2 := flat_length prc 2 (fun _ => rfl) l
theorem prcs_append (a b : List (Nat × Nat)) : prcs (a ++ b) = prcs a ++ prcs b := by simp [prcs]
theorem prc_one (a : Nat × Nat) : ∀ u ∈ prc a, u.oneCell' = true := by
  intro u hu
  simp only [prc, List.mem_cons, List.not_mem_nil, or_false] at hu
  rcases hu with rfl | rfl <;> rfl
theorem prcs_zero (n : Nat) : prcs (List.replicate n (0, 0)) = List.replicate (n * 2) (.int .i64 0) := by
  induction n with
  | zero => rfl
  | succ n ih => rw [List.replicate_succ, Nat.succ_mul, Nat.add_comm (n * 2) 2]; show prc (0, 0) ++ prcs (List.replicate n (0, 0)) = _; rw [ih, ← List.replicate_append_replicate]; rfl
theorem prcs_take (l : List (Nat × Nat)) : ∀ i, (prcs l).take (i * 2) = prcs (l.take i) := by
  induction l with
  | nil => intro i; simp [prcs]
  | cons x l ih =>
    intro i
    cases i with
    | zero => simp [prcs]
    | succ i => rw [Nat.succ_mul]; show (_ :: _ :: prcs l).take (i * 2 + 2) = _ :: _ :: prcs (l.take i); rw [← ih]; rfl
theorem prcs_drop (l : List (Nat × Nat)) : ∀ i, (prcs l).drop (i * 2) = prcs (l.drop i) := by
  induction l with
  | nil => intro i; simp [prcs]
  | cons x l ih =>
    intro i
    cases i with
    | zero => simp [prcs]
    | succ i => rw [Nat.succ_mul]; show (_ :: _ :: prcs l).drop (i * 2 + 2) = prcs (l.drop i); rw [← ih]; rfl
theorem prcs_put (l : List (Nat × Nat)) (i : Nat) (p : Nat × Nat) : (prcs l).take (i * 2) ++ prc p ++ (prcs l).drop (i * 2 + 2) = prcs (put l i [p]) := by
  have e : i * 2 + 2 = (i + 1) * 2 := by omega
  rw [e, prcs_take, prcs_drop]
  simp [put, prcs]
theorem prcs_get (l : List (Nat × Nat)) (i : Nat) (p : Nat × Nat) (h : l[i]? = some p) : (prcs l)[i * 2]? = some (.int .i64 p.1) ∧ (prcs l)[i * 2 + 1]? = some (.int .i64 p.2) := by
  have h1 := prcs_drop l i
  obtain ⟨hi, rfl⟩ := List.getElem?_eq_some_iff.1 h
  rw [List.drop_eq_getElem_cons hi] at h1
  have h2 : prcs (l[i] :: l.drop (i + 1)) = .int .i64 l[i].1 :: .int .i64 l[i].2 :: prcs (l.drop (i + 1)) := rfl
  rw [h2] at h1
  constructor
  · have := congrArg (fun x => x[0]?) h1
    simpa using this
  · have := congrArg (fun x => x[1]?) h1
    simpa using this
end Sp

/-- what numbers leaves, in block g; its pairs in block h -/
structure Mk (B : Nat) (w : World) (g h : Nat) (ps : List (Nat × Nat)) (next base : Nat) : Prop where
  blk : Blk w g 180 [.int .i64 next, .slice (some ⟨h, 0, none⟩) ps.length ps.length, .int .i64 base]
  row : Blk w h 47 (Sp.prcs ps)
  base : B ≤ w.heap.size
  atg : B ≤ g
  ath : B ≤ h
  ne : g ≠ h

def MkEnd (B : Nat) (w : World) (g h : Nat) (ps : List (Nat × Nat)) (next : Nat) : Ending → World → Prop := fun e w' =>
  e = .returned (.tuple #[]) ∧ ∃ base, Mk B w' g h ps next base ∧ Keeps (fun k => k = g ∨ k = h) w w'

theorem Mk.alloc {B : Nat} {w : World} {g h : Nat} {ps : List (Nat × Nat)} {next base : Nat} (m : Mk B w g h ps next base) (o : Obj) : Mk B (w.alloc o) g h ps next base := ⟨m.blk.alloc _, m.row.alloc _, by have := m.base; simp; omega, m.atg, m.ath, m.ne⟩
theorem Mk.drewN {B : Nat} {w : World} {g h : Nat} {ps : List (Nat × Nat)} {next base : Nat} (m : Mk B w g h ps next base) (k : Nat) : Mk B (w.drewN k) g h ps next base := ⟨m.blk, m.row, m.base, m.atg, m.ath, m.ne⟩
theorem Mk.below {B : Nat} {w w' : World} {g h : Nat} {ps : List (Nat × Nat)} {next base : Nat} (m : Mk B w g h ps next base) (hb : Below w.heap.size w w') : Mk B w' g h ps next base := ⟨m.blk.below hb, m.row.below hb, by have := m.base; have := hb.size; omega, m.atg, m.ath, m.ne⟩
theorem mk_back {B : Nat} {w w0 : World} {g h : Nat} {ps : List (Nat × Nat)} {next : Nat} (hk : Keeps (fun _ => False) w w0) {e : Ending} {w' : World} (he : MkEnd B w0 g h ps next e w') : MkEnd B w g h ps next e w' := by
  obtain ⟨h1, b', h2, h3⟩ := he
  exact ⟨h1, b', h2, (hk.mono (fun _ h => h.elim)).trans h3⟩

theorem mk_nothing (B : Nat) (w : World) (g h : Nat) (ps : List (Nat × Nat)) (next base : Nat) (m : Mk B w g h ps next base) :
    Calls Tryd.prog 198 #[.pointer (some ⟨g, 0, none⟩)] w (MkEnd B w g h ps next) := by
  go_enter Tryd.func198, Tryd.ntmps198
  go_wp2
  go_end0
  exact ⟨rfl, base, m, Keeps.refl _ _⟩

theorem mk_one (B : Nat) (w : World) (g h : Nat) (ps : List (Nat × Nat)) (next base : Nat) (m : Mk B w g h ps next base) (a : Sp.Acc) (hb : base < ps.length) (hn : next ≤ 4194304) (hl : ps.length ≤ 4194304) :
    Calls Tryd.prog 199 #[.pointer (some ⟨g, 0, none⟩), .agg #[.int .i64 a.1, .bool a.2.1, .int .i64 a.2.2]] w (MkEnd B w g h (Sp.put ps base [(base, next)]) (next + 1)) := by
  obtain ⟨a1, a2, a3⟩ := a
  simp only
  have hgh := m.ne
  have hk0 : Keeps (fun k => k = g ∨ k = h) w (w.alloc (.cells (Sp.accc (a1, a2, a3)).toArray 56)) := (Keeps.refl _ w).alloc _
  have m1 := m.alloc (.cells (Sp.accc (a1, a2, a3)).toArray 56)
  have hlen := Sp.prcs_length ps
  have hps : (Sp.put ps base [(base, next)]).length = ps.length := Sp.put_length _ _ _ (by simp; omega)
  go_enter Tryd.func199, Tryd.ntmps199
  go_wp2_with fail
  show Code.wp _ _ _ _ (w.alloc (.cells (Sp.accc (a1, a2, a3)).toArray 56))
  generalize (w.alloc (.cells (Sp.accc (a1, a2, a3)).toArray 56)) = w0 at m1 hk0 ⊢
  clear m
  have c0 := m1.blk.cell 0
  have c1 := m1.blk.cell 1
  have c2 := m1.blk.cell 2
  simp only [List.getElem?_cons_zero, List.getElem?_cons_succ] at c0 c1 c2
  obtain ⟨n, hnn⟩ : ∃ n, n = ps.length := ⟨_, rfl⟩
  have HP := Lib.hid hps
  have HN := Lib.hid hnn
  have HL := Lib.hid hlen
  rw [← hnn] at c1 hb hl
  clear hps hnn hlen
  have hb2 : (base : Int) < (n : Int) := by omega
  have hw : IntKind.i64.wrap ((next : Int) + 1) = ((next + 1 : Nat) : Int) := by rw [IntWalk.i64_in _ (by omega)]; omega
  (refine still_last (by kernel_rfl) (by kernel_rfl) ?_; simp only [List.length_cons, List.length_nil, Nat.reduceAdd, Nat.reduceSub, List.take_succ_cons, List.take_zero, List.drop_succ_cons, List.drop_zero]; repeat still_step; try refine wpStill_nil ?_)
  refine wpl_store_blk (w := w0.drewN 1) m1.row 47 (base * 2) 2 (Sp.prc (base, next)) (by kernel_rfl) rfl (by rw [HL.out, ← HN.out]; omega) (Sp.prc_one _) rfl rfl rfl rfl ?_
  intro w2 hB2 hg2
  rw [Sp.prcs_put] at hB2
  have hb3 := m1.blk.grown (w := w0.drewN 1) hg2 (fun e => hgh (by injection e))
  have d0 := hb3.cell 0
  simp only [List.getElem?_cons_zero, List.getElem?_cons_succ] at d0
  have hk2 : Keeps (fun k => k = g ∨ k = h) w0 w2 := ((Keeps.of_grown hg2).undrewN).mono (fun i hi => .inr (by injection hi))
  clear c0 c1 c2
  go_wp2_with (refine wpl_set_blk hb3 0 (.int .i64 ((next + 1 : Nat) : Int)) (by kernel_rfl) (by simp) rfl rfl rfl rfl rfl rfl ?_; intro w3 hB3 hg3)
  have hk3 : Keeps (fun k => k = g ∨ k = h) w2 w3 := (Keeps.of_grown hg3).mono (fun i hi => .inl (by injection hi))
  have hfin : Mk B w3 g h (Sp.put ps base [(base, next)]) (next + 1) base := ⟨by rw [HP.out]; simpa using hB3, hB2.grown hg3 (fun e => hgh (by injection e with e; exact e.symm)), by have := m1.base; have := hk2.size; have := hk3.size; omega, m1.atg, m1.ath, hgh⟩
  have hkf := (hk0.trans hk2).trans hk3
  clear hB2 hg2 hb3 d0 hB3 hg3 m1 hk0 hk2 hk3
  go_wp2
  go_end0
  exact ⟨rfl, base, hfin, hkf⟩

theorem Mk.setbase {B : Nat} {w w' : World} {g h : Nat} {ps : List (Nat × Nat)} {next base base2 : Nat} (m : Mk B w g h ps next base) (hB : Blk w' g 180 ([.int .i64 next, .slice (some ⟨h, 0, none⟩) ps.length ps.length, .int .i64 base].set 2 (.int .i64 base2))) (hg : w.grownBy w' (some g)) :
    Mk B w' g h ps next base2 ∧ Keeps (fun k => k = g ∨ k = h) w w' := by
  have hk : Keeps (fun k => k = g ∨ k = h) w w' := (Keeps.of_grown hg).mono (fun i hi => .inl (by injection hi))
  exact ⟨⟨by simpa using hB, m.row.grown hg (fun e => m.ne (by injection e with e; exact e.symm)), by have := m.base; have := hk.size; omega, m.atg, m.ath, m.ne⟩, hk⟩

theorem meth_mk (g fuel : Nat) (w : World) : (method (fuel + 1) 181 (.pointer (some ⟨g, 0, none⟩)) "forkwright/sp.nothing").run Tryd.prog w = .ok (198, .pointer (some ⟨g, 0, none⟩)) w ∧
    (method (fuel + 1) 181 (.pointer (some ⟨g, 0, none⟩)) "forkwright/sp.one").run Tryd.prog w = .ok (199, .pointer (some ⟨g, 0, none⟩)) w ∧
    (method (fuel + 1) 181 (.pointer (some ⟨g, 0, none⟩)) "forkwright/sp.two").run Tryd.prog w = .ok (200, .pointer (some ⟨g, 0, none⟩)) w ∧
    (nilAhead (fuel + 1) 181 (.pointer (some ⟨g, 0, none⟩)) "forkwright/sp.two").run Tryd.prog w = .ok (some false) w :=
  ⟨by kernel_rfl, by kernel_rfl, by kernel_rfl, by kernel_rfl⟩

def MarkTell (t : Sp.T) : Prop := ∀ (B : Nat) (w : World) (g h : Nat) (ps : List (Nat × Nat)) (next base : Nat) (cs : List Value), TmR B w cs t → Mk B w g h ps next base → base + t.size ≤ ps.length → next + t.size ≤ 4194304 → ps.length ≤ 4194304 →
    Calls Tryd.prog 81 #[.agg cs.toArray, .iface 181 (.pointer (some ⟨g, 0, none⟩))] w (MkEnd B w g h (Sp.put ps base (t.marks base next)) (next + t.size))

set_option maxHeartbeats 2000000 in
theorem mk_two (par : Bool) (t0 t1 : Sp.T) (ih0 : MarkTell t0) (ih1 : MarkTell t1) (B : Nat) (w0 : World) (g h : Nat) (ps : List (Nat × Nat)) (next base : Nat) (cs0 cs1 : List Value) (q0 : TmR B w0 cs0 t0) (q1 : TmR B w0 cs1 t1) (hM : Mk B w0 g h ps next base)
    (hb : base + (t0.size + t1.size) ≤ ps.length) (hn : next + (t0.size + t1.size) ≤ 4194304) (hl : ps.length ≤ 4194304) :
    Calls Tryd.prog 200 #[.pointer (some ⟨g, 0, none⟩), .bool par, .agg cs0.toArray, .agg cs1.toArray] w0 (MkEnd B w0 g h (Sp.put ps base ((Sp.T.two par t0 t1).marks base next)) (next + (t0.size + t1.size))) := by
  obtain ⟨a0, a1, a2, a3, A4, a5, a6, rfl, -, -⟩ := q0.form
  obtain ⟨b0, b1, b2, b3, B4, b5, b6, rfl, -, -⟩ := q1.form
  unfold tcells at q0 q1 ⊢
  have hbox0 := (Blk.new w0 59 [.int .i64 a0, .int .i64 a1, .bool a2, .int .i64 a3, .slice A4 a5 a6]).alloc (.cells #[.int .i64 b0, .int .i64 b1, .bool b2, .int .i64 b3, .slice B4 b5 b6] 59)
  have hbox1 := Blk.new (w0.alloc (.cells #[.int .i64 a0, .int .i64 a1, .bool a2, .int .i64 a3, .slice A4 a5 a6] 59)) 59 [.int .i64 b0, .int .i64 b1, .bool b2, .int .i64 b3, .slice B4 b5 b6]
  have hM2 := (hM.alloc (.cells #[.int .i64 a0, .int .i64 a1, .bool a2, .int .i64 a3, .slice A4 a5 a6] 59)).alloc (.cells #[.int .i64 b0, .int .i64 b1, .bool b2, .int .i64 b3, .slice B4 b5 b6] 59)
  have hB1 : B ≤ (w0.alloc (.cells #[.int .i64 a0, .int .i64 a1, .bool a2, .int .i64 a3, .slice A4 a5 a6] 59)).heap.size := by have := hM.base; simp; omega
  have s0 := (q0.alloc hM.base (.cells #[.int .i64 a0, .int .i64 a1, .bool a2, .int .i64 a3, .slice A4 a5 a6] 59)).alloc hB1 (.cells #[.int .i64 b0, .int .i64 b1, .bool b2, .int .i64 b3, .slice B4 b5 b6] 59)
  have s1 := (q1.alloc hM.base (.cells #[.int .i64 a0, .int .i64 a1, .bool a2, .int .i64 a3, .slice A4 a5 a6] 59)).alloc hB1 (.cells #[.int .i64 b0, .int .i64 b1, .bool b2, .int .i64 b3, .slice B4 b5 b6] 59)
  have hg1 := hM.blk.lt
  have hh1 := hM.row.lt
  have hk2 : Keeps (fun k => k = g ∨ k = h) w0 ((w0.alloc (.cells #[.int .i64 a0, .int .i64 a1, .bool a2, .int .i64 a3, .slice A4 a5 a6] 59)).alloc (.cells #[.int .i64 b0, .int .i64 b1, .bool b2, .int .i64 b3, .slice B4 b5 b6] 59)) := ((Keeps.refl _ w0).alloc _).alloc _
  have hq1 : (w0.alloc (.cells #[.int .i64 a0, .int .i64 a1, .bool a2, .int .i64 a3, .slice A4 a5 a6] 59)).heap.size = w0.heap.size + 1 := by simp
  rw [hq1] at hbox1
  clear hq1 q0 q1 hB1 hM
  go_enter Tryd.func200, Tryd.ntmps200
  go_wp2_with fail
  try rw [show (w0.alloc (.cells #[.int .i64 a0, .int .i64 a1, .bool a2, .int .i64 a3, .slice A4 a5 a6] 59)).heap.size = w0.heap.size + 1 from by simp]
  generalize ((w0.alloc (.cells #[.int .i64 a0, .int .i64 a1, .bool a2, .int .i64 a3, .slice A4 a5 a6] 59)).alloc (.cells #[.int .i64 b0, .int .i64 b1, .bool b2, .int .i64 b3, .slice B4 b5 b6] 59)) = w2 at hbox0 hbox1 hM2 s0 s1 hk2 ⊢
  obtain ⟨q, hq⟩ : ∃ q, q = w0.heap.size := ⟨_, rfl⟩
  rw [← hq] at hbox0 hbox1 hg1 hh1 ⊢
  have look : ∀ w', Keeps (fun k => k = g ∨ k = h) w2 w' → (w'.cell? ⟨q, 0, none⟩ = some (.int .i64 a0) ∧ w'.cell? ⟨q, 1, none⟩ = some (.int .i64 a1) ∧ w'.cell? ⟨q, 2, none⟩ = some (.bool a2) ∧ w'.cell? ⟨q, 3, none⟩ = some (.int .i64 a3) ∧ w'.cell? ⟨q, 4, none⟩ = some (.slice A4 a5 a6)) ∧
      (w'.cell? ⟨q + 1, 0, none⟩ = some (.int .i64 b0) ∧ w'.cell? ⟨q + 1, 1, none⟩ = some (.int .i64 b1) ∧ w'.cell? ⟨q + 1, 2, none⟩ = some (.bool b2) ∧ w'.cell? ⟨q + 1, 3, none⟩ = some (.int .i64 b3) ∧ w'.cell? ⟨q + 1, 4, none⟩ = some (.slice B4 b5 b6)) ∧
      TmR B w' [.int .i64 a0, .int .i64 a1, .bool a2, .int .i64 a3, .slice A4 a5 a6] t0 ∧ TmR B w' [.int .i64 b0, .int .i64 b1, .bool b2, .int .i64 b3, .slice B4 b5 b6] t1 := fun w' hk => by
    have x0 := hbox0.keeps hk (fun e => by omega)
    have x1 := hbox1.keeps hk (fun e => by omega)
    have hbl := hk.below (B := B) hM2.base (fun i hi => hi.elim (fun e => e ▸ hM2.atg) (fun e => e ▸ hM2.ath))
    exact ⟨⟨by rw [x0.cell]; rfl, by rw [x0.cell]; rfl, by rw [x0.cell]; rfl, by rw [x0.cell]; rfl, by rw [x0.cell]; rfl⟩, ⟨by rw [x1.cell]; rfl, by rw [x1.cell]; rfl, by rw [x1.cell]; rfl, by rw [x1.cell]; rfl, by rw [x1.cell]; rfl⟩, s0.later hbl, s1.later hbl⟩
  have keepS : ∀ w', Below w2.heap.size w2 w' → (Below w2.heap.size w2 w' ∧ w'.cell? ⟨g, 2, none⟩ = some (.int .i64 base) ∧ w'.cell? ⟨q, 0, none⟩ = some (.int .i64 a0) ∧ w'.cell? ⟨q, 1, none⟩ = some (.int .i64 a1) ∧ w'.cell? ⟨q, 2, none⟩ = some (.bool a2) ∧ w'.cell? ⟨q, 3, none⟩ = some (.int .i64 a3) ∧ w'.cell? ⟨q, 4, none⟩ = some (.slice A4 a5 a6)) := fun w' hb =>
    ⟨hb, by rw [(hM2.blk.below hb).cell]; rfl, (look w' (Keeps.of_below hb _)).1⟩
  have hlv : ∀ w', (Below w2.heap.size w2 w' ∧ w'.cell? ⟨g, 2, none⟩ = some (.int .i64 base) ∧ w'.cell? ⟨q, 0, none⟩ = some (.int .i64 a0) ∧ w'.cell? ⟨q, 1, none⟩ = some (.int .i64 a1) ∧ w'.cell? ⟨q, 2, none⟩ = some (.bool a2) ∧ w'.cell? ⟨q, 3, none⟩ = some (.int .i64 a3) ∧ w'.cell? ⟨q, 4, none⟩ = some (.slice A4 a5 a6)) →
      Calls Tryd.prog 37 #[.agg #[.int .i64 a0, .int .i64 a1, .bool a2, .int .i64 a3, .slice A4 a5 a6]] w' fun e w'' => ∃ A c, e = .returned (.slice A t0.size c) ∧ (t0.size ≤ c ∧ c ≤ 9223372036854775807) ∧ Below w2.heap.size w2 w'' ∧ Below w'.heap.size w' w'' := fun w' hS =>
    (leaves_any w' _ t0 ((look w' (Keeps.of_below hS.1 _)).2.2.1.keep (by have := hS.1.size; have := hM2.base; omega) (fun _ _ => rfl)) (by omega)).mono fun e w'' hh => by
      obtain ⟨v, rfl, ⟨A, c, rfl, h1, h2, -, -⟩, h3⟩ := hh
      exact ⟨A, c, rfl, ⟨h1, h2⟩, below_next h3 hS.1, h3⟩
  have hlen0 : ∀ a j, (t0.marks a j).length = t0.size := t0.marks_length
  have hlen1 : ∀ a j, (t1.marks a j).length = t1.size := t1.marks_length
  have hE0 := fun w g h ps next base => ih0 B w g h ps next base [.int .i64 a0, .int .i64 a1, .bool a2, .int .i64 a3, .slice A4 a5 a6]
  have hE1 := fun w g h ps next base => ih1 B w g h ps next base [.int .i64 b0, .int .i64 b1, .bool b2, .int .i64 b3, .slice B4 b5 b6]
  clear hbox0 hbox1 s0 s1 hq ih0 ih1
  go_region_held3 (fun w' => (Below w2.heap.size w2 w' ∧ w'.cell? ⟨g, 2, none⟩ = some (.int .i64 base) ∧ w'.cell? ⟨q, 0, none⟩ = some (.int .i64 a0) ∧ w'.cell? ⟨q, 1, none⟩ = some (.int .i64 a1) ∧ w'.cell? ⟨q, 2, none⟩ = some (.bool a2) ∧ w'.cell? ⟨q, 3, none⟩ = some (.int .i64 a3) ∧ w'.cell? ⟨q, 4, none⟩ = some (.slice A4 a5 a6)))
    ((refine keepS _ ?_; repeat (first | exact Below.refl _ _ | assumption | apply below_alloc | apply below_drew | exact (And.left (by assumption)) | (apply below_next; assumption))))
    ((go_at_call 37; refine (hlv _ (by assumption)).mono ?_; rintro e w6 ⟨A6, c6, rfl, ⟨hle6, hm6⟩, hb5, hb6⟩))
  rename_i hHeld
  have k6 : Keeps (fun k => k = g ∨ k = h) w2 w6 := Keeps.of_below hb5 _
  have m6 := hM2.below hb5
  clear hHeld hb5 hb6 keepS hlv hM2
  have hw : IntKind.i64.wrap ((base : Int) + (t0.size : Int)) = ((base + t0.size : Nat) : Int) := by rw [IntWalk.i64_in _ (by omega)]; omega
  rcases par with _ | _
  · obtain ⟨⟨x0, x1, x2, x3, x4⟩, -, r0, -⟩ := look w6 k6
    go_wp2_with fail
    refine (hE0 w6 g h ps next base r0 m6 (by omega) (by omega) hl).mono ?_
    rintro e w7 ⟨rfl, bs7, m7, k7⟩
    have kk7 := k6.trans k7
    clear x0 x1 x2 x3 x4 r0
    go_wp2_with (refine wpl_set_blk m7.blk 2 (.int .i64 ((base + t0.size : Nat) : Int)) (by kernel_rfl) (by simp) rfl rfl rfl rfl rfl rfl ?_; intro w8 hB8 hg8; obtain ⟨m8, k8⟩ := m7.setbase hB8 hg8; have kk8 := kk7.trans k8; obtain ⟨-, ⟨x0, x1, x2, x3, x4⟩, -, r1⟩ := look w8 kk8; clear hB8 hg8)
    have hpl : (Sp.put ps base (t0.marks base next)).length = ps.length := Sp.put_length _ _ _ (by rw [hlen0]; omega)
    have hput := Sp.put_put ps (t0.marks base next) (t1.marks (base + t0.size) (next + t0.size)) base (by rw [hlen0, hlen1]; omega)
    rw [hlen0] at hput
    have hcall := hE1 w8 g h _ (next + t0.size) (base + t0.size) r1 m8 (by rw [hpl]; omega) (by omega) (by rw [hpl]; exact hl)
    rw [hput] at hcall
    clear hput hpl hE0 hE1 look m8 m7 m6
    refine hcall.mono ?_
    rintro e w9 ⟨rfl, bs9, m9, k9⟩
    clear hcall
    go_wp2
    go_end0
    exact ⟨rfl, bs9, by rw [← Nat.add_assoc]; exact m9, hk2.trans (kk8.trans k9)⟩
  · go_wp2_with (refine wpl_set_blk m6.blk 2 (.int .i64 ((base + t0.size : Nat) : Int)) (by kernel_rfl) (by simp) rfl rfl rfl rfl rfl rfl ?_; intro w7 hB7 hg7; obtain ⟨m7, k7⟩ := m6.setbase hB7 hg7; have kk7 := k6.trans k7; obtain ⟨-, ⟨x0, x1, x2, x3, x4⟩, -, r1⟩ := look w7 kk7; clear hB7 hg7)
    refine (hE1 w7 g h ps next (base + t0.size) r1 m7 (by omega) (by omega) hl).mono ?_
    rintro e w8 ⟨rfl, bs8, m8, k8⟩
    have kk8 := kk7.trans k8
    clear x0 x1 x2 x3 x4 r1
    go_wp2_with (refine wpl_set_blk m8.blk 2 (.int .i64 (base : Int)) (by kernel_rfl) (by simp) rfl rfl rfl rfl rfl rfl ?_; intro w9 hB9 hg9; obtain ⟨m9, k9⟩ := m8.setbase hB9 hg9; have kk9 := kk8.trans k9; obtain ⟨⟨x0, x1, x2, x3, x4⟩, -, r0, -⟩ := look w9 kk9; clear hB9 hg9)
    have hpl : (Sp.put ps (base + t0.size) (t1.marks (base + t0.size) next)).length = ps.length := Sp.put_length _ _ _ (by rw [hlen1]; omega)
    have hput := Sp.put_back ps (t0.marks base (next + t1.size)) (t1.marks (base + t0.size) next) base (by rw [hlen0, hlen1]; omega)
    rw [hlen0] at hput
    have hcall := hE0 w9 g h _ (next + t1.size) base r0 m9 (by rw [hpl]; omega) (by omega) (by rw [hpl]; exact hl)
    rw [hput] at hcall
    clear hput hpl hE0 hE1 look m9 m8 m7 m6
    refine hcall.mono ?_
    rintro e w10 ⟨rfl, bs10, m10, k10⟩
    clear hcall
    go_wp2
    go_end0
    exact ⟨rfl, bs10, by rw [show next + (t0.size + t1.size) = next + t1.size + t0.size from by omega]; exact m10, hk2.trans (kk9.trans k10)⟩

theorem tell_marks (t : Sp.T) : MarkTell t := by
  induction t with
  | nil =>
    intro B w g h ps next base cs hT hM hb hn hl
    have e : Sp.put ps base (Sp.T.nil.marks base next) = ps := Sp.put_nil _ _
    rw [e]
    refine tell_nil hT (f := 198) (fun k w => (meth_mk g k w).1) (fun _ _ => by rfl) ?_
    exact (mk_nothing B _ g h ps next base (hM.alloc _)).mono fun e w' h => mk_back (keeps_alloc _ _) h
  | one c b l =>
    intro B w g h ps next base cs hT hM hb hn hl
    have hb' : base + 1 ≤ ps.length := hb
    have hn' : next + 1 ≤ 4194304 := hn
    refine tell_one hT (f := 199) (fun k w => (meth_mk g k w).2.1) (fun _ _ => by rfl) ?_
    exact (mk_one B _ g h ps next base (hM.alloc _) (c, b, l) (by omega) (by omega) hl).mono fun e w' h => mk_back (keeps_alloc _ _) h
  | two par t0 t1 ih0 ih1 =>
    intro B w g h ps next base cs hT hM hb hn hl
    rw [Sp.T.size_two] at hn hb ⊢
    refine tell_two hT (f := 200) (fun k w => (meth_mk g k w).2.2.1) (fun k w => (meth_mk g k w).2.2.2) (fun _ _ => by rfl) hM.base ?_
    intro cs0 cs1 r0 r1
    have hk0 : Keeps (fun _ => False) w ((w.alloc (.cells cs.toArray 59)).drewN 1) := (keeps_alloc _ _).drewN 1
    have v0 : TmR B ((w.alloc (.cells cs.toArray 59)).drewN 1) cs0 t0 := r0.keep (Nat.le_refl _) (fun p hp => World.cell?_alloc_lt w _ p (by have := hM.base; omega))
    have v1 : TmR B ((w.alloc (.cells cs.toArray 59)).drewN 1) cs1 t1 := r1.keep (Nat.le_refl _) (fun p hp => World.cell?_alloc_lt w _ p (by have := hM.base; omega))
    have hM1 : Mk B ((w.alloc (.cells cs.toArray 59)).drewN 1) g h ps next base := (hM.alloc _).drewN 1
    exact (mk_two par t0 t1 ih0 ih1 B _ g h ps next base cs0 cs1 v0 v1 hM1 hb hn hl).mono fun e w' h => mk_back hk0 h
end Go.Proofs.YtkjmddgnfgbioaaDoor


namespace Go.Proofs.YtkjmddgnfgbioaaDoor
set_option linter.unusedVariables false
set_option linter.unusedSimpArgs false
set_option maxRecDepth 100000
open Go.RowKit

theorem made_flat (z : Value) (k n : Nat) (hk : 0 < k) : (madeCells (Array.replicate k z) n).toList = List.replicate n z := by
  apply List.ext_getElem?
  intro j
  by_cases hj : j < n
  · have := Nat.mod_lt j hk
    simp [madeCells, hj, this]
  · simp [madeCells, hj]

/-- 'make([]T, n)', T of some cells that are alike -/
theorem wp_make_flat {P : Program} (w : World) {ops : Array Oper} {rest : List Oper} {o : Oper} {a : Act} {Q : Exit → Act → World → Prop}
    (t e : TypeId) (z zc : Value) (size bytes : Nat) (n : Nat) (ht : P.underlying t = some (.slice e)) (hinfo : (P.info? e).map (fun i => (i.zero, i.size, i.bytes)) = some (some z, size, bytes)) (hz : z.cells = Array.replicate size zc) (hsz : 0 < size)
    {L C : Int} (hL : L = (n : Int)) (hC : C = (n : Int)) (b2 : bytes * n ≤ 281474976710656) (b3 : n ≤ 9223372036854775807)
    {l c : Operand} {kl kc : IntKind} (hg : o.guard = none) (hop : o.op = Op.makeSlice t l c) (hl : a.eval l = .int kl L) (hc : a.eval c = .int kc C)
    (hK : ∀ w', Blk w' w.heap.size e (List.replicate (n * size) zc) → Below w.heap.size w w' → w'.heap.size = w.heap.size + 1 → wpList P ops Q rest (a.put o.dst (.slice (some ⟨w.heap.size, 0, none⟩) n n)) w') :
    wpList P ops Q (o :: rest) a w := by
  obtain ⟨i, hi, hz0, hz1, hz2⟩ := info_parts hinfo
  refine wpList_plain hg fun K hK' => ?_
  subst hL
  subst hC
  have h63' : (n : Int) ≤ 9223372036854775807 := by omega
  have hb' : (i.bytes : Int) * (n : Int) ≤ 281474976710656 := by
    have h : ((i.bytes * n : Nat) : Int) ≤ 281474976710656 := by rw [hz2]; omega
    rwa [Int.natCast_mul] at h
  have hr := run_make (P := P) w t e i z ht hi hz0 kl kc n n (by omega) (Int.le_refl _) hb' h63'
  simp only [Int.toNat_natCast, hz1, hz] at hr
  unfold Oper.wp
  simp [execOp, hop, hl, hc, hr, Result.andThen]
  refine hK' _ _ (hK _ ?_ ((Below.refl _ _).alloc (Nat.le_refl _) _) (by simp))
  have := Blk.new w e (madeCells (Array.replicate size zc) (n * size)).toList
  rw [Array.toArray_toList] at this
  rwa [made_flat zc size _ hsz] at this

theorem info_pairM : (Tryd.prog.info? 47).map (fun i => (i.zero, i.size, i.bytes)) = some (some (.agg #[.int .i64 0, .int .i64 0]), 2, 16) := by kernel_rfl

theorem marks_any (w : World) (cs : List Value) (t : Sp.T) (hT : TmR w.heap.size w cs t) (hn : t.size ≤ 4194304) :
    Calls Tryd.prog 82 #[.agg cs.toArray] w fun e w' => ∃ h, e = .returned (.slice (some ⟨h, 0, none⟩) t.size t.size) ∧ Blk w' h 47 (Sp.prcs (t.marks 0 0)) ∧ w.heap.size ≤ h ∧ Below w.heap.size w w' := by
  obtain ⟨a0, a1, a2, a3, A4, a5, a6, rfl, -, -⟩ := hT.form
  have hP := Blk.new w 59 (tcells a0 a1 a2 a3 A4 a5 a6)
  have s1 := hT.alloc (Nat.le_refl _) (.cells (tcells a0 a1 a2 a3 A4 a5 a6).toArray 59)
  have hb0 : Below w.heap.size w (w.alloc (.cells (tcells a0 a1 a2 a3 A4 a5 a6).toArray 59)) := below_alloc (Below.refl _ _) _
  unfold tcells at s1 hP hb0 ⊢
  clear hT
  go_enter Tryd.func82, Tryd.ntmps82
  go_wp2_with fail
  refine (leaves_any _ _ t (s1.keep (by simp) (fun _ _ => rfl)) hn).mono ?_
  rintro e w1 ⟨v, rfl, ⟨A7, c7, rfl, hle7, hm7, -, -⟩, hb1⟩
  have hb1' := below_next hb1 hb0
  have hP1 := hP.below (by simpa using hb1)
  have s2 := s1.later (hb1.mono (by simp))
  unfold maxLen at hm7
  have hsz1 : w.heap.size < w1.heap.size := by have := hb1.size; simp at this; omega
  obtain ⟨q, hq⟩ : ∃ q, q = w.heap.size := ⟨_, rfl⟩
  rw [← hq] at hP1 s2 hsz1 hb1' ⊢
  have HQ := Lib.hid hq
  clear hP s1 hb0 hb1 hq
  go_wp2_with (refine wp_make_flat w1 _ _ _ (.int .i64 0) 2 16 t.size Tryd.underlying42 info_pairM rfl (by decide) rfl rfl (by omega) (by omega) rfl rfl rfl rfl ?_; intro w2 hR2 hb2 hsz2; have hP3 := (hP1.below hb2).alloc (.cells #[.int .i64 0, .slice (some ⟨w1.heap.size, 0, none⟩) t.size t.size, .int .i64 0] 180); have c0 := hP3.cell 0; have c1 := hP3.cell 1; have c2 := hP3.cell 2; have c3 := hP3.cell 3; have c4 := hP3.cell 4; simp only [List.getElem?_cons_zero, List.getElem?_cons_succ] at c0 c1 c2 c3 c4)
  have hq1 : q ≤ w1.heap.size := by omega
  have hB := Blk.new w2 180 [.int .i64 0, .slice (some ⟨w1.heap.size, 0, none⟩) t.size t.size, .int .i64 0]
  rw [hsz2] at hB
  have hrep : (List.replicate t.size ((0, 0) : Nat × Nat)).length = t.size := List.length_replicate
  have hM : Mk q (w2.alloc (.cells #[.int .i64 0, .slice (some ⟨w1.heap.size, 0, none⟩) t.size t.size, .int .i64 0] 180)) (w1.heap.size + 1) w1.heap.size (List.replicate t.size (0, 0)) 0 0 :=
    ⟨by rw [hrep]; exact hB, by rw [Sp.prcs_zero]; exact hR2.alloc _, by simp; omega, by omega, hq1, by omega⟩
  have s3 := (s2.later (hb2.mono hq1)).alloc (by omega) (.cells #[.int .i64 0, .slice (some ⟨w1.heap.size, 0, none⟩) t.size t.size, .int .i64 0] 180)
  have hb3 : Below q w (w2.alloc (.cells #[.int .i64 0, .slice (some ⟨w1.heap.size, 0, none⟩) t.size t.size, .int .i64 0] 180)) := (hb1'.trans (hb2.mono hq1)).trans ((Below.refl _ _).alloc (by omega) _)
  refine (tell_marks t q _ (w1.heap.size + 1) w1.heap.size _ 0 0 _ s3 hM (by rw [hrep]; omega) (by omega) (by rw [hrep]; exact hn)).mono ?_
  rintro e w4 ⟨rfl, bs, m4, k4⟩
  have hall := Sp.put_all (List.replicate t.size ((0, 0) : Nat × Nat)) (t.marks 0 0) (by rw [hrep, t.marks_length])
  rw [hall] at m4
  have hb4 : Below q w w4 := hb3.trans (k4.below hM.base (fun i hi => hi.elim (fun e => by omega) (fun e => by omega)))
  have d1 := m4.blk.cell 1
  rw [t.marks_length] at d1
  simp only [List.getElem?_cons_zero, List.getElem?_cons_succ] at d1
  have hrow := m4.row
  clear c0 c1 c2 c3 c4 hP3 hB hM s3 hb3 hall m4 k4 hR2 hb1'
  go_wp2
  go_ret
  rw [HQ.out] at hq1 hb4
  exact ⟨_, rfl, hrow, hq1, hb4⟩

end Go.Proofs.YtkjmddgnfgbioaaDoor


namespace Go.Proofs.YtkjmddgnfgbioaaDoor
set_option linter.unusedVariables false
set_option linter.unusedSimpArgs false
set_option maxRecDepth 100000
open Go.RowKit

theorem before_any (w : World) (cs : List Value) (t : Sp.T) (i j : Int) (hT : TmR w.heap.size w cs t) (hn : t.size ≤ 4194304) :
    Calls Tryd.prog 39 #[.agg cs.toArray, .int .i64 i, .int .i64 j] w fun e w' => e = .returned (.bool (t.before i j)) ∧ Below w.heap.size w w' := by
  obtain ⟨a0, a1, a2, a3, A4, a5, a6, rfl, -, -⟩ := hT.form
  have s1 := hT.alloc (Nat.le_refl _) (.cells (tcells a0 a1 a2 a3 A4 a5 a6).toArray 59)
  have hb0 : Below w.heap.size w (w.alloc (.cells (tcells a0 a1 a2 a3 A4 a5 a6).toArray 59)) := below_alloc (Below.refl _ _) _
  unfold tcells at s1 hb0 ⊢
  clear hT
  go_enter Tryd.func39, Tryd.ntmps39
  go_wp2_with fail
  refine (marks_any _ _ t (s1.keep (by simp) (fun _ _ => rfl)) hn).mono ?_
  rintro e w1 ⟨h, rfl, hrow, -, hb1⟩
  have hbf := below_next hb1 hb0
  clear s1 hb0 hb1
  by_cases hin : 0 ≤ i ∧ 0 ≤ j ∧ i < t.size ∧ j < t.size
  · obtain ⟨h1, h2, h3, h4⟩ := hin
    obtain ⟨a, rfl⟩ := Int.eq_ofNat_of_zero_le h1
    obtain ⟨b, rfl⟩ := Int.eq_ofNat_of_zero_le h2
    have ha : a < t.size := by omega
    have hb : b < t.size := by omega
    obtain ⟨ra, hra⟩ : ∃ r, r = t.rk a := ⟨_, rfl⟩
    obtain ⟨rb, hrb⟩ : ∃ r, r = t.rk b := ⟨_, rfl⟩
    have ga := Sp.prcs_get _ a _ (t.marks_get 0 0 a ha)
    have gb := Sp.prcs_get _ b _ (t.marks_get 0 0 b hb)
    rw [Nat.zero_add, Nat.zero_add] at ga gb
    rw [← hra] at ga
    rw [← hrb] at gb
    have c0 : w1.cell? ⟨h, a * 2, none⟩ = some (.int .i64 (a : Int)) := (hrow.cell (a * 2)).trans ga.1
    have c1 : w1.cell? ⟨h, a * 2 + 1, none⟩ = some (.int .i64 (ra : Int)) := (hrow.cell (a * 2 + 1)).trans ga.2
    have d0 : w1.cell? ⟨h, b * 2, none⟩ = some (.int .i64 (b : Int)) := (hrow.cell (b * 2)).trans gb.1
    have d1 : w1.cell? ⟨h, b * 2 + 1, none⟩ = some (.int .i64 (rb : Int)) := (hrow.cell (b * 2 + 1)).trans gb.2
    have hres : t.before (a : Int) (b : Int) = (decide ((a : Int) < (b : Int)) && decide ((ra : Int) < (rb : Int))) := by
      rw [Bool.eq_iff_iff, Bool.and_eq_true, decide_eq_true_iff, decide_eq_true_iff]
      unfold Sp.T.before Sp.T.bf
      rw [decide_eq_true_iff]
      simp only [Int.toNat_natCast, ← hra, ← hrb]
      omega
    have HR := Lib.hid hres
    clear hres hra hrb ga gb hrow
    have n1 : decide ((a : Int) < 0) = false := by simp
    have n2 : decide ((b : Int) < 0) = false := by simp
    have n3 : decide (t.size ≤ a) = false := by simp; omega
    have n4 : decide (t.size ≤ b) = false := by simp; omega
    by_cases hlt : a < b
    rotate_left
    · have hab : decide ((a : Int) < (b : Int)) = false := by simp; omega
      rw [hab, Bool.false_and] at HR
      have hab2 : decide (a < b) = false := by simp; omega
      clear hlt hab
      go_wp2
      go_quiet (fail)
      go_wp2
      go_ret
      exact ⟨ret_bool (by rw [HR.out]), hbf.trans (below_drewN (Below.refl _ _) _)⟩
    · have hab : decide ((a : Int) < (b : Int)) = true := by simp; omega
      rw [hab, Bool.true_and] at HR
      have hab2 : decide (a < b) = true := by simp; omega
      clear hlt hab
      go_wp2
      go_quiet (fail)
      go_wp2
      go_ret
      exact ⟨ret_bool (by rw [HR.out]; simp), hbf.trans (below_drewN (Below.refl _ _) _)⟩
  · have hres : t.before i j = false := by
      unfold Sp.T.before
      rw [decide_eq_false_iff_not]
      exact fun h => hin h.1
    have HR := Lib.hid hres
    clear hres hrow
    by_cases g1 : i < 0
    · go_wp2
      go_ret
      exact ⟨(show _ = Ending.returned (.bool false) from rfl).trans (by rw [HR.out]), hbf⟩
    by_cases g2 : j < 0
    · go_wp2
      go_ret
      exact ⟨(show _ = Ending.returned (.bool false) from rfl).trans (by rw [HR.out]), hbf⟩
    by_cases g3 : (t.size : Int) ≤ i
    · go_wp2
      go_ret
      exact ⟨(show _ = Ending.returned (.bool false) from rfl).trans (by rw [HR.out]), hbf⟩
    have g4 : (t.size : Int) ≤ j := by omega
    clear hin
    go_wp2
    go_ret
    exact ⟨(show _ = Ending.returned (.bool false) from rfl).trans (by rw [HR.out]), hbf⟩
end Go.Proofs.YtkjmddgnfgbioaaDoor


namespace Go.Proofs.YtkjmddgnfgbioaaDoor
set_option linter.unusedVariables false
set_option linter.unusedSimpArgs false
set_option maxRecDepth 100000
open Go.RowKit

def xz4 : List Value := [.int .i64 0, .int .i64 0, .string ⟨#[]⟩, .slice none 0 0]
theorem xbadU {B : Nat} (w : World) : XR B w xz4 .bad := .bad 0 0 ⟨#[]⟩ none 0 0 (Nat.le_refl _) (Nat.zero_le _) (by decide) (by decide) (by omega)
theorem xnumU {B : Nat} (w : World) (n : Int) (h : Ex.rng n) : XR B w (xcells 1 n ⟨#[]⟩ none 0 0) (.num n) := .num n ⟨#[]⟩ none 0 0 (Nat.le_refl _) (Nat.zero_le _) h
theorem numU_any (n : Int) (w : World) : Calls Tryd.prog 69 #[.int .i64 n] w fun e w' => e = .returned (.agg (xcells 1 n ⟨#[]⟩ none 0 0).toArray) ∧ Below w.heap.size w w' := by
  have hb := Blk.new w 38 xz4
  have h0 : Below w.heap.size w (w.alloc (.cells xz4.toArray 38)) := below_alloc (Below.refl _ _) _
  unfold xz4 at hb h0
  obtain ⟨q, hq⟩ : ∃ q, q = w.heap.size := ⟨_, rfl⟩
  go_enter Tryd.func69, Tryd.ntmps69
  go_upto_region 1 with (fail)
  generalize (w.alloc (.cells #[.int .i64 0, .int .i64 0, .string ⟨#[]⟩, .slice none 0 0] 38)) = W at hb h0 ⊢
  rw [← hq] at hb ⊢
  have HQ := Lib.hid hq
  clear hq
  go_wp2_with (first | (refine wpl_put_blk hb [.int .i64 1, .int .i64 n, .string ⟨#[]⟩, .slice none 0 0] (by kernel_rfl) rfl (by intro v hv; simp at hv; rcases hv with rfl | rfl | rfl | rfl <;> rfl) rfl rfl rfl rfl ?_; intro w2 hB2 hg2) | fail)
  exact ret_blk hB2 rfl rfl Tryd.underlying38 rfl (by kernel_rfl) rfl ⟨rfl, h0.trans (below_of_grown hg2 h0.size (by have := HQ.out; omega))⟩
theorem asyncU_any (w : World) (D : Option Addr) (dl dc : Nat) : Calls Tryd.prog 66 #[.slice D dl dc] w fun e w' => e = .returned (.agg (stcells 4 ⟨#[]⟩ xz4 xz4 D dl dc none 0 0).toArray) ∧ Below w.heap.size w w' := by
  have hb := Blk.new w 40 (stcells 0 ⟨#[]⟩ xz4 xz4 none 0 0 none 0 0)
  have h0 : Below w.heap.size w (w.alloc (.cells (stcells 0 ⟨#[]⟩ xz4 xz4 none 0 0 none 0 0).toArray 40)) := below_alloc (Below.refl _ _) _
  unfold stcells xz4 at hb h0
  simp only [List.cons_append, List.nil_append] at hb h0
  obtain ⟨q, hq⟩ : ∃ q, q = w.heap.size := ⟨_, rfl⟩
  have hone := stcells_oneU 4 ⟨#[]⟩ 0 0 ⟨#[]⟩ none 0 0 0 0 ⟨#[]⟩ none 0 0 D dl dc none 0 0
  unfold stcells xcells at hone
  simp only [List.cons_append, List.nil_append] at hone
  go_enter Tryd.func66, Tryd.ntmps66
  go_upto_region 1 with (fail)
  generalize (w.alloc (.cells #[.int .i64 0, .string ⟨#[]⟩, .int .i64 0, .int .i64 0, .string ⟨#[]⟩, .slice none 0 0, .int .i64 0, .int .i64 0, .string ⟨#[]⟩, .slice none 0 0, .slice none 0 0, .slice none 0 0] 40)) = W at hb h0 ⊢
  rw [← hq] at hb ⊢
  have HQ := Lib.hid hq
  clear hq
  go_wp2_with (first | (refine wpl_put_blk hb [.int .i64 4, .string ⟨#[]⟩, .int .i64 0, .int .i64 0, .string ⟨#[]⟩, .slice none 0 0, .int .i64 0, .int .i64 0, .string ⟨#[]⟩, .slice none 0 0, .slice D dl dc, .slice none 0 0] (by kernel_rfl) rfl hone rfl rfl rfl rfl ?_; intro w2 hB2 hg2) | fail)
  exact ret_blk hB2 rfl rfl Tryd.underlying40 rfl (by kernel_rfl) rfl ⟨rfl, h0.trans (below_of_grown hg2 h0.size (by have := HQ.out; omega))⟩
theorem finishU_any (w : World) (D : Option Addr) (dl dc : Nat) : Calls Tryd.prog 25 #[.slice D dl dc] w fun e w' => e = .returned (.agg (stcells 5 ⟨#[]⟩ xz4 xz4 D dl dc none 0 0).toArray) ∧ Below w.heap.size w w' := by
  have hb := Blk.new w 40 (stcells 0 ⟨#[]⟩ xz4 xz4 none 0 0 none 0 0)
  have h0 : Below w.heap.size w (w.alloc (.cells (stcells 0 ⟨#[]⟩ xz4 xz4 none 0 0 none 0 0).toArray 40)) := below_alloc (Below.refl _ _) _
  unfold stcells xz4 at hb h0
  simp only [List.cons_append, List.nil_append] at hb h0
  obtain ⟨q, hq⟩ : ∃ q, q = w.heap.size := ⟨_, rfl⟩
  have hone := stcells_oneU 5 ⟨#[]⟩ 0 0 ⟨#[]⟩ none 0 0 0 0 ⟨#[]⟩ none 0 0 D dl dc none 0 0
  unfold stcells xcells at hone
  simp only [List.cons_append, List.nil_append] at hone
  go_enter Tryd.func25, Tryd.ntmps25
  go_upto_region 1 with (fail)
  generalize (w.alloc (.cells #[.int .i64 0, .string ⟨#[]⟩, .int .i64 0, .int .i64 0, .string ⟨#[]⟩, .slice none 0 0, .int .i64 0, .int .i64 0, .string ⟨#[]⟩, .slice none 0 0, .slice none 0 0, .slice none 0 0] 40)) = W at hb h0 ⊢
  rw [← hq] at hb ⊢
  have HQ := Lib.hid hq
  clear hq
  go_wp2_with (first | (refine wpl_put_blk hb [.int .i64 5, .string ⟨#[]⟩, .int .i64 0, .int .i64 0, .string ⟨#[]⟩, .slice none 0 0, .int .i64 0, .int .i64 0, .string ⟨#[]⟩, .slice none 0 0, .slice D dl dc, .slice none 0 0] (by kernel_rfl) rfl hone rfl rfl rfl rfl ?_; intro w2 hB2 hg2) | fail)
  exact ret_blk hB2 rfl rfl Tryd.underlying40 rfl (by kernel_rfl) rfl ⟨rfl, h0.trans (below_of_grown hg2 h0.size (by have := HQ.out; omega))⟩
theorem storeU_any (a b : Int) (w : World) : Calls Tryd.prog 67 #[.int .i64 a, .int .i64 b] w fun e w' => e = .returned (.agg (stcells 3 ⟨#[]⟩ (xcells 1 a ⟨#[]⟩ none 0 0) (xcells 1 b ⟨#[]⟩ none 0 0) none 0 0 none 0 0).toArray) ∧ Below w.heap.size w w' := by
  have hb := Blk.new w 40 (stcells 0 ⟨#[]⟩ xz4 xz4 none 0 0 none 0 0)
  have h0 : Below w.heap.size w (w.alloc (.cells (stcells 0 ⟨#[]⟩ xz4 xz4 none 0 0 none 0 0).toArray 40)) := below_alloc (Below.refl _ _) _
  unfold stcells xz4 at hb h0
  simp only [List.cons_append, List.nil_append] at hb h0
  obtain ⟨q, hq⟩ : ∃ q, q = w.heap.size := ⟨_, rfl⟩
  have hone := stcells_oneU 3 ⟨#[]⟩ 1 a ⟨#[]⟩ none 0 0 1 b ⟨#[]⟩ none 0 0 none 0 0 none 0 0
  unfold stcells xcells at hone
  simp only [List.cons_append, List.nil_append] at hone
  go_enter Tryd.func67, Tryd.ntmps67
  go_upto_region 1 with (fail)
  generalize (w.alloc (.cells #[.int .i64 0, .string ⟨#[]⟩, .int .i64 0, .int .i64 0, .string ⟨#[]⟩, .slice none 0 0, .int .i64 0, .int .i64 0, .string ⟨#[]⟩, .slice none 0 0, .slice none 0 0, .slice none 0 0] 40)) = W at hb h0 ⊢
  rw [← hq] at hb ⊢
  have HQ := Lib.hid hq
  clear hq
  go_wp2_with fail
  refine (numU_any a _).mono ?_
  rintro e w1 ⟨rfl, hb1⟩
  unfold xcells
  replace hb := hb.below hb1
  replace h0 := below_next hb1 h0
  clear hb1
  go_wp2_with fail
  refine (numU_any b _).mono ?_
  rintro e w2 ⟨rfl, hb2⟩
  unfold xcells
  replace hb := hb.below hb2
  replace h0 := below_next hb2 h0
  clear hb2
  go_wp2_with (first | (refine wpl_put_blk hb [.int .i64 3, .string ⟨#[]⟩, .int .i64 1, .int .i64 a, .string ⟨#[]⟩, .slice none 0 0, .int .i64 1, .int .i64 b, .string ⟨#[]⟩, .slice none 0 0, .slice none 0 0, .slice none 0 0] (by kernel_rfl) rfl hone rfl rfl rfl rfl ?_; intro w3 hB3 hg3) | fail)
  exact ret_blk hB3 rfl rfl Tryd.underlying40 rfl (by kernel_rfl) rfl ⟨rfl, h0.trans (below_of_grown hg3 h0.size (by have := HQ.out; omega))⟩
end Go.Proofs.YtkjmddgnfgbioaaDoor


namespace Go.Proofs.YtkjmddgnfgbioaaDoor
set_option linter.unusedVariables false
set_option linter.unusedSimpArgs false
set_option maxRecDepth 100000
open Go.ChangeShapes Go.WideShapes Go.ChangeAt Go.RowKit

theorem own : ownKnob Tryd.prog.godebug = none := by kernel_rfl
theorem laidOut : laidOutB Tryd.prog = true := by kernel_rfl

/-- the form's own reach, of a slice that was opened -/
theorem reach_rows {H : Type} {ts : List TypeId} {ds : List (DataW H)} {n by_ : Nat} {d : DataW H} {t e : TypeId} (hsz : (DataW.weightsEach Tryd.prog ts ds).all (· ≤ reachBytes) = true) {j : Nat} (ht : ts[j]? = some t) (hd : ds[j]? = some d)
    (hu : Tryd.prog.underlying t = some (.slice e)) (hb : Tryd.prog.bytesOf e = by_) (h : (d = .nil ∧ n = 0) ∨ ∃ (el sp : List (DataW H)), d = .slice el sp ∧ el.length = n) : n * by_ ≤ 140737488351232 := by
  rcases h with ⟨_, rfl⟩ | ⟨el, sp, rfl, rfl⟩
  · simp
  · have := sized_slice hsz ht hd hu
    rw [hb] at this
    have h2 : el.length * by_ ≤ (el.length + sp.length) * by_ := Nat.mul_le_mul_right _ (by omega)
    simp only [reachBytes] at this
    omega
end Go.Proofs.YtkjmddgnfgbioaaDoor


namespace Go.Proofs.YtkjmddgnfgbioaaDoor
set_option linter.unusedVariables false
set_option linter.unusedSimpArgs false
set_option maxRecDepth 100000
open Go Go.RowKit

theorem run_eqItems_ints {P : Program} (w : World) (d : Nat) (e : TypeId) {k k' : IntKind} (he : P.underlying e = some (.int k')) (hc : P.cellsOf e = 1) (xs ys : List Int) (hl : xs.length = ys.length) :
    ∀ (n j : Nat), j + n = xs.length → (Op.eqItems (d + 1) e (P.cellsOf e) (ints k xs).toArray (ints k ys).toArray (List.range' j n)).run P w = .ok (decide (xs.drop j = ys.drop j)) w := by
  intro n
  induction n with
  | zero =>
    intro k hk
    rw [List.drop_of_length_le (by omega), List.drop_of_length_le (by omega)]
    simp [Op.eqItems]
  | succ n ih =>
    intro j hk
    have hx : xs[j]? = some xs[j] := List.getElem?_eq_getElem (by omega)
    have hy : ys[j]? = some ys[j] := List.getElem?_eq_getElem (by omega)
    have hagg : (isAgg e).run P w = .ok false w := by
      unfold isAgg
      rw [Sem.run_bind, run_underlying he w]
      rfl
    have px : (part e (ints k xs).toArray (j * P.cellsOf e)).run P w = .ok (.int k xs[j]) w := by
      simp [part, Sem.run_bind, hagg, hc, ints, hx]
    have py : (part e (ints k ys).toArray (j * P.cellsOf e)).run P w = .ok (.int k ys[j]) w := by
      simp [part, Sem.run_bind, hagg, hc, ints, hy]
    rw [List.range'_succ]
    simp only [Op.eqItems, Sem.run_bind, px, py, run_equalIn_int w d e k k' _ _ he, Result.andThen_ok]
    have dx : xs.drop j = xs[j] :: xs.drop (j + 1) := List.drop_eq_getElem_cons (by omega)
    have dy : ys.drop j = ys[j] :: ys.drop (j + 1) := List.drop_eq_getElem_cons (by omega)
    have e : (xs.drop j = ys.drop j) ↔ (xs[j] = ys[j] ∧ xs.drop (j + 1) = ys.drop (j + 1)) := by rw [dx, dy, List.cons.injEq]
    by_cases hb : xs[j] = ys[j]
    · have hb' : (!(xs[j] == ys[j])) = false := by simp [hb]
      rw [hb', if_neg (by simp), ih (j + 1) (by omega)]
      simp only [e, hb, true_and]
    · have hb' : (!(xs[j] == ys[j])) = true := by simp [hb]
      rw [hb', if_pos rfl]
      simp only [e, hb, false_and]
      rfl

theorem run_equal_ints {P : Program} (w : World) (t e : TypeId) (n : Nat) {k k' : IntKind} (ht : P.underlying t = some (.array n e)) (he : P.underlying e = some (.int k')) (hc : P.cellsOf e = 1) (hi : (P.info? e).isSome = true) (xs ys : List Int) (hx : xs.length = n) (hy : ys.length = n) (b : Bool) (hb : decide (xs = ys) = b) :
    (Op.equalIn 10000 t (.agg (ints k xs).toArray) (.agg (ints k ys).toArray)).run P w = .ok b w := by
  subst hb
  obtain ⟨i, hi⟩ := Option.isSome_iff_exists.1 hi
  have := run_equalIn_array (P := P) w 9999 (ints k xs).toArray (ints k ys).toArray ht hi
  have h2 := run_eqItems_ints (P := P) (k := k) w 9998 e he hc xs ys (by omega) n 0 (by omega)
  rw [← List.range_eq_range'] at h2
  rw [this, h2]
  simp
end Go.Proofs.YtkjmddgnfgbioaaDoor


namespace Go.Proofs.YtkjmddgnfgbioaaDoor
set_option linter.unusedVariables false
set_option linter.unusedSimpArgs false
set_option maxRecDepth 100000
open Go.ChangeShapes Go.WideShapes Go.ChangeAt Go.RowKit

theorem arr_heap : Tryd.prog.underlying 50 = some (.array 8 3) := by kernel_rfl
theorem heap_eq (xs ys : List Int) (hx : xs.length = 8) (hy : ys.length = 8) (b : Bool) (hb : decide (xs = ys) = b) (w : World) : (Op.equalIn 10000 50 (.agg (ints .i64 xs).toArray) (.agg (ints .i64 ys).toArray)).run Tryd.prog w = .ok b w :=
  run_equal_ints (P := Tryd.prog) w _ _ 8 arr_heap Tryd.underlying3 (by kernel_rfl) (by kernel_rfl) xs ys hx hy b hb

theorem okWide_heap {W : World} {base : Nat} {v : Value} (h : Value.okWide Tryd.prog W .any base 50 v) : ∃ cs, v = .agg cs ∧ cs.size = 8 := by
  have c8 : Tryd.prog.cellsOf 50 = 8 := by kernel_rfl
  simp only [Value.okWide, arr_heap] at h
  obtain ⟨cs, h1, h2, _⟩ := h
  exact ⟨cs, h1, by rw [h2, c8]⟩
theorem open_arg_heap {H : Type} {enc : TypeId × Value → H} {W : World} {base : Nat} {v : Value} {d : DataW H} {p : List MemPlace} (hv : Value.okWide Tryd.prog W .any base 50 v) (h : DataW.Trod enc Tryd.prog W 0 (fun _ => true) true 50 v d p) :
    ∃ l : List Int, v = hcells l ∧ l.length = 8 ∧ ∀ x ∈ l, Ex.rng x := by
  obtain ⟨cs, rfl, hcs⟩ := okWide_heap hv
  obtain ⟨fuel, hf⟩ := h
  have c1 : Tryd.prog.cellsOf 3 = 1 := by kernel_rfl
  obtain ⟨xs, m, -, -, -, hx, hel⟩ := DataW.trod_array arr_heap hf
  have key : ∀ i, i < 8 → ∃ n : Int, cs[i]? = some (.int .i64 n) ∧ Ex.rng n := fun i hi => by
    have := hel i hi
    rw [c1, List.getElem?_eq_getElem (by omega)] at this
    obtain ⟨n, hn, -, hw⟩ := DataW.trod_int Tryd.underlying3 this
    refine ⟨n, ?_, wf_i64.1 hw⟩
    have h2 := congrArg (fun l => l[0]?) hn
    simp [Value.cells] at h2
    have hsz : i < cs.size := by omega
    simpa [hsz] using h2
  obtain ⟨n0, k0, r0⟩ := key 0 (by omega)
  obtain ⟨n1, k1, r1⟩ := key 1 (by omega)
  obtain ⟨n2, k2, r2⟩ := key 2 (by omega)
  obtain ⟨n3, k3, r3⟩ := key 3 (by omega)
  obtain ⟨n4, k4, r4⟩ := key 4 (by omega)
  obtain ⟨n5, k5, r5⟩ := key 5 (by omega)
  obtain ⟨n6, k6, r6⟩ := key 6 (by omega)
  obtain ⟨n7, k7, r7⟩ := key 7 (by omega)
  refine ⟨[n0, n1, n2, n3, n4, n5, n6, n7], ?_, rfl, ?_⟩
  · unfold hcells
    congr 1
    apply Array.ext'
    obtain ⟨l⟩ := cs
    match l, hcs with
    | [a0, a1, a2, a3, a4, a5, a6, a7], _ =>
      simp at k0 k1 k2 k3 k4 k5 k6 k7
      subst k0 k1 k2 k3 k4 k5 k6 k7
      rfl
  · intro x hx
    simp only [List.mem_cons, List.not_mem_nil, or_false] at hx
    rcases hx with rfl | rfl | rfl | rfl | rfl | rfl | rfl | rfl <;> assumption
end Go.Proofs.YtkjmddgnfgbioaaDoor


namespace Go.Proofs.YtkjmddgnfgbioaaDoor
set_option linter.unusedVariables false
set_option linter.unusedSimpArgs false
set_option maxRecDepth 100000
open Go.RowKit

namespace Un
open Ex St
def s14 (a b : Int) : P := .cons 3 [] (.num a) (.num b) .nil .nil .nil
def in14 : P := .cons 4 [] .bad .bad (s14 0 1) .nil (s14 1 2)
def p14 : P := .cons 5 [] .bad .bad in14 .nil (s14 0 3)
theorem p14_err : Sr.err p14 Sr.zeros 9 = 0 ∧ (Sr.fin p14 Sr.zeros 9).heap = [3, 2, 0, 0, 0, 0, 0, 0] := by
  have hs : (Sr.go p14 Sr.zeros).steps = 5 := by decide +kernel
  have hf : Sr.free p14 = [] := by
    rw [Sr.free_nil]
    simp [p14, in14, s14, Sr.cl, Sr.okx]
  have h0 : Sr.err p14 Sr.zeros 9 = 0 := by
    unfold Sr.err
    rw [if_neg (by simp [hf]), if_neg (by omega), if_neg (by rw [hs]; omega)]
  refine ⟨h0, ?_⟩
  unfold Sr.fin
  rw [if_pos h0]
  decide +kernel
theorem p14_term : (term p14 Sr.zeros 9).size = 3 ∧ (term p14 Sr.zeros 9).before 0 1 = false ∧ (term p14 Sr.zeros 9).before 0 2 = true ∧ (term p14 Sr.zeros 9).before 1 2 = true := by
  unfold term
  rw [if_pos p14_err.1]
  exact ⟨by decide +kernel, by decide +kernel, by decide +kernel, by decide +kernel⟩
end Un

/-- Unfold of a slice of statements -/
theorem isP_unfold {w : World} {D : Option Addr} {dl dc : Nat} {p : St.P} (hp : IsP w (.slice D dl dc) p) (h : List Int) (fuel : Int) (hs : p.size ≤ 274877906944) (hh : h.length = 8) (hr : ∀ x ∈ h, Ex.rng x) :
    Calls Tryd.prog 34 #[.slice D dl dc, .agg (ints .i64 h).toArray, .int .i64 fuel] w fun e w' =>
      ∃ k c b l A n cap, e = .returned (.tuple #[.agg #[.int .i64 k, .int .i64 c, .bool b, .int .i64 l, .slice A n cap], .agg (ints .i64 (Sr.fin p h fuel).heap).toArray, .int .i64 (Sr.err p h fuel)]) ∧ TmR w'.heap.size w' (tcells k c b l A n cap) (Un.term p h fuel) ∧ KsR w'.heap.size w' (tcells k c b l A n cap) (Ks.of (Un.term p h fuel)) ∧ Below w.heap.size w w' := by
  obtain ⟨A, n, c, e, h1, h2, h3⟩ := hp
  injection e with e1 e2 e3
  subst e1 e2 e3
  refine (unfold_any p h fuel w w.heap.size dl dc D (Nat.le_refl _) h3 h1 h2 hs hh hr).mono ?_
  rintro e w' ⟨cs, rfl, h4, h5, h6⟩
  obtain ⟨k, c, b, l, A, n, cap, rfl, -, -⟩ := h4.form
  exact ⟨k, c, b, l, A, n, cap, rfl, h4, h5, h6⟩

theorem TmR.step_ {w w' : World} {cs : List Value} {t : Sp.T} (h : TmR w.heap.size w cs t) (hb : Below w.heap.size w w') : TmR w'.heap.size w' cs t := (h.later hb).keep hb.size fun _ _ => rfl
theorem zeros_rng : ∀ x ∈ Sr.zeros, Ex.rng x := by
  intro x hx
  simp [Sr.zeros] at hx
  subst hx
  unfold Ex.rng; omega

set_option maxHeartbeats 4000000 in
theorem alive14_any (w : World) : Calls Tryd.prog 33 #[] w fun e w' => e = .returned (.bool true) ∧ Below w.heap.size w w' := by
  have hd0 : 0 ≤ 0 ∧ 0 ≤ maxLen ∧ 0 ≤ 0 ∧ 0 ≤ maxLen := ⟨Nat.le_refl _, Nat.zero_le _, Nat.le_refl _, Nat.zero_le _⟩
  have hr3 : ∀ n : Int, 0 ≤ n → n ≤ 3 → Ex.rng n := fun n h1 h2 => by unfold Ex.rng; omega
  have pS : ∀ (w : World) (a b : Int), Ex.rng a → Ex.rng b → PC w.heap.size w (stcells 3 ⟨#[]⟩ (xcells 1 a ⟨#[]⟩ none 0 0) (xcells 1 b ⟨#[]⟩ none 0 0) none 0 0 none 0 0) 1 (Un.s14 a b) := fun w a b ha hb => PC.one hd0 (xnumU w a ha) (xnumU w b hb) (.nil _) (.nil _)
  have pW : ∀ (w : World) (k : Int) (D : Option Addr) (dl dc : Nat) (p : St.P), IsP w (.slice D dl dc) p → PC w.heap.size w (stcells k ⟨#[]⟩ xz4 xz4 D dl dc none 0 0) 1 (.cons k [] .bad .bad p .nil .nil) := fun w k D dl dc p h => by
    obtain ⟨A, n, c, e, h1, h2, h3⟩ := h
    injection e with e1 e2 e3
    subst e1 e2 e3
    exact PC.one ⟨h1, h2, Nat.le_refl _, Nat.zero_le _⟩ (xbadU w) (xbadU w) h3 (.nil _)
  have HPP := Lib.hid (And.intro pS (And.intro pW hr3))
  clear pS pW hr3 hd0
  go_enter Tryd.func33, Tryd.ntmps33
  go_wp2_with fail
  refine (storeU_any 0 1 _).mono ?_
  rintro e w1 ⟨rfl, hb1⟩
  have ip1 := IsP.lit (HPP.out.1 w1 0 1 (HPP.out.2.2 0 (by omega) (by omega)) (HPP.out.2.2 1 (by omega) (by omega))) (by decide)
  have hbx1 := below_alloc hb1 (.cells (stcells 3 ⟨#[]⟩ (xcells 1 0 ⟨#[]⟩ none 0 0) (xcells 1 1 ⟨#[]⟩ none 0 0) none 0 0 none 0 0).toArray 40)
  unfold stcells xcells at ip1 hbx1 ⊢
  simp only [List.cons_append, List.nil_append] at ip1 hbx1 ⊢
  clear hb1
  go_wp2_with fail
  refine (asyncU_any _ _ _ _).mono ?_
  rintro e w2 ⟨rfl, hb2⟩
  replace ip1 := ip1.step hb2
  replace hbx1 := below_next hb2 hbx1
  clear hb2
  unfold stcells xz4
  simp only [List.cons_append, List.nil_append]
  go_wp2_with fail
  refine (storeU_any 1 2 _).mono ?_
  rintro e w3 ⟨rfl, hb3⟩
  replace ip1 := ip1.step hb3
  replace hbx1 := below_next hb3 hbx1
  have ip2 := IsP.lit ((HPP.out.2.1 w3 4 _ _ _ _ ip1).append (HPP.out.1 w3 1 2 (HPP.out.2.2 1 (by omega) (by omega)) (HPP.out.2.2 2 (by omega) (by omega)))) (by decide)
  have hbx2 := below_alloc hbx1 (.cells (stcells 4 ⟨#[]⟩ xz4 xz4 (some ⟨w1.heap.size, 0, none⟩) 1 1 none 0 0 ++ stcells 3 ⟨#[]⟩ (xcells 1 1 ⟨#[]⟩ none 0 0) (xcells 1 2 ⟨#[]⟩ none 0 0) none 0 0 none 0 0).toArray 40)
  unfold stcells xcells xz4 at ip2 hbx2
  unfold stcells xcells
  simp only [List.cons_append, List.nil_append] at ip2 hbx2 ⊢
  clear hb3 ip1 hbx1
  go_wp2_with fail
  refine (finishU_any _ _ _ _).mono ?_
  rintro e w4 ⟨rfl, hb4⟩
  replace ip2 := ip2.step hb4
  replace hbx2 := below_next hb4 hbx2
  clear hb4
  unfold stcells xz4
  simp only [List.cons_append, List.nil_append]
  go_wp2_with fail
  refine (storeU_any 0 3 _).mono ?_
  rintro e w5 ⟨rfl, hb5⟩
  replace ip2 := ip2.step hb5
  replace hbx2 := below_next hb5 hbx2
  have ip3 := IsP.lit ((HPP.out.2.1 w5 5 _ _ _ _ ip2).append (HPP.out.1 w5 0 3 (HPP.out.2.2 0 (by omega) (by omega)) (HPP.out.2.2 3 (by omega) (by omega)))) (by decide)
  have hbx3 := below_alloc hbx2 (.cells (stcells 5 ⟨#[]⟩ xz4 xz4 (some ⟨w3.heap.size, 0, none⟩) 2 2 none 0 0 ++ stcells 3 ⟨#[]⟩ (xcells 1 0 ⟨#[]⟩ none 0 0) (xcells 1 3 ⟨#[]⟩ none 0 0) none 0 0 none 0 0).toArray 40)
  unfold stcells xcells xz4 at ip3 hbx3
  unfold stcells xcells
  simp only [List.cons_append, List.nil_append] at ip3 hbx3 ⊢
  clear hb5 ip2 hbx2 HPP
  have hp : ((St.P.cons 5 [] .bad .bad ((St.P.cons 4 [] .bad .bad (Un.s14 0 1) .nil .nil) ++ Un.s14 1 2) .nil .nil) ++ Un.s14 0 3) = Un.p14 := rfl
  rw [hp] at ip3
  clear hp
  go_wp2_with fail
  have hu := fun w' (h : IsP w' (.slice (some ⟨w5.heap.size, 0, none⟩) (1 + 1) (1 + 1)) Un.p14) => isP_unfold h Sr.zeros 9 (by decide) rfl zeros_rng
  rw [Un.p14_err.1, Un.p14_err.2] at hu
  simp only [Sr.zeros, ints, List.map_cons, List.map_nil] at hu
  refine (hu _ ip3).mono ?_
  rintro e w6 ⟨k, c, b, l, A, n, cap, rfl, ht, -, hb6⟩
  replace hbx3 := below_next hb6 hbx3
  obtain ⟨t, htq⟩ : ∃ t, t = Un.term Un.p14 Sr.zeros 9 := ⟨_, rfl⟩
  obtain ⟨h3, h01, h02, h12⟩ := Un.p14_term
  have htt : Un.term Un.p14 [0, 0, 0, 0, 0, 0, 0, 0] 9 = t := htq.symm
  rw [htt] at ht
  rw [← htq] at h3 h01 h02 h12
  have hB1 : Below w6.heap.size w6 ((w6.alloc (.cells zterm.toArray 59)).alloc (.cells zheap.toArray 50)) := below_alloc (below_alloc (Below.refl _ _) _) _
  have x1 := (Blk.new w6 59 zterm).alloc (.cells zheap.toArray 50)
  have x2 := Blk.new (w6.alloc (.cells zterm.toArray 59)) 50 zheap
  have hz : ((w6.alloc (.cells zterm.toArray 59)).alloc (.cells zheap.toArray 50)).heap.size = w6.heap.size + 1 + 1 := by simp
  simp only [World.size_alloc] at x2
  have hend : ∀ w7 w8, ((w6.alloc (.cells zterm.toArray 59)).alloc (.cells zheap.toArray 50)).grownBy w7 (some w6.heap.size) → w7.grownBy w8 (some (w6.heap.size + 1)) → Below w6.heap.size w6 w8 := fun w7 w8 g7 g8 => (hB1.trans (below_of_grown g7 (by omega) (by omega))).trans (below_of_grown g8 (by have := g7.size; omega) (by omega))
  have hx2 : ∀ w7, ((w6.alloc (.cells zterm.toArray 59)).alloc (.cells zheap.toArray 50)).grownBy w7 (some w6.heap.size) → Blk w7 (w6.heap.size + 1) 50 zheap := fun w7 g7 => x2.grown g7 (by intro e; injection e with e; omega)
  have HE := Lib.hid (And.intro hend (And.intro ht (And.intro hbx3 (And.intro h3 (And.intro h01 (And.intro h02 (And.intro h12 hx2)))))))
  clear hend hB1 hz hu ip3 hbx3 hb6 htq htt h3 h01 h02 h12 ht hx2 x2
  unfold zterm zheap at *
  go_upto_region 2 with (first | (refine wpl_put_blk x1 [.int .i64 k, .int .i64 c, .bool b, .int .i64 l, .slice A n cap] (by kernel_rfl) rfl (by intro v hv; simp at hv; rcases hv with rfl | rfl | rfl | rfl | rfl <;> rfl) rfl rfl rfl rfl ?_; intro w7 hB7 hg7; have hB72 := HE.out.2.2.2.2.2.2.2 w7 hg7) | (refine wpl_put_blk hB72 [.int .i64 3, .int .i64 2, .int .i64 0, .int .i64 0, .int .i64 0, .int .i64 0, .int .i64 0, .int .i64 0] (by kernel_rfl) rfl (by intro v hv; simp at hv; rcases hv with rfl | rfl | rfl <;> rfl) rfl rfl rfl rfl ?_; intro w8 hB8 hg8) | fail)
  obtain ⟨hend, ht, hbx3, h3, h01, h02, h12, -⟩ := HE.out
  have hb68 := hend w7 w8 hg7 hg8
  have x8 := hB7.grown hg8 (by intro e; injection e with e; omega)
  have ht8 := ht.step_ hb68
  have hb8 := below_next hb68 hbx3
  have hw8 := hb68.size
  obtain ⟨Q, hQ⟩ : ∃ Q, Q = w6.heap.size := ⟨_, rfl⟩
  rw [← hQ] at x8 hB8 ⊢
  have HT := Lib.hid (And.intro ht8 (And.intro hb8 (And.intro h3 (And.intro h01 (And.intro h02 h12)))))
  clear hend ht hbx3 h3 h01 h02 h12 hb68 ht8 hb8 HE hB7 hg7 hg8 hB72 x1 hQ hw8
  have a0 : ∀ w', Below w8.heap.size w8 w' → (w'.cell? ⟨Q, 0, none⟩ = some (.int .i64 k) ∧ w'.cell? ⟨Q, 1, none⟩ = some (.int .i64 c) ∧ w'.cell? ⟨Q, 2, none⟩ = some (.bool b) ∧ w'.cell? ⟨Q, 3, none⟩ = some (.int .i64 l) ∧ w'.cell? ⟨Q, 4, none⟩ = some (.slice A n cap)) := fun w' hb => ⟨((x8.below hb).cell 0).trans rfl, ((x8.below hb).cell 1).trans rfl, ((x8.below hb).cell 2).trans rfl, ((x8.below hb).cell 3).trans rfl, ((x8.below hb).cell 4).trans rfl⟩
  have q0 : w8.cell? ⟨Q + 1, 0, none⟩ = some (.int .i64 3) := (hB8.cell 0).trans rfl
  have q1 : w8.cell? ⟨Q + 1, 1, none⟩ = some (.int .i64 2) := (hB8.cell 1).trans rfl
  have q2 : w8.cell? ⟨Q + 1, 2, none⟩ = some (.int .i64 0) := (hB8.cell 2).trans rfl
  have q3 : w8.cell? ⟨Q + 1, 3, none⟩ = some (.int .i64 0) := (hB8.cell 3).trans rfl
  have q4 : w8.cell? ⟨Q + 1, 4, none⟩ = some (.int .i64 0) := (hB8.cell 4).trans rfl
  have q5 : w8.cell? ⟨Q + 1, 5, none⟩ = some (.int .i64 0) := (hB8.cell 5).trans rfl
  have q6 : w8.cell? ⟨Q + 1, 6, none⟩ = some (.int .i64 0) := (hB8.cell 6).trans rfl
  have q7 : w8.cell? ⟨Q + 1, 7, none⟩ = some (.int .i64 0) := (hB8.cell 7).trans rfl
  have HA := Lib.hid a0
  obtain ⟨c0, c1, c2, c3, c4⟩ := HA.out w8 (Below.refl _ _)
  have heq : ∀ w, (Op.equalIn 10000 50 (.agg #[.int .i64 3, .int .i64 2, .int .i64 0, .int .i64 0, .int .i64 0, .int .i64 0, .int .i64 0, .int .i64 0]) (.agg #[.int .i64 3, .int .i64 2, .int .i64 0, .int .i64 0, .int .i64 0, .int .i64 0, .int .i64 0, .int .i64 0])).run Tryd.prog w = .ok true w := fun w => heap_eq [3, 2, 0, 0, 0, 0, 0, 0] [3, 2, 0, 0, 0, 0, 0, 0] rfl rfl true (by decide) w
  clear x8 hB8 a0
  go_wp2_with fail
  refine (leaves_any w8 (tcells k c b l A n cap) t HT.out.1 (by have := HT.out.2.2.1; omega)).mono ?_
  rintro e w9 ⟨v9, rfl, hs9, hb9⟩
  obtain ⟨A9, n9, rfl, -⟩ := hs9
  rw [HT.out.2.2.1]
  clear c0 c1 c2 c3 c4 q0 q1 q2 q3 q4 q5 q6 q7
  obtain ⟨c0, c1, c2, c3, c4⟩ := HA.out w9 hb9
  go_wp2_with fail
  refine (before_any w9 (tcells k c b l A n cap) t 0 1 (HT.out.1.step_ hb9) (by have := HT.out.2.2.1; omega)).mono ?_
  rw [HT.out.2.2.2.1]
  rintro e w10 ⟨rfl, hb10⟩
  have hb810 := below_next hb10 hb9
  clear c0 c1 c2 c3 c4
  obtain ⟨c0, c1, c2, c3, c4⟩ := HA.out w10 hb810
  go_wp2_with fail
  refine (before_any w10 (tcells k c b l A n cap) t 0 2 (HT.out.1.step_ hb810) (by have := HT.out.2.2.1; omega)).mono ?_
  rw [HT.out.2.2.2.2.1]
  rintro e w11 ⟨rfl, hb11⟩
  have hb811 := below_next hb11 hb810
  clear c0 c1 c2 c3 c4
  obtain ⟨c0, c1, c2, c3, c4⟩ := HA.out w11 hb811
  go_wp2_with fail
  refine (before_any w11 (tcells k c b l A n cap) t 1 2 (HT.out.1.step_ hb811) (by have := HT.out.2.2.1; omega)).mono ?_
  rw [HT.out.2.2.2.2.2]
  rintro e w12 ⟨rfl, hb12⟩
  have hbF := below_next (below_next hb12 hb811) HT.out.2.1
  have HF := Lib.hid hbF
  clear c0 c1 c2 c3 c4 hbF
  go_wp2_with fail
  go_ret
  exact ⟨rfl, HF.out⟩
end Go.Proofs.YtkjmddgnfgbioaaDoor


namespace Go.Proofs.YtkjmddgnfgbioaaDoor
set_option linter.unusedVariables false
set_option linter.unusedSimpArgs false
set_option maxRecDepth 100000
open Go.RowKit

namespace Sp
theorem acccs_get (l : List Acc) (i : Nat) (p : Acc) (h : l[i]? = some p) : (acccs l)[i * 3]? = some (.int .i64 p.1) ∧ (acccs l)[i * 3 + 1]? = some (.bool p.2.1) ∧ (acccs l)[i * 3 + 2]? = some (.int .i64 p.2.2) :=
  ⟨flat_get accc 3 (fun _ => rfl) l i 0 p h (by omega), flat_get accc 3 (fun _ => rfl) l i 1 p h (by omega), flat_get accc 3 (fun _ => rfl) l i 2 p h (by omega)⟩
theorem take_snoc_eq {α : Type} {xs ys : List α} {k : Nat} {x y : α} (hx : xs[k]? = some x) (hy : ys[k]? = some y) (ht : xs.take k = ys.take k) (e : x = y) : xs.take (k + 1) = ys.take (k + 1) := by
  have hsn : ∀ (z : α) (l : List α), l[k]? = some z → l.take (k + 1) = l.take k ++ [z] := fun z l h => by
    obtain ⟨h', rfl⟩ := List.getElem?_eq_some_iff.1 h
    exact List.take_succ_eq_append_getElem h'
  rw [hsn _ _ hx, hsn _ _ hy, ht, e]
theorem ne_of_get {α : Type} {xs ys : List α} {k : Nat} {x y : α} (hx : xs[k]? = some x) (hy : ys[k]? = some y) (e : x ≠ y) : xs ≠ ys := by
  rintro rfl
  rw [hx] at hy
  injection hy with hy
  exact e hy
end Sp
end Go.Proofs.YtkjmddgnfgbioaaDoor


namespace Go.Proofs.YtkjmddgnfgbioaaDoor
set_option linter.unusedVariables false
set_option linter.unusedSimpArgs false
set_option maxRecDepth 100000
open Go.RowKit

theorem isP_labelsU {w : World} {D : Option Addr} {dl dc : Nat} {p : St.P} (h : IsP w (.slice D dl dc) p) (hs : p.size ≤ 274877906944) : Calls Tryd.prog 38 #[.slice D dl dc] w fun e w' => e = .returned (.int .i64 (St.labels p : Nat)) ∧ Below w.heap.size w w' := by
  obtain ⟨A, n, c, e, h1, h2, h3⟩ := h
  injection e with e1 e2 e3
  subst e1 e2 e3
  exact labels_any p w w.heap.size dl dc D (Nat.le_refl _) h3 h1 h2 (by omega)
theorem Un.term_size_ (p : St.P) (h : List Int) (fuel : Int) : (Un.term p h fuel).size ≤ 2000 := by
  show (Un.term p h fuel).leaves.length ≤ 2000
  rw [Un.term_leaves]
  unfold Sr.fin
  split
  · rename_i h0
    obtain ⟨t, h1, h2, -⟩ := (Sr.run_on p [] 0 (Sr.M0 h)).trace
    have h3 : (Sr.go p h).trace.length ≤ (Sr.go p h).steps := by
      show (Sr.run p [] 0 (Sr.M0 h)).trace.length ≤ _
      rw [h1]
      simp [Sr.M0] at h2 ⊢
      exact h2
    unfold Sr.err at h0
    split at h0
    · cases h0
    · split at h0
      · cases h0
      · split at h0
        · cases h0
        · omega
  · exact Nat.zero_le _
theorem Un.fin_len_ (p : St.P) (h : List Int) (fuel : Int) (hh : h.length = 8) : (Sr.fin p h fuel).heap.length = 8 := by
  unfold Sr.fin
  split
  · show (Sr.run p [] 0 (Sr.M0 h)).heap.length = 8
    rw [(Sr.run_on p [] 0 (Sr.M0 h)).heap]
    exact hh
  · rfl
/-- a slice of pairs; a variable that is new -/
def FPr (xs : List (Nat × Nat)) : Fact (fun w w' => Below w.heap.size w w') := ⟨fun v w => ∃ A c, v = .slice A xs.length c ∧ SlV w 2 (.slice A xs.length c) xs.length (paircs xs), fun v w w' ⟨A, c, h1, h2⟩ k => ⟨A, c, h1, h2.below k⟩⟩
def FNewP (B : Nat) (t : TypeId) (cs : List Value) : Fact (fun w w' => Below w.heap.size w w') := ⟨fun v w => ∃ g, v = .pointer (some ⟨g, 0, none⟩) ∧ B ≤ g ∧ Blk w g t cs, fun v w w' ⟨g, h1, h2, h3⟩ k => ⟨g, h1, h2, h3.below k⟩⟩

set_option maxHeartbeats 8000000 in
theorem mhpSound_any (p : St.P) (h : List Int) (fuel i j : Int) (w : World) (D : Option Addr) (dl dc : Nat) (hT : Tab w) (hp : IsP w (.slice D dl dc) p) (hs : p.size ≤ 274877906944) (hh : h.length = 8) (hr : ∀ x ∈ h, Ex.rng x) :
    Calls Tryd.prog 9 #[.slice D dl dc, hcells h, .int .i64 fuel, .int .i64 i, .int .i64 j] w fun e w' => e = .returned (.bool true) ∧ Below w.heap.size w w' := by
  obtain ⟨b0, b1, b2, b3, b4, b5, b6, b7, rfl⟩ := Sr.heap8 hh
  have hU := fun w' (h : IsP w' (.slice D dl dc) p) => isP_unfold h [b0, b1, b2, b3, b4, b5, b6, b7] fuel hs rfl hr
  have hL := fun w' (h : IsP w' (.slice D dl dc) p) => isP_labelsU h hs
  have hPr := fun w' (h : IsP w' (.slice D dl dc) p) (hT : Tab w') => isP_pairs h hT (show p.size ≤ 1099511627776 by omega)
  have hsz := Un.term_size_ p [b0, b1, b2, b3, b4, b5, b6, b7] fuel
  have hlaw := fun x y => Un.sound p [b0, b1, b2, b3, b4, b5, b6, b7] fuel i j x y
  obtain ⟨a0, a1, a2, a3, a4, a5, a6, a7, hfin⟩ := Sr.heap8 (Un.fin_len_ p [b0, b1, b2, b3, b4, b5, b6, b7] fuel rfl)
  obtain ⟨E, hE⟩ : ∃ E, E = Sr.err p [b0, b1, b2, b3, b4, b5, b6, b7] fuel := ⟨_, rfl⟩
  obtain ⟨t, ht⟩ : ∃ t, t = Un.term p [b0, b1, b2, b3, b4, b5, b6, b7] fuel := ⟨_, rfl⟩
  obtain ⟨M, hM⟩ : ∃ M, M = Sr.fin p [b0, b1, b2, b3, b4, b5, b6, b7] fuel := ⟨_, rfl⟩
  obtain ⟨LB, hLB⟩ : ∃ LB, LB = St.labels p := ⟨_, rfl⟩
  obtain ⟨PS, hPS⟩ : ∃ PS, PS = St.pairs p := ⟨_, rfl⟩
  rw [← hM] at hfin
  rw [← ht] at hsz
  simp only [← hE, ← ht, ← hLB, ← hPS] at hlaw
  simp only [← hE, ← ht, ← hM, hfin] at hU
  simp only [← hLB] at hL
  simp only [← hPS] at hPr
  simp only [hcells, ints, List.map_cons, List.map_nil] at hU ⊢
  have hb0 : Below w.heap.size w (w.alloc (.cells #[.int .i64 b0, .int .i64 b1, .int .i64 b2, .int .i64 b3, .int .i64 b4, .int .i64 b5, .int .i64 b6, .int .i64 b7] 50)) := below_alloc (Below.refl _ _) _
  have x0 := Blk.new w 50 [.int .i64 b0, .int .i64 b1, .int .i64 b2, .int .i64 b3, .int .i64 b4, .int .i64 b5, .int .i64 b6, .int .i64 b7]
  have ip0 := hp.step hb0
  have hT0 := hT.step hb0
  have HH := Lib.hid (And.intro hlaw hsz)
  have HF0 := Lib.hid (And.intro hL hPr)
  clear hE ht hM hfin hlaw hsz hp hs hh hr hT hLB hPS hL hPr
  go_enter Tryd.func9, Tryd.ntmps9
  go_upto_region 1 with (fail)
  obtain ⟨Q, hQ⟩ : ∃ Q, Q = w.heap.size := ⟨_, rfl⟩
  generalize (w.alloc (.cells #[.int .i64 b0, .int .i64 b1, .int .i64 b2, .int .i64 b3, .int .i64 b4, .int .i64 b5, .int .i64 b6, .int .i64 b7] 50)) = W0 at hb0 x0 ip0 hT0 ⊢
  rw [← hQ] at x0 ⊢
  have HQ := Lib.hid hQ
  clear hQ
  go_wp2_with fail
  refine (alive20_any W0 hT0).mono ?_
  rintro e w1 ⟨rfl, hb1⟩
  replace x0 := x0.below hb1
  replace ip0 := ip0.step hb1
  replace hT0 := hT0.step hb1
  replace hb0 := below_next hb1 hb0
  have d0 : w1.cell? ⟨Q, 0, none⟩ = some (.int .i64 b0) := (x0.cell 0).trans rfl
  have d1 : w1.cell? ⟨Q, 1, none⟩ = some (.int .i64 b1) := (x0.cell 1).trans rfl
  have d2 : w1.cell? ⟨Q, 2, none⟩ = some (.int .i64 b2) := (x0.cell 2).trans rfl
  have d3 : w1.cell? ⟨Q, 3, none⟩ = some (.int .i64 b3) := (x0.cell 3).trans rfl
  have d4 : w1.cell? ⟨Q, 4, none⟩ = some (.int .i64 b4) := (x0.cell 4).trans rfl
  have d5 : w1.cell? ⟨Q, 5, none⟩ = some (.int .i64 b5) := (x0.cell 5).trans rfl
  have d6 : w1.cell? ⟨Q, 6, none⟩ = some (.int .i64 b6) := (x0.cell 6).trans rfl
  have d7 : w1.cell? ⟨Q, 7, none⟩ = some (.int .i64 b7) := (x0.cell 7).trans rfl
  clear hb1
  go_wp2_with fail
  refine (hU w1 ip0).mono ?_
  rintro e w2 ⟨k, c, b, l, A, n, cap, rfl, tm, -, hb2⟩
  replace ip0 := ip0.step hb2
  replace hT0 := hT0.step hb2
  replace hb0 := below_next hb2 hb0
  clear d0 d1 d2 d3 d4 d5 d6 d7 hb2 hU x0
  have hB1 : Below w2.heap.size w2 ((w2.alloc (.cells zterm.toArray 59)).alloc (.cells zheap.toArray 50)) := below_alloc (below_alloc (Below.refl _ _) _) _
  have y1 := (Blk.new w2 59 zterm).alloc (.cells zheap.toArray 50)
  have y2 := Blk.new (w2.alloc (.cells zterm.toArray 59)) 50 zheap
  have hz : ((w2.alloc (.cells zterm.toArray 59)).alloc (.cells zheap.toArray 50)).heap.size = w2.heap.size + 1 + 1 := by simp
  simp only [World.size_alloc] at y2
  have hend : ∀ w7 w8, ((w2.alloc (.cells zterm.toArray 59)).alloc (.cells zheap.toArray 50)).grownBy w7 (some w2.heap.size) → w7.grownBy w8 (some (w2.heap.size + 1)) → Below w2.heap.size w2 w8 := fun w7 w8 g7 g8 => (hB1.trans (below_of_grown g7 (by omega) (by omega))).trans (below_of_grown g8 (by have := g7.size; omega) (by omega))
  have hx2 : ∀ w7, ((w2.alloc (.cells zterm.toArray 59)).alloc (.cells zheap.toArray 50)).grownBy w7 (some w2.heap.size) → Blk w7 (w2.heap.size + 1) 50 zheap := fun w7 g7 => y2.grown g7 (by intro e; injection e with e; omega)
  have HE := Lib.hid (And.intro hend (And.intro hx2 (And.intro tm (And.intro hT0 (And.intro ip0 hb0)))))
  clear hend hB1 hz hx2 y2 tm hT0 ip0 hb0
  unfold zterm zheap at *
  go_upto_region 4 with (first | (refine wpl_put_blk y1 [.int .i64 k, .int .i64 c, .bool b, .int .i64 l, .slice A n cap] (by kernel_rfl) rfl (by intro v hv; simp at hv; rcases hv with rfl | rfl | rfl | rfl | rfl <;> rfl) rfl rfl rfl rfl ?_; intro w7 hB7 hg7; have hB72 := HE.out.2.1 w7 hg7) | (refine wpl_put_blk hB72 [.int .i64 a0, .int .i64 a1, .int .i64 a2, .int .i64 a3, .int .i64 a4, .int .i64 a5, .int .i64 a6, .int .i64 a7] (by kernel_rfl) rfl (by intro v hv; simp at hv; rcases hv with rfl | rfl | rfl | rfl | rfl | rfl | rfl | rfl <;> rfl) rfl rfl rfl rfl ?_; intro w3 hB8 hg8) | fail)
  obtain ⟨hend, -, tm, hT0, ip0, hb0⟩ := HE.out
  have hb23 := hend w7 w3 hg7 hg8
  have y3 := hB7.grown hg8 (by intro e; injection e with e; omega)
  replace tm := tm.step_ hb23
  replace ip0 := ip0.step hb23
  replace hT0 := hT0.step hb23
  replace hb0 := below_next hb23 hb0
  obtain ⟨Q7, hQ7⟩ : ∃ Q7, Q7 = w2.heap.size := ⟨_, rfl⟩
  rw [← hQ7] at y3 ⊢
  clear hend hb23 hB7 hg7 hg8 hB72 y1 hQ7 HE hB8
  have u0 : w3.cell? ⟨Q7, 0, none⟩ = some (.int .i64 k) := (y3.cell 0).trans rfl
  have u1 : w3.cell? ⟨Q7, 1, none⟩ = some (.int .i64 c) := (y3.cell 1).trans rfl
  have u2 : w3.cell? ⟨Q7, 2, none⟩ = some (.bool b) := (y3.cell 2).trans rfl
  have u3 : w3.cell? ⟨Q7, 3, none⟩ = some (.int .i64 l) := (y3.cell 3).trans rfl
  have u4 : w3.cell? ⟨Q7, 4, none⟩ = some (.slice A n cap) := (y3.cell 4).trans rfl
  go_wp2_with fail
  refine (leaves_any w3 (tcells k c b l A n cap) t tm (by have := HH.out.2; omega)).mono ?_
  rintro e w7 ⟨v7, rfl, hs7, hb7⟩
  obtain ⟨V7, c7, rfl, hle7, hm7, hlen7, hc7⟩ := hs7
  replace tm := tm.step_ hb7
  replace ip0 := ip0.step hb7
  replace hT0 := hT0.step hb7
  replace hb0 := below_next hb7 hb0
  replace y3 := y3.below hb7
  clear u0 u1 u2 u3 u4 hb7 hlen7
  have HZ := Lib.hid (And.intro tm (And.intro hT0 (And.intro ip0 (And.intro hb0 (And.intro y3 hc7)))))
  clear tm hT0 ip0 hb0 y3 hc7
  rcases h0 : (E != 0) with _ | _
  · go_wp2_with fail
    refine (HF0.out.1 w7 HZ.out.2.2.1).mono ?_
    rintro e w8 ⟨rfl, hb8⟩
    obtain ⟨tm, hT0, ip0, hb0, y3, hc7⟩ := HZ.out
    replace tm := tm.step_ hb8
    replace hT0 := hT0.step hb8
    replace ip0 := ip0.step hb8
    replace hb0 := below_next hb8 hb0
    replace y3 := y3.below hb8
    have hc8 := hc7.below hb8 hb8.size
    have HZ2 := Lib.hid (And.intro tm (And.intro hT0 (And.intro ip0 (And.intro hb0 (And.intro y3 hc8)))))
    clear HZ tm hT0 ip0 hb0 y3 hc7 hc8 hb8
    rcases h1 : decide ((65535 : Int) < (LB : Int)) with _ | _
    · rcases h2 : decide (i < 0) with _ | _
      · rcases h3 : decide (j < 0) with _ | _
        · rcases h4 : decide ((t.size : Int) ≤ i) with _ | _
          · rcases h5 : decide ((t.size : Int) ≤ j) with _ | _
            · rcases h6 : (i == j) with _ | _
              · have y3 := HZ2.out.2.2.2.2.1
                have gB1 := before_any w8 [.int .i64 k, .int .i64 c, .bool b, .int .i64 l, .slice A n cap] t i j HZ2.out.1 (by have := HH.out.2; omega)
                rcases hB1 : t.before i j with _ | _
                · rw [hB1] at gB1
                  have u0 : w8.cell? ⟨Q7, 0, none⟩ = some (.int .i64 k) := (y3.cell 0).trans rfl
                  have u1 : w8.cell? ⟨Q7, 1, none⟩ = some (.int .i64 c) := (y3.cell 1).trans rfl
                  have u2 : w8.cell? ⟨Q7, 2, none⟩ = some (.bool b) := (y3.cell 2).trans rfl
                  have u3 : w8.cell? ⟨Q7, 3, none⟩ = some (.int .i64 l) := (y3.cell 3).trans rfl
                  have u4 : w8.cell? ⟨Q7, 4, none⟩ = some (.slice A n cap) := (y3.cell 4).trans rfl
                  go_wp2_with fail
                  refine gB1.mono ?_
                  rintro e w9 ⟨rfl, hb9⟩
                  clear u0 u1 u2 u3 u4 gB1
                  replace y3 := y3.below hb9
                  have gB2 := before_any w9 [.int .i64 k, .int .i64 c, .bool b, .int .i64 l, .slice A n cap] t j i (HZ2.out.1.step_ hb9) (by have := HH.out.2; omega)
                  rcases hB2 : t.before j i with _ | _
                  · rw [hB2] at gB2
                    have u0 : w9.cell? ⟨Q7, 0, none⟩ = some (.int .i64 k) := (y3.cell 0).trans rfl
                    have u1 : w9.cell? ⟨Q7, 1, none⟩ = some (.int .i64 c) := (y3.cell 1).trans rfl
                    have u2 : w9.cell? ⟨Q7, 2, none⟩ = some (.bool b) := (y3.cell 2).trans rfl
                    have u3 : w9.cell? ⟨Q7, 3, none⟩ = some (.int .i64 l) := (y3.cell 3).trans rfl
                    have u4 : w9.cell? ⟨Q7, 4, none⟩ = some (.slice A n cap) := (y3.cell 4).trans rfl
                    go_wp2_with fail
                    refine gB2.mono ?_
                    rintro e wA ⟨rfl, hbA⟩
                    clear u0 u1 u2 u3 u4 gB2
                    have hb8A := below_next hbA hb9
                    obtain ⟨I, hI⟩ := Int.eq_ofNat_of_zero_le (show 0 ≤ i by have := of_decide_eq_false h2; omega)
                    obtain ⟨J, hJ⟩ := Int.eq_ofNat_of_zero_le (show 0 ≤ j by have := of_decide_eq_false h3; omega)
                    have hIs : I < t.size := by have := of_decide_eq_false h4; omega
                    have hJs : J < t.size := by have := of_decide_eq_false h5; omega
                    have hE0 : E = 0 := by rw [bne_eq_false_iff_eq] at h0; exact h0
                    have hij : i ≠ j := by intro e; rw [e] at h6; simp at h6
                    obtain ⟨x, hx⟩ : ∃ x, t.leaves[I]? = some x := ⟨_, List.getElem?_eq_getElem hIs⟩
                    obtain ⟨y, hy⟩ : ∃ y, t.leaves[J]? = some y := ⟨_, List.getElem?_eq_getElem hJs⟩
                    obtain ⟨m, n', hm, hn, hmem⟩ := HH.out.1 x y hE0 (by have := of_decide_eq_false h1; omega) (by omega) (by omega) hij (by rw [hI]; exact hx) (by rw [hJ]; exact hy) hB1 hB2
                    obtain ⟨-, -, gx⟩ := Sp.acccs_get _ _ _ hx
                    obtain ⟨-, -, gy⟩ := Sp.acccs_get _ _ _ hy
                    rw [hm] at gx
                    rw [hn] at gy
                    obtain ⟨ga, o, rfl, hga, hcc⟩ := (HZ2.out.2.2.2.2.2.below hb8A hb8A.size).at_ (fun e => by rw [e] at gx; simp at gx)
                    have cx := hcc _ _ gx
                    have cy := hcc _ _ gy
                    rw [← Nat.add_assoc] at cx cy
                    obtain ⟨lo, hlo⟩ : ∃ lo, lo = min m n' := ⟨_, rfl⟩
                    obtain ⟨hi, hhi⟩ : ∃ hi, hi = max m n' := ⟨_, rfl⟩
                    rw [← hlo, ← hhi] at hmem
                    have hmin : min (m : Int) (n' : Int) = (lo : Int) := by omega
                    have hmax : max (m : Int) (n' : Int) = (hi : Int) := by omega
                    obtain ⟨-, hT0, ip0, hb0, -, -⟩ := HZ2.out
                    have HY := Lib.hid (And.intro hmem (And.intro (hT0.step hb8A) (And.intro (ip0.step hb8A) (below_next hb8A hb0))))
                    clear hmem hT0 ip0 hb0 hb8A hbA hb9 hcc gx gy hga hm hn hlo hhi hx hy hij hE0 h0 h1 h2 h3 h4 h5 h6 hB1 hB2 HZ2 y3
                    subst hI hJ
                    clear HH
                    have kS : ∀ w', Below wA.heap.size wA w' → (Below wA.heap.size wA w' ∧ w'.cell? ⟨ga, o + I * 3 + 2, none⟩ = some (.int .i64 (m : Int)) ∧ w'.cell? ⟨ga, o + J * 3 + 2, none⟩ = some (.int .i64 (n' : Int))) := fun w' hb => ⟨hb, (hb.cell (World.block_lt_of_cell? _ _ cx)).trans cx, (hb.cell (World.block_lt_of_cell? _ _ cy)).trans cy⟩
                    have hS0 := kS _ (below_drew (Below.refl _ _))
                    clear cx cy
                    go_wp2_with fail
                    refine wp_walk_tail 24 (by kernel_rfl) (by kernel_rfl) (fun w w' => Below w.heap.size w w') (fun w' => (Below wA.heap.size wA w' ∧ w'.cell? ⟨ga, o + I * 3 + 2, none⟩ = some (.int .i64 (m : Int)) ∧ w'.cell? ⟨ga, o + J * 3 + 2, none⟩ = some (.int .i64 (n' : Int)))) hS0 ?_
                    simp only [List.length_cons, List.length_nil, Nat.reduceAdd, Nat.reduceSub, List.take_succ_cons, List.take_zero, List.drop_succ_cons, List.drop_zero]
                    repeat (first | (refine settle_skip (fun _ => by rfl) ?_; (simp only [Act.put, List.setIfInBounds_toArray, List.set_cons_zero, List.set_cons_succ])) | (refine' settle_run (fun _ _ => Below.refl _ _) (fun _ => by rfl) ?_ ?_; rotate_left; (focus (intro ρ w hS hF; (try dsimp only at hS); go_split_ands; go_simp; try with_reducible rfl)); (simp only [Act.put, List.setIfInBounds_toArray, List.set_cons_zero, List.set_cons_succ])))
                    (refine settle_known (FNewP wA.heap.size 47 [.int .i64 0, .int .i64 0]) (by rfl) (fun _ => by rfl)  ?_ ?_; (focus (intro ρ w hS hF K hK; (simp only [Act.put, List.setIfInBounds_toArray, List.set_cons_zero, List.set_cons_succ] at hK); go_simp; exact hK _ _ ⟨_, rfl, hS.1.size, Blk.new _ _ [.int .i64 0, .int .i64 0]⟩ (kS _ (below_alloc hS.1 _)) (below_alloc (Below.refl _ _) _))); (simp only [Act.put, List.setIfInBounds_toArray, List.set_cons_zero, List.set_cons_succ]))
                    refine settle_nil ?_
                    intro ρ wB hS hF
                    obtain ⟨g, hv, hg1, hB⟩ := hF 15 (FNewP wA.heap.size 47 [.int .i64 0, .int .i64 0]) (by repeat (first | exact List.mem_cons_self | apply List.mem_cons_of_mem))
                    have hbAB := hS.1
                    clear hF hS hS0 kS
                    dsimp only
                    rw [hv]
                    clear hv
                    have HX := Lib.hid (And.intro hbAB hg1)
                    clear hbAB hg1
                    refine wpl_put_blk hB [.int .i64 (lo : Int), .int .i64 (hi : Int)] (by kernel_rfl) rfl (by intro v hv; simp at hv; rcases hv with rfl | rfl <;> rfl) rfl rfl (by first | rfl | (simp only [hmin, hmax]) | skip) rfl ?_
                    intro wC hC hgC
                    have hbAC := HX.out.1.trans (below_of_grown hgC HX.out.1.size HX.out.2)
                    clear hB hgC HX
                    have kS : ∀ w', Below wC.heap.size wC w' → (Below wC.heap.size wC w' ∧ w'.cell? ⟨g, 0, none⟩ = some (.int .i64 (lo : Int)) ∧ w'.cell? ⟨g, 1, none⟩ = some (.int .i64 (hi : Int))) := fun w' hb => ⟨hb, ((hC.below hb).cell 0).trans rfl, ((hC.below hb).cell 1).trans rfl⟩
                    have hS0 := kS _ (below_drew (Below.refl _ _))
                    have gP : ∀ w', Below wC.heap.size wC w' → Calls Tryd.prog 26 #[.slice D dl dc] w' fun e w'' => ∃ A c, e = .returned (.slice A PS.length c) ∧ SlV w'' 2 (.slice A PS.length c) PS.length (paircs PS) ∧ Below w'.heap.size w' w'' := fun w' hb => HF0.out.2 w' (HY.out.2.2.1.step (below_next hb hbAC)) (HY.out.2.1.step (below_next hb hbAC))
                    have hbC := below_next hbAC HY.out.2.2.2
                    have HC2 := Lib.hid (And.intro HY.out.1 hbC)
                    clear HY hbAC hbC hC HF0 hmin hmax hIs hJs
                    go_wp2_with fail
                    refine wp_walk (by kernel_rfl) (by kernel_rfl) (fun w w' => Below w.heap.size w w') (fun w' => (Below wC.heap.size wC w' ∧ w'.cell? ⟨g, 0, none⟩ = some (.int .i64 (lo : Int)) ∧ w'.cell? ⟨g, 1, none⟩ = some (.int .i64 (hi : Int)))) hS0 ?_
                    repeat (first | (refine settle_skip (fun _ => by rfl) ?_; (simp only [Act.put, List.setIfInBounds_toArray, List.set_cons_zero, List.set_cons_succ])) | (refine' settle_run (fun _ _ => Below.refl _ _) (fun _ => by rfl) ?_ ?_; rotate_left; (focus (intro ρ w hS hF; (try dsimp only at hS); go_split_ands; go_simp; try with_reducible rfl)); (simp only [Act.put, List.setIfInBounds_toArray, List.set_cons_zero, List.set_cons_succ])))
                    (refine settle_known (FPr PS) (by rfl) (fun _ => by rfl)  ?_ ?_; (focus (intro ρ w hS hF K hK; (simp only [Act.put, List.setIfInBounds_toArray, List.set_cons_zero, List.set_cons_succ] at hK); go_simp; (refine (gP _ hS.1).mono ?_; rintro e w' ⟨A', c', rfl, hs', hb'⟩; exact hK _ _ ⟨A', c', rfl, hs'⟩ (kS _ (below_next hb' hS.1)) hb'))); (simp only [Act.put, List.setIfInBounds_toArray, List.set_cons_zero, List.set_cons_succ]))
                    repeat (first | (refine settle_skip (fun _ => by rfl) ?_; (simp only [Act.put, List.setIfInBounds_toArray, List.set_cons_zero, List.set_cons_succ])) | (refine' settle_run (fun _ _ => Below.refl _ _) (fun _ => by rfl) ?_ ?_; rotate_left; (focus (intro ρ w hS hF; (try dsimp only at hS); go_split_ands; go_simp; try with_reducible rfl)); (simp only [Act.put, List.setIfInBounds_toArray, List.set_cons_zero, List.set_cons_succ])))
                    (refine' settle_step (fun _ => by rfl) ?_ ?_; rotate_left; (focus (intro ρ w hS hF K hK; (simp only [Act.put, List.setIfInBounds_toArray, List.set_cons_zero, List.set_cons_succ] at hK); go_simp; (obtain ⟨A', c', hv, hs'⟩ := hF.1 (by rfl)); rw [hv] at hK ⊢; refine (contains_pair _ PS lo hi _ hs' HC2.out.1).mono ?_; rintro e w' ⟨rfl, hb'⟩; have hS' := kS _ (below_next hb' hS.1); have hE' := hb'; exact hK _ hS' hE')); (simp only [Act.put, List.setIfInBounds_toArray, List.set_cons_zero, List.set_cons_succ]))
                    repeat (first | (refine settle_skip (fun _ => by rfl) ?_; (simp only [Act.put, List.setIfInBounds_toArray, List.set_cons_zero, List.set_cons_succ])) | (refine' settle_run (fun _ _ => Below.refl _ _) (fun _ => by rfl) ?_ ?_; rotate_left; (focus (intro ρ w hS hF; (try dsimp only at hS); go_split_ands; go_simp; try with_reducible rfl)); (simp only [Act.put, List.setIfInBounds_toArray, List.set_cons_zero, List.set_cons_succ])))
                    refine settle_nil ?_
                    intro ρ wD hS hF
                    have hZ := Lib.hid (below_next hS.1 HC2.out.2)
                    clear hF hS hS0 kS gP HC2
                    dsimp only
                    go_wp2_with fail
                    go_ret
                    exact ⟨rfl, hZ.out⟩
                  · rw [hB2] at gB2
                    have u0 : w9.cell? ⟨Q7, 0, none⟩ = some (.int .i64 k) := (y3.cell 0).trans rfl
                    have u1 : w9.cell? ⟨Q7, 1, none⟩ = some (.int .i64 c) := (y3.cell 1).trans rfl
                    have u2 : w9.cell? ⟨Q7, 2, none⟩ = some (.bool b) := (y3.cell 2).trans rfl
                    have u3 : w9.cell? ⟨Q7, 3, none⟩ = some (.int .i64 l) := (y3.cell 3).trans rfl
                    have u4 : w9.cell? ⟨Q7, 4, none⟩ = some (.slice A n cap) := (y3.cell 4).trans rfl
                    go_wp2_with fail
                    refine gB2.mono ?_
                    rintro e wA ⟨rfl, hbA⟩
                    clear u0 u1 u2 u3 u4 gB2
                    go_wp2_with fail
                    go_ret
                    exact ⟨rfl, below_next (below_next hbA hb9) HZ2.out.2.2.2.1⟩
                · rw [hB1] at gB1
                  have u0 : w8.cell? ⟨Q7, 0, none⟩ = some (.int .i64 k) := (y3.cell 0).trans rfl
                  have u1 : w8.cell? ⟨Q7, 1, none⟩ = some (.int .i64 c) := (y3.cell 1).trans rfl
                  have u2 : w8.cell? ⟨Q7, 2, none⟩ = some (.bool b) := (y3.cell 2).trans rfl
                  have u3 : w8.cell? ⟨Q7, 3, none⟩ = some (.int .i64 l) := (y3.cell 3).trans rfl
                  have u4 : w8.cell? ⟨Q7, 4, none⟩ = some (.slice A n cap) := (y3.cell 4).trans rfl
                  go_wp2_with fail
                  refine gB1.mono ?_
                  rintro e w9 ⟨rfl, hb9⟩
                  clear u0 u1 u2 u3 u4 gB1
                  go_wp2_with fail
                  go_ret
                  exact ⟨rfl, below_next hb9 HZ2.out.2.2.2.1⟩
              · go_wp2_with fail
                go_ret
                exact ⟨rfl, HZ2.out.2.2.2.1⟩
            · go_wp2_with fail
              go_ret
              exact ⟨rfl, HZ2.out.2.2.2.1⟩
          · go_wp2_with fail
            go_ret
            exact ⟨rfl, HZ2.out.2.2.2.1⟩
        · go_wp2_with fail
          go_ret
          exact ⟨rfl, HZ2.out.2.2.2.1⟩
      · go_wp2_with fail
        go_ret
        exact ⟨rfl, HZ2.out.2.2.2.1⟩
    · go_wp2_with fail
      go_ret
      exact ⟨rfl, HZ2.out.2.2.2.1⟩
  · go_wp2_with fail
    go_ret
    exact ⟨rfl, HZ.out.2.2.2.1⟩
end Go.Proofs.YtkjmddgnfgbioaaDoor


namespace Go.Proofs.YtkjmddgnfgbioaaDoor
set_option linter.unusedVariables false
set_option linter.unusedSimpArgs false
set_option maxRecDepth 100000
open Go.ChangeShapes Go.WideShapes Go.ChangeAt Go.RowKit
set_option linter.unusedVariables false

theorem gTab : Tryd.prog.globalNamed "math/bits.deBruijn64tab" = some 0 := by kernel_rfl
theorem gTabType : (Tryd.prog.globals[0]?).map (·.type) = some 200 := by kernel_rfl
theorem cellsTab : Tryd.prog.cellsOf 200 = 64 := by kernel_rfl
theorem cellsByte : Tryd.prog.cellsOf 5 = 1 := by kernel_rfl
def tabInts : List Int := Lib.deBruijn64tab.map fun (x : Nat) => (x : Int)
theorem tab_is {W : World} (h : Lib.TabIs Tryd.prog W "math/bits.deBruijn64tab" .u8 tabInts) : Tab W := fun j hj => by
  have := h.cell gTab j (by unfold tabInts; rw [List.length_map]; exact hj)
  rw [this]
  unfold tabInts
  simp [List.getD, hj]
noncomputable def laidWorld (os : Os) : World :=
  { World.holding Tryd.prog os ⟨#[], #[], []⟩ with heap := (World.holding Tryd.prog os ⟨#[], #[], []⟩).heap.modify 0 fun
      | .cells _ t frozen => .cells (tabInts.map fun z => Value.int .u8 z).toArray t frozen
      | o => o }

end Go.Proofs.YtkjmddgnfgbioaaDoor


namespace Go.Proofs.YtkjmddgnfgbioaaDoor
set_option linter.unusedVariables false
set_option linter.unusedSimpArgs false
set_option maxRecDepth 100000
open Go.ChangeShapes Go.WideShapes Go.ChangeAt Go.RowKit

theorem open_arg_stmts {H : Type} {enc : TypeId × Value → H} {W : World} {base : Nat} {v : Value} {d : DataW H} {p : List MemPlace} (hv : Value.okWide Tryd.prog W .any base 34 v) (h : DataW.Trod enc Tryd.prog W 0 (fun _ => true) true 34 v d p) (hlt : ∀ x ∈ p, x.block < W.heap.size) :
    ∃ (A : Option Addr) (n c : Nat) (t : St.P), v = .slice A n c ∧ IsP W (.slice A n c) t ∧ t.size ≤ Rows.uptoBulk d := by
  obtain ⟨a, len, cap, rfl⟩ := okWide_slice Tryd.underlying34 hv
  obtain ⟨fuel, hf⟩ := h
  obtain ⟨A, n, c, t, e, h1, h2, h3, h4⟩ := open_stmts fuel (.slice a len cap) (d, p) (by simpa [Value.cells] using hf) hlt
  exact ⟨a, len, cap, t, rfl, ⟨A, n, c, e, h1, h2, h3⟩, h4⟩

end Go.Proofs.YtkjmddgnfgbioaaDoor
