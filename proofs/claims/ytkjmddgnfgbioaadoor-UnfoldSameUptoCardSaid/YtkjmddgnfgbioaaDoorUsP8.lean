/-
  The term of a program, in plain Lean: without async a chain; what is finished, and what is async; other names.
-/
import Derived.Test.YtkjmddgnfgbioaaDoorUsP6
import Derived.Test.YtkjmddgnfgbioaaDoorUsP7
import Derived.Test.YtkjmddgnfgbioaaDoorUsP2
import Derived.Test.YtkjmddgnfgbioaaDoorUsP1
import Derived.Test.YtkjmddgnfgbioaaDoorChecked
import Derived.Test.YtkjmddgnfgbioaaDoorUsP3
import Derived.Deep.RegionLaw
import Derived.Test.YtkjmddgnfgbioaaDoorRows
import Derived.Laws.StructEq
import Derived.OpenShut

namespace Go.Proofs.YtkjmddgnfgbioaaDoor
set_option linter.unusedVariables false
set_option linter.unusedSimpArgs false
set_option maxRecDepth 100000
open Go.RowKit
def hcells (h : List Int) : Value := .agg (ints .i64 h).toArray
end Go.Proofs.YtkjmddgnfgbioaaDoor


namespace Go.Proofs.YtkjmddgnfgbioaaDoor
set_option linter.unusedVariables false
set_option linter.unusedSimpArgs false
set_option maxRecDepth 100000
open Go.RowKit

theorem ublock_any : ∀ p : St.P, BlockU p := by
  suffices h : ∀ (n : Nat) (p : St.P), p.size ≤ n → BlockU p from fun p => h _ p (Nat.le_refl _)
  intro n
  induction n with
  | zero =>
    intro p hs w B n c g F A v ve m zs l k hp hnc hc hB hbl hf hF hv hz hl hk
    obtain ⟨VE, ce, rfl, -⟩ := hv.sl
    cases hp with
    | nil => exact block_nil w g F m A c v _ l k hbl hf VE zs.length ce rfl hk
    | cons => simp [St.P.size] at hs
  | succ n ih =>
    intro p hs w B n' c g F A v ve m zs l k hp hnc hc hB hbl hf hF hv hz hl hk
    obtain ⟨VE, ce, rfl, -⟩ := hv.sl
    cases hp with
    | nil => exact block_nil w g F m A c v _ l k hbl hf VE zs.length ce rfl hk
    | cons gA o n2 kd nm ca cb ea eb D dl dc E el ec body els rest h1 h2 h3 h4 h5 h6 h7 h8 h9 h10 h11 =>
      obtain ⟨ak, an, sa, aA, al, ac, rfl, -, -⟩ := h7.form
      obtain ⟨bk, bn, sb, bA, bl, bc, rfl, -, -⟩ := h8.form
      exact block_cons _ (fun q hq => ih q (by omega)) w B n2 c g F v m VE ce zs l k gA o kd nm ak an sa aA al ac bk bn sb bA bl bc D dl dc E el ec ea eb body els rest rfl h1 ⟨h2, h3, h4, h5⟩ h6 h7 h8 h9 h10 h11 hnc hc hB hbl hf hF hv hz hl hk

/-- Unfold: the term as sp sees it, too -/
theorem unfold_any (p : St.P) (h : List Int) (fuel : Int) (w : World) (B n c : Nat) (A : Option Addr) (hB : B ≤ w.heap.size) (hp : PR B w A n p) (hnc : n ≤ c) (hc : c ≤ maxLen) (hsz : p.size ≤ 274877906944) (hh : h.length = 8) (hr : ∀ x ∈ h, Ex.rng x) :
    Calls Tryd.prog 34 #[.slice A n c, .agg (ints .i64 h).toArray, .int .i64 fuel] w fun e w' =>
      ∃ cs : List Value, e = .returned (.tuple #[.agg cs.toArray, .agg (ints .i64 (Sr.fin p h fuel).heap).toArray, .int .i64 (Sr.err p h fuel)]) ∧ TmR w'.heap.size w' cs (Un.term p h fuel) ∧ KsR w'.heap.size w' cs (Ks.of (Un.term p h fuel)) ∧ Below w.heap.size w w' := by
  refine (unf_any ublock_any p h fuel w B n c A hB hp hnc hc hsz hh hr).mono ?_
  rintro e w' ⟨cs, h1, h2, h3⟩
  have h4 := h2.read
  have h5 := h4.terms 0 (Un.term p h fuel) (by rw [Ks.of_tt]; rfl)
  have h6 : cs.length = 5 := by rw [h4.length, Ks.of_len]
  rw [Nat.zero_mul, List.drop_zero, List.take_of_length_le (by omega)] at h5
  exact ⟨cs, h1, h5, h4, h3⟩
end Go.Proofs.YtkjmddgnfgbioaaDoor


namespace Go.Proofs.YtkjmddgnfgbioaaDoor
set_option linter.unusedVariables false
set_option linter.unusedSimpArgs false
set_option maxRecDepth 100000
open Go.RowKit

/-- cells that read as n statements -/
inductive PC (B : Nat) (w : World) : List Value → Nat → St.P → Prop
  | nil : PC B w [] 0 .nil
  | cons (n : Nat) (k : Int) (nm : ByteArray) (ca cb : List Value) (ea eb : Ex.X) (D : Option Addr) (dl dc : Nat) (E : Option Addr) (el ec : Nat) (body els rest : St.P) (cs : List Value) : dl ≤ dc → dc ≤ maxLen → el ≤ ec → ec ≤ maxLen →
      XR B w ca ea → XR B w cb eb → PR B w D dl body → PR B w E el els → PC B w cs n rest → PC B w (stcells k nm ca cb D dl dc E el ec ++ cs) (n + 1) (.cons k nm.data.toList ea eb body els rest)

theorem stcells_length {B : Nat} {w : World} {k : Int} {nm : ByteArray} {ca cb : List Value} {ea eb : Ex.X} {D E : Option Addr} {dl dc el ec : Nat} (ha : XR B w ca ea) (hb : XR B w cb eb) : (stcells k nm ca cb D dl dc E el ec).length = 12 := by
  obtain ⟨_, _, _, _, _, _, rfl, -, -⟩ := ha.form
  obtain ⟨_, _, _, _, _, _, rfl, -, -⟩ := hb.form
  rfl
section
variable {B B' n : Nat} {w w' : World} {cs : List Value} {p : St.P}
theorem PC.length (h : PC B w cs n p) : cs.length = n * 12 := by
  induction h with
  | nil => rfl
  | cons n k nm ca cb ea eb D dl dc E el ec body els rest cs h1 h2 h3 h4 h5 h6 h7 h8 _ ih => rw [List.length_append, ih, stcells_length h5 h6]; omega
theorem PC.keep (h : PC B w cs n p) (hB : B ≤ B') (hk : ∀ p : Addr, p.block < B → w'.cell? p = w.cell? p) : PC B' w' cs n p := by
  induction h with
  | nil => exact .nil
  | cons n k nm ca cb ea eb D dl dc E el ec body els rest cs h1 h2 h3 h4 h5 h6 h7 h8 _ ih => exact .cons n k nm ca cb ea eb D dl dc E el ec body els rest cs h1 h2 h3 h4 (h5.keep hB hk) (h6.keep hB hk) (h7.keep hB hk) (h8.keep hB hk) ih
theorem PC.later (h : PC B w cs n p) (hb : Below B w w') : PC B w' cs n p := h.keep (Nat.le_refl _) fun _ hp => hb.cell hp
theorem PC.step (h : PC w.heap.size w cs n p) (hb : Below w.heap.size w w') : PC w'.heap.size w' cs n p := h.keep hb.size fun _ hp => hb.cell hp
theorem PR.step_ {A : Option Addr} (h : PR w.heap.size w A n p) (hb : Below w.heap.size w w') : PR w'.heap.size w' A n p := h.keep hb.size fun _ hp => hb.cell hp
theorem XR.step_ {ca : List Value} {e : Ex.X} (h : XR w.heap.size w ca e) (hb : Below w.heap.size w w') : XR w'.heap.size w' ca e := h.keep hb.size fun _ hp => hb.cell hp
theorem PC.append {cs' : List Value} {n' : Nat} {p' : St.P} (h : PC B w cs n p) (h' : PC B w cs' n' p') : PC B w (cs ++ cs') (n + n') (p ++ p') := by
  induction h with
  | nil => simpa [St.P.nil_append] using h'
  | cons n k nm ca cb ea eb D dl dc E el ec body els rest cs h1 h2 h3 h4 h5 h6 h7 h8 _ ih =>
    rw [St.P.cons_append, List.append_assoc, show n + 1 + n' = (n + n') + 1 by omega]
    exact .cons _ k nm ca cb ea eb D dl dc E el ec body els _ _ h1 h2 h3 h4 h5 h6 h7 h8 ih
theorem PC.one {k : Int} {nm : ByteArray} {ca cb : List Value} {ea eb : Ex.X} {D : Option Addr} {dl dc : Nat} {E : Option Addr} {el ec : Nat} {body els : St.P} (h : dl ≤ dc ∧ dc ≤ maxLen ∧ el ≤ ec ∧ ec ≤ maxLen) (h5 : XR B w ca ea) (h6 : XR B w cb eb) (h7 : PR B w D dl body) (h8 : PR B w E el els) : PC B w (stcells k nm ca cb D dl dc E el ec) 1 (.cons k nm.data.toList ea eb body els .nil) := by
  have := PC.cons 0 k nm ca cb ea eb D dl dc E el ec body els .nil [] h.1 h.2.1 h.2.2.1 h.2.2.2 h5 h6 h7 h8 .nil
  rwa [List.append_nil] at this
theorem PC.read (h : PC B w cs n p) (hB : B ≤ B') : ∀ (g o : Nat), (n ≠ 0 → g < B') → (∀ j u, cs[j]? = some u → w.cell? ⟨g, o + j, none⟩ = some u) → PR B' w (some ⟨g, o, none⟩) n p := by
  induction h with
  | nil => exact fun _ _ _ _ => .nil _
  | cons n k nm ca cb ea eb D dl dc E el ec body els rest cs h1 h2 h3 h4 h5 h6 h7 h8 _ ih =>
    intro g o hg hc
    refine .cons g o n k nm ca cb ea eb D dl dc E el ec body els rest (hg (by omega)) h1 h2 h3 h4 (fun j u hu => hc j u (by
      rw [List.getElem?_append_left (List.getElem?_eq_some_iff.1 hu).1]
      exact hu)) (h5.keep hB fun _ _ => rfl) (h6.keep hB fun _ _ => rfl) (h7.up hB) (h8.up hB) (ih g (o + 12) (fun _ => hg (by omega)) fun j u hu => ?_)
    have hl := stcells_length (k := k) (nm := nm) (D := D) (dl := dl) (dc := dc) (E := E) (el := el) (ec := ec) h5 h6
    have := hc (12 + j) u (by rw [List.getElem?_append_right (by omega), hl]; simpa using hu)
    rwa [← Nat.add_assoc] at this
theorem PC.of_cells {A : Option Addr} (h : PC B w cs n p) (hc : Cells w B' A cs) (hB : B ≤ B') : PR B' w A n p := by
  by_cases h0 : n = 0
  · subst h0
    cases h
    exact .nil _
  obtain ⟨b, o, rfl, hb, hc⟩ := hc.at_ (fun e => by have := h.length; rw [e] at this; simp at this; omega)
  exact h.read hB b o (fun _ => hb) hc
theorem PR.flat {A : Option Addr} (h : PR B w A n p) : ∃ cs, PC B w cs n p ∧ Cells w B A cs := by
  induction h with
  | nil A => exact ⟨[], .nil, Cells.nil _ _ _⟩
  | cons g o n k nm ca cb ea eb D dl dc E el ec body els rest h1 h2 h3 h4 h5 h6 h7 h8 h9 h10 _ _ _ ih =>
    obtain ⟨cs, hpc, hcc⟩ := ih
    refine ⟨_, .cons n k nm ca cb ea eb D dl dc E el ec body els rest cs h2 h3 h4 h5 h7 h8 h9 h10 hpc, g, o, fun _ => ⟨rfl, h1⟩, fun j u hu => ?_⟩
    have hl := stcells_length (k := k) (nm := nm) (D := D) (dl := dl) (dc := dc) (E := E) (el := el) (ec := ec) h7 h8
    by_cases hj : j < 12
    · rw [List.getElem?_append_left (by omega)] at hu
      exact h6 j u hu
    · rw [List.getElem?_append_right (by omega), hl] at hu
      obtain ⟨b, o', e, _, hc⟩ := hcc.at_ (fun e => by rw [e] at hu; simp at hu)
      injection e with e
      injection e with e1 e2
      subst e1 e2
      have := hc _ u hu
      rwa [show o + 12 + (j - 12) = o + j by omega] at this
end
theorem PC.one_cells {B n : Nat} {w : World} {cs : List Value} {p : St.P} (h : PC B w cs n p) : ∀ u ∈ cs, u.oneCell' = true := by
  induction h with
  | nil => intro u hu; cases hu
  | cons n k nm ca cb ea eb D dl dc E el ec body els rest cs h1 h2 h3 h4 h5 h6 h7 h8 _ ih =>
    intro u hu
    rcases List.mem_append.1 hu with hu | hu
    · obtain ⟨_, _, _, _, _, _, rfl, -, -⟩ := h5.form
      obtain ⟨_, _, _, _, _, _, rfl, -, -⟩ := h6.form
      simp [stcells, xcells] at hu
      rcases hu with rfl | rfl | rfl | rfl | rfl | rfl | rfl | rfl | rfl | rfl | rfl | rfl <;> rfl
    · exact ih u hu

/-- a slice of statements -/
def IsP (w : World) (v : Value) (p : St.P) : Prop := ∃ A n c, v = .slice A n c ∧ n ≤ c ∧ c ≤ maxLen ∧ PR w.heap.size w A n p
theorem IsP.step {w w' : World} {v : Value} {p : St.P} (h : IsP w v p) (hb : Below w.heap.size w w') : IsP w' v p := by
  obtain ⟨A, n, c, rfl, h1, h2, h3⟩ := h
  exact ⟨A, n, c, rfl, h1, h2, h3.step_ hb⟩
theorem IsP.nil (w : World) : IsP w (.slice none 0 0) .nil := ⟨none, 0, 0, rfl, Nat.le_refl _, Nat.zero_le _, .nil _⟩
theorem IsP.of_slv {w : World} {v : Value} {n : Nat} {cs : List Value} {p : St.P} (h : PC w.heap.size w cs n p) (hv : SlV w 12 v n cs) : IsP w v p := by
  obtain ⟨A, c, rfl, h1, h2, -, h3⟩ := hv
  exact ⟨A, n, c, rfl, h1, h2, h.of_cells h3 (Nat.le_refl _)⟩
theorem IsP.of_blk {w : World} {g : Nat} {t : TypeId} {n : Nat} {cs : List Value} {p : St.P} (h : PC w.heap.size w cs n p) (hb : Blk w g t cs) (hn : n ≤ 1000) : IsP w (.slice (some ⟨g, 0, none⟩) n n) p :=
  ⟨_, n, n, rfl, Nat.le_refl _, by unfold maxLen; omega, h.read (Nat.le_refl _) g 0 (fun _ => hb.lt) fun j u hu => by rw [Nat.zero_add, hb.cell]; exact hu⟩
/-- a row of the call's own abides where only other blocks are turned -/
theorem info_stmt : (Tryd.prog.info? 40).map (fun i => (i.zero, i.size, i.bytes)) = some (some (.agg #[.int .i64 0, .string ⟨#[]⟩, .int .i64 0, .int .i64 0, .string ⟨#[]⟩, .slice none 0 0, .int .i64 0, .int .i64 0, .string ⟨#[]⟩, .slice none 0 0, .slice none 0 0, .slice none 0 0]), 12, 184) := by kernel_rfl
theorem IsP.lit {w : World} {cs : List Value} {n : Nat} {p : St.P} (h : PC w.heap.size w cs n p) (hn : n ≤ 1000) : IsP (w.alloc (.cells cs.toArray 40)) (.slice (some ⟨w.heap.size, 0, none⟩) n n) p :=
  IsP.of_blk (PC.keep h (by simp) fun a ha => (below_alloc (Below.refl w.heap.size w) (.cells cs.toArray 40)).cell ha) (Blk.new w 40 cs) hn
end Go.Proofs.YtkjmddgnfgbioaaDoor


namespace Go.Proofs.YtkjmddgnfgbioaaDoor
set_option linter.unusedVariables false
set_option linter.unusedSimpArgs false
set_option maxRecDepth 100000
open Go.RowKit

/-- what gathers leaves, in block g: the row that it has so far -/
structure Lv (B : Nat) (w : World) (g : Nat) (v : Value) (n : Nat) (xs : List Value) : Prop where
  blk : Blk w g 132 [v]
  row : w.ownsRow B 56 3 v n xs
  base : B ≤ w.heap.size
  at_ : B ≤ g
  ne : v.ownBlock ≠ some g

def LvEnd (B : Nat) (w : World) (g : Nat) (v : Value) (n : Nat) (xs : List Value) : Ending → World → Prop := fun e w' =>
  e = .returned (.tuple #[]) ∧ ∃ v', Lv B w' g v' n xs ∧ Keeps (fun k => k = g ∨ v.ownBlock = some k) w w' ∧ (∀ i, v'.ownBlock = some i → v.ownBlock = some i ∨ w.heap.size ≤ i)

theorem lv_put {B : Nat} {w w0 w4 : World} {g n n' : Nat} {v v' : Value} {xs xs' : List Value} {o : Obj} (hL : Lv B w0 g v n xs) (hk0 : Keeps (fun k => k = g ∨ v.ownBlock = some k) w w0) (hg4 : (w0.alloc o).drew.grownBy w4 v.ownBlock) (hown : w4.ownsRow B 56 3 v' n' xs')
    (hv4 : v'.ownBlock = v.ownBlock ∨ v'.ownBlock = some (w0.alloc o).drew.heap.size) : ∃ v'', Lv B (w4.setCell ⟨g, 0, none⟩ v') g v'' n' xs' ∧ Keeps (fun k => k = g ∨ v.ownBlock = some k) w (w4.setCell ⟨g, 0, none⟩ v') ∧ (∀ i, v''.ownBlock = some i → v.ownBlock = some i ∨ w.heap.size ≤ i) := by
  have kk : Keeps (fun k => v.ownBlock = some k) w0 w4 := (((Keeps.refl _ w0).alloc o).drewN 1).trans ((Keeps.of_grown hg4).mono (fun i hi => hi.symm))
  have hne : v'.ownBlock ≠ some g := fun e => by
    rcases hv4 with h | h
    · exact hL.ne (h ▸ e)
    · rw [h] at e
      injection e with e
      have := hL.blk.lt
      simp at e; omega
  have hb4 := hL.blk.keeps kk hL.ne
  have ks : Keeps (fun k => k = g) w4 (w4.setCell ⟨g, 0, none⟩ v') := (Keeps.of_grown (grown_setCell w4 g 0 v')).mono (fun i hi => by injection hi)
  refine ⟨v', ⟨?_, own_keeps hown ks (fun i hi e => hne (e ▸ hi)), by have := hL.base; have := kk.size; have := ks.size; omega, hL.at_, hne⟩, (hk0.trans (kk.mono (fun i hi => .inr hi))).trans (ks.mono (fun i hi => .inl hi)), fun i hi => ?_⟩
  · have := hb4.set_ 0 v'
    simpa using this
  · rcases hv4 with h | h
    · exact .inl (h ▸ hi)
    · rw [h] at hi
      injection hi with hi
      have := hk0.size
      simp at hi
      exact .inr (by omega)

theorem lv_nothing (B : Nat) (w : World) (g : Nat) (v : Value) (n : Nat) (xs : List Value) (h : Lv B w g v n xs) :
    Calls Tryd.prog 195 #[.pointer (some ⟨g, 0, none⟩)] w (LvEnd B w g v n xs) := by
  go_enter Tryd.func195, Tryd.ntmps195
  go_wp2
  go_end0
  exact ⟨rfl, v, h, Keeps.refl _ _, fun i hi => .inl hi⟩

theorem lv_one (B : Nat) (w : World) (g : Nat) (v : Value) (n : Nat) (xs : List Value) (h : Lv B w g v n xs) (a : Sp.Acc) (hn : n ≤ 4194304) :
    Calls Tryd.prog 196 #[.pointer (some ⟨g, 0, none⟩), .agg #[.int .i64 a.1, .bool a.2.1, .int .i64 a.2.2]] w (LvEnd B w g v (n + 1) (xs ++ Sp.accc a)) := by
  obtain ⟨a1, a2, a3⟩ := a
  simp only
  go_enter Tryd.func196, Tryd.ntmps196
  go_wp2_with fail
  have hB := Blk.new w 56 (Sp.accc (a1, a2, a3))
  have hL : Lv B (w.alloc (.cells (Sp.accc (a1, a2, a3)).toArray 56)) g v n xs := ⟨h.blk.alloc _, h.row.alloc _, by have := h.base; simp; omega, h.at_, h.ne⟩
  have hk0 : Keeps (fun k => k = g ∨ v.ownBlock = some k) w (w.alloc (.cells (Sp.accc (a1, a2, a3)).toArray 56)) := (Keeps.refl _ w).alloc _
  have hvw : ∀ i, v.ownBlock = some i → i < w.heap.size := fun i hi => (h.row.lt i hi).2
  have hgw := h.blk.lt
  obtain ⟨q, hq⟩ : ∃ q, q = w.heap.size := ⟨_, rfl⟩
  have hB' : Blk (w.alloc (.cells (Sp.accc (a1, a2, a3)).toArray 56)) q 56 (Sp.accc (a1, a2, a3)) := by rw [hq]; exact hB
  have hqs : q < (w.alloc (.cells (Sp.accc (a1, a2, a3)).toArray 56)).heap.size := by rw [hq]; simp
  show Code.wp _ _ _ _ (w.alloc (.cells (Sp.accc (a1, a2, a3)).toArray 56))
  rw [← hq]
  generalize (w.alloc (.cells (Sp.accc (a1, a2, a3)).toArray 56)) = w0 at hB' hL hk0 hqs ⊢
  clear hB h hq
  have c0 := hL.blk.cell 0
  simp only [List.getElem?_cons_zero] at c0
  have d0 := hB'.cell 0
  have d1 := hB'.cell 1
  have d2 := hB'.cell 2
  simp only [Sp.accc, List.getElem?_cons_zero, List.getElem?_cons_succ] at d0 d1 d2
  have n63 : n + 1 ≤ maxLen := by unfold maxLen; omega
  have n47 : (n + 1) * 24 ≤ 140737488355328 := by omega
  have fz : ∀ w', Keeps (fun k => v.ownBlock = some k) w0 w' → w'.frozen? ⟨g, 0, none⟩ = false ∧ w'.cell? ⟨g, 0, none⟩ = some v := fun w' hk => by
    have hb := hL.blk.keeps hk hL.ne
    exact ⟨hb.frozen 0, by rw [hb.cell]; rfl⟩
  have hrow : ∀ o : Obj, (w0.alloc o).drew.ownsRow B 56 3 v n xs := fun o => (hL.row.alloc o).drew
  have hba : ∀ o : Obj, B ≤ (w0.alloc o).drew.heap.size := fun o => by have := hL.base; simp; omega
  have hgl := hL.blk.lt
  go_region_law (refine step_append _ _ _ _ _ _ _ _ Tryd.underlying63 Sp.info_acc rfl (by decide) (hrow _) (show Cells _ _ _ (Sp.accc (a1, a2, a3)) from Cells.new w0 _ 56) rfl (Sp.acc_one _) n63 n47 (hba _) rfl rfl rfl rfl ?_; intro v4 w4 hown4 hg4 hv4 hb4; obtain ⟨A4, k4, rfl, hle4, hm4⟩ := own_slice hown4; obtain ⟨f4, c4⟩ := fz w4 (((Keeps.refl _ w0).alloc _).drewN 1 |>.trans ((Keeps.of_grown hg4).mono (fun i hi => hi.symm))))
  all_goals
    have hend := lv_put hL hk0 hg4 hown4 hv4
    clear hb4 hg4 hown4 hv4 hrow hba fz f4 c4 c0 d0 d1 d2 hB' hL hk0
    go_end0
    exact ⟨rfl, hend⟩

/-- what tell does, whoever is told -/
theorem tell_nil {B : Nat} {w : World} {cs : List Value} (hT : TmR B w cs .nil) {ty : TypeId} {p : Value} {f : FuncId} {R : World → Prop} (hme : ∀ (k : Nat) (w : World), (method (k + 1) ty p "forkwright/sp.nothing").run Tryd.prog w = .ok (f, p) w) (hcf : ∀ (args : Array Value) (w : World), (callFunc f args).run Tryd.prog w = .ok (.enter f args) w)
    (hc : Calls Tryd.prog f #[p] (w.alloc (.cells cs.toArray 59)) fun e w' => e = .returned (.tuple #[]) ∧ R w') :
    Calls Tryd.prog 81 #[.agg cs.toArray, .iface ty p] w fun e w' => e = .returned (.tuple #[]) ∧ R w' := by
  cases hT with
  | nil k c b l A m cap hm hcap hk1 hk2 =>
  unfold tcells at hc ⊢
  unfold maxLen at hcap
  have e1 : (k == 1) = false := by simpa using hk1
  by_cases k2 : k = 2
  · subst k2
    have hm2 : ¬ 2 ≤ m := fun h => hk2 ⟨.inl rfl, h⟩
    clear hk2 hk1
    go_enter Tryd.func81, Tryd.ntmps81
    go_wp2_with fail
    refine hc.mono ?_
    rintro e w1 ⟨rfl, hR⟩
    go_wp2
    go_end0
    exact ⟨rfl, hR⟩
  · have e2 : (k == 2) = false := by simpa using k2
    by_cases k3 : k = 3
    · subst k3
      have hm2 : ¬ 2 ≤ m := fun h => hk2 ⟨.inr rfl, h⟩
      clear hk2 hk1
      go_enter Tryd.func81, Tryd.ntmps81
      go_wp2_with fail
      refine hc.mono ?_
      rintro e w1 ⟨rfl, hR⟩
      go_wp2
      go_end0
      exact ⟨rfl, hR⟩
    · have e3 : (k == 3) = false := by simpa using k3
      clear hk2 hk1
      go_enter Tryd.func81, Tryd.ntmps81
      go_wp2_with fail
      refine hc.mono ?_
      rintro e w1 ⟨rfl, hR⟩
      go_wp2
      go_end0
      exact ⟨rfl, hR⟩

theorem tell_one {B : Nat} {w : World} {cs : List Value} {c : Int} {b : Bool} {l : Int} (hT : TmR B w cs (.one c b l)) {ty : TypeId} {p : Value} {f : FuncId} {R : World → Prop} (hme : ∀ (k : Nat) (w : World), (method (k + 1) ty p "forkwright/sp.one").run Tryd.prog w = .ok (f, p) w) (hcf : ∀ (args : Array Value) (w : World), (callFunc f args).run Tryd.prog w = .ok (.enter f args) w)
    (hc : Calls Tryd.prog f #[p, .agg #[.int .i64 c, .bool b, .int .i64 l]] (w.alloc (.cells cs.toArray 59)) fun e w' => e = .returned (.tuple #[]) ∧ R w') :
    Calls Tryd.prog 81 #[.agg cs.toArray, .iface ty p] w fun e w' => e = .returned (.tuple #[]) ∧ R w' := by
  cases hT with
  | one c b l A m cap hm hcap =>
  unfold tcells at hc ⊢
  unfold maxLen at hcap
  go_enter Tryd.func81, Tryd.ntmps81
  go_wp2_with fail
  refine hc.mono ?_
  rintro e w1 ⟨rfl, hR⟩
  go_wp2
  go_end0
  exact ⟨rfl, hR⟩

set_option maxHeartbeats 2000000 in
theorem tell_two {B : Nat} {w : World} {cs : List Value} {par : Bool} {t0 t1 : Sp.T} (hT : TmR B w cs (.two par t0 t1)) {ty : TypeId} {p : Value} {f : FuncId} {R : World → Prop} (hme : ∀ (k : Nat) (w : World), (method (k + 1) ty p "forkwright/sp.two").run Tryd.prog w = .ok (f, p) w) (hna : ∀ (k : Nat) (w : World), (nilAhead (k + 1) ty p "forkwright/sp.two").run Tryd.prog w = .ok (some false) w) (hcf : ∀ (args : Array Value) (w : World), (callFunc f args).run Tryd.prog w = .ok (.enter f args) w)
    (hB : B ≤ w.heap.size) (hc : ∀ cs0 cs1, TmR B w cs0 t0 → TmR B w cs1 t1 → Calls Tryd.prog f #[p, .bool par, .agg cs0.toArray, .agg cs1.toArray] ((w.alloc (.cells cs.toArray 59)).drewN 1) fun e w' => e = .returned (.tuple #[]) ∧ R w') :
    Calls Tryd.prog 81 #[.agg cs.toArray, .iface ty p] w fun e w' => e = .returned (.tuple #[]) ∧ R w' := by
  cases hT with
  | two par c b l g o m cap cs0 cs1 t0 t1 hm hcap h2 hg h5 h6 r0 r1 =>
  have hcc := hc cs0 cs1 r0 r1
  have hgw : g < w.heap.size := by omega
  clear hc
  obtain ⟨a0, a1, a2, a3, A4, a5, a6, rfl, -, -⟩ := r0.form
  obtain ⟨b0, b1, b2, b3, B4, b5, b6, rfl, -, -⟩ := r1.form
  have x0 := h5 0 _ rfl
  have x1 := h5 1 _ rfl
  have x2 := h5 2 _ rfl
  have x3 := h5 3 _ rfl
  have x4 := h5 4 _ rfl
  have y0 := h6 0 _ rfl
  have y1 := h6 1 _ rfl
  have y2 := h6 2 _ rfl
  have y3 := h6 3 _ rfl
  have y4 := h6 4 _ rfl
  rw [Nat.add_zero] at x0 y0
  clear h5 h6 r0 r1
  unfold tcells at hcc ⊢
  unfold maxLen at hcap
  have m0 : (0 : Int) < (m : Int) := by omega
  have m1 : (1 : Int) < (m : Int) := by omega
  have m2 : 0 < m := by omega
  have m3 : 1 < m := by omega
  rcases par with _ | _
  · simp only [Bool.false_eq_true, if_false] at hcc
    go_enter Tryd.func81, Tryd.ntmps81
    go_wp2_with fail
    (refine still_last (by kernel_rfl) (by kernel_rfl) ?_; simp only [List.length_cons, List.length_nil, Nat.reduceAdd, Nat.reduceSub, List.take_succ_cons, List.take_zero, List.drop_succ_cons, List.drop_zero]; repeat still_step; try refine wpStill_nil ?_)
    go_wp2_with fail
    refine hcc.mono ?_
    rintro e w1 ⟨rfl, hR⟩
    go_wp2
    go_end0
    exact ⟨rfl, hR⟩
  · simp only [if_true] at hcc
    go_enter Tryd.func81, Tryd.ntmps81
    go_wp2_with fail
    (refine still_last (by kernel_rfl) (by kernel_rfl) ?_; simp only [List.length_cons, List.length_nil, Nat.reduceAdd, Nat.reduceSub, List.take_succ_cons, List.take_zero, List.drop_succ_cons, List.drop_zero]; repeat still_step; try refine wpStill_nil ?_)
    go_wp2_with fail
    refine hcc.mono ?_
    rintro e w1 ⟨rfl, hR⟩
    go_wp2
    go_end0
    exact ⟨rfl, hR⟩

end Go.Proofs.YtkjmddgnfgbioaaDoor


namespace Go.Proofs.YtkjmddgnfgbioaaDoor
set_option linter.unusedVariables false
set_option linter.unusedSimpArgs false
set_option maxRecDepth 100000
open Go.RowKit

theorem meth_lv (g fuel : Nat) (w : World) : (method (fuel + 1) 134 (.pointer (some ⟨g, 0, none⟩)) "forkwright/sp.nothing").run Tryd.prog w = .ok (195, .pointer (some ⟨g, 0, none⟩)) w ∧
    (method (fuel + 1) 134 (.pointer (some ⟨g, 0, none⟩)) "forkwright/sp.one").run Tryd.prog w = .ok (196, .pointer (some ⟨g, 0, none⟩)) w ∧
    (method (fuel + 1) 134 (.pointer (some ⟨g, 0, none⟩)) "forkwright/sp.two").run Tryd.prog w = .ok (197, .pointer (some ⟨g, 0, none⟩)) w ∧
    (nilAhead (fuel + 1) 134 (.pointer (some ⟨g, 0, none⟩)) "forkwright/sp.two").run Tryd.prog w = .ok (some false) w :=
  ⟨by kernel_rfl, by kernel_rfl, by kernel_rfl, by kernel_rfl⟩

theorem LvEnd.and {B : Nat} {w : World} {g : Nat} {v : Value} {n : Nat} {xs : List Value} (e : Ending) (w' : World) : LvEnd B w g v n xs e w' ↔ (e = .returned (.tuple #[]) ∧ ∃ v', Lv B w' g v' n xs ∧ Keeps (fun k => k = g ∨ v.ownBlock = some k) w w' ∧ (∀ i, v'.ownBlock = some i → v.ownBlock = some i ∨ w.heap.size ≤ i)) := Iff.rfl

theorem Lv.alloc {B : Nat} {w : World} {g : Nat} {v : Value} {n : Nat} {xs : List Value} (h : Lv B w g v n xs) (o : Obj) : Lv B (w.alloc o) g v n xs := ⟨h.blk.alloc _, h.row.alloc _, by have := h.base; simp; omega, h.at_, h.ne⟩
theorem Lv.drewN {B : Nat} {w : World} {g : Nat} {v : Value} {n : Nat} {xs : List Value} (h : Lv B w g v n xs) (k : Nat) : Lv B (w.drewN k) g v n xs := ⟨h.blk, ⟨h.row.1, h.row.2⟩, h.base, h.at_, h.ne⟩

theorem lv_back {B : Nat} {w w0 : World} {g : Nat} {v : Value} {n : Nat} {xs : List Value} (hk : Keeps (fun _ => False) w w0) {e : Ending} {w' : World} (h : LvEnd B w0 g v n xs e w') : LvEnd B w g v n xs e w' := by
  obtain ⟨h1, v', h2, h3, h4⟩ := h
  have := hk.size
  exact ⟨h1, v', h2, (hk.mono (fun _ h => h.elim)).trans h3, fun i hi => (h4 i hi).imp id (fun h => by omega)⟩

theorem keeps_alloc (w : World) (o : Obj) : Keeps (fun _ => False) w (w.alloc o) := (Keeps.refl _ w).alloc o

theorem tell_leaves : ∀ (t : Sp.T) (B : Nat) (w : World) (g : Nat) (v : Value) (n : Nat) (xs cs : List Value), TmR B w cs t → Lv B w g v n xs → n + t.size ≤ 4194304 →
    Calls Tryd.prog 81 #[.agg cs.toArray, .iface 134 (.pointer (some ⟨g, 0, none⟩))] w (LvEnd B w g v (n + t.size) (xs ++ Sp.acccs t.leaves)) := by
  intro t
  induction t with
  | nil =>
    intro B w g v n xs cs hT hL hn
    have e : xs ++ Sp.acccs Sp.T.nil.leaves = xs := by simp [Sp.T.leaves, Sp.acccs]
    rw [e]
    refine tell_nil hT (f := 195) (fun k w => (meth_lv g k w).1) (fun _ _ => by rfl) ?_
    exact (lv_nothing B _ g v n xs (hL.alloc _)).mono fun e w' h => lv_back (keeps_alloc _ _) h
  | one c b l =>
    intro B w g v n xs cs hT hL hn
    have e : xs ++ Sp.acccs (Sp.T.one c b l).leaves = xs ++ Sp.accc (c, b, l) := by simp [Sp.T.leaves, Sp.acccs]
    rw [e]
    refine tell_one hT (f := 196) (fun k w => (meth_lv g k w).2.1) (fun _ _ => by rfl) ?_
    exact (lv_one B _ g v n xs (hL.alloc _) (c, b, l) (by omega)).mono fun e w' h => lv_back (keeps_alloc _ _) h
  | two par t0 t1 ih0 ih1 =>
    intro B w g v n xs cs hT hL hn
    rw [Sp.T.size_two] at hn ⊢
    refine tell_two hT (f := 197) (fun k w => (meth_lv g k w).2.2.1) (fun k w => (meth_lv g k w).2.2.2) (fun _ _ => by rfl) hL.base ?_
    intro cs0 cs1 r0 r1
    have hk0 : Keeps (fun _ => False) w ((w.alloc (.cells cs.toArray 59)).drewN 1) := (keeps_alloc _ _).drewN 1
    have hL0 : Lv B ((w.alloc (.cells cs.toArray 59)).drewN 1) g v n xs := (hL.alloc _).drewN 1
    have q0 : TmR B ((w.alloc (.cells cs.toArray 59)).drewN 1) cs0 t0 := r0.keep (Nat.le_refl _) (fun p hp => World.cell?_alloc_lt w _ p (by have := hL.base; omega))
    have q1 : TmR B ((w.alloc (.cells cs.toArray 59)).drewN 1) cs1 t1 := r1.keep (Nat.le_refl _) (fun p hp => World.cell?_alloc_lt w _ p (by have := hL.base; omega))
    refine Calls.mono (R := LvEnd B ((w.alloc (.cells cs.toArray 59)).drewN 1) g v (n + (t0.size + t1.size)) (xs ++ Sp.acccs (Sp.T.two par t0 t1).leaves)) ?_ (fun e w' h => lv_back hk0 h)
    generalize ((w.alloc (.cells cs.toArray 59)).drewN 1) = w0 at hL0 q0 q1 ⊢
    clear hk0 hT hL r0 r1
    obtain ⟨a0, a1, a2, a3, A4, a5, a6, rfl, -, -⟩ := q0.form
    obtain ⟨b0, b1, b2, b3, B4, b5, b6, rfl, -, -⟩ := q1.form
    unfold tcells at q0 q1 ⊢
    have hbox0 := Blk.new w0 59 [.int .i64 a0, .int .i64 a1, .bool a2, .int .i64 a3, .slice A4 a5 a6]
    have hbox1 := Blk.new (w0.alloc (.cells #[.int .i64 a0, .int .i64 a1, .bool a2, .int .i64 a3, .slice A4 a5 a6] 59)) 59 [.int .i64 b0, .int .i64 b1, .bool b2, .int .i64 b3, .slice B4 b5 b6]
    have hL2 := (hL0.alloc (.cells #[.int .i64 a0, .int .i64 a1, .bool a2, .int .i64 a3, .slice A4 a5 a6] 59)).alloc (.cells #[.int .i64 b0, .int .i64 b1, .bool b2, .int .i64 b3, .slice B4 b5 b6] 59)
    have hB1 : B ≤ (w0.alloc (.cells #[.int .i64 a0, .int .i64 a1, .bool a2, .int .i64 a3, .slice A4 a5 a6] 59)).heap.size := by have := hL0.base; simp; omega
    have s0 := (q0.alloc hL0.base (.cells #[.int .i64 a0, .int .i64 a1, .bool a2, .int .i64 a3, .slice A4 a5 a6] 59)).alloc hB1 (.cells #[.int .i64 b0, .int .i64 b1, .bool b2, .int .i64 b3, .slice B4 b5 b6] 59)
    have s1 := (q1.alloc hL0.base (.cells #[.int .i64 a0, .int .i64 a1, .bool a2, .int .i64 a3, .slice A4 a5 a6] 59)).alloc hB1 (.cells #[.int .i64 b0, .int .i64 b1, .bool b2, .int .i64 b3, .slice B4 b5 b6] 59)
    have hg1 := hL0.blk.lt
    have hv1 : ∀ i, v.ownBlock = some i → i < w0.heap.size := fun i hi => (hL0.row.lt i hi).2
    have hv2 : ∀ i, v.ownBlock = some i → B ≤ i := own_ge hL0.row
    have hk2 : Keeps (fun _ => False) w0 ((w0.alloc (.cells #[.int .i64 a0, .int .i64 a1, .bool a2, .int .i64 a3, .slice A4 a5 a6] 59)).alloc (.cells #[.int .i64 b0, .int .i64 b1, .bool b2, .int .i64 b3, .slice B4 b5 b6] 59)) := (keeps_alloc _ _).alloc _
    have hsz : ((w0.alloc (.cells #[.int .i64 a0, .int .i64 a1, .bool a2, .int .i64 a3, .slice A4 a5 a6] 59)).alloc (.cells #[.int .i64 b0, .int .i64 b1, .bool b2, .int .i64 b3, .slice B4 b5 b6] 59)).heap.size = w0.heap.size + 1 + 1 := by simp
    have hq1 : (w0.alloc (.cells #[.int .i64 a0, .int .i64 a1, .bool a2, .int .i64 a3, .slice A4 a5 a6] 59)).heap.size = w0.heap.size + 1 := by simp
    rw [hq1] at hbox1
    clear hbox0 hq1 hL0 q0 q1 hB1
    go_enter Tryd.func197, Tryd.ntmps197
    go_wp2_with fail
    refine (ih0 B _ g v n xs _ s0 hL2 (by omega)).mono ?_
    rintro e w1 ⟨rfl, v1, L1, k1, o1⟩
    rw [hsz] at o1
    have hbox := hbox1.keeps k1 (fun h => h.elim (fun e => by omega) (fun e => by have := hv1 _ e; omega))
    have hbel := k1.below (B := B) hL2.base (fun i hi => hi.elim (fun e => by rw [e]; exact hL2.at_) (hv2 i))
    have s1' := s1.later hbel
    have d0 := hbox.cell 0
    have d1 := hbox.cell 1
    have d2 := hbox.cell 2
    have d3 := hbox.cell 3
    have d4 := hbox.cell 4
    simp only [List.getElem?_cons_zero, List.getElem?_cons_succ] at d0 d1 d2 d3 d4
    have kk := hk2.mono (S' := fun k => k = g ∨ v.ownBlock = some k) (fun _ h => h.elim) |>.trans k1
    clear hbox hbox1 s0 s1 hL2 k1 hk2 hbel hsz
    go_wp2_with fail
    refine (ih1 B _ g v1 (n + t0.size) _ _ s1' L1 (by omega)).mono ?_
    rintro e w2 ⟨rfl, v2, L2, k2, o2⟩
    have hw01 := kk.size
    have kf := kk.step k2 (fun i hi h => h.elim .inl (fun e => (o1 i e).elim .inr (fun h => by omega)))
    have e1 : n + (t0.size + t1.size) = n + t0.size + t1.size := by omega
    have e2 : xs ++ Sp.acccs (Sp.T.two par t0 t1).leaves = xs ++ Sp.acccs t0.leaves ++ Sp.acccs t1.leaves := by simp [Sp.T.leaves, Sp.acccs]
    have E1 := Lib.hid e1
    have E2 := Lib.hid e2
    clear e1 e2 d0 d1 d2 d3 d4 s1' L1
    go_wp2
    go_end0
    exact ⟨rfl, v2, by rw [E1.out, E2.out]; exact L2, kf, fun i hi => (o2 i hi).elim (fun h => (o1 i h).imp id (fun h => by omega)) (fun h => .inr (by omega))⟩

theorem leaves_any (w : World) (cs : List Value) (t : Sp.T) (hT : TmR w.heap.size w cs t) (hn : t.size ≤ 4194304) :
    Calls Tryd.prog 37 #[.agg cs.toArray] w fun e w' => ∃ v, e = .returned v ∧ SlV w' 3 v t.size (Sp.acccs t.leaves) ∧ Below w.heap.size w w' := by
  obtain ⟨a0, a1, a2, a3, A4, a5, a6, rfl, -, -⟩ := hT.form
  unfold tcells at hT ⊢
  have s1 := (hT.alloc (Nat.le_refl _) (.cells #[.int .i64 a0, .int .i64 a1, .bool a2, .int .i64 a3, .slice A4 a5 a6] 59)).alloc (by simp) (.cells #[.slice none 0 0] 132)
  have hb2 : Below w.heap.size w ((w.alloc (.cells #[.int .i64 a0, .int .i64 a1, .bool a2, .int .i64 a3, .slice A4 a5 a6] 59)).alloc (.cells #[.slice none 0 0] 132)) := below_alloc (below_alloc (Below.refl _ _) _) _
  have hL : Lv w.heap.size ((w.alloc (.cells #[.int .i64 a0, .int .i64 a1, .bool a2, .int .i64 a3, .slice A4 a5 a6] 59)).alloc (.cells #[.slice none 0 0] 132)) (w.heap.size + 1) (.slice none 0 0) 0 [] := by
    refine ⟨?_, World.ownsRow_nil _ _ _ _, by simp; omega, by omega, by simp [Value.ownBlock]⟩
    have := Blk.new (w.alloc (.cells #[.int .i64 a0, .int .i64 a1, .bool a2, .int .i64 a3, .slice A4 a5 a6] 59)) 132 [.slice none 0 0]
    simpa using this
  clear hT
  go_enter Tryd.func37, Tryd.ntmps37
  go_wp2_with fail
  refine (tell_leaves t w.heap.size _ _ _ 0 [] _ s1 hL (by omega)).mono ?_
  rintro e w1 ⟨rfl, v1, L1, k1, -⟩
  have c0 := L1.blk.cell 0
  simp only [List.getElem?_cons_zero] at c0
  have hb : Below w.heap.size w w1 := hb2.trans (k1.below hL.base (fun i hi => hi.elim (fun e => by omega) (fun e => by simp [Value.ownBlock] at e)))
  have hs := SlV.of_own L1.row
  rw [Nat.zero_add, List.nil_append] at hs
  obtain ⟨A9, c9, rfl, h1, h2, h3, h4⟩ := hs
  have H3 := Lib.hid h3
  clear h3 s1 hL L1 k1 hb2
  go_wp2
  go_ret
  exact ⟨_, rfl, ⟨A9, c9, rfl, h1, h2, H3.out, h4⟩, hb⟩
end Go.Proofs.YtkjmddgnfgbioaaDoor


namespace Go.Proofs.YtkjmddgnfgbioaaDoor.Sp
set_option linter.unusedVariables false
set_option linter.unusedSimpArgs false
set_option maxRecDepth 100000

def put {α : Type} (ps : List α) (a : Nat) (ms : List α) : List α := ps.take a ++ ms ++ ps.drop (a + ms.length)

theorem put_get {α : Type} (ps ms : List α) (a i : Nat) (h : a + ms.length ≤ ps.length) : (put ps a ms)[i]? = if i < a then ps[i]? else if i < a + ms.length then ms[i - a]? else ps[i]? := by
  unfold put
  have h1 : (ps.take a).length = a := by simp; omega
  by_cases h2 : i < a
  · rw [if_pos h2, List.append_assoc, List.getElem?_append_left (by omega), List.getElem?_take_of_lt h2]
  · rw [if_neg h2]
    by_cases h3 : i < a + ms.length
    · rw [if_pos h3, List.append_assoc, List.getElem?_append_right (by omega), h1, List.getElem?_append_left (by omega)]
    · rw [if_neg h3, List.getElem?_append_right (by simp; omega), List.getElem?_drop]
      congr 1; simp; omega
theorem put_length {α : Type} (ps ms : List α) (a : Nat) (h : a + ms.length ≤ ps.length) : (put ps a ms).length = ps.length := by
  unfold put; simp; omega
theorem put_nil {α : Type} (ps : List α) (a : Nat) : put ps a [] = ps := by simp [put]
theorem put_put {α : Type} (ps m1 m2 : List α) (a : Nat) (h : a + m1.length + m2.length ≤ ps.length) : put (put ps a m1) (a + m1.length) m2 = put ps a (m1 ++ m2) := by
  apply List.ext_getElem?
  intro i
  rw [put_get _ _ _ _ (by rw [put_length _ _ _ (by omega)]; omega), put_get _ _ _ _ (by omega), put_get _ _ _ _ (by simp; omega)]
  simp only [List.length_append]
  by_cases h1 : i < a
  · rw [if_pos h1, if_pos h1, if_pos (by omega)]
  · rw [if_neg h1, if_neg h1]
    by_cases h2 : i < a + m1.length
    · rw [if_pos h2, if_pos h2, if_pos (by omega), List.getElem?_append_left (by omega)]
    · rw [if_neg h2, if_neg h2]
      by_cases h3 : i < a + m1.length + m2.length
      · rw [if_pos h3, if_pos (by omega), List.getElem?_append_right (by omega)]
        congr 1; omega
      · rw [if_neg h3, if_neg (by omega)]
theorem put_back {α : Type} (ps m1 m2 : List α) (a : Nat) (h : a + m1.length + m2.length ≤ ps.length) : put (put ps (a + m1.length) m2) a m1 = put ps a (m1 ++ m2) := by
  apply List.ext_getElem?
  intro i
  rw [put_get _ _ _ _ (by rw [put_length _ _ _ (by omega)]; omega), put_get _ _ _ _ (by omega), put_get _ _ _ _ (by simp; omega)]
  simp only [List.length_append]
  by_cases h1 : i < a
  · rw [if_pos h1, if_pos h1, if_pos (by omega)]
  · rw [if_neg h1, if_neg h1]
    by_cases h2 : i < a + m1.length
    · rw [if_pos h2, if_pos (by omega), List.getElem?_append_left (by omega)]
    · rw [if_neg h2, if_neg h2]
      by_cases h3 : i < a + m1.length + m2.length
      · rw [if_pos h3, if_pos (by omega), List.getElem?_append_right (by omega)]
        congr 1; omega
      · rw [if_neg h3, if_neg (by omega)]
theorem put_all {α : Type} (ps ms : List α) (h : ms.length = ps.length) : put ps 0 ms = ms := by
  unfold put
  rw [List.take_zero, List.nil_append, List.drop_of_length_le (by omega), List.append_nil]
theorem put_one {α : Type} (ps : List α) (a : Nat) (x : α) (h : a < ps.length) : put ps a [x] = ps.set a x := by
  unfold put
  rw [List.set_eq_take_append_cons_drop, if_pos h]
  simp

def T.marks : T → Nat → Nat → List (Nat × Nat)
  | .nil, _, _ => []
  | .one _ _ _, a, j => [(a, j)]
  | .two par l r, a, j => l.marks a (if par then j + r.size else j) ++ r.marks (a + l.size) (if par then j else j + l.size)
theorem T.marks_length (t : T) : ∀ a j, (t.marks a j).length = t.size := by
  induction t with
  | nil => intro a j; rfl
  | one _ _ _ => intro a j; rfl
  | two p l r ihl ihr => intro a j; rw [T.size_two, T.marks, List.length_append, ihl, ihr]

/-- the place of leaf i in the second numbering -/
def T.rk : T → Nat → Nat
  | .nil, _ => 0
  | .one _ _ _, _ => 0
  | .two par l r, i => if i < l.size then l.rk i + (if par then r.size else 0) else r.rk (i - l.size) + (if par then 0 else l.size)
theorem T.rk_lt (t : T) : ∀ i, i < t.size → t.rk i < t.size := by
  induction t with
  | nil => intro i h; exact absurd h (Nat.not_lt_zero _)
  | one _ _ _ => intro i h; exact Nat.zero_lt_one
  | two p l r ihl ihr =>
    intro i h
    rw [T.size_two] at h ⊢
    unfold T.rk
    split
    · have := ihl i ‹_›; cases p <;> simp <;> omega
    · have := ihr (i - l.size) (by omega); cases p <;> simp <;> omega
theorem T.marks_get (t : T) : ∀ a j i, i < t.size → (t.marks a j)[i]? = some (a + i, j + t.rk i) := by
  induction t with
  | nil => intro a j i h; exact absurd h (Nat.not_lt_zero _)
  | one _ _ _ =>
    intro a j i h
    have : i = 0 := by have : i < 1 := h; omega
    subst this; rfl
  | two p l r ihl ihr =>
    intro a j i h
    rw [T.size_two] at h
    rw [T.marks, T.rk]
    by_cases h1 : i < l.size
    · rw [List.getElem?_append_left (by rw [T.marks_length]; exact h1), ihl _ _ _ h1, if_pos h1]
      cases p <;> simp <;> omega
    · rw [List.getElem?_append_right (by rw [T.marks_length]; omega), T.marks_length, ihr _ _ _ (by omega), if_neg h1]
      cases p <;> simp <;> omega
theorem T.rk_side (p : Bool) (l r : T) (i : Nat) (h : i < (T.two p l r).size) :
    (i < l.size ∧ (T.two p l r).rk i = l.rk i + (if p then r.size else 0) ∧ l.rk i < l.size) ∨ (l.size ≤ i ∧ i - l.size < r.size ∧ (T.two p l r).rk i = r.rk (i - l.size) + (if p then 0 else l.size) ∧ r.rk (i - l.size) < r.size) := by
  rw [T.size_two] at h
  by_cases h1 : i < l.size
  · exact .inl ⟨h1, by rw [T.rk, if_pos h1], l.rk_lt _ h1⟩
  · exact .inr ⟨by omega, by omega, by rw [T.rk, if_neg h1], r.rk_lt _ (by omega)⟩
theorem T.rk_inj (t : T) : ∀ i k, i < t.size → k < t.size → t.rk i = t.rk k → i = k := by
  induction t with
  | nil => intro i k h; exact absurd h (Nat.not_lt_zero _)
  | one _ _ _ => intro i k h h' _; have : i < 1 := h; have : k < 1 := h'; omega
  | two p l r ihl ihr =>
    intro i k h h' e
    rcases T.rk_side p l r i h with ⟨h1, h2, h3⟩ | ⟨h1, h0, h2, h3⟩ <;> rcases T.rk_side p l r k h' with ⟨k1, k2, k3⟩ | ⟨k1, k0, k2, k3⟩
    · exact ihl i k h1 k1 (by cases p <;> simp at h2 k2 <;> omega)
    · cases p <;> simp at h2 k2 <;> omega
    · cases p <;> simp at h2 k2 <;> omega
    · have := ihr _ _ h0 k0 (by cases p <;> simp at h2 k2 <;> omega)
      omega

/-- leaf i is ahead of leaf k -/
def T.bf (t : T) (i k : Nat) : Prop := i < k ∧ t.rk i < t.rk k
instance (t : T) (i k : Nat) : Decidable (t.bf i k) := inferInstanceAs (Decidable (_ ∧ _))
def T.apart (t : T) (i k : Nat) : Prop := i ≠ k ∧ ¬ t.bf i k ∧ ¬ t.bf k i
theorem T.no_n (t : T) : ∀ a b c d, a < t.size → b < t.size → c < t.size → d < t.size → t.bf a c → t.bf a d → t.bf b d → t.apart a b → t.apart c d → ¬ t.apart b c := by
  induction t with
  | nil => intro a b c d h; exact absurd h (Nat.not_lt_zero _)
  | one _ _ _ => intro a b c d h h1 h2 h3 h4; have : a < 1 := h; have : c < 1 := h2; have := h4.1; omega
  | two p l r ihl ihr =>
    intro a b c d ha hb hc hd h1 h2 h3 h4 h5 h6
    unfold T.apart T.bf at h4 h5 h6
    unfold T.bf at h1 h2 h3
    rcases T.rk_side p l r a ha with ⟨a1, a2, a3⟩ | ⟨a1, a0, a2, a3⟩ <;> rcases T.rk_side p l r b hb with ⟨b1, b2, b3⟩ | ⟨b1, b0, b2, b3⟩ <;>
    rcases T.rk_side p l r c hc with ⟨c1, c2, c3⟩ | ⟨c1, c0, c2, c3⟩ <;> rcases T.rk_side p l r d hd with ⟨d1, d2, d3⟩ | ⟨d1, d0, d2, d3⟩
    · exact ihl a b c d a1 b1 c1 d1 (by unfold T.bf; omega) (by unfold T.bf; omega) (by unfold T.bf; omega) (by unfold T.apart T.bf; omega) (by unfold T.apart T.bf; omega) (by unfold T.apart T.bf; omega)
    all_goals first
      | (exfalso; cases p <;> simp at a2 b2 c2 d2 <;> omega)
      | exact ihr (a - l.size) (b - l.size) (c - l.size) (d - l.size) a0 b0 c0 d0 (by unfold T.bf; omega) (by unfold T.bf; omega) (by unfold T.bf; omega) (by unfold T.apart T.bf; omega) (by unfold T.apart T.bf; omega) (by unfold T.apart T.bf; omega)

def T.before (t : T) (i j : Int) : Bool := decide ((0 ≤ i ∧ 0 ≤ j ∧ i < t.size ∧ j < t.size) ∧ t.bf i.toNat j.toNat)
theorem T.before_irr (t : T) (i : Int) : t.before i i = false := by
  unfold T.before T.bf; simp
theorem T.before_lt (t : T) (i j : Int) (h : t.before i j = true) : i < j := by
  unfold T.before T.bf at h; have := of_decide_eq_true h; omega
theorem T.before_trans (t : T) (i j k : Int) (h : t.before i j = true) (h' : t.before j k = true) : t.before i k = true := by
  unfold T.before T.bf at *
  have h1 := of_decide_eq_true h
  have h2 := of_decide_eq_true h'
  exact decide_eq_true (by omega)

/-! ### brackets -/
def T.same (s t : T) : Prop := s.leaves = t.leaves ∧ ∀ a j, s.marks a j = t.marks a j
theorem T.same_size {s t : T} (h : s.same t) : s.size = t.size := by unfold T.size; rw [h.1]
theorem T.same_rk {s t : T} (h : s.same t) (i : Nat) (hi : i < s.size) : s.rk i = t.rk i := by
  have h1 := s.marks_get 0 0 i hi
  rw [h.2, t.marks_get 0 0 i (by rw [← T.same_size h]; exact hi)] at h1
  injection h1 with h1
  injection h1 with _ h1
  omega
theorem T.same_before {s t : T} (h : s.same t) (i j : Int) : s.before i j = t.before i j := by
  have e := T.same_size h
  rw [Bool.eq_iff_iff]
  unfold T.before T.bf
  rw [decide_eq_true_iff, decide_eq_true_iff]
  constructor
  · rintro ⟨hb, h1, h2⟩
    rw [T.same_rk h _ (by omega), T.same_rk h _ (by omega)] at h2
    exact ⟨by omega, h1, h2⟩
  · rintro ⟨hb, h1, h2⟩
    rw [← T.same_rk h _ (by omega), ← T.same_rk h _ (by omega)] at h2
    exact ⟨by omega, h1, h2⟩
theorem T.same_joins (p : Bool) (a b c : T) : (T.two p (.two p a b) c).same (.two p a (.two p b c)) := by
  refine ⟨by simp [T.leaves], fun x j => ?_⟩
  simp only [T.marks, T.size_two]
  cases p <;> simp [Nat.add_assoc]
  rw [Nat.add_comm b.size]
theorem T.same_none (p : Bool) (a : T) : (T.two p (.two p .nil a) .nil).same a := by
  refine ⟨by simp [T.leaves], fun x j => ?_⟩
  simp only [T.marks, T.size_two]
  cases p <;> simp [T.size, T.leaves]

/-! ### orders -/
/-- in how many ways a things and b others are mixed -/
def ch : Nat → Nat → Nat
  | 0, _ => 1
  | _ + 1, 0 => 1
  | a + 1, b + 1 => ch a (b + 1) + ch (a + 1) b
def fac : Nat → Nat
  | 0 => 1
  | n + 1 => (n + 1) * fac n
theorem fac_pos : ∀ n, 0 < fac n
  | 0 => Nat.zero_lt_one
  | n + 1 => Nat.mul_pos (Nat.succ_pos _) (fac_pos n)
theorem ch_zero (a : Nat) : ch a 0 = 1 := by cases a <;> simp [ch]
theorem ch_fac : ∀ a b, ch a b * (fac a * fac b) = fac (a + b)
  | 0, b => by simp [ch, fac]
  | a + 1, 0 => by simp [ch, fac]
  | a + 1, b + 1 => by
    have h1 := ch_fac a (b + 1)
    have h2 := ch_fac (a + 1) b
    have e1 : a + (b + 1) = a + b + 1 := by omega
    have e2 : a + 1 + b = a + b + 1 := by omega
    have e3 : a + 1 + (b + 1) = a + b + 1 + 1 := by omega
    rw [e1] at h1
    rw [e2] at h2
    rw [ch, e3, Nat.add_mul]
    have i1 : ch a (b + 1) * (fac (a + 1) * fac (b + 1)) = (a + 1) * fac (a + b + 1) := by
      rw [← h1]; show _ * ((a + 1) * fac a * _) = _; simp only [Nat.mul_assoc, Nat.mul_left_comm, Nat.mul_comm]
    have i2 : ch (a + 1) b * (fac (a + 1) * fac (b + 1)) = (b + 1) * fac (a + b + 1) := by
      rw [← h2]; show _ * (_ * ((b + 1) * fac b)) = _; ac_rfl
    rw [i1, i2, ← Nat.add_mul]
    show _ = (a + b + 1 + 1) * fac (a + b + 1)
    congr 1 <;> omega
theorem ch_three (a b c : Nat) : ch (a + b) c * ch a b = ch a (b + c) * ch b c := by
  have h1 := ch_fac (a + b) c
  have h2 := ch_fac a b
  have h3 := ch_fac a (b + c)
  have h4 := ch_fac b c
  apply Nat.eq_of_mul_eq_mul_right (Nat.mul_pos (Nat.mul_pos (fac_pos a) (fac_pos b)) (fac_pos c))
  have i1 : ch (a + b) c * ch a b * (fac a * fac b * fac c) = fac (a + b + c) := by
    rw [← h1, ← h2]; ac_rfl
  have i2 : ch a (b + c) * ch b c * (fac a * fac b * fac c) = fac (a + b + c) := by
    rw [Nat.add_assoc, ← h3, ← h4]; ac_rfl
  rw [i1, i2]

def T.ways : T → Nat
  | .nil => 1
  | .one _ _ _ => 1
  | .two p l r => l.ways * r.ways * (if p then ch l.size r.size else 1)
theorem T.ways_joins (p : Bool) (a b c : T) : (T.two p (.two p a b) c).ways = (T.two p a (.two p b c)).ways := by
  simp only [T.ways, T.size_two]
  cases p
  · simp; ac_rfl
  · have := ch_three a.size b.size c.size
    simp only [if_true]
    calc _ = a.ways * b.ways * c.ways * (ch (a.size + b.size) c.size * ch a.size b.size) := by ac_rfl
      _ = _ := by rw [this]; ac_rfl
theorem T.ways_none (p : Bool) (a : T) : (T.two p (.two p .nil a) .nil).ways = a.ways := by
  have h0 : T.nil.size = 0 := rfl
  simp only [T.ways, T.size_two, h0]
  cases p <;> simp [ch_zero, ch]
end Go.Proofs.YtkjmddgnfgbioaaDoor.Sp


namespace Go.Proofs.YtkjmddgnfgbioaaDoor
set_option linter.unusedVariables false
set_option linter.unusedSimpArgs false
set_option maxRecDepth 100000
open Go.RowKit

namespace Sp
def prc (p : Nat × Nat) : List Value := [.int .i64 p.1, .int .i64 p.2]
def prcs (l : List (Nat × Nat)) : List Value := l.flatMap prc
theorem prcs_length (l : List (Nat × Nat)) : (prcs l).length = l.length * 2 := flat_length prc 2 (fun _ => rfl) l
theorem prcs_append (a b : List (Nat × Nat)) : prcs (a ++ b) = prcs a ++ prcs b := by simp [prcs]
theorem prc_one (a : Nat × Nat) : ∀ u ∈ prc a, u.oneCell' = true := by
  intro u hu
  simp only [prc, List.mem_cons, List.not_mem_nil, or_false] at hu
  rcases hu with rfl | rfl <;> rfl
theorem prcs_zero (n : Nat) : prcs (List.replicate n (0, 0)) = List.replicate (n * 2) (.int .i64 0) := by
  induction n with
  | zero => rfl
  | succ n ih => rw [List.replicate_succ, Nat.succ_mul, Nat.add_comm (n * 2) 2]; show prc (0, 0) ++ prcs (List.replicate n (0, 0)) = _; rw [ih, ← List.replicate_append_replicate]; rfl
theorem prcs_take (l : List (Nat × Nat)) : ∀ i, (prcs l).take (i * 2) = prcs (l.take i) := by
  induction l with
  | nil => intro i; simp [prcs]
  | cons x l ih =>
    intro i
    cases i with
    | zero => simp [prcs]
    | succ i => rw [Nat.succ_mul]; show (_ :: _ :: prcs l).take (i * 2 + 2) = _ :: _ :: prcs (l.take i); rw [← ih]; rfl
theorem prcs_drop (l : List (Nat × Nat)) : ∀ i, (prcs l).drop (i * 2) = prcs (l.drop i) := by
  induction l with
  | nil => intro i; simp [prcs]
  | cons x l ih =>
    intro i
    cases i with
    | zero => simp [prcs]
    | succ i => rw [Nat.succ_mul]; show (_ :: _ :: prcs l).drop (i * 2 + 2) = prcs (l.drop i); rw [← ih]; rfl
theorem prcs_put (l : List (Nat × Nat)) (i : Nat) (p : Nat × Nat) : (prcs l).take (i * 2) ++ prc p ++ (prcs l).drop (i * 2 + 2) = prcs (put l i [p]) := by
  have e : i * 2 + 2 = (i + 1) * 2 := by omega
  rw [e, prcs_take, prcs_drop]
  simp [put, prcs]
theorem prcs_get (l : List (Nat × Nat)) (i : Nat) (p : Nat × Nat) (h : l[i]? = some p) : (prcs l)[i * 2]? = some (.int .i64 p.1) ∧ (prcs l)[i * 2 + 1]? = some (.int .i64 p.2) := by
  have h1 := prcs_drop l i
  obtain ⟨hi, rfl⟩ := List.getElem?_eq_some_iff.1 h
  rw [List.drop_eq_getElem_cons hi] at h1
  have h2 : prcs (l[i] :: l.drop (i + 1)) = .int .i64 l[i].1 :: .int .i64 l[i].2 :: prcs (l.drop (i + 1)) := rfl
  rw [h2] at h1
  constructor
  · have := congrArg (fun x => x[0]?) h1
    simpa using this
  · have := congrArg (fun x => x[1]?) h1
    simpa using this
end Sp

/-- what numbers leaves, in block g; its pairs in block h -/
structure Mk (B : Nat) (w : World) (g h : Nat) (ps : List (Nat × Nat)) (next base : Nat) : Prop where
  blk : Blk w g 180 [.int .i64 next, .slice (some ⟨h, 0, none⟩) ps.length ps.length, .int .i64 base]
  row : Blk w h 47 (Sp.prcs ps)
  base : B ≤ w.heap.size
  atg : B ≤ g
  ath : B ≤ h
  ne : g ≠ h

def MkEnd (B : Nat) (w : World) (g h : Nat) (ps : List (Nat × Nat)) (next : Nat) : Ending → World → Prop := fun e w' =>
  e = .returned (.tuple #[]) ∧ ∃ base, Mk B w' g h ps next base ∧ Keeps (fun k => k = g ∨ k = h) w w'

theorem Mk.alloc {B : Nat} {w : World} {g h : Nat} {ps : List (Nat × Nat)} {next base : Nat} (m : Mk B w g h ps next base) (o : Obj) : Mk B (w.alloc o) g h ps next base := ⟨m.blk.alloc _, m.row.alloc _, by have := m.base; simp; omega, m.atg, m.ath, m.ne⟩
theorem Mk.drewN {B : Nat} {w : World} {g h : Nat} {ps : List (Nat × Nat)} {next base : Nat} (m : Mk B w g h ps next base) (k : Nat) : Mk B (w.drewN k) g h ps next base := ⟨m.blk, m.row, m.base, m.atg, m.ath, m.ne⟩
theorem Mk.below {B : Nat} {w w' : World} {g h : Nat} {ps : List (Nat × Nat)} {next base : Nat} (m : Mk B w g h ps next base) (hb : Below w.heap.size w w') : Mk B w' g h ps next base := ⟨m.blk.below hb, m.row.below hb, by have := m.base; have := hb.size; omega, m.atg, m.ath, m.ne⟩
theorem mk_back {B : Nat} {w w0 : World} {g h : Nat} {ps : List (Nat × Nat)} {next : Nat} (hk : Keeps (fun _ => False) w w0) {e : Ending} {w' : World} (he : MkEnd B w0 g h ps next e w') : MkEnd B w g h ps next e w' := by
  obtain ⟨h1, b', h2, h3⟩ := he
  exact ⟨h1, b', h2, (hk.mono (fun _ h => h.elim)).trans h3⟩

theorem mk_nothing (B : Nat) (w : World) (g h : Nat) (ps : List (Nat × Nat)) (next base : Nat) (m : Mk B w g h ps next base) :
    Calls Tryd.prog 198 #[.pointer (some ⟨g, 0, none⟩)] w (MkEnd B w g h ps next) := by
  go_enter Tryd.func198, Tryd.ntmps198
  go_wp2
  go_end0
  exact ⟨rfl, base, m, Keeps.refl _ _⟩

theorem mk_one (B : Nat) (w : World) (g h : Nat) (ps : List (Nat × Nat)) (next base : Nat) (m : Mk B w g h ps next base) (a : Sp.Acc) (hb : base < ps.length) (hn : next ≤ 4194304) (hl : ps.length ≤ 4194304) :
    Calls Tryd.prog 199 #[.pointer (some ⟨g, 0, none⟩), .agg #[.int .i64 a.1, .bool a.2.1, .int .i64 a.2.2]] w (MkEnd B w g h (Sp.put ps base [(base, next)]) (next + 1)) := by
  obtain ⟨a1, a2, a3⟩ := a
  simp only
  have hgh := m.ne
  have hk0 : Keeps (fun k => k = g ∨ k = h) w (w.alloc (.cells (Sp.accc (a1, a2, a3)).toArray 56)) := (Keeps.refl _ w).alloc _
  have m1 := m.alloc (.cells (Sp.accc (a1, a2, a3)).toArray 56)
  have hlen := Sp.prcs_length ps
  have hps : (Sp.put ps base [(base, next)]).length = ps.length := Sp.put_length _ _ _ (by simp; omega)
  go_enter Tryd.func199, Tryd.ntmps199
  go_wp2_with fail
  show Code.wp _ _ _ _ (w.alloc (.cells (Sp.accc (a1, a2, a3)).toArray 56))
  generalize (w.alloc (.cells (Sp.accc (a1, a2, a3)).toArray 56)) = w0 at m1 hk0 ⊢
  clear m
  have c0 := m1.blk.cell 0
  have c1 := m1.blk.cell 1
  have c2 := m1.blk.cell 2
  simp only [List.getElem?_cons_zero, List.getElem?_cons_succ] at c0 c1 c2
  obtain ⟨n, hnn⟩ : ∃ n, n = ps.length := ⟨_, rfl⟩
  have HP := Lib.hid hps
  have HN := Lib.hid hnn
  have HL := Lib.hid hlen
  rw [← hnn] at c1 hb hl
  clear hps hnn hlen
  have hb2 : (base : Int) < (n : Int) := by omega
  have hw : IntKind.i64.wrap ((next : Int) + 1) = ((next + 1 : Nat) : Int) := by rw [IntWalk.i64_in _ (by omega)]; omega
  (refine still_last (by kernel_rfl) (by kernel_rfl) ?_; simp only [List.length_cons, List.length_nil, Nat.reduceAdd, Nat.reduceSub, List.take_succ_cons, List.take_zero, List.drop_succ_cons, List.drop_zero]; repeat still_step; try refine wpStill_nil ?_)
  refine wpl_store_blk (w := w0.drewN 1) m1.row 47 (base * 2) 2 (Sp.prc (base, next)) (by kernel_rfl) rfl (by rw [HL.out, ← HN.out]; omega) (Sp.prc_one _) rfl rfl rfl rfl ?_
  intro w2 hB2 hg2
  rw [Sp.prcs_put] at hB2
  have hb3 := m1.blk.grown (w := w0.drewN 1) hg2 (fun e => hgh (by injection e))
  have d0 := hb3.cell 0
  simp only [List.getElem?_cons_zero, List.getElem?_cons_succ] at d0
  have hk2 : Keeps (fun k => k = g ∨ k = h) w0 w2 := ((Keeps.of_grown hg2).undrewN).mono (fun i hi => .inr (by injection hi))
  clear c0 c1 c2
  go_wp2_with (refine wpl_set_blk hb3 0 (.int .i64 ((next + 1 : Nat) : Int)) (by kernel_rfl) (by simp) rfl rfl rfl rfl rfl rfl ?_; intro w3 hB3 hg3)
  have hk3 : Keeps (fun k => k = g ∨ k = h) w2 w3 := (Keeps.of_grown hg3).mono (fun i hi => .inl (by injection hi))
  have hfin : Mk B w3 g h (Sp.put ps base [(base, next)]) (next + 1) base := ⟨by rw [HP.out]; simpa using hB3, hB2.grown hg3 (fun e => hgh (by injection e with e; exact e.symm)), by have := m1.base; have := hk2.size; have := hk3.size; omega, m1.atg, m1.ath, hgh⟩
  have hkf := (hk0.trans hk2).trans hk3
  clear hB2 hg2 hb3 d0 hB3 hg3 m1 hk0 hk2 hk3
  go_wp2
  go_end0
  exact ⟨rfl, base, hfin, hkf⟩

theorem Mk.setbase {B : Nat} {w w' : World} {g h : Nat} {ps : List (Nat × Nat)} {next base base2 : Nat} (m : Mk B w g h ps next base) (hB : Blk w' g 180 ([.int .i64 next, .slice (some ⟨h, 0, none⟩) ps.length ps.length, .int .i64 base].set 2 (.int .i64 base2))) (hg : w.grownBy w' (some g)) :
    Mk B w' g h ps next base2 ∧ Keeps (fun k => k = g ∨ k = h) w w' := by
  have hk : Keeps (fun k => k = g ∨ k = h) w w' := (Keeps.of_grown hg).mono (fun i hi => .inl (by injection hi))
  exact ⟨⟨by simpa using hB, m.row.grown hg (fun e => m.ne (by injection e with e; exact e.symm)), by have := m.base; have := hk.size; omega, m.atg, m.ath, m.ne⟩, hk⟩

theorem meth_mk (g fuel : Nat) (w : World) : (method (fuel + 1) 181 (.pointer (some ⟨g, 0, none⟩)) "forkwright/sp.nothing").run Tryd.prog w = .ok (198, .pointer (some ⟨g, 0, none⟩)) w ∧
    (method (fuel + 1) 181 (.pointer (some ⟨g, 0, none⟩)) "forkwright/sp.one").run Tryd.prog w = .ok (199, .pointer (some ⟨g, 0, none⟩)) w ∧
    (method (fuel + 1) 181 (.pointer (some ⟨g, 0, none⟩)) "forkwright/sp.two").run Tryd.prog w = .ok (200, .pointer (some ⟨g, 0, none⟩)) w ∧
    (nilAhead (fuel + 1) 181 (.pointer (some ⟨g, 0, none⟩)) "forkwright/sp.two").run Tryd.prog w = .ok (some false) w :=
  ⟨by kernel_rfl, by kernel_rfl, by kernel_rfl, by kernel_rfl⟩

def MarkTell (t : Sp.T) : Prop := ∀ (B : Nat) (w : World) (g h : Nat) (ps : List (Nat × Nat)) (next base : Nat) (cs : List Value), TmR B w cs t → Mk B w g h ps next base → base + t.size ≤ ps.length → next + t.size ≤ 4194304 → ps.length ≤ 4194304 →
    Calls Tryd.prog 81 #[.agg cs.toArray, .iface 181 (.pointer (some ⟨g, 0, none⟩))] w (MkEnd B w g h (Sp.put ps base (t.marks base next)) (next + t.size))

set_option maxHeartbeats 2000000 in
theorem mk_two (par : Bool) (t0 t1 : Sp.T) (ih0 : MarkTell t0) (ih1 : MarkTell t1) (B : Nat) (w0 : World) (g h : Nat) (ps : List (Nat × Nat)) (next base : Nat) (cs0 cs1 : List Value) (q0 : TmR B w0 cs0 t0) (q1 : TmR B w0 cs1 t1) (hM : Mk B w0 g h ps next base)
    (hb : base + (t0.size + t1.size) ≤ ps.length) (hn : next + (t0.size + t1.size) ≤ 4194304) (hl : ps.length ≤ 4194304) :
    Calls Tryd.prog 200 #[.pointer (some ⟨g, 0, none⟩), .bool par, .agg cs0.toArray, .agg cs1.toArray] w0 (MkEnd B w0 g h (Sp.put ps base ((Sp.T.two par t0 t1).marks base next)) (next + (t0.size + t1.size))) := by
  obtain ⟨a0, a1, a2, a3, A4, a5, a6, rfl, -, -⟩ := q0.form
  obtain ⟨b0, b1, b2, b3, B4, b5, b6, rfl, -, -⟩ := q1.form
  unfold tcells at q0 q1 ⊢
  have hbox0 := (Blk.new w0 59 [.int .i64 a0, .int .i64 a1, .bool a2, .int .i64 a3, .slice A4 a5 a6]).alloc (.cells #[.int .i64 b0, .int .i64 b1, .bool b2, .int .i64 b3, .slice B4 b5 b6] 59)
  have hbox1 := Blk.new (w0.alloc (.cells #[.int .i64 a0, .int .i64 a1, .bool a2, .int .i64 a3, .slice A4 a5 a6] 59)) 59 [.int .i64 b0, .int .i64 b1, .bool b2, .int .i64 b3, .slice B4 b5 b6]
  have hM2 := (hM.alloc (.cells #[.int .i64 a0, .int .i64 a1, .bool a2, .int .i64 a3, .slice A4 a5 a6] 59)).alloc (.cells #[.int .i64 b0, .int .i64 b1, .bool b2, .int .i64 b3, .slice B4 b5 b6] 59)
  have hB1 : B ≤ (w0.alloc (.cells #[.int .i64 a0, .int .i64 a1, .bool a2, .int .i64 a3, .slice A4 a5 a6] 59)).heap.size := by have := hM.base; simp; omega
  have s0 := (q0.alloc hM.base (.cells #[.int .i64 a0, .int .i64 a1, .bool a2, .int .i64 a3, .slice A4 a5 a6] 59)).alloc hB1 (.cells #[.int .i64 b0, .int .i64 b1, .bool b2, .int .i64 b3, .slice B4 b5 b6] 59)
  have s1 := (q1.alloc hM.base (.cells #[.int .i64 a0, .int .i64 a1, .bool a2, .int .i64 a3, .slice A4 a5 a6] 59)).alloc hB1 (.cells #[.int .i64 b0, .int .i64 b1, .bool b2, .int .i64 b3, .slice B4 b5 b6] 59)
  have hg1 := hM.blk.lt
  have hh1 := hM.row.lt
  have hk2 : Keeps (fun k => k = g ∨ k = h) w0 ((w0.alloc (.cells #[.int .i64 a0, .int .i64 a1, .bool a2, .int .i64 a3, .slice A4 a5 a6] 59)).alloc (.cells #[.int .i64 b0, .int .i64 b1, .bool b2, .int .i64 b3, .slice B4 b5 b6] 59)) := ((Keeps.refl _ w0).alloc _).alloc _
  have hq1 : (w0.alloc (.cells #[.int .i64 a0, .int .i64 a1, .bool a2, .int .i64 a3, .slice A4 a5 a6] 59)).heap.size = w0.heap.size + 1 := by simp
  rw [hq1] at hbox1
  clear hq1 q0 q1 hB1 hM
  go_enter Tryd.func200, Tryd.ntmps200
  go_wp2_with fail
  try rw [show (w0.alloc (.cells #[.int .i64 a0, .int .i64 a1, .bool a2, .int .i64 a3, .slice A4 a5 a6] 59)).heap.size = w0.heap.size + 1 from by simp]
  generalize ((w0.alloc (.cells #[.int .i64 a0, .int .i64 a1, .bool a2, .int .i64 a3, .slice A4 a5 a6] 59)).alloc (.cells #[.int .i64 b0, .int .i64 b1, .bool b2, .int .i64 b3, .slice B4 b5 b6] 59)) = w2 at hbox0 hbox1 hM2 s0 s1 hk2 ⊢
  obtain ⟨q, hq⟩ : ∃ q, q = w0.heap.size := ⟨_, rfl⟩
  rw [← hq] at hbox0 hbox1 hg1 hh1 ⊢
  have look : ∀ w', Keeps (fun k => k = g ∨ k = h) w2 w' → (w'.cell? ⟨q, 0, none⟩ = some (.int .i64 a0) ∧ w'.cell? ⟨q, 1, none⟩ = some (.int .i64 a1) ∧ w'.cell? ⟨q, 2, none⟩ = some (.bool a2) ∧ w'.cell? ⟨q, 3, none⟩ = some (.int .i64 a3) ∧ w'.cell? ⟨q, 4, none⟩ = some (.slice A4 a5 a6)) ∧
      (w'.cell? ⟨q + 1, 0, none⟩ = some (.int .i64 b0) ∧ w'.cell? ⟨q + 1, 1, none⟩ = some (.int .i64 b1) ∧ w'.cell? ⟨q + 1, 2, none⟩ = some (.bool b2) ∧ w'.cell? ⟨q + 1, 3, none⟩ = some (.int .i64 b3) ∧ w'.cell? ⟨q + 1, 4, none⟩ = some (.slice B4 b5 b6)) ∧
      TmR B w' [.int .i64 a0, .int .i64 a1, .bool a2, .int .i64 a3, .slice A4 a5 a6] t0 ∧ TmR B w' [.int .i64 b0, .int .i64 b1, .bool b2, .int .i64 b3, .slice B4 b5 b6] t1 := fun w' hk => by
    have x0 := hbox0.keeps hk (fun e => by omega)
    have x1 := hbox1.keeps hk (fun e => by omega)
    have hbl := hk.below (B := B) hM2.base (fun i hi => hi.elim (fun e => e ▸ hM2.atg) (fun e => e ▸ hM2.ath))
    exact ⟨⟨by rw [x0.cell]; rfl, by rw [x0.cell]; rfl, by rw [x0.cell]; rfl, by rw [x0.cell]; rfl, by rw [x0.cell]; rfl⟩, ⟨by rw [x1.cell]; rfl, by rw [x1.cell]; rfl, by rw [x1.cell]; rfl, by rw [x1.cell]; rfl, by rw [x1.cell]; rfl⟩, s0.later hbl, s1.later hbl⟩
  have keepS : ∀ w', Below w2.heap.size w2 w' → (Below w2.heap.size w2 w' ∧ w'.cell? ⟨g, 2, none⟩ = some (.int .i64 base) ∧ w'.cell? ⟨q, 0, none⟩ = some (.int .i64 a0) ∧ w'.cell? ⟨q, 1, none⟩ = some (.int .i64 a1) ∧ w'.cell? ⟨q, 2, none⟩ = some (.bool a2) ∧ w'.cell? ⟨q, 3, none⟩ = some (.int .i64 a3) ∧ w'.cell? ⟨q, 4, none⟩ = some (.slice A4 a5 a6)) := fun w' hb =>
    ⟨hb, by rw [(hM2.blk.below hb).cell]; rfl, (look w' (Keeps.of_below hb _)).1⟩
  have hlv : ∀ w', (Below w2.heap.size w2 w' ∧ w'.cell? ⟨g, 2, none⟩ = some (.int .i64 base) ∧ w'.cell? ⟨q, 0, none⟩ = some (.int .i64 a0) ∧ w'.cell? ⟨q, 1, none⟩ = some (.int .i64 a1) ∧ w'.cell? ⟨q, 2, none⟩ = some (.bool a2) ∧ w'.cell? ⟨q, 3, none⟩ = some (.int .i64 a3) ∧ w'.cell? ⟨q, 4, none⟩ = some (.slice A4 a5 a6)) →
      Calls Tryd.prog 37 #[.agg #[.int .i64 a0, .int .i64 a1, .bool a2, .int .i64 a3, .slice A4 a5 a6]] w' fun e w'' => ∃ A c, e = .returned (.slice A t0.size c) ∧ (t0.size ≤ c ∧ c ≤ 9223372036854775807) ∧ Below w2.heap.size w2 w'' ∧ Below w'.heap.size w' w'' := fun w' hS =>
    (leaves_any w' _ t0 ((look w' (Keeps.of_below hS.1 _)).2.2.1.keep (by have := hS.1.size; have := hM2.base; omega) (fun _ _ => rfl)) (by omega)).mono fun e w'' hh => by
      obtain ⟨v, rfl, ⟨A, c, rfl, h1, h2, -, -⟩, h3⟩ := hh
      exact ⟨A, c, rfl, ⟨h1, h2⟩, below_next h3 hS.1, h3⟩
  have hlen0 : ∀ a j, (t0.marks a j).length = t0.size := t0.marks_length
  have hlen1 : ∀ a j, (t1.marks a j).length = t1.size := t1.marks_length
  have hE0 := fun w g h ps next base => ih0 B w g h ps next base [.int .i64 a0, .int .i64 a1, .bool a2, .int .i64 a3, .slice A4 a5 a6]
  have hE1 := fun w g h ps next base => ih1 B w g h ps next base [.int .i64 b0, .int .i64 b1, .bool b2, .int .i64 b3, .slice B4 b5 b6]
  clear hbox0 hbox1 s0 s1 hq ih0 ih1
  go_region_held3 (fun w' => (Below w2.heap.size w2 w' ∧ w'.cell? ⟨g, 2, none⟩ = some (.int .i64 base) ∧ w'.cell? ⟨q, 0, none⟩ = some (.int .i64 a0) ∧ w'.cell? ⟨q, 1, none⟩ = some (.int .i64 a1) ∧ w'.cell? ⟨q, 2, none⟩ = some (.bool a2) ∧ w'.cell? ⟨q, 3, none⟩ = some (.int .i64 a3) ∧ w'.cell? ⟨q, 4, none⟩ = some (.slice A4 a5 a6)))
    ((refine keepS _ ?_; repeat (first | exact Below.refl _ _ | assumption | apply below_alloc | apply below_drew | exact (And.left (by assumption)) | (apply below_next; assumption))))
    ((go_at_call 37; refine (hlv _ (by assumption)).mono ?_; rintro e w6 ⟨A6, c6, rfl, ⟨hle6, hm6⟩, hb5, hb6⟩))
  rename_i hHeld
  have k6 : Keeps (fun k => k = g ∨ k = h) w2 w6 := Keeps.of_below hb5 _
  have m6 := hM2.below hb5
  clear hHeld hb5 hb6 keepS hlv hM2
  have hw : IntKind.i64.wrap ((base : Int) + (t0.size : Int)) = ((base + t0.size : Nat) : Int) := by rw [IntWalk.i64_in _ (by omega)]; omega
  rcases par with _ | _
  · obtain ⟨⟨x0, x1, x2, x3, x4⟩, -, r0, -⟩ := look w6 k6
    go_wp2_with fail
    refine (hE0 w6 g h ps next base r0 m6 (by omega) (by omega) hl).mono ?_
    rintro e w7 ⟨rfl, bs7, m7, k7⟩
    have kk7 := k6.trans k7
    clear x0 x1 x2 x3 x4 r0
    go_wp2_with (refine wpl_set_blk m7.blk 2 (.int .i64 ((base + t0.size : Nat) : Int)) (by kernel_rfl) (by simp) rfl rfl rfl rfl rfl rfl ?_; intro w8 hB8 hg8; obtain ⟨m8, k8⟩ := m7.setbase hB8 hg8; have kk8 := kk7.trans k8; obtain ⟨-, ⟨x0, x1, x2, x3, x4⟩, -, r1⟩ := look w8 kk8; clear hB8 hg8)
    have hpl : (Sp.put ps base (t0.marks base next)).length = ps.length := Sp.put_length _ _ _ (by rw [hlen0]; omega)
    have hput := Sp.put_put ps (t0.marks base next) (t1.marks (base + t0.size) (next + t0.size)) base (by rw [hlen0, hlen1]; omega)
    rw [hlen0] at hput
    have hcall := hE1 w8 g h _ (next + t0.size) (base + t0.size) r1 m8 (by rw [hpl]; omega) (by omega) (by rw [hpl]; exact hl)
    rw [hput] at hcall
    clear hput hpl hE0 hE1 look m8 m7 m6
    refine hcall.mono ?_
    rintro e w9 ⟨rfl, bs9, m9, k9⟩
    clear hcall
    go_wp2
    go_end0
    exact ⟨rfl, bs9, by rw [← Nat.add_assoc]; exact m9, hk2.trans (kk8.trans k9)⟩
  · go_wp2_with (refine wpl_set_blk m6.blk 2 (.int .i64 ((base + t0.size : Nat) : Int)) (by kernel_rfl) (by simp) rfl rfl rfl rfl rfl rfl ?_; intro w7 hB7 hg7; obtain ⟨m7, k7⟩ := m6.setbase hB7 hg7; have kk7 := k6.trans k7; obtain ⟨-, ⟨x0, x1, x2, x3, x4⟩, -, r1⟩ := look w7 kk7; clear hB7 hg7)
    refine (hE1 w7 g h ps next (base + t0.size) r1 m7 (by omega) (by omega) hl).mono ?_
    rintro e w8 ⟨rfl, bs8, m8, k8⟩
    have kk8 := kk7.trans k8
    clear x0 x1 x2 x3 x4 r1
    go_wp2_with (refine wpl_set_blk m8.blk 2 (.int .i64 (base : Int)) (by kernel_rfl) (by simp) rfl rfl rfl rfl rfl rfl ?_; intro w9 hB9 hg9; obtain ⟨m9, k9⟩ := m8.setbase hB9 hg9; have kk9 := kk8.trans k9; obtain ⟨⟨x0, x1, x2, x3, x4⟩, -, r0, -⟩ := look w9 kk9; clear hB9 hg9)
    have hpl : (Sp.put ps (base + t0.size) (t1.marks (base + t0.size) next)).length = ps.length := Sp.put_length _ _ _ (by rw [hlen1]; omega)
    have hput := Sp.put_back ps (t0.marks base (next + t1.size)) (t1.marks (base + t0.size) next) base (by rw [hlen0, hlen1]; omega)
    rw [hlen0] at hput
    have hcall := hE0 w9 g h _ (next + t1.size) base r0 m9 (by rw [hpl]; omega) (by omega) (by rw [hpl]; exact hl)
    rw [hput] at hcall
    clear hput hpl hE0 hE1 look m9 m8 m7 m6
    refine hcall.mono ?_
    rintro e w10 ⟨rfl, bs10, m10, k10⟩
    clear hcall
    go_wp2
    go_end0
    exact ⟨rfl, bs10, by rw [show next + (t0.size + t1.size) = next + t1.size + t0.size from by omega]; exact m10, hk2.trans (kk9.trans k10)⟩

theorem tell_marks (t : Sp.T) : MarkTell t := by
  induction t with
  | nil =>
    intro B w g h ps next base cs hT hM hb hn hl
    have e : Sp.put ps base (Sp.T.nil.marks base next) = ps := Sp.put_nil _ _
    rw [e]
    refine tell_nil hT (f := 198) (fun k w => (meth_mk g k w).1) (fun _ _ => by rfl) ?_
    exact (mk_nothing B _ g h ps next base (hM.alloc _)).mono fun e w' h => mk_back (keeps_alloc _ _) h
  | one c b l =>
    intro B w g h ps next base cs hT hM hb hn hl
    have hb' : base + 1 ≤ ps.length := hb
    have hn' : next + 1 ≤ 4194304 := hn
    refine tell_one hT (f := 199) (fun k w => (meth_mk g k w).2.1) (fun _ _ => by rfl) ?_
    exact (mk_one B _ g h ps next base (hM.alloc _) (c, b, l) (by omega) (by omega) hl).mono fun e w' h => mk_back (keeps_alloc _ _) h
  | two par t0 t1 ih0 ih1 =>
    intro B w g h ps next base cs hT hM hb hn hl
    rw [Sp.T.size_two] at hn hb ⊢
    refine tell_two hT (f := 200) (fun k w => (meth_mk g k w).2.2.1) (fun k w => (meth_mk g k w).2.2.2) (fun _ _ => by rfl) hM.base ?_
    intro cs0 cs1 r0 r1
    have hk0 : Keeps (fun _ => False) w ((w.alloc (.cells cs.toArray 59)).drewN 1) := (keeps_alloc _ _).drewN 1
    have v0 : TmR B ((w.alloc (.cells cs.toArray 59)).drewN 1) cs0 t0 := r0.keep (Nat.le_refl _) (fun p hp => World.cell?_alloc_lt w _ p (by have := hM.base; omega))
    have v1 : TmR B ((w.alloc (.cells cs.toArray 59)).drewN 1) cs1 t1 := r1.keep (Nat.le_refl _) (fun p hp => World.cell?_alloc_lt w _ p (by have := hM.base; omega))
    have hM1 : Mk B ((w.alloc (.cells cs.toArray 59)).drewN 1) g h ps next base := (hM.alloc _).drewN 1
    exact (mk_two par t0 t1 ih0 ih1 B _ g h ps next base cs0 cs1 v0 v1 hM1 hb hn hl).mono fun e w' h => mk_back hk0 h
end Go.Proofs.YtkjmddgnfgbioaaDoor


namespace Go.Proofs.YtkjmddgnfgbioaaDoor
set_option linter.unusedVariables false
set_option linter.unusedSimpArgs false
set_option maxRecDepth 100000
open Go.RowKit

theorem made_flat (z : Value) (k n : Nat) (hk : 0 < k) : (madeCells (Array.replicate k z) n).toList = List.replicate n z := by
  apply List.ext_getElem?
  intro j
  by_cases hj : j < n
  · have := Nat.mod_lt j hk
    simp [madeCells, hj, this]
  · simp [madeCells, hj]

/-- 'make([]T, n)', T of some cells that are alike -/
theorem wp_make_flat {P : Program} (w : World) {ops : Array Oper} {rest : List Oper} {o : Oper} {a : Act} {Q : Exit → Act → World → Prop}
    (t e : TypeId) (z zc : Value) (size bytes : Nat) (n : Nat) (ht : P.underlying t = some (.slice e)) (hinfo : (P.info? e).map (fun i => (i.zero, i.size, i.bytes)) = some (some z, size, bytes)) (hz : z.cells = Array.replicate size zc) (hsz : 0 < size)
    {L C : Int} (hL : L = (n : Int)) (hC : C = (n : Int)) (b2 : bytes * n ≤ 281474976710656) (b3 : n ≤ 9223372036854775807)
    {l c : Operand} {kl kc : IntKind} (hg : o.guard = none) (hop : o.op = Op.makeSlice t l c) (hl : a.eval l = .int kl L) (hc : a.eval c = .int kc C)
    (hK : ∀ w', Blk w' w.heap.size e (List.replicate (n * size) zc) → Below w.heap.size w w' → w'.heap.size = w.heap.size + 1 → wpList P ops Q rest (a.put o.dst (.slice (some ⟨w.heap.size, 0, none⟩) n n)) w') :
    wpList P ops Q (o :: rest) a w := by
  obtain ⟨i, hi, hz0, hz1, hz2⟩ := info_parts hinfo
  refine wpList_plain hg fun K hK' => ?_
  subst hL
  subst hC
  have h63' : (n : Int) ≤ 9223372036854775807 := by omega
  have hb' : (i.bytes : Int) * (n : Int) ≤ 281474976710656 := by
    have h : ((i.bytes * n : Nat) : Int) ≤ 281474976710656 := by rw [hz2]; omega
    rwa [Int.natCast_mul] at h
  have hr := run_make (P := P) w t e i z ht hi hz0 kl kc n n (by omega) (Int.le_refl _) hb' h63'
  simp only [Int.toNat_natCast, hz1, hz] at hr
  unfold Oper.wp
  simp [execOp, hop, hl, hc, hr, Result.andThen]
  refine hK' _ _ (hK _ ?_ ((Below.refl _ _).alloc (Nat.le_refl _) _) (by simp))
  have := Blk.new w e (madeCells (Array.replicate size zc) (n * size)).toList
  rw [Array.toArray_toList] at this
  rwa [made_flat zc size _ hsz] at this

theorem info_pairM : (Tryd.prog.info? 47).map (fun i => (i.zero, i.size, i.bytes)) = some (some (.agg #[.int .i64 0, .int .i64 0]), 2, 16) := by kernel_rfl

theorem marks_any (w : World) (cs : List Value) (t : Sp.T) (hT : TmR w.heap.size w cs t) (hn : t.size ≤ 4194304) :
    Calls Tryd.prog 82 #[.agg cs.toArray] w fun e w' => ∃ h, e = .returned (.slice (some ⟨h, 0, none⟩) t.size t.size) ∧ Blk w' h 47 (Sp.prcs (t.marks 0 0)) ∧ w.heap.size ≤ h ∧ Below w.heap.size w w' := by
  obtain ⟨a0, a1, a2, a3, A4, a5, a6, rfl, -, -⟩ := hT.form
  have hP := Blk.new w 59 (tcells a0 a1 a2 a3 A4 a5 a6)
  have s1 := hT.alloc (Nat.le_refl _) (.cells (tcells a0 a1 a2 a3 A4 a5 a6).toArray 59)
  have hb0 : Below w.heap.size w (w.alloc (.cells (tcells a0 a1 a2 a3 A4 a5 a6).toArray 59)) := below_alloc (Below.refl _ _) _
  unfold tcells at s1 hP hb0 ⊢
  clear hT
  go_enter Tryd.func82, Tryd.ntmps82
  go_wp2_with fail
  refine (leaves_any _ _ t (s1.keep (by simp) (fun _ _ => rfl)) hn).mono ?_
  rintro e w1 ⟨v, rfl, ⟨A7, c7, rfl, hle7, hm7, -, -⟩, hb1⟩
  have hb1' := below_next hb1 hb0
  have hP1 := hP.below (by simpa using hb1)
  have s2 := s1.later (hb1.mono (by simp))
  unfold maxLen at hm7
  have hsz1 : w.heap.size < w1.heap.size := by have := hb1.size; simp at this; omega
  obtain ⟨q, hq⟩ : ∃ q, q = w.heap.size := ⟨_, rfl⟩
  rw [← hq] at hP1 s2 hsz1 hb1' ⊢
  have HQ := Lib.hid hq
  clear hP s1 hb0 hb1 hq
  go_wp2_with (refine wp_make_flat w1 _ _ _ (.int .i64 0) 2 16 t.size Tryd.underlying42 info_pairM rfl (by decide) rfl rfl (by omega) (by omega) rfl rfl rfl rfl ?_; intro w2 hR2 hb2 hsz2; have hP3 := (hP1.below hb2).alloc (.cells #[.int .i64 0, .slice (some ⟨w1.heap.size, 0, none⟩) t.size t.size, .int .i64 0] 180); have c0 := hP3.cell 0; have c1 := hP3.cell 1; have c2 := hP3.cell 2; have c3 := hP3.cell 3; have c4 := hP3.cell 4; simp only [List.getElem?_cons_zero, List.getElem?_cons_succ] at c0 c1 c2 c3 c4)
  have hq1 : q ≤ w1.heap.size := by omega
  have hB := Blk.new w2 180 [.int .i64 0, .slice (some ⟨w1.heap.size, 0, none⟩) t.size t.size, .int .i64 0]
  rw [hsz2] at hB
  have hrep : (List.replicate t.size ((0, 0) : Nat × Nat)).length = t.size := List.length_replicate
  have hM : Mk q (w2.alloc (.cells #[.int .i64 0, .slice (some ⟨w1.heap.size, 0, none⟩) t.size t.size, .int .i64 0] 180)) (w1.heap.size + 1) w1.heap.size (List.replicate t.size (0, 0)) 0 0 :=
    ⟨by rw [hrep]; exact hB, by rw [Sp.prcs_zero]; exact hR2.alloc _, by simp; omega, by omega, hq1, by omega⟩
  have s3 := (s2.later (hb2.mono hq1)).alloc (by omega) (.cells #[.int .i64 0, .slice (some ⟨w1.heap.size, 0, none⟩) t.size t.size, .int .i64 0] 180)
  have hb3 : Below q w (w2.alloc (.cells #[.int .i64 0, .slice (some ⟨w1.heap.size, 0, none⟩) t.size t.size, .int .i64 0] 180)) := (hb1'.trans (hb2.mono hq1)).trans ((Below.refl _ _).alloc (by omega) _)
  refine (tell_marks t q _ (w1.heap.size + 1) w1.heap.size _ 0 0 _ s3 hM (by rw [hrep]; omega) (by omega) (by rw [hrep]; exact hn)).mono ?_
  rintro e w4 ⟨rfl, bs, m4, k4⟩
  have hall := Sp.put_all (List.replicate t.size ((0, 0) : Nat × Nat)) (t.marks 0 0) (by rw [hrep, t.marks_length])
  rw [hall] at m4
  have hb4 : Below q w w4 := hb3.trans (k4.below hM.base (fun i hi => hi.elim (fun e => by omega) (fun e => by omega)))
  have d1 := m4.blk.cell 1
  rw [t.marks_length] at d1
  simp only [List.getElem?_cons_zero, List.getElem?_cons_succ] at d1
  have hrow := m4.row
  clear c0 c1 c2 c3 c4 hP3 hB hM s3 hb3 hall m4 k4 hR2 hb1'
  go_wp2
  go_ret
  rw [HQ.out] at hq1 hb4
  exact ⟨_, rfl, hrow, hq1, hb4⟩

end Go.Proofs.YtkjmddgnfgbioaaDoor


namespace Go.Proofs.YtkjmddgnfgbioaaDoor
set_option linter.unusedVariables false
set_option linter.unusedSimpArgs false
set_option maxRecDepth 100000
open Go.RowKit

theorem before_any (w : World) (cs : List Value) (t : Sp.T) (i j : Int) (hT : TmR w.heap.size w cs t) (hn : t.size ≤ 4194304) :
    Calls Tryd.prog 39 #[.agg cs.toArray, .int .i64 i, .int .i64 j] w fun e w' => e = .returned (.bool (t.before i j)) ∧ Below w.heap.size w w' := by
  obtain ⟨a0, a1, a2, a3, A4, a5, a6, rfl, -, -⟩ := hT.form
  have s1 := hT.alloc (Nat.le_refl _) (.cells (tcells a0 a1 a2 a3 A4 a5 a6).toArray 59)
  have hb0 : Below w.heap.size w (w.alloc (.cells (tcells a0 a1 a2 a3 A4 a5 a6).toArray 59)) := below_alloc (Below.refl _ _) _
  unfold tcells at s1 hb0 ⊢
  clear hT
  go_enter Tryd.func39, Tryd.ntmps39
  go_wp2_with fail
  refine (marks_any _ _ t (s1.keep (by simp) (fun _ _ => rfl)) hn).mono ?_
  rintro e w1 ⟨h, rfl, hrow, -, hb1⟩
  have hbf := below_next hb1 hb0
  clear s1 hb0 hb1
  by_cases hin : 0 ≤ i ∧ 0 ≤ j ∧ i < t.size ∧ j < t.size
  · obtain ⟨h1, h2, h3, h4⟩ := hin
    obtain ⟨a, rfl⟩ := Int.eq_ofNat_of_zero_le h1
    obtain ⟨b, rfl⟩ := Int.eq_ofNat_of_zero_le h2
    have ha : a < t.size := by omega
    have hb : b < t.size := by omega
    obtain ⟨ra, hra⟩ : ∃ r, r = t.rk a := ⟨_, rfl⟩
    obtain ⟨rb, hrb⟩ : ∃ r, r = t.rk b := ⟨_, rfl⟩
    have ga := Sp.prcs_get _ a _ (t.marks_get 0 0 a ha)
    have gb := Sp.prcs_get _ b _ (t.marks_get 0 0 b hb)
    rw [Nat.zero_add, Nat.zero_add] at ga gb
    rw [← hra] at ga
    rw [← hrb] at gb
    have c0 : w1.cell? ⟨h, a * 2, none⟩ = some (.int .i64 (a : Int)) := (hrow.cell (a * 2)).trans ga.1
    have c1 : w1.cell? ⟨h, a * 2 + 1, none⟩ = some (.int .i64 (ra : Int)) := (hrow.cell (a * 2 + 1)).trans ga.2
    have d0 : w1.cell? ⟨h, b * 2, none⟩ = some (.int .i64 (b : Int)) := (hrow.cell (b * 2)).trans gb.1
    have d1 : w1.cell? ⟨h, b * 2 + 1, none⟩ = some (.int .i64 (rb : Int)) := (hrow.cell (b * 2 + 1)).trans gb.2
    have hres : t.before (a : Int) (b : Int) = (decide ((a : Int) < (b : Int)) && decide ((ra : Int) < (rb : Int))) := by
      rw [Bool.eq_iff_iff, Bool.and_eq_true, decide_eq_true_iff, decide_eq_true_iff]
      unfold Sp.T.before Sp.T.bf
      rw [decide_eq_true_iff]
      simp only [Int.toNat_natCast, ← hra, ← hrb]
      omega
    have HR := Lib.hid hres
    clear hres hra hrb ga gb hrow
    have n1 : decide ((a : Int) < 0) = false := by simp
    have n2 : decide ((b : Int) < 0) = false := by simp
    have n3 : decide (t.size ≤ a) = false := by simp; omega
    have n4 : decide (t.size ≤ b) = false := by simp; omega
    by_cases hlt : a < b
    rotate_left
    · have hab : decide ((a : Int) < (b : Int)) = false := by simp; omega
      rw [hab, Bool.false_and] at HR
      have hab2 : decide (a < b) = false := by simp; omega
      clear hlt hab
      go_wp2
      go_quiet (fail)
      go_wp2
      go_ret
      exact ⟨ret_bool (by rw [HR.out]), hbf.trans (below_drewN (Below.refl _ _) _)⟩
    · have hab : decide ((a : Int) < (b : Int)) = true := by simp; omega
      rw [hab, Bool.true_and] at HR
      have hab2 : decide (a < b) = true := by simp; omega
      clear hlt hab
      go_wp2
      go_quiet (fail)
      go_wp2
      go_ret
      exact ⟨ret_bool (by rw [HR.out]; simp), hbf.trans (below_drewN (Below.refl _ _) _)⟩
  · have hres : t.before i j = false := by
      unfold Sp.T.before
      rw [decide_eq_false_iff_not]
      exact fun h => hin h.1
    have HR := Lib.hid hres
    clear hres hrow
    by_cases g1 : i < 0
    · go_wp2
      go_ret
      exact ⟨(show _ = Ending.returned (.bool false) from rfl).trans (by rw [HR.out]), hbf⟩
    by_cases g2 : j < 0
    · go_wp2
      go_ret
      exact ⟨(show _ = Ending.returned (.bool false) from rfl).trans (by rw [HR.out]), hbf⟩
    by_cases g3 : (t.size : Int) ≤ i
    · go_wp2
      go_ret
      exact ⟨(show _ = Ending.returned (.bool false) from rfl).trans (by rw [HR.out]), hbf⟩
    have g4 : (t.size : Int) ≤ j := by omega
    clear hin
    go_wp2
    go_ret
    exact ⟨(show _ = Ending.returned (.bool false) from rfl).trans (by rw [HR.out]), hbf⟩
end Go.Proofs.YtkjmddgnfgbioaaDoor


namespace Go.Proofs.YtkjmddgnfgbioaaDoor
set_option linter.unusedVariables false
set_option linter.unusedSimpArgs false
set_option maxRecDepth 100000
open Go.RowKit

def xz4 : List Value := [.int .i64 0, .int .i64 0, .string ⟨#[]⟩, .slice none 0 0]
theorem xbadU {B : Nat} (w : World) : XR B w xz4 .bad := .bad 0 0 ⟨#[]⟩ none 0 0 (Nat.le_refl _) (Nat.zero_le _) (by decide) (by decide) (by omega)
theorem xnumU {B : Nat} (w : World) (n : Int) (h : Ex.rng n) : XR B w (xcells 1 n ⟨#[]⟩ none 0 0) (.num n) := .num n ⟨#[]⟩ none 0 0 (Nat.le_refl _) (Nat.zero_le _) h
theorem numU_any (n : Int) (w : World) : Calls Tryd.prog 69 #[.int .i64 n] w fun e w' => e = .returned (.agg (xcells 1 n ⟨#[]⟩ none 0 0).toArray) ∧ Below w.heap.size w w' := by
  have hb := Blk.new w 38 xz4
  have h0 : Below w.heap.size w (w.alloc (.cells xz4.toArray 38)) := below_alloc (Below.refl _ _) _
  unfold xz4 at hb h0
  obtain ⟨q, hq⟩ : ∃ q, q = w.heap.size := ⟨_, rfl⟩
  go_enter Tryd.func69, Tryd.ntmps69
  go_upto_region 1 with (fail)
  generalize (w.alloc (.cells #[.int .i64 0, .int .i64 0, .string ⟨#[]⟩, .slice none 0 0] 38)) = W at hb h0 ⊢
  rw [← hq] at hb ⊢
  have HQ := Lib.hid hq
  clear hq
  go_wp2_with (first | (refine wpl_put_blk hb [.int .i64 1, .int .i64 n, .string ⟨#[]⟩, .slice none 0 0] (by kernel_rfl) rfl (by intro v hv; simp at hv; rcases hv with rfl | rfl | rfl | rfl <;> rfl) rfl rfl rfl rfl ?_; intro w2 hB2 hg2) | fail)
  exact ret_blk hB2 rfl rfl Tryd.underlying38 rfl (by kernel_rfl) rfl ⟨rfl, h0.trans (below_of_grown hg2 h0.size (by have := HQ.out; omega))⟩
theorem asyncU_any (w : World) (D : Option Addr) (dl dc : Nat) : Calls Tryd.prog 66 #[.slice D dl dc] w fun e w' => e = .returned (.agg (stcells 4 ⟨#[]⟩ xz4 xz4 D dl dc none 0 0).toArray) ∧ Below w.heap.size w w' := by
  have hb := Blk.new w 40 (stcells 0 ⟨#[]⟩ xz4 xz4 none 0 0 none 0 0)
  have h0 : Below w.heap.size w (w.alloc (.cells (stcells 0 ⟨#[]⟩ xz4 xz4 none 0 0 none 0 0).toArray 40)) := below_alloc (Below.refl _ _) _
  unfold stcells xz4 at hb h0
  simp only [List.cons_append, List.nil_append] at hb h0
  obtain ⟨q, hq⟩ : ∃ q, q = w.heap.size := ⟨_, rfl⟩
  have hone := stcells_oneU 4 ⟨#[]⟩ 0 0 ⟨#[]⟩ none 0 0 0 0 ⟨#[]⟩ none 0 0 D dl dc none 0 0
  unfold stcells xcells at hone
  simp only [List.cons_append, List.nil_append] at hone
  go_enter Tryd.func66, Tryd.ntmps66
  go_upto_region 1 with (fail)
  generalize (w.alloc (.cells #[.int .i64 0, .string ⟨#[]⟩, .int .i64 0, .int .i64 0, .string ⟨#[]⟩, .slice none 0 0, .int .i64 0, .int .i64 0, .string ⟨#[]⟩, .slice none 0 0, .slice none 0 0, .slice none 0 0] 40)) = W at hb h0 ⊢
  rw [← hq] at hb ⊢
  have HQ := Lib.hid hq
  clear hq
  go_wp2_with (first | (refine wpl_put_blk hb [.int .i64 4, .string ⟨#[]⟩, .int .i64 0, .int .i64 0, .string ⟨#[]⟩, .slice none 0 0, .int .i64 0, .int .i64 0, .string ⟨#[]⟩, .slice none 0 0, .slice D dl dc, .slice none 0 0] (by kernel_rfl) rfl hone rfl rfl rfl rfl ?_; intro w2 hB2 hg2) | fail)
  exact ret_blk hB2 rfl rfl Tryd.underlying40 rfl (by kernel_rfl) rfl ⟨rfl, h0.trans (below_of_grown hg2 h0.size (by have := HQ.out; omega))⟩
theorem finishU_any (w : World) (D : Option Addr) (dl dc : Nat) : Calls Tryd.prog 25 #[.slice D dl dc] w fun e w' => e = .returned (.agg (stcells 5 ⟨#[]⟩ xz4 xz4 D dl dc none 0 0).toArray) ∧ Below w.heap.size w w' := by
  have hb := Blk.new w 40 (stcells 0 ⟨#[]⟩ xz4 xz4 none 0 0 none 0 0)
  have h0 : Below w.heap.size w (w.alloc (.cells (stcells 0 ⟨#[]⟩ xz4 xz4 none 0 0 none 0 0).toArray 40)) := below_alloc (Below.refl _ _) _
  unfold stcells xz4 at hb h0
  simp only [List.cons_append, List.nil_append] at hb h0
  obtain ⟨q, hq⟩ : ∃ q, q = w.heap.size := ⟨_, rfl⟩
  have hone := stcells_oneU 5 ⟨#[]⟩ 0 0 ⟨#[]⟩ none 0 0 0 0 ⟨#[]⟩ none 0 0 D dl dc none 0 0
  unfold stcells xcells at hone
  simp only [List.cons_append, List.nil_append] at hone
  go_enter Tryd.func25, Tryd.ntmps25
  go_upto_region 1 with (fail)
  generalize (w.alloc (.cells #[.int .i64 0, .string ⟨#[]⟩, .int .i64 0, .int .i64 0, .string ⟨#[]⟩, .slice none 0 0, .int .i64 0, .int .i64 0, .string ⟨#[]⟩, .slice none 0 0, .slice none 0 0, .slice none 0 0] 40)) = W at hb h0 ⊢
  rw [← hq] at hb ⊢
  have HQ := Lib.hid hq
  clear hq
  go_wp2_with (first | (refine wpl_put_blk hb [.int .i64 5, .string ⟨#[]⟩, .int .i64 0, .int .i64 0, .string ⟨#[]⟩, .slice none 0 0, .int .i64 0, .int .i64 0, .string ⟨#[]⟩, .slice none 0 0, .slice D dl dc, .slice none 0 0] (by kernel_rfl) rfl hone rfl rfl rfl rfl ?_; intro w2 hB2 hg2) | fail)
  exact ret_blk hB2 rfl rfl Tryd.underlying40 rfl (by kernel_rfl) rfl ⟨rfl, h0.trans (below_of_grown hg2 h0.size (by have := HQ.out; omega))⟩
theorem storeU_any (a b : Int) (w : World) : Calls Tryd.prog 67 #[.int .i64 a, .int .i64 b] w fun e w' => e = .returned (.agg (stcells 3 ⟨#[]⟩ (xcells 1 a ⟨#[]⟩ none 0 0) (xcells 1 b ⟨#[]⟩ none 0 0) none 0 0 none 0 0).toArray) ∧ Below w.heap.size w w' := by
  have hb := Blk.new w 40 (stcells 0 ⟨#[]⟩ xz4 xz4 none 0 0 none 0 0)
  have h0 : Below w.heap.size w (w.alloc (.cells (stcells 0 ⟨#[]⟩ xz4 xz4 none 0 0 none 0 0).toArray 40)) := below_alloc (Below.refl _ _) _
  unfold stcells xz4 at hb h0
  simp only [List.cons_append, List.nil_append] at hb h0
  obtain ⟨q, hq⟩ : ∃ q, q = w.heap.size := ⟨_, rfl⟩
  have hone := stcells_oneU 3 ⟨#[]⟩ 1 a ⟨#[]⟩ none 0 0 1 b ⟨#[]⟩ none 0 0 none 0 0 none 0 0
  unfold stcells xcells at hone
  simp only [List.cons_append, List.nil_append] at hone
  go_enter Tryd.func67, Tryd.ntmps67
  go_upto_region 1 with (fail)
  generalize (w.alloc (.cells #[.int .i64 0, .string ⟨#[]⟩, .int .i64 0, .int .i64 0, .string ⟨#[]⟩, .slice none 0 0, .int .i64 0, .int .i64 0, .string ⟨#[]⟩, .slice none 0 0, .slice none 0 0, .slice none 0 0] 40)) = W at hb h0 ⊢
  rw [← hq] at hb ⊢
  have HQ := Lib.hid hq
  clear hq
  go_wp2_with fail
  refine (numU_any a _).mono ?_
  rintro e w1 ⟨rfl, hb1⟩
  unfold xcells
  replace hb := hb.below hb1
  replace h0 := below_next hb1 h0
  clear hb1
  go_wp2_with fail
  refine (numU_any b _).mono ?_
  rintro e w2 ⟨rfl, hb2⟩
  unfold xcells
  replace hb := hb.below hb2
  replace h0 := below_next hb2 h0
  clear hb2
  go_wp2_with (first | (refine wpl_put_blk hb [.int .i64 3, .string ⟨#[]⟩, .int .i64 1, .int .i64 a, .string ⟨#[]⟩, .slice none 0 0, .int .i64 1, .int .i64 b, .string ⟨#[]⟩, .slice none 0 0, .slice none 0 0, .slice none 0 0] (by kernel_rfl) rfl hone rfl rfl rfl rfl ?_; intro w3 hB3 hg3) | fail)
  exact ret_blk hB3 rfl rfl Tryd.underlying40 rfl (by kernel_rfl) rfl ⟨rfl, h0.trans (below_of_grown hg3 h0.size (by have := HQ.out; omega))⟩
end Go.Proofs.YtkjmddgnfgbioaaDoor


namespace Go.Proofs.YtkjmddgnfgbioaaDoor
set_option linter.unusedVariables false
set_option linter.unusedSimpArgs false
set_option maxRecDepth 100000
open Go.ChangeShapes Go.WideShapes Go.ChangeAt Go.RowKit

theorem own : ownKnob Tryd.prog.godebug = none := by kernel_rfl
theorem laidOut : laidOutB Tryd.prog = true := by kernel_rfl

/-- the form's own reach, of a slice that was opened -/
theorem reach_rows {H : Type} {ts : List TypeId} {ds : List (DataW H)} {n by_ : Nat} {d : DataW H} {t e : TypeId} (hsz : (DataW.weightsEach Tryd.prog ts ds).all (· ≤ reachBytes) = true) {j : Nat} (ht : ts[j]? = some t) (hd : ds[j]? = some d)
    (hu : Tryd.prog.underlying t = some (.slice e)) (hb : Tryd.prog.bytesOf e = by_) (h : (d = .nil ∧ n = 0) ∨ ∃ (el sp : List (DataW H)), d = .slice el sp ∧ el.length = n) : n * by_ ≤ 140737488351232 := by
  rcases h with ⟨_, rfl⟩ | ⟨el, sp, rfl, rfl⟩
  · simp
  · have := sized_slice hsz ht hd hu
    rw [hb] at this
    have h2 : el.length * by_ ≤ (el.length + sp.length) * by_ := Nat.mul_le_mul_right _ (by omega)
    simp only [reachBytes] at this
    omega
end Go.Proofs.YtkjmddgnfgbioaaDoor


namespace Go.Proofs.YtkjmddgnfgbioaaDoor
set_option linter.unusedVariables false
set_option linter.unusedSimpArgs false
set_option maxRecDepth 100000
open Go Go.RowKit

theorem run_eqItems_ints {P : Program} (w : World) (d : Nat) (e : TypeId) {k k' : IntKind} (he : P.underlying e = some (.int k')) (hc : P.cellsOf e = 1) (xs ys : List Int) (hl : xs.length = ys.length) :
    ∀ (n j : Nat), j + n = xs.length → (Op.eqItems (d + 1) e (P.cellsOf e) (ints k xs).toArray (ints k ys).toArray (List.range' j n)).run P w = .ok (decide (xs.drop j = ys.drop j)) w := by
  intro n
  induction n with
  | zero =>
    intro k hk
    rw [List.drop_of_length_le (by omega), List.drop_of_length_le (by omega)]
    simp [Op.eqItems]
  | succ n ih =>
    intro j hk
    have hx : xs[j]? = some xs[j] := List.getElem?_eq_getElem (by omega)
    have hy : ys[j]? = some ys[j] := List.getElem?_eq_getElem (by omega)
    have hagg : (isAgg e).run P w = .ok false w := by
      unfold isAgg
      rw [Sem.run_bind, run_underlying he w]
      rfl
    have px : (part e (ints k xs).toArray (j * P.cellsOf e)).run P w = .ok (.int k xs[j]) w := by
      simp [part, Sem.run_bind, hagg, hc, ints, hx]
    have py : (part e (ints k ys).toArray (j * P.cellsOf e)).run P w = .ok (.int k ys[j]) w := by
      simp [part, Sem.run_bind, hagg, hc, ints, hy]
    rw [List.range'_succ]
    simp only [Op.eqItems, Sem.run_bind, px, py, run_equalIn_int w d e k k' _ _ he, Result.andThen_ok]
    have dx : xs.drop j = xs[j] :: xs.drop (j + 1) := List.drop_eq_getElem_cons (by omega)
    have dy : ys.drop j = ys[j] :: ys.drop (j + 1) := List.drop_eq_getElem_cons (by omega)
    have e : (xs.drop j = ys.drop j) ↔ (xs[j] = ys[j] ∧ xs.drop (j + 1) = ys.drop (j + 1)) := by rw [dx, dy, List.cons.injEq]
    by_cases hb : xs[j] = ys[j]
    · have hb' : (!(xs[j] == ys[j])) = false := by simp [hb]
      rw [hb', if_neg (by simp), ih (j + 1) (by omega)]
      simp only [e, hb, true_and]
    · have hb' : (!(xs[j] == ys[j])) = true := by simp [hb]
      rw [hb', if_pos rfl]
      simp only [e, hb, false_and]
      rfl

theorem run_equal_ints {P : Program} (w : World) (t e : TypeId) (n : Nat) {k k' : IntKind} (ht : P.underlying t = some (.array n e)) (he : P.underlying e = some (.int k')) (hc : P.cellsOf e = 1) (hi : (P.info? e).isSome = true) (xs ys : List Int) (hx : xs.length = n) (hy : ys.length = n) (b : Bool) (hb : decide (xs = ys) = b) :
    (Op.equalIn 10000 t (.agg (ints k xs).toArray) (.agg (ints k ys).toArray)).run P w = .ok b w := by
  subst hb
  obtain ⟨i, hi⟩ := Option.isSome_iff_exists.1 hi
  have := run_equalIn_array (P := P) w 9999 (ints k xs).toArray (ints k ys).toArray ht hi
  have h2 := run_eqItems_ints (P := P) (k := k) w 9998 e he hc xs ys (by omega) n 0 (by omega)
  rw [← List.range_eq_range'] at h2
  rw [this, h2]
  simp
end Go.Proofs.YtkjmddgnfgbioaaDoor


namespace Go.Proofs.YtkjmddgnfgbioaaDoor
set_option linter.unusedVariables false
set_option linter.unusedSimpArgs false
set_option maxRecDepth 100000
open Go.ChangeShapes Go.WideShapes Go.ChangeAt Go.RowKit

theorem arr_heap : Tryd.prog.underlying 50 = some (.array 8 3) := by kernel_rfl
theorem heap_eq (xs ys : List Int) (hx : xs.length = 8) (hy : ys.length = 8) (b : Bool) (hb : decide (xs = ys) = b) (w : World) : (Op.equalIn 10000 50 (.agg (ints .i64 xs).toArray) (.agg (ints .i64 ys).toArray)).run Tryd.prog w = .ok b w :=
  run_equal_ints (P := Tryd.prog) w _ _ 8 arr_heap Tryd.underlying3 (by kernel_rfl) (by kernel_rfl) xs ys hx hy b hb

theorem okWide_heap {W : World} {base : Nat} {v : Value} (h : Value.okWide Tryd.prog W .any base 50 v) : ∃ cs, v = .agg cs ∧ cs.size = 8 := by
  have c8 : Tryd.prog.cellsOf 50 = 8 := by kernel_rfl
  simp only [Value.okWide, arr_heap] at h
  obtain ⟨cs, h1, h2, _⟩ := h
  exact ⟨cs, h1, by rw [h2, c8]⟩
theorem open_arg_heap {H : Type} {enc : TypeId × Value → H} {W : World} {base : Nat} {v : Value} {d : DataW H} {p : List MemPlace} (hv : Value.okWide Tryd.prog W .any base 50 v) (h : DataW.Trod enc Tryd.prog W 0 (fun _ => true) true 50 v d p) :
    ∃ l : List Int, v = hcells l ∧ l.length = 8 ∧ ∀ x ∈ l, Ex.rng x := by
  obtain ⟨cs, rfl, hcs⟩ := okWide_heap hv
  obtain ⟨fuel, hf⟩ := h
  have c1 : Tryd.prog.cellsOf 3 = 1 := by kernel_rfl
  obtain ⟨xs, m, -, -, -, hx, hel⟩ := DataW.trod_array arr_heap hf
  have key : ∀ i, i < 8 → ∃ n : Int, cs[i]? = some (.int .i64 n) ∧ Ex.rng n := fun i hi => by
    have := hel i hi
    rw [c1, List.getElem?_eq_getElem (by omega)] at this
    obtain ⟨n, hn, -, hw⟩ := DataW.trod_int Tryd.underlying3 this
    refine ⟨n, ?_, wf_i64.1 hw⟩
    have h2 := congrArg (fun l => l[0]?) hn
    simp [Value.cells] at h2
    have hsz : i < cs.size := by omega
    simpa [hsz] using h2
  obtain ⟨n0, k0, r0⟩ := key 0 (by omega)
  obtain ⟨n1, k1, r1⟩ := key 1 (by omega)
  obtain ⟨n2, k2, r2⟩ := key 2 (by omega)
  obtain ⟨n3, k3, r3⟩ := key 3 (by omega)
  obtain ⟨n4, k4, r4⟩ := key 4 (by omega)
  obtain ⟨n5, k5, r5⟩ := key 5 (by omega)
  obtain ⟨n6, k6, r6⟩ := key 6 (by omega)
  obtain ⟨n7, k7, r7⟩ := key 7 (by omega)
  refine ⟨[n0, n1, n2, n3, n4, n5, n6, n7], ?_, rfl, ?_⟩
  · unfold hcells
    congr 1
    apply Array.ext'
    obtain ⟨l⟩ := cs
    match l, hcs with
    | [a0, a1, a2, a3, a4, a5, a6, a7], _ =>
      simp at k0 k1 k2 k3 k4 k5 k6 k7
      subst k0 k1 k2 k3 k4 k5 k6 k7
      rfl
  · intro x hx
    simp only [List.mem_cons, List.not_mem_nil, or_false] at hx
    rcases hx with rfl | rfl | rfl | rfl | rfl | rfl | rfl | rfl <;> assumption
end Go.Proofs.YtkjmddgnfgbioaaDoor


namespace Go.Proofs.YtkjmddgnfgbioaaDoor
set_option linter.unusedVariables false
set_option linter.unusedSimpArgs false
set_option maxRecDepth 100000
open Go.RowKit

namespace Un
open Ex St
def s14 (a b : Int) : P := .cons 3 [] (.num a) (.num b) .nil .nil .nil
def in14 : P := .cons 4 [] .bad .bad (s14 0 1) .nil (s14 1 2)
def p14 : P := .cons 5 [] .bad .bad in14 .nil (s14 0 3)
theorem p14_err : Sr.err p14 Sr.zeros 9 = 0 ∧ (Sr.fin p14 Sr.zeros 9).heap = [3, 2, 0, 0, 0, 0, 0, 0] := by
  have hs : (Sr.go p14 Sr.zeros).steps = 5 := by decide +kernel
  have hf : Sr.free p14 = [] := by
    rw [Sr.free_nil]
    simp [p14, in14, s14, Sr.cl, Sr.okx]
  have h0 : Sr.err p14 Sr.zeros 9 = 0 := by
    unfold Sr.err
    rw [if_neg (by simp [hf]), if_neg (by omega), if_neg (by rw [hs]; omega)]
  refine ⟨h0, ?_⟩
  unfold Sr.fin
  rw [if_pos h0]
  decide +kernel
theorem p14_term : (term p14 Sr.zeros 9).size = 3 ∧ (term p14 Sr.zeros 9).before 0 1 = false ∧ (term p14 Sr.zeros 9).before 0 2 = true ∧ (term p14 Sr.zeros 9).before 1 2 = true := by
  unfold term
  rw [if_pos p14_err.1]
  exact ⟨by decide +kernel, by decide +kernel, by decide +kernel, by decide +kernel⟩
end Un

/-- Unfold of a slice of statements -/
theorem isP_unfold {w : World} {D : Option Addr} {dl dc : Nat} {p : St.P} (hp : IsP w (.slice D dl dc) p) (h : List Int) (fuel : Int) (hs : p.size ≤ 274877906944) (hh : h.length = 8) (hr : ∀ x ∈ h, Ex.rng x) :
    Calls Tryd.prog 34 #[.slice D dl dc, .agg (ints .i64 h).toArray, .int .i64 fuel] w fun e w' =>
      ∃ k c b l A n cap, e = .returned (.tuple #[.agg #[.int .i64 k, .int .i64 c, .bool b, .int .i64 l, .slice A n cap], .agg (ints .i64 (Sr.fin p h fuel).heap).toArray, .int .i64 (Sr.err p h fuel)]) ∧ TmR w'.heap.size w' (tcells k c b l A n cap) (Un.term p h fuel) ∧ KsR w'.heap.size w' (tcells k c b l A n cap) (Ks.of (Un.term p h fuel)) ∧ Below w.heap.size w w' := by
  obtain ⟨A, n, c, e, h1, h2, h3⟩ := hp
  injection e with e1 e2 e3
  subst e1 e2 e3
  refine (unfold_any p h fuel w w.heap.size dl dc D (Nat.le_refl _) h3 h1 h2 hs hh hr).mono ?_
  rintro e w' ⟨cs, rfl, h4, h5, h6⟩
  obtain ⟨k, c, b, l, A, n, cap, rfl, -, -⟩ := h4.form
  exact ⟨k, c, b, l, A, n, cap, rfl, h4, h5, h6⟩

theorem TmR.step_ {w w' : World} {cs : List Value} {t : Sp.T} (h : TmR w.heap.size w cs t) (hb : Below w.heap.size w w') : TmR w'.heap.size w' cs t := (h.later hb).keep hb.size fun _ _ => rfl
theorem zeros_rng : ∀ x ∈ Sr.zeros, Ex.rng x := by
  intro x hx
  simp [Sr.zeros] at hx
  subst hx
  unfold Ex.rng; omega

set_option maxHeartbeats 4000000 in
theorem alive14_any (w : World) : Calls Tryd.prog 33 #[] w fun e w' => e = .returned (.bool true) ∧ Below w.heap.size w w' := by
  have hd0 : 0 ≤ 0 ∧ 0 ≤ maxLen ∧ 0 ≤ 0 ∧ 0 ≤ maxLen := ⟨Nat.le_refl _, Nat.zero_le _, Nat.le_refl _, Nat.zero_le _⟩
  have hr3 : ∀ n : Int, 0 ≤ n → n ≤ 3 → Ex.rng n := fun n h1 h2 => by unfold Ex.rng; omega
  have pS : ∀ (w : World) (a b : Int), Ex.rng a → Ex.rng b → PC w.heap.size w (stcells 3 ⟨#[]⟩ (xcells 1 a ⟨#[]⟩ none 0 0) (xcells 1 b ⟨#[]⟩ none 0 0) none 0 0 none 0 0) 1 (Un.s14 a b) := fun w a b ha hb => PC.one hd0 (xnumU w a ha) (xnumU w b hb) (.nil _) (.nil _)
  have pW : ∀ (w : World) (k : Int) (D : Option Addr) (dl dc : Nat) (p : St.P), IsP w (.slice D dl dc) p → PC w.heap.size w (stcells k ⟨#[]⟩ xz4 xz4 D dl dc none 0 0) 1 (.cons k [] .bad .bad p .nil .nil) := fun w k D dl dc p h => by
    obtain ⟨A, n, c, e, h1, h2, h3⟩ := h
    injection e with e1 e2 e3
    subst e1 e2 e3
    exact PC.one ⟨h1, h2, Nat.le_refl _, Nat.zero_le _⟩ (xbadU w) (xbadU w) h3 (.nil _)
  have HPP := Lib.hid (And.intro pS (And.intro pW hr3))
  clear pS pW hr3 hd0
  go_enter Tryd.func33, Tryd.ntmps33
  go_wp2_with fail
  refine (storeU_any 0 1 _).mono ?_
  rintro e w1 ⟨rfl, hb1⟩
  have ip1 := IsP.lit (HPP.out.1 w1 0 1 (HPP.out.2.2 0 (by omega) (by omega)) (HPP.out.2.2 1 (by omega) (by omega))) (by decide)
  have hbx1 := below_alloc hb1 (.cells (stcells 3 ⟨#[]⟩ (xcells 1 0 ⟨#[]⟩ none 0 0) (xcells 1 1 ⟨#[]⟩ none 0 0) none 0 0 none 0 0).toArray 40)
  unfold stcells xcells at ip1 hbx1 ⊢
  simp only [List.cons_append, List.nil_append] at ip1 hbx1 ⊢
  clear hb1
  go_wp2_with fail
  refine (asyncU_any _ _ _ _).mono ?_
  rintro e w2 ⟨rfl, hb2⟩
  replace ip1 := ip1.step hb2
  replace hbx1 := below_next hb2 hbx1
  clear hb2
  unfold stcells xz4
  simp only [List.cons_append, List.nil_append]
  go_wp2_with fail
  refine (storeU_any 1 2 _).mono ?_
  rintro e w3 ⟨rfl, hb3⟩
  replace ip1 := ip1.step hb3
  replace hbx1 := below_next hb3 hbx1
  have ip2 := IsP.lit ((HPP.out.2.1 w3 4 _ _ _ _ ip1).append (HPP.out.1 w3 1 2 (HPP.out.2.2 1 (by omega) (by omega)) (HPP.out.2.2 2 (by omega) (by omega)))) (by decide)
  have hbx2 := below_alloc hbx1 (.cells (stcells 4 ⟨#[]⟩ xz4 xz4 (some ⟨w1.heap.size, 0, none⟩) 1 1 none 0 0 ++ stcells 3 ⟨#[]⟩ (xcells 1 1 ⟨#[]⟩ none 0 0) (xcells 1 2 ⟨#[]⟩ none 0 0) none 0 0 none 0 0).toArray 40)
  unfold stcells xcells xz4 at ip2 hbx2
  unfold stcells xcells
  simp only [List.cons_append, List.nil_append] at ip2 hbx2 ⊢
  clear hb3 ip1 hbx1
  go_wp2_with fail
  refine (finishU_any _ _ _ _).mono ?_
  rintro e w4 ⟨rfl, hb4⟩
  replace ip2 := ip2.step hb4
  replace hbx2 := below_next hb4 hbx2
  clear hb4
  unfold stcells xz4
  simp only [List.cons_append, List.nil_append]
  go_wp2_with fail
  refine (storeU_any 0 3 _).mono ?_
  rintro e w5 ⟨rfl, hb5⟩
  replace ip2 := ip2.step hb5
  replace hbx2 := below_next hb5 hbx2
  have ip3 := IsP.lit ((HPP.out.2.1 w5 5 _ _ _ _ ip2).append (HPP.out.1 w5 0 3 (HPP.out.2.2 0 (by omega) (by omega)) (HPP.out.2.2 3 (by omega) (by omega)))) (by decide)
  have hbx3 := below_alloc hbx2 (.cells (stcells 5 ⟨#[]⟩ xz4 xz4 (some ⟨w3.heap.size, 0, none⟩) 2 2 none 0 0 ++ stcells 3 ⟨#[]⟩ (xcells 1 0 ⟨#[]⟩ none 0 0) (xcells 1 3 ⟨#[]⟩ none 0 0) none 0 0 none 0 0).toArray 40)
  unfold stcells xcells xz4 at ip3 hbx3
  unfold stcells xcells
  simp only [List.cons_append, List.nil_append] at ip3 hbx3 ⊢
  clear hb5 ip2 hbx2 HPP
  have hp : ((St.P.cons 5 [] .bad .bad ((St.P.cons 4 [] .bad .bad (Un.s14 0 1) .nil .nil) ++ Un.s14 1 2) .nil .nil) ++ Un.s14 0 3) = Un.p14 := rfl
  rw [hp] at ip3
  clear hp
  go_wp2_with fail
  have hu := fun w' (h : IsP w' (.slice (some ⟨w5.heap.size, 0, none⟩) (1 + 1) (1 + 1)) Un.p14) => isP_unfold h Sr.zeros 9 (by decide) rfl zeros_rng
  rw [Un.p14_err.1, Un.p14_err.2] at hu
  simp only [Sr.zeros, ints, List.map_cons, List.map_nil] at hu
  refine (hu _ ip3).mono ?_
  rintro e w6 ⟨k, c, b, l, A, n, cap, rfl, ht, -, hb6⟩
  replace hbx3 := below_next hb6 hbx3
  obtain ⟨t, htq⟩ : ∃ t, t = Un.term Un.p14 Sr.zeros 9 := ⟨_, rfl⟩
  obtain ⟨h3, h01, h02, h12⟩ := Un.p14_term
  have htt : Un.term Un.p14 [0, 0, 0, 0, 0, 0, 0, 0] 9 = t := htq.symm
  rw [htt] at ht
  rw [← htq] at h3 h01 h02 h12
  have hB1 : Below w6.heap.size w6 ((w6.alloc (.cells zterm.toArray 59)).alloc (.cells zheap.toArray 50)) := below_alloc (below_alloc (Below.refl _ _) _) _
  have x1 := (Blk.new w6 59 zterm).alloc (.cells zheap.toArray 50)
  have x2 := Blk.new (w6.alloc (.cells zterm.toArray 59)) 50 zheap
  have hz : ((w6.alloc (.cells zterm.toArray 59)).alloc (.cells zheap.toArray 50)).heap.size = w6.heap.size + 1 + 1 := by simp
  simp only [World.size_alloc] at x2
  have hend : ∀ w7 w8, ((w6.alloc (.cells zterm.toArray 59)).alloc (.cells zheap.toArray 50)).grownBy w7 (some w6.heap.size) → w7.grownBy w8 (some (w6.heap.size + 1)) → Below w6.heap.size w6 w8 := fun w7 w8 g7 g8 => (hB1.trans (below_of_grown g7 (by omega) (by omega))).trans (below_of_grown g8 (by have := g7.size; omega) (by omega))
  have hx2 : ∀ w7, ((w6.alloc (.cells zterm.toArray 59)).alloc (.cells zheap.toArray 50)).grownBy w7 (some w6.heap.size) → Blk w7 (w6.heap.size + 1) 50 zheap := fun w7 g7 => x2.grown g7 (by intro e; injection e with e; omega)
  have HE := Lib.hid (And.intro hend (And.intro ht (And.intro hbx3 (And.intro h3 (And.intro h01 (And.intro h02 (And.intro h12 hx2)))))))
  clear hend hB1 hz hu ip3 hbx3 hb6 htq htt h3 h01 h02 h12 ht hx2 x2
  unfold zterm zheap at *
  go_upto_region 2 with (first | (refine wpl_put_blk x1 [.int .i64 k, .int .i64 c, .bool b, .int .i64 l, .slice A n cap] (by kernel_rfl) rfl (by intro v hv; simp at hv; rcases hv with rfl | rfl | rfl | rfl | rfl <;> rfl) rfl rfl rfl rfl ?_; intro w7 hB7 hg7; have hB72 := HE.out.2.2.2.2.2.2.2 w7 hg7) | (refine wpl_put_blk hB72 [.int .i64 3, .int .i64 2, .int .i64 0, .int .i64 0, .int .i64 0, .int .i64 0, .int .i64 0, .int .i64 0] (by kernel_rfl) rfl (by intro v hv; simp at hv; rcases hv with rfl | rfl | rfl <;> rfl) rfl rfl rfl rfl ?_; intro w8 hB8 hg8) | fail)
  obtain ⟨hend, ht, hbx3, h3, h01, h02, h12, -⟩ := HE.out
  have hb68 := hend w7 w8 hg7 hg8
  have x8 := hB7.grown hg8 (by intro e; injection e with e; omega)
  have ht8 := ht.step_ hb68
  have hb8 := below_next hb68 hbx3
  have hw8 := hb68.size
  obtain ⟨Q, hQ⟩ : ∃ Q, Q = w6.heap.size := ⟨_, rfl⟩
  rw [← hQ] at x8 hB8 ⊢
  have HT := Lib.hid (And.intro ht8 (And.intro hb8 (And.intro h3 (And.intro h01 (And.intro h02 h12)))))
  clear hend ht hbx3 h3 h01 h02 h12 hb68 ht8 hb8 HE hB7 hg7 hg8 hB72 x1 hQ hw8
  have a0 : ∀ w', Below w8.heap.size w8 w' → (w'.cell? ⟨Q, 0, none⟩ = some (.int .i64 k) ∧ w'.cell? ⟨Q, 1, none⟩ = some (.int .i64 c) ∧ w'.cell? ⟨Q, 2, none⟩ = some (.bool b) ∧ w'.cell? ⟨Q, 3, none⟩ = some (.int .i64 l) ∧ w'.cell? ⟨Q, 4, none⟩ = some (.slice A n cap)) := fun w' hb => ⟨((x8.below hb).cell 0).trans rfl, ((x8.below hb).cell 1).trans rfl, ((x8.below hb).cell 2).trans rfl, ((x8.below hb).cell 3).trans rfl, ((x8.below hb).cell 4).trans rfl⟩
  have q0 : w8.cell? ⟨Q + 1, 0, none⟩ = some (.int .i64 3) := (hB8.cell 0).trans rfl
  have q1 : w8.cell? ⟨Q + 1, 1, none⟩ = some (.int .i64 2) := (hB8.cell 1).trans rfl
  have q2 : w8.cell? ⟨Q + 1, 2, none⟩ = some (.int .i64 0) := (hB8.cell 2).trans rfl
  have q3 : w8.cell? ⟨Q + 1, 3, none⟩ = some (.int .i64 0) := (hB8.cell 3).trans rfl
  have q4 : w8.cell? ⟨Q + 1, 4, none⟩ = some (.int .i64 0) := (hB8.cell 4).trans rfl
  have q5 : w8.cell? ⟨Q + 1, 5, none⟩ = some (.int .i64 0) := (hB8.cell 5).trans rfl
  have q6 : w8.cell? ⟨Q + 1, 6, none⟩ = some (.int .i64 0) := (hB8.cell 6).trans rfl
  have q7 : w8.cell? ⟨Q + 1, 7, none⟩ = some (.int .i64 0) := (hB8.cell 7).trans rfl
  have HA := Lib.hid a0
  obtain ⟨c0, c1, c2, c3, c4⟩ := HA.out w8 (Below.refl _ _)
  have heq : ∀ w, (Op.equalIn 10000 50 (.agg #[.int .i64 3, .int .i64 2, .int .i64 0, .int .i64 0, .int .i64 0, .int .i64 0, .int .i64 0, .int .i64 0]) (.agg #[.int .i64 3, .int .i64 2, .int .i64 0, .int .i64 0, .int .i64 0, .int .i64 0, .int .i64 0, .int .i64 0])).run Tryd.prog w = .ok true w := fun w => heap_eq [3, 2, 0, 0, 0, 0, 0, 0] [3, 2, 0, 0, 0, 0, 0, 0] rfl rfl true (by decide) w
  clear x8 hB8 a0
  go_wp2_with fail
  refine (leaves_any w8 (tcells k c b l A n cap) t HT.out.1 (by have := HT.out.2.2.1; omega)).mono ?_
  rintro e w9 ⟨v9, rfl, hs9, hb9⟩
  obtain ⟨A9, n9, rfl, -⟩ := hs9
  rw [HT.out.2.2.1]
  clear c0 c1 c2 c3 c4 q0 q1 q2 q3 q4 q5 q6 q7
  obtain ⟨c0, c1, c2, c3, c4⟩ := HA.out w9 hb9
  go_wp2_with fail
  refine (before_any w9 (tcells k c b l A n cap) t 0 1 (HT.out.1.step_ hb9) (by have := HT.out.2.2.1; omega)).mono ?_
  rw [HT.out.2.2.2.1]
  rintro e w10 ⟨rfl, hb10⟩
  have hb810 := below_next hb10 hb9
  clear c0 c1 c2 c3 c4
  obtain ⟨c0, c1, c2, c3, c4⟩ := HA.out w10 hb810
  go_wp2_with fail
  refine (before_any w10 (tcells k c b l A n cap) t 0 2 (HT.out.1.step_ hb810) (by have := HT.out.2.2.1; omega)).mono ?_
  rw [HT.out.2.2.2.2.1]
  rintro e w11 ⟨rfl, hb11⟩
  have hb811 := below_next hb11 hb810
  clear c0 c1 c2 c3 c4
  obtain ⟨c0, c1, c2, c3, c4⟩ := HA.out w11 hb811
  go_wp2_with fail
  refine (before_any w11 (tcells k c b l A n cap) t 1 2 (HT.out.1.step_ hb811) (by have := HT.out.2.2.1; omega)).mono ?_
  rw [HT.out.2.2.2.2.2]
  rintro e w12 ⟨rfl, hb12⟩
  have hbF := below_next (below_next hb12 hb811) HT.out.2.1
  have HF := Lib.hid hbF
  clear c0 c1 c2 c3 c4 hbF
  go_wp2_with fail
  go_ret
  exact ⟨rfl, HF.out⟩
end Go.Proofs.YtkjmddgnfgbioaaDoor


namespace Go.Proofs.YtkjmddgnfgbioaaDoor
set_option linter.unusedVariables false
set_option linter.unusedSimpArgs false
set_option maxRecDepth 100000

namespace Sp
theorem T.before_in (p : Bool) (l r : T) (i j : Int) (hi : i < l.size) (hj : j < l.size) : (T.two p l r).before i j = l.before i j := by
  rw [Bool.eq_iff_iff]
  unfold T.before T.bf
  rw [decide_eq_true_iff, decide_eq_true_iff]
  have hs := T.size_two p l r
  constructor
  · rintro ⟨hb, h1, h2⟩
    rcases T.rk_side p l r i.toNat (by omega) with ⟨a1, a2, a3⟩ | ⟨a1, -⟩
    · rcases T.rk_side p l r j.toNat (by omega) with ⟨b1, b2, b3⟩ | ⟨b1, -⟩
      · exact ⟨by omega, h1, by omega⟩
      · omega
    · omega
  · rintro ⟨hb, h1, h2⟩
    rcases T.rk_side p l r i.toNat (by omega) with ⟨a1, a2, a3⟩ | ⟨a1, -⟩
    · rcases T.rk_side p l r j.toNat (by omega) with ⟨b1, b2, b3⟩ | ⟨b1, -⟩
      · exact ⟨by omega, h1, by omega⟩
      · omega
    · omega
theorem T.before_over (p : Bool) (l r : T) (i j : Int) (h0 : 0 ≤ i) (hi : i < l.size) (hj : (l.size : Int) ≤ j) (hj2 : j < (T.two p l r).size) : (T.two p l r).before i j = !p := by
  rw [Bool.eq_iff_iff]
  unfold T.before T.bf
  rw [decide_eq_true_iff]
  have hs := T.size_two p l r
  rcases T.rk_side p l r i.toNat (by omega) with ⟨a1, a2, a3⟩ | ⟨a1, -⟩
  · rcases T.rk_side p l r j.toNat (by omega) with ⟨b1, -⟩ | ⟨b1, b0, b2, b3⟩
    · omega
    · cases p
      · simp only [Bool.false_eq_true, if_false] at a2 b2
        exact ⟨fun _ => rfl, fun _ => ⟨by omega, by omega, by omega⟩⟩
      · simp only [if_true] at a2 b2
        exact ⟨fun h => by omega, fun h => by cases h⟩
  · omega
theorem T.before_not (t : T) (i j : Int) (h : j ≤ i) : t.before i j = false := by
  rcases hb : t.before i j with _ | _
  · rfl
  · have := T.before_lt t i j hb
    omega
/-- one behind the other -/
structure T.Chain (t : T) : Prop where
  span : t.span = t.size
  width : t.width ≤ 1
theorem T.Chain.nil : T.Chain .nil := ⟨rfl, Nat.zero_le _⟩
theorem T.Chain.seq {c : Int} {b : Bool} {l : Int} {t : T} (h : T.Chain t) : T.Chain (.two false (.one c b l) t) := by
  refine ⟨?_, ?_⟩
  · rw [T.size_two, T.span, if_neg (by decide), h.span]
    rfl
  · rw [T.width, if_neg (by decide)]
    have := h.width
    simp only [T.width]
    omega
end Sp

namespace Un
open Ex St Sr
theorem iter_chain {f : Int → (M → Sp.T × M) → M → Sp.T × M} (hf : ∀ i k m, (∀ m, (k m).1.Chain) → (f i k m).1.Chain) {k : M → Sp.T × M} (hk : ∀ m, (k m).1.Chain) : ∀ n i m, (iter n i f k m).1.Chain
  | 0, _, m => hk m
  | n + 1, i, m => hf i _ m (fun m => iter_chain hf hk n (i + 1) m)
theorem un_chain : ∀ (p : P) (env : Sr.Env) (l : Nat) (k : M → Sp.T × M) (m : M), (∀ m, (k m).1.Chain) → (un (plain p) env l k m).1.Chain
  | .nil, _, _, _, m, hk => hk m
  | .cons kd nm a b body els rest, env, l, k, m, hk => by
    unfold plain
    split
    · simp only [un]
      rw [if_neg (by decide), if_neg (by decide), if_neg (by decide), if_neg (by decide), if_pos (by decide), if_pos (show evl env (.num 1) ≠ 0 by simp [evl])]
      exact un_chain body _ _ _ _ (fun m => un_chain rest _ _ _ m hk)
    · rename_i h45
      simp only [un, if_neg h45]
      split
      · exact un_chain rest _ _ _ _ hk
      · split
        · exact (un_chain rest _ _ _ _ hk).seq
        · split
          · exact (un_chain rest _ _ _ _ hk).seq
          · split
            · split
              · exact un_chain body _ _ _ _ (fun m => un_chain rest _ _ _ m hk)
              · exact un_chain els _ _ _ _ (fun m => un_chain rest _ _ _ m hk)
            · split
              · exact iter_chain (fun i k m hk => un_chain body _ _ _ _ hk) (fun m => un_chain rest _ _ _ m hk) _ _ _
              · exact un_chain rest _ _ _ _ hk
theorem plain_law (p : P) (h : List Int) (fuel : Int) : (term (plain p) h fuel).Chain := by
  unfold term
  split
  · exact un_chain p _ _ _ _ (fun m => Sp.T.Chain.nil)
  · exact Sp.T.Chain.nil

/-! ### the same heap, the same term -/
theorem iter_like {f : Int → (M → Sp.T × M) → M → Sp.T × M} (hf : ∀ i (k k' : M → Sp.T × M) m m', (∀ m m' : M, m.heap = m'.heap → (k m).1 = (k' m').1) → m.heap = m'.heap → (f i k m).1 = (f i k' m').1) {k k' : M → Sp.T × M} (hk : ∀ m m' : M, m.heap = m'.heap → (k m).1 = (k' m').1) : ∀ n i m m', m.heap = m'.heap → (iter n i f k m).1 = (iter n i f k' m').1
  | 0, _, m, m', h => hk m m' h
  | n + 1, i, m, m', h => hf i _ _ m m' (fun m m' h => iter_like hf hk n (i + 1) m m' h) h
theorem un_like : ∀ (p : P) (env : Sr.Env) (l : Nat) (k k' : M → Sp.T × M) (m m' : M), (∀ m m' : M, m.heap = m'.heap → (k m).1 = (k' m').1) → m.heap = m'.heap → (un p env l k m).1 = (un p env l k' m').1
  | .nil, _, _, _, _, m, m', hk, h => hk m m' h
  | .cons kd nm a b body els rest, env, l, k, k', m, m', hk, h => by
    unfold un
    split
    · exact un_like rest _ _ _ _ _ _ hk h
    · split
      · simp only [seq, h]
        rw [un_like rest _ _ k k' _ _ hk (show (m.step.acc _ _ _).heap = (m'.step.acc _ _ _).heap from h)]
      · split
        · simp only [seq]
          rw [un_like rest _ _ k k' _ _ hk (show ((m.step.acc (cell (evl env a)) true l).put (cell (evl env a)) (evl env b)).heap = ((m'.step.acc (cell (evl env a)) true l).put (cell (evl env a)) (evl env b)).heap by simp [M.put, M.acc, M.step, h])]
        · split
          · simp only [seq]
            have h0 := un_like body env l k0 k0 m.step m'.step (fun _ _ _ => rfl) h
            have h1 : (un body env l k0 m.step).2.heap = (un body env l k0 m'.step).2.heap := by
              rw [un_state, un_state]
              show (run body env l m.step).heap = (run body env l m'.step).heap
              rcases Nat.le_total m.steps m'.steps with hle | hle
              · exact (run_like body env l l m.step m'.step (m'.steps - m.steps) ⟨h.symm, by simp [M.step]; omega⟩).heap.symm
              · exact (run_like body env l l m'.step m.step (m.steps - m'.steps) ⟨h, by simp [M.step]; omega⟩).heap
            rw [h0, un_like rest _ _ k k' _ _ hk h1]
          · split
            · split
              · exact un_like body _ _ _ _ _ _ (fun m m' h => un_like rest _ _ _ _ _ _ hk h) h
              · exact un_like els _ _ _ _ _ _ (fun m m' h => un_like rest _ _ _ _ _ _ hk h) h
            · split
              · exact iter_like (f := fun i k m => un body (env ++ [(nm, i)]) l k m.step) (fun i k k' m m' hk h => un_like body (env ++ [(nm, i)]) l k k' m.step m'.step hk h) (fun m m' h => un_like rest _ _ _ _ _ _ hk h) _ _ m.step m'.step h
              · exact un_like rest _ _ _ _ _ _ hk h

/-- a finish around, and what is behind it -/
def fin1 (a b : P) : P := .cons 5 [] .bad .bad a .nil b
theorem go_fin (a b : P) (h : List Int) : ∃ tb, (go (fin1 a b) h).1 = .two false (go a h).1 tb ∧ (b = .nil → tb = .nil) := by
  unfold go fin1
  rw [un, if_neg (by decide), if_neg (by decide), if_neg (by decide), if_pos (by decide)]
  rw [← un_like a [] 0 k0 k0 (M0 h).step (M0 h) (fun _ _ _ => rfl) rfl]
  exact ⟨_, rfl, fun hb => by rw [hb]; rfl⟩
theorem go_async (a b c : P) (h : List Int) : ∃ tb tc, (go (fin1 (.cons 4 [] .bad .bad a .nil b) c) h).1 = .two false (.two true (go a h).1 tb) tc ∧ ∀ c', ∃ tc', (go (fin1 (.cons 4 [] .bad .bad a .nil b) c') h).1 = .two false (.two true (go a h).1 tb) tc' ∧ (c' = .nil → tc' = .nil) := by
  have key : ∃ tb, (go (.cons 4 [] .bad .bad a .nil b) h).1 = .two true (go a h).1 tb := by
    unfold go
    rw [un, if_neg (by decide), if_neg (by decide), if_neg (by decide), if_pos (by decide)]
    rw [← un_like a [] 0 k0 k0 (M0 h).step (M0 h) (fun _ _ _ => rfl) rfl]
    exact ⟨_, rfl⟩
  obtain ⟨tb, hb⟩ := key
  have h2 : ∀ c', ∃ tc', (go (fin1 (.cons 4 [] .bad .bad a .nil b) c') h).1 = .two false (.two true (go a h).1 tb) tc' ∧ (c' = .nil → tc' = .nil) := fun c' => by
    obtain ⟨tc, h3, h4⟩ := go_fin (.cons 4 [] .bad .bad a .nil b) c' h
    rw [hb] at h3
    exact ⟨tc, h3, h4⟩
  obtain ⟨tc, h3, -⟩ := h2 c
  exact ⟨tb, tc, h3, h2⟩

theorem iter_congr {f g : Int → (M → Sp.T × M) → M → Sp.T × M} (h : ∀ i k m, f i k m = g i k m) : ∀ n i k m, iter n i f k m = iter n i g k m
  | 0, _, _, _ => rfl
  | n + 1, i, k, m => by
    rw [iter, iter, h]
    congr 1
    funext m
    exact iter_congr h n (i + 1) k m
end Un
end Go.Proofs.YtkjmddgnfgbioaaDoor
