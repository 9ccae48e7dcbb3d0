/-
  Statements as cells, one behind the other; rows of them that are made.
-/
import Derived.Test.YtajddbmmbhdnfaaStR
import Derived.Test.YtajddbmmbhdnfaaBase2
namespace Go.Proofs.Ytajddbmmbhdnfaa
set_option linter.unusedVariables false
set_option linter.unusedSimpArgs false
set_option maxRecDepth 100000
open Go.RowKit

/-- cells that read as n statements -/
inductive PC (B : Nat) (w : World) : List Value → Nat → St.P → Prop
  | nil : PC B w [] 0 .nil
  | cons (n : Nat) (k : Int) (nm : ByteArray) (ca cb : List Value) (ea eb : Ex.X) (D : Option Addr) (dl dc : Nat) (E : Option Addr) (el ec : Nat) (body els rest : St.P) (cs : List Value) : dl ≤ dc → dc ≤ maxLen → el ≤ ec → ec ≤ maxLen →
      XR B w ca ea → XR B w cb eb → PR B w D dl body → PR B w E el els → PC B w cs n rest → PC B w (stcells k nm ca cb D dl dc E el ec ++ cs) (n + 1) (.cons k nm.data.toList ea eb body els rest)

theorem stcells_length {B : Nat} {w : World} {k : Int} {nm : ByteArray} {ca cb : List Value} {ea eb : Ex.X} {D E : Option Addr} {dl dc el ec : Nat} (ha : XR B w ca ea) (hb : XR B w cb eb) : (stcells k nm ca cb D dl dc E el ec).length = 12 := by
  obtain ⟨_, _, _, _, _, _, rfl, -, -⟩ := ha.form
  obtain ⟨_, _, _, _, _, _, rfl, -, -⟩ := hb.form
  rfl
section
variable {B B' n : Nat} {w w' : World} {cs : List Value} {p : St.P}
theorem PC.length (h : PC B w cs n p) : cs.length = n * 12 := by
  induction h with
  | nil => rfl
  | cons n k nm ca cb ea eb D dl dc E el ec body els rest cs h1 h2 h3 h4 h5 h6 h7 h8 _ ih => rw [List.length_append, ih, stcells_length h5 h6]; omega
theorem PC.keep (h : PC B w cs n p) (hB : B ≤ B') (hk : ∀ p : Addr, p.block < B → w'.cell? p = w.cell? p) : PC B' w' cs n p := by
  induction h with
  | nil => exact .nil
  | cons n k nm ca cb ea eb D dl dc E el ec body els rest cs h1 h2 h3 h4 h5 h6 h7 h8 _ ih => exact .cons n k nm ca cb ea eb D dl dc E el ec body els rest cs h1 h2 h3 h4 (h5.keep hB hk) (h6.keep hB hk) (h7.keep hB hk) (h8.keep hB hk) ih
theorem PC.later (h : PC B w cs n p) (hb : Below B w w') : PC B w' cs n p := h.keep (Nat.le_refl _) fun _ hp => hb.cell hp
theorem PC.step (h : PC w.heap.size w cs n p) (hb : Below w.heap.size w w') : PC w'.heap.size w' cs n p := h.keep hb.size fun _ hp => hb.cell hp
theorem PR.step_ {A : Option Addr} (h : PR w.heap.size w A n p) (hb : Below w.heap.size w w') : PR w'.heap.size w' A n p := h.keep hb.size fun _ hp => hb.cell hp
theorem XR.step_ {ca : List Value} {e : Ex.X} (h : XR w.heap.size w ca e) (hb : Below w.heap.size w w') : XR w'.heap.size w' ca e := h.keep hb.size fun _ hp => hb.cell hp
theorem PC.append {cs' : List Value} {n' : Nat} {p' : St.P} (h : PC B w cs n p) (h' : PC B w cs' n' p') : PC B w (cs ++ cs') (n + n') (p ++ p') := by
  induction h with
  | nil => simpa [St.P.nil_append] using h'
  | cons n k nm ca cb ea eb D dl dc E el ec body els rest cs h1 h2 h3 h4 h5 h6 h7 h8 _ ih =>
    rw [St.P.cons_append, List.append_assoc, show n + 1 + n' = (n + n') + 1 by omega]
    exact .cons _ k nm ca cb ea eb D dl dc E el ec body els _ _ h1 h2 h3 h4 h5 h6 h7 h8 ih
theorem PC.one {k : Int} {nm : ByteArray} {ca cb : List Value} {ea eb : Ex.X} {D : Option Addr} {dl dc : Nat} {E : Option Addr} {el ec : Nat} {body els : St.P} (h : dl ≤ dc ∧ dc ≤ maxLen ∧ el ≤ ec ∧ ec ≤ maxLen) (h5 : XR B w ca ea) (h6 : XR B w cb eb) (h7 : PR B w D dl body) (h8 : PR B w E el els) : PC B w (stcells k nm ca cb D dl dc E el ec) 1 (.cons k nm.data.toList ea eb body els .nil) := by
  have := PC.cons 0 k nm ca cb ea eb D dl dc E el ec body els .nil [] h.1 h.2.1 h.2.2.1 h.2.2.2 h5 h6 h7 h8 .nil
  rwa [List.append_nil] at this
theorem PC.read (h : PC B w cs n p) (hB : B ≤ B') : ∀ (g o : Nat), (n ≠ 0 → g < B') → (∀ j u, cs[j]? = some u → w.cell? ⟨g, o + j, none⟩ = some u) → PR B' w (some ⟨g, o, none⟩) n p := by
  induction h with
  | nil => exact fun _ _ _ _ => .nil _
  | cons n k nm ca cb ea eb D dl dc E el ec body els rest cs h1 h2 h3 h4 h5 h6 h7 h8 _ ih =>
    intro g o hg hc
    refine .cons g o n k nm ca cb ea eb D dl dc E el ec body els rest (hg (by omega)) h1 h2 h3 h4 (fun j u hu => hc j u (by
      rw [List.getElem?_append_left (List.getElem?_eq_some_iff.1 hu).1]
      exact hu)) (h5.keep hB fun _ _ => rfl) (h6.keep hB fun _ _ => rfl) (h7.up hB) (h8.up hB) (ih g (o + 12) (fun _ => hg (by omega)) fun j u hu => ?_)
    have hl := stcells_length (k := k) (nm := nm) (D := D) (dl := dl) (dc := dc) (E := E) (el := el) (ec := ec) h5 h6
    have := hc (12 + j) u (by rw [List.getElem?_append_right (by omega), hl]; simpa using hu)
    rwa [← Nat.add_assoc] at this
theorem PC.of_cells {A : Option Addr} (h : PC B w cs n p) (hc : Cells w B' A cs) (hB : B ≤ B') : PR B' w A n p := by
  by_cases h0 : n = 0
  · subst h0
    cases h
    exact .nil _
  obtain ⟨b, o, rfl, hb, hc⟩ := hc.at_ (fun e => by have := h.length; rw [e] at this; simp at this; omega)
  exact h.read hB b o (fun _ => hb) hc
theorem PR.flat {A : Option Addr} (h : PR B w A n p) : ∃ cs, PC B w cs n p ∧ Cells w B A cs := by
  induction h with
  | nil A => exact ⟨[], .nil, Cells.nil _ _ _⟩
  | cons g o n k nm ca cb ea eb D dl dc E el ec body els rest h1 h2 h3 h4 h5 h6 h7 h8 h9 h10 _ _ _ ih =>
    obtain ⟨cs, hpc, hcc⟩ := ih
    refine ⟨_, .cons n k nm ca cb ea eb D dl dc E el ec body els rest cs h2 h3 h4 h5 h7 h8 h9 h10 hpc, g, o, fun _ => ⟨rfl, h1⟩, fun j u hu => ?_⟩
    have hl := stcells_length (k := k) (nm := nm) (D := D) (dl := dl) (dc := dc) (E := E) (el := el) (ec := ec) h7 h8
    by_cases hj : j < 12
    · rw [List.getElem?_append_left (by omega)] at hu
      exact h6 j u hu
    · rw [List.getElem?_append_right (by omega), hl] at hu
      obtain ⟨b, o', e, _, hc⟩ := hcc.at_ (fun e => by rw [e] at hu; simp at hu)
      injection e with e
      injection e with e1 e2
      subst e1 e2
      have := hc _ u hu
      rwa [show o + 12 + (j - 12) = o + j by omega] at this
end
theorem PC.one_cells {B n : Nat} {w : World} {cs : List Value} {p : St.P} (h : PC B w cs n p) : ∀ u ∈ cs, u.oneCell' = true := by
  induction h with
  | nil => intro u hu; cases hu
  | cons n k nm ca cb ea eb D dl dc E el ec body els rest cs h1 h2 h3 h4 h5 h6 h7 h8 _ ih =>
    intro u hu
    rcases List.mem_append.1 hu with hu | hu
    · obtain ⟨_, _, _, _, _, _, rfl, -, -⟩ := h5.form
      obtain ⟨_, _, _, _, _, _, rfl, -, -⟩ := h6.form
      simp [stcells, xcells] at hu
      rcases hu with rfl | rfl | rfl | rfl | rfl | rfl | rfl | rfl | rfl | rfl | rfl | rfl <;> rfl
    · exact ih u hu

/-- a slice of statements -/
def IsP (w : World) (v : Value) (p : St.P) : Prop := ∃ A n c, v = .slice A n c ∧ n ≤ c ∧ c ≤ maxLen ∧ PR w.heap.size w A n p
theorem IsP.step {w w' : World} {v : Value} {p : St.P} (h : IsP w v p) (hb : Below w.heap.size w w') : IsP w' v p := by
  obtain ⟨A, n, c, rfl, h1, h2, h3⟩ := h
  exact ⟨A, n, c, rfl, h1, h2, h3.step_ hb⟩
theorem IsP.nil (w : World) : IsP w (.slice none 0 0) .nil := ⟨none, 0, 0, rfl, Nat.le_refl _, Nat.zero_le _, .nil _⟩
theorem IsP.of_slv {w : World} {v : Value} {n : Nat} {cs : List Value} {p : St.P} (h : PC w.heap.size w cs n p) (hv : SlV w 12 v n cs) : IsP w v p := by
  obtain ⟨A, c, rfl, h1, h2, -, h3⟩ := hv
  exact ⟨A, n, c, rfl, h1, h2, h.of_cells h3 (Nat.le_refl _)⟩
theorem IsP.of_blk {w : World} {g : Nat} {t : TypeId} {n : Nat} {cs : List Value} {p : St.P} (h : PC w.heap.size w cs n p) (hb : Blk w g t cs) (hn : n ≤ 1000) : IsP w (.slice (some ⟨g, 0, none⟩) n n) p :=
  ⟨_, n, n, rfl, Nat.le_refl _, by unfold maxLen; omega, h.read (Nat.le_refl _) g 0 (fun _ => hb.lt) fun j u hu => by rw [Nat.zero_add, hb.cell]; exact hu⟩
/-- a row of the call's own abides where only other blocks are turned -/
theorem info_stmt : (Try.prog.info? 66).map (fun i => (i.zero, i.size, i.bytes)) = some (some (.agg #[.int .i64 0, .string ⟨#[]⟩, .int .i64 0, .int .i64 0, .string ⟨#[]⟩, .slice none 0 0, .int .i64 0, .int .i64 0, .string ⟨#[]⟩, .slice none 0 0, .slice none 0 0, .slice none 0 0]), 12, 184) := by kernel_rfl
theorem IsP.lit {w : World} {cs : List Value} {n : Nat} {p : St.P} (h : PC w.heap.size w cs n p) (hn : n ≤ 1000) : IsP (w.alloc (.cells cs.toArray 66)) (.slice (some ⟨w.heap.size, 0, none⟩) n n) p :=
  IsP.of_blk (PC.keep h (by simp) fun a ha => (below_alloc (Below.refl w.heap.size w) (.cells cs.toArray 66)).cell ha) (Blk.new w 66 cs) hn
end Go.Proofs.Ytajddbmmbhdnfaa
