/-
  Package sp, walked: the leaves are numbered.
-/
import Derived.Test.YtajddbmmbhdnfaaSpLv
import Derived.Test.YtajddbmmbhdnfaaSpMark
namespace Go.Proofs.Ytajddbmmbhdnfaa
set_option linter.unusedVariables false
set_option linter.unusedSimpArgs false
set_option maxRecDepth 100000
open Go.RowKit

namespace Sp
def prc (p : Nat × Nat) : List Value := [.int .i64 p.1, .int .i64 p.2]
def prcs (l : List (Nat × Nat)) : List Value := l.flatMap prc
theorem prcs_length (l : List (Nat × Nat)) : (prcs l).length = l.length * 2 := flat_length prc 2 (fun _ => rfl) l
theorem prcs_append (a b : List (Nat × Nat)) : prcs (a ++ b) = prcs a ++ prcs b := by simp [prcs]
theorem prc_one (a : Nat × Nat) : ∀ u ∈ prc a, u.oneCell' = true := by
  intro u hu
  simp only [prc, List.mem_cons, List.not_mem_nil, or_false] at hu
  rcases hu with rfl | rfl <;> rfl
theorem prcs_zero (n : Nat) : prcs (List.replicate n (0, 0)) = List.replicate (n * 2) (.int .i64 0) := by
  induction n with
  | zero => rfl
  | succ n ih => rw [List.replicate_succ, Nat.succ_mul, Nat.add_comm (n * 2) 2]; show prc (0, 0) ++ prcs (List.replicate n (0, 0)) = _; rw [ih, ← List.replicate_append_replicate]; rfl
theorem prcs_take (l : List (Nat × Nat)) : ∀ i, (prcs l).take (i * 2) = prcs (l.take i) := by
  induction l with
  | nil => intro i; simp [prcs]
  | cons x l ih =>
    intro i
    cases i with
    | zero => simp [prcs]
    | succ i => rw [Nat.succ_mul]; show (_ :: _ :: prcs l).take (i * 2 + 2) = _ :: _ :: prcs (l.take i); rw [← ih]; rfl
theorem prcs_drop (l : List (Nat × Nat)) : ∀ i, (prcs l).drop (i * 2) = prcs (l.drop i) := by
  induction l with
  | nil => intro i; simp [prcs]
  | cons x l ih =>
    intro i
    cases i with
    | zero => simp [prcs]
    | succ i => rw [Nat.succ_mul]; show (_ :: _ :: prcs l).drop (i * 2 + 2) = prcs (l.drop i); rw [← ih]; rfl
theorem prcs_put (l : List (Nat × Nat)) (i : Nat) (p : Nat × Nat) : (prcs l).take (i * 2) ++ prc p ++ (prcs l).drop (i * 2 + 2) = prcs (put l i [p]) := by
  have e : i * 2 + 2 = (i + 1) * 2 := by omega
  rw [e, prcs_take, prcs_drop]
  simp [put, prcs]
theorem prcs_get (l : List (Nat × Nat)) (i : Nat) (p : Nat × Nat) (h : l[i]? = some p) : (prcs l)[i * 2]? = some (.int .i64 p.1) ∧ (prcs l)[i * 2 + 1]? = some (.int .i64 p.2) := by
  have h1 := prcs_drop l i
  obtain ⟨hi, rfl⟩ := List.getElem?_eq_some_iff.1 h
  rw [List.drop_eq_getElem_cons hi] at h1
  have h2 : prcs (l[i] :: l.drop (i + 1)) = .int .i64 l[i].1 :: .int .i64 l[i].2 :: prcs (l.drop (i + 1)) := rfl
  rw [h2] at h1
  constructor
  · have := congrArg (fun x => x[0]?) h1
    simpa using this
  · have := congrArg (fun x => x[1]?) h1
    simpa using this
end Sp

/-- what numbers leaves, in block g; its pairs in block h -/
structure Mk (B : Nat) (w : World) (g h : Nat) (ps : List (Nat × Nat)) (next base : Nat) : Prop where
  blk : Blk w g 109 [.int .i64 next, .slice (some ⟨h, 0, none⟩) ps.length ps.length, .int .i64 base]
  row : Blk w h 88 (Sp.prcs ps)
  base : B ≤ w.heap.size
  atg : B ≤ g
  ath : B ≤ h
  ne : g ≠ h

def MkEnd (B : Nat) (w : World) (g h : Nat) (ps : List (Nat × Nat)) (next : Nat) : Ending → World → Prop := fun e w' =>
  e = .returned (.tuple #[]) ∧ ∃ base, Mk B w' g h ps next base ∧ Keeps (fun k => k = g ∨ k = h) w w'

theorem Mk.alloc {B : Nat} {w : World} {g h : Nat} {ps : List (Nat × Nat)} {next base : Nat} (m : Mk B w g h ps next base) (o : Obj) : Mk B (w.alloc o) g h ps next base := ⟨m.blk.alloc _, m.row.alloc _, by have := m.base; simp; omega, m.atg, m.ath, m.ne⟩
theorem Mk.drewN {B : Nat} {w : World} {g h : Nat} {ps : List (Nat × Nat)} {next base : Nat} (m : Mk B w g h ps next base) (k : Nat) : Mk B (w.drewN k) g h ps next base := ⟨m.blk, m.row, m.base, m.atg, m.ath, m.ne⟩
theorem Mk.below {B : Nat} {w w' : World} {g h : Nat} {ps : List (Nat × Nat)} {next base : Nat} (m : Mk B w g h ps next base) (hb : Below w.heap.size w w') : Mk B w' g h ps next base := ⟨m.blk.below hb, m.row.below hb, by have := m.base; have := hb.size; omega, m.atg, m.ath, m.ne⟩
theorem mk_back {B : Nat} {w w0 : World} {g h : Nat} {ps : List (Nat × Nat)} {next : Nat} (hk : Keeps (fun _ => False) w w0) {e : Ending} {w' : World} (he : MkEnd B w0 g h ps next e w') : MkEnd B w g h ps next e w' := by
  obtain ⟨h1, b', h2, h3⟩ := he
  exact ⟨h1, b', h2, (hk.mono (fun _ h => h.elim)).trans h3⟩

theorem mk_nothing (B : Nat) (w : World) (g h : Nat) (ps : List (Nat × Nat)) (next base : Nat) (m : Mk B w g h ps next base) :
    Calls Try.prog 82 #[.pointer (some ⟨g, 0, none⟩)] w (MkEnd B w g h ps next) := by
  go_enter Try.func82, Try.ntmps82
  go_wp2
  go_end0
  exact ⟨rfl, base, m, Keeps.refl _ _⟩

theorem mk_one (B : Nat) (w : World) (g h : Nat) (ps : List (Nat × Nat)) (next base : Nat) (m : Mk B w g h ps next base) (a : Sp.Acc) (hb : base < ps.length) (hn : next ≤ 4194304) (hl : ps.length ≤ 4194304) :
    Calls Try.prog 83 #[.pointer (some ⟨g, 0, none⟩), .agg #[.int .i64 a.1, .bool a.2.1, .int .i64 a.2.2]] w (MkEnd B w g h (Sp.put ps base [(base, next)]) (next + 1)) := by
  obtain ⟨a1, a2, a3⟩ := a
  simp only
  have hgh := m.ne
  have hk0 : Keeps (fun k => k = g ∨ k = h) w (w.alloc (.cells (Sp.accc (a1, a2, a3)).toArray 23)) := (Keeps.refl _ w).alloc _
  have m1 := m.alloc (.cells (Sp.accc (a1, a2, a3)).toArray 23)
  have hlen := Sp.prcs_length ps
  have hps : (Sp.put ps base [(base, next)]).length = ps.length := Sp.put_length _ _ _ (by simp; omega)
  go_enter Try.func83, Try.ntmps83
  go_wp2_with fail
  show Code.wp _ _ _ _ (w.alloc (.cells (Sp.accc (a1, a2, a3)).toArray 23))
  generalize (w.alloc (.cells (Sp.accc (a1, a2, a3)).toArray 23)) = w0 at m1 hk0 ⊢
  clear m
  have c0 := m1.blk.cell 0
  have c1 := m1.blk.cell 1
  have c2 := m1.blk.cell 2
  simp only [List.getElem?_cons_zero, List.getElem?_cons_succ] at c0 c1 c2
  obtain ⟨n, hnn⟩ : ∃ n, n = ps.length := ⟨_, rfl⟩
  have HP := Lib.hid hps
  have HN := Lib.hid hnn
  have HL := Lib.hid hlen
  rw [← hnn] at c1 hb hl
  clear hps hnn hlen
  have hb2 : (base : Int) < (n : Int) := by omega
  have hw : IntKind.i64.wrap ((next : Int) + 1) = ((next + 1 : Nat) : Int) := by rw [IntWalk.i64_in _ (by omega)]; omega
  (refine still_last (by kernel_rfl) (by kernel_rfl) ?_; simp only [List.length_cons, List.length_nil, Nat.reduceAdd, Nat.reduceSub, List.take_succ_cons, List.take_zero, List.drop_succ_cons, List.drop_zero]; repeat still_step; try refine wpStill_nil ?_)
  refine wpl_store_blk (w := w0.drewN 1) m1.row 88 (base * 2) 2 (Sp.prc (base, next)) (by kernel_rfl) rfl (by rw [HL.out, ← HN.out]; omega) (Sp.prc_one _) rfl rfl rfl rfl ?_
  intro w2 hB2 hg2
  rw [Sp.prcs_put] at hB2
  have hb3 := m1.blk.grown (w := w0.drewN 1) hg2 (fun e => hgh (by injection e))
  have d0 := hb3.cell 0
  simp only [List.getElem?_cons_zero, List.getElem?_cons_succ] at d0
  have hk2 : Keeps (fun k => k = g ∨ k = h) w0 w2 := ((Keeps.of_grown hg2).undrewN).mono (fun i hi => .inr (by injection hi))
  clear c0 c1 c2
  go_wp2_with (refine wpl_set_blk hb3 0 (.int .i64 ((next + 1 : Nat) : Int)) (by kernel_rfl) (by simp) rfl rfl rfl rfl rfl rfl ?_; intro w3 hB3 hg3)
  have hk3 : Keeps (fun k => k = g ∨ k = h) w2 w3 := (Keeps.of_grown hg3).mono (fun i hi => .inl (by injection hi))
  have hfin : Mk B w3 g h (Sp.put ps base [(base, next)]) (next + 1) base := ⟨by rw [HP.out]; simpa using hB3, hB2.grown hg3 (fun e => hgh (by injection e with e; exact e.symm)), by have := m1.base; have := hk2.size; have := hk3.size; omega, m1.atg, m1.ath, hgh⟩
  have hkf := (hk0.trans hk2).trans hk3
  clear hB2 hg2 hb3 d0 hB3 hg3 m1 hk0 hk2 hk3
  go_wp2
  go_end0
  exact ⟨rfl, base, hfin, hkf⟩

theorem Mk.setbase {B : Nat} {w w' : World} {g h : Nat} {ps : List (Nat × Nat)} {next base base2 : Nat} (m : Mk B w g h ps next base) (hB : Blk w' g 109 ([.int .i64 next, .slice (some ⟨h, 0, none⟩) ps.length ps.length, .int .i64 base].set 2 (.int .i64 base2))) (hg : w.grownBy w' (some g)) :
    Mk B w' g h ps next base2 ∧ Keeps (fun k => k = g ∨ k = h) w w' := by
  have hk : Keeps (fun k => k = g ∨ k = h) w w' := (Keeps.of_grown hg).mono (fun i hi => .inl (by injection hi))
  exact ⟨⟨by simpa using hB, m.row.grown hg (fun e => m.ne (by injection e with e; exact e.symm)), by have := m.base; have := hk.size; omega, m.atg, m.ath, m.ne⟩, hk⟩

theorem meth_mk (g fuel : Nat) (w : World) : (method (fuel + 1) 110 (.pointer (some ⟨g, 0, none⟩)) "forkwright/sp.nothing").run Try.prog w = .ok (82, .pointer (some ⟨g, 0, none⟩)) w ∧
    (method (fuel + 1) 110 (.pointer (some ⟨g, 0, none⟩)) "forkwright/sp.one").run Try.prog w = .ok (83, .pointer (some ⟨g, 0, none⟩)) w ∧
    (method (fuel + 1) 110 (.pointer (some ⟨g, 0, none⟩)) "forkwright/sp.two").run Try.prog w = .ok (84, .pointer (some ⟨g, 0, none⟩)) w ∧
    (nilAhead (fuel + 1) 110 (.pointer (some ⟨g, 0, none⟩)) "forkwright/sp.two").run Try.prog w = .ok (some false) w :=
  ⟨by kernel_rfl, by kernel_rfl, by kernel_rfl, by kernel_rfl⟩

def MarkTell (t : Sp.T) : Prop := ∀ (B : Nat) (w : World) (g h : Nat) (ps : List (Nat × Nat)) (next base : Nat) (cs : List Value), TmR B w cs t → Mk B w g h ps next base → base + t.size ≤ ps.length → next + t.size ≤ 4194304 → ps.length ≤ 4194304 →
    Calls Try.prog 30 #[.agg cs.toArray, .iface 110 (.pointer (some ⟨g, 0, none⟩))] w (MkEnd B w g h (Sp.put ps base (t.marks base next)) (next + t.size))

set_option maxHeartbeats 2000000 in
theorem mk_two (par : Bool) (t0 t1 : Sp.T) (ih0 : MarkTell t0) (ih1 : MarkTell t1) (B : Nat) (w0 : World) (g h : Nat) (ps : List (Nat × Nat)) (next base : Nat) (cs0 cs1 : List Value) (q0 : TmR B w0 cs0 t0) (q1 : TmR B w0 cs1 t1) (hM : Mk B w0 g h ps next base)
    (hb : base + (t0.size + t1.size) ≤ ps.length) (hn : next + (t0.size + t1.size) ≤ 4194304) (hl : ps.length ≤ 4194304) :
    Calls Try.prog 84 #[.pointer (some ⟨g, 0, none⟩), .bool par, .agg cs0.toArray, .agg cs1.toArray] w0 (MkEnd B w0 g h (Sp.put ps base ((Sp.T.two par t0 t1).marks base next)) (next + (t0.size + t1.size))) := by
  obtain ⟨a0, a1, a2, a3, A4, a5, a6, rfl, -, -⟩ := q0.form
  obtain ⟨b0, b1, b2, b3, B4, b5, b6, rfl, -, -⟩ := q1.form
  unfold tcells at q0 q1 ⊢
  have hbox0 := (Blk.new w0 26 [.int .i64 a0, .int .i64 a1, .bool a2, .int .i64 a3, .slice A4 a5 a6]).alloc (.cells #[.int .i64 b0, .int .i64 b1, .bool b2, .int .i64 b3, .slice B4 b5 b6] 26)
  have hbox1 := Blk.new (w0.alloc (.cells #[.int .i64 a0, .int .i64 a1, .bool a2, .int .i64 a3, .slice A4 a5 a6] 26)) 26 [.int .i64 b0, .int .i64 b1, .bool b2, .int .i64 b3, .slice B4 b5 b6]
  have hM2 := (hM.alloc (.cells #[.int .i64 a0, .int .i64 a1, .bool a2, .int .i64 a3, .slice A4 a5 a6] 26)).alloc (.cells #[.int .i64 b0, .int .i64 b1, .bool b2, .int .i64 b3, .slice B4 b5 b6] 26)
  have hB1 : B ≤ (w0.alloc (.cells #[.int .i64 a0, .int .i64 a1, .bool a2, .int .i64 a3, .slice A4 a5 a6] 26)).heap.size := by have := hM.base; simp; omega
  have s0 := (q0.alloc hM.base (.cells #[.int .i64 a0, .int .i64 a1, .bool a2, .int .i64 a3, .slice A4 a5 a6] 26)).alloc hB1 (.cells #[.int .i64 b0, .int .i64 b1, .bool b2, .int .i64 b3, .slice B4 b5 b6] 26)
  have s1 := (q1.alloc hM.base (.cells #[.int .i64 a0, .int .i64 a1, .bool a2, .int .i64 a3, .slice A4 a5 a6] 26)).alloc hB1 (.cells #[.int .i64 b0, .int .i64 b1, .bool b2, .int .i64 b3, .slice B4 b5 b6] 26)
  have hg1 := hM.blk.lt
  have hh1 := hM.row.lt
  have hk2 : Keeps (fun k => k = g ∨ k = h) w0 ((w0.alloc (.cells #[.int .i64 a0, .int .i64 a1, .bool a2, .int .i64 a3, .slice A4 a5 a6] 26)).alloc (.cells #[.int .i64 b0, .int .i64 b1, .bool b2, .int .i64 b3, .slice B4 b5 b6] 26)) := ((Keeps.refl _ w0).alloc _).alloc _
  have hq1 : (w0.alloc (.cells #[.int .i64 a0, .int .i64 a1, .bool a2, .int .i64 a3, .slice A4 a5 a6] 26)).heap.size = w0.heap.size + 1 := by simp
  rw [hq1] at hbox1
  clear hq1 q0 q1 hB1 hM
  go_enter Try.func84, Try.ntmps84
  go_wp2_with fail
  try rw [show (w0.alloc (.cells #[.int .i64 a0, .int .i64 a1, .bool a2, .int .i64 a3, .slice A4 a5 a6] 26)).heap.size = w0.heap.size + 1 from by simp]
  generalize ((w0.alloc (.cells #[.int .i64 a0, .int .i64 a1, .bool a2, .int .i64 a3, .slice A4 a5 a6] 26)).alloc (.cells #[.int .i64 b0, .int .i64 b1, .bool b2, .int .i64 b3, .slice B4 b5 b6] 26)) = w2 at hbox0 hbox1 hM2 s0 s1 hk2 ⊢
  obtain ⟨q, hq⟩ : ∃ q, q = w0.heap.size := ⟨_, rfl⟩
  rw [← hq] at hbox0 hbox1 hg1 hh1 ⊢
  have look : ∀ w', Keeps (fun k => k = g ∨ k = h) w2 w' → (w'.cell? ⟨q, 0, none⟩ = some (.int .i64 a0) ∧ w'.cell? ⟨q, 1, none⟩ = some (.int .i64 a1) ∧ w'.cell? ⟨q, 2, none⟩ = some (.bool a2) ∧ w'.cell? ⟨q, 3, none⟩ = some (.int .i64 a3) ∧ w'.cell? ⟨q, 4, none⟩ = some (.slice A4 a5 a6)) ∧
      (w'.cell? ⟨q + 1, 0, none⟩ = some (.int .i64 b0) ∧ w'.cell? ⟨q + 1, 1, none⟩ = some (.int .i64 b1) ∧ w'.cell? ⟨q + 1, 2, none⟩ = some (.bool b2) ∧ w'.cell? ⟨q + 1, 3, none⟩ = some (.int .i64 b3) ∧ w'.cell? ⟨q + 1, 4, none⟩ = some (.slice B4 b5 b6)) ∧
      TmR B w' [.int .i64 a0, .int .i64 a1, .bool a2, .int .i64 a3, .slice A4 a5 a6] t0 ∧ TmR B w' [.int .i64 b0, .int .i64 b1, .bool b2, .int .i64 b3, .slice B4 b5 b6] t1 := fun w' hk => by
    have x0 := hbox0.keeps hk (fun e => by omega)
    have x1 := hbox1.keeps hk (fun e => by omega)
    have hbl := hk.below (B := B) hM2.base (fun i hi => hi.elim (fun e => e ▸ hM2.atg) (fun e => e ▸ hM2.ath))
    exact ⟨⟨by rw [x0.cell]; rfl, by rw [x0.cell]; rfl, by rw [x0.cell]; rfl, by rw [x0.cell]; rfl, by rw [x0.cell]; rfl⟩, ⟨by rw [x1.cell]; rfl, by rw [x1.cell]; rfl, by rw [x1.cell]; rfl, by rw [x1.cell]; rfl, by rw [x1.cell]; rfl⟩, s0.later hbl, s1.later hbl⟩
  have keepS : ∀ w', Below w2.heap.size w2 w' → (Below w2.heap.size w2 w' ∧ w'.cell? ⟨g, 2, none⟩ = some (.int .i64 base) ∧ w'.cell? ⟨q, 0, none⟩ = some (.int .i64 a0) ∧ w'.cell? ⟨q, 1, none⟩ = some (.int .i64 a1) ∧ w'.cell? ⟨q, 2, none⟩ = some (.bool a2) ∧ w'.cell? ⟨q, 3, none⟩ = some (.int .i64 a3) ∧ w'.cell? ⟨q, 4, none⟩ = some (.slice A4 a5 a6)) := fun w' hb =>
    ⟨hb, by rw [(hM2.blk.below hb).cell]; rfl, (look w' (Keeps.of_below hb _)).1⟩
  have hlv : ∀ w', (Below w2.heap.size w2 w' ∧ w'.cell? ⟨g, 2, none⟩ = some (.int .i64 base) ∧ w'.cell? ⟨q, 0, none⟩ = some (.int .i64 a0) ∧ w'.cell? ⟨q, 1, none⟩ = some (.int .i64 a1) ∧ w'.cell? ⟨q, 2, none⟩ = some (.bool a2) ∧ w'.cell? ⟨q, 3, none⟩ = some (.int .i64 a3) ∧ w'.cell? ⟨q, 4, none⟩ = some (.slice A4 a5 a6)) →
      Calls Try.prog 15 #[.agg #[.int .i64 a0, .int .i64 a1, .bool a2, .int .i64 a3, .slice A4 a5 a6]] w' fun e w'' => ∃ A c, e = .returned (.slice A t0.size c) ∧ (t0.size ≤ c ∧ c ≤ 9223372036854775807) ∧ Below w2.heap.size w2 w'' ∧ Below w'.heap.size w' w'' := fun w' hS =>
    (leaves_any w' _ t0 ((look w' (Keeps.of_below hS.1 _)).2.2.1.keep (by have := hS.1.size; have := hM2.base; omega) (fun _ _ => rfl)) (by omega)).mono fun e w'' hh => by
      obtain ⟨v, rfl, ⟨A, c, rfl, h1, h2, -, -⟩, h3⟩ := hh
      exact ⟨A, c, rfl, ⟨h1, h2⟩, below_next h3 hS.1, h3⟩
  have hlen0 : ∀ a j, (t0.marks a j).length = t0.size := t0.marks_length
  have hlen1 : ∀ a j, (t1.marks a j).length = t1.size := t1.marks_length
  have hE0 := fun w g h ps next base => ih0 B w g h ps next base [.int .i64 a0, .int .i64 a1, .bool a2, .int .i64 a3, .slice A4 a5 a6]
  have hE1 := fun w g h ps next base => ih1 B w g h ps next base [.int .i64 b0, .int .i64 b1, .bool b2, .int .i64 b3, .slice B4 b5 b6]
  clear hbox0 hbox1 s0 s1 hq ih0 ih1
  go_region_held3 (fun w' => (Below w2.heap.size w2 w' ∧ w'.cell? ⟨g, 2, none⟩ = some (.int .i64 base) ∧ w'.cell? ⟨q, 0, none⟩ = some (.int .i64 a0) ∧ w'.cell? ⟨q, 1, none⟩ = some (.int .i64 a1) ∧ w'.cell? ⟨q, 2, none⟩ = some (.bool a2) ∧ w'.cell? ⟨q, 3, none⟩ = some (.int .i64 a3) ∧ w'.cell? ⟨q, 4, none⟩ = some (.slice A4 a5 a6)))
    ((refine keepS _ ?_; repeat (first | exact Below.refl _ _ | assumption | apply below_alloc | apply below_drew | exact (And.left (by assumption)) | (apply below_next; assumption))))
    ((go_at_call 15; refine (hlv _ (by assumption)).mono ?_; rintro e w6 ⟨A6, c6, rfl, ⟨hle6, hm6⟩, hb5, hb6⟩))
  rename_i hHeld
  have k6 : Keeps (fun k => k = g ∨ k = h) w2 w6 := Keeps.of_below hb5 _
  have m6 := hM2.below hb5
  clear hHeld hb5 hb6 keepS hlv hM2
  have hw : IntKind.i64.wrap ((base : Int) + (t0.size : Int)) = ((base + t0.size : Nat) : Int) := by rw [IntWalk.i64_in _ (by omega)]; omega
  rcases par with _ | _
  · obtain ⟨⟨x0, x1, x2, x3, x4⟩, -, r0, -⟩ := look w6 k6
    go_wp2_with fail
    refine (hE0 w6 g h ps next base r0 m6 (by omega) (by omega) hl).mono ?_
    rintro e w7 ⟨rfl, bs7, m7, k7⟩
    have kk7 := k6.trans k7
    clear x0 x1 x2 x3 x4 r0
    go_wp2_with (refine wpl_set_blk m7.blk 2 (.int .i64 ((base + t0.size : Nat) : Int)) (by kernel_rfl) (by simp) rfl rfl rfl rfl rfl rfl ?_; intro w8 hB8 hg8; obtain ⟨m8, k8⟩ := m7.setbase hB8 hg8; have kk8 := kk7.trans k8; obtain ⟨-, ⟨x0, x1, x2, x3, x4⟩, -, r1⟩ := look w8 kk8; clear hB8 hg8)
    have hpl : (Sp.put ps base (t0.marks base next)).length = ps.length := Sp.put_length _ _ _ (by rw [hlen0]; omega)
    have hput := Sp.put_put ps (t0.marks base next) (t1.marks (base + t0.size) (next + t0.size)) base (by rw [hlen0, hlen1]; omega)
    rw [hlen0] at hput
    have hcall := hE1 w8 g h _ (next + t0.size) (base + t0.size) r1 m8 (by rw [hpl]; omega) (by omega) (by rw [hpl]; exact hl)
    rw [hput] at hcall
    clear hput hpl hE0 hE1 look m8 m7 m6
    refine hcall.mono ?_
    rintro e w9 ⟨rfl, bs9, m9, k9⟩
    clear hcall
    go_wp2
    go_end0
    exact ⟨rfl, bs9, by rw [← Nat.add_assoc]; exact m9, hk2.trans (kk8.trans k9)⟩
  · go_wp2_with (refine wpl_set_blk m6.blk 2 (.int .i64 ((base + t0.size : Nat) : Int)) (by kernel_rfl) (by simp) rfl rfl rfl rfl rfl rfl ?_; intro w7 hB7 hg7; obtain ⟨m7, k7⟩ := m6.setbase hB7 hg7; have kk7 := k6.trans k7; obtain ⟨-, ⟨x0, x1, x2, x3, x4⟩, -, r1⟩ := look w7 kk7; clear hB7 hg7)
    refine (hE1 w7 g h ps next (base + t0.size) r1 m7 (by omega) (by omega) hl).mono ?_
    rintro e w8 ⟨rfl, bs8, m8, k8⟩
    have kk8 := kk7.trans k8
    clear x0 x1 x2 x3 x4 r1
    go_wp2_with (refine wpl_set_blk m8.blk 2 (.int .i64 (base : Int)) (by kernel_rfl) (by simp) rfl rfl rfl rfl rfl rfl ?_; intro w9 hB9 hg9; obtain ⟨m9, k9⟩ := m8.setbase hB9 hg9; have kk9 := kk8.trans k9; obtain ⟨⟨x0, x1, x2, x3, x4⟩, -, r0, -⟩ := look w9 kk9; clear hB9 hg9)
    have hpl : (Sp.put ps (base + t0.size) (t1.marks (base + t0.size) next)).length = ps.length := Sp.put_length _ _ _ (by rw [hlen1]; omega)
    have hput := Sp.put_back ps (t0.marks base (next + t1.size)) (t1.marks (base + t0.size) next) base (by rw [hlen0, hlen1]; omega)
    rw [hlen0] at hput
    have hcall := hE0 w9 g h _ (next + t1.size) base r0 m9 (by rw [hpl]; omega) (by omega) (by rw [hpl]; exact hl)
    rw [hput] at hcall
    clear hput hpl hE0 hE1 look m9 m8 m7 m6
    refine hcall.mono ?_
    rintro e w10 ⟨rfl, bs10, m10, k10⟩
    clear hcall
    go_wp2
    go_end0
    exact ⟨rfl, bs10, by rw [show next + (t0.size + t1.size) = next + t1.size + t0.size from by omega]; exact m10, hk2.trans (kk9.trans k10)⟩

theorem tell_marks (t : Sp.T) : MarkTell t := by
  induction t with
  | nil =>
    intro B w g h ps next base cs hT hM hb hn hl
    have e : Sp.put ps base (Sp.T.nil.marks base next) = ps := Sp.put_nil _ _
    rw [e]
    refine tell_nil hT (f := 82) (fun k w => (meth_mk g k w).1) (fun _ _ => by rfl) ?_
    exact (mk_nothing B _ g h ps next base (hM.alloc _)).mono fun e w' h => mk_back (keeps_alloc _ _) h
  | one c b l =>
    intro B w g h ps next base cs hT hM hb hn hl
    have hb' : base + 1 ≤ ps.length := hb
    have hn' : next + 1 ≤ 4194304 := hn
    refine tell_one hT (f := 83) (fun k w => (meth_mk g k w).2.1) (fun _ _ => by rfl) ?_
    exact (mk_one B _ g h ps next base (hM.alloc _) (c, b, l) (by omega) (by omega) hl).mono fun e w' h => mk_back (keeps_alloc _ _) h
  | two par t0 t1 ih0 ih1 =>
    intro B w g h ps next base cs hT hM hb hn hl
    rw [Sp.T.size_two] at hn hb ⊢
    refine tell_two hT (f := 84) (fun k w => (meth_mk g k w).2.2.1) (fun k w => (meth_mk g k w).2.2.2) (fun _ _ => by rfl) hM.base ?_
    intro cs0 cs1 r0 r1
    have hk0 : Keeps (fun _ => False) w ((w.alloc (.cells cs.toArray 26)).drewN 1) := (keeps_alloc _ _).drewN 1
    have v0 : TmR B ((w.alloc (.cells cs.toArray 26)).drewN 1) cs0 t0 := r0.keep (Nat.le_refl _) (fun p hp => World.cell?_alloc_lt w _ p (by have := hM.base; omega))
    have v1 : TmR B ((w.alloc (.cells cs.toArray 26)).drewN 1) cs1 t1 := r1.keep (Nat.le_refl _) (fun p hp => World.cell?_alloc_lt w _ p (by have := hM.base; omega))
    have hM1 : Mk B ((w.alloc (.cells cs.toArray 26)).drewN 1) g h ps next base := (hM.alloc _).drewN 1
    exact (mk_two par t0 t1 ih0 ih1 B _ g h ps next base cs0 cs1 v0 v1 hM1 hb hn hl).mono fun e w' h => mk_back hk0 h
end Go.Proofs.Ytajddbmmbhdnfaa
