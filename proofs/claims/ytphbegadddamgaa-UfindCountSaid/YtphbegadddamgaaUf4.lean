/-
  Package ufind, walked: do.
-/
import Derived.Test.YtphbegadddamgaaUf3
import Derived.Test.YtphbegadddamgaaBase2
import Derived.Deep.RegionHeld3
namespace Go.Proofs.Ytphbegadddamgaa
set_option linter.unusedVariables false
set_option linter.unusedSimpArgs false
open Go.RowKit

def UfDo (B g u s n : Nat) (l' : List Nat) (w : World) (a : Int) : Ending → World → Prop := fun e w' =>
  e = .returned (.int .i64 a) ∧ UfRep B w' g u s n l' ∧ Keeps (fun k => k = u ∨ k = s) w w'

theorem UfRep.alloc {B g u s n : Nat} {l : List Nat} {w : World} (h : UfRep B w g u s n l) (o : Obj) : UfRep B (w.alloc o) g u s n l := by
  obtain ⟨hn, up, sz, d, h, t⟩ := h
  exact ⟨hn, up, sz, d, h.keeps ((Keeps.refl (fun _ => False) w).alloc o) (fun h => h) (fun h => h) (fun h => h), t⟩

theorem do_join_uf (B : Nat) (w : World) (g u s n : Nat) (l : List Nat) (h : UfRep B w g u s n l) (h200 : n ≤ 200) (i j : Nat) (hi : i < n) (hj : j < n) :
    Calls Try.prog 46 #[.pointer (some ⟨g, 0, none⟩), .agg #[.int .i64 1, .int .i64 i, .int .i64 j]] w (UfDo B g u s n (Uf.merge l (Uf.at_ l i) (Uf.at_ l j)) w (Uf.num (Uf.at_ l i != Uf.at_ l j))) := by
  have h1 := h.alloc (.cells #[.int .i64 1, .int .i64 i, .int .i64 j] 60)
  obtain ⟨hn, up, sz, d, ha, t⟩ := h1
  have c0 := ha.blk.cell 0
  simp only [List.getElem?_cons_zero] at c0
  have i0 : decide ((i : Int) < 0) = false := by simp
  have i1 : decide ((n : Int) ≤ (i : Int)) = false := by simp; omega
  have j0 : decide ((j : Int) < 0) = false := by simp
  have j1 : decide ((n : Int) ≤ (j : Int)) = false := by simp; omega
  go_enter Try.func46, Try.ntmps46
  go_wp2_with fail
  refine (join_any B _ g u s n l ⟨hn, up, sz, d, ha, t⟩ h200 i j hi hj).mono ?_
  rintro e w2 ⟨r, rfl, hr, hk⟩
  go_wp2_with fail
  refine (num_any _ _).mono ?_
  rintro e w3 ⟨rfl, rfl⟩
  go_wp2
  go_ret
  exact ⟨rfl, hr, ((Keeps.refl _ _).alloc _).trans hk⟩

/-- R turns a label into its set's head -/
structure UfR (B : Nat) (w : World) (g u s n : Nat) (l : List Nat) (R : Nat → Nat) : Prop where
  len : l.length = n
  lt : ∀ i, i < n → R (Uf.at_ l i) < n
  lab : ∀ i, i < n → Uf.at_ l (R (Uf.at_ l i)) = Uf.at_ l i
  mem : ∃ up sz d, UfAt B w g u s n up sz ∧ Uf.Tree up sz l d ∧ ∀ i, i < n → Uf.at_ up (R (Uf.at_ l i)) = R (Uf.at_ l i)

theorem has_head {up sz l : List Nat} {d : Nat → Nat} (t : Uf.Tree up sz l d) : ∀ (k i : Nat), d i ≤ k → i < l.length → ∃ r, r < l.length ∧ Uf.at_ up r = r ∧ Uf.at_ l r = Uf.at_ l i := by
  intro k
  induction k with
  | zero =>
    intro i hd hi
    by_cases e : Uf.at_ up i = i
    · exact ⟨i, hi, e, rfl⟩
    · have := t.deep i hi e; omega
  | succ k ih =>
    intro i hd hi
    by_cases e : Uf.at_ up i = i
    · exact ⟨i, hi, e, rfl⟩
    · have hdd := t.deep i hi e
      obtain ⟨r, h1, h2, h3⟩ := ih (Uf.at_ up i) (by omega) (t.lt i hi)
      exact ⟨r, h1, h2, h3.trans (t.lab i hi)⟩

theorem UfRep.headed {B g u s n : Nat} {l : List Nat} {w : World} (h : UfRep B w g u s n l) : ∃ R, UfR B w g u s n l R := by
  obtain ⟨hn, up, sz, d, h, t⟩ := h
  have hh : ∀ i, i < n → ∃ r, r < l.length ∧ Uf.at_ up r = r ∧ Uf.at_ l r = Uf.at_ l i := fun i hi => has_head t (d i) i (Nat.le_refl _) (by omega)
  classical
  refine ⟨fun x => if hx : ∃ r, r < l.length ∧ Uf.at_ up r = r ∧ Uf.at_ l r = x then Classical.choose hx else 0, hn, fun i hi => ?_, fun i hi => ?_, up, sz, d, h, t, fun i hi => ?_⟩
  · simp only [dif_pos (hh i hi)]
    have := (Classical.choose_spec (hh i hi)).1
    omega
  · simp only [dif_pos (hh i hi)]
    exact (Classical.choose_spec (hh i hi)).2.2
  · simp only [dif_pos (hh i hi)]
    exact (Classical.choose_spec (hh i hi)).2.1
theorem UfR.drewN {B g u s n : Nat} {l : List Nat} {R : Nat → Nat} {w : World} (h : UfR B w g u s n l R) (k : Nat) : UfR B (w.drewN k) g u s n l R := by
  obtain ⟨up, sz, d, h1, t, hr⟩ := h.mem
  exact ⟨h.len, h.lt, h.lab, up, sz, d, h1.drewN k, t, hr⟩
theorem UfR.rep {B g u s n : Nat} {l : List Nat} {R : Nat → Nat} {w : World} (h : UfR B w g u s n l R) : UfRep B w g u s n l := by
  obtain ⟨up, sz, d, h1, t, _⟩ := h.mem
  exact ⟨h.len, up, sz, d, h1, t⟩
theorem UfR.same {B g u s n : Nat} {l : List Nat} {R : Nat → Nat} {w : World} (h : UfR B w g u s n l R) {i j : Nat} (hi : i < n) (hj : j < n) : R (Uf.at_ l i) = R (Uf.at_ l j) ↔ Uf.at_ l i = Uf.at_ l j :=
  ⟨fun e => by rw [← h.lab i hi, ← h.lab j hj, e], fun e => by rw [e]⟩
theorem UfR.size {B g u s n : Nat} {l : List Nat} {R : Nat → Nat} {w : World} (h : UfR B w g u s n l R) {i : Nat} (hi : i < n) : w.cell? ⟨s, R (Uf.at_ l i), none⟩ = some (.int .i64 (l.count (Uf.at_ l i) : Nat)) := by
  have hlen := h.len
  obtain ⟨up, sz, d, h1, t, hr⟩ := h.mem
  have := nat_cell h1.sz (R (Uf.at_ l i)) (h.lt i hi) (by rw [t.sl, hlen])
  rw [this, t.size _ (by have := h.lt i hi; omega) (hr i hi), h.lab i hi]

theorem head_r (B : Nat) (w : World) (g u s n : Nat) (l : List Nat) (R : Nat → Nat) (h : UfR B w g u s n l R) (i : Nat) (hi : i < n) :
    Calls Try.prog 54 #[.pointer (some ⟨g, 0, none⟩), .int .i64 i] w fun e w' => e = .returned (.int .i64 (R (Uf.at_ l i) : Nat)) ∧ UfR B w' g u s n l R ∧ Keeps (fun k => k = u) w w' := by
  have hlen := h.len
  obtain ⟨up, sz, d, h1, t, hr⟩ := h.mem
  refine (head_any B w g u s n up sz l d h1 t hlen i hi).mono ?_
  rintro e w' ⟨r, up', rfl, h2, t2, hrn, hrr, hrl, hrt, hk⟩
  have e1 : r = R (Uf.at_ l i) := t2.one r _ (by omega) (by have := h.lt i hi; omega) hrr (hrt _ (hr i hi)) (hrl.trans (h.lab i hi).symm)
  exact ⟨by rw [e1], ⟨hlen, h.lt, h.lab, up', sz, d, h2, t2, fun i hi => hrt _ (hr i hi)⟩, hk⟩

theorem do_same_uf (B : Nat) (w : World) (g u s n : Nat) (l : List Nat) (h : UfRep B w g u s n l) (i j : Nat) (hi : i < n) (hj : j < n) :
    Calls Try.prog 46 #[.pointer (some ⟨g, 0, none⟩), .agg #[.int .i64 2, .int .i64 i, .int .i64 j]] w (UfDo B g u s n l w (Uf.num (Uf.at_ l i == Uf.at_ l j))) := by
  obtain ⟨R, hR⟩ := (h.alloc (.cells #[.int .i64 2, .int .i64 i, .int .i64 j] 60)).headed
  have hk0 : Keeps (fun k => k = u) w (w.alloc (.cells #[.int .i64 2, .int .i64 i, .int .i64 j] 60)) := (Keeps.refl _ w).alloc _
  have hP := Blk.new w 60 [.int .i64 2, .int .i64 i, .int .i64 j]
  have hu : u < w.heap.size := by
    obtain ⟨hn, up, sz, d, ha, t⟩ := h
    exact (ha.up.lt u rfl).2
  obtain ⟨up, sz, d, ha, t, -⟩ := hR.mem
  have c0 := ha.blk.cell 0
  simp only [List.getElem?_cons_zero] at c0
  have i0 : decide ((i : Int) < 0) = false := by simp
  have i1 : decide ((n : Int) ≤ (i : Int)) = false := by simp; omega
  have j0 : decide ((j : Int) < 0) = false := by simp
  have j1 : decide ((n : Int) ≤ (j : Int)) = false := by simp; omega
  clear h ha t
  go_enter Try.func46, Try.ntmps46
  go_wp2_with fail
  have p1 := hP.cell 1
  have p2 := hP.cell 2
  simp only [List.getElem?_cons_succ, List.getElem?_cons_zero] at p1 p2
  have p1' : (w.alloc (.cells #[.int .i64 2, .int .i64 i, .int .i64 j] 60)).cell? ⟨w.heap.size, 1, none⟩ = some (.int .i64 i) := p1
  have p2' : (w.alloc (.cells #[.int .i64 2, .int .i64 i, .int .i64 j] 60)).cell? ⟨w.heap.size, 2, none⟩ = some (.int .i64 j) := p2
  clear hP c0 p1 p2
  generalize (w.alloc (.cells #[.int .i64 2, .int .i64 i, .int .i64 j] 60)) = w0 at hR hk0 p1' p2' ⊢
  obtain ⟨q, hq⟩ : ∃ q, q = w.heap.size := ⟨_, rfl⟩
  rw [← hq] at p1' p2' hu ⊢
  have hqu : q ≠ u := by omega
  clear hq hu
  have hc : ∀ x, x < n → ∀ w', (UfR B w' g u s n l R ∧ w'.cell? ⟨q, 1, none⟩ = some (.int .i64 i) ∧ w'.cell? ⟨q, 2, none⟩ = some (.int .i64 j) ∧ Keeps (fun k => k = u) w w') → Calls Try.prog 54 #[.pointer (some ⟨g, 0, none⟩), .int .i64 x] w' fun e w'' => e = .returned (.int .i64 (R (Uf.at_ l x) : Nat)) ∧ UfR B w'' g u s n l R ∧ w''.cell? ⟨q, 1, none⟩ = some (.int .i64 i) ∧ w''.cell? ⟨q, 2, none⟩ = some (.int .i64 j) ∧ Keeps (fun k => k = u) w w'' :=
    fun x hx w' ⟨a1, a2, a3, a4⟩ => (head_r B w' g u s n l R a1 x hx).mono fun e w'' ⟨b1, b2, b3⟩ => ⟨b1, b2, b3.cell a2 hqu, b3.cell a3 hqu, a4.trans b3⟩
  have hRd : UfR B w0.drew g u s n l R := hR.drewN 1
  have hkd : Keeps (fun k => k = u) w w0.drew := hk0.drewN 1
  go_region_held3 (fun w' => UfR B w' g u s n l R ∧ w'.cell? ⟨q, 1, none⟩ = some (.int .i64 i) ∧ w'.cell? ⟨q, 2, none⟩ = some (.int .i64 j) ∧ Keeps (fun k => k = u) w w') (first | assumption | (refine ⟨?_, ?_, ?_, ?_⟩ <;> first | assumption | go_keep))
    (first
      | (go_at_call 54; refine (hc _ (by assumption) _ (by assumption)).mono ?_; rintro e w2 ⟨rfl, hS2⟩)
      | (go_at_call 53; refine (num_any _ _).mono ?_; rintro e w3 ⟨rfl, rfl⟩))
  obtain ⟨hR3, -, -, hk3⟩ := hS2
  have hb : ((R (Uf.at_ l i) : Int) == (R (Uf.at_ l j) : Int)) = (Uf.at_ l i == Uf.at_ l j) := by
    rw [Bool.eq_iff_iff, beq_iff_eq, beq_iff_eq, ← hR3.same hi hj]
    omega
  have HB := Lib.hid hb
  clear hb hc hRd hkd hR hk0
  go_wp2
  go_ret
  exact ⟨by rw [HB.out]; rfl, hR3.rep, hk3.mono (fun i hi => .inl hi)⟩

theorem do_size_uf (B : Nat) (w : World) (g u s n : Nat) (l : List Nat) (h : UfRep B w g u s n l) (i : Nat) (j : Int) (hi : i < n) :
    Calls Try.prog 46 #[.pointer (some ⟨g, 0, none⟩), .agg #[.int .i64 3, .int .i64 i, .int .i64 j]] w (UfDo B g u s n l w (l.count (Uf.at_ l i) : Nat)) := by
  obtain ⟨R, hR⟩ := (h.alloc (.cells #[.int .i64 3, .int .i64 i, .int .i64 j] 60)).headed
  have hk0 : Keeps (fun k => k = u) w (w.alloc (.cells #[.int .i64 3, .int .i64 i, .int .i64 j] 60)) := (Keeps.refl _ w).alloc _
  have hP := Blk.new w 60 [.int .i64 3, .int .i64 i, .int .i64 j]
  have hu : u < w.heap.size := by
    obtain ⟨hn, up, sz, d, ha, t⟩ := h
    exact (ha.up.lt u rfl).2
  obtain ⟨up, sz, d, ha, t, -⟩ := hR.mem
  have hug := ha.ug
  have c0 := ha.blk.cell 0
  have c1 := ha.blk.cell 1
  simp only [List.getElem?_cons_succ, List.getElem?_cons_zero] at c0 c1
  have i0 : decide ((i : Int) < 0) = false := by simp
  have i1 : decide ((n : Int) ≤ (i : Int)) = false := by simp; omega
  have hsg := ha.sg
  have hap := ha.apart
  clear h ha t
  go_enter Try.func46, Try.ntmps46
  go_wp2_with fail
  have p1 := hP.cell 1
  simp only [List.getElem?_cons_succ, List.getElem?_cons_zero] at p1
  have p1' : (w.alloc (.cells #[.int .i64 3, .int .i64 i, .int .i64 j] 60)).cell? ⟨w.heap.size, 1, none⟩ = some (.int .i64 i) := p1
  clear hP c0 p1
  generalize (w.alloc (.cells #[.int .i64 3, .int .i64 i, .int .i64 j] 60)) = w0 at hR hk0 p1' c1 ⊢
  obtain ⟨q, hq⟩ : ∃ q, q = w.heap.size := ⟨_, rfl⟩
  rw [← hq] at p1' hu ⊢
  have hqu : q ≠ u := by omega
  clear hq hu
  have hc : ∀ x, x < n → ∀ w', (UfR B w' g u s n l R ∧ w'.cell? ⟨q, 1, none⟩ = some (.int .i64 i) ∧ w'.cell? ⟨g, 1, none⟩ = some (.slice (some ⟨s, 0, none⟩) n n) ∧ w'.cell? ⟨s, R (Uf.at_ l i), none⟩ = some (.int .i64 (l.count (Uf.at_ l i) : Nat)) ∧ Keeps (fun k => k = u) w w') → Calls Try.prog 54 #[.pointer (some ⟨g, 0, none⟩), .int .i64 x] w' fun e w'' => e = .returned (.int .i64 (R (Uf.at_ l x) : Nat)) ∧ UfR B w'' g u s n l R ∧ w''.cell? ⟨q, 1, none⟩ = some (.int .i64 i) ∧ w''.cell? ⟨g, 1, none⟩ = some (.slice (some ⟨s, 0, none⟩) n n) ∧ w''.cell? ⟨s, R (Uf.at_ l i), none⟩ = some (.int .i64 (l.count (Uf.at_ l i) : Nat)) ∧ Keeps (fun k => k = u) w w'' :=
    fun x hx w' ⟨a1, a2, a3, a4, a5⟩ => (head_r B w' g u s n l R a1 x hx).mono fun e w'' ⟨b1, b2, b3⟩ => ⟨b1, b2, b3.cell a2 hqu, b3.cell a3 (fun e => hug e.symm), b3.cell a4 (fun e => hap e.symm), a5.trans b3⟩
  have hRd : UfR B w0.drew g u s n l R := hR.drewN 1
  have hkd : Keeps (fun k => k = u) w w0.drew := hk0.drewN 1
  have hsz := hR.size hi
  have hlt := hR.lt i hi
  have hlt0 : (0 : Int) ≤ (R (Uf.at_ l i) : Int) := Int.natCast_nonneg _
  have hlt1 : (R (Uf.at_ l i) : Int) < (n : Int) := by omega
  go_region_held3 (fun w' => UfR B w' g u s n l R ∧ w'.cell? ⟨q, 1, none⟩ = some (.int .i64 i) ∧ w'.cell? ⟨g, 1, none⟩ = some (.slice (some ⟨s, 0, none⟩) n n) ∧ w'.cell? ⟨s, R (Uf.at_ l i), none⟩ = some (.int .i64 (l.count (Uf.at_ l i) : Nat)) ∧ Keeps (fun k => k = u) w w') (first | assumption | (refine ⟨?_, ?_, ?_, ?_, ?_⟩ <;> first | assumption | go_keep))
    (first
      | (go_at_call 54; refine (hc _ (by assumption) _ (by assumption)).mono ?_; rintro e w2 ⟨rfl, hS2⟩))
  all_goals
    obtain ⟨hR3, -, -, -, hk3⟩ := hS2
    clear hc hRd hkd hR hk0
    go_wp2
    go_ret
    exact ⟨rfl, hR3.rep, hk3.mono (fun i hi => .inl hi)⟩

/-- what is not done -/
theorem do_not_uf (B : Nat) (w : World) (g u s n : Nat) (l : List Nat) (h : UfRep B w g u s n l) (k i j : Int) (hb : (Uf.good n ⟨k, i, j⟩ = false) ∨ (k ≠ 1 ∧ k ≠ 2 ∧ k ≠ 3)) :
    Calls Try.prog 46 #[.pointer (some ⟨g, 0, none⟩), .agg #[.int .i64 k, .int .i64 i, .int .i64 j]] w (UfDo B g u s n l w (-1)) := by
  have h1 := h.alloc (.cells #[.int .i64 k, .int .i64 i, .int .i64 j] 60)
  have hk0 : Keeps (fun k => k = u ∨ k = s) w (w.alloc (.cells #[.int .i64 k, .int .i64 i, .int .i64 j] 60)) := (Keeps.refl _ w).alloc _
  have h2 := h1
  obtain ⟨hn, up, sz, d, ha, t⟩ := h1
  have c0 := ha.blk.cell 0
  simp only [List.getElem?_cons_zero] at c0
  clear hn ha t h
  have H2 := Lib.hid h2
  clear h2
  by_cases i0 : i < 0
  · clear hb
    go_enter Try.func46, Try.ntmps46
    go_wp2
    go_ret
    exact ⟨rfl, H2.out, hk0⟩
  · by_cases i1 : n ≤ i
    · clear hb
      go_enter Try.func46, Try.ntmps46
      go_wp2
      go_ret
      exact ⟨rfl, H2.out, hk0⟩
    · by_cases k3 : k = 3
      · subst k3
        exfalso
        rcases hb with hb | hb
        · simp only [Uf.good, Uf.inside] at hb
          have e1 : decide (0 ≤ i) = true := by simp; omega
          have e2 : decide (i < n) = true := by simp; omega
          rw [e1, e2] at hb
          simp at hb
        · exact hb.2.2 rfl
      · by_cases j0 : j < 0
        · clear hb
          go_enter Try.func46, Try.ntmps46
          go_wp2
          go_ret
          exact ⟨rfl, H2.out, hk0⟩
        · by_cases j1 : n ≤ j
          · clear hb
            go_enter Try.func46, Try.ntmps46
            go_wp2
            go_ret
            exact ⟨rfl, H2.out, hk0⟩
          · have hk : k ≠ 1 ∧ k ≠ 2 := by
              rcases hb with hb | hb
              · exfalso
                simp only [Uf.good, Uf.inside] at hb
                have e1 : decide (0 ≤ i) = true := by simp; omega
                have e2 : decide (i < n) = true := by simp; omega
                have e3 : decide (0 ≤ j) = true := by simp; omega
                have e4 : decide (j < n) = true := by simp; omega
                rw [e1, e2, e3, e4] at hb
                simp at hb
              · exact ⟨hb.1, hb.2.1⟩
            obtain ⟨k1, k2⟩ := hk
            clear hb
            go_enter Try.func46, Try.ntmps46
            go_wp2
            go_ret
            exact ⟨rfl, H2.out, hk0⟩

theorem do_uf (B : Nat) (w : World) (g u s n : Nat) (l : List Nat) (h : UfRep B w g u s n l) (h200 : n ≤ 200) (o : Uf.Op) :
    Calls Try.prog 46 #[.pointer (some ⟨g, 0, none⟩), .agg #[.int .i64 o.kind, .int .i64 o.i, .int .i64 o.j]] w (UfDo B g u s n (Uf.next l o) w (Uf.ans l o)) := by
  obtain ⟨k, i, j⟩ := o
  have hn := h.1
  by_cases hg : Uf.good n ⟨k, i, j⟩ = true
  · have hg' := hg
    simp only [Uf.good, Uf.inside, Bool.and_eq_true, Bool.or_eq_true, decide_eq_true_eq, beq_iff_eq] at hg'
    obtain ⟨i, rfl⟩ := Int.eq_ofNat_of_zero_le hg'.1.1
    by_cases k1 : k = 1
    · subst k1
      have hj : 0 ≤ j ∧ j < n := hg'.2.resolve_left (by decide)
      obtain ⟨j, rfl⟩ := Int.eq_ofNat_of_zero_le hj.1
      have := do_join_uf B w g u s n l h h200 i j (by omega) (by omega)
      simp only [Uf.next, Uf.ans, hn, hg, if_true, Uf.lab]
      exact this
    · by_cases k2 : k = 2
      · subst k2
        have hj : 0 ≤ j ∧ j < n := hg'.2.resolve_left (by decide)
        obtain ⟨j, rfl⟩ := Int.eq_ofNat_of_zero_le hj.1
        have := do_same_uf B w g u s n l h i j (by omega) (by omega)
        simp only [Uf.next, Uf.ans, hn, hg, if_true, Uf.lab]
        exact this
      · by_cases k3 : k = 3
        · subst k3
          have := do_size_uf B w g u s n l h i j (by omega)
          simp only [Uf.next, Uf.ans, hn, hg, if_true, Uf.lab]
          exact this
        · have := do_not_uf B w g u s n l h k i j (.inr ⟨k1, k2, k3⟩)
          simp only [Uf.next, Uf.ans, hn, hg, if_true, k1, k2, k3, if_false, Bool.true_and]
          simpa [k1] using this
  · have hg : Uf.good n ⟨k, i, j⟩ = false := by simpa using hg
    have := do_not_uf B w g u s n l h k i j (.inl hg)
    simp only [Uf.next, Uf.ans, hn, hg, Bool.false_and]
    exact this
end Go.Proofs.Ytphbegadddamgaa
