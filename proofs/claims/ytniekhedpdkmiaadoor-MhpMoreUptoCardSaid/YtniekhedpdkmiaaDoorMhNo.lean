/-
  MhpNone, walked.
-/
import Derived.Test.YtniekhedpdkmiaaDoorMhAl
import Derived.Laws.EntriesVeiled
namespace Go.Proofs.YtniekhedpdkmiaaDoor
set_option linter.unusedVariables false
set_option linter.unusedSimpArgs false
open Go.RowKit

namespace St
theorem size_plain : ∀ p : P, (plain p).size ≤ p.size
  | .nil => Nat.le_refl _
  | .cons k n a b body els r => by
    have h1 := size_plain body
    have h2 := size_plain els
    have h3 := size_plain r
    have h4 := a.leaves_pos
    have h5 := b.leaves_pos
    unfold plain
    split
    · simp only [P.size, Ex.X.leaves]; omega
    · simp only [P.size]; omega
theorem size_calm : ∀ p : P, (calm p).size ≤ 4 * p.size
  | .nil => Nat.zero_le _
  | .cons k n a b body els r => by
    have h1 := size_calm body
    have h2 := size_calm els
    have h3 := size_calm r
    have h4 := a.leaves_pos
    have h5 := b.leaves_pos
    unfold calm
    split
    · simp only [P.size, Ex.X.leaves]; omega
    · simp only [P.size]; omega
end St

set_option maxHeartbeats 4000000 in
theorem mhpNone_walk (w : World) (A : Option Addr) (n c : Nat) (p : St.P) (hT : Tab w) (hp : IsP w (.slice A n c) p) (hs : p.size ≤ 1048576) :
    Calls Tryd.prog 7 #[.slice A n c] w fun e w' => e = .returned (.bool true) ∧ Below w.heap.size w w' := by
  have hs1 := St.size_plain p
  have hs2 := St.size_calm p
  have HL := Lib.hid (And.intro (St.pairs_plain p) (And.intro (St.pairs_calm p) (And.intro (St.open_all [] .bad .bad p .nil) (St.pairs_all [] .bad .bad p .nil))))
  go_enter Tryd.func7, Tryd.ntmps7
  go_wp2_with fail
  refine (alive20_any _ hT).mono ?_
  rintro e w1 ⟨rfl, hb1⟩
  have p1 := hp.step hb1
  have T1 := hT.step hb1
  have hcl := (Blk.new w1 35 [clo w1.heap.size])
  have b2 : Below w1.heap.size w1 (w1.alloc (.cells ([clo w1.heap.size] : List Value).toArray 35)) := below_alloc (Below.refl _ _) _
  have p2 := p1.step b2
  have T2 := T1.step b2
  have k2 := below_next b2 hb1
  clear hT hp hb1 p1 T1 b2
  unfold clo at hcl p2 T2 k2
  obtain ⟨cb, hcb⟩ : ∃ cb, cb = w1.heap.size := ⟨_, rfl⟩
  go_wp2_with fail
  rw [← hcb] at hcl p2 T2 k2 ⊢
  generalize (w1.alloc (.cells ([.func (.func 20) #[] #[.pointer (some ⟨cb, 0, none⟩)]] : List Value).toArray 35)) = W at hcl p2 T2 k2 ⊢
  clear hcb
  have hcl : Blk W cb 35 [clo cb] := hcl
  refine (finish_any _ _ _ W).mono ?_
  rintro e w3 ⟨rfl, hb3⟩
  have p3 := p2.step hb3
  have q3 := IsP.lit (PC.kid 5 p3) (by decide)
  have b3 : Below w3.heap.size w3 (w3.alloc (.cells (stcells 5 ⟨#[]⟩ xzeros xzeros A n c none 0 0).toArray 40)) := below_alloc (Below.refl _ _) _
  have p3' := p3.step b3
  have b3' := below_next b3 hb3
  have T3 := T2.step b3'
  have k3 := below_next b3' k2
  have hcl3 := hcl.below b3'
  clear p2 T2 k2 hb3 p3 b3 b3' hcl
  obtain ⟨Q3, hQ3⟩ : ∃ Q3, Q3 = w3.heap.size := ⟨_, rfl⟩
  simp only [xzeros, stcells, xcells, List.cons_append, List.nil_append] at q3 p3' T3 k3 hcl3 ⊢
  go_wp2_with fail
  rw [← hQ3] at q3 ⊢
  generalize (w3.alloc (.cells #[.int .i64 5, .string ⟨#[]⟩, .int .i64 0, .int .i64 0, .string ⟨#[]⟩, .slice none 0 0, .int .i64 0, .int .i64 0, .string ⟨#[]⟩, .slice none 0 0, .slice A n c, .slice none 0 0] 40)) = w4 at q3 p3' T3 k3 hcl3 ⊢
  clear hQ3
  have hpr : PR w4.heap.size w4 A n p ∧ n ≤ c ∧ c ≤ maxLen := by
    obtain ⟨A', n', c', e, h1, h2, h3⟩ := p3'
    injection e with e1 e2 e3
    subst e1 e2 e3
    exact ⟨h3, h1, h2⟩
  refine (plain_any p w4 w4.heap.size n c A (Nat.le_refl _) hpr.1 hpr.2.1 hpr.2.2 (by omega)).mono ?_
  clear hpr
  rintro e w5 ⟨u5, rfl, s5, hb5⟩
  have i5 := s5.is
  obtain ⟨A5, n5, c5, rfl, -, -, -⟩ := id i5
  have q5 := q3.step hb5
  have p5 := p3'.step hb5
  have T5 := T3.step hb5
  have k5 := below_next hb5 k3
  have hcl5 := hcl3.below hb5
  clear q3 p3' T3 k3 hcl3 hb5 s5
  go_wp2_with fail
  refine (isP_pairs i5 T5 (by omega)).mono ?_
  rintro e w6 ⟨A6, c6, rfl, -, hb6⟩
  rw [HL.out.1]
  have q6 := q5.step hb6
  have p6 := p5.step hb6
  have T6 := T5.step hb6
  have k6 := below_next hb6 k5
  have hcl6 := hcl5.below hb6
  have c6 : w6.cell? ⟨cb, 0, none⟩ = some (clo cb) := (hcl6.cell 0).trans rfl
  clear q5 p5 T5 k5 hcl5 hb6 i5
  have hpr : PR w6.heap.size w6 A n p ∧ n ≤ c ∧ c ≤ maxLen := by
    obtain ⟨A', n', c', e, h1, h2, h3⟩ := p6
    injection e with e1 e2 e3
    subst e1 e2 e3
    exact ⟨h3, h1, h2⟩
  have HPR := Lib.hid (And.intro hpr hcl6.lt)
  clear hpr
  have c6' := c6
  unfold clo at c6'
  have C6 := Lib.hid c6
  clear c6
  go_wp2_with fail
  refine (calm_any p w6 w6.heap.size n c cb A (Nat.le_refl _) HPR.out.2 C6.out HPR.out.1.1 HPR.out.1.2.1 HPR.out.1.2.2 (by omega)).mono ?_
  rintro e w7 ⟨u7, rfl, s7, hb7⟩
  have i7 := s7.is
  obtain ⟨A7, n7, c7, rfl, -, -, -⟩ := id i7
  have q7 := q6.step hb7
  have p7 := p6.step hb7
  have T7 := T6.step hb7
  have k7 := below_next hb7 k6
  clear q6 p6 T6 k6 hcl6 hb7 s7 c6' HPR
  go_wp2_with fail
  refine (isP_pairs i7 T7 (by omega)).mono ?_
  rintro e w8 ⟨A8, c8, rfl, -, hb8⟩
  rw [HL.out.2.1]
  have q8 := q7.step hb8
  have p8 := p7.step hb8
  have T8 := T7.step hb8
  have k8 := below_next hb8 k7
  clear q7 p7 T7 k7 hb8 i7
  have hz : (St.P.cons 5 [] .bad .bad p .nil .nil).size ≤ 1099511627776 := by simp only [St.P.size, Ex.X.leaves]; omega
  go_wp2_with fail
  refine (isP_open q8 T8 hz).mono ?_
  rintro e w9 ⟨A9, c9, rfl, -, hb9⟩
  rw [HL.out.2.2.1]
  have q9 := q8.step hb9
  have p9 := p8.step hb9
  have T9 := T8.step hb9
  have k9 := below_next hb9 k8
  clear q8 p8 T8 k8 hb9
  go_wp2_with fail
  refine (isP_pairs q9 T9 hz).mono ?_
  rintro e w10 ⟨A10, c10, rfl, h10, hb10⟩
  rw [HL.out.2.2.2] at h10 ⊢
  have p10 := p9.step hb10
  have T10 := T9.step hb10
  have k10 := below_next hb10 k9
  clear q9 p9 T9 k9 hb10
  go_wp2_with fail
  refine (isP_pairs p10 T10 (by omega)).mono ?_
  rintro e w11 ⟨A11, c11, rfl, h11, hb11⟩
  have h10' := h10.below hb11
  have k11 := below_next hb11 k10
  clear p10 T10 k10 h10 hb11
  go_wp2_with fail
  refine (equal_pairs_call _ _ _ _ true (by simp) w11 h10' h11).mono ?_
  rintro e w12 ⟨rfl, hb12⟩
  have k12 := below_next hb12 k11
  clear h10' h11 k11 hb12
  go_wp2
  go_ret
  exact ⟨rfl, k12⟩
end Go.Proofs.YtniekhedpdkmiaaDoor
