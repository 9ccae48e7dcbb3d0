/-
  Package ufind, walked: Join.
-/
import Derived.Test.YtphbegadddamgaaUf
namespace Go.Proofs.Ytphbegadddamgaa
set_option linter.unusedVariables false
set_option linter.unusedSimpArgs false
open Go.RowKit

def UfRep (B : Nat) (w : World) (g u s n : Nat) (l : List Nat) : Prop := l.length = n ∧ ∃ up sz d, UfAt B w g u s n up sz ∧ Uf.Tree up sz l d

theorem merge_same (l : List Nat) (x : Nat) : Uf.merge l x x = l := by
  unfold Uf.merge
  conv => rhs; rw [← List.map_id l]
  refine List.map_congr_left fun z _ => ?_
  split
  · simp_all
  · rfl

/-- what the two stores at a link leave -/
theorem link_rep {B : Nat} {w w' : World} {g u s n : Nat} {up sz l : List Nat} {d : Nat → Nat} (hn : l.length = n) (h : UfAt B w g u s n up sz) (t : Uf.Tree up sz l d) (a b x y : Nat) (ha : a < n) (hb : b < n) (ra : Uf.at_ up a = a) (rb : Uf.at_ up b = b) (hne : Uf.at_ l a ≠ Uf.at_ l b)
    (hxy : (x = Uf.at_ l a ∧ y = Uf.at_ l b) ∨ (x = Uf.at_ l b ∧ y = Uf.at_ l a)) (h' : UfAt B w' g u s n (up.set b a) (sz.set a (Uf.at_ sz a + Uf.at_ sz b))) : UfRep B w' g u s n (Uf.merge l x y) :=
  ⟨by rw [Uf.merge_length]; exact hn, _, _, _, h', t.link a b x y (by omega) (by omega) ra rb hne hxy⟩

set_option maxHeartbeats 4000000 in
theorem join_any (B : Nat) (w : World) (g u s n : Nat) (l : List Nat) (h : UfRep B w g u s n l) (h200 : n ≤ 200) (i j : Nat) (hi : i < n) (hj : j < n) :
    Calls Try.prog 52 #[.pointer (some ⟨g, 0, none⟩), .int .i64 i, .int .i64 j] w fun e w' => ∃ r : Nat, e = .returned (.tuple #[.int .i64 r, .bool (Uf.at_ l i != Uf.at_ l j)]) ∧ UfRep B w' g u s n (Uf.merge l (Uf.at_ l i) (Uf.at_ l j)) ∧ Keeps (fun k => k = u ∨ k = s) w w' := by
  obtain ⟨hn, up, sz, d, h, t⟩ := h
  go_enter Try.func52, Try.ntmps52
  go_wp2_with fail
  refine (head_any B _ g u s n up sz l d h t hn i hi).mono ?_
  rintro e w1 ⟨a, up1, rfl, h1, t1, ha, ra, la, -, k1⟩
  go_wp2_with fail
  refine (head_any B _ g u s n up1 sz l d h1 t1 hn j hj).mono ?_
  rintro e w2 ⟨b, up2, rfl, h2, t2, hb, rb, lb, hr, k2⟩
  have ra2 := hr a ra
  have k12 : Keeps (fun k => k = u ∨ k = s) w w2 := (k1.trans k2).mono (fun i hi => .inl hi)
  clear h1 t1 h t ra k1 k2 hr
  by_cases hab : a = b
  · subst hab
    have hs : Uf.at_ l i = Uf.at_ l j := la.symm.trans lb
    have hbf : (Uf.at_ l i != Uf.at_ l j) = false := by simp [hs]
    have HS := Lib.hid hs
    have HBF := Lib.hid hbf
    have hq : ((a : Int) == (a : Int)) = true := by simp
    clear hs hbf la lb ra2 rb
    go_wp2
    go_ret2
    exact ⟨a, by rw [HBF.out]; rfl, by rw [HS.out, merge_same]; exact ⟨hn, up2, sz, d, h2, t2⟩, k12⟩
  · have hne : Uf.at_ l a ≠ Uf.at_ l b := fun e => hab ((t2.head (by omega) (by omega) ra2 rb).2 e)
    have hbf : (Uf.at_ l i != Uf.at_ l j) = true := by rw [← la, ← lb]; simpa using hne
    have HBF := Lib.hid hbf
    have hq : ((a : Int) == (b : Int)) = false := by rw [beq_eq_false_iff_ne]; omega
    have hsl : sz.length = n := by rw [t2.sl, hn]
    have hul : up2.length = n := by rw [t2.ul, hn]
    have ca := nat_cell h2.sz a ha hsl
    have cb := nat_cell h2.sz b hb hsl
    have s1 : Uf.at_ sz a ≤ 200 := by rw [t2.size a (by omega) ra2]; exact Nat.le_trans List.count_le_length (by omega)
    have s2 : Uf.at_ sz b ≤ 200 := by rw [t2.size b (by omega) rb]; exact Nat.le_trans List.count_le_length (by omega)
    obtain ⟨sa, hsa⟩ : ∃ sa, sa = Uf.at_ sz a := ⟨_, rfl⟩
    obtain ⟨sb, hsb⟩ : ∃ sb, sb = Uf.at_ sz b := ⟨_, rfl⟩
    rw [← hsa] at ca s1
    rw [← hsb] at cb s2
    have c0 := h2.blk.cell 0
    have c1 := h2.blk.cell 1
    simp only [List.getElem?_cons_succ, List.getElem?_cons_zero] at c0 c1
    have HU := Lib.hid hul
    have HSL := Lib.hid hsl
    have HSA := Lib.hid hsa
    have HSB := Lib.hid hsb
    have HNE := Lib.hid hne
    have HLA := Lib.hid la
    have HLB := Lib.hid lb
    have HRA := Lib.hid ra2
    have HRB := Lib.hid rb
    clear hbf hul hsl hsa hsb hne la lb ra2 rb
    by_cases hlt : sa < sb
    · have hq2 : decide ((sa : Int) < (sb : Int)) = true := by simp; omega
      have hug := h2.ug
      have hsg := h2.sg
      have hap := h2.apart
      have hw : IntKind.i64.wrap ((↑sb : Int) + ↑sa) = ((↑sb : Int) + ↑sa) := IntWalk.i64_in _ (by omega)
      go_wp2
      go_quiet (fail)
      go_wp2_with (refine wpl_set_own (w := w2.drewN nq) h2.up a (.int .i64 b) (by kernel_rfl) ha rfl rfl rfl rfl rfl rfl ?_; intro w3 hown3 hg3)
      rw [← nats_set] at hown3
      have hk3 : Keeps (fun k => k = u) w2 w3 := ((Keeps.of_grown hg3).undrewN).mono (fun i hi => by injection hi)
      have hu3 : UfAt B w3 g u s n (up2.set a b) sz := ⟨h2.blk.keeps hk3 (fun e => hug e.symm), h2.base, hown3, own_keeps h2.sz hk3 (fun b hb e => by injection hb with hb; exact hap (e.symm.trans hb.symm)), h2.apart⟩
      have e0 := hu3.blk.cell 1
      simp only [List.getElem?_cons_succ, List.getElem?_cons_zero] at e0
      have ea := nat_cell hu3.sz b hb HSL.out
      have eb := nat_cell hu3.sz a ha HSL.out
      rw [← HSB.out] at ea
      rw [← HSA.out] at eb
      clear c0 c1 ca cb hown3 hg3
      go_wp2
      (refine still_last (by kernel_rfl) (by kernel_rfl) ?_; simp only [List.length_cons, List.length_nil, Nat.reduceAdd, Nat.reduceSub, List.take_succ_cons, List.take_zero, List.drop_succ_cons, List.drop_zero]; repeat still_step; try refine wpStill_nil ?_)
      refine wpl_set_own (w := w3.drewN 1) hu3.sz b (.int .i64 ((sb + sa : Nat) : Int)) (by kernel_rfl) hb rfl rfl rfl rfl rfl rfl ?_
      intro w4 hown4 hg4
      rw [← nats_set] at hown4
      have hk4 : Keeps (fun k => k = s) w3 w4 := ((Keeps.of_grown hg4).undrewN).mono (fun i hi => by injection hi)
      have hu4 : UfAt B w4 g u s n (up2.set a b) (sz.set b (sb + sa)) := ⟨hu3.blk.keeps hk4 (fun e => hsg e.symm), hu3.base, own_keeps hu3.up hk4 (fun b hb e => by injection hb with hb; exact hap (hb.trans e)), hown4, hu3.apart⟩
      clear e0 ea eb hown4 hg4
      go_wp2
      go_ret2
      refine ⟨b, by rw [HBF.out]; rfl, ?_, k12.trans ((hk3.mono (fun i hi => .inl hi)).trans (hk4.mono (fun i hi => .inr hi)))⟩
      rw [← HLA.out, ← HLB.out]
      refine link_rep hn h2 t2 b a _ _ hb ha HRB.out HRA.out (Ne.symm HNE.out) (.inr ⟨rfl, rfl⟩) ?_
      rw [← HSA.out, ← HSB.out]
      exact hu4
    · have hq2 : decide ((sa : Int) < (sb : Int)) = false := by simp; omega
      have hug := h2.ug
      have hsg := h2.sg
      have hap := h2.apart
      have hw : IntKind.i64.wrap ((↑sa : Int) + ↑sb) = ((↑sa : Int) + ↑sb) := IntWalk.i64_in _ (by omega)
      go_wp2
      go_quiet (fail)
      go_wp2_with (refine wpl_set_own (w := w2.drewN nq) h2.up b (.int .i64 a) (by kernel_rfl) hb rfl rfl rfl rfl rfl rfl ?_; intro w3 hown3 hg3)
      rw [← nats_set] at hown3
      have hk3 : Keeps (fun k => k = u) w2 w3 := ((Keeps.of_grown hg3).undrewN).mono (fun i hi => by injection hi)
      have hu3 : UfAt B w3 g u s n (up2.set b a) sz := ⟨h2.blk.keeps hk3 (fun e => hug e.symm), h2.base, hown3, own_keeps h2.sz hk3 (fun b hb e => by injection hb with hb; exact hap (e.symm.trans hb.symm)), h2.apart⟩
      have e0 := hu3.blk.cell 1
      simp only [List.getElem?_cons_succ, List.getElem?_cons_zero] at e0
      have ea := nat_cell hu3.sz a ha HSL.out
      have eb := nat_cell hu3.sz b hb HSL.out
      rw [← HSA.out] at ea
      rw [← HSB.out] at eb
      clear c0 c1 ca cb hown3 hg3
      go_wp2
      (refine still_last (by kernel_rfl) (by kernel_rfl) ?_; simp only [List.length_cons, List.length_nil, Nat.reduceAdd, Nat.reduceSub, List.take_succ_cons, List.take_zero, List.drop_succ_cons, List.drop_zero]; repeat still_step; try refine wpStill_nil ?_)
      refine wpl_set_own (w := w3.drewN 1) hu3.sz a (.int .i64 ((sa + sb : Nat) : Int)) (by kernel_rfl) ha rfl rfl rfl rfl rfl rfl ?_
      intro w4 hown4 hg4
      rw [← nats_set] at hown4
      have hk4 : Keeps (fun k => k = s) w3 w4 := ((Keeps.of_grown hg4).undrewN).mono (fun i hi => by injection hi)
      have hu4 : UfAt B w4 g u s n (up2.set b a) (sz.set a (sa + sb)) := ⟨hu3.blk.keeps hk4 (fun e => hsg e.symm), hu3.base, own_keeps hu3.up hk4 (fun b hb e => by injection hb with hb; exact hap (hb.trans e)), hown4, hu3.apart⟩
      clear e0 ea eb hown4 hg4
      go_wp2
      go_ret2
      refine ⟨a, by rw [HBF.out]; rfl, ?_, k12.trans ((hk3.mono (fun i hi => .inl hi)).trans (hk4.mono (fun i hi => .inr hi)))⟩
      rw [← HLA.out, ← HLB.out]
      refine link_rep hn h2 t2 a b _ _ ha hb HRA.out HRB.out HNE.out (.inl ⟨rfl, rfl⟩) ?_
      rw [← HSA.out, ← HSB.out]
      exact hu4
end Go.Proofs.Ytphbegadddamgaa
