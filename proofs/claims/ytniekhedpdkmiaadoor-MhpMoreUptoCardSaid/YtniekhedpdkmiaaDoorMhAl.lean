/-
  What the laws of mhp hang on: that the package is alive.
-/
import Derived.Test.YtniekhedpdkmiaaDoorStCm
import Derived.Test.YtniekhedpdkmiaaDoorPrs
import Derived.Test.YtniekhedpdkmiaaDoorBs10
namespace Go.Proofs.YtniekhedpdkmiaaDoor
set_option linter.unusedVariables false
set_option linter.unusedSimpArgs false
open Go.RowKit

namespace St
def sto (c v : Int) : P := .cons 3 [] (.num c) (.num v) .nil .nil .nil
def asy (p : P) : P := .cons 4 [] .bad .bad p .nil .nil
def alive : P := asy (sto 0 1) ++ (fin (asy (sto 1 1)) ++ sto 2 2)
theorem labels_alive : labels alive = 3 := by decide
theorem news_alive (x : Nat) : news 0 alive x ↔ x = 0 := by
  simp [alive, asy, sto, fin, P.cons_append, P.nil_append, news, both, news1, none_, labels, lab1, span]
theorem noted_alive (i j : Nat) : noted 0 none_ alive i j ↔ i = 0 ∧ (j = 1 ∨ j = 2) := by
  simp [alive, asy, sto, fin, P.cons_append, P.nil_append, noted, in1, both, news, news1, none_, labels, lab1, span, mixed]
  omega
theorem open_alive : open_ alive = [0] := by
  unfold open_
  rw [labels_alive, if_neg (by decide)]
  have h : news 0 alive = fun x => x = 0 := funext fun x => propext (news_alive x)
  rw [h]
  simp [listOf, List.range_succ]
theorem pairs_alive : pairs alive = [(0, 1), (0, 2)] := by
  unfold pairs
  rw [labels_alive, if_neg (by decide)]
  have h : noted 0 none_ alive = fun i j => i = 0 ∧ (j = 1 ∨ j = 2) := funext fun i => funext fun j => propext (noted_alive i j)
  rw [h]
  simp [pairsOf, listOf, List.range_succ]
end St

theorem IsP.lit {w : World} {cs : List Value} {n : Nat} {p : St.P} (h : PC w.heap.size w cs n p) (hn : n ≤ 1000) : IsP (w.alloc (.cells cs.toArray 40)) (.slice (some ⟨w.heap.size, 0, none⟩) n n) p :=
  IsP.of_blk (PC.keep h (by simp) fun a ha => (below_alloc (Below.refl w.heap.size w) (.cells cs.toArray 40)).cell ha) (Blk.new w 40 cs) hn
theorem PC.sto (w : World) (c v : Int) (hc : Ex.rng c) (hv : Ex.rng v) : PC w.heap.size w (stcells 3 ⟨#[]⟩ (xcells 1 c ⟨#[]⟩ none 0 0) (xcells 1 v ⟨#[]⟩ none 0 0) none 0 0 none 0 0) 1 (St.sto c v) :=
  PC.one ⟨Nat.le_refl _, Nat.zero_le _, Nat.le_refl _, Nat.zero_le _⟩ (xnum w c hc) (xnum w v hv) (.nil _) (.nil _)
theorem PC.kid {w : World} {D : Option Addr} {dl dc : Nat} {p : St.P} (k : Int) (h : IsP w (.slice D dl dc) p) : PC w.heap.size w (stcells k ⟨#[]⟩ xzeros xzeros D dl dc none 0 0) 1 (.cons k [] .bad .bad p .nil .nil) := by
  obtain ⟨A, n, c, e, h1, h2, h3⟩ := h
  injection e with e1 e2 e3
  subst e1 e2 e3
  exact PC.one ⟨h1, h2, Nat.le_refl _, Nat.zero_le _⟩ (xbad w) (xbad w) h3 (.nil _)
theorem isP_pairs {w : World} {D : Option Addr} {dl dc : Nat} {p : St.P} (h : IsP w (.slice D dl dc) p) (hT : Tab w) (hs : p.size ≤ 1099511627776) :
    Calls Tryd.prog 22 #[.slice D dl dc] w fun e w' => ∃ A c, e = .returned (.slice A (St.pairs p).length c) ∧ SlV w' 2 (.slice A (St.pairs p).length c) (St.pairs p).length (paircs (St.pairs p)) ∧ Below w.heap.size w w' := by
  obtain ⟨A, n, c, e, h1, h2, h3⟩ := h
  injection e with e1 e2 e3
  subst e1 e2 e3
  refine (pairs_any p w w.heap.size dl dc D (Nat.le_refl _) h3 h1 h2 hs hT).mono ?_
  rintro e w' ⟨u, rfl, h, hb⟩
  obtain ⟨A, c, rfl, -⟩ := id h
  exact ⟨A, c, rfl, h, hb⟩
theorem isP_open {w : World} {D : Option Addr} {dl dc : Nat} {p : St.P} (h : IsP w (.slice D dl dc) p) (hT : Tab w) (hs : p.size ≤ 1099511627776) :
    Calls Tryd.prog 24 #[.slice D dl dc] w fun e w' => ∃ A c, e = .returned (.slice A (St.open_ p).length c) ∧ SlV w' 1 (.slice A (St.open_ p).length c) (St.open_ p).length (ilist (St.open_ p)) ∧ Below w.heap.size w w' := by
  obtain ⟨A, n, c, e, h1, h2, h3⟩ := h
  injection e with e1 e2 e3
  subst e1 e2 e3
  refine (open_any p w w.heap.size dl dc D (Nat.le_refl _) h3 h1 h2 hs hT).mono ?_
  rintro e w' ⟨u, rfl, h, hb⟩
  obtain ⟨A, c, rfl, -⟩ := id h
  exact ⟨A, c, rfl, h, hb⟩
theorem equal_pairs_call (v v' : Value) (xs ys : List (Nat × Nat)) (b : Bool) (hb : decide (xs = ys) = b) (w : World) (h : SlV w 2 v xs.length (paircs xs)) (h' : SlV w 2 v' ys.length (paircs ys)) :
    Calls Tryd.prog 25 #[v, v'] w fun e w' => e = .returned (.bool b) ∧ Below w.heap.size w w' := by
  subst hb
  exact (equal_pairs v v' xs ys w h h').mono fun e w' ⟨h1, m, h2⟩ => ⟨h1, by rw [h2]; exact below_drewN (Below.refl _ _) m⟩

set_option maxHeartbeats 4000000 in
theorem alive20_any (w : World) (hT : Tab w) : Calls Tryd.prog 19 #[] w fun e w' => e = .returned (.bool true) ∧ Below w.heap.size w w' := by
  have r0 : Ex.rng 0 := by unfold Ex.rng; omega
  have r1 : Ex.rng 1 := by unfold Ex.rng; omega
  have r2 : Ex.rng 2 := by unfold Ex.rng; omega
  have HR := Lib.hid (And.intro r0 (And.intro r1 r2))
  clear r0 r1 r2
  go_enter Tryd.func19, Tryd.ntmps19
  go_wp2_with fail
  refine (store_any 0 1 _).mono ?_
  rintro e w1 ⟨rfl, hb1⟩
  have p1 := IsP.lit (PC.sto w1 0 1 HR.out.1 HR.out.2.1) (by decide)
  have k1 := below_alloc hb1 (.cells (stcells 3 ⟨#[]⟩ (xcells 1 0 ⟨#[]⟩ none 0 0) (xcells 1 1 ⟨#[]⟩ none 0 0) none 0 0 none 0 0).toArray 40)
  clear hb1
  simp only [xzeros, stcells, xcells, List.cons_append, List.nil_append] at p1 k1 ⊢
  go_wp2_with fail
  refine (async_any _ _ _ _).mono ?_
  rintro e w2 ⟨rfl, hb2⟩
  have p2 := PC.kid 4 (p1.step hb2)
  have k2 := below_next hb2 k1
  clear p1 k1 hb2
  go_wp2_with fail
  refine (store_any 1 1 _).mono ?_
  rintro e w3 ⟨rfl, hb3⟩
  have q2 := p2.step hb3
  have k3 := below_next hb3 k2
  have p3 := IsP.lit (PC.sto w3 1 1 HR.out.2.1 HR.out.2.1) (by decide)
  have b3 := below_alloc (Below.refl w3.heap.size w3) (.cells (stcells 3 ⟨#[]⟩ (xcells 1 1 ⟨#[]⟩ none 0 0) (xcells 1 1 ⟨#[]⟩ none 0 0) none 0 0 none 0 0).toArray 40)
  have q3 := q2.step b3
  have k3' := below_next b3 k3
  clear p2 k2 hb3 q2 b3 k3
  simp only [xzeros, stcells, xcells, List.cons_append, List.nil_append] at p3 q3 k3' ⊢
  go_wp2_with fail
  refine (async_any _ _ _ _).mono ?_
  rintro e w4 ⟨rfl, hb4⟩
  have q4 := q3.step hb4
  have k4 := below_next hb4 k3'
  have p4 := IsP.lit (PC.kid 4 (p3.step hb4)) (by decide)
  have b4 := below_alloc (Below.refl w4.heap.size w4) (.cells (stcells 4 ⟨#[]⟩ xzeros xzeros (some ⟨w3.heap.size, 0, none⟩) 1 1 none 0 0).toArray 40)
  have q5 := q4.step b4
  have k5 := below_next b4 k4
  clear p3 q3 k3' hb4 q4 k4 b4
  simp only [xzeros, stcells, xcells, List.cons_append, List.nil_append] at p4 q5 k5 ⊢
  go_wp2_with fail
  refine (finish_any _ _ _ _).mono ?_
  rintro e w6 ⟨rfl, hb6⟩
  have q6 := q5.step hb6
  have k6 := below_next hb6 k5
  have p6 := PC.kid 5 (p4.step hb6)
  clear q5 k5 p4 hb6
  go_wp2_with fail
  refine (store_any 2 2 _).mono ?_
  rintro e w7 ⟨rfl, hb7⟩
  have p7 := ((q6.step hb7).append ((p6.step hb7).append (PC.sto w7 2 2 HR.out.2.2 HR.out.2.2)))
  have k7 := below_next hb7 k6
  have p8 := IsP.lit p7 (by decide)
  have k8 := below_alloc k7 (.cells (stcells 4 ⟨#[]⟩ xzeros xzeros (some ⟨w1.heap.size, 0, none⟩) 1 1 none 0 0 ++ (stcells 5 ⟨#[]⟩ xzeros xzeros (some ⟨w4.heap.size, 0, none⟩) 1 1 none 0 0 ++ stcells 3 ⟨#[]⟩ (xcells 1 2 ⟨#[]⟩ none 0 0) (xcells 1 2 ⟨#[]⟩ none 0 0) none 0 0 none 0 0)).toArray 40)
  have hT8 := hT.step k8
  clear q6 k6 p6 hb7 p7 k7 hT
  obtain ⟨Q7, hQ7⟩ : ∃ Q7, Q7 = w7.heap.size := ⟨_, rfl⟩
  simp only [xzeros, stcells, xcells, List.cons_append, List.nil_append] at p8 k8 hT8 ⊢
  go_wp2_with fail
  have p8 : IsP _ _ St.alive := p8
  rw [← hQ7] at p8 ⊢
  refine (isP_pairs p8 hT8 (by decide)).mono ?_
  rintro e w9 ⟨A9, c9, rfl, h9, hb9⟩
  rw [St.pairs_alive] at h9 ⊢
  have p9 := p8.step hb9
  have k9 := below_next hb9 k8
  have hT9 := hT8.step hb9
  have n9 := SlV.lit w9 (paircs [(0, 1), (0, 2)]) 47 2 2 rfl (by decide)
  have b9 := below_alloc (Below.refl w9.heap.size w9) (.cells (paircs [(0, 1), (0, 2)]).toArray 47)
  have h9' := h9.below b9
  have p9' := p9.step b9
  have k9' := below_next b9 k9
  have hT9' := hT9.step b9
  clear p8 k8 hT8 hb9 h9 p9 k9 hT9 b9 hQ7
  simp only [paircs, pairc, List.flatMap_cons, List.flatMap_nil, List.cons_append, List.nil_append, List.append_nil] at n9 h9' p9' k9' hT9' ⊢
  go_wp2_with fail
  refine (equal_pairs_call _ _ [(0, 1), (0, 2)] [(0, 1), (0, 2)] true (by decide) _ h9' n9).mono ?_
  rintro e w10 ⟨rfl, hb10⟩
  have p10 := p9'.step hb10
  have k10 := below_next hb10 k9'
  have hT10 := hT9'.step hb10
  clear p9' k9' hT9' h9' n9 hb10
  go_wp2_with fail
  refine (isP_open p10 hT10 (by decide)).mono ?_
  rintro e w11 ⟨A11, c11, rfl, h11, hb11⟩
  rw [St.open_alive] at h11 ⊢
  have k11 := below_next hb11 k10
  have n11 := SlV.lit w11 (ints .i64 [0]) 3 1 1 rfl (by decide)
  have b11 := below_alloc (Below.refl w11.heap.size w11) (.cells (ints .i64 [0]).toArray 3)
  have h11' := h11.below b11
  have k11' := below_next b11 k11
  clear p10 k10 hT10 hb11 h11 k11 b11
  simp only [ints, ilist, List.map_cons, List.map_nil] at n11 h11' k11' ⊢
  go_wp2_with fail
  refine (equal_i64_call _ _ [0] [0] true (by decide) _ h11' n11).mono ?_
  rintro e w12 ⟨rfl, hb12⟩
  have k12 := below_next hb12 k11'
  clear h11' n11 k11' hb12
  go_wp2
  go_ret
  exact ⟨rfl, k12⟩
end Go.Proofs.YtniekhedpdkmiaaDoor
