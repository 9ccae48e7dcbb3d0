/-
  MhpMore, walked.
-/
import Derived.Test.YtniekhedpdkmiaaDoorMhNo
namespace Go.Proofs.YtniekhedpdkmiaaDoor
set_option linter.unusedVariables false
set_option linter.unusedSimpArgs false
open Go.RowKit

theorem Parts.three {w : World} {a b c : Value} {p q r : St.P} (h1 : IsP w a p) (h2 : IsP w b q) (h3 : IsP w c r) : Parts w [a, b, c] [p, q, r] :=
  ⟨rfl, fun j v hv => by
    match j, hv with
    | 0, hv => cases hv; exact ⟨_, rfl, h1⟩
    | 1, hv => cases hv; exact ⟨_, rfl, h2⟩
    | 2, hv => cases hv; exact ⟨_, rfl, h3⟩⟩
theorem St.cat_three (p q r : St.P) : St.cat [p, q, r] = p ++ (q ++ r) := by
  show p ++ (q ++ (r ++ St.P.nil)) = _
  rw [St.P.append_nil]
theorem Parts.step {w w' : World} {vs : List Value} {ps : List St.P} (h : Parts w vs ps) (hb : Below w.heap.size w w') : Parts w' vs ps :=
  ⟨h.1, fun j v hv => by
    obtain ⟨p, h1, h2⟩ := h.2 j v hv
    exact ⟨p, h1, h2.step hb⟩⟩
/-- three put together -/
theorem concat_three {w : World} {a b c : Value} {p q r : St.P} (h1 : IsP w a p) (h2 : IsP w b q) (h3 : IsP w c r) (hsz : p.size + q.size + r.size ≤ 1099511627) :
    Calls Tryd.prog 26 #[.slice (some ⟨w.heap.size, 0, none⟩) 3 3] (w.alloc (.cells #[a, b, c] 34)) fun e w' => ∃ A n c, e = .returned (.slice A n c) ∧ IsP w' (.slice A n c) (p ++ (q ++ r)) ∧ Below w.heap.size w w' := by
  have hb : Below w.heap.size w (w.alloc (.cells #[a, b, c] 34)) := below_alloc (Below.refl _ _) _
  have hp := (Parts.three h1 h2 h3).step hb
  refine (concat_any [a, b, c] [p, q, r] _ _ (SlV.lit w [a, b, c] 34 1 3 rfl (by decide)) hp ?_).mono ?_
  · unfold St.len
    rw [St.cat_three, St.P.length_append, St.P.length_append]
    have := p.length_le
    have := q.length_le
    have := r.length_le
    omega
  · rintro e w' ⟨u, rfl, h, hb'⟩
    rw [St.cat_three] at h
    obtain ⟨A, n, c, rfl, -⟩ := id h
    exact ⟨A, n, c, rfl, h, below_next hb' hb⟩

set_option maxHeartbeats 4000000 in
theorem mhpMore_walk (w : World) (A0 A1 A2 : Option Addr) (n0 c0 n1 c1 n2 c2 : Nat) (p q r : St.P) (hT : Tab w) (h0 : IsP w (.slice A0 n0 c0) p) (h1 : IsP w (.slice A1 n1 c1) q) (h2 : IsP w (.slice A2 n2 c2) r) (hs : p.size + q.size + r.size ≤ 1048576) :
    Calls Tryd.prog 8 #[.slice A0 n0 c0, .slice A1 n1 c1, .slice A2 n2 c2] w fun e w' => e = .returned (.bool true) ∧ Below w.heap.size w w' := by
  have hmore := St.pairs_more p q r [] .bad .bad .nil
  have HM := Lib.hid hmore
  clear hmore
  obtain ⟨X, hX⟩ : ∃ X, X = St.pairs (p ++ (St.P.cons 5 [] .bad .bad q .nil .nil ++ r)) := ⟨_, rfl⟩
  obtain ⟨Y, hY⟩ : ∃ Y, Y = St.pairs (p ++ (q ++ r)) := ⟨_, rfl⟩
  have HX := Lib.hid (And.intro hX hY)
  clear hX hY
  have zX : (p ++ (St.P.cons 5 [] .bad .bad q .nil .nil ++ r)).size ≤ 1099511627776 := by simp only [St.P.size_append, St.P.size, Ex.X.leaves]; omega
  have zY : (p ++ (q ++ r)).size ≤ 1099511627776 := by simp only [St.P.size_append]; omega
  go_enter Tryd.func8, Tryd.ntmps8
  go_wp2_with fail
  refine (alive20_any _ hT).mono ?_
  rintro e w1 ⟨rfl, hb1⟩
  replace h0 := h0.step hb1
  replace h1 := h1.step hb1
  replace h2 := h2.step hb1
  replace hT := hT.step hb1
  go_wp2_with fail
  refine (finish_any _ _ _ _).mono ?_
  rintro e w2 ⟨rfl, hb2⟩
  have f2 := IsP.lit (PC.kid 5 (h1.step hb2)) (by decide)
  have b2 := below_next (below_alloc (Below.refl w2.heap.size w2) (.cells (stcells 5 ⟨#[]⟩ xzeros xzeros A1 n1 c1 none 0 0).toArray 40)) hb2
  replace h0 := h0.step b2
  replace h1 := h1.step b2
  replace h2 := h2.step b2
  replace hT := hT.step b2
  replace hb1 := below_next b2 hb1
  clear hb2 b2
  obtain ⟨Q2, hQ2⟩ : ∃ Q2, Q2 = w2.heap.size := ⟨_, rfl⟩
  simp only [xzeros, stcells, xcells, List.cons_append, List.nil_append] at f2 h0 h1 h2 hT hb1 ⊢
  go_wp2_with fail
  rw [← hQ2] at f2 ⊢
  have e2 : w2.heap.size + 1 = (w2.alloc (.cells #[.int .i64 5, .string ⟨#[]⟩, .int .i64 0, .int .i64 0, .string ⟨#[]⟩, .slice none 0 0, .int .i64 0, .int .i64 0, .string ⟨#[]⟩, .slice none 0 0, .slice A1 n1 c1, .slice none 0 0] 40)).heap.size := by simp
  rw [hQ2, e2, ← hQ2]
  generalize (w2.alloc (.cells #[.int .i64 5, .string ⟨#[]⟩, .int .i64 0, .int .i64 0, .string ⟨#[]⟩, .slice none 0 0, .int .i64 0, .int .i64 0, .string ⟨#[]⟩, .slice none 0 0, .slice A1 n1 c1, .slice none 0 0] 40)) = w3 at f2 h0 h1 h2 hT hb1 ⊢
  clear hQ2 e2
  refine (concat_three h0 f2 h2 (by simp only [St.P.size, Ex.X.leaves]; omega)).mono ?_
  rintro e w4 ⟨A4, n4, c4, rfl, h4, hb4⟩
  replace h0 := h0.step hb4
  replace h1 := h1.step hb4
  replace h2 := h2.step hb4
  replace hT := hT.step hb4
  replace hb1 := below_next hb4 hb1
  clear hb4 f2
  go_wp2_with fail
  refine (isP_pairs h4 hT zX).mono ?_
  rintro e w5 ⟨A5, c5, rfl, h5, hb5⟩
  rw [← HX.out.1] at h5
  rw [← HX.out.1]
  replace h0 := h0.step hb5
  replace h1 := h1.step hb5
  replace h2 := h2.step hb5
  replace hT := hT.step hb5
  replace hb1 := below_next hb5 hb1
  clear hb5 h4
  go_wp2_with fail
  refine (concat_three h0 h1 h2 (by omega)).mono ?_
  rintro e w6 ⟨A6, n6, c6, rfl, h6, hb6⟩
  replace h5 := h5.below hb6
  replace hT := hT.step hb6
  replace hb1 := below_next hb6 hb1
  clear hb6 h0 h1 h2
  go_wp2_with fail
  refine (isP_pairs h6 hT zY).mono ?_
  rintro e w7 ⟨A7, c7, rfl, h7, hb7⟩
  rw [← HX.out.2] at h7 ⊢
  replace h5 := h5.below hb7
  replace hb1 := below_next hb7 hb1
  clear hb7 hT h6 zX zY
  obtain ⟨_, _, e5, hle5, hm5, hlen5, hc5⟩ := h5
  cases e5
  unfold maxLen at hm5
  clear hlen5
  go_wp2_with fail
  go_loopw [29] (fun i wr => ∃ k : Nat, k ≤ X.length ∧ i = .int .i64 k ∧ Below w7.heap.size w7 wr) (fun i _ => X.length - (intOf i).toNat)
  case atStart => exact ⟨0, Nat.zero_le _, rfl, Below.refl _ _⟩
  case round =>
    obtain ⟨k, hk, rfl, hb⟩ := hrel
    by_cases hlt : k < X.length
    · obtain ⟨⟨x1, x2⟩, hx⟩ : ∃ x, X[k]? = some x := ⟨_, List.getElem?_eq_getElem hlt⟩
      obtain ⟨gx1, gx2⟩ := paircs_get _ _ _ hx
      obtain ⟨b, o, rfl, hbb, hcc⟩ := hc5.at_ (fun e => by rw [e] at gx1; simp at gx1)
      have d1 := (hb.cell (p := ⟨b, o + k * 2, none⟩) hbb).trans (hcc _ _ gx1)
      have d2 := (hb.cell (p := ⟨b, o + (k * 2 + 1), none⟩) hbb).trans (hcc _ _ gx2)
      rw [← Nat.add_assoc] at d2
      have hmem : (x1, x2) ∈ Y := by
        rw [HX.out.2]
        refine HM.out _ ?_
        have e := HX.out.1
        rw [show St.P.cons 5 [] Ex.X.bad Ex.X.bad q St.P.nil St.P.nil ++ r = St.P.cons 5 [] .bad .bad q .nil .nil ++ r from rfl, ← e]
        exact List.mem_of_getElem? hx
      have HY := Lib.hid hmem
      have h7r := (h7.below hb).alloc (.cells #[.int .i64 (x1 : Int), .int .i64 (x2 : Int)] 47)
      have hb' := below_alloc hb (.cells #[.int .i64 (x1 : Int), .int .i64 (x2 : Int)] 47)
      clear hc5 hcc hx gx1 gx2 hmem
      go_wp2_with fail
      refine (contains_pair _ Y x1 x2 _ h7r HY.out).mono ?_
      rintro e w9 ⟨rfl, hb9⟩
      have hb9' := below_next hb9 hb'
      go_wp2
      go_roundw
      case rel => exact ⟨k + 1, by omega, by go_num, hb9'⟩
      case measure => simp [intOf]; omega
    · go_wp2
      go_ret
      exact ⟨rfl, hb1.trans (hb.mono hb1.size)⟩
end Go.Proofs.YtniekhedpdkmiaaDoor
