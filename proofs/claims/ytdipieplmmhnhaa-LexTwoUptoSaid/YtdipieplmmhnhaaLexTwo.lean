/-
  Tokens of two texts with a blank between: the law, walked.
-/
import Derived.Test.YtdipieplmmhnhaaLexBl
namespace Go.Proofs.Ytdipieplmmhnhaa
set_option linter.unusedVariables false
set_option linter.unusedSimpArgs false
open Go.RowKit

namespace Lx
theorem two_list (s t : ByteArray) : (s ++ ⟨#[32]⟩ ++ t).data.toList = s.data.toList ++ 32 :: t.data.toList := by simp
theorem tkcs_append (a b : List Tk) : tkcs (a ++ b) = tkcs a ++ tkcs b := by simp [tkcs]
theorem tkcs_take (a b : List Tk) : (tkcs (a ++ b)).take (a.length * 3) = tkcs a := by
  rw [tkcs_append, List.take_left' (tkcs_length a)]
theorem sl_take {w : World} {A : Option Addr} {n c : Nat} {a b : List Tk} (h : SlV w 3 (.slice A n c) (a ++ b).length (tkcs (a ++ b))) : SlV w 3 (.slice A a.length c) a.length (tkcs a) := by
  obtain ⟨A', c', he, h1, h2, h3, h4⟩ := h
  injection he with e1 e2 e3
  subst e1 e3
  rw [List.length_append] at h1
  refine ⟨A, c, rfl, by omega, h2, tkcs_length a, ?_⟩
  rw [← tkcs_take a b]
  exact h4.take _
end Lx

set_option maxRecDepth 100000 in
set_option maxHeartbeats 8000000 in
theorem lexTwo_walk (s t : ByteArray) (w : World) (hs : s.size + t.size ≤ 1048576) :
    Calls Try.prog 7 #[.string s, .string t] w fun e w' => e = .returned (.bool true) ∧ Below w.heap.size w w' := by
  obtain ⟨U, hU⟩ : ∃ U : ByteArray, U = s ++ ⟨#[32]⟩ ++ t := ⟨_, rfl⟩
  have hUl : U.data.toList = s.data.toList ++ 32 :: t.data.toList := by rw [hU, Lx.two_list]
  have hUs : U.size ≤ 4194304 := by
    have : U.size = U.data.toList.length := by simp
    rw [this, hUl]
    simp
    omega
  have htwo := Lx.toks_two Lx.number (b := 32) rfl t.data.toList _ s.data.toList 0 (Nat.le_refl _)
  rw [← hUl] at htwo
  have hsh := Lx.toks_shift Lx.number (s.data.toList.length + 1) _ t.data.toList 0 (Nat.le_refl _)
  rw [show 0 + s.data.toList.length + 1 = 0 + (s.data.toList.length + 1) by omega, hsh] at htwo
  have hsl : s.data.toList.length = s.size := by simp
  rw [hsl] at htwo
  have c1 := fun w => tokens_any s w (by omega)
  have c2 := fun w => tokens_any t w (by omega)
  have c3 := fun w => tokens_any U w hUs
  have HU := Lib.hid hU
  clear hU hUl hUs hsh hsl
  rcases p1 : Lx.toks Lx.number 0 s.data.toList with k | l
  · rw [p1] at c1 htwo
    have p3 : Lx.toks Lx.number 0 U.data.toList = .error k := htwo
    rw [p3] at c3
    have C1 := Lib.hid c1
    have C2 := Lib.hid c2
    have C3 := Lib.hid c3
    clear c1 c2 c3 p1 p3 htwo
    rcases p2 : Lx.toks Lx.number 0 t.data.toList with k2 | m
    all_goals
      rw [p2] at C2
      clear p2
      go_enter Try.func7, Try.ntmps7
      go_wp2_with fail
      refine (alive10_any _).mono ?_
      rintro e w1 ⟨rfl, hb1⟩
      go_wp2_with fail
      refine (C1.out _).mono ?_
      rintro e w2 ⟨rfl, hb2⟩
      have hbw2 := below_next hb2 hb1
      clear hb1 hb2
      go_wp2_with fail
      refine (C2.out _).mono ?_
    · rintro e w3 ⟨rfl, hb3⟩
      have hbw3 := below_next hb3 hbw2
      clear hb3 hbw2
      go_wp2_with fail
      rw [← HU.out]
      refine (C3.out _).mono ?_
      rintro e w4 ⟨rfl, hb4⟩
      have hbw4 := below_next hb4 hbw3
      clear hb4 hbw3 C1 C2 C3 HU
      go_wp2
      go_ret
      exact ⟨rfl, hbw4⟩
    · rintro e w3 ⟨⟨v3, rfl, o3⟩, hb3⟩
      have hbw3 := below_next hb3 hbw2
      clear hb3 hbw2 o3
      go_wp2_with fail
      rw [← HU.out]
      refine (C3.out _).mono ?_
      rintro e w4 ⟨rfl, hb4⟩
      have hbw4 := below_next hb4 hbw3
      clear hb4 hbw3 C1 C2 C3 HU
      go_wp2
      go_ret
      exact ⟨rfl, hbw4⟩
  · rw [p1] at c1 htwo
    rcases p2 : Lx.toks Lx.number 0 t.data.toList with k2 | m
    · rw [p2] at c2 htwo
      have p3 : Lx.toks Lx.number 0 U.data.toList = .error (k2 + (s.size + 1)) := htwo
      rw [p3] at c3
      have hk2 := (Lx.toks_error Lx.number _ _ _ _ (Nat.le_refl _) p2).2
      have htl : t.data.toList.length = t.size := by simp
      rw [htl] at hk2
      have q1 : IntKind.i64.wrap ((k2 : Int) + (s.size : Int)) = (k2 : Int) + (s.size : Int) := IntWalk.i64_in _ (by omega)
      have q2 : IntKind.i64.wrap ((k2 : Int) + (s.size : Int) + 1) = (k2 : Int) + (s.size : Int) + 1 := IntWalk.i64_in _ (by omega)
      have q3 : (((k2 + (s.size + 1) : Nat) : Int) == (k2 : Int) + (s.size : Int) + 1) = true := by rw [beq_iff_eq]; omega
      have q4 : ((k2 : Int) + ((s.size : Int) + 1) == (k2 : Int) + (s.size : Int) + 1) = true := by rw [beq_iff_eq]; omega
      have C1 := Lib.hid c1
      have C2 := Lib.hid c2
      have C3 := Lib.hid c3
      clear c1 c2 c3 p1 p2 p3 htwo htl
      go_enter Try.func7, Try.ntmps7
      go_wp2_with fail
      refine (alive10_any _).mono ?_
      rintro e w1 ⟨rfl, hb1⟩
      go_wp2_with fail
      refine (C1.out _).mono ?_
      rintro e w2 ⟨⟨v2, rfl, o2⟩, hb2⟩
      have hbw2 := below_next hb2 hb1
      clear hb1 hb2 o2
      go_wp2_with fail
      refine (C2.out _).mono ?_
      rintro e w3 ⟨rfl, hb3⟩
      have hbw3 := below_next hb3 hbw2
      clear hb3 hbw2
      go_wp2_with fail
      rw [← HU.out]
      refine (C3.out _).mono ?_
      rintro e w4 ⟨rfl, hb4⟩
      have hbw4 := below_next hb4 hbw3
      clear hb4 hbw3 C1 C2 C3 HU
      go_wp2
      go_ret
      exact ⟨ret_bool (by first | rfl | simp | (simp; omega)), hbw4⟩
    · rw [p2] at c2 htwo
      have p3 : Lx.toks Lx.number 0 U.data.toList = .ok (l ++ m.map (Lx.shift (s.size + 1))) := htwo
      rw [p3] at c3
      obtain ⟨z1, -⟩ := Lx.toks_small p1
      obtain ⟨z2, -⟩ := Lx.toks_small p2
      have e1 : s.data.toList.length = s.size := by simp
      have e2 : t.data.toList.length = t.size := by simp
      rw [e1] at z1
      rw [e2] at z2
      have hfit := Lx.toks_fits Lx.number _ _ 0 m (Nat.le_refl _) p2
      have hat : ∀ x ∈ m, x.2.1 ≤ t.size := by
        have := Lx.fits_at m 0 _ hfit
        rw [e2, Nat.zero_add] at this
        exact this
      have HAT := Lib.hid hat
      have h5 := fun v v' w h h' => alike_any v v' l l w h h'
      have h6 : decide (l.map Lx.strip = l.map Lx.strip) = true := by simp
      rw [h6] at h5
      have hlen : (l ++ m.map (Lx.shift (s.size + 1))).length = l.length + m.length := by simp
      have HLN := Lib.hid hlen
      have C1 := Lib.hid c1
      have C2 := Lib.hid c2
      have C3 := Lib.hid c3
      have H5 := Lib.hid h5
      have q1 : IntKind.i64.wrap ((l.length : Int) + (m.length : Int)) = (l.length : Int) + (m.length : Int) := IntWalk.i64_in _ (by omega)
      clear c1 c2 c3 p1 p2 p3 htwo e1 e2 hfit hat h5 h6 hlen
      go_enter Try.func7, Try.ntmps7
      go_wp2_with fail
      refine (alive10_any _).mono ?_
      rintro e w1 ⟨rfl, hb1⟩
      go_wp2_with fail
      refine (C1.out _).mono ?_
      rintro e w2 ⟨⟨v2, rfl, o2⟩, hb2⟩
      have hbw2 := below_next hb2 hb1
      have s2 := SlV.of_own o2
      clear hb1 hb2 o2
      go_wp2_with fail
      refine (C2.out _).mono ?_
      rintro e w3 ⟨⟨v3, rfl, o3⟩, hb3⟩
      have hbw3 := below_next hb3 hbw2
      have s3 := SlV.of_own o3
      have s2' := s2.below hb3
      clear hb3 hbw2 s2 o3
      go_wp2_with fail
      rw [← HU.out]
      refine (C3.out _).mono ?_
      rintro e w4 ⟨⟨v4, rfl, o4⟩, hb4⟩
      have hbw4 := below_next hb4 hbw3
      have s4 := SlV.of_own o4
      have t2 := s2'.below hb4
      have t3 := s3.below hb4
      clear hb4 hbw3 s2' s3 o4 C1 C2 C3 HU
      obtain ⟨A2, d2, rfl, u2, u2', -, -⟩ := id t2
      obtain ⟨A3, d3, rfl, u3, u3', -, hc3⟩ := t3
      obtain ⟨A4, d4, he4, u4, u4', -, hc4⟩ := id s4
      subst he4
      rw [HLN.out] at u4 ⊢
      unfold maxLen at u2' u3' u4'
      go_wp2_with fail
      go_loopw [79] (fun i wr => ∃ q : Nat, q ≤ m.length ∧ i = .int .i64 q ∧ Below w4.heap.size w4 wr) (fun i _ => m.length - (intOf i).toNat)
      case atStart => exact ⟨0, Nat.zero_le _, rfl, Below.refl _ _⟩
      case round =>
        obtain ⟨q, hq, rfl, hbr⟩ := hrel
        by_cases hlt : q < m.length
        · obtain ⟨⟨x1, x2, x3⟩, hx⟩ : ∃ x, m[q]? = some x := ⟨_, List.getElem?_eq_getElem hlt⟩
          have hx2 := HAT.out _ (List.mem_of_getElem? hx)
          obtain ⟨g1, g2, g3⟩ := Lx.tkcs_get _ _ _ hx
          have hy : (l ++ m.map (Lx.shift (s.size + 1)))[l.length + q]? = some (x1, x2 + (s.size + 1), x3) := by
            rw [List.getElem?_append_right (by omega), Nat.add_sub_cancel_left, List.getElem?_map, hx]; rfl
          obtain ⟨f1, f2, f3⟩ := Lx.tkcs_get _ _ _ hy
          obtain ⟨b, o, rfl, hb, hcc⟩ := hc3.at_ (fun e => by rw [e] at g1; simp at g1)
          obtain ⟨b', o', rfl, hb', hcc'⟩ := hc4.at_ (fun e => by rw [e] at f1; simp at f1)
          have a1 := (hbr.cell (p := ⟨b, o + q * 3, none⟩) hb).trans (hcc _ _ g1)
          have a2 := (hbr.cell (p := ⟨b, o + (q * 3 + 1), none⟩) hb).trans (hcc _ _ g2)
          have a3 := (hbr.cell (p := ⟨b, o + (q * 3 + 2), none⟩) hb).trans (hcc _ _ g3)
          have hbr' : ∀ ob : Obj, Below w4.heap.size w4 (wr.alloc ob) := fun ob => below_alloc hbr ob
          have b1 := fun ob => ((hbr' ob).cell (p := ⟨b', o' + (l.length + q) * 3, none⟩) hb').trans (hcc' _ _ f1)
          have b2 := fun ob => ((hbr' ob).cell (p := ⟨b', o' + ((l.length + q) * 3 + 1), none⟩) hb').trans (hcc' _ _ f2)
          have b3 := fun ob => ((hbr' ob).cell (p := ⟨b', o' + ((l.length + q) * 3 + 2), none⟩) hb').trans (hcc' _ _ f3)
          rw [← Nat.add_assoc] at a2 a3
          simp only [← Nat.add_assoc] at b2 b3
          have eC : (((x2 + (s.size + 1) : Nat)) : Int) = (x2 : Int) + ((s.size : Int) + 1) := by omega
          simp only at a1 a2 a3 b1 b2 b3 hx2
          simp only [show x2 + s.size + 1 = x2 + (s.size + 1) from by omega, eC] at b2
          obtain ⟨X, hX⟩ : ∃ X : ByteArray, X = ⟨x3.toArray⟩ := ⟨_, rfl⟩
          rw [← hX] at a3
          simp only [← hX] at b3
          have r1 : IntKind.i64.wrap ((s.size : Int) + 1) = (s.size : Int) + 1 := IntWalk.i64_in _ (by omega)
          have r2 : IntKind.i64.wrap ((x2 : Int) + ((s.size : Int) + 1)) = (x2 : Int) + ((s.size : Int) + 1) := IntWalk.i64_in _ (by omega)
          have r3 : IntKind.i64.wrap ((l.length : Int) + (q : Int)) = (l.length : Int) + (q : Int) := IntWalk.i64_in _ (by omega)
          have r4 : ((l.length : Int) + (q : Int)).toNat = l.length + q := by omega
          have r5 : (0 : Int) ≤ (l.length : Int) + (q : Int) := by omega
          have r6 : (l.length : Int) + (q : Int) < ((l.length + m.length : Nat) : Int) := by omega
          have r7 : (l.length : Int) + (q : Int) < (l.length : Int) + (m.length : Int) := by omega
          clear hx g1 g2 g3 hy f1 f2 f3 hcc hcc' hX hc3 hc4 eC
          go_wp2_with fail
          go_quiet (fail)
          have hbf := hbr' (.cells #[.int .i64 x1, .int .i64 ((x2 : Int) + ((s.size : Int) + 1)), .string X] 39)
          clear r1 r2 r3 r4 a1 a2 a3 b1 b2 b3 hbr'
          go_wp2
          go_roundw
          case rel => exact ⟨q + 1, by omega, by go_num, below_drewN hbf _⟩
          case measure => simp [intOf]; omega
        · have hqm : q = m.length := by omega
          have sC := Lx.sl_take (s4.below hbr)
          have sA := t2.below hbr
          have hbe := below_self hbw4 hbr
          have r8 : (l.length : Int) ≤ (l.length : Int) + (m.length : Int) := by omega
          have r9 : l.length ≤ d4 := by omega
          clear hqm hc3 hc4 s4 t2
          go_wp2_with fail
          refine (H5.out _ _ _ sC sA).mono ?_
          rintro e w9 ⟨rfl, m9, rfl⟩
          clear sC sA
          go_wp2
          go_ret
          exact ⟨rfl, below_drewN hbe _⟩
end Go.Proofs.Ytdipieplmmhnhaa
