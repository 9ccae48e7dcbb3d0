/-
  No N: the law, walked.
-/
import Derived.Test.YtdipieplmmhnhaaSpLaws
namespace Go.Proofs.Ytdipieplmmhnhaa
set_option linter.unusedVariables false
set_option linter.unusedSimpArgs false
open Go.RowKit

theorem Sp.T.no_n_int (t : Sp.T) (a b c d : Int) (ha : 0 ≤ a ∧ a < t.size) (hb : 0 ≤ b ∧ b < t.size) (hc : 0 ≤ c ∧ c < t.size) (hd : 0 ≤ d ∧ d < t.size) (h1 : t.before a c = true) (h2 : t.before a d = true) (h3 : t.before b d = true) (h4 : t.away a b = true) (h5 : t.away c d = true) : t.away b c = false := by
  obtain ⟨a, rfl⟩ := Int.eq_ofNat_of_zero_le ha.1
  obtain ⟨b, rfl⟩ := Int.eq_ofNat_of_zero_le hb.1
  obtain ⟨c, rfl⟩ := Int.eq_ofNat_of_zero_le hc.1
  obtain ⟨d, rfl⟩ := Int.eq_ofNat_of_zero_le hd.1
  have ba : ∀ x y : Nat, x < t.size → y < t.size → (t.before x y = true ↔ t.bf x y) := fun x y hx hy => by
    unfold Sp.T.before
    rw [decide_eq_true_iff]
    simp only [Int.toNat_natCast]
    exact ⟨fun h => h.2, fun h => ⟨by omega, h⟩⟩
  have ap : ∀ x y : Nat, x < t.size → y < t.size → t.away x y = true → t.apart x y := fun x y hx hy h => by
    unfold Sp.T.away at h
    simp only [Bool.and_eq_true, Bool.not_eq_true', bne_iff_ne] at h
    refine ⟨fun e => h.1.1 (by rw [e]), fun h' => ?_, fun h' => ?_⟩
    · rw [← ba x y hx hy, h.1.2] at h'; cases h'
    · rw [← ba y x hy hx, h.2] at h'; cases h'
  rw [Bool.eq_false_iff]
  intro h6
  exact t.no_n a b c d (by omega) (by omega) (by omega) (by omega) ((ba _ _ (by omega) (by omega)).1 h1) ((ba _ _ (by omega) (by omega)).1 h2) ((ba _ _ (by omega) (by omega)).1 h3) (ap _ _ (by omega) (by omega) h4) (ap _ _ (by omega) (by omega) h5) (ap _ _ (by omega) (by omega) h6)

set_option maxRecDepth 100000 in
set_option maxHeartbeats 8000000 in
theorem spNoN_walk (w : World) (cs : List Value) (t : Sp.T) (a b c d : Int) (hT : TmR w.heap.size w cs t) (hn : t.size ≤ 4194304) :
    Calls Try.prog 11 #[.agg cs.toArray, .int .i64 a, .int .i64 b, .int .i64 c, .int .i64 d] w fun e w' => e = .returned (.bool true) ∧ Below w.heap.size w w' := by
  obtain ⟨a0, a1, a2, a3, A4, a5, a6, rfl, -, -⟩ := hT.form
  have hP := Blk.new w 26 (tcells a0 a1 a2 a3 A4 a5 a6)
  have s1 := hT.alloc (Nat.le_refl _) (.cells (tcells a0 a1 a2 a3 A4 a5 a6).toArray 26)
  have hb0 : Below w.heap.size w (w.alloc (.cells (tcells a0 a1 a2 a3 A4 a5 a6).toArray 26)) := below_alloc (Below.refl _ _) _
  unfold tcells at s1 hP hb0 ⊢
  clear hT
  go_enter Try.func11, Try.ntmps11
  go_wp2_with fail
  refine (alive4_any _).mono ?_
  rintro e w1 ⟨rfl, hb1⟩
  have hbw := below_next hb1 hb0
  have hP1 := hP.below hb1
  have hsz : w.heap.size ≤ w1.heap.size := hbw.size
  have hX := Boxed.of hP1 (s1.later (hb1.mono (by simp))) hsz
  obtain ⟨q, hq⟩ : ∃ q, q = w.heap.size := ⟨_, rfl⟩
  rw [← hq] at hX ⊢
  have hA : Below w1.heap.size w1 w1 := Below.refl _ _
  have HQ := Lib.hid hq
  clear hP s1 hb0 hb1 hP1 hq hsz
  obtain ⟨⟨d0, d1, d2, d3, d4⟩, hT⟩ := hX.look _ hA
  go_wp2_with fail
  refine (leaves_any _ _ t hT hn).mono ?_
  rintro e w2 ⟨v, rfl, ⟨A7, c7, rfl, hle7, hm7, -, -⟩, hb⟩
  replace hA := below_next hb hA
  unfold maxLen at hm7
  obtain ⟨n, hnn⟩ : ∃ n, n = t.size := ⟨_, rfl⟩
  rw [← hnn] at hle7 ⊢
  have HN := Lib.hid hnn
  clear d0 d1 d2 d3 d4 hT hb hnn
  go_wp2_with fail
  have hB := Blk.new w2 3 [.int .i64 a, .int .i64 b, .int .i64 c, .int .i64 d]
  have hA' : Below w1.heap.size w1 (w2.alloc (.cells [Value.int .i64 a, .int .i64 b, .int .i64 c, .int .i64 d].toArray 3)) := below_alloc hA _
  obtain ⟨g, hg⟩ : ∃ g, g = w2.heap.size := ⟨_, rfl⟩
  generalize (w2.alloc (.cells [Value.int .i64 a, .int .i64 b, .int .i64 c, .int .i64 d].toArray 3)) = W at hB hA' ⊢
  rw [← hg] at hB ⊢
  clear hA hg
  go_loop [26] (fun i => ∃ k : Nat, k ≤ 4 ∧ i = .int .i64 k ∧ ∀ j y, j < k → [a, b, c, d][j]? = some y → 0 ≤ y ∧ y < (n : Int)) (fun i => 4 - (intOf i).toNat)
  case atStart => exact ⟨0, Nat.zero_le _, rfl, fun j y h => absurd h (Nat.not_lt_zero _)⟩
  case round =>
    obtain ⟨k, hk, rfl, hall⟩ := hrel
    have HALL := Lib.hid hall
    clear hall
    by_cases hlt : k < 4
    · obtain ⟨x, hx⟩ : ∃ x, [a, b, c, d][k]? = some x := ⟨_, List.getElem?_eq_getElem hlt⟩
      have c0 : W.cell? ⟨g, k, none⟩ = some (.int .i64 x) := by
        rw [hB.cell, show ([Value.int .i64 a, .int .i64 b, .int .i64 c, .int .i64 d] : List Value) = [a, b, c, d].map (Value.int .i64) from rfl, List.getElem?_map, hx]
        rfl
      have HX := Lib.hid hx
      clear hx
      by_cases g1 : x < 0
      · clear hB
        go_wp2
        go_ret
        exact ⟨rfl, below_self hbw hA'⟩
      by_cases g2 : (n : Int) ≤ x
      · clear hB
        go_wp2
        go_ret
        exact ⟨rfl, below_self hbw hA'⟩
      go_wp2
      go_round
      case rel =>
        refine ⟨k + 1, by omega, by go_num, fun j y hj hy => ?_⟩
        by_cases e : j = k
        · subst e
          rw [HX.out] at hy
          injection hy with hy
          omega
        · exact HALL.out j y (by omega) hy
      case measure => simp [intOf]; omega
    · have hall : (0 ≤ a ∧ a < (t.size : Int)) ∧ (0 ≤ b ∧ b < (t.size : Int)) ∧ (0 ≤ c ∧ c < (t.size : Int)) ∧ (0 ≤ d ∧ d < (t.size : Int)) := by
        rw [← HN.out]
        exact ⟨HALL.out 0 a (by omega) rfl, HALL.out 1 b (by omega) rfl, HALL.out 2 c (by omega) rfl, HALL.out 3 d (by omega) rfl⟩
      have HR := Lib.hid hall
      have hA := hA'
      clear hall HALL hA' hB
      obtain ⟨⟨d0, d1, d2, d3, d4⟩, hT⟩ := hX.look _ hA
      go_wp2_with fail
      refine (before_any _ _ t a c hT hn).mono ?_
      rintro e w2 ⟨rfl, hb⟩
      replace hA := below_next hb hA
      clear d0 d1 d2 d3 d4 hT hb
      rcases h0 : t.before a c with _ | _
      · clear h0
        go_wp2
        go_ret
        exact ⟨rfl, below_self hbw hA⟩
      have E0 := Lib.hid h0
      clear h0
      obtain ⟨⟨d0, d1, d2, d3, d4⟩, hT⟩ := hX.look _ hA
      go_wp2_with fail
      refine (before_any _ _ t a d hT hn).mono ?_
      rintro e w2 ⟨rfl, hb⟩
      replace hA := below_next hb hA
      clear d0 d1 d2 d3 d4 hT hb
      rcases h1 : t.before a d with _ | _
      · clear h1
        go_wp2
        go_ret
        exact ⟨rfl, below_self hbw hA⟩
      have E1 := Lib.hid h1
      clear h1
      obtain ⟨⟨d0, d1, d2, d3, d4⟩, hT⟩ := hX.look _ hA
      go_wp2_with fail
      refine (before_any _ _ t b d hT hn).mono ?_
      rintro e w2 ⟨rfl, hb⟩
      replace hA := below_next hb hA
      clear d0 d1 d2 d3 d4 hT hb
      rcases h2 : t.before b d with _ | _
      · clear h2
        go_wp2
        go_ret
        exact ⟨rfl, below_self hbw hA⟩
      have E2 := Lib.hid h2
      clear h2
      go_wp2_with fail
      refine (apart_any w1 _ q a0 a1 a2 a3 A4 a5 a6 t hX hn hA a b).mono ?_
      rintro e w2 ⟨rfl, hA2⟩
      replace hA := hA2
      clear hA2
      rcases h3 : t.away a b with _ | _
      · clear h3
        go_wp2
        go_ret
        exact ⟨rfl, below_self hbw hA⟩
      have E3 := Lib.hid h3
      clear h3
      go_wp2_with fail
      refine (apart_any w1 _ q a0 a1 a2 a3 A4 a5 a6 t hX hn hA c d).mono ?_
      rintro e w2 ⟨rfl, hA2⟩
      replace hA := hA2
      clear hA2
      rcases h4 : t.away c d with _ | _
      · clear h4
        go_wp2
        go_ret
        exact ⟨rfl, below_self hbw hA⟩
      have E4 := Lib.hid h4
      clear h4
      go_wp2_with fail
      refine (apart_any w1 _ q a0 a1 a2 a3 A4 a5 a6 t hX hn hA b c).mono ?_
      rintro e w2 ⟨rfl, hA2⟩
      replace hA := hA2
      clear hA2
      rw [t.no_n_int a b c d HR.out.1 HR.out.2.1 HR.out.2.2.1 HR.out.2.2.2 E0.out E1.out E2.out E3.out E4.out]
      go_wp2
      go_ret
      exact ⟨rfl, below_self hbw hA⟩
end Go.Proofs.Ytdipieplmmhnhaa
