/-
  The three laws of package vector, walked.
-/
import Derived.Test.YtphbegadddamgaaVec
import Derived.Test.YtphbegadddamgaaVecPlain
namespace Go.Proofs.Ytphbegadddamgaa
open Go.RowKit

theorem SlI.lit {k : IntKind} (w : World) (xs : List Int) (e : TypeId) (hw : Wfs k xs) (hn : xs.length ≤ 1000) : SlI k (w.alloc (.cells (ints k xs).toArray e)) (.slice (some ⟨w.heap.size, 0, none⟩) xs.length xs.length) xs := by
  have := World.ownsRow_lit (e := e) (size := 1) (base := w.heap.size) w (ints k xs).toArray xs.length (Nat.le_refl _) (by unfold maxLen; omega) (by simp [ints])
  exact SlI.of_own (by simpa using this) hw

theorem SlI.pos {w : World} {v : Value} {xs : List Int} (h : SlI .u64 w v xs) : Vec.Pos xs := fun x hx => (wf_u64.1 (h.2 x hx)).1

theorem equal_is {v v' : Value} {xs ys : List Int} {w : World} (h : SlI .u64 w v xs) (h' : SlI .u64 w v' ys) (b : Bool) (hb : decide (xs = ys) = b) :
    Calls Try.prog 16 #[v, v'] w fun e w' => e = .returned (.bool b) ∧ Below w.heap.size w w' := by
  subst hb; exact equal_any _ _ _ _ _ h h'
theorem within_is {v v' : Value} {xs ys : List Int} {w : World} (h : SlI .u64 w v xs) (h' : SlI .u64 w v' ys) (b : Bool) (hb : Vec.within xs ys = b) :
    Calls Try.prog 18 #[v, v'] w fun e w' => e = .returned (.bool b) ∧ w = w' := by
  subst hb; exact within_any _ _ _ _ _ h h'
theorem at_is {v : Value} {xs : List Int} {w : World} (h : SlI .u64 w v xs) (i y : Int) (hy : Vec.hand xs i = y) :
    Calls Try.prog 19 #[v, .int .i64 i] w fun e w' => e = .returned (.int .u64 y) ∧ w = w' := by
  subst hy; exact at_any _ _ _ _ h
theorem tick_is {v : Value} {xs : List Int} {i : Int} {w : World} (h : SlI .u64 w v xs) (hr : xs.length ≤ 17592186044415) (ys : List Int) (hy : Vec.tick xs i = ys) :
    Calls Try.prog 20 #[v, .int .i64 i] w fun e w' => ∃ u, e = .returned u ∧ SlI .u64 w' u ys ∧ Below w.heap.size w w' := by
  subst hy; exact tick_any _ _ _ _ h hr
theorem join_is {v v' : Value} {xs ys : List Int} {w : World} (h : SlI .u64 w v xs) (h' : SlI .u64 w v' ys) (hr : xs.length ≤ 17592186044416) (hr' : ys.length ≤ 17592186044416) (zs : List Int) (hz : Vec.join xs ys = zs) :
    Calls Try.prog 17 #[v, v'] w fun e w' => ∃ u, e = .returned u ∧ SlI .u64 w' u zs ∧ Below w.heap.size w w' := by
  subst hz; exact join_any _ _ _ _ _ h h' hr hr'

theorem alive7_any (w : World) : Calls Try.prog 15 #[] w fun e w' => e = .returned (.bool true) ∧ Below w.heap.size w w' := by
  go_enter Try.func15, Try.ntmps15
  go_wp2_with fail
  refine (tick_is (SlI.nil _ _) (by decide) [0, 0, 1] (by decide)).mono ?_
  rintro e w1 ⟨v1, rfl, h1, hb1⟩
  go_wp2_with fail
  refine (tick_is h1 (by decide) [1, 0, 1] (by decide)).mono ?_
  rintro e w2 ⟨v2, rfl, h2, hb2⟩
  go_wp2_with fail
  refine (equal_is (by repeat (first | assumption | exact SlI.nil _ _ | exact SlV.nil _ _ | apply SlI.alloc | apply SlV.alloc | (apply SlI.step; assumption) | (apply SlV.step; assumption))) (SlI.lit w2 [1, 0, 1] _ (by intro x hx; revert x; decide) (by decide)) true (by decide)).mono ?_
  rintro e w3 ⟨rfl, hb3⟩
  go_wp2_with fail
  refine (at_is (xs := [1, 0, 1]) (by repeat (first | assumption | exact SlI.nil _ _ | exact SlV.nil _ _ | apply SlI.alloc | apply SlV.alloc | (apply SlI.step; assumption) | (apply SlV.step; assumption))) 2 1 (by decide)).mono ?_
  rintro e w4 ⟨rfl, rfl⟩
  go_wp2_with fail
  refine (tick_is (SlI.nil _ _) (by decide) [0, 0, 1] (by decide)).mono ?_
  rintro e w4 ⟨v4, rfl, h4, hb4⟩
  go_wp2_with fail
  refine (within_is (xs := [0, 0, 1]) (ys := [1, 0, 1]) (by repeat (first | assumption | exact SlI.nil _ _ | exact SlV.nil _ _ | apply SlI.alloc | apply SlV.alloc | (apply SlI.step; assumption) | (apply SlV.step; assumption))) (by repeat (first | assumption | exact SlI.nil _ _ | exact SlV.nil _ _ | apply SlI.alloc | apply SlV.alloc | (apply SlI.step; assumption) | (apply SlV.step; assumption))) true (by decide)).mono ?_
  rintro e w5 ⟨rfl, rfl⟩
  go_wp2_with fail
  refine (within_is (xs := [1, 0, 1]) (ys := []) (by repeat (first | assumption | exact SlI.nil _ _ | exact SlV.nil _ _ | apply SlI.alloc | apply SlV.alloc | (apply SlI.step; assumption) | (apply SlV.step; assumption))) (SlI.nil _ _) false (by decide)).mono ?_
  rintro e w5 ⟨rfl, rfl⟩
  go_wp2_with fail
  refine (join_is (xs := [1, 0, 1]) (ys := []) (by repeat (first | assumption | exact SlI.nil _ _ | exact SlV.nil _ _ | apply SlI.alloc | apply SlV.alloc | (apply SlI.step; assumption) | (apply SlV.step; assumption))) (SlI.nil _ _) (by decide) (by decide) [1, 0, 1] (by decide)).mono ?_
  rintro e w5 ⟨v5, rfl, h5, hb5⟩
  obtain ⟨⟨A, c, rfl, -⟩, -⟩ := h5
  go_wp2
  go_ret
  exact ⟨rfl, (by repeat (first | exact Below.refl _ _ | assumption | apply below_alloc | apply below_drew | (apply below_next; assumption)))⟩

set_option maxHeartbeats 1000000 in
theorem vectorJoins_walk (v0 v1 v2 : Value) (us vs ws : List Int) (w : World) (h0 : SlI .u64 w v0 us) (h1 : SlI .u64 w v1 vs) (h2 : SlI .u64 w v2 ws)
    (r0 : us.length ≤ 17592186044415) (r1 : vs.length ≤ 17592186044415) (r2 : ws.length ≤ 17592186044415) :
    Calls Try.prog 3 #[v0, v1, v2] w fun e w' => e = .returned (.bool true) ∧ Below w.heap.size w w' := by
  have j01 := Vec.join_length us vs
  have j12 := Vec.join_length vs ws
  have hw := Lib.hid (Vec.join_within (xs := us) (ys := vs) h2.pos)
  rcases b1 : Vec.within us ws with _ | _
  · rw [b1, Bool.false_and] at hw
    have B1 := Lib.hid b1
    clear b1
    go_enter Try.func3, Try.ntmps3
    go_wp2_with fail
    refine (alive7_any w).mono ?_
    rintro e w1 ⟨rfl, hb1⟩
    go_wp2_with fail
    refine (join_is (xs := us) (ys := vs) (by repeat (first | assumption | exact SlI.nil _ _ | exact SlV.nil _ _ | apply SlI.alloc | apply SlV.alloc | (apply SlI.step; assumption) | (apply SlV.step; assumption))) (by repeat (first | assumption | exact SlI.nil _ _ | exact SlV.nil _ _ | apply SlI.alloc | apply SlV.alloc | (apply SlI.step; assumption) | (apply SlV.step; assumption))) (by omega) (by omega) _ rfl).mono ?_
    rintro e w2 ⟨u2, rfl, g2, hb2⟩
    go_wp2_with fail
    refine (join_is (xs := vs) (ys := us) (by repeat (first | assumption | exact SlI.nil _ _ | exact SlV.nil _ _ | apply SlI.alloc | apply SlV.alloc | (apply SlI.step; assumption) | (apply SlV.step; assumption))) (by repeat (first | assumption | exact SlI.nil _ _ | exact SlV.nil _ _ | apply SlI.alloc | apply SlV.alloc | (apply SlI.step; assumption) | (apply SlV.step; assumption))) (by omega) (by omega) _ rfl).mono ?_
    rintro e w3 ⟨u3, rfl, g3, hb3⟩
    go_wp2_with fail
    refine (equal_is (xs := Vec.join us vs) (ys := Vec.join vs us) (by repeat (first | assumption | exact SlI.nil _ _ | exact SlV.nil _ _ | apply SlI.alloc | apply SlV.alloc | (apply SlI.step; assumption) | (apply SlV.step; assumption))) (by repeat (first | assumption | exact SlI.nil _ _ | exact SlV.nil _ _ | apply SlI.alloc | apply SlV.alloc | (apply SlI.step; assumption) | (apply SlV.step; assumption))) true (decide_eq_true (Vec.join_comm _ _))).mono ?_
    rintro e w4 ⟨rfl, hb4⟩
    go_wp2_with fail
    refine (join_is (xs := vs) (ys := ws) (by repeat (first | assumption | exact SlI.nil _ _ | exact SlV.nil _ _ | apply SlI.alloc | apply SlV.alloc | (apply SlI.step; assumption) | (apply SlV.step; assumption))) (by repeat (first | assumption | exact SlI.nil _ _ | exact SlV.nil _ _ | apply SlI.alloc | apply SlV.alloc | (apply SlI.step; assumption) | (apply SlV.step; assumption))) (by omega) (by omega) _ rfl).mono ?_
    rintro e w5 ⟨u5, rfl, g5, hb5⟩
    go_wp2_with fail
    refine (join_is (xs := us) (ys := Vec.join vs ws) (by repeat (first | assumption | exact SlI.nil _ _ | exact SlV.nil _ _ | apply SlI.alloc | apply SlV.alloc | (apply SlI.step; assumption) | (apply SlV.step; assumption))) (by repeat (first | assumption | exact SlI.nil _ _ | exact SlV.nil _ _ | apply SlI.alloc | apply SlV.alloc | (apply SlI.step; assumption) | (apply SlV.step; assumption))) (by omega) (by omega) _ rfl).mono ?_
    rintro e w6 ⟨u6, rfl, g6, hb6⟩
    go_wp2_with fail
    refine (join_is (xs := us) (ys := vs) (by repeat (first | assumption | exact SlI.nil _ _ | exact SlV.nil _ _ | apply SlI.alloc | apply SlV.alloc | (apply SlI.step; assumption) | (apply SlV.step; assumption))) (by repeat (first | assumption | exact SlI.nil _ _ | exact SlV.nil _ _ | apply SlI.alloc | apply SlV.alloc | (apply SlI.step; assumption) | (apply SlV.step; assumption))) (by omega) (by omega) _ rfl).mono ?_
    rintro e w7 ⟨u7, rfl, g7, hb7⟩
    go_wp2_with fail
    refine (join_is (xs := Vec.join us vs) (ys := ws) (by repeat (first | assumption | exact SlI.nil _ _ | exact SlV.nil _ _ | apply SlI.alloc | apply SlV.alloc | (apply SlI.step; assumption) | (apply SlV.step; assumption))) (by repeat (first | assumption | exact SlI.nil _ _ | exact SlV.nil _ _ | apply SlI.alloc | apply SlV.alloc | (apply SlI.step; assumption) | (apply SlV.step; assumption))) (by omega) (by omega) _ rfl).mono ?_
    rintro e w8 ⟨u8, rfl, g8, hb8⟩
    go_wp2_with fail
    refine (equal_is (xs := Vec.join us (Vec.join vs ws)) (ys := Vec.join (Vec.join us vs) ws) (by repeat (first | assumption | exact SlI.nil _ _ | exact SlV.nil _ _ | apply SlI.alloc | apply SlV.alloc | (apply SlI.step; assumption) | (apply SlV.step; assumption))) (by repeat (first | assumption | exact SlI.nil _ _ | exact SlV.nil _ _ | apply SlI.alloc | apply SlV.alloc | (apply SlI.step; assumption) | (apply SlV.step; assumption))) true (decide_eq_true (Vec.join_assoc _ _ _))).mono ?_
    rintro e w9 ⟨rfl, hb9⟩
    go_wp2_with fail
    refine (join_is (xs := us) (ys := us) (by repeat (first | assumption | exact SlI.nil _ _ | exact SlV.nil _ _ | apply SlI.alloc | apply SlV.alloc | (apply SlI.step; assumption) | (apply SlV.step; assumption))) (by repeat (first | assumption | exact SlI.nil _ _ | exact SlV.nil _ _ | apply SlI.alloc | apply SlV.alloc | (apply SlI.step; assumption) | (apply SlV.step; assumption))) (by omega) (by omega) _ rfl).mono ?_
    rintro e w10 ⟨u10, rfl, g10, hb10⟩
    go_wp2_with fail
    refine (join_is (xs := us) (ys := []) (by repeat (first | assumption | exact SlI.nil _ _ | exact SlV.nil _ _ | apply SlI.alloc | apply SlV.alloc | (apply SlI.step; assumption) | (apply SlV.step; assumption))) (SlI.nil _ _) (by omega) (by decide) _ rfl).mono ?_
    rintro e w11 ⟨u11, rfl, g11, hb11⟩
    go_wp2_with fail
    refine (equal_is (xs := Vec.join us us) (ys := Vec.join us []) (by repeat (first | assumption | exact SlI.nil _ _ | exact SlV.nil _ _ | apply SlI.alloc | apply SlV.alloc | (apply SlI.step; assumption) | (apply SlV.step; assumption))) (by repeat (first | assumption | exact SlI.nil _ _ | exact SlV.nil _ _ | apply SlI.alloc | apply SlV.alloc | (apply SlI.step; assumption) | (apply SlV.step; assumption))) true (decide_eq_true (Vec.join_self h0.pos))).mono ?_
    rintro e w12 ⟨rfl, hb12⟩
    go_wp2_with fail
    refine (join_is (xs := us) (ys := vs) (by repeat (first | assumption | exact SlI.nil _ _ | exact SlV.nil _ _ | apply SlI.alloc | apply SlV.alloc | (apply SlI.step; assumption) | (apply SlV.step; assumption))) (by repeat (first | assumption | exact SlI.nil _ _ | exact SlV.nil _ _ | apply SlI.alloc | apply SlV.alloc | (apply SlI.step; assumption) | (apply SlV.step; assumption))) (by omega) (by omega) _ rfl).mono ?_
    rintro e w13 ⟨u13, rfl, g13, hb13⟩
    go_wp2_with fail
    refine (within_is (xs := Vec.join us vs) (ys := ws) (by repeat (first | assumption | exact SlI.nil _ _ | exact SlV.nil _ _ | apply SlI.alloc | apply SlV.alloc | (apply SlI.step; assumption) | (apply SlV.step; assumption))) (by repeat (first | assumption | exact SlI.nil _ _ | exact SlV.nil _ _ | apply SlI.alloc | apply SlV.alloc | (apply SlI.step; assumption) | (apply SlV.step; assumption))) _ hw.out).mono ?_
    rintro e w14 ⟨rfl, rfl⟩
    go_wp2_with fail
    refine (within_is (xs := us) (ys := ws) (by repeat (first | assumption | exact SlI.nil _ _ | exact SlV.nil _ _ | apply SlI.alloc | apply SlV.alloc | (apply SlI.step; assumption) | (apply SlV.step; assumption))) (by repeat (first | assumption | exact SlI.nil _ _ | exact SlV.nil _ _ | apply SlI.alloc | apply SlV.alloc | (apply SlI.step; assumption) | (apply SlV.step; assumption))) _ B1.out).mono ?_
    rintro e w15 ⟨rfl, rfl⟩
    go_wp2
    go_ret
    exact ⟨rfl, (by repeat (first | exact Below.refl _ _ | assumption | apply below_alloc | apply below_drew | (apply below_next; assumption)))⟩
  · rcases b2 : Vec.within vs ws with _ | _
    all_goals
      rw [b1, b2] at hw
      have B1 := Lib.hid b1
      have B2 := Lib.hid b2
      clear b1 b2
      go_enter Try.func3, Try.ntmps3
      go_wp2_with fail
      refine (alive7_any w).mono ?_
      rintro e w1 ⟨rfl, hb1⟩
      go_wp2_with fail
      refine (join_is (xs := us) (ys := vs) (by repeat (first | assumption | exact SlI.nil _ _ | exact SlV.nil _ _ | apply SlI.alloc | apply SlV.alloc | (apply SlI.step; assumption) | (apply SlV.step; assumption))) (by repeat (first | assumption | exact SlI.nil _ _ | exact SlV.nil _ _ | apply SlI.alloc | apply SlV.alloc | (apply SlI.step; assumption) | (apply SlV.step; assumption))) (by omega) (by omega) _ rfl).mono ?_
      rintro e w2 ⟨u2, rfl, g2, hb2⟩
      go_wp2_with fail
      refine (join_is (xs := vs) (ys := us) (by repeat (first | assumption | exact SlI.nil _ _ | exact SlV.nil _ _ | apply SlI.alloc | apply SlV.alloc | (apply SlI.step; assumption) | (apply SlV.step; assumption))) (by repeat (first | assumption | exact SlI.nil _ _ | exact SlV.nil _ _ | apply SlI.alloc | apply SlV.alloc | (apply SlI.step; assumption) | (apply SlV.step; assumption))) (by omega) (by omega) _ rfl).mono ?_
      rintro e w3 ⟨u3, rfl, g3, hb3⟩
      go_wp2_with fail
      refine (equal_is (xs := Vec.join us vs) (ys := Vec.join vs us) (by repeat (first | assumption | exact SlI.nil _ _ | exact SlV.nil _ _ | apply SlI.alloc | apply SlV.alloc | (apply SlI.step; assumption) | (apply SlV.step; assumption))) (by repeat (first | assumption | exact SlI.nil _ _ | exact SlV.nil _ _ | apply SlI.alloc | apply SlV.alloc | (apply SlI.step; assumption) | (apply SlV.step; assumption))) true (decide_eq_true (Vec.join_comm _ _))).mono ?_
      rintro e w4 ⟨rfl, hb4⟩
      go_wp2_with fail
      refine (join_is (xs := vs) (ys := ws) (by repeat (first | assumption | exact SlI.nil _ _ | exact SlV.nil _ _ | apply SlI.alloc | apply SlV.alloc | (apply SlI.step; assumption) | (apply SlV.step; assumption))) (by repeat (first | assumption | exact SlI.nil _ _ | exact SlV.nil _ _ | apply SlI.alloc | apply SlV.alloc | (apply SlI.step; assumption) | (apply SlV.step; assumption))) (by omega) (by omega) _ rfl).mono ?_
      rintro e w5 ⟨u5, rfl, g5, hb5⟩
      go_wp2_with fail
      refine (join_is (xs := us) (ys := Vec.join vs ws) (by repeat (first | assumption | exact SlI.nil _ _ | exact SlV.nil _ _ | apply SlI.alloc | apply SlV.alloc | (apply SlI.step; assumption) | (apply SlV.step; assumption))) (by repeat (first | assumption | exact SlI.nil _ _ | exact SlV.nil _ _ | apply SlI.alloc | apply SlV.alloc | (apply SlI.step; assumption) | (apply SlV.step; assumption))) (by omega) (by omega) _ rfl).mono ?_
      rintro e w6 ⟨u6, rfl, g6, hb6⟩
      go_wp2_with fail
      refine (join_is (xs := us) (ys := vs) (by repeat (first | assumption | exact SlI.nil _ _ | exact SlV.nil _ _ | apply SlI.alloc | apply SlV.alloc | (apply SlI.step; assumption) | (apply SlV.step; assumption))) (by repeat (first | assumption | exact SlI.nil _ _ | exact SlV.nil _ _ | apply SlI.alloc | apply SlV.alloc | (apply SlI.step; assumption) | (apply SlV.step; assumption))) (by omega) (by omega) _ rfl).mono ?_
      rintro e w7 ⟨u7, rfl, g7, hb7⟩
      go_wp2_with fail
      refine (join_is (xs := Vec.join us vs) (ys := ws) (by repeat (first | assumption | exact SlI.nil _ _ | exact SlV.nil _ _ | apply SlI.alloc | apply SlV.alloc | (apply SlI.step; assumption) | (apply SlV.step; assumption))) (by repeat (first | assumption | exact SlI.nil _ _ | exact SlV.nil _ _ | apply SlI.alloc | apply SlV.alloc | (apply SlI.step; assumption) | (apply SlV.step; assumption))) (by omega) (by omega) _ rfl).mono ?_
      rintro e w8 ⟨u8, rfl, g8, hb8⟩
      go_wp2_with fail
      refine (equal_is (xs := Vec.join us (Vec.join vs ws)) (ys := Vec.join (Vec.join us vs) ws) (by repeat (first | assumption | exact SlI.nil _ _ | exact SlV.nil _ _ | apply SlI.alloc | apply SlV.alloc | (apply SlI.step; assumption) | (apply SlV.step; assumption))) (by repeat (first | assumption | exact SlI.nil _ _ | exact SlV.nil _ _ | apply SlI.alloc | apply SlV.alloc | (apply SlI.step; assumption) | (apply SlV.step; assumption))) true (decide_eq_true (Vec.join_assoc _ _ _))).mono ?_
      rintro e w9 ⟨rfl, hb9⟩
      go_wp2_with fail
      refine (join_is (xs := us) (ys := us) (by repeat (first | assumption | exact SlI.nil _ _ | exact SlV.nil _ _ | apply SlI.alloc | apply SlV.alloc | (apply SlI.step; assumption) | (apply SlV.step; assumption))) (by repeat (first | assumption | exact SlI.nil _ _ | exact SlV.nil _ _ | apply SlI.alloc | apply SlV.alloc | (apply SlI.step; assumption) | (apply SlV.step; assumption))) (by omega) (by omega) _ rfl).mono ?_
      rintro e w10 ⟨u10, rfl, g10, hb10⟩
      go_wp2_with fail
      refine (join_is (xs := us) (ys := []) (by repeat (first | assumption | exact SlI.nil _ _ | exact SlV.nil _ _ | apply SlI.alloc | apply SlV.alloc | (apply SlI.step; assumption) | (apply SlV.step; assumption))) (SlI.nil _ _) (by omega) (by decide) _ rfl).mono ?_
      rintro e w11 ⟨u11, rfl, g11, hb11⟩
      go_wp2_with fail
      refine (equal_is (xs := Vec.join us us) (ys := Vec.join us []) (by repeat (first | assumption | exact SlI.nil _ _ | exact SlV.nil _ _ | apply SlI.alloc | apply SlV.alloc | (apply SlI.step; assumption) | (apply SlV.step; assumption))) (by repeat (first | assumption | exact SlI.nil _ _ | exact SlV.nil _ _ | apply SlI.alloc | apply SlV.alloc | (apply SlI.step; assumption) | (apply SlV.step; assumption))) true (decide_eq_true (Vec.join_self h0.pos))).mono ?_
      rintro e w12 ⟨rfl, hb12⟩
      go_wp2_with fail
      refine (join_is (xs := us) (ys := vs) (by repeat (first | assumption | exact SlI.nil _ _ | exact SlV.nil _ _ | apply SlI.alloc | apply SlV.alloc | (apply SlI.step; assumption) | (apply SlV.step; assumption))) (by repeat (first | assumption | exact SlI.nil _ _ | exact SlV.nil _ _ | apply SlI.alloc | apply SlV.alloc | (apply SlI.step; assumption) | (apply SlV.step; assumption))) (by omega) (by omega) _ rfl).mono ?_
      rintro e w13 ⟨u13, rfl, g13, hb13⟩
      go_wp2_with fail
      refine (within_is (xs := Vec.join us vs) (ys := ws) (by repeat (first | assumption | exact SlI.nil _ _ | exact SlV.nil _ _ | apply SlI.alloc | apply SlV.alloc | (apply SlI.step; assumption) | (apply SlV.step; assumption))) (by repeat (first | assumption | exact SlI.nil _ _ | exact SlV.nil _ _ | apply SlI.alloc | apply SlV.alloc | (apply SlI.step; assumption) | (apply SlV.step; assumption))) _ hw.out).mono ?_
      rintro e w14 ⟨rfl, rfl⟩
      go_wp2_with fail
      refine (within_is (xs := us) (ys := ws) (by repeat (first | assumption | exact SlI.nil _ _ | exact SlV.nil _ _ | apply SlI.alloc | apply SlV.alloc | (apply SlI.step; assumption) | (apply SlV.step; assumption))) (by repeat (first | assumption | exact SlI.nil _ _ | exact SlV.nil _ _ | apply SlI.alloc | apply SlV.alloc | (apply SlI.step; assumption) | (apply SlV.step; assumption))) _ B1.out).mono ?_
      rintro e w15 ⟨rfl, rfl⟩
      go_wp2_with fail
      refine (within_is (xs := vs) (ys := ws) (by repeat (first | assumption | exact SlI.nil _ _ | exact SlV.nil _ _ | apply SlI.alloc | apply SlV.alloc | (apply SlI.step; assumption) | (apply SlV.step; assumption))) (by repeat (first | assumption | exact SlI.nil _ _ | exact SlV.nil _ _ | apply SlI.alloc | apply SlV.alloc | (apply SlI.step; assumption) | (apply SlV.step; assumption))) _ B2.out).mono ?_
      rintro e w15 ⟨rfl, rfl⟩
      go_wp2
      go_ret
      exact ⟨rfl, (by repeat (first | exact Below.refl _ _ | assumption | apply below_alloc | apply below_drew | (apply below_next; assumption)))⟩

set_option maxHeartbeats 1000000 in
theorem vectorOrder_walk (v0 v1 v2 : Value) (us vs ws : List Int) (w : World) (h0 : SlI .u64 w v0 us) (h1 : SlI .u64 w v1 vs) (h2 : SlI .u64 w v2 ws)
    (r0 : us.length ≤ 17592186044415) (r1 : vs.length ≤ 17592186044415) :
    Calls Try.prog 4 #[v0, v1, v2] w fun e w' => e = .returned (.bool true) ∧ Below w.heap.size w w' := by
  have hs := Lib.hid (Vec.within_refl h0.pos)
  have ht := Lib.hid (fun a b => Vec.within_trans (xs := us) h1.pos h2.pos a b)
  have ha := Lib.hid (Vec.within_anti h0.pos h1.pos)
  rcases b1 : Vec.within us vs with _ | _
  · rw [b1, Bool.false_and] at ha
    have B1 := Lib.hid b1
    clear b1
    go_enter Try.func4, Try.ntmps4
    go_wp2_with fail
    refine (alive7_any w).mono ?_
    rintro e w1 ⟨rfl, hb1⟩
    go_wp2_with fail
    refine (within_is (xs := us) (ys := us) (by repeat (first | assumption | exact SlI.nil _ _ | exact SlV.nil _ _ | apply SlI.alloc | apply SlV.alloc | (apply SlI.step; assumption) | (apply SlV.step; assumption))) (by repeat (first | assumption | exact SlI.nil _ _ | exact SlV.nil _ _ | apply SlI.alloc | apply SlV.alloc | (apply SlI.step; assumption) | (apply SlV.step; assumption))) _ hs.out).mono ?_
    rintro e w2 ⟨rfl, rfl⟩
    go_wp2_with fail
    refine (within_is (xs := us) (ys := vs) (by repeat (first | assumption | exact SlI.nil _ _ | exact SlV.nil _ _ | apply SlI.alloc | apply SlV.alloc | (apply SlI.step; assumption) | (apply SlV.step; assumption))) (by repeat (first | assumption | exact SlI.nil _ _ | exact SlV.nil _ _ | apply SlI.alloc | apply SlV.alloc | (apply SlI.step; assumption) | (apply SlV.step; assumption))) _ B1.out).mono ?_
    rintro e w2 ⟨rfl, rfl⟩
    go_wp2_with fail
    refine (within_is (xs := us) (ys := vs) (by repeat (first | assumption | exact SlI.nil _ _ | exact SlV.nil _ _ | apply SlI.alloc | apply SlV.alloc | (apply SlI.step; assumption) | (apply SlV.step; assumption))) (by repeat (first | assumption | exact SlI.nil _ _ | exact SlV.nil _ _ | apply SlI.alloc | apply SlV.alloc | (apply SlI.step; assumption) | (apply SlV.step; assumption))) _ B1.out).mono ?_
    rintro e w2 ⟨rfl, rfl⟩
    go_wp2_with fail
    refine (join_is (xs := us) (ys := []) (by repeat (first | assumption | exact SlI.nil _ _ | exact SlV.nil _ _ | apply SlI.alloc | apply SlV.alloc | (apply SlI.step; assumption) | (apply SlV.step; assumption))) (SlI.nil _ _) (by omega) (by decide) _ rfl).mono ?_
    rintro e w2 ⟨u2, rfl, g2, hb2⟩
    go_wp2_with fail
    refine (join_is (xs := vs) (ys := []) (by repeat (first | assumption | exact SlI.nil _ _ | exact SlV.nil _ _ | apply SlI.alloc | apply SlV.alloc | (apply SlI.step; assumption) | (apply SlV.step; assumption))) (SlI.nil _ _) (by omega) (by decide) _ rfl).mono ?_
    rintro e w3 ⟨u3, rfl, g3, hb3⟩
    go_wp2_with fail
    refine (equal_is (xs := Vec.join us []) (ys := Vec.join vs []) (by repeat (first | assumption | exact SlI.nil _ _ | exact SlV.nil _ _ | apply SlI.alloc | apply SlV.alloc | (apply SlI.step; assumption) | (apply SlV.step; assumption))) (by repeat (first | assumption | exact SlI.nil _ _ | exact SlV.nil _ _ | apply SlI.alloc | apply SlV.alloc | (apply SlI.step; assumption) | (apply SlV.step; assumption))) false ha.out.symm).mono ?_
    rintro e w4 ⟨rfl, hb4⟩
    go_wp2
    go_ret
    exact ⟨rfl, (by repeat (first | exact Below.refl _ _ | assumption | apply below_alloc | apply below_drew | (apply below_next; assumption)))⟩
  · rw [b1, Bool.true_and] at ha
    rcases b2 : Vec.within vs ws with _ | _
    · have B1 := Lib.hid b1
      have B2 := Lib.hid b2
      clear b1 b2
      rcases b3 : Vec.within vs us with _ | _
      all_goals
        rw [b3] at ha
        have B3 := Lib.hid b3
        clear b3
        go_enter Try.func4, Try.ntmps4
        go_wp2_with fail
        refine (alive7_any w).mono ?_
        rintro e w1 ⟨rfl, hb1⟩
        go_wp2_with fail
        refine (within_is (xs := us) (ys := us) (by repeat (first | assumption | exact SlI.nil _ _ | exact SlV.nil _ _ | apply SlI.alloc | apply SlV.alloc | (apply SlI.step; assumption) | (apply SlV.step; assumption))) (by repeat (first | assumption | exact SlI.nil _ _ | exact SlV.nil _ _ | apply SlI.alloc | apply SlV.alloc | (apply SlI.step; assumption) | (apply SlV.step; assumption))) _ hs.out).mono ?_
        rintro e w2 ⟨rfl, rfl⟩
        go_wp2_with fail
        refine (within_is (xs := us) (ys := vs) (by repeat (first | assumption | exact SlI.nil _ _ | exact SlV.nil _ _ | apply SlI.alloc | apply SlV.alloc | (apply SlI.step; assumption) | (apply SlV.step; assumption))) (by repeat (first | assumption | exact SlI.nil _ _ | exact SlV.nil _ _ | apply SlI.alloc | apply SlV.alloc | (apply SlI.step; assumption) | (apply SlV.step; assumption))) _ B1.out).mono ?_
        rintro e w2 ⟨rfl, rfl⟩
        go_wp2_with fail
        refine (within_is (xs := vs) (ys := ws) (by repeat (first | assumption | exact SlI.nil _ _ | exact SlV.nil _ _ | apply SlI.alloc | apply SlV.alloc | (apply SlI.step; assumption) | (apply SlV.step; assumption))) (by repeat (first | assumption | exact SlI.nil _ _ | exact SlV.nil _ _ | apply SlI.alloc | apply SlV.alloc | (apply SlI.step; assumption) | (apply SlV.step; assumption))) _ B2.out).mono ?_
        rintro e w2 ⟨rfl, rfl⟩
        go_wp2_with fail
        refine (within_is (xs := us) (ys := vs) (by repeat (first | assumption | exact SlI.nil _ _ | exact SlV.nil _ _ | apply SlI.alloc | apply SlV.alloc | (apply SlI.step; assumption) | (apply SlV.step; assumption))) (by repeat (first | assumption | exact SlI.nil _ _ | exact SlV.nil _ _ | apply SlI.alloc | apply SlV.alloc | (apply SlI.step; assumption) | (apply SlV.step; assumption))) _ B1.out).mono ?_
        rintro e w2 ⟨rfl, rfl⟩
        go_wp2_with fail
        refine (within_is (xs := vs) (ys := us) (by repeat (first | assumption | exact SlI.nil _ _ | exact SlV.nil _ _ | apply SlI.alloc | apply SlV.alloc | (apply SlI.step; assumption) | (apply SlV.step; assumption))) (by repeat (first | assumption | exact SlI.nil _ _ | exact SlV.nil _ _ | apply SlI.alloc | apply SlV.alloc | (apply SlI.step; assumption) | (apply SlV.step; assumption))) _ B3.out).mono ?_
        rintro e w2 ⟨rfl, rfl⟩
        go_wp2_with fail
        refine (join_is (xs := us) (ys := []) (by repeat (first | assumption | exact SlI.nil _ _ | exact SlV.nil _ _ | apply SlI.alloc | apply SlV.alloc | (apply SlI.step; assumption) | (apply SlV.step; assumption))) (SlI.nil _ _) (by omega) (by decide) _ rfl).mono ?_
        rintro e w2 ⟨u2, rfl, g2, hb2⟩
        go_wp2_with fail
        refine (join_is (xs := vs) (ys := []) (by repeat (first | assumption | exact SlI.nil _ _ | exact SlV.nil _ _ | apply SlI.alloc | apply SlV.alloc | (apply SlI.step; assumption) | (apply SlV.step; assumption))) (SlI.nil _ _) (by omega) (by decide) _ rfl).mono ?_
        rintro e w3 ⟨u3, rfl, g3, hb3⟩
        go_wp2_with fail
        refine (equal_is (xs := Vec.join us []) (ys := Vec.join vs []) (by repeat (first | assumption | exact SlI.nil _ _ | exact SlV.nil _ _ | apply SlI.alloc | apply SlV.alloc | (apply SlI.step; assumption) | (apply SlV.step; assumption))) (by repeat (first | assumption | exact SlI.nil _ _ | exact SlV.nil _ _ | apply SlI.alloc | apply SlV.alloc | (apply SlI.step; assumption) | (apply SlV.step; assumption))) _ ha.out.symm).mono ?_
        rintro e w4 ⟨rfl, hb4⟩
        go_wp2
        go_ret
        exact ⟨rfl, (by repeat (first | exact Below.refl _ _ | assumption | apply below_alloc | apply below_drew | (apply below_next; assumption)))⟩
    · have B1 := Lib.hid b1
      have B2 := Lib.hid b2
      clear b1 b2
      have B4 := Lib.hid (ht.out B1.out B2.out)
      rcases b3 : Vec.within vs us with _ | _
      all_goals
        rw [b3] at ha
        have B3 := Lib.hid b3
        clear b3
        go_enter Try.func4, Try.ntmps4
        go_wp2_with fail
        refine (alive7_any w).mono ?_
        rintro e w1 ⟨rfl, hb1⟩
        go_wp2_with fail
        refine (within_is (xs := us) (ys := us) (by repeat (first | assumption | exact SlI.nil _ _ | exact SlV.nil _ _ | apply SlI.alloc | apply SlV.alloc | (apply SlI.step; assumption) | (apply SlV.step; assumption))) (by repeat (first | assumption | exact SlI.nil _ _ | exact SlV.nil _ _ | apply SlI.alloc | apply SlV.alloc | (apply SlI.step; assumption) | (apply SlV.step; assumption))) _ hs.out).mono ?_
        rintro e w2 ⟨rfl, rfl⟩
        go_wp2_with fail
        refine (within_is (xs := us) (ys := vs) (by repeat (first | assumption | exact SlI.nil _ _ | exact SlV.nil _ _ | apply SlI.alloc | apply SlV.alloc | (apply SlI.step; assumption) | (apply SlV.step; assumption))) (by repeat (first | assumption | exact SlI.nil _ _ | exact SlV.nil _ _ | apply SlI.alloc | apply SlV.alloc | (apply SlI.step; assumption) | (apply SlV.step; assumption))) _ B1.out).mono ?_
        rintro e w2 ⟨rfl, rfl⟩
        go_wp2_with fail
        refine (within_is (xs := vs) (ys := ws) (by repeat (first | assumption | exact SlI.nil _ _ | exact SlV.nil _ _ | apply SlI.alloc | apply SlV.alloc | (apply SlI.step; assumption) | (apply SlV.step; assumption))) (by repeat (first | assumption | exact SlI.nil _ _ | exact SlV.nil _ _ | apply SlI.alloc | apply SlV.alloc | (apply SlI.step; assumption) | (apply SlV.step; assumption))) _ B2.out).mono ?_
        rintro e w2 ⟨rfl, rfl⟩
        go_wp2_with fail
        refine (within_is (xs := us) (ys := ws) (by repeat (first | assumption | exact SlI.nil _ _ | exact SlV.nil _ _ | apply SlI.alloc | apply SlV.alloc | (apply SlI.step; assumption) | (apply SlV.step; assumption))) (by repeat (first | assumption | exact SlI.nil _ _ | exact SlV.nil _ _ | apply SlI.alloc | apply SlV.alloc | (apply SlI.step; assumption) | (apply SlV.step; assumption))) _ B4.out).mono ?_
        rintro e w2 ⟨rfl, rfl⟩
        go_wp2_with fail
        refine (within_is (xs := us) (ys := vs) (by repeat (first | assumption | exact SlI.nil _ _ | exact SlV.nil _ _ | apply SlI.alloc | apply SlV.alloc | (apply SlI.step; assumption) | (apply SlV.step; assumption))) (by repeat (first | assumption | exact SlI.nil _ _ | exact SlV.nil _ _ | apply SlI.alloc | apply SlV.alloc | (apply SlI.step; assumption) | (apply SlV.step; assumption))) _ B1.out).mono ?_
        rintro e w2 ⟨rfl, rfl⟩
        go_wp2_with fail
        refine (within_is (xs := vs) (ys := us) (by repeat (first | assumption | exact SlI.nil _ _ | exact SlV.nil _ _ | apply SlI.alloc | apply SlV.alloc | (apply SlI.step; assumption) | (apply SlV.step; assumption))) (by repeat (first | assumption | exact SlI.nil _ _ | exact SlV.nil _ _ | apply SlI.alloc | apply SlV.alloc | (apply SlI.step; assumption) | (apply SlV.step; assumption))) _ B3.out).mono ?_
        rintro e w2 ⟨rfl, rfl⟩
        go_wp2_with fail
        refine (join_is (xs := us) (ys := []) (by repeat (first | assumption | exact SlI.nil _ _ | exact SlV.nil _ _ | apply SlI.alloc | apply SlV.alloc | (apply SlI.step; assumption) | (apply SlV.step; assumption))) (SlI.nil _ _) (by omega) (by decide) _ rfl).mono ?_
        rintro e w2 ⟨u2, rfl, g2, hb2⟩
        go_wp2_with fail
        refine (join_is (xs := vs) (ys := []) (by repeat (first | assumption | exact SlI.nil _ _ | exact SlV.nil _ _ | apply SlI.alloc | apply SlV.alloc | (apply SlI.step; assumption) | (apply SlV.step; assumption))) (SlI.nil _ _) (by omega) (by decide) _ rfl).mono ?_
        rintro e w3 ⟨u3, rfl, g3, hb3⟩
        go_wp2_with fail
        refine (equal_is (xs := Vec.join us []) (ys := Vec.join vs []) (by repeat (first | assumption | exact SlI.nil _ _ | exact SlV.nil _ _ | apply SlI.alloc | apply SlV.alloc | (apply SlI.step; assumption) | (apply SlV.step; assumption))) (by repeat (first | assumption | exact SlI.nil _ _ | exact SlV.nil _ _ | apply SlI.alloc | apply SlV.alloc | (apply SlI.step; assumption) | (apply SlV.step; assumption))) _ ha.out.symm).mono ?_
        rintro e w4 ⟨rfl, hb4⟩
        go_wp2
        go_ret
        exact ⟨rfl, (by repeat (first | exact Below.refl _ _ | assumption | apply below_alloc | apply below_drew | (apply below_next; assumption)))⟩

theorem vectorTicks_early (v0 : Value) (us : List Int) (i j : Int) (w : World) (h0 : SlI .u64 w v0 us) (h : i < 0 ∨ j < 0 ∨ 60000 < i ∨ 60000 < j) :
    Calls Try.prog 5 #[v0, .int .i64 i, .int .i64 j] w fun e w' => e = .returned (.bool true) ∧ Below w.heap.size w w' := by
  by_cases c1 : i < 0
  · clear h
    go_enter Try.func5, Try.ntmps5
    go_wp2_with fail
    refine (alive7_any w).mono ?_
    rintro e w1 ⟨rfl, hb1⟩
    go_wp2
    go_ret
    exact ⟨rfl, (by repeat (first | exact Below.refl _ _ | assumption | apply below_alloc | apply below_drew | (apply below_next; assumption)))⟩
  · by_cases c2 : j < 0
    · clear h
      go_enter Try.func5, Try.ntmps5
      go_wp2_with fail
      refine (alive7_any w).mono ?_
      rintro e w1 ⟨rfl, hb1⟩
      go_wp2
      go_ret
      exact ⟨rfl, (by repeat (first | exact Below.refl _ _ | assumption | apply below_alloc | apply below_drew | (apply below_next; assumption)))⟩
    · by_cases c3 : 60000 < i
      · clear h
        go_enter Try.func5, Try.ntmps5
        go_wp2_with fail
        refine (alive7_any w).mono ?_
        rintro e w1 ⟨rfl, hb1⟩
        go_wp2
        go_ret
        exact ⟨rfl, (by repeat (first | exact Below.refl _ _ | assumption | apply below_alloc | apply below_drew | (apply below_next; assumption)))⟩
      · have c4 : 60000 < j := by omega
        clear h
        go_enter Try.func5, Try.ntmps5
        go_wp2_with fail
        refine (alive7_any w).mono ?_
        rintro e w1 ⟨rfl, hb1⟩
        go_wp2
        go_ret
        exact ⟨rfl, (by repeat (first | exact Below.refl _ _ | assumption | apply below_alloc | apply below_drew | (apply below_next; assumption)))⟩

theorem ne_most {y : Int} (h : y < 18446744073709551615) : (y == 18446744073709551615) = false := by simp; omega

theorem vectorTicks_full (v0 : Value) (us : List Int) (i j : Nat) (w : World) (h0 : SlI .u64 w v0 us) (hi : i ≤ 60000) (hj : j ≤ 60000) (h : us.getD i 0 = 18446744073709551615 ∨ us.getD j 0 = 18446744073709551615) :
    Calls Try.prog 5 #[v0, .int .i64 i, .int .i64 j] w fun e w' => e = .returned (.bool true) ∧ Below w.heap.size w w' := by
  by_cases c1 : us.getD i 0 = 18446744073709551615
  · clear h
    have H := Lib.hid ((Vec.hand_nat us i).trans c1)
    clear c1
    go_enter Try.func5, Try.ntmps5
    go_wp2_with fail
    refine (alive7_any w).mono ?_
    rintro e w1 ⟨rfl, hb1⟩
    go_wp2_with fail
    refine (at_is (xs := us) (by repeat (first | assumption | exact SlI.nil _ _ | exact SlV.nil _ _ | apply SlI.alloc | apply SlV.alloc | (apply SlI.step; assumption) | (apply SlV.step; assumption))) _ _ H.out).mono ?_
    rintro e w2 ⟨rfl, rfl⟩
    go_wp2
    go_ret
    exact ⟨rfl, (by repeat (first | exact Below.refl _ _ | assumption | apply below_alloc | apply below_drew | (apply below_next; assumption)))⟩
  · have c2 : us.getD j 0 = 18446744073709551615 := by omega
    have H2 := Lib.hid ((Vec.hand_nat us j).trans c2)
    have hlt : us.getD i 0 < 18446744073709551615 := by
      by_cases hi' : i < us.length
      · have := (wf_u64.1 (h0.2.get hi')).2; omega
      · simp [List.getD, show us.length ≤ i by omega]
    obtain ⟨y, hy⟩ : ∃ y, y = us.getD i 0 := ⟨_, rfl⟩
    have H := Lib.hid ((Vec.hand_nat us i).trans hy.symm)
    rw [← hy] at hlt
    have hn := ne_most hlt
    clear c1 c2 h hy hlt
    go_enter Try.func5, Try.ntmps5
    go_wp2_with fail
    refine (alive7_any w).mono ?_
    rintro e w1 ⟨rfl, hb1⟩
    go_wp2_with fail
    refine (at_is (xs := us) (by repeat (first | assumption | exact SlI.nil _ _ | exact SlV.nil _ _ | apply SlI.alloc | apply SlV.alloc | (apply SlI.step; assumption) | (apply SlV.step; assumption))) _ _ H.out).mono ?_
    rintro e w2 ⟨rfl, rfl⟩
    go_wp2_with fail
    refine (at_is (xs := us) (by repeat (first | assumption | exact SlI.nil _ _ | exact SlV.nil _ _ | apply SlI.alloc | apply SlV.alloc | (apply SlI.step; assumption) | (apply SlV.step; assumption))) _ _ H2.out).mono ?_
    rintro e w2 ⟨rfl, rfl⟩
    go_wp2
    go_ret
    exact ⟨rfl, (by repeat (first | exact Below.refl _ _ | assumption | apply below_alloc | apply below_drew | (apply below_next; assumption)))⟩

theorem vectorTicks_main (v0 : Value) (us : List Int) (i j : Nat) (w : World) (h0 : SlI .u64 w v0 us) (hi : i ≤ 60000) (hj : j ≤ 60000) (h1 : us.getD i 0 < 18446744073709551615) (h2 : us.getD j 0 < 18446744073709551615) (r0 : us.length ≤ 17592186044415) :
    Calls Try.prog 5 #[v0, .int .i64 i, .int .i64 j] w fun e w' => e = .returned (.bool true) ∧ Below w.heap.size w w' := by
  have hp := h0.pos
  have hi' : i ≤ 65535 := by omega
  have hj' : j ≤ 65535 := by omega
  obtain ⟨y, hy⟩ : ∃ y, y = us.getD i 0 := ⟨_, rfl⟩
  obtain ⟨z, hz⟩ : ∃ z, z = us.getD j 0 := ⟨_, rfl⟩
  have Hy := Lib.hid ((Vec.hand_nat us i).trans hy.symm)
  have Hz := Lib.hid ((Vec.hand_nat us j).trans hz.symm)
  have y0 := hp.getD i
  have L1 := Vec.tick_length us i hi'
  have K1 := Lib.hid (Vec.tick_on hp hi' h1)
  have K2 := Lib.hid (Vec.tick_back hp hi' h1)
  have K3 := Lib.hid ((Vec.tick_hand hp hi' h1).trans (by rw [Hy.out]))
  by_cases hij : i = j
  · subst hij
    rw [← hy] at h1 y0
    have hn := ne_most h1
    clear hy hz h2 Hz
    have hb : ((i : Int) == i) = true := by simp
    have hb' : ((i : Int) != i) = false := by simp
    go_enter Try.func5, Try.ntmps5
    go_wp2_with fail
    refine (alive7_any w).mono ?_
    rintro e w1 ⟨rfl, hb1⟩
    go_wp2_with fail
    refine (at_is (xs := us) (by repeat (first | assumption | exact SlI.nil _ _ | exact SlV.nil _ _ | apply SlI.alloc | apply SlV.alloc | (apply SlI.step; assumption) | (apply SlV.step; assumption))) _ _ Hy.out).mono ?_
    rintro e w2 ⟨rfl, rfl⟩
    go_wp2_with fail
    refine (at_is (xs := us) (by repeat (first | assumption | exact SlI.nil _ _ | exact SlV.nil _ _ | apply SlI.alloc | apply SlV.alloc | (apply SlI.step; assumption) | (apply SlV.step; assumption))) _ _ Hy.out).mono ?_
    rintro e w2 ⟨rfl, rfl⟩
    go_wp2_with fail
    refine (tick_is (xs := us) (by repeat (first | assumption | exact SlI.nil _ _ | exact SlV.nil _ _ | apply SlI.alloc | apply SlV.alloc | (apply SlI.step; assumption) | (apply SlV.step; assumption))) (by omega) _ rfl).mono ?_
    rintro e w2 ⟨u2, rfl, g2, hb2⟩
    go_wp2_with fail
    refine (tick_is (xs := us) (by repeat (first | assumption | exact SlI.nil _ _ | exact SlV.nil _ _ | apply SlI.alloc | apply SlV.alloc | (apply SlI.step; assumption) | (apply SlV.step; assumption))) (by omega) _ rfl).mono ?_
    rintro e w3 ⟨u3, rfl, g3, hb3⟩
    go_wp2_with fail
    refine (within_is (xs := us) (ys := Vec.tick us i) (by repeat (first | assumption | exact SlI.nil _ _ | exact SlV.nil _ _ | apply SlI.alloc | apply SlV.alloc | (apply SlI.step; assumption) | (apply SlV.step; assumption))) (by repeat (first | assumption | exact SlI.nil _ _ | exact SlV.nil _ _ | apply SlI.alloc | apply SlV.alloc | (apply SlI.step; assumption) | (apply SlV.step; assumption))) _ K1.out).mono ?_
    rintro e w4 ⟨rfl, rfl⟩
    go_wp2_with fail
    refine (within_is (xs := Vec.tick us i) (ys := us) (by repeat (first | assumption | exact SlI.nil _ _ | exact SlV.nil _ _ | apply SlI.alloc | apply SlV.alloc | (apply SlI.step; assumption) | (apply SlV.step; assumption))) (by repeat (first | assumption | exact SlI.nil _ _ | exact SlV.nil _ _ | apply SlI.alloc | apply SlV.alloc | (apply SlI.step; assumption) | (apply SlV.step; assumption))) _ K2.out).mono ?_
    rintro e w4 ⟨rfl, rfl⟩
    go_wp2_with fail
    refine (at_is (xs := Vec.tick us i) (by repeat (first | assumption | exact SlI.nil _ _ | exact SlV.nil _ _ | apply SlI.alloc | apply SlV.alloc | (apply SlI.step; assumption) | (apply SlV.step; assumption))) _ _ K3.out).mono ?_
    rintro e w4 ⟨rfl, rfl⟩
    go_wp2_with fail
    refine (at_is (xs := us) (by repeat (first | assumption | exact SlI.nil _ _ | exact SlV.nil _ _ | apply SlI.alloc | apply SlV.alloc | (apply SlI.step; assumption) | (apply SlV.step; assumption))) _ _ Hy.out).mono ?_
    rintro e w4 ⟨rfl, rfl⟩
    go_wp2
    go_ret
    exact ⟨rfl, (by repeat (first | exact Below.refl _ _ | assumption | apply below_alloc | apply below_drew | (apply below_next; assumption)))⟩
  · have hb : ((i : Int) == j) = false := by simp; omega
    have hb' : ((i : Int) != j) = true := by simp; omega
    have hm2 : (Vec.tick us i).getD j 0 < 18446744073709551615 := by rw [Vec.getD_tick hp hi' h1, if_neg (by omega)]; omega
    have L2 := Vec.tick_length us j hj'
    have K4 := Lib.hid ((Vec.tick_other (j := j) hp hi' h1 hij).trans Hz.out)
    have K5 := Lib.hid (Vec.tick_apart hp hi' hj' h1 h2 hij)
    have K6 := Lib.hid (Vec.tick_apart hp hj' hi' h2 h1 (fun h => hij h.symm))
    have K7 := Lib.hid (decide_eq_true (Vec.tick_join hp hi' hj' h1 h2 hij))
    rw [← hy] at h1 y0
    rw [← hz] at h2
    have hn := ne_most h1
    have hn2 := ne_most h2
    clear hy hz hij hm2
    go_enter Try.func5, Try.ntmps5
    go_wp2_with fail
    refine (alive7_any w).mono ?_
    rintro e w1 ⟨rfl, hb1⟩
    go_wp2_with fail
    refine (at_is (xs := us) (by repeat (first | assumption | exact SlI.nil _ _ | exact SlV.nil _ _ | apply SlI.alloc | apply SlV.alloc | (apply SlI.step; assumption) | (apply SlV.step; assumption))) _ _ Hy.out).mono ?_
    rintro e w2 ⟨rfl, rfl⟩
    go_wp2_with fail
    refine (at_is (xs := us) (by repeat (first | assumption | exact SlI.nil _ _ | exact SlV.nil _ _ | apply SlI.alloc | apply SlV.alloc | (apply SlI.step; assumption) | (apply SlV.step; assumption))) _ _ Hz.out).mono ?_
    rintro e w2 ⟨rfl, rfl⟩
    go_wp2_with fail
    refine (tick_is (xs := us) (by repeat (first | assumption | exact SlI.nil _ _ | exact SlV.nil _ _ | apply SlI.alloc | apply SlV.alloc | (apply SlI.step; assumption) | (apply SlV.step; assumption))) (by omega) _ rfl).mono ?_
    rintro e w2 ⟨u2, rfl, g2, hb2⟩
    go_wp2_with fail
    refine (tick_is (xs := us) (by repeat (first | assumption | exact SlI.nil _ _ | exact SlV.nil _ _ | apply SlI.alloc | apply SlV.alloc | (apply SlI.step; assumption) | (apply SlV.step; assumption))) (by omega) _ rfl).mono ?_
    rintro e w3 ⟨u3, rfl, g3, hb3⟩
    go_wp2_with fail
    refine (within_is (xs := us) (ys := Vec.tick us i) (by repeat (first | assumption | exact SlI.nil _ _ | exact SlV.nil _ _ | apply SlI.alloc | apply SlV.alloc | (apply SlI.step; assumption) | (apply SlV.step; assumption))) (by repeat (first | assumption | exact SlI.nil _ _ | exact SlV.nil _ _ | apply SlI.alloc | apply SlV.alloc | (apply SlI.step; assumption) | (apply SlV.step; assumption))) _ K1.out).mono ?_
    rintro e w4 ⟨rfl, rfl⟩
    go_wp2_with fail
    refine (within_is (xs := Vec.tick us i) (ys := us) (by repeat (first | assumption | exact SlI.nil _ _ | exact SlV.nil _ _ | apply SlI.alloc | apply SlV.alloc | (apply SlI.step; assumption) | (apply SlV.step; assumption))) (by repeat (first | assumption | exact SlI.nil _ _ | exact SlV.nil _ _ | apply SlI.alloc | apply SlV.alloc | (apply SlI.step; assumption) | (apply SlV.step; assumption))) _ K2.out).mono ?_
    rintro e w4 ⟨rfl, rfl⟩
    go_wp2_with fail
    refine (at_is (xs := Vec.tick us i) (by repeat (first | assumption | exact SlI.nil _ _ | exact SlV.nil _ _ | apply SlI.alloc | apply SlV.alloc | (apply SlI.step; assumption) | (apply SlV.step; assumption))) _ _ K3.out).mono ?_
    rintro e w4 ⟨rfl, rfl⟩
    go_wp2_with fail
    refine (at_is (xs := us) (by repeat (first | assumption | exact SlI.nil _ _ | exact SlV.nil _ _ | apply SlI.alloc | apply SlV.alloc | (apply SlI.step; assumption) | (apply SlV.step; assumption))) _ _ Hy.out).mono ?_
    rintro e w4 ⟨rfl, rfl⟩
    go_wp2_with fail
    refine (at_is (xs := Vec.tick us i) (by repeat (first | assumption | exact SlI.nil _ _ | exact SlV.nil _ _ | apply SlI.alloc | apply SlV.alloc | (apply SlI.step; assumption) | (apply SlV.step; assumption))) _ _ K4.out).mono ?_
    rintro e w4 ⟨rfl, rfl⟩
    go_wp2_with fail
    refine (at_is (xs := us) (by repeat (first | assumption | exact SlI.nil _ _ | exact SlV.nil _ _ | apply SlI.alloc | apply SlV.alloc | (apply SlI.step; assumption) | (apply SlV.step; assumption))) _ _ Hz.out).mono ?_
    rintro e w4 ⟨rfl, rfl⟩
    go_wp2_with fail
    refine (within_is (xs := Vec.tick us i) (ys := Vec.tick us j) (by repeat (first | assumption | exact SlI.nil _ _ | exact SlV.nil _ _ | apply SlI.alloc | apply SlV.alloc | (apply SlI.step; assumption) | (apply SlV.step; assumption))) (by repeat (first | assumption | exact SlI.nil _ _ | exact SlV.nil _ _ | apply SlI.alloc | apply SlV.alloc | (apply SlI.step; assumption) | (apply SlV.step; assumption))) _ K5.out).mono ?_
    rintro e w4 ⟨rfl, rfl⟩
    go_wp2_with fail
    refine (within_is (xs := Vec.tick us j) (ys := Vec.tick us i) (by repeat (first | assumption | exact SlI.nil _ _ | exact SlV.nil _ _ | apply SlI.alloc | apply SlV.alloc | (apply SlI.step; assumption) | (apply SlV.step; assumption))) (by repeat (first | assumption | exact SlI.nil _ _ | exact SlV.nil _ _ | apply SlI.alloc | apply SlV.alloc | (apply SlI.step; assumption) | (apply SlV.step; assumption))) _ K6.out).mono ?_
    rintro e w4 ⟨rfl, rfl⟩
    go_wp2_with fail
    refine (join_is (xs := Vec.tick us i) (ys := Vec.tick us j) (by repeat (first | assumption | exact SlI.nil _ _ | exact SlV.nil _ _ | apply SlI.alloc | apply SlV.alloc | (apply SlI.step; assumption) | (apply SlV.step; assumption))) (by repeat (first | assumption | exact SlI.nil _ _ | exact SlV.nil _ _ | apply SlI.alloc | apply SlV.alloc | (apply SlI.step; assumption) | (apply SlV.step; assumption))) (by omega) (by omega) _ rfl).mono ?_
    rintro e w4 ⟨u4, rfl, g4, hb4⟩
    go_wp2_with fail
    refine (tick_is (xs := Vec.tick us i) (by repeat (first | assumption | exact SlI.nil _ _ | exact SlV.nil _ _ | apply SlI.alloc | apply SlV.alloc | (apply SlI.step; assumption) | (apply SlV.step; assumption))) (by omega) _ rfl).mono ?_
    rintro e w5 ⟨u5, rfl, g5, hb5⟩
    go_wp2_with fail
    refine (equal_is (xs := Vec.join (Vec.tick us i) (Vec.tick us j)) (ys := Vec.tick (Vec.tick us i) j) (by repeat (first | assumption | exact SlI.nil _ _ | exact SlV.nil _ _ | apply SlI.alloc | apply SlV.alloc | (apply SlI.step; assumption) | (apply SlV.step; assumption))) (by repeat (first | assumption | exact SlI.nil _ _ | exact SlV.nil _ _ | apply SlI.alloc | apply SlV.alloc | (apply SlI.step; assumption) | (apply SlV.step; assumption))) true K7.out).mono ?_
    rintro e w6 ⟨rfl, hb6⟩
    go_wp2
    go_ret
    exact ⟨rfl, (by repeat (first | exact Below.refl _ _ | assumption | apply below_alloc | apply below_drew | (apply below_next; assumption)))⟩
end Go.Proofs.Ytphbegadddamgaa
