/-
  Who is ahead of whom: three laws, walked.
-/
import Derived.Test.YtdipieplmmhnhaaSpAlive
namespace Go.Proofs.Ytdipieplmmhnhaa
set_option linter.unusedVariables false
set_option linter.unusedSimpArgs false
open Go.RowKit

/-- what is known of a term that lies in a box, while the world goes on -/
structure Boxed (w1 : World) (q : Nat) (k c : Int) (b : Bool) (l : Int) (A : Option Addr) (n cap : Nat) (t : Sp.T) : Prop where
  look : ∀ w', Below w1.heap.size w1 w' → (w'.cell? ⟨q, 0, none⟩ = some (.int .i64 k) ∧ w'.cell? ⟨q, 1, none⟩ = some (.int .i64 c) ∧ w'.cell? ⟨q, 2, none⟩ = some (.bool b) ∧ w'.cell? ⟨q, 3, none⟩ = some (.int .i64 l) ∧ w'.cell? ⟨q, 4, none⟩ = some (.slice A n cap)) ∧
    TmR w'.heap.size w' [.int .i64 k, .int .i64 c, .bool b, .int .i64 l, .slice A n cap] t
theorem Boxed.of {w1 : World} {q : Nat} {k c : Int} {b : Bool} {l : Int} {A : Option Addr} {n cap : Nat} {t : Sp.T} {B : Nat} (hB : Blk w1 q 26 [.int .i64 k, .int .i64 c, .bool b, .int .i64 l, .slice A n cap]) (hT : TmR B w1 [.int .i64 k, .int .i64 c, .bool b, .int .i64 l, .slice A n cap] t) (hb : B ≤ w1.heap.size) : Boxed w1 q k c b l A n cap t :=
  ⟨fun w' h => ⟨⟨by rw [(hB.below h).cell]; rfl, by rw [(hB.below h).cell]; rfl, by rw [(hB.below h).cell]; rfl, by rw [(hB.below h).cell]; rfl, by rw [(hB.below h).cell]; rfl⟩, (hT.later (h.mono hb)).keep (Nat.le_trans hb h.size) (fun _ _ => rfl)⟩⟩

set_option maxHeartbeats 4000000 in
theorem spOrder_walk (w : World) (cs : List Value) (t : Sp.T) (i j k : Int) (hT : TmR w.heap.size w cs t) (hn : t.size ≤ 4194304) :
    Calls Try.prog 10 #[.agg cs.toArray, .int .i64 i, .int .i64 j, .int .i64 k] w fun e w' => e = .returned (.bool true) ∧ Below w.heap.size w w' := by
  obtain ⟨a0, a1, a2, a3, A4, a5, a6, rfl, -, -⟩ := hT.form
  have hP := Blk.new w 26 (tcells a0 a1 a2 a3 A4 a5 a6)
  have s1 := hT.alloc (Nat.le_refl _) (.cells (tcells a0 a1 a2 a3 A4 a5 a6).toArray 26)
  have hb0 : Below w.heap.size w (w.alloc (.cells (tcells a0 a1 a2 a3 A4 a5 a6).toArray 26)) := below_alloc (Below.refl _ _) _
  unfold tcells at s1 hP hb0 ⊢
  clear hT
  go_enter Try.func10, Try.ntmps10
  go_wp2_with fail
  refine (alive4_any _).mono ?_
  rintro e w1 ⟨rfl, hb1⟩
  have hbw := below_next hb1 hb0
  have hP1 := hP.below hb1
  have hsz : w.heap.size ≤ w1.heap.size := hbw.size
  have hX := Boxed.of hP1 (s1.later (hb1.mono (by simp))) hsz
  obtain ⟨q, hq⟩ : ∃ q, q = w.heap.size := ⟨_, rfl⟩
  rw [← hq] at hX ⊢
  have hA : Below w1.heap.size w1 w1 := Below.refl _ _
  have HQ := Lib.hid hq
  clear hP s1 hb0 hb1 hP1 hq hsz
  have e0 := Lib.hid (t.before_irr i)
  rcases h1 : t.before i j with _ | _
  · have e1 := Lib.hid h1
    clear h1
    obtain ⟨⟨d0, d1, d2, d3, d4⟩, hT⟩ := hX.look _ hA
    go_wp2_with fail
    refine (before_any _ _ t i i hT hn).mono ?_
    rintro e w2 ⟨rfl, hb⟩
    replace hA := below_next hb hA
    clear d0 d1 d2 d3 d4 hT hb
    rw [e0.out]
    obtain ⟨⟨d0, d1, d2, d3, d4⟩, hT⟩ := hX.look _ hA
    go_wp2_with fail
    refine (before_any _ _ t i j hT hn).mono ?_
    rintro e w2 ⟨rfl, hb⟩
    replace hA := below_next hb hA
    clear d0 d1 d2 d3 d4 hT hb
    rw [e1.out]
    obtain ⟨⟨d0, d1, d2, d3, d4⟩, hT⟩ := hX.look _ hA
    go_wp2_with fail
    refine (before_any _ _ t i j hT hn).mono ?_
    rintro e w2 ⟨rfl, hb⟩
    replace hA := below_next hb hA
    clear d0 d1 d2 d3 d4 hT hb
    rw [e1.out]
    go_wp2
    go_ret
    exact ⟨rfl, below_self hbw hA⟩
  · have hij : decide (i < j) = true := by simpa using t.before_lt i j h1
    have e1 := Lib.hid h1
    rcases h2 : t.before j k with _ | _
    · have e2 := Lib.hid h2
      clear h1 h2
      obtain ⟨⟨d0, d1, d2, d3, d4⟩, hT⟩ := hX.look _ hA
      go_wp2_with fail
      refine (before_any _ _ t i i hT hn).mono ?_
      rintro e w2 ⟨rfl, hb⟩
      replace hA := below_next hb hA
      clear d0 d1 d2 d3 d4 hT hb
      rw [e0.out]
      obtain ⟨⟨d0, d1, d2, d3, d4⟩, hT⟩ := hX.look _ hA
      go_wp2_with fail
      refine (before_any _ _ t i j hT hn).mono ?_
      rintro e w2 ⟨rfl, hb⟩
      replace hA := below_next hb hA
      clear d0 d1 d2 d3 d4 hT hb
      rw [e1.out]
      obtain ⟨⟨d0, d1, d2, d3, d4⟩, hT⟩ := hX.look _ hA
      go_wp2_with fail
      refine (before_any _ _ t i j hT hn).mono ?_
      rintro e w2 ⟨rfl, hb⟩
      replace hA := below_next hb hA
      clear d0 d1 d2 d3 d4 hT hb
      rw [e1.out]
      obtain ⟨⟨d0, d1, d2, d3, d4⟩, hT⟩ := hX.look _ hA
      go_wp2_with fail
      refine (before_any _ _ t j k hT hn).mono ?_
      rintro e w2 ⟨rfl, hb⟩
      replace hA := below_next hb hA
      clear d0 d1 d2 d3 d4 hT hb
      rw [e2.out]
      go_wp2
      go_ret
      exact ⟨rfl, below_self hbw hA⟩
    · have e2 := Lib.hid h2
      have e3 := Lib.hid (t.before_trans i j k h1 h2)
      clear h1 h2
      obtain ⟨⟨d0, d1, d2, d3, d4⟩, hT⟩ := hX.look _ hA
      go_wp2_with fail
      refine (before_any _ _ t i i hT hn).mono ?_
      rintro e w2 ⟨rfl, hb⟩
      replace hA := below_next hb hA
      clear d0 d1 d2 d3 d4 hT hb
      rw [e0.out]
      obtain ⟨⟨d0, d1, d2, d3, d4⟩, hT⟩ := hX.look _ hA
      go_wp2_with fail
      refine (before_any _ _ t i j hT hn).mono ?_
      rintro e w2 ⟨rfl, hb⟩
      replace hA := below_next hb hA
      clear d0 d1 d2 d3 d4 hT hb
      rw [e1.out]
      obtain ⟨⟨d0, d1, d2, d3, d4⟩, hT⟩ := hX.look _ hA
      go_wp2_with fail
      refine (before_any _ _ t i j hT hn).mono ?_
      rintro e w2 ⟨rfl, hb⟩
      replace hA := below_next hb hA
      clear d0 d1 d2 d3 d4 hT hb
      rw [e1.out]
      obtain ⟨⟨d0, d1, d2, d3, d4⟩, hT⟩ := hX.look _ hA
      go_wp2_with fail
      refine (before_any _ _ t j k hT hn).mono ?_
      rintro e w2 ⟨rfl, hb⟩
      replace hA := below_next hb hA
      clear d0 d1 d2 d3 d4 hT hb
      rw [e2.out]
      obtain ⟨⟨d0, d1, d2, d3, d4⟩, hT⟩ := hX.look _ hA
      go_wp2_with fail
      refine (before_any _ _ t i k hT hn).mono ?_
      rintro e w2 ⟨rfl, hb⟩
      replace hA := below_next hb hA
      clear d0 d1 d2 d3 d4 hT hb
      rw [e3.out]
      go_wp2
      go_ret
      exact ⟨rfl, below_self hbw hA⟩

def Sp.T.away (t : Sp.T) (x y : Int) : Bool := x != y && !t.before x y && !t.before y x
set_option maxHeartbeats 4000000 in
theorem apart_any (w1 w' : World) (q : Nat) (a0 a1 : Int) (a2 : Bool) (a3 : Int) (A4 : Option Addr) (a5 a6 : Nat) (t : Sp.T) (hX : Boxed w1 q a0 a1 a2 a3 A4 a5 a6 t) (hn : t.size ≤ 4194304) (hA : Below w1.heap.size w1 w') (x y : Int) :
    Calls Try.prog 25 #[.int .i64 x, .int .i64 y, .pointer (some ⟨q, 0, none⟩)] w' fun e w'' => e = .returned (.bool (t.away x y)) ∧ Below w1.heap.size w1 w'' := by
  rcases h0 : x != y with _ | _
  · have e0 := Lib.hid (show t.away x y = false by unfold Sp.T.away; rw [h0]; rfl)
    obtain rfl : x = y := by simpa using h0
    clear h0
    go_enter Try.func25, Try.ntmps25
    go_wp2
    go_ret
    exact ⟨ret_bool (by rw [e0.out]), hA⟩
  · rcases h1 : t.before x y with _ | _
    · have e0 := Lib.hid (show t.away x y = !t.before y x by unfold Sp.T.away; rw [h0, h1]; rfl)
      have e1 := Lib.hid h1
      clear h1
      rcases h2 : t.before y x with _ | _
      all_goals
        have e2 := Lib.hid h2
        rw [h2] at e0
        clear h2
        go_enter Try.func25, Try.ntmps25
        obtain ⟨⟨d0, d1, d2, d3, d4⟩, hT⟩ := hX.look _ hA
        go_wp2_with fail
        refine (before_any _ _ t x y hT hn).mono ?_
        rintro e w2 ⟨rfl, hb⟩
        replace hA := below_next hb hA
        clear d0 d1 d2 d3 d4 hT hb
        rw [e1.out]
        obtain ⟨⟨d0, d1, d2, d3, d4⟩, hT⟩ := hX.look _ hA
        go_wp2_with fail
        refine (before_any _ _ t y x hT hn).mono ?_
        rintro e w2 ⟨rfl, hb⟩
        replace hA := below_next hb hA
        clear d0 d1 d2 d3 d4 hT hb
        rw [e2.out]
        go_wp2
        go_ret
        exact ⟨ret_bool (by rw [e0.out]; rfl), hA⟩
    · have e0 := Lib.hid (show t.away x y = false by unfold Sp.T.away; rw [h0, h1]; rfl)
      have e1 := Lib.hid h1
      clear h1
      go_enter Try.func25, Try.ntmps25
      obtain ⟨⟨d0, d1, d2, d3, d4⟩, hT⟩ := hX.look _ hA
      go_wp2_with fail
      refine (before_any _ _ t x y hT hn).mono ?_
      rintro e w2 ⟨rfl, hb⟩
      replace hA := below_next hb hA
      clear d0 d1 d2 d3 d4 hT hb
      rw [e1.out]
      go_wp2
      go_ret
      exact ⟨ret_bool (by rw [e0.out]), hA⟩
end Go.Proofs.Ytdipieplmmhnhaa
