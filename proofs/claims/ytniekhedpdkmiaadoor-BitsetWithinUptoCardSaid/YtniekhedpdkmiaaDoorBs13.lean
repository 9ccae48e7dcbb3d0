/-
  BitsetWithin, walked.
-/
import Derived.Test.YtniekhedpdkmiaaDoorBs12
namespace Go.Proofs.YtniekhedpdkmiaaDoor
set_option linter.unusedVariables false
set_option linter.unusedSimpArgs false
open Go Go.RowKit

set_option maxHeartbeats 32000000 in
theorem within1_walk (w : World) (v0 v1 v2 : Value) (s t u : List Nat) (hT : Tab w) (hs : SlU w v0 s) (ht : SlU w v1 t) (hu : SlU w v2 u) (bs : s.length ≤ 17592186044) (bt : t.length ≤ 17592186044) (bu : u.length ≤ 17592186044) (Hus : Hid (Bs.win u s = false)) :
    Calls Tryd.prog 5 #[v0, v1, v2] w fun e w' => e = .returned (.bool true) ∧ Below w.heap.size w w' := by
  have ws := hs.2
  obtain ⟨A0, k0, rfl⟩ := slU_form hs
  have wt := ht.2
  obtain ⟨A1, k1, rfl⟩ := slU_form ht
  have wu := hu.2
  obtain ⟨A2, k2, rfl⟩ := slU_form hu
  rcases hsu : Bs.win s u with _ | _
  · skip
    have Hsu := Lib.hid hsu
    clear hsu
    rcases hst : Bs.win s t with _ | _
    · skip
      have Hst := Lib.hid hst
      clear hst
      go_enter Tryd.func5, Tryd.ntmps5
      have hbw : Below w.heap.size w w := Below.refl _ _
      go_wp2_with fail
      refine (alive1_any _ hT).mono ?_
      rintro e w1 ⟨rfl, hb1⟩
      replace hs := hs.below hb1
      replace ht := ht.below hb1
      replace hu := hu.below hb1
      replace hT := hT.step hb1
      replace hbw := below_next hb1 hbw
      clear hb1
      clear hT
      go_wp2_with fail
      refine (within_any _ _ _ _ _ hu hs (Nat.le_trans bu (by decide)) (Nat.le_trans bs (by decide)) false Hus.out).mono ?_
      rintro e w2 ⟨rfl, hb2⟩
      replace hs := hs.below hb2
      replace ht := ht.below hb2
      replace hu := hu.below hb2
      replace hbw := below_next hb2 hbw
      clear hb2
      go_wp2_with fail
      refine (within_any _ _ _ _ _ hs hu (Nat.le_trans bs (by decide)) (Nat.le_trans bu (by decide)) false Hsu.out).mono ?_
      rintro e w3 ⟨rfl, hb3⟩
      replace hs := hs.below hb3
      replace ht := ht.below hb3
      replace hu := hu.below hb3
      replace hbw := below_next hb3 hbw
      clear hb3
      go_wp2_with fail
      refine (within_any _ _ _ _ _ hs hs (Nat.le_trans bs (by decide)) (Nat.le_trans bs (by decide)) true (Bs.win1 ws)).mono ?_
      rintro e w4 ⟨rfl, hb4⟩
      replace hs := hs.below hb4
      replace ht := ht.below hb4
      replace hu := hu.below hb4
      replace hbw := below_next hb4 hbw
      clear hb4
      go_wp2_with fail
      refine (and_any _ _ _ _ _ hs ht (Nat.le_trans bs (by decide)) (Nat.le_trans bt (by decide))).mono ?_
      rintro e w5 ⟨u5, rfl, ha23, hb5⟩
      obtain ⟨U5, c5, rfl⟩ := slU_form ha23
      replace hs := hs.below hb5
      replace ht := ht.below hb5
      replace hu := hu.below hb5
      replace hbw := below_next hb5 hbw
      clear hb5
      go_wp2_with fail
      refine (within_any _ _ _ _ _ hu ha23 (Nat.le_trans bu (by decide)) (Nat.le_trans (Bs.op_le bs bt) (by decide)) false ((Bs.win2 ws wt wu).trans (by rw [Hus.out]; rfl))).mono ?_
      rintro e w6 ⟨rfl, hb6⟩
      replace hs := hs.below hb6
      replace ht := ht.below hb6
      replace hu := hu.below hb6
      replace ha23 := ha23.below hb6
      replace hbw := below_next hb6 hbw
      clear hb6
      clear ha23
      go_wp2_with fail
      refine (or_any _ _ _ _ _ hs ht (Nat.le_trans bs (by decide)) (Nat.le_trans bt (by decide))).mono ?_
      rintro e w7 ⟨u7, rfl, ho24, hb7⟩
      obtain ⟨U7, c7, rfl⟩ := slU_form ho24
      replace hs := hs.below hb7
      replace ht := ht.below hb7
      replace hu := hu.below hb7
      replace hbw := below_next hb7 hbw
      clear hb7
      go_wp2_with fail
      refine (within_any _ _ _ _ _ ho24 hu (Nat.le_trans (Bs.op_le bs bt) (by decide)) (Nat.le_trans bu (by decide)) false ((Bs.win3 ws wt wu).trans (by rw [Hsu.out]; rfl))).mono ?_
      rintro e w8 ⟨rfl, hb8⟩
      replace hs := hs.below hb8
      replace ht := ht.below hb8
      replace hu := hu.below hb8
      replace ho24 := ho24.below hb8
      replace hbw := below_next hb8 hbw
      clear hb8
      clear ho24
      go_wp2_with fail
      refine (within_any _ _ _ _ _ hs ht (Nat.le_trans bs (by decide)) (Nat.le_trans bt (by decide)) false Hst.out).mono ?_
      rintro e w9 ⟨rfl, hb9⟩
      replace hs := hs.below hb9
      replace ht := ht.below hb9
      replace hu := hu.below hb9
      replace hbw := below_next hb9 hbw
      clear hb9
      go_wp2_with fail
      refine (within_any _ _ _ _ _ hs ht (Nat.le_trans bs (by decide)) (Nat.le_trans bt (by decide)) false Hst.out).mono ?_
      rintro e w10 ⟨rfl, hb10⟩
      replace hs := hs.below hb10
      replace ht := ht.below hb10
      replace hu := hu.below hb10
      replace hbw := below_next hb10 hbw
      clear hb10
      go_wp2_with fail
      refine (or_any _ _ _ _ _ hs (SlU.nil _) (Nat.le_trans bs (by decide)) (by decide)).mono ?_
      rintro e w11 ⟨u11, rfl, hn25, hb11⟩
      obtain ⟨U11, c11, rfl⟩ := slU_form hn25
      replace hs := hs.below hb11
      replace ht := ht.below hb11
      replace hu := hu.below hb11
      replace hbw := below_next hb11 hbw
      clear hb11
      go_wp2_with fail
      refine (or_any _ _ _ _ _ ht (SlU.nil _) (Nat.le_trans bt (by decide)) (by decide)).mono ?_
      rintro e w12 ⟨u12, rfl, hn26, hb12⟩
      obtain ⟨U12, c12, rfl⟩ := slU_form hn26
      replace hs := hs.below hb12
      replace ht := ht.below hb12
      replace hu := hu.below hb12
      replace hn25 := hn25.below hb12
      replace hbw := below_next hb12 hbw
      clear hb12
      go_wp2_with fail
      refine (equal_u64_call _ _ _ _ false (by rw [← Bs.win5 ws wt, Hst.out]; rfl) _ hn25 hn26).mono ?_
      rintro e w13 ⟨rfl, hb13⟩
      replace hs := hs.below hb13
      replace ht := ht.below hb13
      replace hu := hu.below hb13
      replace hn25 := hn25.below hb13
      replace hn26 := hn26.below hb13
      replace hbw := below_next hb13 hbw
      clear hb13
      clear hn25 hn26
      clear hs ht hu
      go_wp2
      go_ret
      exact ⟨rfl, hbw⟩
    · have htu : Bs.win t u = false := by
        rw [Bool.eq_false_iff]
        intro h
        have := Bs.win4 ws wt wu hst h
        rw [Hsu.out] at this
        cases this
      have Hst := Lib.hid hst
      clear hst
      have Htu := Lib.hid htu
      clear htu
      rcases hts : Bs.win t s with _ | _
      · skip
        have Hts := Lib.hid hts
        clear hts
        go_enter Tryd.func5, Tryd.ntmps5
        have hbw : Below w.heap.size w w := Below.refl _ _
        go_wp2_with fail
        refine (alive1_any _ hT).mono ?_
        rintro e w1 ⟨rfl, hb1⟩
        replace hs := hs.below hb1
        replace ht := ht.below hb1
        replace hu := hu.below hb1
        replace hT := hT.step hb1
        replace hbw := below_next hb1 hbw
        clear hb1
        clear hT
        go_wp2_with fail
        refine (within_any _ _ _ _ _ hu hs (Nat.le_trans bu (by decide)) (Nat.le_trans bs (by decide)) false Hus.out).mono ?_
        rintro e w2 ⟨rfl, hb2⟩
        replace hs := hs.below hb2
        replace ht := ht.below hb2
        replace hu := hu.below hb2
        replace hbw := below_next hb2 hbw
        clear hb2
        go_wp2_with fail
        refine (within_any _ _ _ _ _ hs hu (Nat.le_trans bs (by decide)) (Nat.le_trans bu (by decide)) false Hsu.out).mono ?_
        rintro e w3 ⟨rfl, hb3⟩
        replace hs := hs.below hb3
        replace ht := ht.below hb3
        replace hu := hu.below hb3
        replace hbw := below_next hb3 hbw
        clear hb3
        go_wp2_with fail
        refine (within_any _ _ _ _ _ hs hs (Nat.le_trans bs (by decide)) (Nat.le_trans bs (by decide)) true (Bs.win1 ws)).mono ?_
        rintro e w4 ⟨rfl, hb4⟩
        replace hs := hs.below hb4
        replace ht := ht.below hb4
        replace hu := hu.below hb4
        replace hbw := below_next hb4 hbw
        clear hb4
        go_wp2_with fail
        refine (and_any _ _ _ _ _ hs ht (Nat.le_trans bs (by decide)) (Nat.le_trans bt (by decide))).mono ?_
        rintro e w5 ⟨u5, rfl, ha27, hb5⟩
        obtain ⟨U5, c5, rfl⟩ := slU_form ha27
        replace hs := hs.below hb5
        replace ht := ht.below hb5
        replace hu := hu.below hb5
        replace hbw := below_next hb5 hbw
        clear hb5
        go_wp2_with fail
        refine (within_any _ _ _ _ _ hu ha27 (Nat.le_trans bu (by decide)) (Nat.le_trans (Bs.op_le bs bt) (by decide)) false ((Bs.win2 ws wt wu).trans (by rw [Hus.out]; rfl))).mono ?_
        rintro e w6 ⟨rfl, hb6⟩
        replace hs := hs.below hb6
        replace ht := ht.below hb6
        replace hu := hu.below hb6
        replace ha27 := ha27.below hb6
        replace hbw := below_next hb6 hbw
        clear hb6
        clear ha27
        go_wp2_with fail
        refine (or_any _ _ _ _ _ hs ht (Nat.le_trans bs (by decide)) (Nat.le_trans bt (by decide))).mono ?_
        rintro e w7 ⟨u7, rfl, ho28, hb7⟩
        obtain ⟨U7, c7, rfl⟩ := slU_form ho28
        replace hs := hs.below hb7
        replace ht := ht.below hb7
        replace hu := hu.below hb7
        replace hbw := below_next hb7 hbw
        clear hb7
        go_wp2_with fail
        refine (within_any _ _ _ _ _ ho28 hu (Nat.le_trans (Bs.op_le bs bt) (by decide)) (Nat.le_trans bu (by decide)) false ((Bs.win3 ws wt wu).trans (by rw [Hsu.out]; rfl))).mono ?_
        rintro e w8 ⟨rfl, hb8⟩
        replace hs := hs.below hb8
        replace ht := ht.below hb8
        replace hu := hu.below hb8
        replace ho28 := ho28.below hb8
        replace hbw := below_next hb8 hbw
        clear hb8
        clear ho28
        go_wp2_with fail
        refine (within_any _ _ _ _ _ hs ht (Nat.le_trans bs (by decide)) (Nat.le_trans bt (by decide)) true Hst.out).mono ?_
        rintro e w9 ⟨rfl, hb9⟩
        replace hs := hs.below hb9
        replace ht := ht.below hb9
        replace hu := hu.below hb9
        replace hbw := below_next hb9 hbw
        clear hb9
        go_wp2_with fail
        refine (within_any _ _ _ _ _ ht hu (Nat.le_trans bt (by decide)) (Nat.le_trans bu (by decide)) false Htu.out).mono ?_
        rintro e w10 ⟨rfl, hb10⟩
        replace hs := hs.below hb10
        replace ht := ht.below hb10
        replace hu := hu.below hb10
        replace hbw := below_next hb10 hbw
        clear hb10
        go_wp2_with fail
        refine (within_any _ _ _ _ _ hs ht (Nat.le_trans bs (by decide)) (Nat.le_trans bt (by decide)) true Hst.out).mono ?_
        rintro e w11 ⟨rfl, hb11⟩
        replace hs := hs.below hb11
        replace ht := ht.below hb11
        replace hu := hu.below hb11
        replace hbw := below_next hb11 hbw
        clear hb11
        go_wp2_with fail
        refine (within_any _ _ _ _ _ ht hs (Nat.le_trans bt (by decide)) (Nat.le_trans bs (by decide)) false Hts.out).mono ?_
        rintro e w12 ⟨rfl, hb12⟩
        replace hs := hs.below hb12
        replace ht := ht.below hb12
        replace hu := hu.below hb12
        replace hbw := below_next hb12 hbw
        clear hb12
        go_wp2_with fail
        refine (or_any _ _ _ _ _ hs (SlU.nil _) (Nat.le_trans bs (by decide)) (by decide)).mono ?_
        rintro e w13 ⟨u13, rfl, hn29, hb13⟩
        obtain ⟨U13, c13, rfl⟩ := slU_form hn29
        replace hs := hs.below hb13
        replace ht := ht.below hb13
        replace hu := hu.below hb13
        replace hbw := below_next hb13 hbw
        clear hb13
        go_wp2_with fail
        refine (or_any _ _ _ _ _ ht (SlU.nil _) (Nat.le_trans bt (by decide)) (by decide)).mono ?_
        rintro e w14 ⟨u14, rfl, hn30, hb14⟩
        obtain ⟨U14, c14, rfl⟩ := slU_form hn30
        replace hs := hs.below hb14
        replace ht := ht.below hb14
        replace hu := hu.below hb14
        replace hn29 := hn29.below hb14
        replace hbw := below_next hb14 hbw
        clear hb14
        go_wp2_with fail
        refine (equal_u64_call _ _ _ _ false (by rw [← Bs.win5 ws wt, Hst.out, Hts.out]; rfl) _ hn29 hn30).mono ?_
        rintro e w15 ⟨rfl, hb15⟩
        replace hs := hs.below hb15
        replace ht := ht.below hb15
        replace hu := hu.below hb15
        replace hn29 := hn29.below hb15
        replace hn30 := hn30.below hb15
        replace hbw := below_next hb15 hbw
        clear hb15
        clear hn29 hn30
        clear hs ht hu
        go_wp2
        go_ret
        exact ⟨rfl, hbw⟩
      · skip
        have Hts := Lib.hid hts
        clear hts
        go_enter Tryd.func5, Tryd.ntmps5
        have hbw : Below w.heap.size w w := Below.refl _ _
        go_wp2_with fail
        refine (alive1_any _ hT).mono ?_
        rintro e w1 ⟨rfl, hb1⟩
        replace hs := hs.below hb1
        replace ht := ht.below hb1
        replace hu := hu.below hb1
        replace hT := hT.step hb1
        replace hbw := below_next hb1 hbw
        clear hb1
        clear hT
        go_wp2_with fail
        refine (within_any _ _ _ _ _ hu hs (Nat.le_trans bu (by decide)) (Nat.le_trans bs (by decide)) false Hus.out).mono ?_
        rintro e w2 ⟨rfl, hb2⟩
        replace hs := hs.below hb2
        replace ht := ht.below hb2
        replace hu := hu.below hb2
        replace hbw := below_next hb2 hbw
        clear hb2
        go_wp2_with fail
        refine (within_any _ _ _ _ _ hs hu (Nat.le_trans bs (by decide)) (Nat.le_trans bu (by decide)) false Hsu.out).mono ?_
        rintro e w3 ⟨rfl, hb3⟩
        replace hs := hs.below hb3
        replace ht := ht.below hb3
        replace hu := hu.below hb3
        replace hbw := below_next hb3 hbw
        clear hb3
        go_wp2_with fail
        refine (within_any _ _ _ _ _ hs hs (Nat.le_trans bs (by decide)) (Nat.le_trans bs (by decide)) true (Bs.win1 ws)).mono ?_
        rintro e w4 ⟨rfl, hb4⟩
        replace hs := hs.below hb4
        replace ht := ht.below hb4
        replace hu := hu.below hb4
        replace hbw := below_next hb4 hbw
        clear hb4
        go_wp2_with fail
        refine (and_any _ _ _ _ _ hs ht (Nat.le_trans bs (by decide)) (Nat.le_trans bt (by decide))).mono ?_
        rintro e w5 ⟨u5, rfl, ha31, hb5⟩
        obtain ⟨U5, c5, rfl⟩ := slU_form ha31
        replace hs := hs.below hb5
        replace ht := ht.below hb5
        replace hu := hu.below hb5
        replace hbw := below_next hb5 hbw
        clear hb5
        go_wp2_with fail
        refine (within_any _ _ _ _ _ hu ha31 (Nat.le_trans bu (by decide)) (Nat.le_trans (Bs.op_le bs bt) (by decide)) false ((Bs.win2 ws wt wu).trans (by rw [Hus.out]; rfl))).mono ?_
        rintro e w6 ⟨rfl, hb6⟩
        replace hs := hs.below hb6
        replace ht := ht.below hb6
        replace hu := hu.below hb6
        replace ha31 := ha31.below hb6
        replace hbw := below_next hb6 hbw
        clear hb6
        clear ha31
        go_wp2_with fail
        refine (or_any _ _ _ _ _ hs ht (Nat.le_trans bs (by decide)) (Nat.le_trans bt (by decide))).mono ?_
        rintro e w7 ⟨u7, rfl, ho32, hb7⟩
        obtain ⟨U7, c7, rfl⟩ := slU_form ho32
        replace hs := hs.below hb7
        replace ht := ht.below hb7
        replace hu := hu.below hb7
        replace hbw := below_next hb7 hbw
        clear hb7
        go_wp2_with fail
        refine (within_any _ _ _ _ _ ho32 hu (Nat.le_trans (Bs.op_le bs bt) (by decide)) (Nat.le_trans bu (by decide)) false ((Bs.win3 ws wt wu).trans (by rw [Hsu.out]; rfl))).mono ?_
        rintro e w8 ⟨rfl, hb8⟩
        replace hs := hs.below hb8
        replace ht := ht.below hb8
        replace hu := hu.below hb8
        replace ho32 := ho32.below hb8
        replace hbw := below_next hb8 hbw
        clear hb8
        clear ho32
        go_wp2_with fail
        refine (within_any _ _ _ _ _ hs ht (Nat.le_trans bs (by decide)) (Nat.le_trans bt (by decide)) true Hst.out).mono ?_
        rintro e w9 ⟨rfl, hb9⟩
        replace hs := hs.below hb9
        replace ht := ht.below hb9
        replace hu := hu.below hb9
        replace hbw := below_next hb9 hbw
        clear hb9
        go_wp2_with fail
        refine (within_any _ _ _ _ _ ht hu (Nat.le_trans bt (by decide)) (Nat.le_trans bu (by decide)) false Htu.out).mono ?_
        rintro e w10 ⟨rfl, hb10⟩
        replace hs := hs.below hb10
        replace ht := ht.below hb10
        replace hu := hu.below hb10
        replace hbw := below_next hb10 hbw
        clear hb10
        go_wp2_with fail
        refine (within_any _ _ _ _ _ hs ht (Nat.le_trans bs (by decide)) (Nat.le_trans bt (by decide)) true Hst.out).mono ?_
        rintro e w11 ⟨rfl, hb11⟩
        replace hs := hs.below hb11
        replace ht := ht.below hb11
        replace hu := hu.below hb11
        replace hbw := below_next hb11 hbw
        clear hb11
        go_wp2_with fail
        refine (within_any _ _ _ _ _ ht hs (Nat.le_trans bt (by decide)) (Nat.le_trans bs (by decide)) true Hts.out).mono ?_
        rintro e w12 ⟨rfl, hb12⟩
        replace hs := hs.below hb12
        replace ht := ht.below hb12
        replace hu := hu.below hb12
        replace hbw := below_next hb12 hbw
        clear hb12
        go_wp2_with fail
        refine (or_any _ _ _ _ _ hs (SlU.nil _) (Nat.le_trans bs (by decide)) (by decide)).mono ?_
        rintro e w13 ⟨u13, rfl, hn33, hb13⟩
        obtain ⟨U13, c13, rfl⟩ := slU_form hn33
        replace hs := hs.below hb13
        replace ht := ht.below hb13
        replace hu := hu.below hb13
        replace hbw := below_next hb13 hbw
        clear hb13
        go_wp2_with fail
        refine (or_any _ _ _ _ _ ht (SlU.nil _) (Nat.le_trans bt (by decide)) (by decide)).mono ?_
        rintro e w14 ⟨u14, rfl, hn34, hb14⟩
        obtain ⟨U14, c14, rfl⟩ := slU_form hn34
        replace hs := hs.below hb14
        replace ht := ht.below hb14
        replace hu := hu.below hb14
        replace hn33 := hn33.below hb14
        replace hbw := below_next hb14 hbw
        clear hb14
        go_wp2_with fail
        refine (equal_u64_call _ _ _ _ true (by rw [← Bs.win5 ws wt, Hst.out, Hts.out]; rfl) _ hn33 hn34).mono ?_
        rintro e w15 ⟨rfl, hb15⟩
        replace hs := hs.below hb15
        replace ht := ht.below hb15
        replace hu := hu.below hb15
        replace hn33 := hn33.below hb15
        replace hn34 := hn34.below hb15
        replace hbw := below_next hb15 hbw
        clear hb15
        clear hn33 hn34
        clear hs ht hu
        go_wp2
        go_ret
        exact ⟨rfl, hbw⟩
  · skip
    have Hsu := Lib.hid hsu
    clear hsu
    rcases htu : Bs.win t u with _ | _
    · skip
      have Htu := Lib.hid htu
      clear htu
      rcases hst : Bs.win s t with _ | _
      · skip
        have Hst := Lib.hid hst
        clear hst
        go_enter Tryd.func5, Tryd.ntmps5
        have hbw : Below w.heap.size w w := Below.refl _ _
        go_wp2_with fail
        refine (alive1_any _ hT).mono ?_
        rintro e w1 ⟨rfl, hb1⟩
        replace hs := hs.below hb1
        replace ht := ht.below hb1
        replace hu := hu.below hb1
        replace hT := hT.step hb1
        replace hbw := below_next hb1 hbw
        clear hb1
        clear hT
        go_wp2_with fail
        refine (within_any _ _ _ _ _ hu hs (Nat.le_trans bu (by decide)) (Nat.le_trans bs (by decide)) false Hus.out).mono ?_
        rintro e w2 ⟨rfl, hb2⟩
        replace hs := hs.below hb2
        replace ht := ht.below hb2
        replace hu := hu.below hb2
        replace hbw := below_next hb2 hbw
        clear hb2
        go_wp2_with fail
        refine (within_any _ _ _ _ _ hs hu (Nat.le_trans bs (by decide)) (Nat.le_trans bu (by decide)) true Hsu.out).mono ?_
        rintro e w3 ⟨rfl, hb3⟩
        replace hs := hs.below hb3
        replace ht := ht.below hb3
        replace hu := hu.below hb3
        replace hbw := below_next hb3 hbw
        clear hb3
        go_wp2_with fail
        refine (within_any _ _ _ _ _ ht hu (Nat.le_trans bt (by decide)) (Nat.le_trans bu (by decide)) false Htu.out).mono ?_
        rintro e w4 ⟨rfl, hb4⟩
        replace hs := hs.below hb4
        replace ht := ht.below hb4
        replace hu := hu.below hb4
        replace hbw := below_next hb4 hbw
        clear hb4
        go_wp2_with fail
        refine (within_any _ _ _ _ _ hs hs (Nat.le_trans bs (by decide)) (Nat.le_trans bs (by decide)) true (Bs.win1 ws)).mono ?_
        rintro e w5 ⟨rfl, hb5⟩
        replace hs := hs.below hb5
        replace ht := ht.below hb5
        replace hu := hu.below hb5
        replace hbw := below_next hb5 hbw
        clear hb5
        go_wp2_with fail
        refine (and_any _ _ _ _ _ hs ht (Nat.le_trans bs (by decide)) (Nat.le_trans bt (by decide))).mono ?_
        rintro e w6 ⟨u6, rfl, ha35, hb6⟩
        obtain ⟨U6, c6, rfl⟩ := slU_form ha35
        replace hs := hs.below hb6
        replace ht := ht.below hb6
        replace hu := hu.below hb6
        replace hbw := below_next hb6 hbw
        clear hb6
        go_wp2_with fail
        refine (within_any _ _ _ _ _ hu ha35 (Nat.le_trans bu (by decide)) (Nat.le_trans (Bs.op_le bs bt) (by decide)) false ((Bs.win2 ws wt wu).trans (by rw [Hus.out]; rfl))).mono ?_
        rintro e w7 ⟨rfl, hb7⟩
        replace hs := hs.below hb7
        replace ht := ht.below hb7
        replace hu := hu.below hb7
        replace ha35 := ha35.below hb7
        replace hbw := below_next hb7 hbw
        clear hb7
        clear ha35
        go_wp2_with fail
        refine (or_any _ _ _ _ _ hs ht (Nat.le_trans bs (by decide)) (Nat.le_trans bt (by decide))).mono ?_
        rintro e w8 ⟨u8, rfl, ho36, hb8⟩
        obtain ⟨U8, c8, rfl⟩ := slU_form ho36
        replace hs := hs.below hb8
        replace ht := ht.below hb8
        replace hu := hu.below hb8
        replace hbw := below_next hb8 hbw
        clear hb8
        go_wp2_with fail
        refine (within_any _ _ _ _ _ ho36 hu (Nat.le_trans (Bs.op_le bs bt) (by decide)) (Nat.le_trans bu (by decide)) false ((Bs.win3 ws wt wu).trans (by rw [Hsu.out, Htu.out]; rfl))).mono ?_
        rintro e w9 ⟨rfl, hb9⟩
        replace hs := hs.below hb9
        replace ht := ht.below hb9
        replace hu := hu.below hb9
        replace ho36 := ho36.below hb9
        replace hbw := below_next hb9 hbw
        clear hb9
        clear ho36
        go_wp2_with fail
        refine (within_any _ _ _ _ _ hs ht (Nat.le_trans bs (by decide)) (Nat.le_trans bt (by decide)) false Hst.out).mono ?_
        rintro e w10 ⟨rfl, hb10⟩
        replace hs := hs.below hb10
        replace ht := ht.below hb10
        replace hu := hu.below hb10
        replace hbw := below_next hb10 hbw
        clear hb10
        go_wp2_with fail
        refine (within_any _ _ _ _ _ hs ht (Nat.le_trans bs (by decide)) (Nat.le_trans bt (by decide)) false Hst.out).mono ?_
        rintro e w11 ⟨rfl, hb11⟩
        replace hs := hs.below hb11
        replace ht := ht.below hb11
        replace hu := hu.below hb11
        replace hbw := below_next hb11 hbw
        clear hb11
        go_wp2_with fail
        refine (or_any _ _ _ _ _ hs (SlU.nil _) (Nat.le_trans bs (by decide)) (by decide)).mono ?_
        rintro e w12 ⟨u12, rfl, hn37, hb12⟩
        obtain ⟨U12, c12, rfl⟩ := slU_form hn37
        replace hs := hs.below hb12
        replace ht := ht.below hb12
        replace hu := hu.below hb12
        replace hbw := below_next hb12 hbw
        clear hb12
        go_wp2_with fail
        refine (or_any _ _ _ _ _ ht (SlU.nil _) (Nat.le_trans bt (by decide)) (by decide)).mono ?_
        rintro e w13 ⟨u13, rfl, hn38, hb13⟩
        obtain ⟨U13, c13, rfl⟩ := slU_form hn38
        replace hs := hs.below hb13
        replace ht := ht.below hb13
        replace hu := hu.below hb13
        replace hn37 := hn37.below hb13
        replace hbw := below_next hb13 hbw
        clear hb13
        go_wp2_with fail
        refine (equal_u64_call _ _ _ _ false (by rw [← Bs.win5 ws wt, Hst.out]; rfl) _ hn37 hn38).mono ?_
        rintro e w14 ⟨rfl, hb14⟩
        replace hs := hs.below hb14
        replace ht := ht.below hb14
        replace hu := hu.below hb14
        replace hn37 := hn37.below hb14
        replace hn38 := hn38.below hb14
        replace hbw := below_next hb14 hbw
        clear hb14
        clear hn37 hn38
        clear hs ht hu
        go_wp2
        go_ret
        exact ⟨rfl, hbw⟩
      · skip
        have Hst := Lib.hid hst
        clear hst
        rcases hts : Bs.win t s with _ | _
        · skip
          have Hts := Lib.hid hts
          clear hts
          go_enter Tryd.func5, Tryd.ntmps5
          have hbw : Below w.heap.size w w := Below.refl _ _
          go_wp2_with fail
          refine (alive1_any _ hT).mono ?_
          rintro e w1 ⟨rfl, hb1⟩
          replace hs := hs.below hb1
          replace ht := ht.below hb1
          replace hu := hu.below hb1
          replace hT := hT.step hb1
          replace hbw := below_next hb1 hbw
          clear hb1
          clear hT
          go_wp2_with fail
          refine (within_any _ _ _ _ _ hu hs (Nat.le_trans bu (by decide)) (Nat.le_trans bs (by decide)) false Hus.out).mono ?_
          rintro e w2 ⟨rfl, hb2⟩
          replace hs := hs.below hb2
          replace ht := ht.below hb2
          replace hu := hu.below hb2
          replace hbw := below_next hb2 hbw
          clear hb2
          go_wp2_with fail
          refine (within_any _ _ _ _ _ hs hu (Nat.le_trans bs (by decide)) (Nat.le_trans bu (by decide)) true Hsu.out).mono ?_
          rintro e w3 ⟨rfl, hb3⟩
          replace hs := hs.below hb3
          replace ht := ht.below hb3
          replace hu := hu.below hb3
          replace hbw := below_next hb3 hbw
          clear hb3
          go_wp2_with fail
          refine (within_any _ _ _ _ _ ht hu (Nat.le_trans bt (by decide)) (Nat.le_trans bu (by decide)) false Htu.out).mono ?_
          rintro e w4 ⟨rfl, hb4⟩
          replace hs := hs.below hb4
          replace ht := ht.below hb4
          replace hu := hu.below hb4
          replace hbw := below_next hb4 hbw
          clear hb4
          go_wp2_with fail
          refine (within_any _ _ _ _ _ hs hs (Nat.le_trans bs (by decide)) (Nat.le_trans bs (by decide)) true (Bs.win1 ws)).mono ?_
          rintro e w5 ⟨rfl, hb5⟩
          replace hs := hs.below hb5
          replace ht := ht.below hb5
          replace hu := hu.below hb5
          replace hbw := below_next hb5 hbw
          clear hb5
          go_wp2_with fail
          refine (and_any _ _ _ _ _ hs ht (Nat.le_trans bs (by decide)) (Nat.le_trans bt (by decide))).mono ?_
          rintro e w6 ⟨u6, rfl, ha39, hb6⟩
          obtain ⟨U6, c6, rfl⟩ := slU_form ha39
          replace hs := hs.below hb6
          replace ht := ht.below hb6
          replace hu := hu.below hb6
          replace hbw := below_next hb6 hbw
          clear hb6
          go_wp2_with fail
          refine (within_any _ _ _ _ _ hu ha39 (Nat.le_trans bu (by decide)) (Nat.le_trans (Bs.op_le bs bt) (by decide)) false ((Bs.win2 ws wt wu).trans (by rw [Hus.out]; rfl))).mono ?_
          rintro e w7 ⟨rfl, hb7⟩
          replace hs := hs.below hb7
          replace ht := ht.below hb7
          replace hu := hu.below hb7
          replace ha39 := ha39.below hb7
          replace hbw := below_next hb7 hbw
          clear hb7
          clear ha39
          go_wp2_with fail
          refine (or_any _ _ _ _ _ hs ht (Nat.le_trans bs (by decide)) (Nat.le_trans bt (by decide))).mono ?_
          rintro e w8 ⟨u8, rfl, ho40, hb8⟩
          obtain ⟨U8, c8, rfl⟩ := slU_form ho40
          replace hs := hs.below hb8
          replace ht := ht.below hb8
          replace hu := hu.below hb8
          replace hbw := below_next hb8 hbw
          clear hb8
          go_wp2_with fail
          refine (within_any _ _ _ _ _ ho40 hu (Nat.le_trans (Bs.op_le bs bt) (by decide)) (Nat.le_trans bu (by decide)) false ((Bs.win3 ws wt wu).trans (by rw [Hsu.out, Htu.out]; rfl))).mono ?_
          rintro e w9 ⟨rfl, hb9⟩
          replace hs := hs.below hb9
          replace ht := ht.below hb9
          replace hu := hu.below hb9
          replace ho40 := ho40.below hb9
          replace hbw := below_next hb9 hbw
          clear hb9
          clear ho40
          go_wp2_with fail
          refine (within_any _ _ _ _ _ hs ht (Nat.le_trans bs (by decide)) (Nat.le_trans bt (by decide)) true Hst.out).mono ?_
          rintro e w10 ⟨rfl, hb10⟩
          replace hs := hs.below hb10
          replace ht := ht.below hb10
          replace hu := hu.below hb10
          replace hbw := below_next hb10 hbw
          clear hb10
          go_wp2_with fail
          refine (within_any _ _ _ _ _ ht hu (Nat.le_trans bt (by decide)) (Nat.le_trans bu (by decide)) false Htu.out).mono ?_
          rintro e w11 ⟨rfl, hb11⟩
          replace hs := hs.below hb11
          replace ht := ht.below hb11
          replace hu := hu.below hb11
          replace hbw := below_next hb11 hbw
          clear hb11
          go_wp2_with fail
          refine (within_any _ _ _ _ _ hs ht (Nat.le_trans bs (by decide)) (Nat.le_trans bt (by decide)) true Hst.out).mono ?_
          rintro e w12 ⟨rfl, hb12⟩
          replace hs := hs.below hb12
          replace ht := ht.below hb12
          replace hu := hu.below hb12
          replace hbw := below_next hb12 hbw
          clear hb12
          go_wp2_with fail
          refine (within_any _ _ _ _ _ ht hs (Nat.le_trans bt (by decide)) (Nat.le_trans bs (by decide)) false Hts.out).mono ?_
          rintro e w13 ⟨rfl, hb13⟩
          replace hs := hs.below hb13
          replace ht := ht.below hb13
          replace hu := hu.below hb13
          replace hbw := below_next hb13 hbw
          clear hb13
          go_wp2_with fail
          refine (or_any _ _ _ _ _ hs (SlU.nil _) (Nat.le_trans bs (by decide)) (by decide)).mono ?_
          rintro e w14 ⟨u14, rfl, hn41, hb14⟩
          obtain ⟨U14, c14, rfl⟩ := slU_form hn41
          replace hs := hs.below hb14
          replace ht := ht.below hb14
          replace hu := hu.below hb14
          replace hbw := below_next hb14 hbw
          clear hb14
          go_wp2_with fail
          refine (or_any _ _ _ _ _ ht (SlU.nil _) (Nat.le_trans bt (by decide)) (by decide)).mono ?_
          rintro e w15 ⟨u15, rfl, hn42, hb15⟩
          obtain ⟨U15, c15, rfl⟩ := slU_form hn42
          replace hs := hs.below hb15
          replace ht := ht.below hb15
          replace hu := hu.below hb15
          replace hn41 := hn41.below hb15
          replace hbw := below_next hb15 hbw
          clear hb15
          go_wp2_with fail
          refine (equal_u64_call _ _ _ _ false (by rw [← Bs.win5 ws wt, Hst.out, Hts.out]; rfl) _ hn41 hn42).mono ?_
          rintro e w16 ⟨rfl, hb16⟩
          replace hs := hs.below hb16
          replace ht := ht.below hb16
          replace hu := hu.below hb16
          replace hn41 := hn41.below hb16
          replace hn42 := hn42.below hb16
          replace hbw := below_next hb16 hbw
          clear hb16
          clear hn41 hn42
          clear hs ht hu
          go_wp2
          go_ret
          exact ⟨rfl, hbw⟩
        · skip
          have Hts := Lib.hid hts
          clear hts
          go_enter Tryd.func5, Tryd.ntmps5
          have hbw : Below w.heap.size w w := Below.refl _ _
          go_wp2_with fail
          refine (alive1_any _ hT).mono ?_
          rintro e w1 ⟨rfl, hb1⟩
          replace hs := hs.below hb1
          replace ht := ht.below hb1
          replace hu := hu.below hb1
          replace hT := hT.step hb1
          replace hbw := below_next hb1 hbw
          clear hb1
          clear hT
          go_wp2_with fail
          refine (within_any _ _ _ _ _ hu hs (Nat.le_trans bu (by decide)) (Nat.le_trans bs (by decide)) false Hus.out).mono ?_
          rintro e w2 ⟨rfl, hb2⟩
          replace hs := hs.below hb2
          replace ht := ht.below hb2
          replace hu := hu.below hb2
          replace hbw := below_next hb2 hbw
          clear hb2
          go_wp2_with fail
          refine (within_any _ _ _ _ _ hs hu (Nat.le_trans bs (by decide)) (Nat.le_trans bu (by decide)) true Hsu.out).mono ?_
          rintro e w3 ⟨rfl, hb3⟩
          replace hs := hs.below hb3
          replace ht := ht.below hb3
          replace hu := hu.below hb3
          replace hbw := below_next hb3 hbw
          clear hb3
          go_wp2_with fail
          refine (within_any _ _ _ _ _ ht hu (Nat.le_trans bt (by decide)) (Nat.le_trans bu (by decide)) false Htu.out).mono ?_
          rintro e w4 ⟨rfl, hb4⟩
          replace hs := hs.below hb4
          replace ht := ht.below hb4
          replace hu := hu.below hb4
          replace hbw := below_next hb4 hbw
          clear hb4
          go_wp2_with fail
          refine (within_any _ _ _ _ _ hs hs (Nat.le_trans bs (by decide)) (Nat.le_trans bs (by decide)) true (Bs.win1 ws)).mono ?_
          rintro e w5 ⟨rfl, hb5⟩
          replace hs := hs.below hb5
          replace ht := ht.below hb5
          replace hu := hu.below hb5
          replace hbw := below_next hb5 hbw
          clear hb5
          go_wp2_with fail
          refine (and_any _ _ _ _ _ hs ht (Nat.le_trans bs (by decide)) (Nat.le_trans bt (by decide))).mono ?_
          rintro e w6 ⟨u6, rfl, ha43, hb6⟩
          obtain ⟨U6, c6, rfl⟩ := slU_form ha43
          replace hs := hs.below hb6
          replace ht := ht.below hb6
          replace hu := hu.below hb6
          replace hbw := below_next hb6 hbw
          clear hb6
          go_wp2_with fail
          refine (within_any _ _ _ _ _ hu ha43 (Nat.le_trans bu (by decide)) (Nat.le_trans (Bs.op_le bs bt) (by decide)) false ((Bs.win2 ws wt wu).trans (by rw [Hus.out]; rfl))).mono ?_
          rintro e w7 ⟨rfl, hb7⟩
          replace hs := hs.below hb7
          replace ht := ht.below hb7
          replace hu := hu.below hb7
          replace ha43 := ha43.below hb7
          replace hbw := below_next hb7 hbw
          clear hb7
          clear ha43
          go_wp2_with fail
          refine (or_any _ _ _ _ _ hs ht (Nat.le_trans bs (by decide)) (Nat.le_trans bt (by decide))).mono ?_
          rintro e w8 ⟨u8, rfl, ho44, hb8⟩
          obtain ⟨U8, c8, rfl⟩ := slU_form ho44
          replace hs := hs.below hb8
          replace ht := ht.below hb8
          replace hu := hu.below hb8
          replace hbw := below_next hb8 hbw
          clear hb8
          go_wp2_with fail
          refine (within_any _ _ _ _ _ ho44 hu (Nat.le_trans (Bs.op_le bs bt) (by decide)) (Nat.le_trans bu (by decide)) false ((Bs.win3 ws wt wu).trans (by rw [Hsu.out, Htu.out]; rfl))).mono ?_
          rintro e w9 ⟨rfl, hb9⟩
          replace hs := hs.below hb9
          replace ht := ht.below hb9
          replace hu := hu.below hb9
          replace ho44 := ho44.below hb9
          replace hbw := below_next hb9 hbw
          clear hb9
          clear ho44
          go_wp2_with fail
          refine (within_any _ _ _ _ _ hs ht (Nat.le_trans bs (by decide)) (Nat.le_trans bt (by decide)) true Hst.out).mono ?_
          rintro e w10 ⟨rfl, hb10⟩
          replace hs := hs.below hb10
          replace ht := ht.below hb10
          replace hu := hu.below hb10
          replace hbw := below_next hb10 hbw
          clear hb10
          go_wp2_with fail
          refine (within_any _ _ _ _ _ ht hu (Nat.le_trans bt (by decide)) (Nat.le_trans bu (by decide)) false Htu.out).mono ?_
          rintro e w11 ⟨rfl, hb11⟩
          replace hs := hs.below hb11
          replace ht := ht.below hb11
          replace hu := hu.below hb11
          replace hbw := below_next hb11 hbw
          clear hb11
          go_wp2_with fail
          refine (within_any _ _ _ _ _ hs ht (Nat.le_trans bs (by decide)) (Nat.le_trans bt (by decide)) true Hst.out).mono ?_
          rintro e w12 ⟨rfl, hb12⟩
          replace hs := hs.below hb12
          replace ht := ht.below hb12
          replace hu := hu.below hb12
          replace hbw := below_next hb12 hbw
          clear hb12
          go_wp2_with fail
          refine (within_any _ _ _ _ _ ht hs (Nat.le_trans bt (by decide)) (Nat.le_trans bs (by decide)) true Hts.out).mono ?_
          rintro e w13 ⟨rfl, hb13⟩
          replace hs := hs.below hb13
          replace ht := ht.below hb13
          replace hu := hu.below hb13
          replace hbw := below_next hb13 hbw
          clear hb13
          go_wp2_with fail
          refine (or_any _ _ _ _ _ hs (SlU.nil _) (Nat.le_trans bs (by decide)) (by decide)).mono ?_
          rintro e w14 ⟨u14, rfl, hn45, hb14⟩
          obtain ⟨U14, c14, rfl⟩ := slU_form hn45
          replace hs := hs.below hb14
          replace ht := ht.below hb14
          replace hu := hu.below hb14
          replace hbw := below_next hb14 hbw
          clear hb14
          go_wp2_with fail
          refine (or_any _ _ _ _ _ ht (SlU.nil _) (Nat.le_trans bt (by decide)) (by decide)).mono ?_
          rintro e w15 ⟨u15, rfl, hn46, hb15⟩
          obtain ⟨U15, c15, rfl⟩ := slU_form hn46
          replace hs := hs.below hb15
          replace ht := ht.below hb15
          replace hu := hu.below hb15
          replace hn45 := hn45.below hb15
          replace hbw := below_next hb15 hbw
          clear hb15
          go_wp2_with fail
          refine (equal_u64_call _ _ _ _ true (by rw [← Bs.win5 ws wt, Hst.out, Hts.out]; rfl) _ hn45 hn46).mono ?_
          rintro e w16 ⟨rfl, hb16⟩
          replace hs := hs.below hb16
          replace ht := ht.below hb16
          replace hu := hu.below hb16
          replace hn45 := hn45.below hb16
          replace hn46 := hn46.below hb16
          replace hbw := below_next hb16 hbw
          clear hb16
          clear hn45 hn46
          clear hs ht hu
          go_wp2
          go_ret
          exact ⟨rfl, hbw⟩
    · skip
      have Htu := Lib.hid htu
      clear htu
      rcases hst : Bs.win s t with _ | _
      · skip
        have Hst := Lib.hid hst
        clear hst
        go_enter Tryd.func5, Tryd.ntmps5
        have hbw : Below w.heap.size w w := Below.refl _ _
        go_wp2_with fail
        refine (alive1_any _ hT).mono ?_
        rintro e w1 ⟨rfl, hb1⟩
        replace hs := hs.below hb1
        replace ht := ht.below hb1
        replace hu := hu.below hb1
        replace hT := hT.step hb1
        replace hbw := below_next hb1 hbw
        clear hb1
        clear hT
        go_wp2_with fail
        refine (within_any _ _ _ _ _ hu hs (Nat.le_trans bu (by decide)) (Nat.le_trans bs (by decide)) false Hus.out).mono ?_
        rintro e w2 ⟨rfl, hb2⟩
        replace hs := hs.below hb2
        replace ht := ht.below hb2
        replace hu := hu.below hb2
        replace hbw := below_next hb2 hbw
        clear hb2
        go_wp2_with fail
        refine (within_any _ _ _ _ _ hs hu (Nat.le_trans bs (by decide)) (Nat.le_trans bu (by decide)) true Hsu.out).mono ?_
        rintro e w3 ⟨rfl, hb3⟩
        replace hs := hs.below hb3
        replace ht := ht.below hb3
        replace hu := hu.below hb3
        replace hbw := below_next hb3 hbw
        clear hb3
        go_wp2_with fail
        refine (within_any _ _ _ _ _ ht hu (Nat.le_trans bt (by decide)) (Nat.le_trans bu (by decide)) true Htu.out).mono ?_
        rintro e w4 ⟨rfl, hb4⟩
        replace hs := hs.below hb4
        replace ht := ht.below hb4
        replace hu := hu.below hb4
        replace hbw := below_next hb4 hbw
        clear hb4
        go_wp2_with fail
        refine (within_any _ _ _ _ _ hs hs (Nat.le_trans bs (by decide)) (Nat.le_trans bs (by decide)) true (Bs.win1 ws)).mono ?_
        rintro e w5 ⟨rfl, hb5⟩
        replace hs := hs.below hb5
        replace ht := ht.below hb5
        replace hu := hu.below hb5
        replace hbw := below_next hb5 hbw
        clear hb5
        go_wp2_with fail
        refine (and_any _ _ _ _ _ hs ht (Nat.le_trans bs (by decide)) (Nat.le_trans bt (by decide))).mono ?_
        rintro e w6 ⟨u6, rfl, ha47, hb6⟩
        obtain ⟨U6, c6, rfl⟩ := slU_form ha47
        replace hs := hs.below hb6
        replace ht := ht.below hb6
        replace hu := hu.below hb6
        replace hbw := below_next hb6 hbw
        clear hb6
        go_wp2_with fail
        refine (within_any _ _ _ _ _ hu ha47 (Nat.le_trans bu (by decide)) (Nat.le_trans (Bs.op_le bs bt) (by decide)) false ((Bs.win2 ws wt wu).trans (by rw [Hus.out]; rfl))).mono ?_
        rintro e w7 ⟨rfl, hb7⟩
        replace hs := hs.below hb7
        replace ht := ht.below hb7
        replace hu := hu.below hb7
        replace ha47 := ha47.below hb7
        replace hbw := below_next hb7 hbw
        clear hb7
        clear ha47
        go_wp2_with fail
        refine (or_any _ _ _ _ _ hs ht (Nat.le_trans bs (by decide)) (Nat.le_trans bt (by decide))).mono ?_
        rintro e w8 ⟨u8, rfl, ho48, hb8⟩
        obtain ⟨U8, c8, rfl⟩ := slU_form ho48
        replace hs := hs.below hb8
        replace ht := ht.below hb8
        replace hu := hu.below hb8
        replace hbw := below_next hb8 hbw
        clear hb8
        go_wp2_with fail
        refine (within_any _ _ _ _ _ ho48 hu (Nat.le_trans (Bs.op_le bs bt) (by decide)) (Nat.le_trans bu (by decide)) true ((Bs.win3 ws wt wu).trans (by rw [Hsu.out, Htu.out]; rfl))).mono ?_
        rintro e w9 ⟨rfl, hb9⟩
        replace hs := hs.below hb9
        replace ht := ht.below hb9
        replace hu := hu.below hb9
        replace ho48 := ho48.below hb9
        replace hbw := below_next hb9 hbw
        clear hb9
        clear ho48
        go_wp2_with fail
        refine (within_any _ _ _ _ _ hs ht (Nat.le_trans bs (by decide)) (Nat.le_trans bt (by decide)) false Hst.out).mono ?_
        rintro e w10 ⟨rfl, hb10⟩
        replace hs := hs.below hb10
        replace ht := ht.below hb10
        replace hu := hu.below hb10
        replace hbw := below_next hb10 hbw
        clear hb10
        go_wp2_with fail
        refine (within_any _ _ _ _ _ hs ht (Nat.le_trans bs (by decide)) (Nat.le_trans bt (by decide)) false Hst.out).mono ?_
        rintro e w11 ⟨rfl, hb11⟩
        replace hs := hs.below hb11
        replace ht := ht.below hb11
        replace hu := hu.below hb11
        replace hbw := below_next hb11 hbw
        clear hb11
        go_wp2_with fail
        refine (or_any _ _ _ _ _ hs (SlU.nil _) (Nat.le_trans bs (by decide)) (by decide)).mono ?_
        rintro e w12 ⟨u12, rfl, hn49, hb12⟩
        obtain ⟨U12, c12, rfl⟩ := slU_form hn49
        replace hs := hs.below hb12
        replace ht := ht.below hb12
        replace hu := hu.below hb12
        replace hbw := below_next hb12 hbw
        clear hb12
        go_wp2_with fail
        refine (or_any _ _ _ _ _ ht (SlU.nil _) (Nat.le_trans bt (by decide)) (by decide)).mono ?_
        rintro e w13 ⟨u13, rfl, hn50, hb13⟩
        obtain ⟨U13, c13, rfl⟩ := slU_form hn50
        replace hs := hs.below hb13
        replace ht := ht.below hb13
        replace hu := hu.below hb13
        replace hn49 := hn49.below hb13
        replace hbw := below_next hb13 hbw
        clear hb13
        go_wp2_with fail
        refine (equal_u64_call _ _ _ _ false (by rw [← Bs.win5 ws wt, Hst.out]; rfl) _ hn49 hn50).mono ?_
        rintro e w14 ⟨rfl, hb14⟩
        replace hs := hs.below hb14
        replace ht := ht.below hb14
        replace hu := hu.below hb14
        replace hn49 := hn49.below hb14
        replace hn50 := hn50.below hb14
        replace hbw := below_next hb14 hbw
        clear hb14
        clear hn49 hn50
        clear hs ht hu
        go_wp2
        go_ret
        exact ⟨rfl, hbw⟩
      · skip
        have Hst := Lib.hid hst
        clear hst
        rcases hts : Bs.win t s with _ | _
        · skip
          have Hts := Lib.hid hts
          clear hts
          go_enter Tryd.func5, Tryd.ntmps5
          have hbw : Below w.heap.size w w := Below.refl _ _
          go_wp2_with fail
          refine (alive1_any _ hT).mono ?_
          rintro e w1 ⟨rfl, hb1⟩
          replace hs := hs.below hb1
          replace ht := ht.below hb1
          replace hu := hu.below hb1
          replace hT := hT.step hb1
          replace hbw := below_next hb1 hbw
          clear hb1
          clear hT
          go_wp2_with fail
          refine (within_any _ _ _ _ _ hu hs (Nat.le_trans bu (by decide)) (Nat.le_trans bs (by decide)) false Hus.out).mono ?_
          rintro e w2 ⟨rfl, hb2⟩
          replace hs := hs.below hb2
          replace ht := ht.below hb2
          replace hu := hu.below hb2
          replace hbw := below_next hb2 hbw
          clear hb2
          go_wp2_with fail
          refine (within_any _ _ _ _ _ hs hu (Nat.le_trans bs (by decide)) (Nat.le_trans bu (by decide)) true Hsu.out).mono ?_
          rintro e w3 ⟨rfl, hb3⟩
          replace hs := hs.below hb3
          replace ht := ht.below hb3
          replace hu := hu.below hb3
          replace hbw := below_next hb3 hbw
          clear hb3
          go_wp2_with fail
          refine (within_any _ _ _ _ _ ht hu (Nat.le_trans bt (by decide)) (Nat.le_trans bu (by decide)) true Htu.out).mono ?_
          rintro e w4 ⟨rfl, hb4⟩
          replace hs := hs.below hb4
          replace ht := ht.below hb4
          replace hu := hu.below hb4
          replace hbw := below_next hb4 hbw
          clear hb4
          go_wp2_with fail
          refine (within_any _ _ _ _ _ hs hs (Nat.le_trans bs (by decide)) (Nat.le_trans bs (by decide)) true (Bs.win1 ws)).mono ?_
          rintro e w5 ⟨rfl, hb5⟩
          replace hs := hs.below hb5
          replace ht := ht.below hb5
          replace hu := hu.below hb5
          replace hbw := below_next hb5 hbw
          clear hb5
          go_wp2_with fail
          refine (and_any _ _ _ _ _ hs ht (Nat.le_trans bs (by decide)) (Nat.le_trans bt (by decide))).mono ?_
          rintro e w6 ⟨u6, rfl, ha51, hb6⟩
          obtain ⟨U6, c6, rfl⟩ := slU_form ha51
          replace hs := hs.below hb6
          replace ht := ht.below hb6
          replace hu := hu.below hb6
          replace hbw := below_next hb6 hbw
          clear hb6
          go_wp2_with fail
          refine (within_any _ _ _ _ _ hu ha51 (Nat.le_trans bu (by decide)) (Nat.le_trans (Bs.op_le bs bt) (by decide)) false ((Bs.win2 ws wt wu).trans (by rw [Hus.out]; rfl))).mono ?_
          rintro e w7 ⟨rfl, hb7⟩
          replace hs := hs.below hb7
          replace ht := ht.below hb7
          replace hu := hu.below hb7
          replace ha51 := ha51.below hb7
          replace hbw := below_next hb7 hbw
          clear hb7
          clear ha51
          go_wp2_with fail
          refine (or_any _ _ _ _ _ hs ht (Nat.le_trans bs (by decide)) (Nat.le_trans bt (by decide))).mono ?_
          rintro e w8 ⟨u8, rfl, ho52, hb8⟩
          obtain ⟨U8, c8, rfl⟩ := slU_form ho52
          replace hs := hs.below hb8
          replace ht := ht.below hb8
          replace hu := hu.below hb8
          replace hbw := below_next hb8 hbw
          clear hb8
          go_wp2_with fail
          refine (within_any _ _ _ _ _ ho52 hu (Nat.le_trans (Bs.op_le bs bt) (by decide)) (Nat.le_trans bu (by decide)) true ((Bs.win3 ws wt wu).trans (by rw [Hsu.out, Htu.out]; rfl))).mono ?_
          rintro e w9 ⟨rfl, hb9⟩
          replace hs := hs.below hb9
          replace ht := ht.below hb9
          replace hu := hu.below hb9
          replace ho52 := ho52.below hb9
          replace hbw := below_next hb9 hbw
          clear hb9
          clear ho52
          go_wp2_with fail
          refine (within_any _ _ _ _ _ hs ht (Nat.le_trans bs (by decide)) (Nat.le_trans bt (by decide)) true Hst.out).mono ?_
          rintro e w10 ⟨rfl, hb10⟩
          replace hs := hs.below hb10
          replace ht := ht.below hb10
          replace hu := hu.below hb10
          replace hbw := below_next hb10 hbw
          clear hb10
          go_wp2_with fail
          refine (within_any _ _ _ _ _ ht hu (Nat.le_trans bt (by decide)) (Nat.le_trans bu (by decide)) true Htu.out).mono ?_
          rintro e w11 ⟨rfl, hb11⟩
          replace hs := hs.below hb11
          replace ht := ht.below hb11
          replace hu := hu.below hb11
          replace hbw := below_next hb11 hbw
          clear hb11
          go_wp2_with fail
          refine (within_any _ _ _ _ _ hs hu (Nat.le_trans bs (by decide)) (Nat.le_trans bu (by decide)) true Hsu.out).mono ?_
          rintro e w12 ⟨rfl, hb12⟩
          replace hs := hs.below hb12
          replace ht := ht.below hb12
          replace hu := hu.below hb12
          replace hbw := below_next hb12 hbw
          clear hb12
          go_wp2_with fail
          refine (within_any _ _ _ _ _ hs ht (Nat.le_trans bs (by decide)) (Nat.le_trans bt (by decide)) true Hst.out).mono ?_
          rintro e w13 ⟨rfl, hb13⟩
          replace hs := hs.below hb13
          replace ht := ht.below hb13
          replace hu := hu.below hb13
          replace hbw := below_next hb13 hbw
          clear hb13
          go_wp2_with fail
          refine (within_any _ _ _ _ _ ht hs (Nat.le_trans bt (by decide)) (Nat.le_trans bs (by decide)) false Hts.out).mono ?_
          rintro e w14 ⟨rfl, hb14⟩
          replace hs := hs.below hb14
          replace ht := ht.below hb14
          replace hu := hu.below hb14
          replace hbw := below_next hb14 hbw
          clear hb14
          go_wp2_with fail
          refine (or_any _ _ _ _ _ hs (SlU.nil _) (Nat.le_trans bs (by decide)) (by decide)).mono ?_
          rintro e w15 ⟨u15, rfl, hn53, hb15⟩
          obtain ⟨U15, c15, rfl⟩ := slU_form hn53
          replace hs := hs.below hb15
          replace ht := ht.below hb15
          replace hu := hu.below hb15
          replace hbw := below_next hb15 hbw
          clear hb15
          go_wp2_with fail
          refine (or_any _ _ _ _ _ ht (SlU.nil _) (Nat.le_trans bt (by decide)) (by decide)).mono ?_
          rintro e w16 ⟨u16, rfl, hn54, hb16⟩
          obtain ⟨U16, c16, rfl⟩ := slU_form hn54
          replace hs := hs.below hb16
          replace ht := ht.below hb16
          replace hu := hu.below hb16
          replace hn53 := hn53.below hb16
          replace hbw := below_next hb16 hbw
          clear hb16
          go_wp2_with fail
          refine (equal_u64_call _ _ _ _ false (by rw [← Bs.win5 ws wt, Hst.out, Hts.out]; rfl) _ hn53 hn54).mono ?_
          rintro e w17 ⟨rfl, hb17⟩
          replace hs := hs.below hb17
          replace ht := ht.below hb17
          replace hu := hu.below hb17
          replace hn53 := hn53.below hb17
          replace hn54 := hn54.below hb17
          replace hbw := below_next hb17 hbw
          clear hb17
          clear hn53 hn54
          clear hs ht hu
          go_wp2
          go_ret
          exact ⟨rfl, hbw⟩
        · skip
          have Hts := Lib.hid hts
          clear hts
          go_enter Tryd.func5, Tryd.ntmps5
          have hbw : Below w.heap.size w w := Below.refl _ _
          go_wp2_with fail
          refine (alive1_any _ hT).mono ?_
          rintro e w1 ⟨rfl, hb1⟩
          replace hs := hs.below hb1
          replace ht := ht.below hb1
          replace hu := hu.below hb1
          replace hT := hT.step hb1
          replace hbw := below_next hb1 hbw
          clear hb1
          clear hT
          go_wp2_with fail
          refine (within_any _ _ _ _ _ hu hs (Nat.le_trans bu (by decide)) (Nat.le_trans bs (by decide)) false Hus.out).mono ?_
          rintro e w2 ⟨rfl, hb2⟩
          replace hs := hs.below hb2
          replace ht := ht.below hb2
          replace hu := hu.below hb2
          replace hbw := below_next hb2 hbw
          clear hb2
          go_wp2_with fail
          refine (within_any _ _ _ _ _ hs hu (Nat.le_trans bs (by decide)) (Nat.le_trans bu (by decide)) true Hsu.out).mono ?_
          rintro e w3 ⟨rfl, hb3⟩
          replace hs := hs.below hb3
          replace ht := ht.below hb3
          replace hu := hu.below hb3
          replace hbw := below_next hb3 hbw
          clear hb3
          go_wp2_with fail
          refine (within_any _ _ _ _ _ ht hu (Nat.le_trans bt (by decide)) (Nat.le_trans bu (by decide)) true Htu.out).mono ?_
          rintro e w4 ⟨rfl, hb4⟩
          replace hs := hs.below hb4
          replace ht := ht.below hb4
          replace hu := hu.below hb4
          replace hbw := below_next hb4 hbw
          clear hb4
          go_wp2_with fail
          refine (within_any _ _ _ _ _ hs hs (Nat.le_trans bs (by decide)) (Nat.le_trans bs (by decide)) true (Bs.win1 ws)).mono ?_
          rintro e w5 ⟨rfl, hb5⟩
          replace hs := hs.below hb5
          replace ht := ht.below hb5
          replace hu := hu.below hb5
          replace hbw := below_next hb5 hbw
          clear hb5
          go_wp2_with fail
          refine (and_any _ _ _ _ _ hs ht (Nat.le_trans bs (by decide)) (Nat.le_trans bt (by decide))).mono ?_
          rintro e w6 ⟨u6, rfl, ha55, hb6⟩
          obtain ⟨U6, c6, rfl⟩ := slU_form ha55
          replace hs := hs.below hb6
          replace ht := ht.below hb6
          replace hu := hu.below hb6
          replace hbw := below_next hb6 hbw
          clear hb6
          go_wp2_with fail
          refine (within_any _ _ _ _ _ hu ha55 (Nat.le_trans bu (by decide)) (Nat.le_trans (Bs.op_le bs bt) (by decide)) false ((Bs.win2 ws wt wu).trans (by rw [Hus.out]; rfl))).mono ?_
          rintro e w7 ⟨rfl, hb7⟩
          replace hs := hs.below hb7
          replace ht := ht.below hb7
          replace hu := hu.below hb7
          replace ha55 := ha55.below hb7
          replace hbw := below_next hb7 hbw
          clear hb7
          clear ha55
          go_wp2_with fail
          refine (or_any _ _ _ _ _ hs ht (Nat.le_trans bs (by decide)) (Nat.le_trans bt (by decide))).mono ?_
          rintro e w8 ⟨u8, rfl, ho56, hb8⟩
          obtain ⟨U8, c8, rfl⟩ := slU_form ho56
          replace hs := hs.below hb8
          replace ht := ht.below hb8
          replace hu := hu.below hb8
          replace hbw := below_next hb8 hbw
          clear hb8
          go_wp2_with fail
          refine (within_any _ _ _ _ _ ho56 hu (Nat.le_trans (Bs.op_le bs bt) (by decide)) (Nat.le_trans bu (by decide)) true ((Bs.win3 ws wt wu).trans (by rw [Hsu.out, Htu.out]; rfl))).mono ?_
          rintro e w9 ⟨rfl, hb9⟩
          replace hs := hs.below hb9
          replace ht := ht.below hb9
          replace hu := hu.below hb9
          replace ho56 := ho56.below hb9
          replace hbw := below_next hb9 hbw
          clear hb9
          clear ho56
          go_wp2_with fail
          refine (within_any _ _ _ _ _ hs ht (Nat.le_trans bs (by decide)) (Nat.le_trans bt (by decide)) true Hst.out).mono ?_
          rintro e w10 ⟨rfl, hb10⟩
          replace hs := hs.below hb10
          replace ht := ht.below hb10
          replace hu := hu.below hb10
          replace hbw := below_next hb10 hbw
          clear hb10
          go_wp2_with fail
          refine (within_any _ _ _ _ _ ht hu (Nat.le_trans bt (by decide)) (Nat.le_trans bu (by decide)) true Htu.out).mono ?_
          rintro e w11 ⟨rfl, hb11⟩
          replace hs := hs.below hb11
          replace ht := ht.below hb11
          replace hu := hu.below hb11
          replace hbw := below_next hb11 hbw
          clear hb11
          go_wp2_with fail
          refine (within_any _ _ _ _ _ hs hu (Nat.le_trans bs (by decide)) (Nat.le_trans bu (by decide)) true Hsu.out).mono ?_
          rintro e w12 ⟨rfl, hb12⟩
          replace hs := hs.below hb12
          replace ht := ht.below hb12
          replace hu := hu.below hb12
          replace hbw := below_next hb12 hbw
          clear hb12
          go_wp2_with fail
          refine (within_any _ _ _ _ _ hs ht (Nat.le_trans bs (by decide)) (Nat.le_trans bt (by decide)) true Hst.out).mono ?_
          rintro e w13 ⟨rfl, hb13⟩
          replace hs := hs.below hb13
          replace ht := ht.below hb13
          replace hu := hu.below hb13
          replace hbw := below_next hb13 hbw
          clear hb13
          go_wp2_with fail
          refine (within_any _ _ _ _ _ ht hs (Nat.le_trans bt (by decide)) (Nat.le_trans bs (by decide)) true Hts.out).mono ?_
          rintro e w14 ⟨rfl, hb14⟩
          replace hs := hs.below hb14
          replace ht := ht.below hb14
          replace hu := hu.below hb14
          replace hbw := below_next hb14 hbw
          clear hb14
          go_wp2_with fail
          refine (or_any _ _ _ _ _ hs (SlU.nil _) (Nat.le_trans bs (by decide)) (by decide)).mono ?_
          rintro e w15 ⟨u15, rfl, hn57, hb15⟩
          obtain ⟨U15, c15, rfl⟩ := slU_form hn57
          replace hs := hs.below hb15
          replace ht := ht.below hb15
          replace hu := hu.below hb15
          replace hbw := below_next hb15 hbw
          clear hb15
          go_wp2_with fail
          refine (or_any _ _ _ _ _ ht (SlU.nil _) (Nat.le_trans bt (by decide)) (by decide)).mono ?_
          rintro e w16 ⟨u16, rfl, hn58, hb16⟩
          obtain ⟨U16, c16, rfl⟩ := slU_form hn58
          replace hs := hs.below hb16
          replace ht := ht.below hb16
          replace hu := hu.below hb16
          replace hn57 := hn57.below hb16
          replace hbw := below_next hb16 hbw
          clear hb16
          go_wp2_with fail
          refine (equal_u64_call _ _ _ _ true (by rw [← Bs.win5 ws wt, Hst.out, Hts.out]; rfl) _ hn57 hn58).mono ?_
          rintro e w17 ⟨rfl, hb17⟩
          replace hs := hs.below hb17
          replace ht := ht.below hb17
          replace hu := hu.below hb17
          replace hn57 := hn57.below hb17
          replace hn58 := hn58.below hb17
          replace hbw := below_next hb17 hbw
          clear hb17
          clear hn57 hn58
          clear hs ht hu
          go_wp2
          go_ret
          exact ⟨rfl, hbw⟩

set_option maxHeartbeats 32000000 in
theorem within2_walk (w : World) (v0 v1 v2 : Value) (s t u : List Nat) (hT : Tab w) (hs : SlU w v0 s) (ht : SlU w v1 t) (hu : SlU w v2 u) (bs : s.length ≤ 17592186044) (bt : t.length ≤ 17592186044) (bu : u.length ≤ 17592186044) (Hus : Hid (Bs.win u s = true)) (Hut : Hid (Bs.win u t = false)) :
    Calls Tryd.prog 5 #[v0, v1, v2] w fun e w' => e = .returned (.bool true) ∧ Below w.heap.size w w' := by
  have ws := hs.2
  obtain ⟨A0, k0, rfl⟩ := slU_form hs
  have wt := ht.2
  obtain ⟨A1, k1, rfl⟩ := slU_form ht
  have wu := hu.2
  obtain ⟨A2, k2, rfl⟩ := slU_form hu
  rcases hsu : Bs.win s u with _ | _
  · skip
    have Hsu := Lib.hid hsu
    clear hsu
    rcases hst : Bs.win s t with _ | _
    · skip
      have Hst := Lib.hid hst
      clear hst
      go_enter Tryd.func5, Tryd.ntmps5
      have hbw : Below w.heap.size w w := Below.refl _ _
      go_wp2_with fail
      refine (alive1_any _ hT).mono ?_
      rintro e w1 ⟨rfl, hb1⟩
      replace hs := hs.below hb1
      replace ht := ht.below hb1
      replace hu := hu.below hb1
      replace hT := hT.step hb1
      replace hbw := below_next hb1 hbw
      clear hb1
      clear hT
      go_wp2_with fail
      refine (within_any _ _ _ _ _ hu hs (Nat.le_trans bu (by decide)) (Nat.le_trans bs (by decide)) true Hus.out).mono ?_
      rintro e w2 ⟨rfl, hb2⟩
      replace hs := hs.below hb2
      replace ht := ht.below hb2
      replace hu := hu.below hb2
      replace hbw := below_next hb2 hbw
      clear hb2
      go_wp2_with fail
      refine (within_any _ _ _ _ _ hu ht (Nat.le_trans bu (by decide)) (Nat.le_trans bt (by decide)) false Hut.out).mono ?_
      rintro e w3 ⟨rfl, hb3⟩
      replace hs := hs.below hb3
      replace ht := ht.below hb3
      replace hu := hu.below hb3
      replace hbw := below_next hb3 hbw
      clear hb3
      go_wp2_with fail
      refine (within_any _ _ _ _ _ hs hu (Nat.le_trans bs (by decide)) (Nat.le_trans bu (by decide)) false Hsu.out).mono ?_
      rintro e w4 ⟨rfl, hb4⟩
      replace hs := hs.below hb4
      replace ht := ht.below hb4
      replace hu := hu.below hb4
      replace hbw := below_next hb4 hbw
      clear hb4
      go_wp2_with fail
      refine (within_any _ _ _ _ _ hs hs (Nat.le_trans bs (by decide)) (Nat.le_trans bs (by decide)) true (Bs.win1 ws)).mono ?_
      rintro e w5 ⟨rfl, hb5⟩
      replace hs := hs.below hb5
      replace ht := ht.below hb5
      replace hu := hu.below hb5
      replace hbw := below_next hb5 hbw
      clear hb5
      go_wp2_with fail
      refine (and_any _ _ _ _ _ hs ht (Nat.le_trans bs (by decide)) (Nat.le_trans bt (by decide))).mono ?_
      rintro e w6 ⟨u6, rfl, ha59, hb6⟩
      obtain ⟨U6, c6, rfl⟩ := slU_form ha59
      replace hs := hs.below hb6
      replace ht := ht.below hb6
      replace hu := hu.below hb6
      replace hbw := below_next hb6 hbw
      clear hb6
      go_wp2_with fail
      refine (within_any _ _ _ _ _ hu ha59 (Nat.le_trans bu (by decide)) (Nat.le_trans (Bs.op_le bs bt) (by decide)) false ((Bs.win2 ws wt wu).trans (by rw [Hus.out, Hut.out]; rfl))).mono ?_
      rintro e w7 ⟨rfl, hb7⟩
      replace hs := hs.below hb7
      replace ht := ht.below hb7
      replace hu := hu.below hb7
      replace ha59 := ha59.below hb7
      replace hbw := below_next hb7 hbw
      clear hb7
      clear ha59
      go_wp2_with fail
      refine (or_any _ _ _ _ _ hs ht (Nat.le_trans bs (by decide)) (Nat.le_trans bt (by decide))).mono ?_
      rintro e w8 ⟨u8, rfl, ho60, hb8⟩
      obtain ⟨U8, c8, rfl⟩ := slU_form ho60
      replace hs := hs.below hb8
      replace ht := ht.below hb8
      replace hu := hu.below hb8
      replace hbw := below_next hb8 hbw
      clear hb8
      go_wp2_with fail
      refine (within_any _ _ _ _ _ ho60 hu (Nat.le_trans (Bs.op_le bs bt) (by decide)) (Nat.le_trans bu (by decide)) false ((Bs.win3 ws wt wu).trans (by rw [Hsu.out]; rfl))).mono ?_
      rintro e w9 ⟨rfl, hb9⟩
      replace hs := hs.below hb9
      replace ht := ht.below hb9
      replace hu := hu.below hb9
      replace ho60 := ho60.below hb9
      replace hbw := below_next hb9 hbw
      clear hb9
      clear ho60
      go_wp2_with fail
      refine (within_any _ _ _ _ _ hs ht (Nat.le_trans bs (by decide)) (Nat.le_trans bt (by decide)) false Hst.out).mono ?_
      rintro e w10 ⟨rfl, hb10⟩
      replace hs := hs.below hb10
      replace ht := ht.below hb10
      replace hu := hu.below hb10
      replace hbw := below_next hb10 hbw
      clear hb10
      go_wp2_with fail
      refine (within_any _ _ _ _ _ hs ht (Nat.le_trans bs (by decide)) (Nat.le_trans bt (by decide)) false Hst.out).mono ?_
      rintro e w11 ⟨rfl, hb11⟩
      replace hs := hs.below hb11
      replace ht := ht.below hb11
      replace hu := hu.below hb11
      replace hbw := below_next hb11 hbw
      clear hb11
      go_wp2_with fail
      refine (or_any _ _ _ _ _ hs (SlU.nil _) (Nat.le_trans bs (by decide)) (by decide)).mono ?_
      rintro e w12 ⟨u12, rfl, hn61, hb12⟩
      obtain ⟨U12, c12, rfl⟩ := slU_form hn61
      replace hs := hs.below hb12
      replace ht := ht.below hb12
      replace hu := hu.below hb12
      replace hbw := below_next hb12 hbw
      clear hb12
      go_wp2_with fail
      refine (or_any _ _ _ _ _ ht (SlU.nil _) (Nat.le_trans bt (by decide)) (by decide)).mono ?_
      rintro e w13 ⟨u13, rfl, hn62, hb13⟩
      obtain ⟨U13, c13, rfl⟩ := slU_form hn62
      replace hs := hs.below hb13
      replace ht := ht.below hb13
      replace hu := hu.below hb13
      replace hn61 := hn61.below hb13
      replace hbw := below_next hb13 hbw
      clear hb13
      go_wp2_with fail
      refine (equal_u64_call _ _ _ _ false (by rw [← Bs.win5 ws wt, Hst.out]; rfl) _ hn61 hn62).mono ?_
      rintro e w14 ⟨rfl, hb14⟩
      replace hs := hs.below hb14
      replace ht := ht.below hb14
      replace hu := hu.below hb14
      replace hn61 := hn61.below hb14
      replace hn62 := hn62.below hb14
      replace hbw := below_next hb14 hbw
      clear hb14
      clear hn61 hn62
      clear hs ht hu
      go_wp2
      go_ret
      exact ⟨rfl, hbw⟩
    · have htu : Bs.win t u = false := by
        rw [Bool.eq_false_iff]
        intro h
        have := Bs.win4 ws wt wu hst h
        rw [Hsu.out] at this
        cases this
      have Hst := Lib.hid hst
      clear hst
      have Htu := Lib.hid htu
      clear htu
      rcases hts : Bs.win t s with _ | _
      · skip
        have Hts := Lib.hid hts
        clear hts
        go_enter Tryd.func5, Tryd.ntmps5
        have hbw : Below w.heap.size w w := Below.refl _ _
        go_wp2_with fail
        refine (alive1_any _ hT).mono ?_
        rintro e w1 ⟨rfl, hb1⟩
        replace hs := hs.below hb1
        replace ht := ht.below hb1
        replace hu := hu.below hb1
        replace hT := hT.step hb1
        replace hbw := below_next hb1 hbw
        clear hb1
        clear hT
        go_wp2_with fail
        refine (within_any _ _ _ _ _ hu hs (Nat.le_trans bu (by decide)) (Nat.le_trans bs (by decide)) true Hus.out).mono ?_
        rintro e w2 ⟨rfl, hb2⟩
        replace hs := hs.below hb2
        replace ht := ht.below hb2
        replace hu := hu.below hb2
        replace hbw := below_next hb2 hbw
        clear hb2
        go_wp2_with fail
        refine (within_any _ _ _ _ _ hu ht (Nat.le_trans bu (by decide)) (Nat.le_trans bt (by decide)) false Hut.out).mono ?_
        rintro e w3 ⟨rfl, hb3⟩
        replace hs := hs.below hb3
        replace ht := ht.below hb3
        replace hu := hu.below hb3
        replace hbw := below_next hb3 hbw
        clear hb3
        go_wp2_with fail
        refine (within_any _ _ _ _ _ hs hu (Nat.le_trans bs (by decide)) (Nat.le_trans bu (by decide)) false Hsu.out).mono ?_
        rintro e w4 ⟨rfl, hb4⟩
        replace hs := hs.below hb4
        replace ht := ht.below hb4
        replace hu := hu.below hb4
        replace hbw := below_next hb4 hbw
        clear hb4
        go_wp2_with fail
        refine (within_any _ _ _ _ _ hs hs (Nat.le_trans bs (by decide)) (Nat.le_trans bs (by decide)) true (Bs.win1 ws)).mono ?_
        rintro e w5 ⟨rfl, hb5⟩
        replace hs := hs.below hb5
        replace ht := ht.below hb5
        replace hu := hu.below hb5
        replace hbw := below_next hb5 hbw
        clear hb5
        go_wp2_with fail
        refine (and_any _ _ _ _ _ hs ht (Nat.le_trans bs (by decide)) (Nat.le_trans bt (by decide))).mono ?_
        rintro e w6 ⟨u6, rfl, ha63, hb6⟩
        obtain ⟨U6, c6, rfl⟩ := slU_form ha63
        replace hs := hs.below hb6
        replace ht := ht.below hb6
        replace hu := hu.below hb6
        replace hbw := below_next hb6 hbw
        clear hb6
        go_wp2_with fail
        refine (within_any _ _ _ _ _ hu ha63 (Nat.le_trans bu (by decide)) (Nat.le_trans (Bs.op_le bs bt) (by decide)) false ((Bs.win2 ws wt wu).trans (by rw [Hus.out, Hut.out]; rfl))).mono ?_
        rintro e w7 ⟨rfl, hb7⟩
        replace hs := hs.below hb7
        replace ht := ht.below hb7
        replace hu := hu.below hb7
        replace ha63 := ha63.below hb7
        replace hbw := below_next hb7 hbw
        clear hb7
        clear ha63
        go_wp2_with fail
        refine (or_any _ _ _ _ _ hs ht (Nat.le_trans bs (by decide)) (Nat.le_trans bt (by decide))).mono ?_
        rintro e w8 ⟨u8, rfl, ho64, hb8⟩
        obtain ⟨U8, c8, rfl⟩ := slU_form ho64
        replace hs := hs.below hb8
        replace ht := ht.below hb8
        replace hu := hu.below hb8
        replace hbw := below_next hb8 hbw
        clear hb8
        go_wp2_with fail
        refine (within_any _ _ _ _ _ ho64 hu (Nat.le_trans (Bs.op_le bs bt) (by decide)) (Nat.le_trans bu (by decide)) false ((Bs.win3 ws wt wu).trans (by rw [Hsu.out]; rfl))).mono ?_
        rintro e w9 ⟨rfl, hb9⟩
        replace hs := hs.below hb9
        replace ht := ht.below hb9
        replace hu := hu.below hb9
        replace ho64 := ho64.below hb9
        replace hbw := below_next hb9 hbw
        clear hb9
        clear ho64
        go_wp2_with fail
        refine (within_any _ _ _ _ _ hs ht (Nat.le_trans bs (by decide)) (Nat.le_trans bt (by decide)) true Hst.out).mono ?_
        rintro e w10 ⟨rfl, hb10⟩
        replace hs := hs.below hb10
        replace ht := ht.below hb10
        replace hu := hu.below hb10
        replace hbw := below_next hb10 hbw
        clear hb10
        go_wp2_with fail
        refine (within_any _ _ _ _ _ ht hu (Nat.le_trans bt (by decide)) (Nat.le_trans bu (by decide)) false Htu.out).mono ?_
        rintro e w11 ⟨rfl, hb11⟩
        replace hs := hs.below hb11
        replace ht := ht.below hb11
        replace hu := hu.below hb11
        replace hbw := below_next hb11 hbw
        clear hb11
        go_wp2_with fail
        refine (within_any _ _ _ _ _ hs ht (Nat.le_trans bs (by decide)) (Nat.le_trans bt (by decide)) true Hst.out).mono ?_
        rintro e w12 ⟨rfl, hb12⟩
        replace hs := hs.below hb12
        replace ht := ht.below hb12
        replace hu := hu.below hb12
        replace hbw := below_next hb12 hbw
        clear hb12
        go_wp2_with fail
        refine (within_any _ _ _ _ _ ht hs (Nat.le_trans bt (by decide)) (Nat.le_trans bs (by decide)) false Hts.out).mono ?_
        rintro e w13 ⟨rfl, hb13⟩
        replace hs := hs.below hb13
        replace ht := ht.below hb13
        replace hu := hu.below hb13
        replace hbw := below_next hb13 hbw
        clear hb13
        go_wp2_with fail
        refine (or_any _ _ _ _ _ hs (SlU.nil _) (Nat.le_trans bs (by decide)) (by decide)).mono ?_
        rintro e w14 ⟨u14, rfl, hn65, hb14⟩
        obtain ⟨U14, c14, rfl⟩ := slU_form hn65
        replace hs := hs.below hb14
        replace ht := ht.below hb14
        replace hu := hu.below hb14
        replace hbw := below_next hb14 hbw
        clear hb14
        go_wp2_with fail
        refine (or_any _ _ _ _ _ ht (SlU.nil _) (Nat.le_trans bt (by decide)) (by decide)).mono ?_
        rintro e w15 ⟨u15, rfl, hn66, hb15⟩
        obtain ⟨U15, c15, rfl⟩ := slU_form hn66
        replace hs := hs.below hb15
        replace ht := ht.below hb15
        replace hu := hu.below hb15
        replace hn65 := hn65.below hb15
        replace hbw := below_next hb15 hbw
        clear hb15
        go_wp2_with fail
        refine (equal_u64_call _ _ _ _ false (by rw [← Bs.win5 ws wt, Hst.out, Hts.out]; rfl) _ hn65 hn66).mono ?_
        rintro e w16 ⟨rfl, hb16⟩
        replace hs := hs.below hb16
        replace ht := ht.below hb16
        replace hu := hu.below hb16
        replace hn65 := hn65.below hb16
        replace hn66 := hn66.below hb16
        replace hbw := below_next hb16 hbw
        clear hb16
        clear hn65 hn66
        clear hs ht hu
        go_wp2
        go_ret
        exact ⟨rfl, hbw⟩
      · skip
        have Hts := Lib.hid hts
        clear hts
        go_enter Tryd.func5, Tryd.ntmps5
        have hbw : Below w.heap.size w w := Below.refl _ _
        go_wp2_with fail
        refine (alive1_any _ hT).mono ?_
        rintro e w1 ⟨rfl, hb1⟩
        replace hs := hs.below hb1
        replace ht := ht.below hb1
        replace hu := hu.below hb1
        replace hT := hT.step hb1
        replace hbw := below_next hb1 hbw
        clear hb1
        clear hT
        go_wp2_with fail
        refine (within_any _ _ _ _ _ hu hs (Nat.le_trans bu (by decide)) (Nat.le_trans bs (by decide)) true Hus.out).mono ?_
        rintro e w2 ⟨rfl, hb2⟩
        replace hs := hs.below hb2
        replace ht := ht.below hb2
        replace hu := hu.below hb2
        replace hbw := below_next hb2 hbw
        clear hb2
        go_wp2_with fail
        refine (within_any _ _ _ _ _ hu ht (Nat.le_trans bu (by decide)) (Nat.le_trans bt (by decide)) false Hut.out).mono ?_
        rintro e w3 ⟨rfl, hb3⟩
        replace hs := hs.below hb3
        replace ht := ht.below hb3
        replace hu := hu.below hb3
        replace hbw := below_next hb3 hbw
        clear hb3
        go_wp2_with fail
        refine (within_any _ _ _ _ _ hs hu (Nat.le_trans bs (by decide)) (Nat.le_trans bu (by decide)) false Hsu.out).mono ?_
        rintro e w4 ⟨rfl, hb4⟩
        replace hs := hs.below hb4
        replace ht := ht.below hb4
        replace hu := hu.below hb4
        replace hbw := below_next hb4 hbw
        clear hb4
        go_wp2_with fail
        refine (within_any _ _ _ _ _ hs hs (Nat.le_trans bs (by decide)) (Nat.le_trans bs (by decide)) true (Bs.win1 ws)).mono ?_
        rintro e w5 ⟨rfl, hb5⟩
        replace hs := hs.below hb5
        replace ht := ht.below hb5
        replace hu := hu.below hb5
        replace hbw := below_next hb5 hbw
        clear hb5
        go_wp2_with fail
        refine (and_any _ _ _ _ _ hs ht (Nat.le_trans bs (by decide)) (Nat.le_trans bt (by decide))).mono ?_
        rintro e w6 ⟨u6, rfl, ha67, hb6⟩
        obtain ⟨U6, c6, rfl⟩ := slU_form ha67
        replace hs := hs.below hb6
        replace ht := ht.below hb6
        replace hu := hu.below hb6
        replace hbw := below_next hb6 hbw
        clear hb6
        go_wp2_with fail
        refine (within_any _ _ _ _ _ hu ha67 (Nat.le_trans bu (by decide)) (Nat.le_trans (Bs.op_le bs bt) (by decide)) false ((Bs.win2 ws wt wu).trans (by rw [Hus.out, Hut.out]; rfl))).mono ?_
        rintro e w7 ⟨rfl, hb7⟩
        replace hs := hs.below hb7
        replace ht := ht.below hb7
        replace hu := hu.below hb7
        replace ha67 := ha67.below hb7
        replace hbw := below_next hb7 hbw
        clear hb7
        clear ha67
        go_wp2_with fail
        refine (or_any _ _ _ _ _ hs ht (Nat.le_trans bs (by decide)) (Nat.le_trans bt (by decide))).mono ?_
        rintro e w8 ⟨u8, rfl, ho68, hb8⟩
        obtain ⟨U8, c8, rfl⟩ := slU_form ho68
        replace hs := hs.below hb8
        replace ht := ht.below hb8
        replace hu := hu.below hb8
        replace hbw := below_next hb8 hbw
        clear hb8
        go_wp2_with fail
        refine (within_any _ _ _ _ _ ho68 hu (Nat.le_trans (Bs.op_le bs bt) (by decide)) (Nat.le_trans bu (by decide)) false ((Bs.win3 ws wt wu).trans (by rw [Hsu.out]; rfl))).mono ?_
        rintro e w9 ⟨rfl, hb9⟩
        replace hs := hs.below hb9
        replace ht := ht.below hb9
        replace hu := hu.below hb9
        replace ho68 := ho68.below hb9
        replace hbw := below_next hb9 hbw
        clear hb9
        clear ho68
        go_wp2_with fail
        refine (within_any _ _ _ _ _ hs ht (Nat.le_trans bs (by decide)) (Nat.le_trans bt (by decide)) true Hst.out).mono ?_
        rintro e w10 ⟨rfl, hb10⟩
        replace hs := hs.below hb10
        replace ht := ht.below hb10
        replace hu := hu.below hb10
        replace hbw := below_next hb10 hbw
        clear hb10
        go_wp2_with fail
        refine (within_any _ _ _ _ _ ht hu (Nat.le_trans bt (by decide)) (Nat.le_trans bu (by decide)) false Htu.out).mono ?_
        rintro e w11 ⟨rfl, hb11⟩
        replace hs := hs.below hb11
        replace ht := ht.below hb11
        replace hu := hu.below hb11
        replace hbw := below_next hb11 hbw
        clear hb11
        go_wp2_with fail
        refine (within_any _ _ _ _ _ hs ht (Nat.le_trans bs (by decide)) (Nat.le_trans bt (by decide)) true Hst.out).mono ?_
        rintro e w12 ⟨rfl, hb12⟩
        replace hs := hs.below hb12
        replace ht := ht.below hb12
        replace hu := hu.below hb12
        replace hbw := below_next hb12 hbw
        clear hb12
        go_wp2_with fail
        refine (within_any _ _ _ _ _ ht hs (Nat.le_trans bt (by decide)) (Nat.le_trans bs (by decide)) true Hts.out).mono ?_
        rintro e w13 ⟨rfl, hb13⟩
        replace hs := hs.below hb13
        replace ht := ht.below hb13
        replace hu := hu.below hb13
        replace hbw := below_next hb13 hbw
        clear hb13
        go_wp2_with fail
        refine (or_any _ _ _ _ _ hs (SlU.nil _) (Nat.le_trans bs (by decide)) (by decide)).mono ?_
        rintro e w14 ⟨u14, rfl, hn69, hb14⟩
        obtain ⟨U14, c14, rfl⟩ := slU_form hn69
        replace hs := hs.below hb14
        replace ht := ht.below hb14
        replace hu := hu.below hb14
        replace hbw := below_next hb14 hbw
        clear hb14
        go_wp2_with fail
        refine (or_any _ _ _ _ _ ht (SlU.nil _) (Nat.le_trans bt (by decide)) (by decide)).mono ?_
        rintro e w15 ⟨u15, rfl, hn70, hb15⟩
        obtain ⟨U15, c15, rfl⟩ := slU_form hn70
        replace hs := hs.below hb15
        replace ht := ht.below hb15
        replace hu := hu.below hb15
        replace hn69 := hn69.below hb15
        replace hbw := below_next hb15 hbw
        clear hb15
        go_wp2_with fail
        refine (equal_u64_call _ _ _ _ true (by rw [← Bs.win5 ws wt, Hst.out, Hts.out]; rfl) _ hn69 hn70).mono ?_
        rintro e w16 ⟨rfl, hb16⟩
        replace hs := hs.below hb16
        replace ht := ht.below hb16
        replace hu := hu.below hb16
        replace hn69 := hn69.below hb16
        replace hn70 := hn70.below hb16
        replace hbw := below_next hb16 hbw
        clear hb16
        clear hn69 hn70
        clear hs ht hu
        go_wp2
        go_ret
        exact ⟨rfl, hbw⟩
  · skip
    have Hsu := Lib.hid hsu
    clear hsu
    rcases htu : Bs.win t u with _ | _
    · skip
      have Htu := Lib.hid htu
      clear htu
      rcases hst : Bs.win s t with _ | _
      · skip
        have Hst := Lib.hid hst
        clear hst
        go_enter Tryd.func5, Tryd.ntmps5
        have hbw : Below w.heap.size w w := Below.refl _ _
        go_wp2_with fail
        refine (alive1_any _ hT).mono ?_
        rintro e w1 ⟨rfl, hb1⟩
        replace hs := hs.below hb1
        replace ht := ht.below hb1
        replace hu := hu.below hb1
        replace hT := hT.step hb1
        replace hbw := below_next hb1 hbw
        clear hb1
        clear hT
        go_wp2_with fail
        refine (within_any _ _ _ _ _ hu hs (Nat.le_trans bu (by decide)) (Nat.le_trans bs (by decide)) true Hus.out).mono ?_
        rintro e w2 ⟨rfl, hb2⟩
        replace hs := hs.below hb2
        replace ht := ht.below hb2
        replace hu := hu.below hb2
        replace hbw := below_next hb2 hbw
        clear hb2
        go_wp2_with fail
        refine (within_any _ _ _ _ _ hu ht (Nat.le_trans bu (by decide)) (Nat.le_trans bt (by decide)) false Hut.out).mono ?_
        rintro e w3 ⟨rfl, hb3⟩
        replace hs := hs.below hb3
        replace ht := ht.below hb3
        replace hu := hu.below hb3
        replace hbw := below_next hb3 hbw
        clear hb3
        go_wp2_with fail
        refine (within_any _ _ _ _ _ hs hu (Nat.le_trans bs (by decide)) (Nat.le_trans bu (by decide)) true Hsu.out).mono ?_
        rintro e w4 ⟨rfl, hb4⟩
        replace hs := hs.below hb4
        replace ht := ht.below hb4
        replace hu := hu.below hb4
        replace hbw := below_next hb4 hbw
        clear hb4
        go_wp2_with fail
        refine (within_any _ _ _ _ _ ht hu (Nat.le_trans bt (by decide)) (Nat.le_trans bu (by decide)) false Htu.out).mono ?_
        rintro e w5 ⟨rfl, hb5⟩
        replace hs := hs.below hb5
        replace ht := ht.below hb5
        replace hu := hu.below hb5
        replace hbw := below_next hb5 hbw
        clear hb5
        go_wp2_with fail
        refine (within_any _ _ _ _ _ hs hs (Nat.le_trans bs (by decide)) (Nat.le_trans bs (by decide)) true (Bs.win1 ws)).mono ?_
        rintro e w6 ⟨rfl, hb6⟩
        replace hs := hs.below hb6
        replace ht := ht.below hb6
        replace hu := hu.below hb6
        replace hbw := below_next hb6 hbw
        clear hb6
        go_wp2_with fail
        refine (and_any _ _ _ _ _ hs ht (Nat.le_trans bs (by decide)) (Nat.le_trans bt (by decide))).mono ?_
        rintro e w7 ⟨u7, rfl, ha71, hb7⟩
        obtain ⟨U7, c7, rfl⟩ := slU_form ha71
        replace hs := hs.below hb7
        replace ht := ht.below hb7
        replace hu := hu.below hb7
        replace hbw := below_next hb7 hbw
        clear hb7
        go_wp2_with fail
        refine (within_any _ _ _ _ _ hu ha71 (Nat.le_trans bu (by decide)) (Nat.le_trans (Bs.op_le bs bt) (by decide)) false ((Bs.win2 ws wt wu).trans (by rw [Hus.out, Hut.out]; rfl))).mono ?_
        rintro e w8 ⟨rfl, hb8⟩
        replace hs := hs.below hb8
        replace ht := ht.below hb8
        replace hu := hu.below hb8
        replace ha71 := ha71.below hb8
        replace hbw := below_next hb8 hbw
        clear hb8
        clear ha71
        go_wp2_with fail
        refine (or_any _ _ _ _ _ hs ht (Nat.le_trans bs (by decide)) (Nat.le_trans bt (by decide))).mono ?_
        rintro e w9 ⟨u9, rfl, ho72, hb9⟩
        obtain ⟨U9, c9, rfl⟩ := slU_form ho72
        replace hs := hs.below hb9
        replace ht := ht.below hb9
        replace hu := hu.below hb9
        replace hbw := below_next hb9 hbw
        clear hb9
        go_wp2_with fail
        refine (within_any _ _ _ _ _ ho72 hu (Nat.le_trans (Bs.op_le bs bt) (by decide)) (Nat.le_trans bu (by decide)) false ((Bs.win3 ws wt wu).trans (by rw [Hsu.out, Htu.out]; rfl))).mono ?_
        rintro e w10 ⟨rfl, hb10⟩
        replace hs := hs.below hb10
        replace ht := ht.below hb10
        replace hu := hu.below hb10
        replace ho72 := ho72.below hb10
        replace hbw := below_next hb10 hbw
        clear hb10
        clear ho72
        go_wp2_with fail
        refine (within_any _ _ _ _ _ hs ht (Nat.le_trans bs (by decide)) (Nat.le_trans bt (by decide)) false Hst.out).mono ?_
        rintro e w11 ⟨rfl, hb11⟩
        replace hs := hs.below hb11
        replace ht := ht.below hb11
        replace hu := hu.below hb11
        replace hbw := below_next hb11 hbw
        clear hb11
        go_wp2_with fail
        refine (within_any _ _ _ _ _ hs ht (Nat.le_trans bs (by decide)) (Nat.le_trans bt (by decide)) false Hst.out).mono ?_
        rintro e w12 ⟨rfl, hb12⟩
        replace hs := hs.below hb12
        replace ht := ht.below hb12
        replace hu := hu.below hb12
        replace hbw := below_next hb12 hbw
        clear hb12
        go_wp2_with fail
        refine (or_any _ _ _ _ _ hs (SlU.nil _) (Nat.le_trans bs (by decide)) (by decide)).mono ?_
        rintro e w13 ⟨u13, rfl, hn73, hb13⟩
        obtain ⟨U13, c13, rfl⟩ := slU_form hn73
        replace hs := hs.below hb13
        replace ht := ht.below hb13
        replace hu := hu.below hb13
        replace hbw := below_next hb13 hbw
        clear hb13
        go_wp2_with fail
        refine (or_any _ _ _ _ _ ht (SlU.nil _) (Nat.le_trans bt (by decide)) (by decide)).mono ?_
        rintro e w14 ⟨u14, rfl, hn74, hb14⟩
        obtain ⟨U14, c14, rfl⟩ := slU_form hn74
        replace hs := hs.below hb14
        replace ht := ht.below hb14
        replace hu := hu.below hb14
        replace hn73 := hn73.below hb14
        replace hbw := below_next hb14 hbw
        clear hb14
        go_wp2_with fail
        refine (equal_u64_call _ _ _ _ false (by rw [← Bs.win5 ws wt, Hst.out]; rfl) _ hn73 hn74).mono ?_
        rintro e w15 ⟨rfl, hb15⟩
        replace hs := hs.below hb15
        replace ht := ht.below hb15
        replace hu := hu.below hb15
        replace hn73 := hn73.below hb15
        replace hn74 := hn74.below hb15
        replace hbw := below_next hb15 hbw
        clear hb15
        clear hn73 hn74
        clear hs ht hu
        go_wp2
        go_ret
        exact ⟨rfl, hbw⟩
      · skip
        have Hst := Lib.hid hst
        clear hst
        rcases hts : Bs.win t s with _ | _
        · skip
          have Hts := Lib.hid hts
          clear hts
          go_enter Tryd.func5, Tryd.ntmps5
          have hbw : Below w.heap.size w w := Below.refl _ _
          go_wp2_with fail
          refine (alive1_any _ hT).mono ?_
          rintro e w1 ⟨rfl, hb1⟩
          replace hs := hs.below hb1
          replace ht := ht.below hb1
          replace hu := hu.below hb1
          replace hT := hT.step hb1
          replace hbw := below_next hb1 hbw
          clear hb1
          clear hT
          go_wp2_with fail
          refine (within_any _ _ _ _ _ hu hs (Nat.le_trans bu (by decide)) (Nat.le_trans bs (by decide)) true Hus.out).mono ?_
          rintro e w2 ⟨rfl, hb2⟩
          replace hs := hs.below hb2
          replace ht := ht.below hb2
          replace hu := hu.below hb2
          replace hbw := below_next hb2 hbw
          clear hb2
          go_wp2_with fail
          refine (within_any _ _ _ _ _ hu ht (Nat.le_trans bu (by decide)) (Nat.le_trans bt (by decide)) false Hut.out).mono ?_
          rintro e w3 ⟨rfl, hb3⟩
          replace hs := hs.below hb3
          replace ht := ht.below hb3
          replace hu := hu.below hb3
          replace hbw := below_next hb3 hbw
          clear hb3
          go_wp2_with fail
          refine (within_any _ _ _ _ _ hs hu (Nat.le_trans bs (by decide)) (Nat.le_trans bu (by decide)) true Hsu.out).mono ?_
          rintro e w4 ⟨rfl, hb4⟩
          replace hs := hs.below hb4
          replace ht := ht.below hb4
          replace hu := hu.below hb4
          replace hbw := below_next hb4 hbw
          clear hb4
          go_wp2_with fail
          refine (within_any _ _ _ _ _ ht hu (Nat.le_trans bt (by decide)) (Nat.le_trans bu (by decide)) false Htu.out).mono ?_
          rintro e w5 ⟨rfl, hb5⟩
          replace hs := hs.below hb5
          replace ht := ht.below hb5
          replace hu := hu.below hb5
          replace hbw := below_next hb5 hbw
          clear hb5
          go_wp2_with fail
          refine (within_any _ _ _ _ _ hs hs (Nat.le_trans bs (by decide)) (Nat.le_trans bs (by decide)) true (Bs.win1 ws)).mono ?_
          rintro e w6 ⟨rfl, hb6⟩
          replace hs := hs.below hb6
          replace ht := ht.below hb6
          replace hu := hu.below hb6
          replace hbw := below_next hb6 hbw
          clear hb6
          go_wp2_with fail
          refine (and_any _ _ _ _ _ hs ht (Nat.le_trans bs (by decide)) (Nat.le_trans bt (by decide))).mono ?_
          rintro e w7 ⟨u7, rfl, ha75, hb7⟩
          obtain ⟨U7, c7, rfl⟩ := slU_form ha75
          replace hs := hs.below hb7
          replace ht := ht.below hb7
          replace hu := hu.below hb7
          replace hbw := below_next hb7 hbw
          clear hb7
          go_wp2_with fail
          refine (within_any _ _ _ _ _ hu ha75 (Nat.le_trans bu (by decide)) (Nat.le_trans (Bs.op_le bs bt) (by decide)) false ((Bs.win2 ws wt wu).trans (by rw [Hus.out, Hut.out]; rfl))).mono ?_
          rintro e w8 ⟨rfl, hb8⟩
          replace hs := hs.below hb8
          replace ht := ht.below hb8
          replace hu := hu.below hb8
          replace ha75 := ha75.below hb8
          replace hbw := below_next hb8 hbw
          clear hb8
          clear ha75
          go_wp2_with fail
          refine (or_any _ _ _ _ _ hs ht (Nat.le_trans bs (by decide)) (Nat.le_trans bt (by decide))).mono ?_
          rintro e w9 ⟨u9, rfl, ho76, hb9⟩
          obtain ⟨U9, c9, rfl⟩ := slU_form ho76
          replace hs := hs.below hb9
          replace ht := ht.below hb9
          replace hu := hu.below hb9
          replace hbw := below_next hb9 hbw
          clear hb9
          go_wp2_with fail
          refine (within_any _ _ _ _ _ ho76 hu (Nat.le_trans (Bs.op_le bs bt) (by decide)) (Nat.le_trans bu (by decide)) false ((Bs.win3 ws wt wu).trans (by rw [Hsu.out, Htu.out]; rfl))).mono ?_
          rintro e w10 ⟨rfl, hb10⟩
          replace hs := hs.below hb10
          replace ht := ht.below hb10
          replace hu := hu.below hb10
          replace ho76 := ho76.below hb10
          replace hbw := below_next hb10 hbw
          clear hb10
          clear ho76
          go_wp2_with fail
          refine (within_any _ _ _ _ _ hs ht (Nat.le_trans bs (by decide)) (Nat.le_trans bt (by decide)) true Hst.out).mono ?_
          rintro e w11 ⟨rfl, hb11⟩
          replace hs := hs.below hb11
          replace ht := ht.below hb11
          replace hu := hu.below hb11
          replace hbw := below_next hb11 hbw
          clear hb11
          go_wp2_with fail
          refine (within_any _ _ _ _ _ ht hu (Nat.le_trans bt (by decide)) (Nat.le_trans bu (by decide)) false Htu.out).mono ?_
          rintro e w12 ⟨rfl, hb12⟩
          replace hs := hs.below hb12
          replace ht := ht.below hb12
          replace hu := hu.below hb12
          replace hbw := below_next hb12 hbw
          clear hb12
          go_wp2_with fail
          refine (within_any _ _ _ _ _ hs ht (Nat.le_trans bs (by decide)) (Nat.le_trans bt (by decide)) true Hst.out).mono ?_
          rintro e w13 ⟨rfl, hb13⟩
          replace hs := hs.below hb13
          replace ht := ht.below hb13
          replace hu := hu.below hb13
          replace hbw := below_next hb13 hbw
          clear hb13
          go_wp2_with fail
          refine (within_any _ _ _ _ _ ht hs (Nat.le_trans bt (by decide)) (Nat.le_trans bs (by decide)) false Hts.out).mono ?_
          rintro e w14 ⟨rfl, hb14⟩
          replace hs := hs.below hb14
          replace ht := ht.below hb14
          replace hu := hu.below hb14
          replace hbw := below_next hb14 hbw
          clear hb14
          go_wp2_with fail
          refine (or_any _ _ _ _ _ hs (SlU.nil _) (Nat.le_trans bs (by decide)) (by decide)).mono ?_
          rintro e w15 ⟨u15, rfl, hn77, hb15⟩
          obtain ⟨U15, c15, rfl⟩ := slU_form hn77
          replace hs := hs.below hb15
          replace ht := ht.below hb15
          replace hu := hu.below hb15
          replace hbw := below_next hb15 hbw
          clear hb15
          go_wp2_with fail
          refine (or_any _ _ _ _ _ ht (SlU.nil _) (Nat.le_trans bt (by decide)) (by decide)).mono ?_
          rintro e w16 ⟨u16, rfl, hn78, hb16⟩
          obtain ⟨U16, c16, rfl⟩ := slU_form hn78
          replace hs := hs.below hb16
          replace ht := ht.below hb16
          replace hu := hu.below hb16
          replace hn77 := hn77.below hb16
          replace hbw := below_next hb16 hbw
          clear hb16
          go_wp2_with fail
          refine (equal_u64_call _ _ _ _ false (by rw [← Bs.win5 ws wt, Hst.out, Hts.out]; rfl) _ hn77 hn78).mono ?_
          rintro e w17 ⟨rfl, hb17⟩
          replace hs := hs.below hb17
          replace ht := ht.below hb17
          replace hu := hu.below hb17
          replace hn77 := hn77.below hb17
          replace hn78 := hn78.below hb17
          replace hbw := below_next hb17 hbw
          clear hb17
          clear hn77 hn78
          clear hs ht hu
          go_wp2
          go_ret
          exact ⟨rfl, hbw⟩
        · skip
          have Hts := Lib.hid hts
          clear hts
          go_enter Tryd.func5, Tryd.ntmps5
          have hbw : Below w.heap.size w w := Below.refl _ _
          go_wp2_with fail
          refine (alive1_any _ hT).mono ?_
          rintro e w1 ⟨rfl, hb1⟩
          replace hs := hs.below hb1
          replace ht := ht.below hb1
          replace hu := hu.below hb1
          replace hT := hT.step hb1
          replace hbw := below_next hb1 hbw
          clear hb1
          clear hT
          go_wp2_with fail
          refine (within_any _ _ _ _ _ hu hs (Nat.le_trans bu (by decide)) (Nat.le_trans bs (by decide)) true Hus.out).mono ?_
          rintro e w2 ⟨rfl, hb2⟩
          replace hs := hs.below hb2
          replace ht := ht.below hb2
          replace hu := hu.below hb2
          replace hbw := below_next hb2 hbw
          clear hb2
          go_wp2_with fail
          refine (within_any _ _ _ _ _ hu ht (Nat.le_trans bu (by decide)) (Nat.le_trans bt (by decide)) false Hut.out).mono ?_
          rintro e w3 ⟨rfl, hb3⟩
          replace hs := hs.below hb3
          replace ht := ht.below hb3
          replace hu := hu.below hb3
          replace hbw := below_next hb3 hbw
          clear hb3
          go_wp2_with fail
          refine (within_any _ _ _ _ _ hs hu (Nat.le_trans bs (by decide)) (Nat.le_trans bu (by decide)) true Hsu.out).mono ?_
          rintro e w4 ⟨rfl, hb4⟩
          replace hs := hs.below hb4
          replace ht := ht.below hb4
          replace hu := hu.below hb4
          replace hbw := below_next hb4 hbw
          clear hb4
          go_wp2_with fail
          refine (within_any _ _ _ _ _ ht hu (Nat.le_trans bt (by decide)) (Nat.le_trans bu (by decide)) false Htu.out).mono ?_
          rintro e w5 ⟨rfl, hb5⟩
          replace hs := hs.below hb5
          replace ht := ht.below hb5
          replace hu := hu.below hb5
          replace hbw := below_next hb5 hbw
          clear hb5
          go_wp2_with fail
          refine (within_any _ _ _ _ _ hs hs (Nat.le_trans bs (by decide)) (Nat.le_trans bs (by decide)) true (Bs.win1 ws)).mono ?_
          rintro e w6 ⟨rfl, hb6⟩
          replace hs := hs.below hb6
          replace ht := ht.below hb6
          replace hu := hu.below hb6
          replace hbw := below_next hb6 hbw
          clear hb6
          go_wp2_with fail
          refine (and_any _ _ _ _ _ hs ht (Nat.le_trans bs (by decide)) (Nat.le_trans bt (by decide))).mono ?_
          rintro e w7 ⟨u7, rfl, ha79, hb7⟩
          obtain ⟨U7, c7, rfl⟩ := slU_form ha79
          replace hs := hs.below hb7
          replace ht := ht.below hb7
          replace hu := hu.below hb7
          replace hbw := below_next hb7 hbw
          clear hb7
          go_wp2_with fail
          refine (within_any _ _ _ _ _ hu ha79 (Nat.le_trans bu (by decide)) (Nat.le_trans (Bs.op_le bs bt) (by decide)) false ((Bs.win2 ws wt wu).trans (by rw [Hus.out, Hut.out]; rfl))).mono ?_
          rintro e w8 ⟨rfl, hb8⟩
          replace hs := hs.below hb8
          replace ht := ht.below hb8
          replace hu := hu.below hb8
          replace ha79 := ha79.below hb8
          replace hbw := below_next hb8 hbw
          clear hb8
          clear ha79
          go_wp2_with fail
          refine (or_any _ _ _ _ _ hs ht (Nat.le_trans bs (by decide)) (Nat.le_trans bt (by decide))).mono ?_
          rintro e w9 ⟨u9, rfl, ho80, hb9⟩
          obtain ⟨U9, c9, rfl⟩ := slU_form ho80
          replace hs := hs.below hb9
          replace ht := ht.below hb9
          replace hu := hu.below hb9
          replace hbw := below_next hb9 hbw
          clear hb9
          go_wp2_with fail
          refine (within_any _ _ _ _ _ ho80 hu (Nat.le_trans (Bs.op_le bs bt) (by decide)) (Nat.le_trans bu (by decide)) false ((Bs.win3 ws wt wu).trans (by rw [Hsu.out, Htu.out]; rfl))).mono ?_
          rintro e w10 ⟨rfl, hb10⟩
          replace hs := hs.below hb10
          replace ht := ht.below hb10
          replace hu := hu.below hb10
          replace ho80 := ho80.below hb10
          replace hbw := below_next hb10 hbw
          clear hb10
          clear ho80
          go_wp2_with fail
          refine (within_any _ _ _ _ _ hs ht (Nat.le_trans bs (by decide)) (Nat.le_trans bt (by decide)) true Hst.out).mono ?_
          rintro e w11 ⟨rfl, hb11⟩
          replace hs := hs.below hb11
          replace ht := ht.below hb11
          replace hu := hu.below hb11
          replace hbw := below_next hb11 hbw
          clear hb11
          go_wp2_with fail
          refine (within_any _ _ _ _ _ ht hu (Nat.le_trans bt (by decide)) (Nat.le_trans bu (by decide)) false Htu.out).mono ?_
          rintro e w12 ⟨rfl, hb12⟩
          replace hs := hs.below hb12
          replace ht := ht.below hb12
          replace hu := hu.below hb12
          replace hbw := below_next hb12 hbw
          clear hb12
          go_wp2_with fail
          refine (within_any _ _ _ _ _ hs ht (Nat.le_trans bs (by decide)) (Nat.le_trans bt (by decide)) true Hst.out).mono ?_
          rintro e w13 ⟨rfl, hb13⟩
          replace hs := hs.below hb13
          replace ht := ht.below hb13
          replace hu := hu.below hb13
          replace hbw := below_next hb13 hbw
          clear hb13
          go_wp2_with fail
          refine (within_any _ _ _ _ _ ht hs (Nat.le_trans bt (by decide)) (Nat.le_trans bs (by decide)) true Hts.out).mono ?_
          rintro e w14 ⟨rfl, hb14⟩
          replace hs := hs.below hb14
          replace ht := ht.below hb14
          replace hu := hu.below hb14
          replace hbw := below_next hb14 hbw
          clear hb14
          go_wp2_with fail
          refine (or_any _ _ _ _ _ hs (SlU.nil _) (Nat.le_trans bs (by decide)) (by decide)).mono ?_
          rintro e w15 ⟨u15, rfl, hn81, hb15⟩
          obtain ⟨U15, c15, rfl⟩ := slU_form hn81
          replace hs := hs.below hb15
          replace ht := ht.below hb15
          replace hu := hu.below hb15
          replace hbw := below_next hb15 hbw
          clear hb15
          go_wp2_with fail
          refine (or_any _ _ _ _ _ ht (SlU.nil _) (Nat.le_trans bt (by decide)) (by decide)).mono ?_
          rintro e w16 ⟨u16, rfl, hn82, hb16⟩
          obtain ⟨U16, c16, rfl⟩ := slU_form hn82
          replace hs := hs.below hb16
          replace ht := ht.below hb16
          replace hu := hu.below hb16
          replace hn81 := hn81.below hb16
          replace hbw := below_next hb16 hbw
          clear hb16
          go_wp2_with fail
          refine (equal_u64_call _ _ _ _ true (by rw [← Bs.win5 ws wt, Hst.out, Hts.out]; rfl) _ hn81 hn82).mono ?_
          rintro e w17 ⟨rfl, hb17⟩
          replace hs := hs.below hb17
          replace ht := ht.below hb17
          replace hu := hu.below hb17
          replace hn81 := hn81.below hb17
          replace hn82 := hn82.below hb17
          replace hbw := below_next hb17 hbw
          clear hb17
          clear hn81 hn82
          clear hs ht hu
          go_wp2
          go_ret
          exact ⟨rfl, hbw⟩
    · skip
      have Htu := Lib.hid htu
      clear htu
      rcases hst : Bs.win s t with _ | _
      · skip
        have Hst := Lib.hid hst
        clear hst
        go_enter Tryd.func5, Tryd.ntmps5
        have hbw : Below w.heap.size w w := Below.refl _ _
        go_wp2_with fail
        refine (alive1_any _ hT).mono ?_
        rintro e w1 ⟨rfl, hb1⟩
        replace hs := hs.below hb1
        replace ht := ht.below hb1
        replace hu := hu.below hb1
        replace hT := hT.step hb1
        replace hbw := below_next hb1 hbw
        clear hb1
        clear hT
        go_wp2_with fail
        refine (within_any _ _ _ _ _ hu hs (Nat.le_trans bu (by decide)) (Nat.le_trans bs (by decide)) true Hus.out).mono ?_
        rintro e w2 ⟨rfl, hb2⟩
        replace hs := hs.below hb2
        replace ht := ht.below hb2
        replace hu := hu.below hb2
        replace hbw := below_next hb2 hbw
        clear hb2
        go_wp2_with fail
        refine (within_any _ _ _ _ _ hu ht (Nat.le_trans bu (by decide)) (Nat.le_trans bt (by decide)) false Hut.out).mono ?_
        rintro e w3 ⟨rfl, hb3⟩
        replace hs := hs.below hb3
        replace ht := ht.below hb3
        replace hu := hu.below hb3
        replace hbw := below_next hb3 hbw
        clear hb3
        go_wp2_with fail
        refine (within_any _ _ _ _ _ hs hu (Nat.le_trans bs (by decide)) (Nat.le_trans bu (by decide)) true Hsu.out).mono ?_
        rintro e w4 ⟨rfl, hb4⟩
        replace hs := hs.below hb4
        replace ht := ht.below hb4
        replace hu := hu.below hb4
        replace hbw := below_next hb4 hbw
        clear hb4
        go_wp2_with fail
        refine (within_any _ _ _ _ _ ht hu (Nat.le_trans bt (by decide)) (Nat.le_trans bu (by decide)) true Htu.out).mono ?_
        rintro e w5 ⟨rfl, hb5⟩
        replace hs := hs.below hb5
        replace ht := ht.below hb5
        replace hu := hu.below hb5
        replace hbw := below_next hb5 hbw
        clear hb5
        go_wp2_with fail
        refine (within_any _ _ _ _ _ hs hs (Nat.le_trans bs (by decide)) (Nat.le_trans bs (by decide)) true (Bs.win1 ws)).mono ?_
        rintro e w6 ⟨rfl, hb6⟩
        replace hs := hs.below hb6
        replace ht := ht.below hb6
        replace hu := hu.below hb6
        replace hbw := below_next hb6 hbw
        clear hb6
        go_wp2_with fail
        refine (and_any _ _ _ _ _ hs ht (Nat.le_trans bs (by decide)) (Nat.le_trans bt (by decide))).mono ?_
        rintro e w7 ⟨u7, rfl, ha83, hb7⟩
        obtain ⟨U7, c7, rfl⟩ := slU_form ha83
        replace hs := hs.below hb7
        replace ht := ht.below hb7
        replace hu := hu.below hb7
        replace hbw := below_next hb7 hbw
        clear hb7
        go_wp2_with fail
        refine (within_any _ _ _ _ _ hu ha83 (Nat.le_trans bu (by decide)) (Nat.le_trans (Bs.op_le bs bt) (by decide)) false ((Bs.win2 ws wt wu).trans (by rw [Hus.out, Hut.out]; rfl))).mono ?_
        rintro e w8 ⟨rfl, hb8⟩
        replace hs := hs.below hb8
        replace ht := ht.below hb8
        replace hu := hu.below hb8
        replace ha83 := ha83.below hb8
        replace hbw := below_next hb8 hbw
        clear hb8
        clear ha83
        go_wp2_with fail
        refine (or_any _ _ _ _ _ hs ht (Nat.le_trans bs (by decide)) (Nat.le_trans bt (by decide))).mono ?_
        rintro e w9 ⟨u9, rfl, ho84, hb9⟩
        obtain ⟨U9, c9, rfl⟩ := slU_form ho84
        replace hs := hs.below hb9
        replace ht := ht.below hb9
        replace hu := hu.below hb9
        replace hbw := below_next hb9 hbw
        clear hb9
        go_wp2_with fail
        refine (within_any _ _ _ _ _ ho84 hu (Nat.le_trans (Bs.op_le bs bt) (by decide)) (Nat.le_trans bu (by decide)) true ((Bs.win3 ws wt wu).trans (by rw [Hsu.out, Htu.out]; rfl))).mono ?_
        rintro e w10 ⟨rfl, hb10⟩
        replace hs := hs.below hb10
        replace ht := ht.below hb10
        replace hu := hu.below hb10
        replace ho84 := ho84.below hb10
        replace hbw := below_next hb10 hbw
        clear hb10
        clear ho84
        go_wp2_with fail
        refine (within_any _ _ _ _ _ hs ht (Nat.le_trans bs (by decide)) (Nat.le_trans bt (by decide)) false Hst.out).mono ?_
        rintro e w11 ⟨rfl, hb11⟩
        replace hs := hs.below hb11
        replace ht := ht.below hb11
        replace hu := hu.below hb11
        replace hbw := below_next hb11 hbw
        clear hb11
        go_wp2_with fail
        refine (within_any _ _ _ _ _ hs ht (Nat.le_trans bs (by decide)) (Nat.le_trans bt (by decide)) false Hst.out).mono ?_
        rintro e w12 ⟨rfl, hb12⟩
        replace hs := hs.below hb12
        replace ht := ht.below hb12
        replace hu := hu.below hb12
        replace hbw := below_next hb12 hbw
        clear hb12
        go_wp2_with fail
        refine (or_any _ _ _ _ _ hs (SlU.nil _) (Nat.le_trans bs (by decide)) (by decide)).mono ?_
        rintro e w13 ⟨u13, rfl, hn85, hb13⟩
        obtain ⟨U13, c13, rfl⟩ := slU_form hn85
        replace hs := hs.below hb13
        replace ht := ht.below hb13
        replace hu := hu.below hb13
        replace hbw := below_next hb13 hbw
        clear hb13
        go_wp2_with fail
        refine (or_any _ _ _ _ _ ht (SlU.nil _) (Nat.le_trans bt (by decide)) (by decide)).mono ?_
        rintro e w14 ⟨u14, rfl, hn86, hb14⟩
        obtain ⟨U14, c14, rfl⟩ := slU_form hn86
        replace hs := hs.below hb14
        replace ht := ht.below hb14
        replace hu := hu.below hb14
        replace hn85 := hn85.below hb14
        replace hbw := below_next hb14 hbw
        clear hb14
        go_wp2_with fail
        refine (equal_u64_call _ _ _ _ false (by rw [← Bs.win5 ws wt, Hst.out]; rfl) _ hn85 hn86).mono ?_
        rintro e w15 ⟨rfl, hb15⟩
        replace hs := hs.below hb15
        replace ht := ht.below hb15
        replace hu := hu.below hb15
        replace hn85 := hn85.below hb15
        replace hn86 := hn86.below hb15
        replace hbw := below_next hb15 hbw
        clear hb15
        clear hn85 hn86
        clear hs ht hu
        go_wp2
        go_ret
        exact ⟨rfl, hbw⟩
      · skip
        have Hst := Lib.hid hst
        clear hst
        rcases hts : Bs.win t s with _ | _
        · skip
          have Hts := Lib.hid hts
          clear hts
          go_enter Tryd.func5, Tryd.ntmps5
          have hbw : Below w.heap.size w w := Below.refl _ _
          go_wp2_with fail
          refine (alive1_any _ hT).mono ?_
          rintro e w1 ⟨rfl, hb1⟩
          replace hs := hs.below hb1
          replace ht := ht.below hb1
          replace hu := hu.below hb1
          replace hT := hT.step hb1
          replace hbw := below_next hb1 hbw
          clear hb1
          clear hT
          go_wp2_with fail
          refine (within_any _ _ _ _ _ hu hs (Nat.le_trans bu (by decide)) (Nat.le_trans bs (by decide)) true Hus.out).mono ?_
          rintro e w2 ⟨rfl, hb2⟩
          replace hs := hs.below hb2
          replace ht := ht.below hb2
          replace hu := hu.below hb2
          replace hbw := below_next hb2 hbw
          clear hb2
          go_wp2_with fail
          refine (within_any _ _ _ _ _ hu ht (Nat.le_trans bu (by decide)) (Nat.le_trans bt (by decide)) false Hut.out).mono ?_
          rintro e w3 ⟨rfl, hb3⟩
          replace hs := hs.below hb3
          replace ht := ht.below hb3
          replace hu := hu.below hb3
          replace hbw := below_next hb3 hbw
          clear hb3
          go_wp2_with fail
          refine (within_any _ _ _ _ _ hs hu (Nat.le_trans bs (by decide)) (Nat.le_trans bu (by decide)) true Hsu.out).mono ?_
          rintro e w4 ⟨rfl, hb4⟩
          replace hs := hs.below hb4
          replace ht := ht.below hb4
          replace hu := hu.below hb4
          replace hbw := below_next hb4 hbw
          clear hb4
          go_wp2_with fail
          refine (within_any _ _ _ _ _ ht hu (Nat.le_trans bt (by decide)) (Nat.le_trans bu (by decide)) true Htu.out).mono ?_
          rintro e w5 ⟨rfl, hb5⟩
          replace hs := hs.below hb5
          replace ht := ht.below hb5
          replace hu := hu.below hb5
          replace hbw := below_next hb5 hbw
          clear hb5
          go_wp2_with fail
          refine (within_any _ _ _ _ _ hs hs (Nat.le_trans bs (by decide)) (Nat.le_trans bs (by decide)) true (Bs.win1 ws)).mono ?_
          rintro e w6 ⟨rfl, hb6⟩
          replace hs := hs.below hb6
          replace ht := ht.below hb6
          replace hu := hu.below hb6
          replace hbw := below_next hb6 hbw
          clear hb6
          go_wp2_with fail
          refine (and_any _ _ _ _ _ hs ht (Nat.le_trans bs (by decide)) (Nat.le_trans bt (by decide))).mono ?_
          rintro e w7 ⟨u7, rfl, ha87, hb7⟩
          obtain ⟨U7, c7, rfl⟩ := slU_form ha87
          replace hs := hs.below hb7
          replace ht := ht.below hb7
          replace hu := hu.below hb7
          replace hbw := below_next hb7 hbw
          clear hb7
          go_wp2_with fail
          refine (within_any _ _ _ _ _ hu ha87 (Nat.le_trans bu (by decide)) (Nat.le_trans (Bs.op_le bs bt) (by decide)) false ((Bs.win2 ws wt wu).trans (by rw [Hus.out, Hut.out]; rfl))).mono ?_
          rintro e w8 ⟨rfl, hb8⟩
          replace hs := hs.below hb8
          replace ht := ht.below hb8
          replace hu := hu.below hb8
          replace ha87 := ha87.below hb8
          replace hbw := below_next hb8 hbw
          clear hb8
          clear ha87
          go_wp2_with fail
          refine (or_any _ _ _ _ _ hs ht (Nat.le_trans bs (by decide)) (Nat.le_trans bt (by decide))).mono ?_
          rintro e w9 ⟨u9, rfl, ho88, hb9⟩
          obtain ⟨U9, c9, rfl⟩ := slU_form ho88
          replace hs := hs.below hb9
          replace ht := ht.below hb9
          replace hu := hu.below hb9
          replace hbw := below_next hb9 hbw
          clear hb9
          go_wp2_with fail
          refine (within_any _ _ _ _ _ ho88 hu (Nat.le_trans (Bs.op_le bs bt) (by decide)) (Nat.le_trans bu (by decide)) true ((Bs.win3 ws wt wu).trans (by rw [Hsu.out, Htu.out]; rfl))).mono ?_
          rintro e w10 ⟨rfl, hb10⟩
          replace hs := hs.below hb10
          replace ht := ht.below hb10
          replace hu := hu.below hb10
          replace ho88 := ho88.below hb10
          replace hbw := below_next hb10 hbw
          clear hb10
          clear ho88
          go_wp2_with fail
          refine (within_any _ _ _ _ _ hs ht (Nat.le_trans bs (by decide)) (Nat.le_trans bt (by decide)) true Hst.out).mono ?_
          rintro e w11 ⟨rfl, hb11⟩
          replace hs := hs.below hb11
          replace ht := ht.below hb11
          replace hu := hu.below hb11
          replace hbw := below_next hb11 hbw
          clear hb11
          go_wp2_with fail
          refine (within_any _ _ _ _ _ ht hu (Nat.le_trans bt (by decide)) (Nat.le_trans bu (by decide)) true Htu.out).mono ?_
          rintro e w12 ⟨rfl, hb12⟩
          replace hs := hs.below hb12
          replace ht := ht.below hb12
          replace hu := hu.below hb12
          replace hbw := below_next hb12 hbw
          clear hb12
          go_wp2_with fail
          refine (within_any _ _ _ _ _ hs hu (Nat.le_trans bs (by decide)) (Nat.le_trans bu (by decide)) true Hsu.out).mono ?_
          rintro e w13 ⟨rfl, hb13⟩
          replace hs := hs.below hb13
          replace ht := ht.below hb13
          replace hu := hu.below hb13
          replace hbw := below_next hb13 hbw
          clear hb13
          go_wp2_with fail
          refine (within_any _ _ _ _ _ hs ht (Nat.le_trans bs (by decide)) (Nat.le_trans bt (by decide)) true Hst.out).mono ?_
          rintro e w14 ⟨rfl, hb14⟩
          replace hs := hs.below hb14
          replace ht := ht.below hb14
          replace hu := hu.below hb14
          replace hbw := below_next hb14 hbw
          clear hb14
          go_wp2_with fail
          refine (within_any _ _ _ _ _ ht hs (Nat.le_trans bt (by decide)) (Nat.le_trans bs (by decide)) false Hts.out).mono ?_
          rintro e w15 ⟨rfl, hb15⟩
          replace hs := hs.below hb15
          replace ht := ht.below hb15
          replace hu := hu.below hb15
          replace hbw := below_next hb15 hbw
          clear hb15
          go_wp2_with fail
          refine (or_any _ _ _ _ _ hs (SlU.nil _) (Nat.le_trans bs (by decide)) (by decide)).mono ?_
          rintro e w16 ⟨u16, rfl, hn89, hb16⟩
          obtain ⟨U16, c16, rfl⟩ := slU_form hn89
          replace hs := hs.below hb16
          replace ht := ht.below hb16
          replace hu := hu.below hb16
          replace hbw := below_next hb16 hbw
          clear hb16
          go_wp2_with fail
          refine (or_any _ _ _ _ _ ht (SlU.nil _) (Nat.le_trans bt (by decide)) (by decide)).mono ?_
          rintro e w17 ⟨u17, rfl, hn90, hb17⟩
          obtain ⟨U17, c17, rfl⟩ := slU_form hn90
          replace hs := hs.below hb17
          replace ht := ht.below hb17
          replace hu := hu.below hb17
          replace hn89 := hn89.below hb17
          replace hbw := below_next hb17 hbw
          clear hb17
          go_wp2_with fail
          refine (equal_u64_call _ _ _ _ false (by rw [← Bs.win5 ws wt, Hst.out, Hts.out]; rfl) _ hn89 hn90).mono ?_
          rintro e w18 ⟨rfl, hb18⟩
          replace hs := hs.below hb18
          replace ht := ht.below hb18
          replace hu := hu.below hb18
          replace hn89 := hn89.below hb18
          replace hn90 := hn90.below hb18
          replace hbw := below_next hb18 hbw
          clear hb18
          clear hn89 hn90
          clear hs ht hu
          go_wp2
          go_ret
          exact ⟨rfl, hbw⟩
        · skip
          have Hts := Lib.hid hts
          clear hts
          go_enter Tryd.func5, Tryd.ntmps5
          have hbw : Below w.heap.size w w := Below.refl _ _
          go_wp2_with fail
          refine (alive1_any _ hT).mono ?_
          rintro e w1 ⟨rfl, hb1⟩
          replace hs := hs.below hb1
          replace ht := ht.below hb1
          replace hu := hu.below hb1
          replace hT := hT.step hb1
          replace hbw := below_next hb1 hbw
          clear hb1
          clear hT
          go_wp2_with fail
          refine (within_any _ _ _ _ _ hu hs (Nat.le_trans bu (by decide)) (Nat.le_trans bs (by decide)) true Hus.out).mono ?_
          rintro e w2 ⟨rfl, hb2⟩
          replace hs := hs.below hb2
          replace ht := ht.below hb2
          replace hu := hu.below hb2
          replace hbw := below_next hb2 hbw
          clear hb2
          go_wp2_with fail
          refine (within_any _ _ _ _ _ hu ht (Nat.le_trans bu (by decide)) (Nat.le_trans bt (by decide)) false Hut.out).mono ?_
          rintro e w3 ⟨rfl, hb3⟩
          replace hs := hs.below hb3
          replace ht := ht.below hb3
          replace hu := hu.below hb3
          replace hbw := below_next hb3 hbw
          clear hb3
          go_wp2_with fail
          refine (within_any _ _ _ _ _ hs hu (Nat.le_trans bs (by decide)) (Nat.le_trans bu (by decide)) true Hsu.out).mono ?_
          rintro e w4 ⟨rfl, hb4⟩
          replace hs := hs.below hb4
          replace ht := ht.below hb4
          replace hu := hu.below hb4
          replace hbw := below_next hb4 hbw
          clear hb4
          go_wp2_with fail
          refine (within_any _ _ _ _ _ ht hu (Nat.le_trans bt (by decide)) (Nat.le_trans bu (by decide)) true Htu.out).mono ?_
          rintro e w5 ⟨rfl, hb5⟩
          replace hs := hs.below hb5
          replace ht := ht.below hb5
          replace hu := hu.below hb5
          replace hbw := below_next hb5 hbw
          clear hb5
          go_wp2_with fail
          refine (within_any _ _ _ _ _ hs hs (Nat.le_trans bs (by decide)) (Nat.le_trans bs (by decide)) true (Bs.win1 ws)).mono ?_
          rintro e w6 ⟨rfl, hb6⟩
          replace hs := hs.below hb6
          replace ht := ht.below hb6
          replace hu := hu.below hb6
          replace hbw := below_next hb6 hbw
          clear hb6
          go_wp2_with fail
          refine (and_any _ _ _ _ _ hs ht (Nat.le_trans bs (by decide)) (Nat.le_trans bt (by decide))).mono ?_
          rintro e w7 ⟨u7, rfl, ha91, hb7⟩
          obtain ⟨U7, c7, rfl⟩ := slU_form ha91
          replace hs := hs.below hb7
          replace ht := ht.below hb7
          replace hu := hu.below hb7
          replace hbw := below_next hb7 hbw
          clear hb7
          go_wp2_with fail
          refine (within_any _ _ _ _ _ hu ha91 (Nat.le_trans bu (by decide)) (Nat.le_trans (Bs.op_le bs bt) (by decide)) false ((Bs.win2 ws wt wu).trans (by rw [Hus.out, Hut.out]; rfl))).mono ?_
          rintro e w8 ⟨rfl, hb8⟩
          replace hs := hs.below hb8
          replace ht := ht.below hb8
          replace hu := hu.below hb8
          replace ha91 := ha91.below hb8
          replace hbw := below_next hb8 hbw
          clear hb8
          clear ha91
          go_wp2_with fail
          refine (or_any _ _ _ _ _ hs ht (Nat.le_trans bs (by decide)) (Nat.le_trans bt (by decide))).mono ?_
          rintro e w9 ⟨u9, rfl, ho92, hb9⟩
          obtain ⟨U9, c9, rfl⟩ := slU_form ho92
          replace hs := hs.below hb9
          replace ht := ht.below hb9
          replace hu := hu.below hb9
          replace hbw := below_next hb9 hbw
          clear hb9
          go_wp2_with fail
          refine (within_any _ _ _ _ _ ho92 hu (Nat.le_trans (Bs.op_le bs bt) (by decide)) (Nat.le_trans bu (by decide)) true ((Bs.win3 ws wt wu).trans (by rw [Hsu.out, Htu.out]; rfl))).mono ?_
          rintro e w10 ⟨rfl, hb10⟩
          replace hs := hs.below hb10
          replace ht := ht.below hb10
          replace hu := hu.below hb10
          replace ho92 := ho92.below hb10
          replace hbw := below_next hb10 hbw
          clear hb10
          clear ho92
          go_wp2_with fail
          refine (within_any _ _ _ _ _ hs ht (Nat.le_trans bs (by decide)) (Nat.le_trans bt (by decide)) true Hst.out).mono ?_
          rintro e w11 ⟨rfl, hb11⟩
          replace hs := hs.below hb11
          replace ht := ht.below hb11
          replace hu := hu.below hb11
          replace hbw := below_next hb11 hbw
          clear hb11
          go_wp2_with fail
          refine (within_any _ _ _ _ _ ht hu (Nat.le_trans bt (by decide)) (Nat.le_trans bu (by decide)) true Htu.out).mono ?_
          rintro e w12 ⟨rfl, hb12⟩
          replace hs := hs.below hb12
          replace ht := ht.below hb12
          replace hu := hu.below hb12
          replace hbw := below_next hb12 hbw
          clear hb12
          go_wp2_with fail
          refine (within_any _ _ _ _ _ hs hu (Nat.le_trans bs (by decide)) (Nat.le_trans bu (by decide)) true Hsu.out).mono ?_
          rintro e w13 ⟨rfl, hb13⟩
          replace hs := hs.below hb13
          replace ht := ht.below hb13
          replace hu := hu.below hb13
          replace hbw := below_next hb13 hbw
          clear hb13
          go_wp2_with fail
          refine (within_any _ _ _ _ _ hs ht (Nat.le_trans bs (by decide)) (Nat.le_trans bt (by decide)) true Hst.out).mono ?_
          rintro e w14 ⟨rfl, hb14⟩
          replace hs := hs.below hb14
          replace ht := ht.below hb14
          replace hu := hu.below hb14
          replace hbw := below_next hb14 hbw
          clear hb14
          go_wp2_with fail
          refine (within_any _ _ _ _ _ ht hs (Nat.le_trans bt (by decide)) (Nat.le_trans bs (by decide)) true Hts.out).mono ?_
          rintro e w15 ⟨rfl, hb15⟩
          replace hs := hs.below hb15
          replace ht := ht.below hb15
          replace hu := hu.below hb15
          replace hbw := below_next hb15 hbw
          clear hb15
          go_wp2_with fail
          refine (or_any _ _ _ _ _ hs (SlU.nil _) (Nat.le_trans bs (by decide)) (by decide)).mono ?_
          rintro e w16 ⟨u16, rfl, hn93, hb16⟩
          obtain ⟨U16, c16, rfl⟩ := slU_form hn93
          replace hs := hs.below hb16
          replace ht := ht.below hb16
          replace hu := hu.below hb16
          replace hbw := below_next hb16 hbw
          clear hb16
          go_wp2_with fail
          refine (or_any _ _ _ _ _ ht (SlU.nil _) (Nat.le_trans bt (by decide)) (by decide)).mono ?_
          rintro e w17 ⟨u17, rfl, hn94, hb17⟩
          obtain ⟨U17, c17, rfl⟩ := slU_form hn94
          replace hs := hs.below hb17
          replace ht := ht.below hb17
          replace hu := hu.below hb17
          replace hn93 := hn93.below hb17
          replace hbw := below_next hb17 hbw
          clear hb17
          go_wp2_with fail
          refine (equal_u64_call _ _ _ _ true (by rw [← Bs.win5 ws wt, Hst.out, Hts.out]; rfl) _ hn93 hn94).mono ?_
          rintro e w18 ⟨rfl, hb18⟩
          replace hs := hs.below hb18
          replace ht := ht.below hb18
          replace hu := hu.below hb18
          replace hn93 := hn93.below hb18
          replace hn94 := hn94.below hb18
          replace hbw := below_next hb18 hbw
          clear hb18
          clear hn93 hn94
          clear hs ht hu
          go_wp2
          go_ret
          exact ⟨rfl, hbw⟩

set_option maxHeartbeats 32000000 in
theorem within3_walk (w : World) (v0 v1 v2 : Value) (s t u : List Nat) (hT : Tab w) (hs : SlU w v0 s) (ht : SlU w v1 t) (hu : SlU w v2 u) (bs : s.length ≤ 17592186044) (bt : t.length ≤ 17592186044) (bu : u.length ≤ 17592186044) (Hus : Hid (Bs.win u s = true)) (Hut : Hid (Bs.win u t = true)) :
    Calls Tryd.prog 5 #[v0, v1, v2] w fun e w' => e = .returned (.bool true) ∧ Below w.heap.size w w' := by
  have ws := hs.2
  obtain ⟨A0, k0, rfl⟩ := slU_form hs
  have wt := ht.2
  obtain ⟨A1, k1, rfl⟩ := slU_form ht
  have wu := hu.2
  obtain ⟨A2, k2, rfl⟩ := slU_form hu
  rcases hsu : Bs.win s u with _ | _
  · skip
    have Hsu := Lib.hid hsu
    clear hsu
    rcases hst : Bs.win s t with _ | _
    · skip
      have Hst := Lib.hid hst
      clear hst
      go_enter Tryd.func5, Tryd.ntmps5
      have hbw : Below w.heap.size w w := Below.refl _ _
      go_wp2_with fail
      refine (alive1_any _ hT).mono ?_
      rintro e w1 ⟨rfl, hb1⟩
      replace hs := hs.below hb1
      replace ht := ht.below hb1
      replace hu := hu.below hb1
      replace hT := hT.step hb1
      replace hbw := below_next hb1 hbw
      clear hb1
      clear hT
      go_wp2_with fail
      refine (within_any _ _ _ _ _ hu hs (Nat.le_trans bu (by decide)) (Nat.le_trans bs (by decide)) true Hus.out).mono ?_
      rintro e w2 ⟨rfl, hb2⟩
      replace hs := hs.below hb2
      replace ht := ht.below hb2
      replace hu := hu.below hb2
      replace hbw := below_next hb2 hbw
      clear hb2
      go_wp2_with fail
      refine (within_any _ _ _ _ _ hu ht (Nat.le_trans bu (by decide)) (Nat.le_trans bt (by decide)) true Hut.out).mono ?_
      rintro e w3 ⟨rfl, hb3⟩
      replace hs := hs.below hb3
      replace ht := ht.below hb3
      replace hu := hu.below hb3
      replace hbw := below_next hb3 hbw
      clear hb3
      go_wp2_with fail
      refine (within_any _ _ _ _ _ hs hu (Nat.le_trans bs (by decide)) (Nat.le_trans bu (by decide)) false Hsu.out).mono ?_
      rintro e w4 ⟨rfl, hb4⟩
      replace hs := hs.below hb4
      replace ht := ht.below hb4
      replace hu := hu.below hb4
      replace hbw := below_next hb4 hbw
      clear hb4
      go_wp2_with fail
      refine (within_any _ _ _ _ _ hs hs (Nat.le_trans bs (by decide)) (Nat.le_trans bs (by decide)) true (Bs.win1 ws)).mono ?_
      rintro e w5 ⟨rfl, hb5⟩
      replace hs := hs.below hb5
      replace ht := ht.below hb5
      replace hu := hu.below hb5
      replace hbw := below_next hb5 hbw
      clear hb5
      go_wp2_with fail
      refine (and_any _ _ _ _ _ hs ht (Nat.le_trans bs (by decide)) (Nat.le_trans bt (by decide))).mono ?_
      rintro e w6 ⟨u6, rfl, ha95, hb6⟩
      obtain ⟨U6, c6, rfl⟩ := slU_form ha95
      replace hs := hs.below hb6
      replace ht := ht.below hb6
      replace hu := hu.below hb6
      replace hbw := below_next hb6 hbw
      clear hb6
      go_wp2_with fail
      refine (within_any _ _ _ _ _ hu ha95 (Nat.le_trans bu (by decide)) (Nat.le_trans (Bs.op_le bs bt) (by decide)) true ((Bs.win2 ws wt wu).trans (by rw [Hus.out, Hut.out]; rfl))).mono ?_
      rintro e w7 ⟨rfl, hb7⟩
      replace hs := hs.below hb7
      replace ht := ht.below hb7
      replace hu := hu.below hb7
      replace ha95 := ha95.below hb7
      replace hbw := below_next hb7 hbw
      clear hb7
      clear ha95
      go_wp2_with fail
      refine (or_any _ _ _ _ _ hs ht (Nat.le_trans bs (by decide)) (Nat.le_trans bt (by decide))).mono ?_
      rintro e w8 ⟨u8, rfl, ho96, hb8⟩
      obtain ⟨U8, c8, rfl⟩ := slU_form ho96
      replace hs := hs.below hb8
      replace ht := ht.below hb8
      replace hu := hu.below hb8
      replace hbw := below_next hb8 hbw
      clear hb8
      go_wp2_with fail
      refine (within_any _ _ _ _ _ ho96 hu (Nat.le_trans (Bs.op_le bs bt) (by decide)) (Nat.le_trans bu (by decide)) false ((Bs.win3 ws wt wu).trans (by rw [Hsu.out]; rfl))).mono ?_
      rintro e w9 ⟨rfl, hb9⟩
      replace hs := hs.below hb9
      replace ht := ht.below hb9
      replace hu := hu.below hb9
      replace ho96 := ho96.below hb9
      replace hbw := below_next hb9 hbw
      clear hb9
      clear ho96
      go_wp2_with fail
      refine (within_any _ _ _ _ _ hs ht (Nat.le_trans bs (by decide)) (Nat.le_trans bt (by decide)) false Hst.out).mono ?_
      rintro e w10 ⟨rfl, hb10⟩
      replace hs := hs.below hb10
      replace ht := ht.below hb10
      replace hu := hu.below hb10
      replace hbw := below_next hb10 hbw
      clear hb10
      go_wp2_with fail
      refine (within_any _ _ _ _ _ hs ht (Nat.le_trans bs (by decide)) (Nat.le_trans bt (by decide)) false Hst.out).mono ?_
      rintro e w11 ⟨rfl, hb11⟩
      replace hs := hs.below hb11
      replace ht := ht.below hb11
      replace hu := hu.below hb11
      replace hbw := below_next hb11 hbw
      clear hb11
      go_wp2_with fail
      refine (or_any _ _ _ _ _ hs (SlU.nil _) (Nat.le_trans bs (by decide)) (by decide)).mono ?_
      rintro e w12 ⟨u12, rfl, hn97, hb12⟩
      obtain ⟨U12, c12, rfl⟩ := slU_form hn97
      replace hs := hs.below hb12
      replace ht := ht.below hb12
      replace hu := hu.below hb12
      replace hbw := below_next hb12 hbw
      clear hb12
      go_wp2_with fail
      refine (or_any _ _ _ _ _ ht (SlU.nil _) (Nat.le_trans bt (by decide)) (by decide)).mono ?_
      rintro e w13 ⟨u13, rfl, hn98, hb13⟩
      obtain ⟨U13, c13, rfl⟩ := slU_form hn98
      replace hs := hs.below hb13
      replace ht := ht.below hb13
      replace hu := hu.below hb13
      replace hn97 := hn97.below hb13
      replace hbw := below_next hb13 hbw
      clear hb13
      go_wp2_with fail
      refine (equal_u64_call _ _ _ _ false (by rw [← Bs.win5 ws wt, Hst.out]; rfl) _ hn97 hn98).mono ?_
      rintro e w14 ⟨rfl, hb14⟩
      replace hs := hs.below hb14
      replace ht := ht.below hb14
      replace hu := hu.below hb14
      replace hn97 := hn97.below hb14
      replace hn98 := hn98.below hb14
      replace hbw := below_next hb14 hbw
      clear hb14
      clear hn97 hn98
      clear hs ht hu
      go_wp2
      go_ret
      exact ⟨rfl, hbw⟩
    · have htu : Bs.win t u = false := by
        rw [Bool.eq_false_iff]
        intro h
        have := Bs.win4 ws wt wu hst h
        rw [Hsu.out] at this
        cases this
      have Hst := Lib.hid hst
      clear hst
      have Htu := Lib.hid htu
      clear htu
      rcases hts : Bs.win t s with _ | _
      · skip
        have Hts := Lib.hid hts
        clear hts
        go_enter Tryd.func5, Tryd.ntmps5
        have hbw : Below w.heap.size w w := Below.refl _ _
        go_wp2_with fail
        refine (alive1_any _ hT).mono ?_
        rintro e w1 ⟨rfl, hb1⟩
        replace hs := hs.below hb1
        replace ht := ht.below hb1
        replace hu := hu.below hb1
        replace hT := hT.step hb1
        replace hbw := below_next hb1 hbw
        clear hb1
        clear hT
        go_wp2_with fail
        refine (within_any _ _ _ _ _ hu hs (Nat.le_trans bu (by decide)) (Nat.le_trans bs (by decide)) true Hus.out).mono ?_
        rintro e w2 ⟨rfl, hb2⟩
        replace hs := hs.below hb2
        replace ht := ht.below hb2
        replace hu := hu.below hb2
        replace hbw := below_next hb2 hbw
        clear hb2
        go_wp2_with fail
        refine (within_any _ _ _ _ _ hu ht (Nat.le_trans bu (by decide)) (Nat.le_trans bt (by decide)) true Hut.out).mono ?_
        rintro e w3 ⟨rfl, hb3⟩
        replace hs := hs.below hb3
        replace ht := ht.below hb3
        replace hu := hu.below hb3
        replace hbw := below_next hb3 hbw
        clear hb3
        go_wp2_with fail
        refine (within_any _ _ _ _ _ hs hu (Nat.le_trans bs (by decide)) (Nat.le_trans bu (by decide)) false Hsu.out).mono ?_
        rintro e w4 ⟨rfl, hb4⟩
        replace hs := hs.below hb4
        replace ht := ht.below hb4
        replace hu := hu.below hb4
        replace hbw := below_next hb4 hbw
        clear hb4
        go_wp2_with fail
        refine (within_any _ _ _ _ _ hs hs (Nat.le_trans bs (by decide)) (Nat.le_trans bs (by decide)) true (Bs.win1 ws)).mono ?_
        rintro e w5 ⟨rfl, hb5⟩
        replace hs := hs.below hb5
        replace ht := ht.below hb5
        replace hu := hu.below hb5
        replace hbw := below_next hb5 hbw
        clear hb5
        go_wp2_with fail
        refine (and_any _ _ _ _ _ hs ht (Nat.le_trans bs (by decide)) (Nat.le_trans bt (by decide))).mono ?_
        rintro e w6 ⟨u6, rfl, ha99, hb6⟩
        obtain ⟨U6, c6, rfl⟩ := slU_form ha99
        replace hs := hs.below hb6
        replace ht := ht.below hb6
        replace hu := hu.below hb6
        replace hbw := below_next hb6 hbw
        clear hb6
        go_wp2_with fail
        refine (within_any _ _ _ _ _ hu ha99 (Nat.le_trans bu (by decide)) (Nat.le_trans (Bs.op_le bs bt) (by decide)) true ((Bs.win2 ws wt wu).trans (by rw [Hus.out, Hut.out]; rfl))).mono ?_
        rintro e w7 ⟨rfl, hb7⟩
        replace hs := hs.below hb7
        replace ht := ht.below hb7
        replace hu := hu.below hb7
        replace ha99 := ha99.below hb7
        replace hbw := below_next hb7 hbw
        clear hb7
        clear ha99
        go_wp2_with fail
        refine (or_any _ _ _ _ _ hs ht (Nat.le_trans bs (by decide)) (Nat.le_trans bt (by decide))).mono ?_
        rintro e w8 ⟨u8, rfl, ho100, hb8⟩
        obtain ⟨U8, c8, rfl⟩ := slU_form ho100
        replace hs := hs.below hb8
        replace ht := ht.below hb8
        replace hu := hu.below hb8
        replace hbw := below_next hb8 hbw
        clear hb8
        go_wp2_with fail
        refine (within_any _ _ _ _ _ ho100 hu (Nat.le_trans (Bs.op_le bs bt) (by decide)) (Nat.le_trans bu (by decide)) false ((Bs.win3 ws wt wu).trans (by rw [Hsu.out]; rfl))).mono ?_
        rintro e w9 ⟨rfl, hb9⟩
        replace hs := hs.below hb9
        replace ht := ht.below hb9
        replace hu := hu.below hb9
        replace ho100 := ho100.below hb9
        replace hbw := below_next hb9 hbw
        clear hb9
        clear ho100
        go_wp2_with fail
        refine (within_any _ _ _ _ _ hs ht (Nat.le_trans bs (by decide)) (Nat.le_trans bt (by decide)) true Hst.out).mono ?_
        rintro e w10 ⟨rfl, hb10⟩
        replace hs := hs.below hb10
        replace ht := ht.below hb10
        replace hu := hu.below hb10
        replace hbw := below_next hb10 hbw
        clear hb10
        go_wp2_with fail
        refine (within_any _ _ _ _ _ ht hu (Nat.le_trans bt (by decide)) (Nat.le_trans bu (by decide)) false Htu.out).mono ?_
        rintro e w11 ⟨rfl, hb11⟩
        replace hs := hs.below hb11
        replace ht := ht.below hb11
        replace hu := hu.below hb11
        replace hbw := below_next hb11 hbw
        clear hb11
        go_wp2_with fail
        refine (within_any _ _ _ _ _ hs ht (Nat.le_trans bs (by decide)) (Nat.le_trans bt (by decide)) true Hst.out).mono ?_
        rintro e w12 ⟨rfl, hb12⟩
        replace hs := hs.below hb12
        replace ht := ht.below hb12
        replace hu := hu.below hb12
        replace hbw := below_next hb12 hbw
        clear hb12
        go_wp2_with fail
        refine (within_any _ _ _ _ _ ht hs (Nat.le_trans bt (by decide)) (Nat.le_trans bs (by decide)) false Hts.out).mono ?_
        rintro e w13 ⟨rfl, hb13⟩
        replace hs := hs.below hb13
        replace ht := ht.below hb13
        replace hu := hu.below hb13
        replace hbw := below_next hb13 hbw
        clear hb13
        go_wp2_with fail
        refine (or_any _ _ _ _ _ hs (SlU.nil _) (Nat.le_trans bs (by decide)) (by decide)).mono ?_
        rintro e w14 ⟨u14, rfl, hn101, hb14⟩
        obtain ⟨U14, c14, rfl⟩ := slU_form hn101
        replace hs := hs.below hb14
        replace ht := ht.below hb14
        replace hu := hu.below hb14
        replace hbw := below_next hb14 hbw
        clear hb14
        go_wp2_with fail
        refine (or_any _ _ _ _ _ ht (SlU.nil _) (Nat.le_trans bt (by decide)) (by decide)).mono ?_
        rintro e w15 ⟨u15, rfl, hn102, hb15⟩
        obtain ⟨U15, c15, rfl⟩ := slU_form hn102
        replace hs := hs.below hb15
        replace ht := ht.below hb15
        replace hu := hu.below hb15
        replace hn101 := hn101.below hb15
        replace hbw := below_next hb15 hbw
        clear hb15
        go_wp2_with fail
        refine (equal_u64_call _ _ _ _ false (by rw [← Bs.win5 ws wt, Hst.out, Hts.out]; rfl) _ hn101 hn102).mono ?_
        rintro e w16 ⟨rfl, hb16⟩
        replace hs := hs.below hb16
        replace ht := ht.below hb16
        replace hu := hu.below hb16
        replace hn101 := hn101.below hb16
        replace hn102 := hn102.below hb16
        replace hbw := below_next hb16 hbw
        clear hb16
        clear hn101 hn102
        clear hs ht hu
        go_wp2
        go_ret
        exact ⟨rfl, hbw⟩
      · skip
        have Hts := Lib.hid hts
        clear hts
        go_enter Tryd.func5, Tryd.ntmps5
        have hbw : Below w.heap.size w w := Below.refl _ _
        go_wp2_with fail
        refine (alive1_any _ hT).mono ?_
        rintro e w1 ⟨rfl, hb1⟩
        replace hs := hs.below hb1
        replace ht := ht.below hb1
        replace hu := hu.below hb1
        replace hT := hT.step hb1
        replace hbw := below_next hb1 hbw
        clear hb1
        clear hT
        go_wp2_with fail
        refine (within_any _ _ _ _ _ hu hs (Nat.le_trans bu (by decide)) (Nat.le_trans bs (by decide)) true Hus.out).mono ?_
        rintro e w2 ⟨rfl, hb2⟩
        replace hs := hs.below hb2
        replace ht := ht.below hb2
        replace hu := hu.below hb2
        replace hbw := below_next hb2 hbw
        clear hb2
        go_wp2_with fail
        refine (within_any _ _ _ _ _ hu ht (Nat.le_trans bu (by decide)) (Nat.le_trans bt (by decide)) true Hut.out).mono ?_
        rintro e w3 ⟨rfl, hb3⟩
        replace hs := hs.below hb3
        replace ht := ht.below hb3
        replace hu := hu.below hb3
        replace hbw := below_next hb3 hbw
        clear hb3
        go_wp2_with fail
        refine (within_any _ _ _ _ _ hs hu (Nat.le_trans bs (by decide)) (Nat.le_trans bu (by decide)) false Hsu.out).mono ?_
        rintro e w4 ⟨rfl, hb4⟩
        replace hs := hs.below hb4
        replace ht := ht.below hb4
        replace hu := hu.below hb4
        replace hbw := below_next hb4 hbw
        clear hb4
        go_wp2_with fail
        refine (within_any _ _ _ _ _ hs hs (Nat.le_trans bs (by decide)) (Nat.le_trans bs (by decide)) true (Bs.win1 ws)).mono ?_
        rintro e w5 ⟨rfl, hb5⟩
        replace hs := hs.below hb5
        replace ht := ht.below hb5
        replace hu := hu.below hb5
        replace hbw := below_next hb5 hbw
        clear hb5
        go_wp2_with fail
        refine (and_any _ _ _ _ _ hs ht (Nat.le_trans bs (by decide)) (Nat.le_trans bt (by decide))).mono ?_
        rintro e w6 ⟨u6, rfl, ha103, hb6⟩
        obtain ⟨U6, c6, rfl⟩ := slU_form ha103
        replace hs := hs.below hb6
        replace ht := ht.below hb6
        replace hu := hu.below hb6
        replace hbw := below_next hb6 hbw
        clear hb6
        go_wp2_with fail
        refine (within_any _ _ _ _ _ hu ha103 (Nat.le_trans bu (by decide)) (Nat.le_trans (Bs.op_le bs bt) (by decide)) true ((Bs.win2 ws wt wu).trans (by rw [Hus.out, Hut.out]; rfl))).mono ?_
        rintro e w7 ⟨rfl, hb7⟩
        replace hs := hs.below hb7
        replace ht := ht.below hb7
        replace hu := hu.below hb7
        replace ha103 := ha103.below hb7
        replace hbw := below_next hb7 hbw
        clear hb7
        clear ha103
        go_wp2_with fail
        refine (or_any _ _ _ _ _ hs ht (Nat.le_trans bs (by decide)) (Nat.le_trans bt (by decide))).mono ?_
        rintro e w8 ⟨u8, rfl, ho104, hb8⟩
        obtain ⟨U8, c8, rfl⟩ := slU_form ho104
        replace hs := hs.below hb8
        replace ht := ht.below hb8
        replace hu := hu.below hb8
        replace hbw := below_next hb8 hbw
        clear hb8
        go_wp2_with fail
        refine (within_any _ _ _ _ _ ho104 hu (Nat.le_trans (Bs.op_le bs bt) (by decide)) (Nat.le_trans bu (by decide)) false ((Bs.win3 ws wt wu).trans (by rw [Hsu.out]; rfl))).mono ?_
        rintro e w9 ⟨rfl, hb9⟩
        replace hs := hs.below hb9
        replace ht := ht.below hb9
        replace hu := hu.below hb9
        replace ho104 := ho104.below hb9
        replace hbw := below_next hb9 hbw
        clear hb9
        clear ho104
        go_wp2_with fail
        refine (within_any _ _ _ _ _ hs ht (Nat.le_trans bs (by decide)) (Nat.le_trans bt (by decide)) true Hst.out).mono ?_
        rintro e w10 ⟨rfl, hb10⟩
        replace hs := hs.below hb10
        replace ht := ht.below hb10
        replace hu := hu.below hb10
        replace hbw := below_next hb10 hbw
        clear hb10
        go_wp2_with fail
        refine (within_any _ _ _ _ _ ht hu (Nat.le_trans bt (by decide)) (Nat.le_trans bu (by decide)) false Htu.out).mono ?_
        rintro e w11 ⟨rfl, hb11⟩
        replace hs := hs.below hb11
        replace ht := ht.below hb11
        replace hu := hu.below hb11
        replace hbw := below_next hb11 hbw
        clear hb11
        go_wp2_with fail
        refine (within_any _ _ _ _ _ hs ht (Nat.le_trans bs (by decide)) (Nat.le_trans bt (by decide)) true Hst.out).mono ?_
        rintro e w12 ⟨rfl, hb12⟩
        replace hs := hs.below hb12
        replace ht := ht.below hb12
        replace hu := hu.below hb12
        replace hbw := below_next hb12 hbw
        clear hb12
        go_wp2_with fail
        refine (within_any _ _ _ _ _ ht hs (Nat.le_trans bt (by decide)) (Nat.le_trans bs (by decide)) true Hts.out).mono ?_
        rintro e w13 ⟨rfl, hb13⟩
        replace hs := hs.below hb13
        replace ht := ht.below hb13
        replace hu := hu.below hb13
        replace hbw := below_next hb13 hbw
        clear hb13
        go_wp2_with fail
        refine (or_any _ _ _ _ _ hs (SlU.nil _) (Nat.le_trans bs (by decide)) (by decide)).mono ?_
        rintro e w14 ⟨u14, rfl, hn105, hb14⟩
        obtain ⟨U14, c14, rfl⟩ := slU_form hn105
        replace hs := hs.below hb14
        replace ht := ht.below hb14
        replace hu := hu.below hb14
        replace hbw := below_next hb14 hbw
        clear hb14
        go_wp2_with fail
        refine (or_any _ _ _ _ _ ht (SlU.nil _) (Nat.le_trans bt (by decide)) (by decide)).mono ?_
        rintro e w15 ⟨u15, rfl, hn106, hb15⟩
        obtain ⟨U15, c15, rfl⟩ := slU_form hn106
        replace hs := hs.below hb15
        replace ht := ht.below hb15
        replace hu := hu.below hb15
        replace hn105 := hn105.below hb15
        replace hbw := below_next hb15 hbw
        clear hb15
        go_wp2_with fail
        refine (equal_u64_call _ _ _ _ true (by rw [← Bs.win5 ws wt, Hst.out, Hts.out]; rfl) _ hn105 hn106).mono ?_
        rintro e w16 ⟨rfl, hb16⟩
        replace hs := hs.below hb16
        replace ht := ht.below hb16
        replace hu := hu.below hb16
        replace hn105 := hn105.below hb16
        replace hn106 := hn106.below hb16
        replace hbw := below_next hb16 hbw
        clear hb16
        clear hn105 hn106
        clear hs ht hu
        go_wp2
        go_ret
        exact ⟨rfl, hbw⟩
  · skip
    have Hsu := Lib.hid hsu
    clear hsu
    rcases htu : Bs.win t u with _ | _
    · skip
      have Htu := Lib.hid htu
      clear htu
      rcases hst : Bs.win s t with _ | _
      · skip
        have Hst := Lib.hid hst
        clear hst
        go_enter Tryd.func5, Tryd.ntmps5
        have hbw : Below w.heap.size w w := Below.refl _ _
        go_wp2_with fail
        refine (alive1_any _ hT).mono ?_
        rintro e w1 ⟨rfl, hb1⟩
        replace hs := hs.below hb1
        replace ht := ht.below hb1
        replace hu := hu.below hb1
        replace hT := hT.step hb1
        replace hbw := below_next hb1 hbw
        clear hb1
        clear hT
        go_wp2_with fail
        refine (within_any _ _ _ _ _ hu hs (Nat.le_trans bu (by decide)) (Nat.le_trans bs (by decide)) true Hus.out).mono ?_
        rintro e w2 ⟨rfl, hb2⟩
        replace hs := hs.below hb2
        replace ht := ht.below hb2
        replace hu := hu.below hb2
        replace hbw := below_next hb2 hbw
        clear hb2
        go_wp2_with fail
        refine (within_any _ _ _ _ _ hu ht (Nat.le_trans bu (by decide)) (Nat.le_trans bt (by decide)) true Hut.out).mono ?_
        rintro e w3 ⟨rfl, hb3⟩
        replace hs := hs.below hb3
        replace ht := ht.below hb3
        replace hu := hu.below hb3
        replace hbw := below_next hb3 hbw
        clear hb3
        go_wp2_with fail
        refine (within_any _ _ _ _ _ hs hu (Nat.le_trans bs (by decide)) (Nat.le_trans bu (by decide)) true Hsu.out).mono ?_
        rintro e w4 ⟨rfl, hb4⟩
        replace hs := hs.below hb4
        replace ht := ht.below hb4
        replace hu := hu.below hb4
        replace hbw := below_next hb4 hbw
        clear hb4
        go_wp2_with fail
        refine (within_any _ _ _ _ _ ht hu (Nat.le_trans bt (by decide)) (Nat.le_trans bu (by decide)) false Htu.out).mono ?_
        rintro e w5 ⟨rfl, hb5⟩
        replace hs := hs.below hb5
        replace ht := ht.below hb5
        replace hu := hu.below hb5
        replace hbw := below_next hb5 hbw
        clear hb5
        go_wp2_with fail
        refine (within_any _ _ _ _ _ hs hs (Nat.le_trans bs (by decide)) (Nat.le_trans bs (by decide)) true (Bs.win1 ws)).mono ?_
        rintro e w6 ⟨rfl, hb6⟩
        replace hs := hs.below hb6
        replace ht := ht.below hb6
        replace hu := hu.below hb6
        replace hbw := below_next hb6 hbw
        clear hb6
        go_wp2_with fail
        refine (and_any _ _ _ _ _ hs ht (Nat.le_trans bs (by decide)) (Nat.le_trans bt (by decide))).mono ?_
        rintro e w7 ⟨u7, rfl, ha107, hb7⟩
        obtain ⟨U7, c7, rfl⟩ := slU_form ha107
        replace hs := hs.below hb7
        replace ht := ht.below hb7
        replace hu := hu.below hb7
        replace hbw := below_next hb7 hbw
        clear hb7
        go_wp2_with fail
        refine (within_any _ _ _ _ _ hu ha107 (Nat.le_trans bu (by decide)) (Nat.le_trans (Bs.op_le bs bt) (by decide)) true ((Bs.win2 ws wt wu).trans (by rw [Hus.out, Hut.out]; rfl))).mono ?_
        rintro e w8 ⟨rfl, hb8⟩
        replace hs := hs.below hb8
        replace ht := ht.below hb8
        replace hu := hu.below hb8
        replace ha107 := ha107.below hb8
        replace hbw := below_next hb8 hbw
        clear hb8
        clear ha107
        go_wp2_with fail
        refine (or_any _ _ _ _ _ hs ht (Nat.le_trans bs (by decide)) (Nat.le_trans bt (by decide))).mono ?_
        rintro e w9 ⟨u9, rfl, ho108, hb9⟩
        obtain ⟨U9, c9, rfl⟩ := slU_form ho108
        replace hs := hs.below hb9
        replace ht := ht.below hb9
        replace hu := hu.below hb9
        replace hbw := below_next hb9 hbw
        clear hb9
        go_wp2_with fail
        refine (within_any _ _ _ _ _ ho108 hu (Nat.le_trans (Bs.op_le bs bt) (by decide)) (Nat.le_trans bu (by decide)) false ((Bs.win3 ws wt wu).trans (by rw [Hsu.out, Htu.out]; rfl))).mono ?_
        rintro e w10 ⟨rfl, hb10⟩
        replace hs := hs.below hb10
        replace ht := ht.below hb10
        replace hu := hu.below hb10
        replace ho108 := ho108.below hb10
        replace hbw := below_next hb10 hbw
        clear hb10
        clear ho108
        go_wp2_with fail
        refine (within_any _ _ _ _ _ hs ht (Nat.le_trans bs (by decide)) (Nat.le_trans bt (by decide)) false Hst.out).mono ?_
        rintro e w11 ⟨rfl, hb11⟩
        replace hs := hs.below hb11
        replace ht := ht.below hb11
        replace hu := hu.below hb11
        replace hbw := below_next hb11 hbw
        clear hb11
        go_wp2_with fail
        refine (within_any _ _ _ _ _ hs ht (Nat.le_trans bs (by decide)) (Nat.le_trans bt (by decide)) false Hst.out).mono ?_
        rintro e w12 ⟨rfl, hb12⟩
        replace hs := hs.below hb12
        replace ht := ht.below hb12
        replace hu := hu.below hb12
        replace hbw := below_next hb12 hbw
        clear hb12
        go_wp2_with fail
        refine (or_any _ _ _ _ _ hs (SlU.nil _) (Nat.le_trans bs (by decide)) (by decide)).mono ?_
        rintro e w13 ⟨u13, rfl, hn109, hb13⟩
        obtain ⟨U13, c13, rfl⟩ := slU_form hn109
        replace hs := hs.below hb13
        replace ht := ht.below hb13
        replace hu := hu.below hb13
        replace hbw := below_next hb13 hbw
        clear hb13
        go_wp2_with fail
        refine (or_any _ _ _ _ _ ht (SlU.nil _) (Nat.le_trans bt (by decide)) (by decide)).mono ?_
        rintro e w14 ⟨u14, rfl, hn110, hb14⟩
        obtain ⟨U14, c14, rfl⟩ := slU_form hn110
        replace hs := hs.below hb14
        replace ht := ht.below hb14
        replace hu := hu.below hb14
        replace hn109 := hn109.below hb14
        replace hbw := below_next hb14 hbw
        clear hb14
        go_wp2_with fail
        refine (equal_u64_call _ _ _ _ false (by rw [← Bs.win5 ws wt, Hst.out]; rfl) _ hn109 hn110).mono ?_
        rintro e w15 ⟨rfl, hb15⟩
        replace hs := hs.below hb15
        replace ht := ht.below hb15
        replace hu := hu.below hb15
        replace hn109 := hn109.below hb15
        replace hn110 := hn110.below hb15
        replace hbw := below_next hb15 hbw
        clear hb15
        clear hn109 hn110
        clear hs ht hu
        go_wp2
        go_ret
        exact ⟨rfl, hbw⟩
      · skip
        have Hst := Lib.hid hst
        clear hst
        rcases hts : Bs.win t s with _ | _
        · skip
          have Hts := Lib.hid hts
          clear hts
          go_enter Tryd.func5, Tryd.ntmps5
          have hbw : Below w.heap.size w w := Below.refl _ _
          go_wp2_with fail
          refine (alive1_any _ hT).mono ?_
          rintro e w1 ⟨rfl, hb1⟩
          replace hs := hs.below hb1
          replace ht := ht.below hb1
          replace hu := hu.below hb1
          replace hT := hT.step hb1
          replace hbw := below_next hb1 hbw
          clear hb1
          clear hT
          go_wp2_with fail
          refine (within_any _ _ _ _ _ hu hs (Nat.le_trans bu (by decide)) (Nat.le_trans bs (by decide)) true Hus.out).mono ?_
          rintro e w2 ⟨rfl, hb2⟩
          replace hs := hs.below hb2
          replace ht := ht.below hb2
          replace hu := hu.below hb2
          replace hbw := below_next hb2 hbw
          clear hb2
          go_wp2_with fail
          refine (within_any _ _ _ _ _ hu ht (Nat.le_trans bu (by decide)) (Nat.le_trans bt (by decide)) true Hut.out).mono ?_
          rintro e w3 ⟨rfl, hb3⟩
          replace hs := hs.below hb3
          replace ht := ht.below hb3
          replace hu := hu.below hb3
          replace hbw := below_next hb3 hbw
          clear hb3
          go_wp2_with fail
          refine (within_any _ _ _ _ _ hs hu (Nat.le_trans bs (by decide)) (Nat.le_trans bu (by decide)) true Hsu.out).mono ?_
          rintro e w4 ⟨rfl, hb4⟩
          replace hs := hs.below hb4
          replace ht := ht.below hb4
          replace hu := hu.below hb4
          replace hbw := below_next hb4 hbw
          clear hb4
          go_wp2_with fail
          refine (within_any _ _ _ _ _ ht hu (Nat.le_trans bt (by decide)) (Nat.le_trans bu (by decide)) false Htu.out).mono ?_
          rintro e w5 ⟨rfl, hb5⟩
          replace hs := hs.below hb5
          replace ht := ht.below hb5
          replace hu := hu.below hb5
          replace hbw := below_next hb5 hbw
          clear hb5
          go_wp2_with fail
          refine (within_any _ _ _ _ _ hs hs (Nat.le_trans bs (by decide)) (Nat.le_trans bs (by decide)) true (Bs.win1 ws)).mono ?_
          rintro e w6 ⟨rfl, hb6⟩
          replace hs := hs.below hb6
          replace ht := ht.below hb6
          replace hu := hu.below hb6
          replace hbw := below_next hb6 hbw
          clear hb6
          go_wp2_with fail
          refine (and_any _ _ _ _ _ hs ht (Nat.le_trans bs (by decide)) (Nat.le_trans bt (by decide))).mono ?_
          rintro e w7 ⟨u7, rfl, ha111, hb7⟩
          obtain ⟨U7, c7, rfl⟩ := slU_form ha111
          replace hs := hs.below hb7
          replace ht := ht.below hb7
          replace hu := hu.below hb7
          replace hbw := below_next hb7 hbw
          clear hb7
          go_wp2_with fail
          refine (within_any _ _ _ _ _ hu ha111 (Nat.le_trans bu (by decide)) (Nat.le_trans (Bs.op_le bs bt) (by decide)) true ((Bs.win2 ws wt wu).trans (by rw [Hus.out, Hut.out]; rfl))).mono ?_
          rintro e w8 ⟨rfl, hb8⟩
          replace hs := hs.below hb8
          replace ht := ht.below hb8
          replace hu := hu.below hb8
          replace ha111 := ha111.below hb8
          replace hbw := below_next hb8 hbw
          clear hb8
          clear ha111
          go_wp2_with fail
          refine (or_any _ _ _ _ _ hs ht (Nat.le_trans bs (by decide)) (Nat.le_trans bt (by decide))).mono ?_
          rintro e w9 ⟨u9, rfl, ho112, hb9⟩
          obtain ⟨U9, c9, rfl⟩ := slU_form ho112
          replace hs := hs.below hb9
          replace ht := ht.below hb9
          replace hu := hu.below hb9
          replace hbw := below_next hb9 hbw
          clear hb9
          go_wp2_with fail
          refine (within_any _ _ _ _ _ ho112 hu (Nat.le_trans (Bs.op_le bs bt) (by decide)) (Nat.le_trans bu (by decide)) false ((Bs.win3 ws wt wu).trans (by rw [Hsu.out, Htu.out]; rfl))).mono ?_
          rintro e w10 ⟨rfl, hb10⟩
          replace hs := hs.below hb10
          replace ht := ht.below hb10
          replace hu := hu.below hb10
          replace ho112 := ho112.below hb10
          replace hbw := below_next hb10 hbw
          clear hb10
          clear ho112
          go_wp2_with fail
          refine (within_any _ _ _ _ _ hs ht (Nat.le_trans bs (by decide)) (Nat.le_trans bt (by decide)) true Hst.out).mono ?_
          rintro e w11 ⟨rfl, hb11⟩
          replace hs := hs.below hb11
          replace ht := ht.below hb11
          replace hu := hu.below hb11
          replace hbw := below_next hb11 hbw
          clear hb11
          go_wp2_with fail
          refine (within_any _ _ _ _ _ ht hu (Nat.le_trans bt (by decide)) (Nat.le_trans bu (by decide)) false Htu.out).mono ?_
          rintro e w12 ⟨rfl, hb12⟩
          replace hs := hs.below hb12
          replace ht := ht.below hb12
          replace hu := hu.below hb12
          replace hbw := below_next hb12 hbw
          clear hb12
          go_wp2_with fail
          refine (within_any _ _ _ _ _ hs ht (Nat.le_trans bs (by decide)) (Nat.le_trans bt (by decide)) true Hst.out).mono ?_
          rintro e w13 ⟨rfl, hb13⟩
          replace hs := hs.below hb13
          replace ht := ht.below hb13
          replace hu := hu.below hb13
          replace hbw := below_next hb13 hbw
          clear hb13
          go_wp2_with fail
          refine (within_any _ _ _ _ _ ht hs (Nat.le_trans bt (by decide)) (Nat.le_trans bs (by decide)) false Hts.out).mono ?_
          rintro e w14 ⟨rfl, hb14⟩
          replace hs := hs.below hb14
          replace ht := ht.below hb14
          replace hu := hu.below hb14
          replace hbw := below_next hb14 hbw
          clear hb14
          go_wp2_with fail
          refine (or_any _ _ _ _ _ hs (SlU.nil _) (Nat.le_trans bs (by decide)) (by decide)).mono ?_
          rintro e w15 ⟨u15, rfl, hn113, hb15⟩
          obtain ⟨U15, c15, rfl⟩ := slU_form hn113
          replace hs := hs.below hb15
          replace ht := ht.below hb15
          replace hu := hu.below hb15
          replace hbw := below_next hb15 hbw
          clear hb15
          go_wp2_with fail
          refine (or_any _ _ _ _ _ ht (SlU.nil _) (Nat.le_trans bt (by decide)) (by decide)).mono ?_
          rintro e w16 ⟨u16, rfl, hn114, hb16⟩
          obtain ⟨U16, c16, rfl⟩ := slU_form hn114
          replace hs := hs.below hb16
          replace ht := ht.below hb16
          replace hu := hu.below hb16
          replace hn113 := hn113.below hb16
          replace hbw := below_next hb16 hbw
          clear hb16
          go_wp2_with fail
          refine (equal_u64_call _ _ _ _ false (by rw [← Bs.win5 ws wt, Hst.out, Hts.out]; rfl) _ hn113 hn114).mono ?_
          rintro e w17 ⟨rfl, hb17⟩
          replace hs := hs.below hb17
          replace ht := ht.below hb17
          replace hu := hu.below hb17
          replace hn113 := hn113.below hb17
          replace hn114 := hn114.below hb17
          replace hbw := below_next hb17 hbw
          clear hb17
          clear hn113 hn114
          clear hs ht hu
          go_wp2
          go_ret
          exact ⟨rfl, hbw⟩
        · skip
          have Hts := Lib.hid hts
          clear hts
          go_enter Tryd.func5, Tryd.ntmps5
          have hbw : Below w.heap.size w w := Below.refl _ _
          go_wp2_with fail
          refine (alive1_any _ hT).mono ?_
          rintro e w1 ⟨rfl, hb1⟩
          replace hs := hs.below hb1
          replace ht := ht.below hb1
          replace hu := hu.below hb1
          replace hT := hT.step hb1
          replace hbw := below_next hb1 hbw
          clear hb1
          clear hT
          go_wp2_with fail
          refine (within_any _ _ _ _ _ hu hs (Nat.le_trans bu (by decide)) (Nat.le_trans bs (by decide)) true Hus.out).mono ?_
          rintro e w2 ⟨rfl, hb2⟩
          replace hs := hs.below hb2
          replace ht := ht.below hb2
          replace hu := hu.below hb2
          replace hbw := below_next hb2 hbw
          clear hb2
          go_wp2_with fail
          refine (within_any _ _ _ _ _ hu ht (Nat.le_trans bu (by decide)) (Nat.le_trans bt (by decide)) true Hut.out).mono ?_
          rintro e w3 ⟨rfl, hb3⟩
          replace hs := hs.below hb3
          replace ht := ht.below hb3
          replace hu := hu.below hb3
          replace hbw := below_next hb3 hbw
          clear hb3
          go_wp2_with fail
          refine (within_any _ _ _ _ _ hs hu (Nat.le_trans bs (by decide)) (Nat.le_trans bu (by decide)) true Hsu.out).mono ?_
          rintro e w4 ⟨rfl, hb4⟩
          replace hs := hs.below hb4
          replace ht := ht.below hb4
          replace hu := hu.below hb4
          replace hbw := below_next hb4 hbw
          clear hb4
          go_wp2_with fail
          refine (within_any _ _ _ _ _ ht hu (Nat.le_trans bt (by decide)) (Nat.le_trans bu (by decide)) false Htu.out).mono ?_
          rintro e w5 ⟨rfl, hb5⟩
          replace hs := hs.below hb5
          replace ht := ht.below hb5
          replace hu := hu.below hb5
          replace hbw := below_next hb5 hbw
          clear hb5
          go_wp2_with fail
          refine (within_any _ _ _ _ _ hs hs (Nat.le_trans bs (by decide)) (Nat.le_trans bs (by decide)) true (Bs.win1 ws)).mono ?_
          rintro e w6 ⟨rfl, hb6⟩
          replace hs := hs.below hb6
          replace ht := ht.below hb6
          replace hu := hu.below hb6
          replace hbw := below_next hb6 hbw
          clear hb6
          go_wp2_with fail
          refine (and_any _ _ _ _ _ hs ht (Nat.le_trans bs (by decide)) (Nat.le_trans bt (by decide))).mono ?_
          rintro e w7 ⟨u7, rfl, ha115, hb7⟩
          obtain ⟨U7, c7, rfl⟩ := slU_form ha115
          replace hs := hs.below hb7
          replace ht := ht.below hb7
          replace hu := hu.below hb7
          replace hbw := below_next hb7 hbw
          clear hb7
          go_wp2_with fail
          refine (within_any _ _ _ _ _ hu ha115 (Nat.le_trans bu (by decide)) (Nat.le_trans (Bs.op_le bs bt) (by decide)) true ((Bs.win2 ws wt wu).trans (by rw [Hus.out, Hut.out]; rfl))).mono ?_
          rintro e w8 ⟨rfl, hb8⟩
          replace hs := hs.below hb8
          replace ht := ht.below hb8
          replace hu := hu.below hb8
          replace ha115 := ha115.below hb8
          replace hbw := below_next hb8 hbw
          clear hb8
          clear ha115
          go_wp2_with fail
          refine (or_any _ _ _ _ _ hs ht (Nat.le_trans bs (by decide)) (Nat.le_trans bt (by decide))).mono ?_
          rintro e w9 ⟨u9, rfl, ho116, hb9⟩
          obtain ⟨U9, c9, rfl⟩ := slU_form ho116
          replace hs := hs.below hb9
          replace ht := ht.below hb9
          replace hu := hu.below hb9
          replace hbw := below_next hb9 hbw
          clear hb9
          go_wp2_with fail
          refine (within_any _ _ _ _ _ ho116 hu (Nat.le_trans (Bs.op_le bs bt) (by decide)) (Nat.le_trans bu (by decide)) false ((Bs.win3 ws wt wu).trans (by rw [Hsu.out, Htu.out]; rfl))).mono ?_
          rintro e w10 ⟨rfl, hb10⟩
          replace hs := hs.below hb10
          replace ht := ht.below hb10
          replace hu := hu.below hb10
          replace ho116 := ho116.below hb10
          replace hbw := below_next hb10 hbw
          clear hb10
          clear ho116
          go_wp2_with fail
          refine (within_any _ _ _ _ _ hs ht (Nat.le_trans bs (by decide)) (Nat.le_trans bt (by decide)) true Hst.out).mono ?_
          rintro e w11 ⟨rfl, hb11⟩
          replace hs := hs.below hb11
          replace ht := ht.below hb11
          replace hu := hu.below hb11
          replace hbw := below_next hb11 hbw
          clear hb11
          go_wp2_with fail
          refine (within_any _ _ _ _ _ ht hu (Nat.le_trans bt (by decide)) (Nat.le_trans bu (by decide)) false Htu.out).mono ?_
          rintro e w12 ⟨rfl, hb12⟩
          replace hs := hs.below hb12
          replace ht := ht.below hb12
          replace hu := hu.below hb12
          replace hbw := below_next hb12 hbw
          clear hb12
          go_wp2_with fail
          refine (within_any _ _ _ _ _ hs ht (Nat.le_trans bs (by decide)) (Nat.le_trans bt (by decide)) true Hst.out).mono ?_
          rintro e w13 ⟨rfl, hb13⟩
          replace hs := hs.below hb13
          replace ht := ht.below hb13
          replace hu := hu.below hb13
          replace hbw := below_next hb13 hbw
          clear hb13
          go_wp2_with fail
          refine (within_any _ _ _ _ _ ht hs (Nat.le_trans bt (by decide)) (Nat.le_trans bs (by decide)) true Hts.out).mono ?_
          rintro e w14 ⟨rfl, hb14⟩
          replace hs := hs.below hb14
          replace ht := ht.below hb14
          replace hu := hu.below hb14
          replace hbw := below_next hb14 hbw
          clear hb14
          go_wp2_with fail
          refine (or_any _ _ _ _ _ hs (SlU.nil _) (Nat.le_trans bs (by decide)) (by decide)).mono ?_
          rintro e w15 ⟨u15, rfl, hn117, hb15⟩
          obtain ⟨U15, c15, rfl⟩ := slU_form hn117
          replace hs := hs.below hb15
          replace ht := ht.below hb15
          replace hu := hu.below hb15
          replace hbw := below_next hb15 hbw
          clear hb15
          go_wp2_with fail
          refine (or_any _ _ _ _ _ ht (SlU.nil _) (Nat.le_trans bt (by decide)) (by decide)).mono ?_
          rintro e w16 ⟨u16, rfl, hn118, hb16⟩
          obtain ⟨U16, c16, rfl⟩ := slU_form hn118
          replace hs := hs.below hb16
          replace ht := ht.below hb16
          replace hu := hu.below hb16
          replace hn117 := hn117.below hb16
          replace hbw := below_next hb16 hbw
          clear hb16
          go_wp2_with fail
          refine (equal_u64_call _ _ _ _ true (by rw [← Bs.win5 ws wt, Hst.out, Hts.out]; rfl) _ hn117 hn118).mono ?_
          rintro e w17 ⟨rfl, hb17⟩
          replace hs := hs.below hb17
          replace ht := ht.below hb17
          replace hu := hu.below hb17
          replace hn117 := hn117.below hb17
          replace hn118 := hn118.below hb17
          replace hbw := below_next hb17 hbw
          clear hb17
          clear hn117 hn118
          clear hs ht hu
          go_wp2
          go_ret
          exact ⟨rfl, hbw⟩
    · skip
      have Htu := Lib.hid htu
      clear htu
      rcases hst : Bs.win s t with _ | _
      · skip
        have Hst := Lib.hid hst
        clear hst
        go_enter Tryd.func5, Tryd.ntmps5
        have hbw : Below w.heap.size w w := Below.refl _ _
        go_wp2_with fail
        refine (alive1_any _ hT).mono ?_
        rintro e w1 ⟨rfl, hb1⟩
        replace hs := hs.below hb1
        replace ht := ht.below hb1
        replace hu := hu.below hb1
        replace hT := hT.step hb1
        replace hbw := below_next hb1 hbw
        clear hb1
        clear hT
        go_wp2_with fail
        refine (within_any _ _ _ _ _ hu hs (Nat.le_trans bu (by decide)) (Nat.le_trans bs (by decide)) true Hus.out).mono ?_
        rintro e w2 ⟨rfl, hb2⟩
        replace hs := hs.below hb2
        replace ht := ht.below hb2
        replace hu := hu.below hb2
        replace hbw := below_next hb2 hbw
        clear hb2
        go_wp2_with fail
        refine (within_any _ _ _ _ _ hu ht (Nat.le_trans bu (by decide)) (Nat.le_trans bt (by decide)) true Hut.out).mono ?_
        rintro e w3 ⟨rfl, hb3⟩
        replace hs := hs.below hb3
        replace ht := ht.below hb3
        replace hu := hu.below hb3
        replace hbw := below_next hb3 hbw
        clear hb3
        go_wp2_with fail
        refine (within_any _ _ _ _ _ hs hu (Nat.le_trans bs (by decide)) (Nat.le_trans bu (by decide)) true Hsu.out).mono ?_
        rintro e w4 ⟨rfl, hb4⟩
        replace hs := hs.below hb4
        replace ht := ht.below hb4
        replace hu := hu.below hb4
        replace hbw := below_next hb4 hbw
        clear hb4
        go_wp2_with fail
        refine (within_any _ _ _ _ _ ht hu (Nat.le_trans bt (by decide)) (Nat.le_trans bu (by decide)) true Htu.out).mono ?_
        rintro e w5 ⟨rfl, hb5⟩
        replace hs := hs.below hb5
        replace ht := ht.below hb5
        replace hu := hu.below hb5
        replace hbw := below_next hb5 hbw
        clear hb5
        go_wp2_with fail
        refine (within_any _ _ _ _ _ hs hs (Nat.le_trans bs (by decide)) (Nat.le_trans bs (by decide)) true (Bs.win1 ws)).mono ?_
        rintro e w6 ⟨rfl, hb6⟩
        replace hs := hs.below hb6
        replace ht := ht.below hb6
        replace hu := hu.below hb6
        replace hbw := below_next hb6 hbw
        clear hb6
        go_wp2_with fail
        refine (and_any _ _ _ _ _ hs ht (Nat.le_trans bs (by decide)) (Nat.le_trans bt (by decide))).mono ?_
        rintro e w7 ⟨u7, rfl, ha119, hb7⟩
        obtain ⟨U7, c7, rfl⟩ := slU_form ha119
        replace hs := hs.below hb7
        replace ht := ht.below hb7
        replace hu := hu.below hb7
        replace hbw := below_next hb7 hbw
        clear hb7
        go_wp2_with fail
        refine (within_any _ _ _ _ _ hu ha119 (Nat.le_trans bu (by decide)) (Nat.le_trans (Bs.op_le bs bt) (by decide)) true ((Bs.win2 ws wt wu).trans (by rw [Hus.out, Hut.out]; rfl))).mono ?_
        rintro e w8 ⟨rfl, hb8⟩
        replace hs := hs.below hb8
        replace ht := ht.below hb8
        replace hu := hu.below hb8
        replace ha119 := ha119.below hb8
        replace hbw := below_next hb8 hbw
        clear hb8
        clear ha119
        go_wp2_with fail
        refine (or_any _ _ _ _ _ hs ht (Nat.le_trans bs (by decide)) (Nat.le_trans bt (by decide))).mono ?_
        rintro e w9 ⟨u9, rfl, ho120, hb9⟩
        obtain ⟨U9, c9, rfl⟩ := slU_form ho120
        replace hs := hs.below hb9
        replace ht := ht.below hb9
        replace hu := hu.below hb9
        replace hbw := below_next hb9 hbw
        clear hb9
        go_wp2_with fail
        refine (within_any _ _ _ _ _ ho120 hu (Nat.le_trans (Bs.op_le bs bt) (by decide)) (Nat.le_trans bu (by decide)) true ((Bs.win3 ws wt wu).trans (by rw [Hsu.out, Htu.out]; rfl))).mono ?_
        rintro e w10 ⟨rfl, hb10⟩
        replace hs := hs.below hb10
        replace ht := ht.below hb10
        replace hu := hu.below hb10
        replace ho120 := ho120.below hb10
        replace hbw := below_next hb10 hbw
        clear hb10
        clear ho120
        go_wp2_with fail
        refine (within_any _ _ _ _ _ hs ht (Nat.le_trans bs (by decide)) (Nat.le_trans bt (by decide)) false Hst.out).mono ?_
        rintro e w11 ⟨rfl, hb11⟩
        replace hs := hs.below hb11
        replace ht := ht.below hb11
        replace hu := hu.below hb11
        replace hbw := below_next hb11 hbw
        clear hb11
        go_wp2_with fail
        refine (within_any _ _ _ _ _ hs ht (Nat.le_trans bs (by decide)) (Nat.le_trans bt (by decide)) false Hst.out).mono ?_
        rintro e w12 ⟨rfl, hb12⟩
        replace hs := hs.below hb12
        replace ht := ht.below hb12
        replace hu := hu.below hb12
        replace hbw := below_next hb12 hbw
        clear hb12
        go_wp2_with fail
        refine (or_any _ _ _ _ _ hs (SlU.nil _) (Nat.le_trans bs (by decide)) (by decide)).mono ?_
        rintro e w13 ⟨u13, rfl, hn121, hb13⟩
        obtain ⟨U13, c13, rfl⟩ := slU_form hn121
        replace hs := hs.below hb13
        replace ht := ht.below hb13
        replace hu := hu.below hb13
        replace hbw := below_next hb13 hbw
        clear hb13
        go_wp2_with fail
        refine (or_any _ _ _ _ _ ht (SlU.nil _) (Nat.le_trans bt (by decide)) (by decide)).mono ?_
        rintro e w14 ⟨u14, rfl, hn122, hb14⟩
        obtain ⟨U14, c14, rfl⟩ := slU_form hn122
        replace hs := hs.below hb14
        replace ht := ht.below hb14
        replace hu := hu.below hb14
        replace hn121 := hn121.below hb14
        replace hbw := below_next hb14 hbw
        clear hb14
        go_wp2_with fail
        refine (equal_u64_call _ _ _ _ false (by rw [← Bs.win5 ws wt, Hst.out]; rfl) _ hn121 hn122).mono ?_
        rintro e w15 ⟨rfl, hb15⟩
        replace hs := hs.below hb15
        replace ht := ht.below hb15
        replace hu := hu.below hb15
        replace hn121 := hn121.below hb15
        replace hn122 := hn122.below hb15
        replace hbw := below_next hb15 hbw
        clear hb15
        clear hn121 hn122
        clear hs ht hu
        go_wp2
        go_ret
        exact ⟨rfl, hbw⟩
      · skip
        have Hst := Lib.hid hst
        clear hst
        rcases hts : Bs.win t s with _ | _
        · skip
          have Hts := Lib.hid hts
          clear hts
          go_enter Tryd.func5, Tryd.ntmps5
          have hbw : Below w.heap.size w w := Below.refl _ _
          go_wp2_with fail
          refine (alive1_any _ hT).mono ?_
          rintro e w1 ⟨rfl, hb1⟩
          replace hs := hs.below hb1
          replace ht := ht.below hb1
          replace hu := hu.below hb1
          replace hT := hT.step hb1
          replace hbw := below_next hb1 hbw
          clear hb1
          clear hT
          go_wp2_with fail
          refine (within_any _ _ _ _ _ hu hs (Nat.le_trans bu (by decide)) (Nat.le_trans bs (by decide)) true Hus.out).mono ?_
          rintro e w2 ⟨rfl, hb2⟩
          replace hs := hs.below hb2
          replace ht := ht.below hb2
          replace hu := hu.below hb2
          replace hbw := below_next hb2 hbw
          clear hb2
          go_wp2_with fail
          refine (within_any _ _ _ _ _ hu ht (Nat.le_trans bu (by decide)) (Nat.le_trans bt (by decide)) true Hut.out).mono ?_
          rintro e w3 ⟨rfl, hb3⟩
          replace hs := hs.below hb3
          replace ht := ht.below hb3
          replace hu := hu.below hb3
          replace hbw := below_next hb3 hbw
          clear hb3
          go_wp2_with fail
          refine (within_any _ _ _ _ _ hs hu (Nat.le_trans bs (by decide)) (Nat.le_trans bu (by decide)) true Hsu.out).mono ?_
          rintro e w4 ⟨rfl, hb4⟩
          replace hs := hs.below hb4
          replace ht := ht.below hb4
          replace hu := hu.below hb4
          replace hbw := below_next hb4 hbw
          clear hb4
          go_wp2_with fail
          refine (within_any _ _ _ _ _ ht hu (Nat.le_trans bt (by decide)) (Nat.le_trans bu (by decide)) true Htu.out).mono ?_
          rintro e w5 ⟨rfl, hb5⟩
          replace hs := hs.below hb5
          replace ht := ht.below hb5
          replace hu := hu.below hb5
          replace hbw := below_next hb5 hbw
          clear hb5
          go_wp2_with fail
          refine (within_any _ _ _ _ _ hs hs (Nat.le_trans bs (by decide)) (Nat.le_trans bs (by decide)) true (Bs.win1 ws)).mono ?_
          rintro e w6 ⟨rfl, hb6⟩
          replace hs := hs.below hb6
          replace ht := ht.below hb6
          replace hu := hu.below hb6
          replace hbw := below_next hb6 hbw
          clear hb6
          go_wp2_with fail
          refine (and_any _ _ _ _ _ hs ht (Nat.le_trans bs (by decide)) (Nat.le_trans bt (by decide))).mono ?_
          rintro e w7 ⟨u7, rfl, ha123, hb7⟩
          obtain ⟨U7, c7, rfl⟩ := slU_form ha123
          replace hs := hs.below hb7
          replace ht := ht.below hb7
          replace hu := hu.below hb7
          replace hbw := below_next hb7 hbw
          clear hb7
          go_wp2_with fail
          refine (within_any _ _ _ _ _ hu ha123 (Nat.le_trans bu (by decide)) (Nat.le_trans (Bs.op_le bs bt) (by decide)) true ((Bs.win2 ws wt wu).trans (by rw [Hus.out, Hut.out]; rfl))).mono ?_
          rintro e w8 ⟨rfl, hb8⟩
          replace hs := hs.below hb8
          replace ht := ht.below hb8
          replace hu := hu.below hb8
          replace ha123 := ha123.below hb8
          replace hbw := below_next hb8 hbw
          clear hb8
          clear ha123
          go_wp2_with fail
          refine (or_any _ _ _ _ _ hs ht (Nat.le_trans bs (by decide)) (Nat.le_trans bt (by decide))).mono ?_
          rintro e w9 ⟨u9, rfl, ho124, hb9⟩
          obtain ⟨U9, c9, rfl⟩ := slU_form ho124
          replace hs := hs.below hb9
          replace ht := ht.below hb9
          replace hu := hu.below hb9
          replace hbw := below_next hb9 hbw
          clear hb9
          go_wp2_with fail
          refine (within_any _ _ _ _ _ ho124 hu (Nat.le_trans (Bs.op_le bs bt) (by decide)) (Nat.le_trans bu (by decide)) true ((Bs.win3 ws wt wu).trans (by rw [Hsu.out, Htu.out]; rfl))).mono ?_
          rintro e w10 ⟨rfl, hb10⟩
          replace hs := hs.below hb10
          replace ht := ht.below hb10
          replace hu := hu.below hb10
          replace ho124 := ho124.below hb10
          replace hbw := below_next hb10 hbw
          clear hb10
          clear ho124
          go_wp2_with fail
          refine (within_any _ _ _ _ _ hs ht (Nat.le_trans bs (by decide)) (Nat.le_trans bt (by decide)) true Hst.out).mono ?_
          rintro e w11 ⟨rfl, hb11⟩
          replace hs := hs.below hb11
          replace ht := ht.below hb11
          replace hu := hu.below hb11
          replace hbw := below_next hb11 hbw
          clear hb11
          go_wp2_with fail
          refine (within_any _ _ _ _ _ ht hu (Nat.le_trans bt (by decide)) (Nat.le_trans bu (by decide)) true Htu.out).mono ?_
          rintro e w12 ⟨rfl, hb12⟩
          replace hs := hs.below hb12
          replace ht := ht.below hb12
          replace hu := hu.below hb12
          replace hbw := below_next hb12 hbw
          clear hb12
          go_wp2_with fail
          refine (within_any _ _ _ _ _ hs hu (Nat.le_trans bs (by decide)) (Nat.le_trans bu (by decide)) true Hsu.out).mono ?_
          rintro e w13 ⟨rfl, hb13⟩
          replace hs := hs.below hb13
          replace ht := ht.below hb13
          replace hu := hu.below hb13
          replace hbw := below_next hb13 hbw
          clear hb13
          go_wp2_with fail
          refine (within_any _ _ _ _ _ hs ht (Nat.le_trans bs (by decide)) (Nat.le_trans bt (by decide)) true Hst.out).mono ?_
          rintro e w14 ⟨rfl, hb14⟩
          replace hs := hs.below hb14
          replace ht := ht.below hb14
          replace hu := hu.below hb14
          replace hbw := below_next hb14 hbw
          clear hb14
          go_wp2_with fail
          refine (within_any _ _ _ _ _ ht hs (Nat.le_trans bt (by decide)) (Nat.le_trans bs (by decide)) false Hts.out).mono ?_
          rintro e w15 ⟨rfl, hb15⟩
          replace hs := hs.below hb15
          replace ht := ht.below hb15
          replace hu := hu.below hb15
          replace hbw := below_next hb15 hbw
          clear hb15
          go_wp2_with fail
          refine (or_any _ _ _ _ _ hs (SlU.nil _) (Nat.le_trans bs (by decide)) (by decide)).mono ?_
          rintro e w16 ⟨u16, rfl, hn125, hb16⟩
          obtain ⟨U16, c16, rfl⟩ := slU_form hn125
          replace hs := hs.below hb16
          replace ht := ht.below hb16
          replace hu := hu.below hb16
          replace hbw := below_next hb16 hbw
          clear hb16
          go_wp2_with fail
          refine (or_any _ _ _ _ _ ht (SlU.nil _) (Nat.le_trans bt (by decide)) (by decide)).mono ?_
          rintro e w17 ⟨u17, rfl, hn126, hb17⟩
          obtain ⟨U17, c17, rfl⟩ := slU_form hn126
          replace hs := hs.below hb17
          replace ht := ht.below hb17
          replace hu := hu.below hb17
          replace hn125 := hn125.below hb17
          replace hbw := below_next hb17 hbw
          clear hb17
          go_wp2_with fail
          refine (equal_u64_call _ _ _ _ false (by rw [← Bs.win5 ws wt, Hst.out, Hts.out]; rfl) _ hn125 hn126).mono ?_
          rintro e w18 ⟨rfl, hb18⟩
          replace hs := hs.below hb18
          replace ht := ht.below hb18
          replace hu := hu.below hb18
          replace hn125 := hn125.below hb18
          replace hn126 := hn126.below hb18
          replace hbw := below_next hb18 hbw
          clear hb18
          clear hn125 hn126
          clear hs ht hu
          go_wp2
          go_ret
          exact ⟨rfl, hbw⟩
        · skip
          have Hts := Lib.hid hts
          clear hts
          go_enter Tryd.func5, Tryd.ntmps5
          have hbw : Below w.heap.size w w := Below.refl _ _
          go_wp2_with fail
          refine (alive1_any _ hT).mono ?_
          rintro e w1 ⟨rfl, hb1⟩
          replace hs := hs.below hb1
          replace ht := ht.below hb1
          replace hu := hu.below hb1
          replace hT := hT.step hb1
          replace hbw := below_next hb1 hbw
          clear hb1
          clear hT
          go_wp2_with fail
          refine (within_any _ _ _ _ _ hu hs (Nat.le_trans bu (by decide)) (Nat.le_trans bs (by decide)) true Hus.out).mono ?_
          rintro e w2 ⟨rfl, hb2⟩
          replace hs := hs.below hb2
          replace ht := ht.below hb2
          replace hu := hu.below hb2
          replace hbw := below_next hb2 hbw
          clear hb2
          go_wp2_with fail
          refine (within_any _ _ _ _ _ hu ht (Nat.le_trans bu (by decide)) (Nat.le_trans bt (by decide)) true Hut.out).mono ?_
          rintro e w3 ⟨rfl, hb3⟩
          replace hs := hs.below hb3
          replace ht := ht.below hb3
          replace hu := hu.below hb3
          replace hbw := below_next hb3 hbw
          clear hb3
          go_wp2_with fail
          refine (within_any _ _ _ _ _ hs hu (Nat.le_trans bs (by decide)) (Nat.le_trans bu (by decide)) true Hsu.out).mono ?_
          rintro e w4 ⟨rfl, hb4⟩
          replace hs := hs.below hb4
          replace ht := ht.below hb4
          replace hu := hu.below hb4
          replace hbw := below_next hb4 hbw
          clear hb4
          go_wp2_with fail
          refine (within_any _ _ _ _ _ ht hu (Nat.le_trans bt (by decide)) (Nat.le_trans bu (by decide)) true Htu.out).mono ?_
          rintro e w5 ⟨rfl, hb5⟩
          replace hs := hs.below hb5
          replace ht := ht.below hb5
          replace hu := hu.below hb5
          replace hbw := below_next hb5 hbw
          clear hb5
          go_wp2_with fail
          refine (within_any _ _ _ _ _ hs hs (Nat.le_trans bs (by decide)) (Nat.le_trans bs (by decide)) true (Bs.win1 ws)).mono ?_
          rintro e w6 ⟨rfl, hb6⟩
          replace hs := hs.below hb6
          replace ht := ht.below hb6
          replace hu := hu.below hb6
          replace hbw := below_next hb6 hbw
          clear hb6
          go_wp2_with fail
          refine (and_any _ _ _ _ _ hs ht (Nat.le_trans bs (by decide)) (Nat.le_trans bt (by decide))).mono ?_
          rintro e w7 ⟨u7, rfl, ha127, hb7⟩
          obtain ⟨U7, c7, rfl⟩ := slU_form ha127
          replace hs := hs.below hb7
          replace ht := ht.below hb7
          replace hu := hu.below hb7
          replace hbw := below_next hb7 hbw
          clear hb7
          go_wp2_with fail
          refine (within_any _ _ _ _ _ hu ha127 (Nat.le_trans bu (by decide)) (Nat.le_trans (Bs.op_le bs bt) (by decide)) true ((Bs.win2 ws wt wu).trans (by rw [Hus.out, Hut.out]; rfl))).mono ?_
          rintro e w8 ⟨rfl, hb8⟩
          replace hs := hs.below hb8
          replace ht := ht.below hb8
          replace hu := hu.below hb8
          replace ha127 := ha127.below hb8
          replace hbw := below_next hb8 hbw
          clear hb8
          clear ha127
          go_wp2_with fail
          refine (or_any _ _ _ _ _ hs ht (Nat.le_trans bs (by decide)) (Nat.le_trans bt (by decide))).mono ?_
          rintro e w9 ⟨u9, rfl, ho128, hb9⟩
          obtain ⟨U9, c9, rfl⟩ := slU_form ho128
          replace hs := hs.below hb9
          replace ht := ht.below hb9
          replace hu := hu.below hb9
          replace hbw := below_next hb9 hbw
          clear hb9
          go_wp2_with fail
          refine (within_any _ _ _ _ _ ho128 hu (Nat.le_trans (Bs.op_le bs bt) (by decide)) (Nat.le_trans bu (by decide)) true ((Bs.win3 ws wt wu).trans (by rw [Hsu.out, Htu.out]; rfl))).mono ?_
          rintro e w10 ⟨rfl, hb10⟩
          replace hs := hs.below hb10
          replace ht := ht.below hb10
          replace hu := hu.below hb10
          replace ho128 := ho128.below hb10
          replace hbw := below_next hb10 hbw
          clear hb10
          clear ho128
          go_wp2_with fail
          refine (within_any _ _ _ _ _ hs ht (Nat.le_trans bs (by decide)) (Nat.le_trans bt (by decide)) true Hst.out).mono ?_
          rintro e w11 ⟨rfl, hb11⟩
          replace hs := hs.below hb11
          replace ht := ht.below hb11
          replace hu := hu.below hb11
          replace hbw := below_next hb11 hbw
          clear hb11
          go_wp2_with fail
          refine (within_any _ _ _ _ _ ht hu (Nat.le_trans bt (by decide)) (Nat.le_trans bu (by decide)) true Htu.out).mono ?_
          rintro e w12 ⟨rfl, hb12⟩
          replace hs := hs.below hb12
          replace ht := ht.below hb12
          replace hu := hu.below hb12
          replace hbw := below_next hb12 hbw
          clear hb12
          go_wp2_with fail
          refine (within_any _ _ _ _ _ hs hu (Nat.le_trans bs (by decide)) (Nat.le_trans bu (by decide)) true Hsu.out).mono ?_
          rintro e w13 ⟨rfl, hb13⟩
          replace hs := hs.below hb13
          replace ht := ht.below hb13
          replace hu := hu.below hb13
          replace hbw := below_next hb13 hbw
          clear hb13
          go_wp2_with fail
          refine (within_any _ _ _ _ _ hs ht (Nat.le_trans bs (by decide)) (Nat.le_trans bt (by decide)) true Hst.out).mono ?_
          rintro e w14 ⟨rfl, hb14⟩
          replace hs := hs.below hb14
          replace ht := ht.below hb14
          replace hu := hu.below hb14
          replace hbw := below_next hb14 hbw
          clear hb14
          go_wp2_with fail
          refine (within_any _ _ _ _ _ ht hs (Nat.le_trans bt (by decide)) (Nat.le_trans bs (by decide)) true Hts.out).mono ?_
          rintro e w15 ⟨rfl, hb15⟩
          replace hs := hs.below hb15
          replace ht := ht.below hb15
          replace hu := hu.below hb15
          replace hbw := below_next hb15 hbw
          clear hb15
          go_wp2_with fail
          refine (or_any _ _ _ _ _ hs (SlU.nil _) (Nat.le_trans bs (by decide)) (by decide)).mono ?_
          rintro e w16 ⟨u16, rfl, hn129, hb16⟩
          obtain ⟨U16, c16, rfl⟩ := slU_form hn129
          replace hs := hs.below hb16
          replace ht := ht.below hb16
          replace hu := hu.below hb16
          replace hbw := below_next hb16 hbw
          clear hb16
          go_wp2_with fail
          refine (or_any _ _ _ _ _ ht (SlU.nil _) (Nat.le_trans bt (by decide)) (by decide)).mono ?_
          rintro e w17 ⟨u17, rfl, hn130, hb17⟩
          obtain ⟨U17, c17, rfl⟩ := slU_form hn130
          replace hs := hs.below hb17
          replace ht := ht.below hb17
          replace hu := hu.below hb17
          replace hn129 := hn129.below hb17
          replace hbw := below_next hb17 hbw
          clear hb17
          go_wp2_with fail
          refine (equal_u64_call _ _ _ _ true (by rw [← Bs.win5 ws wt, Hst.out, Hts.out]; rfl) _ hn129 hn130).mono ?_
          rintro e w18 ⟨rfl, hb18⟩
          replace hs := hs.below hb18
          replace ht := ht.below hb18
          replace hu := hu.below hb18
          replace hn129 := hn129.below hb18
          replace hn130 := hn130.below hb18
          replace hbw := below_next hb18 hbw
          clear hb18
          clear hn129 hn130
          clear hs ht hu
          go_wp2
          go_ret
          exact ⟨rfl, hbw⟩

set_option maxHeartbeats 8000000 in
theorem bitsetWithin_walk (w : World) (v0 v1 v2 : Value) (s t u : List Nat) (hT : Tab w) (hs : SlU w v0 s) (ht : SlU w v1 t) (hu : SlU w v2 u) (bs : s.length ≤ 17592186044) (bt : t.length ≤ 17592186044) (bu : u.length ≤ 17592186044) :
    Calls Tryd.prog 5 #[v0, v1, v2] w fun e w' => e = .returned (.bool true) ∧ Below w.heap.size w w' := by
  rcases hus : Bs.win u s with _ | _
  · exact within1_walk w v0 v1 v2 s t u hT hs ht hu bs bt bu (Lib.hid hus)
  · rcases hut : Bs.win u t with _ | _
    · exact within2_walk w v0 v1 v2 s t u hT hs ht hu bs bt bu (Lib.hid hus) (Lib.hid hut)
    · exact within3_walk w v0 v1 v2 s t u hT hs ht hu bs bt bu (Lib.hid hus) (Lib.hid hut)
end Go.Proofs.YtniekhedpdkmiaaDoor
