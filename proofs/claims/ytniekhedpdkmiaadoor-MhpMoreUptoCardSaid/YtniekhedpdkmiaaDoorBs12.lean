/-
  BitsetAlgebra, BitsetCount, walked.
-/
import Derived.Test.YtniekhedpdkmiaaDoorBsPl
namespace Go.Proofs.YtniekhedpdkmiaaDoor
set_option linter.unusedVariables false
set_option linter.unusedSimpArgs false
open Go.RowKit

theorem Bs.op_le {f : Nat → Nat → Nat} {xs ys : List Nat} {n : Nat} (hx : xs.length ≤ n) (hy : ys.length ≤ n) : (Bs.op f xs ys).length ≤ n := Nat.le_trans (Bs.op_length _ _ _) (Nat.max_le.2 ⟨hx, hy⟩)
theorem size_call (w : World) (v : Value) (xs : List Nat) (h : SlU w v xs) (hr : xs.length ≤ 17592186044) (n : Nat) (hn : Bs.size xs = n) :
    Calls Tryd.prog 14 #[v] w fun e w' => e = .returned (.int .i64 (n : Int)) ∧ w = w' := by
  subst hn
  exact size_any w v xs h hr

set_option maxHeartbeats 8000000 in
theorem bitsetAlgebra_walk (w : World) (v0 v1 v2 : Value) (s t u : List Nat) (hT : Tab w) (hs : SlU w v0 s) (ht : SlU w v1 t) (hu : SlU w v2 u) (bs : s.length ≤ 17592186044) (bt : t.length ≤ 17592186044) (bu : u.length ≤ 17592186044) :
    Calls Tryd.prog 3 #[v0, v1, v2] w fun e w' => e = .returned (.bool true) ∧ Below w.heap.size w w' := by
  have ws := hs.2
  obtain ⟨A0, k0, rfl⟩ := slU_form hs
  have wt := ht.2
  obtain ⟨A1, k1, rfl⟩ := slU_form ht
  have wu := hu.2
  obtain ⟨A2, k2, rfl⟩ := slU_form hu
  go_enter Tryd.func3, Tryd.ntmps3
  have hbw : Below w.heap.size w w := Below.refl _ _
  go_wp2_with fail
  refine (alive1_any _ hT).mono ?_
  rintro e w1 ⟨rfl, hb1⟩
  replace hs := hs.below hb1
  replace ht := ht.below hb1
  replace hu := hu.below hb1
  replace hT := hT.step hb1
  replace hbw := below_next hb1 hbw
  clear hb1
  clear hT
  go_wp2_with fail
  refine (and_any _ _ _ _ _ hs ht (Nat.le_trans bs (by decide)) (Nat.le_trans bt (by decide))).mono ?_
  rintro e w2 ⟨u2, rfl, ha1, hb2⟩
  obtain ⟨U2, c2, rfl⟩ := slU_form ha1
  replace hs := hs.below hb2
  replace ht := ht.below hb2
  replace hu := hu.below hb2
  replace hbw := below_next hb2 hbw
  clear hb2
  go_wp2_with fail
  refine (and_any _ _ _ _ _ ht hs (Nat.le_trans bt (by decide)) (Nat.le_trans bs (by decide))).mono ?_
  rintro e w3 ⟨u3, rfl, ha2, hb3⟩
  obtain ⟨U3, c3, rfl⟩ := slU_form ha2
  replace hs := hs.below hb3
  replace ht := ht.below hb3
  replace hu := hu.below hb3
  replace ha1 := ha1.below hb3
  replace hbw := below_next hb3 hbw
  clear hb3
  go_wp2_with fail
  refine (equal_u64_call _ _ _ _ true (by rw [Bs.alg1 s t]; simp) _ ha1 ha2).mono ?_
  rintro e w4 ⟨rfl, hb4⟩
  replace hs := hs.below hb4
  replace ht := ht.below hb4
  replace hu := hu.below hb4
  replace ha1 := ha1.below hb4
  replace ha2 := ha2.below hb4
  replace hbw := below_next hb4 hbw
  clear hb4
  clear ha1 ha2
  go_wp2_with fail
  refine (or_any _ _ _ _ _ hs ht (Nat.le_trans bs (by decide)) (Nat.le_trans bt (by decide))).mono ?_
  rintro e w5 ⟨u5, rfl, ho3, hb5⟩
  obtain ⟨U5, c5, rfl⟩ := slU_form ho3
  replace hs := hs.below hb5
  replace ht := ht.below hb5
  replace hu := hu.below hb5
  replace hbw := below_next hb5 hbw
  clear hb5
  go_wp2_with fail
  refine (or_any _ _ _ _ _ ht hs (Nat.le_trans bt (by decide)) (Nat.le_trans bs (by decide))).mono ?_
  rintro e w6 ⟨u6, rfl, ho4, hb6⟩
  obtain ⟨U6, c6, rfl⟩ := slU_form ho4
  replace hs := hs.below hb6
  replace ht := ht.below hb6
  replace hu := hu.below hb6
  replace ho3 := ho3.below hb6
  replace hbw := below_next hb6 hbw
  clear hb6
  go_wp2_with fail
  refine (equal_u64_call _ _ _ _ true (by rw [Bs.alg2 s t]; simp) _ ho3 ho4).mono ?_
  rintro e w7 ⟨rfl, hb7⟩
  replace hs := hs.below hb7
  replace ht := ht.below hb7
  replace hu := hu.below hb7
  replace ho3 := ho3.below hb7
  replace ho4 := ho4.below hb7
  replace hbw := below_next hb7 hbw
  clear hb7
  clear ho3 ho4
  go_wp2_with fail
  refine (or_any _ _ _ _ _ ht hu (Nat.le_trans bt (by decide)) (Nat.le_trans bu (by decide))).mono ?_
  rintro e w8 ⟨u8, rfl, ho5, hb8⟩
  obtain ⟨U8, c8, rfl⟩ := slU_form ho5
  replace hs := hs.below hb8
  replace ht := ht.below hb8
  replace hu := hu.below hb8
  replace hbw := below_next hb8 hbw
  clear hb8
  go_wp2_with fail
  refine (and_any _ _ _ _ _ hs ho5 (Nat.le_trans bs (by decide)) (Nat.le_trans (Bs.op_le bt bu) (by decide))).mono ?_
  rintro e w9 ⟨u9, rfl, ha6, hb9⟩
  obtain ⟨U9, c9, rfl⟩ := slU_form ha6
  replace hs := hs.below hb9
  replace ht := ht.below hb9
  replace hu := hu.below hb9
  replace ho5 := ho5.below hb9
  replace hbw := below_next hb9 hbw
  clear hb9
  go_wp2_with fail
  refine (and_any _ _ _ _ _ hs ht (Nat.le_trans bs (by decide)) (Nat.le_trans bt (by decide))).mono ?_
  rintro e w10 ⟨u10, rfl, ha7, hb10⟩
  obtain ⟨U10, c10, rfl⟩ := slU_form ha7
  replace hs := hs.below hb10
  replace ht := ht.below hb10
  replace hu := hu.below hb10
  replace ho5 := ho5.below hb10
  replace ha6 := ha6.below hb10
  replace hbw := below_next hb10 hbw
  clear hb10
  go_wp2_with fail
  refine (and_any _ _ _ _ _ hs hu (Nat.le_trans bs (by decide)) (Nat.le_trans bu (by decide))).mono ?_
  rintro e w11 ⟨u11, rfl, ha8, hb11⟩
  obtain ⟨U11, c11, rfl⟩ := slU_form ha8
  replace hs := hs.below hb11
  replace ht := ht.below hb11
  replace hu := hu.below hb11
  replace ho5 := ho5.below hb11
  replace ha6 := ha6.below hb11
  replace ha7 := ha7.below hb11
  replace hbw := below_next hb11 hbw
  clear hb11
  go_wp2_with fail
  refine (or_any _ _ _ _ _ ha7 ha8 (Nat.le_trans (Bs.op_le bs bt) (by decide)) (Nat.le_trans (Bs.op_le bs bu) (by decide))).mono ?_
  rintro e w12 ⟨u12, rfl, ho9, hb12⟩
  obtain ⟨U12, c12, rfl⟩ := slU_form ho9
  replace hs := hs.below hb12
  replace ht := ht.below hb12
  replace hu := hu.below hb12
  replace ho5 := ho5.below hb12
  replace ha6 := ha6.below hb12
  replace ha7 := ha7.below hb12
  replace ha8 := ha8.below hb12
  replace hbw := below_next hb12 hbw
  clear hb12
  go_wp2_with fail
  refine (equal_u64_call _ _ _ _ true (by rw [Bs.alg3 s t u]; simp) _ ha6 ho9).mono ?_
  rintro e w13 ⟨rfl, hb13⟩
  replace hs := hs.below hb13
  replace ht := ht.below hb13
  replace hu := hu.below hb13
  replace ho5 := ho5.below hb13
  replace ha6 := ha6.below hb13
  replace ha7 := ha7.below hb13
  replace ha8 := ha8.below hb13
  replace ho9 := ho9.below hb13
  replace hbw := below_next hb13 hbw
  clear hb13
  clear ho5 ha6 ha7 ha8 ho9
  go_wp2_with fail
  refine (and_any _ _ _ _ _ ht hu (Nat.le_trans bt (by decide)) (Nat.le_trans bu (by decide))).mono ?_
  rintro e w14 ⟨u14, rfl, ha10, hb14⟩
  obtain ⟨U14, c14, rfl⟩ := slU_form ha10
  replace hs := hs.below hb14
  replace ht := ht.below hb14
  replace hu := hu.below hb14
  replace hbw := below_next hb14 hbw
  clear hb14
  go_wp2_with fail
  refine (or_any _ _ _ _ _ hs ha10 (Nat.le_trans bs (by decide)) (Nat.le_trans (Bs.op_le bt bu) (by decide))).mono ?_
  rintro e w15 ⟨u15, rfl, ho11, hb15⟩
  obtain ⟨U15, c15, rfl⟩ := slU_form ho11
  replace hs := hs.below hb15
  replace ht := ht.below hb15
  replace hu := hu.below hb15
  replace ha10 := ha10.below hb15
  replace hbw := below_next hb15 hbw
  clear hb15
  go_wp2_with fail
  refine (or_any _ _ _ _ _ hs ht (Nat.le_trans bs (by decide)) (Nat.le_trans bt (by decide))).mono ?_
  rintro e w16 ⟨u16, rfl, ho12, hb16⟩
  obtain ⟨U16, c16, rfl⟩ := slU_form ho12
  replace hs := hs.below hb16
  replace ht := ht.below hb16
  replace hu := hu.below hb16
  replace ha10 := ha10.below hb16
  replace ho11 := ho11.below hb16
  replace hbw := below_next hb16 hbw
  clear hb16
  go_wp2_with fail
  refine (or_any _ _ _ _ _ hs hu (Nat.le_trans bs (by decide)) (Nat.le_trans bu (by decide))).mono ?_
  rintro e w17 ⟨u17, rfl, ho13, hb17⟩
  obtain ⟨U17, c17, rfl⟩ := slU_form ho13
  replace hs := hs.below hb17
  replace ht := ht.below hb17
  replace hu := hu.below hb17
  replace ha10 := ha10.below hb17
  replace ho11 := ho11.below hb17
  replace ho12 := ho12.below hb17
  replace hbw := below_next hb17 hbw
  clear hb17
  go_wp2_with fail
  refine (and_any _ _ _ _ _ ho12 ho13 (Nat.le_trans (Bs.op_le bs bt) (by decide)) (Nat.le_trans (Bs.op_le bs bu) (by decide))).mono ?_
  rintro e w18 ⟨u18, rfl, ha14, hb18⟩
  obtain ⟨U18, c18, rfl⟩ := slU_form ha14
  replace hs := hs.below hb18
  replace ht := ht.below hb18
  replace hu := hu.below hb18
  replace ha10 := ha10.below hb18
  replace ho11 := ho11.below hb18
  replace ho12 := ho12.below hb18
  replace ho13 := ho13.below hb18
  replace hbw := below_next hb18 hbw
  clear hb18
  go_wp2_with fail
  refine (equal_u64_call _ _ _ _ true (by rw [Bs.alg4 s t u]; simp) _ ho11 ha14).mono ?_
  rintro e w19 ⟨rfl, hb19⟩
  replace hs := hs.below hb19
  replace ht := ht.below hb19
  replace hu := hu.below hb19
  replace ha10 := ha10.below hb19
  replace ho11 := ho11.below hb19
  replace ho12 := ho12.below hb19
  replace ho13 := ho13.below hb19
  replace ha14 := ha14.below hb19
  replace hbw := below_next hb19 hbw
  clear hb19
  clear ha10 ho11 ho12 ho13 ha14
  go_wp2_with fail
  refine (and_any _ _ _ _ _ hs ht (Nat.le_trans bs (by decide)) (Nat.le_trans bt (by decide))).mono ?_
  rintro e w20 ⟨u20, rfl, ha15, hb20⟩
  obtain ⟨U20, c20, rfl⟩ := slU_form ha15
  replace hs := hs.below hb20
  replace ht := ht.below hb20
  replace hu := hu.below hb20
  replace hbw := below_next hb20 hbw
  clear hb20
  go_wp2_with fail
  refine (less_any _ _ _ _ _ hs ht (Nat.le_trans bs (by decide)) (Nat.le_trans bt (by decide))).mono ?_
  rintro e w21 ⟨u21, rfl, hl16, hb21⟩
  obtain ⟨U21, c21, rfl⟩ := slU_form hl16
  replace hs := hs.below hb21
  replace ht := ht.below hb21
  replace hu := hu.below hb21
  replace ha15 := ha15.below hb21
  replace hbw := below_next hb21 hbw
  clear hb21
  go_wp2_with fail
  refine (or_any _ _ _ _ _ ha15 hl16 (Nat.le_trans (Bs.op_le bs bt) (by decide)) (Nat.le_trans (Bs.op_le bs bt) (by decide))).mono ?_
  rintro e w22 ⟨u22, rfl, ho17, hb22⟩
  obtain ⟨U22, c22, rfl⟩ := slU_form ho17
  replace hs := hs.below hb22
  replace ht := ht.below hb22
  replace hu := hu.below hb22
  replace ha15 := ha15.below hb22
  replace hl16 := hl16.below hb22
  replace hbw := below_next hb22 hbw
  clear hb22
  go_wp2_with fail
  refine (or_any _ _ _ _ _ hs (SlU.nil _) (Nat.le_trans bs (by decide)) (by decide)).mono ?_
  rintro e w23 ⟨u23, rfl, hn18, hb23⟩
  obtain ⟨U23, c23, rfl⟩ := slU_form hn18
  replace hs := hs.below hb23
  replace ht := ht.below hb23
  replace hu := hu.below hb23
  replace ha15 := ha15.below hb23
  replace hl16 := hl16.below hb23
  replace ho17 := ho17.below hb23
  replace hbw := below_next hb23 hbw
  clear hb23
  go_wp2_with fail
  refine (equal_u64_call _ _ _ _ true (by rw [Bs.alg5 ws wt]; simp) _ ho17 hn18).mono ?_
  rintro e w24 ⟨rfl, hb24⟩
  replace hs := hs.below hb24
  replace ht := ht.below hb24
  replace hu := hu.below hb24
  replace ha15 := ha15.below hb24
  replace hl16 := hl16.below hb24
  replace ho17 := ho17.below hb24
  replace hn18 := hn18.below hb24
  replace hbw := below_next hb24 hbw
  clear hb24
  clear ha15 hl16 ho17 hn18
  go_wp2_with fail
  refine (less_any _ _ _ _ _ hs ht (Nat.le_trans bs (by decide)) (Nat.le_trans bt (by decide))).mono ?_
  rintro e w25 ⟨u25, rfl, hl19, hb25⟩
  obtain ⟨U25, c25, rfl⟩ := slU_form hl19
  replace hs := hs.below hb25
  replace ht := ht.below hb25
  replace hu := hu.below hb25
  replace hbw := below_next hb25 hbw
  clear hb25
  go_wp2_with fail
  refine (and_any _ _ _ _ _ hl19 ht (Nat.le_trans (Bs.op_le bs bt) (by decide)) (Nat.le_trans bt (by decide))).mono ?_
  rintro e w26 ⟨u26, rfl, hz, hb26⟩
  rw [Bs.alg6 ws wt] at hz
  obtain ⟨U26, c26, rfl⟩ := slU_form hz
  replace hs := hs.below hb26
  replace ht := ht.below hb26
  replace hu := hu.below hb26
  replace hl19 := hl19.below hb26
  replace hbw := below_next hb26 hbw
  clear hb26
  clear hs ht hu hl19 hz
  go_wp2
  go_ret
  exact ⟨rfl, hbw⟩

set_option maxHeartbeats 8000000 in
theorem bitsetCount_walk (w : World) (v0 v1 : Value) (s t : List Nat) (hT : Tab w) (hs : SlU w v0 s) (ht : SlU w v1 t) (bs : s.length ≤ 17592186044) (bt : t.length ≤ 17592186044) :
    Calls Tryd.prog 4 #[v0, v1] w fun e w' => e = .returned (.bool true) ∧ Below w.heap.size w w' := by
  have ws := hs.2
  obtain ⟨A0, k0, rfl⟩ := slU_form hs
  have wt := ht.2
  obtain ⟨A1, k1, rfl⟩ := slU_form ht
  obtain ⟨a, ha⟩ : ∃ a, Bs.size s = a := ⟨_, rfl⟩
  obtain ⟨b, hb⟩ : ∃ b, Bs.size t = b := ⟨_, rfl⟩
  obtain ⟨c, hc⟩ : ∃ c, Bs.size (Bs.op Bs.for_ s t) = c := ⟨_, rfl⟩
  obtain ⟨d, hd⟩ : ∃ d, Bs.size (Bs.op Bs.fand s t) = d := ⟨_, rfl⟩
  have e := Bs.count s t
  rw [ha, hb, hc, hd] at e
  have la := Bs.size_le s
  rw [ha] at la
  have lb := Bs.size_le t
  rw [hb] at lb
  have lc := Bs.size_le (Bs.op Bs.for_ s t)
  rw [hc] at lc
  have ld := Bs.size_le (Bs.op Bs.fand s t)
  rw [hd] at ld
  have lo := Bs.op_le (f := Bs.for_) bs bt
  have la' := Bs.op_le (f := Bs.fand) bs bt
  have e' : ((a : Int) + (b : Int) == (c : Int) + (d : Int)) = true := by simp; omega
  have hls : (Bs.ls 0 s).length = a := by rw [Bs.size_ls 0 s ws, ha]
  have Ha := Lib.hid ha
  have Hb := Lib.hid hb
  have Hc := Lib.hid hc
  have Hd := Lib.hid hd
  have HL := Lib.hid hls
  clear e ha hb hc hd hls
  go_enter Tryd.func4, Tryd.ntmps4
  have hbw : Below w.heap.size w w := Below.refl _ _
  go_wp2_with fail
  refine (alive1_any _ hT).mono ?_
  rintro e w1 ⟨rfl, hb1⟩
  replace hs := hs.below hb1
  replace ht := ht.below hb1
  replace hT := hT.step hb1
  replace hbw := below_next hb1 hbw
  clear hb1
  go_wp2_with fail
  refine (size_call _ _ _ hs bs a Ha.out).mono ?_
  rintro e w2 ⟨rfl, rfl⟩
  go_wp2_with fail
  refine (size_call _ _ _ ht bt b Hb.out).mono ?_
  rintro e w3 ⟨rfl, rfl⟩
  go_wp2_with fail
  refine (or_any _ _ _ _ _ hs ht (Nat.le_trans bs (by decide)) (Nat.le_trans bt (by decide))).mono ?_
  rintro e w4 ⟨u4, rfl, ho21, hb4⟩
  obtain ⟨U4, c4, rfl⟩ := slU_form ho21
  replace hs := hs.below hb4
  replace ht := ht.below hb4
  replace hT := hT.step hb4
  replace hbw := below_next hb4 hbw
  clear hb4
  go_wp2_with fail
  refine (size_call _ _ _ ho21 lo c Hc.out).mono ?_
  rintro e w5 ⟨rfl, rfl⟩
  go_wp2_with fail
  refine (and_any _ _ _ _ _ hs ht (Nat.le_trans bs (by decide)) (Nat.le_trans bt (by decide))).mono ?_
  rintro e w6 ⟨u6, rfl, ha22, hb6⟩
  obtain ⟨U6, c6, rfl⟩ := slU_form ha22
  replace hs := hs.below hb6
  replace ht := ht.below hb6
  replace ho21 := ho21.below hb6
  replace hT := hT.step hb6
  replace hbw := below_next hb6 hbw
  clear hb6
  go_wp2_with fail
  refine (size_call _ _ _ ha22 la' d Hd.out).mono ?_
  rintro e w7 ⟨rfl, rfl⟩
  clear ho21 ha22
  go_wp2_with fail
  refine (size_call _ _ _ hs bs a Ha.out).mono ?_
  rintro e w8 ⟨rfl, rfl⟩
  go_wp2_with fail
  refine (list_any _ _ _ hs hT bs).mono ?_
  rintro e w9 ⟨u9, rfl, hl, hb9⟩
  rw [HL.out] at hl
  obtain ⟨U9, c9, rfl⟩ := len_of hl
  replace hs := hs.below hb9
  replace ht := ht.below hb9
  replace hT := hT.step hb9
  replace hbw := below_next hb9 hbw
  clear hb9
  clear hs ht hl hT
  go_wp2
  go_ret
  exact ⟨rfl, hbw⟩
end Go.Proofs.YtniekhedpdkmiaaDoor
