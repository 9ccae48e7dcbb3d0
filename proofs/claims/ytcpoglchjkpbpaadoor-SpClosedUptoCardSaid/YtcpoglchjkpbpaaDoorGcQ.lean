/-
  What is closed stays as it is: the closure of the closure is it, and it has all edges; the core has the same closure, and the closure the same core. On condition that what is read is of bulk at most 1048576; the table of math/bits is as its initialiser lays it (tied to the program's text).
-/
import Derived.Test.YtcpoglchjkpbpaaDoorGrY
import Derived.Test.YtcpoglchjkpbpaaDoorTabEnd
import Derived.Test.YtcpoglchjkpbpaaDoorGrX

namespace Go.Proofs.YtcpoglchjkpbpaaDoor
set_option linter.unusedVariables false
set_option linter.unusedSimpArgs false
set_option maxRecDepth 100000
open Go.RowKit

theorem edW_len {N : Nat} {L : List (List Nat)} (hN : N ≤ 200) (h : ∀ s ∈ L, Bs.Gs N s) (hL : L.length = N) : (Gr.edW L).length ≤ 40000 := by
  have h1 := Gr.edk_len h L.length
  have h2 := Nat.mul_le_mul hN hN
  unfold Gr.edW
  rw [hL] at h1 ⊢
  omega

set_option maxHeartbeats 8000000 in
theorem closed_yes (w : World) (N : Nat) (es : List Gr.Ed) (A : Option Addr) (c : Nat) (hN : N ≤ 200) (hlt : ∀ e ∈ es, e.1 < N ∧ e.2 < N) (hf : (Gr.take N es).length = N) (hA : SlV w 2 (.slice A es.length c) es.length (edcs es)) (hle : es.length ≤ 1099511627776) (hT : Tab w) :
    Calls Tryd.prog 5 #[.agg #[.int .i64 (N : Int), .slice A es.length c]] w fun e w' => e = .returned (.bool true) ∧ Below w.heap.size w w' := by
  obtain ⟨C, hC⟩ : ∃ C, C = Gr.edW (Gr.behW N es) := ⟨_, rfl⟩
  obtain ⟨K, hK⟩ : ∃ K, K = Gr.edW (Gr.coreW (Gr.behW N es)) := ⟨_, rfl⟩
  have hCl : C.length ≤ 40000 := by rw [hC]; exact edW_len hN (Gr.beh_gs hf hlt) (Gr.behW_length _ _)
  have hKl : K.length ≤ 40000 := by rw [hK]; exact edW_len hN (Gr.coreW_gs (Gr.beh_gs hf hlt)) (by rw [Gr.coreW_length, Gr.behW_length])
  -- the calls
  have fC : ∀ w' A' c', SlV w' 2 (.slice A' C.length c') C.length (edcs C) → Tab w' → Calls Tryd.prog 19 #[.agg #[.int .i64 (N : Int), .slice A' C.length c']] w' fun e w'' => ∃ A2 c2, e = .returned (.tuple #[.agg #[.int .i64 (N : Int), .slice A2 C.length c2], .int .i64 0]) ∧ SlV w'' 2 (.slice A2 C.length c2) C.length (edcs C) ∧ Below w'.heap.size w' w'' := fun w' A' c' h ht => by
    have := closure_nat hN (Gr.clo_lt hf hlt) (Gr.clo_full hf hlt) w' A' c' (by rw [← hC]; exact h) (by rw [← hC]; omega) ht
    rw [Gr.clo_same hf hlt, ← hC] at this
    exact this
  have fE : ∀ w', SlV w' 2 (.slice A es.length c) es.length (edcs es) → Tab w' → Calls Tryd.prog 19 #[.agg #[.int .i64 (N : Int), .slice A es.length c]] w' fun e w'' => ∃ A2 c2, e = .returned (.tuple #[.agg #[.int .i64 (N : Int), .slice A2 C.length c2], .int .i64 0]) ∧ SlV w'' 2 (.slice A2 C.length c2) C.length (edcs C) ∧ Below w'.heap.size w' w'' := fun w' h ht => by
    have := closure_nat hN hlt hf w' A c h hle ht
    rw [← hC] at this
    exact this
  have fK : ∀ w' A' c', SlV w' 2 (.slice A' K.length c') K.length (edcs K) → Tab w' → Calls Tryd.prog 19 #[.agg #[.int .i64 (N : Int), .slice A' K.length c']] w' fun e w'' => ∃ A2 c2, e = .returned (.tuple #[.agg #[.int .i64 (N : Int), .slice A2 C.length c2], .int .i64 0]) ∧ SlV w'' 2 (.slice A2 C.length c2) C.length (edcs C) ∧ Below w'.heap.size w' w'' := fun w' A' c' h ht => by
    have := closure_nat hN (Gr.core_lt hf hlt) (Gr.core_full hf hlt) w' A' c' (by rw [← hK]; exact h) (by rw [← hK]; omega) ht
    rw [Gr.core_same hf hlt, ← hC, ← hK] at this
    exact this
  have kE : ∀ w', SlV w' 2 (.slice A es.length c) es.length (edcs es) → Tab w' → Calls Tryd.prog 20 #[.agg #[.int .i64 (N : Int), .slice A es.length c]] w' fun e w'' => ∃ A2 c2, e = .returned (.tuple #[.agg #[.int .i64 (N : Int), .slice A2 K.length c2], .int .i64 0]) ∧ SlV w'' 2 (.slice A2 K.length c2) K.length (edcs K) ∧ Below w'.heap.size w' w'' := fun w' h ht => by
    have := core_nat hN hlt hf w' A c h hle ht
    rw [← hK] at this
    exact this
  have kC : ∀ w' A' c', SlV w' 2 (.slice A' C.length c') C.length (edcs C) → Tab w' → Calls Tryd.prog 20 #[.agg #[.int .i64 (N : Int), .slice A' C.length c']] w' fun e w'' => ∃ A2 c2, e = .returned (.tuple #[.agg #[.int .i64 (N : Int), .slice A2 K.length c2], .int .i64 0]) ∧ SlV w'' 2 (.slice A2 K.length c2) K.length (edcs K) ∧ Below w'.heap.size w' w'' := fun w' A' c' h ht => by
    have := core_nat hN (Gr.clo_lt hf hlt) (Gr.clo_full hf hlt) w' A' c' (by rw [← hC]; exact h) (by rw [← hC]; omega) ht
    rw [Gr.clo_same hf hlt, ← hK, ← hC] at this
    exact this
  have hhas : ∀ e ∈ es, e ∈ C := by rw [hC]; exact Gr.clo_has hf hlt
  clear hC hK hlt hf
  have hba : Below w.heap.size w (w.alloc (.cells #[.int .i64 (N : Int), .slice A es.length c] 24)) := below_alloc (Below.refl _ _) _
  have x0 := Blk.new w 24 [.int .i64 (N : Int), .slice A es.length c]
  have HT := Lib.hid hT
  clear hT
  go_enter Tryd.func5, Tryd.ntmps5
  go_upto_region 1 with (fail)
  generalize (w.alloc (.cells #[.int .i64 (N : Int), .slice A es.length c] 24)) = W0 at x0 hba ⊢
  go_wp2_with fail
  refine (alive2_any W0 (HT.out.later HT.out.lt hba)).mono ?_
  rintro e w1 ⟨rfl, hb1⟩
  have x1 := x0.below hb1
  have c0 : w1.cell? ⟨w.heap.size, 0, none⟩ = some (.int .i64 (N : Int)) := (x1.cell 0).trans rfl
  have c1 : w1.cell? ⟨w.heap.size, 1, none⟩ = some (.slice A es.length c) := (x1.cell 1).trans rfl
  have hb01 := below_next hb1 hba
  clear x0 hba hb1
  go_wp2_with fail
  refine (fE w1 (hA.below hb01) (HT.out.later HT.out.lt hb01)).mono ?_
  rintro e v1 ⟨A1, C1, rfl, s1, hbv⟩
  have p1 := Blk.new v1 24 [.int .i64 (N : Int), .slice A1 C.length C1]
  have hba := below_alloc (below_next hbv hb01) (.cells #[.int .i64 (N : Int), .slice A1 C.length C1] 24)
  have x2 := (x1.below hbv).alloc (.cells #[.int .i64 (N : Int), .slice A1 C.length C1] 24)
  have s1 := s1.alloc (.cells #[.int .i64 (N : Int), .slice A1 C.length C1] 24)
  clear x1 c0 c1 hb01 hbv fE
  go_upto_region 6 with (fail)
  obtain ⟨q1, hq1⟩ : ∃ q, q = v1.heap.size := ⟨_, rfl⟩
  simp only [← hq1] at p1 ⊢
  clear hq1
  generalize v1.alloc (.cells #[.int .i64 (N : Int), .slice A1 C.length C1] 24) = w2 at p1 hba x2 s1 ⊢
  have c0 : w2.cell? ⟨q1, 0, none⟩ = some (.int .i64 (N : Int)) := (p1.cell 0).trans rfl
  have c1 : w2.cell? ⟨q1, 1, none⟩ = some (.slice A1 C.length C1) := (p1.cell 1).trans rfl
  go_wp2_with fail
  refine (fC w2 _ _ s1 (HT.out.later HT.out.lt hba)).mono ?_
  rintro e v2 ⟨A2, C2, rfl, s2, hbv⟩
  have p2 := Blk.new v2 24 [.int .i64 (N : Int), .slice A2 C.length C2]
  have hbb := below_alloc (below_next hbv hba) (.cells #[.int .i64 (N : Int), .slice A2 C.length C2] 24)
  have x3 := (x2.below hbv).alloc (.cells #[.int .i64 (N : Int), .slice A2 C.length C2] 24)
  have p1 := (p1.below hbv).alloc (.cells #[.int .i64 (N : Int), .slice A2 C.length C2] 24)
  have s1 := (s1.below hbv).alloc (.cells #[.int .i64 (N : Int), .slice A2 C.length C2] 24)
  have s2 := s2.alloc (.cells #[.int .i64 (N : Int), .slice A2 C.length C2] 24)
  clear x2 c0 c1 hba hbv
  go_upto_region 7 with (fail)
  obtain ⟨q2, hq2⟩ : ∃ q, q = v2.heap.size := ⟨_, rfl⟩
  simp only [← hq2] at p2 ⊢
  clear hq2
  generalize v2.alloc (.cells #[.int .i64 (N : Int), .slice A2 C.length C2] 24) = w3 at p1 p2 hbb x3 s1 s2 ⊢
  have c0 : w3.cell? ⟨w.heap.size, 0, none⟩ = some (.int .i64 (N : Int)) := (x3.cell 0).trans rfl
  have c1 : w3.cell? ⟨w.heap.size, 1, none⟩ = some (.slice A es.length c) := (x3.cell 1).trans rfl
  go_wp2_with fail
  refine (kE w3 (hA.below hbb) (HT.out.later HT.out.lt hbb)).mono ?_
  rintro e v3 ⟨A3, C3, rfl, s3, hbv⟩
  have p3 := Blk.new v3 24 [.int .i64 (N : Int), .slice A3 K.length C3]
  have hba := below_alloc (below_next hbv hbb) (.cells #[.int .i64 (N : Int), .slice A3 K.length C3] 24)
  have x4 := (x3.below hbv).alloc (.cells #[.int .i64 (N : Int), .slice A3 K.length C3] 24)
  have p1 := (p1.below hbv).alloc (.cells #[.int .i64 (N : Int), .slice A3 K.length C3] 24)
  have p2 := (p2.below hbv).alloc (.cells #[.int .i64 (N : Int), .slice A3 K.length C3] 24)
  have s1 := (s1.below hbv).alloc (.cells #[.int .i64 (N : Int), .slice A3 K.length C3] 24)
  have s2 := (s2.below hbv).alloc (.cells #[.int .i64 (N : Int), .slice A3 K.length C3] 24)
  have s3 := s3.alloc (.cells #[.int .i64 (N : Int), .slice A3 K.length C3] 24)
  clear x3 c0 c1 hbb hbv kE
  go_upto_region 8 with (fail)
  obtain ⟨q3, hq3⟩ : ∃ q, q = v3.heap.size := ⟨_, rfl⟩
  simp only [← hq3] at p3 ⊢
  clear hq3
  generalize v3.alloc (.cells #[.int .i64 (N : Int), .slice A3 K.length C3] 24) = w4 at p1 p2 p3 hba x4 s1 s2 s3 ⊢
  have c0 : w4.cell? ⟨q3, 0, none⟩ = some (.int .i64 (N : Int)) := (p3.cell 0).trans rfl
  have c1 : w4.cell? ⟨q3, 1, none⟩ = some (.slice A3 K.length C3) := (p3.cell 1).trans rfl
  go_wp2_with fail
  refine (fK w4 _ _ s3 (HT.out.later HT.out.lt hba)).mono ?_
  rintro e v4 ⟨A4, C4, rfl, s4, hbv⟩
  have p4 := Blk.new v4 24 [.int .i64 (N : Int), .slice A4 C.length C4]
  have hbb := below_alloc (below_next hbv hba) (.cells #[.int .i64 (N : Int), .slice A4 C.length C4] 24)
  have x5 := (x4.below hbv).alloc (.cells #[.int .i64 (N : Int), .slice A4 C.length C4] 24)
  have p1 := (p1.below hbv).alloc (.cells #[.int .i64 (N : Int), .slice A4 C.length C4] 24)
  have p2 := (p2.below hbv).alloc (.cells #[.int .i64 (N : Int), .slice A4 C.length C4] 24)
  have p3 := (p3.below hbv).alloc (.cells #[.int .i64 (N : Int), .slice A4 C.length C4] 24)
  have s1 := (s1.below hbv).alloc (.cells #[.int .i64 (N : Int), .slice A4 C.length C4] 24)
  have s2 := (s2.below hbv).alloc (.cells #[.int .i64 (N : Int), .slice A4 C.length C4] 24)
  have s3 := (s3.below hbv).alloc (.cells #[.int .i64 (N : Int), .slice A4 C.length C4] 24)
  have s4 := s4.alloc (.cells #[.int .i64 (N : Int), .slice A4 C.length C4] 24)
  clear x4 c0 c1 hba hbv fK
  go_upto_region 9 with (fail)
  obtain ⟨q4, hq4⟩ : ∃ q, q = v4.heap.size := ⟨_, rfl⟩
  simp only [← hq4] at p4 ⊢
  clear hq4
  generalize v4.alloc (.cells #[.int .i64 (N : Int), .slice A4 C.length C4] 24) = w5 at p1 p2 p3 p4 hbb x5 s1 s2 s3 s4 ⊢
  have c0 : w5.cell? ⟨q1, 0, none⟩ = some (.int .i64 (N : Int)) := (p1.cell 0).trans rfl
  have c1 : w5.cell? ⟨q1, 1, none⟩ = some (.slice A1 C.length C1) := (p1.cell 1).trans rfl
  go_wp2_with fail
  refine (kC w5 _ _ s1 (HT.out.later HT.out.lt hbb)).mono ?_
  rintro e v5 ⟨A5, C5, rfl, s5, hbv⟩
  have p5 := Blk.new v5 24 [.int .i64 (N : Int), .slice A5 K.length C5]
  have hba := below_alloc (below_next hbv hbb) (.cells #[.int .i64 (N : Int), .slice A5 K.length C5] 24)
  have x6 := (x5.below hbv).alloc (.cells #[.int .i64 (N : Int), .slice A5 K.length C5] 24)
  have p1 := (p1.below hbv).alloc (.cells #[.int .i64 (N : Int), .slice A5 K.length C5] 24)
  have p2 := (p2.below hbv).alloc (.cells #[.int .i64 (N : Int), .slice A5 K.length C5] 24)
  have p3 := (p3.below hbv).alloc (.cells #[.int .i64 (N : Int), .slice A5 K.length C5] 24)
  have p4 := (p4.below hbv).alloc (.cells #[.int .i64 (N : Int), .slice A5 K.length C5] 24)
  have s1 := (s1.below hbv).alloc (.cells #[.int .i64 (N : Int), .slice A5 K.length C5] 24)
  have s2 := (s2.below hbv).alloc (.cells #[.int .i64 (N : Int), .slice A5 K.length C5] 24)
  have s3 := (s3.below hbv).alloc (.cells #[.int .i64 (N : Int), .slice A5 K.length C5] 24)
  have s4 := (s4.below hbv).alloc (.cells #[.int .i64 (N : Int), .slice A5 K.length C5] 24)
  have s5 := s5.alloc (.cells #[.int .i64 (N : Int), .slice A5 K.length C5] 24)
  clear x5 c0 c1 hbb hbv kC fC
  go_upto_region 10 with (fail)
  obtain ⟨q5, hq5⟩ : ∃ q, q = v5.heap.size := ⟨_, rfl⟩
  simp only [← hq5] at p5 ⊢
  clear hq5
  generalize v5.alloc (.cells #[.int .i64 (N : Int), .slice A5 K.length C5] 24) = w6 at p1 p2 p3 p4 p5 hba x6 s1 s2 s3 s4 s5 ⊢
  have c1 : w6.cell? ⟨w.heap.size, 1, none⟩ = some (.slice A es.length c) := (x6.cell 1).trans rfl
  have HP := Lib.hid (And.intro p1 (And.intro p2 (And.intro p3 (And.intro p4 p5))))
  have HS := Lib.hid (And.intro s1 (And.intro s2 (And.intro s3 (And.intro s4 s5))))
  have hA6 := hA.below hba
  clear p1 p2 p3 p4 p5 s1 s2 s3 s4 s5 hA x6 hCl hKl
  go_wp2_with fail
  clear c1
  go_loopw [51] (fun i wr => ∃ k : Nat, k ≤ es.length ∧ i = .int .i64 (k : Int) ∧ Below w6.heap.size w6 wr) (fun i _ => es.length - (intOf i).toNat)
  case atStart => exact ⟨0, Nat.zero_le _, rfl, Below.refl _ _⟩
  case round =>
    obtain ⟨k, hk, rfl, hb6⟩ := hrel
    by_cases hlt : k < es.length
    · obtain ⟨⟨a, b⟩, hx⟩ : ∃ x, es[k]? = some x := ⟨_, List.getElem?_eq_getElem hlt⟩
      have hm := hhas _ (List.mem_of_getElem? hx)
      obtain ⟨g1, g2⟩ := edcs_get _ _ _ hx
      obtain ⟨A', c', he, -, -, -, hcc⟩ := hA6.below hb6
      injection he with e1 e2 e3
      subst e1 e3
      obtain ⟨g, o, rfl, hgl, hcell⟩ := hcc.at_ (fun e => by rw [e] at g1; simp at g1)
      have d0 : wr.cell? ⟨g, o + k * 2, none⟩ = some (.int .i64 (a : Int)) := hcell _ _ g1
      have d1 : wr.cell? ⟨g, o + k * 2 + 1, none⟩ = some (.int .i64 (b : Int)) := by rw [Nat.add_assoc]; exact hcell _ _ g2
      have hE := Blk.new wr 34 [.int .i64 (a : Int), .int .i64 (b : Int)]
      have hb7 := below_alloc hb6 (.cells #[.int .i64 (a : Int), .int .i64 (b : Int)] 34)
      have HM := Lib.hid hm
      have HA6 := Lib.hid hA6
      clear g1 g2 hcc hcell hm hx e2 hA6 hb6
      go_upto_region 13 with (fail)
      generalize (wr.alloc (.cells #[.int .i64 (a : Int), .int .i64 (b : Int)] 34)) = w7 at hE hb7 ⊢
      have f0 : w7.cell? ⟨wr.heap.size, 0, none⟩ = some (.int .i64 (a : Int)) := (hE.cell 0).trans rfl
      have f1 : w7.cell? ⟨wr.heap.size, 1, none⟩ = some (.int .i64 (b : Int)) := (hE.cell 1).trans rfl
      have e1 : w7.cell? ⟨q1, 1, none⟩ = some (.slice A1 C.length C1) := ((HP.out.1.below hb7).cell 1).trans rfl
      have t1 := HS.out.1.below hb7
      clear d0 d1 hE
      go_wp2_with fail
      refine (contains_edge _ C a b w7 t1 HM.out).mono ?_
      rintro e w8 ⟨rfl, hb8⟩
      have hb68 := below_next hb8 hb7
      clear hb8 hb7 f0 f1 e1 t1
      go_wp2_with fail
      go_roundw
      case rel => exact ⟨k + 1, by omega, by go_num, hb68⟩
      case measure => simp [intOf]; omega
    · obtain rfl : k = es.length := by omega
      have c0 : wr.cell? ⟨q1, 0, none⟩ = some (.int .i64 (N : Int)) := ((HP.out.1.below hb6).cell 0).trans rfl
      have c1 : wr.cell? ⟨q1, 1, none⟩ = some (.slice A1 C.length C1) := ((HP.out.1.below hb6).cell 1).trans rfl
      have d0 : wr.cell? ⟨q2, 0, none⟩ = some (.int .i64 (N : Int)) := ((HP.out.2.1.below hb6).cell 0).trans rfl
      have d1 : wr.cell? ⟨q2, 1, none⟩ = some (.slice A2 C.length C2) := ((HP.out.2.1.below hb6).cell 1).trans rfl
      have HA := Lib.hid hb6
      clear hA6 hb6
      go_wp2_with fail
      refine (same_graph wr N N _ _ _ _ C C (HS.out.2.1.below HA.out) (HS.out.1.below HA.out) rfl rfl).mono ?_
      rintro e v1 ⟨rfl, hb7⟩
      have HB := Lib.hid (below_next hb7 HA.out)
      clear hb7 c0 c1 d0 d1
      have c0 : v1.cell? ⟨q1, 0, none⟩ = some (.int .i64 (N : Int)) := ((HP.out.1.below HB.out).cell 0).trans rfl
      have c1 : v1.cell? ⟨q1, 1, none⟩ = some (.slice A1 C.length C1) := ((HP.out.1.below HB.out).cell 1).trans rfl
      have d0 : v1.cell? ⟨q4, 0, none⟩ = some (.int .i64 (N : Int)) := ((HP.out.2.2.2.1.below HB.out).cell 0).trans rfl
      have d1 : v1.cell? ⟨q4, 1, none⟩ = some (.slice A4 C.length C4) := ((HP.out.2.2.2.1.below HB.out).cell 1).trans rfl
      go_wp2_with fail
      refine (same_graph v1 N N _ _ _ _ C C (HS.out.2.2.2.1.below HB.out) (HS.out.1.below HB.out) rfl rfl).mono ?_
      rintro e v2 ⟨rfl, hb8⟩
      have HD := Lib.hid (below_next hb8 HB.out)
      clear hb8 c0 c1 d0 d1
      have c0 : v2.cell? ⟨q3, 0, none⟩ = some (.int .i64 (N : Int)) := ((HP.out.2.2.1.below HD.out).cell 0).trans rfl
      have c1 : v2.cell? ⟨q3, 1, none⟩ = some (.slice A3 K.length C3) := ((HP.out.2.2.1.below HD.out).cell 1).trans rfl
      have d0 : v2.cell? ⟨q5, 0, none⟩ = some (.int .i64 (N : Int)) := ((HP.out.2.2.2.2.below HD.out).cell 0).trans rfl
      have d1 : v2.cell? ⟨q5, 1, none⟩ = some (.slice A5 K.length C5) := ((HP.out.2.2.2.2.below HD.out).cell 1).trans rfl
      go_wp2_with fail
      refine (same_graph v2 N N _ _ _ _ K K (HS.out.2.2.2.2.below HD.out) (HS.out.2.2.1.below HD.out) rfl rfl).mono ?_
      rintro e v3 ⟨rfl, hb9⟩
      have hfin := below_next hb9 (below_next HD.out hba)
      clear hb9 c0 c1 d0 d1 hba
      go_wp2_with fail
      go_ret
      exact ⟨rfl, hfin⟩
end Go.Proofs.YtcpoglchjkpbpaaDoor


namespace Go.Proofs.YtcpoglchjkpbpaaDoor
set_option linter.unusedVariables false
set_option linter.unusedSimpArgs false
set_option maxRecDepth 100000
open Go.ChangeShapes Go.WideShapes Go.ChangeAt Go.RowKit
set_option linter.unusedVariables false

set_option maxHeartbeats 4000000 in
theorem closed_no (w : World) (n : Int) (es : List Gr.Er) (A : Option Addr) (c : Nat) (h0 : Gr.wrong n es ≠ 0) (hA : SlV w 2 (.slice A es.length c) es.length (ercs es)) (hle : es.length ≤ 1099511627776) (hT : Tab w) :
    Calls Tryd.prog 5 #[.agg #[.int .i64 n, .slice A es.length c]] w fun e w' => e = .returned (.bool true) ∧ Below w.heap.size w w' := by
  have hba : Below w.heap.size w (w.alloc (.cells #[.int .i64 n, .slice A es.length c] 24)) := below_alloc (Below.refl _ _) _
  have x0 := Blk.new w 24 [.int .i64 n, .slice A es.length c]
  have HT := Lib.hid hT
  clear hT
  go_enter Tryd.func5, Tryd.ntmps5
  go_upto_region 1 with (fail)
  generalize (w.alloc (.cells #[.int .i64 n, .slice A es.length c] 24)) = W0 at x0 hba ⊢
  go_wp2_with fail
  refine (alive2_any W0 (HT.out.later HT.out.lt hba)).mono ?_
  rintro e w1 ⟨rfl, hb1⟩
  have x1 := x0.below hb1
  have c0 : w1.cell? ⟨w.heap.size, 0, none⟩ = some (.int .i64 n) := (x1.cell 0).trans rfl
  have c1 : w1.cell? ⟨w.heap.size, 1, none⟩ = some (.slice A es.length c) := (x1.cell 1).trans rfl
  have hb01 := below_next hb1 hba
  clear x0 hba hb1
  go_wp2_with fail
  refine (closure_any n es w1 A c (hA.below hb01) hle (HT.out.later HT.out.lt hb01)).mono ?_
  rintro e w2 ⟨g, rfl, hg, -, hb2⟩
  obtain rfl := hg h0
  have hwr := fun w' (hb : Below w.heap.size w w') => wrong_any n es w' A c (hA.below hb) hle (HT.out.later HT.out.lt hb)
  obtain ⟨R, hR⟩ : ∃ R, R = Gr.wrong n es := ⟨_, rfl⟩
  rw [← hR] at h0 hwr ⊢
  have g0 : (R != 0) = true := by simpa using h0
  have x2 := (x1.below hb2).alloc (.cells #[.int .i64 0, .slice none 0 0] 24)
  have hb02 := below_alloc (below_next hb2 hb01) (.cells #[.int .i64 0, .slice none 0 0] 24)
  clear hR h0 x1 c0 c1 hb2 hb01 hA
  have HG := Lib.hid hg
  clear hg
  go_upto_region 4 with (fail)
  generalize w2.alloc (.cells #[.int .i64 0, .slice none 0 0] 24) = w3 at x2 hb02 ⊢
  have c0 : w3.cell? ⟨w.heap.size, 0, none⟩ = some (.int .i64 n) := (x2.cell 0).trans rfl
  have c1 : w3.cell? ⟨w.heap.size, 1, none⟩ = some (.slice A es.length c) := (x2.cell 1).trans rfl
  go_wp2_with fail
  refine (hwr w3 hb02).mono ?_
  rintro e w4 ⟨rfl, hb4⟩
  have hfin := below_next hb4 hb02
  clear c0 c1 x2 hb02 hb4 hwr
  go_wp2_with fail
  go_ret
  exact ⟨ret_bool (by simp), hfin⟩

theorem graphClosed_walk (w : World) (n : Int) (es : List Gr.Er) (A : Option Addr) (c : Nat) (hA : SlV w 2 (.slice A es.length c) es.length (ercs es)) (hle : es.length ≤ 1099511627776) (hT : Tab w) :
    Calls Tryd.prog 5 #[.agg #[.int .i64 n, .slice A es.length c]] w fun e w' => e = .returned (.bool true) ∧ Below w.heap.size w w' := by
  by_cases h0 : Gr.wrong n es = 0
  · obtain ⟨hok, N, rfl, hN, hes, hln, hl⟩ := Gr.wrong_zero h0
    have h4 := hA
    rw [ercs_nat hok, ← hln] at h4
    have := closed_yes w N (Gr.nat es) A c hN hes hl h4 (by omega) hT
    rw [hln] at this
    exact this
  · exact closed_no w n es A c h0 hA hle hT

theorem tab_of_graphClosed {W : World} (h : laidMetH Tryd.prog Rows.graphClosedUptoRow.laid W) : Tab W :=
  tab_is (Lib.tabIs_of_head (rest := []) gTab gTabType Tryd.underlying124 Tryd.underlying5 cellsByte cellsTab h)
theorem graphClosed_met (os : Os) : laidMet Tryd.prog Rows.graphClosedUptoRow.laid ((laidWorld os).forCall (fun _ _ => 0) ⟨#[], #[.agg #[.int .i64 0, .slice none 0 0]], []⟩).memory :=
  laidMet_of_run' 8 (by kernel_rfl) (by kernel_rfl)
theorem graphClosed_reads (os : Os) {H : Type} (enc : TypeId × Value → H) : ∃ places, DataW.whole enc Tryd.prog ((laidWorld os).forCall (fun _ _ => 0) ⟨#[], #[.agg #[.int .i64 0, .slice none 0 0]], []⟩).memory Tryd.f5.params.toList Rows.graphClosedSpec.vars false #[.agg #[.int .i64 0, .slice none 0 0]].toList 8 = some ([.agg [.lit (.int .i64 0), .nil]], [], places) :=
  ⟨[], by kernel_rfl⟩
set_option maxRecDepth 100000 in
theorem graphClosed_lifted (os : Os) (started : os.Started) (H : Type) (enc : TypeId × Value → H) (F : Stop.Interp) :
    ReturnsInHanded {} Tryd.checked os 5 .any ((Rows.OpenSpec.upto Rows.graphClosedSpec).preRow enc Tryd.prog Tryd.f5 Rows.graphClosedUptoRow.domain false Rows.graphClosedUptoRow.laid) (((Rows.OpenSpec.upto Rows.graphClosedSpec).at F).post enc Tryd.prog Tryd.f5 false true false false) := by
  obtain ⟨places, hx⟩ := graphClosed_reads os enc
  refine returnsInHanded_of_row (C := Tryd.checked) (s := (Rows.OpenSpec.upto Rows.graphClosedSpec)) own started (by kernel_rfl) Tryd.func5
    (witness_row_at (enc := enc) (C := Tryd.checked) false (laidWorld os) #[.agg #[.int .i64 0, .slice none 0 0]] rfl (by kernel_rfl) (by kernel_rfl) (by kernel_rfl)
      (OpenSpec.preRow_of_cond 8 hx (by kernel_rfl) (fun k hk => by cases hk; kernel_rfl) (by kernel_rfl) (graphClosed_met os))) ?_
  intro W base args ds gs before hval0 hW _ hcond _ hL _ _
  have hk := hcond _ rfl
  have hT := tab_of_graphClosed hL
  have hval : ∀ (j : Nat) t v, Tryd.f5.params[j]? = some t → args[j]? = some v → Value.okWide Tryd.prog W .any base t v := hval0
  have hW' := hW
  have hlt := hW.lt
  obtain ⟨p, q, hA0, hV, rfl, hfz, hnd⟩ := hW
  have hA : DataW.TrodAll enc Tryd.prog W 0 (fun _ => true) true Tryd.f5.params.toList args.toList ds p := hA0
  rw [Tryd.params5] at hA hval
  obtain ⟨v0, vs0, d0, ds0, p0, q0, hargs, rfl, rfl, h0, r0⟩ := trodAll_cons hA
  obtain ⟨rfl, rfl, rfl⟩ := trodAll_nil r0
  obtain rfl : args = #[v0] := by cases args; simp_all
  obtain ⟨rfl, rfl⟩ := trodVars_none hV
  obtain ⟨n0, es0, A0, c0, rfl, hg0, hs0⟩ := open_arg_graph (hval 0 _ v0 rfl rfl) h0 (fun x hx => by simpa using hlt x (by simp [hx]))
  have hk' : Rows.uptoBulkAll (d0 :: _) ≤ 1048576 := of_decide_eq_true hk
  rw [Rows.uptoBulkAll] at hk'
  refine (graphClosed_walk W n0 es0 A0 c0 hg0 (by omega) hT).mono fun e W' ⟨he, hb⟩ => ?_
  subst he
  exact ⟨_, rfl, post_true laidOut (by kernel_rfl) Tryd.underlying4 (by decide +kernel) rfl rfl hW' hb⟩

theorem graphClosed_upto : Rows.GraphClosedUptoSaid :=
  OpenClaim.holds_of_cond 5 Tryd.f5 rfl rfl rfl rfl rfl rfl rfl ⟨rfl, rfl, rfl, rfl, rfl⟩ rfl rfl rfl rfl rfl (by kernel_rfl) Tryd.func5 (by kernel_rfl)
    (of_decide_eq_true (by kernel_rfl)) (by unfold Func.isWrapper; first | (rw [if_pos (by decide +kernel)]; kernel_rfl) | (rw [if_neg (by decide +kernel)]; exact ⟨rfl, rfl⟩))
    (fun os started H enc _ F => by rw [OpenClaim.pre_eq_preRow]; exact graphClosed_lifted os started H enc F)
theorem graphClosed_plain (f : FuncId) (fn : Func) (hf : Tryd.pinned.checked.prog.funcNamed "forkwright/forkwrightkeep.GraphClosed" = some f) (hfn : Tryd.pinned.checked.prog.funcs[f]? = some fn) :
    false = Tryd.pinned.checked.prog.looks [] ∧ ∀ (j : Nat) t, fn.params[j]? = some t → Tryd.pinned.checked.prog.wantsStandIn t = false := by
  obtain rfl : f = 5 := Option.some.inj ((show Tryd.prog.funcNamed "forkwright/forkwrightkeep.GraphClosed" = some 5 by kernel_rfl).symm.trans hf) |>.symm
  obtain rfl : fn = Tryd.f5 := (Option.some.inj (Tryd.func5.symm.trans hfn)).symm
  refine ⟨by kernel_rfl, fun j t ht => ?_⟩
  rw [Tryd.params5] at ht
  have hm := Array.mem_of_getElem? ht
  obtain rfl : t = 24 := by simpa using hm
  exact (show Tryd.prog.wantsStandIn 24 = false by kernel_rfl)
theorem graphClosed_card : Rows.GraphClosedUptoCardSaid :=
  Claim7.holds_tied_plain_at .later [] _ _ _ _ graphClosed_upto (fun _ h => by cases h) (by kernel_rfl) (fun _ h => by cases h) graphClosedUpto_row_tie rfl ⟨rfl, rfl⟩ (by kernel_rfl) rfl graphClosed_plain (by kernel_rfl)
end Go.Proofs.YtcpoglchjkpbpaaDoor
