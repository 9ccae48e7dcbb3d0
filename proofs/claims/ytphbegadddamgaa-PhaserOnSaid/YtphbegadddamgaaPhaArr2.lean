/-
  Nobody goes on alone: the law, walked to its end.
-/
import Derived.Test.YtphbegadddamgaaPhaArr
import Derived.Test.YtphbegadddamgaaPhaOn
namespace Go.Proofs.Ytphbegadddamgaa
set_option linter.unusedVariables false
set_option linter.unusedSimpArgs false
open Go.RowKit

theorem info_int_pha : (Try.prog.info? 3).map (fun i => (i.zero, i.size, i.bytes)) = some (some (.int .i64 0), 1, 8) := by kernel_rfl

set_option maxHeartbeats 8000000 in
set_option maxRecDepth 100000 in
theorem phaserArrive_walk (k : Int) (v : Value) (ops : List Pha.Op) (w : World) (h : SlV w 3 v ops.length (opcs ops)) (hr : ops.length ≤ 5864062014700) :
    Calls Try.prog 13 #[.int .i64 k, v] w fun e w' => e = .returned (.bool true) ∧ Below w.heap.size w w' := by
  obtain ⟨A, c, rfl, hle, hm, hlen, hc⟩ := h
  unfold maxLen at hm
  by_cases h1 : k < 0
  · go_enter Try.func13, Try.ntmps13
    go_wp2_with fail
    refine (alive23_any w).mono ?_
    rintro e w1 ⟨rfl, hb1⟩
    go_wp2
    go_ret
    exact ⟨rfl, hb1⟩
  by_cases h2 : 16 ≤ k
  · go_enter Try.func13, Try.ntmps13
    go_wp2_with fail
    refine (alive23_any w).mono ?_
    rintro e w1 ⟨rfl, hb1⟩
    go_wp2
    go_ret
    exact ⟨rfl, hb1⟩
  obtain ⟨k, rfl⟩ := Int.eq_ofNat_of_zero_le (show 0 ≤ k by omega)
  have hk16 : k < 16 := by omega
  clear h1 h2 hlen
  go_enter Try.func13, Try.ntmps13
  go_wp2_with fail
  refine (alive23_any w).mono ?_
  rintro e w1 ⟨rfl, hb1⟩
  go_wp2_with fail
  go_loopw [5, 22] (fun v i wr => ∃ j : Nat, j ≤ k ∧ i = .int .i64 j ∧ wr.ownsRow w.heap.size 33 3 v j (opcs (Pha.joins j)) ∧ Below w.heap.size w wr) (fun _ i _ => k - (intOf i).toNat)
  case atStart => exact ⟨0, Nat.zero_le _, rfl, World.ownsRow_nil _ _ _ _, hb1⟩
  case round =>
    clear hb1
    obtain ⟨j, hj, rfl, hown, hb⟩ := hrel
    obtain ⟨A1, c1, rfl, hle1, hm1⟩ := own_slice hown
    unfold maxLen at hm1
    by_cases hlt : j < k
    · go_wp2_with (at_builtin; (refine wp_push wr _ _ _ _ _ _ _ _ Try.underlying31 info_op rfl (by decide) hown (opc ⟨1, j + 1, 0⟩) rfl (ints_one' (l := [1, j + 1, 0])) (by unfold maxLen; omega) (by omega) hb.size rfl rfl rfl rfl ?_); intro v' w4 hown4 _ _ hb4)
      go_roundw
      case rel => exact ⟨j + 1, by omega, by go_num, by rw [Pha.joins_succ]; simpa [opcs] using hown4, hb.trans hb4⟩
      case measure => simp [intOf]; omega
    · have hjk : j = k := by omega
      subst hjk
      clear hm1 hle1
      go_wp2_with fail
      go_loopw [5, 34] (fun v i wr => ∃ i' : Nat, i' ≤ ops.length ∧ i = .int .i64 i' ∧ wr.ownsRow w.heap.size 33 3 v (j + (Pha.stay (ops.take i')).length) (opcs (Pha.joins j ++ Pha.stay (ops.take i'))) ∧ Below w.heap.size w wr) (fun _ i _ => ops.length - (intOf i).toNat)
      case atStart => exact ⟨0, Nat.zero_le _, rfl, by simpa [Pha.stay] using hown, hb⟩
      case round =>
        clear hb hown hj
        obtain ⟨i, hi, rfl, hown, hb⟩ := hrel
        have hbs := hb.size
        have hsl := Pha.stay_le ops i hi
        obtain ⟨st, hst⟩ : ∃ st, st = Pha.stay (ops.take i) := ⟨_, rfl⟩
        rw [← hst] at hown hsl
        obtain ⟨A1, c1, rfl, hle1, hm1⟩ := own_slice hown
        unfold maxLen at hm1
        by_cases hlt2 : i < ops.length
        · have ho : ops[i]? = some ops[i] := List.getElem?_eq_getElem hlt2
          obtain ⟨b, off, hA, hbw, c0, c1', c2⟩ := op_cells (hc.keep (w' := wr) (Nat.le_refl _) (fun p hp => hb.cell hp)) ho
          subst hA
          have es := Pha.stay_succ ops i hlt2
          obtain ⟨o, hoo⟩ : ∃ o, o = ops[i] := ⟨_, rfl⟩
          rw [← hoo] at c0 c1' c2 es
          rw [← hst] at es
          have hqb : b < wr.heap.size := by omega
          have n63 : j + st.length + 1 ≤ maxLen := by unfold maxLen; omega
          have n47 : (j + st.length + 1) * 24 ≤ 140737488355328 := by omega
          obtain ⟨kd, wh, by_⟩ := o
          simp only at c0 c1' c2 es
          by_cases h3 : kd = 3
          · subst h3
            simp only [bne_self_eq_false, Bool.false_eq_true, if_false, List.append_nil] at es
            have ES := Lib.hid es
            clear es hc ho hoo hst
            go_wp2
            go_roundw
            case rel => exact ⟨i + 1, by omega, by go_num, by rw [ES.out]; exact hown.alloc _, below_alloc hb _⟩
            case measure => simp [intOf]; omega
          · have h3' : (kd != 3) = true := by simpa using h3
            rw [if_pos h3'] at es
            have ES := Lib.hid es
            have hown2 := hown.alloc (.cells #[.int .i64 kd, .int .i64 wh, .int .i64 by_] 33)
            have hb2 := below_alloc hb (.cells #[.int .i64 kd, .int .i64 wh, .int .i64 by_] 33)
            have nb2 := hb2.size
            clear es hc ho hoo hst hown
            go_wp2_with (at_builtin; (refine wp_push_at _ _ _ (wr.heap.size + 1) (by simp) _ _ _ _ _ _ Try.underlying31 info_op rfl (by decide) hown2 (opc ⟨kd, wh, by_⟩) rfl (opcs_one [⟨kd, wh, by_⟩]) n63 n47 nb2 rfl rfl rfl rfl ?_); intro v' w4 hown4 _ _ hb4)
            go_roundw
            case rel => exact ⟨i + 1, by omega, by go_num, by rw [ES.out]; simpa [opcs, Nat.add_assoc] using hown4, hb2.trans hb4⟩
            case measure => simp [intOf]; omega
        · have hi' : i = ops.length := by omega
          rw [hi', List.take_length] at hst
          obtain ⟨all, hall⟩ : ∃ all, all = Pha.joins j ++ st := ⟨_, rfl⟩
          have hal : all.length = j + st.length := by rw [hall]; simp [Pha.joins]
          rw [← hall, ← hal] at hown
          have hsa := SlV.of_own hown
          have hlaw : ∀ i (hi : i < all.length), ∃ f : Int, (Pha.ans (Pha.after Pha.start (all.take i)) all[i]).2 ≤ f ∧ ∀ x ∈ Pha.many j Pha.start (Pha.zeros j) (all.take (i + 1)), f ≤ x ∧ x ≤ f + 1 := by
            subst hall hst
            exact fun i hi => Pha.arrive_law j hk16 (Pha.stay ops) (Pha.stay_kind ops) i hi
          have HLAW := Lib.hid hlaw
          have hall2 : all.length ≤ 5864062014805 := by omega
          rw [← hal] at hle1
          rw [← hal]
          have hpl := Pha.answers_length Pha.start all
          clear hlaw hall hal hown hi' hc hsl hst
          go_wp2_with fail
          refine (play_any _ all _ hsa hall2).mono ?_
          rintro e w2 ⟨u2, rfl, hs2, hb2⟩
          have hbw2 := below_next hb2 hb
          have hsa2 := hsa.below hb2
          obtain ⟨A2, c2, rfl, hle2, hm2, -, hc2⟩ := hs2
          unfold maxLen at hm2
          obtain ⟨A1', c1', e1, -, -, -, hca⟩ := hsa2
          cases e1
          have n47 : 8 * (j + 1) ≤ 281474976710656 := by omega
          have n63 : j + 1 ≤ 9223372036854775807 := by omega
          clear hb hb2 hsa hbs hpl
          go_wp2_with (at_make; refine wp_make _ 45 3 (.int .i64 0) 8 (j + 1) Try.underlying45 info_int_pha rfl (by omega) (by omega) n47 n63 rfl rfl rfl rfl ?_; intro w3 hown3 hb3 hs3)
          have hbw3 := below_next hb3 hbw2
          have hz : List.replicate (j + 1) (Value.int .i64 0) = ints .i64 (Pha.zeros j) := by simp [ints, Pha.zeros]
          rw [hz] at hown3
          clear hz
          have hcells := hca.keep (w' := w3) (Nat.le_refl _) (fun p hp => hb3.cell hp)
          have hcells2 := hc2.keep (w' := w3) (Nat.le_refl _) (fun p hp => hb3.cell hp)
          obtain ⟨g, hg⟩ : ∃ g, g = w2.heap.size := ⟨_, rfl⟩
          rw [← hg] at hown3 hcells hcells2 hs3 ⊢
          have hb3' : Below g w2 w3 := by rw [hg]; exact hb3
          have hbg : w.heap.size ≤ g := by rw [hg]; exact hbw2.size
          clear hg hca hc2 hb3
          go_loopw [58] (fun i wr => ∃ i' : Nat, i' ≤ all.length ∧ i = .int .i64 i' ∧ wr.ownsRow g 3 1 (.slice (some ⟨g, 0, none⟩) (j + 1) (j + 1)) (j + 1) (ints .i64 (Pha.many j Pha.start (Pha.zeros j) (all.take i'))) ∧ Below g w3 wr) (fun i _ => all.length - (intOf i).toNat)
          case atStart => exact ⟨0, Nat.zero_le _, rfl, hown3, Below.refl _ _⟩
          case round =>
            clear hown3
            obtain ⟨i, hi, rfl, hown, hbr⟩ := hrel
            have hbrs := hbr.size
            by_cases hlt3 : i < all.length
            · have ho : all[i]? = some all[i] := List.getElem?_eq_getElem hlt3
              obtain ⟨b, off, hA, hbw, c0, c1, c2⟩ := op_cells (hcells.keep (w' := wr) (Nat.le_refl _) (fun p hp => hbr.cell hp)) ho
              subst hA
              obtain ⟨b2, o2, hA2, hb2', d0, d1⟩ := ans_cells (hcells2.keep (w' := wr) (Nat.le_refl _) (fun p hp => hbr.cell hp)) (play_get all i hlt3)
              subst hA2
              obtain ⟨f, hf1, hf2⟩ := HLAW.out i hlt3
              have hml := Pha.many_length j Pha.start (Pha.zeros j) (all.take (i + 1))
              have hml0 := Pha.many_length j Pha.start (Pha.zeros j) (all.take i)
              rw [show (Pha.zeros j).length = j + 1 by simp [Pha.zeros]] at hml hml0
              have hmm := Pha.mx_mn f _ (by omega) hf2
              have hbd := Pha.many_bound j Pha.start (all.take i) (Pha.zeros j) 0 (fun x hx => by rw [(List.mem_replicate.1 hx).2]; omega) (by omega)
              rw [List.length_take, Nat.min_eq_left hi] at hbd
              have et := Pha.many_take j Pha.start (Pha.zeros j) all i hlt3
              obtain ⟨o, hoo⟩ : ∃ o, o = all[i] := ⟨_, rfl⟩
              rw [← hoo] at c0 c1 c2 d0 d1 hf1 et
              obtain ⟨⟨a1, a2⟩, ha⟩ : ∃ a, a = Pha.ans (Pha.after Pha.start (all.take i)) o := ⟨_, rfl⟩
              rw [← ha] at d0 d1 hf1 et
              obtain ⟨M, hM⟩ : ∃ M, M = Pha.many j Pha.start (Pha.zeros j) (all.take (i + 1)) := ⟨_, rfl⟩
              obtain ⟨m, hm0⟩ : ∃ m, m = Pha.many j Pha.start (Pha.zeros j) (all.take i) := ⟨_, rfl⟩
              rw [← hM] at hml hmm et
              rw [← hm0] at hown et hml0 hbd
              have HM := Lib.hid hM
              obtain ⟨kd, wh, by_⟩ := o
              simp only at c0 c1 c2 d0 d1 hf1
              obtain ⟨x1, hx1⟩ : ∃ x, x = Pha.mx M := ⟨_, rfl⟩
              obtain ⟨x2, hx2⟩ : ∃ x, x = Pha.mn M := ⟨_, rfl⟩
              rw [← hx1, ← hx2] at hmm
              have hmax : ∀ w' : World, w'.ownsRow g 3 1 (.slice (some ⟨g, 0, none⟩) (j + 1) (j + 1)) (j + 1) (ints .i64 M) → Calls Try.prog 34 #[.slice (some ⟨g, 0, none⟩) (j + 1) (j + 1)] w' fun e w'' => e = .returned (.int .i64 x1) ∧ w'' = w' := fun w' hw => by
                rw [hx1]
                exact max_ints _ M w' (by rw [hml]; exact SlV.of_own hw) (by omega)
              have hmin : ∀ w' : World, w'.ownsRow g 3 1 (.slice (some ⟨g, 0, none⟩) (j + 1) (j + 1)) (j + 1) (ints .i64 M) → Calls Try.prog 35 #[.slice (some ⟨g, 0, none⟩) (j + 1) (j + 1)] w' fun e w'' => e = .returned (.int .i64 x2) ∧ w'' = w' := fun w' hw => by
                rw [hx2]
                exact min_ints _ M w' (by rw [hml]; exact SlV.of_own hw) (by omega)
              have g1 := hf2 _ (hM ▸ Pha.getD0_mem M (by omega))
              have g2 := Pha.many_bound j Pha.start (all.take (i + 1)) (Pha.zeros j) 0 (fun x hx => by rw [(List.mem_replicate.1 hx).2]; omega) (by omega) _ (hM ▸ Pha.getD0_mem M (by omega))
              rw [List.length_take, Nat.min_eq_left hlt3] at g2
              clear hx1 hx2 ho hoo ha hM hm0 hf2
              have q1 : decide (1 < x1 - x2) = false := by simp; omega
              have q2 : decide (x2 < a2) = false := by simp; omega
              have q3 : IntKind.i64.wrap (x1 - x2) = x1 - x2 := IntWalk.i64_in _ (by omega)
              have hb2w : b2 < wr.heap.size := by omega
              have hbw' : b < wr.heap.size := by omega
              have hownA := hown.alloc (.cells #[.int .i64 kd, .int .i64 wh, .int .i64 by_] 33)
              have hbA := hbr.alloc (by omega) (.cells #[.int .i64 kd, .int .i64 wh, .int .i64 by_] 33)
              have e1 := (World.cell?_alloc_lt wr (.cells #[.int .i64 kd, .int .i64 wh, .int .i64 by_] 33) ⟨b2, o2 + i * 2 + 1, none⟩ hb2w).trans d1
              by_cases hup : kd = 2 ∧ a1 = 0 ∧ 0 ≤ wh ∧ wh ≤ j
              · obtain ⟨rfl, rfl, hw0, hwj⟩ := hup
                obtain ⟨q, rfl⟩ := Int.eq_ofNat_of_zero_le hw0
                have hq : q < j + 1 := by omega
                simp only [Pha.upd] at et
                rw [if_pos ⟨trivial, trivial, by omega, by omega⟩] at et
                simp only [Int.toNat_natCast] at et
                obtain ⟨z, hz⟩ : ∃ z, z = m.getD q 0 := ⟨_, rfl⟩
                have hzm : m[q]? = some z := by rw [hz, List.getD, List.getElem?_eq_getElem (by omega)]; rfl
                have hzb := hbd z (List.mem_of_getElem? hzm)
                rw [← hz] at et
                have cz : (wr.alloc (.cells #[.int .i64 2, .int .i64 q, .int .i64 by_] 33)).cell? ⟨g, q, none⟩ = some (.int .i64 z) := by
                  rw [hownA.cellAt q (by omega), ints, List.getElem?_map, hzm]; rfl
                have ET := Lib.hid et
                have hbg' := hbA.size
                clear et hz hzm hbd
                go_wp2_with (refine wpl_set_own hownA q (.int .i64 (z + 1)) (by kernel_rfl) hq rfl rfl rfl rfl rfl rfl ?_; intro w5 hown5 hg5)
                rw [← ints_set, ← ET.out] at hown5
                have hownF := hown5
                have hbF : Below g w3 w5 := hbA.trans (below_of_grown hg5 (by omega) (Nat.le_refl _))
                have e1' : w5.cell? ⟨b2, o2 + i * 2 + 1, none⟩ = some (.int .i64 a2) := by
                  rw [World.cell?_of_block (hg5.block b2 (by simp; omega) (fun e => by injection e with e; omega))]
                  exact e1
                clear e1 d0 d1 c0 c1 c2 hown hown5 hg5 hbA hownA cz hcells hcells2 ET
                go_wp2_with fail
                go_quiet ((first | (go_at_call 34; exact Calls.quiet_of_same (hmax _ ⟨hownF.1, hownF.2⟩)) | (go_at_call 35; exact Calls.quiet_of_same (hmin _ ⟨hownF.1, hownF.2⟩))))
                clear hmax hmin
                go_wp2
                go_roundw
                case rel => exact ⟨i + 1, by omega, by go_num, by rw [← HM.out]; exact ⟨hownF.1, hownF.2⟩, below_drewN hbF _⟩
                case measure => simp [intOf]; omega
              · have hM2 : M = m := by rw [et]; unfold Pha.upd; rw [if_neg hup]
                rw [← hM2] at hownA
                have hownF := hownA
                have hbF := hbA
                clear et hM2 hbd hownA hbA hown hcells hcells2
                by_cases k2 : kd = 2
                · subst k2
                  by_cases z1 : a1 = 0
                  · subst z1
                    by_cases z2 : wh < 0
                    · clear hup
                      go_wp2_with fail
                      go_quiet ((first | (go_at_call 34; exact Calls.quiet_of_same (hmax _ ⟨hownF.1, hownF.2⟩)) | (go_at_call 35; exact Calls.quiet_of_same (hmin _ ⟨hownF.1, hownF.2⟩))))
                      clear hmax hmin
                      go_wp2
                      go_roundw
                      case rel => exact ⟨i + 1, by omega, by go_num, by rw [← HM.out]; exact ⟨hownF.1, hownF.2⟩, below_drewN hbF _⟩
                      case measure => simp [intOf]; omega
                    · have z3 : ¬ wh ≤ j := fun h => hup ⟨rfl, rfl, by omega, h⟩
                      clear hup
                      go_wp2_with fail
                      go_quiet ((first | (go_at_call 34; exact Calls.quiet_of_same (hmax _ ⟨hownF.1, hownF.2⟩)) | (go_at_call 35; exact Calls.quiet_of_same (hmin _ ⟨hownF.1, hownF.2⟩))))
                      clear hmax hmin
                      go_wp2
                      go_roundw
                      case rel => exact ⟨i + 1, by omega, by go_num, by rw [← HM.out]; exact ⟨hownF.1, hownF.2⟩, below_drewN hbF _⟩
                      case measure => simp [intOf]; omega
                  · clear hup
                    go_wp2_with fail
                    go_quiet ((first | (go_at_call 34; exact Calls.quiet_of_same (hmax _ ⟨hownF.1, hownF.2⟩)) | (go_at_call 35; exact Calls.quiet_of_same (hmin _ ⟨hownF.1, hownF.2⟩))))
                    clear hmax hmin
                    go_wp2
                    go_roundw
                    case rel => exact ⟨i + 1, by omega, by go_num, by rw [← HM.out]; exact ⟨hownF.1, hownF.2⟩, below_drewN hbF _⟩
                    case measure => simp [intOf]; omega
                · clear hup
                  go_wp2_with fail
                  go_quiet ((first | (go_at_call 34; exact Calls.quiet_of_same (hmax _ ⟨hownF.1, hownF.2⟩)) | (go_at_call 35; exact Calls.quiet_of_same (hmin _ ⟨hownF.1, hownF.2⟩))))
                  clear hmax hmin
                  go_wp2
                  go_roundw
                  case rel => exact ⟨i + 1, by omega, by go_num, by rw [← HM.out]; exact ⟨hownF.1, hownF.2⟩, below_drewN hbF _⟩
                  case measure => simp [intOf]; omega
            · have hbf := hbw3.trans (hbr.mono hbg)
              go_wp2
              go_ret
              exact ⟨rfl, hbf⟩
end Go.Proofs.Ytphbegadddamgaa
